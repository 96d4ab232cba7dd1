/- Contracts and what they lean on, part 9. Conditions: none. -/
import Derived.Test.YtljcmenocjkhjaaZ8
set_option maxRecDepth 100000
set_option maxHeartbeats 4000000
set_option linter.all false
open Nat (reduceLeDiff reduceMul reduceSub reduceEqDiff reduceAdd)
open Int (reduceToNat reduceNeg reduceLE)
namespace Go.Ab
open Go.Proofs
theorem law_WordOfCertificate (n : Int) (next : List (List Int)) (kind : Int) (pairs words : List (List Int)) (ok : Bool) (ws zs : List Int) (cc : Int) (KS : RowC2 Try.prog nzz [.st [iv n, .ro none 1 (rwn next)], .st [iv kind, .ro none 1 (rwn pairs), .ro none 1 (rwn words)]] ws cc) (KI : RowT Try.prog nzc [.st [iv n, .ro none 1 (rwn next)], .st [iv kind, .ro none 1 (rwn pairs), .ro none 1 (rwn words)]] ok zs cc)
    (h1 : ok = true → ws = zs) (h2 : ok = false → ws = []) (hz : ok = true → (zs.length : Int) ≤ 1000000000) :
    Fun Try.prog nz2x [.st [iv n, .ro (some (some 0)) 1 (rwo next)], .st [iv kind, .ro (some (some 0)) 1 (rwo pairs), .ro (some (some 0)) 1 (rwo words)]] (bv true) := by
  refine fun_of mixed czh9 rfl ⟨rfl, trivial⟩ ?_
  simp only [Az8b, Bz8a, Bz89, yzj, yz1, go_sem, yz0, Int.reduceLT, reduceLE, reduceToNat, reduceNeg, Nat.reduceLT, reduceLeDiff, reduceMul, reduceSub, reduceIte, reduceEqDiff, reduceAdd, reduceCtorEq]
  rintro vs1 U1 - vs2 U2 - vs3 U3 -
  refine yz2 (k_szAutomaton n next 1048576 (by omega)) qCO trivial ?_
  by_cases hsz0 : (szLL next 1048576) < 0
  · simp only [Bz4t, Bz3x, decide_eq_true hsz0, yzj, yz1, go_sem, yz0, Int.reduceLT, reduceLE, reduceToNat, reduceNeg, Nat.reduceLT, reduceLeDiff, reduceMul, reduceSub, reduceIte, reduceEqDiff, reduceAdd, reduceCtorEq]
    try simp
  obtain ⟨hsa_next, hsb_next, hsc_next⟩ := szLL_ge (xss := next) (l := 1048576) (by omega)
  have htot_next := szLL_tot (ps := next.map fun x => (0, x)) (l := 1048576) (by rw [List.map_map]; simp only [Function.comp_def, List.map_id']; omega) (by omega)
  have hb_next : next.length * 24 ≤ 140737488355328 := by omega
  have hc_next : ∀ xs ∈ next, xs.length * 8 ≤ 140737488355328 := fun xs hx => by have := hsb_next xs hx; omega
  have hd_next : ∀ xs ∈ next, (xs.length : Int) ≤ 1000000000 := fun xs hx => by have := hsb_next xs hx; omega
  simp only [Bz4t, Bz3x, Bz88, decide_eq_false hsz0, yzj, yz1, go_sem, yz0, Int.reduceLT, reduceLE, reduceToNat, reduceNeg, Nat.reduceLT, reduceLeDiff, reduceMul, reduceSub, reduceIte, reduceEqDiff, reduceAdd, reduceCtorEq]
  rintro vs4 U4 - vs5 U5 -
  refine yz2 (k_szCertificate kind pairs words (szLL next 1048576) (by omega)) qCO trivial ?_
  by_cases hsz1 : (szC2 pairs words (szLL next 1048576)) < 0
  · simp only [Bz4s, Bz3y, decide_eq_true hsz1, yzj, yz1, go_sem, yz0, Int.reduceLT, reduceLE, reduceToNat, reduceNeg, Nat.reduceLT, reduceLeDiff, reduceMul, reduceSub, reduceIte, reduceEqDiff, reduceAdd, reduceCtorEq]
    try simp
  obtain ⟨hqa1, hqb1, hqc1⟩ := szC2_ge hsz1
  obtain ⟨hsa_pairs, hsb_pairs, hsc_pairs⟩ := szLL_ge (xss := pairs) (l := (szLL next 1048576)) (by omega)
  have htot_pairs := szLL_tot (ps := pairs.map fun x => (0, x)) (l := (szLL next 1048576)) (by rw [List.map_map]; simp only [Function.comp_def, List.map_id']; omega) (by omega)
  have hb_pairs : pairs.length * 24 ≤ 140737488355328 := by omega
  have hc_pairs : ∀ xs ∈ pairs, xs.length * 8 ≤ 140737488355328 := fun xs hx => by have := hsb_pairs xs hx; omega
  have hd_pairs : ∀ xs ∈ pairs, (xs.length : Int) ≤ 1000000000 := fun xs hx => by have := hsb_pairs xs hx; omega
  obtain ⟨hsa_words, hsb_words, hsc_words⟩ := szLL_ge (xss := words) (l := (szLL pairs (szLL next 1048576))) (by omega)
  have htot_words := szLL_tot (ps := words.map fun x => (0, x)) (l := (szLL pairs (szLL next 1048576))) (by rw [List.map_map]; simp only [Function.comp_def, List.map_id']; omega) (by omega)
  have hb_words : words.length * 24 ≤ 140737488355328 := by omega
  have hc_words : ∀ xs ∈ words, xs.length * 8 ≤ 140737488355328 := fun xs hx => by have := hsb_words xs hx; omega
  have hd_words : ∀ xs ∈ words, (xs.length : Int) ≤ 1000000000 := fun xs hx => by have := hsb_words xs hx; omega
  simp only [Bz4s, Bz3y, Bz87, decide_eq_false hsz1, yzj, yz1, go_sem, yz0, Int.reduceLT, reduceLE, reduceToNat, reduceNeg, Nat.reduceLT, reduceLeDiff, reduceMul, reduceSub, reduceIte, reduceEqDiff, reduceAdd, reduceCtorEq]
  rintro vs6 U6 - vs7 U7 -
  refine call_aut (k_toAutomaton n next hb_next hc_next) qCO rfl ?_
  intro v1
  try simp only [yzj, yz1, go_sem, yz0, Int.reduceLT, reduceLE, reduceToNat, reduceNeg, Nat.reduceLT, reduceLeDiff, reduceMul, reduceSub, reduceIte, reduceEqDiff, reduceAdd, reduceCtorEq]
  refine call_rows2 (k_toCertificate kind pairs words hb_pairs hc_pairs hb_words hc_words) qCO rfl rfl ?_
  intro v2 v3
  try simp only [List.map_cons, List.map_nil, List.cons_append, List.nil_append, yzj, yz1, go_sem, yz0, Int.reduceLT, reduceLE, reduceToNat, reduceNeg, Nat.reduceLT, reduceLeDiff, reduceMul, reduceSub, reduceIte, reduceEqDiff, reduceAdd, reduceCtorEq]
  refine call_rowC2 KS qCS rfl ?_
  intro v4
  simp only [Bz86, yzj, yz1, go_sem, yz0, Int.reduceLT, reduceLE, reduceToNat, reduceNeg, Nat.reduceLT, reduceLeDiff, reduceMul, reduceSub, reduceIte, reduceEqDiff, reduceAdd, reduceCtorEq]
  rintro vs8 U8 hN8
  refine call_autN (fun x y e => (hN8.inj _ _ _ _ e).2) (k_toAutomatonN n next hb_next hc_next) qCO rfl ?_
  intro v5 ps_next hps_next hdj_next
  clear hN8
  have htt_next : totL ps_next ≤ 1048576 := by have h := szLL_tot (ps := ps_next) (l := 1048576) (by rw [hps_next]; omega) (by omega); omega
  have htn_next := totL_nn ps_next
  have hdp_next : ∀ p ∈ ps_next, (p.2.length : Int) ≤ 1000000000 := fun p hp => hd_next p.2 (by rw [← hps_next]; exact List.mem_map_of_mem hp)
  simp only [Bz85, yzj, yz1, go_sem, yz0, Int.reduceLT, reduceLE, reduceToNat, reduceNeg, Nat.reduceLT, reduceLeDiff, reduceMul, reduceSub, reduceIte, reduceEqDiff, reduceAdd, reduceCtorEq]
  rintro vs9 U9 hN9
  refine call_certN (fun x y e => (hN9.inj _ _ _ _ e).2) (k_toCertificateN kind pairs words hb_pairs hc_pairs hb_words hc_words) qCO rfl rfl ?_
  intro v6 v7 ps_pairs ps_words hps_pairs hps_words hdj hnw
  have hdj3 : DJ (ps_next ++ (ps_pairs ++ ps_words)) := by
    have hU9 := hN9.hp 36
    simp only [AObj.uses, go_sem, yz0, Int.reduceLT, reduceLE, reduceToNat, reduceNeg, Nat.reduceLT, reduceLeDiff, reduceMul, reduceSub, reduceIte, reduceEqDiff, reduceAdd, reduceCtorEq] at hU9
    have hold := usesL_rwp (rest := []) (by rw [List.append_nil]; exact hU9.2)
    refine List.pairwise_append.2 ⟨hdj_next, hdj, ?_⟩
    intro p hp q hq
    obtain ⟨a, ha⟩ := hnw q hq
    rcases hold p hp with h | h
    · exact .inl h
    · exact .inr (.inr fun e => hN9.new 1 a (by rw [← ha, ← e]; exact h))
  have hcp : ∀ q ∈ ps_pairs, q.2 = [] ∨ pOf ps_next q.1 = false := fun q hq => pOf_not hdj3 q (List.mem_append_left _ hq)
  have hcw : ∀ q ∈ ps_words, q.2 = [] ∨ pOf ps_next q.1 = false := fun q hq => pOf_not hdj3 q (List.mem_append_right _ hq)
  clear hN9
  have htt_pairs : totL ps_pairs ≤ 1048576 := by have h := szLL_tot (ps := ps_pairs) (l := (szLL next 1048576)) (by rw [hps_pairs]; omega) (by omega); omega
  have htn_pairs := totL_nn ps_pairs
  have hdp_pairs : ∀ p ∈ ps_pairs, (p.2.length : Int) ≤ 1000000000 := fun p hp => hd_pairs p.2 (by rw [← hps_pairs]; exact List.mem_map_of_mem hp)
  have htt_words : totL ps_words ≤ 1048576 := by have h := szLL_tot (ps := ps_words) (l := (szLL pairs (szLL next 1048576))) (by rw [hps_words]; omega) (by omega); omega
  have htn_words := totL_nn ps_words
  have hdp_words : ∀ p ∈ ps_words, (p.2.length : Int) ≤ 1000000000 := fun p hp => hd_words p.2 (by rw [← hps_words]; exact List.mem_map_of_mem hp)
  simp only [Bz84, yzj, yz1, go_sem, yz0, Int.reduceLT, reduceLE, reduceToNat, reduceNeg, Nat.reduceLT, reduceLeDiff, reduceMul, reduceSub, reduceIte, reduceEqDiff, reduceAdd, reduceCtorEq]
  rintro vs10 U10 -
  cases ok with
  | true =>
    obtain rfl := h1 rfl
    have hz := hz rfl
    refine call_rowT KI (by simp only [← hps_next, ← hps_pairs, ← hps_words, coeL_rwp_t, rowIs, boxIs, coe_argN, coe_argNs, coe_ro_o, coeL_nil, yzi, coe_any, coe_val, coe_ro, yzm, yzl, coe_st, yzk, coe_rp, yzn, coe_clo, coe_own0, coe_ptr0, yzh, coeL_rws, coeL_rwn, L_hit, L_miss, L_nil, reduceEqDiff, ne_eq, reduceCtorEq, not_false_eq_true, true_and, and_true, and_self, exists_eq_left, exists_eq_right, List.mem_cons, List.not_mem_nil, or_false, AObj.row.injEq, AObj.box.injEq, exists_eq_left', exists_and_left, exists_eq, Nat.zero_lt_one, Nat.lt_add_one, List.map_cons, List.map_nil, AObj.ver, Nat.reduceLT, not_true_eq_false]) rfl (fun _ v8 => ?_) (fun h => by cases h)
    simp only [Bz4r, yzj, yz1, go_sem, yz0, Int.reduceLT, reduceLE, reduceToNat, reduceNeg, Nat.reduceLT, reduceLeDiff, reduceMul, reduceSub, reduceIte, reduceEqDiff, reduceAdd, reduceCtorEq]
    rintro vs11 U11 -
    refine yz2 (k_eqInt64S ws ws) qCS trivial ?_
    simp only [Bz3z, Bz4q, decide_true, Bool.and_self, bne_self_eq_false, yzj, yz1, go_sem, yz0, Int.reduceLT, reduceLE, reduceToNat, reduceNeg, Nat.reduceLT, reduceLeDiff, reduceMul, reduceSub, reduceIte, reduceEqDiff, reduceAdd, reduceCtorEq]
    rintro vs12 U12 -
    refine call_aut (k_toAutomaton n next hb_next hc_next) qCO rfl ?_
    intro v9
    try simp only [yzj, yz1, go_sem, yz0, Int.reduceLT, reduceLE, reduceToNat, reduceNeg, Nat.reduceLT, reduceLeDiff, reduceMul, reduceSub, reduceIte, reduceEqDiff, reduceAdd, reduceCtorEq]
    refine yz2 (k_eqAutomaton n n next next) (by simp only [← hps_next, coeL_rwp_t, rowIs, boxIs, coe_argN, coe_argNs, coe_ro_o, coeL_nil, yzi, coe_any, coe_val, coe_ro, yzm, yzl, coe_st, yzk, coe_rp, yzn, coe_clo, coe_own0, coe_ptr0, yzh, coeL_rws, coeL_rwn, L_hit, L_miss, L_nil, reduceEqDiff, ne_eq, reduceCtorEq, not_false_eq_true, true_and, and_true, and_self, exists_eq_left, exists_eq_right, List.mem_cons, List.not_mem_nil, or_false, AObj.row.injEq, AObj.box.injEq, exists_eq_left', exists_and_left, exists_eq, Nat.zero_lt_one, Nat.lt_add_one, List.map_cons, List.map_nil, AObj.ver, Nat.reduceLT, not_true_eq_false]) trivial ?_
    simp only [Bz40, Bz4p, decide_true, Bool.and_self, bne_self_eq_false, yzj, yz1, go_sem, yz0, Int.reduceLT, reduceLE, reduceToNat, reduceNeg, Nat.reduceLT, reduceLeDiff, reduceMul, reduceSub, reduceIte, reduceEqDiff, reduceAdd, reduceCtorEq]
    rintro vs13 U13 -
    refine call_rows2 (k_toCertificate kind pairs words hb_pairs hc_pairs hb_words hc_words) qCO rfl rfl ?_
    intro v10 v11
    try simp only [List.map_cons, List.map_nil, List.cons_append, List.nil_append, yzj, yz1, go_sem, yz0, Int.reduceLT, reduceLE, reduceToNat, reduceNeg, Nat.reduceLT, reduceLeDiff, reduceMul, reduceSub, reduceIte, reduceEqDiff, reduceAdd, reduceCtorEq]
    refine yz2 (k_eqCertificate kind kind pairs words pairs words) (by simp only [← hps_pairs, ← hps_words, coeL_rwp_t, rowIs, boxIs, coe_argN, coe_argNs, coe_ro_o, coeL_nil, yzi, coe_any, coe_val, coe_ro, yzm, yzl, coe_st, yzk, coe_rp, yzn, coe_clo, coe_own0, coe_ptr0, yzh, coeL_rws, coeL_rwn, L_hit, L_miss, L_nil, reduceEqDiff, ne_eq, reduceCtorEq, not_false_eq_true, true_and, and_true, and_self, exists_eq_left, exists_eq_right, List.mem_cons, List.not_mem_nil, or_false, AObj.row.injEq, AObj.box.injEq, exists_eq_left', exists_and_left, exists_eq, Nat.zero_lt_one, Nat.lt_add_one, List.map_cons, List.map_nil, AObj.ver, Nat.reduceLT, not_true_eq_false]) trivial ?_
    simp only [Bz41, Bz4o, Bz4n, decide_true, Bool.and_self, bne_self_eq_false, yzj, yz1, go_sem, yz0, Int.reduceLT, reduceLE, reduceToNat, reduceNeg, Nat.reduceLT, reduceLeDiff, reduceMul, reduceSub, reduceIte, reduceEqDiff, reduceAdd, reduceCtorEq]
    rintro vs14 U14 - vs15 U15 -
    refine call_havP (pOf ps_next) (k_markAutomaton n ps_next hdj_next 1 (by omega) hdp_next) ?_ ?_
    · rw [coeHL_cons, coeHL_cons, coeHL_nil, coeH_val, coeH_st, coeHL_cons, coeHL_cons, coeHL_nil, coeH_val]
      refine ⟨⟨rfl, ?_, trivial⟩, rfl, trivial⟩
      exact coeH_ownP (nn := true) pOf_in qWS
    rintro x ⟨k1, rfl, hk1a, hk1b⟩
    have hkn1 : ¬ (k1 < 0) := by omega
    simp only [Bz4m, clL_rwpP hcp, clL_rwpP hcw, cl_L, clT, clO, clV_any, clV_val, clV_own, clV_ptr, clV_st, clV_o, clL_ints, clL_rwo, clL_cons, clL_nil, clR_row, clR_box, clR_gone, yzj, yz1, go_sem, yz0, Int.reduceLT, reduceLE, reduceToNat, reduceNeg, Nat.reduceLT, reduceLeDiff, reduceMul, reduceSub, reduceIte, reduceEqDiff, reduceAdd, reduceCtorEq]
    rintro vs16 U16 -
    refine call_hav (k_markCertificate kind ps_pairs ps_words hdj k1 (by omega) hdp_pairs hdp_words) ?_ ?_
    · simp only [coeHL_cons, coeHL_nil, coeH_val, coeH_st, and_true, true_and]
      refine ⟨?_, ?_⟩ <;> exact coeH_own (nn := true) qWS
    rintro x ⟨k2, rfl, hk2a, hk2b⟩
    have hkn2 : ¬ (k2 < 0) := by omega
    simp only [Bz4l, cl_L, clT, clO, clV_any, clV_val, clV_own, clV_ptr, clV_st, clV_o, clL_ints, clL_rwo, clL_cons, clL_nil, clR_row, clR_box, clR_gone, decide_eq_false hkn2, yzj, yz1, go_sem, yz0, Int.reduceLT, reduceLE, reduceToNat, reduceNeg, Nat.reduceLT, reduceLeDiff, reduceMul, reduceSub, reduceIte, reduceEqDiff, reduceAdd, reduceCtorEq]
    rintro vs17 U17 -
    refine yz2 (k_eqInt64S ws ws) qCS trivial ?_
    simp only [Bz42, Bz4k, Bz4j, decide_true, Bool.and_self, bne_self_eq_false, yzj, yz1, go_sem, yz0, Int.reduceLT, reduceLE, reduceToNat, reduceNeg, Nat.reduceLT, reduceLeDiff, reduceMul, reduceSub, reduceIte, reduceEqDiff, reduceAdd, reduceCtorEq]
    rintro vs18 U18 - vs19 U19 -
    refine call_mark (k_markInt64S ws true 1 (by omega) (by omega)) qWS rfl ?_
    simp only [Bz4i, Bz4h, yzj, yz1, go_sem, yz0, Int.reduceLT, reduceLE, reduceToNat, reduceNeg, Nat.reduceLT, reduceLeDiff, reduceMul, reduceSub, reduceIte, reduceEqDiff, reduceAdd, reduceCtorEq]
    rintro vs20 U20 - vs21 U21 -
    refine yz2 (k_held (seqI 1 ws.length) 1 (by omega) (by rw [seqI_len]; omega) (by rw [seqI_len])) qCS trivial ?_
    have hneg : ¬ ((1 : Int) + ws.length < 0) := by omega
    simp only [Bz4g, Bz43, Bz4f, Bz44, Bz4e, seqI_len, bne_self_eq_false, decide_eq_false hneg, yzj, yz1, go_sem, yz0, Int.reduceLT, reduceLE, reduceToNat, reduceNeg, Nat.reduceLT, reduceLeDiff, reduceMul, reduceSub, reduceIte, reduceEqDiff, reduceAdd, reduceCtorEq]
    rintro vs22 U22 - vs23 U23 - vs24 U24 -
    refine call_aut (k_toAutomaton n next hb_next hc_next) qCO rfl ?_
    intro v12
    try simp only [yzj, yz1, go_sem, yz0, Int.reduceLT, reduceLE, reduceToNat, reduceNeg, Nat.reduceLT, reduceLeDiff, reduceMul, reduceSub, reduceIte, reduceEqDiff, reduceAdd, reduceCtorEq]
    refine call_rows2 (k_toCertificate kind pairs words hb_pairs hc_pairs hb_words hc_words) qCO rfl rfl ?_
    intro v13 v14
    try simp only [List.map_cons, List.map_nil, List.cons_append, List.nil_append, yzj, yz1, go_sem, yz0, Int.reduceLT, reduceLE, reduceToNat, reduceNeg, Nat.reduceLT, reduceLeDiff, reduceMul, reduceSub, reduceIte, reduceEqDiff, reduceAdd, reduceCtorEq]
    refine call_rowT KI qCS rfl (fun _ v15 => ?_) (fun h => by cases h)
    simp only [Bz4d, yzj, yz1, go_sem, yz0, Int.reduceLT, reduceLE, reduceToNat, reduceNeg, Nat.reduceLT, reduceLeDiff, reduceMul, reduceSub, reduceIte, reduceEqDiff, reduceAdd, reduceCtorEq]
    rintro vs25 U25 -
    refine yz2 (k_eqInt64S ws ws) qCS trivial ?_
    simp only [Bz45, Bz4c, Bz4b, decide_true, Bool.and_self, bne_self_eq_false, yzj, yz1, go_sem, yz0, Int.reduceLT, reduceLE, reduceToNat, reduceNeg, Nat.reduceLT, reduceLeDiff, reduceMul, reduceSub, reduceIte, reduceEqDiff, reduceAdd, reduceCtorEq]
    rintro vs26 U26 - vs27 U27 -
    refine yz2 (k_held (seqI 1 ws.length) 1 (by omega) (by rw [seqI_len]; omega) (by rw [seqI_len])) qCS trivial ?_
    simp only [Bz4a, Bz46, Bz49, Bz47, Bz48, seqI_len, bne_self_eq_false, decide_eq_false hneg, yzj, yz1, go_sem, yz0, Int.reduceLT, reduceLE, reduceToNat, reduceNeg, Nat.reduceLT, reduceLeDiff, reduceMul, reduceSub, reduceIte, reduceEqDiff, reduceAdd, reduceCtorEq]
    try simp
  | false =>
    obtain rfl := h2 rfl
    refine call_rowT KI (by simp only [← hps_next, ← hps_pairs, ← hps_words, coeL_rwp_t, rowIs, boxIs, coe_argN, coe_argNs, coe_ro_o, coeL_nil, yzi, coe_any, coe_val, coe_ro, yzm, yzl, coe_st, yzk, coe_rp, yzn, coe_clo, coe_own0, coe_ptr0, yzh, coeL_rws, coeL_rwn, L_hit, L_miss, L_nil, reduceEqDiff, ne_eq, reduceCtorEq, not_false_eq_true, true_and, and_true, and_self, exists_eq_left, exists_eq_right, List.mem_cons, List.not_mem_nil, or_false, AObj.row.injEq, AObj.box.injEq, exists_eq_left', exists_and_left, exists_eq, Nat.zero_lt_one, Nat.lt_add_one, List.map_cons, List.map_nil, AObj.ver, Nat.reduceLT, not_true_eq_false]) rfl (fun h => by cases h) (fun _ => ?_)
    simp only [Bz4r, yzj, yz1, go_sem, yz0, Int.reduceLT, reduceLE, reduceToNat, reduceNeg, Nat.reduceLT, reduceLeDiff, reduceMul, reduceSub, reduceIte, reduceEqDiff, reduceAdd, reduceCtorEq]
    rintro vs11 U11 -
    refine yz2 (k_eqInt64S [] []) (by simp only [List.map_nil, rowIs, boxIs, coe_argN, coe_argNs, coe_ro_o, coeL_nil, yzi, coe_any, coe_val, coe_ro, yzm, yzl, coe_st, yzk, coe_rp, yzn, coe_clo, coe_own0, coe_ptr0, yzh, coeL_rws, coeL_rwn, L_hit, L_miss, L_nil, reduceEqDiff, ne_eq, reduceCtorEq, not_false_eq_true, true_and, and_true, and_self, exists_eq_left, exists_eq_right, List.mem_cons, List.not_mem_nil, or_false, AObj.row.injEq, AObj.box.injEq, exists_eq_left', exists_and_left, exists_eq, Nat.zero_lt_one, Nat.lt_add_one, List.map_cons, List.map_nil, AObj.ver, Nat.reduceLT, not_true_eq_false]) trivial ?_
    simp only [Bz3z, Bz4q, decide_true, Bool.and_self, bne_self_eq_false, yzj, yz1, go_sem, yz0, Int.reduceLT, reduceLE, reduceToNat, reduceNeg, Nat.reduceLT, reduceLeDiff, reduceMul, reduceSub, reduceIte, reduceEqDiff, reduceAdd, reduceCtorEq]
    rintro vs12 U12 -
    refine call_aut (k_toAutomaton n next hb_next hc_next) qCO rfl ?_
    intro v8
    try simp only [yzj, yz1, go_sem, yz0, Int.reduceLT, reduceLE, reduceToNat, reduceNeg, Nat.reduceLT, reduceLeDiff, reduceMul, reduceSub, reduceIte, reduceEqDiff, reduceAdd, reduceCtorEq]
    refine yz2 (k_eqAutomaton n n next next) (by simp only [← hps_next, coeL_rwp_t, rowIs, boxIs, coe_argN, coe_argNs, coe_ro_o, coeL_nil, yzi, coe_any, coe_val, coe_ro, yzm, yzl, coe_st, yzk, coe_rp, yzn, coe_clo, coe_own0, coe_ptr0, yzh, coeL_rws, coeL_rwn, L_hit, L_miss, L_nil, reduceEqDiff, ne_eq, reduceCtorEq, not_false_eq_true, true_and, and_true, and_self, exists_eq_left, exists_eq_right, List.mem_cons, List.not_mem_nil, or_false, AObj.row.injEq, AObj.box.injEq, exists_eq_left', exists_and_left, exists_eq, Nat.zero_lt_one, Nat.lt_add_one, List.map_cons, List.map_nil, AObj.ver, Nat.reduceLT, not_true_eq_false]) trivial ?_
    simp only [Bz40, Bz4p, decide_true, Bool.and_self, bne_self_eq_false, yzj, yz1, go_sem, yz0, Int.reduceLT, reduceLE, reduceToNat, reduceNeg, Nat.reduceLT, reduceLeDiff, reduceMul, reduceSub, reduceIte, reduceEqDiff, reduceAdd, reduceCtorEq]
    rintro vs13 U13 -
    refine call_rows2 (k_toCertificate kind pairs words hb_pairs hc_pairs hb_words hc_words) qCO rfl rfl ?_
    intro v9 v10
    try simp only [List.map_cons, List.map_nil, List.cons_append, List.nil_append, yzj, yz1, go_sem, yz0, Int.reduceLT, reduceLE, reduceToNat, reduceNeg, Nat.reduceLT, reduceLeDiff, reduceMul, reduceSub, reduceIte, reduceEqDiff, reduceAdd, reduceCtorEq]
    refine yz2 (k_eqCertificate kind kind pairs words pairs words) (by simp only [← hps_pairs, ← hps_words, coeL_rwp_t, rowIs, boxIs, coe_argN, coe_argNs, coe_ro_o, coeL_nil, yzi, coe_any, coe_val, coe_ro, yzm, yzl, coe_st, yzk, coe_rp, yzn, coe_clo, coe_own0, coe_ptr0, yzh, coeL_rws, coeL_rwn, L_hit, L_miss, L_nil, reduceEqDiff, ne_eq, reduceCtorEq, not_false_eq_true, true_and, and_true, and_self, exists_eq_left, exists_eq_right, List.mem_cons, List.not_mem_nil, or_false, AObj.row.injEq, AObj.box.injEq, exists_eq_left', exists_and_left, exists_eq, Nat.zero_lt_one, Nat.lt_add_one, List.map_cons, List.map_nil, AObj.ver, Nat.reduceLT, not_true_eq_false]) trivial ?_
    simp only [Bz41, Bz4o, Bz4n, decide_true, Bool.and_self, bne_self_eq_false, yzj, yz1, go_sem, yz0, Int.reduceLT, reduceLE, reduceToNat, reduceNeg, Nat.reduceLT, reduceLeDiff, reduceMul, reduceSub, reduceIte, reduceEqDiff, reduceAdd, reduceCtorEq]
    rintro vs14 U14 - vs15 U15 -
    refine call_havP (pOf ps_next) (k_markAutomaton n ps_next hdj_next 1 (by omega) hdp_next) ?_ ?_
    · rw [coeHL_cons, coeHL_cons, coeHL_nil, coeH_val, coeH_st, coeHL_cons, coeHL_cons, coeHL_nil, coeH_val]
      refine ⟨⟨rfl, ?_, trivial⟩, rfl, trivial⟩
      exact coeH_ownP (nn := true) pOf_in qWS
    rintro x ⟨k3, rfl, hk3a, hk3b⟩
    have hkn3 : ¬ (k3 < 0) := by omega
    simp only [Bz4m, clL_rwpP hcp, clL_rwpP hcw, cl_L, clT, clO, clV_any, clV_val, clV_own, clV_ptr, clV_st, clV_o, clL_ints, clL_rwo, clL_cons, clL_nil, clR_row, clR_box, clR_gone, yzj, yz1, go_sem, yz0, Int.reduceLT, reduceLE, reduceToNat, reduceNeg, Nat.reduceLT, reduceLeDiff, reduceMul, reduceSub, reduceIte, reduceEqDiff, reduceAdd, reduceCtorEq]
    rintro vs16 U16 -
    refine call_hav (k_markCertificate kind ps_pairs ps_words hdj k3 (by omega) hdp_pairs hdp_words) ?_ ?_
    · simp only [coeHL_cons, coeHL_nil, coeH_val, coeH_st, and_true, true_and]
      refine ⟨?_, ?_⟩ <;> exact coeH_own (nn := true) qWS
    rintro x ⟨k4, rfl, hk4a, hk4b⟩
    have hkn4 : ¬ (k4 < 0) := by omega
    simp only [Bz4l, cl_L, clT, clO, clV_any, clV_val, clV_own, clV_ptr, clV_st, clV_o, clL_ints, clL_rwo, clL_cons, clL_nil, clR_row, clR_box, clR_gone, decide_eq_false hkn4, yzj, yz1, go_sem, yz0, Int.reduceLT, reduceLE, reduceToNat, reduceNeg, Nat.reduceLT, reduceLeDiff, reduceMul, reduceSub, reduceIte, reduceEqDiff, reduceAdd, reduceCtorEq]
    rintro vs17 U17 -
    refine yz2 (k_eqInt64S [] []) (by simp only [List.map_nil, rowIs, boxIs, coe_argN, coe_argNs, coe_ro_o, coeL_nil, yzi, coe_any, coe_val, coe_ro, yzm, yzl, coe_st, yzk, coe_rp, yzn, coe_clo, coe_own0, coe_ptr0, yzh, coeL_rws, coeL_rwn, L_hit, L_miss, L_nil, reduceEqDiff, ne_eq, reduceCtorEq, not_false_eq_true, true_and, and_true, and_self, exists_eq_left, exists_eq_right, List.mem_cons, List.not_mem_nil, or_false, AObj.row.injEq, AObj.box.injEq, exists_eq_left', exists_and_left, exists_eq, Nat.zero_lt_one, Nat.lt_add_one, List.map_cons, List.map_nil, AObj.ver, Nat.reduceLT, not_true_eq_false]) trivial ?_
    simp only [Bz42, Bz4k, Bz4j, decide_true, Bool.and_self, bne_self_eq_false, yzj, yz1, go_sem, yz0, Int.reduceLT, reduceLE, reduceToNat, reduceNeg, Nat.reduceLT, reduceLeDiff, reduceMul, reduceSub, reduceIte, reduceEqDiff, reduceAdd, reduceCtorEq]
    rintro vs18 U18 - vs19 U19 -
    refine yz2 (k_markNil 1) qCS trivial ?_
    simp only [Bz4i, Bz4h, yzj, yz1, go_sem, yz0, Int.reduceLT, reduceLE, reduceToNat, reduceNeg, Nat.reduceLT, reduceLeDiff, reduceMul, reduceSub, reduceIte, reduceEqDiff, reduceAdd, reduceCtorEq]
    rintro vs20 U20 - vs21 U21 -
    refine yz2 k_heldNil qCS trivial ?_
    simp only [Bz4g, Bz43, Bz4f, Bz44, Bz4e, bne_self_eq_false, dec10, yzj, yz1, go_sem, yz0, Int.reduceLT, reduceLE, reduceToNat, reduceNeg, Nat.reduceLT, reduceLeDiff, reduceMul, reduceSub, reduceIte, reduceEqDiff, reduceAdd, reduceCtorEq]
    rintro vs22 U22 - vs23 U23 - vs24 U24 -
    refine call_aut (k_toAutomaton n next hb_next hc_next) qCO rfl ?_
    intro v11
    try simp only [yzj, yz1, go_sem, yz0, Int.reduceLT, reduceLE, reduceToNat, reduceNeg, Nat.reduceLT, reduceLeDiff, reduceMul, reduceSub, reduceIte, reduceEqDiff, reduceAdd, reduceCtorEq]
    refine call_rows2 (k_toCertificate kind pairs words hb_pairs hc_pairs hb_words hc_words) qCO rfl rfl ?_
    intro v12 v13
    try simp only [List.map_cons, List.map_nil, List.cons_append, List.nil_append, yzj, yz1, go_sem, yz0, Int.reduceLT, reduceLE, reduceToNat, reduceNeg, Nat.reduceLT, reduceLeDiff, reduceMul, reduceSub, reduceIte, reduceEqDiff, reduceAdd, reduceCtorEq]
    refine call_rowT KI qCS rfl (fun h => by cases h) (fun _ => ?_)
    simp only [Bz4d, yzj, yz1, go_sem, yz0, Int.reduceLT, reduceLE, reduceToNat, reduceNeg, Nat.reduceLT, reduceLeDiff, reduceMul, reduceSub, reduceIte, reduceEqDiff, reduceAdd, reduceCtorEq]
    rintro vs25 U25 -
    refine yz2 (k_eqInt64S [] []) (by simp only [List.map_nil, rowIs, boxIs, coe_argN, coe_argNs, coe_ro_o, coeL_nil, yzi, coe_any, coe_val, coe_ro, yzm, yzl, coe_st, yzk, coe_rp, yzn, coe_clo, coe_own0, coe_ptr0, yzh, coeL_rws, coeL_rwn, L_hit, L_miss, L_nil, reduceEqDiff, ne_eq, reduceCtorEq, not_false_eq_true, true_and, and_true, and_self, exists_eq_left, exists_eq_right, List.mem_cons, List.not_mem_nil, or_false, AObj.row.injEq, AObj.box.injEq, exists_eq_left', exists_and_left, exists_eq, Nat.zero_lt_one, Nat.lt_add_one, List.map_cons, List.map_nil, AObj.ver, Nat.reduceLT, not_true_eq_false]) trivial ?_
    simp only [Bz45, Bz4c, Bz4b, decide_true, Bool.and_self, bne_self_eq_false, yzj, yz1, go_sem, yz0, Int.reduceLT, reduceLE, reduceToNat, reduceNeg, Nat.reduceLT, reduceLeDiff, reduceMul, reduceSub, reduceIte, reduceEqDiff, reduceAdd, reduceCtorEq]
    rintro vs26 U26 - vs27 U27 -
    refine yz2 k_heldNil qCS trivial ?_
    simp only [Bz4a, Bz46, Bz49, Bz47, Bz48, bne_self_eq_false, dec10, yzj, yz1, go_sem, yz0, Int.reduceLT, reduceLE, reduceToNat, reduceNeg, Nat.reduceLT, reduceLeDiff, reduceMul, reduceSub, reduceIte, reduceEqDiff, reduceAdd, reduceCtorEq]
    try simp
theorem k_FnExactWordOfCertificate (n : Int) (next : List (List Int)) (kind : Int) (pairs words : List (List Int)) : Fun Try.prog nz2x [.st [iv n, .ro (some (some 0)) 1 (rwo next)], .st [iv kind, .ro (some (some 0)) 1 (rwo pairs), .ro (some (some 0)) 1 (rwo words)]] (bv true) := by
  refine law_WordOfCertificate n next kind pairs words _ _ _ _ (k_specWordOfCertificate n next kind pairs words) (k_WordOfCertificate n next kind pairs words) (fun h => by rw [if_pos (of_decide_eq_true h)]) (fun h => by rw [if_neg (of_decide_eq_false h)]) fun h => ?_
  have := wocC_len (of_decide_eq_true h)
  omega
end Go.Ab
namespace Go.Ab
open Go
variable {P : Program}
theorem arg_cert {t : TypeId} {A : AVal} {fs : Array Field} {f1 f2 f3 : Field} (h : P.underlying t = some (.struct fs)) (hfs : fs.toList = [f1, f2, f3]) (ht1 : P.underlying f1.type = some (.int .i64))
    {e f : TypeId} (h2 : P.underlying f2.type = some (.slice e)) (h3 : P.underlying f3.type = some (.slice e)) (h1 : P.cellsOf e = 1) (he : P.underlying e = some (.slice f)) (hf1 : P.cellsOf f = 1) (hf : P.underlying f = some (.int .i64))
    (hA : ArgShp P t A) : ∃ n x y, A = .st [iv n, .ro (some (some 0)) 1 (rwo x), .ro (some (some 0)) 1 (rwo y)] := by
  obtain ⟨As, rfl, hF⟩ := arg_struct h hA
  rw [hfs] at hF
  cases hF with
  | cons hA1 hF =>
    cases hF with
    | cons hA2 hF =>
      cases hF with
      | cons hA3 hF =>
        cases hF
        obtain ⟨n, rfl⟩ := shp_int ht1 hA1
        obtain ⟨x, rfl⟩ := shp_rows h2 h1 he hf1 hf hA2
        obtain ⟨y, rfl⟩ := shp_rows h3 h1 he hf1 hf hA3
        exact ⟨n, x, y, rfl⟩
theorem arg_mach {t : TypeId} {A : AVal} {fs : Array Field} {f1 f2 f3 f4 : Field} (h : P.underlying t = some (.struct fs)) (hfs : fs.toList = [f1, f2, f3, f4]) (ht1 : P.underlying f1.type = some (.int .i64)) (ht2 : P.underlying f2.type = some (.int .i64))
    {e f : TypeId} (h2 : P.underlying f3.type = some (.slice e)) (h3 : P.underlying f4.type = some (.slice e)) (h1 : P.cellsOf e = 1) (he : P.underlying e = some (.slice f)) (hf1 : P.cellsOf f = 1) (hf : P.underlying f = some (.int .i64))
    (hA : ArgShp P t A) : ∃ n o x y, A = .st [iv n, iv o, .ro (some (some 0)) 1 (rwo x), .ro (some (some 0)) 1 (rwo y)] := by
  obtain ⟨As, rfl, hF⟩ := arg_struct h hA
  rw [hfs] at hF
  cases hF with
  | cons hA1 hF =>
    cases hF with
    | cons hA2 hF =>
      cases hF with
      | cons hA3 hF =>
        cases hF with
        | cons hA4 hF =>
          cases hF
          obtain ⟨n, rfl⟩ := shp_int ht1 hA1
          obtain ⟨o, rfl⟩ := shp_int ht2 hA2
          obtain ⟨x, rfl⟩ := shp_rows h2 h1 he hf1 hf hA3
          obtain ⟨y, rfl⟩ := shp_rows h3 h1 he hf1 hf hA4
          exact ⟨n, o, x, y, rfl⟩
end Go.Ab
