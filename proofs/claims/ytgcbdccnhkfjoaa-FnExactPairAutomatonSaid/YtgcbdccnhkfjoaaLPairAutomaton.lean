/- The exact law PairAutomaton. Conditions: none. -/
import Derived.Test.YtgcbdccnhkfjoaaMe
set_option linter.all false
namespace Go.Ab
open Go.Proofs
set_option maxRecDepth 20000
set_option maxHeartbeats 2000000

theorem law_PairAutomaton (n o : Int) (next out : List (List Int)) (ok : Bool) (m0 : Int) (ws : List (List Int)) (cc : Int) (KS : NamR Try.prog n_spec_PairAutomaton [.st [iv n, iv o, .ro none 1 (rwn next), .ro none 1 (rwn out)]] ok m0 ws cc) (KI : NamR Try.prog n_impl_PairAutomaton [.st [iv n, iv o, .ro none 1 (rwn next), .ro none 1 (rwn out)]] ok m0 ws cc)
    (hl : ok = true → 1 ≤ ws.length ∧ ws.length ≤ 3) (hw : ok = true → ∀ x ∈ ws, x ≠ [] ∧ (x.length : Int) ≤ 1000) :
    Fun Try.prog n_laws_FnExactPairAutomaton [.st [iv n, iv o, .ro (some (some 0)) 1 (rwo next), .ro (some (some 0)) 1 (rwo out)]] (bv true) := by
  refine fun_of mixed c_laws_FnExactPairAutomaton rfl ⟨rfl, trivial⟩ ?_
  simp only [A_laws_FnExactPairAutomaton, B_laws_FnExactPairAutomaton_1, B_laws_FnExactPairAutomaton_2, wpD_kp, wpD_regi, go_sem, adopt_fun, Int.reduceLT, Int.reduceLE, Int.reduceToNat, Int.reduceNeg, Nat.reduceLT, Nat.reduceLeDiff, Nat.reduceMul, Nat.reduceSub, reduceIte, Nat.reduceEqDiff, Nat.reduceAdd, reduceCtorEq]
  rintro vs1 U1 - vs2 U2 - vs3 U3 -
  refine call_fun (k_szMachine n o next out 1048576 (by omega)) (by simp only [coeL_rwo_t, rowIs, boxIs, coe_argN, coe_argNs, coe_ro_o, coeL_nil, coeL_cons, coe_any, coe_val, coe_ro, coe_ro_nil, coe_ro_own, coe_st, coe_st_agg, coe_rp, coe_rp_ptr, coe_clo, coe_own0, coe_ptr0, coeL_intsK, coeL_rws, coeL_rwn, L_hit, L_miss, L_nil, Nat.reduceEqDiff, ne_eq, reduceCtorEq, not_false_eq_true, true_and, and_true, and_self, exists_eq_left, exists_eq_right, List.mem_cons, List.not_mem_nil, or_false, AObj.row.injEq, AObj.box.injEq, exists_eq_left', exists_and_left, exists_eq, Nat.zero_lt_one, Nat.lt_add_one, List.map_cons, List.map_nil, AObj.ver, Nat.reduceLT, not_true_eq_false]) trivial ?_
  by_cases hsz0 : (szC2 next out 1048576) < 0
  · simp only [B_laws_FnExactPairAutomaton_3, B_laws_FnExactPairAutomaton_4, decide_eq_true hsz0, wpD_kp, wpD_regi, go_sem, adopt_fun, Int.reduceLT, Int.reduceLE, Int.reduceToNat, Int.reduceNeg, Nat.reduceLT, Nat.reduceLeDiff, Nat.reduceMul, Nat.reduceSub, reduceIte, Nat.reduceEqDiff, Nat.reduceAdd, reduceCtorEq]
    try simp
  obtain ⟨hqa0, hqb0, hqc0⟩ := szC2_ge hsz0
  obtain ⟨hsa_next, hsb_next, hsc_next⟩ := szLL_ge (xss := next) (l := 1048576) (by omega)
  have htot_next := szLL_tot (ps := next.map fun x => (0, x)) (l := 1048576) (by rw [List.map_map]; simp only [Function.comp_def, List.map_id']; omega) (by omega)
  have hb_next : next.length * 24 ≤ 140737488355328 := by omega
  have hc_next : ∀ xs ∈ next, xs.length * 8 ≤ 140737488355328 := fun xs hx => by have := hsb_next xs hx; omega
  have hd_next : ∀ xs ∈ next, (xs.length : Int) ≤ 1000000000 := fun xs hx => by have := hsb_next xs hx; omega
  obtain ⟨hsa_out, hsb_out, hsc_out⟩ := szLL_ge (xss := out) (l := (szLL next 1048576)) (by omega)
  have htot_out := szLL_tot (ps := out.map fun x => (0, x)) (l := (szLL next 1048576)) (by rw [List.map_map]; simp only [Function.comp_def, List.map_id']; omega) (by omega)
  have hb_out : out.length * 24 ≤ 140737488355328 := by omega
  have hc_out : ∀ xs ∈ out, xs.length * 8 ≤ 140737488355328 := fun xs hx => by have := hsb_out xs hx; omega
  have hd_out : ∀ xs ∈ out, (xs.length : Int) ≤ 1000000000 := fun xs hx => by have := hsb_out xs hx; omega
  simp only [B_laws_FnExactPairAutomaton_3, B_laws_FnExactPairAutomaton_4, B_laws_FnExactPairAutomaton_5, decide_eq_false hsz0, wpD_kp, wpD_regi, go_sem, adopt_fun, Int.reduceLT, Int.reduceLE, Int.reduceToNat, Int.reduceNeg, Nat.reduceLT, Nat.reduceLeDiff, Nat.reduceMul, Nat.reduceSub, reduceIte, Nat.reduceEqDiff, Nat.reduceAdd, reduceCtorEq]
  rintro vs4 U4 - vs5 U5 hN5
  refine call_rows2 (k_toMachine n o next out hb_next hc_next hb_out hc_out) (by simp only [coeL_rwo_t, rowIs, boxIs, coe_argN, coe_argNs, coe_ro_o, coeL_nil, coeL_cons, coe_any, coe_val, coe_ro, coe_ro_nil, coe_ro_own, coe_st, coe_st_agg, coe_rp, coe_rp_ptr, coe_clo, coe_own0, coe_ptr0, coeL_intsK, coeL_rws, coeL_rwn, L_hit, L_miss, L_nil, Nat.reduceEqDiff, ne_eq, reduceCtorEq, not_false_eq_true, true_and, and_true, and_self, exists_eq_left, exists_eq_right, List.mem_cons, List.not_mem_nil, or_false, AObj.row.injEq, AObj.box.injEq, exists_eq_left', exists_and_left, exists_eq, Nat.zero_lt_one, Nat.lt_add_one, List.map_cons, List.map_nil, AObj.ver, Nat.reduceLT, not_true_eq_false]) rfl rfl ?_
  intro v1 v2
  try simp only [List.map_cons, List.map_nil, List.cons_append, List.nil_append, wpD_kp, wpD_regi, go_sem, adopt_fun, Int.reduceLT, Int.reduceLE, Int.reduceToNat, Int.reduceNeg, Nat.reduceLT, Nat.reduceLeDiff, Nat.reduceMul, Nat.reduceSub, reduceIte, Nat.reduceEqDiff, Nat.reduceAdd, reduceCtorEq]
  cases ok with
  | false =>
    refine call_namT (fun x y e => (hN5.inj _ _ _ _ e).2) KS (by simp only [rowIs, boxIs, coe_argN, coe_argNs, coe_ro_o, coeL_nil, coeL_cons, coe_any, coe_val, coe_ro, coe_ro_nil, coe_ro_own, coe_st, coe_st_agg, coe_rp, coe_rp_ptr, coe_clo, coe_own0, coe_ptr0, coeL_intsK, coeL_rws, coeL_rwn, L_hit, L_miss, L_nil, Nat.reduceEqDiff, ne_eq, reduceCtorEq, not_false_eq_true, true_and, and_true, and_self, exists_eq_left, exists_eq_right, List.mem_cons, List.not_mem_nil, or_false, AObj.row.injEq, AObj.box.injEq, exists_eq_left', exists_and_left, exists_eq, Nat.zero_lt_one, Nat.lt_add_one, List.map_cons, List.map_nil, AObj.ver, Nat.reduceLT, not_true_eq_false]) rfl (fun h => by cases h) (fun _ => ?_)
    simp only [B_laws_FnExactPairAutomaton_6, wpD_kp, wpD_regi, wpD_gh, go_sem, adopt_fun, Int.reduceLT, Int.reduceLE, Int.reduceToNat, Int.reduceNeg, Nat.reduceLT, Nat.reduceLeDiff, Nat.reduceMul, Nat.reduceSub, reduceIte, Nat.reduceEqDiff, Nat.reduceAdd, reduceCtorEq]
    intro _
    refine ⟨[], ?_⟩
    simp only [gwp_nil, wpD_kp, wpD_regi, go_sem, adopt_fun, Int.reduceLT, Int.reduceLE, Int.reduceToNat, Int.reduceNeg, Nat.reduceLT, Nat.reduceLeDiff, Nat.reduceMul, Nat.reduceSub, reduceIte, Nat.reduceEqDiff, Nat.reduceAdd, reduceCtorEq]
    try simp only [wpD_kp, wpD_regi, go_sem, adopt_fun, Int.reduceLT, Int.reduceLE, Int.reduceToNat, Int.reduceNeg, Nat.reduceLT, Nat.reduceLeDiff, Nat.reduceMul, Nat.reduceSub, reduceIte, Nat.reduceEqDiff, Nat.reduceAdd, reduceCtorEq]
    rintro vs6 U6 hN6
    refine call_machN (fun x y e => (hN6.inj _ _ _ _ e).2) (k_toMachineN n o next out hb_next hc_next hb_out hc_out) (by simp only [coeL_rwo_t, rowIs, boxIs, coe_argN, coe_argNs, coe_ro_o, coeL_nil, coeL_cons, coe_any, coe_val, coe_ro, coe_ro_nil, coe_ro_own, coe_st, coe_st_agg, coe_rp, coe_rp_ptr, coe_clo, coe_own0, coe_ptr0, coeL_intsK, coeL_rws, coeL_rwn, L_hit, L_miss, L_nil, Nat.reduceEqDiff, ne_eq, reduceCtorEq, not_false_eq_true, true_and, and_true, and_self, exists_eq_left, exists_eq_right, List.mem_cons, List.not_mem_nil, or_false, AObj.row.injEq, AObj.box.injEq, exists_eq_left', exists_and_left, exists_eq, Nat.zero_lt_one, Nat.lt_add_one, List.map_cons, List.map_nil, AObj.ver, Nat.reduceLT, not_true_eq_false]) rfl rfl ?_
    intro v3 v4 ps_next ps_out hps_next hps_out hdj
    clear hN6
    have htt_next : totL ps_next ≤ 1048576 := by have h := szLL_tot (ps := ps_next) (l := 1048576) (by rw [hps_next]; omega) (by omega); omega
    have htn_next := totL_nn ps_next
    have hdp_next : ∀ p ∈ ps_next, (p.2.length : Int) ≤ 1000000000 := fun p hp => hd_next p.2 (by rw [← hps_next]; exact List.mem_map_of_mem hp)
    have htt_out : totL ps_out ≤ 1048576 := by have h := szLL_tot (ps := ps_out) (l := (szLL next 1048576)) (by rw [hps_out]; omega) (by omega); omega
    have htn_out := totL_nn ps_out
    have hdp_out : ∀ p ∈ ps_out, (p.2.length : Int) ≤ 1000000000 := fun p hp => hd_out p.2 (by rw [← hps_out]; exact List.mem_map_of_mem hp)
    simp only [B_laws_FnExactPairAutomaton_7, wpD_kp, wpD_regi, go_sem, adopt_fun, Int.reduceLT, Int.reduceLE, Int.reduceToNat, Int.reduceNeg, Nat.reduceLT, Nat.reduceLeDiff, Nat.reduceMul, Nat.reduceSub, reduceIte, Nat.reduceEqDiff, Nat.reduceAdd, reduceCtorEq]
    rintro vs7 U7 hN7
    refine call_namT (fun x y e => (hN7.inj _ _ _ _ e).2) KI (by simp only [← hps_next, ← hps_out, coeL_rwp_t, rowIs, boxIs, coe_argN, coe_argNs, coe_ro_o, coeL_nil, coeL_cons, coe_any, coe_val, coe_ro, coe_ro_nil, coe_ro_own, coe_st, coe_st_agg, coe_rp, coe_rp_ptr, coe_clo, coe_own0, coe_ptr0, coeL_intsK, coeL_rws, coeL_rwn, L_hit, L_miss, L_nil, Nat.reduceEqDiff, ne_eq, reduceCtorEq, not_false_eq_true, true_and, and_true, and_self, exists_eq_left, exists_eq_right, List.mem_cons, List.not_mem_nil, or_false, AObj.row.injEq, AObj.box.injEq, exists_eq_left', exists_and_left, exists_eq, Nat.zero_lt_one, Nat.lt_add_one, List.map_cons, List.map_nil, AObj.ver, Nat.reduceLT, not_true_eq_false]) rfl (fun h => by cases h) (fun _ => ?_)
    simp only [B_laws_FnExactPairAutomaton_8, bne_self_eq_false, wpD_kp, wpD_regi, wpD_gh, go_sem, adopt_fun, Int.reduceLT, Int.reduceLE, Int.reduceToNat, Int.reduceNeg, Nat.reduceLT, Nat.reduceLeDiff, Nat.reduceMul, Nat.reduceSub, reduceIte, Nat.reduceEqDiff, Nat.reduceAdd, reduceCtorEq]
    intro _
    refine ⟨[], ?_⟩
    simp only [gwp_nil, wpD_kp, wpD_regi, go_sem, adopt_fun, Int.reduceLT, Int.reduceLE, Int.reduceToNat, Int.reduceNeg, Nat.reduceLT, Nat.reduceLeDiff, Nat.reduceMul, Nat.reduceSub, reduceIte, Nat.reduceEqDiff, Nat.reduceAdd, reduceCtorEq]
    try simp only [wpD_kp, wpD_regi, go_sem, adopt_fun, Int.reduceLT, Int.reduceLE, Int.reduceToNat, Int.reduceNeg, Nat.reduceLT, Nat.reduceLeDiff, Nat.reduceMul, Nat.reduceSub, reduceIte, Nat.reduceEqDiff, Nat.reduceAdd, reduceCtorEq]
    rintro vs8 U8 -
    refine call_fun (k_eqAutomaton 0 0 [] []) (by simp only [rwn_nil, rowIs, boxIs, coe_argN, coe_argNs, coe_ro_o, coeL_nil, coeL_cons, coe_any, coe_val, coe_ro, coe_ro_nil, coe_ro_own, coe_st, coe_st_agg, coe_rp, coe_rp_ptr, coe_clo, coe_own0, coe_ptr0, coeL_intsK, coeL_rws, coeL_rwn, L_hit, L_miss, L_nil, Nat.reduceEqDiff, ne_eq, reduceCtorEq, not_false_eq_true, true_and, and_true, and_self, exists_eq_left, exists_eq_right, List.mem_cons, List.not_mem_nil, or_false, AObj.row.injEq, AObj.box.injEq, exists_eq_left', exists_and_left, exists_eq, Nat.zero_lt_one, Nat.lt_add_one, List.map_cons, List.map_nil, AObj.ver, Nat.reduceLT, not_true_eq_false]) trivial ?_
    simp only [B_laws_FnExactPairAutomaton_9, B_laws_FnExactPairAutomaton_10, decide_true, Bool.and_self, bne_self_eq_false, wpD_kp, wpD_regi, go_sem, adopt_fun, Int.reduceLT, Int.reduceLE, Int.reduceToNat, Int.reduceNeg, Nat.reduceLT, Nat.reduceLeDiff, Nat.reduceMul, Nat.reduceSub, reduceIte, Nat.reduceEqDiff, Nat.reduceAdd, reduceCtorEq]
    rintro vs9 U9 -
    refine call_rows2 (k_toMachine n o next out hb_next hc_next hb_out hc_out) (by simp only [coeL_rwo_t, rowIs, boxIs, coe_argN, coe_argNs, coe_ro_o, coeL_nil, coeL_cons, coe_any, coe_val, coe_ro, coe_ro_nil, coe_ro_own, coe_st, coe_st_agg, coe_rp, coe_rp_ptr, coe_clo, coe_own0, coe_ptr0, coeL_intsK, coeL_rws, coeL_rwn, L_hit, L_miss, L_nil, Nat.reduceEqDiff, ne_eq, reduceCtorEq, not_false_eq_true, true_and, and_true, and_self, exists_eq_left, exists_eq_right, List.mem_cons, List.not_mem_nil, or_false, AObj.row.injEq, AObj.box.injEq, exists_eq_left', exists_and_left, exists_eq, Nat.zero_lt_one, Nat.lt_add_one, List.map_cons, List.map_nil, AObj.ver, Nat.reduceLT, not_true_eq_false]) rfl rfl ?_
    intro v5 v6
    try simp only [List.map_cons, List.map_nil, List.cons_append, List.nil_append, wpD_kp, wpD_regi, go_sem, adopt_fun, Int.reduceLT, Int.reduceLE, Int.reduceToNat, Int.reduceNeg, Nat.reduceLT, Nat.reduceLeDiff, Nat.reduceMul, Nat.reduceSub, reduceIte, Nat.reduceEqDiff, Nat.reduceAdd, reduceCtorEq]
    refine call_fun (k_eqMachine n n o o next out next out) (by simp only [← hps_next, ← hps_out, coeL_rwp_t, rowIs, boxIs, coe_argN, coe_argNs, coe_ro_o, coeL_nil, coeL_cons, coe_any, coe_val, coe_ro, coe_ro_nil, coe_ro_own, coe_st, coe_st_agg, coe_rp, coe_rp_ptr, coe_clo, coe_own0, coe_ptr0, coeL_intsK, coeL_rws, coeL_rwn, L_hit, L_miss, L_nil, Nat.reduceEqDiff, ne_eq, reduceCtorEq, not_false_eq_true, true_and, and_true, and_self, exists_eq_left, exists_eq_right, List.mem_cons, List.not_mem_nil, or_false, AObj.row.injEq, AObj.box.injEq, exists_eq_left', exists_and_left, exists_eq, Nat.zero_lt_one, Nat.lt_add_one, List.map_cons, List.map_nil, AObj.ver, Nat.reduceLT, not_true_eq_false]) trivial ?_
    simp only [B_laws_FnExactPairAutomaton_11, B_laws_FnExactPairAutomaton_12, B_laws_FnExactPairAutomaton_13, decide_true, Bool.and_self, bne_self_eq_false, wpD_kp, wpD_regi, go_sem, adopt_fun, Int.reduceLT, Int.reduceLE, Int.reduceToNat, Int.reduceNeg, Nat.reduceLT, Nat.reduceLeDiff, Nat.reduceMul, Nat.reduceSub, reduceIte, Nat.reduceEqDiff, Nat.reduceAdd, reduceCtorEq]
    rintro vs10 U10 - vs11 U11 -
    refine call_hav (k_markMachine n o ps_next ps_out hdj 1 (by omega) hdp_next hdp_out) ?_ ?_
    · simp only [coeHL_cons, coeHL_nil, coeH_val, coeH_st, and_true, true_and]
      refine ⟨?_, ?_⟩ <;> exact coeH_own (nn := true) (by simp only [go_sem, adopt_fun, Int.reduceLT, Int.reduceLE, Int.reduceToNat, Int.reduceNeg, Nat.reduceLT, Nat.reduceLeDiff, Nat.reduceMul, Nat.reduceSub, reduceIte, Nat.reduceEqDiff, Nat.reduceAdd, reduceCtorEq])
    rintro x ⟨k1, rfl, hk1a, hk1b⟩
    have hkn1 : ¬ (k1 < 0) := by omega
    simp only [B_laws_FnExactPairAutomaton_14, cl_L, clT, clO, clV_any, clV_val, clV_own, clV_ptr, clV_st, clV_o, clL_ints, clL_rwo, clL_cons, clL_nil, clR_row, clR_box, clR_gone, decide_eq_false hkn1, wpD_kp, wpD_regi, go_sem, adopt_fun, Int.reduceLT, Int.reduceLE, Int.reduceToNat, Int.reduceNeg, Nat.reduceLT, Nat.reduceLeDiff, Nat.reduceMul, Nat.reduceSub, reduceIte, Nat.reduceEqDiff, Nat.reduceAdd, reduceCtorEq]
    rintro vs12 U12 -
    refine call_fun (k_eqAutomaton 0 0 [] []) (by simp only [rwn_nil, rowIs, boxIs, coe_argN, coe_argNs, coe_ro_o, coeL_nil, coeL_cons, coe_any, coe_val, coe_ro, coe_ro_nil, coe_ro_own, coe_st, coe_st_agg, coe_rp, coe_rp_ptr, coe_clo, coe_own0, coe_ptr0, coeL_intsK, coeL_rws, coeL_rwn, L_hit, L_miss, L_nil, Nat.reduceEqDiff, ne_eq, reduceCtorEq, not_false_eq_true, true_and, and_true, and_self, exists_eq_left, exists_eq_right, List.mem_cons, List.not_mem_nil, or_false, AObj.row.injEq, AObj.box.injEq, exists_eq_left', exists_and_left, exists_eq, Nat.zero_lt_one, Nat.lt_add_one, List.map_cons, List.map_nil, AObj.ver, Nat.reduceLT, not_true_eq_false]) trivial ?_
    simp only [B_laws_FnExactPairAutomaton_15, B_laws_FnExactPairAutomaton_16, B_laws_FnExactPairAutomaton_17, decide_true, Bool.and_self, bne_self_eq_false, wpD_kp, wpD_regi, go_sem, adopt_fun, Int.reduceLT, Int.reduceLE, Int.reduceToNat, Int.reduceNeg, Nat.reduceLT, Nat.reduceLeDiff, Nat.reduceMul, Nat.reduceSub, reduceIte, Nat.reduceEqDiff, Nat.reduceAdd, reduceCtorEq]
    rintro vs13 U13 - vs14 U14 -
    refine call_fun (k_markAutNil 0 1) (by simp only [rowIs, boxIs, coe_argN, coe_argNs, coe_ro_o, coeL_nil, coeL_cons, coe_any, coe_val, coe_ro, coe_ro_nil, coe_ro_own, coe_st, coe_st_agg, coe_rp, coe_rp_ptr, coe_clo, coe_own0, coe_ptr0, coeL_intsK, coeL_rws, coeL_rwn, L_hit, L_miss, L_nil, Nat.reduceEqDiff, ne_eq, reduceCtorEq, not_false_eq_true, true_and, and_true, and_self, exists_eq_left, exists_eq_right, List.mem_cons, List.not_mem_nil, or_false, AObj.row.injEq, AObj.box.injEq, exists_eq_left', exists_and_left, exists_eq, Nat.zero_lt_one, Nat.lt_add_one, List.map_cons, List.map_nil, AObj.ver, Nat.reduceLT, not_true_eq_false]) trivial ?_
    simp only [B_laws_FnExactPairAutomaton_18, B_laws_FnExactPairAutomaton_19, wpD_kp, wpD_regi, go_sem, adopt_fun, Int.reduceLT, Int.reduceLE, Int.reduceToNat, Int.reduceNeg, Nat.reduceLT, Nat.reduceLeDiff, Nat.reduceMul, Nat.reduceSub, reduceIte, Nat.reduceEqDiff, Nat.reduceAdd, reduceCtorEq]
    rintro vs15 U15 - vs16 U16 -
    refine call_fun k_heldAutNil (by simp only [rowIs, boxIs, coe_argN, coe_argNs, coe_ro_o, coeL_nil, coeL_cons, coe_any, coe_val, coe_ro, coe_ro_nil, coe_ro_own, coe_st, coe_st_agg, coe_rp, coe_rp_ptr, coe_clo, coe_own0, coe_ptr0, coeL_intsK, coeL_rws, coeL_rwn, L_hit, L_miss, L_nil, Nat.reduceEqDiff, ne_eq, reduceCtorEq, not_false_eq_true, true_and, and_true, and_self, exists_eq_left, exists_eq_right, List.mem_cons, List.not_mem_nil, or_false, AObj.row.injEq, AObj.box.injEq, exists_eq_left', exists_and_left, exists_eq, Nat.zero_lt_one, Nat.lt_add_one, List.map_cons, List.map_nil, AObj.ver, Nat.reduceLT, not_true_eq_false]) trivial ?_
    simp only [B_laws_FnExactPairAutomaton_20, B_laws_FnExactPairAutomaton_21, B_laws_FnExactPairAutomaton_22, B_laws_FnExactPairAutomaton_23, B_laws_FnExactPairAutomaton_24, bne_self_eq_false, dec10, wpD_kp, wpD_regi, go_sem, adopt_fun, Int.reduceLT, Int.reduceLE, Int.reduceToNat, Int.reduceNeg, Nat.reduceLT, Nat.reduceLeDiff, Nat.reduceMul, Nat.reduceSub, reduceIte, Nat.reduceEqDiff, Nat.reduceAdd, reduceCtorEq]
    rintro vs17 U17 - vs18 U18 - vs19 U19 hN19
    refine call_rows2 (k_toMachine n o next out hb_next hc_next hb_out hc_out) (by simp only [coeL_rwo_t, rowIs, boxIs, coe_argN, coe_argNs, coe_ro_o, coeL_nil, coeL_cons, coe_any, coe_val, coe_ro, coe_ro_nil, coe_ro_own, coe_st, coe_st_agg, coe_rp, coe_rp_ptr, coe_clo, coe_own0, coe_ptr0, coeL_intsK, coeL_rws, coeL_rwn, L_hit, L_miss, L_nil, Nat.reduceEqDiff, ne_eq, reduceCtorEq, not_false_eq_true, true_and, and_true, and_self, exists_eq_left, exists_eq_right, List.mem_cons, List.not_mem_nil, or_false, AObj.row.injEq, AObj.box.injEq, exists_eq_left', exists_and_left, exists_eq, Nat.zero_lt_one, Nat.lt_add_one, List.map_cons, List.map_nil, AObj.ver, Nat.reduceLT, not_true_eq_false]) rfl rfl ?_
    intro v7 v8
    try simp only [List.map_cons, List.map_nil, List.cons_append, List.nil_append, wpD_kp, wpD_regi, go_sem, adopt_fun, Int.reduceLT, Int.reduceLE, Int.reduceToNat, Int.reduceNeg, Nat.reduceLT, Nat.reduceLeDiff, Nat.reduceMul, Nat.reduceSub, reduceIte, Nat.reduceEqDiff, Nat.reduceAdd, reduceCtorEq]
    refine call_namT (fun x y e => (hN19.inj _ _ _ _ e).2) KI (by simp only [rowIs, boxIs, coe_argN, coe_argNs, coe_ro_o, coeL_nil, coeL_cons, coe_any, coe_val, coe_ro, coe_ro_nil, coe_ro_own, coe_st, coe_st_agg, coe_rp, coe_rp_ptr, coe_clo, coe_own0, coe_ptr0, coeL_intsK, coeL_rws, coeL_rwn, L_hit, L_miss, L_nil, Nat.reduceEqDiff, ne_eq, reduceCtorEq, not_false_eq_true, true_and, and_true, and_self, exists_eq_left, exists_eq_right, List.mem_cons, List.not_mem_nil, or_false, AObj.row.injEq, AObj.box.injEq, exists_eq_left', exists_and_left, exists_eq, Nat.zero_lt_one, Nat.lt_add_one, List.map_cons, List.map_nil, AObj.ver, Nat.reduceLT, not_true_eq_false]) rfl (fun h => by cases h) (fun _ => ?_)
    simp only [B_laws_FnExactPairAutomaton_25, bne_self_eq_false, wpD_kp, wpD_regi, go_sem, adopt_fun, Int.reduceLT, Int.reduceLE, Int.reduceToNat, Int.reduceNeg, Nat.reduceLT, Nat.reduceLeDiff, Nat.reduceMul, Nat.reduceSub, reduceIte, Nat.reduceEqDiff, Nat.reduceAdd, reduceCtorEq]
    rintro vs20 U20 -
    refine call_fun (k_eqAutomaton 0 0 [] []) (by simp only [rwn_nil, rowIs, boxIs, coe_argN, coe_argNs, coe_ro_o, coeL_nil, coeL_cons, coe_any, coe_val, coe_ro, coe_ro_nil, coe_ro_own, coe_st, coe_st_agg, coe_rp, coe_rp_ptr, coe_clo, coe_own0, coe_ptr0, coeL_intsK, coeL_rws, coeL_rwn, L_hit, L_miss, L_nil, Nat.reduceEqDiff, ne_eq, reduceCtorEq, not_false_eq_true, true_and, and_true, and_self, exists_eq_left, exists_eq_right, List.mem_cons, List.not_mem_nil, or_false, AObj.row.injEq, AObj.box.injEq, exists_eq_left', exists_and_left, exists_eq, Nat.zero_lt_one, Nat.lt_add_one, List.map_cons, List.map_nil, AObj.ver, Nat.reduceLT, not_true_eq_false]) trivial ?_
    simp only [B_laws_FnExactPairAutomaton_26, B_laws_FnExactPairAutomaton_27, B_laws_FnExactPairAutomaton_28, decide_true, Bool.and_self, bne_self_eq_false, wpD_kp, wpD_regi, go_sem, adopt_fun, Int.reduceLT, Int.reduceLE, Int.reduceToNat, Int.reduceNeg, Nat.reduceLT, Nat.reduceLeDiff, Nat.reduceMul, Nat.reduceSub, reduceIte, Nat.reduceEqDiff, Nat.reduceAdd, reduceCtorEq]
    rintro vs21 U21 - vs22 U22 -
    refine call_fun k_heldAutNil (by simp only [rowIs, boxIs, coe_argN, coe_argNs, coe_ro_o, coeL_nil, coeL_cons, coe_any, coe_val, coe_ro, coe_ro_nil, coe_ro_own, coe_st, coe_st_agg, coe_rp, coe_rp_ptr, coe_clo, coe_own0, coe_ptr0, coeL_intsK, coeL_rws, coeL_rwn, L_hit, L_miss, L_nil, Nat.reduceEqDiff, ne_eq, reduceCtorEq, not_false_eq_true, true_and, and_true, and_self, exists_eq_left, exists_eq_right, List.mem_cons, List.not_mem_nil, or_false, AObj.row.injEq, AObj.box.injEq, exists_eq_left', exists_and_left, exists_eq, Nat.zero_lt_one, Nat.lt_add_one, List.map_cons, List.map_nil, AObj.ver, Nat.reduceLT, not_true_eq_false]) trivial ?_
    simp only [B_laws_FnExactPairAutomaton_29, B_laws_FnExactPairAutomaton_30, B_laws_FnExactPairAutomaton_31, B_laws_FnExactPairAutomaton_32, B_laws_FnExactPairAutomaton_33, bne_self_eq_false, dec10, wpD_kp, wpD_regi, go_sem, adopt_fun, Int.reduceLT, Int.reduceLE, Int.reduceToNat, Int.reduceNeg, Nat.reduceLT, Nat.reduceLeDiff, Nat.reduceMul, Nat.reduceSub, reduceIte, Nat.reduceEqDiff, Nat.reduceAdd, reduceCtorEq]
    try simp
  | true =>
    obtain ⟨hl1, hl2⟩ := hl rfl
    have hw := hw rfl
    rcases ws3 hl1 hl2 with ⟨a, rfl⟩ | ⟨a, b, rfl⟩ | ⟨a, b, c, rfl⟩
    · -- 1
      have ha := hw a (by simp)
      refine call_namT (fun x y e => (hN5.inj _ _ _ _ e).2) KS (by simp only [rowIs, boxIs, coe_argN, coe_argNs, coe_ro_o, coeL_nil, coeL_cons, coe_any, coe_val, coe_ro, coe_ro_nil, coe_ro_own, coe_st, coe_st_agg, coe_rp, coe_rp_ptr, coe_clo, coe_own0, coe_ptr0, coeL_intsK, coeL_rws, coeL_rwn, L_hit, L_miss, L_nil, Nat.reduceEqDiff, ne_eq, reduceCtorEq, not_false_eq_true, true_and, and_true, and_self, exists_eq_left, exists_eq_right, List.mem_cons, List.not_mem_nil, or_false, AObj.row.injEq, AObj.box.injEq, exists_eq_left', exists_and_left, exists_eq, Nat.zero_lt_one, Nat.lt_add_one, List.map_cons, List.map_nil, AObj.ver, Nat.reduceLT, not_true_eq_false]) rfl (fun _ vS pS hS hdS hyS => ?_) (fun h => by cases h)
      obtain ⟨Sp0, rfl⟩ := nam1 hS hdS ha.1
      simp only [B_laws_FnExactPairAutomaton_6, wpD_kp, wpD_regi, wpD_gh, go_sem, adopt_fun, Int.reduceLT, Int.reduceLE, Int.reduceToNat, Int.reduceNeg, Nat.reduceLT, Nat.reduceLeDiff, Nat.reduceMul, Nat.reduceSub, reduceIte, Nat.reduceEqDiff, Nat.reduceAdd, reduceCtorEq]
      intro _
      refine ⟨[.thaw 22 0 901], ?_⟩
      refine gwp_thaw rfl rfl (ints_ne ha.1) rfl fun Sm0 => ?_
      simp only [woT, woO, woL_cons, woL_nil, woV_val, woV_own, wo_ptr, wo_o, woL_ints, woL_rwo, wo_st, woO_row, woO_box, woO_gone, wo_any, rwp_cons, rwp_nil, go_sem, adopt_fun, Int.reduceLT, Int.reduceLE, Int.reduceToNat, Int.reduceNeg, Nat.reduceLT, Nat.reduceLeDiff, Nat.reduceMul, Nat.reduceSub, reduceIte, Nat.reduceEqDiff, Nat.reduceAdd, reduceCtorEq]
      simp only [gwp_nil, wpD_kp, wpD_regi, go_sem, adopt_fun, Int.reduceLT, Int.reduceLE, Int.reduceToNat, Int.reduceNeg, Nat.reduceLT, Nat.reduceLeDiff, Nat.reduceMul, Nat.reduceSub, reduceIte, Nat.reduceEqDiff, Nat.reduceAdd, reduceCtorEq]
      try simp only [wpD_kp, wpD_regi, go_sem, adopt_fun, Int.reduceLT, Int.reduceLE, Int.reduceToNat, Int.reduceNeg, Nat.reduceLT, Nat.reduceLeDiff, Nat.reduceMul, Nat.reduceSub, reduceIte, Nat.reduceEqDiff, Nat.reduceAdd, reduceCtorEq]
      rintro vs6 U6 hN6
      refine call_machN (fun x y e => (hN6.inj _ _ _ _ e).2) (k_toMachineN n o next out hb_next hc_next hb_out hc_out) (by simp only [coeL_rwo_t, rowIs, boxIs, coe_argN, coe_argNs, coe_ro_o, coeL_nil, coeL_cons, coe_any, coe_val, coe_ro, coe_ro_nil, coe_ro_own, coe_st, coe_st_agg, coe_rp, coe_rp_ptr, coe_clo, coe_own0, coe_ptr0, coeL_intsK, coeL_rws, coeL_rwn, L_hit, L_miss, L_nil, Nat.reduceEqDiff, ne_eq, reduceCtorEq, not_false_eq_true, true_and, and_true, and_self, exists_eq_left, exists_eq_right, List.mem_cons, List.not_mem_nil, or_false, AObj.row.injEq, AObj.box.injEq, exists_eq_left', exists_and_left, exists_eq, Nat.zero_lt_one, Nat.lt_add_one, List.map_cons, List.map_nil, AObj.ver, Nat.reduceLT, not_true_eq_false]) rfl rfl ?_
      intro v3 v4 ps_next ps_out hps_next hps_out hdj
      clear hN6
      have htt_next : totL ps_next ≤ 1048576 := by have h := szLL_tot (ps := ps_next) (l := 1048576) (by rw [hps_next]; omega) (by omega); omega
      have htn_next := totL_nn ps_next
      have hdp_next : ∀ p ∈ ps_next, (p.2.length : Int) ≤ 1000000000 := fun p hp => hd_next p.2 (by rw [← hps_next]; exact List.mem_map_of_mem hp)
      have htt_out : totL ps_out ≤ 1048576 := by have h := szLL_tot (ps := ps_out) (l := (szLL next 1048576)) (by rw [hps_out]; omega) (by omega); omega
      have htn_out := totL_nn ps_out
      have hdp_out : ∀ p ∈ ps_out, (p.2.length : Int) ≤ 1000000000 := fun p hp => hd_out p.2 (by rw [← hps_out]; exact List.mem_map_of_mem hp)
      simp only [B_laws_FnExactPairAutomaton_7, wpD_kp, wpD_regi, go_sem, adopt_fun, Int.reduceLT, Int.reduceLE, Int.reduceToNat, Int.reduceNeg, Nat.reduceLT, Nat.reduceLeDiff, Nat.reduceMul, Nat.reduceSub, reduceIte, Nat.reduceEqDiff, Nat.reduceAdd, reduceCtorEq]
      rintro vs7 U7 hN7
      refine call_namT (fun x y e => (hN7.inj _ _ _ _ e).2) KI (by simp only [← hps_next, ← hps_out, coeL_rwp_t, rowIs, boxIs, coe_argN, coe_argNs, coe_ro_o, coeL_nil, coeL_cons, coe_any, coe_val, coe_ro, coe_ro_nil, coe_ro_own, coe_st, coe_st_agg, coe_rp, coe_rp_ptr, coe_clo, coe_own0, coe_ptr0, coeL_intsK, coeL_rws, coeL_rwn, L_hit, L_miss, L_nil, Nat.reduceEqDiff, ne_eq, reduceCtorEq, not_false_eq_true, true_and, and_true, and_self, exists_eq_left, exists_eq_right, List.mem_cons, List.not_mem_nil, or_false, AObj.row.injEq, AObj.box.injEq, exists_eq_left', exists_and_left, exists_eq, Nat.zero_lt_one, Nat.lt_add_one, List.map_cons, List.map_nil, AObj.ver, Nat.reduceLT, not_true_eq_false]) rfl (fun _ vG pG hG hdG hyG => ?_) (fun h => by cases h)
      obtain ⟨Gp0, rfl⟩ := nam1 hG hdG ha.1
      have hU_next := hN7.hp 26
      simp only [AObj.uses, go_sem, adopt_fun, Int.reduceLT, Int.reduceLE, Int.reduceToNat, Int.reduceNeg, Nat.reduceLT, Nat.reduceLeDiff, Nat.reduceMul, Nat.reduceSub, reduceIte, Nat.reduceEqDiff, Nat.reduceAdd, reduceCtorEq] at hU_next
      have hold_next := usesL_rwp (rest := []) (by rw [List.append_nil]; exact hU_next.2)
      have hf_next0 : ∀ p ∈ ps_next, p.2 = [] ∨ p.1 ≠ Gp0 := fun p hp => by
        obtain ⟨y, e⟩ := hyG (Gp0, a) (by simp)
        rcases hold_next p hp with h | h
        · exact .inl h
        · exact .inr fun e2 => hN7.new _ y (by rw [← e]; exact e2 ▸ h)
      have hU_out := hN7.hp 1026
      simp only [AObj.uses, go_sem, adopt_fun, Int.reduceLT, Int.reduceLE, Int.reduceToNat, Int.reduceNeg, Nat.reduceLT, Nat.reduceLeDiff, Nat.reduceMul, Nat.reduceSub, reduceIte, Nat.reduceEqDiff, Nat.reduceAdd, reduceCtorEq] at hU_out
      have hold_out := usesL_rwp (rest := []) (by rw [List.append_nil]; exact hU_out.2)
      have hf_out0 : ∀ p ∈ ps_out, p.2 = [] ∨ p.1 ≠ Gp0 := fun p hp => by
        obtain ⟨y, e⟩ := hyG (Gp0, a) (by simp)
        rcases hold_out p hp with h | h
        · exact .inl h
        · exact .inr fun e2 => hN7.new _ y (by rw [← e]; exact e2 ▸ h)
      simp only [B_laws_FnExactPairAutomaton_8, bne_self_eq_false, wpD_kp, wpD_regi, wpD_gh, go_sem, adopt_fun, Int.reduceLT, Int.reduceLE, Int.reduceToNat, Int.reduceNeg, Nat.reduceLT, Nat.reduceLeDiff, Nat.reduceMul, Nat.reduceSub, reduceIte, Nat.reduceEqDiff, Nat.reduceAdd, reduceCtorEq]
      intro _
      refine ⟨[.thaw 29 0 911], ?_⟩
      refine gwp_thaw rfl rfl (ints_ne ha.1) rfl fun Gm0 => ?_
      simp only [woL_rwp hf_next0, woL_rwp hf_out0, woT, woO, woL_cons, woL_nil, woV_val, woV_own, wo_ptr, wo_o, woL_ints, woL_rwo, wo_st, woO_row, woO_box, woO_gone, wo_any, rwp_cons, rwp_nil, go_sem, adopt_fun, Int.reduceLT, Int.reduceLE, Int.reduceToNat, Int.reduceNeg, Nat.reduceLT, Nat.reduceLeDiff, Nat.reduceMul, Nat.reduceSub, reduceIte, Nat.reduceEqDiff, Nat.reduceAdd, reduceCtorEq]
      simp only [gwp_nil, wpD_kp, wpD_regi, go_sem, adopt_fun, Int.reduceLT, Int.reduceLE, Int.reduceToNat, Int.reduceNeg, Nat.reduceLT, Nat.reduceLeDiff, Nat.reduceMul, Nat.reduceSub, reduceIte, Nat.reduceEqDiff, Nat.reduceAdd, reduceCtorEq]
      try simp only [wpD_kp, wpD_regi, go_sem, adopt_fun, Int.reduceLT, Int.reduceLE, Int.reduceToNat, Int.reduceNeg, Nat.reduceLT, Nat.reduceLeDiff, Nat.reduceMul, Nat.reduceSub, reduceIte, Nat.reduceEqDiff, Nat.reduceAdd, reduceCtorEq]
      rintro vs8 U8 -
      refine call_fun (k_eqAutomaton m0 m0 [a] [a]) (by simp only [rwn_cons, rwn_nil, rwp_cons, rwp_nil, coeL_ints_t, rowIs, boxIs, coe_argN, coe_argNs, coe_ro_o, coeL_nil, coeL_cons, coe_any, coe_val, coe_ro, coe_ro_nil, coe_ro_own, coe_st, coe_st_agg, coe_rp, coe_rp_ptr, coe_clo, coe_own0, coe_ptr0, coeL_intsK, coeL_rws, coeL_rwn, L_hit, L_miss, L_nil, Nat.reduceEqDiff, ne_eq, reduceCtorEq, not_false_eq_true, true_and, and_true, and_self, exists_eq_left, exists_eq_right, List.mem_cons, List.not_mem_nil, or_false, AObj.row.injEq, AObj.box.injEq, exists_eq_left', exists_and_left, exists_eq, Nat.zero_lt_one, Nat.lt_add_one, List.map_cons, List.map_nil, AObj.ver, Nat.reduceLT, not_true_eq_false]) trivial ?_
      simp only [B_laws_FnExactPairAutomaton_9, B_laws_FnExactPairAutomaton_10, decide_true, Bool.and_self, bne_self_eq_false, wpD_kp, wpD_regi, go_sem, adopt_fun, Int.reduceLT, Int.reduceLE, Int.reduceToNat, Int.reduceNeg, Nat.reduceLT, Nat.reduceLeDiff, Nat.reduceMul, Nat.reduceSub, reduceIte, Nat.reduceEqDiff, Nat.reduceAdd, reduceCtorEq]
      rintro vs9 U9 -
      refine call_rows2 (k_toMachine n o next out hb_next hc_next hb_out hc_out) (by simp only [coeL_rwo_t, rowIs, boxIs, coe_argN, coe_argNs, coe_ro_o, coeL_nil, coeL_cons, coe_any, coe_val, coe_ro, coe_ro_nil, coe_ro_own, coe_st, coe_st_agg, coe_rp, coe_rp_ptr, coe_clo, coe_own0, coe_ptr0, coeL_intsK, coeL_rws, coeL_rwn, L_hit, L_miss, L_nil, Nat.reduceEqDiff, ne_eq, reduceCtorEq, not_false_eq_true, true_and, and_true, and_self, exists_eq_left, exists_eq_right, List.mem_cons, List.not_mem_nil, or_false, AObj.row.injEq, AObj.box.injEq, exists_eq_left', exists_and_left, exists_eq, Nat.zero_lt_one, Nat.lt_add_one, List.map_cons, List.map_nil, AObj.ver, Nat.reduceLT, not_true_eq_false]) rfl rfl ?_
      intro v5 v6
      try simp only [List.map_cons, List.map_nil, List.cons_append, List.nil_append, wpD_kp, wpD_regi, go_sem, adopt_fun, Int.reduceLT, Int.reduceLE, Int.reduceToNat, Int.reduceNeg, Nat.reduceLT, Nat.reduceLeDiff, Nat.reduceMul, Nat.reduceSub, reduceIte, Nat.reduceEqDiff, Nat.reduceAdd, reduceCtorEq]
      refine call_fun (k_eqMachine n n o o next out next out) (by simp only [← hps_next, ← hps_out, coeL_rwp_t, rowIs, boxIs, coe_argN, coe_argNs, coe_ro_o, coeL_nil, coeL_cons, coe_any, coe_val, coe_ro, coe_ro_nil, coe_ro_own, coe_st, coe_st_agg, coe_rp, coe_rp_ptr, coe_clo, coe_own0, coe_ptr0, coeL_intsK, coeL_rws, coeL_rwn, L_hit, L_miss, L_nil, Nat.reduceEqDiff, ne_eq, reduceCtorEq, not_false_eq_true, true_and, and_true, and_self, exists_eq_left, exists_eq_right, List.mem_cons, List.not_mem_nil, or_false, AObj.row.injEq, AObj.box.injEq, exists_eq_left', exists_and_left, exists_eq, Nat.zero_lt_one, Nat.lt_add_one, List.map_cons, List.map_nil, AObj.ver, Nat.reduceLT, not_true_eq_false]) trivial ?_
      simp only [B_laws_FnExactPairAutomaton_11, B_laws_FnExactPairAutomaton_12, B_laws_FnExactPairAutomaton_13, decide_true, Bool.and_self, bne_self_eq_false, wpD_kp, wpD_regi, go_sem, adopt_fun, Int.reduceLT, Int.reduceLE, Int.reduceToNat, Int.reduceNeg, Nat.reduceLT, Nat.reduceLeDiff, Nat.reduceMul, Nat.reduceSub, reduceIte, Nat.reduceEqDiff, Nat.reduceAdd, reduceCtorEq]
      rintro vs10 U10 - vs11 U11 -
      refine call_hav (k_markMachine n o ps_next ps_out hdj 1 (by omega) hdp_next hdp_out) ?_ ?_
      · simp only [coeHL_cons, coeHL_nil, coeH_val, coeH_st, and_true, true_and]
        refine ⟨?_, ?_⟩ <;> exact coeH_own (nn := true) (by simp only [go_sem, adopt_fun, Int.reduceLT, Int.reduceLE, Int.reduceToNat, Int.reduceNeg, Nat.reduceLT, Nat.reduceLeDiff, Nat.reduceMul, Nat.reduceSub, reduceIte, Nat.reduceEqDiff, Nat.reduceAdd, reduceCtorEq])
      rintro x ⟨k2, rfl, hk2a, hk2b⟩
      have hkn2 : ¬ (k2 < 0) := by omega
      simp only [B_laws_FnExactPairAutomaton_14, cl_L, clT, clO, clV_any, clV_val, clV_own, clV_ptr, clV_st, clV_o, clL_ints, clL_rwo, clL_cons, clL_nil, clR_row, clR_box, clR_gone, decide_eq_false hkn2, wpD_kp, wpD_regi, go_sem, adopt_fun, Int.reduceLT, Int.reduceLE, Int.reduceToNat, Int.reduceNeg, Nat.reduceLT, Nat.reduceLeDiff, Nat.reduceMul, Nat.reduceSub, reduceIte, Nat.reduceEqDiff, Nat.reduceAdd, reduceCtorEq]
      rintro vs12 U12 -
      refine call_fun (k_eqAutomaton m0 m0 [a] [a]) (by simp only [rwn_cons, rwn_nil, rwp_cons, rwp_nil, coeL_ints_t, rowIs, boxIs, coe_argN, coe_argNs, coe_ro_o, coeL_nil, coeL_cons, coe_any, coe_val, coe_ro, coe_ro_nil, coe_ro_own, coe_st, coe_st_agg, coe_rp, coe_rp_ptr, coe_clo, coe_own0, coe_ptr0, coeL_intsK, coeL_rws, coeL_rwn, L_hit, L_miss, L_nil, Nat.reduceEqDiff, ne_eq, reduceCtorEq, not_false_eq_true, true_and, and_true, and_self, exists_eq_left, exists_eq_right, List.mem_cons, List.not_mem_nil, or_false, AObj.row.injEq, AObj.box.injEq, exists_eq_left', exists_and_left, exists_eq, Nat.zero_lt_one, Nat.lt_add_one, List.map_cons, List.map_nil, AObj.ver, Nat.reduceLT, not_true_eq_false]) trivial ?_
      simp only [B_laws_FnExactPairAutomaton_15, B_laws_FnExactPairAutomaton_16, B_laws_FnExactPairAutomaton_17, decide_true, Bool.and_self, bne_self_eq_false, wpD_kp, wpD_regi, go_sem, adopt_fun, Int.reduceLT, Int.reduceLE, Int.reduceToNat, Int.reduceNeg, Nat.reduceLT, Nat.reduceLeDiff, Nat.reduceMul, Nat.reduceSub, reduceIte, Nat.reduceEqDiff, Nat.reduceAdd, reduceCtorEq]
      rintro vs13 U13 - vs14 U14 -
      refine call_mark1 (r := 29) (q1 := 911) (k_markAut1 m0 a 1 (by omega) ha.2) rfl rfl (by decide) (by simp only [coeL_cons, coeL_nil, coe_st, coe_val, and_true, true_and]; simp only [Coe]; exact ⟨0, _, _, rfl, rfl, rfl, rfl, rfl⟩) ?_
      simp only [B_laws_FnExactPairAutomaton_18, B_laws_FnExactPairAutomaton_19, wpD_kp, wpD_regi, go_sem, adopt_fun, Int.reduceLT, Int.reduceLE, Int.reduceToNat, Int.reduceNeg, Nat.reduceLT, Nat.reduceLeDiff, Nat.reduceMul, Nat.reduceSub, reduceIte, Nat.reduceEqDiff, Nat.reduceAdd, reduceCtorEq]
      rintro vs15 U15 - vs16 U16 -
      have hneg : ¬ (((1 : Int) + a.length) < 0) := by omega
      have hheld : Fun Try.prog n_laws_heldAutomaton [autA m0 [seqI (1) a.length], iv 1] (iv (1 + a.length)) := by
        have h := k_heldAutomaton m0 [seqI (1) a.length] 1 (by simp only [totX, seqI_len]; omega) (by intro x hx; simp only [List.mem_cons, List.not_mem_nil, or_false] at hx; rcases hx with rfl <;> rw [seqI_len] <;> omega) (by simp [okRows, seqI_len])
        have e : (1 : Int) + totX [seqI (1) a.length] = 1 + a.length := by simp only [totX, seqI_len]; omega
        rw [e] at h; exact h
      refine call_fun hheld (by simp only [rwn_cons, rwn_nil, coeL_ints_t, rowIs, boxIs, coe_argN, coe_argNs, coe_ro_o, coeL_nil, coeL_cons, coe_any, coe_val, coe_ro, coe_ro_nil, coe_ro_own, coe_st, coe_st_agg, coe_rp, coe_rp_ptr, coe_clo, coe_own0, coe_ptr0, coeL_intsK, coeL_rws, coeL_rwn, L_hit, L_miss, L_nil, Nat.reduceEqDiff, ne_eq, reduceCtorEq, not_false_eq_true, true_and, and_true, and_self, exists_eq_left, exists_eq_right, List.mem_cons, List.not_mem_nil, or_false, AObj.row.injEq, AObj.box.injEq, exists_eq_left', exists_and_left, exists_eq, Nat.zero_lt_one, Nat.lt_add_one, List.map_cons, List.map_nil, AObj.ver, Nat.reduceLT, not_true_eq_false]) trivial ?_
      simp only [B_laws_FnExactPairAutomaton_20, B_laws_FnExactPairAutomaton_21, B_laws_FnExactPairAutomaton_22, B_laws_FnExactPairAutomaton_23, B_laws_FnExactPairAutomaton_24, bne_self_eq_false, decide_eq_false hneg, wpD_kp, wpD_regi, go_sem, adopt_fun, Int.reduceLT, Int.reduceLE, Int.reduceToNat, Int.reduceNeg, Nat.reduceLT, Nat.reduceLeDiff, Nat.reduceMul, Nat.reduceSub, reduceIte, Nat.reduceEqDiff, Nat.reduceAdd, reduceCtorEq]
      rintro vs17 U17 - vs18 U18 - vs19 U19 hN19
      refine call_rows2 (k_toMachine n o next out hb_next hc_next hb_out hc_out) (by simp only [coeL_rwo_t, rowIs, boxIs, coe_argN, coe_argNs, coe_ro_o, coeL_nil, coeL_cons, coe_any, coe_val, coe_ro, coe_ro_nil, coe_ro_own, coe_st, coe_st_agg, coe_rp, coe_rp_ptr, coe_clo, coe_own0, coe_ptr0, coeL_intsK, coeL_rws, coeL_rwn, L_hit, L_miss, L_nil, Nat.reduceEqDiff, ne_eq, reduceCtorEq, not_false_eq_true, true_and, and_true, and_self, exists_eq_left, exists_eq_right, List.mem_cons, List.not_mem_nil, or_false, AObj.row.injEq, AObj.box.injEq, exists_eq_left', exists_and_left, exists_eq, Nat.zero_lt_one, Nat.lt_add_one, List.map_cons, List.map_nil, AObj.ver, Nat.reduceLT, not_true_eq_false]) rfl rfl ?_
      intro v7 v8
      try simp only [List.map_cons, List.map_nil, List.cons_append, List.nil_append, wpD_kp, wpD_regi, go_sem, adopt_fun, Int.reduceLT, Int.reduceLE, Int.reduceToNat, Int.reduceNeg, Nat.reduceLT, Nat.reduceLeDiff, Nat.reduceMul, Nat.reduceSub, reduceIte, Nat.reduceEqDiff, Nat.reduceAdd, reduceCtorEq]
      refine call_namT (fun x y e => (hN19.inj _ _ _ _ e).2) KI (by simp only [rowIs, boxIs, coe_argN, coe_argNs, coe_ro_o, coeL_nil, coeL_cons, coe_any, coe_val, coe_ro, coe_ro_nil, coe_ro_own, coe_st, coe_st_agg, coe_rp, coe_rp_ptr, coe_clo, coe_own0, coe_ptr0, coeL_intsK, coeL_rws, coeL_rwn, L_hit, L_miss, L_nil, Nat.reduceEqDiff, ne_eq, reduceCtorEq, not_false_eq_true, true_and, and_true, and_self, exists_eq_left, exists_eq_right, List.mem_cons, List.not_mem_nil, or_false, AObj.row.injEq, AObj.box.injEq, exists_eq_left', exists_and_left, exists_eq, Nat.zero_lt_one, Nat.lt_add_one, List.map_cons, List.map_nil, AObj.ver, Nat.reduceLT, not_true_eq_false]) rfl (fun _ vH pH hH hdH hyH => ?_) (fun h => by cases h)
      obtain ⟨Hp0, rfl⟩ := nam1 hH hdH ha.1
      simp only [B_laws_FnExactPairAutomaton_25, bne_self_eq_false, wpD_kp, wpD_regi, go_sem, adopt_fun, Int.reduceLT, Int.reduceLE, Int.reduceToNat, Int.reduceNeg, Nat.reduceLT, Nat.reduceLeDiff, Nat.reduceMul, Nat.reduceSub, reduceIte, Nat.reduceEqDiff, Nat.reduceAdd, reduceCtorEq]
      rintro vs20 U20 -
      refine call_fun (k_eqAutomaton m0 m0 [a] [a]) (by simp only [rwn_cons, rwn_nil, rwp_cons, rwp_nil, coeL_ints_t, rowIs, boxIs, coe_argN, coe_argNs, coe_ro_o, coeL_nil, coeL_cons, coe_any, coe_val, coe_ro, coe_ro_nil, coe_ro_own, coe_st, coe_st_agg, coe_rp, coe_rp_ptr, coe_clo, coe_own0, coe_ptr0, coeL_intsK, coeL_rws, coeL_rwn, L_hit, L_miss, L_nil, Nat.reduceEqDiff, ne_eq, reduceCtorEq, not_false_eq_true, true_and, and_true, and_self, exists_eq_left, exists_eq_right, List.mem_cons, List.not_mem_nil, or_false, AObj.row.injEq, AObj.box.injEq, exists_eq_left', exists_and_left, exists_eq, Nat.zero_lt_one, Nat.lt_add_one, List.map_cons, List.map_nil, AObj.ver, Nat.reduceLT, not_true_eq_false]) trivial ?_
      simp only [B_laws_FnExactPairAutomaton_26, B_laws_FnExactPairAutomaton_27, B_laws_FnExactPairAutomaton_28, decide_true, Bool.and_self, bne_self_eq_false, wpD_kp, wpD_regi, go_sem, adopt_fun, Int.reduceLT, Int.reduceLE, Int.reduceToNat, Int.reduceNeg, Nat.reduceLT, Nat.reduceLeDiff, Nat.reduceMul, Nat.reduceSub, reduceIte, Nat.reduceEqDiff, Nat.reduceAdd, reduceCtorEq]
      rintro vs21 U21 - vs22 U22 -
      refine call_fun hheld (by simp only [rwn_cons, rwn_nil, coeL_ints_t, rowIs, boxIs, coe_argN, coe_argNs, coe_ro_o, coeL_nil, coeL_cons, coe_any, coe_val, coe_ro, coe_ro_nil, coe_ro_own, coe_st, coe_st_agg, coe_rp, coe_rp_ptr, coe_clo, coe_own0, coe_ptr0, coeL_intsK, coeL_rws, coeL_rwn, L_hit, L_miss, L_nil, Nat.reduceEqDiff, ne_eq, reduceCtorEq, not_false_eq_true, true_and, and_true, and_self, exists_eq_left, exists_eq_right, List.mem_cons, List.not_mem_nil, or_false, AObj.row.injEq, AObj.box.injEq, exists_eq_left', exists_and_left, exists_eq, Nat.zero_lt_one, Nat.lt_add_one, List.map_cons, List.map_nil, AObj.ver, Nat.reduceLT, not_true_eq_false]) trivial ?_
      simp only [B_laws_FnExactPairAutomaton_29, B_laws_FnExactPairAutomaton_30, B_laws_FnExactPairAutomaton_31, B_laws_FnExactPairAutomaton_32, B_laws_FnExactPairAutomaton_33, bne_self_eq_false, decide_eq_false hneg, wpD_kp, wpD_regi, go_sem, adopt_fun, Int.reduceLT, Int.reduceLE, Int.reduceToNat, Int.reduceNeg, Nat.reduceLT, Nat.reduceLeDiff, Nat.reduceMul, Nat.reduceSub, reduceIte, Nat.reduceEqDiff, Nat.reduceAdd, reduceCtorEq]
      try simp
    · -- 2
      have ha := hw a (by simp)
      have hb := hw b (by simp)
      refine call_namT (fun x y e => (hN5.inj _ _ _ _ e).2) KS (by simp only [rowIs, boxIs, coe_argN, coe_argNs, coe_ro_o, coeL_nil, coeL_cons, coe_any, coe_val, coe_ro, coe_ro_nil, coe_ro_own, coe_st, coe_st_agg, coe_rp, coe_rp_ptr, coe_clo, coe_own0, coe_ptr0, coeL_intsK, coeL_rws, coeL_rwn, L_hit, L_miss, L_nil, Nat.reduceEqDiff, ne_eq, reduceCtorEq, not_false_eq_true, true_and, and_true, and_self, exists_eq_left, exists_eq_right, List.mem_cons, List.not_mem_nil, or_false, AObj.row.injEq, AObj.box.injEq, exists_eq_left', exists_and_left, exists_eq, Nat.zero_lt_one, Nat.lt_add_one, List.map_cons, List.map_nil, AObj.ver, Nat.reduceLT, not_true_eq_false]) rfl (fun _ vS pS hS hdS hyS => ?_) (fun h => by cases h)
      obtain ⟨Sp0, Sp1, rfl, Se01⟩ := nam2 hS hdS ha.1 hb.1
      simp only [B_laws_FnExactPairAutomaton_6, wpD_kp, wpD_regi, wpD_gh, go_sem, adopt_fun, Int.reduceLT, Int.reduceLE, Int.reduceToNat, Int.reduceNeg, Nat.reduceLT, Nat.reduceLeDiff, Nat.reduceMul, Nat.reduceSub, reduceIte, Nat.reduceEqDiff, Nat.reduceAdd, reduceCtorEq]
      intro _
      refine ⟨[.thaw 22 0 901, .thaw 22 1 902], ?_⟩
      refine gwp_thaw rfl rfl (ints_ne ha.1) rfl fun Sm0 => ?_
      simp only [wo_ne (Ne.symm Se01), woT, woO, woL_cons, woL_nil, woV_val, woV_own, wo_ptr, wo_o, woL_ints, woL_rwo, wo_st, woO_row, woO_box, woO_gone, wo_any, rwp_cons, rwp_nil, go_sem, adopt_fun, Int.reduceLT, Int.reduceLE, Int.reduceToNat, Int.reduceNeg, Nat.reduceLT, Nat.reduceLeDiff, Nat.reduceMul, Nat.reduceSub, reduceIte, Nat.reduceEqDiff, Nat.reduceAdd, reduceCtorEq]
      refine gwp_thaw rfl rfl (ints_ne hb.1) rfl fun Sm1 => ?_
      simp only [wo_ne Se01, woT, woO, woL_cons, woL_nil, woV_val, woV_own, wo_ptr, wo_o, woL_ints, woL_rwo, wo_st, woO_row, woO_box, woO_gone, wo_any, rwp_cons, rwp_nil, go_sem, adopt_fun, Int.reduceLT, Int.reduceLE, Int.reduceToNat, Int.reduceNeg, Nat.reduceLT, Nat.reduceLeDiff, Nat.reduceMul, Nat.reduceSub, reduceIte, Nat.reduceEqDiff, Nat.reduceAdd, reduceCtorEq]
      simp only [gwp_nil, wpD_kp, wpD_regi, go_sem, adopt_fun, Int.reduceLT, Int.reduceLE, Int.reduceToNat, Int.reduceNeg, Nat.reduceLT, Nat.reduceLeDiff, Nat.reduceMul, Nat.reduceSub, reduceIte, Nat.reduceEqDiff, Nat.reduceAdd, reduceCtorEq]
      try simp only [wpD_kp, wpD_regi, go_sem, adopt_fun, Int.reduceLT, Int.reduceLE, Int.reduceToNat, Int.reduceNeg, Nat.reduceLT, Nat.reduceLeDiff, Nat.reduceMul, Nat.reduceSub, reduceIte, Nat.reduceEqDiff, Nat.reduceAdd, reduceCtorEq]
      rintro vs6 U6 hN6
      refine call_machN (fun x y e => (hN6.inj _ _ _ _ e).2) (k_toMachineN n o next out hb_next hc_next hb_out hc_out) (by simp only [coeL_rwo_t, rowIs, boxIs, coe_argN, coe_argNs, coe_ro_o, coeL_nil, coeL_cons, coe_any, coe_val, coe_ro, coe_ro_nil, coe_ro_own, coe_st, coe_st_agg, coe_rp, coe_rp_ptr, coe_clo, coe_own0, coe_ptr0, coeL_intsK, coeL_rws, coeL_rwn, L_hit, L_miss, L_nil, Nat.reduceEqDiff, ne_eq, reduceCtorEq, not_false_eq_true, true_and, and_true, and_self, exists_eq_left, exists_eq_right, List.mem_cons, List.not_mem_nil, or_false, AObj.row.injEq, AObj.box.injEq, exists_eq_left', exists_and_left, exists_eq, Nat.zero_lt_one, Nat.lt_add_one, List.map_cons, List.map_nil, AObj.ver, Nat.reduceLT, not_true_eq_false]) rfl rfl ?_
      intro v3 v4 ps_next ps_out hps_next hps_out hdj
      clear hN6
      have htt_next : totL ps_next ≤ 1048576 := by have h := szLL_tot (ps := ps_next) (l := 1048576) (by rw [hps_next]; omega) (by omega); omega
      have htn_next := totL_nn ps_next
      have hdp_next : ∀ p ∈ ps_next, (p.2.length : Int) ≤ 1000000000 := fun p hp => hd_next p.2 (by rw [← hps_next]; exact List.mem_map_of_mem hp)
      have htt_out : totL ps_out ≤ 1048576 := by have h := szLL_tot (ps := ps_out) (l := (szLL next 1048576)) (by rw [hps_out]; omega) (by omega); omega
      have htn_out := totL_nn ps_out
      have hdp_out : ∀ p ∈ ps_out, (p.2.length : Int) ≤ 1000000000 := fun p hp => hd_out p.2 (by rw [← hps_out]; exact List.mem_map_of_mem hp)
      simp only [B_laws_FnExactPairAutomaton_7, wpD_kp, wpD_regi, go_sem, adopt_fun, Int.reduceLT, Int.reduceLE, Int.reduceToNat, Int.reduceNeg, Nat.reduceLT, Nat.reduceLeDiff, Nat.reduceMul, Nat.reduceSub, reduceIte, Nat.reduceEqDiff, Nat.reduceAdd, reduceCtorEq]
      rintro vs7 U7 hN7
      refine call_namT (fun x y e => (hN7.inj _ _ _ _ e).2) KI (by simp only [← hps_next, ← hps_out, coeL_rwp_t, rowIs, boxIs, coe_argN, coe_argNs, coe_ro_o, coeL_nil, coeL_cons, coe_any, coe_val, coe_ro, coe_ro_nil, coe_ro_own, coe_st, coe_st_agg, coe_rp, coe_rp_ptr, coe_clo, coe_own0, coe_ptr0, coeL_intsK, coeL_rws, coeL_rwn, L_hit, L_miss, L_nil, Nat.reduceEqDiff, ne_eq, reduceCtorEq, not_false_eq_true, true_and, and_true, and_self, exists_eq_left, exists_eq_right, List.mem_cons, List.not_mem_nil, or_false, AObj.row.injEq, AObj.box.injEq, exists_eq_left', exists_and_left, exists_eq, Nat.zero_lt_one, Nat.lt_add_one, List.map_cons, List.map_nil, AObj.ver, Nat.reduceLT, not_true_eq_false]) rfl (fun _ vG pG hG hdG hyG => ?_) (fun h => by cases h)
      obtain ⟨Gp0, Gp1, rfl, Ge01⟩ := nam2 hG hdG ha.1 hb.1
      have hU_next := hN7.hp 26
      simp only [AObj.uses, go_sem, adopt_fun, Int.reduceLT, Int.reduceLE, Int.reduceToNat, Int.reduceNeg, Nat.reduceLT, Nat.reduceLeDiff, Nat.reduceMul, Nat.reduceSub, reduceIte, Nat.reduceEqDiff, Nat.reduceAdd, reduceCtorEq] at hU_next
      have hold_next := usesL_rwp (rest := []) (by rw [List.append_nil]; exact hU_next.2)
      have hf_next0 : ∀ p ∈ ps_next, p.2 = [] ∨ p.1 ≠ Gp0 := fun p hp => by
        obtain ⟨y, e⟩ := hyG (Gp0, a) (by simp)
        rcases hold_next p hp with h | h
        · exact .inl h
        · exact .inr fun e2 => hN7.new _ y (by rw [← e]; exact e2 ▸ h)
      have hf_next1 : ∀ p ∈ ps_next, p.2 = [] ∨ p.1 ≠ Gp1 := fun p hp => by
        obtain ⟨y, e⟩ := hyG (Gp1, b) (by simp)
        rcases hold_next p hp with h | h
        · exact .inl h
        · exact .inr fun e2 => hN7.new _ y (by rw [← e]; exact e2 ▸ h)
      have hU_out := hN7.hp 1026
      simp only [AObj.uses, go_sem, adopt_fun, Int.reduceLT, Int.reduceLE, Int.reduceToNat, Int.reduceNeg, Nat.reduceLT, Nat.reduceLeDiff, Nat.reduceMul, Nat.reduceSub, reduceIte, Nat.reduceEqDiff, Nat.reduceAdd, reduceCtorEq] at hU_out
      have hold_out := usesL_rwp (rest := []) (by rw [List.append_nil]; exact hU_out.2)
      have hf_out0 : ∀ p ∈ ps_out, p.2 = [] ∨ p.1 ≠ Gp0 := fun p hp => by
        obtain ⟨y, e⟩ := hyG (Gp0, a) (by simp)
        rcases hold_out p hp with h | h
        · exact .inl h
        · exact .inr fun e2 => hN7.new _ y (by rw [← e]; exact e2 ▸ h)
      have hf_out1 : ∀ p ∈ ps_out, p.2 = [] ∨ p.1 ≠ Gp1 := fun p hp => by
        obtain ⟨y, e⟩ := hyG (Gp1, b) (by simp)
        rcases hold_out p hp with h | h
        · exact .inl h
        · exact .inr fun e2 => hN7.new _ y (by rw [← e]; exact e2 ▸ h)
      simp only [B_laws_FnExactPairAutomaton_8, bne_self_eq_false, wpD_kp, wpD_regi, wpD_gh, go_sem, adopt_fun, Int.reduceLT, Int.reduceLE, Int.reduceToNat, Int.reduceNeg, Nat.reduceLT, Nat.reduceLeDiff, Nat.reduceMul, Nat.reduceSub, reduceIte, Nat.reduceEqDiff, Nat.reduceAdd, reduceCtorEq]
      intro _
      refine ⟨[.thaw 29 0 911, .thaw 29 1 912], ?_⟩
      refine gwp_thaw rfl rfl (ints_ne ha.1) rfl fun Gm0 => ?_
      simp only [wo_ne (Ne.symm Ge01), woL_rwp hf_next0, woL_rwp hf_out0, woT, woO, woL_cons, woL_nil, woV_val, woV_own, wo_ptr, wo_o, woL_ints, woL_rwo, wo_st, woO_row, woO_box, woO_gone, wo_any, rwp_cons, rwp_nil, go_sem, adopt_fun, Int.reduceLT, Int.reduceLE, Int.reduceToNat, Int.reduceNeg, Nat.reduceLT, Nat.reduceLeDiff, Nat.reduceMul, Nat.reduceSub, reduceIte, Nat.reduceEqDiff, Nat.reduceAdd, reduceCtorEq]
      refine gwp_thaw rfl rfl (ints_ne hb.1) rfl fun Gm1 => ?_
      simp only [wo_ne Ge01, woL_rwp hf_next1, woL_rwp hf_out1, woT, woO, woL_cons, woL_nil, woV_val, woV_own, wo_ptr, wo_o, woL_ints, woL_rwo, wo_st, woO_row, woO_box, woO_gone, wo_any, rwp_cons, rwp_nil, go_sem, adopt_fun, Int.reduceLT, Int.reduceLE, Int.reduceToNat, Int.reduceNeg, Nat.reduceLT, Nat.reduceLeDiff, Nat.reduceMul, Nat.reduceSub, reduceIte, Nat.reduceEqDiff, Nat.reduceAdd, reduceCtorEq]
      simp only [gwp_nil, wpD_kp, wpD_regi, go_sem, adopt_fun, Int.reduceLT, Int.reduceLE, Int.reduceToNat, Int.reduceNeg, Nat.reduceLT, Nat.reduceLeDiff, Nat.reduceMul, Nat.reduceSub, reduceIte, Nat.reduceEqDiff, Nat.reduceAdd, reduceCtorEq]
      try simp only [wpD_kp, wpD_regi, go_sem, adopt_fun, Int.reduceLT, Int.reduceLE, Int.reduceToNat, Int.reduceNeg, Nat.reduceLT, Nat.reduceLeDiff, Nat.reduceMul, Nat.reduceSub, reduceIte, Nat.reduceEqDiff, Nat.reduceAdd, reduceCtorEq]
      rintro vs8 U8 -
      refine call_fun (k_eqAutomaton m0 m0 [a, b] [a, b]) (by simp only [rwn_cons, rwn_nil, rwp_cons, rwp_nil, coeL_ints_t, rowIs, boxIs, coe_argN, coe_argNs, coe_ro_o, coeL_nil, coeL_cons, coe_any, coe_val, coe_ro, coe_ro_nil, coe_ro_own, coe_st, coe_st_agg, coe_rp, coe_rp_ptr, coe_clo, coe_own0, coe_ptr0, coeL_intsK, coeL_rws, coeL_rwn, L_hit, L_miss, L_nil, Nat.reduceEqDiff, ne_eq, reduceCtorEq, not_false_eq_true, true_and, and_true, and_self, exists_eq_left, exists_eq_right, List.mem_cons, List.not_mem_nil, or_false, AObj.row.injEq, AObj.box.injEq, exists_eq_left', exists_and_left, exists_eq, Nat.zero_lt_one, Nat.lt_add_one, List.map_cons, List.map_nil, AObj.ver, Nat.reduceLT, not_true_eq_false]) trivial ?_
      simp only [B_laws_FnExactPairAutomaton_9, B_laws_FnExactPairAutomaton_10, decide_true, Bool.and_self, bne_self_eq_false, wpD_kp, wpD_regi, go_sem, adopt_fun, Int.reduceLT, Int.reduceLE, Int.reduceToNat, Int.reduceNeg, Nat.reduceLT, Nat.reduceLeDiff, Nat.reduceMul, Nat.reduceSub, reduceIte, Nat.reduceEqDiff, Nat.reduceAdd, reduceCtorEq]
      rintro vs9 U9 -
      refine call_rows2 (k_toMachine n o next out hb_next hc_next hb_out hc_out) (by simp only [coeL_rwo_t, rowIs, boxIs, coe_argN, coe_argNs, coe_ro_o, coeL_nil, coeL_cons, coe_any, coe_val, coe_ro, coe_ro_nil, coe_ro_own, coe_st, coe_st_agg, coe_rp, coe_rp_ptr, coe_clo, coe_own0, coe_ptr0, coeL_intsK, coeL_rws, coeL_rwn, L_hit, L_miss, L_nil, Nat.reduceEqDiff, ne_eq, reduceCtorEq, not_false_eq_true, true_and, and_true, and_self, exists_eq_left, exists_eq_right, List.mem_cons, List.not_mem_nil, or_false, AObj.row.injEq, AObj.box.injEq, exists_eq_left', exists_and_left, exists_eq, Nat.zero_lt_one, Nat.lt_add_one, List.map_cons, List.map_nil, AObj.ver, Nat.reduceLT, not_true_eq_false]) rfl rfl ?_
      intro v5 v6
      try simp only [List.map_cons, List.map_nil, List.cons_append, List.nil_append, wpD_kp, wpD_regi, go_sem, adopt_fun, Int.reduceLT, Int.reduceLE, Int.reduceToNat, Int.reduceNeg, Nat.reduceLT, Nat.reduceLeDiff, Nat.reduceMul, Nat.reduceSub, reduceIte, Nat.reduceEqDiff, Nat.reduceAdd, reduceCtorEq]
      refine call_fun (k_eqMachine n n o o next out next out) (by simp only [← hps_next, ← hps_out, coeL_rwp_t, rowIs, boxIs, coe_argN, coe_argNs, coe_ro_o, coeL_nil, coeL_cons, coe_any, coe_val, coe_ro, coe_ro_nil, coe_ro_own, coe_st, coe_st_agg, coe_rp, coe_rp_ptr, coe_clo, coe_own0, coe_ptr0, coeL_intsK, coeL_rws, coeL_rwn, L_hit, L_miss, L_nil, Nat.reduceEqDiff, ne_eq, reduceCtorEq, not_false_eq_true, true_and, and_true, and_self, exists_eq_left, exists_eq_right, List.mem_cons, List.not_mem_nil, or_false, AObj.row.injEq, AObj.box.injEq, exists_eq_left', exists_and_left, exists_eq, Nat.zero_lt_one, Nat.lt_add_one, List.map_cons, List.map_nil, AObj.ver, Nat.reduceLT, not_true_eq_false]) trivial ?_
      simp only [B_laws_FnExactPairAutomaton_11, B_laws_FnExactPairAutomaton_12, B_laws_FnExactPairAutomaton_13, decide_true, Bool.and_self, bne_self_eq_false, wpD_kp, wpD_regi, go_sem, adopt_fun, Int.reduceLT, Int.reduceLE, Int.reduceToNat, Int.reduceNeg, Nat.reduceLT, Nat.reduceLeDiff, Nat.reduceMul, Nat.reduceSub, reduceIte, Nat.reduceEqDiff, Nat.reduceAdd, reduceCtorEq]
      rintro vs10 U10 - vs11 U11 -
      refine call_hav (k_markMachine n o ps_next ps_out hdj 1 (by omega) hdp_next hdp_out) ?_ ?_
      · simp only [coeHL_cons, coeHL_nil, coeH_val, coeH_st, and_true, true_and]
        refine ⟨?_, ?_⟩ <;> exact coeH_own (nn := true) (by simp only [go_sem, adopt_fun, Int.reduceLT, Int.reduceLE, Int.reduceToNat, Int.reduceNeg, Nat.reduceLT, Nat.reduceLeDiff, Nat.reduceMul, Nat.reduceSub, reduceIte, Nat.reduceEqDiff, Nat.reduceAdd, reduceCtorEq])
      rintro x ⟨k3, rfl, hk3a, hk3b⟩
      have hkn3 : ¬ (k3 < 0) := by omega
      simp only [B_laws_FnExactPairAutomaton_14, cl_L, clT, clO, clV_any, clV_val, clV_own, clV_ptr, clV_st, clV_o, clL_ints, clL_rwo, clL_cons, clL_nil, clR_row, clR_box, clR_gone, decide_eq_false hkn3, wpD_kp, wpD_regi, go_sem, adopt_fun, Int.reduceLT, Int.reduceLE, Int.reduceToNat, Int.reduceNeg, Nat.reduceLT, Nat.reduceLeDiff, Nat.reduceMul, Nat.reduceSub, reduceIte, Nat.reduceEqDiff, Nat.reduceAdd, reduceCtorEq]
      rintro vs12 U12 -
      refine call_fun (k_eqAutomaton m0 m0 [a, b] [a, b]) (by simp only [rwn_cons, rwn_nil, rwp_cons, rwp_nil, coeL_ints_t, rowIs, boxIs, coe_argN, coe_argNs, coe_ro_o, coeL_nil, coeL_cons, coe_any, coe_val, coe_ro, coe_ro_nil, coe_ro_own, coe_st, coe_st_agg, coe_rp, coe_rp_ptr, coe_clo, coe_own0, coe_ptr0, coeL_intsK, coeL_rws, coeL_rwn, L_hit, L_miss, L_nil, Nat.reduceEqDiff, ne_eq, reduceCtorEq, not_false_eq_true, true_and, and_true, and_self, exists_eq_left, exists_eq_right, List.mem_cons, List.not_mem_nil, or_false, AObj.row.injEq, AObj.box.injEq, exists_eq_left', exists_and_left, exists_eq, Nat.zero_lt_one, Nat.lt_add_one, List.map_cons, List.map_nil, AObj.ver, Nat.reduceLT, not_true_eq_false]) trivial ?_
      simp only [B_laws_FnExactPairAutomaton_15, B_laws_FnExactPairAutomaton_16, B_laws_FnExactPairAutomaton_17, decide_true, Bool.and_self, bne_self_eq_false, wpD_kp, wpD_regi, go_sem, adopt_fun, Int.reduceLT, Int.reduceLE, Int.reduceToNat, Int.reduceNeg, Nat.reduceLT, Nat.reduceLeDiff, Nat.reduceMul, Nat.reduceSub, reduceIte, Nat.reduceEqDiff, Nat.reduceAdd, reduceCtorEq]
      rintro vs13 U13 - vs14 U14 -
      refine call_mark2 (r := 29) (q1 := 911) (q2 := 912) (k_markAut2 m0 a b 1 (by omega) ha.2 hb.2) rfl rfl rfl (by decide) (by simp only [coeL_cons, coeL_nil, coe_st, coe_val, and_true, true_and]; simp only [Coe]; exact ⟨0, _, _, rfl, rfl, rfl, rfl, rfl⟩) ?_
      simp only [B_laws_FnExactPairAutomaton_18, B_laws_FnExactPairAutomaton_19, wpD_kp, wpD_regi, go_sem, adopt_fun, Int.reduceLT, Int.reduceLE, Int.reduceToNat, Int.reduceNeg, Nat.reduceLT, Nat.reduceLeDiff, Nat.reduceMul, Nat.reduceSub, reduceIte, Nat.reduceEqDiff, Nat.reduceAdd, reduceCtorEq]
      rintro vs15 U15 - vs16 U16 -
      have hneg : ¬ (((1 : Int) + a.length + b.length) < 0) := by omega
      have hheld : Fun Try.prog n_laws_heldAutomaton [autA m0 [seqI (1) a.length, seqI (1 + a.length) b.length], iv 1] (iv (1 + a.length + b.length)) := by
        have h := k_heldAutomaton m0 [seqI (1) a.length, seqI (1 + a.length) b.length] 1 (by simp only [totX, seqI_len]; omega) (by intro x hx; simp only [List.mem_cons, List.not_mem_nil, or_false] at hx; rcases hx with rfl | rfl <;> rw [seqI_len] <;> omega) (by simp [okRows, seqI_len])
        have e : (1 : Int) + totX [seqI (1) a.length, seqI (1 + a.length) b.length] = 1 + a.length + b.length := by simp only [totX, seqI_len]; omega
        rw [e] at h; exact h
      refine call_fun hheld (by simp only [rwn_cons, rwn_nil, coeL_ints_t, rowIs, boxIs, coe_argN, coe_argNs, coe_ro_o, coeL_nil, coeL_cons, coe_any, coe_val, coe_ro, coe_ro_nil, coe_ro_own, coe_st, coe_st_agg, coe_rp, coe_rp_ptr, coe_clo, coe_own0, coe_ptr0, coeL_intsK, coeL_rws, coeL_rwn, L_hit, L_miss, L_nil, Nat.reduceEqDiff, ne_eq, reduceCtorEq, not_false_eq_true, true_and, and_true, and_self, exists_eq_left, exists_eq_right, List.mem_cons, List.not_mem_nil, or_false, AObj.row.injEq, AObj.box.injEq, exists_eq_left', exists_and_left, exists_eq, Nat.zero_lt_one, Nat.lt_add_one, List.map_cons, List.map_nil, AObj.ver, Nat.reduceLT, not_true_eq_false]) trivial ?_
      simp only [B_laws_FnExactPairAutomaton_20, B_laws_FnExactPairAutomaton_21, B_laws_FnExactPairAutomaton_22, B_laws_FnExactPairAutomaton_23, B_laws_FnExactPairAutomaton_24, bne_self_eq_false, decide_eq_false hneg, wpD_kp, wpD_regi, go_sem, adopt_fun, Int.reduceLT, Int.reduceLE, Int.reduceToNat, Int.reduceNeg, Nat.reduceLT, Nat.reduceLeDiff, Nat.reduceMul, Nat.reduceSub, reduceIte, Nat.reduceEqDiff, Nat.reduceAdd, reduceCtorEq]
      rintro vs17 U17 - vs18 U18 - vs19 U19 hN19
      refine call_rows2 (k_toMachine n o next out hb_next hc_next hb_out hc_out) (by simp only [coeL_rwo_t, rowIs, boxIs, coe_argN, coe_argNs, coe_ro_o, coeL_nil, coeL_cons, coe_any, coe_val, coe_ro, coe_ro_nil, coe_ro_own, coe_st, coe_st_agg, coe_rp, coe_rp_ptr, coe_clo, coe_own0, coe_ptr0, coeL_intsK, coeL_rws, coeL_rwn, L_hit, L_miss, L_nil, Nat.reduceEqDiff, ne_eq, reduceCtorEq, not_false_eq_true, true_and, and_true, and_self, exists_eq_left, exists_eq_right, List.mem_cons, List.not_mem_nil, or_false, AObj.row.injEq, AObj.box.injEq, exists_eq_left', exists_and_left, exists_eq, Nat.zero_lt_one, Nat.lt_add_one, List.map_cons, List.map_nil, AObj.ver, Nat.reduceLT, not_true_eq_false]) rfl rfl ?_
      intro v7 v8
      try simp only [List.map_cons, List.map_nil, List.cons_append, List.nil_append, wpD_kp, wpD_regi, go_sem, adopt_fun, Int.reduceLT, Int.reduceLE, Int.reduceToNat, Int.reduceNeg, Nat.reduceLT, Nat.reduceLeDiff, Nat.reduceMul, Nat.reduceSub, reduceIte, Nat.reduceEqDiff, Nat.reduceAdd, reduceCtorEq]
      refine call_namT (fun x y e => (hN19.inj _ _ _ _ e).2) KI (by simp only [rowIs, boxIs, coe_argN, coe_argNs, coe_ro_o, coeL_nil, coeL_cons, coe_any, coe_val, coe_ro, coe_ro_nil, coe_ro_own, coe_st, coe_st_agg, coe_rp, coe_rp_ptr, coe_clo, coe_own0, coe_ptr0, coeL_intsK, coeL_rws, coeL_rwn, L_hit, L_miss, L_nil, Nat.reduceEqDiff, ne_eq, reduceCtorEq, not_false_eq_true, true_and, and_true, and_self, exists_eq_left, exists_eq_right, List.mem_cons, List.not_mem_nil, or_false, AObj.row.injEq, AObj.box.injEq, exists_eq_left', exists_and_left, exists_eq, Nat.zero_lt_one, Nat.lt_add_one, List.map_cons, List.map_nil, AObj.ver, Nat.reduceLT, not_true_eq_false]) rfl (fun _ vH pH hH hdH hyH => ?_) (fun h => by cases h)
      obtain ⟨Hp0, Hp1, rfl, He01⟩ := nam2 hH hdH ha.1 hb.1
      simp only [B_laws_FnExactPairAutomaton_25, bne_self_eq_false, wpD_kp, wpD_regi, go_sem, adopt_fun, Int.reduceLT, Int.reduceLE, Int.reduceToNat, Int.reduceNeg, Nat.reduceLT, Nat.reduceLeDiff, Nat.reduceMul, Nat.reduceSub, reduceIte, Nat.reduceEqDiff, Nat.reduceAdd, reduceCtorEq]
      rintro vs20 U20 -
      refine call_fun (k_eqAutomaton m0 m0 [a, b] [a, b]) (by simp only [rwn_cons, rwn_nil, rwp_cons, rwp_nil, coeL_ints_t, rowIs, boxIs, coe_argN, coe_argNs, coe_ro_o, coeL_nil, coeL_cons, coe_any, coe_val, coe_ro, coe_ro_nil, coe_ro_own, coe_st, coe_st_agg, coe_rp, coe_rp_ptr, coe_clo, coe_own0, coe_ptr0, coeL_intsK, coeL_rws, coeL_rwn, L_hit, L_miss, L_nil, Nat.reduceEqDiff, ne_eq, reduceCtorEq, not_false_eq_true, true_and, and_true, and_self, exists_eq_left, exists_eq_right, List.mem_cons, List.not_mem_nil, or_false, AObj.row.injEq, AObj.box.injEq, exists_eq_left', exists_and_left, exists_eq, Nat.zero_lt_one, Nat.lt_add_one, List.map_cons, List.map_nil, AObj.ver, Nat.reduceLT, not_true_eq_false]) trivial ?_
      simp only [B_laws_FnExactPairAutomaton_26, B_laws_FnExactPairAutomaton_27, B_laws_FnExactPairAutomaton_28, decide_true, Bool.and_self, bne_self_eq_false, wpD_kp, wpD_regi, go_sem, adopt_fun, Int.reduceLT, Int.reduceLE, Int.reduceToNat, Int.reduceNeg, Nat.reduceLT, Nat.reduceLeDiff, Nat.reduceMul, Nat.reduceSub, reduceIte, Nat.reduceEqDiff, Nat.reduceAdd, reduceCtorEq]
      rintro vs21 U21 - vs22 U22 -
      refine call_fun hheld (by simp only [rwn_cons, rwn_nil, coeL_ints_t, rowIs, boxIs, coe_argN, coe_argNs, coe_ro_o, coeL_nil, coeL_cons, coe_any, coe_val, coe_ro, coe_ro_nil, coe_ro_own, coe_st, coe_st_agg, coe_rp, coe_rp_ptr, coe_clo, coe_own0, coe_ptr0, coeL_intsK, coeL_rws, coeL_rwn, L_hit, L_miss, L_nil, Nat.reduceEqDiff, ne_eq, reduceCtorEq, not_false_eq_true, true_and, and_true, and_self, exists_eq_left, exists_eq_right, List.mem_cons, List.not_mem_nil, or_false, AObj.row.injEq, AObj.box.injEq, exists_eq_left', exists_and_left, exists_eq, Nat.zero_lt_one, Nat.lt_add_one, List.map_cons, List.map_nil, AObj.ver, Nat.reduceLT, not_true_eq_false]) trivial ?_
      simp only [B_laws_FnExactPairAutomaton_29, B_laws_FnExactPairAutomaton_30, B_laws_FnExactPairAutomaton_31, B_laws_FnExactPairAutomaton_32, B_laws_FnExactPairAutomaton_33, bne_self_eq_false, decide_eq_false hneg, wpD_kp, wpD_regi, go_sem, adopt_fun, Int.reduceLT, Int.reduceLE, Int.reduceToNat, Int.reduceNeg, Nat.reduceLT, Nat.reduceLeDiff, Nat.reduceMul, Nat.reduceSub, reduceIte, Nat.reduceEqDiff, Nat.reduceAdd, reduceCtorEq]
      try simp
    · -- 3
      have ha := hw a (by simp)
      have hb := hw b (by simp)
      have hc := hw c (by simp)
      refine call_namT (fun x y e => (hN5.inj _ _ _ _ e).2) KS (by simp only [rowIs, boxIs, coe_argN, coe_argNs, coe_ro_o, coeL_nil, coeL_cons, coe_any, coe_val, coe_ro, coe_ro_nil, coe_ro_own, coe_st, coe_st_agg, coe_rp, coe_rp_ptr, coe_clo, coe_own0, coe_ptr0, coeL_intsK, coeL_rws, coeL_rwn, L_hit, L_miss, L_nil, Nat.reduceEqDiff, ne_eq, reduceCtorEq, not_false_eq_true, true_and, and_true, and_self, exists_eq_left, exists_eq_right, List.mem_cons, List.not_mem_nil, or_false, AObj.row.injEq, AObj.box.injEq, exists_eq_left', exists_and_left, exists_eq, Nat.zero_lt_one, Nat.lt_add_one, List.map_cons, List.map_nil, AObj.ver, Nat.reduceLT, not_true_eq_false]) rfl (fun _ vS pS hS hdS hyS => ?_) (fun h => by cases h)
      obtain ⟨Sp0, Sp1, Sp2, rfl, Se01, Se02, Se12⟩ := nam3 hS hdS ha.1 hb.1 hc.1
      simp only [B_laws_FnExactPairAutomaton_6, wpD_kp, wpD_regi, wpD_gh, go_sem, adopt_fun, Int.reduceLT, Int.reduceLE, Int.reduceToNat, Int.reduceNeg, Nat.reduceLT, Nat.reduceLeDiff, Nat.reduceMul, Nat.reduceSub, reduceIte, Nat.reduceEqDiff, Nat.reduceAdd, reduceCtorEq]
      intro _
      refine ⟨[.thaw 22 0 901, .thaw 22 1 902, .thaw 22 2 903], ?_⟩
      refine gwp_thaw rfl rfl (ints_ne ha.1) rfl fun Sm0 => ?_
      simp only [wo_ne (Ne.symm Se01), wo_ne (Ne.symm Se02), woT, woO, woL_cons, woL_nil, woV_val, woV_own, wo_ptr, wo_o, woL_ints, woL_rwo, wo_st, woO_row, woO_box, woO_gone, wo_any, rwp_cons, rwp_nil, go_sem, adopt_fun, Int.reduceLT, Int.reduceLE, Int.reduceToNat, Int.reduceNeg, Nat.reduceLT, Nat.reduceLeDiff, Nat.reduceMul, Nat.reduceSub, reduceIte, Nat.reduceEqDiff, Nat.reduceAdd, reduceCtorEq]
      refine gwp_thaw rfl rfl (ints_ne hb.1) rfl fun Sm1 => ?_
      simp only [wo_ne Se01, wo_ne (Ne.symm Se12), woT, woO, woL_cons, woL_nil, woV_val, woV_own, wo_ptr, wo_o, woL_ints, woL_rwo, wo_st, woO_row, woO_box, woO_gone, wo_any, rwp_cons, rwp_nil, go_sem, adopt_fun, Int.reduceLT, Int.reduceLE, Int.reduceToNat, Int.reduceNeg, Nat.reduceLT, Nat.reduceLeDiff, Nat.reduceMul, Nat.reduceSub, reduceIte, Nat.reduceEqDiff, Nat.reduceAdd, reduceCtorEq]
      refine gwp_thaw rfl rfl (ints_ne hc.1) rfl fun Sm2 => ?_
      simp only [wo_ne Se02, wo_ne Se12, woT, woO, woL_cons, woL_nil, woV_val, woV_own, wo_ptr, wo_o, woL_ints, woL_rwo, wo_st, woO_row, woO_box, woO_gone, wo_any, rwp_cons, rwp_nil, go_sem, adopt_fun, Int.reduceLT, Int.reduceLE, Int.reduceToNat, Int.reduceNeg, Nat.reduceLT, Nat.reduceLeDiff, Nat.reduceMul, Nat.reduceSub, reduceIte, Nat.reduceEqDiff, Nat.reduceAdd, reduceCtorEq]
      simp only [gwp_nil, wpD_kp, wpD_regi, go_sem, adopt_fun, Int.reduceLT, Int.reduceLE, Int.reduceToNat, Int.reduceNeg, Nat.reduceLT, Nat.reduceLeDiff, Nat.reduceMul, Nat.reduceSub, reduceIte, Nat.reduceEqDiff, Nat.reduceAdd, reduceCtorEq]
      try simp only [wpD_kp, wpD_regi, go_sem, adopt_fun, Int.reduceLT, Int.reduceLE, Int.reduceToNat, Int.reduceNeg, Nat.reduceLT, Nat.reduceLeDiff, Nat.reduceMul, Nat.reduceSub, reduceIte, Nat.reduceEqDiff, Nat.reduceAdd, reduceCtorEq]
      rintro vs6 U6 hN6
      refine call_machN (fun x y e => (hN6.inj _ _ _ _ e).2) (k_toMachineN n o next out hb_next hc_next hb_out hc_out) (by simp only [coeL_rwo_t, rowIs, boxIs, coe_argN, coe_argNs, coe_ro_o, coeL_nil, coeL_cons, coe_any, coe_val, coe_ro, coe_ro_nil, coe_ro_own, coe_st, coe_st_agg, coe_rp, coe_rp_ptr, coe_clo, coe_own0, coe_ptr0, coeL_intsK, coeL_rws, coeL_rwn, L_hit, L_miss, L_nil, Nat.reduceEqDiff, ne_eq, reduceCtorEq, not_false_eq_true, true_and, and_true, and_self, exists_eq_left, exists_eq_right, List.mem_cons, List.not_mem_nil, or_false, AObj.row.injEq, AObj.box.injEq, exists_eq_left', exists_and_left, exists_eq, Nat.zero_lt_one, Nat.lt_add_one, List.map_cons, List.map_nil, AObj.ver, Nat.reduceLT, not_true_eq_false]) rfl rfl ?_
      intro v3 v4 ps_next ps_out hps_next hps_out hdj
      clear hN6
      have htt_next : totL ps_next ≤ 1048576 := by have h := szLL_tot (ps := ps_next) (l := 1048576) (by rw [hps_next]; omega) (by omega); omega
      have htn_next := totL_nn ps_next
      have hdp_next : ∀ p ∈ ps_next, (p.2.length : Int) ≤ 1000000000 := fun p hp => hd_next p.2 (by rw [← hps_next]; exact List.mem_map_of_mem hp)
      have htt_out : totL ps_out ≤ 1048576 := by have h := szLL_tot (ps := ps_out) (l := (szLL next 1048576)) (by rw [hps_out]; omega) (by omega); omega
      have htn_out := totL_nn ps_out
      have hdp_out : ∀ p ∈ ps_out, (p.2.length : Int) ≤ 1000000000 := fun p hp => hd_out p.2 (by rw [← hps_out]; exact List.mem_map_of_mem hp)
      simp only [B_laws_FnExactPairAutomaton_7, wpD_kp, wpD_regi, go_sem, adopt_fun, Int.reduceLT, Int.reduceLE, Int.reduceToNat, Int.reduceNeg, Nat.reduceLT, Nat.reduceLeDiff, Nat.reduceMul, Nat.reduceSub, reduceIte, Nat.reduceEqDiff, Nat.reduceAdd, reduceCtorEq]
      rintro vs7 U7 hN7
      refine call_namT (fun x y e => (hN7.inj _ _ _ _ e).2) KI (by simp only [← hps_next, ← hps_out, coeL_rwp_t, rowIs, boxIs, coe_argN, coe_argNs, coe_ro_o, coeL_nil, coeL_cons, coe_any, coe_val, coe_ro, coe_ro_nil, coe_ro_own, coe_st, coe_st_agg, coe_rp, coe_rp_ptr, coe_clo, coe_own0, coe_ptr0, coeL_intsK, coeL_rws, coeL_rwn, L_hit, L_miss, L_nil, Nat.reduceEqDiff, ne_eq, reduceCtorEq, not_false_eq_true, true_and, and_true, and_self, exists_eq_left, exists_eq_right, List.mem_cons, List.not_mem_nil, or_false, AObj.row.injEq, AObj.box.injEq, exists_eq_left', exists_and_left, exists_eq, Nat.zero_lt_one, Nat.lt_add_one, List.map_cons, List.map_nil, AObj.ver, Nat.reduceLT, not_true_eq_false]) rfl (fun _ vG pG hG hdG hyG => ?_) (fun h => by cases h)
      obtain ⟨Gp0, Gp1, Gp2, rfl, Ge01, Ge02, Ge12⟩ := nam3 hG hdG ha.1 hb.1 hc.1
      have hU_next := hN7.hp 26
      simp only [AObj.uses, go_sem, adopt_fun, Int.reduceLT, Int.reduceLE, Int.reduceToNat, Int.reduceNeg, Nat.reduceLT, Nat.reduceLeDiff, Nat.reduceMul, Nat.reduceSub, reduceIte, Nat.reduceEqDiff, Nat.reduceAdd, reduceCtorEq] at hU_next
      have hold_next := usesL_rwp (rest := []) (by rw [List.append_nil]; exact hU_next.2)
      have hf_next0 : ∀ p ∈ ps_next, p.2 = [] ∨ p.1 ≠ Gp0 := fun p hp => by
        obtain ⟨y, e⟩ := hyG (Gp0, a) (by simp)
        rcases hold_next p hp with h | h
        · exact .inl h
        · exact .inr fun e2 => hN7.new _ y (by rw [← e]; exact e2 ▸ h)
      have hf_next1 : ∀ p ∈ ps_next, p.2 = [] ∨ p.1 ≠ Gp1 := fun p hp => by
        obtain ⟨y, e⟩ := hyG (Gp1, b) (by simp)
        rcases hold_next p hp with h | h
        · exact .inl h
        · exact .inr fun e2 => hN7.new _ y (by rw [← e]; exact e2 ▸ h)
      have hf_next2 : ∀ p ∈ ps_next, p.2 = [] ∨ p.1 ≠ Gp2 := fun p hp => by
        obtain ⟨y, e⟩ := hyG (Gp2, c) (by simp)
        rcases hold_next p hp with h | h
        · exact .inl h
        · exact .inr fun e2 => hN7.new _ y (by rw [← e]; exact e2 ▸ h)
      have hU_out := hN7.hp 1026
      simp only [AObj.uses, go_sem, adopt_fun, Int.reduceLT, Int.reduceLE, Int.reduceToNat, Int.reduceNeg, Nat.reduceLT, Nat.reduceLeDiff, Nat.reduceMul, Nat.reduceSub, reduceIte, Nat.reduceEqDiff, Nat.reduceAdd, reduceCtorEq] at hU_out
      have hold_out := usesL_rwp (rest := []) (by rw [List.append_nil]; exact hU_out.2)
      have hf_out0 : ∀ p ∈ ps_out, p.2 = [] ∨ p.1 ≠ Gp0 := fun p hp => by
        obtain ⟨y, e⟩ := hyG (Gp0, a) (by simp)
        rcases hold_out p hp with h | h
        · exact .inl h
        · exact .inr fun e2 => hN7.new _ y (by rw [← e]; exact e2 ▸ h)
      have hf_out1 : ∀ p ∈ ps_out, p.2 = [] ∨ p.1 ≠ Gp1 := fun p hp => by
        obtain ⟨y, e⟩ := hyG (Gp1, b) (by simp)
        rcases hold_out p hp with h | h
        · exact .inl h
        · exact .inr fun e2 => hN7.new _ y (by rw [← e]; exact e2 ▸ h)
      have hf_out2 : ∀ p ∈ ps_out, p.2 = [] ∨ p.1 ≠ Gp2 := fun p hp => by
        obtain ⟨y, e⟩ := hyG (Gp2, c) (by simp)
        rcases hold_out p hp with h | h
        · exact .inl h
        · exact .inr fun e2 => hN7.new _ y (by rw [← e]; exact e2 ▸ h)
      simp only [B_laws_FnExactPairAutomaton_8, bne_self_eq_false, wpD_kp, wpD_regi, wpD_gh, go_sem, adopt_fun, Int.reduceLT, Int.reduceLE, Int.reduceToNat, Int.reduceNeg, Nat.reduceLT, Nat.reduceLeDiff, Nat.reduceMul, Nat.reduceSub, reduceIte, Nat.reduceEqDiff, Nat.reduceAdd, reduceCtorEq]
      intro _
      refine ⟨[.thaw 29 0 911, .thaw 29 1 912, .thaw 29 2 913], ?_⟩
      refine gwp_thaw rfl rfl (ints_ne ha.1) rfl fun Gm0 => ?_
      simp only [wo_ne (Ne.symm Ge01), wo_ne (Ne.symm Ge02), woL_rwp hf_next0, woL_rwp hf_out0, woT, woO, woL_cons, woL_nil, woV_val, woV_own, wo_ptr, wo_o, woL_ints, woL_rwo, wo_st, woO_row, woO_box, woO_gone, wo_any, rwp_cons, rwp_nil, go_sem, adopt_fun, Int.reduceLT, Int.reduceLE, Int.reduceToNat, Int.reduceNeg, Nat.reduceLT, Nat.reduceLeDiff, Nat.reduceMul, Nat.reduceSub, reduceIte, Nat.reduceEqDiff, Nat.reduceAdd, reduceCtorEq]
      refine gwp_thaw rfl rfl (ints_ne hb.1) rfl fun Gm1 => ?_
      simp only [wo_ne Ge01, wo_ne (Ne.symm Ge12), woL_rwp hf_next1, woL_rwp hf_out1, woT, woO, woL_cons, woL_nil, woV_val, woV_own, wo_ptr, wo_o, woL_ints, woL_rwo, wo_st, woO_row, woO_box, woO_gone, wo_any, rwp_cons, rwp_nil, go_sem, adopt_fun, Int.reduceLT, Int.reduceLE, Int.reduceToNat, Int.reduceNeg, Nat.reduceLT, Nat.reduceLeDiff, Nat.reduceMul, Nat.reduceSub, reduceIte, Nat.reduceEqDiff, Nat.reduceAdd, reduceCtorEq]
      refine gwp_thaw rfl rfl (ints_ne hc.1) rfl fun Gm2 => ?_
      simp only [wo_ne Ge02, wo_ne Ge12, woL_rwp hf_next2, woL_rwp hf_out2, woT, woO, woL_cons, woL_nil, woV_val, woV_own, wo_ptr, wo_o, woL_ints, woL_rwo, wo_st, woO_row, woO_box, woO_gone, wo_any, rwp_cons, rwp_nil, go_sem, adopt_fun, Int.reduceLT, Int.reduceLE, Int.reduceToNat, Int.reduceNeg, Nat.reduceLT, Nat.reduceLeDiff, Nat.reduceMul, Nat.reduceSub, reduceIte, Nat.reduceEqDiff, Nat.reduceAdd, reduceCtorEq]
      simp only [gwp_nil, wpD_kp, wpD_regi, go_sem, adopt_fun, Int.reduceLT, Int.reduceLE, Int.reduceToNat, Int.reduceNeg, Nat.reduceLT, Nat.reduceLeDiff, Nat.reduceMul, Nat.reduceSub, reduceIte, Nat.reduceEqDiff, Nat.reduceAdd, reduceCtorEq]
      try simp only [wpD_kp, wpD_regi, go_sem, adopt_fun, Int.reduceLT, Int.reduceLE, Int.reduceToNat, Int.reduceNeg, Nat.reduceLT, Nat.reduceLeDiff, Nat.reduceMul, Nat.reduceSub, reduceIte, Nat.reduceEqDiff, Nat.reduceAdd, reduceCtorEq]
      rintro vs8 U8 -
      refine call_fun (k_eqAutomaton m0 m0 [a, b, c] [a, b, c]) (by simp only [rwn_cons, rwn_nil, rwp_cons, rwp_nil, coeL_ints_t, rowIs, boxIs, coe_argN, coe_argNs, coe_ro_o, coeL_nil, coeL_cons, coe_any, coe_val, coe_ro, coe_ro_nil, coe_ro_own, coe_st, coe_st_agg, coe_rp, coe_rp_ptr, coe_clo, coe_own0, coe_ptr0, coeL_intsK, coeL_rws, coeL_rwn, L_hit, L_miss, L_nil, Nat.reduceEqDiff, ne_eq, reduceCtorEq, not_false_eq_true, true_and, and_true, and_self, exists_eq_left, exists_eq_right, List.mem_cons, List.not_mem_nil, or_false, AObj.row.injEq, AObj.box.injEq, exists_eq_left', exists_and_left, exists_eq, Nat.zero_lt_one, Nat.lt_add_one, List.map_cons, List.map_nil, AObj.ver, Nat.reduceLT, not_true_eq_false]) trivial ?_
      simp only [B_laws_FnExactPairAutomaton_9, B_laws_FnExactPairAutomaton_10, decide_true, Bool.and_self, bne_self_eq_false, wpD_kp, wpD_regi, go_sem, adopt_fun, Int.reduceLT, Int.reduceLE, Int.reduceToNat, Int.reduceNeg, Nat.reduceLT, Nat.reduceLeDiff, Nat.reduceMul, Nat.reduceSub, reduceIte, Nat.reduceEqDiff, Nat.reduceAdd, reduceCtorEq]
      rintro vs9 U9 -
      refine call_rows2 (k_toMachine n o next out hb_next hc_next hb_out hc_out) (by simp only [coeL_rwo_t, rowIs, boxIs, coe_argN, coe_argNs, coe_ro_o, coeL_nil, coeL_cons, coe_any, coe_val, coe_ro, coe_ro_nil, coe_ro_own, coe_st, coe_st_agg, coe_rp, coe_rp_ptr, coe_clo, coe_own0, coe_ptr0, coeL_intsK, coeL_rws, coeL_rwn, L_hit, L_miss, L_nil, Nat.reduceEqDiff, ne_eq, reduceCtorEq, not_false_eq_true, true_and, and_true, and_self, exists_eq_left, exists_eq_right, List.mem_cons, List.not_mem_nil, or_false, AObj.row.injEq, AObj.box.injEq, exists_eq_left', exists_and_left, exists_eq, Nat.zero_lt_one, Nat.lt_add_one, List.map_cons, List.map_nil, AObj.ver, Nat.reduceLT, not_true_eq_false]) rfl rfl ?_
      intro v5 v6
      try simp only [List.map_cons, List.map_nil, List.cons_append, List.nil_append, wpD_kp, wpD_regi, go_sem, adopt_fun, Int.reduceLT, Int.reduceLE, Int.reduceToNat, Int.reduceNeg, Nat.reduceLT, Nat.reduceLeDiff, Nat.reduceMul, Nat.reduceSub, reduceIte, Nat.reduceEqDiff, Nat.reduceAdd, reduceCtorEq]
      refine call_fun (k_eqMachine n n o o next out next out) (by simp only [← hps_next, ← hps_out, coeL_rwp_t, rowIs, boxIs, coe_argN, coe_argNs, coe_ro_o, coeL_nil, coeL_cons, coe_any, coe_val, coe_ro, coe_ro_nil, coe_ro_own, coe_st, coe_st_agg, coe_rp, coe_rp_ptr, coe_clo, coe_own0, coe_ptr0, coeL_intsK, coeL_rws, coeL_rwn, L_hit, L_miss, L_nil, Nat.reduceEqDiff, ne_eq, reduceCtorEq, not_false_eq_true, true_and, and_true, and_self, exists_eq_left, exists_eq_right, List.mem_cons, List.not_mem_nil, or_false, AObj.row.injEq, AObj.box.injEq, exists_eq_left', exists_and_left, exists_eq, Nat.zero_lt_one, Nat.lt_add_one, List.map_cons, List.map_nil, AObj.ver, Nat.reduceLT, not_true_eq_false]) trivial ?_
      simp only [B_laws_FnExactPairAutomaton_11, B_laws_FnExactPairAutomaton_12, B_laws_FnExactPairAutomaton_13, decide_true, Bool.and_self, bne_self_eq_false, wpD_kp, wpD_regi, go_sem, adopt_fun, Int.reduceLT, Int.reduceLE, Int.reduceToNat, Int.reduceNeg, Nat.reduceLT, Nat.reduceLeDiff, Nat.reduceMul, Nat.reduceSub, reduceIte, Nat.reduceEqDiff, Nat.reduceAdd, reduceCtorEq]
      rintro vs10 U10 - vs11 U11 -
      refine call_hav (k_markMachine n o ps_next ps_out hdj 1 (by omega) hdp_next hdp_out) ?_ ?_
      · simp only [coeHL_cons, coeHL_nil, coeH_val, coeH_st, and_true, true_and]
        refine ⟨?_, ?_⟩ <;> exact coeH_own (nn := true) (by simp only [go_sem, adopt_fun, Int.reduceLT, Int.reduceLE, Int.reduceToNat, Int.reduceNeg, Nat.reduceLT, Nat.reduceLeDiff, Nat.reduceMul, Nat.reduceSub, reduceIte, Nat.reduceEqDiff, Nat.reduceAdd, reduceCtorEq])
      rintro x ⟨k4, rfl, hk4a, hk4b⟩
      have hkn4 : ¬ (k4 < 0) := by omega
      simp only [B_laws_FnExactPairAutomaton_14, cl_L, clT, clO, clV_any, clV_val, clV_own, clV_ptr, clV_st, clV_o, clL_ints, clL_rwo, clL_cons, clL_nil, clR_row, clR_box, clR_gone, decide_eq_false hkn4, wpD_kp, wpD_regi, go_sem, adopt_fun, Int.reduceLT, Int.reduceLE, Int.reduceToNat, Int.reduceNeg, Nat.reduceLT, Nat.reduceLeDiff, Nat.reduceMul, Nat.reduceSub, reduceIte, Nat.reduceEqDiff, Nat.reduceAdd, reduceCtorEq]
      rintro vs12 U12 -
      refine call_fun (k_eqAutomaton m0 m0 [a, b, c] [a, b, c]) (by simp only [rwn_cons, rwn_nil, rwp_cons, rwp_nil, coeL_ints_t, rowIs, boxIs, coe_argN, coe_argNs, coe_ro_o, coeL_nil, coeL_cons, coe_any, coe_val, coe_ro, coe_ro_nil, coe_ro_own, coe_st, coe_st_agg, coe_rp, coe_rp_ptr, coe_clo, coe_own0, coe_ptr0, coeL_intsK, coeL_rws, coeL_rwn, L_hit, L_miss, L_nil, Nat.reduceEqDiff, ne_eq, reduceCtorEq, not_false_eq_true, true_and, and_true, and_self, exists_eq_left, exists_eq_right, List.mem_cons, List.not_mem_nil, or_false, AObj.row.injEq, AObj.box.injEq, exists_eq_left', exists_and_left, exists_eq, Nat.zero_lt_one, Nat.lt_add_one, List.map_cons, List.map_nil, AObj.ver, Nat.reduceLT, not_true_eq_false]) trivial ?_
      simp only [B_laws_FnExactPairAutomaton_15, B_laws_FnExactPairAutomaton_16, B_laws_FnExactPairAutomaton_17, decide_true, Bool.and_self, bne_self_eq_false, wpD_kp, wpD_regi, go_sem, adopt_fun, Int.reduceLT, Int.reduceLE, Int.reduceToNat, Int.reduceNeg, Nat.reduceLT, Nat.reduceLeDiff, Nat.reduceMul, Nat.reduceSub, reduceIte, Nat.reduceEqDiff, Nat.reduceAdd, reduceCtorEq]
      rintro vs13 U13 - vs14 U14 -
      refine call_mark3 (r := 29) (q1 := 911) (q2 := 912) (q3 := 913) (k_markAut3 m0 a b c 1 (by omega) ha.2 hb.2 hc.2) rfl rfl rfl rfl (by decide) (by simp only [coeL_cons, coeL_nil, coe_st, coe_val, and_true, true_and]; simp only [Coe]; exact ⟨0, _, _, rfl, rfl, rfl, rfl, rfl⟩) ?_
      simp only [B_laws_FnExactPairAutomaton_18, B_laws_FnExactPairAutomaton_19, wpD_kp, wpD_regi, go_sem, adopt_fun, Int.reduceLT, Int.reduceLE, Int.reduceToNat, Int.reduceNeg, Nat.reduceLT, Nat.reduceLeDiff, Nat.reduceMul, Nat.reduceSub, reduceIte, Nat.reduceEqDiff, Nat.reduceAdd, reduceCtorEq]
      rintro vs15 U15 - vs16 U16 -
      have hneg : ¬ (((1 : Int) + a.length + b.length + c.length) < 0) := by omega
      have hheld : Fun Try.prog n_laws_heldAutomaton [autA m0 [seqI (1) a.length, seqI (1 + a.length) b.length, seqI (1 + a.length + b.length) c.length], iv 1] (iv (1 + a.length + b.length + c.length)) := by
        have h := k_heldAutomaton m0 [seqI (1) a.length, seqI (1 + a.length) b.length, seqI (1 + a.length + b.length) c.length] 1 (by simp only [totX, seqI_len]; omega) (by intro x hx; simp only [List.mem_cons, List.not_mem_nil, or_false] at hx; rcases hx with rfl | rfl | rfl <;> rw [seqI_len] <;> omega) (by simp [okRows, seqI_len])
        have e : (1 : Int) + totX [seqI (1) a.length, seqI (1 + a.length) b.length, seqI (1 + a.length + b.length) c.length] = 1 + a.length + b.length + c.length := by simp only [totX, seqI_len]; omega
        rw [e] at h; exact h
      refine call_fun hheld (by simp only [rwn_cons, rwn_nil, coeL_ints_t, rowIs, boxIs, coe_argN, coe_argNs, coe_ro_o, coeL_nil, coeL_cons, coe_any, coe_val, coe_ro, coe_ro_nil, coe_ro_own, coe_st, coe_st_agg, coe_rp, coe_rp_ptr, coe_clo, coe_own0, coe_ptr0, coeL_intsK, coeL_rws, coeL_rwn, L_hit, L_miss, L_nil, Nat.reduceEqDiff, ne_eq, reduceCtorEq, not_false_eq_true, true_and, and_true, and_self, exists_eq_left, exists_eq_right, List.mem_cons, List.not_mem_nil, or_false, AObj.row.injEq, AObj.box.injEq, exists_eq_left', exists_and_left, exists_eq, Nat.zero_lt_one, Nat.lt_add_one, List.map_cons, List.map_nil, AObj.ver, Nat.reduceLT, not_true_eq_false]) trivial ?_
      simp only [B_laws_FnExactPairAutomaton_20, B_laws_FnExactPairAutomaton_21, B_laws_FnExactPairAutomaton_22, B_laws_FnExactPairAutomaton_23, B_laws_FnExactPairAutomaton_24, bne_self_eq_false, decide_eq_false hneg, wpD_kp, wpD_regi, go_sem, adopt_fun, Int.reduceLT, Int.reduceLE, Int.reduceToNat, Int.reduceNeg, Nat.reduceLT, Nat.reduceLeDiff, Nat.reduceMul, Nat.reduceSub, reduceIte, Nat.reduceEqDiff, Nat.reduceAdd, reduceCtorEq]
      rintro vs17 U17 - vs18 U18 - vs19 U19 hN19
      refine call_rows2 (k_toMachine n o next out hb_next hc_next hb_out hc_out) (by simp only [coeL_rwo_t, rowIs, boxIs, coe_argN, coe_argNs, coe_ro_o, coeL_nil, coeL_cons, coe_any, coe_val, coe_ro, coe_ro_nil, coe_ro_own, coe_st, coe_st_agg, coe_rp, coe_rp_ptr, coe_clo, coe_own0, coe_ptr0, coeL_intsK, coeL_rws, coeL_rwn, L_hit, L_miss, L_nil, Nat.reduceEqDiff, ne_eq, reduceCtorEq, not_false_eq_true, true_and, and_true, and_self, exists_eq_left, exists_eq_right, List.mem_cons, List.not_mem_nil, or_false, AObj.row.injEq, AObj.box.injEq, exists_eq_left', exists_and_left, exists_eq, Nat.zero_lt_one, Nat.lt_add_one, List.map_cons, List.map_nil, AObj.ver, Nat.reduceLT, not_true_eq_false]) rfl rfl ?_
      intro v7 v8
      try simp only [List.map_cons, List.map_nil, List.cons_append, List.nil_append, wpD_kp, wpD_regi, go_sem, adopt_fun, Int.reduceLT, Int.reduceLE, Int.reduceToNat, Int.reduceNeg, Nat.reduceLT, Nat.reduceLeDiff, Nat.reduceMul, Nat.reduceSub, reduceIte, Nat.reduceEqDiff, Nat.reduceAdd, reduceCtorEq]
      refine call_namT (fun x y e => (hN19.inj _ _ _ _ e).2) KI (by simp only [rowIs, boxIs, coe_argN, coe_argNs, coe_ro_o, coeL_nil, coeL_cons, coe_any, coe_val, coe_ro, coe_ro_nil, coe_ro_own, coe_st, coe_st_agg, coe_rp, coe_rp_ptr, coe_clo, coe_own0, coe_ptr0, coeL_intsK, coeL_rws, coeL_rwn, L_hit, L_miss, L_nil, Nat.reduceEqDiff, ne_eq, reduceCtorEq, not_false_eq_true, true_and, and_true, and_self, exists_eq_left, exists_eq_right, List.mem_cons, List.not_mem_nil, or_false, AObj.row.injEq, AObj.box.injEq, exists_eq_left', exists_and_left, exists_eq, Nat.zero_lt_one, Nat.lt_add_one, List.map_cons, List.map_nil, AObj.ver, Nat.reduceLT, not_true_eq_false]) rfl (fun _ vH pH hH hdH hyH => ?_) (fun h => by cases h)
      obtain ⟨Hp0, Hp1, Hp2, rfl, He01, He02, He12⟩ := nam3 hH hdH ha.1 hb.1 hc.1
      simp only [B_laws_FnExactPairAutomaton_25, bne_self_eq_false, wpD_kp, wpD_regi, go_sem, adopt_fun, Int.reduceLT, Int.reduceLE, Int.reduceToNat, Int.reduceNeg, Nat.reduceLT, Nat.reduceLeDiff, Nat.reduceMul, Nat.reduceSub, reduceIte, Nat.reduceEqDiff, Nat.reduceAdd, reduceCtorEq]
      rintro vs20 U20 -
      refine call_fun (k_eqAutomaton m0 m0 [a, b, c] [a, b, c]) (by simp only [rwn_cons, rwn_nil, rwp_cons, rwp_nil, coeL_ints_t, rowIs, boxIs, coe_argN, coe_argNs, coe_ro_o, coeL_nil, coeL_cons, coe_any, coe_val, coe_ro, coe_ro_nil, coe_ro_own, coe_st, coe_st_agg, coe_rp, coe_rp_ptr, coe_clo, coe_own0, coe_ptr0, coeL_intsK, coeL_rws, coeL_rwn, L_hit, L_miss, L_nil, Nat.reduceEqDiff, ne_eq, reduceCtorEq, not_false_eq_true, true_and, and_true, and_self, exists_eq_left, exists_eq_right, List.mem_cons, List.not_mem_nil, or_false, AObj.row.injEq, AObj.box.injEq, exists_eq_left', exists_and_left, exists_eq, Nat.zero_lt_one, Nat.lt_add_one, List.map_cons, List.map_nil, AObj.ver, Nat.reduceLT, not_true_eq_false]) trivial ?_
      simp only [B_laws_FnExactPairAutomaton_26, B_laws_FnExactPairAutomaton_27, B_laws_FnExactPairAutomaton_28, decide_true, Bool.and_self, bne_self_eq_false, wpD_kp, wpD_regi, go_sem, adopt_fun, Int.reduceLT, Int.reduceLE, Int.reduceToNat, Int.reduceNeg, Nat.reduceLT, Nat.reduceLeDiff, Nat.reduceMul, Nat.reduceSub, reduceIte, Nat.reduceEqDiff, Nat.reduceAdd, reduceCtorEq]
      rintro vs21 U21 - vs22 U22 -
      refine call_fun hheld (by simp only [rwn_cons, rwn_nil, coeL_ints_t, rowIs, boxIs, coe_argN, coe_argNs, coe_ro_o, coeL_nil, coeL_cons, coe_any, coe_val, coe_ro, coe_ro_nil, coe_ro_own, coe_st, coe_st_agg, coe_rp, coe_rp_ptr, coe_clo, coe_own0, coe_ptr0, coeL_intsK, coeL_rws, coeL_rwn, L_hit, L_miss, L_nil, Nat.reduceEqDiff, ne_eq, reduceCtorEq, not_false_eq_true, true_and, and_true, and_self, exists_eq_left, exists_eq_right, List.mem_cons, List.not_mem_nil, or_false, AObj.row.injEq, AObj.box.injEq, exists_eq_left', exists_and_left, exists_eq, Nat.zero_lt_one, Nat.lt_add_one, List.map_cons, List.map_nil, AObj.ver, Nat.reduceLT, not_true_eq_false]) trivial ?_
      simp only [B_laws_FnExactPairAutomaton_29, B_laws_FnExactPairAutomaton_30, B_laws_FnExactPairAutomaton_31, B_laws_FnExactPairAutomaton_32, B_laws_FnExactPairAutomaton_33, bne_self_eq_false, decide_eq_false hneg, wpD_kp, wpD_regi, go_sem, adopt_fun, Int.reduceLT, Int.reduceLE, Int.reduceToNat, Int.reduceNeg, Nat.reduceLT, Nat.reduceLeDiff, Nat.reduceMul, Nat.reduceSub, reduceIte, Nat.reduceEqDiff, Nat.reduceAdd, reduceCtorEq]
      try simp

theorem k_FnExactPairAutomaton (n o : Int) (next out : List (List Int)) : Fun Try.prog n_laws_FnExactPairAutomaton [.st [iv n, iv o, .ro (some (some 0)) 1 (rwo next), .ro (some (some 0)) 1 (rwo out)]] (bv true) := by
  refine law_PairAutomaton n o next out (pairOk n o next out) (endM n + 1) (resM n (endM n) next out next.length) (pairCode n o next out) (k_specPairAutomaton n o next out) (k_PairAutomaton n o next out) (fun h => ?_) (fun h x hx => ?_)
  · rw [pairOk, Bool.and_eq_true] at h
    have A := (machB_iff.1 h.1).aut
    rw [resM, List.length_map, List.length_range]
    exact ⟨A.l1, A.l2⟩
  · rw [pairOk, Bool.and_eq_true] at h
    have A := (machB_iff.1 h.1).aut
    obtain ⟨i, _, rfl⟩ := List.mem_map.1 hx
    have hpl := allP_len ⟨A.n1, A.n2⟩
    have hen := endM_nn ⟨A.n1, A.n2⟩
    have hl : ((rowM n (endM n) (next.getD i []) (out.getD i [])).length : Int) = endM n + 1 := by
      rw [rowM, List.length_append, List.length_map, List.length_singleton]; omega
    refine ⟨fun e => ?_, by omega⟩
    rw [e] at hl; simp at hl; omega
end Go.Ab
