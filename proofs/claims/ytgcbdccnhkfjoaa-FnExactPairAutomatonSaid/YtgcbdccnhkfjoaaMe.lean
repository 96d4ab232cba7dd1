/- Contracts: the specification's PairAutomaton. Conditions: none. -/
import Derived.Test.YtgcbdccnhkfjoaaMd
set_option linter.all false
namespace Go.Ab
open Go.Proofs
set_option maxRecDepth 20000
set_option maxHeartbeats 2000000

theorem k_specPairAutomaton (n o : Int) (next out : List (List Int)) :
    NamR Try.prog n_spec_PairAutomaton [machA n o next out] (pairOk n o next out) (endM n + 1) (resM n (endM n) next out next.length) (pairCode n o next out) := by
  refine con_of mixed c_spec_PairAutomaton rfl (by simp) ?_
  generalize hQ : finQ _ = Q
  simp only [A_spec_PairAutomaton, B_spec_PairAutomaton_1, wpD_kp, wpD_regi, go_sem, adopt_fun, Int.reduceLT, Int.reduceLE, Int.reduceToNat, Int.reduceNeg, Nat.reduceLT, Nat.reduceLeDiff, Nat.reduceMul, Nat.reduceSub, reduceIte, Nat.reduceEqDiff, Nat.reduceAdd, reduceCtorEq]
  intro vs0 U0 hN0 vs1 U1 hN1
  refine call_fun (k_l06Ok n o next out) (by simp only [rowIs, boxIs, coe_argN, coe_argNs, coe_ro_o, coeL_nil, coeL_cons, coe_any, coe_val, coe_ro, coe_ro_nil, coe_ro_own, coe_st, coe_st_agg, coe_rp, coe_rp_ptr, coe_clo, coe_own0, coe_ptr0, coeL_intsK, coeL_rws, coeL_rwn, L_hit, L_miss, L_nil, Nat.reduceEqDiff, ne_eq, reduceCtorEq, not_false_eq_true, true_and, and_true, and_self, exists_eq_left, exists_eq_right, List.mem_cons, List.not_mem_nil, or_false, AObj.row.injEq, AObj.box.injEq, exists_eq_left', exists_and_left, exists_eq, Nat.zero_lt_one, Nat.lt_add_one, List.map_cons, List.map_nil, AObj.ver, Nat.reduceLT, not_true_eq_false]) trivial ?_
  cases hv : machB n o next out with
  | false =>
    have e1 : pairOk n o next out = false := by simp only [pairOk, hv, Bool.false_and]
    have e2 : pairCode n o next out = 1 := by simp only [pairCode, hv, Bool.false_eq_true, if_false]
    simp only [B_spec_PairAutomaton_2, A_spec_PairAutomaton, ← hQ, wpD_kp, wpD_regi, go_sem, adopt_fun, Int.reduceLT, Int.reduceLE, Int.reduceToNat, Int.reduceNeg, Nat.reduceLT, Nat.reduceLeDiff, Nat.reduceMul, Nat.reduceSub, reduceIte, Nat.reduceEqDiff, Nat.reduceAdd, reduceCtorEq]
    intro vs2 U2 hN2
    refine ⟨[], by simp, by simp, by simp, ?_⟩
    simp only [e1, e2, Bool.false_eq_true, if_false, Nat.not_lt_zero, range1, ren_val, ren_any, ren_ro, rnNm_n, rnNm_sn, rnNm_o, rnNm_s, ren_st, ren_tup, renL_nil, renL_cons, renL_intsK, renL_rws, renL_rwn, oren_box, oren_row, oren_map, ren_own_e0, ren_own_e1, ren_own_e2, ren_ptr_e0, ren_mp_e0, ren_mp_e1, ren_own_r0, ren_own_r1, ren_own_r2, ren_ptr_r0, ren_mp_r0, ren_mp_r1, List.range_zero, callHp_nil, callHp_one, callHp_two, gone_nil, gone_one, gone_two, AVal.fresh, freshL, fresh_intsK, fresh_rws, AObj.fresh, id, Option.isSome_some, or_true, true_or, go_sem, adopt_fun, Int.reduceLT, Int.reduceLE, Int.reduceToNat, Int.reduceNeg, Nat.reduceLT, Nat.reduceLeDiff, Nat.reduceMul, Nat.reduceSub, reduceIte, Nat.reduceEqDiff, Nat.reduceAdd, reduceCtorEq]
    try simp
  | true =>
    have M := machB_iff.1 hv
    have A := M.aut
    have n1 := A.n1
    have n2 := A.n2
    have l1 := A.l1
    have l2 := A.l2
    have hen := endM_nn ⟨n1, n2⟩
    have hpl := allP_len ⟨n1, n2⟩
    have w0 : IntKind.i64.wrap (n - 1) = n - 1 := w64 (by omega)
    have hp0 : 0 ≤ n * (n - 1) := Int.mul_nonneg (by omega) (by omega)
    have hp1 : n * (n - 1) ≤ 10 * 10 := Int.mul_le_mul n2 (by omega) (by omega) (by omega)
    have w2 : IntKind.i64.wrap (n * (n - 1)) = n * (n - 1) := w64 (by omega)
    have hE : (n * (n - 1)).tdiv 2 = endM n := rfl
    have w3 : IntKind.i64.wrap (endM n) = endM n := w64 (by omega)
    have w1 : IntKind.i64.wrap (endM n + 1) = endM n + 1 := w64 (by omega)
    have h20 : ¬ (2 : Int) = 0 := by omega
    by_cases he : endM n < 10
    · have hn4 := endM_small ⟨n1, n2⟩ he
      have hg : ¬ (10 : Int) ≤ endM n := by omega
      simp only [B_spec_PairAutomaton_2, B_spec_PairAutomaton_3, B_spec_PairAutomaton_4, B_spec_PairAutomaton_5, B_spec_PairAutomaton_6, B_spec_PairAutomaton_7, w0, w2, hE, w3, w1, h20, decide_eq_false hg, wpD_kp, wpD_regi, go_sem, adopt_fun, Int.reduceLT, Int.reduceLE, Int.reduceToNat, Int.reduceNeg, Nat.reduceLT, Nat.reduceLeDiff, Nat.reduceMul, Nat.reduceSub, reduceIte, Nat.reduceEqDiff, Nat.reduceAdd, reduceCtorEq]
      intro vs2 U2 hN2 vs3 U3 hN3 vs4 U4 hN4 vs5 U5 hN5
      simp only [B_spec_PairAutomaton_8, wpD_kp, wpD_regi, go_sem, adopt_fun, Int.reduceLT, Int.reduceLE, Int.reduceToNat, Int.reduceNeg, Nat.reduceLT, Nat.reduceLeDiff, Nat.reduceMul, Nat.reduceSub, reduceIte, Nat.reduceEqDiff, Nat.reduceAdd, reduceCtorEq]
      intro ver
      have hM2 := maxLen_le
      refine wpD_lp (fun (_, _, _, ps) => next.length - List.length ps)
        (fun (nn, _, _, ps) => List.map (·.2) ps = resM n (endM n) next out (List.length ps) ∧ List.length ps ≤ next.length ∧ DJ ps ∧ (ps ≠ [] → nn = true))
        (fun ((nn, v5, va, ps) : Bool × Nat × Nat × List (Nat × List Int)) => ⟨L .any [(1, .ptr 1 (vs0 0 0) 0), (2, .ptr 2 (vs0 1 0) 0), (4, iv (endM n)), (5, .ptr 5 v5 0), (6, iv ps.length)],
          L .gone [(1, .box (vs0 0 0) [iv n, iv o, .ro none 1 (rwn next), .ro none 1 (rwn out)]), (2, .box (vs0 1 0) [iv 0, nilS]), (5, .box v5 [iv (endM n + 1), .own 107 va]), (107, .row va 1 nn (rwp ps)), (5000, .gone)]⟩)
        (_, _, _, []) ⟨rfl, by simp, by simp [DJ], by simp⟩ (by simp only [B_spec_PairAutomaton_9, List.length_nil, rwp_nil, go_sem, adopt_fun, Int.reduceLT, Int.reduceLE, Int.reduceToNat, Int.reduceNeg, Nat.reduceLT, Nat.reduceLeDiff, Nat.reduceMul, Nat.reduceSub, reduceIte, Nat.reduceEqDiff, Nat.reduceAdd, reduceCtorEq]; try rfl) ?_
      rintro ⟨nn, v5, va, ps⟩ ⟨hp1, hp2, hp3, hp4⟩
      have hp1 : ps.map (·.2) = resM n (endM n) next out ps.length := hp1
      have hp2 : ps.length ≤ next.length := hp2
      have hp3 : DJ ps := hp3
      have hp4 : ps ≠ [] → nn = true := hp4
      by_cases hlt : (ps.length : Int) < next.length
      · have hlt1 : ps.length < next.length := by omega
        have hlt2 : ps.length < out.length := by rw [M.len]; exact hlt1
        have hrow := A.row _ (getD_mem hlt1 [])
        have hrow2 := M.row _ (getD_mem hlt2 [])
        simp only [B_spec_PairAutomaton_9, B_spec_PairAutomaton_10, B_spec_PairAutomaton_11, rwn_getD hlt1, decide_eq_true hlt, wpD_kp, wpD_regi, go_sem, adopt_fun, Int.reduceLT, Int.reduceLE, Int.reduceToNat, Int.reduceNeg, Nat.reduceLT, Nat.reduceLeDiff, Nat.reduceMul, Nat.reduceSub, reduceIte, Nat.reduceEqDiff, Nat.reduceAdd, reduceCtorEq]
        intro vs7 U7 hN7 hM vs8 U8 hN8
        have hU := hN8.hp 107
        simp only [AObj.uses, go_sem, adopt_fun, Int.reduceLT, Int.reduceLE, Int.reduceToNat, Int.reduceNeg, Nat.reduceLT, Nat.reduceLeDiff, Nat.reduceMul, Nat.reduceSub, reduceIte, Nat.reduceEqDiff, Nat.reduceAdd, reduceCtorEq] at hU
        have hold := usesL_rwp (rest := []) (by rw [List.append_nil]; exact hU.2)
        have hfresh : ∀ (i k : Nat), ∀ p ∈ ps, p.2 = [] ∨ p.1 ≠ vs8 i k := fun i k p hp => by
          rcases hold p hp with h | h
          · exact .inl h
          · exact .inr fun e => hN8.new i k (e ▸ h)
        simp only [B_spec_PairAutomaton_12, B_spec_PairAutomaton_13, wpD_kp, wpD_regi, go_sem, adopt_fun, Int.reduceLT, Int.reduceLE, Int.reduceToNat, Int.reduceNeg, Nat.reduceLT, Nat.reduceLeDiff, Nat.reduceMul, Nat.reduceSub, reduceIte, Nat.reduceEqDiff, Nat.reduceAdd, reduceCtorEq]
        intro vs9 U9 hN9
        refine wpD_lp (fun ((_, _, s) : Nat × List (List Int) × Nat) => n.toNat - s) (fun ((vb, acc, s) : Nat × List (List Int) × Nat) => (s : Int) ≤ n ∧ acc ++ pall (fun _ _ => true) n s (n.toNat - s) = allP n ∧ ∀ p ∈ ps, p.2 = [] ∨ p.1 ≠ vb)
          (fun ((vb, acc, s) : Nat × List (List Int) × Nat) => ⟨L .any [(1, .ptr 1 (vs0 0 0) 0), (2, .ptr 2 (vs0 1 0) 0), (4, iv (endM n)), (5, .ptr 5 v5 0), (6, iv ps.length), (7, .own 35 vb), (8, iv s)],
            L .gone [(1, .box (vs0 0 0) [iv n, iv o, .ro none 1 (rwn next), .ro none 1 (rwn out)]), (2, .box (vs0 1 0) [iv 0, nilS]), (5, .box v5 [iv (endM n + 1), .own 107 va]), (35, .row vb 1 true (ints (acc.map (cellM n (endM n) (next.getD ps.length []) (out.getD ps.length []))))), (91, .gone), (99, .gone), (107, .row va 1 nn (rwp ps)), (5000, .gone)]⟩)
          (_, [], 0) ⟨by omega, rfl, hfresh 0 0⟩ (by simp only [B_spec_PairAutomaton_14, List.map_nil, go_sem, adopt_fun, Int.reduceLT, Int.reduceLE, Int.reduceToNat, Int.reduceNeg, Nat.reduceLT, Nat.reduceLeDiff, Nat.reduceMul, Nat.reduceSub, reduceIte, Nat.reduceEqDiff, Nat.reduceAdd, reduceCtorEq]; try rfl) ?_
        rintro ⟨vb, acc, s⟩ ⟨hs, hacc, hf⟩
        have hs : (s : Int) ≤ n := hs
        have hf : ∀ p ∈ ps, p.2 = [] ∨ p.1 ≠ vb := hf
        by_cases hls : (s : Int) < n
        · have w7 : IntKind.i64.wrap ((s : Int) + 1) = ((s + 1 : Nat) : Int) := by rw [w64 (by omega)]; omega
          have e1 : n.toNat - s = (n.toNat - (s + 1)) + 1 := by omega
          rw [e1] at hacc
          simp only [pall] at hacc
          simp only [B_spec_PairAutomaton_14, B_spec_PairAutomaton_15, B_spec_PairAutomaton_16, B_spec_PairAutomaton_17, w7, decide_eq_true hls, wpD_kp, wpD_regi, go_sem, adopt_fun, Int.reduceLT, Int.reduceLE, Int.reduceToNat, Int.reduceNeg, Nat.reduceLT, Nat.reduceLeDiff, Nat.reduceMul, Nat.reduceSub, reduceIte, Nat.reduceEqDiff, Nat.reduceAdd, reduceCtorEq]
          intro vs10 U10 hN10 vs11 U11 hN11
          refine wpD_lp (fun ((_, _, t) : Nat × List (List Int) × Nat) => n.toNat - t) (fun ((vb, acc, t) : Nat × List (List Int) × Nat) => (t : Int) ≤ n ∧ s < t ∧ acc ++ (prow (fun _ _ => true) s t (n - t).toNat ++ pall (fun _ _ => true) n ((s : Int) + 1) (n.toNat - (s + 1))) = allP n ∧ ∀ p ∈ ps, p.2 = [] ∨ p.1 ≠ vb)
            (fun ((vb, acc, t) : Nat × List (List Int) × Nat) => ⟨L .any [(1, .ptr 1 (vs0 0 0) 0), (2, .ptr 2 (vs0 1 0) 0), (4, iv (endM n)), (5, .ptr 5 v5 0), (6, iv ps.length), (7, .own 35 vb), (8, iv s), (9, iv t)],
              L .gone [(1, .box (vs0 0 0) [iv n, iv o, .ro none 1 (rwn next), .ro none 1 (rwn out)]), (2, .box (vs0 1 0) [iv 0, nilS]), (5, .box v5 [iv (endM n + 1), .own 107 va]), (35, .row vb 1 true (ints (acc.map (cellM n (endM n) (next.getD ps.length []) (out.getD ps.length []))))), (91, .gone), (99, .gone), (107, .row va 1 nn (rwp ps)), (5000, .gone)]⟩)
            (_, acc, s + 1) ⟨by omega, by omega, hacc, hf⟩ (by simp only [B_spec_PairAutomaton_18, go_sem, adopt_fun, Int.reduceLT, Int.reduceLE, Int.reduceToNat, Int.reduceNeg, Nat.reduceLT, Nat.reduceLeDiff, Nat.reduceMul, Nat.reduceSub, reduceIte, Nat.reduceEqDiff, Nat.reduceAdd, reduceCtorEq]; try rfl) ?_
          clear hacc hf
          rintro ⟨vb, acc, t⟩ ⟨ht, hst, hacc', hf⟩
          have ht : (t : Int) ≤ n := ht
          have hst : s < t := hst
          have hf : ∀ p ∈ ps, p.2 = [] ∨ p.1 ≠ vb := hf
          have w8 : IntKind.i64.wrap ((t : Int) + 1) = ((t + 1 : Nat) : Int) := by rw [w64 (by omega)]; omega
          by_cases hltt : (t : Int) < n
          · have e2 : (n - (t : Int)).toNat = (n - ((t + 1 : Nat) : Int)).toNat + 1 := by omega
            have e3 : ((t + 1 : Nat) : Int) = (t : Int) + 1 := by omega
            rw [e2] at hacc'
            simp only [prow, if_true] at hacc'
            have hal : acc.length ≤ 45 := by rw [← hacc', List.length_append] at hpl; omega
            have hxa : s < (next.getD ps.length []).length := by omega
            have hxb : t < (next.getD ps.length []).length := by omega
            have hya : s < (out.getD ps.length []).length := by omega
            have hyb : t < (out.getD ps.length []).length := by omega
            have hxi := hrow.2 _ (getD_mem hxa 0)
            have hyi := hrow.2 _ (getD_mem hxb 0)
            have heq := cellM_t (n := n) (e := endM n) (nx := next.getD ps.length []) (ou := out.getD ps.length []) (s := (s : Int)) (t := (t : Int))
            have hef := cellM_f (n := n) (e := endM n) (nx := next.getD ps.length []) (ou := out.getD ps.length []) (s := (s : Int)) (t := (t : Int))
            simp only [Int.toNat_natCast] at heq hef
            have hsn : ∀ z, cellM n (endM n) (next.getD ps.length []) (out.getD ps.length []) [(s : Int), (t : Int)] = z → acc.map (cellM n (endM n) (next.getD ps.length []) (out.getD ps.length [])) ++ [z] = (acc ++ [[(s : Int), (t : Int)]]).map (cellM n (endM n) (next.getD ps.length []) (out.getD ps.length [])) := fun z h => by rw [List.map_append, ← h]; rfl
            simp only [B_spec_PairAutomaton_18, B_spec_PairAutomaton_19, B_spec_PairAutomaton_20, B_spec_PairAutomaton_21, rwn_getD hlt1, intsK_getD hxa, intsK_getD hxb, decide_eq_true hltt, wpD_kp, wpD_regi, go_sem, adopt_fun, Int.reduceLT, Int.reduceLE, Int.reduceToNat, Int.reduceNeg, Nat.reduceLT, Nat.reduceLeDiff, Nat.reduceMul, Nat.reduceSub, reduceIte, Nat.reduceEqDiff, Nat.reduceAdd, reduceCtorEq]
            intro vs12 U12 hN12 vs13 U13 hN13
            refine ⟨⟨by omega, hlt1⟩, hlt1, ⟨by omega, hxa⟩, hxa, ?_⟩
            intro vs14 U14 hN14
            refine ⟨⟨by omega, hlt1⟩, hlt1, ⟨by omega, hxb⟩, hxb, ?_⟩
            by_cases h1 : (out.getD ps.length []).getD s 0 = (out.getD ps.length []).getD t 0
            · have q1 : ((out.getD ps.length []).getD s 0 != (out.getD ps.length []).getD t 0) = false := by simpa using h1
              by_cases h2 : (next.getD ps.length []).getD s 0 = (next.getD ps.length []).getD t 0
              · have hsn := hsn _ (hef fun h => h.2 h2)
                have q2 : ((next.getD ps.length []).getD s 0 == (next.getD ps.length []).getD t 0) = true := beqT h2
                simp only [B_spec_PairAutomaton_22, B_spec_PairAutomaton_23, rwn_getD hlt2, intsK_getD hya, intsK_getD hyb, q1, q2, wpD_kp, wpD_regi, go_sem, adopt_fun, Int.reduceLT, Int.reduceLE, Int.reduceToNat, Int.reduceNeg, Nat.reduceLT, Nat.reduceLeDiff, Nat.reduceMul, Nat.reduceSub, reduceIte, Nat.reduceEqDiff, Nat.reduceAdd, reduceCtorEq]
                intro vs15 U15 hN15
                refine ⟨⟨by omega, hlt2⟩, hlt2, ⟨by omega, hya⟩, hya, ⟨by omega, hlt2⟩, hlt2, ⟨by omega, hyb⟩, hyb, ?_⟩
                intro vs17 U17 hN17
                have hU17 := hN17.hp 107
                simp only [AObj.uses, go_sem, adopt_fun, Int.reduceLT, Int.reduceLE, Int.reduceToNat, Int.reduceNeg, Nat.reduceLT, Nat.reduceLeDiff, Nat.reduceMul, Nat.reduceSub, reduceIte, Nat.reduceEqDiff, Nat.reduceAdd, reduceCtorEq] at hU17
                have hold17 := usesL_rwp (rest := []) (by rw [List.append_nil]; exact hU17.2)
                have hfresh17 : ∀ p ∈ ps, p.2 = [] ∨ ¬ p.1 = vs17 3 0 := fun p hp => by
                  rcases hold17 p hp with h | h
                  · exact .inl h
                  · exact .inr fun e => hN17.new 3 0 (e ▸ h)
                simp only [B_spec_PairAutomaton_24, hsn, w8, wpD_kp, wpD_regi, go_sem, adopt_fun, Int.reduceLT, Int.reduceLE, Int.reduceToNat, Int.reduceNeg, Nat.reduceLT, Nat.reduceLeDiff, Nat.reduceMul, Nat.reduceSub, reduceIte, Nat.reduceEqDiff, Nat.reduceAdd, reduceCtorEq]
                refine ⟨⟨_, rfl, rfl⟩, by omega, ?_⟩
                intro vs18 U18 hN18
                exact ⟨(vs17 3 0, acc ++ [[(s : Int), (t : Int)]], t + 1), by dsimp only; omega, ⟨by dsimp only; omega, by dsimp only; omega, by dsimp only; rw [e3, List.append_assoc, ← hacc', ← e3, List.append_assoc], hfresh17⟩, rfl⟩
              · have hsn := hsn _ (heq h1 h2)
                have q2 : ((next.getD ps.length []).getD s 0 == (next.getD ps.length []).getD t 0) = false := beqF h2
                simp only [B_spec_PairAutomaton_22, B_spec_PairAutomaton_23, rwn_getD hlt2, intsK_getD hya, intsK_getD hyb, q1, q2, wpD_kp, wpD_regi, go_sem, adopt_fun, Int.reduceLT, Int.reduceLE, Int.reduceToNat, Int.reduceNeg, Nat.reduceLT, Nat.reduceLeDiff, Nat.reduceMul, Nat.reduceSub, reduceIte, Nat.reduceEqDiff, Nat.reduceAdd, reduceCtorEq]
                intro vs15 U15 hN15
                refine ⟨⟨by omega, hlt2⟩, hlt2, ⟨by omega, hya⟩, hya, ⟨by omega, hlt2⟩, hlt2, ⟨by omega, hyb⟩, hyb, ?_⟩
                intro vs17 U17 hN17
                refine call_fun (k_l06Pair n _ _ ⟨n1, n2⟩ hxi hyi) (by simp only [rowIs, boxIs, coe_argN, coe_argNs, coe_ro_o, coeL_nil, coeL_cons, coe_any, coe_val, coe_ro, coe_ro_nil, coe_ro_own, coe_st, coe_st_agg, coe_rp, coe_rp_ptr, coe_clo, coe_own0, coe_ptr0, coeL_intsK, coeL_rws, coeL_rwn, L_hit, L_miss, L_nil, Nat.reduceEqDiff, ne_eq, reduceCtorEq, not_false_eq_true, true_and, and_true, and_self, exists_eq_left, exists_eq_right, List.mem_cons, List.not_mem_nil, or_false, AObj.row.injEq, AObj.box.injEq, exists_eq_left', exists_and_left, exists_eq, Nat.zero_lt_one, Nat.lt_add_one, List.map_cons, List.map_nil, AObj.ver, Nat.reduceLT, not_true_eq_false]) trivial ?_
                simp only [go_sem, adopt_fun, Int.reduceLT, Int.reduceLE, Int.reduceToNat, Int.reduceNeg, Nat.reduceLT, Nat.reduceLeDiff, Nat.reduceMul, Nat.reduceSub, reduceIte, Nat.reduceEqDiff, Nat.reduceAdd, reduceCtorEq]
                have hU17 := hN17.hp 107
                simp only [AObj.uses, go_sem, adopt_fun, Int.reduceLT, Int.reduceLE, Int.reduceToNat, Int.reduceNeg, Nat.reduceLT, Nat.reduceLeDiff, Nat.reduceMul, Nat.reduceSub, reduceIte, Nat.reduceEqDiff, Nat.reduceAdd, reduceCtorEq] at hU17
                have hold17 := usesL_rwp (rest := []) (by rw [List.append_nil]; exact hU17.2)
                have hfresh17 : ∀ p ∈ ps, p.2 = [] ∨ ¬ p.1 = vs17 7 0 := fun p hp => by
                  rcases hold17 p hp with h | h
                  · exact .inl h
                  · exact .inr fun e => hN17.new 7 0 (e ▸ h)
                simp only [B_spec_PairAutomaton_24, hsn, w8, wpD_kp, wpD_regi, go_sem, adopt_fun, Int.reduceLT, Int.reduceLE, Int.reduceToNat, Int.reduceNeg, Nat.reduceLT, Nat.reduceLeDiff, Nat.reduceMul, Nat.reduceSub, reduceIte, Nat.reduceEqDiff, Nat.reduceAdd, reduceCtorEq]
                refine ⟨⟨_, rfl, rfl⟩, by omega, ?_⟩
                intro vs18 U18 hN18
                exact ⟨(vs17 7 0, acc ++ [[(s : Int), (t : Int)]], t + 1), by dsimp only; omega, ⟨by dsimp only; omega, by dsimp only; omega, by dsimp only; rw [e3, List.append_assoc, ← hacc', ← e3, List.append_assoc], hfresh17⟩, rfl⟩
            · have hsn := hsn _ (hef fun h => h1 h.1)
              have q1 : ((out.getD ps.length []).getD s 0 != (out.getD ps.length []).getD t 0) = true := by simpa using h1
              simp only [B_spec_PairAutomaton_22, B_spec_PairAutomaton_23, rwn_getD hlt2, intsK_getD hya, intsK_getD hyb, q1, wpD_kp, wpD_regi, go_sem, adopt_fun, Int.reduceLT, Int.reduceLE, Int.reduceToNat, Int.reduceNeg, Nat.reduceLT, Nat.reduceLeDiff, Nat.reduceMul, Nat.reduceSub, reduceIte, Nat.reduceEqDiff, Nat.reduceAdd, reduceCtorEq]
              intro vs15 U15 hN15
              refine ⟨⟨by omega, hlt2⟩, hlt2, ⟨by omega, hya⟩, hya, ⟨by omega, hlt2⟩, hlt2, ⟨by omega, hyb⟩, hyb, ?_⟩
              intro vs17 U17 hN17
              have hU17 := hN17.hp 107
              simp only [AObj.uses, go_sem, adopt_fun, Int.reduceLT, Int.reduceLE, Int.reduceToNat, Int.reduceNeg, Nat.reduceLT, Nat.reduceLeDiff, Nat.reduceMul, Nat.reduceSub, reduceIte, Nat.reduceEqDiff, Nat.reduceAdd, reduceCtorEq] at hU17
              have hold17 := usesL_rwp (rest := []) (by rw [List.append_nil]; exact hU17.2)
              have hfresh17 : ∀ p ∈ ps, p.2 = [] ∨ ¬ p.1 = vs17 3 0 := fun p hp => by
                rcases hold17 p hp with h | h
                · exact .inl h
                · exact .inr fun e => hN17.new 3 0 (e ▸ h)
              simp only [B_spec_PairAutomaton_24, hsn, w8, wpD_kp, wpD_regi, go_sem, adopt_fun, Int.reduceLT, Int.reduceLE, Int.reduceToNat, Int.reduceNeg, Nat.reduceLT, Nat.reduceLeDiff, Nat.reduceMul, Nat.reduceSub, reduceIte, Nat.reduceEqDiff, Nat.reduceAdd, reduceCtorEq]
              refine ⟨⟨_, rfl, rfl⟩, by omega, ?_⟩
              intro vs18 U18 hN18
              exact ⟨(vs17 3 0, acc ++ [[(s : Int), (t : Int)]], t + 1), by dsimp only; omega, ⟨by dsimp only; omega, by dsimp only; omega, by dsimp only; rw [e3, List.append_assoc, ← hacc', ← e3, List.append_assoc], hfresh17⟩, rfl⟩
          · have ht2 : (t : Int) = n := by omega
            have e2 : (n - (t : Int)).toNat = 0 := by omega
            rw [e2] at hacc'
            simp only [prow, List.nil_append] at hacc'
            simp only [B_spec_PairAutomaton_18, B_spec_PairAutomaton_19, B_spec_PairAutomaton_25, w7, decide_eq_false hltt, wpD_kp, wpD_regi, go_sem, adopt_fun, Int.reduceLT, Int.reduceLE, Int.reduceToNat, Int.reduceNeg, Nat.reduceLT, Nat.reduceLeDiff, Nat.reduceMul, Nat.reduceSub, reduceIte, Nat.reduceEqDiff, Nat.reduceAdd, reduceCtorEq]
            intro vs12 U12 hN12 vs13 U13 hN13
            exact ⟨(vb, acc, s + 1), by dsimp only; omega, ⟨by dsimp only; omega, by dsimp only; rw [show ((s + 1 : Nat) : Int) = (s : Int) + 1 by omega]; exact hacc', hf⟩, rfl⟩
        · have hs2 : n.toNat - s = 0 := by omega
          rw [hs2] at hacc
          simp only [pall, List.append_nil] at hacc
          subst hacc
          simp only [B_spec_PairAutomaton_14, B_spec_PairAutomaton_15, B_spec_PairAutomaton_26, decide_eq_false hls, wpD_kp, wpD_regi, go_sem, adopt_fun, Int.reduceLT, Int.reduceLE, Int.reduceToNat, Int.reduceNeg, Nat.reduceLT, Nat.reduceLeDiff, Nat.reduceMul, Nat.reduceSub, reduceIte, Nat.reduceEqDiff, Nat.reduceAdd, reduceCtorEq]
          intro vs11 U11 hN11 vs12 U12 hN12
          rw [rwp_len]
          have hU12 := hN12.hp 107
          simp only [AObj.uses, go_sem, adopt_fun, Int.reduceLT, Int.reduceLE, Int.reduceToNat, Int.reduceNeg, Nat.reduceLT, Nat.reduceLeDiff, Nat.reduceMul, Nat.reduceSub, reduceIte, Nat.reduceEqDiff, Nat.reduceAdd, reduceCtorEq] at hU12
          have hold12 := usesL_rwp (rest := []) (by rw [List.append_nil]; exact hU12.2)
          have hfresh12 : ∀ p ∈ ps, p.2 = [] ∨ p.1 ≠ vs12 5 0 := fun p hp => by
            rcases hold12 p hp with h | h
            · exact .inl h
            · exact .inr fun e => hN12.new 5 0 (e ▸ h)
          refine ⟨⟨_, rfl, rfl⟩, by omega, by omega, ?_⟩
          simp only [B_spec_PairAutomaton_27, nat1 _ _ hlt1 hM, rwp_snoc, wpD_kp, wpD_regi, go_sem, adopt_fun, Int.reduceLT, Int.reduceLE, Int.reduceToNat, Int.reduceNeg, Nat.reduceLT, Nat.reduceLeDiff, Nat.reduceMul, Nat.reduceSub, reduceIte, Nat.reduceEqDiff, Nat.reduceAdd, reduceCtorEq]
          intro vs13 U13 hN13
          refine ⟨(true, v5, vs12 7 0, ps ++ [(vs12 5 0, rowM n (endM n) (next.getD ps.length []) (out.getD ps.length []))]), by dsimp only; rw [List.length_append, List.length_singleton]; omega, ⟨?_, by dsimp only; rw [List.length_append, List.length_singleton]; omega, hp3.snoc hfresh12, by simp⟩, ?_⟩
          · dsimp only
            rw [List.map_append, hp1, List.length_append, List.length_singleton, resM_succ]; rfl
          · dsimp only
            rw [List.length_append, List.length_singleton]
            rfl
      · have hlen : ps.length = next.length := by omega
        have hnn := hp4 (fun e => by rw [e] at hlen; simp at hlen; omega)
        subst hnn
        rw [hlen] at hp1
        have e1 : pairOk n o next out = true := by simp only [pairOk, hv, Bool.true_and, decide_eq_true he]
        have e2 : pairCode n o next out = 0 := by simp only [pairCode, hv, if_true, if_pos he]
        simp only [B_spec_PairAutomaton_9, B_spec_PairAutomaton_10, B_spec_PairAutomaton_28, decide_eq_false hlt, A_spec_PairAutomaton, ← hQ, wpD_kp, wpD_regi, go_sem, adopt_fun, Int.reduceLT, Int.reduceLE, Int.reduceToNat, Int.reduceNeg, Nat.reduceLT, Nat.reduceLeDiff, Nat.reduceMul, Nat.reduceSub, reduceIte, Nat.reduceEqDiff, Nat.reduceAdd, reduceCtorEq]
        intro vs7 U7 hN7 hM vs8 U8 hN8
        refine ⟨[107], by simp, by simp, by simp, ?_⟩
        simp only [e1, e2, if_true, range1, List.length_singleton, renL_rwp, Nat.not_lt_zero, range1, ren_val, ren_any, ren_ro, rnNm_n, rnNm_sn, rnNm_o, rnNm_s, ren_st, ren_tup, renL_nil, renL_cons, renL_intsK, renL_rws, renL_rwn, oren_box, oren_row, oren_map, ren_own_e0, ren_own_e1, ren_own_e2, ren_ptr_e0, ren_mp_e0, ren_mp_e1, ren_own_r0, ren_own_r1, ren_own_r2, ren_ptr_r0, ren_mp_r0, ren_mp_r1, List.range_zero, callHp_nil, callHp_one, callHp_two, gone_nil, gone_one, gone_two, AVal.fresh, freshL, fresh_intsK, fresh_rws, AObj.fresh, id, Option.isSome_some, or_true, true_or, go_sem, adopt_fun, Int.reduceLT, Int.reduceLE, Int.reduceToNat, Int.reduceNeg, Nat.reduceLT, Nat.reduceLeDiff, Nat.reduceMul, Nat.reduceSub, reduceIte, Nat.reduceEqDiff, Nat.reduceAdd, reduceCtorEq]
        exact ⟨fresh_rwp, va, ps, by simp, hp1, hp3, rfl⟩
    · have e1 : pairOk n o next out = false := by simp only [pairOk, hv, Bool.true_and, decide_eq_false he]
      have e2 : pairCode n o next out = 3 := by simp only [pairCode, hv, if_true, if_neg he]
      have hg : (10 : Int) ≤ endM n := by omega
      simp only [B_spec_PairAutomaton_2, B_spec_PairAutomaton_3, B_spec_PairAutomaton_4, B_spec_PairAutomaton_5, w0, w2, hE, w3, w1, h20, decide_eq_true hg, A_spec_PairAutomaton, ← hQ, wpD_kp, wpD_regi, go_sem, adopt_fun, Int.reduceLT, Int.reduceLE, Int.reduceToNat, Int.reduceNeg, Nat.reduceLT, Nat.reduceLeDiff, Nat.reduceMul, Nat.reduceSub, reduceIte, Nat.reduceEqDiff, Nat.reduceAdd, reduceCtorEq]
      intro vs2 U2 hN2 vs3 U3 hN3 vs4 U4 hN4
      refine ⟨[], by simp, by simp, by simp, ?_⟩
      simp only [e1, e2, Bool.false_eq_true, if_false, Nat.not_lt_zero, range1, ren_val, ren_any, ren_ro, rnNm_n, rnNm_sn, rnNm_o, rnNm_s, ren_st, ren_tup, renL_nil, renL_cons, renL_intsK, renL_rws, renL_rwn, oren_box, oren_row, oren_map, ren_own_e0, ren_own_e1, ren_own_e2, ren_ptr_e0, ren_mp_e0, ren_mp_e1, ren_own_r0, ren_own_r1, ren_own_r2, ren_ptr_r0, ren_mp_r0, ren_mp_r1, List.range_zero, callHp_nil, callHp_one, callHp_two, gone_nil, gone_one, gone_two, AVal.fresh, freshL, fresh_intsK, fresh_rws, AObj.fresh, id, Option.isSome_some, or_true, true_or, go_sem, adopt_fun, Int.reduceLT, Int.reduceLE, Int.reduceToNat, Int.reduceNeg, Nat.reduceLT, Nat.reduceLeDiff, Nat.reduceMul, Nat.reduceSub, reduceIte, Nat.reduceEqDiff, Nat.reduceAdd, reduceCtorEq]
      try simp
end Go.Ab
