/- Contracts: the program's PairAutomaton. Conditions: none. -/
import Derived.Test.YtgcbdccnhkfjoaaMc
set_option linter.all false
namespace Go.Ab
open Go.Proofs
set_option maxRecDepth 20000
set_option maxHeartbeats 2000000

/-- Whether there is a pair automaton, and the code. -/
def pairOk (n o : Int) (next out : List (List Int)) : Bool := machB n o next out && decide (endM n < 10)
def pairCode (n o : Int) (next out : List (List Int)) : Int := if machB n o next out = true then (if endM n < 10 then 0 else 3) else 1

theorem map_snoc {α β : Type} (f : α → β) {l : List α} {i : Nat} {d : α} (h : i < l.length) : (l.take i).map f ++ [f (l.getD i d)] = (l.take (i + 1)).map f := by
  rw [List.take_succ_eq_append_getElem h, List.map_append, List.getD_eq_getElem?_getD, List.getElem?_eq_getElem h]; rfl

theorem k_PairAutomaton (n o : Int) (next out : List (List Int)) :
    NamR Try.prog n_impl_PairAutomaton [machA n o next out] (pairOk n o next out) (endM n + 1) (resM n (endM n) next out next.length) (pairCode n o next out) := by
  refine con_of mixed c_impl_PairAutomaton rfl (by simp) ?_
  generalize hQ : finQ _ = Q
  simp only [A_impl_PairAutomaton, B_impl_PairAutomaton_1, wpD_kp, wpD_regi, go_sem, adopt_fun, Int.reduceLT, Int.reduceLE, Int.reduceToNat, Int.reduceNeg, Nat.reduceLT, Nat.reduceLeDiff, Nat.reduceMul, Nat.reduceSub, reduceIte, Nat.reduceEqDiff, Nat.reduceAdd, reduceCtorEq]
  intro vs0 U0 hN0 vs1 U1 hN1
  refine call_fun (k_ValidMachine n o next out) (by simp only [rowIs, boxIs, coe_argN, coe_argNs, coe_ro_o, coeL_nil, coeL_cons, coe_any, coe_val, coe_ro, coe_ro_nil, coe_ro_own, coe_st, coe_st_agg, coe_rp, coe_rp_ptr, coe_clo, coe_own0, coe_ptr0, coeL_intsK, coeL_rws, coeL_rwn, L_hit, L_miss, L_nil, Nat.reduceEqDiff, ne_eq, reduceCtorEq, not_false_eq_true, true_and, and_true, and_self, exists_eq_left, exists_eq_right, List.mem_cons, List.not_mem_nil, or_false, AObj.row.injEq, AObj.box.injEq, exists_eq_left', exists_and_left, exists_eq, Nat.zero_lt_one, Nat.lt_add_one, List.map_cons, List.map_nil, AObj.ver, Nat.reduceLT, not_true_eq_false]) trivial ?_
  cases hv : machB n o next out with
  | false =>
    have e1 : pairOk n o next out = false := by simp only [pairOk, hv, Bool.false_and]
    have e2 : pairCode n o next out = 1 := by simp only [pairCode, hv, Bool.false_eq_true, if_false]
    simp only [B_impl_PairAutomaton_2, A_impl_PairAutomaton, ← hQ, wpD_kp, wpD_regi, go_sem, adopt_fun, Int.reduceLT, Int.reduceLE, Int.reduceToNat, Int.reduceNeg, Nat.reduceLT, Nat.reduceLeDiff, Nat.reduceMul, Nat.reduceSub, reduceIte, Nat.reduceEqDiff, Nat.reduceAdd, reduceCtorEq]
    intro vs2 U2 hN2
    refine ⟨[], by simp, by simp, by simp, ?_⟩
    simp only [e1, e2, Bool.false_eq_true, if_false, Nat.not_lt_zero, range1, ren_val, ren_any, ren_ro, rnNm_n, rnNm_sn, rnNm_o, rnNm_s, ren_st, ren_tup, renL_nil, renL_cons, renL_intsK, renL_rws, renL_rwn, oren_box, oren_row, oren_map, ren_own_e0, ren_own_e1, ren_own_e2, ren_ptr_e0, ren_mp_e0, ren_mp_e1, ren_own_r0, ren_own_r1, ren_own_r2, ren_ptr_r0, ren_mp_r0, ren_mp_r1, List.range_zero, callHp_nil, callHp_one, callHp_two, gone_nil, gone_one, gone_two, AVal.fresh, freshL, fresh_intsK, fresh_rws, AObj.fresh, id, Option.isSome_some, or_true, true_or, go_sem, adopt_fun, Int.reduceLT, Int.reduceLE, Int.reduceToNat, Int.reduceNeg, Nat.reduceLT, Nat.reduceLeDiff, Nat.reduceMul, Nat.reduceSub, reduceIte, Nat.reduceEqDiff, Nat.reduceAdd, reduceCtorEq]
    try simp
  | true =>
    have M := machB_iff.1 hv
    have A := M.aut
    have n1 := A.n1
    have n2 := A.n2
    have l1 := A.l1
    have l2 := A.l2
    have hen := endM_nn ⟨n1, n2⟩
    have hpl := allP_len ⟨n1, n2⟩
    simp only [B_impl_PairAutomaton_2, B_impl_PairAutomaton_3, wpD_kp, wpD_regi, go_sem, adopt_fun, Int.reduceLT, Int.reduceLE, Int.reduceToNat, Int.reduceNeg, Nat.reduceLT, Nat.reduceLeDiff, Nat.reduceMul, Nat.reduceSub, reduceIte, Nat.reduceEqDiff, Nat.reduceAdd, reduceCtorEq]
    intro vs2 U2 hN2
    refine call_sh (k_forget n o next out) (by simp only [rowIs, boxIs, coe_argN, coe_argNs, coe_ro_o, coeL_nil, coeL_cons, coe_any, coe_val, coe_ro, coe_ro_nil, coe_ro_own, coe_st, coe_st_agg, coe_rp, coe_rp_ptr, coe_clo, coe_own0, coe_ptr0, coeL_intsK, coeL_rws, coeL_rwn, L_hit, L_miss, L_nil, Nat.reduceEqDiff, ne_eq, reduceCtorEq, not_false_eq_true, true_and, and_true, and_self, exists_eq_left, exists_eq_right, List.mem_cons, List.not_mem_nil, or_false, AObj.row.injEq, AObj.box.injEq, exists_eq_left', exists_and_left, exists_eq, Nat.zero_lt_one, Nat.lt_add_one, List.map_cons, List.map_nil, AObj.ver, Nat.reduceLT, not_true_eq_false]) (fun e => by cases e) ?_
    rintro outs rows res ⟨rfl, rfl, rfl⟩
    refine ⟨rfl, by simp, by simp, ?_⟩
    simp only [Nat.not_lt_zero, range1, ren_val, ren_any, ren_ro, rnNm_n, rnNm_sn, rnNm_o, rnNm_s, ren_st, ren_tup, renL_nil, renL_cons, renL_intsK, renL_rws, renL_rwn, oren_box, oren_row, oren_map, ren_own_e0, ren_own_e1, ren_own_e2, ren_ptr_e0, ren_mp_e0, ren_mp_e1, ren_own_r0, ren_own_r1, ren_own_r2, ren_ptr_r0, ren_mp_r0, ren_mp_r1, List.range_zero, callHp_nil, callHp_one, callHp_two, gone_nil, gone_one, gone_two, AVal.fresh, freshL, fresh_intsK, fresh_rws, AObj.fresh, id, Option.isSome_some, or_true, true_or, go_sem, adopt_fun, Int.reduceLT, Int.reduceLE, Int.reduceToNat, Int.reduceNeg, Nat.reduceLT, Nat.reduceLeDiff, Nat.reduceMul, Nat.reduceSub, reduceIte, Nat.reduceEqDiff, Nat.reduceAdd, reduceCtorEq]
    refine call_rowR (k_pairs n next n_impl_PairAutomaton_1 [] (fun _ _ => true) ⟨n1, n2⟩ ⟨by simp only [go_sem, adopt_fun, Int.reduceLT, Int.reduceLE, Int.reduceToNat, Int.reduceNeg, Nat.reduceLT, Nat.reduceLeDiff, Nat.reduceMul, Nat.reduceSub, reduceIte, Nat.reduceEqDiff, Nat.reduceAdd, reduceCtorEq], by intros; simp only [rowIs, boxIs, coe_argN, coe_argNs, coe_ro_o, coeL_nil, coeL_cons, coe_any, coe_val, coe_ro, coe_ro_nil, coe_ro_own, coe_st, coe_st_agg, coe_rp, coe_rp_ptr, coe_clo, coe_own0, coe_ptr0, coeL_intsK, coeL_rws, coeL_rwn, L_hit, L_miss, L_nil, Nat.reduceEqDiff, ne_eq, reduceCtorEq, not_false_eq_true, true_and, and_true, and_self, exists_eq_left, exists_eq_right, List.mem_cons, List.not_mem_nil, or_false, AObj.row.injEq, AObj.box.injEq, exists_eq_left', exists_and_left, exists_eq, Nat.zero_lt_one, Nat.lt_add_one, List.map_cons, List.map_nil, AObj.ver, Nat.reduceLT, not_true_eq_false]⟩ (fun s t _ _ _ => k_PairAutomaton_1 s t)) (by simp only [rowIs, boxIs, coe_argN, coe_argNs, coe_ro_o, coeL_nil, coeL_cons, coe_any, coe_val, coe_ro, coe_ro_nil, coe_ro_own, coe_st, coe_st_agg, coe_rp, coe_rp_ptr, coe_clo, coe_own0, coe_ptr0, coeL_intsK, coeL_rws, coeL_rwn, L_hit, L_miss, L_nil, Nat.reduceEqDiff, ne_eq, reduceCtorEq, not_false_eq_true, true_and, and_true, and_self, exists_eq_left, exists_eq_right, List.mem_cons, List.not_mem_nil, or_false, AObj.row.injEq, AObj.box.injEq, exists_eq_left', exists_and_left, exists_eq, Nat.zero_lt_one, Nat.lt_add_one, List.map_cons, List.map_nil, AObj.ver, Nat.reduceLT, not_true_eq_false]) rfl ⟨_, rfl⟩ ?_
    rintro _ v20 rfl
    simp only [B_impl_PairAutomaton_4, wpD_kp, wpD_regi, go_sem, adopt_fun, Int.reduceLT, Int.reduceLE, Int.reduceToNat, Int.reduceNeg, Nat.reduceLT, Nat.reduceLeDiff, Nat.reduceMul, Nat.reduceSub, reduceIte, Nat.reduceEqDiff, Nat.reduceAdd, reduceCtorEq]
    intro vs3 U3 hN3
    refine call_fun (k_size1 (allP n)) (by simp only [rowIs, boxIs, coe_argN, coe_argNs, coe_ro_o, coeL_nil, coeL_cons, coe_any, coe_val, coe_ro, coe_ro_nil, coe_ro_own, coe_st, coe_st_agg, coe_rp, coe_rp_ptr, coe_clo, coe_own0, coe_ptr0, coeL_intsK, coeL_rws, coeL_rwn, L_hit, L_miss, L_nil, Nat.reduceEqDiff, ne_eq, reduceCtorEq, not_false_eq_true, true_and, and_true, and_self, exists_eq_left, exists_eq_right, List.mem_cons, List.not_mem_nil, or_false, AObj.row.injEq, AObj.box.injEq, exists_eq_left', exists_and_left, exists_eq, Nat.zero_lt_one, Nat.lt_add_one, List.map_cons, List.map_nil, AObj.ver, Nat.reduceLT, not_true_eq_false]) trivial ?_
    have w1 : IntKind.i64.wrap (endM n + 1) = endM n + 1 := w64 (by omega)
    by_cases he : endM n < 10
    · have hn4 := endM_small ⟨n1, n2⟩ he
      have hg : ¬ (10 : Int) < endM n + 1 := by omega
      simp only [hpl, w1, B_impl_PairAutomaton_5, B_impl_PairAutomaton_6, B_impl_PairAutomaton_7, decide_eq_false hg, wpD_kp, wpD_regi, go_sem, adopt_fun, Int.reduceLT, Int.reduceLE, Int.reduceToNat, Int.reduceNeg, Nat.reduceLT, Nat.reduceLeDiff, Nat.reduceMul, Nat.reduceSub, reduceIte, Nat.reduceEqDiff, Nat.reduceAdd, reduceCtorEq]
      intro vs4 U4 hN4 vs5 U5 hN5
      simp only [B_impl_PairAutomaton_8, B_impl_PairAutomaton_9, wpD_kp, wpD_regi, go_sem, adopt_fun, Int.reduceLT, Int.reduceLE, Int.reduceToNat, Int.reduceNeg, Nat.reduceLT, Nat.reduceLeDiff, Nat.reduceMul, Nat.reduceSub, reduceIte, Nat.reduceEqDiff, Nat.reduceAdd, reduceCtorEq]
      intro vs6 U6 hN6 hM ver
      have hM2 := maxLen_le
      refine wpD_lp (fun (_, _, _, ps) => next.length - List.length ps)
        (fun (nn, _, _, ps) => List.map (·.2) ps = resM n (endM n) next out (List.length ps) ∧ List.length ps ≤ next.length ∧ DJ ps ∧ (ps ≠ [] → nn = true))
        (fun ((nn, v6, va, ps) : Bool × Nat × Nat × List (Nat × List Int)) => ⟨L .any [(1, .ptr 1 (vs0 0 0) 0), (2, .ptr 2 (vs0 1 0) 0), (4, .own 20 v20), (5, iv (endM n)), (6, .ptr 6 v6 0), (31, .ro none 1 (rwn next)), (32, iv next.length), (33, iv ps.length)],
          L .gone [(1, .box (vs0 0 0) [iv n, iv o, .ro none 1 (rwn next), .ro none 1 (rwn out)]), (2, .box (vs0 1 0) [iv 0, nilS]), (6, .box v6 [iv (endM n + 1), .own 101 va]), (19, .gone), (20, .row v20 1 true (rws (allP n))), (101, .row va 1 nn (rwp ps)), (5000, .gone)]⟩)
        (_, _, _, []) ⟨rfl, by simp, by simp [DJ], by simp⟩ (by simp only [B_impl_PairAutomaton_10, List.length_nil, rwp_nil, go_sem, adopt_fun, Int.reduceLT, Int.reduceLE, Int.reduceToNat, Int.reduceNeg, Nat.reduceLT, Nat.reduceLeDiff, Nat.reduceMul, Nat.reduceSub, reduceIte, Nat.reduceEqDiff, Nat.reduceAdd, reduceCtorEq]; try rfl) ?_
      rintro ⟨nn, v6, va, ps⟩ ⟨hp1, hp2, hp3, hp4⟩
      have hp1 : ps.map (·.2) = resM n (endM n) next out ps.length := hp1
      have hp2 : ps.length ≤ next.length := hp2
      have hp3 : DJ ps := hp3
      have hp4 : ps ≠ [] → nn = true := hp4
      by_cases hlt : (ps.length : Int) < next.length
      · have hlt1 : ps.length < next.length := by omega
        have hlt2 : ps.length < out.length := by rw [M.len]; exact hlt1
        have hrow := A.row _ (getD_mem hlt1 [])
        have hrow2 := M.row _ (getD_mem hlt2 [])
        simp only [B_impl_PairAutomaton_10, B_impl_PairAutomaton_11, B_impl_PairAutomaton_12, rwn_getD hlt1, decide_eq_true hlt, wpD_kp, wpD_regi, go_sem, adopt_fun, Int.reduceLT, Int.reduceLE, Int.reduceToNat, Int.reduceNeg, Nat.reduceLT, Nat.reduceLeDiff, Nat.reduceMul, Nat.reduceSub, reduceIte, Nat.reduceEqDiff, Nat.reduceAdd, reduceCtorEq]
        intro vs7 U7 hN7 vs8 U8 hN8
        refine ⟨⟨by omega, hlt1⟩, hlt1, ?_⟩
        simp only [B_impl_PairAutomaton_13, wpD_kp, wpD_regi, go_sem, adopt_fun, Int.reduceLT, Int.reduceLE, Int.reduceToNat, Int.reduceNeg, Nat.reduceLT, Nat.reduceLeDiff, Nat.reduceMul, Nat.reduceSub, reduceIte, Nat.reduceEqDiff, Nat.reduceAdd, reduceCtorEq]
        intro vs9 U9 hN9
        have hU := hN9.hp 101
        simp only [AObj.uses, go_sem, adopt_fun, Int.reduceLT, Int.reduceLE, Int.reduceToNat, Int.reduceNeg, Nat.reduceLT, Nat.reduceLeDiff, Nat.reduceMul, Nat.reduceSub, reduceIte, Nat.reduceEqDiff, Nat.reduceAdd, reduceCtorEq] at hU
        have hold := usesL_rwp (rest := []) (by rw [List.append_nil]; exact hU.2)
        have hfresh : ∀ (i k : Nat), ∀ p ∈ ps, p.2 = [] ∨ p.1 ≠ vs9 i k := fun i k p hp => by
          rcases hold p hp with h | h
          · exact .inl h
          · exact .inr fun e => hN9.new i k (e ▸ h)
        simp only [B_impl_PairAutomaton_14, B_impl_PairAutomaton_15, wpD_kp, wpD_regi, go_sem, adopt_fun, Int.reduceLT, Int.reduceLE, Int.reduceToNat, Int.reduceNeg, Nat.reduceLT, Nat.reduceLeDiff, Nat.reduceMul, Nat.reduceSub, reduceIte, Nat.reduceEqDiff, Nat.reduceAdd, reduceCtorEq]
        intro vs10 U10 hN10 hMo
        have hM3 : (allP n).length ≤ maxLen := by omega
        have hMl : (rws (allP n)).length = (allP n).length := rws_len
        refine wpD_lp (fun (_, j) => (allP n).length - j) (fun (vb, j) => j ≤ (allP n).length ∧ ∀ p ∈ ps, p.2 = [] ∨ p.1 ≠ vb)
          (fun ((vb, j) : Nat × Nat) => ⟨L .any [(1, .ptr 1 (vs0 0 0) 0), (2, .ptr 2 (vs0 1 0) 0), (4, .own 20 v20), (5, iv (endM n)), (6, .ptr 6 v6 0), (7, iv ps.length), (8, .ro none 1 (ints (next.getD ps.length []))), (9, .own 38 vb), (31, .ro none 1 (rwn next)), (32, iv next.length), (33, iv ps.length), (39, .own 20 v20), (40, iv (allP n).length), (41, iv j)],
            L .gone [(1, .box (vs0 0 0) [iv n, iv o, .ro none 1 (rwn next), .ro none 1 (rwn out)]), (2, .box (vs0 1 0) [iv 0, nilS]), (6, .box v6 [iv (endM n + 1), .own 101 va]), (19, .gone), (20, .row v20 1 true (rws (allP n))), (38, .row vb 1 true (ints (((allP n).take j).map (cellM n (endM n) (next.getD ps.length []) (out.getD ps.length []))))), (92, .gone), (101, .row va 1 nn (rwp ps)), (5000, .gone)]⟩)
          (_, 0) ⟨by simp, hfresh 0 0⟩ (by simp only [B_impl_PairAutomaton_16, hMl, go_sem, adopt_fun, Int.reduceLT, Int.reduceLE, Int.reduceToNat, Int.reduceNeg, Nat.reduceLT, Nat.reduceLeDiff, Nat.reduceMul, Nat.reduceSub, reduceIte, Nat.reduceEqDiff, Nat.reduceAdd, reduceCtorEq]; try rfl) ?_
        rintro ⟨vb, j⟩ ⟨hj, hf⟩
        have hj : j ≤ (allP n).length := hj
        have hf : ∀ p ∈ ps, p.2 = [] ∨ p.1 ≠ vb := hf
        by_cases hjl : (j : Int) < (allP n).length
        · have hj1 : j < (allP n).length := by omega
          simp only [B_impl_PairAutomaton_16, B_impl_PairAutomaton_17, B_impl_PairAutomaton_18, decide_eq_true hjl, wpD_kp, wpD_regi, go_sem, adopt_fun, Int.reduceLT, Int.reduceLE, Int.reduceToNat, Int.reduceNeg, Nat.reduceLT, Nat.reduceLeDiff, Nat.reduceMul, Nat.reduceSub, reduceIte, Nat.reduceEqDiff, Nat.reduceAdd, reduceCtorEq]
          intro vs11 U11 hN11 vs12 U12 hN12
          refine ⟨⟨by omega, hj1⟩, hj1, ?_⟩
          obtain ⟨a, b, ha, hab, hb, -, hpe⟩ := (pairsL_mem (by omega)).1 (getD_mem hj1 [])
          have hsn := map_snoc (cellM n (endM n) (next.getD ps.length []) (out.getD ps.length [])) (d := []) hj1
          rw [hpe] at hsn
          have hgr : (rws (allP n)).getD j .any = .ro (some none) 1 [iv a, iv b] := by rw [rws_getD hj1, hpe]; rfl
          rw [hgr]
          have hxa : a.toNat < (next.getD ps.length []).length := by omega
          have hxb : b.toNat < (next.getD ps.length []).length := by omega
          have hya : a.toNat < (out.getD ps.length []).length := by omega
          have hyb : b.toNat < (out.getD ps.length []).length := by omega
          have hxi := hrow.2 _ (getD_mem hxa 0)
          have hyi := hrow.2 _ (getD_mem hxb 0)
          have t0 : (a.toNat : Int) = a := by omega
          have t1 : (b.toNat : Int) = b := by omega
          have hsl : [(next.getD ps.length []).getD a.toNat 0, (next.getD ps.length []).getD b.toNat 0].length * 8 ≤ 140737488355328 := by simp
          simp only [B_impl_PairAutomaton_19, intsK_getD hxa, intsK_getD hxb, wpD_kp, wpD_regi, go_sem, adopt_fun, Int.reduceLT, Int.reduceLE, Int.reduceToNat, Int.reduceNeg, Nat.reduceLT, Nat.reduceLeDiff, Nat.reduceMul, Nat.reduceSub, reduceIte, Nat.reduceEqDiff, Nat.reduceAdd, reduceCtorEq]
          intro vs13 U13 hN13
          refine ⟨⟨ha, hxa⟩, hxa, ⟨by omega, hxb⟩, hxb, ?_⟩
          refine ⟨⟨⟨_, rfl, rfl⟩, ⟨_, rfl, rfl⟩⟩, ?_⟩
          have han : argN [(next.getD ps.length []).getD a.toNat 0, (next.getD ps.length []).getD b.toNat 0] = none := rfl
          refine call_rowIs (k_sorted [(next.getD ps.length []).getD a.toNat 0, (next.getD ps.length []).getD b.toNat 0] hsl) (by simp only [han, rowIs, boxIs, coe_argN, coe_argNs, coe_ro_o, coeL_nil, coeL_cons, coe_any, coe_val, coe_ro, coe_ro_nil, coe_ro_own, coe_st, coe_st_agg, coe_rp, coe_rp_ptr, coe_clo, coe_own0, coe_ptr0, coeL_intsK, coeL_rws, coeL_rwn, L_hit, L_miss, L_nil, Nat.reduceEqDiff, ne_eq, reduceCtorEq, not_false_eq_true, true_and, and_true, and_self, exists_eq_left, exists_eq_right, List.mem_cons, List.not_mem_nil, or_false, AObj.row.injEq, AObj.box.injEq, exists_eq_left', exists_and_left, exists_eq, Nat.zero_lt_one, Nat.lt_add_one, List.map_cons, List.map_nil, AObj.ver, Nat.reduceLT, not_true_eq_false]) rfl ⟨_, rfl⟩ ?_
          rintro _ v58 rfl
          have heq := cellM_t (n := n) (e := endM n) (nx := next.getD ps.length []) (ou := out.getD ps.length []) (s := a) (t := b)
          have hef := cellM_f (n := n) (e := endM n) (nx := next.getD ps.length []) (ou := out.getD ps.length []) (s := a) (t := b)
          have hip := idx_pair (n := n) ⟨n1, hn4⟩ hxi hyi
          have hns := nrm_same (x := (next.getD ps.length []).getD a.toNat 0)
          by_cases h1 : (out.getD ps.length []).getD a.toNat 0 = (out.getD ps.length []).getD b.toNat 0
          · have q1 : ((out.getD ps.length []).getD a.toNat 0 == (out.getD ps.length []).getD b.toNat 0) = true := beqT h1
            by_cases h2 : (next.getD ps.length []).getD a.toNat 0 = (next.getD ps.length []).getD b.toNat 0
            · rw [hef (fun h => h.2 h2)] at hsn
              rw [← h2]
              have q2 : (((nrm [(next.getD ps.length []).getD a.toNat 0, (next.getD ps.length []).getD a.toNat 0]).length : Int) == 2) = false := beqF (by rw [hns]; decide)
              simp only [B_impl_PairAutomaton_20, B_impl_PairAutomaton_21, B_impl_PairAutomaton_22, rwn_getD hlt2, intsK_getD hya, intsK_getD hyb, q1, q2, wpD_kp, wpD_regi, go_sem, adopt_fun, Int.reduceLT, Int.reduceLE, Int.reduceToNat, Int.reduceNeg, Nat.reduceLT, Nat.reduceLeDiff, Nat.reduceMul, Nat.reduceSub, reduceIte, Nat.reduceEqDiff, Nat.reduceAdd, reduceCtorEq]
              intro vs14 U14 hN14 vs15 U15 hN15
              refine ⟨⟨by omega, hlt2⟩, hlt2, ⟨ha, hya⟩, hya, ⟨by omega, hlt2⟩, hlt2, ⟨by omega, hyb⟩, hyb, ?_⟩
              simp only [B_impl_PairAutomaton_23, wpD_kp, wpD_regi, go_sem, adopt_fun, Int.reduceLT, Int.reduceLE, Int.reduceToNat, Int.reduceNeg, Nat.reduceLT, Nat.reduceLeDiff, Nat.reduceMul, Nat.reduceSub, reduceIte, Nat.reduceEqDiff, Nat.reduceAdd, reduceCtorEq]
              intro vs17 U17 hN17
              have hU17 := hN17.hp 101
              simp only [AObj.uses, go_sem, adopt_fun, Int.reduceLT, Int.reduceLE, Int.reduceToNat, Int.reduceNeg, Nat.reduceLT, Nat.reduceLeDiff, Nat.reduceMul, Nat.reduceSub, reduceIte, Nat.reduceEqDiff, Nat.reduceAdd, reduceCtorEq] at hU17
              have hold17 := usesL_rwp (rest := []) (by rw [List.append_nil]; exact hU17.2)
              have hfresh17 : ∀ p ∈ ps, p.2 = [] ∨ ¬ p.1 = vs17 3 0 := fun p hp => by
                rcases hold17 p hp with h | h
                · exact .inl h
                · exact .inr fun e => hN17.new 3 0 (e ▸ h)
              simp only [B_impl_PairAutomaton_24, hsn, nat1 j _ hj1 hM3, wpD_kp, wpD_regi, go_sem, adopt_fun, Int.reduceLT, Int.reduceLE, Int.reduceToNat, Int.reduceNeg, Nat.reduceLT, Nat.reduceLeDiff, Nat.reduceMul, Nat.reduceSub, reduceIte, Nat.reduceEqDiff, Nat.reduceAdd, reduceCtorEq]
              refine ⟨⟨_, rfl, rfl⟩, by rw [List.length_take]; omega, ?_⟩
              intro vs18 U18 hN18
              exact ⟨(_, j + 1), by dsimp only; omega, ⟨by dsimp only; omega, hfresh17⟩, rfl⟩
            · rw [heq h1 h2] at hsn
              have hip := hip h2
              have q2 : (((nrm [(next.getD ps.length []).getD a.toNat 0, (next.getD ps.length []).getD b.toNat 0]).length : Int) == 2) = true := beqT (by rw [hip.2]; rfl)
              simp only [B_impl_PairAutomaton_20, B_impl_PairAutomaton_21, B_impl_PairAutomaton_22, rwn_getD hlt2, intsK_getD hya, intsK_getD hyb, q1, q2, wpD_kp, wpD_regi, go_sem, adopt_fun, Int.reduceLT, Int.reduceLE, Int.reduceToNat, Int.reduceNeg, Nat.reduceLT, Nat.reduceLeDiff, Nat.reduceMul, Nat.reduceSub, reduceIte, Nat.reduceEqDiff, Nat.reduceAdd, reduceCtorEq]
              intro vs14 U14 hN14 vs15 U15 hN15
              refine ⟨⟨by omega, hlt2⟩, hlt2, ⟨ha, hya⟩, hya, ⟨by omega, hlt2⟩, hlt2, ⟨by omega, hyb⟩, hyb, ?_⟩
              intro vs16 U16 hN16
              refine call_fun (k_IndexFunc (allP n) n_impl_PairAutomaton_2 [.rp [.ro none 1 (ints (nrm [(next.getD ps.length []).getD a.toNat 0, (next.getD ps.length []).getD b.toNat 0]))] 0] (fun q => decide (q = nrm [(next.getD ps.length []).getD a.toNat 0, (next.getD ps.length []).getD b.toNat 0])) ⟨by simp only [go_sem, adopt_fun, Int.reduceLT, Int.reduceLE, Int.reduceToNat, Int.reduceNeg, Nat.reduceLT, Nat.reduceLeDiff, Nat.reduceMul, Nat.reduceSub, reduceIte, Nat.reduceEqDiff, Nat.reduceAdd, reduceCtorEq], by intros; simp only [rowIs, boxIs, coe_argN, coe_argNs, coe_ro_o, coeL_nil, coeL_cons, coe_any, coe_val, coe_ro, coe_ro_nil, coe_ro_own, coe_st, coe_st_agg, coe_rp, coe_rp_ptr, coe_clo, coe_own0, coe_ptr0, coeL_intsK, coeL_rws, coeL_rwn, L_hit, L_miss, L_nil, Nat.reduceEqDiff, ne_eq, reduceCtorEq, not_false_eq_true, true_and, and_true, and_self, exists_eq_left, exists_eq_right, List.mem_cons, List.not_mem_nil, or_false, AObj.row.injEq, AObj.box.injEq, exists_eq_left', exists_and_left, exists_eq, Nat.zero_lt_one, Nat.lt_add_one, List.map_cons, List.map_nil, AObj.ver, Nat.reduceLT, not_true_eq_false]⟩ (fun q _ => k_PairAutomaton_2 q _)) (by simp only [rowIs, boxIs, coe_argN, coe_argNs, coe_ro_o, coeL_nil, coeL_cons, coe_any, coe_val, coe_ro, coe_ro_nil, coe_ro_own, coe_st, coe_st_agg, coe_rp, coe_rp_ptr, coe_clo, coe_own0, coe_ptr0, coeL_intsK, coeL_rws, coeL_rwn, L_hit, L_miss, L_nil, Nat.reduceEqDiff, ne_eq, reduceCtorEq, not_false_eq_true, true_and, and_true, and_self, exists_eq_left, exists_eq_right, List.mem_cons, List.not_mem_nil, or_false, AObj.row.injEq, AObj.box.injEq, exists_eq_left', exists_and_left, exists_eq, Nat.zero_lt_one, Nat.lt_add_one, List.map_cons, List.map_nil, AObj.ver, Nat.reduceLT, not_true_eq_false]) trivial ?_
              simp only [hip.1, go_sem, adopt_fun, Int.reduceLT, Int.reduceLE, Int.reduceToNat, Int.reduceNeg, Nat.reduceLT, Nat.reduceLeDiff, Nat.reduceMul, Nat.reduceSub, reduceIte, Nat.reduceEqDiff, Nat.reduceAdd, reduceCtorEq]
              simp only [B_impl_PairAutomaton_23, wpD_kp, wpD_regi, go_sem, adopt_fun, Int.reduceLT, Int.reduceLE, Int.reduceToNat, Int.reduceNeg, Nat.reduceLT, Nat.reduceLeDiff, Nat.reduceMul, Nat.reduceSub, reduceIte, Nat.reduceEqDiff, Nat.reduceAdd, reduceCtorEq]
              intro vs17 U17 hN17
              have hU17 := hN17.hp 101
              simp only [AObj.uses, go_sem, adopt_fun, Int.reduceLT, Int.reduceLE, Int.reduceToNat, Int.reduceNeg, Nat.reduceLT, Nat.reduceLeDiff, Nat.reduceMul, Nat.reduceSub, reduceIte, Nat.reduceEqDiff, Nat.reduceAdd, reduceCtorEq] at hU17
              have hold17 := usesL_rwp (rest := []) (by rw [List.append_nil]; exact hU17.2)
              have hfresh17 : ∀ p ∈ ps, p.2 = [] ∨ ¬ p.1 = vs17 3 0 := fun p hp => by
                rcases hold17 p hp with h | h
                · exact .inl h
                · exact .inr fun e => hN17.new 3 0 (e ▸ h)
              simp only [B_impl_PairAutomaton_24, hsn, nat1 j _ hj1 hM3, wpD_kp, wpD_regi, go_sem, adopt_fun, Int.reduceLT, Int.reduceLE, Int.reduceToNat, Int.reduceNeg, Nat.reduceLT, Nat.reduceLeDiff, Nat.reduceMul, Nat.reduceSub, reduceIte, Nat.reduceEqDiff, Nat.reduceAdd, reduceCtorEq]
              refine ⟨⟨_, rfl, rfl⟩, by rw [List.length_take]; omega, ?_⟩
              intro vs18 U18 hN18
              exact ⟨(_, j + 1), by dsimp only; omega, ⟨by dsimp only; omega, hfresh17⟩, rfl⟩
          · rw [hef (fun h => h1 h.1)] at hsn
            have q1 : ((out.getD ps.length []).getD a.toNat 0 == (out.getD ps.length []).getD b.toNat 0) = false := beqF h1
            simp only [B_impl_PairAutomaton_20, B_impl_PairAutomaton_21, B_impl_PairAutomaton_22, rwn_getD hlt2, intsK_getD hya, intsK_getD hyb, q1, wpD_kp, wpD_regi, go_sem, adopt_fun, Int.reduceLT, Int.reduceLE, Int.reduceToNat, Int.reduceNeg, Nat.reduceLT, Nat.reduceLeDiff, Nat.reduceMul, Nat.reduceSub, reduceIte, Nat.reduceEqDiff, Nat.reduceAdd, reduceCtorEq]
            intro vs14 U14 hN14 vs15 U15 hN15
            refine ⟨⟨by omega, hlt2⟩, hlt2, ⟨ha, hya⟩, hya, ⟨by omega, hlt2⟩, hlt2, ⟨by omega, hyb⟩, hyb, ?_⟩
            simp only [B_impl_PairAutomaton_23, wpD_kp, wpD_regi, go_sem, adopt_fun, Int.reduceLT, Int.reduceLE, Int.reduceToNat, Int.reduceNeg, Nat.reduceLT, Nat.reduceLeDiff, Nat.reduceMul, Nat.reduceSub, reduceIte, Nat.reduceEqDiff, Nat.reduceAdd, reduceCtorEq]
            intro vs17 U17 hN17
            have hU17 := hN17.hp 101
            simp only [AObj.uses, go_sem, adopt_fun, Int.reduceLT, Int.reduceLE, Int.reduceToNat, Int.reduceNeg, Nat.reduceLT, Nat.reduceLeDiff, Nat.reduceMul, Nat.reduceSub, reduceIte, Nat.reduceEqDiff, Nat.reduceAdd, reduceCtorEq] at hU17
            have hold17 := usesL_rwp (rest := []) (by rw [List.append_nil]; exact hU17.2)
            have hfresh17 : ∀ p ∈ ps, p.2 = [] ∨ ¬ p.1 = vs17 3 0 := fun p hp => by
              rcases hold17 p hp with h | h
              · exact .inl h
              · exact .inr fun e => hN17.new 3 0 (e ▸ h)
            simp only [B_impl_PairAutomaton_24, hsn, nat1 j _ hj1 hM3, wpD_kp, wpD_regi, go_sem, adopt_fun, Int.reduceLT, Int.reduceLE, Int.reduceToNat, Int.reduceNeg, Nat.reduceLT, Nat.reduceLeDiff, Nat.reduceMul, Nat.reduceSub, reduceIte, Nat.reduceEqDiff, Nat.reduceAdd, reduceCtorEq]
            refine ⟨⟨_, rfl, rfl⟩, by rw [List.length_take]; omega, ?_⟩
            intro vs18 U18 hN18
            exact ⟨(_, j + 1), by dsimp only; omega, ⟨by dsimp only; omega, hfresh17⟩, rfl⟩
        · have : j = (allP n).length := by omega
          subst this
          simp only [B_impl_PairAutomaton_16, B_impl_PairAutomaton_17, B_impl_PairAutomaton_25, List.take_length, decide_eq_false hjl, wpD_kp, wpD_regi, go_sem, adopt_fun, Int.reduceLT, Int.reduceLE, Int.reduceToNat, Int.reduceNeg, Nat.reduceLT, Nat.reduceLeDiff, Nat.reduceMul, Nat.reduceSub, reduceIte, Nat.reduceEqDiff, Nat.reduceAdd, reduceCtorEq]
          intro vs11 U11 hN11 vs12 U12 hN12
          rw [rwp_len]
          have hU12 := hN12.hp 101
          simp only [AObj.uses, go_sem, adopt_fun, Int.reduceLT, Int.reduceLE, Int.reduceToNat, Int.reduceNeg, Nat.reduceLT, Nat.reduceLeDiff, Nat.reduceMul, Nat.reduceSub, reduceIte, Nat.reduceEqDiff, Nat.reduceAdd, reduceCtorEq] at hU12
          have hold12 := usesL_rwp (rest := []) (by rw [List.append_nil]; exact hU12.2)
          have hfresh12 : ∀ p ∈ ps, p.2 = [] ∨ p.1 ≠ vs12 5 0 := fun p hp => by
            rcases hold12 p hp with h | h
            · exact .inl h
            · exact .inr fun e => hN12.new 5 0 (e ▸ h)
          refine ⟨⟨_, rfl, rfl⟩, by omega, by omega, ?_⟩
          simp only [B_impl_PairAutomaton_26, nat1 _ _ hlt1 hM, rwp_snoc, wpD_kp, wpD_regi, go_sem, adopt_fun, Int.reduceLT, Int.reduceLE, Int.reduceToNat, Int.reduceNeg, Nat.reduceLT, Nat.reduceLeDiff, Nat.reduceMul, Nat.reduceSub, reduceIte, Nat.reduceEqDiff, Nat.reduceAdd, reduceCtorEq]
          intro vs13 U13 hN13
          refine ⟨(true, v6, vs12 7 0, ps ++ [(vs12 5 0, rowM n (endM n) (next.getD ps.length []) (out.getD ps.length []))]), by dsimp only; rw [List.length_append, List.length_singleton]; omega, ⟨?_, by dsimp only; rw [List.length_append, List.length_singleton]; omega, hp3.snoc hfresh12, by simp⟩, ?_⟩
          · dsimp only
            rw [List.map_append, hp1, List.length_append, List.length_singleton, resM_succ]; rfl
          · dsimp only
            rw [List.length_append, List.length_singleton]
            rfl
      · have hlen : ps.length = next.length := by omega
        have hnn := hp4 (fun e => by rw [e] at hlen; simp at hlen; omega)
        subst hnn
        rw [hlen] at hp1
        have e1 : pairOk n o next out = true := by simp only [pairOk, hv, Bool.true_and, decide_eq_true he]
        have e2 : pairCode n o next out = 0 := by simp only [pairCode, hv, if_true, if_pos he]
        simp only [B_impl_PairAutomaton_10, B_impl_PairAutomaton_11, B_impl_PairAutomaton_27, decide_eq_false hlt, A_impl_PairAutomaton, ← hQ, wpD_kp, wpD_regi, go_sem, adopt_fun, Int.reduceLT, Int.reduceLE, Int.reduceToNat, Int.reduceNeg, Nat.reduceLT, Nat.reduceLeDiff, Nat.reduceMul, Nat.reduceSub, reduceIte, Nat.reduceEqDiff, Nat.reduceAdd, reduceCtorEq]
        intro vs7 U7 hN7 vs8 U8 hN8
        refine ⟨[101], by simp, by simp, by simp, ?_⟩
        simp only [e1, e2, if_true, range1, List.length_singleton, renL_rwp, Nat.not_lt_zero, range1, ren_val, ren_any, ren_ro, rnNm_n, rnNm_sn, rnNm_o, rnNm_s, ren_st, ren_tup, renL_nil, renL_cons, renL_intsK, renL_rws, renL_rwn, oren_box, oren_row, oren_map, ren_own_e0, ren_own_e1, ren_own_e2, ren_ptr_e0, ren_mp_e0, ren_mp_e1, ren_own_r0, ren_own_r1, ren_own_r2, ren_ptr_r0, ren_mp_r0, ren_mp_r1, List.range_zero, callHp_nil, callHp_one, callHp_two, gone_nil, gone_one, gone_two, AVal.fresh, freshL, fresh_intsK, fresh_rws, AObj.fresh, id, Option.isSome_some, or_true, true_or, go_sem, adopt_fun, Int.reduceLT, Int.reduceLE, Int.reduceToNat, Int.reduceNeg, Nat.reduceLT, Nat.reduceLeDiff, Nat.reduceMul, Nat.reduceSub, reduceIte, Nat.reduceEqDiff, Nat.reduceAdd, reduceCtorEq]
        exact ⟨fresh_rwp, va, ps, by simp, hp1, hp3, rfl⟩
    · have e1 : pairOk n o next out = false := by simp only [pairOk, hv, Bool.true_and, decide_eq_false he]
      have e2 : pairCode n o next out = 3 := by simp only [pairCode, hv, if_true, if_neg he]
      have hg : (10 : Int) < endM n + 1 := by omega
      simp only [hpl, w1, B_impl_PairAutomaton_5, B_impl_PairAutomaton_6, decide_eq_true hg, A_impl_PairAutomaton, ← hQ, wpD_kp, wpD_regi, go_sem, adopt_fun, Int.reduceLT, Int.reduceLE, Int.reduceToNat, Int.reduceNeg, Nat.reduceLT, Nat.reduceLeDiff, Nat.reduceMul, Nat.reduceSub, reduceIte, Nat.reduceEqDiff, Nat.reduceAdd, reduceCtorEq]
      intro vs4 U4 hN4 vs5 U5 hN5
      refine ⟨[], by simp, by simp, by simp, ?_⟩
      simp only [e1, e2, Bool.false_eq_true, if_false, Nat.not_lt_zero, range1, ren_val, ren_any, ren_ro, rnNm_n, rnNm_sn, rnNm_o, rnNm_s, ren_st, ren_tup, renL_nil, renL_cons, renL_intsK, renL_rws, renL_rwn, oren_box, oren_row, oren_map, ren_own_e0, ren_own_e1, ren_own_e2, ren_ptr_e0, ren_mp_e0, ren_mp_e1, ren_own_r0, ren_own_r1, ren_own_r2, ren_ptr_r0, ren_mp_r0, ren_mp_r1, List.range_zero, callHp_nil, callHp_one, callHp_two, gone_nil, gone_one, gone_two, AVal.fresh, freshL, fresh_intsK, fresh_rws, AObj.fresh, id, Option.isSome_some, or_true, true_or, go_sem, adopt_fun, Int.reduceLT, Int.reduceLE, Int.reduceToNat, Int.reduceNeg, Nat.reduceLT, Nat.reduceLeDiff, Nat.reduceMul, Nat.reduceSub, reduceIte, Nat.reduceEqDiff, Nat.reduceAdd, reduceCtorEq]
      try simp
end Go.Ab
