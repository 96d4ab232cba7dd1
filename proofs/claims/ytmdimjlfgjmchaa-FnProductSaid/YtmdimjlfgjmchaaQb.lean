/- Contracts: automata with their states in another order. Conditions: none. -/
import Derived.Test.YtmdimjlfgjmchaaQa
set_option linter.all false
namespace Go.Ab
open Go.Proofs
set_option maxRecDepth 20000
set_option maxHeartbeats 2000000

/-- A row with the states in another order. -/
def renR (order row : List Int) : List Int := order.map fun s => fidx (fun y => row.getD s.toNat 0 == y) order 0
theorem renR_snoc {order row : List Int} {j : Nat} (h : j < order.length) : ((order.take j).map fun s => fidx (fun y => row.getD s.toNat 0 == y) order 0) ++ [fidx (fun y => row.getD (order.getD j 0).toNat 0 == y) order 0] = (order.take (j + 1)).map fun s => fidx (fun y => row.getD s.toNat 0 == y) order 0 := by
  rw [List.take_succ_eq_append_getElem h, List.map_append, show order.getD j 0 = order[j] by rw [List.getD_eq_getElem?_getD, List.getElem?_eq_getElem h]; rfl]; rfl

/-- An automaton of the call's own, whose rows have names. -/
abbrev NamA (P : Program) (g : FuncId) (args : List AVal) (m : Int) (xss : List (List Int)) : Prop := Fn P g args fun rows res => ∃ v ps, rows = [.row v 1 true (rwp ps)] ∧ ps.map (·.2) = xss ∧ DJ ps ∧ res = .st [iv m, .own 6000 v]

theorem k_renumbered (n : Int) (next : List (List Int)) (order : List Int) (A : Aut n next) (ho : ∀ s ∈ order, 0 ≤ s ∧ s < n) (hl : order.length ≤ 1000) :
    NamA Try.prog n_impl_Automaton_renumbered [autA n next, .ro none 1 (ints order)] order.length (next.map (renR order)) := by
  refine con_of mixed c_impl_Automaton_renumbered rfl (by simp) ?_
  generalize hQ : finQ _ = Q
  have n2 := A.n2
  have l1 := A.l1
  have l2 := A.l2
  simp only [A_impl_Automaton_renumbered, B_impl_Automaton_renumbered_1, wpD_kp, wpD_regi, go_sem, adopt_fun, Int.reduceLT, Int.reduceLE, Int.reduceToNat, Int.reduceNeg, Nat.reduceLT, Nat.reduceLeDiff, Nat.reduceMul, Nat.reduceSub, reduceIte, Nat.reduceEqDiff, Nat.reduceAdd, reduceCtorEq]
  intro vs0 U0 hN0 vs1 U1 hN1
  refine call_fun (k_size order) qCS trivial ?_
  simp only [B_impl_Automaton_renumbered_2, B_impl_Automaton_renumbered_3, wpD_kp, wpD_regi, go_sem, adopt_fun, Int.reduceLT, Int.reduceLE, Int.reduceToNat, Int.reduceNeg, Nat.reduceLT, Nat.reduceLeDiff, Nat.reduceMul, Nat.reduceSub, reduceIte, Nat.reduceEqDiff, Nat.reduceAdd, reduceCtorEq]
  intro vs2 U2 hN2 hM ver
  have hM2 := maxLen_le
  refine wpD_lp (fun (_, _, _, ps) => next.length - List.length ps)
    (fun (nn, _, _, ps) => List.map (·.2) ps = (next.take (List.length ps)).map (renR order) ∧ List.length ps ≤ next.length ∧ DJ ps ∧ (ps ≠ [] → nn = true))
    (fun ((nn, v5, va, ps) : Bool × Nat × Nat × List (Nat × List Int)) => ⟨L .any [(1, .ro none 1 (ints order)), (4, .ptr 4 (vs0 1 0) 0), (5, .ptr 5 v5 0), (15, .ro none 1 (rwn next)), (16, iv next.length), (17, iv ps.length)],
      L .gone [(2, .box (vs0 0 0) [iv n, .ro none 1 (rwn next)]), (4, .box (vs0 1 0) [iv 0, nilS]), (5, .box v5 [iv order.length, .own 42 va]), (42, .row va 1 nn (rwp ps)), (5000, .gone), (5001, .gone)]⟩)
    (_, _, _, []) ⟨rfl, by simp, by simp [DJ], by simp⟩ (by simp only [B_impl_Automaton_renumbered_4, List.length_nil, rwp_nil, go_sem, adopt_fun, Int.reduceLT, Int.reduceLE, Int.reduceToNat, Int.reduceNeg, Nat.reduceLT, Nat.reduceLeDiff, Nat.reduceMul, Nat.reduceSub, reduceIte, Nat.reduceEqDiff, Nat.reduceAdd, reduceCtorEq]; try rfl) ?_
  rintro ⟨nn, v5, va, ps⟩ ⟨hp1, hp2, hp3, hp4⟩
  have hp1 : ps.map (·.2) = (next.take ps.length).map (renR order) := hp1
  have hp2 : ps.length ≤ next.length := hp2
  have hp3 : DJ ps := hp3
  have hp4 : ps ≠ [] → nn = true := hp4
  by_cases hlt : (ps.length : Int) < next.length
  · have hlt1 : ps.length < next.length := by omega
    have hrow := A.row _ (getD_mem hlt1 [])
    simp only [B_impl_Automaton_renumbered_4, B_impl_Automaton_renumbered_5, B_impl_Automaton_renumbered_6, rwn_getD hlt1, decide_eq_true hlt, wpD_kp, wpD_regi, go_sem, adopt_fun, Int.reduceLT, Int.reduceLE, Int.reduceToNat, Int.reduceNeg, Nat.reduceLT, Nat.reduceLeDiff, Nat.reduceMul, Nat.reduceSub, reduceIte, Nat.reduceEqDiff, Nat.reduceAdd, reduceCtorEq]
    intro vs3 U3 hN3 vs4 U4 hN4
    refine ⟨⟨by omega, hlt1⟩, hlt1, ?_⟩
    have hrw : next.getD ps.length [] = next[ps.length] := by rw [List.getD_eq_getElem?_getD, List.getElem?_eq_getElem hlt1]; rfl
    generalize next.getD ps.length [] = row at hrow hrw ⊢
    simp only [B_impl_Automaton_renumbered_7, wpD_kp, wpD_regi, go_sem, adopt_fun, Int.reduceLT, Int.reduceLE, Int.reduceToNat, Int.reduceNeg, Nat.reduceLT, Nat.reduceLeDiff, Nat.reduceMul, Nat.reduceSub, reduceIte, Nat.reduceEqDiff, Nat.reduceAdd, reduceCtorEq]
    intro vs5 U5 hN5
    simp only [B_impl_Automaton_renumbered_8, B_impl_Automaton_renumbered_9, wpD_kp, wpD_regi, go_sem, adopt_fun, Int.reduceLT, Int.reduceLE, Int.reduceToNat, Int.reduceNeg, Nat.reduceLT, Nat.reduceLeDiff, Nat.reduceMul, Nat.reduceSub, reduceIte, Nat.reduceEqDiff, Nat.reduceAdd, reduceCtorEq]
    intro vs6 U6 hN6 hMo
    have hU := hN5.hp 42
    simp only [AObj.uses, go_sem, adopt_fun, Int.reduceLT, Int.reduceLE, Int.reduceToNat, Int.reduceNeg, Nat.reduceLT, Nat.reduceLeDiff, Nat.reduceMul, Nat.reduceSub, reduceIte, Nat.reduceEqDiff, Nat.reduceAdd, reduceCtorEq] at hU
    have hold := usesL_rwp (rest := []) (by rw [List.append_nil]; exact hU.2)
    have hfresh : ∀ (i k : Nat), ∀ p ∈ ps, p.2 = [] ∨ p.1 ≠ vs5 i k := fun i k p hp => by
      rcases hold p hp with h | h
      · exact .inl h
      · exact .inr fun e => hN5.new i k (e ▸ h)
    refine wpD_lp (fun (_, j) => order.length - j) (fun (vb, j) => j ≤ order.length ∧ ∀ p ∈ ps, p.2 = [] ∨ p.1 ≠ vb)
      (fun ((vb, j) : Nat × Nat) => ⟨L .any [(1, .ro none 1 (ints order)), (4, .ptr 4 (vs0 1 0) 0), (5, .ptr 5 v5 0), (7, .ro none 1 (ints row)), (8, .own 21 vb), (15, .ro none 1 (rwn next)), (16, iv next.length), (17, iv ps.length), (22, .ro none 1 (ints order)), (23, iv order.length), (24, iv j)],
        L .gone [(2, .box (vs0 0 0) [iv n, .ro none 1 (rwn next)]), (4, .box (vs0 1 0) [iv 0, nilS]), (5, .box v5 [iv order.length, .own 42 va]), (21, .row vb 1 true (ints ((order.take j).map fun s => fidx (fun y => row.getD s.toNat 0 == y) order 0))), (36, .gone), (42, .row va 1 nn (rwp ps)), (5000, .gone), (5001, .gone)]⟩)
      (_, 0) ⟨by simp, hfresh 0 0⟩ (by simp only [B_impl_Automaton_renumbered_10, go_sem, adopt_fun, Int.reduceLT, Int.reduceLE, Int.reduceToNat, Int.reduceNeg, Nat.reduceLT, Nat.reduceLeDiff, Nat.reduceMul, Nat.reduceSub, reduceIte, Nat.reduceEqDiff, Nat.reduceAdd, reduceCtorEq]; try rfl) ?_
    rintro ⟨vb, j⟩ ⟨hj, hf⟩
    have hj : j ≤ order.length := hj
    have hf : ∀ p ∈ ps, p.2 = [] ∨ p.1 ≠ vb := hf
    by_cases hjl : (j : Int) < order.length
    · have hj1 : j < order.length := by omega
      have hs := ho _ (getD_mem hj1 0)
      have hc : (order.getD j 0).toNat < row.length := by omega
      simp only [B_impl_Automaton_renumbered_10, B_impl_Automaton_renumbered_11, B_impl_Automaton_renumbered_12, intsK_getD hj1, decide_eq_true hjl, wpD_kp, wpD_regi, go_sem, adopt_fun, Int.reduceLT, Int.reduceLE, Int.reduceToNat, Int.reduceNeg, Nat.reduceLT, Nat.reduceLeDiff, Nat.reduceMul, Nat.reduceSub, reduceIte, Nat.reduceEqDiff, Nat.reduceAdd, reduceCtorEq]
      intro vs7 U7 hN7 vs8 U8 hN8
      refine ⟨⟨by omega, hj1⟩, hj1, ?_⟩
      simp only [B_impl_Automaton_renumbered_13, intsK_getD hc, wpD_kp, wpD_regi, go_sem, adopt_fun, Int.reduceLT, Int.reduceLE, Int.reduceToNat, Int.reduceNeg, Nat.reduceLT, Nat.reduceLeDiff, Nat.reduceMul, Nat.reduceSub, reduceIte, Nat.reduceEqDiff, Nat.reduceAdd, reduceCtorEq]
      intro vs9 U9 hN9
      refine ⟨⟨hs.1, hc⟩, hc, ?_⟩
      refine call_fun (k_Index order (row.getD (order.getD j 0).toNat 0)) qCS trivial ?_
      simp only [B_impl_Automaton_renumbered_14, renR_snoc hj1, nat1 j _ hj1 hMo, wpD_kp, wpD_regi, go_sem, adopt_fun, Int.reduceLT, Int.reduceLE, Int.reduceToNat, Int.reduceNeg, Nat.reduceLT, Nat.reduceLeDiff, Nat.reduceMul, Nat.reduceSub, reduceIte, Nat.reduceEqDiff, Nat.reduceAdd, reduceCtorEq]
      have hU9 := hN9.hp 42
      simp only [AObj.uses, go_sem, adopt_fun, Int.reduceLT, Int.reduceLE, Int.reduceToNat, Int.reduceNeg, Nat.reduceLT, Nat.reduceLeDiff, Nat.reduceMul, Nat.reduceSub, reduceIte, Nat.reduceEqDiff, Nat.reduceAdd, reduceCtorEq] at hU9
      have hold9 := usesL_rwp (rest := []) (by rw [List.append_nil]; exact hU9.2)
      have hfresh9 : ∀ p ∈ ps, p.2 = [] ∨ ¬ p.1 = vs9 8 0 := fun p hp => by
        rcases hold9 p hp with h | h
        · exact .inl h
        · exact .inr fun e => hN9.new 8 0 (e ▸ h)
      refine ⟨⟨_, rfl, rfl⟩, by rw [List.length_take]; omega, ?_⟩
      intro vs10 U10 hN10
      exact ⟨(_, j + 1), by dsimp only; omega, ⟨by dsimp only; omega, hfresh9⟩, rfl⟩
    · have : j = order.length := by omega
      subst this
      simp only [B_impl_Automaton_renumbered_10, B_impl_Automaton_renumbered_11, B_impl_Automaton_renumbered_15, List.take_length, decide_eq_false hjl, wpD_kp, wpD_regi, go_sem, adopt_fun, Int.reduceLT, Int.reduceLE, Int.reduceToNat, Int.reduceNeg, Nat.reduceLT, Nat.reduceLeDiff, Nat.reduceMul, Nat.reduceSub, reduceIte, Nat.reduceEqDiff, Nat.reduceAdd, reduceCtorEq]
      intro vs7 U7 hN7 vs8 U8 hN8
      rw [rwp_len]
      refine ⟨by omega, ?_⟩
      simp only [B_impl_Automaton_renumbered_16, nat1 _ _ hlt1 hM, rwp_snoc, wpD_kp, wpD_regi, go_sem, adopt_fun, Int.reduceLT, Int.reduceLE, Int.reduceToNat, Int.reduceNeg, Nat.reduceLT, Nat.reduceLeDiff, Nat.reduceMul, Nat.reduceSub, reduceIte, Nat.reduceEqDiff, Nat.reduceAdd, reduceCtorEq]
      intro vs9 U9 hN9
      refine ⟨(true, v5, vs8 4 0, ps ++ [(vb, renR order row)]), by dsimp only; rw [List.length_append, List.length_singleton]; omega, ⟨?_, by dsimp only; rw [List.length_append, List.length_singleton]; omega, hp3.snoc hf, by simp⟩, ?_⟩
      · dsimp only
        rw [List.map_append, hp1, List.length_append, List.length_singleton, List.take_succ_eq_append_getElem hlt1, List.map_append, ← hrw]; rfl
      · dsimp only
        rw [List.length_append, List.length_singleton]
        rfl
  · have hlen : ps.length = next.length := by omega
    rw [hlen, List.take_length] at hp1
    have hnn := hp4 (fun e => by rw [e] at hlen; simp at hlen; omega)
    subst hnn
    simp only [B_impl_Automaton_renumbered_4, B_impl_Automaton_renumbered_5, B_impl_Automaton_renumbered_17, decide_eq_false hlt, A_impl_Automaton_renumbered, ← hQ, wpD_kp, wpD_regi, go_sem, adopt_fun, Int.reduceLT, Int.reduceLE, Int.reduceToNat, Int.reduceNeg, Nat.reduceLT, Nat.reduceLeDiff, Nat.reduceMul, Nat.reduceSub, reduceIte, Nat.reduceEqDiff, Nat.reduceAdd, reduceCtorEq]
    intro vs3 U3 hN3 vs4 U4 hN4
    refine ⟨[42], by simp, by simp, by simp, ?_⟩
    simp only [range1, List.length_singleton, renL_rwp, Nat.not_lt_zero, range1, ren_val, ren_any, ren_ro, rnNm_n, rnNm_sn, rnNm_o, rnNm_s, ren_st, ren_tup, renL_nil, renL_cons, renL_intsK, renL_rws, renL_rwn, oren_box, oren_row, oren_map, ren_own_e0, ren_own_e1, ren_own_e2, ren_ptr_e0, ren_mp_e0, ren_mp_e1, ren_own_r0, ren_own_r1, ren_own_r2, ren_ptr_r0, ren_mp_r0, ren_mp_r1, List.range_zero, callHp_nil, callHp_one, callHp_two, gone_nil, gone_one, gone_two, AVal.fresh, freshL, fresh_intsK, fresh_rws, AObj.fresh, id, Option.isSome_some, or_true, true_or, go_sem, adopt_fun, Int.reduceLT, Int.reduceLE, Int.reduceToNat, Int.reduceNeg, Nat.reduceLT, Nat.reduceLeDiff, Nat.reduceMul, Nat.reduceSub, reduceIte, Nat.reduceEqDiff, Nat.reduceAdd, reduceCtorEq]
    exact ⟨fresh_rwp, va, ps, by simp, hp1, hp3, rfl⟩

end Go.Ab
