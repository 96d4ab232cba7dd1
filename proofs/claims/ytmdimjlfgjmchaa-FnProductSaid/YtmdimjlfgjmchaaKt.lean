/- Contracts: what is in a row; the states that are reached. Conditions: none. -/
import Derived.Test.YtmdimjlfgjmchaaKr
import Derived.Test.YtmdimjlfgjmchaaPb
set_option linter.all false
namespace Go.Ab
open Go.Proofs
set_option maxRecDepth 20000
set_option maxHeartbeats 1000000

theorem k_Index (xs : List Int) (x : Int) : Fun Try.prog n_slices_Index_LI [.ro none 1 (ints xs), iv x] (iv (fidx (fun y => x == y) xs 0)) := by
  refine fun_of mixed c_slices_Index_LI rfl ⟨rfl, trivial⟩ ?_
  simp only [A_slices_Index_LI, B_slices_Index_LI_1, go_sem, adopt_fun, Int.reduceLT, Int.reduceLE, Int.reduceToNat, Int.reduceNeg, Nat.reduceLT, Nat.reduceLeDiff, Nat.reduceMul, Nat.reduceSub, reduceIte, Nat.reduceEqDiff, Nat.reduceAdd, reduceCtorEq]
  intro hM
  have hM2 := maxLen_le
  simp only [B_slices_Index_LI_2, go_sem, adopt_fun, Int.reduceLT, Int.reduceLE, Int.reduceToNat, Int.reduceNeg, Nat.reduceLT, Nat.reduceLeDiff, Nat.reduceMul, Nat.reduceSub, reduceIte, Nat.reduceEqDiff, Nat.reduceAdd, reduceCtorEq]
  refine wpD_lo (fun i => xs.length - i) (fun i => i ≤ xs.length ∧ fidx (fun y => x == y) (xs.drop i) i = fidx (fun y => x == y) xs 0)
    (fun i : Nat => ⟨L .any [(0, .ro none 1 (ints xs)), (1, iv x), (7, iv xs.length), (8, iv i)], L .gone []⟩) 0 (by simp) (by simp only [B_slices_Index_LI_3, go_sem, adopt_fun, Int.reduceLT, Int.reduceLE, Int.reduceToNat, Int.reduceNeg, Nat.reduceLT, Nat.reduceLeDiff, Nat.reduceMul, Nat.reduceSub, reduceIte, Nat.reduceEqDiff, Nat.reduceAdd, reduceCtorEq]; try rfl) ?_
  rintro i ⟨hi, he⟩
  by_cases hlt : (i : Int) < xs.length
  · have hlt1 : i < xs.length := by omega
    have w2 : IntKind.i64.wrap (i : Int) = i := w64 (by omega)
    rw [drop_getD hlt1 0] at he
    simp only [fidx] at he
    simp only [B_slices_Index_LI_3, B_slices_Index_LI_4, B_slices_Index_LI_5, B_slices_Index_LI_6, intsK_getD hlt1, decide_eq_true hlt, go_sem, adopt_fun, Int.reduceLT, Int.reduceLE, Int.reduceToNat, Int.reduceNeg, Nat.reduceLT, Nat.reduceLeDiff, Nat.reduceMul, Nat.reduceSub, reduceIte, Nat.reduceEqDiff, Nat.reduceAdd, reduceCtorEq]
    refine ⟨⟨by omega, hlt1⟩, hlt1, ?_⟩
    cases hx : (x == xs.getD i 0) with
    | true =>
      simp only [hx, if_true] at he
      simp only [B_slices_Index_LI_7, go_sem, adopt_fun, Int.reduceLT, Int.reduceLE, Int.reduceToNat, Int.reduceNeg, Nat.reduceLT, Nat.reduceLeDiff, Nat.reduceMul, Nat.reduceSub, reduceIte, Nat.reduceEqDiff, Nat.reduceAdd, reduceCtorEq]
      rw [← he]
    | false =>
      simp only [hx, Bool.false_eq_true, if_false] at he
      simp only [B_slices_Index_LI_7, B_slices_Index_LI_8, nat1 i _ hlt1 hM, go_sem, adopt_fun, Int.reduceLT, Int.reduceLE, Int.reduceToNat, Int.reduceNeg, Nat.reduceLT, Nat.reduceLeDiff, Nat.reduceMul, Nat.reduceSub, reduceIte, Nat.reduceEqDiff, Nat.reduceAdd, reduceCtorEq]
      exact ⟨i + 1, by omega, ⟨by omega, he⟩, rfl⟩
  · have : i = xs.length := by omega
    subst this
    rw [List.drop_length] at he
    simp only [fidx] at he
    simp only [B_slices_Index_LI_3, B_slices_Index_LI_4, B_slices_Index_LI_5, B_slices_Index_LI_9, decide_eq_false hlt, go_sem, adopt_fun, Int.reduceLT, Int.reduceLE, Int.reduceToNat, Int.reduceNeg, Nat.reduceLT, Nat.reduceLeDiff, Nat.reduceMul, Nat.reduceSub, reduceIte, Nat.reduceEqDiff, Nat.reduceAdd, reduceCtorEq]
    rw [← he]

theorem k_Contains (xs : List Int) (x : Int) : Fun Try.prog n_slices_Contains_LI [.ro none 1 (ints xs), iv x] (bv (xs.contains x)) := by
  refine fun_of mixed c_slices_Contains_LI rfl ⟨rfl, trivial⟩ ?_
  simp only [B_slices_Contains_LI_1, A_slices_Contains_LI, go_sem, adopt_fun, Int.reduceLT, Int.reduceLE, Int.reduceToNat, Int.reduceNeg, Nat.reduceLT, Nat.reduceLeDiff, Nat.reduceMul, Nat.reduceSub, reduceIte, Nat.reduceEqDiff, Nat.reduceAdd, reduceCtorEq]
  intro vs
  refine call_fun (k_Index xs x) qCS trivial ?_
  have e : decide (fidx (fun y => x == y) xs 0 ≥ 0) = xs.contains x := by
    have := fidx_ge (fun y => x == y) xs 0
    rw [List.contains_eq_any_beq]
    exact this
  simp only [go_sem, adopt_fun, Int.reduceLT, Int.reduceLE, Int.reduceToNat, Int.reduceNeg, Nat.reduceLT, Nat.reduceLeDiff, Nat.reduceMul, Nat.reduceSub, reduceIte, Nat.reduceEqDiff, Nat.reduceAdd, reduceCtorEq]
  rw [← e]

theorem visK_drop (now : Int) (next : List (List Int)) {k : Nat} (hk : k < next.length) (l : List Int) : visK now (next.drop k) l = visK now (next.drop (k + 1)) (addL l ((next.getD k []).getD now.toNat 0)) := by
  rw [drop_getD hk []]; rfl

theorem k_reached (n : Int) (next : List (List Int)) (s : Int) (A : Aut n next) (hs : 0 ≤ s ∧ s < n) :
    RowI Try.prog n_impl_Automaton_reached [autA n next, iv s] (fun ys => ys = nrm (reachL n next s)) := by
  refine rowI_of mixed c_impl_Automaton_reached rfl ?_
  have n1 := A.n1
  have n2 := A.n2
  have l2 := A.l2
  simp only [A_impl_Automaton_reached, B_impl_Automaton_reached_1, go_sem, adopt_fun, Int.reduceLT, Int.reduceLE, Int.reduceToNat, Int.reduceNeg, Nat.reduceLT, Nat.reduceLeDiff, Nat.reduceMul, Nat.reduceSub, reduceIte, Nat.reduceEqDiff, Nat.reduceAdd, reduceCtorEq]
  intro vs vs2
  simp only [B_impl_Automaton_reached_2, B_impl_Automaton_reached_3, go_sem, adopt_fun, Int.reduceLT, Int.reduceLE, Int.reduceToNat, Int.reduceNeg, Nat.reduceLT, Nat.reduceLeDiff, Nat.reduceMul, Nat.reduceSub, reduceIte, Nat.reduceEqDiff, Nat.reduceAdd, reduceCtorEq]
  refine ⟨⟨_, rfl, rfl⟩, ?_⟩
  refine wpD_lo (fun (_, _, i) => n.toNat + 1 - i) (fun (_, l, i) => Once n l ∧ i ≤ List.length l ∧ runL next (n.toNat - i + 1) l i = reachL n next s)
    (fun ((v, l, i) : Nat × List Int × Nat) => ⟨L .any [(2, .ptr 2 (vs 0 0) 0), (5, .own 11 v), (6, iv i)], L .gone [(2, .box (vs 0 0) [iv n, .ro none 1 (rwn next)]), (11, .row v 1 true (ints l))]⟩)
    (_, [s], 0) ⟨one_once hs, by simp, rfl⟩ (by simp only [B_impl_Automaton_reached_4, List.map_cons, List.map_nil, go_sem, adopt_fun, Int.reduceLT, Int.reduceLE, Int.reduceToNat, Int.reduceNeg, Nat.reduceLT, Nat.reduceLeDiff, Nat.reduceMul, Nat.reduceSub, reduceIte, Nat.reduceEqDiff, Nat.reduceAdd, reduceCtorEq]; try rfl) ?_
  rintro ⟨v, l, i⟩ ⟨ho, hi, hR⟩
  have hi : i ≤ l.length := hi
  have hll := ho.len n1
  by_cases hlt : (i : Int) < l.length
  · have hlt1 : i < l.length := by omega
    have hnow := ho.rg _ (getD_mem hlt1 0)
    have hstep := run_step A ho hlt1 hR
    simp only [B_impl_Automaton_reached_4, B_impl_Automaton_reached_5, B_impl_Automaton_reached_6, decide_eq_true hlt, go_sem, adopt_fun, Int.reduceLT, Int.reduceLE, Int.reduceToNat, Int.reduceNeg, Nat.reduceLT, Nat.reduceLeDiff, Nat.reduceMul, Nat.reduceSub, reduceIte, Nat.reduceEqDiff, Nat.reduceAdd, reduceCtorEq]
    intro hM2
    simp only [B_impl_Automaton_reached_7, go_sem, adopt_fun, Int.reduceLT, Int.reduceLE, Int.reduceToNat, Int.reduceNeg, Nat.reduceLT, Nat.reduceLeDiff, Nat.reduceMul, Nat.reduceSub, reduceIte, Nat.reduceEqDiff, Nat.reduceAdd, reduceCtorEq]
    intro hM3
    refine wpD_lo (fun (_, _, k) => next.length - k) (fun (_, l', k) => k ≤ next.length ∧ Once n l' ∧ (∃ t, l' = l ++ t) ∧ visK (l.getD i 0) (next.drop k) l' = visK (l.getD i 0) next l)
      (fun ((v, l', k) : Nat × List Int × Nat) => ⟨L .any [(2, .ptr 2 (vs 0 0) 0), (5, .own 11 v), (6, iv i), (19, .ro none 1 (rwn next)), (20, iv next.length), (21, iv k)], L .gone [(2, .box (vs 0 0) [iv n, .ro none 1 (rwn next)]), (11, .row v 1 true (ints l'))]⟩)
      (_, l, 0) ⟨by simp, ho, ⟨[], by simp⟩, rfl⟩ (by simp only [B_impl_Automaton_reached_8, go_sem, adopt_fun, Int.reduceLT, Int.reduceLE, Int.reduceToNat, Int.reduceNeg, Nat.reduceLT, Nat.reduceLeDiff, Nat.reduceMul, Nat.reduceSub, reduceIte, Nat.reduceEqDiff, Nat.reduceAdd, reduceCtorEq]; try rfl) ?_
    rintro ⟨v', l', k⟩ ⟨hk, ho', ⟨t, rfl⟩, hv⟩
    have hk : k ≤ next.length := hk
    have hll' := ho'.len n1
    by_cases hkl : (k : Int) < next.length
    · have hkl1 : k < next.length := by omega
      have hrow := A.row _ (getD_mem hkl1 [])
      have hc : (l.getD i 0).toNat < (next.getD k []).length := by omega
      have ht := hrow.2 _ (getD_mem hc 0)
      have hi2 : i < (l ++ t).length := by rw [List.length_append]; omega
      have hg : (l ++ t).getD i 0 = l.getD i 0 := by rw [List.getD_eq_getElem?_getD, List.getElem?_append_left hlt1, ← List.getD_eq_getElem?_getD]
      rw [visK_drop _ _ hkl1] at hv
      simp only [B_impl_Automaton_reached_8, B_impl_Automaton_reached_9, B_impl_Automaton_reached_10, B_impl_Automaton_reached_11, rwn_getD hkl1, intsK_getD hi2, hg, intsK_getD hc, decide_eq_true hkl, go_sem, adopt_fun, Int.reduceLT, Int.reduceLE, Int.reduceToNat, Int.reduceNeg, Nat.reduceLT, Nat.reduceLeDiff, Nat.reduceMul, Nat.reduceSub, reduceIte, Nat.reduceEqDiff, Nat.reduceAdd, reduceCtorEq]
      refine ⟨⟨by omega, hkl1⟩, hkl1, ⟨by omega, hi2⟩, hi2, ⟨hnow.1, hc⟩, hc, ?_⟩
      generalize (next.getD k []).getD (l.getD i 0).toNat 0 = x at ht hv ⊢
      simp only [B_impl_Automaton_reached_12, go_sem, adopt_fun, Int.reduceLT, Int.reduceLE, Int.reduceToNat, Int.reduceNeg, Nat.reduceLT, Nat.reduceLeDiff, Nat.reduceMul, Nat.reduceSub, reduceIte, Nat.reduceEqDiff, Nat.reduceAdd, reduceCtorEq]
      intro vs3
      refine call_fun (k_Contains (l ++ t) x) qCS trivial ?_
      cases hx : (l ++ t).contains x with
      | true =>
        have ha : addL (l ++ t) x = l ++ t := by unfold addL; rw [if_pos hx]
        rw [ha] at hv
        simp only [B_impl_Automaton_reached_13, B_impl_Automaton_reached_14, nat1 k _ hkl1 hM3, go_sem, adopt_fun, Int.reduceLT, Int.reduceLE, Int.reduceToNat, Int.reduceNeg, Nat.reduceLT, Nat.reduceLeDiff, Nat.reduceMul, Nat.reduceSub, reduceIte, Nat.reduceEqDiff, Nat.reduceAdd, reduceCtorEq]
        exact ⟨(_, _, k + 1), by dsimp only; omega, ⟨by dsimp only; omega, ho', ⟨t, rfl⟩, hv⟩, rfl⟩
      | false =>
        have ha : addL (l ++ t) x = l ++ t ++ [x] := by unfold addL; rw [if_neg (by rw [hx]; simp)]
        rw [ha] at hv
        have ho2 := ho'.add ht
        rw [ha] at ho2
        have hl2 := ho2.len n1
        simp only [B_impl_Automaton_reached_13, B_impl_Automaton_reached_14, nat1 k _ hkl1 hM3, go_sem, adopt_fun, Int.reduceLT, Int.reduceLE, Int.reduceToNat, Int.reduceNeg, Nat.reduceLT, Nat.reduceLeDiff, Nat.reduceMul, Nat.reduceSub, reduceIte, Nat.reduceEqDiff, Nat.reduceAdd, reduceCtorEq]
        intro vs4
        refine ⟨⟨_, rfl, rfl⟩, by rw [List.length_append, List.length_singleton] at hl2; omega, ?_⟩
        exact ⟨(_, l ++ t ++ [x], k + 1), by dsimp only; omega, ⟨by dsimp only; omega, ho2, ⟨t ++ [x], by simp⟩, hv⟩, rfl⟩
    · have : k = next.length := by omega
      subst this
      rw [List.drop_length] at hv
      have hv : l ++ t = visK (l.getD i 0) next l := hv
      rw [← hv] at hstep
      simp only [B_impl_Automaton_reached_8, B_impl_Automaton_reached_9, B_impl_Automaton_reached_10, B_impl_Automaton_reached_15, nat1 i _ hlt1 hM2, decide_eq_false hkl, go_sem, adopt_fun, Int.reduceLT, Int.reduceLE, Int.reduceToNat, Int.reduceNeg, Nat.reduceLT, Nat.reduceLeDiff, Nat.reduceMul, Nat.reduceSub, reduceIte, Nat.reduceEqDiff, Nat.reduceAdd, reduceCtorEq]
      exact ⟨(_, l ++ t, i + 1), by dsimp only; omega, ⟨ho', by dsimp only; rw [List.length_append]; omega, hstep⟩, rfl⟩
  · have hend := run_end (by omega) hR
    subst hend
    simp only [B_impl_Automaton_reached_4, B_impl_Automaton_reached_5, B_impl_Automaton_reached_6, B_impl_Automaton_reached_16, decide_eq_false hlt, go_sem, adopt_fun, Int.reduceLT, Int.reduceLE, Int.reduceToNat, Int.reduceNeg, Nat.reduceLT, Nat.reduceLeDiff, Nat.reduceMul, Nat.reduceSub, reduceIte, Nat.reduceEqDiff, Nat.reduceAdd, reduceCtorEq]
    intro hM2 vs3
    refine call_rowI (k_sorted (reachL n next s) (by omega)) (by simp only [rowIs, boxIs, coe_argN, coe_argNs, coe_ro_o, coeL_nil, coeL_cons, coe_any, coe_val, coe_ro, coe_ro_nil, coe_ro_own, coe_st, coe_st_agg, coe_rp, coe_rp_ptr, coe_clo, coe_own0, coe_ptr0, coeL_intsK, coeL_rws, coeL_rwn, L_hit, L_miss, L_nil, Nat.reduceEqDiff, ne_eq, reduceCtorEq, not_false_eq_true, true_and, and_true, and_self, exists_eq_left, exists_eq_right, List.mem_cons, List.not_mem_nil, or_false, AObj.row.injEq, AObj.box.injEq, exists_eq_left', exists_and_left, exists_eq, Nat.zero_lt_one, Nat.lt_add_one, List.map_cons, List.map_nil, AObj.ver, Nat.reduceLT, not_true_eq_false]; exact coe_argN_own rfl) rfl ⟨_, rfl⟩ ?_
    rintro ys v2 rfl
    simp only [go_sem, adopt_fun, Int.reduceLT, Int.reduceLE, Int.reduceToNat, Int.reduceNeg, Nat.reduceLT, Nat.reduceLeDiff, Nat.reduceMul, Nat.reduceSub, reduceIte, Nat.reduceEqDiff, Nat.reduceAdd, reduceCtorEq]
    exact ⟨42, v2, _, by omega, rfl, by simp only [go_sem, adopt_fun, Int.reduceLT, Int.reduceLE, Int.reduceToNat, Int.reduceNeg, Nat.reduceLT, Nat.reduceLeDiff, Nat.reduceMul, Nat.reduceSub, reduceIte, Nat.reduceEqDiff, Nat.reduceAdd, reduceCtorEq], rfl⟩

theorem k_isState (n : Int) (next : List (List Int)) (s : Int) (hn : 1 ≤ n ∧ n ≤ 10) : Fun Try.prog n_impl_Automaton_isState [autA n next, iv s] (bv (decide (0 ≤ s) && decide (s ≤ n - 1))) := by
  refine fun_of mixed c_impl_Automaton_isState rfl ⟨rfl, trivial⟩ ?_
  have w1 : IntKind.i64.wrap (n - 1) = n - 1 := w64 (by omega)
  simp only [B_impl_Automaton_isState_1, A_impl_Automaton_isState, w1, go_sem, adopt_fun, Int.reduceLT, Int.reduceLE, Int.reduceToNat, Int.reduceNeg, Nat.reduceLT, Nat.reduceLeDiff, Nat.reduceMul, Nat.reduceSub, reduceIte, Nat.reduceEqDiff, Nat.reduceAdd, reduceCtorEq]
  intro vs vs2
  refine call_fun (k_within s 0 (n - 1)) qCS trivial ?_
  simp only [go_sem, adopt_fun, Int.reduceLT, Int.reduceLE, Int.reduceToNat, Int.reduceNeg, Nat.reduceLT, Nat.reduceLeDiff, Nat.reduceMul, Nat.reduceSub, reduceIte, Nat.reduceEqDiff, Nat.reduceAdd, reduceCtorEq]

theorem k_ReachedFrom_1 (n : Int) (next : List (List Int)) (s : Int) (hn : 1 ≤ n ∧ n ≤ 10) : Fun Try.prog n_impl_ReachedFrom_1 [autP n next, .rp [iv s] 0] (bv (decide (0 ≤ s) && decide (s ≤ n - 1))) := by
  refine fun_of mixed c_impl_ReachedFrom_1 rfl ⟨rfl, trivial⟩ ?_
  simp only [B_impl_ReachedFrom_1_1, A_impl_ReachedFrom_1, go_sem, adopt_fun, Int.reduceLT, Int.reduceLE, Int.reduceToNat, Int.reduceNeg, Nat.reduceLT, Nat.reduceLeDiff, Nat.reduceMul, Nat.reduceSub, reduceIte, Nat.reduceEqDiff, Nat.reduceAdd, reduceCtorEq]
  intro vs
  refine call_fun (k_isState n next s hn) qCS trivial ?_
  simp only [go_sem, adopt_fun, Int.reduceLT, Int.reduceLE, Int.reduceToNat, Int.reduceNeg, Nat.reduceLT, Nat.reduceLeDiff, Nat.reduceMul, Nat.reduceSub, reduceIte, Nat.reduceEqDiff, Nat.reduceAdd, reduceCtorEq]

theorem k_ReachedFrom (n : Int) (next : List (List Int)) (s : Int) :
    RowT Try.prog n_impl_ReachedFrom [autA n next, iv s] (autB n next && (decide (0 ≤ s) && decide (s ≤ n - 1))) (nrm (reachL n next s)) (codeI (autB n next) (decide (0 ≤ s) && decide (s ≤ n - 1))) := by
  refine con_of mixed c_impl_ReachedFrom rfl (by simp) ?_
  simp only [A_impl_ReachedFrom, B_impl_ReachedFrom_1, go_sem, adopt_fun, Int.reduceLT, Int.reduceLE, Int.reduceToNat, Int.reduceNeg, Nat.reduceLT, Nat.reduceLeDiff, Nat.reduceMul, Nat.reduceSub, reduceIte, Nat.reduceEqDiff, Nat.reduceAdd, reduceCtorEq]
  intro vs vs2
  refine call_fun (k_code n next n_impl_ReachedFrom_1 [autP n next, .rp [iv s] 0] _ ⟨by simp only [go_sem, adopt_fun, Int.reduceLT, Int.reduceLE, Int.reduceToNat, Int.reduceNeg, Nat.reduceLT, Nat.reduceLeDiff, Nat.reduceMul, Nat.reduceSub, reduceIte, Nat.reduceEqDiff, Nat.reduceAdd, reduceCtorEq], by intros; simp only [rowIs, boxIs, coe_argN, coe_argNs, coe_ro_o, coeL_nil, coeL_cons, coe_any, coe_val, coe_ro, coe_ro_nil, coe_ro_own, coe_st, coe_st_agg, coe_rp, coe_rp_ptr, coe_clo, coe_own0, coe_ptr0, coeL_intsK, coeL_rws, coeL_rwn, L_hit, L_miss, L_nil, Nat.reduceEqDiff, ne_eq, reduceCtorEq, not_false_eq_true, true_and, and_true, and_self, exists_eq_left, exists_eq_right, List.mem_cons, List.not_mem_nil, or_false, AObj.row.injEq, AObj.box.injEq, exists_eq_left', exists_and_left, exists_eq, Nat.zero_lt_one, Nat.lt_add_one, List.map_cons, List.map_nil, AObj.ver, Nat.reduceLT, not_true_eq_false]⟩
    (fun hv => k_ReachedFrom_1 n next s ⟨(autB_iff.1 hv).n1, (autB_iff.1 hv).n2⟩)) qCS trivial ?_
  cases hv : autB n next with
  | false =>
    have h3 : codeI false (decide (0 ≤ s) && decide (s ≤ n - 1)) = 1 := by simp [codeI]
    simp only [h3, ne10, B_impl_ReachedFrom_2, B_impl_ReachedFrom_3, Bool.false_and, go_sem, adopt_fun, Int.reduceLT, Int.reduceLE, Int.reduceToNat, Int.reduceNeg, Nat.reduceLT, Nat.reduceLeDiff, Nat.reduceMul, Nat.reduceSub, reduceIte, Nat.reduceEqDiff, Nat.reduceAdd, reduceCtorEq]
    refine ⟨[], by simp, by simp, by simp, ?_⟩
    simp only [Nat.not_lt_zero, range1, ren_val, ren_any, ren_ro, rnNm_n, rnNm_sn, rnNm_o, rnNm_s, ren_st, ren_tup, renL_nil, renL_cons, renL_intsK, renL_rws, renL_rwn, oren_box, oren_row, oren_map, ren_own_e0, ren_own_e1, ren_own_e2, ren_ptr_e0, ren_mp_e0, ren_mp_e1, ren_own_r0, ren_own_r1, ren_own_r2, ren_ptr_r0, ren_mp_r0, ren_mp_r1, List.range_zero, callHp_nil, callHp_one, callHp_two, gone_nil, gone_one, gone_two, AVal.fresh, freshL, fresh_intsK, fresh_rws, AObj.fresh, id, Option.isSome_some, or_true, true_or, go_sem, adopt_fun, Int.reduceLT, Int.reduceLE, Int.reduceToNat, Int.reduceNeg, Nat.reduceLT, Nat.reduceLeDiff, Nat.reduceMul, Nat.reduceSub, reduceIte, Nat.reduceEqDiff, Nat.reduceAdd, reduceCtorEq]
  | true =>
    have A := autB_iff.1 hv
    cases hw : (decide (0 ≤ s) && decide (s ≤ n - 1)) with
    | false =>
      have h3 : codeI true false = 2 := by simp [codeI]
      simp only [h3, ne20, B_impl_ReachedFrom_2, B_impl_ReachedFrom_3, Bool.true_and, go_sem, adopt_fun, Int.reduceLT, Int.reduceLE, Int.reduceToNat, Int.reduceNeg, Nat.reduceLT, Nat.reduceLeDiff, Nat.reduceMul, Nat.reduceSub, reduceIte, Nat.reduceEqDiff, Nat.reduceAdd, reduceCtorEq]
      refine ⟨[], by simp, by simp, by simp, ?_⟩
      simp only [Nat.not_lt_zero, range1, ren_val, ren_any, ren_ro, rnNm_n, rnNm_sn, rnNm_o, rnNm_s, ren_st, ren_tup, renL_nil, renL_cons, renL_intsK, renL_rws, renL_rwn, oren_box, oren_row, oren_map, ren_own_e0, ren_own_e1, ren_own_e2, ren_ptr_e0, ren_mp_e0, ren_mp_e1, ren_own_r0, ren_own_r1, ren_own_r2, ren_ptr_r0, ren_mp_r0, ren_mp_r1, List.range_zero, callHp_nil, callHp_one, callHp_two, gone_nil, gone_one, gone_two, AVal.fresh, freshL, fresh_intsK, fresh_rws, AObj.fresh, id, Option.isSome_some, or_true, true_or, go_sem, adopt_fun, Int.reduceLT, Int.reduceLE, Int.reduceToNat, Int.reduceNeg, Nat.reduceLT, Nat.reduceLeDiff, Nat.reduceMul, Nat.reduceSub, reduceIte, Nat.reduceEqDiff, Nat.reduceAdd, reduceCtorEq]
    | true =>
      simp only [Bool.and_eq_true, decide_eq_true_eq] at hw
      have h3 : codeI true true = 0 := by simp [codeI]
      simp only [h3, B_impl_ReachedFrom_2, B_impl_ReachedFrom_3, B_impl_ReachedFrom_4, bne_self_eq_false, Bool.true_and, go_sem, adopt_fun, Int.reduceLT, Int.reduceLE, Int.reduceToNat, Int.reduceNeg, Nat.reduceLT, Nat.reduceLeDiff, Nat.reduceMul, Nat.reduceSub, reduceIte, Nat.reduceEqDiff, Nat.reduceAdd, reduceCtorEq]
      intro vs3
      refine call_rowI (k_reached n next s A ⟨hw.1, by omega⟩) qCS rfl ⟨_, rfl⟩ ?_
      rintro ys v rfl
      simp only [go_sem, adopt_fun, Int.reduceLT, Int.reduceLE, Int.reduceToNat, Int.reduceNeg, Nat.reduceLT, Nat.reduceLeDiff, Nat.reduceMul, Nat.reduceSub, reduceIte, Nat.reduceEqDiff, Nat.reduceAdd, reduceCtorEq]
      refine ⟨[15], by simp, by simp, by simp, ?_⟩
      simp only [range1, List.length_singleton, Nat.not_lt_zero, range1, ren_val, ren_any, ren_ro, rnNm_n, rnNm_sn, rnNm_o, rnNm_s, ren_st, ren_tup, renL_nil, renL_cons, renL_intsK, renL_rws, renL_rwn, oren_box, oren_row, oren_map, ren_own_e0, ren_own_e1, ren_own_e2, ren_ptr_e0, ren_mp_e0, ren_mp_e1, ren_own_r0, ren_own_r1, ren_own_r2, ren_ptr_r0, ren_mp_r0, ren_mp_r1, List.range_zero, callHp_nil, callHp_one, callHp_two, gone_nil, gone_one, gone_two, AVal.fresh, freshL, fresh_intsK, fresh_rws, AObj.fresh, id, Option.isSome_some, or_true, true_or, go_sem, adopt_fun, Int.reduceLT, Int.reduceLE, Int.reduceToNat, Int.reduceNeg, Nat.reduceLT, Nat.reduceLeDiff, Nat.reduceMul, Nat.reduceSub, reduceIte, Nat.reduceEqDiff, Nat.reduceAdd, reduceCtorEq]
      exact ⟨v, rfl, rfl⟩

end Go.Ab
