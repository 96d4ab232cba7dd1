/- Contracts: machines that are compared, words for which they differ. Conditions: none. -/
import Derived.Test.YtaicnehaodkikaaMn
set_option linter.all false
namespace Go.Ab
open Go.Proofs
set_option maxRecDepth 20000
set_option maxHeartbeats 4000000

theorem k_l06SameRows (xss yss : List (List Int)) : Fun Try.prog n_spec_l06SameRows [.ro none 1 (rwn xss), .ro none 1 (rwn yss)] (bv (decide (xss = yss))) := by
  refine fun_of mixed c_spec_l06SameRows rfl ⟨rfl, trivial⟩ ?_
  simp only [A_spec_l06SameRows, B_spec_l06SameRows_1, go_sem, adopt_fun, Int.reduceLT, Int.reduceLE, Int.reduceToNat, Int.reduceNeg, Nat.reduceLT, Nat.reduceLeDiff, Nat.reduceMul, Nat.reduceSub, reduceIte, Nat.reduceEqDiff, Nat.reduceAdd, reduceCtorEq]
  intro hx hy
  by_cases hlen : xss.length = yss.length
  · have hne : ((xss.length : Int) != (yss.length : Int)) = false := by rw [hlen]; simp
    simp only [hne, B_spec_l06SameRows_2, B_spec_l06SameRows_3, B_spec_l06SameRows_4, go_sem, adopt_fun, Int.reduceLT, Int.reduceLE, Int.reduceToNat, Int.reduceNeg, Nat.reduceLT, Nat.reduceLeDiff, Nat.reduceMul, Nat.reduceSub, reduceIte, Nat.reduceEqDiff, Nat.reduceAdd, reduceCtorEq]
    refine wpD_lo (fun i => xss.length - i) (fun i => i ≤ xss.length ∧ xss.take i = yss.take i)
      (fun i : Nat => ⟨L .any [(0, .ro none 1 (rwn xss)), (1, .ro none 1 (rwn yss)), (5, iv i)], L .gone []⟩) 0 (by simp) (by simp only [B_spec_l06SameRows_5, go_sem, adopt_fun, Int.reduceLT, Int.reduceLE, Int.reduceToNat, Int.reduceNeg, Nat.reduceLT, Nat.reduceLeDiff, Nat.reduceMul, Nat.reduceSub, reduceIte, Nat.reduceEqDiff, Nat.reduceAdd, reduceCtorEq]; try rfl) ?_
    rintro i ⟨hi, hti⟩
    by_cases hlt : (i : Int) < xss.length
    · have hlt1 : i < xss.length := by omega
      have hlt2 : i < yss.length := by omega
      simp only [B_spec_l06SameRows_5, B_spec_l06SameRows_6, B_spec_l06SameRows_7, rwn_getD hlt1, rwn_getD hlt2, decide_eq_true hlt, go_sem, adopt_fun, Int.reduceLT, Int.reduceLE, Int.reduceToNat, Int.reduceNeg, Nat.reduceLT, Nat.reduceLeDiff, Nat.reduceMul, Nat.reduceSub, reduceIte, Nat.reduceEqDiff, Nat.reduceAdd, reduceCtorEq]
      intro _ vs
      refine ⟨⟨by omega, hlt1⟩, hlt1, ⟨by omega, hlt2⟩, hlt2, ?_⟩
      refine call_fun (k_l00Same (xss.getD i []) (yss.getD i [])) qCS trivial ?_
      simp only [B_spec_l06SameRows_8, B_spec_l06SameRows_9, nat1 i _ hlt1 hx, go_sem, adopt_fun, Int.reduceLT, Int.reduceLE, Int.reduceToNat, Int.reduceNeg, Nat.reduceLT, Nat.reduceLeDiff, Nat.reduceMul, Nat.reduceSub, reduceIte, Nat.reduceEqDiff, Nat.reduceAdd, reduceCtorEq]
      refine ⟨fun h => ?_, fun h => ⟨i + 1, by omega, ⟨by omega, take_eq_step' [] hlt1 hlt2 hti (by simpa using h)⟩, rfl⟩⟩
      have : xss ≠ yss := by rintro rfl; simp at h
      simp [this]
    · have : i = xss.length := by omega
      subst this
      simp only [B_spec_l06SameRows_5, B_spec_l06SameRows_6, B_spec_l06SameRows_7, B_spec_l06SameRows_10, decide_eq_false hlt, go_sem, adopt_fun, Int.reduceLT, Int.reduceLE, Int.reduceToNat, Int.reduceNeg, Nat.reduceLT, Nat.reduceLeDiff, Nat.reduceMul, Nat.reduceSub, reduceIte, Nat.reduceEqDiff, Nat.reduceAdd, reduceCtorEq]
      intro _
      have : xss = yss := by rw [List.take_length, hlen, List.take_length] at hti; exact hti
      simp [this]
  · have hne : ((xss.length : Int) != (yss.length : Int)) = true := by simp; omega
    simp only [hne, B_spec_l06SameRows_2, go_sem, adopt_fun, Int.reduceLT, Int.reduceLE, Int.reduceToNat, Int.reduceNeg, Nat.reduceLT, Nat.reduceLeDiff, Nat.reduceMul, Nat.reduceSub, reduceIte, Nat.reduceEqDiff, Nat.reduceAdd, reduceCtorEq]
    have : xss ≠ yss := by rintro rfl; exact hlen rfl
    simp [this]

theorem k_SameMachine (n n' o o' : Int) (x y x' y' : List (List Int)) : Fun Try.prog n_spec_SameMachine [machA n o x y, machA n' o' x' y'] (bv (decide (n = n') && (decide (o = o') && (decide (x = x') && decide (y = y'))))) := by
  refine fun_of mixed c_spec_SameMachine rfl ⟨rfl, trivial⟩ ?_
  by_cases hn : n = n'
  · subst hn
    by_cases ho : o = o'
    · subst ho
      simp only [A_spec_SameMachine, B_spec_SameMachine_1, beq_self_eq_true, go_sem, adopt_fun, Int.reduceLT, Int.reduceLE, Int.reduceToNat, Int.reduceNeg, Nat.reduceLT, Nat.reduceLeDiff, Nat.reduceMul, Nat.reduceSub, reduceIte, Nat.reduceEqDiff, Nat.reduceAdd, reduceCtorEq]
      intro vs vs2
      refine call_fun (k_l06SameRows x x') qCS (by trivial) ?_
      by_cases h2 : x = x'
      · simp only [decide_eq_true h2, decide_true, Bool.true_and, go_sem, adopt_fun, Int.reduceLT, Int.reduceLE, Int.reduceToNat, Int.reduceNeg, Nat.reduceLT, Nat.reduceLeDiff, Nat.reduceMul, Nat.reduceSub, reduceIte, Nat.reduceEqDiff, Nat.reduceAdd, reduceCtorEq]
        refine call_fun (k_l06SameRows y y') qCS (by trivial) ?_
        simp only [go_sem, adopt_fun, Int.reduceLT, Int.reduceLE, Int.reduceToNat, Int.reduceNeg, Nat.reduceLT, Nat.reduceLeDiff, Nat.reduceMul, Nat.reduceSub, reduceIte, Nat.reduceEqDiff, Nat.reduceAdd, reduceCtorEq]
      · simp only [decide_eq_false h2, Bool.false_and, Bool.and_false, go_sem, adopt_fun, Int.reduceLT, Int.reduceLE, Int.reduceToNat, Int.reduceNeg, Nat.reduceLT, Nat.reduceLeDiff, Nat.reduceMul, Nat.reduceSub, reduceIte, Nat.reduceEqDiff, Nat.reduceAdd, reduceCtorEq]
    · have hne : (o == o') = false := by simpa using ho
      simp only [A_spec_SameMachine, B_spec_SameMachine_1, beq_self_eq_true, hne, decide_eq_false ho, Bool.false_and, Bool.and_false, go_sem, adopt_fun, Int.reduceLT, Int.reduceLE, Int.reduceToNat, Int.reduceNeg, Nat.reduceLT, Nat.reduceLeDiff, Nat.reduceMul, Nat.reduceSub, reduceIte, Nat.reduceEqDiff, Nat.reduceAdd, reduceCtorEq]
      try (intro _; try intro _)
  · have hne : (n == n') = false := by simpa using hn
    simp only [A_spec_SameMachine, B_spec_SameMachine_1, hne, decide_eq_false hn, Bool.false_and, go_sem, adopt_fun, Int.reduceLT, Int.reduceLE, Int.reduceToNat, Int.reduceNeg, Nat.reduceLT, Nat.reduceLeDiff, Nat.reduceMul, Nat.reduceSub, reduceIte, Nat.reduceEqDiff, Nat.reduceAdd, reduceCtorEq]
    try (intro _; try intro _)

theorem k_alike (n n' o : Int) (x y x' y' : List (List Int)) (hl : x'.length = x.length) : Fun Try.prog n_impl_alike [machA n o x y, machA n' o x' y'] (bv true) := by
  refine fun_of mixed c_impl_alike rfl ⟨rfl, trivial⟩ ?_
  have e : ((x.length : Int) == (x'.length : Int)) = true := by rw [hl]; simp
  simp only [A_impl_alike, B_impl_alike_1, beq_self_eq_true, e, go_sem, adopt_fun, Int.reduceLT, Int.reduceLE, Int.reduceToNat, Int.reduceNeg, Nat.reduceLT, Nat.reduceLeDiff, Nat.reduceMul, Nat.reduceSub, reduceIte, Nat.reduceEqDiff, Nat.reduceAdd, reduceCtorEq]
  try (intro _ _)
  try (intro _ _)

theorem k_MachineDifference (n n' o : Int) (na nb oa ob : List (List Int)) (Ma : Mach n o na oa) (Mb : Mach n' o nb ob) (hl : nb.length = na.length) :
    Fn Try.prog n_impl_MachineDifference [machA n o na oa, machA n' o nb ob] fun rows res =>
      match apartQ na nb oa ob 0 0 with
      | some w => ∃ v, rows = [.row v 1 true (ints w)] ∧ res = .tup [.own 6000 v, iv 0]
      | none => rows = [] ∧ res = .tup [nilS, iv 6] := by
  refine con_of mixed c_impl_MachineDifference rfl (by simp) ?_
  have n1 := Ma.aut.n1
  have n1' := Mb.aut.n1
  have hv : machB n o na oa = true := machB_iff.2 Ma
  have hv' : machB n' o nb ob = true := machB_iff.2 Mb
  simp only [A_impl_MachineDifference, B_impl_MachineDifference_1, go_sem, adopt_fun, Int.reduceLT, Int.reduceLE, Int.reduceToNat, Int.reduceNeg, Nat.reduceLT, Nat.reduceLeDiff, Nat.reduceMul, Nat.reduceSub, reduceIte, Nat.reduceEqDiff, Nat.reduceAdd, reduceCtorEq]
  intro vs vs2
  refine call_fun (k_ValidMachine n o na oa) qCS trivial ?_
  simp only [hv, go_sem, adopt_fun, Int.reduceLT, Int.reduceLE, Int.reduceToNat, Int.reduceNeg, Nat.reduceLT, Nat.reduceLeDiff, Nat.reduceMul, Nat.reduceSub, reduceIte, Nat.reduceEqDiff, Nat.reduceAdd, reduceCtorEq]
  refine call_fun (k_ValidMachine n' o nb ob) qCS trivial ?_
  simp only [hv', B_impl_MachineDifference_2, go_sem, adopt_fun, Int.reduceLT, Int.reduceLE, Int.reduceToNat, Int.reduceNeg, Nat.reduceLT, Nat.reduceLeDiff, Nat.reduceMul, Nat.reduceSub, reduceIte, Nat.reduceEqDiff, Nat.reduceAdd, reduceCtorEq]
  intro vs3
  refine call_fun (k_alike n n' o na oa nb ob hl) qCS trivial ?_
  simp only [B_impl_MachineDifference_3, B_impl_MachineDifference_4, go_sem, adopt_fun, Int.reduceLT, Int.reduceLE, Int.reduceToNat, Int.reduceNeg, Nat.reduceLT, Nat.reduceLeDiff, Nat.reduceMul, Nat.reduceSub, reduceIte, Nat.reduceEqDiff, Nat.reduceAdd, reduceCtorEq]
  intro vs4
  have e0 : (0 : Int) = ((0 : Nat) : Int) := rfl
  refine call_wordR (k_apart n n' o o na nb oa ob Ma Mb hl 0 0 (by omega) (by omega)) (by simp only [rowIs, boxIs, coe_argN, coe_argNs, coe_ro_o, coeL_nil, coeL_cons, coe_any, coe_val, coe_ro, coe_ro_nil, coe_ro_own, coe_st, coe_st_agg, coe_rp, coe_rp_ptr, coe_clo, coe_own0, coe_ptr0, coeL_intsK, coeL_rws, coeL_rwn, L_hit, L_miss, L_nil, Nat.reduceEqDiff, ne_eq, reduceCtorEq, not_false_eq_true, true_and, and_true, and_self, exists_eq_left, exists_eq_right, List.mem_cons, List.not_mem_nil, or_false, AObj.row.injEq, AObj.box.injEq, exists_eq_left', exists_and_left, exists_eq, Nat.zero_lt_one, Nat.lt_add_one, List.map_cons, List.map_nil, AObj.ver, Nat.reduceLT, not_true_eq_false, e0]) qWS ?_ ?_
  · intro w hw v
    simp only [hw, B_impl_MachineDifference_5, B_impl_MachineDifference_6, B_impl_MachineDifference_7, go_sem, adopt_fun, Int.reduceLT, Int.reduceLE, Int.reduceToNat, Int.reduceNeg, Nat.reduceLT, Nat.reduceLeDiff, Nat.reduceMul, Nat.reduceSub, reduceIte, Nat.reduceEqDiff, Nat.reduceAdd, reduceCtorEq]
    refine ⟨[25], by simp, by simp, by simp, ?_⟩
    simp only [range1, List.length_singleton, Nat.not_lt_zero, range1, ren_val, ren_any, ren_ro, rnNm_n, rnNm_sn, rnNm_o, rnNm_s, ren_st, ren_tup, renL_nil, renL_cons, renL_intsK, renL_rws, renL_rwn, oren_box, oren_row, oren_map, ren_own_e0, ren_own_e1, ren_own_e2, ren_ptr_e0, ren_mp_e0, ren_mp_e1, ren_own_r0, ren_own_r1, ren_own_r2, ren_ptr_r0, ren_mp_r0, ren_mp_r1, List.range_zero, callHp_nil, callHp_one, callHp_two, gone_nil, gone_one, gone_two, AVal.fresh, freshL, fresh_intsK, fresh_rws, AObj.fresh, id, Option.isSome_some, or_true, true_or, go_sem, adopt_fun, Int.reduceLT, Int.reduceLE, Int.reduceToNat, Int.reduceNeg, Nat.reduceLT, Nat.reduceLeDiff, Nat.reduceMul, Nat.reduceSub, reduceIte, Nat.reduceEqDiff, Nat.reduceAdd, reduceCtorEq]
    exact ⟨v, rfl, rfl⟩
  · intro hw
    simp only [hw, B_impl_MachineDifference_5, B_impl_MachineDifference_6, B_impl_MachineDifference_7, go_sem, adopt_fun, Int.reduceLT, Int.reduceLE, Int.reduceToNat, Int.reduceNeg, Nat.reduceLT, Nat.reduceLeDiff, Nat.reduceMul, Nat.reduceSub, reduceIte, Nat.reduceEqDiff, Nat.reduceAdd, reduceCtorEq]
    refine ⟨[], by simp, by simp, by simp, ?_⟩
    simp only [Nat.not_lt_zero, range1, ren_val, ren_any, ren_ro, rnNm_n, rnNm_sn, rnNm_o, rnNm_s, ren_st, ren_tup, renL_nil, renL_cons, renL_intsK, renL_rws, renL_rwn, oren_box, oren_row, oren_map, ren_own_e0, ren_own_e1, ren_own_e2, ren_ptr_e0, ren_mp_e0, ren_mp_e1, ren_own_r0, ren_own_r1, ren_own_r2, ren_ptr_r0, ren_mp_r0, ren_mp_r1, List.range_zero, callHp_nil, callHp_one, callHp_two, gone_nil, gone_one, gone_two, AVal.fresh, freshL, fresh_intsK, fresh_rws, AObj.fresh, id, Option.isSome_some, or_true, true_or, go_sem, adopt_fun, Int.reduceLT, Int.reduceLE, Int.reduceToNat, Int.reduceNeg, Nat.reduceLT, Nat.reduceLeDiff, Nat.reduceMul, Nat.reduceSub, reduceIte, Nat.reduceEqDiff, Nat.reduceAdd, reduceCtorEq]

end Go.Ab
