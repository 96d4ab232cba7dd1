/- Contracts: RenumberStates. Conditions: none. -/
import Derived.Test.YtojnbclanknnhaaQb
set_option linter.all false
namespace Go.Ab
open Go.Proofs
set_option maxRecDepth 20000
set_option maxHeartbeats 2000000

/-- A function that gives an automaton whose rows have names, and a code, or an empty one. -/
abbrev NamR (P : Program) (g : FuncId) (args : List AVal) (ok : Bool) (m : Int) (xss : List (List Int)) (code : Int) : Prop := Fn P g args fun rows res =>
  if ok = true then ∃ v ps, rows = [.row v 1 true (rwp ps)] ∧ ps.map (·.2) = xss ∧ DJ ps ∧ res = .tup [.st [iv m, .own 6000 v], iv code] else rows = [] ∧ res = .tup [.st [iv 0, nilS], iv code]

theorem k_RenumberStates_1 (order : List Int) (n : Int) (next : List (List Int)) (hn : 1 ≤ n ∧ n ≤ 10) : Fun Try.prog n_impl_RenumberStates_1 [.rp [.ro none 1 (ints order)] 0, autP n next] (bv (ordB n order)) := by
  refine fun_of mixed c_impl_RenumberStates_1 rfl ⟨rfl, trivial⟩ ?_
  simp only [A_impl_RenumberStates_1, B_impl_RenumberStates_1_1, go_sem, adopt_fun, Int.reduceLT, Int.reduceLE, Int.reduceToNat, Int.reduceNeg, Nat.reduceLT, Nat.reduceLeDiff, Nat.reduceMul, Nat.reduceSub, reduceIte, Nat.reduceEqDiff, Nat.reduceAdd, reduceCtorEq]
  intro vs
  refine call_fun (k_isOrder order n hn) (by simp only [rowIs, boxIs, coe_argN, coe_argNs, coe_ro_o, coeL_nil, coeL_cons, coe_any, coe_val, coe_ro, coe_ro_nil, coe_ro_own, coe_st, coe_st_agg, coe_rp, coe_rp_ptr, coe_clo, coe_own0, coe_ptr0, coeL_intsK, coeL_rws, coeL_rwn, L_hit, L_miss, L_nil, Nat.reduceEqDiff, ne_eq, reduceCtorEq, not_false_eq_true, true_and, and_true, and_self, exists_eq_left, exists_eq_right, List.mem_cons, List.not_mem_nil, or_false, AObj.row.injEq, AObj.box.injEq, exists_eq_left', exists_and_left, exists_eq, Nat.zero_lt_one, Nat.lt_add_one, List.map_cons, List.map_nil, AObj.ver, Nat.reduceLT, not_true_eq_false]) trivial ?_
  simp only [go_sem, adopt_fun, Int.reduceLT, Int.reduceLE, Int.reduceToNat, Int.reduceNeg, Nat.reduceLT, Nat.reduceLeDiff, Nat.reduceMul, Nat.reduceSub, reduceIte, Nat.reduceEqDiff, Nat.reduceAdd, reduceCtorEq]

theorem k_RenumberStates (n : Int) (next : List (List Int)) (order : List Int) :
    NamR Try.prog n_impl_RenumberStates [autA n next, .ro none 1 (ints order)] (autB n next && ordB n order) n (next.map (renR order)) (codeI (autB n next) (ordB n order)) := by
  refine con_of mixed c_impl_RenumberStates rfl (by simp) ?_
  simp only [A_impl_RenumberStates, B_impl_RenumberStates_1, wpD_kp, wpD_regi, go_sem, adopt_fun, Int.reduceLT, Int.reduceLE, Int.reduceToNat, Int.reduceNeg, Nat.reduceLT, Nat.reduceLeDiff, Nat.reduceMul, Nat.reduceSub, reduceIte, Nat.reduceEqDiff, Nat.reduceAdd, reduceCtorEq]
  intro vs0 U0 hN0 vs1 U1 hN1
  refine call_fun (k_code n next n_impl_RenumberStates_1 [.rp [.ro none 1 (ints order)] 0, autP n next] _ ⟨by simp only [go_sem, adopt_fun, Int.reduceLT, Int.reduceLE, Int.reduceToNat, Int.reduceNeg, Nat.reduceLT, Nat.reduceLeDiff, Nat.reduceMul, Nat.reduceSub, reduceIte, Nat.reduceEqDiff, Nat.reduceAdd, reduceCtorEq], by intros; simp only [rowIs, boxIs, coe_argN, coe_argNs, coe_ro_o, coeL_nil, coeL_cons, coe_any, coe_val, coe_ro, coe_ro_nil, coe_ro_own, coe_st, coe_st_agg, coe_rp, coe_rp_ptr, coe_clo, coe_own0, coe_ptr0, coeL_intsK, coeL_rws, coeL_rwn, L_hit, L_miss, L_nil, Nat.reduceEqDiff, ne_eq, reduceCtorEq, not_false_eq_true, true_and, and_true, and_self, exists_eq_left, exists_eq_right, List.mem_cons, List.not_mem_nil, or_false, AObj.row.injEq, AObj.box.injEq, exists_eq_left', exists_and_left, exists_eq, Nat.zero_lt_one, Nat.lt_add_one, List.map_cons, List.map_nil, AObj.ver, Nat.reduceLT, not_true_eq_false]⟩
    (fun hv => k_RenumberStates_1 order n next ⟨(autB_iff.1 hv).n1, (autB_iff.1 hv).n2⟩)) (by simp only [rowIs, boxIs, coe_argN, coe_argNs, coe_ro_o, coeL_nil, coeL_cons, coe_any, coe_val, coe_ro, coe_ro_nil, coe_ro_own, coe_st, coe_st_agg, coe_rp, coe_rp_ptr, coe_clo, coe_own0, coe_ptr0, coeL_intsK, coeL_rws, coeL_rwn, L_hit, L_miss, L_nil, Nat.reduceEqDiff, ne_eq, reduceCtorEq, not_false_eq_true, true_and, and_true, and_self, exists_eq_left, exists_eq_right, List.mem_cons, List.not_mem_nil, or_false, AObj.row.injEq, AObj.box.injEq, exists_eq_left', exists_and_left, exists_eq, Nat.zero_lt_one, Nat.lt_add_one, List.map_cons, List.map_nil, AObj.ver, Nat.reduceLT, not_true_eq_false]) trivial ?_
  cases hv : autB n next with
  | false =>
    have h3 : codeI false (ordB n order) = 1 := by simp [codeI]
    simp only [h3, ne10, B_impl_RenumberStates_2, B_impl_RenumberStates_3, Bool.false_and, Bool.false_eq_true, if_false, wpD_kp, wpD_regi, go_sem, adopt_fun, Int.reduceLT, Int.reduceLE, Int.reduceToNat, Int.reduceNeg, Nat.reduceLT, Nat.reduceLeDiff, Nat.reduceMul, Nat.reduceSub, reduceIte, Nat.reduceEqDiff, Nat.reduceAdd, reduceCtorEq]
    intro vs2 U2 hN2 vs3 U3 hN3
    refine ⟨[], by simp, by simp, by simp, ?_⟩
    simp only [Nat.not_lt_zero, range1, ren_val, ren_any, ren_ro, rnNm_n, rnNm_sn, rnNm_o, rnNm_s, ren_st, ren_tup, renL_nil, renL_cons, renL_intsK, renL_rws, renL_rwn, oren_box, oren_row, oren_map, ren_own_e0, ren_own_e1, ren_own_e2, ren_ptr_e0, ren_mp_e0, ren_mp_e1, ren_own_r0, ren_own_r1, ren_own_r2, ren_ptr_r0, ren_mp_r0, ren_mp_r1, List.range_zero, callHp_nil, callHp_one, callHp_two, gone_nil, gone_one, gone_two, AVal.fresh, freshL, fresh_intsK, fresh_rws, AObj.fresh, id, Option.isSome_some, or_true, true_or, go_sem, adopt_fun, Int.reduceLT, Int.reduceLE, Int.reduceToNat, Int.reduceNeg, Nat.reduceLT, Nat.reduceLeDiff, Nat.reduceMul, Nat.reduceSub, reduceIte, Nat.reduceEqDiff, Nat.reduceAdd, reduceCtorEq]
    trace_state
    try simp
  | true =>
    have A := autB_iff.1 hv
    have n1 := A.n1
    have n2 := A.n2
    cases ho : ordB n order with
    | false =>
      have h3 : codeI true false = 2 := by simp [codeI]
      simp only [h3, ne20, B_impl_RenumberStates_2, B_impl_RenumberStates_3, Bool.and_false, Bool.false_eq_true, if_false, wpD_kp, wpD_regi, go_sem, adopt_fun, Int.reduceLT, Int.reduceLE, Int.reduceToNat, Int.reduceNeg, Nat.reduceLT, Nat.reduceLeDiff, Nat.reduceMul, Nat.reduceSub, reduceIte, Nat.reduceEqDiff, Nat.reduceAdd, reduceCtorEq]
      intro vs2 U2 hN2 vs3 U3 hN3
      refine ⟨[], by simp, by simp, by simp, ?_⟩
      simp only [Nat.not_lt_zero, range1, ren_val, ren_any, ren_ro, rnNm_n, rnNm_sn, rnNm_o, rnNm_s, ren_st, ren_tup, renL_nil, renL_cons, renL_intsK, renL_rws, renL_rwn, oren_box, oren_row, oren_map, ren_own_e0, ren_own_e1, ren_own_e2, ren_ptr_e0, ren_mp_e0, ren_mp_e1, ren_own_r0, ren_own_r1, ren_own_r2, ren_ptr_r0, ren_mp_r0, ren_mp_r1, List.range_zero, callHp_nil, callHp_one, callHp_two, gone_nil, gone_one, gone_two, AVal.fresh, freshL, fresh_intsK, fresh_rws, AObj.fresh, id, Option.isSome_some, or_true, true_or, go_sem, adopt_fun, Int.reduceLT, Int.reduceLE, Int.reduceToNat, Int.reduceNeg, Nat.reduceLT, Nat.reduceLeDiff, Nat.reduceMul, Nat.reduceSub, reduceIte, Nat.reduceEqDiff, Nat.reduceAdd, reduceCtorEq]
      try simp
    | true =>
      have h3 : codeI true true = 0 := by simp [codeI]
      obtain ⟨o1, o2⟩ := (ordB_iff n1).1 ho
      have o3 := allIn_iff.1 (by have := ord_eq n1 (l := order); rw [ho] at this; simp only [Bool.and_eq_true] at this; exact this.2.2)
      simp only [h3, B_impl_RenumberStates_2, B_impl_RenumberStates_3, B_impl_RenumberStates_4, bne_self_eq_false, Bool.true_and, if_true, wpD_kp, wpD_regi, go_sem, adopt_fun, Int.reduceLT, Int.reduceLE, Int.reduceToNat, Int.reduceNeg, Nat.reduceLT, Nat.reduceLeDiff, Nat.reduceMul, Nat.reduceSub, reduceIte, Nat.reduceEqDiff, Nat.reduceAdd, reduceCtorEq]
      intro vs2 U2 hN2 vs3 U3 hN3
      refine call_autN (fun x y e => (hN3.inj _ _ _ _ e).2) (k_renumbered n next order A (fun s hs => by have := o3 s hs; omega) (by omega)) (by simp only [rowIs, boxIs, coe_argN, coe_argNs, coe_ro_o, coeL_nil, coeL_cons, coe_any, coe_val, coe_ro, coe_ro_nil, coe_ro_own, coe_st, coe_st_agg, coe_rp, coe_rp_ptr, coe_clo, coe_own0, coe_ptr0, coeL_intsK, coeL_rws, coeL_rwn, L_hit, L_miss, L_nil, Nat.reduceEqDiff, ne_eq, reduceCtorEq, not_false_eq_true, true_and, and_true, and_self, exists_eq_left, exists_eq_right, List.mem_cons, List.not_mem_nil, or_false, AObj.row.injEq, AObj.box.injEq, exists_eq_left', exists_and_left, exists_eq, Nat.zero_lt_one, Nat.lt_add_one, List.map_cons, List.map_nil, AObj.ver, Nat.reduceLT, not_true_eq_false]) rfl ?_
      intro v ps hps hdj
      simp only [o2, wpD_kp, wpD_regi, go_sem, adopt_fun, Int.reduceLT, Int.reduceLE, Int.reduceToNat, Int.reduceNeg, Nat.reduceLT, Nat.reduceLeDiff, Nat.reduceMul, Nat.reduceSub, reduceIte, Nat.reduceEqDiff, Nat.reduceAdd, reduceCtorEq]
      refine ⟨[16], by simp, by simp, by simp, ?_⟩
      simp only [range1, List.length_singleton, renL_rwp, Nat.not_lt_zero, range1, ren_val, ren_any, ren_ro, rnNm_n, rnNm_sn, rnNm_o, rnNm_s, ren_st, ren_tup, renL_nil, renL_cons, renL_intsK, renL_rws, renL_rwn, oren_box, oren_row, oren_map, ren_own_e0, ren_own_e1, ren_own_e2, ren_ptr_e0, ren_mp_e0, ren_mp_e1, ren_own_r0, ren_own_r1, ren_own_r2, ren_ptr_r0, ren_mp_r0, ren_mp_r1, List.range_zero, callHp_nil, callHp_one, callHp_two, gone_nil, gone_one, gone_two, AVal.fresh, freshL, fresh_intsK, fresh_rws, AObj.fresh, id, Option.isSome_some, or_true, true_or, go_sem, adopt_fun, Int.reduceLT, Int.reduceLE, Int.reduceToNat, Int.reduceNeg, Nat.reduceLT, Nat.reduceLeDiff, Nat.reduceMul, Nat.reduceSub, reduceIte, Nat.reduceEqDiff, Nat.reduceAdd, reduceCtorEq]
      exact ⟨fresh_rwp, v, ps, by simp, hps, hdj, rfl⟩

theorem k_specRenumberStates (n : Int) (next : List (List Int)) (order : List Int) :
    NamR Try.prog n_spec_RenumberStates [autA n next, .ro none 1 (ints order)] (autB n next && ordB n order) n (next.map (renR order)) (codeI (autB n next) (ordB n order)) := by
  refine con_of mixed c_spec_RenumberStates rfl (by simp) ?_
  simp only [A_spec_RenumberStates, B_spec_RenumberStates_1, wpD_kp, wpD_regi, go_sem, adopt_fun, Int.reduceLT, Int.reduceLE, Int.reduceToNat, Int.reduceNeg, Nat.reduceLT, Nat.reduceLeDiff, Nat.reduceMul, Nat.reduceSub, reduceIte, Nat.reduceEqDiff, Nat.reduceAdd, reduceCtorEq]
  intro vs0 U0 hN0 vs1 U1 hN1
  refine call_fun (k_l01Ok n next) (by simp only [rowIs, boxIs, coe_argN, coe_argNs, coe_ro_o, coeL_nil, coeL_cons, coe_any, coe_val, coe_ro, coe_ro_nil, coe_ro_own, coe_st, coe_st_agg, coe_rp, coe_rp_ptr, coe_clo, coe_own0, coe_ptr0, coeL_intsK, coeL_rws, coeL_rwn, L_hit, L_miss, L_nil, Nat.reduceEqDiff, ne_eq, reduceCtorEq, not_false_eq_true, true_and, and_true, and_self, exists_eq_left, exists_eq_right, List.mem_cons, List.not_mem_nil, or_false, AObj.row.injEq, AObj.box.injEq, exists_eq_left', exists_and_left, exists_eq, Nat.zero_lt_one, Nat.lt_add_one, List.map_cons, List.map_nil, AObj.ver, Nat.reduceLT, not_true_eq_false]) trivial ?_
  cases hv : autB n next with
  | false =>
    simp only [B_spec_RenumberStates_2, codeI, Bool.false_and, Bool.false_eq_true, if_false, wpD_kp, wpD_regi, go_sem, adopt_fun, Int.reduceLT, Int.reduceLE, Int.reduceToNat, Int.reduceNeg, Nat.reduceLT, Nat.reduceLeDiff, Nat.reduceMul, Nat.reduceSub, reduceIte, Nat.reduceEqDiff, Nat.reduceAdd, reduceCtorEq]
    intro vs3 U3 hN3
    refine ⟨[], by simp, by simp, by simp, ?_⟩
    simp only [Nat.not_lt_zero, range1, ren_val, ren_any, ren_ro, rnNm_n, rnNm_sn, rnNm_o, rnNm_s, ren_st, ren_tup, renL_nil, renL_cons, renL_intsK, renL_rws, renL_rwn, oren_box, oren_row, oren_map, ren_own_e0, ren_own_e1, ren_own_e2, ren_ptr_e0, ren_mp_e0, ren_mp_e1, ren_own_r0, ren_own_r1, ren_own_r2, ren_ptr_r0, ren_mp_r0, ren_mp_r1, List.range_zero, callHp_nil, callHp_one, callHp_two, gone_nil, gone_one, gone_two, AVal.fresh, freshL, fresh_intsK, fresh_rws, AObj.fresh, id, Option.isSome_some, or_true, true_or, go_sem, adopt_fun, Int.reduceLT, Int.reduceLE, Int.reduceToNat, Int.reduceNeg, Nat.reduceLT, Nat.reduceLeDiff, Nat.reduceMul, Nat.reduceSub, reduceIte, Nat.reduceEqDiff, Nat.reduceAdd, reduceCtorEq]
    trace_state
    try simp
  | true =>
    have A := autB_iff.1 hv
    have n1 := A.n1
    have n2 := A.n2
    simp only [B_spec_RenumberStates_2, B_spec_RenumberStates_3, wpD_kp, wpD_regi, go_sem, adopt_fun, Int.reduceLT, Int.reduceLE, Int.reduceToNat, Int.reduceNeg, Nat.reduceLT, Nat.reduceLeDiff, Nat.reduceMul, Nat.reduceSub, reduceIte, Nat.reduceEqDiff, Nat.reduceAdd, reduceCtorEq]
    intro vs3 U3 hN3
    refine call_fun (k_l01Order n order ⟨n1, n2⟩) (by simp only [rowIs, boxIs, coe_argN, coe_argNs, coe_ro_o, coeL_nil, coeL_cons, coe_any, coe_val, coe_ro, coe_ro_nil, coe_ro_own, coe_st, coe_st_agg, coe_rp, coe_rp_ptr, coe_clo, coe_own0, coe_ptr0, coeL_intsK, coeL_rws, coeL_rwn, L_hit, L_miss, L_nil, Nat.reduceEqDiff, ne_eq, reduceCtorEq, not_false_eq_true, true_and, and_true, and_self, exists_eq_left, exists_eq_right, List.mem_cons, List.not_mem_nil, or_false, AObj.row.injEq, AObj.box.injEq, exists_eq_left', exists_and_left, exists_eq, Nat.zero_lt_one, Nat.lt_add_one, List.map_cons, List.map_nil, AObj.ver, Nat.reduceLT, not_true_eq_false]) trivial ?_
    cases ho : ordB n order with
    | false =>
      simp only [B_spec_RenumberStates_4, codeI, Bool.and_false, Bool.false_eq_true, if_false, if_true, wpD_kp, wpD_regi, go_sem, adopt_fun, Int.reduceLT, Int.reduceLE, Int.reduceToNat, Int.reduceNeg, Nat.reduceLT, Nat.reduceLeDiff, Nat.reduceMul, Nat.reduceSub, reduceIte, Nat.reduceEqDiff, Nat.reduceAdd, reduceCtorEq]
      intro vs4 U4 hN4
      refine ⟨[], by simp, by simp, by simp, ?_⟩
      simp only [Nat.not_lt_zero, range1, ren_val, ren_any, ren_ro, rnNm_n, rnNm_sn, rnNm_o, rnNm_s, ren_st, ren_tup, renL_nil, renL_cons, renL_intsK, renL_rws, renL_rwn, oren_box, oren_row, oren_map, ren_own_e0, ren_own_e1, ren_own_e2, ren_ptr_e0, ren_mp_e0, ren_mp_e1, ren_own_r0, ren_own_r1, ren_own_r2, ren_ptr_r0, ren_mp_r0, ren_mp_r1, List.range_zero, callHp_nil, callHp_one, callHp_two, gone_nil, gone_one, gone_two, AVal.fresh, freshL, fresh_intsK, fresh_rws, AObj.fresh, id, Option.isSome_some, or_true, true_or, go_sem, adopt_fun, Int.reduceLT, Int.reduceLE, Int.reduceToNat, Int.reduceNeg, Nat.reduceLT, Nat.reduceLeDiff, Nat.reduceMul, Nat.reduceSub, reduceIte, Nat.reduceEqDiff, Nat.reduceAdd, reduceCtorEq]
      try simp
    | true =>
      obtain ⟨o1, o2⟩ := (ordB_iff n1).1 ho
      have o3 := allIn_iff.1 (by have := ord_eq n1 (l := order); rw [ho] at this; simp only [Bool.and_eq_true] at this; exact this.2.2)
      simp only [B_spec_RenumberStates_4, B_spec_RenumberStates_5, codeI, Bool.true_and, if_true, wpD_kp, wpD_regi, go_sem, adopt_fun, Int.reduceLT, Int.reduceLE, Int.reduceToNat, Int.reduceNeg, Nat.reduceLT, Nat.reduceLeDiff, Nat.reduceMul, Nat.reduceSub, reduceIte, Nat.reduceEqDiff, Nat.reduceAdd, reduceCtorEq]
      intro vs4 U4 hN4
      refine call_autN (fun x y e => (hN4.inj _ _ _ _ e).2) (k_l01Renumbered n next order A (fun s hs => by have := o3 s hs; omega) (by omega)) (by simp only [rowIs, boxIs, coe_argN, coe_argNs, coe_ro_o, coeL_nil, coeL_cons, coe_any, coe_val, coe_ro, coe_ro_nil, coe_ro_own, coe_st, coe_st_agg, coe_rp, coe_rp_ptr, coe_clo, coe_own0, coe_ptr0, coeL_intsK, coeL_rws, coeL_rwn, L_hit, L_miss, L_nil, Nat.reduceEqDiff, ne_eq, reduceCtorEq, not_false_eq_true, true_and, and_true, and_self, exists_eq_left, exists_eq_right, List.mem_cons, List.not_mem_nil, or_false, AObj.row.injEq, AObj.box.injEq, exists_eq_left', exists_and_left, exists_eq, Nat.zero_lt_one, Nat.lt_add_one, List.map_cons, List.map_nil, AObj.ver, Nat.reduceLT, not_true_eq_false]) rfl ?_
      intro v ps hps hdj
      simp only [wpD_kp, wpD_regi, go_sem, adopt_fun, Int.reduceLT, Int.reduceLE, Int.reduceToNat, Int.reduceNeg, Nat.reduceLT, Nat.reduceLeDiff, Nat.reduceMul, Nat.reduceSub, reduceIte, Nat.reduceEqDiff, Nat.reduceAdd, reduceCtorEq]
      refine ⟨[16], by simp, by simp, by simp, ?_⟩
      simp only [range1, List.length_singleton, renL_rwp, Nat.not_lt_zero, range1, ren_val, ren_any, ren_ro, rnNm_n, rnNm_sn, rnNm_o, rnNm_s, ren_st, ren_tup, renL_nil, renL_cons, renL_intsK, renL_rws, renL_rwn, oren_box, oren_row, oren_map, ren_own_e0, ren_own_e1, ren_own_e2, ren_ptr_e0, ren_mp_e0, ren_mp_e1, ren_own_r0, ren_own_r1, ren_own_r2, ren_ptr_r0, ren_mp_r0, ren_mp_r1, List.range_zero, callHp_nil, callHp_one, callHp_two, gone_nil, gone_one, gone_two, AVal.fresh, freshL, fresh_intsK, fresh_rws, AObj.fresh, id, Option.isSome_some, or_true, true_or, go_sem, adopt_fun, Int.reduceLT, Int.reduceLE, Int.reduceToNat, Int.reduceNeg, Nat.reduceLT, Nat.reduceLeDiff, Nat.reduceMul, Nat.reduceSub, reduceIte, Nat.reduceEqDiff, Nat.reduceAdd, reduceCtorEq]
      exact ⟨fresh_rwp, v, ps, by simp, hps, hdj, rfl⟩
end Go.Ab
