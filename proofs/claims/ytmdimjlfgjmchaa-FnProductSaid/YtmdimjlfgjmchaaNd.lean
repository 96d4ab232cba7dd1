/- Contracts: two drawn automata. Conditions: none. -/
import Derived.Test.YtmdimjlfgjmchaaKe
set_option linter.all false
namespace Go.Ab
open Go.Proofs
set_option maxRecDepth 20000
set_option maxHeartbeats 2000000

/-- Two automata with as many letters. -/
abbrev PairR (outs rows : List AObj) (res : AVal) : Prop :=
  outs = [] ∧ ∃ na an nb bn va vb, Aut na an ∧ Aut nb bn ∧ na ≤ 3 ∧ nb ≤ 3 ∧ an.length = bn.length ∧ rows = [.row va 1 true (rws an), .row vb 1 true (rws bn)] ∧ res = .tup [.st [iv na, .own 6000 va], .st [iv nb, .own 6001 vb]]

theorem k_A2Pair (code : List Int) (hb : ∀ x ∈ code, 0 ≤ x ∧ x ≤ 255) : Con Try.prog n_spec_A2Pair [] [.ro (some (some 0)) 1 (intsK .u8 code)] true PairR := by
  refine con_sh mixed c_spec_A2Pair rfl (by simp) ?_
  generalize hQ : finQ _ = Q
  simp only [A_spec_A2Pair, B_spec_A2Pair_1, go_sem, adopt_fun, Int.reduceLT, Int.reduceLE, Int.reduceToNat, Int.reduceNeg, Nat.reduceLT, Nat.reduceLeDiff, Nat.reduceMul, Nat.reduceSub, reduceIte, Nat.reduceEqDiff, Nat.reduceAdd, reduceCtorEq]
  intro vs0 vs0'
  refine call_sh (k_from code) qCS (fun _ => ⟨_, _, _, rfl, 0, rfl, rfl⟩) ?_
  rintro outs rows res ⟨rfl, v, rfl, rfl⟩
  refine ⟨rfl, by simp, by rw [Option.getD_some, gone_one]; simp only [go_sem, adopt_fun, Int.reduceLT, Int.reduceLE, Int.reduceToNat, Int.reduceNeg, Nat.reduceLT, Nat.reduceLeDiff, Nat.reduceMul, Nat.reduceSub, reduceIte, Nat.reduceEqDiff, Nat.reduceAdd, reduceCtorEq], ?_⟩
  simp only [B_spec_A2Pair_2, Nat.not_lt_zero, range1, ren_val, ren_any, ren_ro, rnNm_n, rnNm_sn, rnNm_o, rnNm_s, ren_st, ren_tup, renL_nil, renL_cons, renL_intsK, renL_rws, renL_rwn, oren_box, oren_row, oren_map, ren_own_e0, ren_own_e1, ren_own_e2, ren_ptr_e0, ren_mp_e0, ren_mp_e1, ren_own_r0, ren_own_r1, ren_own_r2, ren_ptr_r0, ren_mp_r0, ren_mp_r1, List.range_zero, callHp_nil, callHp_one, callHp_two, gone_nil, gone_one, gone_two, AVal.fresh, freshL, fresh_intsK, fresh_rws, AObj.fresh, id, Option.isSome_some, or_true, true_or, go_sem, adopt_fun, Int.reduceLT, Int.reduceLE, Int.reduceToNat, Int.reduceNeg, Nat.reduceLT, Nat.reduceLeDiff, Nat.reduceMul, Nat.reduceSub, reduceIte, Nat.reduceEqDiff, Nat.reduceAdd, reduceCtorEq]
  intro vs1
  refine call_con (r := 8) (k_Drawn code 0 0 3 hb (by omega) (by omega)) rfl (by simp only [Bool.not_true, rowIs, boxIs, coe_argN, coe_argNs, coe_ro_o, coeL_nil, coeL_cons, coe_any, coe_val, coe_ro, coe_ro_nil, coe_ro_own, coe_st, coe_st_agg, coe_rp, coe_rp_ptr, coe_clo, coe_own0, coe_ptr0, coeL_intsK, coeL_rws, coeL_rwn, L_hit, L_miss, L_nil, Nat.reduceEqDiff, ne_eq, reduceCtorEq, not_false_eq_true, true_and, and_true, and_self, exists_eq_left, exists_eq_right, List.mem_cons, List.not_mem_nil, or_false, AObj.row.injEq, AObj.box.injEq, exists_eq_left', exists_and_left, exists_eq, Nat.zero_lt_one, Nat.lt_add_one, List.map_cons, List.map_nil, AObj.ver, Nat.reduceLT, not_true_eq_false]) (by simp only [Bool.not_true, rowIs, boxIs, coe_argN, coe_argNs, coe_ro_o, coeL_nil, coeL_cons, coe_any, coe_val, coe_ro, coe_ro_nil, coe_ro_own, coe_st, coe_st_agg, coe_rp, coe_rp_ptr, coe_clo, coe_own0, coe_ptr0, coeL_intsK, coeL_rws, coeL_rwn, L_hit, L_miss, L_nil, Nat.reduceEqDiff, ne_eq, reduceCtorEq, not_false_eq_true, true_and, and_true, and_self, exists_eq_left, exists_eq_right, List.mem_cons, List.not_mem_nil, or_false, AObj.row.injEq, AObj.box.injEq, exists_eq_left', exists_and_left, exists_eq, Nat.zero_lt_one, Nat.lt_add_one, List.map_cons, List.map_nil, AObj.ver, Nat.reduceLT, not_true_eq_false]) ?_
  rintro outs rows res ⟨na, an, va, a1, s1, A, na3, h1, h2, rfl, rfl, rfl⟩
  refine ⟨rfl, by simp, by rw [Option.getD_some, gone_one]; simp only [go_sem, adopt_fun, Int.reduceLT, Int.reduceLE, Int.reduceToNat, Int.reduceNeg, Nat.reduceLT, Nat.reduceLeDiff, Nat.reduceMul, Nat.reduceSub, reduceIte, Nat.reduceEqDiff, Nat.reduceAdd, reduceCtorEq], ?_⟩
  rw [Option.getD_some, callHp_mr (by omega)]
  generalize hf : sv (L .gone _) [8] (vs1 1) = f
  have hf0 : f 0 = vs0' 1 v := by rw [← hf]; simp [sv, AObj.ver, L]
  simp only [hf0, B_spec_A2Pair_3, Nat.not_lt_zero, range1, ren_val, ren_any, ren_ro, rnNm_n, rnNm_sn, rnNm_o, rnNm_s, ren_st, ren_tup, renL_nil, renL_cons, renL_intsK, renL_rws, renL_rwn, oren_box, oren_row, oren_map, ren_own_e0, ren_own_e1, ren_own_e2, ren_ptr_e0, ren_mp_e0, ren_mp_e1, ren_own_r0, ren_own_r1, ren_own_r2, ren_ptr_r0, ren_mp_r0, ren_mp_r1, List.range_zero, callHp_nil, callHp_one, callHp_two, gone_nil, gone_one, gone_two, AVal.fresh, freshL, fresh_intsK, fresh_rws, AObj.fresh, id, Option.isSome_some, or_true, true_or, go_sem, adopt_fun, Int.reduceLT, Int.reduceLE, Int.reduceToNat, Int.reduceNeg, Nat.reduceLT, Nat.reduceLeDiff, Nat.reduceMul, Nat.reduceSub, reduceIte, Nat.reduceEqDiff, Nat.reduceAdd, reduceCtorEq]
  intro vs2
  refine call_con (r := 8) (k_Drawn code a1 s1 3 hb (by omega) (by omega)) rfl (by simp only [Bool.not_true, rowIs, boxIs, coe_argN, coe_argNs, coe_ro_o, coeL_nil, coeL_cons, coe_any, coe_val, coe_ro, coe_ro_nil, coe_ro_own, coe_st, coe_st_agg, coe_rp, coe_rp_ptr, coe_clo, coe_own0, coe_ptr0, coeL_intsK, coeL_rws, coeL_rwn, L_hit, L_miss, L_nil, Nat.reduceEqDiff, ne_eq, reduceCtorEq, not_false_eq_true, true_and, and_true, and_self, exists_eq_left, exists_eq_right, List.mem_cons, List.not_mem_nil, or_false, AObj.row.injEq, AObj.box.injEq, exists_eq_left', exists_and_left, exists_eq, Nat.zero_lt_one, Nat.lt_add_one, List.map_cons, List.map_nil, AObj.ver, Nat.reduceLT, not_true_eq_false]) (by simp only [Bool.not_true, rowIs, boxIs, coe_argN, coe_argNs, coe_ro_o, coeL_nil, coeL_cons, coe_any, coe_val, coe_ro, coe_ro_nil, coe_ro_own, coe_st, coe_st_agg, coe_rp, coe_rp_ptr, coe_clo, coe_own0, coe_ptr0, coeL_intsK, coeL_rws, coeL_rwn, L_hit, L_miss, L_nil, Nat.reduceEqDiff, ne_eq, reduceCtorEq, not_false_eq_true, true_and, and_true, and_self, exists_eq_left, exists_eq_right, List.mem_cons, List.not_mem_nil, or_false, AObj.row.injEq, AObj.box.injEq, exists_eq_left', exists_and_left, exists_eq, Nat.zero_lt_one, Nat.lt_add_one, List.map_cons, List.map_nil, AObj.ver, Nat.reduceLT, not_true_eq_false]) ?_
  rintro outs rows res ⟨nb, bn, vb, a2, s2, B, nb3, h3, h4, rfl, rfl, rfl⟩
  refine ⟨rfl, by simp, by rw [Option.getD_some, gone_one]; simp only [go_sem, adopt_fun, Int.reduceLT, Int.reduceLE, Int.reduceToNat, Int.reduceNeg, Nat.reduceLT, Nat.reduceLeDiff, Nat.reduceMul, Nat.reduceSub, reduceIte, Nat.reduceEqDiff, Nat.reduceAdd, reduceCtorEq], ?_⟩
  rw [Option.getD_some, callHp_mr (by omega)]
  generalize hg : sv (L .gone _) [8] (vs2 1) = g
  have hg0 : g 0 = vs0' 1 v := by rw [← hg]; simp [sv, AObj.ver, L]
  simp only [hg0, B_spec_A2Pair_4, Nat.not_lt_zero, range1, ren_val, ren_any, ren_ro, rnNm_n, rnNm_sn, rnNm_o, rnNm_s, ren_st, ren_tup, renL_nil, renL_cons, renL_intsK, renL_rws, renL_rwn, oren_box, oren_row, oren_map, ren_own_e0, ren_own_e1, ren_own_e2, ren_ptr_e0, ren_mp_e0, ren_mp_e1, ren_own_r0, ren_own_r1, ren_own_r2, ren_ptr_r0, ren_mp_r0, ren_mp_r1, List.range_zero, callHp_nil, callHp_one, callHp_two, gone_nil, gone_one, gone_two, AVal.fresh, freshL, fresh_intsK, fresh_rws, AObj.fresh, id, Option.isSome_some, or_true, true_or, go_sem, adopt_fun, Int.reduceLT, Int.reduceLE, Int.reduceToNat, Int.reduceNeg, Nat.reduceLT, Nat.reduceLeDiff, Nat.reduceMul, Nat.reduceSub, reduceIte, Nat.reduceEqDiff, Nat.reduceAdd, reduceCtorEq]
  have al1 := A.l1
  have al2 := A.l2
  have bl1 := B.l1
  have bl2 := B.l2
  refine wpD_lo (fun (_, _, _, bn) => an.length - List.length bn)
    (fun (_, a, _, bn) => a1 ≤ a ∧ a ≤ 3000 + 2 * List.length bn ∧ 1 ≤ List.length bn ∧ List.length bn ≤ 3 ∧ ∀ row ∈ bn, (List.length row : Int) = nb ∧ ∀ x ∈ row, 0 ≤ x ∧ x < nb)
    (fun ((vb, a, s, bn) : Nat × Int × Int × List (List Int)) => ⟨L .any [(2, .ptr 2 (vs0 0 0) 0), (3, .ptr 3 (vs0 1 0) 0), (4, .ptr 8 (vs0' 1 v) 0), (5, .ptr 5 (vs1 2 0) 0), (6, .ptr 6 (vs2 2 0) 0)],
      L .gone [(2, .box (vs0 0 0) [iv 0, .val (.slice none 0 0)]), (3, .box (vs0 1 0) [iv 0, .val (.slice none 0 0)]), (5, .box (vs1 2 0) [iv na, .own 10 (f va)]), (6, .box (vs2 2 0) [iv nb, .own 12 vb]), (8, .box (vs0' 1 v) [.ro (some (some 0)) 1 (intsK .u8 code), iv a, .val (.int .u64 s)]), (10, .row (f va) 1 true (rws an)), (12, .row vb 1 true (rws bn))]⟩)
    (g vb, a2, s2, bn) ⟨h3, show a2 ≤ _ by omega, bl1, bl2, B.row⟩ (by simp only [B_spec_A2Pair_5, go_sem, adopt_fun, Int.reduceLT, Int.reduceLE, Int.reduceToNat, Int.reduceNeg, Nat.reduceLT, Nat.reduceLeDiff, Nat.reduceMul, Nat.reduceSub, reduceIte, Nat.reduceEqDiff, Nat.reduceAdd, reduceCtorEq]; try rfl) ?_
  rintro ⟨vb, a, s, bn⟩ ⟨i1, i2, i3, i4, i5⟩
  have i1 : a1 ≤ a := i1
  have i2 : a ≤ 3000 + 2 * bn.length := i2
  have i3 : 1 ≤ bn.length := i3
  have i4 : bn.length ≤ 3 := i4
  by_cases hlt : (bn.length : Int) < an.length
  · simp only [B_spec_A2Pair_5, B_spec_A2Pair_6, B_spec_A2Pair_7, rws_len, decide_eq_true hlt, go_sem, adopt_fun, Int.reduceLT, Int.reduceLE, Int.reduceToNat, Int.reduceNeg, Nat.reduceLT, Nat.reduceLeDiff, Nat.reduceMul, Nat.reduceSub, reduceIte, Nat.reduceEqDiff, Nat.reduceAdd, reduceCtorEq]
    intro hM1 hM2 vs3
    refine call_funBN (k_pick code a s bn.length hb (by omega)) rfl (by simp) qCS qCS ⟨srcC code a 0, .int .i64 0, ⟨a, 0, 0, rfl, by omega, by omega, rfl, by omega, .inr rfl⟩, flat_srcC⟩ ?_
    rintro cs' x ⟨a3, s3, b3, rfl, g1, g2, rfl, g3, g4⟩
    have hb3 : b3.toNat < bn.length := by omega
    have hrow := i5 _ (getD_mem hb3 [])
    simp only [rws_getD hb3, go_sem, adopt_fun, Int.reduceLT, Int.reduceLE, Int.reduceToNat, Int.reduceNeg, Nat.reduceLT, Nat.reduceLeDiff, Nat.reduceMul, Nat.reduceSub, reduceIte, Nat.reduceEqDiff, Nat.reduceAdd, reduceCtorEq]
    refine ⟨⟨g3, hb3⟩, hb3, ?_⟩
    refine call_rowI (k_l00Own (bn.getD b3.toNat []) (by omega)) qCS qWS ⟨_, rfl⟩ ?_
    rintro xs v5 rfl
    simp only [go_sem, adopt_fun, Int.reduceLT, Int.reduceLE, Int.reduceToNat, Int.reduceNeg, Nat.reduceLT, Nat.reduceLeDiff, Nat.reduceMul, Nat.reduceSub, reduceIte, Nat.reduceEqDiff, Nat.reduceAdd, reduceCtorEq]
    refine ⟨by omega, (vs3 13 0, a3, s3, bn ++ [bn.getD b3.toNat []]), by dsimp only; rw [List.length_append, List.length_singleton]; omega, ⟨by dsimp only; omega, by dsimp only; rw [List.length_append, List.length_singleton]; omega, by dsimp only; rw [List.length_append, List.length_singleton]; omega, by dsimp only; rw [List.length_append, List.length_singleton]; omega, fun row hr => ?_⟩, rfl⟩
    rcases List.mem_append.1 hr with h | h
    · exact i5 row h
    · rw [List.mem_singleton.1 h]; exact hrow
  · have ht : (rws bn).take an.length = rws (bn.take an.length) := by simp [rws, List.map_take]
    have h0 : (0 : Int) ≤ (an.length : Int) := by omega
    simp only [B_spec_A2Pair_5, B_spec_A2Pair_6, B_spec_A2Pair_8, rws_len, decide_eq_false hlt, St.bound, Int.toNat_natCast, h0, if_true, ht, List.drop_zero, go_sem, adopt_fun, Int.reduceLT, Int.reduceLE, Int.reduceToNat, Int.reduceNeg, Nat.reduceLT, Nat.reduceLeDiff, Nat.reduceMul, Nat.reduceSub, reduceIte, Nat.reduceEqDiff, Nat.reduceAdd, reduceCtorEq]
    intro hM1 hM2 vs3 hM3
    refine ⟨⟨Nat.zero_le _, by omega⟩, ?_⟩
    simp only [A_spec_A2Pair, B_spec_A2Pair_9, ← hQ, go_sem, adopt_fun, Int.reduceLT, Int.reduceLE, Int.reduceToNat, Int.reduceNeg, Nat.reduceLT, Nat.reduceLeDiff, Nat.reduceMul, Nat.reduceSub, reduceIte, Nat.reduceEqDiff, Nat.reduceAdd, reduceCtorEq]
    refine ⟨[10, 12], by simp, by simp, by simp, ?_⟩
    simp only [Nat.not_lt_zero, range1, ren_val, ren_any, ren_ro, rnNm_n, rnNm_sn, rnNm_o, rnNm_s, ren_st, ren_tup, renL_nil, renL_cons, renL_intsK, renL_rws, renL_rwn, oren_box, oren_row, oren_map, ren_own_e0, ren_own_e1, ren_own_e2, ren_ptr_e0, ren_mp_e0, ren_mp_e1, ren_own_r0, ren_own_r1, ren_own_r2, ren_ptr_r0, ren_mp_r0, ren_mp_r1, List.range_zero, callHp_nil, callHp_one, callHp_two, gone_nil, gone_one, gone_two, AVal.fresh, freshL, fresh_intsK, fresh_rws, AObj.fresh, id, Option.isSome_some, or_true, true_or, go_sem, adopt_fun, Int.reduceLT, Int.reduceLE, Int.reduceToNat, Int.reduceNeg, Nat.reduceLT, Nat.reduceLeDiff, Nat.reduceMul, Nat.reduceSub, reduceIte, Nat.reduceEqDiff, Nat.reduceAdd, reduceCtorEq]
    exact ⟨by simp, na, an, nb, bn.take an.length, f va, vs3 5 0, A, ⟨B.n1, B.n2, by rw [List.length_take]; omega, by rw [List.length_take]; omega, fun row hr => i5 row (List.mem_of_mem_take hr)⟩, na3, nb3, by rw [List.length_take]; omega, rfl, rfl⟩
end Go.Ab
