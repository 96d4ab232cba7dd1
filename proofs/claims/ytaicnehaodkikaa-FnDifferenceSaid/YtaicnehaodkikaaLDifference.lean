/- The law FnDifference: its contract. Conditions: none. -/
import Derived.Test.YtaicnehaodkikaaMs
import Derived.Test.YtaicnehaodkikaaPj
set_option linter.all false
namespace Go.Ab
open Go.Proofs
set_option maxRecDepth 20000
set_option maxHeartbeats 4000000

theorem trS {n o : Int} {next out : List (List Int)} (M : Mach n o next out) : Fn Try.prog n_spec_TrimMachine [machA n o next out] (MachSC ((covP next).length : Int) o (trmN next n.toNat) (trmU next out)) :=
  (k_specTrimMachine n o next out).dn (machB_iff.2 M) (by rw [if_pos (machB_iff.2 M)])
theorem reS {n o : Int} {next out : List (List Int)} (M : Mach n o next out) : Fn Try.prog n_spec_ReduceMachine [machA ((covP next).length : Int) o (trmN next n.toNat) (trmU next out)] (MachSC (rtC next out n.toNat : Int) o (rtN next out n.toNat) (rtU next out n.toNat)) := by
  have h := (k_specReduceMachine ((covP next).length : Int) o (trmN next n.toNat) (trmU next out)).dn (machB_iff.2 (trm_mach M)) (by rw [if_pos (machB_iff.2 (trm_mach M))])
  rwa [Int.toNat_natCast] at h
theorem caS {n o : Int} {next out : List (List Int)} (M : Mach n o next out) : Fn Try.prog n_spec_TrimMachine [machA (rtC next out n.toNat : Int) o (rtN next out n.toNat) (rtU next out n.toNat)] (MachSC ((covP (rtN next out n.toNat)).length : Int) o (canN next out n.toNat) (canU next out n.toNat)) := by
  have h := trS (rt_mach M)
  rwa [Int.toNat_natCast] at h

theorem k_FnDifference (code more : List Int) (hb : ∀ x ∈ code, 0 ≤ x ∧ x ≤ 255) (hb2 : ∀ x ∈ more, 0 ≤ x ∧ x ≤ 255) :
    Fun Try.prog n_laws_FnDifference [.ro (some (some 0)) 1 (intsK .u8 code), .ro (some (some 0)) 1 (intsK .u8 more)] (bv true) := by
  refine fun_of mixed c_laws_FnDifference rfl ⟨rfl, trivial⟩ ?_
  simp only [A_laws_FnDifference, B_laws_FnDifference_1, go_sem, adopt_fun, Int.reduceLT, Int.reduceLE, Int.reduceToNat, Int.reduceNeg, Nat.reduceLT, Nat.reduceLeDiff, Nat.reduceMul, Nat.reduceSub, reduceIte, Nat.reduceEqDiff, Nat.reduceAdd, reduceCtorEq]
  intro vs
  refine call_fun (k_f6big code) qCS trivial ?_
  by_cases h1 : (code.length : Int) > 4096
  · simp only [decide_eq_true h1, B_laws_FnDifference_2, go_sem, adopt_fun, Int.reduceLT, Int.reduceLE, Int.reduceToNat, Int.reduceNeg, Nat.reduceLT, Nat.reduceLeDiff, Nat.reduceMul, Nat.reduceSub, reduceIte, Nat.reduceEqDiff, Nat.reduceAdd, reduceCtorEq]
  simp only [decide_eq_false h1, go_sem, adopt_fun, Int.reduceLT, Int.reduceLE, Int.reduceToNat, Int.reduceNeg, Nat.reduceLT, Nat.reduceLeDiff, Nat.reduceMul, Nat.reduceSub, reduceIte, Nat.reduceEqDiff, Nat.reduceAdd, reduceCtorEq]
  refine call_fun (k_f6big more) qCS trivial ?_
  by_cases h2 : (more.length : Int) > 4096
  · simp only [decide_eq_true h2, B_laws_FnDifference_2, go_sem, adopt_fun, Int.reduceLT, Int.reduceLE, Int.reduceToNat, Int.reduceNeg, Nat.reduceLT, Nat.reduceLeDiff, Nat.reduceMul, Nat.reduceSub, reduceIte, Nat.reduceEqDiff, Nat.reduceAdd, reduceCtorEq]
  simp only [decide_eq_false h2, B_laws_FnDifference_2, B_laws_FnDifference_3, go_sem, adopt_fun, Int.reduceLT, Int.reduceLE, Int.reduceToNat, Int.reduceNeg, Nat.reduceLT, Nat.reduceLeDiff, Nat.reduceMul, Nat.reduceSub, reduceIte, Nat.reduceEqDiff, Nat.reduceAdd, reduceCtorEq]
  intro vs2
  refine call_sh (k_P6TwoS code hb) qCS (fun e => by cases e) ?_
  rintro outs rows res ⟨rfl, n, o, n', v1, v2, v3, v4, na, oa, nb, ob, Ma, hn5, Mb, hl, rfl, rfl⟩
  refine ⟨rfl, by simp, by rw [Option.getD_some, gone_four]; exact ⟨rfl, rfl, rfl, rfl⟩, ?_⟩
  have n1 := Ma.aut.n1
  have l1 := Ma.aut.l1
  have l2 := Ma.aut.l2
  have n1' := Mb.aut.n1
  simp only [callHp_four, ren_own_r2, ren_own_r3, B_laws_FnDifference_4, Nat.not_lt_zero, range1, ren_val, ren_any, ren_ro, rnNm_n, rnNm_sn, rnNm_o, rnNm_s, ren_st, ren_tup, renL_nil, renL_cons, renL_intsK, renL_rws, renL_rwn, oren_box, oren_row, oren_map, ren_own_e0, ren_own_e1, ren_own_e2, ren_ptr_e0, ren_mp_e0, ren_mp_e1, ren_own_r0, ren_own_r1, ren_own_r2, ren_ptr_r0, ren_mp_r0, ren_mp_r1, List.range_zero, callHp_nil, callHp_one, callHp_two, gone_nil, gone_one, gone_two, AVal.fresh, freshL, fresh_intsK, fresh_rws, AObj.fresh, id, Option.isSome_some, or_true, true_or, go_sem, adopt_fun, Int.reduceLT, Int.reduceLE, Int.reduceToNat, Int.reduceNeg, Nat.reduceLT, Nat.reduceLeDiff, Nat.reduceMul, Nat.reduceSub, reduceIte, Nat.reduceEqDiff, Nat.reduceAdd, reduceCtorEq]
  intro vs3
  have T : Two n n' na nb := ⟨Ma.aut, Mb.aut, hl⟩
  cases ha : apartQ na nb oa ob 0 0 with
  | none =>
    have hK := k_MachineDifference n n' o na nb oa ob Ma Mb hl
    rw [ha] at hK
    refine call_fn hK qCS (fun e => by cases e) ?_
    rintro rows res ⟨rfl, rfl⟩
    refine ⟨by simp, by simp, ?_⟩
    simp only [B_laws_FnDifference_5, Nat.not_lt_zero, range1, ren_val, ren_any, ren_ro, rnNm_n, rnNm_sn, rnNm_o, rnNm_s, ren_st, ren_tup, renL_nil, renL_cons, renL_intsK, renL_rws, renL_rwn, oren_box, oren_row, oren_map, ren_own_e0, ren_own_e1, ren_own_e2, ren_ptr_e0, ren_mp_e0, ren_mp_e1, ren_own_r0, ren_own_r1, ren_own_r2, ren_ptr_r0, ren_mp_r0, ren_mp_r1, List.range_zero, callHp_nil, callHp_one, callHp_two, gone_nil, gone_one, gone_two, AVal.fresh, freshL, fresh_intsK, fresh_rws, AObj.fresh, id, Option.isSome_some, or_true, true_or, go_sem, adopt_fun, Int.reduceLT, Int.reduceLE, Int.reduceToNat, Int.reduceNeg, Nat.reduceLT, Nat.reduceLeDiff, Nat.reduceMul, Nat.reduceSub, reduceIte, Nat.reduceEqDiff, Nat.reduceAdd, reduceCtorEq]
    intro vs4
    refine call_rowC2 (k_specMachineDifference n n' o na nb oa ob Ma Mb hl) qCS qGN ?_
    intro z1
    simp only [ha, Option.getD_none, Option.isSome_none, Bool.false_eq_true, if_false, B_laws_FnDifference_6, bne_self_eq_false, go_sem, adopt_fun, Int.reduceLT, Int.reduceLE, Int.reduceToNat, Int.reduceNeg, Nat.reduceLT, Nat.reduceLeDiff, Nat.reduceMul, Nat.reduceSub, reduceIte, Nat.reduceEqDiff, Nat.reduceAdd, reduceCtorEq]
    intro vs5
    refine call_fun (k_f6ints [] []) (by simp only [List.map_nil, rowIs, boxIs, coe_argN, coe_argNs, coe_ro_o, coeL_nil, coeL_cons, coe_any, coe_val, coe_ro, coe_ro_nil, coe_ro_own, coe_st, coe_st_agg, coe_rp, coe_rp_ptr, coe_clo, coe_own0, coe_ptr0, coeL_intsK, coeL_rws, coeL_rwn, L_hit, L_miss, L_nil, Nat.reduceEqDiff, ne_eq, reduceCtorEq, not_false_eq_true, true_and, and_true, and_self, exists_eq_left, exists_eq_right, List.mem_cons, List.not_mem_nil, or_false, AObj.row.injEq, AObj.box.injEq, exists_eq_left', exists_and_left, exists_eq, Nat.zero_lt_one, Nat.lt_add_one, List.map_cons, List.map_nil, AObj.ver, Nat.reduceLT, not_true_eq_false]) trivial ?_
    simp only [decide_true, B_laws_FnDifference_7, go_sem, adopt_fun, Int.reduceLT, Int.reduceLE, Int.reduceToNat, Int.reduceNeg, Nat.reduceLT, Nat.reduceLeDiff, Nat.reduceMul, Nat.reduceSub, reduceIte, Nat.reduceEqDiff, Nat.reduceAdd, reduceCtorEq]
    simp only [B_laws_FnDifference_8, go_sem, adopt_fun, Int.reduceLT, Int.reduceLE, Int.reduceToNat, Int.reduceNeg, Nat.reduceLT, Nat.reduceLeDiff, Nat.reduceMul, Nat.reduceSub, reduceIte, Nat.reduceEqDiff, Nat.reduceAdd, reduceCtorEq]
    intro vs7
    refine call_machC (trS Ma) qCS qGN qGN ?_
    intro w1 w2
    simp only [B_laws_FnDifference_9, go_sem, adopt_fun, Int.reduceLT, Int.reduceLE, Int.reduceToNat, Int.reduceNeg, Nat.reduceLT, Nat.reduceLeDiff, Nat.reduceMul, Nat.reduceSub, reduceIte, Nat.reduceEqDiff, Nat.reduceAdd, reduceCtorEq]
    intro vs8
    refine call_machC (trS Mb) qCS qGN qGN ?_
    intro w3 w4
    simp only [B_laws_FnDifference_10, go_sem, adopt_fun, Int.reduceLT, Int.reduceLE, Int.reduceToNat, Int.reduceNeg, Nat.reduceLT, Nat.reduceLeDiff, Nat.reduceMul, Nat.reduceSub, reduceIte, Nat.reduceEqDiff, Nat.reduceAdd, reduceCtorEq]
    intro vs9
    refine call_machC (reS Ma) qCS qGN qGN ?_
    intro w5 w6
    simp only [B_laws_FnDifference_11, go_sem, adopt_fun, Int.reduceLT, Int.reduceLE, Int.reduceToNat, Int.reduceNeg, Nat.reduceLT, Nat.reduceLeDiff, Nat.reduceMul, Nat.reduceSub, reduceIte, Nat.reduceEqDiff, Nat.reduceAdd, reduceCtorEq]
    intro vs10
    refine call_machC (reS Mb) qCS qGN qGN ?_
    intro w7 w8
    simp only [B_laws_FnDifference_12, B_laws_FnDifference_13, B_laws_FnDifference_14, bne_self_eq_false, go_sem, adopt_fun, Int.reduceLT, Int.reduceLE, Int.reduceToNat, Int.reduceNeg, Nat.reduceLT, Nat.reduceLeDiff, Nat.reduceMul, Nat.reduceSub, reduceIte, Nat.reduceEqDiff, Nat.reduceAdd, reduceCtorEq]
    intro vs11
    refine call_machC (caS Ma) qCS qGN qGN ?_
    intro w9 w10
    simp only [B_laws_FnDifference_15, go_sem, adopt_fun, Int.reduceLT, Int.reduceLE, Int.reduceToNat, Int.reduceNeg, Nat.reduceLT, Nat.reduceLeDiff, Nat.reduceMul, Nat.reduceSub, reduceIte, Nat.reduceEqDiff, Nat.reduceAdd, reduceCtorEq]
    intro vs12
    refine call_machC (caS Mb) qCS qGN qGN ?_
    intro w11 w12
    simp only [B_laws_FnDifference_16, go_sem, adopt_fun, Int.reduceLT, Int.reduceLE, Int.reduceToNat, Int.reduceNeg, Nat.reduceLT, Nat.reduceLeDiff, Nat.reduceMul, Nat.reduceSub, reduceIte, Nat.reduceEqDiff, Nat.reduceAdd, reduceCtorEq]
    intro vs13 hMl
    refine call_rowI (k_P6Word more na.length 6 hb2 (by omega) (by omega)) qCS qGN ⟨[], by simp [IsW6]⟩ ?_
    rintro u u1 hu
    have hud : isWd na.length u := hu.2
    have hud' : isWd nb.length u := by rw [hl]; exact hud
    have hu6 : u.length ≤ 400 := by have := hu.1; omega
    simp only [B_laws_FnDifference_17, go_sem, adopt_fun, Int.reduceLT, Int.reduceLE, Int.reduceToNat, Int.reduceNeg, Nat.reduceLT, Nat.reduceLeDiff, Nat.reduceMul, Nat.reduceSub, reduceIte, Nat.reduceEqDiff, Nat.reduceAdd, reduceCtorEq]
    intro vs14
    refine call_fn (k_implOutputsOf n o na oa Ma 0 ⟨by omega, by omega⟩ u hud hu6) qCS (fun e => by cases e) ?_
    rintro rows res ⟨y1, rfl, rfl⟩
    refine ⟨by simp, by simp only [Option.getD_some, gone_one]; rfl, ?_⟩
    simp only [Option.getD_some, List.length_singleton, B_laws_FnDifference_18, Nat.not_lt_zero, range1, ren_val, ren_any, ren_ro, rnNm_n, rnNm_sn, rnNm_o, rnNm_s, ren_st, ren_tup, renL_nil, renL_cons, renL_intsK, renL_rws, renL_rwn, oren_box, oren_row, oren_map, ren_own_e0, ren_own_e1, ren_own_e2, ren_ptr_e0, ren_mp_e0, ren_mp_e1, ren_own_r0, ren_own_r1, ren_own_r2, ren_ptr_r0, ren_mp_r0, ren_mp_r1, List.range_zero, callHp_nil, callHp_one, callHp_two, gone_nil, gone_one, gone_two, AVal.fresh, freshL, fresh_intsK, fresh_rws, AObj.fresh, id, Option.isSome_some, or_true, true_or, go_sem, adopt_fun, Int.reduceLT, Int.reduceLE, Int.reduceToNat, Int.reduceNeg, Nat.reduceLT, Nat.reduceLeDiff, Nat.reduceMul, Nat.reduceSub, reduceIte, Nat.reduceEqDiff, Nat.reduceAdd, reduceCtorEq]
    intro vs15
    refine call_fn (k_implOutputsOf n' o nb ob Mb 0 ⟨by omega, by omega⟩ u hud' hu6) qCS (fun e => by cases e) ?_
    rintro rows res ⟨y2, rfl, rfl⟩
    refine ⟨by simp, by simp only [Option.getD_some, gone_one]; rfl, ?_⟩
    have h60 : ((6 : Int) != 0) = true := rfl
    simp only [h60, Option.getD_some, List.length_singleton, B_laws_FnDifference_19, B_laws_FnDifference_20, B_laws_FnDifference_21, B_laws_FnDifference_22, bne_self_eq_false, Nat.not_lt_zero, range1, ren_val, ren_any, ren_ro, rnNm_n, rnNm_sn, rnNm_o, rnNm_s, ren_st, ren_tup, renL_nil, renL_cons, renL_intsK, renL_rws, renL_rwn, oren_box, oren_row, oren_map, ren_own_e0, ren_own_e1, ren_own_e2, ren_ptr_e0, ren_mp_e0, ren_mp_e1, ren_own_r0, ren_own_r1, ren_own_r2, ren_ptr_r0, ren_mp_r0, ren_mp_r1, List.range_zero, callHp_nil, callHp_one, callHp_two, gone_nil, gone_one, gone_two, AVal.fresh, freshL, fresh_intsK, fresh_rws, AObj.fresh, id, Option.isSome_some, or_true, true_or, go_sem, adopt_fun, Int.reduceLT, Int.reduceLE, Int.reduceToNat, Int.reduceNeg, Nat.reduceLT, Nat.reduceLeDiff, Nat.reduceMul, Nat.reduceSub, reduceIte, Nat.reduceEqDiff, Nat.reduceAdd, reduceCtorEq]
    intro vs16
    have hE := apart_none T ha
    obtain ⟨e1, e2, e3⟩ := can_eq Ma Mb hl hE
    refine call_fun (k_SameMachine (covP (rtN na oa n.toNat)).length (covP (rtN nb ob n'.toNat)).length o o (canN na oa n.toNat) (canU na oa n.toNat) (canN nb ob n'.toNat) (canU nb ob n'.toNat)) qCS trivial ?_
    simp only [e1, e2, e3, decide_true, Bool.and_true, go_sem, adopt_fun, Int.reduceLT, Int.reduceLE, Int.reduceToNat, Int.reduceNeg, Nat.reduceLT, Nat.reduceLeDiff, Nat.reduceMul, Nat.reduceSub, reduceIte, Nat.reduceEqDiff, Nat.reduceAdd, reduceCtorEq]
    refine call_fun (k_f6ints (outsA na oa 0 u) (outsA nb ob 0 u)) qCS trivial ?_
    simp only [hE u hud, decide_true, go_sem, adopt_fun, Int.reduceLT, Int.reduceLE, Int.reduceToNat, Int.reduceNeg, Nat.reduceLT, Nat.reduceLeDiff, Nat.reduceMul, Nat.reduceSub, reduceIte, Nat.reduceEqDiff, Nat.reduceAdd, reduceCtorEq]
  | some w =>
    have hK := k_MachineDifference n n' o na nb oa ob Ma Mb hl
    rw [ha] at hK
    refine call_fn hK qCS (fun e => by cases e) ?_
    rintro rows res ⟨z0, rfl, rfl⟩
    refine ⟨by simp, by simp only [Option.getD_some, gone_one]; rfl, ?_⟩
    simp only [Option.getD_some, List.length_singleton, B_laws_FnDifference_5, Nat.not_lt_zero, range1, ren_val, ren_any, ren_ro, rnNm_n, rnNm_sn, rnNm_o, rnNm_s, ren_st, ren_tup, renL_nil, renL_cons, renL_intsK, renL_rws, renL_rwn, oren_box, oren_row, oren_map, ren_own_e0, ren_own_e1, ren_own_e2, ren_ptr_e0, ren_mp_e0, ren_mp_e1, ren_own_r0, ren_own_r1, ren_own_r2, ren_ptr_r0, ren_mp_r0, ren_mp_r1, List.range_zero, callHp_nil, callHp_one, callHp_two, gone_nil, gone_one, gone_two, AVal.fresh, freshL, fresh_intsK, fresh_rws, AObj.fresh, id, Option.isSome_some, or_true, true_or, go_sem, adopt_fun, Int.reduceLT, Int.reduceLE, Int.reduceToNat, Int.reduceNeg, Nat.reduceLT, Nat.reduceLeDiff, Nat.reduceMul, Nat.reduceSub, reduceIte, Nat.reduceEqDiff, Nat.reduceAdd, reduceCtorEq]
    intro vs4
    refine call_rowC2 (k_specMachineDifference n n' o na nb oa ob Ma Mb hl) qCS qGN ?_
    intro z1
    simp only [ha, Option.getD_some, Option.isSome_some, if_true, B_laws_FnDifference_6, bne_self_eq_false, go_sem, adopt_fun, Int.reduceLT, Int.reduceLE, Int.reduceToNat, Int.reduceNeg, Nat.reduceLT, Nat.reduceLeDiff, Nat.reduceMul, Nat.reduceSub, reduceIte, Nat.reduceEqDiff, Nat.reduceAdd, reduceCtorEq]
    intro vs5
    refine call_fun (k_f6ints w w) (by simp only [List.map_nil, rowIs, boxIs, coe_argN, coe_argNs, coe_ro_o, coeL_nil, coeL_cons, coe_any, coe_val, coe_ro, coe_ro_nil, coe_ro_own, coe_st, coe_st_agg, coe_rp, coe_rp_ptr, coe_clo, coe_own0, coe_ptr0, coeL_intsK, coeL_rws, coeL_rwn, L_hit, L_miss, L_nil, Nat.reduceEqDiff, ne_eq, reduceCtorEq, not_false_eq_true, true_and, and_true, and_self, exists_eq_left, exists_eq_right, List.mem_cons, List.not_mem_nil, or_false, AObj.row.injEq, AObj.box.injEq, exists_eq_left', exists_and_left, exists_eq, Nat.zero_lt_one, Nat.lt_add_one, List.map_cons, List.map_nil, AObj.ver, Nat.reduceLT, not_true_eq_false]) trivial ?_
    simp only [decide_true, B_laws_FnDifference_7, go_sem, adopt_fun, Int.reduceLT, Int.reduceLE, Int.reduceToNat, Int.reduceNeg, Nat.reduceLT, Nat.reduceLeDiff, Nat.reduceMul, Nat.reduceSub, reduceIte, Nat.reduceEqDiff, Nat.reduceAdd, reduceCtorEq]
    simp only [B_laws_FnDifference_8, go_sem, adopt_fun, Int.reduceLT, Int.reduceLE, Int.reduceToNat, Int.reduceNeg, Nat.reduceLT, Nat.reduceLeDiff, Nat.reduceMul, Nat.reduceSub, reduceIte, Nat.reduceEqDiff, Nat.reduceAdd, reduceCtorEq]
    intro vs7
    refine call_machC (trS Ma) qCS qGN qGN ?_
    intro w1 w2
    simp only [B_laws_FnDifference_9, go_sem, adopt_fun, Int.reduceLT, Int.reduceLE, Int.reduceToNat, Int.reduceNeg, Nat.reduceLT, Nat.reduceLeDiff, Nat.reduceMul, Nat.reduceSub, reduceIte, Nat.reduceEqDiff, Nat.reduceAdd, reduceCtorEq]
    intro vs8
    refine call_machC (trS Mb) qCS qGN qGN ?_
    intro w3 w4
    simp only [B_laws_FnDifference_10, go_sem, adopt_fun, Int.reduceLT, Int.reduceLE, Int.reduceToNat, Int.reduceNeg, Nat.reduceLT, Nat.reduceLeDiff, Nat.reduceMul, Nat.reduceSub, reduceIte, Nat.reduceEqDiff, Nat.reduceAdd, reduceCtorEq]
    intro vs9
    refine call_machC (reS Ma) qCS qGN qGN ?_
    intro w5 w6
    simp only [B_laws_FnDifference_11, go_sem, adopt_fun, Int.reduceLT, Int.reduceLE, Int.reduceToNat, Int.reduceNeg, Nat.reduceLT, Nat.reduceLeDiff, Nat.reduceMul, Nat.reduceSub, reduceIte, Nat.reduceEqDiff, Nat.reduceAdd, reduceCtorEq]
    intro vs10
    refine call_machC (reS Mb) qCS qGN qGN ?_
    intro w7 w8
    simp only [B_laws_FnDifference_12, B_laws_FnDifference_13, B_laws_FnDifference_14, bne_self_eq_false, go_sem, adopt_fun, Int.reduceLT, Int.reduceLE, Int.reduceToNat, Int.reduceNeg, Nat.reduceLT, Nat.reduceLeDiff, Nat.reduceMul, Nat.reduceSub, reduceIte, Nat.reduceEqDiff, Nat.reduceAdd, reduceCtorEq]
    intro vs11
    refine call_machC (caS Ma) qCS qGN qGN ?_
    intro w9 w10
    simp only [B_laws_FnDifference_15, go_sem, adopt_fun, Int.reduceLT, Int.reduceLE, Int.reduceToNat, Int.reduceNeg, Nat.reduceLT, Nat.reduceLeDiff, Nat.reduceMul, Nat.reduceSub, reduceIte, Nat.reduceEqDiff, Nat.reduceAdd, reduceCtorEq]
    intro vs12
    refine call_machC (caS Mb) qCS qGN qGN ?_
    intro w11 w12
    simp only [B_laws_FnDifference_16, go_sem, adopt_fun, Int.reduceLT, Int.reduceLE, Int.reduceToNat, Int.reduceNeg, Nat.reduceLT, Nat.reduceLeDiff, Nat.reduceMul, Nat.reduceSub, reduceIte, Nat.reduceEqDiff, Nat.reduceAdd, reduceCtorEq]
    intro vs13 hMl
    refine call_rowI (k_P6Word more na.length 6 hb2 (by omega) (by omega)) qCS qGN ⟨[], by simp [IsW6]⟩ ?_
    rintro u u1 hu
    have hud : isWd na.length u := hu.2
    have hud' : isWd nb.length u := by rw [hl]; exact hud
    have hu6 : u.length ≤ 400 := by have := hu.1; omega
    simp only [B_laws_FnDifference_17, go_sem, adopt_fun, Int.reduceLT, Int.reduceLE, Int.reduceToNat, Int.reduceNeg, Nat.reduceLT, Nat.reduceLeDiff, Nat.reduceMul, Nat.reduceSub, reduceIte, Nat.reduceEqDiff, Nat.reduceAdd, reduceCtorEq]
    intro vs14
    refine call_fn (k_implOutputsOf n o na oa Ma 0 ⟨by omega, by omega⟩ u hud hu6) qCS (fun e => by cases e) ?_
    rintro rows res ⟨y1, rfl, rfl⟩
    refine ⟨by simp, by simp only [Option.getD_some, gone_one]; rfl, ?_⟩
    simp only [Option.getD_some, List.length_singleton, B_laws_FnDifference_18, Nat.not_lt_zero, range1, ren_val, ren_any, ren_ro, rnNm_n, rnNm_sn, rnNm_o, rnNm_s, ren_st, ren_tup, renL_nil, renL_cons, renL_intsK, renL_rws, renL_rwn, oren_box, oren_row, oren_map, ren_own_e0, ren_own_e1, ren_own_e2, ren_ptr_e0, ren_mp_e0, ren_mp_e1, ren_own_r0, ren_own_r1, ren_own_r2, ren_ptr_r0, ren_mp_r0, ren_mp_r1, List.range_zero, callHp_nil, callHp_one, callHp_two, gone_nil, gone_one, gone_two, AVal.fresh, freshL, fresh_intsK, fresh_rws, AObj.fresh, id, Option.isSome_some, or_true, true_or, go_sem, adopt_fun, Int.reduceLT, Int.reduceLE, Int.reduceToNat, Int.reduceNeg, Nat.reduceLT, Nat.reduceLeDiff, Nat.reduceMul, Nat.reduceSub, reduceIte, Nat.reduceEqDiff, Nat.reduceAdd, reduceCtorEq]
    intro vs15
    refine call_fn (k_implOutputsOf n' o nb ob Mb 0 ⟨by omega, by omega⟩ u hud' hu6) qCS (fun e => by cases e) ?_
    rintro rows res ⟨y2, rfl, rfl⟩
    refine ⟨by simp, by simp only [Option.getD_some, gone_one]; rfl, ?_⟩
    simp only [Option.getD_some, List.length_singleton, B_laws_FnDifference_19, B_laws_FnDifference_20, B_laws_FnDifference_21, B_laws_FnDifference_22, bne_self_eq_false, Nat.not_lt_zero, range1, ren_val, ren_any, ren_ro, rnNm_n, rnNm_sn, rnNm_o, rnNm_s, ren_st, ren_tup, renL_nil, renL_cons, renL_intsK, renL_rws, renL_rwn, oren_box, oren_row, oren_map, ren_own_e0, ren_own_e1, ren_own_e2, ren_ptr_e0, ren_mp_e0, ren_mp_e1, ren_own_r0, ren_own_r1, ren_own_r2, ren_ptr_r0, ren_mp_r0, ren_mp_r1, List.range_zero, callHp_nil, callHp_one, callHp_two, gone_nil, gone_one, gone_two, AVal.fresh, freshL, fresh_intsK, fresh_rws, AObj.fresh, id, Option.isSome_some, or_true, true_or, go_sem, adopt_fun, Int.reduceLT, Int.reduceLE, Int.reduceToNat, Int.reduceNeg, Nat.reduceLT, Nat.reduceLeDiff, Nat.reduceMul, Nat.reduceSub, reduceIte, Nat.reduceEqDiff, Nat.reduceAdd, reduceCtorEq]
    obtain ⟨hwd, hwl, hne, hbef⟩ := apart_some T ha
    have hwd' : isWd nb.length w := by rw [hl]; exact hwd
    have hcne := can_ne Ma Mb hl hwd hne
    simp only [B_laws_FnDifference_23, go_sem, adopt_fun, Int.reduceLT, Int.reduceLE, Int.reduceToNat, Int.reduceNeg, Nat.reduceLT, Nat.reduceLeDiff, Nat.reduceMul, Nat.reduceSub, reduceIte, Nat.reduceEqDiff, Nat.reduceAdd, reduceCtorEq]
    intro vs17
    refine call_fn (k_implOutputsOf n o na oa Ma 0 ⟨by omega, by omega⟩ w hwd (by omega)) qCS (fun e => by cases e) ?_
    rintro rows res ⟨y3, rfl, rfl⟩
    refine ⟨by simp, by simp only [Option.getD_some, gone_one]; rfl, ?_⟩
    simp only [Option.getD_some, List.length_singleton, B_laws_FnDifference_24, Nat.not_lt_zero, range1, ren_val, ren_any, ren_ro, rnNm_n, rnNm_sn, rnNm_o, rnNm_s, ren_st, ren_tup, renL_nil, renL_cons, renL_intsK, renL_rws, renL_rwn, oren_box, oren_row, oren_map, ren_own_e0, ren_own_e1, ren_own_e2, ren_ptr_e0, ren_mp_e0, ren_mp_e1, ren_own_r0, ren_own_r1, ren_own_r2, ren_ptr_r0, ren_mp_r0, ren_mp_r1, List.range_zero, callHp_nil, callHp_one, callHp_two, gone_nil, gone_one, gone_two, AVal.fresh, freshL, fresh_intsK, fresh_rws, AObj.fresh, id, Option.isSome_some, or_true, true_or, go_sem, adopt_fun, Int.reduceLT, Int.reduceLE, Int.reduceToNat, Int.reduceNeg, Nat.reduceLT, Nat.reduceLeDiff, Nat.reduceMul, Nat.reduceSub, reduceIte, Nat.reduceEqDiff, Nat.reduceAdd, reduceCtorEq]
    intro vs18
    refine call_fn (k_implOutputsOf n' o nb ob Mb 0 ⟨by omega, by omega⟩ w hwd' (by omega)) qCS (fun e => by cases e) ?_
    rintro rows res ⟨y4, rfl, rfl⟩
    refine ⟨by simp, by simp only [Option.getD_some, gone_one]; rfl, ?_⟩
    simp only [Option.getD_some, List.length_singleton, B_laws_FnDifference_25, beq_self_eq_true, Nat.not_lt_zero, range1, ren_val, ren_any, ren_ro, rnNm_n, rnNm_sn, rnNm_o, rnNm_s, ren_st, ren_tup, renL_nil, renL_cons, renL_intsK, renL_rws, renL_rwn, oren_box, oren_row, oren_map, ren_own_e0, ren_own_e1, ren_own_e2, ren_ptr_e0, ren_mp_e0, ren_mp_e1, ren_own_r0, ren_own_r1, ren_own_r2, ren_ptr_r0, ren_mp_r0, ren_mp_r1, List.range_zero, callHp_nil, callHp_one, callHp_two, gone_nil, gone_one, gone_two, AVal.fresh, freshL, fresh_intsK, fresh_rws, AObj.fresh, id, Option.isSome_some, or_true, true_or, go_sem, adopt_fun, Int.reduceLT, Int.reduceLE, Int.reduceToNat, Int.reduceNeg, Nat.reduceLT, Nat.reduceLeDiff, Nat.reduceMul, Nat.reduceSub, reduceIte, Nat.reduceEqDiff, Nat.reduceAdd, reduceCtorEq]
    intro vs19
    refine call_fun (k_f6ints (outsA na oa 0 w) (outsA nb ob 0 w)) qCS trivial ?_
    simp only [decide_eq_false hne, Bool.not_false, go_sem, adopt_fun, Int.reduceLT, Int.reduceLE, Int.reduceToNat, Int.reduceNeg, Nat.reduceLT, Nat.reduceLeDiff, Nat.reduceMul, Nat.reduceSub, reduceIte, Nat.reduceEqDiff, Nat.reduceAdd, reduceCtorEq]
    have hsm : (decide (((covP (rtN na oa n.toNat)).length : Int) = ((covP (rtN nb ob n'.toNat)).length : Int)) && (decide (o = o) && (decide (canN na oa n.toNat = canN nb ob n'.toNat) && decide (canU na oa n.toNat = canU nb ob n'.toNat)))) = false := by
      rw [← Bool.not_eq_true]
      intro h
      simp only [Bool.and_eq_true, decide_eq_true_eq] at h
      exact hcne h.2.2
    have hS := k_SameMachine (covP (rtN na oa n.toNat)).length (covP (rtN nb ob n'.toNat)).length o o (canN na oa n.toNat) (canU na oa n.toNat) (canN nb ob n'.toNat) (canU nb ob n'.toNat)
    rw [hsm] at hS
    refine call_fun hS qCS trivial ?_
    simp only [Bool.not_false, go_sem, adopt_fun, Int.reduceLT, Int.reduceLE, Int.reduceToNat, Int.reduceNeg, Nat.reduceLT, Nat.reduceLeDiff, Nat.reduceMul, Nat.reduceSub, reduceIte, Nat.reduceEqDiff, Nat.reduceAdd, reduceCtorEq]
    refine call_fun (k_f6before u w) qCS trivial ?_
    cases hbf : befP u w with
    | false => simp only [Bool.not_false, go_sem, adopt_fun, Int.reduceLT, Int.reduceLE, Int.reduceToNat, Int.reduceNeg, Nat.reduceLT, Nat.reduceLeDiff, Nat.reduceMul, Nat.reduceSub, reduceIte, Nat.reduceEqDiff, Nat.reduceAdd, reduceCtorEq]
    | true =>
      simp only [Bool.not_true, go_sem, adopt_fun, Int.reduceLT, Int.reduceLE, Int.reduceToNat, Int.reduceNeg, Nat.reduceLT, Nat.reduceLeDiff, Nat.reduceMul, Nat.reduceSub, reduceIte, Nat.reduceEqDiff, Nat.reduceAdd, reduceCtorEq]
      refine call_fun (k_f6ints (outsA na oa 0 u) (outsA nb ob 0 u)) qCS trivial ?_
      simp only [hbef u hud hbf, decide_true, go_sem, adopt_fun, Int.reduceLT, Int.reduceLE, Int.reduceToNat, Int.reduceNeg, Nat.reduceLT, Nat.reduceLeDiff, Nat.reduceMul, Nat.reduceSub, reduceIte, Nat.reduceEqDiff, Nat.reduceAdd, reduceCtorEq]
end Go.Ab
