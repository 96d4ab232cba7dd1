/- The law FnReduced: its contract. Conditions: none. -/
import Derived.Test.YtaicnehaodkikaaMs
import Derived.Test.YtaicnehaodkikaaMu
set_option linter.all false
namespace Go.Ab
open Go.Proofs
set_option maxRecDepth 20000
set_option maxHeartbeats 4000000

theorem apart_eq {n n' : Int} {na nb oa ob : List (List Int)} (T : Two n n' na nb) (h : ∀ w, isWd na.length w → outsA na oa 0 w = outsA nb ob 0 w) : apartQ na nb oa ob 0 0 = none := by
  cases ha : apartQ na nb oa ob 0 0 with
  | none => rfl
  | some w => exact absurd (h w (apart_some T ha).1) (apart_some T ha).2.2.1

theorem reI {n o : Int} {next out : List (List Int)} (M : Mach n o next out) : Fn Try.prog n_impl_ReduceMachine [machA n o next out] (MachSC ((clsP next out n.toNat).1 : Int) o (redN next out n.toNat) (redU next out n.toNat)) :=
  (k_implReduceMachine n o next out).dn (machB_iff.2 M) (by rw [if_pos (machB_iff.2 M)])
theorem reJ {n o : Int} {next out : List (List Int)} (M : Mach n o next out) : Fn Try.prog n_spec_ReduceMachine [machA n o next out] (MachSC ((clsP next out n.toNat).1 : Int) o (redN next out n.toNat) (redU next out n.toNat)) :=
  (k_specReduceMachine n o next out).dn (machB_iff.2 M) (by rw [if_pos (machB_iff.2 M)])
theorem reTwice {n o : Int} {next out : List (List Int)} (M : Mach n o next out) : Fn Try.prog n_impl_ReduceMachine [machA ((clsP next out n.toNat).1 : Int) o (redN next out n.toNat) (redU next out n.toNat)] (MachSC ((clsP next out n.toNat).1 : Int) o (redN next out n.toNat) (redU next out n.toNat)) := by
  have h := reI (red_mach M)
  obtain ⟨e1, e2, e3⟩ := sharp_red (red_mach M) (red_sharp M)
  rwa [e1, e2, e3, Int.toNat_natCast] at h
theorem trI {n o : Int} {next out : List (List Int)} (M : Mach n o next out) : Fn Try.prog n_impl_TrimMachine [machA n o next out] (MachSC ((covP next).length : Int) o (trmN next n.toNat) (trmU next out)) :=
  (k_implTrimMachine n o next out).dn (machB_iff.2 M) (by rw [if_pos (machB_iff.2 M)])
theorem trJ {n o : Int} {next out : List (List Int)} (M : Mach n o next out) : Fn Try.prog n_spec_TrimMachine [machA n o next out] (MachSC ((covP next).length : Int) o (trmN next n.toNat) (trmU next out)) :=
  (k_specTrimMachine n o next out).dn (machB_iff.2 M) (by rw [if_pos (machB_iff.2 M)])
theorem trTwice {n o : Int} {next out : List (List Int)} (M : Mach n o next out) : Fn Try.prog n_impl_TrimMachine [machA ((covP next).length : Int) o (trmN next n.toNat) (trmU next out)] (MachSC ((covP next).length : Int) o (trmN next n.toNat) (trmU next out)) := by
  have h := trI (trm_mach M)
  obtain ⟨e1, e2, e3⟩ := trm_twice M
  rwa [Int.toNat_natCast, e1, e2, e3] at h

theorem same_self (n o : Int) (x y : List (List Int)) : Fun Try.prog n_spec_SameMachine [machA n o x y, machA n o x y] (bv true) := by
  have h := k_SameMachine n n o o x y x y
  simpa only [decide_true, Bool.and_true] using h

theorem k_FnReduced (code more : List Int) (hb : ∀ x ∈ code, 0 ≤ x ∧ x ≤ 255) (hb2 : ∀ x ∈ more, 0 ≤ x ∧ x ≤ 255) :
    Fun Try.prog n_laws_FnReduced [.ro (some (some 0)) 1 (intsK .u8 code), .ro (some (some 0)) 1 (intsK .u8 more)] (bv true) := by
  refine fun_of mixed c_laws_FnReduced rfl ⟨rfl, trivial⟩ ?_
  simp only [A_laws_FnReduced, B_laws_FnReduced_1, go_sem, adopt_fun, Int.reduceLT, Int.reduceLE, Int.reduceToNat, Int.reduceNeg, Nat.reduceLT, Nat.reduceLeDiff, Nat.reduceMul, Nat.reduceSub, reduceIte, Nat.reduceEqDiff, Nat.reduceAdd, reduceCtorEq]
  intro vs
  refine call_fun (k_f6big code) qCS trivial ?_
  by_cases h1 : (code.length : Int) > 4096
  · simp only [decide_eq_true h1, B_laws_FnReduced_2, go_sem, adopt_fun, Int.reduceLT, Int.reduceLE, Int.reduceToNat, Int.reduceNeg, Nat.reduceLT, Nat.reduceLeDiff, Nat.reduceMul, Nat.reduceSub, reduceIte, Nat.reduceEqDiff, Nat.reduceAdd, reduceCtorEq]
  simp only [decide_eq_false h1, go_sem, adopt_fun, Int.reduceLT, Int.reduceLE, Int.reduceToNat, Int.reduceNeg, Nat.reduceLT, Nat.reduceLeDiff, Nat.reduceMul, Nat.reduceSub, reduceIte, Nat.reduceEqDiff, Nat.reduceAdd, reduceCtorEq]
  refine call_fun (k_f6big more) qCS trivial ?_
  by_cases h2 : (more.length : Int) > 4096
  · simp only [decide_eq_true h2, B_laws_FnReduced_2, go_sem, adopt_fun, Int.reduceLT, Int.reduceLE, Int.reduceToNat, Int.reduceNeg, Nat.reduceLT, Nat.reduceLeDiff, Nat.reduceMul, Nat.reduceSub, reduceIte, Nat.reduceEqDiff, Nat.reduceAdd, reduceCtorEq]
  simp only [decide_eq_false h2, B_laws_FnReduced_2, B_laws_FnReduced_3, go_sem, adopt_fun, Int.reduceLT, Int.reduceLE, Int.reduceToNat, Int.reduceNeg, Nat.reduceLT, Nat.reduceLeDiff, Nat.reduceMul, Nat.reduceSub, reduceIte, Nat.reduceEqDiff, Nat.reduceAdd, reduceCtorEq]
  intro vs2
  refine call_sh (k_P6Machine code hb) qCS (fun e => by cases e) ?_
  rintro outs rows res ⟨rfl, n, o, next, out, v, w, M, hn5, rfl, rfl⟩
  refine ⟨rfl, by simp, by rw [Option.getD_some, gone_two]; exact ⟨rfl, rfl⟩, ?_⟩
  have n1 := M.aut.n1
  have l1 := M.aut.l1
  have l2 := M.aut.l2
  have hv : machB n o next out = true := machB_iff.2 M
  have hE : (numP next out n.toNat).2 = (clsP next out n.toNat).2 := (numP_cls (out := out) M.aut n.toNat (Nat.le_refl _)).1
  simp only [B_laws_FnReduced_4, Nat.not_lt_zero, range1, ren_val, ren_any, ren_ro, rnNm_n, rnNm_sn, rnNm_o, rnNm_s, ren_st, ren_tup, renL_nil, renL_cons, renL_intsK, renL_rws, renL_rwn, oren_box, oren_row, oren_map, ren_own_e0, ren_own_e1, ren_own_e2, ren_ptr_e0, ren_mp_e0, ren_mp_e1, ren_own_r0, ren_own_r1, ren_own_r2, ren_ptr_r0, ren_mp_r0, ren_mp_r1, List.range_zero, callHp_nil, callHp_one, callHp_two, gone_nil, gone_one, gone_two, AVal.fresh, freshL, fresh_intsK, fresh_rws, AObj.fresh, id, Option.isSome_some, or_true, true_or, go_sem, adopt_fun, Int.reduceLT, Int.reduceLE, Int.reduceToNat, Int.reduceNeg, Nat.reduceLT, Nat.reduceLeDiff, Nat.reduceMul, Nat.reduceSub, reduceIte, Nat.reduceEqDiff, Nat.reduceAdd, reduceCtorEq]
  intro vs3
  refine call_machC (reI M) qCS qGN qGN ?_
  intro w1 w2
  simp only [B_laws_FnReduced_5, go_sem, adopt_fun, Int.reduceLT, Int.reduceLE, Int.reduceToNat, Int.reduceNeg, Nat.reduceLT, Nat.reduceLeDiff, Nat.reduceMul, Nat.reduceSub, reduceIte, Nat.reduceEqDiff, Nat.reduceAdd, reduceCtorEq]
  intro vs4
  refine call_machC (reJ M) qCS qGN qGN ?_
  intro w3 w4
  simp only [B_laws_FnReduced_6, go_sem, adopt_fun, Int.reduceLT, Int.reduceLE, Int.reduceToNat, Int.reduceNeg, Nat.reduceLT, Nat.reduceLeDiff, Nat.reduceMul, Nat.reduceSub, reduceIte, Nat.reduceEqDiff, Nat.reduceAdd, reduceCtorEq]
  intro vs5
  refine call_rowC2 (k_specEquivalentStates n o next out) qCS qGN ?_
  intro z1
  simp only [hv, if_true, B_laws_FnReduced_7, bne_self_eq_false, go_sem, adopt_fun, Int.reduceLT, Int.reduceLE, Int.reduceToNat, Int.reduceNeg, Nat.reduceLT, Nat.reduceLeDiff, Nat.reduceMul, Nat.reduceSub, reduceIte, Nat.reduceEqDiff, Nat.reduceAdd, reduceCtorEq]
  intro vs6
  refine call_fun (same_self (clsP next out n.toNat).1 o (redN next out n.toNat) (redU next out n.toNat)) qCS trivial ?_
  simp only [Bool.not_true, B_laws_FnReduced_8, B_laws_FnReduced_9, go_sem, adopt_fun, Int.reduceLT, Int.reduceLE, Int.reduceToNat, Int.reduceNeg, Nat.reduceLT, Nat.reduceLeDiff, Nat.reduceMul, Nat.reduceSub, reduceIte, Nat.reduceEqDiff, Nat.reduceAdd, reduceCtorEq]
  intro vs7
  refine call_machC (reTwice M) qCS qGN qGN ?_
  intro w5 w6
  simp only [B_laws_FnReduced_10, go_sem, adopt_fun, Int.reduceLT, Int.reduceLE, Int.reduceToNat, Int.reduceNeg, Nat.reduceLT, Nat.reduceLeDiff, Nat.reduceMul, Nat.reduceSub, reduceIte, Nat.reduceEqDiff, Nat.reduceAdd, reduceCtorEq]
  intro vs8
  refine call_funE (k_P6Pick more n hb2) qCS ⟨_, 0, rfl, by omega, by omega⟩ ?_
  rintro _ ⟨s, rfl, hs1, hs20⟩
  have hs2 : s < n := by omega
  simp only [B_laws_FnReduced_11, go_sem, adopt_fun, Int.reduceLT, Int.reduceLE, Int.reduceToNat, Int.reduceNeg, Nat.reduceLT, Nat.reduceLeDiff, Nat.reduceMul, Nat.reduceSub, reduceIte, Nat.reduceEqDiff, Nat.reduceAdd, reduceCtorEq]
  intro vs9 hMl
  refine call_rowI (k_P6Word more next.length 8 hb2 (by omega) (by omega)) qCS qGN ⟨[], by simp [IsW6]⟩ ?_
  rintro u u1 hu
  have hud : isWd next.length u := hu.2
  have hu8 : u.length ≤ 400 := by have := hu.1; omega
  simp only [B_laws_FnReduced_12, go_sem, adopt_fun, Int.reduceLT, Int.reduceLE, Int.reduceToNat, Int.reduceNeg, Nat.reduceLT, Nat.reduceLeDiff, Nat.reduceMul, Nat.reduceSub, reduceIte, Nat.reduceEqDiff, Nat.reduceAdd, reduceCtorEq]
  intro vs10
  refine call_fn (k_implOutputsOf n o next out M s ⟨hs1, hs2⟩ u hud hu8) qCS (fun e => by cases e) ?_
  rintro rows res ⟨y1, rfl, rfl⟩
  refine ⟨by simp, by simp only [Option.getD_some, gone_one]; rfl, ?_⟩
  have hsl : s.toNat < (clsP next out n.toNat).2.length := by have := (clsP_len next out n.toNat).1; omega
  have hcs := (clsP_len next out n.toNat).2.2 _ (getD_mem hsl 0)
  have hud2 : isWd (redN next out n.toNat).length u := by rw [List.length_map]; exact hud
  obtain ⟨r1, r2, r3, r4⟩ := red_outs M hud (s := s) ⟨hs1, hs2⟩
  have hal : (atA next s u).toNat < (clsP next out n.toNat).2.length := by have := (clsP_len next out n.toNat).1; omega
  have hlt0 : ¬ atA next s u < 0 := by omega
  have hge : ¬ atA next s u ≥ n := by omega
  simp only [Option.getD_some, List.length_singleton, B_laws_FnReduced_13, intsK_getD hsl, Nat.not_lt_zero, range1, ren_val, ren_any, ren_ro, rnNm_n, rnNm_sn, rnNm_o, rnNm_s, ren_st, ren_tup, renL_nil, renL_cons, renL_intsK, renL_rws, renL_rwn, oren_box, oren_row, oren_map, ren_own_e0, ren_own_e1, ren_own_e2, ren_ptr_e0, ren_mp_e0, ren_mp_e1, ren_own_r0, ren_own_r1, ren_own_r2, ren_ptr_r0, ren_mp_r0, ren_mp_r1, List.range_zero, callHp_nil, callHp_one, callHp_two, gone_nil, gone_one, gone_two, AVal.fresh, freshL, fresh_intsK, fresh_rws, AObj.fresh, id, Option.isSome_some, or_true, true_or, go_sem, adopt_fun, Int.reduceLT, Int.reduceLE, Int.reduceToNat, Int.reduceNeg, Nat.reduceLT, Nat.reduceLeDiff, Nat.reduceMul, Nat.reduceSub, reduceIte, Nat.reduceEqDiff, Nat.reduceAdd, reduceCtorEq]
  intro vs11
  refine ⟨⟨hs1, hsl⟩, hsl, ?_⟩
  refine call_fn (k_implOutputsOf (clsP next out n.toNat).1 o (redN next out n.toNat) (redU next out n.toNat) (red_mach M) ((clsP next out n.toNat).2.getD s.toNat 0) hcs u hud2 hu8) qCS (fun e => by cases e) ?_
  rintro rows res ⟨y2, rfl, rfl⟩
  refine ⟨by simp, by simp only [Option.getD_some, gone_one]; rfl, ?_⟩
  simp only [Option.getD_some, List.length_singleton, B_laws_FnReduced_14, r1, r2, bne_self_eq_false, Nat.not_lt_zero, range1, ren_val, ren_any, ren_ro, rnNm_n, rnNm_sn, rnNm_o, rnNm_s, ren_st, ren_tup, renL_nil, renL_cons, renL_intsK, renL_rws, renL_rwn, oren_box, oren_row, oren_map, ren_own_e0, ren_own_e1, ren_own_e2, ren_ptr_e0, ren_mp_e0, ren_mp_e1, ren_own_r0, ren_own_r1, ren_own_r2, ren_ptr_r0, ren_mp_r0, ren_mp_r1, List.range_zero, callHp_nil, callHp_one, callHp_two, gone_nil, gone_one, gone_two, AVal.fresh, freshL, fresh_intsK, fresh_rws, AObj.fresh, id, Option.isSome_some, or_true, true_or, go_sem, adopt_fun, Int.reduceLT, Int.reduceLE, Int.reduceToNat, Int.reduceNeg, Nat.reduceLT, Nat.reduceLeDiff, Nat.reduceMul, Nat.reduceSub, reduceIte, Nat.reduceEqDiff, Nat.reduceAdd, reduceCtorEq]
  intro vs12
  refine call_fun (same_self (clsP next out n.toNat).1 o (redN next out n.toNat) (redU next out n.toNat)) qCS trivial ?_
  simp only [Bool.not_true, go_sem, adopt_fun, Int.reduceLT, Int.reduceLE, Int.reduceToNat, Int.reduceNeg, Nat.reduceLT, Nat.reduceLeDiff, Nat.reduceMul, Nat.reduceSub, reduceIte, Nat.reduceEqDiff, Nat.reduceAdd, reduceCtorEq]
  refine call_fun (k_f6ints (outsA next out s u) (outsA next out s u)) qCS trivial ?_
  simp only [decide_true, Bool.not_true, decide_eq_false hlt0, decide_eq_false hge, intsK_getD hal, bne_self_eq_false, go_sem, adopt_fun, Int.reduceLT, Int.reduceLE, Int.reduceToNat, Int.reduceNeg, Nat.reduceLT, Nat.reduceLeDiff, Nat.reduceMul, Nat.reduceSub, reduceIte, Nat.reduceEqDiff, Nat.reduceAdd, reduceCtorEq]
  refine ⟨⟨r3, hal⟩, hal, ?_⟩
  simp only [B_laws_FnReduced_15, B_laws_FnReduced_16, go_sem, adopt_fun, Int.reduceLT, Int.reduceLE, Int.reduceToNat, Int.reduceNeg, Nat.reduceLT, Nat.reduceLeDiff, Nat.reduceMul, Nat.reduceSub, reduceIte, Nat.reduceEqDiff, Nat.reduceAdd, reduceCtorEq]
  intro vs13
  refine call_machC (trI M) qCS qGN qGN ?_
  intro w7 w8
  simp only [B_laws_FnReduced_17, go_sem, adopt_fun, Int.reduceLT, Int.reduceLE, Int.reduceToNat, Int.reduceNeg, Nat.reduceLT, Nat.reduceLeDiff, Nat.reduceMul, Nat.reduceSub, reduceIte, Nat.reduceEqDiff, Nat.reduceAdd, reduceCtorEq]
  intro vs14
  refine call_machC (trJ M) qCS qGN qGN ?_
  intro w9 w10
  simp only [B_laws_FnReduced_18, bne_self_eq_false, go_sem, adopt_fun, Int.reduceLT, Int.reduceLE, Int.reduceToNat, Int.reduceNeg, Nat.reduceLT, Nat.reduceLeDiff, Nat.reduceMul, Nat.reduceSub, reduceIte, Nat.reduceEqDiff, Nat.reduceAdd, reduceCtorEq]
  intro vs15
  refine call_fun (same_self (covP next).length o (trmN next n.toNat) (trmU next out)) qCS trivial ?_
  simp only [Bool.not_true, B_laws_FnReduced_19, B_laws_FnReduced_20, go_sem, adopt_fun, Int.reduceLT, Int.reduceLE, Int.reduceToNat, Int.reduceNeg, Nat.reduceLT, Nat.reduceLeDiff, Nat.reduceMul, Nat.reduceSub, reduceIte, Nat.reduceEqDiff, Nat.reduceAdd, reduceCtorEq]
  intro vs16
  have T1 : Two n ((covP next).length : Int) next (trmN next n.toNat) := ⟨M.aut, (trm_mach M).aut, List.length_map ..⟩
  have hK := k_MachineDifference n (covP next).length o next (trmN next n.toNat) out (trmU next out) M (trm_mach M) (List.length_map ..)
  rw [apart_eq T1 fun w hw => (trm_outs M hw).symm] at hK
  refine call_fn hK qCS (fun e => by cases e) ?_
  rintro rows res ⟨rfl, rfl⟩
  refine ⟨by simp, by simp, ?_⟩
  simp only [B_laws_FnReduced_21, Nat.not_lt_zero, range1, ren_val, ren_any, ren_ro, rnNm_n, rnNm_sn, rnNm_o, rnNm_s, ren_st, ren_tup, renL_nil, renL_cons, renL_intsK, renL_rws, renL_rwn, oren_box, oren_row, oren_map, ren_own_e0, ren_own_e1, ren_own_e2, ren_ptr_e0, ren_mp_e0, ren_mp_e1, ren_own_r0, ren_own_r1, ren_own_r2, ren_ptr_r0, ren_mp_r0, ren_mp_r1, List.range_zero, callHp_nil, callHp_one, callHp_two, gone_nil, gone_one, gone_two, AVal.fresh, freshL, fresh_intsK, fresh_rws, AObj.fresh, id, Option.isSome_some, or_true, true_or, go_sem, adopt_fun, Int.reduceLT, Int.reduceLE, Int.reduceToNat, Int.reduceNeg, Nat.reduceLT, Nat.reduceLeDiff, Nat.reduceMul, Nat.reduceSub, reduceIte, Nat.reduceEqDiff, Nat.reduceAdd, reduceCtorEq]
  intro vs17
  have hl2 : next.length = (redN next out n.toNat).length := (List.length_map ..).symm
  have T2 : Two ((clsP next out n.toNat).1 : Int) n (redN next out n.toNat) next := ⟨(red_mach M).aut, M.aut, hl2⟩
  have hK2 := k_MachineDifference (clsP next out n.toNat).1 n o (redN next out n.toNat) next (redU next out n.toNat) out (red_mach M) M hl2
  rw [apart_eq T2 fun w hw => by
    have := (red_outs M (w := w) (s := 0) (by rw [hl2]; exact hw) ⟨by omega, by omega⟩).1
    simp only [Int.toNat_zero] at this
    rw [cls_zero (by omega)] at this
    exact this] at hK2
  refine call_fn hK2 qCS (fun e => by cases e) ?_
  rintro rows res ⟨rfl, rfl⟩
  refine ⟨by simp, by simp, ?_⟩
  simp only [B_laws_FnReduced_22, Nat.not_lt_zero, range1, ren_val, ren_any, ren_ro, rnNm_n, rnNm_sn, rnNm_o, rnNm_s, ren_st, ren_tup, renL_nil, renL_cons, renL_intsK, renL_rws, renL_rwn, oren_box, oren_row, oren_map, ren_own_e0, ren_own_e1, ren_own_e2, ren_ptr_e0, ren_mp_e0, ren_mp_e1, ren_own_r0, ren_own_r1, ren_own_r2, ren_ptr_r0, ren_mp_r0, ren_mp_r1, List.range_zero, callHp_nil, callHp_one, callHp_two, gone_nil, gone_one, gone_two, AVal.fresh, freshL, fresh_intsK, fresh_rws, AObj.fresh, id, Option.isSome_some, or_true, true_or, go_sem, adopt_fun, Int.reduceLT, Int.reduceLE, Int.reduceToNat, Int.reduceNeg, Nat.reduceLT, Nat.reduceLeDiff, Nat.reduceMul, Nat.reduceSub, reduceIte, Nat.reduceEqDiff, Nat.reduceAdd, reduceCtorEq]
  intro vs18
  refine call_machC (trTwice M) qCS qGN qGN ?_
  intro w11 w12
  simp only [B_laws_FnReduced_23, beq_self_eq_true, go_sem, adopt_fun, Int.reduceLT, Int.reduceLE, Int.reduceToNat, Int.reduceNeg, Nat.reduceLT, Nat.reduceLeDiff, Nat.reduceMul, Nat.reduceSub, reduceIte, Nat.reduceEqDiff, Nat.reduceAdd, reduceCtorEq]
  intro vs19
  refine call_fun (same_self (covP next).length o (trmN next n.toNat) (trmU next out)) qCS trivial ?_
  simp only [go_sem, adopt_fun, Int.reduceLT, Int.reduceLE, Int.reduceToNat, Int.reduceNeg, Nat.reduceLT, Nat.reduceLeDiff, Nat.reduceMul, Nat.reduceSub, reduceIte, Nat.reduceEqDiff, Nat.reduceAdd, reduceCtorEq]
end Go.Ab
