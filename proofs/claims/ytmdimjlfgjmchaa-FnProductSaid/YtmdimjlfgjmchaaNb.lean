/- Contracts: whether an automaton can be reset. Conditions: none. -/
import Derived.Test.YtmdimjlfgjmchaaKz
import Derived.Test.YtmdimjlfgjmchaaPk
set_option linter.all false
namespace Go.Ab
open Go.Proofs
set_option maxRecDepth 20000
set_option maxHeartbeats 2000000

theorem firstT_no : ∀ {T : TS} (k : Nat), firstT T = none → fidx smallN (T.map (·.1)) k = -1
  | [], _, _ => rfl
  | p :: T, k, h => by
    simp only [firstT, List.find?_cons] at h
    cases hs : smallN p.1 with
    | true => rw [hs] at h; cases h
    | false =>
      rw [hs] at h
      have h1 := firstT_no (T := T) (k + 1) h
      simp only [List.map_cons, fidx, hs, Bool.false_eq_true, if_false, h1]

/-- No word leads to a small set. -/
theorem k_firstN (N m : Nat) (T : TS) (hI : TI N m T) (hN : 2 ^ N ≤ 1024) (hf : firstT T = none) :
    Con Try.prog n_impl_tour_first [.row 0 1 true (intsK .u64 (setsI T)), .map 1 (keysF T) (rwn (T.map (·.2)))] [.st [.own 5000 0, .mp 5001 1], .clo n_impl_isSmall []] true
      fun outs rows res => outs = [.row 0 1 true (intsK .u64 (setsI T)), .map 1 (keysF T) (rwn (T.map (·.2)))] ∧ rows = [] ∧ res = .tup [.val (.slice none 0 0), iv 6] := by
  refine con_sh mixed c_impl_tour_first rfl (by simp) ?_
  have h1 := firstT_no 0 hf
  simp only [A_impl_tour_first, B_impl_tour_first_1, go_sem, adopt_fun, Int.reduceLT, Int.reduceLE, Int.reduceToNat, Int.reduceNeg, Nat.reduceLT, Nat.reduceLeDiff, Nat.reduceMul, Nat.reduceSub, reduceIte, Nat.reduceEqDiff, Nat.reduceAdd, reduceCtorEq]
  intro vs vs2
  refine call_fun (k_IndexFuncT T (fun p hp => by have := hI.rg p hp; omega)) qCS trivial ?_
  have hi0 : ((-1 : Int) < 0) := by omega
  simp only [h1, B_impl_tour_first_2, B_impl_tour_first_3, decide_eq_true hi0, go_sem, adopt_fun, Int.reduceLT, Int.reduceLE, Int.reduceToNat, Int.reduceNeg, Nat.reduceLT, Nat.reduceLeDiff, Nat.reduceMul, Nat.reduceSub, reduceIte, Nat.reduceEqDiff, Nat.reduceAdd, reduceCtorEq]
  refine ⟨[], by simp, by simp, by simp, ?_⟩
  simp only [List.nil_append, List.cons_append, Nat.add_zero, Nat.reduceAdd, Nat.not_lt_zero, range1, ren_val, ren_any, ren_ro, rnNm_n, rnNm_sn, rnNm_o, rnNm_s, ren_st, ren_tup, renL_nil, renL_cons, renL_intsK, renL_rws, renL_rwn, oren_box, oren_row, oren_map, ren_own_e0, ren_own_e1, ren_own_e2, ren_ptr_e0, ren_mp_e0, ren_mp_e1, ren_own_r0, ren_own_r1, ren_own_r2, ren_ptr_r0, ren_mp_r0, ren_mp_r1, List.range_zero, callHp_nil, callHp_one, callHp_two, gone_nil, gone_one, gone_two, AVal.fresh, freshL, fresh_intsK, fresh_rws, AObj.fresh, id, Option.isSome_some, or_true, true_or, go_sem, adopt_fun, Int.reduceLT, Int.reduceLE, Int.reduceToNat, Int.reduceNeg, Nat.reduceLT, Nat.reduceLeDiff, Nat.reduceMul, Nat.reduceSub, reduceIte, Nat.reduceEqDiff, Nat.reduceAdd, reduceCtorEq]

/-- What the search for the first word that resets gives. -/
def shortR (next : List (List Int)) (n : Int) : AVal := match firstT (tourT next (2 ^ n.toNat - 1)) with
  | some (_, w) => .tup [.ro none 1 (ints w), iv 0]
  | none => .tup [.val (.slice none 0 0), iv 6]

theorem k_ShortestB (n : Int) (next : List (List Int)) (A : Aut n next) :
    Con Try.prog n_impl_ShortestReset [] [autA n next] true fun outs rows res => outs = [] ∧ rows = [] ∧ res = shortR next n := by
  refine con_sh mixed c_impl_ShortestReset rfl (by simp) ?_
  have n1 := A.n1
  have n2 := A.n2
  have hv : autB n next = true := autB_iff.2 A
  have hp := Nat.two_pow_pos n.toNat
  have hN : 2 ^ n.toNat ≤ 1024 := Nat.pow_le_pow_right (n := 2) (by omega) (show n.toNat ≤ 10 by omega)
  simp only [A_impl_ShortestReset, B_impl_ShortestReset_1, go_sem, adopt_fun, Int.reduceLT, Int.reduceLE, Int.reduceToNat, Int.reduceNeg, Nat.reduceLT, Nat.reduceLeDiff, Nat.reduceMul, Nat.reduceSub, reduceIte, Nat.reduceEqDiff, Nat.reduceAdd, reduceCtorEq]
  intro vs vs2
  refine call_fun (k_Valid n next) qCS trivial ?_
  simp only [hv, B_impl_ShortestReset_2, B_impl_ShortestReset_3, go_sem, adopt_fun, Int.reduceLT, Int.reduceLE, Int.reduceToNat, Int.reduceNeg, Nat.reduceLT, Nat.reduceLeDiff, Nat.reduceMul, Nat.reduceSub, reduceIte, Nat.reduceEqDiff, Nat.reduceAdd, reduceCtorEq]
  intro vs3
  refine call_rowI (k_all n next A) qCS rfl ⟨_, rfl⟩ ?_
  rintro xs v rfl
  simp only [go_sem, adopt_fun, Int.reduceLT, Int.reduceLE, Int.reduceToNat, Int.reduceNeg, Nat.reduceLT, Nat.reduceLeDiff, Nat.reduceMul, Nat.reduceSub, reduceIte, Nat.reduceEqDiff, Nat.reduceAdd, reduceCtorEq]
  refine call_fun (k_flockOf (allS n) (fun s hs => by have := allS_in s hs; omega)) qCS trivial ?_
  rw [maskN_all ⟨n1, n2⟩]
  simp only [go_sem, adopt_fun, Int.reduceLT, Int.reduceLE, Int.reduceToNat, Int.reduceNeg, Nat.reduceLT, Nat.reduceLeDiff, Nat.reduceMul, Nat.reduceSub, reduceIte, Nat.reduceEqDiff, Nat.reduceAdd, reduceCtorEq]
  refine call_fn (k_tour n next A (2 ^ n.toNat - 1) (by omega)) qCS (fun e => by cases e) ?_
  rintro rows res ⟨v1, v2, rfl, rfl⟩
  refine ⟨by simp, by rw [Option.getD_some, gone_two]; simp only [go_sem, adopt_fun, Int.reduceLT, Int.reduceLE, Int.reduceToNat, Int.reduceNeg, Nat.reduceLT, Nat.reduceLeDiff, Nat.reduceMul, Nat.reduceSub, reduceIte, Nat.reduceEqDiff, Nat.reduceAdd, reduceCtorEq], ?_⟩
  have hT := (runT_ok A 1100 0 _ (TI0 (m := next.length) (show 2 ^ n.toNat - 1 < 2 ^ n.toNat by omega))).1
  simp only [Option.getD_some, Nat.not_lt_zero, range1, ren_val, ren_any, ren_ro, rnNm_n, rnNm_sn, rnNm_o, rnNm_s, ren_st, ren_tup, renL_nil, renL_cons, renL_intsK, renL_rws, renL_rwn, oren_box, oren_row, oren_map, ren_own_e0, ren_own_e1, ren_own_e2, ren_ptr_e0, ren_mp_e0, ren_mp_e1, ren_own_r0, ren_own_r1, ren_own_r2, ren_ptr_r0, ren_mp_r0, ren_mp_r1, List.range_zero, callHp_nil, callHp_one, callHp_two, gone_nil, gone_one, gone_two, AVal.fresh, freshL, fresh_intsK, fresh_rws, AObj.fresh, id, Option.isSome_some, or_true, true_or, go_sem, adopt_fun, Int.reduceLT, Int.reduceLE, Int.reduceToNat, Int.reduceNeg, Nat.reduceLT, Nat.reduceLeDiff, Nat.reduceMul, Nat.reduceSub, reduceIte, Nat.reduceEqDiff, Nat.reduceAdd, reduceCtorEq]
  unfold shortR
  cases hf : firstT (tourT next (2 ^ n.toNat - 1)) with
  | some p =>
    obtain ⟨f, w⟩ := p
    refine call_rm (k_first n.toNat next.length (tourT next (2 ^ n.toNat - 1)) hT hN f w hf) rfl rfl (by omega) qCS qCS qCS ?_
    simp only [Nat.not_lt_zero, range1, ren_val, ren_any, ren_ro, rnNm_n, rnNm_sn, rnNm_o, rnNm_s, ren_st, ren_tup, renL_nil, renL_cons, renL_intsK, renL_rws, renL_rwn, oren_box, oren_row, oren_map, ren_own_e0, ren_own_e1, ren_own_e2, ren_ptr_e0, ren_mp_e0, ren_mp_e1, ren_own_r0, ren_own_r1, ren_own_r2, ren_ptr_r0, ren_mp_r0, ren_mp_r1, List.range_zero, callHp_nil, callHp_one, callHp_two, gone_nil, gone_one, gone_two, AVal.fresh, freshL, fresh_intsK, fresh_rws, AObj.fresh, id, Option.isSome_some, or_true, true_or, go_sem, adopt_fun, Int.reduceLT, Int.reduceLE, Int.reduceToNat, Int.reduceNeg, Nat.reduceLT, Nat.reduceLeDiff, Nat.reduceMul, Nat.reduceSub, reduceIte, Nat.reduceEqDiff, Nat.reduceAdd, reduceCtorEq]
    exact ⟨[], by simp, by simp, by simp, rfl⟩
  | none =>
    refine call_rm (k_firstN n.toNat next.length (tourT next (2 ^ n.toNat - 1)) hT hN hf) rfl rfl (by omega) qCS qCS qCS ?_
    simp only [Nat.not_lt_zero, range1, ren_val, ren_any, ren_ro, rnNm_n, rnNm_sn, rnNm_o, rnNm_s, ren_st, ren_tup, renL_nil, renL_cons, renL_intsK, renL_rws, renL_rwn, oren_box, oren_row, oren_map, ren_own_e0, ren_own_e1, ren_own_e2, ren_ptr_e0, ren_mp_e0, ren_mp_e1, ren_own_r0, ren_own_r1, ren_own_r2, ren_ptr_r0, ren_mp_r0, ren_mp_r1, List.range_zero, callHp_nil, callHp_one, callHp_two, gone_nil, gone_one, gone_two, AVal.fresh, freshL, fresh_intsK, fresh_rws, AObj.fresh, id, Option.isSome_some, or_true, true_or, go_sem, adopt_fun, Int.reduceLT, Int.reduceLE, Int.reduceToNat, Int.reduceNeg, Nat.reduceLT, Nat.reduceLeDiff, Nat.reduceMul, Nat.reduceSub, reduceIte, Nat.reduceEqDiff, Nat.reduceAdd, reduceCtorEq]
    exact ⟨[], by simp, by simp, by simp, rfl⟩

theorem k_CanReset (n : Int) (next : List (List Int)) (A : Aut n next) :
    Fun Try.prog n_impl_CanReset [autA n next] (.tup [bv (firstT (tourT next (2 ^ n.toNat - 1))).isSome, iv 0]) := by
  refine fun_of mixed c_impl_CanReset rfl ⟨rfl, by simp [AVal.fresh, freshL]⟩ ?_
  simp only [A_impl_CanReset, B_impl_CanReset_1, go_sem, adopt_fun, Int.reduceLT, Int.reduceLE, Int.reduceToNat, Int.reduceNeg, Nat.reduceLT, Nat.reduceLeDiff, Nat.reduceMul, Nat.reduceSub, reduceIte, Nat.reduceEqDiff, Nat.reduceAdd, reduceCtorEq]
  intro vs vs2
  refine call_sh (k_ShortestB n next A) qCS (fun e => by cases e) ?_
  rintro outs rows res ⟨rfl, rfl, rfl⟩
  refine ⟨rfl, by simp, by simp, ?_⟩
  unfold shortR
  cases hf : firstT (tourT next (2 ^ n.toNat - 1)) with
  | some p =>
    obtain ⟨f, w⟩ := p
    have e1 : ((0 : Int) == 1) = false := rfl
    simp only [e1, B_impl_CanReset_2, B_impl_CanReset_3, B_impl_CanReset_4, Option.getD_some, Option.isSome_some, Nat.not_lt_zero, range1, ren_val, ren_any, ren_ro, rnNm_n, rnNm_sn, rnNm_o, rnNm_s, ren_st, ren_tup, renL_nil, renL_cons, renL_intsK, renL_rws, renL_rwn, oren_box, oren_row, oren_map, ren_own_e0, ren_own_e1, ren_own_e2, ren_ptr_e0, ren_mp_e0, ren_mp_e1, ren_own_r0, ren_own_r1, ren_own_r2, ren_ptr_r0, ren_mp_r0, ren_mp_r1, List.range_zero, callHp_nil, callHp_one, callHp_two, gone_nil, gone_one, gone_two, AVal.fresh, freshL, fresh_intsK, fresh_rws, AObj.fresh, id, Option.isSome_some, or_true, true_or, go_sem, adopt_fun, Int.reduceLT, Int.reduceLE, Int.reduceToNat, Int.reduceNeg, Nat.reduceLT, Nat.reduceLeDiff, Nat.reduceMul, Nat.reduceSub, reduceIte, Nat.reduceEqDiff, Nat.reduceAdd, reduceCtorEq]
  | none =>
    have e1 : ((6 : Int) == 1) = false := rfl
    have e2 : ((6 : Int) == 0) = false := rfl
    simp only [e1, e2, B_impl_CanReset_2, B_impl_CanReset_3, B_impl_CanReset_4, Option.getD_some, Option.isSome_none, Nat.not_lt_zero, range1, ren_val, ren_any, ren_ro, rnNm_n, rnNm_sn, rnNm_o, rnNm_s, ren_st, ren_tup, renL_nil, renL_cons, renL_intsK, renL_rws, renL_rwn, oren_box, oren_row, oren_map, ren_own_e0, ren_own_e1, ren_own_e2, ren_ptr_e0, ren_mp_e0, ren_mp_e1, ren_own_r0, ren_own_r1, ren_own_r2, ren_ptr_r0, ren_mp_r0, ren_mp_r1, List.range_zero, callHp_nil, callHp_one, callHp_two, gone_nil, gone_one, gone_two, AVal.fresh, freshL, fresh_intsK, fresh_rws, AObj.fresh, id, Option.isSome_some, or_true, true_or, go_sem, adopt_fun, Int.reduceLT, Int.reduceLE, Int.reduceToNat, Int.reduceNeg, Nat.reduceLT, Nat.reduceLeDiff, Nat.reduceMul, Nat.reduceSub, reduceIte, Nat.reduceEqDiff, Nat.reduceAdd, reduceCtorEq]
end Go.Ab
