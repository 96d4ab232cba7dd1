/- Contracts of small functions. Conditions: none. -/
import Derived.Test.YtmdimjlfgjmchaaFns
import Derived.Test.YtmdimjlfgjmchaaM7
set_option linter.all false
namespace Go.Ab
open Go.Proofs
set_option maxRecDepth 20000
set_option linter.unusedSimpArgs false

theorem k_within (n lo hi : Int) : Fun Try.prog n_impl_within [iv n, iv lo, iv hi] (bv (decide (lo ≤ n) && decide (n ≤ hi))) := by
  refine fun_of mixed c_impl_within rfl ⟨rfl, trivial⟩ ?_
  simp only [B_impl_within_1, A_impl_within, go_sem, adopt_fun, Int.reduceLT, Int.reduceLE, Int.reduceToNat, Int.reduceNeg, Nat.reduceLT, Nat.reduceLeDiff, Nat.reduceMul, Nat.reduceSub, reduceIte, Nat.reduceEqDiff, Nat.reduceAdd, reduceCtorEq]
  by_cases h : lo ≤ n <;> simp [h, dn_val]

theorem k_l00Min (a b : Int) : Fun Try.prog n_spec_l00Min [iv a, iv b] (iv (min a b)) := by
  refine fun_of mixed c_spec_l00Min rfl ⟨rfl, trivial⟩ ?_
  simp only [B_spec_l00Min_2, B_spec_l00Min_3, B_spec_l00Min_1, A_spec_l00Min, go_sem, adopt_fun, Int.reduceLT, Int.reduceLE, Int.reduceToNat, Int.reduceNeg, Nat.reduceLT, Nat.reduceLeDiff, Nat.reduceMul, Nat.reduceSub, reduceIte, Nat.reduceEqDiff, Nat.reduceAdd, reduceCtorEq]
  by_cases h : a < b
  · have : min a b = a := by omega
    simp [h, this]
  · have : min a b = b := by omega
    simp [h, this]

theorem k_size (xs : List Int) : Fun Try.prog n_impl_size_I [.ro none 1 (ints xs)] (iv xs.length) := by
  refine fun_of mixed c_impl_size_I rfl ⟨rfl, trivial⟩ ?_
  simp only [B_impl_size_I_1, A_impl_size_I, go_sem, adopt_fun, Int.reduceLT, Int.reduceLE, Int.reduceToNat, Int.reduceNeg, Nat.reduceLT, Nat.reduceLeDiff, Nat.reduceMul, Nat.reduceSub, reduceIte, Nat.reduceEqDiff, Nat.reduceAdd, reduceCtorEq]

theorem k_size1 (xss : List (List Int)) : Fun Try.prog n_impl_size_LI [.ro none 1 (rwn xss)] (iv xss.length) := by
  refine fun_of mixed c_impl_size_LI rfl ⟨rfl, trivial⟩ ?_
  simp only [B_impl_size_LI_1, A_impl_size_LI, go_sem, adopt_fun, Int.reduceLT, Int.reduceLE, Int.reduceToNat, Int.reduceNeg, Nat.reduceLT, Nat.reduceLeDiff, Nat.reduceMul, Nat.reduceSub, reduceIte, Nat.reduceEqDiff, Nat.reduceAdd, reduceCtorEq]

/-- The cells of the source of choices. -/
abbrev srcC (code : List Int) (at_ seed : Int) : List AVal := [.ro (some (some 0)) 1 (intsK .u8 code), iv at_, .val (.int .u64 seed)]

theorem u64_and255 (x : Int) : 0 ≤ IntKind.u64.wrap ((BitVec.ofInt 64 x &&& BitVec.ofInt 64 255).toNat) ∧ IntKind.u64.wrap ((BitVec.ofInt 64 x &&& BitVec.ofInt 64 255).toNat) ≤ 255 := by
  have h : (BitVec.ofInt 64 x &&& BitVec.ofInt 64 255).toNat ≤ 255 := by
    rw [BitVec.toNat_and]
    exact Nat.le_trans Nat.and_le_right (by decide)
  rw [IntWalk.u64_in _ (by omega)]
  omega

theorem k_next (code : List Int) (at_ seed : Int) (hb : ∀ x ∈ code, 0 ≤ x ∧ x ≤ 255) (ha : 0 ≤ at_ ∧ at_ ≤ 4611686018427387904) :
    FunB Try.prog n_spec_l00Src_next (srcC code at_ seed) [] (fun cs v => ∃ seed' b, cs = srcC code (at_ + 1) seed' ∧ v = .int .i64 b ∧ 0 ≤ b ∧ b ≤ 255) := by
  refine funB_of mixed c_spec_l00Src_next rfl ?_
  have hw : IntKind.i64.wrap (at_ + 1) = at_ + 1 := w64 (by omega)
  by_cases h : at_ < code.length
  · have h1 : at_.toNat < code.length := by omega
    have hm : code.getD at_.toNat 0 ∈ code := by
      rw [List.getD_eq_getElem?_getD, List.getElem?_eq_getElem h1]; exact List.getElem_mem h1
    have hb1 := hb _ hm
    have h2 : at_ + 1 ≤ code.length := by omega
    simp only [B_spec_l00Src_next_3, B_spec_l00Src_next_7, B_spec_l00Src_next_8, B_spec_l00Src_next_6, B_spec_l00Src_next_5, B_spec_l00Src_next_4, B_spec_l00Src_next_2, B_spec_l00Src_next_1, A_spec_l00Src_next, intsK_getD h1, hw, decide_eq_true h, decide_eq_true h2, go_sem, adopt_fun, Int.reduceLT, Int.reduceLE, Int.reduceToNat, Int.reduceNeg, Nat.reduceLT, Nat.reduceLeDiff, Nat.reduceMul, Nat.reduceSub, reduceIte, Nat.reduceEqDiff, Nat.reduceAdd, reduceCtorEq]
    refine ⟨⟨ha.1, h1⟩, h1, _, _, rfl, rfl, ?_, _, _, rfl, rfl, ?_⟩
    · simp [flatL, AVal.flat, flat_vals]
    · rw [w64 (by omega)]; exact hb1
  · have h2 : ¬ at_ + 1 ≤ code.length := by omega
    simp only [B_spec_l00Src_next_3, B_spec_l00Src_next_7, B_spec_l00Src_next_8, B_spec_l00Src_next_6, B_spec_l00Src_next_5, B_spec_l00Src_next_4, B_spec_l00Src_next_2, B_spec_l00Src_next_1, A_spec_l00Src_next, hw, decide_eq_false h, decide_eq_false h2, go_sem, adopt_fun, Int.reduceLT, Int.reduceLE, Int.reduceToNat, Int.reduceNeg, Nat.reduceLT, Nat.reduceLeDiff, Nat.reduceMul, Nat.reduceSub, reduceIte, Nat.reduceEqDiff, Nat.reduceAdd, reduceCtorEq]
    refine ⟨_, _, rfl, rfl, ?_, _, _, rfl, rfl, ?_⟩
    · simp [flatL, AVal.flat, flat_vals]
    · have := u64_and255 ((IntKind.u64.wrap (IntKind.u64.wrap (IntKind.u64.wrap (seed * 6364136223846793005) + IntKind.u64.wrap 0) + 1442695040888963407)).fdiv (2 ^ min 40 IntKind.u64.bits))
      rw [w64 (by show _ ≤ _ ∧ _ ≤ _; exact ⟨by have := this.1; exact Int.le_trans (by decide) this, by have := this.2; exact Int.le_trans this (by decide)⟩)]
      exact this

theorem k_pick (code : List Int) (at_ seed n : Int) (hb : ∀ x ∈ code, 0 ≤ x ∧ x ≤ 255) (ha : 0 ≤ at_ ∧ at_ ≤ 1000000000000) :
    FunB Try.prog n_spec_l00Src_pick (srcC code at_ seed) [iv n] (fun cs v => ∃ at' seed' b, cs = srcC code at' seed' ∧ at_ ≤ at' ∧ at' ≤ at_ + 2 ∧ v = .int .i64 b ∧ 0 ≤ b ∧ (b < n ∨ b = 0)) := by
  refine funB_of mixed c_spec_l00Src_pick rfl ?_
  by_cases h : n ≤ 1
  · simp only [B_spec_l00Src_pick_2, B_spec_l00Src_pick_5, B_spec_l00Src_pick_6, B_spec_l00Src_pick_4, B_spec_l00Src_pick_3, B_spec_l00Src_pick_1, A_spec_l00Src_pick, decide_eq_true h, go_sem, adopt_fun, Int.reduceLT, Int.reduceLE, Int.reduceToNat, Int.reduceNeg, Nat.reduceLT, Nat.reduceLeDiff, Nat.reduceMul, Nat.reduceSub, reduceIte, Nat.reduceEqDiff, Nat.reduceAdd, reduceCtorEq]
    exact ⟨_, _, rfl, rfl, by simp [flatL, AVal.flat, flat_vals], _, _, _, rfl, by omega, by omega, rfl, by omega, .inr rfl⟩
  · simp only [B_spec_l00Src_pick_2, B_spec_l00Src_pick_5, B_spec_l00Src_pick_6, B_spec_l00Src_pick_4, B_spec_l00Src_pick_3, B_spec_l00Src_pick_1, A_spec_l00Src_pick, decide_eq_false h, go_sem, adopt_fun, Int.reduceLT, Int.reduceLE, Int.reduceToNat, Int.reduceNeg, Nat.reduceLT, Nat.reduceLeDiff, Nat.reduceMul, Nat.reduceSub, reduceIte, Nat.reduceEqDiff, Nat.reduceAdd, reduceCtorEq]
    intro vs
    refine call_funB (k_next code at_ seed hb (by omega)) rfl qCS qCS ?_
    rintro cs' x ⟨s', b, rfl, rfl, hb1⟩
    have ht : ∀ y : Int, 0 ≤ y → y ≤ 100000 → 0 ≤ y.tmod n ∧ (y.tmod n < n ∨ y.tmod n = 0) := fun y h1 h2 => ⟨Int.tmod_nonneg _ h1, .inl (Int.tmod_lt_of_pos _ (by omega))⟩
    have hn : ¬ n = 0 := by omega
    by_cases h2 : n > 200
    · simp only [decide_eq_true h2, go_sem, adopt_fun, Int.reduceLT, Int.reduceLE, Int.reduceToNat, Int.reduceNeg, Nat.reduceLT, Nat.reduceLeDiff, Nat.reduceMul, Nat.reduceSub, reduceIte, Nat.reduceEqDiff, Nat.reduceAdd, reduceCtorEq]
      intro vs2
      refine call_funB (k_next code (at_ + 1) s' hb (by omega)) rfl qCS qCS ?_
      rintro cs' x ⟨s'', c, rfl, rfl, hc1⟩
      simp only [hn, w64 (show -9223372036854775808 ≤ b * 256 ∧ b * 256 ≤ 9223372036854775807 by omega), w64 (show -9223372036854775808 ≤ b * 256 + c ∧ b * 256 + c ≤ 9223372036854775807 by omega), go_sem, adopt_fun, Int.reduceLT, Int.reduceLE, Int.reduceToNat, Int.reduceNeg, Nat.reduceLT, Nat.reduceLeDiff, Nat.reduceMul, Nat.reduceSub, reduceIte, Nat.reduceEqDiff, Nat.reduceAdd, reduceCtorEq]
      exact ⟨_, _, rfl, rfl, by simp [flatL, AVal.flat, flat_vals], _, _, _, rfl, by omega, by omega, rfl, ht _ (by omega) (by omega)⟩
    · simp only [decide_eq_false h2, hn, go_sem, adopt_fun, Int.reduceLT, Int.reduceLE, Int.reduceToNat, Int.reduceNeg, Nat.reduceLT, Nat.reduceLeDiff, Nat.reduceMul, Nat.reduceSub, reduceIte, Nat.reduceEqDiff, Nat.reduceAdd, reduceCtorEq]
      exact ⟨_, _, rfl, rfl, by simp [flatL, AVal.flat, flat_vals], _, _, _, rfl, by omega, by omega, rfl, ht _ (by omega) (by omega)⟩

theorem k_one (code : List Int) (at_ seed n : Int) (hb : ∀ x ∈ code, 0 ≤ x ∧ x ≤ 255) (ha : 0 ≤ at_ ∧ at_ ≤ 1000000000000) :
    FunB Try.prog n_spec_l00Src_one (srcC code at_ seed) [iv n] (fun cs v => ∃ at' seed' b, cs = srcC code at' seed' ∧ at_ ≤ at' ∧ at' ≤ at_ + 2 ∧ v = .bool b) := by
  refine funB_of mixed c_spec_l00Src_one rfl ?_
  simp only [B_spec_l00Src_one_1, A_spec_l00Src_one, go_sem, adopt_fun, Int.reduceLT, Int.reduceLE, Int.reduceToNat, Int.reduceNeg, Nat.reduceLT, Nat.reduceLeDiff, Nat.reduceMul, Nat.reduceSub, reduceIte, Nat.reduceEqDiff, Nat.reduceAdd, reduceCtorEq]
  intro vs
  refine call_funB (k_pick code at_ seed n hb ha) rfl qCS qCS ?_
  rintro cs' x ⟨a', s', b, rfl, h1, h2, rfl, _⟩
  simp only [go_sem, adopt_fun, Int.reduceLT, Int.reduceLE, Int.reduceToNat, Int.reduceNeg, Nat.reduceLT, Nat.reduceLeDiff, Nat.reduceMul, Nat.reduceSub, reduceIte, Nat.reduceEqDiff, Nat.reduceAdd, reduceCtorEq]
  exact ⟨_, _, rfl, rfl, by simp [flatL, AVal.flat, flat_vals], _, _, _, rfl, h1, h2, rfl⟩

/-- The source of choices, made. -/
theorem k_from (code : List Int) : Con Try.prog n_spec_l00From [] [.ro (some (some 0)) 1 (intsK .u8 code)] true fun outs rows res => outs = [] ∧ ∃ v, rows = [.box v (srcC code 0 0)] ∧ res = .ptr 6000 v 0 := by
  refine con_sh mixed c_spec_l00From rfl (by simp) ?_
  simp only [B_spec_l00From_1, A_spec_l00From, go_sem, adopt_fun, Int.reduceLT, Int.reduceLE, Int.reduceToNat, Int.reduceNeg, Nat.reduceLT, Nat.reduceLeDiff, Nat.reduceMul, Nat.reduceSub, reduceIte, Nat.reduceEqDiff, Nat.reduceAdd, reduceCtorEq]
  intro vs
  refine ⟨[5], by simp, by simp, by simp, ?_⟩
  simp only [go_sem, adopt_fun, Int.reduceLT, Int.reduceLE, Int.reduceToNat, Int.reduceNeg, Nat.reduceLT, Nat.reduceLeDiff, Nat.reduceMul, Nat.reduceSub, reduceIte, Nat.reduceEqDiff, Nat.reduceAdd, reduceCtorEq, Nat.not_lt_zero, range1, ren_val, ren_any, ren_ro, rnNm_n, rnNm_sn, rnNm_o, rnNm_s, ren_st, ren_tup, renL_nil, renL_cons, renL_intsK, renL_rws, renL_rwn, oren_box, oren_row, oren_map, ren_own_e0, ren_own_e1, ren_own_e2, ren_ptr_e0, ren_mp_e0, ren_mp_e1, ren_own_r0, ren_own_r1, ren_own_r2, ren_ptr_r0, ren_mp_r0, ren_mp_r1, List.range_zero, callHp_nil, callHp_one, callHp_two, gone_nil, gone_one, gone_two, AVal.fresh, freshL, fresh_intsK, fresh_rws, AObj.fresh, id, Option.isSome_some, or_true, true_or]
  exact ⟨_, rfl, rfl⟩
end Go.Ab
