/- Contracts of small functions. Conditions: none. -/
import Derived.Test.YtcijodimbjapeaaFns
import Derived.Test.YtcijodimbjapeaaAb34
set_option linter.all false
namespace Go.Ab
open Go.Proofs
set_option maxRecDepth 20000
set_option linter.unusedSimpArgs false

theorem k_l00In (n lo hi : Int) : Fun Try.prog n_spec_l00In [iv n, iv lo, iv hi] (bv (decide (lo ≤ n) && decide (n ≤ hi))) := by
  refine fun_of mixed c_spec_l00In rfl ⟨rfl, trivial⟩ ?_
  simp only [B_spec_l00In_1, A_spec_l00In, go_sem, adopt_fun, Int.reduceLT, Int.reduceLE, Int.reduceToNat, Int.reduceNeg, Nat.reduceLT, Nat.reduceLeDiff, Nat.reduceMul, Nat.reduceSub, reduceIte, Nat.reduceEqDiff, Nat.reduceAdd, reduceCtorEq]
  by_cases h : lo ≤ n <;> simp [h, dn_val]

theorem k_within (n lo hi : Int) : Fun Try.prog n_impl_within [iv n, iv lo, iv hi] (bv (decide (lo ≤ n) && decide (n ≤ hi))) := by
  refine fun_of mixed c_impl_within rfl ⟨rfl, trivial⟩ ?_
  simp only [B_impl_within_1, A_impl_within, go_sem, adopt_fun, Int.reduceLT, Int.reduceLE, Int.reduceToNat, Int.reduceNeg, Nat.reduceLT, Nat.reduceLeDiff, Nat.reduceMul, Nat.reduceSub, reduceIte, Nat.reduceEqDiff, Nat.reduceAdd, reduceCtorEq]
  by_cases h : lo ≤ n <;> simp [h, dn_val]

theorem k_size (xs : List Int) : Fun Try.prog n_impl_size_I [.ro none 1 (ints xs)] (iv xs.length) := by
  refine fun_of mixed c_impl_size_I rfl ⟨rfl, trivial⟩ ?_
  simp only [B_impl_size_I_1, A_impl_size_I, go_sem, adopt_fun, Int.reduceLT, Int.reduceLE, Int.reduceToNat, Int.reduceNeg, Nat.reduceLT, Nat.reduceLeDiff, Nat.reduceMul, Nat.reduceSub, reduceIte, Nat.reduceEqDiff, Nat.reduceAdd, reduceCtorEq]

theorem k_size1 (xss : List (List Int)) : Fun Try.prog n_impl_size_LI [.ro none 1 (rwn xss)] (iv xss.length) := by
  refine fun_of mixed c_impl_size_LI rfl ⟨rfl, trivial⟩ ?_
  simp only [B_impl_size_LI_1, A_impl_size_LI, go_sem, adopt_fun, Int.reduceLT, Int.reduceLE, Int.reduceToNat, Int.reduceNeg, Nat.reduceLT, Nat.reduceLeDiff, Nat.reduceMul, Nat.reduceSub, reduceIte, Nat.reduceEqDiff, Nat.reduceAdd, reduceCtorEq]

/-- The cells of the source of choices. -/
abbrev srcC (code : List Int) (at_ seed : Int) : List AVal := [.ro (some (some 0)) 1 (intsK .u8 code), iv at_, .val (.int .u64 seed)]

theorem u64_and255 (x : Int) : 0 ≤ IntKind.u64.wrap ((BitVec.ofInt 64 x &&& BitVec.ofInt 64 255).toNat) ∧ IntKind.u64.wrap ((BitVec.ofInt 64 x &&& BitVec.ofInt 64 255).toNat) ≤ 255 := by
  have h : (BitVec.ofInt 64 x &&& BitVec.ofInt 64 255).toNat ≤ 255 := by
    rw [BitVec.toNat_and]
    exact Nat.le_trans Nat.and_le_right (by decide)
  rw [IntWalk.u64_in _ (by omega)]
  omega

end Go.Ab
