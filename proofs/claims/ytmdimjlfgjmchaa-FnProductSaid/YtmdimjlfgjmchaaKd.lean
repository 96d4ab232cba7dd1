/- Contracts: small functions of the reference, the program and the laws. Conditions: none. -/
import Derived.Test.YtmdimjlfgjmchaaKc
set_option linter.all false
namespace Go.Ab
open Go.Proofs
set_option maxRecDepth 20000
set_option linter.unusedSimpArgs false

/-- All states. -/
def allS (n : Int) : List Int := (List.range n.toNat).map fun (s : Nat) => (s : Int)

theorem k_l00Own (xs : List Int) (h : xs.length * 8 ≤ 140737488355328) : RowI Try.prog n_spec_l00Own [.ro none 1 (ints xs)] (fun ys => ys = xs) := by
  refine rowI_of mixed c_spec_l00Own rfl ?_
  simp only [B_spec_l00Own_1, A_spec_l00Own, go_sem, adopt_fun, Int.reduceLT, Int.reduceLE, Int.reduceToNat, Int.reduceNeg, Nat.reduceLT, Nat.reduceLeDiff, Nat.reduceMul, Nat.reduceSub, reduceIte, Nat.reduceEqDiff, Nat.reduceAdd, reduceCtorEq]
  intro vs
  exact ⟨by simpa using h, _, _, xs, by omega, rfl, by simp only [go_sem, adopt_fun, Int.reduceLT, Int.reduceLE, Int.reduceToNat, Int.reduceNeg, Nat.reduceLT, Nat.reduceLeDiff, Nat.reduceMul, Nat.reduceSub, reduceIte, Nat.reduceEqDiff, Nat.reduceAdd, reduceCtorEq], rfl⟩

theorem k_Clone (xs : List Int) (h : xs.length * 8 ≤ 140737488355328) : RowI Try.prog n_slices_Clone_LI [.ro (argN xs) 1 (ints xs)] (fun ys => ys = xs) := by
  refine rowI_of mixed c_slices_Clone_LI rfl ?_
  simp only [B_slices_Clone_LI_2, B_slices_Clone_LI_3, B_slices_Clone_LI_1, A_slices_Clone_LI, go_sem, adopt_fun, Int.reduceLT, Int.reduceLE, Int.reduceToNat, Int.reduceNeg, Nat.reduceLT, Nat.reduceLeDiff, Nat.reduceMul, Nat.reduceSub, reduceIte, Nat.reduceEqDiff, Nat.reduceAdd, reduceCtorEq]
  intro vs
  exact ⟨h, _, _, xs, by omega, rfl, by simp only [go_sem, adopt_fun, Int.reduceLT, Int.reduceLE, Int.reduceToNat, Int.reduceNeg, Nat.reduceLT, Nat.reduceLeDiff, Nat.reduceMul, Nat.reduceSub, reduceIte, Nat.reduceEqDiff, Nat.reduceAdd, reduceCtorEq], rfl⟩
end Go.Ab
