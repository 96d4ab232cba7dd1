/- Contracts: what is in a row; the states that are reached. Conditions: none. -/
import Derived.Test.YtoadopegbnmfkaaKr
import Derived.Test.YtoadopegbnmfkaaPb
set_option linter.all false
namespace Go.Ab
open Go.Proofs
set_option maxRecDepth 20000
set_option maxHeartbeats 1000000

theorem k_Index (xs : List Int) (x : Int) : Fun Try.prog n_slices_Index_LI [.ro none 1 (ints xs), iv x] (iv (fidx (fun y => x == y) xs 0)) := by
  refine fun_of mixed c_slices_Index_LI rfl ⟨rfl, trivial⟩ ?_
  simp only [A_slices_Index_LI, B_slices_Index_LI_1, go_sem, adopt_fun, Int.reduceLT, Int.reduceLE, Int.reduceToNat, Int.reduceNeg, Nat.reduceLT, Nat.reduceLeDiff, Nat.reduceMul, Nat.reduceSub, reduceIte, Nat.reduceEqDiff, Nat.reduceAdd, reduceCtorEq]
  intro hM
  have hM2 := maxLen_le
  simp only [B_slices_Index_LI_2, go_sem, adopt_fun, Int.reduceLT, Int.reduceLE, Int.reduceToNat, Int.reduceNeg, Nat.reduceLT, Nat.reduceLeDiff, Nat.reduceMul, Nat.reduceSub, reduceIte, Nat.reduceEqDiff, Nat.reduceAdd, reduceCtorEq]
  refine wpD_lo (fun i => xs.length - i) (fun i => i ≤ xs.length ∧ fidx (fun y => x == y) (xs.drop i) i = fidx (fun y => x == y) xs 0)
    (fun i : Nat => ⟨L .any [(0, .ro none 1 (ints xs)), (1, iv x), (7, iv xs.length), (8, iv i)], L .gone []⟩) 0 (by simp) (by simp only [B_slices_Index_LI_3, go_sem, adopt_fun, Int.reduceLT, Int.reduceLE, Int.reduceToNat, Int.reduceNeg, Nat.reduceLT, Nat.reduceLeDiff, Nat.reduceMul, Nat.reduceSub, reduceIte, Nat.reduceEqDiff, Nat.reduceAdd, reduceCtorEq]; try rfl) ?_
  rintro i ⟨hi, he⟩
  by_cases hlt : (i : Int) < xs.length
  · have hlt1 : i < xs.length := by omega
    have w2 : IntKind.i64.wrap (i : Int) = i := w64 (by omega)
    rw [drop_getD hlt1 0] at he
    simp only [fidx] at he
    simp only [B_slices_Index_LI_3, B_slices_Index_LI_4, B_slices_Index_LI_5, B_slices_Index_LI_6, intsK_getD hlt1, decide_eq_true hlt, go_sem, adopt_fun, Int.reduceLT, Int.reduceLE, Int.reduceToNat, Int.reduceNeg, Nat.reduceLT, Nat.reduceLeDiff, Nat.reduceMul, Nat.reduceSub, reduceIte, Nat.reduceEqDiff, Nat.reduceAdd, reduceCtorEq]
    refine ⟨⟨by omega, hlt1⟩, hlt1, ?_⟩
    cases hx : (x == xs.getD i 0) with
    | true =>
      simp only [hx, if_true] at he
      simp only [B_slices_Index_LI_7, go_sem, adopt_fun, Int.reduceLT, Int.reduceLE, Int.reduceToNat, Int.reduceNeg, Nat.reduceLT, Nat.reduceLeDiff, Nat.reduceMul, Nat.reduceSub, reduceIte, Nat.reduceEqDiff, Nat.reduceAdd, reduceCtorEq]
      rw [← he]
    | false =>
      simp only [hx, Bool.false_eq_true, if_false] at he
      simp only [B_slices_Index_LI_7, B_slices_Index_LI_8, nat1 i _ hlt1 hM, go_sem, adopt_fun, Int.reduceLT, Int.reduceLE, Int.reduceToNat, Int.reduceNeg, Nat.reduceLT, Nat.reduceLeDiff, Nat.reduceMul, Nat.reduceSub, reduceIte, Nat.reduceEqDiff, Nat.reduceAdd, reduceCtorEq]
      exact ⟨i + 1, by omega, ⟨by omega, he⟩, rfl⟩
  · have : i = xs.length := by omega
    subst this
    rw [List.drop_length] at he
    simp only [fidx] at he
    simp only [B_slices_Index_LI_3, B_slices_Index_LI_4, B_slices_Index_LI_5, B_slices_Index_LI_9, decide_eq_false hlt, go_sem, adopt_fun, Int.reduceLT, Int.reduceLE, Int.reduceToNat, Int.reduceNeg, Nat.reduceLT, Nat.reduceLeDiff, Nat.reduceMul, Nat.reduceSub, reduceIte, Nat.reduceEqDiff, Nat.reduceAdd, reduceCtorEq]
    rw [← he]

end Go.Ab
