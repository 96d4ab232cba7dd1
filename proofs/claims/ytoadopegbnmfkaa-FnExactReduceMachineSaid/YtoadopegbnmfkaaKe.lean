/- Contracts: small functions, further. Conditions: none. -/
import Derived.Test.YtoadopegbnmfkaaKd
set_option linter.all false
namespace Go.Ab
open Go.Proofs
set_option maxRecDepth 20000
set_option linter.unusedSimpArgs false

theorem nat1 (i : Nat) (m : Nat) (h : i < m) (hm : m ≤ maxLen) : IntKind.i64.wrap ((i : Int) + 1) = ((i + 1 : Nat) : Int) := by
  have := maxLen_le
  rw [w64 (by omega)]; simp

theorem take_eq_step {α : Type} [BEq α] {xs ys : List α} {i : Nat} (d : α) (h : i < xs.length) (h' : i < ys.length) (he : xs.take i = ys.take i) (hx : xs.getD i d = ys.getD i d) : xs.take (i + 1) = ys.take (i + 1) := by
  rw [List.getD_eq_getElem?_getD, List.getD_eq_getElem?_getD, List.getElem?_eq_getElem h, List.getElem?_eq_getElem h'] at hx
  simp only [Option.getD_some] at hx
  rw [List.take_add_one, List.take_add_one, he, List.getElem?_eq_getElem h, List.getElem?_eq_getElem h', hx]

theorem bne_false_eq {a b : Int} (h : (a != b) = false) : a = b := by simpa using h

theorem k_l01Find (xss : List (List Int)) (x : List Int) : Fun Try.prog n_spec_l01Find [.ro none 1 (rwn xss), .ro none 1 (ints x)] (iv (fidx (fun y => decide (y = x)) xss 0)) := by
  refine fun_of mixed c_spec_l01Find rfl ⟨rfl, trivial⟩ ?_
  simp only [A_spec_l01Find, B_spec_l01Find_1, B_spec_l01Find_2, go_sem, adopt_fun, Int.reduceLT, Int.reduceLE, Int.reduceToNat, Int.reduceNeg, Nat.reduceLT, Nat.reduceLeDiff, Nat.reduceMul, Nat.reduceSub, reduceIte, Nat.reduceEqDiff, Nat.reduceAdd, reduceCtorEq]
  refine wpD_lo (fun i => xss.length - i) (fun i => i ≤ xss.length ∧ fidx (fun y => decide (y = x)) (xss.drop i) i = fidx (fun y => decide (y = x)) xss 0)
    (fun i : Nat => ⟨L .any [(0, .ro none 1 (rwn xss)), (1, .ro none 1 (ints x)), (5, iv i)], L .gone []⟩) 0 (by simp) (by simp only [B_spec_l01Find_3, go_sem, adopt_fun, Int.reduceLT, Int.reduceLE, Int.reduceToNat, Int.reduceNeg, Nat.reduceLT, Nat.reduceLeDiff, Nat.reduceMul, Nat.reduceSub, reduceIte, Nat.reduceEqDiff, Nat.reduceAdd, reduceCtorEq]; try rfl) ?_
  rintro i ⟨hi, he⟩
  by_cases hlt : (i : Int) < xss.length
  · have hlt1 : i < xss.length := by omega
    simp only [B_spec_l01Find_3, B_spec_l01Find_4, B_spec_l01Find_5, rwn_getD hlt1, decide_eq_true hlt, go_sem, adopt_fun, Int.reduceLT, Int.reduceLE, Int.reduceToNat, Int.reduceNeg, Nat.reduceLT, Nat.reduceLeDiff, Nat.reduceMul, Nat.reduceSub, reduceIte, Nat.reduceEqDiff, Nat.reduceAdd, reduceCtorEq]
    intro hM vs
    refine ⟨⟨by omega, hlt1⟩, hlt1, ?_⟩
    refine call_fun (k_l00Same (xss.getD i []) x) qCS trivial ?_
    rw [drop_getD hlt1 []] at he
    simp only [fidx] at he
    simp only [B_spec_l01Find_6, B_spec_l01Find_7, nat1 i _ hlt1 hM, go_sem, adopt_fun, Int.reduceLT, Int.reduceLE, Int.reduceToNat, Int.reduceNeg, Nat.reduceLT, Nat.reduceLeDiff, Nat.reduceMul, Nat.reduceSub, reduceIte, Nat.reduceEqDiff, Nat.reduceAdd, reduceCtorEq]
    refine ⟨fun hp => ?_, fun hp => ⟨i + 1, by omega, ⟨by omega, ?_⟩, rfl⟩⟩
    · simp only [hp, if_true] at he; rw [← he]
    · simp only [hp, Bool.false_eq_true, if_false] at he; exact he
  · have : i = xss.length := by omega
    subst this
    rw [List.drop_length] at he
    simp only [fidx] at he
    simp only [B_spec_l01Find_3, B_spec_l01Find_4, B_spec_l01Find_5, B_spec_l01Find_8, decide_eq_false hlt, go_sem, adopt_fun, Int.reduceLT, Int.reduceLE, Int.reduceToNat, Int.reduceNeg, Nat.reduceLT, Nat.reduceLeDiff, Nat.reduceMul, Nat.reduceSub, reduceIte, Nat.reduceEqDiff, Nat.reduceAdd, reduceCtorEq]
    intro _
    rw [← he]

end Go.Ab
