/- Contracts: small functions of the reference, the program and the laws. Conditions: none. -/
import Derived.Test.YtoadopegbnmfkaaKc
set_option linter.all false
namespace Go.Ab
open Go.Proofs
set_option maxRecDepth 20000
set_option linter.unusedSimpArgs false

theorem k_l01Map (xs : List Int) (n : Int) (hn : 0 ≤ n ∧ n ≤ 1000000) : Fun Try.prog n_spec_l01Map [.ro none 1 (ints xs), iv n] (bv (allIn xs 0 (n - 1) && decide ((xs.length : Int) = n))) := by
  refine fun_of mixed c_spec_l01Map rfl ⟨rfl, trivial⟩ ?_
  have w0 : IntKind.i64.wrap (n - 1) = n - 1 := w64 (by omega)
  simp only [A_spec_l01Map, B_spec_l01Map_1, B_spec_l01Map_2, go_sem, adopt_fun, Int.reduceLT, Int.reduceLE, Int.reduceToNat, Int.reduceNeg, Nat.reduceLT, Nat.reduceLeDiff, Nat.reduceMul, Nat.reduceSub, reduceIte, Nat.reduceEqDiff, Nat.reduceAdd, reduceCtorEq]
  refine wpD_lo (fun i => xs.length - i) (fun i => i ≤ xs.length ∧ allIn (xs.drop i) 0 (n - 1) = allIn xs 0 (n - 1))
    (fun i : Nat => ⟨L .any [(0, .ro none 1 (ints xs)), (1, iv n), (5, iv i)], L .gone []⟩) 0 (by simp) (by simp only [B_spec_l01Map_3, go_sem, adopt_fun, Int.reduceLT, Int.reduceLE, Int.reduceToNat, Int.reduceNeg, Nat.reduceLT, Nat.reduceLeDiff, Nat.reduceMul, Nat.reduceSub, reduceIte, Nat.reduceEqDiff, Nat.reduceAdd, reduceCtorEq]; try rfl) ?_
  rintro i ⟨hi, he⟩
  have hM2 := maxLen_le
  by_cases hlt : (i : Int) < xs.length
  · have hlt' : i < xs.length := by omega
    simp only [B_spec_l01Map_3, B_spec_l01Map_4, B_spec_l01Map_5, intsK_getD hlt', w0, decide_eq_true hlt, go_sem, adopt_fun, Int.reduceLT, Int.reduceLE, Int.reduceToNat, Int.reduceNeg, Nat.reduceLT, Nat.reduceLeDiff, Nat.reduceMul, Nat.reduceSub, reduceIte, Nat.reduceEqDiff, Nat.reduceAdd, reduceCtorEq]
    intro hM vs
    refine ⟨⟨by omega, hlt'⟩, hlt', ?_⟩
    refine call_fun (k_l00In (xs.getD i 0) 0 (n - 1)) qCS trivial ?_
    have w1 : IntKind.i64.wrap ((i : Int) + 1) = ((i + 1 : Nat) : Int) := by rw [w64 (by omega)]; simp
    rw [drop_getD hlt' 0] at he
    simp only [allIn, List.all_cons] at he
    simp only [B_spec_l01Map_6, B_spec_l01Map_7, w1, go_sem, adopt_fun, Int.reduceLT, Int.reduceLE, Int.reduceToNat, Int.reduceNeg, Nat.reduceLT, Nat.reduceLeDiff, Nat.reduceMul, Nat.reduceSub, reduceIte, Nat.reduceEqDiff, Nat.reduceAdd, reduceCtorEq]
    refine ⟨fun hp => ?_, fun hp => ⟨i + 1, by omega, ⟨by omega, ?_⟩, rfl⟩⟩
    · rw [Bool.not_eq_true'] at hp
      rw [hp] at he
      simp only [allIn, ← he, Bool.false_and]
    · rw [Bool.not_eq_false'] at hp
      rw [hp] at he
      simpa [allIn] using he
  · have : i = xs.length := by omega
    subst this
    rw [List.drop_length] at he
    simp only [B_spec_l01Map_3, B_spec_l01Map_4, B_spec_l01Map_5, B_spec_l01Map_8, decide_eq_false hlt, go_sem, adopt_fun, Int.reduceLT, Int.reduceLE, Int.reduceToNat, Int.reduceNeg, Nat.reduceLT, Nat.reduceLeDiff, Nat.reduceMul, Nat.reduceSub, reduceIte, Nat.reduceEqDiff, Nat.reduceAdd, reduceCtorEq]
    intro _ _
    rw [← he]
    simp [allIn]
    rfl

theorem k_l01Ok (n : Int) (next : List (List Int)) : Fun Try.prog n_spec_l01Ok [autP n next] (bv (autB n next)) := by
  refine fun_of mixed c_spec_l01Ok rfl ⟨rfl, trivial⟩ ?_
  simp only [A_spec_l01Ok, B_spec_l01Ok_1, go_sem, adopt_fun, Int.reduceLT, Int.reduceLE, Int.reduceToNat, Int.reduceNeg, Nat.reduceLT, Nat.reduceLeDiff, Nat.reduceMul, Nat.reduceSub, reduceIte, Nat.reduceEqDiff, Nat.reduceAdd, reduceCtorEq]
  intro vs
  refine call_fun (k_l00In n 1 10) qCS trivial ?_
  by_cases hn : 1 ≤ n ∧ n ≤ 10
  · have h1 : (decide (1 ≤ n) && decide (n ≤ 10)) = true := by simp [hn]
    simp only [h1, go_sem, adopt_fun, Int.reduceLT, Int.reduceLE, Int.reduceToNat, Int.reduceNeg, Nat.reduceLT, Nat.reduceLeDiff, Nat.reduceMul, Nat.reduceSub, reduceIte, Nat.reduceEqDiff, Nat.reduceAdd, reduceCtorEq]
    intro hM
    refine call_fun (k_l00In next.length 1 3) qCS trivial ?_
    by_cases hl : 1 ≤ (next.length : Int) ∧ (next.length : Int) ≤ 3
    · have h2 : (decide (1 ≤ (next.length : Int)) && decide ((next.length : Int) ≤ 3)) = true := by simp only [decide_eq_true hl.1, decide_eq_true hl.2, Bool.and_self]
      simp only [h2, B_spec_l01Ok_2, B_spec_l01Ok_3, B_spec_l01Ok_4, go_sem, adopt_fun, Int.reduceLT, Int.reduceLE, Int.reduceToNat, Int.reduceNeg, Nat.reduceLT, Nat.reduceLeDiff, Nat.reduceMul, Nat.reduceSub, reduceIte, Nat.reduceEqDiff, Nat.reduceAdd, reduceCtorEq]
      have hB : autB n next = next.all fun row => decide ((row.length : Int) = n) && allIn row 0 (n - 1) := by simp only [autB, h1, h2, Bool.true_and]
      refine wpD_lo (fun i => next.length - i) (fun i => i ≤ next.length ∧ ((next.drop i).all fun row => decide ((row.length : Int) = n) && allIn row 0 (n - 1)) = autB n next)
        (fun i : Nat => ⟨L .any [(0, autP n next), (3, iv i)], L .gone []⟩) 0 (by simp [hB]) (by simp only [B_spec_l01Ok_5, go_sem, adopt_fun, Int.reduceLT, Int.reduceLE, Int.reduceToNat, Int.reduceNeg, Nat.reduceLT, Nat.reduceLeDiff, Nat.reduceMul, Nat.reduceSub, reduceIte, Nat.reduceEqDiff, Nat.reduceAdd, reduceCtorEq]; try rfl) ?_
      rintro i ⟨hi, he⟩
      by_cases hlt : (i : Int) < next.length
      · have hlt' : i < next.length := by omega
        have w1 : IntKind.i64.wrap ((i : Int) + 1) = ((i + 1 : Nat) : Int) := by rw [w64 (by omega)]; simp
        simp only [B_spec_l01Ok_5, B_spec_l01Ok_6, B_spec_l01Ok_7, rwn_getD hlt', decide_eq_true hlt, go_sem, adopt_fun, Int.reduceLT, Int.reduceLE, Int.reduceToNat, Int.reduceNeg, Nat.reduceLT, Nat.reduceLeDiff, Nat.reduceMul, Nat.reduceSub, reduceIte, Nat.reduceEqDiff, Nat.reduceAdd, reduceCtorEq]
        intro _ vs2
        refine ⟨⟨by omega, hlt'⟩, hlt', ?_⟩
        refine call_fun (k_l01Map (next.getD i []) n (by omega)) qCS trivial ?_
        rw [drop_getD hlt' []] at he
        simp only [List.all_cons] at he
        simp only [B_spec_l01Ok_8, B_spec_l01Ok_9, w1, go_sem, adopt_fun, Int.reduceLT, Int.reduceLE, Int.reduceToNat, Int.reduceNeg, Nat.reduceLT, Nat.reduceLeDiff, Nat.reduceMul, Nat.reduceSub, reduceIte, Nat.reduceEqDiff, Nat.reduceAdd, reduceCtorEq]
        refine ⟨fun hp => ?_, fun hp => ⟨i + 1, by omega, ⟨by omega, ?_⟩, rfl⟩⟩
        · rw [Bool.not_eq_true', Bool.and_comm] at hp
          rw [hp] at he
          rw [← he]; rfl
        · rw [Bool.not_eq_false', Bool.and_comm] at hp
          rw [hp] at he
          simpa using he
      · have : i = next.length := by omega
        subst this
        rw [List.drop_length] at he
        simp only [B_spec_l01Ok_5, B_spec_l01Ok_6, B_spec_l01Ok_7, B_spec_l01Ok_10, decide_eq_false hlt, go_sem, adopt_fun, Int.reduceLT, Int.reduceLE, Int.reduceToNat, Int.reduceNeg, Nat.reduceLT, Nat.reduceLeDiff, Nat.reduceMul, Nat.reduceSub, reduceIte, Nat.reduceEqDiff, Nat.reduceAdd, reduceCtorEq]
        intro _
        rw [← he]; rfl
    · have h2 : (decide (1 ≤ (next.length : Int)) && decide ((next.length : Int) ≤ 3)) = false := by
        rw [Bool.and_eq_false_iff]
        by_cases h3 : 1 ≤ (next.length : Int)
        · right; simp; omega
        · left; simp; omega
      simp only [h2, B_spec_l01Ok_2, go_sem, adopt_fun, Int.reduceLT, Int.reduceLE, Int.reduceToNat, Int.reduceNeg, Nat.reduceLT, Nat.reduceLeDiff, Nat.reduceMul, Nat.reduceSub, reduceIte, Nat.reduceEqDiff, Nat.reduceAdd, reduceCtorEq]
      simp only [autB, h1, h2, Bool.true_and, Bool.false_and]
  · have h1 : (decide (1 ≤ n) && decide (n ≤ 10)) = false := by
      rw [Bool.and_eq_false_iff]
      by_cases h3 : 1 ≤ n
      · right; simp; omega
      · left; simp; omega
    simp only [h1, B_spec_l01Ok_2, go_sem, adopt_fun, Int.reduceLT, Int.reduceLE, Int.reduceToNat, Int.reduceNeg, Nat.reduceLT, Nat.reduceLeDiff, Nat.reduceMul, Nat.reduceSub, reduceIte, Nat.reduceEqDiff, Nat.reduceAdd, reduceCtorEq]
    simp only [autB, h1, Bool.false_and]

theorem k_l00Own (xs : List Int) (h : xs.length * 8 ≤ 140737488355328) : RowI Try.prog n_spec_l00Own [.ro none 1 (ints xs)] (fun ys => ys = xs) := by
  refine rowI_of mixed c_spec_l00Own rfl ?_
  simp only [B_spec_l00Own_1, A_spec_l00Own, go_sem, adopt_fun, Int.reduceLT, Int.reduceLE, Int.reduceToNat, Int.reduceNeg, Nat.reduceLT, Nat.reduceLeDiff, Nat.reduceMul, Nat.reduceSub, reduceIte, Nat.reduceEqDiff, Nat.reduceAdd, reduceCtorEq]
  intro vs
  exact ⟨by simpa using h, _, _, xs, by omega, rfl, by simp only [go_sem, adopt_fun, Int.reduceLT, Int.reduceLE, Int.reduceToNat, Int.reduceNeg, Nat.reduceLT, Nat.reduceLeDiff, Nat.reduceMul, Nat.reduceSub, reduceIte, Nat.reduceEqDiff, Nat.reduceAdd, reduceCtorEq], rfl⟩

theorem k_Clone (xs : List Int) (h : xs.length * 8 ≤ 140737488355328) : RowI Try.prog n_slices_Clone_LI [.ro (argN xs) 1 (ints xs)] (fun ys => ys = xs) := by
  refine rowI_of mixed c_slices_Clone_LI rfl ?_
  simp only [B_slices_Clone_LI_2, B_slices_Clone_LI_3, B_slices_Clone_LI_1, A_slices_Clone_LI, go_sem, adopt_fun, Int.reduceLT, Int.reduceLE, Int.reduceToNat, Int.reduceNeg, Nat.reduceLT, Nat.reduceLeDiff, Nat.reduceMul, Nat.reduceSub, reduceIte, Nat.reduceEqDiff, Nat.reduceAdd, reduceCtorEq]
  intro vs
  exact ⟨h, _, _, xs, by omega, rfl, by simp only [go_sem, adopt_fun, Int.reduceLT, Int.reduceLE, Int.reduceToNat, Int.reduceNeg, Nat.reduceLT, Nat.reduceLeDiff, Nat.reduceMul, Nat.reduceSub, reduceIte, Nat.reduceEqDiff, Nat.reduceAdd, reduceCtorEq], rfl⟩
end Go.Ab
