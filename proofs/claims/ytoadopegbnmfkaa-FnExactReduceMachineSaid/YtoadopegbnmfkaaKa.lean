/- Contracts of small functions. Conditions: none. -/
import Derived.Test.YtoadopegbnmfkaaFns
import Derived.Test.YtoadopegbnmfkaaM7
set_option linter.all false
namespace Go.Ab
open Go.Proofs
set_option maxRecDepth 20000
set_option linter.unusedSimpArgs false

theorem k_l00In (n lo hi : Int) : Fun Try.prog n_spec_l00In [iv n, iv lo, iv hi] (bv (decide (lo ≤ n) && decide (n ≤ hi))) := by
  refine fun_of mixed c_spec_l00In rfl ⟨rfl, trivial⟩ ?_
  simp only [B_spec_l00In_1, A_spec_l00In, go_sem, adopt_fun, Int.reduceLT, Int.reduceLE, Int.reduceToNat, Int.reduceNeg, Nat.reduceLT, Nat.reduceLeDiff, Nat.reduceMul, Nat.reduceSub, reduceIte, Nat.reduceEqDiff, Nat.reduceAdd, reduceCtorEq]
  by_cases h : lo ≤ n <;> simp [h, dn_val]

theorem k_within (n lo hi : Int) : Fun Try.prog n_impl_within [iv n, iv lo, iv hi] (bv (decide (lo ≤ n) && decide (n ≤ hi))) := by
  refine fun_of mixed c_impl_within rfl ⟨rfl, trivial⟩ ?_
  simp only [B_impl_within_1, A_impl_within, go_sem, adopt_fun, Int.reduceLT, Int.reduceLE, Int.reduceToNat, Int.reduceNeg, Nat.reduceLT, Nat.reduceLeDiff, Nat.reduceMul, Nat.reduceSub, reduceIte, Nat.reduceEqDiff, Nat.reduceAdd, reduceCtorEq]
  by_cases h : lo ≤ n <;> simp [h, dn_val]

theorem k_size (xs : List Int) : Fun Try.prog n_impl_size_I [.ro none 1 (ints xs)] (iv xs.length) := by
  refine fun_of mixed c_impl_size_I rfl ⟨rfl, trivial⟩ ?_
  simp only [B_impl_size_I_1, A_impl_size_I, go_sem, adopt_fun, Int.reduceLT, Int.reduceLE, Int.reduceToNat, Int.reduceNeg, Nat.reduceLT, Nat.reduceLeDiff, Nat.reduceMul, Nat.reduceSub, reduceIte, Nat.reduceEqDiff, Nat.reduceAdd, reduceCtorEq]

theorem k_size1 (xss : List (List Int)) : Fun Try.prog n_impl_size_LI [.ro none 1 (rwn xss)] (iv xss.length) := by
  refine fun_of mixed c_impl_size_LI rfl ⟨rfl, trivial⟩ ?_
  simp only [B_impl_size_LI_1, A_impl_size_LI, go_sem, adopt_fun, Int.reduceLT, Int.reduceLE, Int.reduceToNat, Int.reduceNeg, Nat.reduceLT, Nat.reduceLeDiff, Nat.reduceMul, Nat.reduceSub, reduceIte, Nat.reduceEqDiff, Nat.reduceAdd, reduceCtorEq]

theorem k_l00Same (xs ys : List Int) : Fun Try.prog n_spec_l00Same [.ro none 1 (ints xs), .ro none 1 (ints ys)] (bv (decide (xs = ys))) := by
  refine fun_of mixed c_spec_l00Same rfl ⟨rfl, trivial⟩ ?_
  simp only [B_spec_l00Same_2, B_spec_l00Same_6, B_spec_l00Same_8, B_spec_l00Same_9, B_spec_l00Same_7, B_spec_l00Same_5, B_spec_l00Same_4, B_spec_l00Same_10, B_spec_l00Same_3, B_spec_l00Same_1, A_spec_l00Same, go_sem, adopt_fun, Int.reduceLT, Int.reduceLE, Int.reduceToNat, Int.reduceNeg, Nat.reduceLT, Nat.reduceLeDiff, Nat.reduceMul, Nat.reduceSub, reduceIte, Nat.reduceEqDiff, Nat.reduceAdd, reduceCtorEq]
  intro hx hy
  refine ⟨fun hne => ?_, fun he => ?_⟩
  · have : xs ≠ ys := by rintro rfl; simp at hne
    simp [this]
  · have hlen : xs.length = ys.length := by simp at he; omega
    refine wpD_lo (fun i => xs.length - i) (fun i => i ≤ xs.length ∧ xs.take i = ys.take i)
      (fun i : Nat => ⟨L .any [(0, .ro none 1 (ints xs)), (1, .ro none 1 (ints ys)), (5, .val (.int .i64 i))], L .gone []⟩) 0 (by simp) (by simp only [go_sem, adopt_fun, Int.reduceLT, Int.reduceLE, Int.reduceToNat, Int.reduceNeg, Nat.reduceLT, Nat.reduceLeDiff, Nat.reduceMul, Nat.reduceSub, reduceIte, Nat.reduceEqDiff, Nat.reduceAdd, reduceCtorEq]; rfl) ?_
    rintro i ⟨hi, hti⟩
    simp only [go_sem, adopt_fun, Int.reduceLT, Int.reduceLE, Int.reduceToNat, Int.reduceNeg, Nat.reduceLT, Nat.reduceLeDiff, Nat.reduceMul, Nat.reduceSub, reduceIte, Nat.reduceEqDiff, Nat.reduceAdd, reduceCtorEq]
    intro _
    have hM := maxLen_le
    refine ⟨fun hlt => ?_, fun hge => ?_⟩
    · have hlt : i < xs.length := by simpa using hlt
      have hlt' : i < ys.length := by omega
      simp only [i2n, ints_getD hlt, ints_getD hlt', go_sem, adopt_fun, Int.reduceLT, Int.reduceLE, Int.reduceToNat, Int.reduceNeg, Nat.reduceLT, Nat.reduceLeDiff, Nat.reduceMul, Nat.reduceSub, reduceIte, Nat.reduceEqDiff, Nat.reduceAdd, reduceCtorEq]
      refine ⟨⟨by omega, hlt⟩, hlt, ⟨by omega, hlt'⟩, hlt', fun hne => ?_, fun heq => ⟨i + 1, by omega, ⟨by omega, ?_⟩, ?_⟩⟩
      · have : xs ≠ ys := by rintro rfl; simp at hne
        simp [this]
      · have he' : xs[i] = ys[i] := by simpa [List.getD_eq_getElem?_getD, hlt, hlt'] using heq
        rw [List.take_add_one, List.take_add_one, hti]
        simp [hlt, hlt', he']
      · rw [w64 (by omega)]; rfl
    · have : i = xs.length := by simp at hge; omega
      subst this
      have : xs = ys := by rw [List.take_length, hlen, List.take_length] at hti; exact hti
      simp [this]

end Go.Ab
