/- Contracts and what they lean on, part 7. Conditions: none. -/
import Derived.Lib.SlicesCompact
import Derived.Test.YtflkjhefiphkjaaProg
import Derived.Test.YtflkjhefiphkjaaZ6
set_option maxRecDepth 100000
set_option maxHeartbeats 4000000
set_option linter.all false
open Nat (reduceLeDiff reduceMul reduceSub reduceEqDiff reduceAdd)
open Int (reduceToNat reduceNeg reduceLE)
namespace Go.Ab
open Go.Proofs
theorem k_l01Map (xs : List Int) (n : Int) (hn : 0 ≤ n ∧ n ≤ 1000000) : Fun Try.prog nz3j [.ro none 1 (ints xs), iv n] (bv (allIn xs 0 (n - 1) && decide ((xs.length : Int) = n))) := by
  refine fun_of mixed cze7 rfl ⟨rfl, trivial⟩ ?_
  have w0 : IntKind.i64.wrap (n - 1) = n - 1 := w64 (by omega)
  simp only [Azby, Bzbx, Bzbv, go_sem, yz0, Int.reduceLT, reduceLE, reduceToNat, reduceNeg, Nat.reduceLT, reduceLeDiff, reduceMul, reduceSub, reduceIte, reduceEqDiff, reduceAdd, reduceCtorEq]
  refine wpD_lo (fun i => xs.length - i) (fun i => i ≤ xs.length ∧ allIn (xs.drop i) 0 (n - 1) = allIn xs 0 (n - 1))
    (fun i : Nat => ⟨L .any [(0, .ro none 1 (ints xs)), (1, iv n), (5, iv i)], L .gone []⟩) 0 (by simp) (by simp only [Bz2s, go_sem, yz0, Int.reduceLT, reduceLE, reduceToNat, reduceNeg, Nat.reduceLT, reduceLeDiff, reduceMul, reduceSub, reduceIte, reduceEqDiff, reduceAdd, reduceCtorEq]; try rfl) ?_
  rintro i ⟨hi, he⟩
  have hM2 := maxLen_le
  by_cases hlt : (i : Int) < xs.length
  · have hlt' : i < xs.length := by omega
    simp only [Bz2s, Bz5n, Bz5o, yz1s hlt', w0, decide_eq_true hlt, go_sem, yz0, Int.reduceLT, reduceLE, reduceToNat, reduceNeg, Nat.reduceLT, reduceLeDiff, reduceMul, reduceSub, reduceIte, reduceEqDiff, reduceAdd, reduceCtorEq]
    intro hM vs
    refine ⟨⟨by omega, hlt'⟩, hlt', ?_⟩
    refine yzg (k_l00In (xs.getD i 0) 0 (n - 1)) qCS trivial ?_
    have w1 : IntKind.i64.wrap ((i : Int) + 1) = ((i + 1 : Nat) : Int) := by rw [w64 (by omega)]; simp
    rw [drop_getD hlt' 0] at he
    simp only [allIn, List.all_cons] at he
    simp only [Bzbt, Bzbu, w1, go_sem, yz0, Int.reduceLT, reduceLE, reduceToNat, reduceNeg, Nat.reduceLT, reduceLeDiff, reduceMul, reduceSub, reduceIte, reduceEqDiff, reduceAdd, reduceCtorEq]
    refine ⟨fun hp => ?_, fun hp => ⟨i + 1, by omega, ⟨by omega, ?_⟩, rfl⟩⟩
    · rw [Bool.not_eq_true'] at hp
      rw [hp] at he
      simp only [allIn, ← he, Bool.false_and]
    · rw [Bool.not_eq_false'] at hp
      rw [hp] at he
      simpa [allIn] using he
  · have : i = xs.length := by omega
    subst this
    rw [List.drop_length] at he
    simp only [Bz2s, Bz5n, Bz5o, Bzbw, decide_eq_false hlt, go_sem, yz0, Int.reduceLT, reduceLE, reduceToNat, reduceNeg, Nat.reduceLT, reduceLeDiff, reduceMul, reduceSub, reduceIte, reduceEqDiff, reduceAdd, reduceCtorEq]
    intro _ _
    rw [← he]
    simp [allIn]
    rfl
theorem k_l01Ok (n : Int) (next : List (List Int)) : Fun Try.prog nz3c [autP n next] (bv (autB n next)) := by
  refine fun_of mixed czdq rfl ⟨rfl, trivial⟩ ?_
  simp only [Az9q, Bz9p, go_sem, yz0, Int.reduceLT, reduceLE, reduceToNat, reduceNeg, Nat.reduceLT, reduceLeDiff, reduceMul, reduceSub, reduceIte, reduceEqDiff, reduceAdd, reduceCtorEq]
  intro vs
  refine yzg (k_l00In n 1 10) qCS trivial ?_
  by_cases hn : 1 ≤ n ∧ n ≤ 10
  · have h1 : (decide (1 ≤ n) && decide (n ≤ 10)) = true := by simp [hn]
    simp only [h1, go_sem, yz0, Int.reduceLT, reduceLE, reduceToNat, reduceNeg, Nat.reduceLT, reduceLeDiff, reduceMul, reduceSub, reduceIte, reduceEqDiff, reduceAdd, reduceCtorEq]
    intro hM
    refine yzg (k_l00In next.length 1 3) qCS trivial ?_
    by_cases hl : 1 ≤ (next.length : Int) ∧ (next.length : Int) ≤ 3
    · have h2 : (decide (1 ≤ (next.length : Int)) && decide ((next.length : Int) ≤ 3)) = true := by simp only [decide_eq_true hl.1, decide_eq_true hl.2, Bool.and_self]
      simp only [h2, Bz2h, Bz9o, Bz9m, go_sem, yz0, Int.reduceLT, reduceLE, reduceToNat, reduceNeg, Nat.reduceLT, reduceLeDiff, reduceMul, reduceSub, reduceIte, reduceEqDiff, reduceAdd, reduceCtorEq]
      have hB : autB n next = next.all fun row => decide ((row.length : Int) = n) && allIn row 0 (n - 1) := by simp only [autB, h1, h2, Bool.true_and]
      refine wpD_lo (fun i => next.length - i) (fun i => i ≤ next.length ∧ ((next.drop i).all fun row => decide ((row.length : Int) = n) && allIn row 0 (n - 1)) = autB n next)
        (fun i : Nat => ⟨L .any [(0, autP n next), (3, iv i)], L .gone []⟩) 0 (by simp [hB]) (by simp only [Bz2i, go_sem, yz0, Int.reduceLT, reduceLE, reduceToNat, reduceNeg, Nat.reduceLT, reduceLeDiff, reduceMul, reduceSub, reduceIte, reduceEqDiff, reduceAdd, reduceCtorEq]; try rfl) ?_
      rintro i ⟨hi, he⟩
      by_cases hlt : (i : Int) < next.length
      · have hlt' : i < next.length := by omega
        have w1 : IntKind.i64.wrap ((i : Int) + 1) = ((i + 1 : Nat) : Int) := by rw [w64 (by omega)]; simp
        simp only [Bz2i, Bz55, Bz56, rwn_getD hlt', decide_eq_true hlt, go_sem, yz0, Int.reduceLT, reduceLE, reduceToNat, reduceNeg, Nat.reduceLT, reduceLeDiff, reduceMul, reduceSub, reduceIte, reduceEqDiff, reduceAdd, reduceCtorEq]
        intro _ vs2
        refine ⟨⟨by omega, hlt'⟩, hlt', ?_⟩
        refine yzg (k_l01Map (next.getD i []) n (by omega)) qCS trivial ?_
        rw [drop_getD hlt' []] at he
        simp only [List.all_cons] at he
        simp only [Bz9k, Bz9l, w1, go_sem, yz0, Int.reduceLT, reduceLE, reduceToNat, reduceNeg, Nat.reduceLT, reduceLeDiff, reduceMul, reduceSub, reduceIte, reduceEqDiff, reduceAdd, reduceCtorEq]
        refine ⟨fun hp => ?_, fun hp => ⟨i + 1, by omega, ⟨by omega, ?_⟩, rfl⟩⟩
        · rw [Bool.not_eq_true', Bool.and_comm] at hp
          rw [hp] at he
          rw [← he]; rfl
        · rw [Bool.not_eq_false', Bool.and_comm] at hp
          rw [hp] at he
          simpa using he
      · have : i = next.length := by omega
        subst this
        rw [List.drop_length] at he
        simp only [Bz2i, Bz55, Bz56, Bz9n, decide_eq_false hlt, go_sem, yz0, Int.reduceLT, reduceLE, reduceToNat, reduceNeg, Nat.reduceLT, reduceLeDiff, reduceMul, reduceSub, reduceIte, reduceEqDiff, reduceAdd, reduceCtorEq]
        intro _
        rw [← he]; rfl
    · have h2 : (decide (1 ≤ (next.length : Int)) && decide ((next.length : Int) ≤ 3)) = false := by
        rw [Bool.and_eq_false_iff]
        by_cases h3 : 1 ≤ (next.length : Int)
        · right; simp; omega
        · left; simp; omega
      simp only [h2, Bz2h, go_sem, yz0, Int.reduceLT, reduceLE, reduceToNat, reduceNeg, Nat.reduceLT, reduceLeDiff, reduceMul, reduceSub, reduceIte, reduceEqDiff, reduceAdd, reduceCtorEq]
      simp only [autB, h1, h2, Bool.true_and, Bool.false_and]
  · have h1 : (decide (1 ≤ n) && decide (n ≤ 10)) = false := by
      rw [Bool.and_eq_false_iff]
      by_cases h3 : 1 ≤ n
      · right; simp; omega
      · left; simp; omega
    simp only [h1, Bz2h, go_sem, yz0, Int.reduceLT, reduceLE, reduceToNat, reduceNeg, Nat.reduceLT, reduceLeDiff, reduceMul, reduceSub, reduceIte, reduceEqDiff, reduceAdd, reduceCtorEq]
    simp only [autB, h1, Bool.false_and]
theorem k_l00Own (xs : List Int) (h : xs.length * 8 ≤ 140737488355328) : RowI Try.prog nz39 [.ro none 1 (ints xs)] (fun ys => ys = xs) := by
  refine rowI_of mixed czdn rfl ?_
  simp only [Bz9b, Az9c, go_sem, yz0, Int.reduceLT, reduceLE, reduceToNat, reduceNeg, Nat.reduceLT, reduceLeDiff, reduceMul, reduceSub, reduceIte, reduceEqDiff, reduceAdd, reduceCtorEq]
  intro vs
  exact ⟨by simpa using h, _, _, xs, by omega, rfl, by simp only [go_sem, yz0, Int.reduceLT, reduceLE, reduceToNat, reduceNeg, Nat.reduceLT, reduceLeDiff, reduceMul, reduceSub, reduceIte, reduceEqDiff, reduceAdd, reduceCtorEq], rfl⟩
theorem k_Clone (xs : List Int) (h : xs.length * 8 ≤ 140737488355328) : RowI Try.prog nz38 [.ro (argN xs) 1 (ints xs)] (fun ys => ys = xs) := by
  refine rowI_of mixed czdm rfl ?_
  simp only [Bz97, Bz98, Bz99, Az9a, go_sem, yz0, Int.reduceLT, reduceLE, reduceToNat, reduceNeg, Nat.reduceLT, reduceLeDiff, reduceMul, reduceSub, reduceIte, reduceEqDiff, reduceAdd, reduceCtorEq]
  intro vs
  exact ⟨h, _, _, xs, by omega, rfl, by simp only [go_sem, yz0, Int.reduceLT, reduceLE, reduceToNat, reduceNeg, Nat.reduceLT, reduceLeDiff, reduceMul, reduceSub, reduceIte, reduceEqDiff, reduceAdd, reduceCtorEq], rfl⟩
end Go.Ab
namespace Go.Ab
open Go.Proofs
theorem nat1 (i : Nat) (m : Nat) (h : i < m) (hm : m ≤ maxLen) : IntKind.i64.wrap ((i : Int) + 1) = ((i + 1 : Nat) : Int) := by
  have := maxLen_le
  rw [w64 (by omega)]; simp
theorem take_eq_step {α : Type} [BEq α] {xs ys : List α} {i : Nat} (d : α) (h : i < xs.length) (h' : i < ys.length) (he : xs.take i = ys.take i) (hx : xs.getD i d = ys.getD i d) : xs.take (i + 1) = ys.take (i + 1) := by
  rw [List.getD_eq_getElem?_getD, List.getD_eq_getElem?_getD, List.getElem?_eq_getElem h, List.getElem?_eq_getElem h'] at hx
  simp only [Option.getD_some] at hx
  rw [List.take_add_one, List.take_add_one, he, List.getElem?_eq_getElem h, List.getElem?_eq_getElem h', hx]
theorem bne_false_eq {a b : Int} (h : (a != b) = false) : a = b := by simpa using h
theorem k_Equal (xs ys : List Int) : Fun Try.prog nz3i [.ro none 1 (ints xs), .ro none 1 (ints ys)] (bv (decide (xs = ys))) := by
  refine fun_of mixed cze6 rfl ⟨rfl, trivial⟩ ?_
  simp only [Azbs, Bzbr, go_sem, yz0, Int.reduceLT, reduceLE, reduceToNat, reduceNeg, Nat.reduceLT, reduceLeDiff, reduceMul, reduceSub, reduceIte, reduceEqDiff, reduceAdd, reduceCtorEq]
  intro hx hy
  by_cases hlen : xs.length = ys.length
  · have hne : ((xs.length : Int) != (ys.length : Int)) = false := by rw [hlen]; simp
    simp only [hne, Bz5k, Bzbq, Bzbo, go_sem, yz0, Int.reduceLT, reduceLE, reduceToNat, reduceNeg, Nat.reduceLT, reduceLeDiff, reduceMul, reduceSub, reduceIte, reduceEqDiff, reduceAdd, reduceCtorEq]
    intro _
    refine wpD_lo (fun i => xs.length - i) (fun i => i ≤ xs.length ∧ xs.take i = ys.take i)
      (fun i : Nat => ⟨L .any [(0, .ro none 1 (ints xs)), (1, .ro none 1 (ints ys)), (12, iv xs.length), (13, iv i)], L .gone []⟩) 0 (by simp) (by simp only [Bz2r, go_sem, yz0, Int.reduceLT, reduceLE, reduceToNat, reduceNeg, Nat.reduceLT, reduceLeDiff, reduceMul, reduceSub, reduceIte, reduceEqDiff, reduceAdd, reduceCtorEq]; try rfl) ?_
    rintro i ⟨hi, hti⟩
    by_cases hlt : (i : Int) < xs.length
    · have hlt1 : i < xs.length := by omega
      have hlt2 : i < ys.length := by omega
      simp only [Bz2r, Bz5m, Bz5l, Bzbm, yz1s hlt1, yz1s hlt2, decide_eq_true hlt, go_sem, yz0, Int.reduceLT, reduceLE, reduceToNat, reduceNeg, Nat.reduceLT, reduceLeDiff, reduceMul, reduceSub, reduceIte, reduceEqDiff, reduceAdd, reduceCtorEq]
      refine ⟨⟨by omega, hlt1⟩, hlt1, ⟨by omega, hlt2⟩, hlt2, ?_⟩
      simp only [Bzbl, Bzbn, nat1 i _ hlt1 hx, go_sem, yz0, Int.reduceLT, reduceLE, reduceToNat, reduceNeg, Nat.reduceLT, reduceLeDiff, reduceMul, reduceSub, reduceIte, reduceEqDiff, reduceAdd, reduceCtorEq]
      refine ⟨fun h => ?_, fun h => ⟨i + 1, by omega, ⟨by omega, take_eq_step 0 hlt1 hlt2 hti (bne_false_eq h)⟩, rfl⟩⟩
      have : xs ≠ ys := by rintro rfl; simp at h
      simp [this]
    · have : i = xs.length := by omega
      subst this
      simp only [Bz2r, Bz5m, Bz5l, Bzbp, decide_eq_false hlt, go_sem, yz0, Int.reduceLT, reduceLE, reduceToNat, reduceNeg, Nat.reduceLT, reduceLeDiff, reduceMul, reduceSub, reduceIte, reduceEqDiff, reduceAdd, reduceCtorEq]
      have : xs = ys := by rw [List.take_length, hlen, List.take_length] at hti; exact hti
      simp [this]
  · have hne : ((xs.length : Int) != (ys.length : Int)) = true := by simp; omega
    simp only [hne, Bz5k, go_sem, yz0, Int.reduceLT, reduceLE, reduceToNat, reduceNeg, Nat.reduceLT, reduceLeDiff, reduceMul, reduceSub, reduceIte, reduceEqDiff, reduceAdd, reduceCtorEq]
    have : xs ≠ ys := by rintro rfl; exact hlen rfl
    simp [this]
theorem k_l01Find (xss : List (List Int)) (x : List Int) : Fun Try.prog nz3o [.ro none 1 (rwn xss), .ro none 1 (ints x)] (iv (fidx (fun y => decide (y = x)) xss 0)) := by
  refine fun_of mixed czee rfl ⟨rfl, trivial⟩ ?_
  simp only [Azcw, Bzcv, Bzct, go_sem, yz0, Int.reduceLT, reduceLE, reduceToNat, reduceNeg, Nat.reduceLT, reduceLeDiff, reduceMul, reduceSub, reduceIte, reduceEqDiff, reduceAdd, reduceCtorEq]
  refine wpD_lo (fun i => xss.length - i) (fun i => i ≤ xss.length ∧ fidx (fun y => decide (y = x)) (xss.drop i) i = fidx (fun y => decide (y = x)) xss 0)
    (fun i : Nat => ⟨L .any [(0, .ro none 1 (rwn xss)), (1, .ro none 1 (ints x)), (5, iv i)], L .gone []⟩) 0 (by simp) (by simp only [Bz2x, go_sem, yz0, Int.reduceLT, reduceLE, reduceToNat, reduceNeg, Nat.reduceLT, reduceLeDiff, reduceMul, reduceSub, reduceIte, reduceEqDiff, reduceAdd, reduceCtorEq]; try rfl) ?_
  rintro i ⟨hi, he⟩
  by_cases hlt : (i : Int) < xss.length
  · have hlt1 : i < xss.length := by omega
    simp only [Bz2x, Bz5x, Bz5y, rwn_getD hlt1, decide_eq_true hlt, go_sem, yz0, Int.reduceLT, reduceLE, reduceToNat, reduceNeg, Nat.reduceLT, reduceLeDiff, reduceMul, reduceSub, reduceIte, reduceEqDiff, reduceAdd, reduceCtorEq]
    intro hM vs
    refine ⟨⟨by omega, hlt1⟩, hlt1, ?_⟩
    refine yzg (k_l00Same (xss.getD i []) x) qCS trivial ?_
    rw [drop_getD hlt1 []] at he
    simp only [fidx] at he
    simp only [Bzcr, Bzcs, nat1 i _ hlt1 hM, go_sem, yz0, Int.reduceLT, reduceLE, reduceToNat, reduceNeg, Nat.reduceLT, reduceLeDiff, reduceMul, reduceSub, reduceIte, reduceEqDiff, reduceAdd, reduceCtorEq]
    refine ⟨fun hp => ?_, fun hp => ⟨i + 1, by omega, ⟨by omega, ?_⟩, rfl⟩⟩
    · simp only [hp, if_true] at he; rw [← he]
    · simp only [hp, Bool.false_eq_true, if_false] at he; exact he
  · have : i = xss.length := by omega
    subst this
    rw [List.drop_length] at he
    simp only [fidx] at he
    simp only [Bz2x, Bz5x, Bz5y, Bzcu, decide_eq_false hlt, go_sem, yz0, Int.reduceLT, reduceLE, reduceToNat, reduceNeg, Nat.reduceLT, reduceLeDiff, reduceMul, reduceSub, reduceIte, reduceEqDiff, reduceAdd, reduceCtorEq]
    intro _
    rw [← he]
end Go.Ab
namespace Go.Ab
open Go.Proofs
theorem k_szInt64S (xs : List Int) (left : Int) (h : 0 ≤ left ∧ left ≤ 4611686018427387904) :
    Fun Try.prog nz3a [.ro none 1 (ints xs), iv left] (iv (if left - xs.length < 0 then -1 else left - xs.length)) := by
  refine fun_of mixed czdo rfl ⟨rfl, trivial⟩ ?_
  simp only [Bz9d, Bz9e, Bz9f, Bz9g, Az9h, go_sem, yz0, Int.reduceLT, reduceLE, reduceToNat, reduceNeg, Nat.reduceLT, reduceLeDiff, reduceMul, reduceSub, reduceIte, reduceEqDiff, reduceAdd, reduceCtorEq]
  intro hM
  have hM2 := maxLen_le
  rw [w64 (by omega)]
  by_cases hl : left - xs.length < 0
  · simp [hl]
  · simp [hl]
def szRows : List (List Int) → Int → Int
  | [], l => l
  | xs :: r, l => if l - xs.length < 0 then -1 else szRows r (l - xs.length)
def szLL (xss : List (List Int)) (l : Int) : Int := if l - xss.length < 0 then -1 else szRows xss (l - xss.length)
theorem szRows_ge : ∀ (xss : List (List Int)) (l : Int), 0 ≤ szRows xss l → 0 ≤ l → (∀ xs ∈ xss, (xs.length : Int) ≤ l) ∧ szRows xss l ≤ l
  | [], l, _, _ => ⟨by simp, by simp [szRows]⟩
  | xs :: r, l, h, hl => by
    simp only [szRows] at h ⊢
    split at h
    · omega
    · rename_i hlt
      obtain ⟨h1, h2⟩ := szRows_ge r _ h (by omega)
      rw [if_neg hlt]
      refine ⟨?_, by omega⟩
      intro ys hy
      rcases List.mem_cons.1 hy with rfl | hy
      · omega
      · have := h1 ys hy; omega
theorem szLL_ge {xss : List (List Int)} {l : Int} (h : 0 ≤ szLL xss l) : (xss.length : Int) ≤ l ∧ (∀ xs ∈ xss, (xs.length : Int) ≤ l) ∧ szLL xss l ≤ l := by
  unfold szLL at h ⊢
  split at h
  · omega
  · rename_i hlt
    obtain ⟨h1, h2⟩ := szRows_ge xss _ h (by omega)
    rw [if_neg hlt]
    exact ⟨by omega, fun xs hx => by have := h1 xs hx; omega, by omega⟩
theorem k_szInt64SS (xss : List (List Int)) (left : Int) (h : 0 ≤ left ∧ left ≤ 4611686018427387904) :
    Fun Try.prog nz1m [.ro none 1 (rwn xss), iv left] (iv (szLL xss left)) := by
  refine fun_of mixed czde rfl ⟨rfl, trivial⟩ ?_
  simp only [Az7d, Bz7c, go_sem, yz0, Int.reduceLT, reduceLE, reduceToNat, reduceNeg, Nat.reduceLT, reduceLeDiff, reduceMul, reduceSub, reduceIte, reduceEqDiff, reduceAdd, reduceCtorEq]
  intro hM
  have hM2 := maxLen_le
  have hw : IntKind.i64.wrap (left - (xss.length : Int)) = left - xss.length := w64 (by omega)
  by_cases hl : left - xss.length < 0
  · simp only [Bz4e, Bz49, hw, decide_eq_true hl, go_sem, yz0, Int.reduceLT, reduceLE, reduceToNat, reduceNeg, Nat.reduceLT, reduceLeDiff, reduceMul, reduceSub, reduceIte, reduceEqDiff, reduceAdd, reduceCtorEq]
    rw [szLL, if_pos hl]
  · simp only [Bz4e, Bz49, hw, decide_eq_false hl, go_sem, yz0, Int.reduceLT, reduceLE, reduceToNat, reduceNeg, Nat.reduceLT, reduceLeDiff, reduceMul, reduceSub, reduceIte, reduceEqDiff, reduceAdd, reduceCtorEq]
    simp only [Bz7b, Bz79, go_sem, yz0, Int.reduceLT, reduceLE, reduceToNat, reduceNeg, Nat.reduceLT, reduceLeDiff, reduceMul, reduceSub, reduceIte, reduceEqDiff, reduceAdd, reduceCtorEq]
    refine wpD_lo (fun (i, _) => xss.length - i) (fun (i, l) => i ≤ xss.length ∧ 0 ≤ l ∧ l ≤ left ∧ szRows (xss.drop i) l = szLL xss left)
      (fun ((i, l) : Nat × Int) => ⟨L .any [(0, .ro none 1 (rwn xss)), (1, iv l), (5, iv i)], L .gone []⟩) (0, left - xss.length) ⟨by omega, by omega, by omega, by rw [szLL, if_neg hl]; rfl⟩ (by simp only [Bz21, go_sem, yz0, Int.reduceLT, reduceLE, reduceToNat, reduceNeg, Nat.reduceLT, reduceLeDiff, reduceMul, reduceSub, reduceIte, reduceEqDiff, reduceAdd, reduceCtorEq]; try rfl) ?_
    rintro ⟨i, l⟩ ⟨hi, h0, h1, he⟩
    by_cases hlt : (i : Int) < xss.length
    · have hlt1 : i < xss.length := by omega
      simp only [Bz21, Bz4a, Bz4d, rwn_getD hlt1, decide_eq_true hlt, go_sem, yz0, Int.reduceLT, reduceLE, reduceToNat, reduceNeg, Nat.reduceLT, reduceLeDiff, reduceMul, reduceSub, reduceIte, reduceEqDiff, reduceAdd, reduceCtorEq]
      intro hM vs
      refine ⟨⟨by omega, hlt1⟩, hlt1, ?_⟩
      refine yzg (k_szInt64S (xss.getD i []) l (by omega)) qCS trivial ?_
      rw [drop_getD hlt1 []] at he
      simp only [szRows] at he
      by_cases hs : l - (xss.getD i []).length < 0
      · simp only [Bz4c, Bz4b, if_pos hs, decide_true, go_sem, yz0, Int.reduceLT, reduceLE, reduceToNat, reduceNeg, Nat.reduceLT, reduceLeDiff, reduceMul, reduceSub, reduceIte, reduceEqDiff, reduceAdd, reduceCtorEq]
        rw [if_pos hs] at he
        rw [← he]
      · simp only [Bz4c, Bz4b, if_neg hs, decide_eq_false hs, go_sem, yz0, Int.reduceLT, reduceLE, reduceToNat, reduceNeg, Nat.reduceLT, reduceLeDiff, reduceMul, reduceSub, reduceIte, reduceEqDiff, reduceAdd, reduceCtorEq]
        rw [if_neg hs] at he
        simp only [Bz78, nat1 i _ hlt1 hM, go_sem, yz0, Int.reduceLT, reduceLE, reduceToNat, reduceNeg, Nat.reduceLT, reduceLeDiff, reduceMul, reduceSub, reduceIte, reduceEqDiff, reduceAdd, reduceCtorEq]
        exact ⟨(i + 1, _), by dsimp only; omega, ⟨by dsimp only; omega, by dsimp only; omega, by dsimp only; omega, he⟩, rfl⟩
    · have : i = xss.length := by omega
      subst this
      rw [List.drop_length] at he
      simp only [szRows] at he
      simp only [Bz21, Bz4a, Bz4d, Bz7a, decide_eq_false hlt, go_sem, yz0, Int.reduceLT, reduceLE, reduceToNat, reduceNeg, Nat.reduceLT, reduceLeDiff, reduceMul, reduceSub, reduceIte, reduceEqDiff, reduceAdd, reduceCtorEq]
      intro _
      rw [← he]
theorem k_eqInt64S (xs ys : List Int) : Fun Try.prog nz36 [.ro none 1 (ints xs), .ro none 1 (ints ys)] (bv (decide (xs = ys))) := by
  refine fun_of mixed czdk rfl ⟨rfl, trivial⟩ ?_
  simp only [Az8w, Bz8v, go_sem, yz0, Int.reduceLT, reduceLE, reduceToNat, reduceNeg, Nat.reduceLT, reduceLeDiff, reduceMul, reduceSub, reduceIte, reduceEqDiff, reduceAdd, reduceCtorEq]
  intro hx hy
  by_cases hlen : xs.length = ys.length
  · have hne : ((xs.length : Int) != (ys.length : Int)) = false := by rw [hlen]; simp
    simp only [hne, Bz4w, Bz8u, Bz8s, go_sem, yz0, Int.reduceLT, reduceLE, reduceToNat, reduceNeg, Nat.reduceLT, reduceLeDiff, reduceMul, reduceSub, reduceIte, reduceEqDiff, reduceAdd, reduceCtorEq]
    refine wpD_lo (fun i => xs.length - i) (fun i => i ≤ xs.length ∧ xs.take i = ys.take i)
      (fun i : Nat => ⟨L .any [(0, .ro none 1 (ints xs)), (1, .ro none 1 (ints ys)), (5, iv i)], L .gone []⟩) 0 (by simp) (by simp only [Bz2d, go_sem, yz0, Int.reduceLT, reduceLE, reduceToNat, reduceNeg, Nat.reduceLT, reduceLeDiff, reduceMul, reduceSub, reduceIte, reduceEqDiff, reduceAdd, reduceCtorEq]; try rfl) ?_
    rintro i ⟨hi, hti⟩
    by_cases hlt : (i : Int) < xs.length
    · have hlt1 : i < xs.length := by omega
      have hlt2 : i < ys.length := by omega
      simp only [Bz2d, Bz4x, Bz4y, yz1s hlt1, yz1s hlt2, decide_eq_true hlt, go_sem, yz0, Int.reduceLT, reduceLE, reduceToNat, reduceNeg, Nat.reduceLT, reduceLeDiff, reduceMul, reduceSub, reduceIte, reduceEqDiff, reduceAdd, reduceCtorEq]
      intro _
      refine ⟨⟨by omega, hlt1⟩, hlt1, ⟨by omega, hlt2⟩, hlt2, ?_⟩
      simp only [Bz8q, Bz8r, nat1 i _ hlt1 hx, go_sem, yz0, Int.reduceLT, reduceLE, reduceToNat, reduceNeg, Nat.reduceLT, reduceLeDiff, reduceMul, reduceSub, reduceIte, reduceEqDiff, reduceAdd, reduceCtorEq]
      refine ⟨fun h => ?_, fun h => ⟨i + 1, by omega, ⟨by omega, take_eq_step 0 hlt1 hlt2 hti (bne_false_eq h)⟩, rfl⟩⟩
      have : xs ≠ ys := by rintro rfl; simp at h
      simp [this]
    · have : i = xs.length := by omega
      subst this
      simp only [Bz2d, Bz4x, Bz4y, Bz8t, decide_eq_false hlt, go_sem, yz0, Int.reduceLT, reduceLE, reduceToNat, reduceNeg, Nat.reduceLT, reduceLeDiff, reduceMul, reduceSub, reduceIte, reduceEqDiff, reduceAdd, reduceCtorEq]
      intro _
      have : xs = ys := by rw [List.take_length, hlen, List.take_length] at hti; exact hti
      simp [this]
  · have hne : ((xs.length : Int) != (ys.length : Int)) = true := by simp; omega
    simp only [hne, Bz4w, go_sem, yz0, Int.reduceLT, reduceLE, reduceToNat, reduceNeg, Nat.reduceLT, reduceLeDiff, reduceMul, reduceSub, reduceIte, reduceEqDiff, reduceAdd, reduceCtorEq]
    have : xs ≠ ys := by rintro rfl; exact hlen rfl
    simp [this]
theorem take_eq_step' {α : Type} {xs ys : List α} {i : Nat} (d : α) (h : i < xs.length) (h' : i < ys.length) (he : xs.take i = ys.take i) (hx : xs.getD i d = ys.getD i d) : xs.take (i + 1) = ys.take (i + 1) := by
  rw [List.getD_eq_getElem?_getD, List.getD_eq_getElem?_getD, List.getElem?_eq_getElem h, List.getElem?_eq_getElem h'] at hx
  simp only [Option.getD_some] at hx
  rw [List.take_succ_eq_append_getElem h, List.take_succ_eq_append_getElem h', he, hx]
theorem yz1j (xss yss : List (List Int)) : Fun Try.prog nz1e [.ro none 1 (rwn xss), .ro none 1 (rwn yss)] (bv (decide (xss = yss))) := by
  refine fun_of mixed czda rfl ⟨rfl, trivial⟩ ?_
  simp only [Az6q, Bz6p, go_sem, yz0, Int.reduceLT, reduceLE, reduceToNat, reduceNeg, Nat.reduceLT, reduceLeDiff, reduceMul, reduceSub, reduceIte, reduceEqDiff, reduceAdd, reduceCtorEq]
  intro hx hy
  by_cases hlen : xss.length = yss.length
  · have hne : ((xss.length : Int) != (yss.length : Int)) = false := by rw [hlen]; simp
    simp only [hne, Bz41, Bz6o, Bz6m, go_sem, yz0, Int.reduceLT, reduceLE, reduceToNat, reduceNeg, Nat.reduceLT, reduceLeDiff, reduceMul, reduceSub, reduceIte, reduceEqDiff, reduceAdd, reduceCtorEq]
    refine wpD_lo (fun i => xss.length - i) (fun i => i ≤ xss.length ∧ xss.take i = yss.take i)
      (fun i : Nat => ⟨L .any [(0, .ro none 1 (rwn xss)), (1, .ro none 1 (rwn yss)), (5, iv i)], L .gone []⟩) 0 (by simp) (by simp only [Bz1y, go_sem, yz0, Int.reduceLT, reduceLE, reduceToNat, reduceNeg, Nat.reduceLT, reduceLeDiff, reduceMul, reduceSub, reduceIte, reduceEqDiff, reduceAdd, reduceCtorEq]; try rfl) ?_
    rintro i ⟨hi, hti⟩
    by_cases hlt : (i : Int) < xss.length
    · have hlt1 : i < xss.length := by omega
      have hlt2 : i < yss.length := by omega
      simp only [Bz1y, Bz42, Bz43, rwn_getD hlt1, rwn_getD hlt2, decide_eq_true hlt, go_sem, yz0, Int.reduceLT, reduceLE, reduceToNat, reduceNeg, Nat.reduceLT, reduceLeDiff, reduceMul, reduceSub, reduceIte, reduceEqDiff, reduceAdd, reduceCtorEq]
      intro _ vs
      refine ⟨⟨by omega, hlt1⟩, hlt1, ⟨by omega, hlt2⟩, hlt2, ?_⟩
      refine yzg (k_eqInt64S (xss.getD i []) (yss.getD i [])) qCS trivial ?_
      simp only [Bz6k, Bz6l, nat1 i _ hlt1 hx, go_sem, yz0, Int.reduceLT, reduceLE, reduceToNat, reduceNeg, Nat.reduceLT, reduceLeDiff, reduceMul, reduceSub, reduceIte, reduceEqDiff, reduceAdd, reduceCtorEq]
      refine ⟨fun h => ?_, fun h => ⟨i + 1, by omega, ⟨by omega, take_eq_step' [] hlt1 hlt2 hti (by simpa using h)⟩, rfl⟩⟩
      have : xss ≠ yss := by rintro rfl; simp at h
      simp [this]
    · have : i = xss.length := by omega
      subst this
      simp only [Bz1y, Bz42, Bz43, Bz6n, decide_eq_false hlt, go_sem, yz0, Int.reduceLT, reduceLE, reduceToNat, reduceNeg, Nat.reduceLT, reduceLeDiff, reduceMul, reduceSub, reduceIte, reduceEqDiff, reduceAdd, reduceCtorEq]
      intro _
      have : xss = yss := by rw [List.take_length, hlen, List.take_length] at hti; exact hti
      simp [this]
  · have hne : ((xss.length : Int) != (yss.length : Int)) = true := by simp; omega
    simp only [hne, Bz41, go_sem, yz0, Int.reduceLT, reduceLE, reduceToNat, reduceNeg, Nat.reduceLT, reduceLeDiff, reduceMul, reduceSub, reduceIte, reduceEqDiff, reduceAdd, reduceCtorEq]
    have : xss ≠ yss := by rintro rfl; exact hlen rfl
    simp [this]
theorem intsK_take {k : IntKind} {xs : List Int} {i : Nat} : (intsK k xs).take i = intsK k (xs.take i) := by simp [List.map_take]
theorem intsK_drop {k : IntKind} {xs : List Int} {i : Nat} : (intsK k xs).drop i = intsK k (xs.drop i) := by simp [List.map_drop]
theorem intsK_cat {k : IntKind} {xs ys : List Int} : intsK k xs ++ intsK k ys = intsK k (xs ++ ys) := by simp
theorem fill_step {α : Type} (xs : List α) (z d : α) (i : Nat) (h : i < xs.length) :
    ((xs.take i ++ List.replicate (xs.length - i) z).take i ++ [xs.getD i d]) ++ (xs.take i ++ List.replicate (xs.length - i) z).drop (i + 1) = xs.take (i + 1) ++ List.replicate (xs.length - (i + 1)) z := by
  have h1 : (xs.take i).length = i := by simp; omega
  have h2 : (xs.take i ++ List.replicate (xs.length - i) z).take i = xs.take i := by rw [List.take_append_of_le_length (by omega), List.take_of_length_le (by omega)]
  have h3 : (xs.take i ++ List.replicate (xs.length - i) z).drop (i + 1) = List.replicate (xs.length - (i + 1)) z := by
    rw [List.drop_append, h1, List.drop_eq_nil_of_le (by omega), List.nil_append, List.drop_replicate]
    congr 1; omega
  rw [h2, h3, List.take_succ_eq_append_getElem h]
  congr 2
  rw [List.getD_eq_getElem?_getD, List.getElem?_eq_getElem h]; rfl
theorem k_toInt64S (xs : List Int) (h : xs.length * 8 ≤ 140737488355328) : RowI Try.prog nz3e [.ro none 1 (ints xs)] (fun ys => ys = xs) := by
  refine rowI_of mixed czdv rfl ?_
  simp only [Azaj, Bzai, go_sem, yz0, Int.reduceLT, reduceLE, reduceToNat, reduceNeg, Nat.reduceLT, reduceLeDiff, reduceMul, reduceSub, reduceIte, reduceEqDiff, reduceAdd, reduceCtorEq]
  intro vs hM
  have hM2 := maxLen_le
  refine ⟨by omega, ?_⟩
  simp only [Bzah, Bzaf, ints_rep, go_sem, yz0, Int.reduceLT, reduceLE, reduceToNat, reduceNeg, Nat.reduceLT, reduceLeDiff, reduceMul, reduceSub, reduceIte, reduceEqDiff, reduceAdd, reduceCtorEq]
  refine wpD_lo (fun i => xs.length - i) (fun i => i ≤ xs.length)
    (fun i : Nat => ⟨L .any [(0, .ro none 1 (ints xs)), (3, .own 7 (vs 2 0)), (4, iv i)], L .gone [(7, .row (vs 2 0) 1 true (ints (xs.take i ++ List.replicate (xs.length - i) 0)))]⟩) 0 (by simp) (by simp only [Bz2k, List.take_zero, Nat.sub_zero, go_sem, yz0, Int.reduceLT, reduceLE, reduceToNat, reduceNeg, Nat.reduceLT, reduceLeDiff, reduceMul, reduceSub, reduceIte, reduceEqDiff, reduceAdd, reduceCtorEq]; try rfl) ?_
  intro i hi
  by_cases hlt : (i : Int) < xs.length
  · have hlt1 : i < xs.length := by omega
    have hl : (xs.take i ++ List.replicate (xs.length - i) (0 : Int)).length = xs.length := by simp; omega
    simp only [Bz2k, Bz59, Bz5a, yz1s hlt1, decide_eq_true hlt, go_sem, yz0, Int.reduceLT, reduceLE, reduceToNat, reduceNeg, Nat.reduceLT, reduceLeDiff, reduceMul, reduceSub, reduceIte, reduceEqDiff, reduceAdd, reduceCtorEq]
    intro vs2
    refine ⟨⟨by omega, hlt1⟩, hlt1, ⟨by omega, by rw [hl]; exact hlt1⟩, ⟨by rw [hl]; exact hlt1, ?_⟩⟩
    simp only [Bzae, nat1 i _ hlt1 hM, go_sem, yz0, Int.reduceLT, reduceLE, reduceToNat, reduceNeg, Nat.reduceLT, reduceLeDiff, reduceMul, reduceSub, reduceIte, reduceEqDiff, reduceAdd, reduceCtorEq]
    refine ⟨i + 1, by omega, by omega, ?_⟩
    simp only [intsK_take, intsK_drop, dnL_ints, intsK_snoc, intsK_cat, fill_step xs 0 0 i hlt1]
  · have : i = xs.length := by omega
    subst this
    simp only [Bz2k, Bz59, Bz5a, Bzag, decide_eq_false hlt, go_sem, yz0, Int.reduceLT, reduceLE, reduceToNat, reduceNeg, Nat.reduceLT, reduceLeDiff, reduceMul, reduceSub, reduceIte, reduceEqDiff, reduceAdd, reduceCtorEq]
    intro _
    exact ⟨7, vs 2 0, xs, by omega, rfl, by simp only [List.take_length, Nat.sub_self, List.replicate_zero, go_sem, yz0, Int.reduceLT, reduceLE, reduceToNat, reduceNeg, Nat.reduceLT, reduceLeDiff, reduceMul, reduceSub, reduceIte, reduceEqDiff, reduceAdd, reduceCtorEq], rfl⟩
abbrev nilS : AVal := .val (.slice none 0 0)
theorem rep_flat1 {α : Type} {m : Nat} {a : α} : (List.replicate m [a]).flatten = List.replicate m a := by
  induction m with
  | zero => rfl
  | succ m ih => rw [List.replicate_succ, List.flatten_cons, ih]; rfl
theorem rwp_fill (ps : List (Nat × List Int)) (m i : Nat) (hp : ps.length = i) (hm : i < m) (n : Nat) (xs : List Int) :
    ((rwp ps ++ List.replicate (m - i) nilS).take i ++ [.ro (some (some (n + 1))) 1 (ints xs)]) ++ (rwp ps ++ List.replicate (m - i) nilS).drop (i + 1) = rwp (ps ++ [(n, xs)]) ++ List.replicate (m - (i + 1)) nilS := by
  have h1 : (rwp ps).length = i := by rw [rwp_len]; exact hp
  have h2 : (rwp ps ++ List.replicate (m - i) nilS).take i = rwp ps := by rw [List.take_append_of_le_length (by omega), List.take_of_length_le (by omega)]
  have h3 : (rwp ps ++ List.replicate (m - i) nilS).drop (i + 1) = List.replicate (m - (i + 1)) nilS := by
    rw [List.drop_append, h1, List.drop_eq_nil_of_le (by omega), List.nil_append, List.drop_replicate]
    congr 1; omega
  rw [h2, h3, rwp_snoc]
theorem call_rowIs {P : Program} {pu : Bool} {σ : St} {g : FuncId} {As args : List AVal} {d : Nat} {s : Nat → Nat} {K : St → Prop} {Q : List Int → Prop} (h : RowI P g args Q) (hco : CoeL σ.hp [] true args As) (hg : σ.hp d = .gone) (hex : ∃ xs, Q xs)
    (hk : ∀ xs v, Q xs → K (St.put ⟨σ.tm, upd σ.hp d (.row (s v) 1 true (ints xs))⟩ (some d) (.own d (s v)))) : wpCall P pu σ g As (some d) s K := by
  refine call_fn h hco (fun _ => ?_) ?_
  · obtain ⟨xs, hx⟩ := hex
    exact ⟨_, _, ints xs, 0, ⟨xs, rfl, hx⟩, flat_intsK, rfl, rfl⟩
  · rintro rows res ⟨cs, v, ⟨xs, rfl, hx⟩, hf, rfl, rfl⟩
    refine ⟨by simp, ?_, ?_⟩
    · rw [Option.getD_some, yz1g]; exact hg
    · rw [Option.getD_some, yzr, yz1f, renL_flat (ints xs) hf, List.length_singleton, yzq]
      exact hk xs v hx
theorem k_toInt64SSn (xss : List (List Int)) (h : xss.length * 24 ≤ 140737488355328) (hx : ∀ xs ∈ xss, xs.length * 8 ≤ 140737488355328) :
    Fn Try.prog nz1n [.ro none 1 (rwn xss)] (fun rows res => ∃ v ps, rows = [.row v 1 true (rwp ps)] ∧ ps.map (·.2) = xss ∧ DJ ps ∧ res = .own 6000 v) := by
  refine con_of mixed czdh rfl (by simp) ?_
  simp only [Az8c, Bz8b, yzp, yz8, go_sem, yz0, Int.reduceLT, reduceLE, reduceToNat, reduceNeg, Nat.reduceLT, reduceLeDiff, reduceMul, reduceSub, reduceIte, reduceEqDiff, reduceAdd, reduceCtorEq]
  intro vs0 U0 hN0 vs U hN hM
  have hM2 := maxLen_le
  refine ⟨by omega, ?_⟩
  simp only [Bz8a, Bz88, rep_flat1, yzp, yz8, go_sem, yz0, Int.reduceLT, reduceLE, reduceToNat, reduceNeg, Nat.reduceLT, reduceLeDiff, reduceMul, reduceSub, reduceIte, reduceEqDiff, reduceAdd, reduceCtorEq]
  intro vs1 U1 hN1
  refine wpD_lp (fun ps => xss.length - List.length ps) (fun ps => List.map (·.2) ps = xss.take (List.length ps) ∧ List.length ps ≤ xss.length ∧ DJ ps)
    (fun ps : List (Nat × List Int) => ⟨L .any [(0, .ro none 1 (rwn xss)), (3, .own 7 (vs 2 0)), (4, iv ps.length)], L .gone [(7, .row (vs 2 0) 1 true (rwp ps ++ List.replicate (xss.length - ps.length) nilS)), (20, .gone), (5000, .gone)]⟩)
    [] ⟨rfl, by simp, by simp [DJ]⟩ (by simp only [Bz87, List.length_nil, Nat.sub_zero, rwp_nil, List.nil_append, go_sem, yz0, Int.reduceLT, reduceLE, reduceToNat, reduceNeg, Nat.reduceLT, reduceLeDiff, reduceMul, reduceSub, reduceIte, reduceEqDiff, reduceAdd, reduceCtorEq]; try rfl) ?_
  rintro ps ⟨hp1, hp2, hp3⟩
  by_cases hlt : (ps.length : Int) < xss.length
  · have hlt1 : ps.length < xss.length := by omega
    have hl : (rwp ps ++ List.replicate (xss.length - ps.length) nilS).length = xss.length := by simp [rwp_len]; omega
    simp only [Bz4n, Bz4o, rwn_getD hlt1, decide_eq_true hlt, yzp, yz8, go_sem, yz0, Int.reduceLT, reduceLE, reduceToNat, reduceNeg, Nat.reduceLT, reduceLeDiff, reduceMul, reduceSub, reduceIte, reduceEqDiff, reduceAdd, reduceCtorEq]
    intro vs2 U2 hN2 hM3 vs3 U3 hN3
    refine ⟨⟨by omega, hlt1⟩, hlt1, ?_⟩
    refine call_rowIs (k_toInt64S (xss.getD ps.length []) (hx _ (yz1w hlt1 _))) qCS rfl ⟨_, rfl⟩ ?_
    rintro ys v rfl
    simp only [go_sem, yz0, Int.reduceLT, reduceLE, reduceToNat, reduceNeg, Nat.reduceLT, reduceLeDiff, reduceMul, reduceSub, reduceIte, reduceEqDiff, reduceAdd, reduceCtorEq]
    refine ⟨⟨by omega, by rw [hl]; exact hlt1⟩, ⟨by rw [hl]; exact hlt1, ?_⟩⟩
    simp only [Bz86, yzp, yz8, nat1 _ _ hlt1 hM, rwp_fill ps _ _ rfl hlt1, go_sem, yz0, Int.reduceLT, reduceLE, reduceToNat, reduceNeg, Nat.reduceLT, reduceLeDiff, reduceMul, reduceSub, reduceIte, reduceEqDiff, reduceAdd, reduceCtorEq]
    intro vs4 U4 hN4
    have hU := hN3.hp 7
    simp only [AObj.uses, go_sem, yz0, Int.reduceLT, reduceLE, reduceToNat, reduceNeg, Nat.reduceLT, reduceLeDiff, reduceMul, reduceSub, reduceIte, reduceEqDiff, reduceAdd, reduceCtorEq] at hU
    have hold := usesL_rwp hU.2
    refine ⟨ps ++ [(vs3 6 v, xss.getD ps.length [])], by simp; omega, ⟨?_, by simp; omega, hp3.snoc fun p hp => ?_⟩, by simp only [List.length_append, List.length_singleton]⟩
    · rw [List.map_append, hp1, List.length_append, List.length_singleton, List.take_succ_eq_append_getElem hlt1, List.getD_eq_getElem?_getD, List.getElem?_eq_getElem hlt1]; rfl
    · rcases hold p hp with h | h
      · exact .inl h
      · exact .inr fun e => hN3.new 6 v (e ▸ h)
  · have hlen : ps.length = xss.length := by omega
    rw [hlen, List.take_length] at hp1
    simp only [Bz4n, Bz4o, Bz89, decide_eq_false hlt, yzp, yz8, go_sem, yz0, Int.reduceLT, reduceLE, reduceToNat, reduceNeg, Nat.reduceLT, reduceLeDiff, reduceMul, reduceSub, reduceIte, reduceEqDiff, reduceAdd, reduceCtorEq]
    intro vs2 U2 hN2 hM3 vs3 U3 hN3
    refine ⟨[7], by simp, by simp, by simp, ?_⟩
    simp only [hlen, Nat.sub_self, List.replicate_zero, List.append_nil, range1, List.length_singleton, renL_rwp, Nat.not_lt_zero, range1, yz1v, yz22, ren_ro, rnNm_n, yz21, rnNm_o, rnNm_s, ren_st, yz20, yz1h, yz12, yzl, yz1o, yz1q, yz1p, yz1f, yz1r, yzv, yzz, yzx, yz10, yz1b, yz1a, yzq, yzs, yz11, yzw, yz1c, yz19, List.range_zero, yzu, yzr, yzy, yz1n, yz1g, yz1m, AVal.fresh, freshL, yzk, yz1d, AObj.fresh, id, Option.isSome_some, or_true, true_or, go_sem, yz0, Int.reduceLT, reduceLE, reduceToNat, reduceNeg, Nat.reduceLT, reduceLeDiff, reduceMul, reduceSub, reduceIte, reduceEqDiff, reduceAdd, reduceCtorEq]
    exact ⟨fresh_rwp, vs 2 0, ps, by simp, hp1, hp3, rfl⟩
end Go.Ab
namespace Go.Ab
def SI (l : List Int) : Prop := l.Pairwise (· < ·)
def put : List Int → Int → List Int
  | [], n => [n]
  | x :: xs, n => if n ≤ x then (if n < x then n :: x :: xs else x :: xs) else x :: put xs n
theorem put_mem {n y : Int} : ∀ {xs : List Int}, y ∈ put xs n ↔ y = n ∨ y ∈ xs
  | [] => by simp [put]
  | x :: xs => by
    simp only [put]
    split
    · split
      · simp
      · have : x = n := by omega
        subst this
        simp
    · rw [List.mem_cons, put_mem, List.mem_cons]
      constructor
      · rintro (h | h | h)
        · exact .inr (.inl h)
        · exact .inl h
        · exact .inr (.inr h)
      · rintro (h | h | h)
        · exact .inr (.inl h)
        · exact .inl h
        · exact .inr (.inr h)
theorem put_SI {n : Int} : ∀ {xs : List Int}, SI xs → SI (put xs n)
  | [], _ => by simp [put, SI]
  | x :: xs, h => by
    have h0 := h
    unfold SI at h
    rw [List.pairwise_cons] at h
    simp only [put]
    split
    · split
      · unfold SI
        rw [List.pairwise_cons]
        refine ⟨fun y hy => ?_, h0⟩
        rcases List.mem_cons.1 hy with rfl | hy
        · assumption
        · have := h.1 y hy; omega
      · exact h0
    · unfold SI
      rw [List.pairwise_cons]
      refine ⟨fun y hy => ?_, put_SI h.2⟩
      rcases put_mem.1 hy with rfl | hy
      · omega
      · exact h.1 y hy
def nrm (l : List Int) : List Int := l.foldl put []
theorem nrm_acc : ∀ (l acc : List Int), SI acc → SI (l.foldl put acc) ∧ ∀ y, y ∈ l.foldl put acc ↔ y ∈ acc ∨ y ∈ l
  | [], acc, h => ⟨h, by simp⟩
  | x :: l, acc, h => by
    obtain ⟨h1, h2⟩ := nrm_acc l (put acc x) (put_SI h)
    refine ⟨h1, fun y => ?_⟩
    rw [List.foldl_cons, h2, put_mem, List.mem_cons]
    constructor
    · rintro ((h | h) | h)
      · exact .inr (.inl h)
      · exact .inl h
      · exact .inr (.inr h)
    · rintro (h | h | h)
      · exact .inl (.inr h)
      · exact .inl (.inl h)
      · exact .inr h
theorem nrm_SI (l : List Int) : SI (nrm l) := (nrm_acc l [] (by simp [SI])).1
theorem nrm_mem {l : List Int} {y : Int} : y ∈ nrm l ↔ y ∈ l := by
  have := (nrm_acc l [] (by simp [SI])).2 y
  simpa [nrm] using this
end Go.Ab
namespace Go.Proofs
end Go.Proofs
namespace Go.Ab
open Go.Proofs
attribute [go_sem] dnL_rwo mvL_rwo rwo_len
theorem yzn {hp : Nat → AObj} {m : List Nat} {len : Bool} {xs : List Int} : CoeL hp m len (ints xs) (ints xs) = True := eq_true yz1i
end Go.Ab
namespace Go.Ab
open Go.Proofs
instance (l : List Int) : Decidable (SI l) := inferInstanceAs (Decidable (l.Pairwise (· < ·)))
theorem SI_len {n : Int} : ∀ {set : List Int}, SI set → (∀ x ∈ set, 0 ≤ x ∧ x < n) → (set.length : Int) ≤ n ∨ set = []
  | set, h, hx => by
    by_cases h0 : set = []
    · exact .inr h0
    left
    have key : ∀ i, i < set.length → (i : Int) ≤ set.getD i 0 := by
      intro i
      induction i with
      | zero =>
        intro hi
        exact (hx _ (yz1w hi 0)).1
      | succ i ih =>
        intro hi
        have h1 := ih (by omega)
        unfold SI at h
        rw [List.pairwise_iff_getElem] at h
        have h2 := h i (i + 1) (by omega) hi (by omega)
        have e1 : set.getD i 0 = set[i] := by rw [List.getD_eq_getElem?_getD, List.getElem?_eq_getElem (by omega)]; rfl
        have e2 : set.getD (i + 1) 0 = set[i + 1] := by rw [List.getD_eq_getElem?_getD, List.getElem?_eq_getElem hi]; rfl
        rw [e1] at h1; rw [e2]; omega
    have hp : 0 < set.length := List.length_pos_iff.2 h0
    have h1 := key (set.length - 1) (by omega)
    have h2 := (hx _ (yz1w (show set.length - 1 < set.length by omega) 0)).2
    omega
end Go.Ab
namespace Go.Ab
open Go.Proofs
def seqI (k : Int) : Nat → List Int
  | 0 => []
  | m + 1 => k :: seqI (k + 1) m
theorem yz1y : ∀ (m : Nat) (k : Int), (seqI k m).length = m
  | 0, _ => rfl
  | m + 1, k => by simp [seqI, yz1y m]
theorem seqI_snoc : ∀ (m : Nat) (k : Int), seqI k m ++ [k + m] = seqI k (m + 1)
  | 0, k => by simp [seqI]
  | m + 1, k => by
    have := seqI_snoc m (k + 1)
    simp only [seqI, List.cons_append] at this ⊢
    rw [← this]
    congr 3
    omega
theorem yzm (xs : List Int) (nn : Bool) (k : Int) (h : 0 ≤ k ∧ k ≤ 4611686018427387904) (hx : (xs.length : Int) ≤ 1000000000) :
    Con Try.prog nz1o [.row 0 1 nn (ints xs)] [.own 5000 0, iv k] true fun outs rows res => outs = [.row 0 1 nn (ints (seqI k xs.length))] ∧ rows = [] ∧ res = iv (k + xs.length) := by
  refine con_sh mixed cz8z rfl (by simp) ?_
  simp only [Az52, Bz51, Bz4z, go_sem, yz0, Int.reduceLT, reduceLE, reduceToNat, reduceNeg, Nat.reduceLT, reduceLeDiff, reduceMul, reduceSub, reduceIte, reduceEqDiff, reduceAdd, reduceCtorEq]
  refine wpD_lo (fun i => xs.length - i) (fun i => i ≤ xs.length)
    (fun i : Nat => ⟨L .any [(0, .own 5000 0), (1, iv (k + i)), (5, iv i)], L .gone [(5000, .row 0 1 nn (ints (seqI k i ++ xs.drop i)))]⟩) 0 (by simp) (by simp only [Bz1i, seqI, List.nil_append, List.drop_zero, go_sem, yz0, Int.reduceLT, reduceLE, reduceToNat, reduceNeg, Nat.reduceLT, reduceLeDiff, reduceMul, reduceSub, reduceIte, reduceEqDiff, reduceAdd, reduceCtorEq]; try simp) ?_
  rintro i hi
  by_cases hlt : (i : Int) < xs.length
  · have hlt1 : i < xs.length := by omega
    have hl : (seqI k i ++ xs.drop i).length = xs.length := by simp [yz1y]; omega
    have hlt2 : (i : Int) < ((seqI k i ++ xs.drop i).length : Nat) := by rw [hl]; exact hlt
    simp only [Bz1i, Bz2e, Bz2f, hl, decide_eq_true hlt, go_sem, yz0, Int.reduceLT, reduceLE, reduceToNat, reduceNeg, Nat.reduceLT, reduceLeDiff, reduceMul, reduceSub, reduceIte, reduceEqDiff, reduceAdd, reduceCtorEq]
    intro hM
    refine ⟨⟨by omega, hlt1⟩, by omega, ?_⟩
    have e1 : ((seqI k i ++ xs.drop i).take i ++ [k + (i : Int)]) ++ (seqI k i ++ xs.drop i).drop (i + 1) = seqI k (i + 1) ++ xs.drop (i + 1) := by
      rw [List.take_append_of_le_length (by rw [yz1y]; omega), List.take_of_length_le (by rw [yz1y]; omega), seqI_snoc, List.drop_append, yz1y, List.drop_eq_nil_of_le (by rw [yz1y]; omega), List.nil_append, List.drop_drop]
      congr 2; omega
    have w2 : IntKind.i64.wrap (k + (i : Int) + 1) = k + ((i + 1 : Nat) : Int) := by rw [w64 (by omega)]; omega
    simp only [Bz8x, Bz8y, nat1 i _ hlt1 hM, w2, go_sem, yz0, Int.reduceLT, reduceLE, reduceToNat, reduceNeg, Nat.reduceLT, reduceLeDiff, reduceMul, reduceSub, reduceIte, reduceEqDiff, reduceAdd, reduceCtorEq]
    refine ⟨i + 1, by omega, by omega, ?_⟩
    simp only [intsK_take, intsK_drop, dnL_ints, intsK_snoc, intsK_cat, e1]
  · have : i = xs.length := by omega
    subst this
    have hl : (seqI k xs.length ++ xs.drop xs.length).length = xs.length := by simp [yz1y]
    simp only [Bz1i, Bz2e, Bz2f, Bz50, yz1y, decide_eq_false hlt, List.drop_length, List.append_nil, go_sem, yz0, Int.reduceLT, reduceLE, reduceToNat, reduceNeg, Nat.reduceLT, reduceLeDiff, reduceMul, reduceSub, reduceIte, reduceEqDiff, reduceAdd, reduceCtorEq]
    intro _
    refine ⟨[], by simp, by simp, by simp, ?_⟩
    simp only [range1, List.nil_append, Nat.not_lt_zero, range1, yz1v, yz22, ren_ro, rnNm_n, yz21, rnNm_o, rnNm_s, ren_st, yz20, yz1h, yz12, yzl, yz1o, yz1q, yz1p, yz1f, yz1r, yzv, yzz, yzx, yz10, yz1b, yz1a, yzq, yzs, yz11, yzw, yz1c, yz19, List.range_zero, yzu, yzr, yzy, yz1n, yz1g, yz1m, AVal.fresh, freshL, yzk, yz1d, AObj.fresh, id, Option.isSome_some, or_true, true_or, go_sem, yz0, Int.reduceLT, reduceLE, reduceToNat, reduceNeg, Nat.reduceLT, reduceLeDiff, reduceMul, reduceSub, reduceIte, reduceEqDiff, reduceAdd, reduceCtorEq]
    try simp
theorem k_markNil (k : Int) : Fun Try.prog nz1o [.ro none 1 [], iv k] (iv k) := by
  refine fun_of mixed cz8z rfl ⟨rfl, trivial⟩ ?_
  simp only [Az52, Bz51, Bz4z, go_sem, yz0, Int.reduceLT, reduceLE, reduceToNat, reduceNeg, Nat.reduceLT, reduceLeDiff, reduceMul, reduceSub, reduceIte, reduceEqDiff, reduceAdd, reduceCtorEq]
  refine wpD_lo (fun _ : Unit => 0) (fun _ => True) (fun _ => ⟨L .any [(0, .ro none 1 []), (1, iv k), (5, iv 0)], L .gone []⟩) () trivial (by simp only [Bz1i, go_sem, yz0, Int.reduceLT, reduceLE, reduceToNat, reduceNeg, Nat.reduceLT, reduceLeDiff, reduceMul, reduceSub, reduceIte, reduceEqDiff, reduceAdd, reduceCtorEq]; try rfl) ?_
  rintro _ _
  simp only [Bz1i, Bz2e, Bz2f, Bz50, go_sem, yz0, Int.reduceLT, reduceLE, reduceToNat, reduceNeg, Nat.reduceLT, reduceLeDiff, reduceMul, reduceSub, reduceIte, reduceEqDiff, reduceAdd, reduceCtorEq]
  try simp
theorem k_held (xs : List Int) (k : Int) (h : 0 ≤ k ∧ k ≤ 4611686018427387904) (hx : (xs.length : Int) ≤ 1000000000) (he : xs = seqI k xs.length) :
    Fun Try.prog nz37 [.ro none 1 (ints xs), iv k] (iv (k + xs.length)) := by
  refine fun_of mixed czdl rfl ⟨rfl, trivial⟩ ?_
  simp only [Az96, Bz95, Bz93, go_sem, yz0, Int.reduceLT, reduceLE, reduceToNat, reduceNeg, Nat.reduceLT, reduceLeDiff, reduceMul, reduceSub, reduceIte, reduceEqDiff, reduceAdd, reduceCtorEq]
  have hg : ∀ (m : Nat) (k : Int) (i : Nat), i < m → (seqI k m).getD i 0 = k + i := by
    intro m
    induction m with
    | zero => intro k i hi; omega
    | succ m ih =>
      intro k i hi
      cases i with
      | zero => simp [seqI]
      | succ i =>
        have := ih (k + 1) i (by omega)
        simp only [seqI, List.getD_cons_succ, this]
        omega
  refine wpD_lo (fun i => xs.length - i) (fun i => i ≤ xs.length)
    (fun i : Nat => ⟨L .any [(0, .ro none 1 (ints xs)), (1, iv (k + i)), (5, iv i)], L .gone []⟩) 0 (by simp) (by simp only [Bz2g, go_sem, yz0, Int.reduceLT, reduceLE, reduceToNat, reduceNeg, Nat.reduceLT, reduceLeDiff, reduceMul, reduceSub, reduceIte, reduceEqDiff, reduceAdd, reduceCtorEq]; try simp) ?_
  rintro i hi
  by_cases hlt : (i : Int) < xs.length
  · have hlt1 : i < xs.length := by omega
    have e1 : xs.getD i 0 = k + i := by rw [he]; exact hg _ k i hlt1
    have w2 : IntKind.i64.wrap (k + (i : Int) + 1) = k + ((i + 1 : Nat) : Int) := by rw [w64 (by omega)]; omega
    simp only [Bz2g, Bz53, Bz54, Bz90, Bz91, Bz92, yz1s hlt1, e1, bne_self_eq_false, decide_eq_true hlt, go_sem, yz0, Int.reduceLT, reduceLE, reduceToNat, reduceNeg, Nat.reduceLT, reduceLeDiff, reduceMul, reduceSub, reduceIte, reduceEqDiff, reduceAdd, reduceCtorEq]
    intro hM
    refine ⟨⟨by omega, hlt1⟩, hlt1, ?_⟩
    simp only [nat1 i _ hlt1 hM, w2, go_sem, yz0, Int.reduceLT, reduceLE, reduceToNat, reduceNeg, Nat.reduceLT, reduceLeDiff, reduceMul, reduceSub, reduceIte, reduceEqDiff, reduceAdd, reduceCtorEq]
    exact ⟨i + 1, by omega, by omega, rfl⟩
  · have : i = xs.length := by omega
    subst this
    simp only [Bz2g, Bz53, Bz54, Bz94, decide_eq_false hlt, go_sem, yz0, Int.reduceLT, reduceLE, reduceToNat, reduceNeg, Nat.reduceLT, reduceLeDiff, reduceMul, reduceSub, reduceIte, reduceEqDiff, reduceAdd, reduceCtorEq]
    try (intro _; trivial)
theorem call_rowM {P : Program} {σ : St} {g : FuncId} {As args : List AVal} {d : Option Nat} {s : Nat → Nat} {K : St → Prop} {r v : Nat} {cs cs' : List AVal} {nn : Bool} {R : List AObj → List AObj → AVal → Prop}
    (h : Con P g [.row 0 1 nn cs'] (.own 5000 0 :: args) true R) (hr : σ.hp r = .row v 1 nn cs) (hco : CoeL σ.hp [r] false cs' cs) (ha : CoeL σ.hp [r] false args As)
    (hk : ∀ outs rows res, R outs rows res → rows = [] ∧ ∃ o, outs = [o] ∧ K (St.put ⟨σ.tm, upd σ.hp r (o.ren (rid [r] (d.getD 0) 0) (sv σ.hp [r] s))⟩ d (res.ren (rid [r] (d.getD 0) 0) (sv σ.hp [r] s)))) :
    wpCall P false σ g (.own r v :: As) d s K := by
  refine .inl ⟨[r], [.row 0 1 nn cs'], .own 5000 0 :: args, true, R, h, ⟨by simp, rfl, by simp, by simp [hr], ?_⟩, ?_, (fun e => by cases e), ?_⟩
  · intro j B r' hB hr'
    cases j with
    | succ j => simp at hB
    | zero =>
      simp at hB hr'; subst hB; subst hr'
      simp only [ObjCoe, hr]
      exact ⟨trivial, v, cs, rfl, hco⟩
  · rw [yz6]
    refine ⟨?_, ha⟩
    simp only [Coe]
    exact ⟨0, r, v, rfl, rfl, rfl, rfl, by rw [hr]; rfl⟩
  · intro outs rows res hR
    obtain ⟨rfl, o, rfl, hK⟩ := hk outs rows res hR
    refine ⟨rfl, by simp, by simp, ?_⟩
    rw [callHp_m]
    exact hK
def totL : List (Nat × List Int) → Int
  | [] => 0
  | p :: ps => p.2.length + totL ps
theorem totL_nn : ∀ ps, 0 ≤ totL ps
  | [] => by simp [totL]
  | p :: ps => by have := totL_nn ps; simp only [totL]; omega
abbrev MarkR (k m : Int) (outs rows : List AObj) (res : AVal) : Prop := outs = [] ∧ rows = [] ∧ ∃ v, (∃ k', v = Value.int .i64 k' ∧ k ≤ k' ∧ k' ≤ k + m) ∧ res = .val v
theorem k_markInt64SS (ps : List (Nat × List Int)) (hd : DJ ps) (k : Int) (h : 0 ≤ k ∧ k + totL ps ≤ 4611686018427387904) (hx : ∀ p ∈ ps, (p.2.length : Int) ≤ 1000000000) :
    Con Try.prog nz5 [] [.ro (some (some 0)) 1 (rwp ps), iv k] true (MarkR k (totL ps)) := by
  refine con_sh mixed cz1c rfl (by simp) ?_
  simp only [Az1a, Bz19, Bz17, yzp, yz8, go_sem, yz0, Int.reduceLT, reduceLE, reduceToNat, reduceNeg, Nat.reduceLT, reduceLeDiff, reduceMul, reduceSub, reduceIte, reduceEqDiff, reduceAdd, reduceCtorEq]
  intro vs0 U0 hN0 vs1 U1 hN1
  refine wpD_lp (fun (_, rest, _) => List.length rest) (fun (pre, rest, k') => k ≤ k' ∧ k' + totL rest ≤ k + totL ps ∧ DJ rest ∧ (∀ p ∈ rest, (List.length p.2 : Int) ≤ 1000000000) ∧ List.length pre + List.length rest = ps.length)
    (fun ((pre, rest, k') : List AVal × List (Nat × List Int) × Int) => ⟨L .any [(0, .ro (some (some 0)) 1 (pre ++ rwp rest)), (1, iv k'), (5, iv pre.length)], L .gone [(5000, .gone), (5001, .gone), (5002, .gone), (5003, .gone), (5004, .gone), (5005, .gone), (5006, .gone), (5007, .gone), (5008, .gone), (5009, .gone)]⟩)
    ([], ps, k) ⟨Int.le_refl _, Int.le_refl _, hd, hx, by simp⟩ (by simp only [Bz0, List.nil_append, go_sem, yz0, Int.reduceLT, reduceLE, reduceToNat, reduceNeg, Nat.reduceLT, reduceLeDiff, reduceMul, reduceSub, reduceIte, reduceEqDiff, reduceAdd, reduceCtorEq]; try rfl) ?_
  rintro ⟨pre, rest, k'⟩ ⟨j1, j2, j3, j4, j5⟩
  cases rest with
  | nil =>
    have hlt : decide ((pre.length : Int) < (pre.length : Int)) = false := by simp
    simp only [Bz1, Bz7, Bz18, rwp_nil, List.append_nil, hlt, yzp, yz8, go_sem, yz0, Int.reduceLT, reduceLE, reduceToNat, reduceNeg, Nat.reduceLT, reduceLeDiff, reduceMul, reduceSub, reduceIte, reduceEqDiff, reduceAdd, reduceCtorEq]
    intro vs U hN hM vs2 U2 hN2
    refine ⟨[], by simp, by simp, by simp, ?_⟩
    simp only [Nat.not_lt_zero, range1, yz1v, yz22, ren_ro, rnNm_n, yz21, rnNm_o, rnNm_s, ren_st, yz20, yz1h, yz12, yzl, yz1o, yz1q, yz1p, yz1f, yz1r, yzv, yzz, yzx, yz10, yz1b, yz1a, yzq, yzs, yz11, yzw, yz1c, yz19, List.range_zero, yzu, yzr, yzy, yz1n, yz1g, yz1m, AVal.fresh, freshL, yzk, yz1d, AObj.fresh, id, Option.isSome_some, or_true, true_or, go_sem, yz0, Int.reduceLT, reduceLE, reduceToNat, reduceNeg, Nat.reduceLT, reduceLeDiff, reduceMul, reduceSub, reduceIte, reduceEqDiff, reduceAdd, reduceCtorEq]
    refine ⟨rfl, rfl, _, ⟨k', rfl, j1, ?_⟩, rfl⟩
    simp only [totL] at j2; omega
  | cons p rest =>
    have hl : (pre ++ rwp (p :: rest)).length = pre.length + (rest.length + 1) := by simp [rwp_len]
    have hlt : decide ((pre.length : Int) < ((pre.length + (rest.length + 1) : Nat) : Int)) = true := decide_eq_true (by omega)
    have hgi : (pre ++ rwp (p :: rest))[pre.length]? = some (.ro (some (some (p.1 + 1))) 1 (ints p.2)) := by
      rw [List.getElem?_append_right (Nat.le_refl _), Nat.sub_self]; rfl
    simp only [totL] at j2
    have hrest : DJ rest := (List.pairwise_cons.1 j3).2
    have htn := totL_nn rest
    have hxp := j4 p (by simp)
    have e1 : rwp (p :: rest) = .ro (some (some (p.1 + 1))) 1 (ints p.2) :: rwp rest := rfl
    simp only [Bz1, hl, hlt, yzp, yz8, go_sem, yz0, Int.reduceLT, reduceLE, reduceToNat, reduceNeg, Nat.reduceLT, reduceLeDiff, reduceMul, reduceSub, reduceIte, reduceEqDiff, reduceAdd, reduceCtorEq]
    intro vs U hN hM
    simp only [Bz7, yzp, wpD_gh, go_sem, yz0, Int.reduceLT, reduceLE, reduceToNat, reduceNeg, Nat.reduceLT, reduceLeDiff, reduceMul, reduceSub, reduceIte, reduceEqDiff, reduceAdd, reduceCtorEq]
    intro _
    by_cases hp : p.2 = []
    · -- nothing to write
      refine ⟨[], ?_⟩
      have hgd : (pre ++ rwp (p :: rest)).getD pre.length .any = .ro (some (some (p.1 + 1))) 1 [] := by
        rw [List.getD_eq_getElem?_getD, hgi, hp]; rfl
      simp only [gwp_nil, hgd, hl, yzp, yz8, go_sem, yz0, Int.reduceLT, reduceLE, reduceToNat, reduceNeg, Nat.reduceLT, reduceLeDiff, reduceMul, reduceSub, reduceIte, reduceEqDiff, reduceAdd, reduceCtorEq]
      intro vs2 U2 hN2
      refine ⟨⟨by omega, by omega⟩, by omega, ?_⟩
      refine yzg (k_markNil k') qCS trivial ?_
      simp only [Bz6, yzp, yz8, go_sem, yz0, Int.reduceLT, reduceLE, reduceToNat, reduceNeg, Nat.reduceLT, reduceLeDiff, reduceMul, reduceSub, reduceIte, reduceEqDiff, reduceAdd, reduceCtorEq]
      intro vs3 U3 hN3
      have w1 : IntKind.i64.wrap ((pre.length : Int) + 1) = ((pre.length + 1 : Nat) : Int) := nat1 pre.length _ (show pre.length < (pre ++ rwp (p :: rest)).length by rw [hl]; omega) (by rw [hl]; exact hM)
      rw [w1]
      refine ⟨(pre ++ [.ro (some (some (p.1 + 1))) 1 (ints p.2)], rest, k'), by simp, ⟨j1, ?_, hrest, fun q hq => j4 q (by simp [hq]), by simp at j5 ⊢; omega⟩, by simp only [e1, List.append_assoc, List.singleton_append, List.length_append, List.length_singleton]⟩
      rw [hp] at j2; simp at j2; exact j2
    · refine ⟨[.tt 0 pre.length 900], 1, pre ++ rwp (p :: rest), p.1, 1, ints p.2, rfl, hgi, ?_, rfl, fun m => ?_⟩
      · intro e; exact hp (by simpa using e)
      have hne : ints p.2 ≠ [] := fun e => hp (by simpa using e)
      have hany : AVal.wo p.1 (.ro (some (some (p.1 + 1))) 1 (ints p.2)) = .any := by
        cases hq : p.2 with
        | nil => exact absurd hq hp
        | cons x xs => simp [AVal.wo]
      have hother : ∀ q ∈ rest, q.2 = [] ∨ q.1 ≠ p.1 := by
        intro q hq
        rcases (List.pairwise_cons.1 j3).1 q hq with h | h | h
        · exact absurd h hp
        · exact .inl h
        · exact .inr (Ne.symm h)
      have e2 : (woL p.1 (pre ++ rwp (p :: rest))).set pre.length (.own 900 m) = woL p.1 pre ++ (.own 900 m :: rwp rest) := by
        have e3 : woL p.1 (rwp (p :: rest)) = .any :: rwp rest := by
          rw [e1]; simp only [woL, hany, yz18 hother]
        rw [woL_app, e3, List.set_append_right _ _ (by rw [woL_len]; exact Nat.le_refl _), woL_len, Nat.sub_self]; rfl
      have hl2 : (woL p.1 pre ++ (AVal.own 900 m :: rwp rest)).length = pre.length + (rest.length + 1) := by simp [rwp_len, woL_len]
      have hgd : (woL p.1 pre ++ (AVal.own 900 m :: rwp rest)).getD pre.length .any = .own 900 m := by
        rw [List.getD_eq_getElem?_getD, List.getElem?_append_right (by rw [woL_len]; exact Nat.le_refl _), woL_len, Nat.sub_self]; rfl
      rw [gwp_nil, tt_L, e2]
      simp only [woT, woO, woV_val, woO_gone, woL_ints, hl2, hgd, yzp, yz8, go_sem, yz0, Int.reduceLT, reduceLE, reduceToNat, reduceNeg, Nat.reduceLT, reduceLeDiff, reduceMul, reduceSub, reduceIte, reduceEqDiff, reduceAdd, reduceCtorEq]
      intro vs2 U2 hN2
      refine ⟨⟨by omega, by omega⟩, by omega, ?_⟩
      refine call_rowM (yzm p.2 true k' (by omega) hxp) (r := 900) (v := m) qWS yz1i qCS ?_
      rintro outs rows res ⟨rfl, rfl, rfl⟩
      refine ⟨rfl, _, rfl, ?_⟩
      simp only [Bz6, yzp, yz8, Nat.not_lt_zero, range1, yz1v, yz22, ren_ro, rnNm_n, yz21, rnNm_o, rnNm_s, ren_st, yz20, yz1h, yz12, yzl, yz1o, yz1q, yz1p, yz1f, yz1r, yzv, yzz, yzx, yz10, yz1b, yz1a, yzq, yzs, yz11, yzw, yz1c, yz19, List.range_zero, yzu, yzr, yzy, yz1n, yz1g, yz1m, AVal.fresh, freshL, yzk, yz1d, AObj.fresh, id, Option.isSome_some, or_true, true_or, go_sem, yz0, Int.reduceLT, reduceLE, reduceToNat, reduceNeg, Nat.reduceLT, reduceLeDiff, reduceMul, reduceSub, reduceIte, reduceEqDiff, reduceAdd, reduceCtorEq]
      intro vs3 U3 hN3
      have w1 : IntKind.i64.wrap ((pre.length : Int) + 1) = ((pre.length + 1 : Nat) : Int) := nat1 pre.length _ (show pre.length < (pre ++ rwp (p :: rest)).length by rw [hl]; omega) (by rw [hl]; exact hM)
      rw [w1]
      exact ⟨(woL p.1 pre ++ [.own 900 m], rest, k' + p.2.length), by simp, ⟨by dsimp only; omega, by dsimp only; omega, hrest, fun q hq => j4 q (by simp [hq]), by simp [woL_len] at j5 ⊢; omega⟩, by simp only [List.append_assoc, List.singleton_append, List.length_append, List.length_singleton, woL_len]⟩
end Go.Ab
namespace Go.Ab
open Go.Proofs
theorem szRows_tot : ∀ (ps : List (Nat × List Int)) (l : Int), 0 ≤ szRows (ps.map (·.2)) l → 0 ≤ l → totL ps ≤ l
  | [], l, _, h => by simpa [totL] using h
  | p :: ps, l, h, hl => by
    simp only [List.map_cons, szRows] at h
    split at h
    · omega
    · have := szRows_tot ps _ h (by omega)
      simp only [totL]; omega
theorem szLL_tot {ps : List (Nat × List Int)} {l : Int} (h : 0 ≤ szLL (ps.map (·.2)) l) (hl : 0 ≤ l) : totL ps ≤ l := by
  unfold szLL at h
  split at h
  · omega
  · have := szRows_tot ps _ h (by omega); omega
theorem coeL_rwp_t {hp : Nat → AObj} {m : List Nat} {len : Bool} {ps : List (Nat × List Int)} : CoeL hp m len (rwn (ps.map (·.2))) (rwp ps) = True := eq_true coeL_rwp
theorem yz1l {P : Program} {σ : St} {g : FuncId} {A : AVal} {x y : Value} {d : Option Nat} {s : Nat → Nat} {K : St → Prop} {r v : Nat} {xs ys : List Int}
    (h : Con P g [.row 0 1 true (ints xs)] [.own 5000 0, .val x] true fun outs rows res => outs = [.row 0 1 true (ints ys)] ∧ rows = [] ∧ res = .val y) (hr : σ.hp r = .row v 1 true (ints xs)) (hA : A = .val x)
    (hk : K (St.put ⟨σ.tm, upd σ.hp r (.row v 1 true (ints ys))⟩ d (.val y))) : wpCall P false σ g [.own r v, A] d s K := by
  subst hA
  refine call_rowM h hr yz1i qCS ?_
  rintro outs rows res ⟨rfl, rfl, rfl⟩
  refine ⟨rfl, _, rfl, ?_⟩
  have e : sv σ.hp [r] s 0 = v := by simp [sv, hr, AObj.ver]
  rw [yz1f, e, yzl, yz1v]
  exact hk
theorem dec10 : decide ((1 : Int) < 0) = false := by decide
theorem clR_row {p : Nat → Bool} {v k : Nat} {nn : Bool} {cs : List AVal} : AObj.cl p (.row v k nn cs) = .row v k nn (clL p cs) := rfl
theorem clR_box {p : Nat → Bool} {v : Nat} {cs : List AVal} : AObj.cl p (.box v cs) = .box v (clL p cs) := rfl
theorem clR_gone {p : Nat → Bool} : AObj.cl p .gone = .gone := rfl
end Go.Ab
namespace Go.Ab
open Go.Proofs
def okRows : Int → List (List Int) → Prop
  | _, [] => True
  | k, x :: xs => x = seqI k x.length ∧ okRows (k + x.length) xs
def totX : List (List Int) → Int
  | [] => 0
  | x :: xs => x.length + totX xs
theorem totX_nn : ∀ xs, 0 ≤ totX xs
  | [] => by simp [totX]
  | x :: xs => by have := totX_nn xs; simp only [totX]; omega
theorem k_heldSS (xss : List (List Int)) (k : Int) (h : 0 ≤ k ∧ k + totX xss ≤ 4611686018427387904) (hx : ∀ x ∈ xss, (x.length : Int) ≤ 1000000000) (ho : okRows k xss) :
    Fun Try.prog nz9 [.ro none 1 (rwn xss), iv k] (iv (k + totX xss)) := by
  refine fun_of mixed czdd rfl ⟨rfl, trivial⟩ ?_
  simp only [Az77, Bz76, Bz74, go_sem, yz0, Int.reduceLT, reduceLE, reduceToNat, reduceNeg, Nat.reduceLT, reduceLeDiff, reduceMul, reduceSub, reduceIte, reduceEqDiff, reduceAdd, reduceCtorEq]
  refine wpD_lo (fun (i, _) => xss.length - i) (fun (i, k') => i ≤ xss.length ∧ okRows k' (xss.drop i) ∧ k' + totX (xss.drop i) = k + totX xss ∧ k ≤ k')
    (fun ((i, k') : Nat × Int) => ⟨L .any [(0, .ro none 1 (rwn xss)), (1, iv k'), (5, iv i)], L .gone []⟩) (0, k) ⟨by simp, by simpa using ho, by simp, Int.le_refl _⟩ (by simp only [Bz20, go_sem, yz0, Int.reduceLT, reduceLE, reduceToNat, reduceNeg, Nat.reduceLT, reduceLeDiff, reduceMul, reduceSub, reduceIte, reduceEqDiff, reduceAdd, reduceCtorEq]; try rfl) ?_
  rintro ⟨i, k'⟩ ⟨hi, h1, h2, h3⟩
  have hi : i ≤ xss.length := hi
  have hk3 : k ≤ k' := h3
  by_cases hlt : (i : Int) < xss.length
  · have hlt1 : i < xss.length := by omega
    rw [drop_getD hlt1 []] at h1 h2
    simp only [okRows] at h1
    simp only [totX] at h2
    have hn := totX_nn (xss.drop (i + 1))
    have hn0 := totX_nn xss
    have hl := hx _ (yz1w hlt1 [])
    simp only [Bz20, Bz48, Bz73, rwn_getD hlt1, decide_eq_true hlt, go_sem, yz0, Int.reduceLT, reduceLE, reduceToNat, reduceNeg, Nat.reduceLT, reduceLeDiff, reduceMul, reduceSub, reduceIte, reduceEqDiff, reduceAdd, reduceCtorEq]
    intro hM vs
    refine ⟨⟨by omega, hlt1⟩, hlt1, ?_⟩
    refine yzg (k_held (xss.getD i []) k' (by omega) hl h1.1) qCS trivial ?_
    have hneg : ¬ (k' + ((xss.getD i []).length : Int) < 0) := by omega
    simp only [Bz71, Bz70, Bz72, decide_eq_false hneg, nat1 i _ hlt1 hM, go_sem, yz0, Int.reduceLT, reduceLE, reduceToNat, reduceNeg, Nat.reduceLT, reduceLeDiff, reduceMul, reduceSub, reduceIte, reduceEqDiff, reduceAdd, reduceCtorEq]
    exact ⟨(i + 1, _), by dsimp only; omega, ⟨by dsimp only; omega, h1.2, by dsimp only; omega, by dsimp only; omega⟩, rfl⟩
  · have : i = xss.length := by omega
    subst this
    rw [List.drop_length] at h2
    simp only [totX] at h2
    simp only [Bz20, Bz48, Bz75, decide_eq_false hlt, go_sem, yz0, Int.reduceLT, reduceLE, reduceToNat, reduceNeg, Nat.reduceLT, reduceLeDiff, reduceMul, reduceSub, reduceIte, reduceEqDiff, reduceAdd, reduceCtorEq]
    intro _
    rw [← h2, Int.add_zero]
theorem thaw_L {l : List (Nat × AVal)} {h : List (Nat × AObj)} {r i q n m v k k' : Nat} {nn : Bool} {cs cs' : List AVal} (hr : L .gone h r = .row v k nn cs) :
    St.thaw ⟨L .any l, L .gone h⟩ r i q n m k' cs' = ⟨L .any (woT n l), L .gone ((q, .row m k' true (woL n cs')) :: (r, .row v k nn ((woL n cs).set i (.own q m))) :: woO n h)⟩ := by
  unfold St.thaw
  congr 1
  · funext x; exact (woT_eq l x).symm
  · funext x
    simp only [L]
    split
    · rfl
    · split
      · rw [hr]
      · exact (woO_eq h x).symm
theorem yzo {gs : List GStep} {K : St → Prop} {l : List (Nat × AVal)} {h : List (Nat × AObj)} {r i q n v k k' : Nat} {nn : Bool} {cs cs' : List AVal} (hr : L .gone h r = .row v k nn cs)
    (hi : cs[i]? = some (.ro (some (some (n + 1))) k' cs')) (hne : cs' ≠ []) (hq : L .gone h q = .gone)
    (hk : ∀ m, gwp gs K ⟨L .any (woT n l), L .gone ((q, .row m k' true (woL n cs')) :: (r, .row v k nn ((woL n cs).set i (.own q m))) :: woO n h)⟩) : gwp (.thaw r i q :: gs) K ⟨L .any l, L .gone h⟩ :=
  ⟨v, k, nn, cs, n, k', cs', hr, hi, hne, hq, fun m => by rw [thaw_L hr]; exact hk m⟩
theorem wo_ne {n n' : Nat} {x : List Int} (h : n' ≠ n) : AVal.wo n (.ro (some (some (n' + 1))) 1 (ints x)) = .ro (some (some (n' + 1))) 1 (ints x) := by
  cases x with
  | nil => simp [AVal.wo]
  | cons a x =>
    simp only [List.map_cons, AVal.wo, if_neg h]
    rw [show (AVal.val (.int .i64 a) :: List.map (fun x => AVal.val (.int .i64 x)) x) = ints (a :: x) from rfl, woL_ints]
theorem wo_o {n k : Nat} {cs : List AVal} : AVal.wo n (.ro (some (some 0)) k cs) = .ro (some (some 0)) k (woL n cs) := by cases cs <;> simp [AVal.wo, woL]
theorem woL_rwo {n : Nat} {xss : List (List Int)} : woL n (rwo xss) = rwo xss := by
  simp only [woL_eq, rwo, List.map_map]
  refine List.map_congr_left fun xs _ => ?_
  simp only [Function.comp]
  rw [wo_o, woL_ints]
theorem wo_st {n : Nat} {cs : List AVal} : AVal.wo n (.st cs) = .st (woL n cs) := by simp only [AVal.wo]
theorem wo_ptr {n r u o : Nat} : AVal.wo n (.ptr r u o) = .ptr r u o := by simp only [AVal.wo]
theorem ren_own_in {r v : Nat} {l : List Nat} {s : Nat → Nat} (h : 5000 ≤ r ∧ r < 6000) : AVal.ren (expo l) s (.own r v) = .own r (s v) := by
  exact yz24 (by simp only [expo]; rw [if_pos h.1, if_pos h.2])
theorem woL_nil {n : Nat} : woL n [] = [] := by simp only [woL]
theorem woL_cons {n : Nat} {A : AVal} {cs : List AVal} : woL n (A :: cs) = AVal.wo n A :: woL n cs := by simp only [woL]
theorem woO_row {n v k : Nat} {nn : Bool} {cs : List AVal} : AObj.wo n (.row v k nn cs) = .row v k nn (woL n cs) := rfl
theorem woO_box {n v : Nat} {cs : List AVal} : AObj.wo n (.box v cs) = .box v (woL n cs) := rfl
theorem k_markSS1 (a : List Int) (k : Int) (h : 0 ≤ k ∧ k ≤ 1000000) (ha : (a.length : Int) ≤ 1000) :
    Con Try.prog nz5 [.row 0 1 true [.own 5001 1], .row 1 1 true (ints a)] [.own 5000 0, iv k] true
      fun outs rows res => outs = [.row 0 1 true [.own 5001 1], .row 1 1 true (ints (seqI (k) a.length))] ∧ rows = [] ∧ res = iv (k + a.length) := by
  refine con_sh mixed cz1c rfl (by simp) ?_
  simp only [Az1a, Bz19, Bz17, yzp, yz8, go_sem, yz0, Int.reduceLT, reduceLE, reduceToNat, reduceNeg, Nat.reduceLT, reduceLeDiff, reduceMul, reduceSub, reduceIte, reduceEqDiff, reduceAdd, reduceCtorEq]
  intro vs0 U0 hN0 vs1 U1 hN1
  refine wpD_lp (fun i => 1 - i) (fun i => i ≤ 1)
    (fun i : Nat => ⟨L .any [(0, .own 5000 0), (1, iv (if i = 0 then k else k + a.length)), (5, iv i)], L .gone [(5000, .row 0 1 true [.own 5001 1]), (5001, .row 1 1 true (ints (if i ≤ 0 then a else seqI (k) a.length))), (5002, .gone), (5003, .gone), (5004, .gone), (5005, .gone), (5006, .gone), (5007, .gone), (5008, .gone), (5009, .gone)]⟩) 0 (by simp)
    (by simp only [Bz0, Nat.zero_le, if_true, go_sem, yz0, Int.reduceLT, reduceLE, reduceToNat, reduceNeg, Nat.reduceLT, reduceLeDiff, reduceMul, reduceSub, reduceIte, reduceEqDiff, reduceAdd, reduceCtorEq]; try rfl) ?_
  intro i hi
  obtain rfl | rfl : i = 0 ∨ i = 1 := by omega
  · simp only [Bz0, Bz1, reduceLeDiff, Nat.le_refl, Nat.zero_le, if_true, if_false, yzp, yz8, go_sem, yz0, Int.reduceLT, reduceLE, reduceToNat, reduceNeg, Nat.reduceLT, reduceLeDiff, reduceMul, reduceSub, reduceIte, reduceEqDiff, reduceAdd, reduceCtorEq]
    intro vs2 U2 hN2 hM
    have e : decide (((0 : Nat) : Int) < ((1 : Nat) : Int)) = true := by decide
    simp only [e, yzp, yz8, go_sem, yz0, Int.reduceLT, reduceLE, reduceToNat, reduceNeg, Nat.reduceLT, reduceLeDiff, reduceMul, reduceSub, reduceIte, reduceEqDiff, reduceAdd, reduceCtorEq]
    simp only [Bz7, yzp, wpD_gh, go_sem, yz0, Int.reduceLT, reduceLE, reduceToNat, reduceNeg, Nat.reduceLT, reduceLeDiff, reduceMul, reduceSub, reduceIte, reduceEqDiff, reduceAdd, reduceCtorEq]
    intro _
    refine ⟨[], ?_⟩
    simp only [gwp_nil, yzp, yz8, go_sem, yz0, Int.reduceLT, reduceLE, reduceToNat, reduceNeg, Nat.reduceLT, reduceLeDiff, reduceMul, reduceSub, reduceIte, reduceEqDiff, reduceAdd, reduceCtorEq]
    intro vs3 U3 hN3
    refine ⟨by omega, ?_⟩
    refine yz1l (yzm a true (k) (by omega) (by omega)) qGN rfl ?_
    have w1 : IntKind.i64.wrap (((0 : Nat) : Int) + 1) = ((1 : Nat) : Int) := w64 (by omega)
    simp only [Bz6, w1, yzp, yz8, go_sem, yz0, Int.reduceLT, reduceLE, reduceToNat, reduceNeg, Nat.reduceLT, reduceLeDiff, reduceMul, reduceSub, reduceIte, reduceEqDiff, reduceAdd, reduceCtorEq]
    intro vs4 U4 hN4
    exact ⟨1, by omega, by omega, rfl⟩
  · simp only [Bz0, Bz1, Bz18, reduceLeDiff, Nat.le_refl, Nat.zero_le, if_true, if_false, yzp, yz8, go_sem, yz0, Int.reduceLT, reduceLE, reduceToNat, reduceNeg, Nat.reduceLT, reduceLeDiff, reduceMul, reduceSub, reduceIte, reduceEqDiff, reduceAdd, reduceCtorEq]
    intro vs2 U2 hN2 hM
    have e : decide (((1 : Nat) : Int) < ((1 : Nat) : Int)) = false := by decide
    simp only [e, yzp, yz8, go_sem, yz0, Int.reduceLT, reduceLE, reduceToNat, reduceNeg, Nat.reduceLT, reduceLeDiff, reduceMul, reduceSub, reduceIte, reduceEqDiff, reduceAdd, reduceCtorEq]
    intro vs3 U3 hN3
    refine ⟨[], by simp, by simp, by simp, ?_⟩
    simp only [List.nil_append, List.cons_append, Nat.add_zero, ren_own_in, Nat.not_lt_zero, range1, yz1v, yz22, ren_ro, rnNm_n, yz21, rnNm_o, rnNm_s, ren_st, yz20, yz1h, yz12, yzl, yz1o, yz1q, yz1p, yz1f, yz1r, yzv, yzz, yzx, yz10, yz1b, yz1a, yzq, yzs, yz11, yzw, yz1c, yz19, List.range_zero, yzu, yzr, yzy, yz1n, yz1g, yz1m, AVal.fresh, freshL, yzk, yz1d, AObj.fresh, id, Option.isSome_some, or_true, true_or, go_sem, yz0, Int.reduceLT, reduceLE, reduceToNat, reduceNeg, Nat.reduceLT, reduceLeDiff, reduceMul, reduceSub, reduceIte, reduceEqDiff, reduceAdd, reduceCtorEq]
    try simp
theorem k_markSS2 (a b : List Int) (k : Int) (h : 0 ≤ k ∧ k ≤ 1000000) (ha : (a.length : Int) ≤ 1000) (hb : (b.length : Int) ≤ 1000) :
    Con Try.prog nz5 [.row 0 1 true [.own 5001 1, .own 5002 2], .row 1 1 true (ints a), .row 2 1 true (ints b)] [.own 5000 0, iv k] true
      fun outs rows res => outs = [.row 0 1 true [.own 5001 1, .own 5002 2], .row 1 1 true (ints (seqI (k) a.length)), .row 2 1 true (ints (seqI (k + a.length) b.length))] ∧ rows = [] ∧ res = iv (k + a.length + b.length) := by
  refine con_sh mixed cz1c rfl (by simp) ?_
  simp only [Az1a, Bz19, Bz17, yzp, yz8, go_sem, yz0, Int.reduceLT, reduceLE, reduceToNat, reduceNeg, Nat.reduceLT, reduceLeDiff, reduceMul, reduceSub, reduceIte, reduceEqDiff, reduceAdd, reduceCtorEq]
  intro vs0 U0 hN0 vs1 U1 hN1
  refine wpD_lp (fun i => 2 - i) (fun i => i ≤ 2)
    (fun i : Nat => ⟨L .any [(0, .own 5000 0), (1, iv (if i = 0 then k else if i = 1 then k + a.length else k + a.length + b.length)), (5, iv i)], L .gone [(5000, .row 0 1 true [.own 5001 1, .own 5002 2]), (5001, .row 1 1 true (ints (if i ≤ 0 then a else seqI (k) a.length))), (5002, .row 2 1 true (ints (if i ≤ 1 then b else seqI (k + a.length) b.length))), (5003, .gone), (5004, .gone), (5005, .gone), (5006, .gone), (5007, .gone), (5008, .gone), (5009, .gone)]⟩) 0 (by simp)
    (by simp only [Bz0, Nat.zero_le, if_true, go_sem, yz0, Int.reduceLT, reduceLE, reduceToNat, reduceNeg, Nat.reduceLT, reduceLeDiff, reduceMul, reduceSub, reduceIte, reduceEqDiff, reduceAdd, reduceCtorEq]; try rfl) ?_
  intro i hi
  obtain rfl | rfl | rfl : i = 0 ∨ i = 1 ∨ i = 2 := by omega
  · simp only [Bz0, Bz1, reduceLeDiff, Nat.le_refl, Nat.zero_le, if_true, if_false, yzp, yz8, go_sem, yz0, Int.reduceLT, reduceLE, reduceToNat, reduceNeg, Nat.reduceLT, reduceLeDiff, reduceMul, reduceSub, reduceIte, reduceEqDiff, reduceAdd, reduceCtorEq]
    intro vs2 U2 hN2 hM
    have e : decide (((0 : Nat) : Int) < ((2 : Nat) : Int)) = true := by decide
    simp only [e, yzp, yz8, go_sem, yz0, Int.reduceLT, reduceLE, reduceToNat, reduceNeg, Nat.reduceLT, reduceLeDiff, reduceMul, reduceSub, reduceIte, reduceEqDiff, reduceAdd, reduceCtorEq]
    simp only [Bz7, yzp, wpD_gh, go_sem, yz0, Int.reduceLT, reduceLE, reduceToNat, reduceNeg, Nat.reduceLT, reduceLeDiff, reduceMul, reduceSub, reduceIte, reduceEqDiff, reduceAdd, reduceCtorEq]
    intro _
    refine ⟨[], ?_⟩
    simp only [gwp_nil, yzp, yz8, go_sem, yz0, Int.reduceLT, reduceLE, reduceToNat, reduceNeg, Nat.reduceLT, reduceLeDiff, reduceMul, reduceSub, reduceIte, reduceEqDiff, reduceAdd, reduceCtorEq]
    intro vs3 U3 hN3
    refine ⟨by omega, ?_⟩
    refine yz1l (yzm a true (k) (by omega) (by omega)) qGN rfl ?_
    have w1 : IntKind.i64.wrap (((0 : Nat) : Int) + 1) = ((1 : Nat) : Int) := w64 (by omega)
    simp only [Bz6, w1, yzp, yz8, go_sem, yz0, Int.reduceLT, reduceLE, reduceToNat, reduceNeg, Nat.reduceLT, reduceLeDiff, reduceMul, reduceSub, reduceIte, reduceEqDiff, reduceAdd, reduceCtorEq]
    intro vs4 U4 hN4
    exact ⟨1, by omega, by omega, rfl⟩
  · simp only [Bz0, Bz1, reduceLeDiff, Nat.le_refl, Nat.zero_le, if_true, if_false, yzp, yz8, go_sem, yz0, Int.reduceLT, reduceLE, reduceToNat, reduceNeg, Nat.reduceLT, reduceLeDiff, reduceMul, reduceSub, reduceIte, reduceEqDiff, reduceAdd, reduceCtorEq]
    intro vs2 U2 hN2 hM
    have e : decide (((1 : Nat) : Int) < ((2 : Nat) : Int)) = true := by decide
    simp only [e, yzp, yz8, go_sem, yz0, Int.reduceLT, reduceLE, reduceToNat, reduceNeg, Nat.reduceLT, reduceLeDiff, reduceMul, reduceSub, reduceIte, reduceEqDiff, reduceAdd, reduceCtorEq]
    simp only [Bz7, yzp, wpD_gh, go_sem, yz0, Int.reduceLT, reduceLE, reduceToNat, reduceNeg, Nat.reduceLT, reduceLeDiff, reduceMul, reduceSub, reduceIte, reduceEqDiff, reduceAdd, reduceCtorEq]
    intro _
    refine ⟨[], ?_⟩
    simp only [gwp_nil, yzp, yz8, go_sem, yz0, Int.reduceLT, reduceLE, reduceToNat, reduceNeg, Nat.reduceLT, reduceLeDiff, reduceMul, reduceSub, reduceIte, reduceEqDiff, reduceAdd, reduceCtorEq]
    intro vs3 U3 hN3
    refine ⟨by omega, ?_⟩
    refine yz1l (yzm b true (k + a.length) (by omega) (by omega)) qGN rfl ?_
    have w1 : IntKind.i64.wrap (((1 : Nat) : Int) + 1) = ((2 : Nat) : Int) := w64 (by omega)
    simp only [Bz6, w1, yzp, yz8, go_sem, yz0, Int.reduceLT, reduceLE, reduceToNat, reduceNeg, Nat.reduceLT, reduceLeDiff, reduceMul, reduceSub, reduceIte, reduceEqDiff, reduceAdd, reduceCtorEq]
    intro vs4 U4 hN4
    exact ⟨2, by omega, by omega, rfl⟩
  · simp only [Bz0, Bz1, Bz18, reduceLeDiff, Nat.le_refl, Nat.zero_le, if_true, if_false, yzp, yz8, go_sem, yz0, Int.reduceLT, reduceLE, reduceToNat, reduceNeg, Nat.reduceLT, reduceLeDiff, reduceMul, reduceSub, reduceIte, reduceEqDiff, reduceAdd, reduceCtorEq]
    intro vs2 U2 hN2 hM
    have e : decide (((2 : Nat) : Int) < ((2 : Nat) : Int)) = false := by decide
    simp only [e, yzp, yz8, go_sem, yz0, Int.reduceLT, reduceLE, reduceToNat, reduceNeg, Nat.reduceLT, reduceLeDiff, reduceMul, reduceSub, reduceIte, reduceEqDiff, reduceAdd, reduceCtorEq]
    intro vs3 U3 hN3
    refine ⟨[], by simp, by simp, by simp, ?_⟩
    simp only [List.nil_append, List.cons_append, Nat.add_zero, ren_own_in, Nat.not_lt_zero, range1, yz1v, yz22, ren_ro, rnNm_n, yz21, rnNm_o, rnNm_s, ren_st, yz20, yz1h, yz12, yzl, yz1o, yz1q, yz1p, yz1f, yz1r, yzv, yzz, yzx, yz10, yz1b, yz1a, yzq, yzs, yz11, yzw, yz1c, yz19, List.range_zero, yzu, yzr, yzy, yz1n, yz1g, yz1m, AVal.fresh, freshL, yzk, yz1d, AObj.fresh, id, Option.isSome_some, or_true, true_or, go_sem, yz0, Int.reduceLT, reduceLE, reduceToNat, reduceNeg, Nat.reduceLT, reduceLeDiff, reduceMul, reduceSub, reduceIte, reduceEqDiff, reduceAdd, reduceCtorEq]
    try simp
theorem k_markSS3 (a b c : List Int) (k : Int) (h : 0 ≤ k ∧ k ≤ 1000000) (ha : (a.length : Int) ≤ 1000) (hb : (b.length : Int) ≤ 1000) (hc : (c.length : Int) ≤ 1000) :
    Con Try.prog nz5 [.row 0 1 true [.own 5001 1, .own 5002 2, .own 5003 3], .row 1 1 true (ints a), .row 2 1 true (ints b), .row 3 1 true (ints c)] [.own 5000 0, iv k] true
      fun outs rows res => outs = [.row 0 1 true [.own 5001 1, .own 5002 2, .own 5003 3], .row 1 1 true (ints (seqI (k) a.length)), .row 2 1 true (ints (seqI (k + a.length) b.length)), .row 3 1 true (ints (seqI (k + a.length + b.length) c.length))] ∧ rows = [] ∧ res = iv (k + a.length + b.length + c.length) := by
  refine con_sh mixed cz1c rfl (by simp) ?_
  simp only [Az1a, Bz19, Bz17, yzp, yz8, go_sem, yz0, Int.reduceLT, reduceLE, reduceToNat, reduceNeg, Nat.reduceLT, reduceLeDiff, reduceMul, reduceSub, reduceIte, reduceEqDiff, reduceAdd, reduceCtorEq]
  intro vs0 U0 hN0 vs1 U1 hN1
  refine wpD_lp (fun i => 3 - i) (fun i => i ≤ 3)
    (fun i : Nat => ⟨L .any [(0, .own 5000 0), (1, iv (if i = 0 then k else if i = 1 then k + a.length else if i = 2 then k + a.length + b.length else k + a.length + b.length + c.length)), (5, iv i)], L .gone [(5000, .row 0 1 true [.own 5001 1, .own 5002 2, .own 5003 3]), (5001, .row 1 1 true (ints (if i ≤ 0 then a else seqI (k) a.length))), (5002, .row 2 1 true (ints (if i ≤ 1 then b else seqI (k + a.length) b.length))), (5003, .row 3 1 true (ints (if i ≤ 2 then c else seqI (k + a.length + b.length) c.length))), (5004, .gone), (5005, .gone), (5006, .gone), (5007, .gone), (5008, .gone), (5009, .gone)]⟩) 0 (by simp)
    (by simp only [Bz0, Nat.zero_le, if_true, go_sem, yz0, Int.reduceLT, reduceLE, reduceToNat, reduceNeg, Nat.reduceLT, reduceLeDiff, reduceMul, reduceSub, reduceIte, reduceEqDiff, reduceAdd, reduceCtorEq]; try rfl) ?_
  intro i hi
  obtain rfl | rfl | rfl | rfl : i = 0 ∨ i = 1 ∨ i = 2 ∨ i = 3 := by omega
  · simp only [Bz0, Bz1, reduceLeDiff, Nat.le_refl, Nat.zero_le, if_true, if_false, yzp, yz8, go_sem, yz0, Int.reduceLT, reduceLE, reduceToNat, reduceNeg, Nat.reduceLT, reduceLeDiff, reduceMul, reduceSub, reduceIte, reduceEqDiff, reduceAdd, reduceCtorEq]
    intro vs2 U2 hN2 hM
    have e : decide (((0 : Nat) : Int) < ((3 : Nat) : Int)) = true := by decide
    simp only [e, yzp, yz8, go_sem, yz0, Int.reduceLT, reduceLE, reduceToNat, reduceNeg, Nat.reduceLT, reduceLeDiff, reduceMul, reduceSub, reduceIte, reduceEqDiff, reduceAdd, reduceCtorEq]
    simp only [Bz7, yzp, wpD_gh, go_sem, yz0, Int.reduceLT, reduceLE, reduceToNat, reduceNeg, Nat.reduceLT, reduceLeDiff, reduceMul, reduceSub, reduceIte, reduceEqDiff, reduceAdd, reduceCtorEq]
    intro _
    refine ⟨[], ?_⟩
    simp only [gwp_nil, yzp, yz8, go_sem, yz0, Int.reduceLT, reduceLE, reduceToNat, reduceNeg, Nat.reduceLT, reduceLeDiff, reduceMul, reduceSub, reduceIte, reduceEqDiff, reduceAdd, reduceCtorEq]
    intro vs3 U3 hN3
    refine ⟨by omega, ?_⟩
    refine yz1l (yzm a true (k) (by omega) (by omega)) qGN rfl ?_
    have w1 : IntKind.i64.wrap (((0 : Nat) : Int) + 1) = ((1 : Nat) : Int) := w64 (by omega)
    simp only [Bz6, w1, yzp, yz8, go_sem, yz0, Int.reduceLT, reduceLE, reduceToNat, reduceNeg, Nat.reduceLT, reduceLeDiff, reduceMul, reduceSub, reduceIte, reduceEqDiff, reduceAdd, reduceCtorEq]
    intro vs4 U4 hN4
    exact ⟨1, by omega, by omega, rfl⟩
  · simp only [Bz0, Bz1, reduceLeDiff, Nat.le_refl, Nat.zero_le, if_true, if_false, yzp, yz8, go_sem, yz0, Int.reduceLT, reduceLE, reduceToNat, reduceNeg, Nat.reduceLT, reduceLeDiff, reduceMul, reduceSub, reduceIte, reduceEqDiff, reduceAdd, reduceCtorEq]
    intro vs2 U2 hN2 hM
    have e : decide (((1 : Nat) : Int) < ((3 : Nat) : Int)) = true := by decide
    simp only [e, yzp, yz8, go_sem, yz0, Int.reduceLT, reduceLE, reduceToNat, reduceNeg, Nat.reduceLT, reduceLeDiff, reduceMul, reduceSub, reduceIte, reduceEqDiff, reduceAdd, reduceCtorEq]
    simp only [Bz7, yzp, wpD_gh, go_sem, yz0, Int.reduceLT, reduceLE, reduceToNat, reduceNeg, Nat.reduceLT, reduceLeDiff, reduceMul, reduceSub, reduceIte, reduceEqDiff, reduceAdd, reduceCtorEq]
    intro _
    refine ⟨[], ?_⟩
    simp only [gwp_nil, yzp, yz8, go_sem, yz0, Int.reduceLT, reduceLE, reduceToNat, reduceNeg, Nat.reduceLT, reduceLeDiff, reduceMul, reduceSub, reduceIte, reduceEqDiff, reduceAdd, reduceCtorEq]
    intro vs3 U3 hN3
    refine ⟨by omega, ?_⟩
    refine yz1l (yzm b true (k + a.length) (by omega) (by omega)) qGN rfl ?_
    have w1 : IntKind.i64.wrap (((1 : Nat) : Int) + 1) = ((2 : Nat) : Int) := w64 (by omega)
    simp only [Bz6, w1, yzp, yz8, go_sem, yz0, Int.reduceLT, reduceLE, reduceToNat, reduceNeg, Nat.reduceLT, reduceLeDiff, reduceMul, reduceSub, reduceIte, reduceEqDiff, reduceAdd, reduceCtorEq]
    intro vs4 U4 hN4
    exact ⟨2, by omega, by omega, rfl⟩
  · simp only [Bz0, Bz1, reduceLeDiff, Nat.le_refl, Nat.zero_le, if_true, if_false, yzp, yz8, go_sem, yz0, Int.reduceLT, reduceLE, reduceToNat, reduceNeg, Nat.reduceLT, reduceLeDiff, reduceMul, reduceSub, reduceIte, reduceEqDiff, reduceAdd, reduceCtorEq]
    intro vs2 U2 hN2 hM
    have e : decide (((2 : Nat) : Int) < ((3 : Nat) : Int)) = true := by decide
    simp only [e, yzp, yz8, go_sem, yz0, Int.reduceLT, reduceLE, reduceToNat, reduceNeg, Nat.reduceLT, reduceLeDiff, reduceMul, reduceSub, reduceIte, reduceEqDiff, reduceAdd, reduceCtorEq]
    simp only [Bz7, yzp, wpD_gh, go_sem, yz0, Int.reduceLT, reduceLE, reduceToNat, reduceNeg, Nat.reduceLT, reduceLeDiff, reduceMul, reduceSub, reduceIte, reduceEqDiff, reduceAdd, reduceCtorEq]
    intro _
    refine ⟨[], ?_⟩
    simp only [gwp_nil, yzp, yz8, go_sem, yz0, Int.reduceLT, reduceLE, reduceToNat, reduceNeg, Nat.reduceLT, reduceLeDiff, reduceMul, reduceSub, reduceIte, reduceEqDiff, reduceAdd, reduceCtorEq]
    intro vs3 U3 hN3
    refine ⟨by omega, ?_⟩
    refine yz1l (yzm c true (k + a.length + b.length) (by omega) (by omega)) qGN rfl ?_
    have w1 : IntKind.i64.wrap (((2 : Nat) : Int) + 1) = ((3 : Nat) : Int) := w64 (by omega)
    simp only [Bz6, w1, yzp, yz8, go_sem, yz0, Int.reduceLT, reduceLE, reduceToNat, reduceNeg, Nat.reduceLT, reduceLeDiff, reduceMul, reduceSub, reduceIte, reduceEqDiff, reduceAdd, reduceCtorEq]
    intro vs4 U4 hN4
    exact ⟨3, by omega, by omega, rfl⟩
  · simp only [Bz0, Bz1, Bz18, reduceLeDiff, Nat.le_refl, Nat.zero_le, if_true, if_false, yzp, yz8, go_sem, yz0, Int.reduceLT, reduceLE, reduceToNat, reduceNeg, Nat.reduceLT, reduceLeDiff, reduceMul, reduceSub, reduceIte, reduceEqDiff, reduceAdd, reduceCtorEq]
    intro vs2 U2 hN2 hM
    have e : decide (((3 : Nat) : Int) < ((3 : Nat) : Int)) = false := by decide
    simp only [e, yzp, yz8, go_sem, yz0, Int.reduceLT, reduceLE, reduceToNat, reduceNeg, Nat.reduceLT, reduceLeDiff, reduceMul, reduceSub, reduceIte, reduceEqDiff, reduceAdd, reduceCtorEq]
    intro vs3 U3 hN3
    refine ⟨[], by simp, by simp, by simp, ?_⟩
    simp only [List.nil_append, List.cons_append, Nat.add_zero, ren_own_in, Nat.not_lt_zero, range1, yz1v, yz22, ren_ro, rnNm_n, yz21, rnNm_o, rnNm_s, ren_st, yz20, yz1h, yz12, yzl, yz1o, yz1q, yz1p, yz1f, yz1r, yzv, yzz, yzx, yz10, yz1b, yz1a, yzq, yzs, yz11, yzw, yz1c, yz19, List.range_zero, yzu, yzr, yzy, yz1n, yz1g, yz1m, AVal.fresh, freshL, yzk, yz1d, AObj.fresh, id, Option.isSome_some, or_true, true_or, go_sem, yz0, Int.reduceLT, reduceLE, reduceToNat, reduceNeg, Nat.reduceLT, reduceLeDiff, reduceMul, reduceSub, reduceIte, reduceEqDiff, reduceAdd, reduceCtorEq]
    try simp
theorem callHp_h2 {hp : Nat → AObj} {r q1 d : Nat} {s : Nat → Nat} {o0 o1 : AObj} (hnd : [r, q1].Nodup) :
    callHp hp [r, q1] d s [o0, o1] [] = (upd (upd hp r (o0.ren (rid [r, q1] d 0) (sv hp [r, q1] s))) q1 (o1.ren (rid [r, q1] d 0) (sv hp [r, q1] s))) := by
  have hnd' := hnd
  simp only [List.nodup_cons, List.mem_cons, List.not_mem_nil, or_false, not_or, List.nodup_nil, and_true, not_false_eq_true] at hnd'
  funext n
  by_cases e1 : n = q1
  · have h1 : rid [r, q1] d ([] : List AObj).length 5001 = some n := by rw [e1]; exact rid_m (j := 1) (by omega) rfl
    rw [yz13 hnd (by simp) h1]
    simp [upd, e1, outHp, hnd', Ne.symm]
    try (intros; simp_all)
  by_cases e0 : n = r
  · have h1 : rid [r, q1] d ([] : List AObj).length 5000 = some n := by rw [e0]; exact rid_m (j := 0) (by omega) rfl
    rw [yz13 hnd (by simp) h1]
    simp [upd, e0, outHp, hnd', Ne.symm]
    try (intros; simp_all)
  rw [callHp_not]
  · simp [upd, e0, e1]
  · rintro ⟨x, hx⟩
    rcases rid_cases hx with ⟨j, rfl, _, h3⟩ | ⟨i, rfl, h3, _⟩
    · match j, h3 with
      | 0, h3 => simp at h3; exact e0 h3.symm
      | 1, h3 => simp at h3; exact e1 h3.symm
      | j + 2, h3 => simp at h3
    · simp at h3
theorem call_mark1 {P : Program} {σ : St} {g : FuncId} {As args : List AVal} {d : Nat} {s : Nat → Nat} {K : St → Prop} {r q1 v u1 : Nat} {a a' : List Int} {z : Int}
    (h : Con P g [.row 0 1 true [.own 5001 1], .row 1 1 true (ints a)] args true fun outs rows res => outs = [.row 0 1 true [.own 5001 1], .row 1 1 true (ints a')] ∧ rows = [] ∧ res = iv z)
    (hr : σ.hp r = .row v 1 true [.own q1 u1]) (h1 : σ.hp q1 = .row u1 1 true (ints a)) (hnd : [r, q1].Nodup) (ha : CoeL σ.hp [r, q1] false args As)
    (hk : K (St.put ⟨σ.tm, (upd (upd σ.hp r (.row v 1 true [.own q1 u1])) q1 (.row u1 1 true (ints a')))⟩ (some d) (iv z))) : wpCall P false σ g As (some d) s K := by
  refine .inl ⟨[r, q1], _, _, true, _, h, ⟨by simp, rfl, hnd, ?_, ?_⟩, ha, (fun e => by cases e), ?_⟩
  · intro x hx
    simp only [List.mem_cons, List.not_mem_nil, or_false] at hx
    rcases hx with rfl | rfl
    · simp [hr]
    · simp [h1]
  · intro j B r' hB hr'
    match j, hB, hr' with
    | 0, hB, hr' =>
      simp at hB hr'; subst hB; subst hr'
      simp only [ObjCoe, hr]
      refine ⟨trivial, v, _, rfl, ?_⟩
      simp only [yz6, yz9, and_true, Coe]
      exact ⟨1, q1, u1, rfl, rfl, rfl, rfl, by rw [h1]; rfl⟩
    | 1, hB, hr' =>
      simp at hB hr'; subst hB; subst hr'
      simp only [ObjCoe, h1]
      exact ⟨trivial, u1, _, rfl, yz1i⟩
    | j + 2, hB, hr' => simp at hB
  · rintro outs rows res ⟨rfl, rfl, rfl⟩
    refine ⟨rfl, by simp, by simp, ?_⟩
    have s0 : sv σ.hp [r, q1] s 0 = v := by simp [sv, hr, AObj.ver]
    have s1 : sv σ.hp [r, q1] s 1 = u1 := by simp [sv, h1, AObj.ver]
    have r1 : AVal.ren (rid [r, q1] d 0) (sv σ.hp [r, q1] s) (.own 5001 1) = .own q1 u1 := by rw [yz24 (rid_m (j := 1) (by omega) rfl), s1]
    rw [Option.getD_some, callHp_h2 hnd]
    simp only [yz1f, yz12, yz1h, yzl, yz1v, s0, s1, r1]
    exact hk
theorem callHp_h3 {hp : Nat → AObj} {r q1 q2 d : Nat} {s : Nat → Nat} {o0 o1 o2 : AObj} (hnd : [r, q1, q2].Nodup) :
    callHp hp [r, q1, q2] d s [o0, o1, o2] [] = (upd (upd (upd hp r (o0.ren (rid [r, q1, q2] d 0) (sv hp [r, q1, q2] s))) q1 (o1.ren (rid [r, q1, q2] d 0) (sv hp [r, q1, q2] s))) q2 (o2.ren (rid [r, q1, q2] d 0) (sv hp [r, q1, q2] s))) := by
  have hnd' := hnd
  simp only [List.nodup_cons, List.mem_cons, List.not_mem_nil, or_false, not_or, List.nodup_nil, and_true, not_false_eq_true] at hnd'
  funext n
  by_cases e2 : n = q2
  · have h1 : rid [r, q1, q2] d ([] : List AObj).length 5002 = some n := by rw [e2]; exact rid_m (j := 2) (by omega) rfl
    rw [yz13 hnd (by simp) h1]
    simp [upd, e2, outHp, hnd', Ne.symm]
    try (intros; simp_all)
  by_cases e1 : n = q1
  · have h1 : rid [r, q1, q2] d ([] : List AObj).length 5001 = some n := by rw [e1]; exact rid_m (j := 1) (by omega) rfl
    rw [yz13 hnd (by simp) h1]
    simp [upd, e1, outHp, hnd', Ne.symm]
    try (intros; simp_all)
  by_cases e0 : n = r
  · have h1 : rid [r, q1, q2] d ([] : List AObj).length 5000 = some n := by rw [e0]; exact rid_m (j := 0) (by omega) rfl
    rw [yz13 hnd (by simp) h1]
    simp [upd, e0, outHp, hnd', Ne.symm]
    try (intros; simp_all)
  rw [callHp_not]
  · simp [upd, e0, e1, e2]
  · rintro ⟨x, hx⟩
    rcases rid_cases hx with ⟨j, rfl, _, h3⟩ | ⟨i, rfl, h3, _⟩
    · match j, h3 with
      | 0, h3 => simp at h3; exact e0 h3.symm
      | 1, h3 => simp at h3; exact e1 h3.symm
      | 2, h3 => simp at h3; exact e2 h3.symm
      | j + 3, h3 => simp at h3
    · simp at h3
theorem call_mark2 {P : Program} {σ : St} {g : FuncId} {As args : List AVal} {d : Nat} {s : Nat → Nat} {K : St → Prop} {r q1 q2 v u1 u2 : Nat} {a b a' b' : List Int} {z : Int}
    (h : Con P g [.row 0 1 true [.own 5001 1, .own 5002 2], .row 1 1 true (ints a), .row 2 1 true (ints b)] args true fun outs rows res => outs = [.row 0 1 true [.own 5001 1, .own 5002 2], .row 1 1 true (ints a'), .row 2 1 true (ints b')] ∧ rows = [] ∧ res = iv z)
    (hr : σ.hp r = .row v 1 true [.own q1 u1, .own q2 u2]) (h1 : σ.hp q1 = .row u1 1 true (ints a)) (h2 : σ.hp q2 = .row u2 1 true (ints b)) (hnd : [r, q1, q2].Nodup) (ha : CoeL σ.hp [r, q1, q2] false args As)
    (hk : K (St.put ⟨σ.tm, (upd (upd (upd σ.hp r (.row v 1 true [.own q1 u1, .own q2 u2])) q1 (.row u1 1 true (ints a'))) q2 (.row u2 1 true (ints b')))⟩ (some d) (iv z))) : wpCall P false σ g As (some d) s K := by
  refine .inl ⟨[r, q1, q2], _, _, true, _, h, ⟨by simp, rfl, hnd, ?_, ?_⟩, ha, (fun e => by cases e), ?_⟩
  · intro x hx
    simp only [List.mem_cons, List.not_mem_nil, or_false] at hx
    rcases hx with rfl | rfl | rfl
    · simp [hr]
    · simp [h1]
    · simp [h2]
  · intro j B r' hB hr'
    match j, hB, hr' with
    | 0, hB, hr' =>
      simp at hB hr'; subst hB; subst hr'
      simp only [ObjCoe, hr]
      refine ⟨trivial, v, _, rfl, ?_⟩
      simp only [yz6, yz9, and_true, Coe]
      exact ⟨⟨1, q1, u1, rfl, rfl, rfl, rfl, by rw [h1]; rfl⟩, ⟨2, q2, u2, rfl, rfl, rfl, rfl, by rw [h2]; rfl⟩⟩
    | 1, hB, hr' =>
      simp at hB hr'; subst hB; subst hr'
      simp only [ObjCoe, h1]
      exact ⟨trivial, u1, _, rfl, yz1i⟩
    | 2, hB, hr' =>
      simp at hB hr'; subst hB; subst hr'
      simp only [ObjCoe, h2]
      exact ⟨trivial, u2, _, rfl, yz1i⟩
    | j + 3, hB, hr' => simp at hB
  · rintro outs rows res ⟨rfl, rfl, rfl⟩
    refine ⟨rfl, by simp, by simp, ?_⟩
    have s0 : sv σ.hp [r, q1, q2] s 0 = v := by simp [sv, hr, AObj.ver]
    have s1 : sv σ.hp [r, q1, q2] s 1 = u1 := by simp [sv, h1, AObj.ver]
    have s2 : sv σ.hp [r, q1, q2] s 2 = u2 := by simp [sv, h2, AObj.ver]
    have r1 : AVal.ren (rid [r, q1, q2] d 0) (sv σ.hp [r, q1, q2] s) (.own 5001 1) = .own q1 u1 := by rw [yz24 (rid_m (j := 1) (by omega) rfl), s1]
    have r2 : AVal.ren (rid [r, q1, q2] d 0) (sv σ.hp [r, q1, q2] s) (.own 5002 2) = .own q2 u2 := by rw [yz24 (rid_m (j := 2) (by omega) rfl), s2]
    rw [Option.getD_some, callHp_h3 hnd]
    simp only [yz1f, yz12, yz1h, yzl, yz1v, s0, s1, s2, r1, r2]
    exact hk
theorem callHp_h4 {hp : Nat → AObj} {r q1 q2 q3 d : Nat} {s : Nat → Nat} {o0 o1 o2 o3 : AObj} (hnd : [r, q1, q2, q3].Nodup) :
    callHp hp [r, q1, q2, q3] d s [o0, o1, o2, o3] [] = (upd (upd (upd (upd hp r (o0.ren (rid [r, q1, q2, q3] d 0) (sv hp [r, q1, q2, q3] s))) q1 (o1.ren (rid [r, q1, q2, q3] d 0) (sv hp [r, q1, q2, q3] s))) q2 (o2.ren (rid [r, q1, q2, q3] d 0) (sv hp [r, q1, q2, q3] s))) q3 (o3.ren (rid [r, q1, q2, q3] d 0) (sv hp [r, q1, q2, q3] s))) := by
  have hnd' := hnd
  simp only [List.nodup_cons, List.mem_cons, List.not_mem_nil, or_false, not_or, List.nodup_nil, and_true, not_false_eq_true] at hnd'
  funext n
  by_cases e3 : n = q3
  · have h1 : rid [r, q1, q2, q3] d ([] : List AObj).length 5003 = some n := by rw [e3]; exact rid_m (j := 3) (by omega) rfl
    rw [yz13 hnd (by simp) h1]
    simp [upd, e3, outHp, hnd', Ne.symm]
    try (intros; simp_all)
  by_cases e2 : n = q2
  · have h1 : rid [r, q1, q2, q3] d ([] : List AObj).length 5002 = some n := by rw [e2]; exact rid_m (j := 2) (by omega) rfl
    rw [yz13 hnd (by simp) h1]
    simp [upd, e2, outHp, hnd', Ne.symm]
    try (intros; simp_all)
  by_cases e1 : n = q1
  · have h1 : rid [r, q1, q2, q3] d ([] : List AObj).length 5001 = some n := by rw [e1]; exact rid_m (j := 1) (by omega) rfl
    rw [yz13 hnd (by simp) h1]
    simp [upd, e1, outHp, hnd', Ne.symm]
    try (intros; simp_all)
  by_cases e0 : n = r
  · have h1 : rid [r, q1, q2, q3] d ([] : List AObj).length 5000 = some n := by rw [e0]; exact rid_m (j := 0) (by omega) rfl
    rw [yz13 hnd (by simp) h1]
    simp [upd, e0, outHp, hnd', Ne.symm]
    try (intros; simp_all)
  rw [callHp_not]
  · simp [upd, e0, e1, e2, e3]
  · rintro ⟨x, hx⟩
    rcases rid_cases hx with ⟨j, rfl, _, h3⟩ | ⟨i, rfl, h3, _⟩
    · match j, h3 with
      | 0, h3 => simp at h3; exact e0 h3.symm
      | 1, h3 => simp at h3; exact e1 h3.symm
      | 2, h3 => simp at h3; exact e2 h3.symm
      | 3, h3 => simp at h3; exact e3 h3.symm
      | j + 4, h3 => simp at h3
    · simp at h3
theorem call_mark3 {P : Program} {σ : St} {g : FuncId} {As args : List AVal} {d : Nat} {s : Nat → Nat} {K : St → Prop} {r q1 q2 q3 v u1 u2 u3 : Nat} {a b c a' b' c' : List Int} {z : Int}
    (h : Con P g [.row 0 1 true [.own 5001 1, .own 5002 2, .own 5003 3], .row 1 1 true (ints a), .row 2 1 true (ints b), .row 3 1 true (ints c)] args true fun outs rows res => outs = [.row 0 1 true [.own 5001 1, .own 5002 2, .own 5003 3], .row 1 1 true (ints a'), .row 2 1 true (ints b'), .row 3 1 true (ints c')] ∧ rows = [] ∧ res = iv z)
    (hr : σ.hp r = .row v 1 true [.own q1 u1, .own q2 u2, .own q3 u3]) (h1 : σ.hp q1 = .row u1 1 true (ints a)) (h2 : σ.hp q2 = .row u2 1 true (ints b)) (h3 : σ.hp q3 = .row u3 1 true (ints c)) (hnd : [r, q1, q2, q3].Nodup) (ha : CoeL σ.hp [r, q1, q2, q3] false args As)
    (hk : K (St.put ⟨σ.tm, (upd (upd (upd (upd σ.hp r (.row v 1 true [.own q1 u1, .own q2 u2, .own q3 u3])) q1 (.row u1 1 true (ints a'))) q2 (.row u2 1 true (ints b'))) q3 (.row u3 1 true (ints c')))⟩ (some d) (iv z))) : wpCall P false σ g As (some d) s K := by
  refine .inl ⟨[r, q1, q2, q3], _, _, true, _, h, ⟨by simp, rfl, hnd, ?_, ?_⟩, ha, (fun e => by cases e), ?_⟩
  · intro x hx
    simp only [List.mem_cons, List.not_mem_nil, or_false] at hx
    rcases hx with rfl | rfl | rfl | rfl
    · simp [hr]
    · simp [h1]
    · simp [h2]
    · simp [h3]
  · intro j B r' hB hr'
    match j, hB, hr' with
    | 0, hB, hr' =>
      simp at hB hr'; subst hB; subst hr'
      simp only [ObjCoe, hr]
      refine ⟨trivial, v, _, rfl, ?_⟩
      simp only [yz6, yz9, and_true, Coe]
      exact ⟨⟨1, q1, u1, rfl, rfl, rfl, rfl, by rw [h1]; rfl⟩, ⟨2, q2, u2, rfl, rfl, rfl, rfl, by rw [h2]; rfl⟩, ⟨3, q3, u3, rfl, rfl, rfl, rfl, by rw [h3]; rfl⟩⟩
    | 1, hB, hr' =>
      simp at hB hr'; subst hB; subst hr'
      simp only [ObjCoe, h1]
      exact ⟨trivial, u1, _, rfl, yz1i⟩
    | 2, hB, hr' =>
      simp at hB hr'; subst hB; subst hr'
      simp only [ObjCoe, h2]
      exact ⟨trivial, u2, _, rfl, yz1i⟩
    | 3, hB, hr' =>
      simp at hB hr'; subst hB; subst hr'
      simp only [ObjCoe, h3]
      exact ⟨trivial, u3, _, rfl, yz1i⟩
    | j + 4, hB, hr' => simp at hB
  · rintro outs rows res ⟨rfl, rfl, rfl⟩
    refine ⟨rfl, by simp, by simp, ?_⟩
    have s0 : sv σ.hp [r, q1, q2, q3] s 0 = v := by simp [sv, hr, AObj.ver]
    have s1 : sv σ.hp [r, q1, q2, q3] s 1 = u1 := by simp [sv, h1, AObj.ver]
    have s2 : sv σ.hp [r, q1, q2, q3] s 2 = u2 := by simp [sv, h2, AObj.ver]
    have s3 : sv σ.hp [r, q1, q2, q3] s 3 = u3 := by simp [sv, h3, AObj.ver]
    have r1 : AVal.ren (rid [r, q1, q2, q3] d 0) (sv σ.hp [r, q1, q2, q3] s) (.own 5001 1) = .own q1 u1 := by rw [yz24 (rid_m (j := 1) (by omega) rfl), s1]
    have r2 : AVal.ren (rid [r, q1, q2, q3] d 0) (sv σ.hp [r, q1, q2, q3] s) (.own 5002 2) = .own q2 u2 := by rw [yz24 (rid_m (j := 2) (by omega) rfl), s2]
    have r3 : AVal.ren (rid [r, q1, q2, q3] d 0) (sv σ.hp [r, q1, q2, q3] s) (.own 5003 3) = .own q3 u3 := by rw [yz24 (rid_m (j := 3) (by omega) rfl), s3]
    rw [Option.getD_some, callHp_h4 hnd]
    simp only [yz1f, yz12, yz1h, yzl, yz1v, s0, s1, s2, s3, r1, r2, r3]
    exact hk
end Go.Ab
