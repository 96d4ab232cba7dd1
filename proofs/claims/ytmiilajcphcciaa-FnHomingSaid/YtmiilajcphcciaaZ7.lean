/- Contracts and what they lean on, part 7. Conditions: none. -/
import Derived.Lib.SlicesCompact
import Derived.Shelf.SlGeneric
import Derived.Shelf.SlicesE.Compact
import Derived.Ground.SlgnProg
import Derived.Shelf.SlicesE.DeleteFunc
import Derived.Ground.SlgfProg
import Derived.Test.YtmiilajcphcciaaProg
import Derived.Test.YtmiilajcphcciaaZ6
set_option maxRecDepth 100000
set_option maxHeartbeats 4000000
set_option linter.all false
open Nat (reduceLeDiff reduceMul reduceSub reduceEqDiff reduceAdd)
open Int (reduceToNat reduceNeg reduceLE)
namespace Go.Ab
open Go.Proofs
theorem k_l01Map (xs : List Int) (n : Int) (hn : 0 ≤ n ∧ n ≤ 1000000) : Fun Try.prog nz43 [.ro none 1 (ints xs), iv n] (bv (allIn xs 0 (n - 1) && decide ((xs.length : Int) = n))) := by
  refine fun_of mixed czki rfl ⟨rfl, trivial⟩ ?_
  have w0 : IntKind.i64.wrap (n - 1) = n - 1 := w64 (by omega)
  simp only [Azgy, Bzgx, Bzgv, go_sem, yz0, Int.reduceLT, reduceLE, reduceToNat, reduceNeg, Nat.reduceLT, reduceLeDiff, reduceMul, reduceSub, reduceIte, reduceEqDiff, reduceAdd, reduceCtorEq]
  refine wpD_lo (fun i => xs.length - i) (fun i => i ≤ xs.length ∧ allIn (xs.drop i) 0 (n - 1) = allIn xs 0 (n - 1))
    (fun i : Nat => ⟨L .any [(0, .ro none 1 (ints xs)), (1, iv n), (5, iv i)], L .gone []⟩) 0 (by simp) (by simp only [Bz33, go_sem, yz0, Int.reduceLT, reduceLE, reduceToNat, reduceNeg, Nat.reduceLT, reduceLeDiff, reduceMul, reduceSub, reduceIte, reduceEqDiff, reduceAdd, reduceCtorEq]; try rfl) ?_
  rintro i ⟨hi, he⟩
  have hM2 := maxLen_le
  by_cases hlt : (i : Int) < xs.length
  · have hlt' : i < xs.length := by omega
    simp only [Bz33, Bz79, Bz7a, yzv hlt', w0, decide_eq_true hlt, go_sem, yz0, Int.reduceLT, reduceLE, reduceToNat, reduceNeg, Nat.reduceLT, reduceLeDiff, reduceMul, reduceSub, reduceIte, reduceEqDiff, reduceAdd, reduceCtorEq]
    intro hM vs
    refine ⟨⟨by omega, hlt'⟩, hlt', ?_⟩
    refine yzt (k_l00In (xs.getD i 0) 0 (n - 1)) qCS trivial ?_
    have w1 : IntKind.i64.wrap ((i : Int) + 1) = ((i + 1 : Nat) : Int) := by rw [w64 (by omega)]; simp
    rw [drop_getD hlt' 0] at he
    simp only [allIn, List.all_cons] at he
    simp only [Bzgt, Bzgu, w1, go_sem, yz0, Int.reduceLT, reduceLE, reduceToNat, reduceNeg, Nat.reduceLT, reduceLeDiff, reduceMul, reduceSub, reduceIte, reduceEqDiff, reduceAdd, reduceCtorEq]
    refine ⟨fun hp => ?_, fun hp => ⟨i + 1, by omega, ⟨by omega, ?_⟩, rfl⟩⟩
    · rw [Bool.not_eq_true'] at hp
      rw [hp] at he
      simp only [allIn, ← he, Bool.false_and]
    · rw [Bool.not_eq_false'] at hp
      rw [hp] at he
      simpa [allIn] using he
  · have : i = xs.length := by omega
    subst this
    rw [List.drop_length] at he
    simp only [Bz33, Bz79, Bz7a, Bzgw, decide_eq_false hlt, go_sem, yz0, Int.reduceLT, reduceLE, reduceToNat, reduceNeg, Nat.reduceLT, reduceLeDiff, reduceMul, reduceSub, reduceIte, reduceEqDiff, reduceAdd, reduceCtorEq]
    intro _ _
    rw [← he]
    simp [allIn]
    rfl
theorem k_l01Ok (n : Int) (next : List (List Int)) : Fun Try.prog nz3t [autP n next] (bv (autB n next)) := by
  refine fun_of mixed czj9 rfl ⟨rfl, trivial⟩ ?_
  simp only [Azei, Bzeh, go_sem, yz0, Int.reduceLT, reduceLE, reduceToNat, reduceNeg, Nat.reduceLT, reduceLeDiff, reduceMul, reduceSub, reduceIte, reduceEqDiff, reduceAdd, reduceCtorEq]
  intro vs
  refine yzt (k_l00In n 1 10) qCS trivial ?_
  by_cases hn : 1 ≤ n ∧ n ≤ 10
  · have h1 : (decide (1 ≤ n) && decide (n ≤ 10)) = true := by simp [hn]
    simp only [h1, go_sem, yz0, Int.reduceLT, reduceLE, reduceToNat, reduceNeg, Nat.reduceLT, reduceLeDiff, reduceMul, reduceSub, reduceIte, reduceEqDiff, reduceAdd, reduceCtorEq]
    intro hM
    refine yzt (k_l00In next.length 1 3) qCS trivial ?_
    by_cases hl : 1 ≤ (next.length : Int) ∧ (next.length : Int) ≤ 3
    · have h2 : (decide (1 ≤ (next.length : Int)) && decide ((next.length : Int) ≤ 3)) = true := by simp only [decide_eq_true hl.1, decide_eq_true hl.2, Bool.and_self]
      simp only [h2, Bz2r, Bzeg, Bzee, go_sem, yz0, Int.reduceLT, reduceLE, reduceToNat, reduceNeg, Nat.reduceLT, reduceLeDiff, reduceMul, reduceSub, reduceIte, reduceEqDiff, reduceAdd, reduceCtorEq]
      have hB : autB n next = next.all fun row => decide ((row.length : Int) = n) && allIn row 0 (n - 1) := by simp only [autB, h1, h2, Bool.true_and]
      refine wpD_lo (fun i => next.length - i) (fun i => i ≤ next.length ∧ ((next.drop i).all fun row => decide ((row.length : Int) = n) && allIn row 0 (n - 1)) = autB n next)
        (fun i : Nat => ⟨L .any [(0, autP n next), (3, iv i)], L .gone []⟩) 0 (by simp [hB]) (by simp only [Bz2s, go_sem, yz0, Int.reduceLT, reduceLE, reduceToNat, reduceNeg, Nat.reduceLT, reduceLeDiff, reduceMul, reduceSub, reduceIte, reduceEqDiff, reduceAdd, reduceCtorEq]; try rfl) ?_
      rintro i ⟨hi, he⟩
      by_cases hlt : (i : Int) < next.length
      · have hlt' : i < next.length := by omega
        have w1 : IntKind.i64.wrap ((i : Int) + 1) = ((i + 1 : Nat) : Int) := by rw [w64 (by omega)]; simp
        simp only [Bz2s, Bz6d, Bz6e, rwn_getD hlt', decide_eq_true hlt, go_sem, yz0, Int.reduceLT, reduceLE, reduceToNat, reduceNeg, Nat.reduceLT, reduceLeDiff, reduceMul, reduceSub, reduceIte, reduceEqDiff, reduceAdd, reduceCtorEq]
        intro _ vs2
        refine ⟨⟨by omega, hlt'⟩, hlt', ?_⟩
        refine yzt (k_l01Map (next.getD i []) n (by omega)) qCS trivial ?_
        rw [drop_getD hlt' []] at he
        simp only [List.all_cons] at he
        simp only [Bzec, Bzed, w1, go_sem, yz0, Int.reduceLT, reduceLE, reduceToNat, reduceNeg, Nat.reduceLT, reduceLeDiff, reduceMul, reduceSub, reduceIte, reduceEqDiff, reduceAdd, reduceCtorEq]
        refine ⟨fun hp => ?_, fun hp => ⟨i + 1, by omega, ⟨by omega, ?_⟩, rfl⟩⟩
        · rw [Bool.not_eq_true', Bool.and_comm] at hp
          rw [hp] at he
          rw [← he]; rfl
        · rw [Bool.not_eq_false', Bool.and_comm] at hp
          rw [hp] at he
          simpa using he
      · have : i = next.length := by omega
        subst this
        rw [List.drop_length] at he
        simp only [Bz2s, Bz6d, Bz6e, Bzef, decide_eq_false hlt, go_sem, yz0, Int.reduceLT, reduceLE, reduceToNat, reduceNeg, Nat.reduceLT, reduceLeDiff, reduceMul, reduceSub, reduceIte, reduceEqDiff, reduceAdd, reduceCtorEq]
        intro _
        rw [← he]; rfl
    · have h2 : (decide (1 ≤ (next.length : Int)) && decide ((next.length : Int) ≤ 3)) = false := by
        rw [Bool.and_eq_false_iff]
        by_cases h3 : 1 ≤ (next.length : Int)
        · right; simp; omega
        · left; simp; omega
      simp only [h2, Bz2r, go_sem, yz0, Int.reduceLT, reduceLE, reduceToNat, reduceNeg, Nat.reduceLT, reduceLeDiff, reduceMul, reduceSub, reduceIte, reduceEqDiff, reduceAdd, reduceCtorEq]
      simp only [autB, h1, h2, Bool.true_and, Bool.false_and]
  · have h1 : (decide (1 ≤ n) && decide (n ≤ 10)) = false := by
      rw [Bool.and_eq_false_iff]
      by_cases h3 : 1 ≤ n
      · right; simp; omega
      · left; simp; omega
    simp only [h1, Bz2r, go_sem, yz0, Int.reduceLT, reduceLE, reduceToNat, reduceNeg, Nat.reduceLT, reduceLeDiff, reduceMul, reduceSub, reduceIte, reduceEqDiff, reduceAdd, reduceCtorEq]
    simp only [autB, h1, Bool.false_and]
def allS (n : Int) : List Int := (List.range n.toNat).map fun (s : Nat) => (s : Int)
theorem k_l00Own (xs : List Int) (h : xs.length * 8 ≤ 140737488355328) : RowI Try.prog nz3w [.ro none 1 (ints xs)] (fun ys => ys = xs) := by
  refine rowI_of mixed czjd rfl ?_
  simp only [Bzf0, Azf1, go_sem, yz0, Int.reduceLT, reduceLE, reduceToNat, reduceNeg, Nat.reduceLT, reduceLeDiff, reduceMul, reduceSub, reduceIte, reduceEqDiff, reduceAdd, reduceCtorEq]
  intro vs
  exact ⟨by simpa using h, _, _, xs, by omega, rfl, by simp only [go_sem, yz0, Int.reduceLT, reduceLE, reduceToNat, reduceNeg, Nat.reduceLT, reduceLeDiff, reduceMul, reduceSub, reduceIte, reduceEqDiff, reduceAdd, reduceCtorEq], rfl⟩
theorem k_Clone (xs : List Int) (h : xs.length * 8 ≤ 140737488355328) : RowI Try.prog nz1j [.ro (argN xs) 1 (ints xs)] (fun ys => ys = xs) := by
  refine rowI_of mixed cze9 rfl ?_
  simp only [Bz69, Bz6a, Bz6b, Az6c, go_sem, yz0, Int.reduceLT, reduceLE, reduceToNat, reduceNeg, Nat.reduceLT, reduceLeDiff, reduceMul, reduceSub, reduceIte, reduceEqDiff, reduceAdd, reduceCtorEq]
  intro vs
  exact ⟨h, _, _, xs, by omega, rfl, by simp only [go_sem, yz0, Int.reduceLT, reduceLE, reduceToNat, reduceNeg, Nat.reduceLT, reduceLeDiff, reduceMul, reduceSub, reduceIte, reduceEqDiff, reduceAdd, reduceCtorEq], rfl⟩
end Go.Ab
namespace Go.Ab
open Go.Proofs
theorem nat1 (i : Nat) (m : Nat) (h : i < m) (hm : m ≤ maxLen) : IntKind.i64.wrap ((i : Int) + 1) = ((i + 1 : Nat) : Int) := by
  have := maxLen_le
  rw [w64 (by omega)]; simp
theorem take_eq_step {α : Type} [BEq α] {xs ys : List α} {i : Nat} (d : α) (h : i < xs.length) (h' : i < ys.length) (he : xs.take i = ys.take i) (hx : xs.getD i d = ys.getD i d) : xs.take (i + 1) = ys.take (i + 1) := by
  rw [List.getD_eq_getElem?_getD, List.getD_eq_getElem?_getD, List.getElem?_eq_getElem h, List.getElem?_eq_getElem h'] at hx
  simp only [Option.getD_some] at hx
  rw [List.take_add_one, List.take_add_one, he, List.getElem?_eq_getElem h, List.getElem?_eq_getElem h', hx]
theorem bne_false_eq {a b : Int} (h : (a != b) = false) : a = b := by simpa using h
theorem k_Equal (xs ys : List Int) : Fun Try.prog nz3y [.ro none 1 (ints xs), .ro none 1 (ints ys)] (bv (decide (xs = ys))) := by
  refine fun_of mixed czjh rfl ⟨rfl, trivial⟩ ?_
  simp only [Azfj, Bzfi, go_sem, yz0, Int.reduceLT, reduceLE, reduceToNat, reduceNeg, Nat.reduceLT, reduceLeDiff, reduceMul, reduceSub, reduceIte, reduceEqDiff, reduceAdd, reduceCtorEq]
  intro hx hy
  by_cases hlen : xs.length = ys.length
  · have hne : ((xs.length : Int) != (ys.length : Int)) = false := by rw [hlen]; simp
    simp only [hne, Bz6y, Bzfh, Bzff, go_sem, yz0, Int.reduceLT, reduceLE, reduceToNat, reduceNeg, Nat.reduceLT, reduceLeDiff, reduceMul, reduceSub, reduceIte, reduceEqDiff, reduceAdd, reduceCtorEq]
    intro _
    refine wpD_lo (fun i => xs.length - i) (fun i => i ≤ xs.length ∧ xs.take i = ys.take i)
      (fun i : Nat => ⟨L .any [(0, .ro none 1 (ints xs)), (1, .ro none 1 (ints ys)), (12, iv xs.length), (13, iv i)], L .gone []⟩) 0 (by simp) (by simp only [Bz2y, go_sem, yz0, Int.reduceLT, reduceLE, reduceToNat, reduceNeg, Nat.reduceLT, reduceLeDiff, reduceMul, reduceSub, reduceIte, reduceEqDiff, reduceAdd, reduceCtorEq]; try rfl) ?_
    rintro i ⟨hi, hti⟩
    by_cases hlt : (i : Int) < xs.length
    · have hlt1 : i < xs.length := by omega
      have hlt2 : i < ys.length := by omega
      simp only [Bz2y, Bz70, Bz6z, Bzfd, yzv hlt1, yzv hlt2, decide_eq_true hlt, go_sem, yz0, Int.reduceLT, reduceLE, reduceToNat, reduceNeg, Nat.reduceLT, reduceLeDiff, reduceMul, reduceSub, reduceIte, reduceEqDiff, reduceAdd, reduceCtorEq]
      refine ⟨⟨by omega, hlt1⟩, hlt1, ⟨by omega, hlt2⟩, hlt2, ?_⟩
      simp only [Bzfc, Bzfe, nat1 i _ hlt1 hx, go_sem, yz0, Int.reduceLT, reduceLE, reduceToNat, reduceNeg, Nat.reduceLT, reduceLeDiff, reduceMul, reduceSub, reduceIte, reduceEqDiff, reduceAdd, reduceCtorEq]
      refine ⟨fun h => ?_, fun h => ⟨i + 1, by omega, ⟨by omega, take_eq_step 0 hlt1 hlt2 hti (bne_false_eq h)⟩, rfl⟩⟩
      have : xs ≠ ys := by rintro rfl; simp at h
      simp [this]
    · have : i = xs.length := by omega
      subst this
      simp only [Bz2y, Bz70, Bz6z, Bzfg, decide_eq_false hlt, go_sem, yz0, Int.reduceLT, reduceLE, reduceToNat, reduceNeg, Nat.reduceLT, reduceLeDiff, reduceMul, reduceSub, reduceIte, reduceEqDiff, reduceAdd, reduceCtorEq]
      have : xs = ys := by rw [List.take_length, hlen, List.take_length] at hti; exact hti
      simp [this]
  · have hne : ((xs.length : Int) != (ys.length : Int)) = true := by simp; omega
    simp only [hne, Bz6y, go_sem, yz0, Int.reduceLT, reduceLE, reduceToNat, reduceNeg, Nat.reduceLT, reduceLeDiff, reduceMul, reduceSub, reduceIte, reduceEqDiff, reduceAdd, reduceCtorEq]
    have : xs ≠ ys := by rintro rfl; exact hlen rfl
    simp [this]
theorem k_l01Find (xss : List (List Int)) (x : List Int) : Fun Try.prog nz3v [.ro none 1 (rwn xss), .ro none 1 (ints x)] (iv (fidx (fun y => decide (y = x)) xss 0)) := by
  refine fun_of mixed czjc rfl ⟨rfl, trivial⟩ ?_
  simp only [Azez, Bzey, Bzew, go_sem, yz0, Int.reduceLT, reduceLE, reduceToNat, reduceNeg, Nat.reduceLT, reduceLeDiff, reduceMul, reduceSub, reduceIte, reduceEqDiff, reduceAdd, reduceCtorEq]
  refine wpD_lo (fun i => xss.length - i) (fun i => i ≤ xss.length ∧ fidx (fun y => decide (y = x)) (xss.drop i) i = fidx (fun y => decide (y = x)) xss 0)
    (fun i : Nat => ⟨L .any [(0, .ro none 1 (rwn xss)), (1, .ro none 1 (ints x)), (5, iv i)], L .gone []⟩) 0 (by simp) (by simp only [Bz2w, go_sem, yz0, Int.reduceLT, reduceLE, reduceToNat, reduceNeg, Nat.reduceLT, reduceLeDiff, reduceMul, reduceSub, reduceIte, reduceEqDiff, reduceAdd, reduceCtorEq]; try rfl) ?_
  rintro i ⟨hi, he⟩
  by_cases hlt : (i : Int) < xss.length
  · have hlt1 : i < xss.length := by omega
    simp only [Bz2w, Bz6l, Bz6m, rwn_getD hlt1, decide_eq_true hlt, go_sem, yz0, Int.reduceLT, reduceLE, reduceToNat, reduceNeg, Nat.reduceLT, reduceLeDiff, reduceMul, reduceSub, reduceIte, reduceEqDiff, reduceAdd, reduceCtorEq]
    intro hM vs
    refine ⟨⟨by omega, hlt1⟩, hlt1, ?_⟩
    refine yzt (k_l00Same (xss.getD i []) x) qCS trivial ?_
    rw [drop_getD hlt1 []] at he
    simp only [fidx] at he
    simp only [Bzeu, Bzev, nat1 i _ hlt1 hM, go_sem, yz0, Int.reduceLT, reduceLE, reduceToNat, reduceNeg, Nat.reduceLT, reduceLeDiff, reduceMul, reduceSub, reduceIte, reduceEqDiff, reduceAdd, reduceCtorEq]
    refine ⟨fun hp => ?_, fun hp => ⟨i + 1, by omega, ⟨by omega, ?_⟩, rfl⟩⟩
    · simp only [hp, if_true] at he; rw [← he]
    · simp only [hp, Bool.false_eq_true, if_false] at he; exact he
  · have : i = xss.length := by omega
    subst this
    rw [List.drop_length] at he
    simp only [fidx] at he
    simp only [Bz2w, Bz6l, Bz6m, Bzex, decide_eq_false hlt, go_sem, yz0, Int.reduceLT, reduceLE, reduceToNat, reduceNeg, Nat.reduceLT, reduceLeDiff, reduceMul, reduceSub, reduceIte, reduceEqDiff, reduceAdd, reduceCtorEq]
    intro _
    rw [← he]
def keyS (xs : List Int) : ByteArray := ⟨((xs.map IntKind.u8.wrap).map fun n => UInt8.ofNat n.toNat).toArray⟩
end Go.Ab
namespace Go.Ab
open Go.Proofs
abbrev nilS : AVal := .val (.slice none 0 0)
end Go.Ab
namespace Go.Ab
def SI (l : List Int) : Prop := l.Pairwise (· < ·)
theorem SI_ext : ∀ {a b : List Int}, SI a → SI b → (∀ x, x ∈ a ↔ x ∈ b) → a = b
  | [], [], _, _, _ => rfl
  | [], y :: b, _, _, h => by have := (h y).2 (by simp); simp at this
  | x :: a, [], _, _, h => by have := (h x).1 (by simp); simp at this
  | x :: a, y :: b, ha, hb, h => by
    unfold SI at ha hb
    rw [List.pairwise_cons] at ha hb
    have e : x = y := by
      rcases List.mem_cons.1 ((h x).1 (by simp)) with e | h1
      · exact e
      · rcases List.mem_cons.1 ((h y).2 (by simp)) with e | h2
        · exact e.symm
        · have := hb.1 x h1; have := ha.1 y h2; omega
    subst e
    have : a = b := SI_ext ha.2 hb.2 fun z => by
      constructor
      · intro hz
        rcases List.mem_cons.1 ((h z).1 (by simp [hz])) with e | h1
        · have := ha.1 z hz; omega
        · exact h1
      · intro hz
        rcases List.mem_cons.1 ((h z).2 (by simp [hz])) with e | h1
        · have := hb.1 z hz; omega
        · exact h1
    rw [this]
def put : List Int → Int → List Int
  | [], n => [n]
  | x :: xs, n => if n ≤ x then (if n < x then n :: x :: xs else x :: xs) else x :: put xs n
theorem put_mem {n y : Int} : ∀ {xs : List Int}, y ∈ put xs n ↔ y = n ∨ y ∈ xs
  | [] => by simp [put]
  | x :: xs => by
    simp only [put]
    split
    · split
      · simp
      · have : x = n := by omega
        subst this
        simp
    · rw [List.mem_cons, put_mem, List.mem_cons]
      constructor
      · rintro (h | h | h)
        · exact .inr (.inl h)
        · exact .inl h
        · exact .inr (.inr h)
      · rintro (h | h | h)
        · exact .inr (.inl h)
        · exact .inl h
        · exact .inr (.inr h)
theorem put_SI {n : Int} : ∀ {xs : List Int}, SI xs → SI (put xs n)
  | [], _ => by simp [put, SI]
  | x :: xs, h => by
    have h0 := h
    unfold SI at h
    rw [List.pairwise_cons] at h
    simp only [put]
    split
    · split
      · unfold SI
        rw [List.pairwise_cons]
        refine ⟨fun y hy => ?_, h0⟩
        rcases List.mem_cons.1 hy with rfl | hy
        · assumption
        · have := h.1 y hy; omega
      · exact h0
    · unfold SI
      rw [List.pairwise_cons]
      refine ⟨fun y hy => ?_, put_SI h.2⟩
      rcases put_mem.1 hy with rfl | hy
      · omega
      · exact h.1 y hy
theorem put_len {n : Int} : ∀ {xs : List Int}, (put xs n).length ≤ xs.length + 1
  | [] => by simp [put]
  | x :: xs => by
    simp only [put]
    split
    · split <;> simp
    · have := put_len (n := n) (xs := xs)
      simp only [List.length_cons]; omega
def nrm (l : List Int) : List Int := l.foldl put []
theorem nrm_acc : ∀ (l acc : List Int), SI acc → SI (l.foldl put acc) ∧ ∀ y, y ∈ l.foldl put acc ↔ y ∈ acc ∨ y ∈ l
  | [], acc, h => ⟨h, by simp⟩
  | x :: l, acc, h => by
    obtain ⟨h1, h2⟩ := nrm_acc l (put acc x) (put_SI h)
    refine ⟨h1, fun y => ?_⟩
    rw [List.foldl_cons, h2, put_mem, List.mem_cons]
    constructor
    · rintro ((h | h) | h)
      · exact .inr (.inl h)
      · exact .inl h
      · exact .inr (.inr h)
    · rintro (h | h | h)
      · exact .inl (.inr h)
      · exact .inl (.inl h)
      · exact .inr h
theorem nrm_SI (l : List Int) : SI (nrm l) := (nrm_acc l [] (by simp [SI])).1
theorem nrm_mem {l : List Int} {y : Int} : y ∈ nrm l ↔ y ∈ l := by
  have := (nrm_acc l [] (by simp [SI])).2 y
  simpa [nrm] using this
theorem compact_sorted {zs : List Int} (h : zs.Pairwise (· ≤ ·)) : SI (Lib.compact zs) ∧ ∀ y, y ∈ Lib.compact zs ↔ y ∈ zs := by
  have hget : ∀ j, j < zs.length → zs.toArray[j]! = zs.getD j 0 := by
    intro j hj
    rw [getElem!_pos _ j (by simpa using hj), List.getD_eq_getElem?_getD, List.getElem?_eq_getElem hj]; simp
  have hle : ∀ i j, i < j → j < zs.length → zs.getD i 0 ≤ zs.getD j 0 := by
    intro i j hij hj
    rw [List.pairwise_iff_getElem] at h
    have := h i j (by omega) hj hij
    rw [List.getD_eq_getElem?_getD, List.getElem?_eq_getElem (by omega), List.getD_eq_getElem?_getD, List.getElem?_eq_getElem hj]
    exact this
  have key : ∀ m, m ≤ zs.length → SI (Lib.compactUpTo zs.toArray m) ∧ ∀ y, y ∈ Lib.compactUpTo zs.toArray m ↔ y ∈ zs.take m := by
    intro m
    induction m with
    | zero => intro _; simp [Lib.compactUpTo, SI]
    | succ m ih =>
      intro hm
      obtain ⟨h1, h2⟩ := ih (by omega)
      have ht : zs.take (m + 1) = zs.take m ++ [zs.getD m 0] := by
        rw [List.take_succ_eq_append_getElem (by omega), List.getD_eq_getElem?_getD, List.getElem?_eq_getElem (by omega)]; rfl
      rw [Lib.compactUpTo_succ, ht, hget m (by omega)]
      have hlast : ∀ y ∈ zs.take m, y ≤ zs.getD (m - 1) 0 := by
        intro y hy
        obtain ⟨i, hi, rfl⟩ := List.mem_iff_getElem.1 hy
        have hi' : i < m := by simp at hi; omega
        rw [List.getElem_take]
        have e : zs[i] = zs.getD i 0 := by rw [List.getD_eq_getElem?_getD, List.getElem?_eq_getElem (by omega)]; rfl
        rw [e]
        by_cases hi2 : i = m - 1
        · rw [hi2]; exact Int.le_refl _
        · exact hle i (m - 1) (by omega) (by omega)
      by_cases hk : Lib.keeps zs.toArray m = true
      · rw [if_pos hk]
        refine ⟨?_, fun y => by rw [List.mem_append, List.mem_append, h2]⟩
        unfold SI at h1 ⊢
        rw [List.pairwise_append]
        refine ⟨h1, by simp, ?_⟩
        intro x hx y hy
        have hy : y = zs.getD m 0 := by simpa using hy
        subst hy
        have hx1 := hlast x ((h2 x).1 hx)
        have hm0 : m ≠ 0 := by
          rintro rfl
          have := (h2 x).1 hx
          simp at this
        have hk' : zs.getD m 0 ≠ zs.getD (m - 1) 0 := by
          have := hk
          simp only [Lib.keeps, decide_eq_true_eq, hget m (by omega), hget (m - 1) (by omega)] at this
          rcases this with e | e
          · exact absurd e hm0
          · exact e
        have := hle (m - 1) m (by omega) (by omega)
        omega
      · have hk2 : Lib.keeps zs.toArray m = false := by simpa using hk
        rw [if_neg (by rw [hk2]; simp), List.append_nil]
        refine ⟨h1, fun y => ?_⟩
        rw [h2, List.mem_append, List.mem_singleton]
        simp only [Lib.keeps, decide_eq_false_iff_not, hget m (by omega), hget (m - 1) (by omega)] at hk2
        have hm0 : m ≠ 0 := fun e => hk2 (.inl e)
        have he : zs.getD m 0 = zs.getD (m - 1) 0 := Classical.byContradiction fun e => hk2 (.inr e)
        constructor
        · exact .inl
        · rintro (h | rfl)
          · exact h
          · rw [he]
            have : (zs.take m).getD (m - 1) 0 = zs.getD (m - 1) 0 := by
              rw [List.getD_eq_getElem?_getD, List.getElem?_take, if_pos (by omega), ← List.getD_eq_getElem?_getD]
            rw [← this, List.getD_eq_getElem?_getD, List.getElem?_eq_getElem (by simp; omega)]
            exact List.getElem_mem _
  have := key zs.length (Nat.le_refl _)
  rw [List.take_length] at this
  exact this
end Go.Ab
namespace Go.Proofs
open Go.Shelf
def Try.lcompactF_ren : Go.Shelf.Ren := ⟨fun | 43 => 59 | n => n, fun | 22 => 75 | 23 => 78 | 3 => 3 | 4 => 4 | 0 => 0 | n => n, fun | n => n⟩
theorem Try.lcompactF : Go.Proofs.SlLaysE.n43 Try.prog Try.lcompactF_ren := {
  mixed := by kernel_rfl
  f43 := ⟨Try.f59.name, by decide, Try.func59.trans (congrArg some (by kernel_rfl))⟩
  t0 := Try.underlying0
  a0 := Try.isAgg0
  z0 := Try.sizeOf0
  v0 := Try.zeroValue0
  t3 := Try.underlying3
  a3 := Try.isAgg3
  z3 := Try.sizeOf3
  v3 := Try.zeroValue3
  t4 := Try.underlying4
  a4 := Try.isAgg4
  z4 := Try.sizeOf4
  v4 := Try.zeroValue4
  t22 := Try.underlying75
  a22 := Try.isAgg75
  z22 := Try.sizeOf75
  v22 := Try.zeroValue75
  a23 := Try.isAgg78
  z23 := Try.sizeOf78 }
def Try.ldelF_ren : Go.Shelf.Ren := ⟨fun | 10 => 58 | 6 => 85 | n => n, fun | 22 => 75 | 23 => 78 | 25 => 87 | 3 => 3 | 4 => 4 | 0 => 0 | n => n, fun | n => n⟩
theorem Try.ldelF : Go.Proofs.SlLaysH.n10 Try.prog Try.ldelF_ren := {
  mixed := by kernel_rfl
  f6 := ⟨Try.f85.name, by decide, Try.func85.trans (congrArg some (by kernel_rfl))⟩
  f10 := ⟨Try.f58.name, by decide, Try.func58.trans (congrArg some (by kernel_rfl))⟩
  t0 := Try.underlying0
  a0 := Try.isAgg0
  z0 := Try.sizeOf0
  v0 := Try.zeroValue0
  t3 := Try.underlying3
  a3 := Try.isAgg3
  z3 := Try.sizeOf3
  v3 := Try.zeroValue3
  t4 := Try.underlying4
  a4 := Try.isAgg4
  z4 := Try.sizeOf4
  v4 := Try.zeroValue4
  t22 := Try.underlying75
  a22 := Try.isAgg75
  z22 := Try.sizeOf75
  v22 := Try.zeroValue75
  a23 := Try.isAgg78
  z23 := Try.sizeOf78
  t25 := Try.underlying87
  a25 := Try.isAgg87
  z25 := Try.sizeOf87
  v25 := Try.zeroValue87 }
end Go.Proofs
namespace Go.Ab
open Go.Proofs
theorem call_row1 {P : Program} {σ : St} {g : FuncId} {As : List AVal} {d : Option Nat} {s : Nat → Nat} {K : St → Prop} {r v : Nat} {cs cs' : List AVal} {nn : Bool} {R : List AObj → List AObj → AVal → Prop}
    (h : Con P g [.row 0 1 nn cs'] [.own 5000 0] true R) (hr : σ.hp r = .row v 1 nn cs) (hco : CoeL σ.hp [r] false cs' cs) (hA : As = [.own r v])
    (hk : ∀ outs rows res, R outs rows res → rows = [] ∧ ∃ o, outs = [o] ∧ K (St.put ⟨σ.tm, upd σ.hp r (o.ren (rid [r] (d.getD 0) 0) (sv σ.hp [r] s))⟩ d (res.ren (rid [r] (d.getD 0) 0) (sv σ.hp [r] s)))) :
    wpCall P false σ g As d s K := by
  subst hA
  refine .inl ⟨[r], [.row 0 1 nn cs'], [.own 5000 0], true, R, h, ⟨by simp, rfl, by simp, by simp [hr], ?_⟩, ?_, (fun e => by cases e), ?_⟩
  · intro j B r' hB hr'
    cases j with
    | succ j => simp at hB
    | zero =>
      simp at hB hr'; subst hB; subst hr'
      simp only [ObjCoe, hr]
      exact ⟨trivial, v, cs, rfl, hco⟩
  · rw [yz12]
    simp only [Coe, coeL_nil, and_true]
    exact ⟨0, r, v, rfl, rfl, rfl, rfl, by rw [hr]; rfl⟩
  · intro outs rows res hR
    obtain ⟨rfl, o, rfl, hK⟩ := hk outs rows res hR
    refine ⟨rfl, by simp, by simp, ?_⟩
    rw [callHp_m]
    exact hK
theorem sv_0 {hp : Nat → AObj} {r v : Nat} {s : Nat → Nat} (h : (hp r).ver = some v) : sv hp [r] s 0 = v := by
  unfold sv; simp [h]
theorem ren_own_h {r d n u : Nat} {s : Nat → Nat} : AVal.ren (rid [r] d n) s (.own 5000 u) = .own r (s u) := by
  have h1 : rid [r] d n 5000 = some r := rid_m (j := 0) (by omega) rfl
  simp only [AVal.ren, h1]
abbrev Fun2 (P : Program) (g : FuncId) (args : List AVal) (x y : Value) : Prop := Fn P g args fun rows res => rows = [] ∧ res = .tup [.val x, .val y]
theorem fun2_of {P : Program} {g : FuncId} {F : AFn} (hm : P.follows .mixedOrders = true) {no : Option (List Nat × List FuncId)} (hF : cFn (drV no) P g F) {args : List AVal} (hargs : args.length = F.nparams) {x y : Value}
    (h : wpD P F.code (finQ fun σ => (∀ x ∈ F.res, σ.there x) ∧ σ.value F.res = .tup [.val x, .val y]) (St.init args [])) : Fun2 P g args x y := by
  refine con_of hm hF hargs (by simp) (wpD_mono _ _ _ _ (fun e σ he => ?_) h)
  have : ((∀ x ∈ F.res, σ.there x) ∧ σ.value F.res = .tup [.val x, .val y]) → _ := fun ⟨h1, h2⟩ =>
    (show (∀ x ∈ F.res, σ.there x) ∧ ∃ ids : List Nat, ids.length ≤ 1000 ∧ ids.Nodup ∧ (∀ n ∈ ids, n < 5000) ∧ (σ.value F.res).fresh ∧ (∀ n ∈ ids, (σ.hp n).fresh) ∧ (∀ j, j < ([] : List AObj).length → (σ.hp (5000 + j)).fresh) ∧
      (fun outs rows res => outs = [] ∧ rows = [] ∧ res = AVal.tup [.val x, .val y]) ((List.range ([] : List AObj).length).map fun j => (σ.hp (5000 + j)).ren (expo ids) id) (ids.map fun n => (σ.hp n).ren (expo ids) id) ((σ.value F.res).ren (expo ids) id) from
    ⟨h1, [], by simp, by simp, by simp, by rw [h2]; simp [AVal.fresh, freshL], by simp, by simp, rfl, rfl, by rw [h2]; simp only [Nat.not_lt_zero, range1, yzw, yzx, ren_ro, rnNm_n, yzz, rnNm_o, rnNm_s, ren_st, yzy, yzs, yze, yz3, yzq, yzo, yzl, yzn, yzp, yz6, yz9, yzb, yza, yzj, yzi, yz4, yzd, yzc, yz7, yzf, yzh, List.range_zero, yz2, yz5, yz8, yzr, yzk, yzm, AVal.fresh, freshL, yz1, yzg, AObj.fresh, id, Option.isSome_some, or_true, true_or]⟩)
  cases e with
  | exit _ => exact he
  | normal => exact this he
  | ret => exact this he
theorem call_fun2 {P : Program} {pu : Bool} {σ : St} {g : FuncId} {As args : List AVal} {d : Option Nat} {s : Nat → Nat} {K : St → Prop} {x y : Value} (h : Fun2 P g args x y) (hco : CoeL σ.hp [] true args As)
    (hk : K (St.put σ d (.tup [.val x, .val y]))) : wpCall P pu σ g As d s K := by
  refine call_fn h hco (fun _ => ⟨_, _, rfl, rfl⟩) ?_
  rintro rows res ⟨rfl, rfl⟩
  refine ⟨by simp, by simp, ?_⟩
  simp only [Nat.not_lt_zero, range1, yzw, yzx, ren_ro, rnNm_n, yzz, rnNm_o, rnNm_s, ren_st, yzy, yzs, yze, yz3, yzq, yzo, yzl, yzn, yzp, yz6, yz9, yzb, yza, yzj, yzi, yz4, yzd, yzc, yz7, yzf, yzh, List.range_zero, yz2, yz5, yz8, yzr, yzk, yzm, AVal.fresh, freshL, yz1, yzg, AObj.fresh, id, Option.isSome_some, or_true, true_or]
  exact hk
theorem wordB_iff {l : Nat} {w : List Int} : wordB l w = true ↔ (w.length : Int) ≤ 400 ∧ IsW l w := by
  simp only [wordB, Bool.and_eq_true, decide_eq_true_eq, allIn_iff]
  constructor
  · rintro ⟨h1, h2⟩; exact ⟨h1, fun x hx => by have := h2 x hx; omega⟩
  · rintro ⟨h1, h2⟩; exact ⟨h1, fun x hx => by have := h2 x hx; omega⟩
attribute [go_sem] dnL_rwo mvL_rwo rwo_len
theorem k_l01Word (n : Int) (next : List (List Int)) (w : List Int) (hl : next.length ≤ 1000000) : Fun Try.prog nz46 [autP n next, .ro none 1 (ints w)] (bv (wordB next.length w)) := by
  refine fun_of mixed czkl rfl ⟨rfl, trivial⟩ ?_
  simp only [Azhh, Bzhg, Bzhe, go_sem, yz0, Int.reduceLT, reduceLE, reduceToNat, reduceNeg, Nat.reduceLT, reduceLeDiff, reduceMul, reduceSub, reduceIte, reduceEqDiff, reduceAdd, reduceCtorEq]
  refine wpD_lo (fun i => w.length - i) (fun i => i ≤ w.length ∧ allIn (w.take i) 0 ((next.length : Int) - 1) = true)
    (fun i : Nat => ⟨L .any [(0, autP n next), (1, .ro none 1 (ints w)), (5, iv i)], L .gone []⟩) 0 (by simp [allIn]) (by simp only [Bz38, go_sem, yz0, Int.reduceLT, reduceLE, reduceToNat, reduceNeg, Nat.reduceLT, reduceLeDiff, reduceMul, reduceSub, reduceIte, reduceEqDiff, reduceAdd, reduceCtorEq]; try rfl) ?_
  rintro i ⟨hi, he⟩
  have w1 : IntKind.i64.wrap ((next.length : Int) - 1) = (next.length : Int) - 1 := w64 (by omega)
  by_cases hlt : (i : Int) < w.length
  · have hlt1 : i < w.length := by omega
    simp only [Bz38, Bz7j, Bz7k, yzv hlt1, decide_eq_true hlt, go_sem, yz0, Int.reduceLT, reduceLE, reduceToNat, reduceNeg, Nat.reduceLT, reduceLeDiff, reduceMul, reduceSub, reduceIte, reduceEqDiff, reduceAdd, reduceCtorEq]
    intro hM vs
    refine ⟨⟨by omega, hlt1⟩, hlt1, ?_⟩
    rw [w1]
    refine yzt (k_l00In (w.getD i 0) 0 ((next.length : Int) - 1)) qCS trivial ?_
    have ht : w.take (i + 1) = w.take i ++ [w.getD i 0] := by
      rw [List.take_succ_eq_append_getElem hlt1, List.getD_eq_getElem?_getD, List.getElem?_eq_getElem hlt1]; rfl
    simp only [Bzhc, Bzhd, nat1 i _ hlt1 hM, go_sem, yz0, Int.reduceLT, reduceLE, reduceToNat, reduceNeg, Nat.reduceLT, reduceLeDiff, reduceMul, reduceSub, reduceIte, reduceEqDiff, reduceAdd, reduceCtorEq]
    refine ⟨fun h => ?_, fun h => ⟨i + 1, by omega, ⟨by omega, ?_⟩, rfl⟩⟩
    · have : wordB next.length w = false := by
        cases hb : wordB next.length w with
        | false => rfl
        | true =>
          have := (wordB_iff.1 hb).2 (w.getD i 0) (yzu hlt1 _)
          simp only [w1, Bool.not_eq_true', Bool.and_eq_false_iff, decide_eq_false_iff_not] at h; omega
      rw [this]
    · rw [ht, allIn_iff]
      intro x hx
      rcases List.mem_append.1 hx with hx | hx
      · exact allIn_iff.1 he x hx
      · have hx : x = w.getD i 0 := by simpa using hx
        subst hx
        simp only [w1, Bool.not_eq_false', Bool.and_eq_true, decide_eq_true_eq] at h; omega
  · have : i = w.length := by omega
    subst this
    rw [List.take_length] at he
    simp only [Bz38, Bz7j, Bz7k, Bzhf, decide_eq_false hlt, go_sem, yz0, Int.reduceLT, reduceLE, reduceToNat, reduceNeg, Nat.reduceLT, reduceLeDiff, reduceMul, reduceSub, reduceIte, reduceEqDiff, reduceAdd, reduceCtorEq]
    intro _ _
    simp only [wordB, he, Bool.and_true]
theorem k_l00Put (xs : List Int) (x : Int) (h : xs.length ≤ 1000000) : RowI Try.prog nz45 [.ro none 1 (ints xs), iv x] (fun ys => ys = put xs x) := by
  refine rowI_of mixed czkk rfl ?_
  simp only [Azhb, Bzha, go_sem, yz0, Int.reduceLT, reduceLE, reduceToNat, reduceNeg, Nat.reduceLT, reduceLeDiff, reduceMul, reduceSub, reduceIte, reduceEqDiff, reduceAdd, reduceCtorEq]
  intro vs
  simp only [Bzh9, Bzh8, Bzh7, go_sem, yz0, Int.reduceLT, reduceLE, reduceToNat, reduceNeg, Nat.reduceLT, reduceLeDiff, reduceMul, reduceSub, reduceIte, reduceEqDiff, reduceAdd, reduceCtorEq]
  refine wpD_lo (fun (_, _, i, _) => xs.length - i) (fun (_, d, i, out) => i ≤ xs.length ∧ List.length out ≤ i + d.toNat ∧ out ++ (if d = true then xs.drop i else put (xs.drop i) x) = put xs x)
    (fun ((v, d, i, out) : Nat × Bool × Nat × List Int) => ⟨L .any [(0, .ro none 1 (ints xs)), (1, iv x), (5, .own 8 v), (6, bv d), (7, iv i)], L .gone [(8, .row v 1 true (ints out))]⟩) (_, false, 0, []) (by simp) (by simp only [Bzc, go_sem, yz0, Int.reduceLT, reduceLE, reduceToNat, reduceNeg, Nat.reduceLT, reduceLeDiff, reduceMul, reduceSub, reduceIte, reduceEqDiff, reduceAdd, reduceCtorEq]; try rfl) ?_
  rintro ⟨v, d, i, out⟩ ⟨hi, ho, he⟩
  by_cases hlt : (i : Int) < xs.length
  · have hlt1 : i < xs.length := by omega
    have hdr := drop_getD hlt1 (0 : Int)
    have hsn : ∀ u : List Int, u ++ [xs.getD i 0] = u ++ [xs.getD i 0] := fun _ => rfl
    cases d with
    | true =>
      simp only [if_true, hdr] at he
      simp only [Bool.toNat_true] at ho
      simp only [Bzc, Bzv, Bzy, Bz37, Bzw, Bzx, yzv hlt1, decide_eq_true hlt, go_sem, yz0, Int.reduceLT, reduceLE, reduceToNat, reduceNeg, Nat.reduceLT, reduceLeDiff, reduceMul, reduceSub, reduceIte, reduceEqDiff, reduceAdd, reduceCtorEq]
      intro hM vs2
      refine ⟨⟨by omega, hlt1⟩, hlt1, ⟨_, rfl, rfl⟩, by omega, ?_⟩
      simp only [nat1 i _ hlt1 hM, go_sem, yz0, Int.reduceLT, reduceLE, reduceToNat, reduceNeg, Nat.reduceLT, reduceLeDiff, reduceMul, reduceSub, reduceIte, reduceEqDiff, reduceAdd, reduceCtorEq]
      exact ⟨(_, true, i + 1, out ++ [xs.getD i 0]), by dsimp only; omega, ⟨by dsimp only; omega, by dsimp only; simp; omega, by dsimp only; rw [if_pos rfl, ← he]; simp⟩, rfl⟩
    | false =>
      simp only [Bool.false_eq_true, if_false, hdr, put] at he
      simp only [Bool.toNat_false, Nat.add_zero] at ho
      simp only [Bzc, Bzv, Bzy, yzv hlt1, decide_eq_true hlt, go_sem, yz0, Int.reduceLT, reduceLE, reduceToNat, reduceNeg, Nat.reduceLT, reduceLeDiff, reduceMul, reduceSub, reduceIte, reduceEqDiff, reduceAdd, reduceCtorEq]
      intro hM
      refine ⟨⟨by omega, hlt1⟩, hlt1, ?_⟩
      by_cases hge : x ≤ xs.getD i 0
      · rw [if_pos hge] at he
        simp only [Bz37, Bzh6, yzv hlt1, decide_eq_true hge, go_sem, yz0, Int.reduceLT, reduceLE, reduceToNat, reduceNeg, Nat.reduceLT, reduceLeDiff, reduceMul, reduceSub, reduceIte, reduceEqDiff, reduceAdd, reduceCtorEq]
        refine ⟨⟨by omega, hlt1⟩, hlt1, ?_⟩
        by_cases hgt : x < xs.getD i 0
        · rw [if_pos hgt] at he
          simp only [Bz7f, Bzw, Bzx, yzv hlt1, decide_eq_true hgt, go_sem, yz0, Int.reduceLT, reduceLE, reduceToNat, reduceNeg, Nat.reduceLT, reduceLeDiff, reduceMul, reduceSub, reduceIte, reduceEqDiff, reduceAdd, reduceCtorEq]
          refine ⟨⟨_, rfl, rfl⟩, by omega, ?_⟩
          intro vs3
          refine ⟨⟨by omega, hlt1⟩, hlt1, ⟨_, rfl, rfl⟩, by simp; omega, ?_⟩
          simp only [nat1 i _ hlt1 hM, go_sem, yz0, Int.reduceLT, reduceLE, reduceToNat, reduceNeg, Nat.reduceLT, reduceLeDiff, reduceMul, reduceSub, reduceIte, reduceEqDiff, reduceAdd, reduceCtorEq]
          exact ⟨(_, true, i + 1, out ++ [x] ++ [xs.getD i 0]), by dsimp only; omega, ⟨by dsimp only; omega, by dsimp only; simp; omega, by dsimp only; rw [if_pos rfl, ← he]; simp⟩, rfl⟩
        · rw [if_neg hgt] at he
          simp only [Bz7f, Bzw, Bzx, yzv hlt1, decide_eq_false hgt, go_sem, yz0, Int.reduceLT, reduceLE, reduceToNat, reduceNeg, Nat.reduceLT, reduceLeDiff, reduceMul, reduceSub, reduceIte, reduceEqDiff, reduceAdd, reduceCtorEq]
          intro vs2
          refine ⟨⟨by omega, hlt1⟩, hlt1, ⟨_, rfl, rfl⟩, by omega, ?_⟩
          simp only [nat1 i _ hlt1 hM, go_sem, yz0, Int.reduceLT, reduceLE, reduceToNat, reduceNeg, Nat.reduceLT, reduceLeDiff, reduceMul, reduceSub, reduceIte, reduceEqDiff, reduceAdd, reduceCtorEq]
          exact ⟨(_, true, i + 1, out ++ [xs.getD i 0]), by dsimp only; omega, ⟨by dsimp only; omega, by dsimp only; simp; omega, by dsimp only; rw [if_pos rfl, ← he]; simp⟩, rfl⟩
      · rw [if_neg hge] at he
        simp only [Bz37, Bzw, Bzx, yzv hlt1, decide_eq_false hge, go_sem, yz0, Int.reduceLT, reduceLE, reduceToNat, reduceNeg, Nat.reduceLT, reduceLeDiff, reduceMul, reduceSub, reduceIte, reduceEqDiff, reduceAdd, reduceCtorEq]
        intro vs2
        refine ⟨⟨by omega, hlt1⟩, hlt1, ⟨_, rfl, rfl⟩, by omega, ?_⟩
        simp only [nat1 i _ hlt1 hM, go_sem, yz0, Int.reduceLT, reduceLE, reduceToNat, reduceNeg, Nat.reduceLT, reduceLeDiff, reduceMul, reduceSub, reduceIte, reduceEqDiff, reduceAdd, reduceCtorEq]
        exact ⟨(_, false, i + 1, out ++ [xs.getD i 0]), by dsimp only; omega, ⟨by dsimp only; omega, by dsimp only; simp; omega, by dsimp only; rw [if_neg (by simp), ← he]; simp⟩, rfl⟩
  · have : i = xs.length := by have : i ≤ xs.length := hi; omega
    subst this
    rw [List.drop_length] at he
    have ho2 : out.length ≤ xs.length + 1 := by have := ho; cases d <;> simp at this <;> omega
    cases d with
    | true =>
      simp only [Bzc, Bzv, Bzy, Bz7i, Bz7g, Bz7h, decide_eq_false hlt, go_sem, yz0, Int.reduceLT, reduceLE, reduceToNat, reduceNeg, Nat.reduceLT, reduceLeDiff, reduceMul, reduceSub, reduceIte, reduceEqDiff, reduceAdd, reduceCtorEq]
      intro _
      refine ⟨8, v, out, by omega, rfl, by simp only [go_sem, yz0, Int.reduceLT, reduceLE, reduceToNat, reduceNeg, Nat.reduceLT, reduceLeDiff, reduceMul, reduceSub, reduceIte, reduceEqDiff, reduceAdd, reduceCtorEq], ?_⟩
      rw [← he]; simp
    | false =>
      simp only [Bzc, Bzv, Bzy, Bz7i, Bz7g, Bz7h, decide_eq_false hlt, go_sem, yz0, Int.reduceLT, reduceLE, reduceToNat, reduceNeg, Nat.reduceLT, reduceLeDiff, reduceMul, reduceSub, reduceIte, reduceEqDiff, reduceAdd, reduceCtorEq]
      intro _ vs2
      refine ⟨⟨_, rfl, rfl⟩, by omega, ?_⟩
      refine ⟨8, _, out ++ [x], by omega, rfl, by simp only [go_sem, yz0, Int.reduceLT, reduceLE, reduceToNat, reduceNeg, Nat.reduceLT, reduceLeDiff, reduceMul, reduceSub, reduceIte, reduceEqDiff, reduceAdd, reduceCtorEq], ?_⟩
      rw [← he]; simp [put]
end Go.Ab
namespace Go.Ab
open Go.Proofs
instance (l : List Int) : Decidable (SI l) := inferInstanceAs (Decidable (l.Pairwise (· < ·)))
theorem SI_len {n : Int} : ∀ {set : List Int}, SI set → (∀ x ∈ set, 0 ≤ x ∧ x < n) → (set.length : Int) ≤ n ∨ set = []
  | set, h, hx => by
    by_cases h0 : set = []
    · exact .inr h0
    left
    have key : ∀ i, i < set.length → (i : Int) ≤ set.getD i 0 := by
      intro i
      induction i with
      | zero =>
        intro hi
        exact (hx _ (yzu hi 0)).1
      | succ i ih =>
        intro hi
        have h1 := ih (by omega)
        unfold SI at h
        rw [List.pairwise_iff_getElem] at h
        have h2 := h i (i + 1) (by omega) hi (by omega)
        have e1 : set.getD i 0 = set[i] := by rw [List.getD_eq_getElem?_getD, List.getElem?_eq_getElem (by omega)]; rfl
        have e2 : set.getD (i + 1) 0 = set[i + 1] := by rw [List.getD_eq_getElem?_getD, List.getElem?_eq_getElem hi]; rfl
        rw [e1] at h1; rw [e2]; omega
    have hp : 0 < set.length := List.length_pos_iff.2 h0
    have h1 := key (set.length - 1) (by omega)
    have h2 := (hx _ (yzu (show set.length - 1 < set.length by omega) 0)).2
    omega
abbrev RowT (P : Program) (g : FuncId) (args : List AVal) (ok : Bool) (xs : List Int) (code : Int) : Prop := Fn P g args fun rows res =>
  if ok = true then ∃ v, rows = [.row v 1 true (ints xs)] ∧ res = .tup [.own 6000 v, iv code] else rows = [] ∧ res = .tup [nilS, iv code]
theorem call_rowT {P : Program} {pu : Bool} {σ : St} {g : FuncId} {As args : List AVal} {d : Nat} {s : Nat → Nat} {K : St → Prop} {ok : Bool} {xs : List Int} {code : Int} (h : RowT P g args ok xs code)
    (hco : CoeL σ.hp [] true args As) (hg : σ.hp d = .gone)
    (h1 : ok = true → ∀ v, K (St.put ⟨σ.tm, upd σ.hp d (.row v 1 true (ints xs))⟩ (some d) (.tup [.own d v, iv code])))
    (h2 : ok = false → K (St.put ⟨σ.tm, σ.hp⟩ (some d) (.tup [nilS, iv code]))) : wpCall P pu σ g As (some d) s K := by
  refine call_fn h hco (fun _ => ?_) ?_
  · cases ok with
    | true => exact ⟨[.row 0 1 true (ints xs)], .tup [.own 6000 0, iv code], by rw [if_pos rfl]; exact ⟨0, rfl, rfl⟩⟩
    | false => exact ⟨[], .tup [nilS, iv code], by rw [if_neg (by simp)]; exact ⟨rfl, rfl⟩⟩
  · intro rows res hR
    cases ok with
    | true =>
      simp only [if_true] at hR
      obtain ⟨v, rfl, rfl⟩ := hR
      refine ⟨by simp, ?_, ?_⟩
      · simp only [Option.getD_some, yzk]; exact hg
      · simp only [Option.getD_some, List.length_singleton, Nat.not_lt_zero, range1, yzw, yzx, ren_ro, rnNm_n, yzz, rnNm_o, rnNm_s, ren_st, yzy, yzs, yze, yz3, yzq, yzo, yzl, yzn, yzp, yz6, yz9, yzb, yza, yzj, yzi, yz4, yzd, yzc, yz7, yzf, yzh, List.range_zero, yz2, yz5, yz8, yzr, yzk, yzm, AVal.fresh, freshL, yz1, yzg, AObj.fresh, id, Option.isSome_some, or_true, true_or]
        exact h1 rfl _
    | false =>
      simp only [Bool.false_eq_true, if_false] at hR
      obtain ⟨rfl, rfl⟩ := hR
      refine ⟨by simp, by simp, ?_⟩
      simp only [Nat.not_lt_zero, range1, yzw, yzx, ren_ro, rnNm_n, yzz, rnNm_o, rnNm_s, ren_st, yzy, yzs, yze, yz3, yzq, yzo, yzl, yzn, yzp, yz6, yz9, yzb, yza, yzj, yzi, yz4, yzd, yzc, yz7, yzf, yzh, List.range_zero, yz2, yz5, yz8, yzr, yzk, yzm, AVal.fresh, freshL, yz1, yzg, AObj.fresh, id, Option.isSome_some, or_true, true_or]
      exact h2 rfl
end Go.Ab
namespace Go.Ab
open Go.Proofs
theorem call_rowM {P : Program} {σ : St} {g : FuncId} {As args : List AVal} {d : Option Nat} {s : Nat → Nat} {K : St → Prop} {r v : Nat} {cs cs' : List AVal} {nn : Bool} {R : List AObj → List AObj → AVal → Prop}
    (h : Con P g [.row 0 1 nn cs'] (.own 5000 0 :: args) true R) (hr : σ.hp r = .row v 1 nn cs) (hco : CoeL σ.hp [r] false cs' cs) (ha : CoeL σ.hp [r] false args As)
    (hk : ∀ outs rows res, R outs rows res → rows = [] ∧ ∃ o, outs = [o] ∧ K (St.put ⟨σ.tm, upd σ.hp r (o.ren (rid [r] (d.getD 0) 0) (sv σ.hp [r] s))⟩ d (res.ren (rid [r] (d.getD 0) 0) (sv σ.hp [r] s)))) :
    wpCall P false σ g (.own r v :: As) d s K := by
  refine .inl ⟨[r], [.row 0 1 nn cs'], .own 5000 0 :: args, true, R, h, ⟨by simp, rfl, by simp, by simp [hr], ?_⟩, ?_, (fun e => by cases e), ?_⟩
  · intro j B r' hB hr'
    cases j with
    | succ j => simp at hB
    | zero =>
      simp at hB hr'; subst hB; subst hr'
      simp only [ObjCoe, hr]
      exact ⟨trivial, v, cs, rfl, hco⟩
  · rw [yz12]
    refine ⟨?_, ha⟩
    simp only [Coe]
    exact ⟨0, r, v, rfl, rfl, rfl, rfl, by rw [hr]; rfl⟩
  · intro outs rows res hR
    obtain ⟨rfl, o, rfl, hK⟩ := hk outs rows res hR
    refine ⟨rfl, by simp, by simp, ?_⟩
    rw [callHp_m]
    exact hK
end Go.Ab
namespace Go.Ab
open Go.Proofs
abbrev RowC2 (P : Program) (g : FuncId) (args : List AVal) (xs : List Int) (code : Int) : Prop := Fn P g args fun rows res => ∃ v, rows = [.row v 1 true (ints xs)] ∧ res = .tup [.own 6000 v, iv code]
theorem call_rowC2 {P : Program} {pu : Bool} {σ : St} {g : FuncId} {As args : List AVal} {d : Nat} {s : Nat → Nat} {K : St → Prop} {xs : List Int} {code : Int} (h : RowC2 P g args xs code)
    (hco : CoeL σ.hp [] true args As) (hg : σ.hp d = .gone) (h1 : ∀ v, K (St.put ⟨σ.tm, upd σ.hp d (.row v 1 true (ints xs))⟩ (some d) (.tup [.own d v, iv code]))) : wpCall P pu σ g As (some d) s K := by
  refine call_fn h hco (fun _ => ⟨_, _, 0, rfl, rfl⟩) ?_
  rintro rows res ⟨v, rfl, rfl⟩
  refine ⟨by simp, ?_, ?_⟩
  · simp only [Option.getD_some, yzk]; exact hg
  · simp only [Option.getD_some, List.length_singleton, Nat.not_lt_zero, range1, yzw, yzx, ren_ro, rnNm_n, yzz, rnNm_o, rnNm_s, ren_st, yzy, yzs, yze, yz3, yzq, yzo, yzl, yzn, yzp, yz6, yz9, yzb, yza, yzj, yzi, yz4, yzd, yzc, yz7, yzf, yzh, List.range_zero, yz2, yz5, yz8, yzr, yzk, yzm, AVal.fresh, freshL, yz1, yzg, AObj.fresh, id, Option.isSome_some, or_true, true_or]
    exact h1 _
end Go.Ab
namespace Go.Ab
theorem put_len_new {x : Int} : ∀ {xs : List Int}, x ∉ xs → (put xs x).length = xs.length + 1
  | [], _ => by simp [put]
  | y :: xs, h => by
    have h1 : x ≠ y := fun e => h (by simp [e])
    have h2 : x ∉ xs := fun e => h (by simp [e])
    simp only [put]
    split
    · split
      · simp
      · omega
    · have := put_len_new (x := x) (xs := xs) h2
      simp only [List.length_cons]; omega
theorem nrm_len_nd {l : List Int} (h : l.Nodup) : (nrm l).length = l.length := by
  have gen : ∀ (l acc : List Int), l.Nodup → (∀ x ∈ l, x ∉ acc) → (l.foldl put acc).length = acc.length + l.length := by
    intro l
    induction l with
    | nil => intro acc _ _; simp
    | cons x l ih =>
      intro acc h1 h2
      rw [List.nodup_cons] at h1
      rw [List.foldl_cons, ih (put acc x) h1.2 (fun y hy hm => ?_), put_len_new (h2 x (by simp)), List.length_cons]
      · omega
      · rcases put_mem.1 hm with rfl | hm
        · exact h1.1 hy
        · exact h2 y (by simp [hy]) hm
  have := gen l [] h (by simp)
  simpa [nrm] using this
structure Once (n : Int) (l : List Int) : Prop where
  nd : l.Nodup
  rg : ∀ x ∈ l, 0 ≤ x ∧ x < n
theorem Once.len {n : Int} {l : List Int} (hn : 1 ≤ n) (h : Once n l) : (l.length : Int) ≤ n := by
  have h1 := nrm_len_nd h.nd
  rcases SI_len (nrm_SI l) (fun x hx => h.rg x (nrm_mem.1 hx)) with h2 | h2
  · omega
  · rw [h2] at h1; simp at h1; omega
theorem Once.snoc {n : Int} {l : List Int} {x : Int} (h : Once n l) (hx : 0 ≤ x ∧ x < n) (hm : x ∉ l) : Once n (l ++ [x]) := by
  refine ⟨?_, ?_⟩
  · rw [List.nodup_append]
    refine ⟨h.nd, by simp, ?_⟩
    intro a ha b hb
    have : b = x := by simpa using hb
    subst this
    rintro rfl
    exact hm ha
  · intro y hy
    rcases List.mem_append.1 hy with hy | hy
    · exact h.rg y hy
    · have : y = x := by simpa using hy
      subst this; exact hx
def addL (l : List Int) (x : Int) : List Int := if l.contains x = true then l else l ++ [x]
theorem Once.add {n : Int} {l : List Int} {x : Int} (h : Once n l) (hx : 0 ≤ x ∧ x < n) : Once n (addL l x) := by
  unfold addL
  split
  · exact h
  · rename_i h1
    exact h.snoc hx (by simpa using h1)
def visK (s : Int) : List (List Int) → List Int → List Int
  | [], l => l
  | row :: rs, l => visK s rs (addL l (row.getD s.toNat 0))
theorem Once.vis {n s : Int} (hs : 0 ≤ s ∧ s < n) : ∀ {rs : List (List Int)} {l : List Int}, (∀ row ∈ rs, (row.length : Int) = n ∧ ∀ x ∈ row, 0 ≤ x ∧ x < n) → Once n l → Once n (visK s rs l)
  | [], _, _, h => h
  | row :: rs, l, hr, h => by
    have h1 := hr row (by simp)
    have h2 : s.toNat < row.length := by omega
    exact Once.vis (rs := rs) hs (fun r hm => hr r (by simp [hm])) (h.add (h1.2 _ (yzu h2 0)))
end Go.Ab
namespace Go.Ab
open Go.Proofs
end Go.Ab
namespace Go.Ab
open Go.Proofs
def prow (p : Int → Int → Bool) (s : Int) : Int → Nat → List (List Int)
  | _, 0 => []
  | t, m + 1 => (if p s t = true then [[s, t]] else []) ++ prow p s (t + 1) m
def pall (p : Int → Int → Bool) (n : Int) : Int → Nat → List (List Int)
  | _, 0 => []
  | s, m + 1 => prow p s (s + 1) (n - (s + 1)).toNat ++ pall p n (s + 1) m
def pairsL (n : Int) (p : Int → Int → Bool) : List (List Int) := pall p n 0 n.toNat
end Go.Ab
namespace Go.Ab
open Go.Proofs
abbrev every (n : Int) : List (List Int) := pairsL n fun _ _ => true
abbrev imgL (next : List (List Int)) (set w : List Int) : List Int := nrm (set.map fun s => atA next s w)
end Go.Ab
namespace Go.Ab
open Go.Proofs
end Go.Ab
namespace Go.Ab
open Go.Proofs
end Go.Ab
namespace Go.Ab
open Go.Proofs
theorem thaw_L {l : List (Nat × AVal)} {h : List (Nat × AObj)} {r i q n m v k k' : Nat} {nn : Bool} {cs cs' : List AVal} (hr : L .gone h r = .row v k nn cs) :
    St.thaw ⟨L .any l, L .gone h⟩ r i q n m k' cs' = ⟨L .any (woT n l), L .gone ((q, .row m k' true (woL n cs')) :: (r, .row v k nn ((woL n cs).set i (.own q m))) :: woO n h)⟩ := by
  unfold St.thaw
  congr 1
  · funext x; exact (woT_eq l x).symm
  · funext x
    simp only [L]
    split
    · rfl
    · split
      · rw [hr]
      · exact (woO_eq h x).symm
theorem gwp_thaw {gs : List GStep} {K : St → Prop} {l : List (Nat × AVal)} {h : List (Nat × AObj)} {r i q n v k k' : Nat} {nn : Bool} {cs cs' : List AVal} (hr : L .gone h r = .row v k nn cs)
    (hi : cs[i]? = some (.ro (some (some (n + 1))) k' cs')) (hne : cs' ≠ []) (hq : L .gone h q = .gone)
    (hk : ∀ m, gwp gs K ⟨L .any (woT n l), L .gone ((q, .row m k' true (woL n cs')) :: (r, .row v k nn ((woL n cs).set i (.own q m))) :: woO n h)⟩) : gwp (.thaw r i q :: gs) K ⟨L .any l, L .gone h⟩ :=
  ⟨v, k, nn, cs, n, k', cs', hr, hi, hne, hq, fun m => by rw [thaw_L hr]; exact hk m⟩
theorem wo_o {n k : Nat} {cs : List AVal} : AVal.wo n (.ro (some (some 0)) k cs) = .ro (some (some 0)) k (woL n cs) := by cases cs <;> simp [AVal.wo, woL]
theorem wo_st {n : Nat} {cs : List AVal} : AVal.wo n (.st cs) = .st (woL n cs) := by simp only [AVal.wo]
theorem wo_ptr {n r u o : Nat} : AVal.wo n (.ptr r u o) = .ptr r u o := by simp only [AVal.wo]
theorem woL_nil {n : Nat} : woL n [] = [] := by simp only [woL]
theorem woL_cons {n : Nat} {A : AVal} {cs : List AVal} : woL n (A :: cs) = AVal.wo n A :: woL n cs := by simp only [woL]
theorem woO_row {n v k : Nat} {nn : Bool} {cs : List AVal} : AObj.wo n (.row v k nn cs) = .row v k nn (woL n cs) := rfl
theorem woO_box {n v : Nat} {cs : List AVal} : AObj.wo n (.box v cs) = .box v (woL n cs) := rfl
theorem callHp_h2 {hp : Nat → AObj} {r q1 d : Nat} {s : Nat → Nat} {o0 o1 : AObj} (hnd : [r, q1].Nodup) :
    callHp hp [r, q1] d s [o0, o1] [] = (upd (upd hp r (o0.ren (rid [r, q1] d 0) (sv hp [r, q1] s))) q1 (o1.ren (rid [r, q1] d 0) (sv hp [r, q1] s))) := by
  have hnd' := hnd
  simp only [List.nodup_cons, List.mem_cons, List.not_mem_nil, or_false, not_or, List.nodup_nil, and_true, not_false_eq_true] at hnd'
  funext n
  by_cases e1 : n = q1
  · have h1 : rid [r, q1] d ([] : List AObj).length 5001 = some n := by rw [e1]; exact rid_m (j := 1) (by omega) rfl
    rw [callHp_at hnd (by simp) h1]
    simp [upd, e1, outHp, hnd', Ne.symm]
    try (intros; simp_all)
  by_cases e0 : n = r
  · have h1 : rid [r, q1] d ([] : List AObj).length 5000 = some n := by rw [e0]; exact rid_m (j := 0) (by omega) rfl
    rw [callHp_at hnd (by simp) h1]
    simp [upd, e0, outHp, hnd', Ne.symm]
    try (intros; simp_all)
  rw [callHp_not]
  · simp [upd, e0, e1]
  · rintro ⟨x, hx⟩
    rcases rid_cases hx with ⟨j, rfl, _, h3⟩ | ⟨i, rfl, h3, _⟩
    · match j, h3 with
      | 0, h3 => simp at h3; exact e0 h3.symm
      | 1, h3 => simp at h3; exact e1 h3.symm
      | j + 2, h3 => simp at h3
    · simp at h3
end Go.Ab
namespace Go.Ab
open Go.Proofs
end Go.Ab
namespace Go.Ab
open Go.Proofs
end Go.Ab
namespace Go.Ab
open Go.Proofs
end Go.Ab
namespace Go.Ab
open Go.Proofs
theorem wo_any {n : Nat} : AVal.wo n .any = .any := by simp only [AVal.wo]
end Go.Ab
namespace Go.Ab
open Go.Proofs
abbrev machA (n o : Int) (next out : List (List Int)) : AVal := .st [iv n, iv o, .ro none 1 (rwn next), .ro none 1 (rwn out)]
abbrev machP (n o : Int) (next out : List (List Int)) : AVal := .rp [iv n, iv o, .ro none 1 (rwn next), .ro none 1 (rwn out)] 0
end Go.Ab
namespace Go.Ab
open Go.Proofs
def outB (n o : Int) (row : List Int) : Bool := decide ((row.length : Int) = n) && allIn row 0 (o - 1)
def machB (n o : Int) (next out : List (List Int)) : Bool := autB n next && ((decide (1 ≤ o) && decide (o ≤ 3)) && (decide (out.length = next.length) && out.all (outB n o)))
structure Mach (n o : Int) (next out : List (List Int)) : Prop where
  aut : Aut n next
  o1 : 1 ≤ o
  o2 : o ≤ 3
  len : out.length = next.length
  row : ∀ row ∈ out, (row.length : Int) = n ∧ ∀ x ∈ row, 0 ≤ x ∧ x < o
theorem machB_iff {n o : Int} {next out : List (List Int)} : machB n o next out = true ↔ Mach n o next out := by
  simp only [machB, outB, Bool.and_eq_true, decide_eq_true_eq, List.all_eq_true, allIn_iff, autB_iff]
  constructor
  · rintro ⟨h1, ⟨h2, h3⟩, h4, h5⟩
    exact ⟨h1, h2, h3, h4, fun row hr => ⟨(h5 row hr).1, fun x hx => by have := (h5 row hr).2 x hx; omega⟩⟩
  · rintro ⟨h1, h2, h3, h4, h5⟩
    exact ⟨h1, ⟨h2, h3⟩, h4, fun row hr => ⟨(h5 row hr).1, fun x hx => by have := (h5 row hr).2 x hx; omega⟩⟩
theorem k_forget (n o : Int) (next out : List (List Int)) : Con Try.prog nz1e [] [machA n o next out] true fun outs rows res => outs = [] ∧ rows = [] ∧ res = autA n next := by
  refine con_sh mixed czix rfl (by simp) ?_
  simp only [Azdi, Bzdh, go_sem, yz0, Int.reduceLT, reduceLE, reduceToNat, reduceNeg, Nat.reduceLT, reduceLeDiff, reduceMul, reduceSub, reduceIte, reduceEqDiff, reduceAdd, reduceCtorEq]
  intro vs
  refine ⟨[], by simp, by simp, by simp, ?_⟩
  simp only [Nat.not_lt_zero, range1, yzw, yzx, ren_ro, rnNm_n, yzz, rnNm_o, rnNm_s, ren_st, yzy, yzs, yze, yz3, yzq, yzo, yzl, yzn, yzp, yz6, yz9, yzb, yza, yzj, yzi, yz4, yzd, yzc, yz7, yzf, yzh, List.range_zero, yz2, yz5, yz8, yzr, yzk, yzm, AVal.fresh, freshL, yz1, yzg, AObj.fresh, id, Option.isSome_some, or_true, true_or, go_sem, yz0, Int.reduceLT, reduceLE, reduceToNat, reduceNeg, Nat.reduceLT, reduceLeDiff, reduceMul, reduceSub, reduceIte, reduceEqDiff, reduceAdd, reduceCtorEq]
theorem k_l06Plain (n o : Int) (next out : List (List Int)) : Con Try.prog nz1k [] [machP n o next out] true fun outs rows res => outs = [] ∧ rows = [] ∧ res = autA n next := by
  refine con_sh mixed czj8 rfl (by simp) ?_
  simp only [Azeb, Bzea, go_sem, yz0, Int.reduceLT, reduceLE, reduceToNat, reduceNeg, Nat.reduceLT, reduceLeDiff, reduceMul, reduceSub, reduceIte, reduceEqDiff, reduceAdd, reduceCtorEq]
  intro vs
  refine ⟨[], by simp, by simp, by simp, ?_⟩
  simp only [Nat.not_lt_zero, range1, yzw, yzx, ren_ro, rnNm_n, yzz, rnNm_o, rnNm_s, ren_st, yzy, yzs, yze, yz3, yzq, yzo, yzl, yzn, yzp, yz6, yz9, yzb, yza, yzj, yzi, yz4, yzd, yzc, yz7, yzf, yzh, List.range_zero, yz2, yz5, yz8, yzr, yzk, yzm, AVal.fresh, freshL, yz1, yzg, AObj.fresh, id, Option.isSome_some, or_true, true_or, go_sem, yz0, Int.reduceLT, reduceLE, reduceToNat, reduceNeg, Nat.reduceLT, reduceLeDiff, reduceMul, reduceSub, reduceIte, reduceEqDiff, reduceAdd, reduceCtorEq]
theorem k_ValidMachine_1 (row : List Int) (n o : Int) (next out : List (List Int)) (ho : 1 ≤ o ∧ o ≤ 3) : Fun Try.prog nz1g [.ro none 1 (ints row), machP n o next out] (bv !(outB n o row)) := by
  refine fun_of mixed czj0 rfl ⟨rfl, trivial⟩ ?_
  have w : IntKind.i64.wrap (o - 1) = o - 1 := w64 (by omega)
  simp only [Azdo, Bzdn, w, go_sem, yz0, Int.reduceLT, reduceLE, reduceToNat, reduceNeg, Nat.reduceLT, reduceLeDiff, reduceMul, reduceSub, reduceIte, reduceEqDiff, reduceAdd, reduceCtorEq]
  intro vs
  refine yzt (k_size row) qCS trivial ?_
  by_cases h : (row.length : Int) = n
  · have h2 : ((row.length : Int) != n) = false := by simp [h]
    simp only [h2, w, go_sem, yz0, Int.reduceLT, reduceLE, reduceToNat, reduceNeg, Nat.reduceLT, reduceLeDiff, reduceMul, reduceSub, reduceIte, reduceEqDiff, reduceAdd, reduceCtorEq]
    refine yzt (k_areWithin row 0 (o - 1)) qCS trivial ?_
    simp only [go_sem, yz0, Int.reduceLT, reduceLE, reduceToNat, reduceNeg, Nat.reduceLT, reduceLeDiff, reduceMul, reduceSub, reduceIte, reduceEqDiff, reduceAdd, reduceCtorEq]
    simp [outB, h]
  · have h2 : ((row.length : Int) != n) = true := by simp [h]
    simp only [h2, go_sem, yz0, Int.reduceLT, reduceLE, reduceToNat, reduceNeg, Nat.reduceLT, reduceLeDiff, reduceMul, reduceSub, reduceIte, reduceEqDiff, reduceAdd, reduceCtorEq]
    simp [outB, h]
theorem and_f {p q : Prop} [Decidable p] [Decidable q] (h : ¬ (p ∧ q)) : (decide p && decide q) = false := by
  rw [Bool.and_eq_false_iff, decide_eq_false_iff_not, decide_eq_false_iff_not]
  by_cases hp : p
  · exact .inr fun hq => h ⟨hp, hq⟩
  · exact .inl hp
theorem and_t {p q : Prop} [Decidable p] [Decidable q] (h : p ∧ q) : (decide p && decide q) = true := by
  rw [decide_eq_true h.1, decide_eq_true h.2]; rfl
theorem k_ValidMachine (n o : Int) (next out : List (List Int)) : Fun Try.prog nze [machA n o next out] (bv (machB n o next out)) := by
  refine fun_of mixed czih rfl ⟨rfl, trivial⟩ ?_
  simp only [Azaw, Bzav, go_sem, yz0, Int.reduceLT, reduceLE, reduceToNat, reduceNeg, Nat.reduceLT, reduceLeDiff, reduceMul, reduceSub, reduceIte, reduceEqDiff, reduceAdd, reduceCtorEq]
  intro vs vs2
  refine call_sh (k_forget n o next out) qCS (fun e => by cases e) ?_
  rintro outs rows res ⟨rfl, rfl, rfl⟩
  refine ⟨rfl, by simp, by simp, ?_⟩
  simp only [Nat.not_lt_zero, range1, yzw, yzx, ren_ro, rnNm_n, yzz, rnNm_o, rnNm_s, ren_st, yzy, yzs, yze, yz3, yzq, yzo, yzl, yzn, yzp, yz6, yz9, yzb, yza, yzj, yzi, yz4, yzd, yzc, yz7, yzf, yzh, List.range_zero, yz2, yz5, yz8, yzr, yzk, yzm, AVal.fresh, freshL, yz1, yzg, AObj.fresh, id, Option.isSome_some, or_true, true_or, go_sem, yz0, Int.reduceLT, reduceLE, reduceToNat, reduceNeg, Nat.reduceLT, reduceLeDiff, reduceMul, reduceSub, reduceIte, reduceEqDiff, reduceAdd, reduceCtorEq]
  refine yzt (k_Valid n next) qCS trivial ?_
  cases hv : autB n next with
  | false => simp only [machB, hv, Bool.false_and, go_sem, yz0, Int.reduceLT, reduceLE, reduceToNat, reduceNeg, Nat.reduceLT, reduceLeDiff, reduceMul, reduceSub, reduceIte, reduceEqDiff, reduceAdd, reduceCtorEq]
  | true =>
    simp only [go_sem, yz0, Int.reduceLT, reduceLE, reduceToNat, reduceNeg, Nat.reduceLT, reduceLeDiff, reduceMul, reduceSub, reduceIte, reduceEqDiff, reduceAdd, reduceCtorEq]
    refine yzt (k_within o 1 3) qCS trivial ?_
    by_cases ho : 1 ≤ o ∧ o ≤ 3
    · simp only [and_t ho, go_sem, yz0, Int.reduceLT, reduceLE, reduceToNat, reduceNeg, Nat.reduceLT, reduceLeDiff, reduceMul, reduceSub, reduceIte, reduceEqDiff, reduceAdd, reduceCtorEq]
      by_cases hl : out.length = next.length
      · have e : ((out.length : Int) == (next.length : Int)) = true := by simp [hl]
        simp only [e, go_sem, yz0, Int.reduceLT, reduceLE, reduceToNat, reduceNeg, Nat.reduceLT, reduceLeDiff, reduceMul, reduceSub, reduceIte, reduceEqDiff, reduceAdd, reduceCtorEq]
        intros
        refine yzt (k_ContainsFunc out nz1g [machP n o next out] _ ⟨by simp only [go_sem, yz0, Int.reduceLT, reduceLE, reduceToNat, reduceNeg, Nat.reduceLT, reduceLeDiff, reduceMul, reduceSub, reduceIte, reduceEqDiff, reduceAdd, reduceCtorEq], by intros; simp only [rowIs, boxIs, coe_argN, coe_argNs, coe_ro_o, coeL_nil, yz12, coe_any, coe_val, coe_ro, yz13, yz17, coe_st, yz15, coe_rp, yz16, coe_clo, coe_own0, coe_ptr0, yz11, coeL_rws, coeL_rwn, L_hit, L_miss, L_nil, reduceEqDiff, ne_eq, reduceCtorEq, not_false_eq_true, true_and, and_true, and_self, exists_eq_left, exists_eq_right, List.mem_cons, List.not_mem_nil, or_false, AObj.row.injEq, AObj.box.injEq, exists_eq_left', exists_and_left, exists_eq, Nat.zero_lt_one, Nat.lt_add_one, List.map_cons, List.map_nil, AObj.ver, Nat.reduceLT, not_true_eq_false]⟩ (fun x _ => k_ValidMachine_1 x n o next out ho)) qCS trivial ?_
        simp only [machB, hv, and_t ho, decide_eq_true hl, Bool.true_and, go_sem, yz0, Int.reduceLT, reduceLE, reduceToNat, reduceNeg, Nat.reduceLT, reduceLeDiff, reduceMul, reduceSub, reduceIte, reduceEqDiff, reduceAdd, reduceCtorEq]
        congr 2
        simp only [List.all_eq_not_any_not]
      · have e : ((out.length : Int) == (next.length : Int)) = false := beq_false_of_ne (by omega)
        simp only [machB, hv, e, and_t ho, decide_eq_false hl, Bool.true_and, Bool.false_and, go_sem, yz0, Int.reduceLT, reduceLE, reduceToNat, reduceNeg, Nat.reduceLT, reduceLeDiff, reduceMul, reduceSub, reduceIte, reduceEqDiff, reduceAdd, reduceCtorEq]
        try (intros; trivial)
    · simp only [machB, hv, and_f ho, Bool.true_and, Bool.false_and, go_sem, yz0, Int.reduceLT, reduceLE, reduceToNat, reduceNeg, Nat.reduceLT, reduceLeDiff, reduceMul, reduceSub, reduceIte, reduceEqDiff, reduceAdd, reduceCtorEq]
theorem k_l06Ok (n o : Int) (next out : List (List Int)) : Fun Try.prog nzf [machP n o next out] (bv (machB n o next out)) := by
  refine fun_of mixed czij rfl ⟨rfl, trivial⟩ ?_
  simp only [Azbq, Bzbp, go_sem, yz0, Int.reduceLT, reduceLE, reduceToNat, reduceNeg, Nat.reduceLT, reduceLeDiff, reduceMul, reduceSub, reduceIte, reduceEqDiff, reduceAdd, reduceCtorEq]
  intro vs
  refine call_sh (k_l06Plain n o next out) qCS (fun e => by cases e) ?_
  rintro outs rows res ⟨rfl, rfl, rfl⟩
  refine ⟨rfl, by simp, by simp, ?_⟩
  simp only [Bzbo, Nat.not_lt_zero, range1, yzw, yzx, ren_ro, rnNm_n, yzz, rnNm_o, rnNm_s, ren_st, yzy, yzs, yze, yz3, yzq, yzo, yzl, yzn, yzp, yz6, yz9, yzb, yza, yzj, yzi, yz4, yzd, yzc, yz7, yzf, yzh, List.range_zero, yz2, yz5, yz8, yzr, yzk, yzm, AVal.fresh, freshL, yz1, yzg, AObj.fresh, id, Option.isSome_some, or_true, true_or, go_sem, yz0, Int.reduceLT, reduceLE, reduceToNat, reduceNeg, Nat.reduceLT, reduceLeDiff, reduceMul, reduceSub, reduceIte, reduceEqDiff, reduceAdd, reduceCtorEq]
  intro vs2
  refine yzt (k_l01Ok n next) qCS trivial ?_
  cases hv : autB n next with
  | false => simp only [machB, hv, Bzs, Bool.false_and, go_sem, yz0, Int.reduceLT, reduceLE, reduceToNat, reduceNeg, Nat.reduceLT, reduceLeDiff, reduceMul, reduceSub, reduceIte, reduceEqDiff, reduceAdd, reduceCtorEq]
  | true =>
    simp only [go_sem, yz0, Int.reduceLT, reduceLE, reduceToNat, reduceNeg, Nat.reduceLT, reduceLeDiff, reduceMul, reduceSub, reduceIte, reduceEqDiff, reduceAdd, reduceCtorEq]
    refine yzt (k_l00In o 1 3) qCS trivial ?_
    by_cases ho : 1 ≤ o ∧ o ≤ 3
    · simp only [and_t ho, go_sem, yz0, Int.reduceLT, reduceLE, reduceToNat, reduceNeg, Nat.reduceLT, reduceLeDiff, reduceMul, reduceSub, reduceIte, reduceEqDiff, reduceAdd, reduceCtorEq]
      by_cases hl : out.length = next.length
      · have e : ((out.length : Int) != (next.length : Int)) = false := by simp [hl]
        have hB : machB n o next out = out.all (outB n o) := by simp only [machB, hv, and_t ho, decide_eq_true hl, Bool.true_and]
        simp only [e, Bzs, Bzbn, Bzbl, go_sem, yz0, Int.reduceLT, reduceLE, reduceToNat, reduceNeg, Nat.reduceLT, reduceLeDiff, reduceMul, reduceSub, reduceIte, reduceEqDiff, reduceAdd, reduceCtorEq]
        refine wpD_lo (fun k => out.length - k) (fun k => k ≤ out.length ∧ (out.drop k).all (outB n o) = machB n o next out)
          (fun k : Nat => ⟨L .any [(0, machP n o next out), (4, iv k)], L .gone []⟩) 0 (by simp [hB]) (by simp only [Bz2e, go_sem, yz0, Int.reduceLT, reduceLE, reduceToNat, reduceNeg, Nat.reduceLT, reduceLeDiff, reduceMul, reduceSub, reduceIte, reduceEqDiff, reduceAdd, reduceCtorEq]; try rfl) ?_
        rintro k ⟨hk, he⟩
        by_cases hlt : (k : Int) < out.length
        · have hlt1 : k < out.length := by omega
          rw [drop_getD hlt1 []] at he
          simp only [List.all_cons] at he
          have w0 : IntKind.i64.wrap (o - 1) = o - 1 := w64 (by omega)
          simp only [Bz2e, Bz5f, Bzbk, rwn_getD hlt1, decide_eq_true hlt, go_sem, yz0, Int.reduceLT, reduceLE, reduceToNat, reduceNeg, Nat.reduceLT, reduceLeDiff, reduceMul, reduceSub, reduceIte, reduceEqDiff, reduceAdd, reduceCtorEq]
          intro hM
          refine ⟨⟨by omega, hlt1⟩, hlt1, ?_⟩
          generalize hrow : out.getD k [] = row at he ⊢
          by_cases hn : (row.length : Int) = n
          · have e1 : ((row.length : Int) != n) = false := by simp [hn]
            have hob : outB n o row = allIn row 0 (o - 1) := by simp only [outB, decide_eq_true hn, Bool.true_and]
            simp only [e1, Bz5g, Bzbi, Bzbh, go_sem, yz0, Int.reduceLT, reduceLE, reduceToNat, reduceNeg, Nat.reduceLT, reduceLeDiff, reduceMul, reduceSub, reduceIte, reduceEqDiff, reduceAdd, reduceCtorEq]
            refine wpD_lo (fun s => row.length - s) (fun s => s ≤ row.length ∧ allIn (row.drop s) 0 (o - 1) = allIn row 0 (o - 1))
              (fun s : Nat => ⟨L .any [(0, machP n o next out), (4, iv k), (5, iv s)], L .gone []⟩) 0 (by simp) (by simp only [Bz2d, go_sem, yz0, Int.reduceLT, reduceLE, reduceToNat, reduceNeg, Nat.reduceLT, reduceLeDiff, reduceMul, reduceSub, reduceIte, reduceEqDiff, reduceAdd, reduceCtorEq]; try rfl) ?_
            rintro s ⟨hs, ha⟩
            by_cases hsl : (s : Int) < row.length
            · have hs1 : s < row.length := by omega
              have hrl : k < (rwn out).length := by rw [rwn_len]; exact hlt1
              rw [drop_getD hs1 0] at ha
              have ha : (decide (0 ≤ row.getD s 0) && decide (row.getD s 0 ≤ o - 1) && allIn (row.drop (s + 1)) 0 (o - 1)) = allIn row 0 (o - 1) := ha
              simp only [Bz2d, Bz5h, Bzbg, rwn_getD hlt1, hrow, yzv hs1, w0, decide_eq_true hsl, go_sem, yz0, Int.reduceLT, reduceLE, reduceToNat, reduceNeg, Nat.reduceLT, reduceLeDiff, reduceMul, reduceSub, reduceIte, reduceEqDiff, reduceAdd, reduceCtorEq]
              refine ⟨⟨by omega, hlt1⟩, hlt1, ?_⟩
              intro hM2 vs4
              refine ⟨⟨by omega, hlt1⟩, hlt1, ⟨by omega, hs1⟩, hs1, ?_⟩
              refine yzt (k_l00In (row.getD s 0) 0 (o - 1)) qCS trivial ?_
              cases hx : (decide (0 ≤ row.getD s 0) && decide (row.getD s 0 ≤ o - 1)) with
              | true =>
                rw [hx, Bool.true_and] at ha
                simp only [Bz5i, Bzbf, nat1 s _ hs1 hM2, go_sem, yz0, Int.reduceLT, reduceLE, reduceToNat, reduceNeg, Nat.reduceLT, reduceLeDiff, reduceMul, reduceSub, reduceIte, reduceEqDiff, reduceAdd, reduceCtorEq]
                exact ⟨s + 1, by omega, ⟨by omega, ha⟩, rfl⟩
              | false =>
                rw [hx, Bool.false_and] at ha
                have hf : machB n o next out = false := by rw [← he, hob, ← ha]; rfl
                simp only [Bz5i, hf, go_sem, yz0, Int.reduceLT, reduceLE, reduceToNat, reduceNeg, Nat.reduceLT, reduceLeDiff, reduceMul, reduceSub, reduceIte, reduceEqDiff, reduceAdd, reduceCtorEq]
            · have : s = row.length := by omega
              subst this
              rw [List.drop_length] at ha
              have he2 : (out.drop (k + 1)).all (outB n o) = machB n o next out := by rw [← he, hob, ← ha]; rfl
              simp only [Bz2d, Bz5h, Bzbj, rwn_getD hlt1, hrow, nat1 k _ hlt1 hM, decide_eq_false hsl, go_sem, yz0, Int.reduceLT, reduceLE, reduceToNat, reduceNeg, Nat.reduceLT, reduceLeDiff, reduceMul, reduceSub, reduceIte, reduceEqDiff, reduceAdd, reduceCtorEq]
              refine ⟨⟨by omega, hlt1⟩, hlt1, ?_⟩
              intro _
              exact ⟨k + 1, by omega, ⟨by omega, he2⟩, rfl⟩
          · have e1 : ((row.length : Int) != n) = true := by simp [hn]
            have hf : machB n o next out = false := by rw [← he]; simp only [outB, decide_eq_false hn, Bool.false_and]
            simp only [e1, Bz5g, hf, go_sem, yz0, Int.reduceLT, reduceLE, reduceToNat, reduceNeg, Nat.reduceLT, reduceLeDiff, reduceMul, reduceSub, reduceIte, reduceEqDiff, reduceAdd, reduceCtorEq]
        · have : k = out.length := by omega
          subst this
          rw [List.drop_length] at he
          simp only [Bz2e, Bz5f, Bzbm, decide_eq_false hlt, go_sem, yz0, Int.reduceLT, reduceLE, reduceToNat, reduceNeg, Nat.reduceLT, reduceLeDiff, reduceMul, reduceSub, reduceIte, reduceEqDiff, reduceAdd, reduceCtorEq]
          intro _
          rw [← he]; rfl
      · have e : ((out.length : Int) != (next.length : Int)) = true := by
          rw [bne_iff_ne]; omega
        simp only [machB, hv, e, Bzs, and_t ho, decide_eq_false hl, Bool.true_and, Bool.false_and, go_sem, yz0, Int.reduceLT, reduceLE, reduceToNat, reduceNeg, Nat.reduceLT, reduceLeDiff, reduceMul, reduceSub, reduceIte, reduceEqDiff, reduceAdd, reduceCtorEq]
    · simp only [machB, hv, Bzs, and_f ho, Bool.true_and, Bool.false_and, go_sem, yz0, Int.reduceLT, reduceLE, reduceToNat, reduceNeg, Nat.reduceLT, reduceLeDiff, reduceMul, reduceSub, reduceIte, reduceEqDiff, reduceAdd, reduceCtorEq]
end Go.Ab
namespace Go.Ab
def bitsN (f : Nat) : List Nat := (List.range 10).filter fun s => f.testBit s
def stepN (row : List Int) (f : Nat) : Nat := (bitsN f).foldl (fun o s => o ||| 2 ^ (row.getD s 0).toNat) 0
abbrev TS := List (Nat × List Int)
def hasT (L : TS) (f : Nat) : Bool := L.any fun p => Nat.beq p.1 f
def visT (next : List (List Int)) (f : Nat) (w : List Int) : Nat → TS → TS
  | 0, L => L
  | x + 1, L => match visT next f w x L with
    | L' => match stepN (next.getD x []) f with
      | to => if hasT L' to then L' else L' ++ [(to, w ++ [(x : Int)])]
def runT (next : List (List Int)) : Nat → Nat → TS → TS
  | 0, _, L => L
  | F + 1, i, L => if i < L.length then runT next F (i + 1) (visT next (L.getD i (0, [])).1 (L.getD i (0, [])).2 next.length L) else L
def smallN (f : Nat) : Bool := Nat.beq (f &&& (f - 1)) 0
theorem hasT_iff {L : TS} {f : Nat} : hasT L f = true ↔ f ∈ L.map (·.1) := by
  simp only [hasT, List.any_eq_true, List.mem_map]
  constructor
  · rintro ⟨p, hp, h⟩; exact ⟨p, hp, Nat.eq_of_beq_eq_true h⟩
  · rintro ⟨p, hp, rfl⟩; exact ⟨p, hp, Nat.beq_refl _⟩
theorem mem_bits {f s : Nat} : s ∈ bitsN f ↔ s < 10 ∧ f.testBit s = true := by simp [bitsN]
theorem bits_lt {f n s : Nat} (h : f < 2 ^ n) (hs : s ∈ bitsN f) : s < n := by
  rw [mem_bits] at hs
  by_cases hn : s < n
  · exact hn
  · have := Nat.testBit_lt_two_pow (Nat.lt_of_lt_of_le h (Nat.pow_le_pow_right (n := 2) (by omega) (show n ≤ s by omega)))
    rw [this] at hs; simp at hs
structure TI (N m : Nat) (L : TS) : Prop where
  nd : (L.map (·.1)).Nodup
  rg : ∀ p ∈ L, p.1 < 2 ^ N
  wd : ∀ p ∈ L, (∀ x ∈ p.2, 0 ≤ x ∧ x < m) ∧ p.2.length < L.length
theorem nodup_lt : ∀ (n : Nat) (l : List Nat), l.Nodup → (∀ x ∈ l, x < n) → l.length ≤ n
  | 0, l, _, h => by
    cases l with
    | nil => simp
    | cons x l => exact absurd (h x (by simp)) (by omega)
  | n + 1, l, hd, h => by
    by_cases hm : n ∈ l
    · have h1 := List.length_erase_of_mem hm
      have h2 := nodup_lt n (l.erase n) (hd.erase n) (fun x hx => by
        rw [hd.mem_erase_iff] at hx
        have := h x hx.2; omega)
      omega
    · have := nodup_lt n l hd (fun x hx => by
        have h1 := h x hx
        have : x ≠ n := fun e => hm (e ▸ hx)
        omega)
      omega
theorem TI.len {N m : Nat} {L : TS} (h : TI N m L) : L.length ≤ 2 ^ N := by
  have := nodup_lt (2 ^ N) (L.map (·.1)) h.nd (fun x hx => by
    obtain ⟨p, hp, rfl⟩ := List.mem_map.1 hx
    exact h.rg p hp)
  simpa using this
theorem TI.add {N m : Nat} {L : TS} (h : TI N m L) {to : Nat} {w : List Int} {x : Int} (ht : to < 2 ^ N) (hn : hasT L to = false) (hw : (∀ x ∈ w, 0 ≤ x ∧ x < m) ∧ w.length < L.length) (hx : 0 ≤ x ∧ x < m) : TI N m (L ++ [(to, w ++ [x])]) := by
  refine ⟨?_, ?_, ?_⟩
  · rw [List.map_append, List.nodup_append]
    refine ⟨h.nd, by simp, ?_⟩
    intro a ha b hb e
    simp at hb
    rw [e, hb, ← hasT_iff, hn] at ha
    cases ha
  · intro p hp
    rcases List.mem_append.1 hp with hp | hp
    · exact h.rg p hp
    · have hp : p = (to, w ++ [x]) := by simpa using hp
      rw [hp]; exact ht
  · intro p hp
    rw [List.length_append, List.length_singleton]
    rcases List.mem_append.1 hp with hp | hp
    · have := h.wd p hp
      exact ⟨this.1, by omega⟩
    · have hp : p = (to, w ++ [x]) := by simpa using hp
      subst hp
      refine ⟨fun y hy => ?_, by rw [List.length_append, List.length_singleton]; omega⟩
      rcases List.mem_append.1 hy with hy | hy
      · exact hw.1 y hy
      · have hy : y = x := by simpa using hy
        rw [hy]; exact hx
theorem visT_succ {next : List (List Int)} {f : Nat} {w : List Int} {x : Nat} {L : TS} : visT next f w (x + 1) L = if hasT (visT next f w x L) (stepN (next.getD x []) f) then visT next f w x L else visT next f w x L ++ [(stepN (next.getD x []) f, w ++ [(x : Int)])] := rfl
theorem getD_app {α : Type} {L t : List α} {i : Nat} (h : i < L.length) (d : α) : (L ++ t).getD i d = L.getD i d := by
  rw [List.getD_eq_getElem?_getD, List.getElem?_append_left h, ← List.getD_eq_getElem?_getD]
end Go.Ab
namespace Go.Ab
abbrev PS := List ((Nat × Nat) × List Int)
def stepP (na nb : List (List Int)) (p : Nat × Nat) (x : Nat) : Nat × Nat := (((na.getD x []).getD p.1 0).toNat, ((nb.getD x []).getD p.2 0).toNat)
def eqP (p q : Nat × Nat) : Bool := Nat.beq p.1 q.1 && Nat.beq p.2 q.2
def hasP (L : PS) (p : Nat × Nat) : Bool := L.any fun q => eqP q.1 p
def difP (oa ob : List (List Int)) (p : Nat × Nat) (x : Nat) : Bool := (oa.getD x []).getD p.1 0 != (ob.getD x []).getD p.2 0
theorem eqP_iff {p q : Nat × Nat} : eqP p q = true ↔ p = q := by
  unfold eqP
  rw [Bool.and_eq_true, Nat.beq_eq, Nat.beq_eq]
  constructor
  · rintro ⟨h1, h2⟩; exact Prod.ext h1 h2
  · rintro rfl; exact ⟨rfl, rfl⟩
theorem hasP_iff {L : PS} {p : Nat × Nat} : hasP L p = true ↔ p ∈ L.map (·.1) := by
  simp only [hasP, List.any_eq_true, List.mem_map]
  constructor
  · rintro ⟨q, hq, h⟩; exact ⟨q, hq, eqP_iff.1 h⟩
  · rintro ⟨q, hq, rfl⟩; exact ⟨q, hq, eqP_iff.2 rfl⟩
structure PI (a b m : Nat) (L : PS) : Prop where
  nd : (L.map (·.1)).Nodup
  rg : ∀ p ∈ L, p.1.1 < a ∧ p.1.2 < b
  wd : ∀ p ∈ L, (∀ x ∈ p.2, 0 ≤ x ∧ x < m) ∧ p.2.length < L.length
theorem PI.len {a b m : Nat} {L : PS} (h : PI a b m L) (ha : a ≤ 10) (hb : b ≤ 10) : L.length ≤ 100 := by
  have hn : ((L.map (·.1)).map fun p : Nat × Nat => 10 * p.1 + p.2).Nodup := by
    refine List.Pairwise.map _ ?_ (List.Pairwise.and_mem.1 h.nd)
    rintro p q ⟨hp, hq, hpq⟩ e
    obtain ⟨x, hx, rfl⟩ := List.mem_map.1 hp
    obtain ⟨y, hy, rfl⟩ := List.mem_map.1 hq
    have h1 := h.rg x hx
    have h2 := h.rg y hy
    exact hpq (Prod.ext (by omega) (by omega))
  have := nodup_lt 100 _ hn (fun x hx => by
    obtain ⟨p, hp, rfl⟩ := List.mem_map.1 hx
    obtain ⟨q, hq, rfl⟩ := List.mem_map.1 hp
    have := h.rg q hq
    omega)
  simpa using this
theorem PI.add {a b m : Nat} {L : PS} (h : PI a b m L) {to : Nat × Nat} {w : List Int} {x : Int} (ht : to.1 < a ∧ to.2 < b) (hn : hasP L to = false) (hw : (∀ x ∈ w, 0 ≤ x ∧ x < m) ∧ w.length < L.length) (hx : 0 ≤ x ∧ x < m) : PI a b m (L ++ [(to, w ++ [x])]) := by
  refine ⟨?_, ?_, ?_⟩
  · rw [List.map_append, List.nodup_append]
    refine ⟨h.nd, by simp, ?_⟩
    intro a ha b hb e
    simp at hb
    rw [e, hb, ← hasP_iff, hn] at ha
    cases ha
  · intro p hp
    rcases List.mem_append.1 hp with hp | hp
    · exact h.rg p hp
    · have hp : p = (to, w ++ [x]) := by simpa using hp
      rw [hp]; exact ht
  · intro p hp
    rw [List.length_append, List.length_singleton]
    rcases List.mem_append.1 hp with hp | hp
    · have := h.wd p hp
      exact ⟨this.1, by omega⟩
    · have hp : p = (to, w ++ [x]) := by simpa using hp
      subst hp
      refine ⟨fun y hy => ?_, by rw [List.length_append, List.length_singleton]; omega⟩
      rcases List.mem_append.1 hy with hy | hy
      · exact hw.1 y hy
      · have hy : y = x := by simpa using hy
        rw [hy]; exact hx
structure Two (n n' : Int) (na nb : List (List Int)) : Prop where
  a : Aut n na
  b : Aut n' nb
  len : nb.length = na.length
theorem Two.step {n n' : Int} {na nb : List (List Int)} (T : Two n n' na nb) {x : Nat} {p : Nat × Nat} (hx : x < na.length) (hp : p.1 < n.toNat ∧ p.2 < n'.toNat) : (stepP na nb p x).1 < n.toNat ∧ (stepP na nb p x).2 < n'.toNat := by
  have h1 := T.a.row _ (yzu hx [])
  have h2 := T.b.row _ (yzu (show x < nb.length by rw [T.len]; exact hx) [])
  have n1 := T.a.n1
  have n2 := T.b.n1
  have h3 := h1.2 _ (yzu (show p.1 < (na.getD x []).length by omega) 0)
  have h4 := h2.2 _ (yzu (show p.2 < (nb.getD x []).length by omega) 0)
  unfold stepP
  dsimp only
  omega
end Go.Ab
namespace Go.Ab
open Go.Proofs
end Go.Ab
namespace Go.Ab
open Go.Proofs
end Go.Ab
namespace Go.Ab
end Go.Ab
namespace Go.Ab
open Go.Proofs
end Go.Ab
namespace Go.Ab
open Go.Proofs
end Go.Ab
namespace Go.Ab
open Go.Proofs
theorem DJ_perm {ps qs : List (Nat × List Int)} (h : ps.Perm qs) (hp : DJ ps) : DJ qs :=
  (h.pairwise_iff fun {x y} e => by
    rcases e with e | e | e
    · exact .inr (.inl e)
    · exact .inl e
    · exact .inr (.inr (Ne.symm e))).1 hp
theorem ints_put {xs : List Int} {i : Nat} {v : Int} : List.take i (ints xs) ++ [iv v] ++ List.drop (i + 1) (ints xs) = ints (xs.take i ++ [v] ++ xs.drop (i + 1)) := by
  simp only [List.map_append, List.map_take, List.map_drop, List.map_cons, List.map_nil]
theorem lput_len {xs : List Int} {i : Nat} {v : Int} (h : i < xs.length) : (xs.take i ++ [v] ++ xs.drop (i + 1)).length = xs.length := by
  simp only [List.length_append, List.length_take, List.length_drop, List.length_cons, List.length_nil]; omega
theorem lput_mem {xs : List Int} {i : Nat} {v : Int} {Q : Int → Prop} (h : ∀ x ∈ xs, Q x) (hv : Q v) : ∀ x ∈ xs.take i ++ [v] ++ xs.drop (i + 1), Q x := by
  intro x hx
  simp only [List.mem_append, List.mem_singleton] at hx
  rcases hx with (hx | rfl) | hx
  · exact h x (List.mem_of_mem_take hx)
  · exact hv
  · exact h x (List.mem_of_mem_drop hx)
theorem call_boxrow {P : Program} {σ : St} {g : FuncId} {As args : List AVal} {d : Nat} {s : Nat → Nat} {K : St → Prop} {r q v u : Nat} {cs : List AVal} {xs : List Int} {Q : List AVal → Value → Prop}
    (h : Con P g [.box 0 cs, .row 1 1 true (ints xs)] args true fun outs rows res => ∃ cs' x, Q cs' x ∧ flatL cs' ∧ outs = [.box 0 cs', .row 1 1 true (ints xs)] ∧ rows = [] ∧ res = .val x)
    (hr : σ.hp r = .box v cs) (hq : σ.hp q = .row u 1 true (ints xs)) (hne : [r, q].Nodup) (hcs : CoeL σ.hp [r, q] false cs cs) (ha : CoeL σ.hp [r, q] false args As)
    (hk : ∀ cs' x, Q cs' x → K (St.put ⟨σ.tm, upd (upd σ.hp r (.box v cs')) q (.row u 1 true (ints xs))⟩ (some d) (.val x))) : wpCall P false σ g As (some d) s K := by
  refine .inl ⟨[r, q], _, _, true, _, h, ⟨by simp, rfl, hne, ?_, ?_⟩, ha, (fun e => by cases e), ?_⟩
  · intro x hx
    simp only [List.mem_cons, List.not_mem_nil, or_false] at hx
    rcases hx with rfl | rfl
    · simp [hr]
    · simp [hq]
  · intro j B r' hB hr'
    match j, hB, hr' with
    | 0, hB, hr' =>
      simp at hB hr'; subst hB; subst hr'
      rw [hr]
      exact ⟨rfl, v, cs, rfl, hcs⟩
    | 1, hB, hr' =>
      simp at hB hr'; subst hB; subst hr'
      simp only [ObjCoe, hq]
      exact ⟨trivial, u, _, rfl, coeL_ints⟩
    | j + 2, hB, hr' => simp at hB
  · rintro outs rows res ⟨cs', x, hQ, hf, rfl, rfl, rfl⟩
    refine ⟨rfl, by simp, by simp, ?_⟩
    have s0 : sv σ.hp [r, q] s 0 = v := by simp [sv, hr, AObj.ver]
    have s1 : sv σ.hp [r, q] s 1 = u := by simp [sv, hq, AObj.ver]
    rw [Option.getD_some, callHp_h2 hne]
    simp only [yzn, yzl, renL_flat cs' hf, yz3, yzw, s0, s1]
    exact hk cs' x hQ
theorem k_among (code : List Int) (at_ seed : Int) (list : List Int) (hb : ∀ x ∈ code, 0 ≤ x ∧ x ≤ 255) (ha : 0 ≤ at_ ∧ at_ ≤ 1000000000000) (hl : list ≠ []) :
    Con Try.prog nz3n [.box 0 (srcC code at_ seed), .row 1 1 true (ints list)] [.ptr 5000 0 0, .own 5001 1] true fun outs rows res => ∃ cs' x, (∃ at' seed' b, cs' = srcC code at' seed' ∧ at_ ≤ at' ∧ at' ≤ at_ + 2 ∧ x = .int .i64 b ∧ b ∈ list) ∧ flatL cs' ∧
      outs = [.box 0 cs', .row 1 1 true (ints list)] ∧ rows = [] ∧ res = .val x := by
  refine con_sh mixed cziv rfl (by simp) ?_
  simp only [Bzdd, Azde, go_sem, yz0, Int.reduceLT, reduceLE, reduceToNat, reduceNeg, Nat.reduceLT, reduceLeDiff, reduceMul, reduceSub, reduceIte, reduceEqDiff, reduceAdd, reduceCtorEq]
  intro vs hM
  refine call_funB (k_pick code at_ seed list.length hb ha) rfl qCS qCS ?_
  rintro cs' x ⟨a', s', b, rfl, h1, h2, rfl, h3, h4⟩
  have hpos : 0 < list.length := List.length_pos_iff.2 hl
  have hb2 : b.toNat < list.length := by omega
  simp only [yzv hb2, go_sem, yz0, Int.reduceLT, reduceLE, reduceToNat, reduceNeg, Nat.reduceLT, reduceLeDiff, reduceMul, reduceSub, reduceIte, reduceEqDiff, reduceAdd, reduceCtorEq]
  refine ⟨⟨h3, hb2⟩, hb2, [], by simp, by simp, by simp, ?_⟩
  simp only [Nat.not_lt_zero, range1, yzw, yzx, ren_ro, rnNm_n, yzz, rnNm_o, rnNm_s, ren_st, yzy, yzs, yze, yz3, yzq, yzo, yzl, yzn, yzp, yz6, yz9, yzb, yza, yzj, yzi, yz4, yzd, yzc, yz7, yzf, yzh, List.range_zero, yz2, yz5, yz8, yzr, yzk, yzm, AVal.fresh, freshL, yz1, yzg, AObj.fresh, id, Option.isSome_some, or_true, true_or, go_sem, yz0, Int.reduceLT, reduceLE, reduceToNat, reduceNeg, Nat.reduceLT, reduceLeDiff, reduceMul, reduceSub, reduceIte, reduceEqDiff, reduceAdd, reduceCtorEq]
  exact ⟨_, _, ⟨a', s', list.getD b.toNat 0, rfl, h1, h2, rfl, yzu hb2 0⟩, by simp [flatL, AVal.flat, flat_vals], rfl, rfl⟩
abbrev DrM (code : List Int) (at_ most : Int) (outs rows : List AObj) (res : AVal) : Prop :=
  ∃ n o ps qs v w a' s', Mach n o (ps.map (·.2)) (qs.map (·.2)) ∧ n ≤ most ∧ DJ (ps ++ qs) ∧ at_ ≤ a' ∧ a' ≤ at_ + 1000 ∧ outs = [.box 0 (srcC code a' s')] ∧ rows = [.row v 1 true (rwp ps), .row w 1 true (rwp qs)] ∧ res = .st [iv n, iv o, .own 6000 v, .own 6001 w]
theorem k_l06Draw (code : List Int) (at_ seed most : Int) (hb : ∀ x ∈ code, 0 ≤ x ∧ x ≤ 255) (ha : 0 ≤ at_ ∧ at_ ≤ 1000000) (hm : 1 ≤ most ∧ most ≤ 9) :
    Con Try.prog nz14 [.box 0 (srcC code at_ seed)] [.ptr 5000 0 0, iv most] true (DrM code at_ most) := by
  refine con_sh mixed czig rfl (by simp) ?_
  generalize hQ : finQ _ = Q
  have h7 : ∀ (σ : St) (v4 v5 : Nat) (a s n o l : Int), at_ ≤ a ∧ a ≤ at_ + 20 ∧ 1 ≤ n ∧ n ≤ most ∧ 1 ≤ o ∧ o ≤ 3 ∧ 1 ≤ l ∧ l ≤ 3 → σ.keep [0, 4, 5, 6] [4, 5, 75, 81, 5000, 5001] =
      ⟨L .any [(0, .ptr 5000 0 0), (4, .ptr 4 v4 0), (5, .ptr 5 v5 0), (6, iv l)], L .gone [(4, .box v4 [iv 0, iv 0, nilS, nilS]), (5, .box v5 [iv n, iv o, nilS, nilS]), (75, .gone), (81, .gone), (5000, .box 0 (srcC code a s)), (5001, .gone)]⟩ → wpD Try.prog Bz4y Q σ := by
    rintro σ v4 v5 a s n o l ⟨i1, i2, i3, i4, i5, i6, i7, i8⟩ hS
    unfold Bz4y
    rw [wpD_kp, hS]
    simp only [go_sem, yz0, Int.reduceLT, reduceLE, reduceToNat, reduceNeg, Nat.reduceLT, reduceLeDiff, reduceMul, reduceSub, reduceIte, reduceEqDiff, reduceAdd, reduceCtorEq, wpD_kp, yz10]
    intro vs U hN
    simp only [Bzaq, wpD_kp, yz10, go_sem, yz0, Int.reduceLT, reduceLE, reduceToNat, reduceNeg, Nat.reduceLT, reduceLeDiff, reduceMul, reduceSub, reduceIte, reduceEqDiff, reduceAdd, reduceCtorEq]
    intro ver1 ver2
    refine wpD_lp (fun (_, _, _, _, _, _, _, ps, _) => l.toNat - List.length ps)
      (fun (_, _, _, n1, n2, a, _, ps, qs) => at_ ≤ a ∧ a ≤ at_ + 20 + 60 * List.length ps ∧ (List.length ps : Int) ≤ l ∧ List.length qs = List.length ps ∧ (ps ≠ [] → n1 = true ∧ n2 = true) ∧ DJ (ps ++ qs) ∧
        (∀ p ∈ ps, (List.length p.2 : Int) = n ∧ ∀ x ∈ p.2, 0 ≤ x ∧ x < n) ∧ ∀ p ∈ qs, (List.length p.2 : Int) = n ∧ ∀ x ∈ p.2, 0 ≤ x ∧ x < o)
      (fun ((v5, v75, v81, n1, n2, a, s, ps, qs) : Nat × Nat × Nat × Bool × Bool × Int × Int × List (Nat × List Int) × List (Nat × List Int)) =>
        ⟨L .any [(0, .ptr 5000 0 0), (4, .ptr 4 v4 0), (5, .ptr 5 v5 0), (6, iv l), (7, iv ps.length)],
         L .gone [(4, .box v4 [iv 0, iv 0, nilS, nilS]), (5, .box v5 [iv n, iv o, .own 75 v75, .own 81 v81]), (75, .row v75 1 n1 (rwp ps)), (81, .row v81 1 n2 (rwp qs)), (5000, .box 0 (srcC code a s)), (5001, .gone)]⟩)
      (v5, ver2, ver1, false, false, a, s, [], []) ⟨by omega, by simp; omega, by simp; omega, rfl, by simp, by simp [DJ], by simp, by simp⟩ (by simp only [Bz28, go_sem, yz0, Int.reduceLT, reduceLE, reduceToNat, reduceNeg, Nat.reduceLT, reduceLeDiff, reduceMul, reduceSub, reduceIte, reduceEqDiff, reduceAdd, reduceCtorEq]; try rfl) ?_
    rintro ⟨v5, v75, v81, nn1, nn2, a, s, ps, qs⟩ ⟨j1, j2, j3, j4, j5, j6, j7, j8⟩
    have j1 : at_ ≤ a := j1
    have j2 : a ≤ at_ + 20 + 60 * ps.length := j2
    have j3 : (ps.length : Int) ≤ l := j3
    have j4 : qs.length = ps.length := j4
    by_cases hlt : (ps.length : Int) < l
    · have w7 : IntKind.i64.wrap ((ps.length : Int) + 1) = ((ps.length + 1 : Nat) : Int) := by rw [w64 (by omega)]; simp
      simp only [Bz28, Bz4v, Bzap, decide_eq_true hlt, wpD_kp, yz10, go_sem, yz0, Int.reduceLT, reduceLE, reduceToNat, reduceNeg, Nat.reduceLT, reduceLeDiff, reduceMul, reduceSub, reduceIte, reduceEqDiff, reduceAdd, reduceCtorEq]
      intro vs1 U1 hN1 vs2 U2 hN2
      simp only [Bzan, wpD_kp, yz10, go_sem, yz0, Int.reduceLT, reduceLE, reduceToNat, reduceNeg, Nat.reduceLT, reduceLeDiff, reduceMul, reduceSub, reduceIte, reduceEqDiff, reduceAdd, reduceCtorEq]
      intro vs3 U3 hN3
      simp only [Bzam, wpD_kp, yz10, go_sem, yz0, Int.reduceLT, reduceLE, reduceToNat, reduceNeg, Nat.reduceLT, reduceLeDiff, reduceMul, reduceSub, reduceIte, reduceEqDiff, reduceAdd, reduceCtorEq]
      intro vs4 U4 hN4
      simp only [Bzae, wpD_kp, yz10, go_sem, yz0, Int.reduceLT, reduceLE, reduceToNat, reduceNeg, Nat.reduceLT, reduceLeDiff, reduceMul, reduceSub, reduceIte, reduceEqDiff, reduceAdd, reduceCtorEq]
      refine wpD_lp (fun (_, _, _, _, row, _) => n.toNat - List.length row)
        (fun (_, _, a', _, row, outs) => a ≤ a' ∧ a' ≤ a + 4 * List.length row ∧ (List.length row : Int) ≤ n ∧ List.length outs = List.length row ∧ (∀ x ∈ row, 0 ≤ x ∧ x < n) ∧ ∀ x ∈ outs, 0 ≤ x ∧ x < o)
        (fun ((v33, v34, a, s, row, outs) : Nat × Nat × Int × Int × List Int × List Int) =>
          ⟨L .any [(0, .ptr 5000 0 0), (4, .ptr 4 v4 0), (5, .ptr 5 v5 0), (6, iv l), (7, iv ps.length), (8, .own 33 v33), (9, .own 34 v34), (10, iv row.length)],
           L .gone [(4, .box v4 [iv 0, iv 0, nilS, nilS]), (5, .box v5 [iv n, iv o, .own 75 v75, .own 81 v81]), (33, .row v33 1 true (ints row)), (34, .row v34 1 true (ints outs)), (47, .gone), (54, .gone), (75, .row v75 1 nn1 (rwp ps)), (81, .row v81 1 nn2 (rwp qs)), (5000, .box 0 (srcC code a s)), (5001, .gone)]⟩)
        (_, _, a, s, [], []) ⟨by omega, by simp, by simp; omega, rfl, by simp, by simp⟩ (by simp only [Bz26, go_sem, yz0, Int.reduceLT, reduceLE, reduceToNat, reduceNeg, Nat.reduceLT, reduceLeDiff, reduceMul, reduceSub, reduceIte, reduceEqDiff, reduceAdd, reduceCtorEq]; try rfl) ?_
      rintro ⟨v33, v34, a', s', row, outs⟩ ⟨q1, q2, q3, q4, q5, q6⟩
      have q1 : a ≤ a' := q1
      have q2 : a' ≤ a + 4 * row.length := q2
      have q3 : (row.length : Int) ≤ n := q3
      have q4 : outs.length = row.length := q4
      by_cases hlt2 : (row.length : Int) < n
      · have w8 : IntKind.i64.wrap ((row.length : Int) + 1) = ((row.length + 1 : Nat) : Int) := by rw [w64 (by omega)]; simp
        simp only [Bz26, Bz4w, Bzad, decide_eq_true hlt2, wpD_kp, yz10, go_sem, yz0, Int.reduceLT, reduceLE, reduceToNat, reduceNeg, Nat.reduceLT, reduceLeDiff, reduceMul, reduceSub, reduceIte, reduceEqDiff, reduceAdd, reduceCtorEq]
        intro vs5 U5 hN5 vs6 U6 hN6
        refine call_funB (k_pick code a' s' n hb (by omega)) rfl qCS qCS ?_
        rintro cs' x ⟨a2, s2, to, rfl, f1, f2, rfl, f3, f4⟩
        simp only [Bzab, wpD_kp, yz10, go_sem, yz0, Int.reduceLT, reduceLE, reduceToNat, reduceNeg, Nat.reduceLT, reduceLeDiff, reduceMul, reduceSub, reduceIte, reduceEqDiff, reduceAdd, reduceCtorEq]
        refine ⟨⟨_, rfl, rfl⟩, by omega, ?_⟩
        intro vs7 U7 hN7
        refine call_funB (k_pick code a2 s2 o hb (by omega)) rfl qCS qCS ?_
        rintro cs' x ⟨a3, s3, to2, rfl, f5, f6, rfl, f7, f8⟩
        simp only [Bzac, w8, wpD_kp, yz10, go_sem, yz0, Int.reduceLT, reduceLE, reduceToNat, reduceNeg, Nat.reduceLT, reduceLeDiff, reduceMul, reduceSub, reduceIte, reduceEqDiff, reduceAdd, reduceCtorEq]
        refine ⟨⟨_, rfl, rfl⟩, by omega, ?_⟩
        intro vs8 U8 hN8
        refine ⟨(vs6 6 0, vs7 6 0, a3, s3, row ++ [to], outs ++ [to2]), by dsimp only; rw [List.length_append, List.length_singleton]; omega, ⟨by dsimp only; omega, by dsimp only; rw [List.length_append, List.length_singleton]; omega, by dsimp only; rw [List.length_append, List.length_singleton]; omega, by dsimp only; rw [List.length_append, List.length_append, q4]; rfl, ?_, ?_⟩, ?_⟩
        · intro x hx
          rcases List.mem_append.1 hx with h | h
          · exact q5 x h
          · rw [List.mem_singleton.1 h]; omega
        · intro x hx
          rcases List.mem_append.1 hx with h | h
          · exact q6 x h
          · rw [List.mem_singleton.1 h]; omega
        · simp only [List.length_append, List.length_singleton]
      · have hrl : (row.length : Int) = n := by omega
        simp only [Bz26, Bz4w, Bzal, decide_eq_false hlt2, wpD_kp, yz10, go_sem, yz0, Int.reduceLT, reduceLE, reduceToNat, reduceNeg, Nat.reduceLT, reduceLeDiff, reduceMul, reduceSub, reduceIte, reduceEqDiff, reduceAdd, reduceCtorEq]
        intro vs5 U5 hN5 vs6 U6 hN6
        refine call_funB (k_one code a' s' 3 hb (by omega)) rfl qCS qCS ?_
        rintro cs' x ⟨a2, s2, b2, rfl, f1, f2, rfl⟩
        simp only [wpD_kp, yz10, go_sem, yz0, Int.reduceLT, reduceLE, reduceToNat, reduceNeg, Nat.reduceLT, reduceLeDiff, reduceMul, reduceSub, reduceIte, reduceEqDiff, reduceAdd, reduceCtorEq]
        refine wpD_cutq (b := Bzak) rfl (fun (_, row2) => List.length row2 = row.length ∧ ∀ x ∈ row2, 0 ≤ x ∧ x < n)
          (fun ((v33, row2) : Nat × List Int) => ⟨L .any [(0, .ptr 5000 0 0), (4, .ptr 4 v4 0), (5, .ptr 5 v5 0), (6, iv l), (7, iv ps.length), (8, .own 33 v33), (9, .own 34 v34)],
           L .gone [(4, .box v4 [iv 0, iv 0, nilS, nilS]), (5, .box v5 [iv n, iv o, .own 75 v75, .own 81 v81]), (33, .row v33 1 true (ints row2)), (34, .row v34 1 true (ints outs)), (47, .gone), (54, .gone), (75, .row v75 1 nn1 (rwp ps)), (81, .row v81 1 nn2 (rwp qs)), (5000, .box 0 (srcC code a2 s2)), (5001, .gone)]⟩) ?_ ?_
        · simp only [Bzai, wpD_kp, yz10, go_sem, yz0, Int.reduceLT, reduceLE, reduceToNat, reduceNeg, Nat.reduceLT, reduceLeDiff, reduceMul, reduceSub, reduceIte, reduceEqDiff, reduceAdd, reduceCtorEq]
          refine ⟨fun _ vs7 U7 hN7 => ?_, fun _ => ⟨(v33, row), ⟨rfl, q5⟩, rfl⟩⟩
          simp only [Bzah, wpD_kp, yz10, go_sem, yz0, Int.reduceLT, reduceLE, reduceToNat, reduceNeg, Nat.reduceLT, reduceLeDiff, reduceMul, reduceSub, reduceIte, reduceEqDiff, reduceAdd, reduceCtorEq]
          refine wpD_lp (fun (_, _, x) => n.toNat - x) (fun (_, row2, x) => (x : Int) ≤ n ∧ List.length row2 = row.length ∧ ∀ x ∈ row2, 0 ≤ x ∧ x < n)
            (fun ((v33, row2, x) : Nat × List Int × Nat) => ⟨L .any [(0, .ptr 5000 0 0), (4, .ptr 4 v4 0), (5, .ptr 5 v5 0), (6, iv l), (7, iv ps.length), (8, .own 33 v33), (9, .own 34 v34), (11, iv x)],
             L .gone [(4, .box v4 [iv 0, iv 0, nilS, nilS]), (5, .box v5 [iv n, iv o, .own 75 v75, .own 81 v81]), (33, .row v33 1 true (ints row2)), (34, .row v34 1 true (ints outs)), (47, .gone), (54, .gone), (75, .row v75 1 nn1 (rwp ps)), (81, .row v81 1 nn2 (rwp qs)), (5000, .box 0 (srcC code a2 s2)), (5001, .gone)]⟩)
            (v33, row, 0) ⟨by omega, rfl, q5⟩ (by simp only [Bz27, go_sem, yz0, Int.reduceLT, reduceLE, reduceToNat, reduceNeg, Nat.reduceLT, reduceLeDiff, reduceMul, reduceSub, reduceIte, reduceEqDiff, reduceAdd, reduceCtorEq]; try rfl) ?_
          rintro ⟨v33, row2, x⟩ ⟨e1, e2, e3⟩
          have e1 : (x : Int) ≤ n := e1
          have e2 : row2.length = row.length := e2
          by_cases hx : (x : Int) < n
          · have w9 : IntKind.i64.wrap ((x : Int) + 1) = ((x + 1 : Nat) : Int) := by rw [w64 (by omega)]; simp
            have hn0 : ¬ n = 0 := by omega
            have ht := tmod_in (a := ((x + 1 : Nat) : Int)) (n := n) (by omega) i3
            have hxl : x < row2.length := by omega
            simp only [Bz27, Bz4x, Bzag, Bzaf, decide_eq_true hx, w9, hn0, wpD_kp, yz10, go_sem, yz0, Int.reduceLT, reduceLE, reduceToNat, reduceNeg, Nat.reduceLT, reduceLeDiff, reduceMul, reduceSub, reduceIte, reduceEqDiff, reduceAdd, reduceCtorEq]
            intro vs8 U8 hN8 vs9 U9 hN9
            refine ⟨⟨by omega, hxl⟩, by omega, ?_⟩
            intro vs10 U10 hN10
            refine ⟨(v33, row2.take x ++ [((x + 1 : Nat) : Int).tmod n] ++ row2.drop (x + 1), x + 1), by dsimp only; omega, ⟨by dsimp only; omega, by dsimp only; rw [lput_len hxl]; exact e2, lput_mem e3 ht⟩, ?_⟩
            simp only [← ints_put]
          · simp only [Bz27, Bz4x, decide_eq_false hx, wpD_kp, yz10, go_sem, yz0, Int.reduceLT, reduceLE, reduceToNat, reduceNeg, Nat.reduceLT, reduceLeDiff, reduceMul, reduceSub, reduceIte, reduceEqDiff, reduceAdd, reduceCtorEq]
            intro vs8 U8 hN8
            exact ⟨(v33, row2), ⟨e2, e3⟩, rfl⟩
        · rintro ⟨v33, row2⟩ ⟨e2, e3⟩
          have e2 : row2.length = row.length := e2
          simp only [wpD_gh]
          intro hD
          refine ⟨[], ?_⟩
          have hf : ∀ u, (L AObj.gone [(4, AObj.box v4 [iv 0, iv 0, nilS, nilS]), (5, AObj.box v5 [iv n, iv o, .own 75 v75, .own 81 v81]), (33, AObj.row v33 1 true (ints row2)), (34, AObj.row v34 1 true (ints outs)), (47, AObj.gone), (54, AObj.gone), (75, AObj.row v75 1 nn1 (rwp ps)), (81, AObj.row v81 1 nn2 (rwp qs)), (5000, AObj.box 0 (srcC code a2 s2)), (5001, AObj.gone)] 33).ver = some u ∨
              (L AObj.gone [(4, AObj.box v4 [iv 0, iv 0, nilS, nilS]), (5, AObj.box v5 [iv n, iv o, .own 75 v75, .own 81 v81]), (33, AObj.row v33 1 true (ints row2)), (34, AObj.row v34 1 true (ints outs)), (47, AObj.gone), (54, AObj.gone), (75, AObj.row v75 1 nn1 (rwp ps)), (81, AObj.row v81 1 nn2 (rwp qs)), (5000, AObj.box 0 (srcC code a2 s2)), (5001, AObj.gone)] 34).ver = some u → ∀ p ∈ ps ++ qs, p.2 = [] ∨ p.1 ≠ u := fun u hu p hp => by
            by_cases e : p.2 = []
            · exact .inl e
            · refine .inr ?_
              rcases List.mem_append.1 hp with hp | hp <;> rcases hu with hu | hu
              · exact hD 75 v75 1 nn1 (rwp ps) 33 u rfl hu p.1 1 (ints p.2) (List.mem_map.2 ⟨p, hp, rfl⟩) (by simpa using e)
              · exact hD 75 v75 1 nn1 (rwp ps) 34 u rfl hu p.1 1 (ints p.2) (List.mem_map.2 ⟨p, hp, rfl⟩) (by simpa using e)
              · exact hD 81 v81 1 nn2 (rwp qs) 33 u rfl hu p.1 1 (ints p.2) (List.mem_map.2 ⟨p, hp, rfl⟩) (by simpa using e)
              · exact hD 81 v81 1 nn2 (rwp qs) 34 u rfl hu p.1 1 (ints p.2) (List.mem_map.2 ⟨p, hp, rfl⟩) (by simpa using e)
          have hf1 := hf v33 (.inl rfl)
          have hf2 := hf v34 (.inr rfl)
          clear hf
          simp only [gwp_nil, wpD_kp, yz10, go_sem, yz0, Int.reduceLT, reduceLE, reduceToNat, reduceNeg, Nat.reduceLT, reduceLeDiff, reduceMul, reduceSub, reduceIte, reduceEqDiff, reduceAdd, reduceCtorEq]
          intro vs8 U8 hN8
          rw [rwp_len]
          refine ⟨by omega, ?_⟩
          simp only [Bzaj, rwp_snoc, wpD_kp, wpD_gh, go_sem, yz0, Int.reduceLT, reduceLE, reduceToNat, reduceNeg, Nat.reduceLT, reduceLeDiff, reduceMul, reduceSub, reduceIte, reduceEqDiff, reduceAdd, reduceCtorEq]
          intro hD2
          refine ⟨[], ?_⟩
          have hf3 : row2 = [] ∨ v33 ≠ v34 := by
            by_cases e : row2 = []
            · exact .inl e
            · exact .inr (hD2 75 (vs8 4 0) 1 true (rwp (ps ++ [(v33, row2)])) 34 v34 rfl rfl v33 1 (ints row2) (List.mem_map.2 ⟨(v33, row2), by simp, rfl⟩) (by simpa using e))
          simp only [gwp_nil, wpD_kp, yz10, go_sem, yz0, Int.reduceLT, reduceLE, reduceToNat, reduceNeg, Nat.reduceLT, reduceLeDiff, reduceMul, reduceSub, reduceIte, reduceEqDiff, reduceAdd, reduceCtorEq]
          intro vs9 U9 hN9
          rw [rwp_len]
          refine ⟨by omega, ?_⟩
          simp only [Bzao, rwp_snoc, w7, wpD_kp, yz10, go_sem, yz0, Int.reduceLT, reduceLE, reduceToNat, reduceNeg, Nat.reduceLT, reduceLeDiff, reduceMul, reduceSub, reduceIte, reduceEqDiff, reduceAdd, reduceCtorEq]
          intro vs10 U10 hN10
          refine ⟨(v5, vs8 4 0, vs9 4 0, true, true, a2, s2, ps ++ [(v33, row2)], qs ++ [(v34, outs)]), by dsimp only; rw [List.length_append, List.length_singleton]; omega, ⟨by dsimp only; omega, by dsimp only; rw [List.length_append, List.length_singleton]; omega, by dsimp only; rw [List.length_append, List.length_singleton]; omega, by dsimp only; rw [List.length_append, List.length_append, j4]; rfl, fun _ => ⟨rfl, rfl⟩, ?_, ?_, ?_⟩, ?_⟩
          · refine DJ_perm ?_ ((j6.snoc (n := v33) (xs := row2) hf1).snoc (n := v34) (xs := outs) fun p hp => ?_)
            · simp only [List.append_assoc]
              refine List.Perm.append_left _ ?_
              exact (List.perm_append_comm_assoc qs [(v33, row2)] [(v34, outs)])
            · rcases List.mem_append.1 hp with h | h
              · exact hf2 p h
              · rw [List.mem_singleton.1 h]; exact hf3
          · intro p hp
            rcases List.mem_append.1 hp with h | h
            · exact j7 p h
            · rw [List.mem_singleton.1 h]; exact ⟨by dsimp only; omega, e3⟩
          · intro p hp
            rcases List.mem_append.1 hp with h | h
            · exact j8 p h
            · rw [List.mem_singleton.1 h]; exact ⟨by dsimp only; omega, q6⟩
          · simp only [List.length_append, List.length_singleton]
    · have hlen : (ps.length : Int) = l := by omega
      have hnn := j5 (fun e => by subst e; simp at hlen; omega)
      obtain ⟨rfl, rfl⟩ := hnn
      simp only [Bz28, Bz4v, Bzar, decide_eq_false hlt, wpD_kp, yz10, go_sem, yz0, Int.reduceLT, reduceLE, reduceToNat, reduceNeg, Nat.reduceLT, reduceLeDiff, reduceMul, reduceSub, reduceIte, reduceEqDiff, reduceAdd, reduceCtorEq]
      intro vs1 U1 hN1 vs2 U2 hN2
      simp only [← hQ, Az50, go_sem, yz0, Int.reduceLT, reduceLE, reduceToNat, reduceNeg, Nat.reduceLT, reduceLeDiff, reduceMul, reduceSub, reduceIte, reduceEqDiff, reduceAdd, reduceCtorEq]
      refine ⟨[75, 81], by simp, by simp, by simp, ?_⟩
      simp only [range1, List.length_singleton, renL_rwp, Nat.not_lt_zero, range1, yzw, yzx, ren_ro, rnNm_n, yzz, rnNm_o, rnNm_s, ren_st, yzy, yzs, yze, yz3, yzq, yzo, yzl, yzn, yzp, yz6, yz9, yzb, yza, yzj, yzi, yz4, yzd, yzc, yz7, yzf, yzh, List.range_zero, yz2, yz5, yz8, yzr, yzk, yzm, AVal.fresh, freshL, yz1, yzg, AObj.fresh, id, Option.isSome_some, or_true, true_or, go_sem, yz0, Int.reduceLT, reduceLE, reduceToNat, reduceNeg, Nat.reduceLT, reduceLeDiff, reduceMul, reduceSub, reduceIte, reduceEqDiff, reduceAdd, reduceCtorEq]
      exact ⟨n, o, ps, qs, v75, v81, a, s, ⟨⟨i3, by omega, by rw [List.length_map]; omega, by rw [List.length_map]; omega, fun row hr => by obtain ⟨p, hp, rfl⟩ := List.mem_map.1 hr; exact j7 p hp⟩, i5, i6, by rw [List.length_map, List.length_map]; exact j4, fun row hr => by obtain ⟨p, hp, rfl⟩ := List.mem_map.1 hr; exact j8 p hp⟩, i4, j6, by omega, by omega, rfl, by simp, rfl⟩
  have h4 : ∀ (σ : St) (v4 v5 : Nat) (a s n o : Int), at_ ≤ a ∧ a ≤ at_ + 10 ∧ 1 ≤ n ∧ n ≤ most ∧ 1 ≤ o ∧ o ≤ 3 → σ.keep [0, 4, 5] [4, 5, 75, 81, 5000, 5001] =
      ⟨L .any [(0, .ptr 5000 0 0), (4, .ptr 4 v4 0), (5, .ptr 5 v5 0)], L .gone [(4, .box v4 [iv 0, iv 0, nilS, nilS]), (5, .box v5 [iv n, iv o, nilS, nilS]), (75, .gone), (81, .gone), (5000, .box 0 (srcC code a s)), (5001, .gone)]⟩ → wpD Try.prog Bz4z Q σ := by
    rintro σ v4 v5 a s n o ⟨i1, i2, i3, i4, i5, i6⟩ hS
    unfold Bz4z
    rw [wpD_kp, hS]
    simp only [wpD_kp, yz10, go_sem, yz0, Int.reduceLT, reduceLE, reduceToNat, reduceNeg, Nat.reduceLT, reduceLeDiff, reduceMul, reduceSub, reduceIte, reduceEqDiff, reduceAdd, reduceCtorEq]
    intro vs U hN
    refine call_funB (k_pick code a s 2 hb (by omega)) rfl qCS qCS ?_
    rintro cs' x ⟨a1, s1, b1, rfl, h1, h2, rfl, h3, h4⟩
    have hw : IntKind.i64.wrap (1 + b1) = 1 + b1 := w64 (by omega)
    simp only [hw, Bzas, wpD_kp, yz10, go_sem, yz0, Int.reduceLT, reduceLE, reduceToNat, reduceNeg, Nat.reduceLT, reduceLeDiff, reduceMul, reduceSub, reduceIte, reduceEqDiff, reduceAdd, reduceCtorEq]
    intro vs2 U2 hN2
    refine call_funB (k_one code a1 s1 8 hb (by omega)) rfl qCS qCS ?_
    rintro cs' x ⟨a2, s2, b2, rfl, g1, g2, rfl⟩
    simp only [Bzaa, wpD_kp, yz10, go_sem, yz0, Int.reduceLT, reduceLE, reduceToNat, reduceNeg, Nat.reduceLT, reduceLeDiff, reduceMul, reduceSub, reduceIte, reduceEqDiff, reduceAdd, reduceCtorEq]
    refine ⟨fun _ vs3 U3 hN3 => ?_, fun _ => ?_⟩
    · exact h7 _ v4 v5 a2 s2 n o 3 (by omega) (by simp only [go_sem, yz0, Int.reduceLT, reduceLE, reduceToNat, reduceNeg, Nat.reduceLT, reduceLeDiff, reduceMul, reduceSub, reduceIte, reduceEqDiff, reduceAdd, reduceCtorEq]; try rfl)
    · exact h7 _ v4 v5 a2 s2 n o (1 + b1) (by omega) (by simp only [go_sem, yz0, Int.reduceLT, reduceLE, reduceToNat, reduceNeg, Nat.reduceLT, reduceLeDiff, reduceMul, reduceSub, reduceIte, reduceEqDiff, reduceAdd, reduceCtorEq]; try rfl)
  simp only [Az50, Bzau, wpD_kp, yz10, go_sem, yz0, Int.reduceLT, reduceLE, reduceToNat, reduceNeg, Nat.reduceLT, reduceLeDiff, reduceMul, reduceSub, reduceIte, reduceEqDiff, reduceAdd, reduceCtorEq]
  intro vs U hN vs1 U1 hN1
  refine call_funB (k_pick code at_ seed most hb (by omega)) rfl qCS qCS ?_
  rintro cs' x ⟨a1, s1, b1, rfl, h1, h2, rfl, h3, h4'⟩
  have hn1 : IntKind.i64.wrap (1 + b1) = 1 + b1 := w64 (by omega)
  simp only [hn1, Bzat, wpD_kp, yz10, go_sem, yz0, Int.reduceLT, reduceLE, reduceToNat, reduceNeg, Nat.reduceLT, reduceLeDiff, reduceMul, reduceSub, reduceIte, reduceEqDiff, reduceAdd, reduceCtorEq]
  intro vs2 U2 hN2
  refine call_funB (k_one code a1 s1 6 hb (by omega)) rfl qCS qCS ?_
  rintro cs' x ⟨a2, s2, b2, rfl, g1, g2, rfl⟩
  simp only [Bza9, wpD_kp, yz10, go_sem, yz0, Int.reduceLT, reduceLE, reduceToNat, reduceNeg, Nat.reduceLT, reduceLeDiff, reduceMul, reduceSub, reduceIte, reduceEqDiff, reduceAdd, reduceCtorEq]
  refine ⟨fun _ vs3 U3 hN3 => ?_, fun _ => ?_⟩
  · refine ⟨⟨⟨_, rfl, rfl⟩, _, rfl, rfl⟩, ?_⟩
    refine call_boxrow (r := 5000) (q := 20) (k_among code a2 s2 [1, 3] hb (by omega) (by simp)) rfl rfl (by decide) qCS (by simp only [yz12, coeL_nil, and_true, Coe]; exact ⟨⟨0, _, _, rfl, rfl, rfl, rfl, rfl⟩, 1, _, _, rfl, rfl, rfl, rfl, rfl⟩) ?_
    rintro cs' x ⟨a3, s3, b3, rfl, g3, g4, rfl, g5⟩
    have hb3 : b3 = 1 ∨ b3 = 3 := by simpa using g5
    simp only [go_sem, yz0, Int.reduceLT, reduceLE, reduceToNat, reduceNeg, Nat.reduceLT, reduceLeDiff, reduceMul, reduceSub, reduceIte, reduceEqDiff, reduceAdd, reduceCtorEq]
    exact h4 _ (vs 0 0) (vs1 5 0) a3 s3 (1 + b1) b3 (by omega) (by simp only [go_sem, yz0, Int.reduceLT, reduceLE, reduceToNat, reduceNeg, Nat.reduceLT, reduceLeDiff, reduceMul, reduceSub, reduceIte, reduceEqDiff, reduceAdd, reduceCtorEq]; try rfl)
  · exact h4 _ (vs 0 0) (vs1 5 0) a2 s2 (1 + b1) 2 (by omega) (by simp only [go_sem, yz0, Int.reduceLT, reduceLE, reduceToNat, reduceNeg, Nat.reduceLT, reduceLeDiff, reduceMul, reduceSub, reduceIte, reduceEqDiff, reduceAdd, reduceCtorEq]; try rfl)
end Go.Ab
namespace Go.Ab
open Go.Proofs
theorem rf_L {l : List (Nat × AVal)} {h : List (Nat × AObj)} {r i q v k k' ver : Nat} {nn nn' : Bool} {cs cs' : List AVal} (hr : L .gone h r = .row v k nn cs) (hqr : q ≠ r) :
    St.rf ⟨L .any l, L .gone h⟩ r i q ver k' nn' cs' = ⟨L .any l, L .gone ((r, .row v k nn (cs.set i (.ro (frNm nn' cs'.length ver) k' cs'))) :: (q, .gone) :: h)⟩ := by
  unfold St.rf
  congr 1
  funext x
  simp only [L]
  split
  · rw [hr]
  · split <;> rfl
theorem gwp_rf {gs : List GStep} {K : St → Prop} {l : List (Nat × AVal)} {h : List (Nat × AObj)} {r i q v k k' ver : Nat} {nn nn' : Bool} {cs cs' : List AVal} (hr : L .gone h r = .row v k nn cs)
    (hi : cs[i]? = some (.own q ver)) (hqr : q ≠ r) (hq : L .gone h q = .row ver k' nn' cs')
    (hk : (∀ n k'' cs'', AVal.ro (some (some (n + 1))) k'' cs'' ∈ cs → cs'' ≠ [] → n ≠ ver) → gwp gs K ⟨L .any l, L .gone ((r, .row v k nn (cs.set i (.ro (frNm nn' cs'.length ver) k' cs'))) :: (q, .gone) :: h)⟩) : gwp (.rf r i q :: gs) K ⟨L .any l, L .gone h⟩ :=
  ⟨v, k, nn, cs, ver, k', nn', cs', hr, hi, hqr, hq, fun hd => by rw [rf_L hr hqr]; exact hk hd⟩
theorem usesL_rwp2 {U : Nat → Prop} {X : AVal} {A C : List (Nat × List Int)} (h : usesL U (rwp A ++ X :: rwp C)) : ∀ p ∈ A ++ C, p.2 = [] ∨ U p.1 := by
  intro p hp
  rcases List.mem_append.1 hp with hp | hp
  · exact usesL_rwp h p hp
  · have h2 : ∀ (l : List AVal), usesL U (l ++ X :: rwp C) → usesL U (rwp C) := by
      intro l
      induction l with
      | nil => intro h; simp only [List.nil_append, usesL] at h; exact h.2
      | cons y l ih => intro h; simp only [List.cons_append, usesL] at h; exact ih h.2
    exact usesL_rwp (rest := []) (by rw [List.append_nil]; exact h2 _ h) p hp
theorem woL_set {A C : List (Nat × List Int)} {b : Nat × List Int} {X : AVal} (h : ∀ p ∈ A ++ C, p.2 = [] ∨ p.1 ≠ b.1) : (woL b.1 (rwp (A ++ b :: C))).set A.length X = rwp A ++ X :: rwp C := by
  have e : rwp (A ++ b :: C) = rwp A ++ (.ro (some (some (b.1 + 1))) 1 (ints b.2)) :: rwp C := by simp [rwp]
  have hl : (rwp A).length = A.length := rwp_len
  have hA := woL_rwp (n := b.1) (ps := A) fun p hp => h p (List.mem_append.2 (.inl hp))
  have hC := woL_rwp (n := b.1) (ps := C) fun p hp => h p (List.mem_append.2 (.inr hp))
  have happ : ∀ l l' : List AVal, woL b.1 (l ++ l') = woL b.1 l ++ woL b.1 l' := by
    intro l l'
    simp only [woL_eq, List.map_append]
  rw [e, happ, hA, woL_cons, hC, List.set_append_right _ _ (by omega), hl, Nat.sub_self]
  rfl
theorem own_at {A C : List (Nat × List Int)} {X : AVal} {i : Nat} (h : i = A.length) : (rwp A ++ X :: rwp C).getD i .any = X := by
  subst h
  rw [List.getD_eq_getElem?_getD, List.getElem?_append_right (by rw [rwp_len]; exact Nat.le_refl _), rwp_len]; simp
theorem own_put {A C : List (Nat × List Int)} {X Y : AVal} {i : Nat} (h : i = A.length) : (rwp A ++ X :: rwp C).take i ++ [Y] ++ (rwp A ++ X :: rwp C).drop (i + 1) = rwp A ++ Y :: rwp C := by
  subst h
  have hl : (rwp A).length = A.length := rwp_len
  rw [← hl, List.take_left, List.drop_append]
  simp
theorem DJ_out {X Y : List (Nat × List Int)} {b : Nat × List Int} (h : DJ (X ++ b :: Y)) (hb : b.2 ≠ []) : ∀ p ∈ X ++ Y, p.2 = [] ∨ p.1 ≠ b.1 := by
  intro p hp
  rcases (List.pairwise_cons.1 (DJ_perm List.perm_middle h)).1 p hp with e | e | e
  · exact absurd e hb
  · exact .inl e
  · exact .inr (Ne.symm e)
theorem DJ_in {X Y : List (Nat × List Int)} {b : Nat × List Int} {u : Nat} {r : List Int} (h : DJ (X ++ b :: Y)) (hu : ∀ p ∈ X ++ Y, p.2 = [] ∨ p.1 ≠ u) : DJ (X ++ (u, r) :: Y) :=
  DJ_perm List.perm_middle.symm (List.pairwise_cons.2 ⟨fun p hp => by
    rcases hu p hp with e | e
    · exact .inr (.inl e)
    · exact .inr (.inr (Ne.symm e)), (List.pairwise_cons.1 (DJ_perm List.perm_middle h)).2⟩)
theorem rwp_get {A C : List (Nat × List Int)} {b : Nat × List Int} {i : Nat} (h : i = A.length) : (rwp (A ++ b :: C))[i]? = some (.ro (some (some (b.1 + 1))) 1 (ints b.2)) := by
  subst h
  rw [rwp, List.map_append, List.getElem?_append_right (by simp)]
  simp
theorem own_get {A C : List (Nat × List Int)} {X : AVal} {i : Nat} (h : i = A.length) : (rwp A ++ X :: rwp C)[i]? = some X := by
  subst h
  rw [List.getElem?_append_right (by rw [rwp_len]; exact Nat.le_refl _), rwp_len]; simp
theorem rwp_at {A C : List (Nat × List Int)} {b : Nat × List Int} {i : Nat} (h : i = A.length) : (rwp (A ++ b :: C)).getD i .any = .ro (some (some (b.1 + 1))) 1 (ints b.2) := by
  subst h
  rw [List.getD_eq_getElem?_getD, rwp, List.map_append, List.getElem?_append_right (by simp)]
  simp
theorem rwp_cat {A C : List (Nat × List Int)} {u : Nat} {xs : List Int} : rwp A ++ (.ro (some (some (u + 1))) 1 (ints xs)) :: rwp C = rwp (A ++ (u, xs) :: C) := by simp [rwp]
theorem callHp_mrr {hp : Nat → AObj} {r d : Nat} {s : Nat → Nat} {o o1 o2 : AObj} (hne : d ≠ r) (hne2 : d + 1000 ≠ r) :
    callHp hp [r] d s [o] [o1, o2] = upd (upd (upd hp r (o.ren (rid [r] d 2) (sv hp [r] s))) d (o1.ren (rid [r] d 2) (sv hp [r] s))) (d + 1000) (o2.ren (rid [r] d 2) (sv hp [r] s)) := by
  have hnew : ∀ i, i < [o1, o2].length → newId d i ∉ [r] := by
    intro i hi
    have : i = 0 ∨ i = 1 := by simp at hi; omega
    rcases this with rfl | rfl
    · simpa [newId] using hne
    · simpa [newId] using hne2
  funext n
  by_cases h : n = d + 1000
  · have h1 : rid [r] d [o1, o2].length 6001 = some n := by rw [h]; exact rid1
    rw [callHp_at (by simp) hnew h1]
    simp [upd, h, outHp]
  · by_cases h2 : n = d
    · have h1 : rid [r] d [o1, o2].length 6000 = some n := by rw [h2]; exact rid0
      rw [callHp_at (by simp) hnew h1]
      have hne3 : d ≠ d + 1000 := by omega
      simp [upd, h2, outHp, hne3]
    · by_cases h' : n = r
      · have h1 : rid [r] d [o1, o2].length 5000 = some n := by rw [h']; exact rid_m (j := 0) (by omega) rfl
        rw [callHp_at (by simp) hnew h1]
        simp [upd, h', outHp, Ne.symm hne, Ne.symm hne2]
      · rw [callHp_not]
        · simp [upd, h, h2, h']
        · rintro ⟨q, hq⟩
          rcases rid_cases hq with ⟨j, rfl, _, h1⟩ | ⟨i, rfl, h1, h3⟩
          · cases j with
            | zero => simp at h1; exact h' h1.symm
            | succ j => simp at h1
          · have : i = 0 ∨ i = 1 := by simp at h1; omega
            rcases this with rfl | rfl
            · exact h2 (by simpa [newId] using h3)
            · exact h (by simpa [newId] using h3)
theorem sv_inj {hp : Nat → AObj} {r v : Nat} {s : Nat → Nat} {cs : List AVal} (hr : hp r = .box v cs) (hs : ∀ x y, s x = s y → x = y) (hv : ∀ y, s y ≠ v) : ∀ x y, sv hp [r] s x = sv hp [r] s y → x = y := by
  intro x y e
  rcases Nat.eq_zero_or_pos x with rfl | hx <;> rcases Nat.eq_zero_or_pos y with rfl | hy
  · rfl
  · rw [sv_m hr, sv_new hy] at e; exact absurd e.symm (hv y)
  · rw [sv_new hx, sv_m hr] at e; exact absurd e (hv x)
  · rw [sv_new hx, sv_new hy] at e; exact hs _ _ e
structure TwI (n m : Int) (A B : List (Nat × List Int)) (top : Int) (low : Int) : Prop where
  a : ∀ p ∈ A, (p.2.length : Int) = m ∧ ∀ x ∈ p.2, 0 ≤ x ∧ x < top
  b : ∀ p ∈ B, (p.2.length : Int) = n ∧ ∀ x ∈ p.2, 0 ≤ x ∧ x < low
theorem k_l06Twin (code : List Int) (at_ seed : Int) (hb : ∀ x ∈ code, 0 ≤ x ∧ x ≤ 255) (ha : 0 ≤ at_ ∧ at_ ≤ 1000000) :
    Con Try.prog nz3k [.box 0 (srcC code at_ seed)] [.ptr 5000 0 0] true fun outs rows res =>
      ∃ n o ps qs v w a' s', Mach n o (ps.map (·.2)) (qs.map (·.2)) ∧ n ≤ 5 ∧ at_ ≤ a' ∧ a' ≤ at_ + 2000 ∧ outs = [.box 0 (srcC code a' s')] ∧ rows = [.row v 1 true (rwp ps), .row w 1 true (rwp qs)] ∧ res = .st [iv n, iv o, .own 6000 v, .own 6001 w] := by
  refine con_sh mixed czif rfl (by simp) ?_
  generalize hQ : finQ _ = Q
  simp only [Az4u, Bza8, wpD_kp, yz10, go_sem, yz0, Int.reduceLT, reduceLE, reduceToNat, reduceNeg, Nat.reduceLT, reduceLeDiff, reduceMul, reduceSub, reduceIte, reduceEqDiff, reduceAdd, reduceCtorEq]
  intro vs0 U0 hN0 vs1 U1 hN1
  refine call_con (r := 5000) (k_l06Draw code at_ seed 4 hb ha (by omega)) rfl (by simp only [Bool.not_true, rowIs, boxIs, coe_argN, coe_argNs, coe_ro_o, coeL_nil, yz12, coe_any, coe_val, coe_ro, yz13, yz17, coe_st, yz15, coe_rp, yz16, coe_clo, coe_own0, coe_ptr0, yz11, coeL_rws, coeL_rwn, L_hit, L_miss, L_nil, reduceEqDiff, ne_eq, reduceCtorEq, not_false_eq_true, true_and, and_true, and_self, exists_eq_left, exists_eq_right, List.mem_cons, List.not_mem_nil, or_false, AObj.row.injEq, AObj.box.injEq, exists_eq_left', exists_and_left, exists_eq, Nat.zero_lt_one, Nat.lt_add_one, List.map_cons, List.map_nil, AObj.ver, Nat.reduceLT, not_true_eq_false]) (by simp only [Bool.not_true, rowIs, boxIs, coe_argN, coe_argNs, coe_ro_o, coeL_nil, yz12, coe_any, coe_val, coe_ro, yz13, yz17, coe_st, yz15, coe_rp, yz16, coe_clo, coe_own0, coe_ptr0, yz11, coeL_rws, coeL_rwn, L_hit, L_miss, L_nil, reduceEqDiff, ne_eq, reduceCtorEq, not_false_eq_true, true_and, and_true, and_self, exists_eq_left, exists_eq_right, List.mem_cons, List.not_mem_nil, or_false, AObj.row.injEq, AObj.box.injEq, exists_eq_left', exists_and_left, exists_eq, Nat.zero_lt_one, Nat.lt_add_one, List.map_cons, List.map_nil, AObj.ver, Nat.reduceLT, not_true_eq_false]) ?_
  rintro outs rows res ⟨n, o, ps, qs, v, w, a', s', M, hn4, hd, ha1, ha2, rfl, rfl, rfl⟩
  refine ⟨rfl, by simp, by intro i hi; simp only [List.length_cons, List.length_nil] at hi; rcases (show i = 0 ∨ i = 1 by omega) with rfl | rfl <;> simp [newId, L], ?_⟩
  rw [Option.getD_some, callHp_mrr (by omega) (by omega)]
  have hv0 : ∀ y, vs1 1 y ≠ 0 := fun y e => by
    have h := hN1.hp 5000
    simp only [AObj.uses, go_sem, yz0, Int.reduceLT, reduceLE, reduceToNat, reduceNeg, Nat.reduceLT, reduceLeDiff, reduceMul, reduceSub, reduceIte, reduceEqDiff, reduceAdd, reduceCtorEq] at h
    exact hN1.new 1 y (by rw [e]; exact h.1)
  have hsi := sv_inj (hp := L .gone [(2, .box (vs0 0 0) [iv 0, iv 0, nilS, nilS]), (3, .gone), (8, .gone), (37, .gone), (56, .gone), (1008, .gone), (5000, .box 0 (srcC code at_ seed)), (901, .gone)]) (r := 5000) rfl (fun x y e => (hN1.inj _ _ _ _ e).2) hv0
  have hs0 : sv (L .gone [(2, .box (vs0 0 0) [iv 0, iv 0, nilS, nilS]), (3, .gone), (8, .gone), (37, .gone), (56, .gone), (1008, .gone), (5000, .box 0 (srcC code at_ seed)), (901, .gone)]) [5000] (vs1 1) 0 = 0 := sv_m rfl
  have hd2 := hd.ren hsi
  rw [List.map_append] at hd2
  have M2 : Mach n o ((ps.map fun p => (sv (L .gone [(2, .box (vs0 0 0) [iv 0, iv 0, nilS, nilS]), (3, .gone), (8, .gone), (37, .gone), (56, .gone), (1008, .gone), (5000, .box 0 (srcC code at_ seed)), (901, .gone)]) [5000] (vs1 1) p.1, p.2)).map (·.2)) ((qs.map fun p => (sv (L .gone [(2, .box (vs0 0 0) [iv 0, iv 0, nilS, nilS]), (3, .gone), (8, .gone), (37, .gone), (56, .gone), (1008, .gone), (5000, .box 0 (srcC code at_ seed)), (901, .gone)]) [5000] (vs1 1) p.1, p.2)).map (·.2)) := by
    rw [List.map_map, List.map_map]; exact M
  simp only [renL_rwp, Nat.not_lt_zero, range1, yzw, yzx, ren_ro, rnNm_n, yzz, rnNm_o, rnNm_s, ren_st, yzy, yzs, yze, yz3, yzq, yzo, yzl, yzn, yzp, yz6, yz9, yzb, yza, yzj, yzi, yz4, yzd, yzc, yz7, yzf, yzh, List.range_zero, yz2, yz5, yz8, yzr, yzk, yzm, AVal.fresh, freshL, yz1, yzg, AObj.fresh, id, Option.isSome_some, or_true, true_or, go_sem, yz0, Int.reduceLT, reduceLE, reduceToNat, reduceNeg, Nat.reduceLT, reduceLeDiff, reduceMul, reduceSub, reduceIte, reduceEqDiff, reduceAdd, reduceCtorEq]
  generalize sv (L .gone [(2, .box (vs0 0 0) [iv 0, iv 0, nilS, nilS]), (3, .gone), (8, .gone), (37, .gone), (56, .gone), (1008, .gone), (5000, .box 0 (srcC code at_ seed)), (901, .gone)]) [5000] (vs1 1) = sg at hsi hs0 hd2 M2 ⊢
  rw [hs0]
  generalize (ps.map fun p => (sg p.1, p.2)) = ps2 at hd2 M2 ⊢
  generalize (qs.map fun p => (sg p.1, p.2)) = qs2 at hd2 M2 ⊢
  generalize sg v = v8
  generalize sg w = v1008
  clear hsi hd M hs0
  have n1 := M2.aut.n1
  simp only [Bza7, wpD_kp, yz10, go_sem, yz0, Int.reduceLT, reduceLE, reduceToNat, reduceNeg, Nat.reduceLT, reduceLeDiff, reduceMul, reduceSub, reduceIte, reduceEqDiff, reduceAdd, reduceCtorEq]
  intro vs2 U2 hN2
  refine call_funB (k_pick code a' s' n hb (by omega)) rfl qCS qCS ?_
  rintro cs' x ⟨a2, s2, at0, rfl, f1, f2, rfl, f3, f4⟩
  have f5 : at0 < n := by omega
  simp only [Bza6, wpD_kp, yz10, go_sem, yz0, Int.reduceLT, reduceLE, reduceToNat, reduceNeg, Nat.reduceLT, reduceLeDiff, reduceMul, reduceSub, reduceIte, reduceEqDiff, reduceAdd, reduceCtorEq]
  intro vs3 U3 hN3
  have hl3 := M2.aut.l2
  have hlen := M2.len
  have hr1 := M2.aut.row
  have hr2 := M2.row
  have o1 := M2.o1
  have o2 := M2.o2
  have hl1 := M2.aut.l1
  rw [List.length_map] at hl3 hl1
  rw [List.length_map, List.length_map] at hlen
  simp only [Bza3, wpD_kp, yz10, go_sem, yz0, Int.reduceLT, reduceLE, reduceToNat, reduceNeg, Nat.reduceLT, reduceLeDiff, reduceMul, reduceSub, reduceIte, reduceEqDiff, reduceAdd, reduceCtorEq]
  refine wpD_lp (fun (_, _, _, _, _, _, B, _, _) => List.length B)
    (fun (_, _, _, a, _, A, B, A2, B2) => a2 ≤ a ∧ a ≤ a2 + 20 * List.length A ∧ List.length A + List.length B = ps2.length ∧ List.length A2 = List.length A ∧ List.length B2 = List.length B ∧ DJ ((A ++ B) ++ (A2 ++ B2)) ∧ TwI n (n + 1) A B (n + 1) n ∧ TwI n (n + 1) A2 B2 o o)
    (fun ((v3, v8, v1008, a, s, A, B, A2, B2) : Nat × Nat × Nat × Int × Int × List (Nat × List Int) × List (Nat × List Int) × List (Nat × List Int) × List (Nat × List Int)) =>
      ⟨L .any [(0, .ptr 5000 0 0), (2, .ptr 2 (vs0 0 0) 0), (3, .ptr 3 v3 0), (4, iv at0), (5, iv A.length)],
       L .gone [(2, .box (vs0 0 0) [iv 0, iv 0, nilS, nilS]), (3, .box v3 [iv n, iv o, .own 8 v8, .own 1008 v1008]), (8, .row v8 1 true (rwp (A ++ B))), (37, .gone), (56, .gone), (1008, .row v1008 1 true (rwp (A2 ++ B2))), (5000, .box 0 (srcC code a s)), (901, .gone)]⟩)
    (vs1 2 0, v8, v1008, a2, s2, [], ps2, [], qs2) ⟨by omega, by simp, by simp, rfl, by omega, by simpa using hd2, ⟨by simp, fun p hp => hr1 _ (List.mem_map_of_mem hp)⟩, ⟨by simp, fun p hp => hr2 _ (List.mem_map_of_mem hp)⟩⟩ (by simp only [Bz25, List.nil_append, go_sem, yz0, Int.reduceLT, reduceLE, reduceToNat, reduceNeg, Nat.reduceLT, reduceLeDiff, reduceMul, reduceSub, reduceIte, reduceEqDiff, reduceAdd, reduceCtorEq]; try rfl) ?_
  rintro ⟨v3, v8, v1008, a, s, A, B, A2, B2⟩ ⟨j1, j2, j3, j4, j5, j6, j7, j8⟩
  have j1 : a2 ≤ a := j1
  have j2 : a ≤ a2 + 20 * A.length := j2
  have j3 : A.length + B.length = ps2.length := j3
  have j4 : A2.length = A.length := j4
  have j5 : B2.length = B.length := j5
  have hll : (rwp (A ++ B)).length = A.length + B.length := by rw [rwp_len, List.length_append]
  cases B with
  | nil =>
    have hB2 : B2 = [] := by simpa using j5
    subst hB2
    have hlt : ¬ ((A.length : Int) < ((rwp A).length : Int)) := by rw [rwp_len]; omega
    have wn : IntKind.i64.wrap (n + 1) = n + 1 := w64 (by omega)
    simp only [Bz25, Bz4s, Bza5, decide_eq_false hlt, wpD_kp, yz10, go_sem, yz0, Int.reduceLT, reduceLE, reduceToNat, reduceNeg, Nat.reduceLT, reduceLeDiff, reduceMul, reduceSub, reduceIte, reduceEqDiff, reduceAdd, reduceCtorEq]
    intro vs4 U4 hN4 hM vs5 U5 hN5
    simp only [Bza4, wn, List.append_nil, wpD_kp, yz10, go_sem, yz0, Int.reduceLT, reduceLE, reduceToNat, reduceNeg, Nat.reduceLT, reduceLeDiff, reduceMul, reduceSub, reduceIte, reduceEqDiff, reduceAdd, reduceCtorEq]
    intro vs6 U6 hN6
    simp only [← hQ, Az4u, go_sem, yz0, Int.reduceLT, reduceLE, reduceToNat, reduceNeg, Nat.reduceLT, reduceLeDiff, reduceMul, reduceSub, reduceIte, reduceEqDiff, reduceAdd, reduceCtorEq]
    refine ⟨[8, 1008], by simp, by simp, by simp, ?_⟩
    simp only [range1, List.length_singleton, renL_rwp, Nat.not_lt_zero, range1, yzw, yzx, ren_ro, rnNm_n, yzz, rnNm_o, rnNm_s, ren_st, yzy, yzs, yze, yz3, yzq, yzo, yzl, yzn, yzp, yz6, yz9, yzb, yza, yzj, yzi, yz4, yzd, yzc, yz7, yzf, yzh, List.range_zero, yz2, yz5, yz8, yzr, yzk, yzm, AVal.fresh, freshL, yz1, yzg, AObj.fresh, id, Option.isSome_some, or_true, true_or, go_sem, yz0, Int.reduceLT, reduceLE, reduceToNat, reduceNeg, Nat.reduceLT, reduceLeDiff, reduceMul, reduceSub, reduceIte, reduceEqDiff, reduceAdd, reduceCtorEq]
    have j3 : A.length = ps2.length := by simpa using j3
    refine ⟨n + 1, o, A, A2, v8, v1008, a, s, ⟨⟨by omega, by omega, by rw [List.length_map]; omega, by rw [List.length_map]; omega, fun row hr => by obtain ⟨p, hp, rfl⟩ := List.mem_map.1 hr; exact j7.a p hp⟩, o1, o2, by rw [List.length_map, List.length_map]; exact j4, fun row hr => by obtain ⟨p, hp, rfl⟩ := List.mem_map.1 hr; exact j8.a p hp⟩, by omega, by omega, by omega, rfl, by simp, rfl⟩
  | cons b C =>
    cases B2 with
    | nil => simp at j5
    | cons b2 C2 =>
      have hlt : (A.length : Int) < ((rwp (A ++ b :: C)).length : Int) := by rw [hll]; simp; omega
      have hlt1 : A.length < (rwp (A ++ b :: C)).length := by omega
      have hlt2 : A.length < (rwp (A2 ++ b2 :: C2)).length := by rw [rwp_len, List.length_append, j4]; simp
      have hbl := j7.b b (by simp)
      have hbl2 := j8.b b2 (by simp)
      have hat : at0.toNat < b.2.length := by omega
      have hat2 : at0.toNat < b2.2.length := by omega
      have w5 : IntKind.i64.wrap ((A.length : Int) + 1) = ((A.length + 1 : Nat) : Int) := by rw [w64 (by omega)]; simp
      have g1 : (rwp (A ++ b :: C)).getD A.length .any = .ro (some (some (b.1 + 1))) 1 (ints b.2) := rwp_at rfl
      have g2 : (rwp (A2 ++ b2 :: C2)).getD A.length .any = .ro (some (some (b2.1 + 1))) 1 (ints b2.2) := rwp_at j4.symm
      have hbn : b.2 ≠ [] := fun e => by rw [e] at hbl; simp at hbl; omega
      have hbn2 : b2.2 ≠ [] := fun e => by rw [e] at hbl2; simp at hbl2; omega
      have D0 : DJ (A ++ b :: (C ++ (A2 ++ b2 :: C2))) := by have h : DJ ((A ++ b :: C) ++ (A2 ++ b2 :: C2)) := j6; rwa [List.append_assoc, List.cons_append] at h
      have F0 := DJ_out D0 hbn
      have F0a : ∀ p ∈ A ++ C, p.2 = [] ∨ p.1 ≠ b.1 := fun p hp => F0 p (by simp only [List.mem_append, List.mem_cons] at hp ⊢; rcases hp with h | h <;> simp [h])
      have F0b : ∀ p ∈ A2 ++ b2 :: C2, p.2 = [] ∨ p.1 ≠ b.1 := fun p hp => F0 p (by simp only [List.mem_append] at hp ⊢; exact .inr (.inr hp))
      simp only [Bz25, Bz4s, decide_eq_true hlt, wpD_kp, yz10, go_sem, yz0, Int.reduceLT, reduceLE, reduceToNat, reduceNeg, Nat.reduceLT, reduceLeDiff, reduceMul, reduceSub, reduceIte, reduceEqDiff, reduceAdd, reduceCtorEq]
      intro vs4 U4 hN4 hM
      simp only [Bza2, wpD_kp, wpD_gh, go_sem, yz0, Int.reduceLT, reduceLE, reduceToNat, reduceNeg, Nat.reduceLT, reduceLeDiff, reduceMul, reduceSub, reduceIte, reduceEqDiff, reduceAdd, reduceCtorEq]
      intro _
      refine ⟨[.thaw 8 A.length 901], gwp_thaw (n := b.1) rfl (rwp_get rfl) (by simpa using hbn) rfl fun m7 => ?_⟩
      have hx0 := hbl.2 _ (yzu hat 0)
      have hx2 := hbl2.2 _ (yzu hat2 0)
      have ho1 : (rwp A ++ .own 901 m7 :: rwp C).getD A.length .any = .own 901 m7 := own_at rfl
      have hol : (rwp A ++ AVal.own 901 m7 :: rwp C).length = A.length + (C.length + 1) := by rw [List.length_append, List.length_cons, rwp_len, rwp_len]
      simp only [woL_set F0a, woL_rwp F0b, woT, woO, woL_cons, woL_nil, woV_val, woV_own, wo_ptr, wo_o, woL_ints, wo_st, woO_row, woO_box, woO_gone, wo_any, gwp_nil, wpD_kp, yz10, go_sem, yz0, Int.reduceLT, reduceLE, reduceToNat, reduceNeg, Nat.reduceLT, reduceLeDiff, reduceMul, reduceSub, reduceIte, reduceEqDiff, reduceAdd, reduceCtorEq]
      intro vs5 U5 hN5
      simp only [ho1, yzv hat, own_put rfl, go_sem, yz0, Int.reduceLT, reduceLE, reduceToNat, reduceNeg, Nat.reduceLT, reduceLeDiff, reduceMul, reduceSub, reduceIte, reduceEqDiff, reduceAdd, reduceCtorEq]
      have hAl : A.length < (rwp A ++ AVal.own 901 m7 :: rwp C).length := by omega
      refine ⟨⟨by omega, hAl⟩, hAl, ⟨by omega, hAl⟩, hAl, ⟨f3, hat⟩, hat, ⟨_, rfl, rfl⟩, by omega, ⟨by omega, hAl⟩, by omega, ?_⟩
      have hU8 := hN5.hp 8
      have hU18 := hN5.hp 1008
      simp only [AObj.uses, go_sem, yz0, Int.reduceLT, reduceLE, reduceToNat, reduceNeg, Nat.reduceLT, reduceLeDiff, reduceMul, reduceSub, reduceIte, reduceEqDiff, reduceAdd, reduceCtorEq] at hU8 hU18
      have hold8 := usesL_rwp2 hU8.2
      have hold18 := usesL_rwp (rest := []) (by rw [List.append_nil]; exact hU18.2)
      have hnew1 : ∀ p ∈ A ++ (C ++ (A2 ++ b2 :: C2)), p.2 = [] ∨ p.1 ≠ vs5 17 0 := fun p hp => by
        have : p.2 = [] ∨ U5 p.1 := by
          rw [← List.append_assoc] at hp
          rcases List.mem_append.1 hp with h | h
          · exact hold8 p h
          · exact hold18 p h
        rcases this with h | h
        · exact .inl h
        · exact .inr fun e => hN5.new 17 0 (e ▸ h)
      have D1 := DJ_in (r := b.2 ++ [b.2.getD at0.toNat 0]) D0 hnew1
      have D1' : DJ ((A ++ (vs5 17 0, b.2 ++ [b.2.getD at0.toNat 0]) :: C ++ A2) ++ b2 :: C2) := by
        have e : A ++ (vs5 17 0, b.2 ++ [b.2.getD at0.toNat 0]) :: (C ++ (A2 ++ b2 :: C2)) = (A ++ (vs5 17 0, b.2 ++ [b.2.getD at0.toNat 0]) :: C ++ A2) ++ b2 :: C2 := by simp
        rw [← e]; exact D1
      have F1 := DJ_out D1' hbn2
      have F1a : ∀ p ∈ A ++ (vs5 17 0, b.2 ++ [b.2.getD at0.toNat 0]) :: C, p.2 = [] ∨ p.1 ≠ b2.1 := fun p hp => F1 p (by rw [List.append_assoc]; exact List.mem_append.2 (.inl hp))
      have F1b : ∀ p ∈ A2 ++ C2, p.2 = [] ∨ p.1 ≠ b2.1 := fun p hp => F1 p (by rw [List.append_assoc]; exact List.mem_append.2 (.inr hp))
      generalize hr1e : b.2 ++ [b.2.getD at0.toNat 0] = r1 at D1 D1' F1a ⊢
      generalize vs5 17 0 = u1 at D1 D1' F1a ⊢
      have hA2l : A.length = A2.length := j4.symm
      simp only [Bza0, rwp_cat, wpD_kp, wpD_gh, go_sem, yz0, Int.reduceLT, reduceLE, reduceToNat, reduceNeg, Nat.reduceLT, reduceLeDiff, reduceMul, reduceSub, reduceIte, reduceEqDiff, reduceAdd, reduceCtorEq]
      intro _
      refine ⟨[.thaw 1008 A.length 901], gwp_thaw (n := b2.1) rfl (rwp_get hA2l) (by simpa using hbn2) rfl fun m8 => ?_⟩
      have ho2 : (rwp A2 ++ AVal.own 901 m8 :: rwp C2).getD A.length .any = .own 901 m8 := own_at hA2l
      have hol2 : (rwp A2 ++ AVal.own 901 m8 :: rwp C2).length = A.length + (C2.length + 1) := by rw [List.length_append, List.length_cons, rwp_len, rwp_len, j4]
      have hset2 : (woL b2.1 (rwp (A2 ++ b2 :: C2))).set A.length (AVal.own 901 m8) = rwp A2 ++ AVal.own 901 m8 :: rwp C2 := by rw [hA2l]; exact woL_set F1b
      simp only [hset2, woL_rwp F1a, woT, woO, woL_cons, woL_nil, woV_val, woV_own, wo_ptr, wo_o, woL_ints, wo_st, woO_row, woO_box, woO_gone, wo_any, gwp_nil, wpD_kp, yz10, go_sem, yz0, Int.reduceLT, reduceLE, reduceToNat, reduceNeg, Nat.reduceLT, reduceLeDiff, reduceMul, reduceSub, reduceIte, reduceEqDiff, reduceAdd, reduceCtorEq]
      intro vs6 U6 hN6
      simp only [ho2, yzv hat2, own_put hA2l, go_sem, yz0, Int.reduceLT, reduceLE, reduceToNat, reduceNeg, Nat.reduceLT, reduceLeDiff, reduceMul, reduceSub, reduceIte, reduceEqDiff, reduceAdd, reduceCtorEq]
      have hAl2 : A.length < (rwp A2 ++ AVal.own 901 m8 :: rwp C2).length := by omega
      refine ⟨⟨by omega, hAl2⟩, hAl2, ⟨by omega, hAl2⟩, hAl2, ⟨f3, hat2⟩, hat2, ⟨_, rfl, rfl⟩, by omega, ⟨by omega, hAl2⟩, by omega, ?_⟩
      have hU8 := hN6.hp 8
      have hU18 := hN6.hp 1008
      simp only [AObj.uses, go_sem, yz0, Int.reduceLT, reduceLE, reduceToNat, reduceNeg, Nat.reduceLT, reduceLeDiff, reduceMul, reduceSub, reduceIte, reduceEqDiff, reduceAdd, reduceCtorEq] at hU8 hU18
      have hold8 := usesL_rwp (rest := []) (by rw [List.append_nil]; exact hU8.2)
      have hold18 := usesL_rwp2 hU18.2
      have hnew2 : ∀ p ∈ (A ++ (u1, r1) :: C ++ A2) ++ C2, p.2 = [] ∨ p.1 ≠ vs6 17 0 := fun p hp => by
        have : p.2 = [] ∨ U6 p.1 := by
          rw [List.append_assoc] at hp
          rcases List.mem_append.1 hp with h | h
          · exact hold8 p h
          · exact hold18 p h
        rcases this with h | h
        · exact .inl h
        · exact .inr fun e => hN6.new 17 0 (e ▸ h)
      have D2 := DJ_in (r := b2.2 ++ [b2.2.getD at0.toNat 0]) D1' hnew2
      generalize hr2e : b2.2 ++ [b2.2.getD at0.toNat 0] = r2 at D2 ⊢
      generalize vs6 17 0 = u2 at D2 ⊢
      have D2' : DJ (A ++ (u1, r1) :: (C ++ (A2 ++ (u2, r2) :: C2))) := by
        have e : A ++ (u1, r1) :: (C ++ (A2 ++ (u2, r2) :: C2)) = (A ++ (u1, r1) :: C ++ A2) ++ (u2, r2) :: C2 := by simp
        rw [e]; exact D2
      have hr1l : (r1.length : Int) = n + 1 := by rw [← hr1e, List.length_append]; simp; omega
      have hr1m : ∀ x ∈ r1, 0 ≤ x ∧ x < n + 1 := fun x hx => by
        rw [← hr1e] at hx
        rcases List.mem_append.1 hx with h | h
        · have := hbl.2 x h; omega
        · rw [List.mem_singleton.1 h]; omega
      have hr2l : (r2.length : Int) = n + 1 := by rw [← hr2e, List.length_append]; simp; omega
      have hr2m : ∀ x ∈ r2, 0 ≤ x ∧ x < o := fun x hx => by
        rw [← hr2e] at hx
        rcases List.mem_append.1 hx with h | h
        · exact hbl2.2 x h
        · rw [List.mem_singleton.1 h]; exact hx2
      clear hr1e hr2e
      have hr1n : r1 ≠ [] := fun e => by rw [e] at hr1l; simp at hr1l; omega
      have F2 := DJ_out D2' hr1n
      have F2a : ∀ p ∈ A ++ C, p.2 = [] ∨ p.1 ≠ u1 := fun p hp => F2 p (by simp only [List.mem_append] at hp ⊢; rcases hp with h | h <;> simp [h])
      have F2b : ∀ p ∈ A2 ++ (u2, r2) :: C2, p.2 = [] ∨ p.1 ≠ u1 := fun p hp => F2 p (by simp only [List.mem_append] at hp ⊢; exact .inr (.inr hp))
      simp only [Bz9z, rwp_cat, wpD_kp, wpD_gh, go_sem, yz0, Int.reduceLT, reduceLE, reduceToNat, reduceNeg, Nat.reduceLT, reduceLeDiff, reduceMul, reduceSub, reduceIte, reduceEqDiff, reduceAdd, reduceCtorEq]
      intro _
      refine ⟨[.thaw 8 A.length 901], gwp_thaw (n := u1) rfl (rwp_get (b := (u1, r1)) rfl) (by simpa using hr1n) rfl fun m9 => ?_⟩
      have hset3 : (woL u1 (rwp (A ++ (u1, r1) :: C))).set A.length (AVal.own 901 m9) = rwp A ++ AVal.own 901 m9 :: rwp C := woL_set (b := (u1, r1)) F2a
      simp only [hset3, woL_rwp F2b, woT, woO, woL_cons, woL_nil, woV_val, woV_own, wo_ptr, wo_o, woL_ints, wo_st, woO_row, woO_box, woO_gone, wo_any, gwp_nil, wpD_kp, yz10, go_sem, yz0, Int.reduceLT, reduceLE, reduceToNat, reduceNeg, Nat.reduceLT, reduceLeDiff, reduceMul, reduceSub, reduceIte, reduceEqDiff, reduceAdd, reduceCtorEq]
      intro vs7 U7 hN7
      simp only [Bz9y, wpD_kp, yz10, go_sem, yz0, Int.reduceLT, reduceLE, reduceToNat, reduceNeg, Nat.reduceLT, reduceLeDiff, reduceMul, reduceSub, reduceIte, reduceEqDiff, reduceAdd, reduceCtorEq]
      have hsA : A.length < 4 := by simp at j3; omega
      refine wpD_lp (fun (_, _, _, _, x) => r1.length - x) (fun (a', _, _, cur, x) => a ≤ a' ∧ a' ≤ a + 2 * x ∧ x ≤ r1.length ∧ List.length cur = r1.length ∧ ∀ y ∈ cur, 0 ≤ y ∧ y < n + 1)
        (fun ((a, s, m, cur, x) : Int × Int × Nat × List Int × Nat) =>
          ⟨L .any [(0, .ptr 5000 0 0), (2, .ptr 2 (vs0 0 0) 0), (3, .ptr 3 v3 0), (4, iv at0), (5, iv A.length), (6, iv x)],
           L .gone [(2, .box (vs0 0 0) [iv 0, iv 0, nilS, nilS]), (3, .box v3 [iv n, iv o, .own 8 v8, .own 1008 v1008]), (8, .row v8 1 true (rwp A ++ .own 901 m :: rwp C)), (37, .gone), (56, .gone), (1008, .row v1008 1 true (rwp (A2 ++ (u2, r2) :: C2))), (5000, .box 0 (srcC code a s)), (901, .row m 1 true (ints cur))]⟩)
        (a, s, m9, r1, 0) ⟨by omega, by simp, by omega, rfl, hr1m⟩ (by simp only [Bz24, go_sem, yz0, Int.reduceLT, reduceLE, reduceToNat, reduceNeg, Nat.reduceLT, reduceLeDiff, reduceMul, reduceSub, reduceIte, reduceEqDiff, reduceAdd, reduceCtorEq]; try rfl) ?_
      rintro ⟨a', s', m, cur, x⟩ ⟨e1, e2, e3, e4, e5⟩
      have e1 : a ≤ a' := e1
      have e2 : a' ≤ a + 2 * x := e2
      have e3 : x ≤ r1.length := e3
      have e4 : cur.length = r1.length := e4
      have hoc : (rwp A ++ AVal.own 901 m :: rwp C).getD A.length .any = .own 901 m := own_at rfl
      have holc : (rwp A ++ AVal.own 901 m :: rwp C).length = A.length + (C.length + 1) := by rw [List.length_append, List.length_cons, rwp_len, rwp_len]
      have hAlc : A.length < (rwp A ++ AVal.own 901 m :: rwp C).length := by omega
      by_cases hxl : (x : Int) < cur.length
      · have hx1 : x < cur.length := by omega
        have w6 : IntKind.i64.wrap ((x : Int) + 1) = ((x + 1 : Nat) : Int) := by rw [w64 (by omega)]; simp
        simp only [Bz24, Bz4t, Bz9x, hoc, yzv hx1, decide_eq_true hxl, wpD_kp, yz10, go_sem, yz0, Int.reduceLT, reduceLE, reduceToNat, reduceNeg, Nat.reduceLT, reduceLeDiff, reduceMul, reduceSub, reduceIte, reduceEqDiff, reduceAdd, reduceCtorEq]
        intro vs8 U8 hN8
        refine ⟨⟨by omega, hAlc⟩, hAlc, ?_⟩
        intro hM5 vs9 U9 hN9
        refine ⟨⟨by omega, hAlc⟩, hAlc, ⟨by omega, hx1⟩, hx1, ?_⟩
        by_cases heq : cur.getD x 0 = at0
        · have hb1 : (cur.getD x 0 == at0) = true := by simpa using heq
          simp only [hb1, wpD_kp, yz10, go_sem, yz0, Int.reduceLT, reduceLE, reduceToNat, reduceNeg, Nat.reduceLT, reduceLeDiff, reduceMul, reduceSub, reduceIte, reduceEqDiff, reduceAdd, reduceCtorEq]
          refine call_funB (k_one code a' s' 2 hb (by omega)) rfl qCS qCS ?_
          rintro cs' x1 ⟨a3, s3, b3, rfl, c1, c2, rfl⟩
          cases b3 with
          | true =>
            simp only [Bz22, Bz23, hoc, w6, wpD_kp, yz10, go_sem, yz0, Int.reduceLT, reduceLE, reduceToNat, reduceNeg, Nat.reduceLT, reduceLeDiff, reduceMul, reduceSub, reduceIte, reduceEqDiff, reduceAdd, reduceCtorEq]
            intro vs10 U10 hN10
            refine ⟨⟨by omega, hAlc⟩, hAlc, ⟨by omega, hx1⟩, by omega, ?_⟩
            intro vs11 U11 hN11
            refine ⟨(a3, s3, m, cur.take x ++ [n] ++ cur.drop (x + 1), x + 1), by dsimp only; omega, ⟨by dsimp only; omega, by dsimp only; omega, by dsimp only; omega, by dsimp only; rw [lput_len hx1]; exact e4, lput_mem e5 (by omega)⟩, ?_⟩
            simp only [← ints_put]
          | false =>
            simp only [Bz22, Bz23, w6, wpD_kp, yz10, go_sem, yz0, Int.reduceLT, reduceLE, reduceToNat, reduceNeg, Nat.reduceLT, reduceLeDiff, reduceMul, reduceSub, reduceIte, reduceEqDiff, reduceAdd, reduceCtorEq]
            intro vs10 U10 hN10
            exact ⟨(a3, s3, m, cur, x + 1), by dsimp only; omega, ⟨by dsimp only; omega, by dsimp only; omega, by dsimp only; omega, e4, e5⟩, rfl⟩
        · have hb1 : (cur.getD x 0 == at0) = false := by simpa using heq
          simp only [hb1, Bz22, Bz23, w6, wpD_kp, yz10, go_sem, yz0, Int.reduceLT, reduceLE, reduceToNat, reduceNeg, Nat.reduceLT, reduceLeDiff, reduceMul, reduceSub, reduceIte, reduceEqDiff, reduceAdd, reduceCtorEq]
          intro vs10 U10 hN10
          exact ⟨(a', s', m, cur, x + 1), by dsimp only; omega, ⟨by dsimp only; omega, by dsimp only; omega, by dsimp only; omega, e4, e5⟩, rfl⟩
      · simp only [Bz24, Bz4t, hoc, decide_eq_false hxl, wpD_kp, yz10, go_sem, yz0, Int.reduceLT, reduceLE, reduceToNat, reduceNeg, Nat.reduceLT, reduceLeDiff, reduceMul, reduceSub, reduceIte, reduceEqDiff, reduceAdd, reduceCtorEq]
        intro vs8 U8 hN8
        refine ⟨⟨by omega, hAlc⟩, hAlc, ?_⟩
        intro hM5
        simp only [Bza1, wpD_kp, wpD_gh, go_sem, yz0, Int.reduceLT, reduceLE, reduceToNat, reduceNeg, Nat.reduceLT, reduceLeDiff, reduceMul, reduceSub, reduceIte, reduceEqDiff, reduceAdd, reduceCtorEq]
        intro hD
        refine ⟨[.rf 8 A.length 901], gwp_rf (k := 1) (nn := true) rfl (own_get rfl) (by decide) rfl fun hf => ?_⟩
        have hf1 : ∀ p ∈ A ++ C, p.2 = [] ∨ p.1 ≠ m := fun p hp => by
          by_cases e : p.2 = []
          · exact .inl e
          · refine .inr (hf p.1 1 (ints p.2) ?_ (by simpa using e))
            rcases List.mem_append.1 hp with h | h
            · exact List.mem_append.2 (.inl (List.mem_map.2 ⟨p, h, rfl⟩))
            · exact List.mem_append.2 (.inr (List.mem_cons.2 (.inr (List.mem_map.2 ⟨p, h, rfl⟩))))
        have hf2 : ∀ p ∈ A2 ++ (u2, r2) :: C2, p.2 = [] ∨ p.1 ≠ m := fun p hp => by
          by_cases e : p.2 = []
          · exact .inl e
          · exact .inr (hD 1008 v1008 1 true (rwp (A2 ++ (u2, r2) :: C2)) 901 m rfl rfl p.1 1 (ints p.2) (List.mem_map.2 ⟨p, hp, rfl⟩) (by simpa using e))
        have D3 := DJ_in (u := m) (r := cur) D2' fun p hp => by
          rw [← List.append_assoc] at hp
          rcases List.mem_append.1 hp with h | h
          · exact hf1 p h
          · exact hf2 p h
        have hset4 : ∀ X : AVal, (rwp A ++ AVal.own 901 m :: rwp C).set A.length X = rwp A ++ X :: rwp C := fun X => by
          rw [List.set_append_right _ _ (by rw [rwp_len]; exact Nat.le_refl _), rwp_len, Nat.sub_self]; rfl
        simp only [hset4, frNm_t, w5, gwp_nil, wpD_kp, yz10, go_sem, yz0, Int.reduceLT, reduceLE, reduceToNat, reduceNeg, Nat.reduceLT, reduceLeDiff, reduceMul, reduceSub, reduceIte, reduceEqDiff, reduceAdd, reduceCtorEq]
        intro vs9 U9 hN9
        have hxr : x = cur.length := by omega
        refine ⟨(v3, v8, v1008, a', s', A ++ [(m, cur)], C, A2 ++ [(u2, r2)], C2), by dsimp only; simp, ⟨by dsimp only; omega, by dsimp only; rw [List.length_append, List.length_singleton]; omega, ?_, ?_, ?_, ?_, ⟨?_, ?_⟩, ⟨?_, ?_⟩⟩, ?_⟩
        · dsimp only; rw [List.length_append, List.length_singleton]; simp at j3; omega
        · dsimp only; rw [List.length_append, List.length_append, j4]; rfl
        · dsimp only; simpa using j5
        · have e : A ++ (m, cur) :: (C ++ (A2 ++ (u2, r2) :: C2)) = ((A ++ [(m, cur)]) ++ C) ++ ((A2 ++ [(u2, r2)]) ++ C2) := by simp
          dsimp only; rw [← e]; exact D3
        · intro p hp
          rcases List.mem_append.1 hp with h | h
          · exact j7.a p h
          · rw [List.mem_singleton.1 h]; exact ⟨by dsimp only; omega, e5⟩
        · exact fun p hp => j7.b p (List.mem_cons_of_mem _ hp)
        · intro p hp
          rcases List.mem_append.1 hp with h | h
          · exact j8.a p h
          · rw [List.mem_singleton.1 h]; exact ⟨hr2l, hr2m⟩
        · exact fun p hp => j8.b p (List.mem_cons_of_mem _ hp)
        · simp only [List.append_assoc, List.cons_append, List.nil_append, List.length_append, List.length_cons, List.length_nil, rwp_cat]
end Go.Ab
