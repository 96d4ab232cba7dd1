/- Plain laws of sets as rising lists. Conditions: none. -/
import Derived.Lib.SlicesCompact
import Derived.Test.YtoadopegbnmfkaaM5
set_option linter.all false
namespace Go.Ab

def SI (l : List Int) : Prop := l.Pairwise (· < ·)

/-- A number is put to its place among rising ones, once. -/
def put : List Int → Int → List Int
  | [], n => [n]
  | x :: xs, n => if n ≤ x then (if n < x then n :: x :: xs else x :: xs) else x :: put xs n

theorem put_mem {n y : Int} : ∀ {xs : List Int}, y ∈ put xs n ↔ y = n ∨ y ∈ xs
  | [] => by simp [put]
  | x :: xs => by
    simp only [put]
    split
    · split
      · simp
      · have : x = n := by omega
        subst this
        simp
    · rw [List.mem_cons, put_mem, List.mem_cons]
      constructor
      · rintro (h | h | h)
        · exact .inr (.inl h)
        · exact .inl h
        · exact .inr (.inr h)
      · rintro (h | h | h)
        · exact .inr (.inl h)
        · exact .inl h
        · exact .inr (.inr h)

theorem put_SI {n : Int} : ∀ {xs : List Int}, SI xs → SI (put xs n)
  | [], _ => by simp [put, SI]
  | x :: xs, h => by
    have h0 := h
    unfold SI at h
    rw [List.pairwise_cons] at h
    simp only [put]
    split
    · split
      · unfold SI
        rw [List.pairwise_cons]
        refine ⟨fun y hy => ?_, h0⟩
        rcases List.mem_cons.1 hy with rfl | hy
        · assumption
        · have := h.1 y hy; omega
      · exact h0
    · unfold SI
      rw [List.pairwise_cons]
      refine ⟨fun y hy => ?_, put_SI h.2⟩
      rcases put_mem.1 hy with rfl | hy
      · omega
      · exact h.1 y hy

/-- The set of some numbers. -/
def nrm (l : List Int) : List Int := l.foldl put []

theorem nrm_acc : ∀ (l acc : List Int), SI acc → SI (l.foldl put acc) ∧ ∀ y, y ∈ l.foldl put acc ↔ y ∈ acc ∨ y ∈ l
  | [], acc, h => ⟨h, by simp⟩
  | x :: l, acc, h => by
    obtain ⟨h1, h2⟩ := nrm_acc l (put acc x) (put_SI h)
    refine ⟨h1, fun y => ?_⟩
    rw [List.foldl_cons, h2, put_mem, List.mem_cons]
    constructor
    · rintro ((h | h) | h)
      · exact .inr (.inl h)
      · exact .inl h
      · exact .inr (.inr h)
    · rintro (h | h | h)
      · exact .inl (.inr h)
      · exact .inl (.inl h)
      · exact .inr h

theorem nrm_SI (l : List Int) : SI (nrm l) := (nrm_acc l [] (by simp [SI])).1
theorem nrm_mem {l : List Int} {y : Int} : y ∈ nrm l ↔ y ∈ l := by
  have := (nrm_acc l [] (by simp [SI])).2 y
  simpa [nrm] using this
end Go.Ab
