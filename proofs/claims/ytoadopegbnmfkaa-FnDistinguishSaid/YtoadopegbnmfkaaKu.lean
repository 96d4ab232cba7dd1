/- Contracts: rows that are compared; all pairs of states. Conditions: none. -/
import Derived.Test.YtoadopegbnmfkaaKt
set_option linter.all false
namespace Go.Ab
open Go.Proofs
set_option maxRecDepth 20000
set_option maxHeartbeats 1000000

def cmpI (x y : Int) : Int := if x < y then -1 else if x > y then 1 else 0
def cmpL : List Int → List Int → Int
  | [], [] => 0
  | [], _ :: _ => -1
  | _ :: _, [] => 1
  | x :: xs, y :: ys => if cmpI x y = 0 then cmpL xs ys else cmpI x y

/-- Pairs of s and states from t on. -/
def prow (p : Int → Int → Bool) (s : Int) : Int → Nat → List (List Int)
  | _, 0 => []
  | t, m + 1 => (if p s t = true then [[s, t]] else []) ++ prow p s (t + 1) m
/-- Pairs of states from s on. -/
def pall (p : Int → Int → Bool) (n : Int) : Int → Nat → List (List Int)
  | _, 0 => []
  | s, m + 1 => prow p s (s + 1) (n - (s + 1)).toNat ++ pall p n (s + 1) m
/-- All pairs of which p holds. -/
def pairsL (n : Int) (p : Int → Int → Bool) : List (List Int) := pall p n 0 n.toNat

theorem prow_len {p : Int → Int → Bool} {s : Int} : ∀ (m : Nat) (t : Int), (prow p s t m).length ≤ m
  | 0, t => by simp [prow]
  | m + 1, t => by
    have := prow_len (p := p) (s := s) m (t + 1)
    simp only [prow, List.length_append]
    split <;> simp <;> omega
theorem pall_len {p : Int → Int → Bool} {n : Int} : ∀ (m : Nat) (s : Int), 0 ≤ s → (pall p n s m).length ≤ m * n.toNat
  | 0, s, _ => by simp [pall]
  | m + 1, s, hs => by
    have h1 := pall_len (p := p) (n := n) m (s + 1) (by omega)
    have h2 := prow_len (p := p) (s := s) (n - (s + 1)).toNat (s + 1)
    simp only [pall, List.length_append, Nat.succ_mul]
    omega
theorem pairsL_len {n : Int} (hn : 1 ≤ n ∧ n ≤ 10) {p : Int → Int → Bool} : (pairsL n p).length ≤ 100 := by
  have h := pall_len (p := p) (n := n) n.toNat 0 (by omega)
  have : n.toNat * n.toNat ≤ 10 * 10 := Nat.mul_le_mul (by omega) (by omega)
  unfold pairsL; omega

theorem prow_mem {p : Int → Int → Bool} {s : Int} {x : List Int} : ∀ (m : Nat) (t : Int), x ∈ prow p s t m ↔ ∃ u : Int, t ≤ u ∧ u < t + m ∧ p s u = true ∧ x = [s, u]
  | 0, t => by
    simp only [prow, List.not_mem_nil, false_iff]
    rintro ⟨u, h1, h2, _⟩; omega
  | m + 1, t => by
    have ih := prow_mem (p := p) (s := s) (x := x) m (t + 1)
    simp only [prow, List.mem_append, ih]
    constructor
    · rintro (h | ⟨u, h1, h2, h3⟩)
      · split at h
        · rename_i hp
          exact ⟨t, by omega, by omega, hp, by simpa using h⟩
        · cases h
      · exact ⟨u, by omega, by omega, h3⟩
    · rintro ⟨u, h1, h2, h3, h4⟩
      by_cases hu : u = t
      · subst hu
        left; rw [if_pos h3]; simpa using h4
      · exact .inr ⟨u, by omega, by omega, h3, h4⟩
theorem pall_mem {p : Int → Int → Bool} {n : Int} {x : List Int} : ∀ (m : Nat) (s : Int), s + m = n → (x ∈ pall p n s m ↔ ∃ a b : Int, s ≤ a ∧ a < b ∧ b < n ∧ p a b = true ∧ x = [a, b])
  | 0, s, hm => by
    simp only [pall, List.not_mem_nil, false_iff]
    rintro ⟨a, b, h1, h2, h3, _⟩; omega
  | m + 1, s, hm => by
    have ih := pall_mem (p := p) (n := n) (x := x) m (s + 1) (by omega)
    simp only [pall, List.mem_append, ih, prow_mem]
    constructor
    · rintro (⟨u, h1, h2, h3, h4⟩ | ⟨a, b, h1, h2⟩)
      · exact ⟨s, u, by omega, by omega, by omega, h3, h4⟩
      · exact ⟨a, b, by omega, h2⟩
    · rintro ⟨a, b, h1, h2, h3, h4, h5⟩
      by_cases ha : a = s
      · subst ha; exact .inl ⟨b, by omega, by omega, h4, h5⟩
      · exact .inr ⟨a, b, by omega, h2, h3, h4, h5⟩
theorem pairsL_mem {n : Int} (hn : 0 ≤ n) {p : Int → Int → Bool} {x : List Int} : x ∈ pairsL n p ↔ ∃ a b : Int, 0 ≤ a ∧ a < b ∧ b < n ∧ p a b = true ∧ x = [a, b] := pall_mem _ _ (by omega)

end Go.Ab
