/- Contracts: certificates. Conditions: none. -/
import Derived.Test.YtoadopegbnmfkaaKu
set_option linter.all false
namespace Go.Ab
open Go.Proofs
set_option maxRecDepth 20000
set_option maxHeartbeats 1000000

theorem bneF {a b : Int} (h : a = b) : (a != b) = false := by simp [h]
theorem bneT {a b : Int} (h : a ≠ b) : (a != b) = true := by simp [h]
theorem beqT {a b : Int} (h : a = b) : (a == b) = true := by simp [h]
theorem beqF {a b : Int} (h : a ≠ b) : (a == b) = false := by simp [h]

abbrev certA (kind : Int) (pairs words : List (List Int)) : AVal := .st [iv kind, .ro none 1 (rwn pairs), .ro none 1 (rwn words)]
abbrev certP (kind : Int) (pairs words : List (List Int)) : AVal := .rp [iv kind, .ro none 1 (rwn pairs), .ro none 1 (rwn words)] 0

abbrev every (n : Int) : List (List Int) := pairsL n fun _ _ => true
abbrev imgL (next : List (List Int)) (set w : List Int) : List Int := nrm (set.map fun s => atA next s w)

def mergeP (n : Int) (next pairs words : List (List Int)) : Prop := pairs.length = 0 ∧ words.length = (every n).length ∧
  ∀ i, i < (every n).length → wordB next.length (words.getD i []) = true ∧ atA next (((every n).getD i []).getD 0 0) (words.getD i []) = atA next (((every n).getD i []).getD 1 0) (words.getD i [])
def apartP (n : Int) (next pairs words : List (List Int)) : Prop := words.length = 0 ∧ 0 < pairs.length ∧
  ∀ i, i < pairs.length → pairs.getD i [] ∈ every n ∧ (0 < i → cmpL (pairs.getD (i - 1) []) (pairs.getD i []) < 0) ∧ ∀ l : Nat, l < next.length → imgL next (pairs.getD i []) [(l : Int)] ∈ pairs
open Classical in
noncomputable def rightB (n : Int) (next : List (List Int)) (kind : Int) (pairs words : List (List Int)) : Bool :=
  if kind = 1 then decide (mergeP n next pairs words) else if kind = 2 then decide (apartP n next pairs words) else false

theorem right1_t {n : Int} {next pairs words : List (List Int)} (h : mergeP n next pairs words) : rightB n next 1 pairs words = true := by simp [rightB, h]
theorem right1_f {n : Int} {next pairs words : List (List Int)} (h : ¬ mergeP n next pairs words) : rightB n next 1 pairs words = false := by simp [rightB, h]
theorem right2_t {n : Int} {next pairs words : List (List Int)} (h : apartP n next pairs words) : rightB n next 2 pairs words = true := by simp [rightB, h]
theorem right2_f {n : Int} {next pairs words : List (List Int)} (h : ¬ apartP n next pairs words) : rightB n next 2 pairs words = false := by simp [rightB, h]
theorem right_f {n kind : Int} {next pairs words : List (List Int)} (h1 : kind ≠ 1) (h2 : kind ≠ 2) : rightB n next kind pairs words = false := by simp [rightB, h1, h2]

theorem every_get {n : Int} (hn : 0 ≤ n) {i : Nat} (hi : i < (every n).length) : ∃ a b : Int, 0 ≤ a ∧ a < b ∧ b < n ∧ (every n).getD i [] = [a, b] := by
  have h := (pairsL_mem hn).1 (getD_mem hi [])
  obtain ⟨a, b, h1, h2, h3, _, h4⟩ := h
  exact ⟨a, b, h1, h2, h3, h4⟩

theorem img2 {next : List (List Int)} {a b : Int} {w : List Int} : (imgL next [a, b] w).length = 1 ↔ atA next a w = atA next b w := by
  simp only [imgL, List.map_cons, List.map_nil, nrm, List.foldl_cons, List.foldl_nil, put]
  split
  · split
    · simp; omega
    · simp; omega
  · simp; omega

end Go.Ab
