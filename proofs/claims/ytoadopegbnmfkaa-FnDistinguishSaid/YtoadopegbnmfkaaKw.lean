/- Contracts: the reference's certificates; CheckCertificate. Conditions: none. -/
import Derived.Test.YtoadopegbnmfkaaKv
set_option linter.all false
namespace Go.Ab
open Go.Proofs
set_option maxRecDepth 20000
set_option maxHeartbeats 1000000

theorem fidx_neg (x : List Int) : ∀ (xs : List (List Int)) (i : Nat), decide (fidx (fun y => decide (y = x)) xs i < 0) = decide (x ∉ xs)
  | [], i => by simp [fidx]
  | y :: xs, i => by
    have h := fidx_neg x xs (i + 1)
    simp only [fidx]
    by_cases hy : y = x
    · have : x ∈ y :: xs := by simp [hy]
      simp [hy]
    · have : (x ∉ y :: xs) ↔ (x ∉ xs) := by simp [Ne.symm hy]
      simp only [hy, decide_false, Bool.false_eq_true, if_false, h]
      exact decide_eq_decide.2 this.symm

def mergeW (n : Int) (next words : List (List Int)) : Prop := words.length = (every n).length ∧
  ∀ i, i < (every n).length → wordB next.length (words.getD i []) = true ∧ atA next (((every n).getD i []).getD 0 0) (words.getD i []) = atA next (((every n).getD i []).getD 1 0) (words.getD i [])
def apartW (n : Int) (next pairs : List (List Int)) : Prop := 0 < pairs.length ∧
  ∀ i, i < pairs.length → pairs.getD i [] ∈ every n ∧ (0 < i → cmpL (pairs.getD (i - 1) []) (pairs.getD i []) < 0) ∧ ∀ l : Nat, l < next.length → imgL next (pairs.getD i []) [(l : Int)] ∈ pairs
open Classical in
noncomputable def mwB (n : Int) (next words : List (List Int)) : Bool := decide (mergeW n next words)
open Classical in
noncomputable def awB (n : Int) (next pairs : List (List Int)) : Bool := decide (apartW n next pairs)
theorem mwB_t {n : Int} {next words : List (List Int)} (h : mergeW n next words) : mwB n next words = true := by simp [mwB, h]
theorem mwB_f {n : Int} {next words : List (List Int)} (h : ¬ mergeW n next words) : mwB n next words = false := by simp [mwB, h]
theorem awB_t {n : Int} {next words : List (List Int)} (h : apartW n next words) : awB n next words = true := by simp [awB, h]
theorem awB_f {n : Int} {next words : List (List Int)} (h : ¬ apartW n next words) : awB n next words = false := by simp [awB, h]

theorem every_iff {n : Int} (hn : 0 ≤ n) {x : List Int} : x ∈ every n ↔ x.length = 2 ∧ setB n x = true := by
  rw [pairsL_mem hn, setB_iff]
  constructor
  · rintro ⟨a, b, h1, h2, h3, _, rfl⟩
    refine ⟨rfl, ?_, fun y hy => ?_⟩
    · simp [SI]; omega
    · simp at hy; omega
  · rintro ⟨h1, h2, h3⟩
    match x, h1, h2, h3 with
    | [a, b], _, h2, h3 =>
      have ha := h3 a (by simp)
      have hb := h3 b (by simp)
      have hab : a < b := by simpa [SI] using h2
      exact ⟨a, b, ha.1, hab, hb.2, rfl, rfl⟩

end Go.Ab
