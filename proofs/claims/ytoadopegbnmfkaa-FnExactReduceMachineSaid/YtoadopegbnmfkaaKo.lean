/- Contracts: sets, images and ranks of words. Conditions: none. -/
import Derived.Test.YtoadopegbnmfkaaKn
set_option linter.all false
namespace Go.Ab
open Go.Proofs
set_option maxRecDepth 20000
set_option maxHeartbeats 1000000

instance (l : List Int) : Decidable (SI l) := inferInstanceAs (Decidable (l.Pairwise (· < ·)))

theorem SI_len {n : Int} : ∀ {set : List Int}, SI set → (∀ x ∈ set, 0 ≤ x ∧ x < n) → (set.length : Int) ≤ n ∨ set = []
  | set, h, hx => by
    by_cases h0 : set = []
    · exact .inr h0
    left
    -- the numbers lie one above the other
    have key : ∀ i, i < set.length → (i : Int) ≤ set.getD i 0 := by
      intro i
      induction i with
      | zero =>
        intro hi
        exact (hx _ (getD_mem hi 0)).1
      | succ i ih =>
        intro hi
        have h1 := ih (by omega)
        unfold SI at h
        rw [List.pairwise_iff_getElem] at h
        have h2 := h i (i + 1) (by omega) hi (by omega)
        have e1 : set.getD i 0 = set[i] := by rw [List.getD_eq_getElem?_getD, List.getElem?_eq_getElem (by omega)]; rfl
        have e2 : set.getD (i + 1) 0 = set[i + 1] := by rw [List.getD_eq_getElem?_getD, List.getElem?_eq_getElem hi]; rfl
        rw [e1] at h1; rw [e2]; omega
    have hp : 0 < set.length := List.length_pos_iff.2 h0
    have h1 := key (set.length - 1) (by omega)
    have h2 := (hx _ (getD_mem (show set.length - 1 < set.length by omega) 0)).2
    omega

end Go.Ab
