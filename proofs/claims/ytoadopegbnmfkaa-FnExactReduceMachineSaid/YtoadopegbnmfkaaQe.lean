/- What the proofs of exact laws with an automaton as result have in common. Conditions: none. -/
import Derived.Test.YtoadopegbnmfkaaQc
import Derived.Test.YtoadopegbnmfkaaQd
set_option linter.all false
namespace Go.Ab
open Go.Proofs
set_option maxRecDepth 20000
set_option maxHeartbeats 2000000

theorem ws3 {ws : List (List Int)} (h1 : 1 ≤ ws.length) (h2 : ws.length ≤ 3) : (∃ a, ws = [a]) ∨ (∃ a b, ws = [a, b]) ∨ ∃ a b c, ws = [a, b, c] := by
  match ws, h1, h2 with
  | [a], _, _ => exact .inl ⟨a, rfl⟩
  | [a, b], _, _ => exact .inr (.inl ⟨a, b, rfl⟩)
  | [a, b, c], _, _ => exact .inr (.inr ⟨a, b, c, rfl⟩)
  | _ :: _ :: _ :: _ :: _, _, h => simp at h
  | [], h, _ => simp at h

theorem ints_ne {a : List Int} (h : a ≠ []) : ints a ≠ [] := fun e => h (by simpa using e)
theorem wo_any {n : Nat} : AVal.wo n .any = .any := by simp only [AVal.wo]
theorem rwp_cons {p : Nat} {x : List Int} {ps : List (Nat × List Int)} : rwp ((p, x) :: ps) = .ro (some (some (p + 1))) 1 (ints x) :: rwp ps := rfl
theorem rwn_cons {x : List Int} {xs : List (List Int)} : rwn (x :: xs) = .ro none 1 (ints x) :: rwn xs := rfl
theorem rwn_nil : rwn [] = [] := rfl

end Go.Ab
