/- Contracts: what is in a row; the states that are reached. Conditions: none. -/
import Derived.Test.YtoadopegbnmfkaaKr
import Derived.Test.YtoadopegbnmfkaaPb
set_option linter.all false
namespace Go.Ab
open Go.Proofs
set_option maxRecDepth 20000
set_option maxHeartbeats 1000000

theorem visK_drop (now : Int) (next : List (List Int)) {k : Nat} (hk : k < next.length) (l : List Int) : visK now (next.drop k) l = visK now (next.drop (k + 1)) (addL l ((next.getD k []).getD now.toNat 0)) := by
  rw [drop_getD hk []]; rfl

theorem nrm_contains {l : List Int} {x : Int} : (nrm l).contains x = l.contains x := by
  rw [Bool.eq_iff_iff, List.contains_iff_mem, List.contains_iff_mem, nrm_mem]

theorem bnd1 {σ : St} {n : Nat} {k : IntKind} : St.bound σ n (some (.c (.int k 1))) = some 1 := rfl
theorem bndN {σ : St} {n : Nat} : St.bound σ n none = some n := rfl

end Go.Ab
