/- Contracts: automata with their states in another order. Conditions: none. -/
import Derived.Test.YtoadopegbnmfkaaQa
set_option linter.all false
namespace Go.Ab
open Go.Proofs
set_option maxRecDepth 20000
set_option maxHeartbeats 2000000

/-- A row with the states in another order. -/
def renR (order row : List Int) : List Int := order.map fun s => fidx (fun y => row.getD s.toNat 0 == y) order 0
theorem renR_snoc {order row : List Int} {j : Nat} (h : j < order.length) : ((order.take j).map fun s => fidx (fun y => row.getD s.toNat 0 == y) order 0) ++ [fidx (fun y => row.getD (order.getD j 0).toNat 0 == y) order 0] = (order.take (j + 1)).map fun s => fidx (fun y => row.getD s.toNat 0 == y) order 0 := by
  rw [List.take_succ_eq_append_getElem h, List.map_append, show order.getD j 0 = order[j] by rw [List.getD_eq_getElem?_getD, List.getElem?_eq_getElem h]; rfl]; rfl

/-- An automaton of the call's own, whose rows have names. -/
abbrev NamA (P : Program) (g : FuncId) (args : List AVal) (m : Int) (xss : List (List Int)) : Prop := Fn P g args fun rows res => ∃ v ps, rows = [.row v 1 true (rwp ps)] ∧ ps.map (·.2) = xss ∧ DJ ps ∧ res = .st [iv m, .own 6000 v]

end Go.Ab
