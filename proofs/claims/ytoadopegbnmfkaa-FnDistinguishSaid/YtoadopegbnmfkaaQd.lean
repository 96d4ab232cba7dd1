/- Contracts: RenumberStates. Conditions: none. -/
import Derived.Test.YtoadopegbnmfkaaQb
set_option linter.all false
namespace Go.Ab
open Go.Proofs
set_option maxRecDepth 20000
set_option maxHeartbeats 2000000

/-- A function that gives an automaton whose rows have names, and a code, or an empty one. -/
abbrev NamR (P : Program) (g : FuncId) (args : List AVal) (ok : Bool) (m : Int) (xss : List (List Int)) (code : Int) : Prop := Fn P g args fun rows res =>
  if ok = true then ∃ v ps, rows = [.row v 1 true (rwp ps)] ∧ ps.map (·.2) = xss ∧ DJ ps ∧ res = .tup [.st [iv m, .own 6000 v], iv code] else rows = [] ∧ res = .tup [.st [iv 0, nilS], iv code]

end Go.Ab
