/-
  No cell of these rows narrows 'for every input' (looked for: loops, veiled, ifaces, maps, wideKeys, modest, calm, conditions, laid).
  DERIVED. THE GIVEN ROWS OF THIS SEAT. 3 by the template 'for every input the law returns true; each argument reads behind the call as it read before'; 0 by the template 'total and deterministic' (their statements: YtooaiipmcegplaaTotals.lean).
  GIVEN WITH THE SEED: the statements are not yours to turn. If you find one false, say at which input.
  Laid BY PROGRAM, IN A SANDBOX (cutbox-rows.mjs): the forced cells as the released guide's own fill.sh prints them over the translation a2aef13a948cebed… (all of the seat's roots in one cut). By AI agents, Wed Nov 11 2026. No macro, syntax, notation, axiom, sorry.
-/
import Derived.Test.YtooaiipmcegplaaChecked
import GoSem.Claim
import GoSem.ClaimJoined
import GoSem.ClaimMapViews
import Derived.JoinedTies
import Derived.KernelRfl
namespace Go.Proofs.Ytooaiipmcegplaa
/- THE CELL 'sum', in the pinned program and in every row, IS THE sha256 OF THE DUMP (.gsa) THAT YtooaiipmcegplaaProg.lean LOADS. Nothing in Lean hashes anything: it is a label: what it is worth is what the hold of that sum in a sandbox is worth. -/
noncomputable def Try.pinned : Pinned := { name := "ytooaiipmcegplaa", sum := "a2aef13a948cebed6b30c814d01a3f3b1be9d7251822ea20870ef651d9aed25d", checked := Try.checked }
namespace Rows
def none {H : Type} : Left H := { results := [], args := [] }

/-- 'laws.FnExactWeightsOf': WHATEVER THE INPUT: true; the input reads as it did. -/
def fnExactWeightsOfSpec : ChangeSpec := { name := "fnExactWeightsOf", fn := fun _ => fun
  | [d] => { results := [.lit (.bool true)], args := [d] }
  | _ => none }
def fnExactWeightsOfRow : OpenClaim := { program := "ytooaiipmcegplaa", sum := "a2aef13a948cebed6b30c814d01a3f3b1be9d7251822ea20870ef651d9aed25d", func := "loop.example/g01102/laws.FnExactWeightsOf", spec := "fnExactWeightsOf", unfollowed := true, recurses := true, apart := false }
def FnExactWeightsOfSaid : Prop := fnExactWeightsOfRow.holds Try.pinned (OpenSpec.ofChange fnExactWeightsOfSpec)

/-- ITS FALSE NEIGHBOUR: 'it returns false'. Refute it at one input. -/
def fnExactWeightsOfWrong : ChangeSpec := { name := "fnExactWeightsOf", fn := fun _ => fun
  | [d] => { results := [.lit (.bool false)], args := [d] }
  | _ => none }
def FnExactWeightsOfWrongFalsely : Prop := fnExactWeightsOfRow.holds Try.pinned (OpenSpec.ofChange fnExactWeightsOfWrong)

/-- 'laws.FnExactWeightOfSet': WHATEVER THE INPUT: true; the input reads as it did. -/
def fnExactWeightOfSetSpec : ChangeSpec := { name := "fnExactWeightOfSet", fn := fun _ => fun
  | [d1, d2] => { results := [.lit (.bool true)], args := [d1, d2] }
  | _ => none }
def fnExactWeightOfSetRow : OpenClaim := { program := "ytooaiipmcegplaa", sum := "a2aef13a948cebed6b30c814d01a3f3b1be9d7251822ea20870ef651d9aed25d", func := "loop.example/g01102/laws.FnExactWeightOfSet", spec := "fnExactWeightOfSet", unfollowed := true, recurses := true, apart := false }
def FnExactWeightOfSetSaid : Prop := fnExactWeightOfSetRow.holds Try.pinned (OpenSpec.ofChange fnExactWeightOfSetSpec)

/-- ITS FALSE NEIGHBOUR: 'it returns false'. Refute it at one input. -/
def fnExactWeightOfSetWrong : ChangeSpec := { name := "fnExactWeightOfSet", fn := fun _ => fun
  | [d1, d2] => { results := [.lit (.bool false)], args := [d1, d2] }
  | _ => none }
def FnExactWeightOfSetWrongFalsely : Prop := fnExactWeightOfSetRow.holds Try.pinned (OpenSpec.ofChange fnExactWeightOfSetWrong)

/-- 'laws.FnExactExtendWord': WHATEVER THE INPUT: true; the input reads as it did. -/
def fnExactExtendWordSpec : ChangeSpec := { name := "fnExactExtendWord", fn := fun _ => fun
  | [d1, d2] => { results := [.lit (.bool true)], args := [d1, d2] }
  | _ => none }
def fnExactExtendWordRow : OpenClaim := { program := "ytooaiipmcegplaa", sum := "a2aef13a948cebed6b30c814d01a3f3b1be9d7251822ea20870ef651d9aed25d", func := "loop.example/g01102/laws.FnExactExtendWord", spec := "fnExactExtendWord", unfollowed := true, recurses := true, apart := false }
def FnExactExtendWordSaid : Prop := fnExactExtendWordRow.holds Try.pinned (OpenSpec.ofChange fnExactExtendWordSpec)

/-- ITS FALSE NEIGHBOUR: 'it returns false'. Refute it at one input. -/
def fnExactExtendWordWrong : ChangeSpec := { name := "fnExactExtendWord", fn := fun _ => fun
  | [d1, d2] => { results := [.lit (.bool false)], args := [d1, d2] }
  | _ => none }
def FnExactExtendWordWrongFalsely : Prop := fnExactExtendWordRow.holds Try.pinned (OpenSpec.ofChange fnExactExtendWordWrong)

/- THE SECOND FORM. 'bulk': how many values and letters a reading holds, each counted each time it is reached (what is shared counts as often as it is met; a slice's spare places count too). A statement '..UptoSaid' is the law's where the arguments, and the package variables that the reading takes, are together of bulk at most 1048576: NARROWER than '..Said'. Prove '..Said' where nothing that the law and all that it calls make is longer than what came in: it says more and counts as full. Else prove '..UptoSaid'. A law counts once. -/
mutual
def uptoBulk {H : Type} : DataW H → Nat
  | .lit (.string bytes) => bytes.length + 1
  | .lit _ => 1
  | .nil => 1
  | .ptr d => uptoBulk d + 1
  | .slice elems spare => uptoBulkAll elems + uptoBulkAll spare + 1
  | .agg parts => uptoBulkAll parts + 1
  | .iface _ d => uptoBulk d + 1
  | .map entries => uptoBulkEntries entries + 1
  | .held _ => 1
def uptoBulkAll {H : Type} : List (DataW H) → Nat
  | [] => 0
  | d :: r => uptoBulk d + uptoBulkAll r
def uptoBulkEntries {H : Type} : List (Lit × DataW H) → Nat
  | [] => 0
  | x :: r => uptoBulkEntry x + uptoBulkEntries r
def uptoBulkEntry {H : Type} : Lit × DataW H → Nat
  | (.string bytes, d) => bytes.length + uptoBulk d + 1
  | (_, d) => uptoBulk d + 1
 end
def uptoSmall : (H : Type) → List (DataW H) → Bool := fun _ ds => decide (uptoBulkAll ds ≤ 1048576)
def OpenSpec.upto (s : _root_.Go.ChangeSpec) : _root_.Go.OpenSpec := { _root_.Go.OpenSpec.ofChange s with cond := some uptoSmall }

/-- 'laws.FnExactWeightsOf', WHERE WHAT IT READS IS OF BULK AT MOST 1048576: true; the input reads as it did. -/
def fnExactWeightsOfUptoRow : OpenClaim := { program := "ytooaiipmcegplaa", sum := "a2aef13a948cebed6b30c814d01a3f3b1be9d7251822ea20870ef651d9aed25d", func := "loop.example/g01102/laws.FnExactWeightsOf", spec := "fnExactWeightsOf", unfollowed := true, recurses := true, apart := false, narrowed := true }
def FnExactWeightsOfUptoSaid : Prop := fnExactWeightsOfUptoRow.holds Try.pinned (OpenSpec.upto fnExactWeightsOfSpec)

/-- 'laws.FnExactWeightOfSet', WHERE WHAT IT READS IS OF BULK AT MOST 1048576: true; the input reads as it did. -/
def fnExactWeightOfSetUptoRow : OpenClaim := { program := "ytooaiipmcegplaa", sum := "a2aef13a948cebed6b30c814d01a3f3b1be9d7251822ea20870ef651d9aed25d", func := "loop.example/g01102/laws.FnExactWeightOfSet", spec := "fnExactWeightOfSet", unfollowed := true, recurses := true, apart := false, narrowed := true }
def FnExactWeightOfSetUptoSaid : Prop := fnExactWeightOfSetUptoRow.holds Try.pinned (OpenSpec.upto fnExactWeightOfSetSpec)

/-- 'laws.FnExactExtendWord', WHERE WHAT IT READS IS OF BULK AT MOST 1048576: true; the input reads as it did. -/
def fnExactExtendWordUptoRow : OpenClaim := { program := "ytooaiipmcegplaa", sum := "a2aef13a948cebed6b30c814d01a3f3b1be9d7251822ea20870ef651d9aed25d", func := "loop.example/g01102/laws.FnExactExtendWord", spec := "fnExactExtendWord", unfollowed := true, recurses := true, apart := false, narrowed := true }
def FnExactExtendWordUptoSaid : Prop := fnExactExtendWordUptoRow.holds Try.pinned (OpenSpec.upto fnExactExtendWordSpec)

end Rows
end Go.Proofs.Ytooaiipmcegplaa
