/-
  NARROWER THAN 'FOR EVERY INPUT', by the rows' own cells (each row's printed sentence says how): FnExactCheckTree: loops.
  DERIVED. THE GIVEN ROWS OF THIS SEAT. 5 by the template 'for every input the law returns true; each argument reads behind the call as it read before'; 0 by the template 'total and deterministic' (their statements: YtgcbdccnhkfjoaaTotals.lean).
  GIVEN WITH THE SEED: the statements are not yours to turn. If you find one false, say at which input.
  Laid BY PROGRAM, IN A SANDBOX (cutbox-rows.mjs): the forced cells as the released guide's own fill.sh prints them over the translation 87ee63068228ef83… (all of the seat's roots in one cut). By AI agents, Wed Nov 11 2026. No macro, syntax, notation, axiom, sorry.
-/
import Derived.Test.YtgcbdccnhkfjoaaChecked
import GoSem.Claim
import GoSem.ClaimJoined
import GoSem.ClaimMapViews
import Derived.JoinedTies
import Derived.KernelRfl
namespace Go.Proofs.Ytgcbdccnhkfjoaa
/- THE CELL 'sum', in the pinned program and in every row, IS THE sha256 OF THE DUMP (.gsa) THAT YtgcbdccnhkfjoaaProg.lean LOADS. Nothing in Lean hashes anything: it is a label: what it is worth is what the hold of that sum in a sandbox is worth. -/
noncomputable def Try.pinned : Pinned := { name := "ytgcbdccnhkfjoaa", sum := "87ee63068228ef8338f03a4ac9a31a4a40016b398ed4450b88c98bf7e7431641", checked := Try.checked }
namespace Rows
def none {H : Type} : Left H := { results := [], args := [] }

/-- 'laws.FnSlow': WHATEVER THE INPUT: true; the input reads as it did. -/
def fnSlowSpec : ChangeSpec := { name := "fnSlow", fn := fun _ => fun
  | [d1, d2] => { results := [.lit (.bool true)], args := [d1, d2] }
  | _ => none }
def fnSlowRow : OpenClaim := { program := "ytgcbdccnhkfjoaa", sum := "87ee63068228ef8338f03a4ac9a31a4a40016b398ed4450b88c98bf7e7431641", func := "loop.example/g01102/laws.FnSlow", spec := "fnSlow", unfollowed := true, recurses := true, apart := false }
def FnSlowSaid : Prop := fnSlowRow.holds Try.pinned (OpenSpec.ofChange fnSlowSpec)

/-- ITS FALSE NEIGHBOUR: 'it returns false'. Refute it at one input. -/
def fnSlowWrong : ChangeSpec := { name := "fnSlow", fn := fun _ => fun
  | [d1, d2] => { results := [.lit (.bool false)], args := [d1, d2] }
  | _ => none }
def FnSlowWrongFalsely : Prop := fnSlowRow.holds Try.pinned (OpenSpec.ofChange fnSlowWrong)

/-- 'laws.FnReset': WHATEVER THE INPUT: true; the input reads as it did. -/
def fnResetSpec : ChangeSpec := { name := "fnReset", fn := fun _ => fun
  | [d1, d2] => { results := [.lit (.bool true)], args := [d1, d2] }
  | _ => none }
def fnResetRow : OpenClaim := { program := "ytgcbdccnhkfjoaa", sum := "87ee63068228ef8338f03a4ac9a31a4a40016b398ed4450b88c98bf7e7431641", func := "loop.example/g01102/laws.FnReset", spec := "fnReset", unfollowed := true, recurses := true, apart := false }
def FnResetSaid : Prop := fnResetRow.holds Try.pinned (OpenSpec.ofChange fnResetSpec)

/-- ITS FALSE NEIGHBOUR: 'it returns false'. Refute it at one input. -/
def fnResetWrong : ChangeSpec := { name := "fnReset", fn := fun _ => fun
  | [d1, d2] => { results := [.lit (.bool false)], args := [d1, d2] }
  | _ => none }
def FnResetWrongFalsely : Prop := fnResetRow.holds Try.pinned (OpenSpec.ofChange fnResetWrong)

/-- 'laws.FnExactPairAutomaton': WHATEVER THE INPUT: true; the input reads as it did. -/
def fnExactPairAutomatonSpec : ChangeSpec := { name := "fnExactPairAutomaton", fn := fun _ => fun
  | [d] => { results := [.lit (.bool true)], args := [d] }
  | _ => none }
def fnExactPairAutomatonRow : OpenClaim := { program := "ytgcbdccnhkfjoaa", sum := "87ee63068228ef8338f03a4ac9a31a4a40016b398ed4450b88c98bf7e7431641", func := "loop.example/g01102/laws.FnExactPairAutomaton", spec := "fnExactPairAutomaton", unfollowed := true, recurses := true, apart := false }
def FnExactPairAutomatonSaid : Prop := fnExactPairAutomatonRow.holds Try.pinned (OpenSpec.ofChange fnExactPairAutomatonSpec)

/-- ITS FALSE NEIGHBOUR: 'it returns false'. Refute it at one input. -/
def fnExactPairAutomatonWrong : ChangeSpec := { name := "fnExactPairAutomaton", fn := fun _ => fun
  | [d] => { results := [.lit (.bool false)], args := [d] }
  | _ => none }
def FnExactPairAutomatonWrongFalsely : Prop := fnExactPairAutomatonRow.holds Try.pinned (OpenSpec.ofChange fnExactPairAutomatonWrong)

/-- 'laws.FnActions': WHATEVER THE INPUT: true; the input reads as it did. -/
def fnActionsSpec : ChangeSpec := { name := "fnActions", fn := fun _ => fun
  | [d1, d2] => { results := [.lit (.bool true)], args := [d1, d2] }
  | _ => none }
def fnActionsRow : OpenClaim := { program := "ytgcbdccnhkfjoaa", sum := "87ee63068228ef8338f03a4ac9a31a4a40016b398ed4450b88c98bf7e7431641", func := "loop.example/g01102/laws.FnActions", spec := "fnActions", unfollowed := true, recurses := true, apart := false }
def FnActionsSaid : Prop := fnActionsRow.holds Try.pinned (OpenSpec.ofChange fnActionsSpec)

/-- ITS FALSE NEIGHBOUR: 'it returns false'. Refute it at one input. -/
def fnActionsWrong : ChangeSpec := { name := "fnActions", fn := fun _ => fun
  | [d1, d2] => { results := [.lit (.bool false)], args := [d1, d2] }
  | _ => none }
def FnActionsWrongFalsely : Prop := fnActionsRow.holds Try.pinned (OpenSpec.ofChange fnActionsWrong)

/-- 'laws.FnExactCheckTree': WHATEVER THE INPUT: true; the input reads as it did. -/
def fnExactCheckTreeSpec : ChangeSpec := { name := "fnExactCheckTree", fn := fun _ => fun
  | [d1, d2, d3] => { results := [.lit (.bool true)], args := [d1, d2, d3] }
  | _ => none }
def fnExactCheckTreeRow : OpenClaim := { program := "ytgcbdccnhkfjoaa", sum := "87ee63068228ef8338f03a4ac9a31a4a40016b398ed4450b88c98bf7e7431641", func := "loop.example/g01102/laws.FnExactCheckTree", spec := "fnExactCheckTree", unfollowed := true, recurses := true, loops := true, apart := false }
def FnExactCheckTreeSaid : Prop := fnExactCheckTreeRow.holds Try.pinned (OpenSpec.ofChange fnExactCheckTreeSpec)

/-- ITS FALSE NEIGHBOUR: 'it returns false'. Refute it at one input. -/
def fnExactCheckTreeWrong : ChangeSpec := { name := "fnExactCheckTree", fn := fun _ => fun
  | [d1, d2, d3] => { results := [.lit (.bool false)], args := [d1, d2, d3] }
  | _ => none }
def FnExactCheckTreeWrongFalsely : Prop := fnExactCheckTreeRow.holds Try.pinned (OpenSpec.ofChange fnExactCheckTreeWrong)

/- THE SECOND FORM. 'bulk': how many values and letters a reading holds, each counted each time it is reached (what is shared counts as often as it is met; a slice's spare places count too). A statement '..UptoSaid' is the law's where the arguments, and the package variables that the reading takes, are together of bulk at most 1048576: NARROWER than '..Said'. Prove '..Said' where nothing that the law and all that it calls make is longer than what came in: it says more and counts as full. Else prove '..UptoSaid'. A law counts once. -/
mutual
def uptoBulk {H : Type} : DataW H → Nat
  | .lit (.string bytes) => bytes.length + 1
  | .lit _ => 1
  | .nil => 1
  | .ptr d => uptoBulk d + 1
  | .slice elems spare => uptoBulkAll elems + uptoBulkAll spare + 1
  | .agg parts => uptoBulkAll parts + 1
  | .iface _ d => uptoBulk d + 1
  | .map entries => uptoBulkEntries entries + 1
  | .held _ => 1
def uptoBulkAll {H : Type} : List (DataW H) → Nat
  | [] => 0
  | d :: r => uptoBulk d + uptoBulkAll r
def uptoBulkEntries {H : Type} : List (Lit × DataW H) → Nat
  | [] => 0
  | x :: r => uptoBulkEntry x + uptoBulkEntries r
def uptoBulkEntry {H : Type} : Lit × DataW H → Nat
  | (.string bytes, d) => bytes.length + uptoBulk d + 1
  | (_, d) => uptoBulk d + 1
 end
def uptoSmall : (H : Type) → List (DataW H) → Bool := fun _ ds => decide (uptoBulkAll ds ≤ 1048576)
def OpenSpec.upto (s : _root_.Go.ChangeSpec) : _root_.Go.OpenSpec := { _root_.Go.OpenSpec.ofChange s with cond := some uptoSmall }

/-- 'laws.FnSlow', WHERE WHAT IT READS IS OF BULK AT MOST 1048576: true; the input reads as it did. -/
def fnSlowUptoRow : OpenClaim := { program := "ytgcbdccnhkfjoaa", sum := "87ee63068228ef8338f03a4ac9a31a4a40016b398ed4450b88c98bf7e7431641", func := "loop.example/g01102/laws.FnSlow", spec := "fnSlow", unfollowed := true, recurses := true, apart := false, narrowed := true }
def FnSlowUptoSaid : Prop := fnSlowUptoRow.holds Try.pinned (OpenSpec.upto fnSlowSpec)

/-- 'laws.FnReset', WHERE WHAT IT READS IS OF BULK AT MOST 1048576: true; the input reads as it did. -/
def fnResetUptoRow : OpenClaim := { program := "ytgcbdccnhkfjoaa", sum := "87ee63068228ef8338f03a4ac9a31a4a40016b398ed4450b88c98bf7e7431641", func := "loop.example/g01102/laws.FnReset", spec := "fnReset", unfollowed := true, recurses := true, apart := false, narrowed := true }
def FnResetUptoSaid : Prop := fnResetUptoRow.holds Try.pinned (OpenSpec.upto fnResetSpec)

/-- 'laws.FnExactPairAutomaton', WHERE WHAT IT READS IS OF BULK AT MOST 1048576: true; the input reads as it did. -/
def fnExactPairAutomatonUptoRow : OpenClaim := { program := "ytgcbdccnhkfjoaa", sum := "87ee63068228ef8338f03a4ac9a31a4a40016b398ed4450b88c98bf7e7431641", func := "loop.example/g01102/laws.FnExactPairAutomaton", spec := "fnExactPairAutomaton", unfollowed := true, recurses := true, apart := false, narrowed := true }
def FnExactPairAutomatonUptoSaid : Prop := fnExactPairAutomatonUptoRow.holds Try.pinned (OpenSpec.upto fnExactPairAutomatonSpec)

/-- 'laws.FnActions', WHERE WHAT IT READS IS OF BULK AT MOST 1048576: true; the input reads as it did. -/
def fnActionsUptoRow : OpenClaim := { program := "ytgcbdccnhkfjoaa", sum := "87ee63068228ef8338f03a4ac9a31a4a40016b398ed4450b88c98bf7e7431641", func := "loop.example/g01102/laws.FnActions", spec := "fnActions", unfollowed := true, recurses := true, apart := false, narrowed := true }
def FnActionsUptoSaid : Prop := fnActionsUptoRow.holds Try.pinned (OpenSpec.upto fnActionsSpec)

/-- 'laws.FnExactCheckTree', WHERE WHAT IT READS IS OF BULK AT MOST 1048576: true; the input reads as it did. -/
def fnExactCheckTreeUptoRow : OpenClaim := { program := "ytgcbdccnhkfjoaa", sum := "87ee63068228ef8338f03a4ac9a31a4a40016b398ed4450b88c98bf7e7431641", func := "loop.example/g01102/laws.FnExactCheckTree", spec := "fnExactCheckTree", unfollowed := true, recurses := true, loops := true, apart := false, narrowed := true }
def FnExactCheckTreeUptoSaid : Prop := fnExactCheckTreeUptoRow.holds Try.pinned (OpenSpec.upto fnExactCheckTreeSpec)

end Rows
end Go.Proofs.Ytgcbdccnhkfjoaa
