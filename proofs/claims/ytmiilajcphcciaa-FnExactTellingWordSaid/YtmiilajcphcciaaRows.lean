/-
  No cell of these rows narrows 'for every input' (looked for: loops, veiled, ifaces, maps, wideKeys, modest, calm, conditions, laid).
  DERIVED. THE GIVEN ROWS OF THIS SEAT. 3 by the template 'for every input the law returns true; each argument reads behind the call as it read before'; 0 by the template 'total and deterministic' (their statements: YtmiilajcphcciaaTotals.lean).
  GIVEN WITH THE SEED: the statements are not yours to turn. If you find one false, say at which input.
  Laid BY PROGRAM, IN A SANDBOX (cutbox-rows.mjs): the forced cells as the released guide's own fill.sh prints them over the translation bcd62e6e9df5275a… (all of the seat's roots in one cut). By AI agents, Wed Nov 11 2026. No macro, syntax, notation, axiom, sorry.
-/
import Derived.Test.YtmiilajcphcciaaChecked
import GoSem.Claim
import GoSem.ClaimJoined
import GoSem.ClaimMapViews
import Derived.JoinedTies
import Derived.KernelRfl
namespace Go.Proofs.Ytmiilajcphcciaa
/- THE CELL 'sum', in the pinned program and in every row, IS THE sha256 OF THE DUMP (.gsa) THAT YtmiilajcphcciaaProg.lean LOADS. Nothing in Lean hashes anything: it is a label: what it is worth is what the hold of that sum in a sandbox is worth. -/
noncomputable def Try.pinned : Pinned := { name := "ytmiilajcphcciaa", sum := "bcd62e6e9df5275ad6fb68cab39c5a6890cc07b86b295a265e6b2e974565c6df", checked := Try.checked }
namespace Rows
def none {H : Type} : Left H := { results := [], args := [] }

/-- 'laws.FnHoming': WHATEVER THE INPUT: true; the input reads as it did. -/
def fnHomingSpec : ChangeSpec := { name := "fnHoming", fn := fun _ => fun
  | [d1, d2] => { results := [.lit (.bool true)], args := [d1, d2] }
  | _ => none }
def fnHomingRow : OpenClaim := { program := "ytmiilajcphcciaa", sum := "bcd62e6e9df5275ad6fb68cab39c5a6890cc07b86b295a265e6b2e974565c6df", func := "loop.example/g01102/laws.FnHoming", spec := "fnHoming", unfollowed := true, recurses := true, apart := false }
def FnHomingSaid : Prop := fnHomingRow.holds Try.pinned (OpenSpec.ofChange fnHomingSpec)

/-- ITS FALSE NEIGHBOUR: 'it returns false'. Refute it at one input. -/
def fnHomingWrong : ChangeSpec := { name := "fnHoming", fn := fun _ => fun
  | [d1, d2] => { results := [.lit (.bool false)], args := [d1, d2] }
  | _ => none }
def FnHomingWrongFalsely : Prop := fnHomingRow.holds Try.pinned (OpenSpec.ofChange fnHomingWrong)

/-- 'laws.FnExactHomingWord': WHATEVER THE INPUT: true; the input reads as it did. -/
def fnExactHomingWordSpec : ChangeSpec := { name := "fnExactHomingWord", fn := fun _ => fun
  | [d] => { results := [.lit (.bool true)], args := [d] }
  | _ => none }
def fnExactHomingWordRow : OpenClaim := { program := "ytmiilajcphcciaa", sum := "bcd62e6e9df5275ad6fb68cab39c5a6890cc07b86b295a265e6b2e974565c6df", func := "loop.example/g01102/laws.FnExactHomingWord", spec := "fnExactHomingWord", unfollowed := true, recurses := true, apart := false }
def FnExactHomingWordSaid : Prop := fnExactHomingWordRow.holds Try.pinned (OpenSpec.ofChange fnExactHomingWordSpec)

/-- ITS FALSE NEIGHBOUR: 'it returns false'. Refute it at one input. -/
def fnExactHomingWordWrong : ChangeSpec := { name := "fnExactHomingWord", fn := fun _ => fun
  | [d] => { results := [.lit (.bool false)], args := [d] }
  | _ => none }
def FnExactHomingWordWrongFalsely : Prop := fnExactHomingWordRow.holds Try.pinned (OpenSpec.ofChange fnExactHomingWordWrong)

/-- 'laws.FnExactTellingWord': WHATEVER THE INPUT: true; the input reads as it did. -/
def fnExactTellingWordSpec : ChangeSpec := { name := "fnExactTellingWord", fn := fun _ => fun
  | [d] => { results := [.lit (.bool true)], args := [d] }
  | _ => none }
def fnExactTellingWordRow : OpenClaim := { program := "ytmiilajcphcciaa", sum := "bcd62e6e9df5275ad6fb68cab39c5a6890cc07b86b295a265e6b2e974565c6df", func := "loop.example/g01102/laws.FnExactTellingWord", spec := "fnExactTellingWord", unfollowed := true, recurses := true, apart := false }
def FnExactTellingWordSaid : Prop := fnExactTellingWordRow.holds Try.pinned (OpenSpec.ofChange fnExactTellingWordSpec)

/-- ITS FALSE NEIGHBOUR: 'it returns false'. Refute it at one input. -/
def fnExactTellingWordWrong : ChangeSpec := { name := "fnExactTellingWord", fn := fun _ => fun
  | [d] => { results := [.lit (.bool false)], args := [d] }
  | _ => none }
def FnExactTellingWordWrongFalsely : Prop := fnExactTellingWordRow.holds Try.pinned (OpenSpec.ofChange fnExactTellingWordWrong)

/- THE SECOND FORM. 'bulk': how many values and letters a reading holds, each counted each time it is reached (what is shared counts as often as it is met; a slice's spare places count too). A statement '..UptoSaid' is the law's where the arguments, and the package variables that the reading takes, are together of bulk at most 1048576: NARROWER than '..Said'. Prove '..Said' where nothing that the law and all that it calls make is longer than what came in: it says more and counts as full. Else prove '..UptoSaid'. A law counts once. -/
mutual
def uptoBulk {H : Type} : DataW H → Nat
  | .lit (.string bytes) => bytes.length + 1
  | .lit _ => 1
  | .nil => 1
  | .ptr d => uptoBulk d + 1
  | .slice elems spare => uptoBulkAll elems + uptoBulkAll spare + 1
  | .agg parts => uptoBulkAll parts + 1
  | .iface _ d => uptoBulk d + 1
  | .map entries => uptoBulkEntries entries + 1
  | .held _ => 1
def uptoBulkAll {H : Type} : List (DataW H) → Nat
  | [] => 0
  | d :: r => uptoBulk d + uptoBulkAll r
def uptoBulkEntries {H : Type} : List (Lit × DataW H) → Nat
  | [] => 0
  | x :: r => uptoBulkEntry x + uptoBulkEntries r
def uptoBulkEntry {H : Type} : Lit × DataW H → Nat
  | (.string bytes, d) => bytes.length + uptoBulk d + 1
  | (_, d) => uptoBulk d + 1
 end
def uptoSmall : (H : Type) → List (DataW H) → Bool := fun _ ds => decide (uptoBulkAll ds ≤ 1048576)
def OpenSpec.upto (s : _root_.Go.ChangeSpec) : _root_.Go.OpenSpec := { _root_.Go.OpenSpec.ofChange s with cond := some uptoSmall }

/-- 'laws.FnHoming', WHERE WHAT IT READS IS OF BULK AT MOST 1048576: true; the input reads as it did. -/
def fnHomingUptoRow : OpenClaim := { program := "ytmiilajcphcciaa", sum := "bcd62e6e9df5275ad6fb68cab39c5a6890cc07b86b295a265e6b2e974565c6df", func := "loop.example/g01102/laws.FnHoming", spec := "fnHoming", unfollowed := true, recurses := true, apart := false, narrowed := true }
def FnHomingUptoSaid : Prop := fnHomingUptoRow.holds Try.pinned (OpenSpec.upto fnHomingSpec)

/-- 'laws.FnExactHomingWord', WHERE WHAT IT READS IS OF BULK AT MOST 1048576: true; the input reads as it did. -/
def fnExactHomingWordUptoRow : OpenClaim := { program := "ytmiilajcphcciaa", sum := "bcd62e6e9df5275ad6fb68cab39c5a6890cc07b86b295a265e6b2e974565c6df", func := "loop.example/g01102/laws.FnExactHomingWord", spec := "fnExactHomingWord", unfollowed := true, recurses := true, apart := false, narrowed := true }
def FnExactHomingWordUptoSaid : Prop := fnExactHomingWordUptoRow.holds Try.pinned (OpenSpec.upto fnExactHomingWordSpec)

/-- 'laws.FnExactTellingWord', WHERE WHAT IT READS IS OF BULK AT MOST 1048576: true; the input reads as it did. -/
def fnExactTellingWordUptoRow : OpenClaim := { program := "ytmiilajcphcciaa", sum := "bcd62e6e9df5275ad6fb68cab39c5a6890cc07b86b295a265e6b2e974565c6df", func := "loop.example/g01102/laws.FnExactTellingWord", spec := "fnExactTellingWord", unfollowed := true, recurses := true, apart := false, narrowed := true }
def FnExactTellingWordUptoSaid : Prop := fnExactTellingWordUptoRow.holds Try.pinned (OpenSpec.upto fnExactTellingWordSpec)

end Rows
end Go.Proofs.Ytmiilajcphcciaa
