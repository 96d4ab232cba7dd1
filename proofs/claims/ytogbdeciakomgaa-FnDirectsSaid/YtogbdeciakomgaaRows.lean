/-
  No cell of these rows narrows 'for every input' (looked for: loops, veiled, ifaces, maps, wideKeys, modest, calm, conditions, laid).
  DERIVED. THE GIVEN ROWS OF THIS SEAT. 2 by the template 'for every input the law returns true; each argument reads behind the call as it read before'; 0 by the template 'total and deterministic' (their statements: YtogbdeciakomgaaTotals.lean).
  GIVEN WITH THE SEED: the statements are not yours to turn. If you find one false, say at which input.
  Laid BY PROGRAM, IN A SANDBOX (cutbox-rows.mjs): the forced cells as the released guide's own fill.sh prints them over the translation 59c3eddc56966566… (all of the seat's roots in one cut). By AI agents, Wed Nov 11 2026. No macro, syntax, notation, axiom, sorry.
-/
import Derived.Test.YtogbdeciakomgaaChecked
import GoSem.Claim
import GoSem.ClaimJoined
import GoSem.ClaimMapViews
import Derived.JoinedTies
import Derived.KernelRfl
namespace Go.Proofs.Ytogbdeciakomgaa
/- THE CELL 'sum', in the pinned program and in every row, IS THE sha256 OF THE DUMP (.gsa) THAT YtogbdeciakomgaaProg.lean LOADS. Nothing in Lean hashes anything: it is a label: what it is worth is what the hold of that sum in a sandbox is worth. -/
noncomputable def Try.pinned : Pinned := { name := "ytogbdeciakomgaa", sum := "59c3eddc5696656670b12252d1759bba6a0b47dca0ee901766945f6e657f5736", checked := Try.checked }
namespace Rows
def none {H : Type} : Left H := { results := [], args := [] }

/-- 'laws.FnDirects': WHATEVER THE INPUT: true; the input reads as it did. -/
def fnDirectsSpec : ChangeSpec := { name := "fnDirects", fn := fun _ => fun
  | [d1, d2] => { results := [.lit (.bool true)], args := [d1, d2] }
  | _ => none }
def fnDirectsRow : OpenClaim := { program := "ytogbdeciakomgaa", sum := "59c3eddc5696656670b12252d1759bba6a0b47dca0ee901766945f6e657f5736", func := "loop.example/g01102/laws.FnDirects", spec := "fnDirects", unfollowed := true, recurses := true, plainKeys := false, apart := false }
def FnDirectsSaid : Prop := fnDirectsRow.holds Try.pinned (OpenSpec.ofChange fnDirectsSpec)

/-- ITS FALSE NEIGHBOUR: 'it returns false'. Refute it at one input. -/
def fnDirectsWrong : ChangeSpec := { name := "fnDirects", fn := fun _ => fun
  | [d1, d2] => { results := [.lit (.bool false)], args := [d1, d2] }
  | _ => none }
def FnDirectsWrongFalsely : Prop := fnDirectsRow.holds Try.pinned (OpenSpec.ofChange fnDirectsWrong)

/-- 'laws.FnDirecting': WHATEVER THE INPUT: true; the input reads as it did. -/
def fnDirectingSpec : ChangeSpec := { name := "fnDirecting", fn := fun _ => fun
  | [d1, d2] => { results := [.lit (.bool true)], args := [d1, d2] }
  | _ => none }
def fnDirectingRow : OpenClaim := { program := "ytogbdeciakomgaa", sum := "59c3eddc5696656670b12252d1759bba6a0b47dca0ee901766945f6e657f5736", func := "loop.example/g01102/laws.FnDirecting", spec := "fnDirecting", unfollowed := true, recurses := true, plainKeys := false, apart := false }
def FnDirectingSaid : Prop := fnDirectingRow.holds Try.pinned (OpenSpec.ofChange fnDirectingSpec)

/-- ITS FALSE NEIGHBOUR: 'it returns false'. Refute it at one input. -/
def fnDirectingWrong : ChangeSpec := { name := "fnDirecting", fn := fun _ => fun
  | [d1, d2] => { results := [.lit (.bool false)], args := [d1, d2] }
  | _ => none }
def FnDirectingWrongFalsely : Prop := fnDirectingRow.holds Try.pinned (OpenSpec.ofChange fnDirectingWrong)

/- THE SECOND FORM. 'bulk': how many values and letters a reading holds, each counted each time it is reached (what is shared counts as often as it is met; a slice's spare places count too). A statement '..UptoSaid' is the law's where the arguments, and the package variables that the reading takes, are together of bulk at most 1048576: NARROWER than '..Said'. Prove '..Said' where nothing that the law and all that it calls make is longer than what came in: it says more and counts as full. Else prove '..UptoSaid'. A law counts once. -/
mutual
def uptoBulk {H : Type} : DataW H → Nat
  | .lit (.string bytes) => bytes.length + 1
  | .lit _ => 1
  | .nil => 1
  | .ptr d => uptoBulk d + 1
  | .slice elems spare => uptoBulkAll elems + uptoBulkAll spare + 1
  | .agg parts => uptoBulkAll parts + 1
  | .iface _ d => uptoBulk d + 1
  | .map entries => uptoBulkEntries entries + 1
  | .held _ => 1
def uptoBulkAll {H : Type} : List (DataW H) → Nat
  | [] => 0
  | d :: r => uptoBulk d + uptoBulkAll r
def uptoBulkEntries {H : Type} : List (Lit × DataW H) → Nat
  | [] => 0
  | x :: r => uptoBulkEntry x + uptoBulkEntries r
def uptoBulkEntry {H : Type} : Lit × DataW H → Nat
  | (.string bytes, d) => bytes.length + uptoBulk d + 1
  | (_, d) => uptoBulk d + 1
 end
def uptoSmall : (H : Type) → List (DataW H) → Bool := fun _ ds => decide (uptoBulkAll ds ≤ 1048576)
def OpenSpec.upto (s : _root_.Go.ChangeSpec) : _root_.Go.OpenSpec := { _root_.Go.OpenSpec.ofChange s with cond := some uptoSmall }

/-- 'laws.FnDirects', WHERE WHAT IT READS IS OF BULK AT MOST 1048576: true; the input reads as it did. -/
def fnDirectsUptoRow : OpenClaim := { program := "ytogbdeciakomgaa", sum := "59c3eddc5696656670b12252d1759bba6a0b47dca0ee901766945f6e657f5736", func := "loop.example/g01102/laws.FnDirects", spec := "fnDirects", unfollowed := true, recurses := true, plainKeys := false, apart := false, narrowed := true }
def FnDirectsUptoSaid : Prop := fnDirectsUptoRow.holds Try.pinned (OpenSpec.upto fnDirectsSpec)

/-- 'laws.FnDirecting', WHERE WHAT IT READS IS OF BULK AT MOST 1048576: true; the input reads as it did. -/
def fnDirectingUptoRow : OpenClaim := { program := "ytogbdeciakomgaa", sum := "59c3eddc5696656670b12252d1759bba6a0b47dca0ee901766945f6e657f5736", func := "loop.example/g01102/laws.FnDirecting", spec := "fnDirecting", unfollowed := true, recurses := true, plainKeys := false, apart := false, narrowed := true }
def FnDirectingUptoSaid : Prop := fnDirectingUptoRow.holds Try.pinned (OpenSpec.upto fnDirectingSpec)

end Rows
end Go.Proofs.Ytogbdeciakomgaa
