/-
  No cell of these rows narrows 'for every input' (looked for: loops, veiled, ifaces, maps, wideKeys, modest, calm, conditions, laid).
  DERIVED. THE GIVEN ROWS OF THIS SEAT. 3 by the template 'for every input the law returns true; each argument reads behind the call as it read before'; 0 by the template 'total and deterministic' (their statements: YtlijcimaeplgbaaTotals.lean).
  GIVEN WITH THE SEED: the statements are not yours to turn. If you find one false, say at which input.
  Laid BY PROGRAM, IN A SANDBOX (cutbox-rows.mjs): the forced cells as the released guide's own fill.sh prints them over the translation ec5aeabe01a937a9… (all of the seat's roots in one cut). By AI agents, Wed Nov 11 2026. No macro, syntax, notation, axiom, sorry.
-/
import Derived.Test.YtlijcimaeplgbaaChecked
import GoSem.Claim
import GoSem.ClaimJoined
import GoSem.ClaimMapViews
import Derived.JoinedTies
import Derived.KernelRfl
namespace Go.Proofs.Ytlijcimaeplgbaa
/- THE CELL 'sum', in the pinned program and in every row, IS THE sha256 OF THE DUMP (.gsa) THAT YtlijcimaeplgbaaProg.lean LOADS. Nothing in Lean hashes anything: it is a label: what it is worth is what the hold of that sum in a sandbox is worth. -/
noncomputable def Try.pinned : Pinned := { name := "ytlijcimaeplgbaa", sum := "ec5aeabe01a937a9f6d057a0dd9274e2902fc2f13cac4ab920a1f7891a98e4c3", checked := Try.checked }
namespace Rows
def none {H : Type} : Left H := { results := [], args := [] }

/-- 'laws.FnShortest': WHATEVER THE INPUT: true; the input reads as it did. -/
def fnShortestSpec : ChangeSpec := { name := "fnShortest", fn := fun _ => fun
  | [d1, d2] => { results := [.lit (.bool true)], args := [d1, d2] }
  | _ => none }
def fnShortestRow : OpenClaim := { program := "ytlijcimaeplgbaa", sum := "ec5aeabe01a937a9f6d057a0dd9274e2902fc2f13cac4ab920a1f7891a98e4c3", func := "loop.example/g01102/laws.FnShortest", spec := "fnShortest", unfollowed := true, recurses := true, plainKeys := false, apart := false }
def FnShortestSaid : Prop := fnShortestRow.holds Try.pinned (OpenSpec.ofChange fnShortestSpec)

/-- ITS FALSE NEIGHBOUR: 'it returns false'. Refute it at one input. -/
def fnShortestWrong : ChangeSpec := { name := "fnShortest", fn := fun _ => fun
  | [d1, d2] => { results := [.lit (.bool false)], args := [d1, d2] }
  | _ => none }
def FnShortestWrongFalsely : Prop := fnShortestRow.holds Try.pinned (OpenSpec.ofChange fnShortestWrong)

/-- 'laws.FnRanks': WHATEVER THE INPUT: true; the input reads as it did. -/
def fnRanksSpec : ChangeSpec := { name := "fnRanks", fn := fun _ => fun
  | [d1, d2] => { results := [.lit (.bool true)], args := [d1, d2] }
  | _ => none }
def fnRanksRow : OpenClaim := { program := "ytlijcimaeplgbaa", sum := "ec5aeabe01a937a9f6d057a0dd9274e2902fc2f13cac4ab920a1f7891a98e4c3", func := "loop.example/g01102/laws.FnRanks", spec := "fnRanks", unfollowed := true, recurses := true, plainKeys := false, apart := false }
def FnRanksSaid : Prop := fnRanksRow.holds Try.pinned (OpenSpec.ofChange fnRanksSpec)

/-- ITS FALSE NEIGHBOUR: 'it returns false'. Refute it at one input. -/
def fnRanksWrong : ChangeSpec := { name := "fnRanks", fn := fun _ => fun
  | [d1, d2] => { results := [.lit (.bool false)], args := [d1, d2] }
  | _ => none }
def FnRanksWrongFalsely : Prop := fnRanksRow.holds Try.pinned (OpenSpec.ofChange fnRanksWrong)

/-- 'laws.FnDirecting': WHATEVER THE INPUT: true; the input reads as it did. -/
def fnDirectingSpec : ChangeSpec := { name := "fnDirecting", fn := fun _ => fun
  | [d1, d2] => { results := [.lit (.bool true)], args := [d1, d2] }
  | _ => none }
def fnDirectingRow : OpenClaim := { program := "ytlijcimaeplgbaa", sum := "ec5aeabe01a937a9f6d057a0dd9274e2902fc2f13cac4ab920a1f7891a98e4c3", func := "loop.example/g01102/laws.FnDirecting", spec := "fnDirecting", unfollowed := true, recurses := true, plainKeys := false, apart := false }
def FnDirectingSaid : Prop := fnDirectingRow.holds Try.pinned (OpenSpec.ofChange fnDirectingSpec)

/-- ITS FALSE NEIGHBOUR: 'it returns false'. Refute it at one input. -/
def fnDirectingWrong : ChangeSpec := { name := "fnDirecting", fn := fun _ => fun
  | [d1, d2] => { results := [.lit (.bool false)], args := [d1, d2] }
  | _ => none }
def FnDirectingWrongFalsely : Prop := fnDirectingRow.holds Try.pinned (OpenSpec.ofChange fnDirectingWrong)

/- THE SECOND FORM. 'bulk': how many values and letters a reading holds, each counted each time it is reached (what is shared counts as often as it is met; a slice's spare places count too). A statement '..UptoSaid' is the law's where the arguments, and the package variables that the reading takes, are together of bulk at most 1048576: NARROWER than '..Said'. Prove '..Said' where nothing that the law and all that it calls make is longer than what came in: it says more and counts as full. Else prove '..UptoSaid'. A law counts once. -/
mutual
def uptoBulk {H : Type} : DataW H → Nat
  | .lit (.string bytes) => bytes.length + 1
  | .lit _ => 1
  | .nil => 1
  | .ptr d => uptoBulk d + 1
  | .slice elems spare => uptoBulkAll elems + uptoBulkAll spare + 1
  | .agg parts => uptoBulkAll parts + 1
  | .iface _ d => uptoBulk d + 1
  | .map entries => uptoBulkEntries entries + 1
  | .held _ => 1
def uptoBulkAll {H : Type} : List (DataW H) → Nat
  | [] => 0
  | d :: r => uptoBulk d + uptoBulkAll r
def uptoBulkEntries {H : Type} : List (Lit × DataW H) → Nat
  | [] => 0
  | x :: r => uptoBulkEntry x + uptoBulkEntries r
def uptoBulkEntry {H : Type} : Lit × DataW H → Nat
  | (.string bytes, d) => bytes.length + uptoBulk d + 1
  | (_, d) => uptoBulk d + 1
 end
def uptoSmall : (H : Type) → List (DataW H) → Bool := fun _ ds => decide (uptoBulkAll ds ≤ 1048576)
def OpenSpec.upto (s : _root_.Go.ChangeSpec) : _root_.Go.OpenSpec := { _root_.Go.OpenSpec.ofChange s with cond := some uptoSmall }

/-- 'laws.FnShortest', WHERE WHAT IT READS IS OF BULK AT MOST 1048576: true; the input reads as it did. -/
def fnShortestUptoRow : OpenClaim := { program := "ytlijcimaeplgbaa", sum := "ec5aeabe01a937a9f6d057a0dd9274e2902fc2f13cac4ab920a1f7891a98e4c3", func := "loop.example/g01102/laws.FnShortest", spec := "fnShortest", unfollowed := true, recurses := true, plainKeys := false, apart := false, narrowed := true }
def FnShortestUptoSaid : Prop := fnShortestUptoRow.holds Try.pinned (OpenSpec.upto fnShortestSpec)

/-- 'laws.FnRanks', WHERE WHAT IT READS IS OF BULK AT MOST 1048576: true; the input reads as it did. -/
def fnRanksUptoRow : OpenClaim := { program := "ytlijcimaeplgbaa", sum := "ec5aeabe01a937a9f6d057a0dd9274e2902fc2f13cac4ab920a1f7891a98e4c3", func := "loop.example/g01102/laws.FnRanks", spec := "fnRanks", unfollowed := true, recurses := true, plainKeys := false, apart := false, narrowed := true }
def FnRanksUptoSaid : Prop := fnRanksUptoRow.holds Try.pinned (OpenSpec.upto fnRanksSpec)

/-- 'laws.FnDirecting', WHERE WHAT IT READS IS OF BULK AT MOST 1048576: true; the input reads as it did. -/
def fnDirectingUptoRow : OpenClaim := { program := "ytlijcimaeplgbaa", sum := "ec5aeabe01a937a9f6d057a0dd9274e2902fc2f13cac4ab920a1f7891a98e4c3", func := "loop.example/g01102/laws.FnDirecting", spec := "fnDirecting", unfollowed := true, recurses := true, plainKeys := false, apart := false, narrowed := true }
def FnDirectingUptoSaid : Prop := fnDirectingUptoRow.holds Try.pinned (OpenSpec.upto fnDirectingSpec)

end Rows
end Go.Proofs.Ytlijcimaeplgbaa
