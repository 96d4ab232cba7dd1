/-
  No cell of these rows narrows 'for every input' (looked for: loops, veiled, ifaces, maps, wideKeys, modest, calm, conditions, laid).
  DERIVED. THE GIVEN ROWS OF THIS SEAT. 6 by the template 'for every input the law returns true; each argument reads behind the call as it read before'; 0 by the template 'total and deterministic' (their statements: YtjbjlpoiibefnaaTotals.lean).
  GIVEN WITH THE SEED: the statements are not yours to turn. If you find one false, say at which input.
  Laid BY PROGRAM, IN A SANDBOX (cutbox-rows.mjs): the forced cells as the released guide's own fill.sh prints them over the translation 61a9ebae802bdc72… (all of the seat's roots in one cut). By AI agents, Wed Nov 11 2026. No macro, syntax, notation, axiom, sorry.
-/
import Derived.Test.YtjbjlpoiibefnaaChecked
import GoSem.Claim
import GoSem.ClaimJoined
import GoSem.ClaimMapViews
import Derived.JoinedTies
import Derived.KernelRfl
namespace Go.Proofs.Ytjbjlpoiibefnaa
/- THE CELL 'sum', in the pinned program and in every row, IS THE sha256 OF THE DUMP (.gsa) THAT YtjbjlpoiibefnaaProg.lean LOADS. Nothing in Lean hashes anything: it is a label: what it is worth is what the hold of that sum in a sandbox is worth. -/
noncomputable def Try.pinned : Pinned := { name := "ytjbjlpoiibefnaa", sum := "61a9ebae802bdc728be12a8e519634ae251ae1ac7862aa711d9777b1d66cf8dc", checked := Try.checked }
namespace Rows
def none {H : Type} : Left H := { results := [], args := [] }

/-- 'laws.FnMonoid': WHATEVER THE INPUT: true; the input reads as it did. -/
def fnMonoidSpec : ChangeSpec := { name := "fnMonoid", fn := fun _ => fun
  | [d1, d2] => { results := [.lit (.bool true)], args := [d1, d2] }
  | _ => none }
def fnMonoidRow : OpenClaim := { program := "ytjbjlpoiibefnaa", sum := "61a9ebae802bdc728be12a8e519634ae251ae1ac7862aa711d9777b1d66cf8dc", func := "loop.example/g01102/laws.FnMonoid", spec := "fnMonoid", unfollowed := true, recurses := true, apart := false }
def FnMonoidSaid : Prop := fnMonoidRow.holds Try.pinned (OpenSpec.ofChange fnMonoidSpec)

/-- ITS FALSE NEIGHBOUR: 'it returns false'. Refute it at one input. -/
def fnMonoidWrong : ChangeSpec := { name := "fnMonoid", fn := fun _ => fun
  | [d1, d2] => { results := [.lit (.bool false)], args := [d1, d2] }
  | _ => none }
def FnMonoidWrongFalsely : Prop := fnMonoidRow.holds Try.pinned (OpenSpec.ofChange fnMonoidWrong)

/-- 'laws.FnDirects': WHATEVER THE INPUT: true; the input reads as it did. -/
def fnDirectsSpec : ChangeSpec := { name := "fnDirects", fn := fun _ => fun
  | [d1, d2] => { results := [.lit (.bool true)], args := [d1, d2] }
  | _ => none }
def fnDirectsRow : OpenClaim := { program := "ytjbjlpoiibefnaa", sum := "61a9ebae802bdc728be12a8e519634ae251ae1ac7862aa711d9777b1d66cf8dc", func := "loop.example/g01102/laws.FnDirects", spec := "fnDirects", unfollowed := true, recurses := true, apart := false }
def FnDirectsSaid : Prop := fnDirectsRow.holds Try.pinned (OpenSpec.ofChange fnDirectsSpec)

/-- ITS FALSE NEIGHBOUR: 'it returns false'. Refute it at one input. -/
def fnDirectsWrong : ChangeSpec := { name := "fnDirects", fn := fun _ => fun
  | [d1, d2] => { results := [.lit (.bool false)], args := [d1, d2] }
  | _ => none }
def FnDirectsWrongFalsely : Prop := fnDirectsRow.holds Try.pinned (OpenSpec.ofChange fnDirectsWrong)

/-- 'laws.FnExactIsReset': WHATEVER THE INPUT: true; the input reads as it did. -/
def fnExactIsResetSpec : ChangeSpec := { name := "fnExactIsReset", fn := fun _ => fun
  | [d1, d2] => { results := [.lit (.bool true)], args := [d1, d2] }
  | _ => none }
def fnExactIsResetRow : OpenClaim := { program := "ytjbjlpoiibefnaa", sum := "61a9ebae802bdc728be12a8e519634ae251ae1ac7862aa711d9777b1d66cf8dc", func := "loop.example/g01102/laws.FnExactIsReset", spec := "fnExactIsReset", unfollowed := true, recurses := true, apart := false }
def FnExactIsResetSaid : Prop := fnExactIsResetRow.holds Try.pinned (OpenSpec.ofChange fnExactIsResetSpec)

/-- ITS FALSE NEIGHBOUR: 'it returns false'. Refute it at one input. -/
def fnExactIsResetWrong : ChangeSpec := { name := "fnExactIsReset", fn := fun _ => fun
  | [d1, d2] => { results := [.lit (.bool false)], args := [d1, d2] }
  | _ => none }
def FnExactIsResetWrongFalsely : Prop := fnExactIsResetRow.holds Try.pinned (OpenSpec.ofChange fnExactIsResetWrong)

/-- 'laws.FnExactRankOfWord': WHATEVER THE INPUT: true; the input reads as it did. -/
def fnExactRankOfWordSpec : ChangeSpec := { name := "fnExactRankOfWord", fn := fun _ => fun
  | [d1, d2] => { results := [.lit (.bool true)], args := [d1, d2] }
  | _ => none }
def fnExactRankOfWordRow : OpenClaim := { program := "ytjbjlpoiibefnaa", sum := "61a9ebae802bdc728be12a8e519634ae251ae1ac7862aa711d9777b1d66cf8dc", func := "loop.example/g01102/laws.FnExactRankOfWord", spec := "fnExactRankOfWord", unfollowed := true, recurses := true, apart := false }
def FnExactRankOfWordSaid : Prop := fnExactRankOfWordRow.holds Try.pinned (OpenSpec.ofChange fnExactRankOfWordSpec)

/-- ITS FALSE NEIGHBOUR: 'it returns false'. Refute it at one input. -/
def fnExactRankOfWordWrong : ChangeSpec := { name := "fnExactRankOfWord", fn := fun _ => fun
  | [d1, d2] => { results := [.lit (.bool false)], args := [d1, d2] }
  | _ => none }
def FnExactRankOfWordWrongFalsely : Prop := fnExactRankOfWordRow.holds Try.pinned (OpenSpec.ofChange fnExactRankOfWordWrong)

/-- 'laws.FnActions': WHATEVER THE INPUT: true; the input reads as it did. -/
def fnActionsSpec : ChangeSpec := { name := "fnActions", fn := fun _ => fun
  | [d1, d2] => { results := [.lit (.bool true)], args := [d1, d2] }
  | _ => none }
def fnActionsRow : OpenClaim := { program := "ytjbjlpoiibefnaa", sum := "61a9ebae802bdc728be12a8e519634ae251ae1ac7862aa711d9777b1d66cf8dc", func := "loop.example/g01102/laws.FnActions", spec := "fnActions", unfollowed := true, recurses := true, apart := false }
def FnActionsSaid : Prop := fnActionsRow.holds Try.pinned (OpenSpec.ofChange fnActionsSpec)

/-- ITS FALSE NEIGHBOUR: 'it returns false'. Refute it at one input. -/
def fnActionsWrong : ChangeSpec := { name := "fnActions", fn := fun _ => fun
  | [d1, d2] => { results := [.lit (.bool false)], args := [d1, d2] }
  | _ => none }
def FnActionsWrongFalsely : Prop := fnActionsRow.holds Try.pinned (OpenSpec.ofChange fnActionsWrong)

/-- 'laws.FnReset': WHATEVER THE INPUT: true; the input reads as it did. -/
def fnResetSpec : ChangeSpec := { name := "fnReset", fn := fun _ => fun
  | [d1, d2] => { results := [.lit (.bool true)], args := [d1, d2] }
  | _ => none }
def fnResetRow : OpenClaim := { program := "ytjbjlpoiibefnaa", sum := "61a9ebae802bdc728be12a8e519634ae251ae1ac7862aa711d9777b1d66cf8dc", func := "loop.example/g01102/laws.FnReset", spec := "fnReset", unfollowed := true, recurses := true, apart := false }
def FnResetSaid : Prop := fnResetRow.holds Try.pinned (OpenSpec.ofChange fnResetSpec)

/-- ITS FALSE NEIGHBOUR: 'it returns false'. Refute it at one input. -/
def fnResetWrong : ChangeSpec := { name := "fnReset", fn := fun _ => fun
  | [d1, d2] => { results := [.lit (.bool false)], args := [d1, d2] }
  | _ => none }
def FnResetWrongFalsely : Prop := fnResetRow.holds Try.pinned (OpenSpec.ofChange fnResetWrong)

/- THE SECOND FORM. 'bulk': how many values and letters a reading holds, each counted each time it is reached (what is shared counts as often as it is met; a slice's spare places count too). A statement '..UptoSaid' is the law's where the arguments, and the package variables that the reading takes, are together of bulk at most 1048576: NARROWER than '..Said'. Prove '..Said' where nothing that the law and all that it calls make is longer than what came in: it says more and counts as full. Else prove '..UptoSaid'. A law counts once. -/
mutual
def uptoBulk {H : Type} : DataW H → Nat
  | .lit (.string bytes) => bytes.length + 1
  | .lit _ => 1
  | .nil => 1
  | .ptr d => uptoBulk d + 1
  | .slice elems spare => uptoBulkAll elems + uptoBulkAll spare + 1
  | .agg parts => uptoBulkAll parts + 1
  | .iface _ d => uptoBulk d + 1
  | .map entries => uptoBulkEntries entries + 1
  | .held _ => 1
def uptoBulkAll {H : Type} : List (DataW H) → Nat
  | [] => 0
  | d :: r => uptoBulk d + uptoBulkAll r
def uptoBulkEntries {H : Type} : List (Lit × DataW H) → Nat
  | [] => 0
  | x :: r => uptoBulkEntry x + uptoBulkEntries r
def uptoBulkEntry {H : Type} : Lit × DataW H → Nat
  | (.string bytes, d) => bytes.length + uptoBulk d + 1
  | (_, d) => uptoBulk d + 1
 end
def uptoSmall : (H : Type) → List (DataW H) → Bool := fun _ ds => decide (uptoBulkAll ds ≤ 1048576)
def OpenSpec.upto (s : _root_.Go.ChangeSpec) : _root_.Go.OpenSpec := { _root_.Go.OpenSpec.ofChange s with cond := some uptoSmall }

/-- 'laws.FnMonoid', WHERE WHAT IT READS IS OF BULK AT MOST 1048576: true; the input reads as it did. -/
def fnMonoidUptoRow : OpenClaim := { program := "ytjbjlpoiibefnaa", sum := "61a9ebae802bdc728be12a8e519634ae251ae1ac7862aa711d9777b1d66cf8dc", func := "loop.example/g01102/laws.FnMonoid", spec := "fnMonoid", unfollowed := true, recurses := true, apart := false, narrowed := true }
def FnMonoidUptoSaid : Prop := fnMonoidUptoRow.holds Try.pinned (OpenSpec.upto fnMonoidSpec)

/-- 'laws.FnDirects', WHERE WHAT IT READS IS OF BULK AT MOST 1048576: true; the input reads as it did. -/
def fnDirectsUptoRow : OpenClaim := { program := "ytjbjlpoiibefnaa", sum := "61a9ebae802bdc728be12a8e519634ae251ae1ac7862aa711d9777b1d66cf8dc", func := "loop.example/g01102/laws.FnDirects", spec := "fnDirects", unfollowed := true, recurses := true, apart := false, narrowed := true }
def FnDirectsUptoSaid : Prop := fnDirectsUptoRow.holds Try.pinned (OpenSpec.upto fnDirectsSpec)

/-- 'laws.FnExactIsReset', WHERE WHAT IT READS IS OF BULK AT MOST 1048576: true; the input reads as it did. -/
def fnExactIsResetUptoRow : OpenClaim := { program := "ytjbjlpoiibefnaa", sum := "61a9ebae802bdc728be12a8e519634ae251ae1ac7862aa711d9777b1d66cf8dc", func := "loop.example/g01102/laws.FnExactIsReset", spec := "fnExactIsReset", unfollowed := true, recurses := true, apart := false, narrowed := true }
def FnExactIsResetUptoSaid : Prop := fnExactIsResetUptoRow.holds Try.pinned (OpenSpec.upto fnExactIsResetSpec)

/-- 'laws.FnExactRankOfWord', WHERE WHAT IT READS IS OF BULK AT MOST 1048576: true; the input reads as it did. -/
def fnExactRankOfWordUptoRow : OpenClaim := { program := "ytjbjlpoiibefnaa", sum := "61a9ebae802bdc728be12a8e519634ae251ae1ac7862aa711d9777b1d66cf8dc", func := "loop.example/g01102/laws.FnExactRankOfWord", spec := "fnExactRankOfWord", unfollowed := true, recurses := true, apart := false, narrowed := true }
def FnExactRankOfWordUptoSaid : Prop := fnExactRankOfWordUptoRow.holds Try.pinned (OpenSpec.upto fnExactRankOfWordSpec)

/-- 'laws.FnActions', WHERE WHAT IT READS IS OF BULK AT MOST 1048576: true; the input reads as it did. -/
def fnActionsUptoRow : OpenClaim := { program := "ytjbjlpoiibefnaa", sum := "61a9ebae802bdc728be12a8e519634ae251ae1ac7862aa711d9777b1d66cf8dc", func := "loop.example/g01102/laws.FnActions", spec := "fnActions", unfollowed := true, recurses := true, apart := false, narrowed := true }
def FnActionsUptoSaid : Prop := fnActionsUptoRow.holds Try.pinned (OpenSpec.upto fnActionsSpec)

/-- 'laws.FnReset', WHERE WHAT IT READS IS OF BULK AT MOST 1048576: true; the input reads as it did. -/
def fnResetUptoRow : OpenClaim := { program := "ytjbjlpoiibefnaa", sum := "61a9ebae802bdc728be12a8e519634ae251ae1ac7862aa711d9777b1d66cf8dc", func := "loop.example/g01102/laws.FnReset", spec := "fnReset", unfollowed := true, recurses := true, apart := false, narrowed := true }
def FnResetUptoSaid : Prop := fnResetUptoRow.holds Try.pinned (OpenSpec.upto fnResetSpec)

end Rows
end Go.Proofs.Ytjbjlpoiibefnaa
