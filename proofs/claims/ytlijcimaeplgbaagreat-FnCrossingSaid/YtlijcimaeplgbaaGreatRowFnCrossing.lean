/- The law FnCrossing, as its row says it: called with any two lists of bytes it returns true, changes nothing and does not panic. Conditions: none. -/
import Derived.Test.YtlijcimaeplgbaaGreatRows
import Derived.ProofKit
import Derived.Test.YtlijcimaeplgbaaGreatZ11
set_option maxRecDepth 100000
set_option maxHeartbeats 4000000
set_option linter.all false
open Nat renaming reduceLeDiff → xx0, reduceMul → xx1, reduceSub → xx2, reduceEqDiff → xx3, reduceAdd → xx4, reduceLT → xx5
open Int renaming reduceToNat → xx6, reduceNeg → xx7, reduceLE → xx8, reduceLT → xx9
namespace Go.Proofs.YtlijcimaeplgbaaGreat
open Go Go.Ab Go.ChangeShapes Go.WideShapes Go.ChangeAt Go.RowKit
theorem fnCrossing_own:ownKnob Tryz.prog.godebug=none:=by kernel_rfl
theorem fnCrossing_law:∀ As,ArgsShp Tryz.prog Tryz.f3.params.toList As→Fun Tryz.prog 3 As (bv true) :=
  two_bytes (t:=22) (e:=5) Tryz.underlying22 Tryz.underlying5 (by kernel_rfl) fun code more hc hm=>k_FnCrossing code more hc hm
set_option maxRecDepth 100000 in
theorem fnCrossing_lifted (os:Os) (started:os.Started) (H:Type) (enc:TypeId×Value→H) :
    ReturnsInHanded {} Tryz.checked os 3 .any (Rows.fnCrossingSpec.pre6 enc Tryz.prog Tryz.f3 Rows.fnCrossingRow.domain false) (Rows.fnCrossingSpec.post enc Tryz.prog Tryz.f3 false true false false):=by
  refine returnsInHanded_of_change (C:=Tryz.checked) fnCrossing_own started (by kernel_rfl) Tryz.func3
    (ChangeSpec.witness6 (enc:=enc) (C:=Tryz.checked) false ⟨#[],#[.slice none 0 0,.slice none 0 0],[]⟩ 8 (by kernel_rfl) (by kernel_rfl) (by kernel_rfl) (by kernel_rfl)) ?_
  intro W base args ds gs before hval hW _ _
  refine law_post (good:=fun t=>[22,5].contains t) (tb:=4) rfl (by kernel_rfl) (of_decide_eq_true (by kernel_rfl)) (by kernel_rfl) Tryz.underlying4 ?_ hW (good_of (by kernel_rfl)) (of_decide_eq_true (by kernel_rfl)) hval fnCrossing_law
  intro hl
  match ds,hl with
  | [d,d'],_=>exact ⟨rfl,rfl,rfl⟩
theorem fnCrossing_holds:Rows.FnCrossingSaid :=
  OpenClaim.holds_of_wide 3 Tryz.f3 rfl rfl rfl rfl rfl rfl rfl ⟨rfl,rfl,rfl,rfl,rfl⟩ rfl rfl rfl rfl rfl (by kernel_rfl) Tryz.func3 (by kernel_rfl)
    (of_decide_eq_true (by kernel_rfl)) (by unfold Func.isWrapper;first | (rw [if_pos (by decide +kernel)];kernel_rfl) | (rw [if_neg (by decide +kernel)];exact ⟨rfl,rfl⟩))
    (fun os started H enc _=>fnCrossing_lifted os started H enc)
#print axioms fnCrossing_holds
end Go.Proofs.YtlijcimaeplgbaaGreat
