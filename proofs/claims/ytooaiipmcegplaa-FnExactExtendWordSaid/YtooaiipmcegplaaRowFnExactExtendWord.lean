/- The law FnExactExtendWord, as its row says it: called with any arguments it returns true, changes nothing and does not panic. Conditions: none. -/
import Derived.Test.YtooaiipmcegplaaRows
import Derived.ProofKit
import Derived.Test.YtooaiipmcegplaaZ10
set_option maxRecDepth 100000
set_option maxHeartbeats 4000000
set_option linter.all false
open Nat renaming reduceLeDiff → xx0, reduceMul → xx1, reduceSub → xx2, reduceEqDiff → xx3, reduceAdd → xx4, reduceLT → xx5
open Int renaming reduceToNat → xx6, reduceNeg → xx7, reduceLE → xx8, reduceLT → xx9
namespace Go.Proofs.Ytooaiipmcegplaa
open Go Go.Ab Go.ChangeShapes Go.WideShapes Go.ChangeAt Go.RowKit
theorem fnExactExtendWord_own:ownKnob Try.prog.godebug=none:=by kernel_rfl
theorem fnExactExtendWord_law:∀ As,ArgsShp Try.prog Try.f5.params.toList As→Fun Try.prog 5 As (bv true):=by
  intro As h
  have h:ArgsShp Try.prog [24,26] As:=h
  obtain ⟨_,_,rfl,h1,h⟩:=args_cons h
  obtain ⟨_,_,rfl,h2,h⟩:=args_cons h
  obtain rfl:=args_nil h
  obtain ⟨n1,next1,rfl⟩:=arg_aut Try.underlying24 rfl Try.underlying2 Try.underlying22 (by kernel_rfl) Try.underlying26 (by kernel_rfl) Try.underlying2 h1
  obtain ⟨w2,rfl⟩:=arg_ints Try.underlying26 (by kernel_rfl) Try.underlying2 h2
  exact k_FnExactExtendWord n1 next1 w2
set_option maxRecDepth 100000 in
theorem fnExactExtendWord_lifted (os:Os) (started:os.Started) (H:Type) (enc:TypeId×Value→H) :
    ReturnsInHanded {} Try.checked os 5 .any (Rows.fnExactExtendWordSpec.pre6 enc Try.prog Try.f5 Rows.fnExactExtendWordRow.domain false) (Rows.fnExactExtendWordSpec.post enc Try.prog Try.f5 false true false false):=by
  refine returnsInHanded_of_change (C:=Try.checked) fnExactExtendWord_own started (by kernel_rfl) Try.func5
    (ChangeSpec.witness6 (enc:=enc) (C:=Try.checked) false ⟨#[],#[.agg #[.int .i64 0,.slice none 0 0],.slice none 0 0],[]⟩ 8 (by kernel_rfl) (by kernel_rfl) (by kernel_rfl) (by kernel_rfl)) ?_
  intro W base args ds gs before hval hW _ _
  refine law_post (good:=fun t=>[2,22,24,26].contains t) (tb:=4) rfl (by kernel_rfl) (of_decide_eq_true (by kernel_rfl)) (by kernel_rfl) Try.underlying4 ?_ hW (good_of (by kernel_rfl)) (of_decide_eq_true (by kernel_rfl)) hval fnExactExtendWord_law
  intro hl
  match ds,hl with
  | [d1,d2],_=>exact ⟨rfl,rfl,rfl⟩
theorem fnExactExtendWord_holds:Rows.FnExactExtendWordSaid :=
  OpenClaim.holds_of_wide 5 Try.f5 rfl rfl rfl rfl rfl rfl rfl ⟨rfl,rfl,rfl,rfl,rfl⟩ rfl rfl rfl rfl rfl (by kernel_rfl) Try.func5 (by kernel_rfl)
    (of_decide_eq_true (by kernel_rfl)) (by unfold Func.isWrapper;first | (rw [if_pos (by decide +kernel)];kernel_rfl) | (rw [if_neg (by decide +kernel)];exact ⟨rfl,rfl⟩))
    (fun os started H enc _=>fnExactExtendWord_lifted os started H enc)
#print axioms fnExactExtendWord_holds
end Go.Proofs.Ytooaiipmcegplaa
