/- The law FnExactRenumberStates, as its row says it: called with any arguments it returns true, changes nothing and does not panic. Conditions: none. -/
import Derived.Test.YtojnbclanknnhaaRows
import Derived.Test.YtojnbclanknnhaaLRenumberStates
import Derived.Test.YtojnbclanknnhaaM8
import Derived.ProofKit
set_option linter.all false
namespace Go.Proofs.Ytojnbclanknnhaa
open Go Go.Ab Go.ChangeShapes Go.WideShapes Go.ChangeAt Go.RowKit
theorem fnExactRenumberStates_own : ownKnob Try.prog.godebug = none := by kernel_rfl

theorem fnExactRenumberStates_law : ∀ As, ArgsShp Try.prog Try.f3.params.toList As → Fun Try.prog 3 As (bv true) := by
  intro As h
  have h : ArgsShp Try.prog [24, 25] As := h
  obtain ⟨_, _, rfl, h1, h⟩ := args_cons h
  obtain ⟨_, _, rfl, h2, h⟩ := args_cons h
  obtain rfl := args_nil h
  obtain ⟨n1, next1, rfl⟩ := arg_aut Try.underlying24 rfl Try.underlying2 Try.underlying22 (by kernel_rfl) Try.underlying25 (by kernel_rfl) Try.underlying2 h1
  obtain ⟨w2, rfl⟩ := arg_ints Try.underlying25 (by kernel_rfl) Try.underlying2 h2
  exact k_FnExactRenumberStates n1 next1 w2

set_option maxRecDepth 100000 in
theorem fnExactRenumberStates_lifted (os : Os) (started : os.Started) (H : Type) (enc : TypeId × Value → H) :
    ReturnsInHanded {} Try.checked os 3 .any (Rows.fnExactRenumberStatesSpec.pre6 enc Try.prog Try.f3 Rows.fnExactRenumberStatesRow.domain false) (Rows.fnExactRenumberStatesSpec.post enc Try.prog Try.f3 false true false false) := by
  refine returnsInHanded_of_change (C := Try.checked) fnExactRenumberStates_own started (by kernel_rfl) Try.func3
    (ChangeSpec.witness6 (enc := enc) (C := Try.checked) false ⟨#[], #[.agg #[.int .i64 0, .slice none 0 0], .slice none 0 0], []⟩ 8 (by kernel_rfl) (by kernel_rfl) (by kernel_rfl) (by kernel_rfl)) ?_
  intro W base args ds gs before hval hW _ _
  refine law_post (good := fun t => [2, 22, 24, 25].contains t) (tb := 4) rfl (by kernel_rfl) (of_decide_eq_true (by kernel_rfl)) (by kernel_rfl) Try.underlying4 ?_ hW (good_of (by kernel_rfl)) (of_decide_eq_true (by kernel_rfl)) hval fnExactRenumberStates_law
  intro hl
  match ds, hl with
  | [d1, d2], _ => exact ⟨rfl, rfl, rfl⟩

/-- THE LAW. -/
theorem fnExactRenumberStates_holds : Rows.FnExactRenumberStatesSaid :=
  OpenClaim.holds_of_wide 3 Try.f3 rfl rfl rfl rfl rfl rfl rfl ⟨rfl, rfl, rfl, rfl, rfl⟩ rfl rfl rfl rfl rfl (by kernel_rfl) Try.func3 (by kernel_rfl)
    (of_decide_eq_true (by kernel_rfl)) (by unfold Func.isWrapper; first | (rw [if_pos (by decide +kernel)]; kernel_rfl) | (rw [if_neg (by decide +kernel)]; exact ⟨rfl, rfl⟩))
    (fun os started H enc _ => fnExactRenumberStates_lifted os started H enc)
#print axioms fnExactRenumberStates_holds
end Go.Proofs.Ytojnbclanknnhaa
