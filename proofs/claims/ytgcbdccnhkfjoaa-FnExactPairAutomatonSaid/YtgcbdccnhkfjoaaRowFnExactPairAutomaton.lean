/- The law FnExactPairAutomaton, as its row says it: called with any arguments it returns true, changes nothing and does not panic. Conditions: none. -/
import Derived.Test.YtgcbdccnhkfjoaaRows
import Derived.Test.YtgcbdccnhkfjoaaLPairAutomaton
import Derived.Test.YtgcbdccnhkfjoaaM8
import Derived.ProofKit
set_option linter.all false
namespace Go.Proofs.Ytgcbdccnhkfjoaa
open Go Go.Ab Go.ChangeShapes Go.WideShapes Go.ChangeAt Go.RowKit
theorem fnExactPairAutomaton_own : ownKnob Try.prog.godebug = none := by kernel_rfl

theorem fnExactPairAutomaton_law : ∀ As, ArgsShp Try.prog Try.f5.params.toList As → Fun Try.prog 5 As (bv true) := by
  intro As h
  have h : ArgsShp Try.prog [43] As := h
  obtain ⟨_, _, rfl, h1, h⟩ := args_cons h
  obtain rfl := args_nil h
  obtain ⟨n1, o1, next1, out1, rfl⟩ := arg_mach Try.underlying43 rfl Try.underlying2 Try.underlying2 Try.underlying25 Try.underlying25 (by kernel_rfl) Try.underlying30 (by kernel_rfl) Try.underlying2 h1
  exact k_FnExactPairAutomaton n1 o1 next1 out1

set_option maxRecDepth 100000 in
theorem fnExactPairAutomaton_lifted (os : Os) (started : os.Started) (H : Type) (enc : TypeId × Value → H) :
    ReturnsInHanded {} Try.checked os 5 .any (Rows.fnExactPairAutomatonSpec.pre6 enc Try.prog Try.f5 Rows.fnExactPairAutomatonRow.domain false) (Rows.fnExactPairAutomatonSpec.post enc Try.prog Try.f5 false true false false) := by
  refine returnsInHanded_of_change (C := Try.checked) fnExactPairAutomaton_own started (by kernel_rfl) Try.func5
    (ChangeSpec.witness6 (enc := enc) (C := Try.checked) false ⟨#[], #[.agg #[.int .i64 0, .int .i64 0, .slice none 0 0, .slice none 0 0]], []⟩ 8 (by kernel_rfl) (by kernel_rfl) (by kernel_rfl) (by kernel_rfl)) ?_
  intro W base args ds gs before hval hW _ _
  refine law_post (good := fun t => [2, 25, 30, 43].contains t) (tb := 4) rfl (by kernel_rfl) (of_decide_eq_true (by kernel_rfl)) (by kernel_rfl) Try.underlying4 ?_ hW (good_of (by kernel_rfl)) (of_decide_eq_true (by kernel_rfl)) hval fnExactPairAutomaton_law
  intro hl
  match ds, hl with
  | [d1], _ => exact ⟨rfl, rfl, rfl⟩

/-- THE LAW. -/
theorem fnExactPairAutomaton_holds : Rows.FnExactPairAutomatonSaid :=
  OpenClaim.holds_of_wide 5 Try.f5 rfl rfl rfl rfl rfl rfl rfl ⟨rfl, rfl, rfl, rfl, rfl⟩ rfl rfl rfl rfl rfl (by kernel_rfl) Try.func5 (by kernel_rfl)
    (of_decide_eq_true (by kernel_rfl)) (by unfold Func.isWrapper; first | (rw [if_pos (by decide +kernel)]; kernel_rfl) | (rw [if_neg (by decide +kernel)]; exact ⟨rfl, rfl⟩))
    (fun os started H enc _ => fnExactPairAutomaton_lifted os started H enc)
#print axioms fnExactPairAutomaton_holds
end Go.Proofs.Ytgcbdccnhkfjoaa
