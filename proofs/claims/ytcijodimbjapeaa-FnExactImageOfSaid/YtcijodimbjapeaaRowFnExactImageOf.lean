/- The law FnExactImageOf, as its row says it: called with any arguments it returns true, changes nothing and does not panic. Conditions: none. -/
import Derived.Test.YtcijodimbjapeaaRows
import Derived.Test.YtcijodimbjapeaaLImageOf
import Derived.Test.YtcijodimbjapeaaAb36
import Derived.ProofKit
set_option linter.all false
namespace Go.Proofs.Ytcijodimbjapeaa
open Go Go.Ab Go.ChangeShapes Go.WideShapes Go.ChangeAt Go.RowKit
theorem fnExactImageOf_own : ownKnob Try.prog.godebug = none := by kernel_rfl

theorem fnExactImageOf_law : ∀ As, ArgsShp Try.prog Try.f5.params.toList As → Fun Try.prog 5 As (bv true) := by
  intro As h
  have h : ArgsShp Try.prog [24, 25, 25] As := h
  obtain ⟨_, _, rfl, h1, h⟩ := args_cons h
  obtain ⟨_, _, rfl, h2, h⟩ := args_cons h
  obtain ⟨_, _, rfl, h3, h⟩ := args_cons h
  obtain rfl := args_nil h
  obtain ⟨n1, next1, rfl⟩ := arg_aut Try.underlying24 rfl Try.underlying2 Try.underlying22 (by kernel_rfl) Try.underlying25 (by kernel_rfl) Try.underlying2 h1
  obtain ⟨w2, rfl⟩ := arg_ints Try.underlying25 (by kernel_rfl) Try.underlying2 h2
  obtain ⟨w3, rfl⟩ := arg_ints Try.underlying25 (by kernel_rfl) Try.underlying2 h3
  exact k_FnExactImageOf n1 next1 w2 w3

set_option maxRecDepth 100000 in
theorem fnExactImageOf_lifted (os : Os) (started : os.Started) (H : Type) (enc : TypeId × Value → H) :
    ReturnsInHanded {} Try.checked os 5 .any (Rows.fnExactImageOfSpec.pre6 enc Try.prog Try.f5 Rows.fnExactImageOfRow.domain false) (Rows.fnExactImageOfSpec.post enc Try.prog Try.f5 false true false false) := by
  refine returnsInHanded_of_change (C := Try.checked) fnExactImageOf_own started (by kernel_rfl) Try.func5
    (ChangeSpec.witness6 (enc := enc) (C := Try.checked) false ⟨#[], #[.agg #[.int .i64 0, .slice none 0 0], .slice none 0 0, .slice none 0 0], []⟩ 8 (by kernel_rfl) (by kernel_rfl) (by kernel_rfl) (by kernel_rfl)) ?_
  intro W base args ds gs before hval hW _ _
  refine law_post (good := fun t => [2, 22, 24, 25].contains t) (tb := 4) rfl (by kernel_rfl) (of_decide_eq_true (by kernel_rfl)) (by kernel_rfl) Try.underlying4 ?_ hW (good_of (by kernel_rfl)) (of_decide_eq_true (by kernel_rfl)) hval fnExactImageOf_law
  intro hl
  match ds, hl with
  | [d1, d2, d3], _ => exact ⟨rfl, rfl, rfl⟩

/-- THE LAW. -/
theorem fnExactImageOf_holds : Rows.FnExactImageOfSaid :=
  OpenClaim.holds_of_wide 5 Try.f5 rfl rfl rfl rfl rfl rfl rfl ⟨rfl, rfl, rfl, rfl, rfl⟩ rfl rfl rfl rfl rfl (by kernel_rfl) Try.func5 (by kernel_rfl)
    (of_decide_eq_true (by kernel_rfl)) (by unfold Func.isWrapper; first | (rw [if_pos (by decide +kernel)]; kernel_rfl) | (rw [if_neg (by decide +kernel)]; exact ⟨rfl, rfl⟩))
    (fun os started H enc _ => fnExactImageOf_lifted os started H enc)
#print axioms fnExactImageOf_holds
end Go.Proofs.Ytcijodimbjapeaa
