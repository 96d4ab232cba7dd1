/- The law FnExactCheckCertificate, as its row says it: called with any arguments it returns true, changes nothing and does not panic. Conditions: none. -/
import Derived.Test.YtojnbclanknnhaaRows
import Derived.Test.YtojnbclanknnhaaLCheckCertificate
import Derived.Test.YtojnbclanknnhaaM8
import Derived.ProofKit
set_option linter.all false
namespace Go.Proofs.Ytojnbclanknnhaa
open Go Go.Ab Go.ChangeShapes Go.WideShapes Go.ChangeAt Go.RowKit
theorem fnExactCheckCertificate_own : ownKnob Try.prog.godebug = none := by kernel_rfl

theorem fnExactCheckCertificate_law : ∀ As, ArgsShp Try.prog Try.f6.params.toList As → Fun Try.prog 6 As (bv true) := by
  intro As h
  have h : ArgsShp Try.prog [24, 43] As := h
  obtain ⟨_, _, rfl, h1, h⟩ := args_cons h
  obtain ⟨_, _, rfl, h2, h⟩ := args_cons h
  obtain rfl := args_nil h
  obtain ⟨n1, next1, rfl⟩ := arg_aut Try.underlying24 rfl Try.underlying2 Try.underlying22 (by kernel_rfl) Try.underlying25 (by kernel_rfl) Try.underlying2 h1
  obtain ⟨k2, x2, y2, rfl⟩ := arg_cert Try.underlying43 rfl Try.underlying2 Try.underlying22 Try.underlying22 (by kernel_rfl) Try.underlying25 (by kernel_rfl) Try.underlying2 h2
  exact k_FnExactCheckCertificate n1 next1 k2 x2 y2

set_option maxRecDepth 100000 in
theorem fnExactCheckCertificate_lifted (os : Os) (started : os.Started) (H : Type) (enc : TypeId × Value → H) :
    ReturnsInHanded {} Try.checked os 6 .any (Rows.fnExactCheckCertificateSpec.pre6 enc Try.prog Try.f6 Rows.fnExactCheckCertificateRow.domain false) (Rows.fnExactCheckCertificateSpec.post enc Try.prog Try.f6 false true false false) := by
  refine returnsInHanded_of_change (C := Try.checked) fnExactCheckCertificate_own started (by kernel_rfl) Try.func6
    (ChangeSpec.witness6 (enc := enc) (C := Try.checked) false ⟨#[], #[.agg #[.int .i64 0, .slice none 0 0], .agg #[.int .i64 0, .slice none 0 0, .slice none 0 0]], []⟩ 8 (by kernel_rfl) (by kernel_rfl) (by kernel_rfl) (by kernel_rfl)) ?_
  intro W base args ds gs before hval hW _ _
  refine law_post (good := fun t => [2, 22, 24, 25, 43].contains t) (tb := 4) rfl (by kernel_rfl) (of_decide_eq_true (by kernel_rfl)) (by kernel_rfl) Try.underlying4 ?_ hW (good_of (by kernel_rfl)) (of_decide_eq_true (by kernel_rfl)) hval fnExactCheckCertificate_law
  intro hl
  match ds, hl with
  | [d1, d2], _ => exact ⟨rfl, rfl, rfl⟩

/-- THE LAW. -/
theorem fnExactCheckCertificate_holds : Rows.FnExactCheckCertificateSaid :=
  OpenClaim.holds_of_wide 6 Try.f6 rfl rfl rfl rfl rfl rfl rfl ⟨rfl, rfl, rfl, rfl, rfl⟩ rfl rfl rfl rfl rfl (by kernel_rfl) Try.func6 (by kernel_rfl)
    (of_decide_eq_true (by kernel_rfl)) (by unfold Func.isWrapper; first | (rw [if_pos (by decide +kernel)]; kernel_rfl) | (rw [if_neg (by decide +kernel)]; exact ⟨rfl, rfl⟩))
    (fun os started H enc _ => fnExactCheckCertificate_lifted os started H enc)
#print axioms fnExactCheckCertificate_holds
end Go.Proofs.Ytojnbclanknnhaa
