/- The law FnExactWordOfCertificate, as its row says it: called with any arguments it returns true, changes nothing and does not panic. Conditions: none. -/
import Derived.Test.YtljcmenocjkhjaaRows
import Derived.ProofKit
import Derived.Test.YtljcmenocjkhjaaZ9
set_option maxRecDepth 100000
set_option maxHeartbeats 4000000
set_option linter.all false
open Nat (reduceLeDiff reduceMul reduceSub reduceEqDiff reduceAdd)
open Int (reduceToNat reduceNeg reduceLE)
namespace Go.Proofs.Ytljcmenocjkhjaa
open Go Go.Ab Go.ChangeShapes Go.WideShapes Go.ChangeAt Go.RowKit
theorem fnExactWordOfCertificate_own : ownKnob Try.prog.godebug = none := by kernel_rfl
theorem fnExactWordOfCertificate_law : ∀ As, ArgsShp Try.prog Try.f3.params.toList As → Fun Try.prog 3 As (bv true) := by
  intro As h
  have h : ArgsShp Try.prog [24, 26] As := h
  obtain ⟨_, _, rfl, h1, h⟩ := args_cons h
  obtain ⟨_, _, rfl, h2, h⟩ := args_cons h
  obtain rfl := args_nil h
  obtain ⟨n1, next1, rfl⟩ := arg_aut Try.underlying24 rfl Try.underlying2 Try.underlying22 (by kernel_rfl) Try.underlying29 (by kernel_rfl) Try.underlying2 h1
  obtain ⟨k2, x2, y2, rfl⟩ := arg_cert Try.underlying26 rfl Try.underlying2 Try.underlying22 Try.underlying22 (by kernel_rfl) Try.underlying29 (by kernel_rfl) Try.underlying2 h2
  exact k_FnExactWordOfCertificate n1 next1 k2 x2 y2
set_option maxRecDepth 100000 in
theorem fnExactWordOfCertificate_lifted (os : Os) (started : os.Started) (H : Type) (enc : TypeId × Value → H) :
    ReturnsInHanded {} Try.checked os 3 .any (Rows.fnExactWordOfCertificateSpec.pre6 enc Try.prog Try.f3 Rows.fnExactWordOfCertificateRow.domain false) (Rows.fnExactWordOfCertificateSpec.post enc Try.prog Try.f3 false true false false) := by
  refine returnsInHanded_of_change (C := Try.checked) fnExactWordOfCertificate_own started (by kernel_rfl) Try.func3
    (ChangeSpec.witness6 (enc := enc) (C := Try.checked) false ⟨#[], #[.agg #[.int .i64 0, .slice none 0 0], .agg #[.int .i64 0, .slice none 0 0, .slice none 0 0]], []⟩ 8 (by kernel_rfl) (by kernel_rfl) (by kernel_rfl) (by kernel_rfl)) ?_
  intro W base args ds gs before hval hW _ _
  refine law_post (good := fun t => [2, 22, 24, 26, 29].contains t) (tb := 4) rfl (by kernel_rfl) (of_decide_eq_true (by kernel_rfl)) (by kernel_rfl) Try.underlying4 ?_ hW (good_of (by kernel_rfl)) (of_decide_eq_true (by kernel_rfl)) hval fnExactWordOfCertificate_law
  intro hl
  match ds, hl with
  | [d1, d2], _ => exact ⟨rfl, rfl, rfl⟩
theorem fnExactWordOfCertificate_holds : Rows.FnExactWordOfCertificateSaid :=
  OpenClaim.holds_of_wide 3 Try.f3 rfl rfl rfl rfl rfl rfl rfl ⟨rfl, rfl, rfl, rfl, rfl⟩ rfl rfl rfl rfl rfl (by kernel_rfl) Try.func3 (by kernel_rfl)
    (of_decide_eq_true (by kernel_rfl)) (by unfold Func.isWrapper; first | (rw [if_pos (by decide +kernel)]; kernel_rfl) | (rw [if_neg (by decide +kernel)]; exact ⟨rfl, rfl⟩))
    (fun os started H enc _ => fnExactWordOfCertificate_lifted os started H enc)
#print axioms fnExactWordOfCertificate_holds
end Go.Proofs.Ytljcmenocjkhjaa
