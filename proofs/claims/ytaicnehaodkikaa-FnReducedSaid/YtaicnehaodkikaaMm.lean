/- Contracts: distinguishing words, outputs. Conditions: none. -/
import Derived.Test.YtaicnehaodkikaaMl
import Derived.Test.YtaicnehaodkikaaPg
set_option linter.all false
namespace Go.Ab
open Go.Proofs
set_option maxRecDepth 20000
set_option maxHeartbeats 2000000

theorem k_Machine_isState (n o : Int) (next out : List (List Int)) (s : Int) (hn : 1 ≤ n ∧ n ≤ 10) : Fun Try.prog n_impl_Machine_isState [machA n o next out, iv s] (bv (decide (0 ≤ s) && decide (s ≤ n - 1))) := by
  refine fun_of mixed c_impl_Machine_isState rfl ⟨rfl, trivial⟩ ?_
  have w1 : IntKind.i64.wrap (n - 1) = n - 1 := w64 (by omega)
  simp only [B_impl_Machine_isState_1, A_impl_Machine_isState, w1, go_sem, adopt_fun, Int.reduceLT, Int.reduceLE, Int.reduceToNat, Int.reduceNeg, Nat.reduceLT, Nat.reduceLeDiff, Nat.reduceMul, Nat.reduceSub, reduceIte, Nat.reduceEqDiff, Nat.reduceAdd, reduceCtorEq]
  intro vs vs2
  refine call_fun (k_within s 0 (n - 1)) qCS trivial ?_
  simp only [go_sem, adopt_fun, Int.reduceLT, Int.reduceLE, Int.reduceToNat, Int.reduceNeg, Nat.reduceLT, Nat.reduceLeDiff, Nat.reduceMul, Nat.reduceSub, reduceIte, Nat.reduceEqDiff, Nat.reduceAdd, reduceCtorEq]

theorem k_Machine_code (n o : Int) (next out : List (List Int)) (g : FuncId) (caps : List AVal) (r : Bool) (hc : Caps caps) (h : machB n o next out = true → Fun Try.prog g caps (bv r)) :
    Fun Try.prog n_impl_Machine_code [machA n o next out, .clo g caps] (iv (codeI (machB n o next out) r)) := by
  refine fun_of mixed c_impl_Machine_code rfl ⟨rfl, trivial⟩ ?_
  simp only [A_impl_Machine_code, B_impl_Machine_code_1, hc.dn, go_sem, adopt_fun, Int.reduceLT, Int.reduceLE, Int.reduceToNat, Int.reduceNeg, Nat.reduceLT, Nat.reduceLeDiff, Nat.reduceMul, Nat.reduceSub, reduceIte, Nat.reduceEqDiff, Nat.reduceAdd, reduceCtorEq]
  intro vs vs2
  refine call_fun (k_ValidMachine n o next out) qCS trivial ?_
  simp only [B_impl_Machine_code_2, hc.dn, go_sem, adopt_fun, Int.reduceLT, Int.reduceLE, Int.reduceToNat, Int.reduceNeg, Nat.reduceLT, Nat.reduceLeDiff, Nat.reduceMul, Nat.reduceSub, reduceIte, Nat.reduceEqDiff, Nat.reduceAdd, reduceCtorEq]
  cases hv : machB n o next out with
  | false =>
    simp only [codeI, go_sem, adopt_fun, Int.reduceLT, Int.reduceLE, Int.reduceToNat, Int.reduceNeg, Nat.reduceLT, Nat.reduceLeDiff, Nat.reduceMul, Nat.reduceSub, reduceIte, Nat.reduceEqDiff, Nat.reduceAdd, reduceCtorEq]
  | true =>
    simp only [go_sem, adopt_fun, Int.reduceLT, Int.reduceLE, Int.reduceToNat, Int.reduceNeg, Nat.reduceLT, Nat.reduceLeDiff, Nat.reduceMul, Nat.reduceSub, reduceIte, Nat.reduceEqDiff, Nat.reduceAdd, reduceCtorEq]
    intro vs3
    refine call_fun (h hv) (hc.coe _ _ _) trivial ?_
    simp only [B_impl_Machine_code_3, B_impl_Machine_code_4, go_sem, adopt_fun, Int.reduceLT, Int.reduceLE, Int.reduceToNat, Int.reduceNeg, Nat.reduceLT, Nat.reduceLeDiff, Nat.reduceMul, Nat.reduceSub, reduceIte, Nat.reduceEqDiff, Nat.reduceAdd, reduceCtorEq]
    cases r <;> simp [codeI]

end Go.Ab
