/- Contracts: distinguishing words, outputs. Conditions: none. -/
import Derived.Test.YtaicnehaodkikaaMl
import Derived.Test.YtaicnehaodkikaaPg
set_option linter.all false
namespace Go.Ab
open Go.Proofs
set_option maxRecDepth 20000
set_option maxHeartbeats 2000000

theorem k_f6before (xs ys : List Int) : Fun Try.prog n_laws_f6before [.ro none 1 (ints xs), .ro none 1 (ints ys)] (bv (befP xs ys)) := by
  refine fun_of mixed c_laws_f6before rfl ⟨rfl, trivial⟩ ?_
  simp only [A_laws_f6before, B_laws_f6before_1, go_sem, adopt_fun, Int.reduceLT, Int.reduceLE, Int.reduceToNat, Int.reduceNeg, Nat.reduceLT, Nat.reduceLeDiff, Nat.reduceMul, Nat.reduceSub, reduceIte, Nat.reduceEqDiff, Nat.reduceAdd, reduceCtorEq]
  intro hx hy
  by_cases hlen : xs.length = ys.length
  · have hne : ((xs.length : Int) != (ys.length : Int)) = false := by rw [hlen]; simp
    have hb : befP xs ys = lexP xs ys := by rw [befP, if_pos hlen]
    simp only [hne, hb, B_laws_f6before_2, B_laws_f6before_3, B_laws_f6before_4, go_sem, adopt_fun, Int.reduceLT, Int.reduceLE, Int.reduceToNat, Int.reduceNeg, Nat.reduceLT, Nat.reduceLeDiff, Nat.reduceMul, Nat.reduceSub, reduceIte, Nat.reduceEqDiff, Nat.reduceAdd, reduceCtorEq]
    refine wpD_lo (fun i => xs.length - i) (fun i => i ≤ xs.length ∧ lexP (xs.drop i) (ys.drop i) = lexP xs ys)
      (fun i : Nat => ⟨L .any [(0, .ro none 1 (ints xs)), (1, .ro none 1 (ints ys)), (5, iv i)], L .gone []⟩) 0 (by simp) (by simp only [B_laws_f6before_5, go_sem, adopt_fun, Int.reduceLT, Int.reduceLE, Int.reduceToNat, Int.reduceNeg, Nat.reduceLT, Nat.reduceLeDiff, Nat.reduceMul, Nat.reduceSub, reduceIte, Nat.reduceEqDiff, Nat.reduceAdd, reduceCtorEq]; try rfl) ?_
    rintro i ⟨hi, hti⟩
    by_cases hlt : (i : Int) < xs.length
    · have hlt1 : i < xs.length := by omega
      have hlt2 : i < ys.length := by omega
      rw [drop_getD hlt1 0, drop_getD hlt2 0] at hti
      simp only [lexP] at hti
      simp only [B_laws_f6before_5, B_laws_f6before_6, B_laws_f6before_7, intsK_getD hlt1, intsK_getD hlt2, decide_eq_true hlt, go_sem, adopt_fun, Int.reduceLT, Int.reduceLE, Int.reduceToNat, Int.reduceNeg, Nat.reduceLT, Nat.reduceLeDiff, Nat.reduceMul, Nat.reduceSub, reduceIte, Nat.reduceEqDiff, Nat.reduceAdd, reduceCtorEq]
      intro _
      refine ⟨⟨by omega, hlt1⟩, hlt1, ⟨by omega, hlt2⟩, hlt2, ?_⟩
      by_cases he : xs.getD i 0 = ys.getD i 0
      · rw [if_pos he] at hti
        have hb : (xs.getD i 0 != ys.getD i 0) = false := by rw [he]; simp
        simp only [hb, B_laws_f6before_8, B_laws_f6before_9, nat1 i _ hlt1 hx, go_sem, adopt_fun, Int.reduceLT, Int.reduceLE, Int.reduceToNat, Int.reduceNeg, Nat.reduceLT, Nat.reduceLeDiff, Nat.reduceMul, Nat.reduceSub, reduceIte, Nat.reduceEqDiff, Nat.reduceAdd, reduceCtorEq]
        exact ⟨i + 1, by omega, ⟨by omega, hti⟩, rfl⟩
      · rw [if_neg he] at hti
        have hb : (xs.getD i 0 != ys.getD i 0) = true := by simpa using he
        simp only [hb, B_laws_f6before_8, intsK_getD hlt1, intsK_getD hlt2, go_sem, adopt_fun, Int.reduceLT, Int.reduceLE, Int.reduceToNat, Int.reduceNeg, Nat.reduceLT, Nat.reduceLeDiff, Nat.reduceMul, Nat.reduceSub, reduceIte, Nat.reduceEqDiff, Nat.reduceAdd, reduceCtorEq]
        refine ⟨⟨by omega, hlt1⟩, hlt1, ⟨by omega, hlt2⟩, hlt2, ?_⟩
        rw [← hti]
    · have : i = xs.length := by omega
      subst this
      rw [List.drop_length] at hti
      simp only [B_laws_f6before_5, B_laws_f6before_6, B_laws_f6before_7, B_laws_f6before_10, decide_eq_false hlt, go_sem, adopt_fun, Int.reduceLT, Int.reduceLE, Int.reduceToNat, Int.reduceNeg, Nat.reduceLT, Nat.reduceLeDiff, Nat.reduceMul, Nat.reduceSub, reduceIte, Nat.reduceEqDiff, Nat.reduceAdd, reduceCtorEq]
      intro _
      rw [← hti]; rfl
  · have hne : ((xs.length : Int) != (ys.length : Int)) = true := by simp; omega
    have hb : befP xs ys = decide ((xs.length : Int) < ys.length) := by rw [befP, if_neg hlen]; simp
    simp only [hne, hb, B_laws_f6before_2, go_sem, adopt_fun, Int.reduceLT, Int.reduceLE, Int.reduceToNat, Int.reduceNeg, Nat.reduceLT, Nat.reduceLeDiff, Nat.reduceMul, Nat.reduceSub, reduceIte, Nat.reduceEqDiff, Nat.reduceAdd, reduceCtorEq]
    try (intro _ _)
    try simp

theorem k_Machine_isState (n o : Int) (next out : List (List Int)) (s : Int) (hn : 1 ≤ n ∧ n ≤ 10) : Fun Try.prog n_impl_Machine_isState [machA n o next out, iv s] (bv (decide (0 ≤ s) && decide (s ≤ n - 1))) := by
  refine fun_of mixed c_impl_Machine_isState rfl ⟨rfl, trivial⟩ ?_
  have w1 : IntKind.i64.wrap (n - 1) = n - 1 := w64 (by omega)
  simp only [B_impl_Machine_isState_1, A_impl_Machine_isState, w1, go_sem, adopt_fun, Int.reduceLT, Int.reduceLE, Int.reduceToNat, Int.reduceNeg, Nat.reduceLT, Nat.reduceLeDiff, Nat.reduceMul, Nat.reduceSub, reduceIte, Nat.reduceEqDiff, Nat.reduceAdd, reduceCtorEq]
  intro vs vs2
  refine call_fun (k_within s 0 (n - 1)) qCS trivial ?_
  simp only [go_sem, adopt_fun, Int.reduceLT, Int.reduceLE, Int.reduceToNat, Int.reduceNeg, Nat.reduceLT, Nat.reduceLeDiff, Nat.reduceMul, Nat.reduceSub, reduceIte, Nat.reduceEqDiff, Nat.reduceAdd, reduceCtorEq]

theorem k_Machine_code (n o : Int) (next out : List (List Int)) (g : FuncId) (caps : List AVal) (r : Bool) (hc : Caps caps) (h : machB n o next out = true → Fun Try.prog g caps (bv r)) :
    Fun Try.prog n_impl_Machine_code [machA n o next out, .clo g caps] (iv (codeI (machB n o next out) r)) := by
  refine fun_of mixed c_impl_Machine_code rfl ⟨rfl, trivial⟩ ?_
  simp only [A_impl_Machine_code, B_impl_Machine_code_1, hc.dn, go_sem, adopt_fun, Int.reduceLT, Int.reduceLE, Int.reduceToNat, Int.reduceNeg, Nat.reduceLT, Nat.reduceLeDiff, Nat.reduceMul, Nat.reduceSub, reduceIte, Nat.reduceEqDiff, Nat.reduceAdd, reduceCtorEq]
  intro vs vs2
  refine call_fun (k_ValidMachine n o next out) qCS trivial ?_
  simp only [B_impl_Machine_code_2, hc.dn, go_sem, adopt_fun, Int.reduceLT, Int.reduceLE, Int.reduceToNat, Int.reduceNeg, Nat.reduceLT, Nat.reduceLeDiff, Nat.reduceMul, Nat.reduceSub, reduceIte, Nat.reduceEqDiff, Nat.reduceAdd, reduceCtorEq]
  cases hv : machB n o next out with
  | false =>
    simp only [codeI, go_sem, adopt_fun, Int.reduceLT, Int.reduceLE, Int.reduceToNat, Int.reduceNeg, Nat.reduceLT, Nat.reduceLeDiff, Nat.reduceMul, Nat.reduceSub, reduceIte, Nat.reduceEqDiff, Nat.reduceAdd, reduceCtorEq]
  | true =>
    simp only [go_sem, adopt_fun, Int.reduceLT, Int.reduceLE, Int.reduceToNat, Int.reduceNeg, Nat.reduceLT, Nat.reduceLeDiff, Nat.reduceMul, Nat.reduceSub, reduceIte, Nat.reduceEqDiff, Nat.reduceAdd, reduceCtorEq]
    intro vs3
    refine call_fun (h hv) (hc.coe _ _ _) trivial ?_
    simp only [B_impl_Machine_code_3, B_impl_Machine_code_4, go_sem, adopt_fun, Int.reduceLT, Int.reduceLE, Int.reduceToNat, Int.reduceNeg, Nat.reduceLT, Nat.reduceLeDiff, Nat.reduceMul, Nat.reduceSub, reduceIte, Nat.reduceEqDiff, Nat.reduceAdd, reduceCtorEq]
    cases r <;> simp [codeI]

end Go.Ab
