/- Contracts and what they lean on, part 8. Conditions: none. -/
import Derived.Test.YtflkjhefiphkjaaZ7
set_option maxRecDepth 100000
set_option maxHeartbeats 4000000
set_option linter.all false
open Nat (reduceLeDiff reduceMul reduceSub reduceEqDiff reduceAdd)
open Int (reduceToNat reduceNeg reduceLE)
namespace Go.Ab
open Go.Proofs
theorem wSucc {j : Nat} (h : j ≤ 100) : IntKind.i64.wrap ((j : Int) + 1) = ((j + 1 : Nat) : Int) := by rw [w64 (by omega)]; simp
theorem k_markSS4 (y1 y2 y3 y4 : List Int) (k : Int) (h : 0 ≤ k ∧ k ≤ 1000000) (hy1 : (y1.length : Int) ≤ 1000) (hy2 : (y2.length : Int) ≤ 1000) (hy3 : (y3.length : Int) ≤ 1000) (hy4 : (y4.length : Int) ≤ 1000) :
    Con Try.prog nz5 [.row 0 1 true [.own 5001 1, .own 5002 2, .own 5003 3, .own 5004 4], .row 1 1 true (ints y1), .row 2 1 true (ints y2), .row 3 1 true (ints y3), .row 4 1 true (ints y4)] [.own 5000 0, iv k] true
      fun outs rows res => outs = [.row 0 1 true [.own 5001 1, .own 5002 2, .own 5003 3, .own 5004 4], .row 1 1 true (ints (seqI (k) y1.length)), .row 2 1 true (ints (seqI (k + y1.length) y2.length)), .row 3 1 true (ints (seqI (k + y1.length + y2.length) y3.length)), .row 4 1 true (ints (seqI (k + y1.length + y2.length + y3.length) y4.length))] ∧ rows = [] ∧ res = iv (k + y1.length + y2.length + y3.length + y4.length) := by
  refine con_sh mixed cz1c rfl (by simp) ?_
  simp only [Az1a, Bz19, Bz17, yzp, yz8, go_sem, yz0, Int.reduceLT, reduceLE, reduceToNat, reduceNeg, Nat.reduceLT, reduceLeDiff, reduceMul, reduceSub, reduceIte, reduceEqDiff, reduceAdd, reduceCtorEq]
  intro vs0 U0 hN0 vs1 U1 hN1
  refine wpD_lp (fun i => 4 - i) (fun i => i ≤ 4)
    (fun i : Nat => ⟨L .any [(0, .own 5000 0), (1, iv (if i = 0 then k else if i = 1 then k + y1.length else if i = 2 then k + y1.length + y2.length else if i = 3 then k + y1.length + y2.length + y3.length else k + y1.length + y2.length + y3.length + y4.length)), (5, iv i)], L .gone [(5000, .row 0 1 true [.own 5001 1, .own 5002 2, .own 5003 3, .own 5004 4]), (5001, .row 1 1 true (ints (if i ≤ 0 then y1 else seqI (k) y1.length))), (5002, .row 2 1 true (ints (if i ≤ 1 then y2 else seqI (k + y1.length) y2.length))), (5003, .row 3 1 true (ints (if i ≤ 2 then y3 else seqI (k + y1.length + y2.length) y3.length))), (5004, .row 4 1 true (ints (if i ≤ 3 then y4 else seqI (k + y1.length + y2.length + y3.length) y4.length))), (5005, .gone), (5006, .gone), (5007, .gone), (5008, .gone), (5009, .gone)]⟩) 0 (by simp)
    (by simp only [Bz0, Nat.zero_le, if_true, go_sem, yz0, Int.reduceLT, reduceLE, reduceToNat, reduceNeg, Nat.reduceLT, reduceLeDiff, reduceMul, reduceSub, reduceIte, reduceEqDiff, reduceAdd, reduceCtorEq]; try rfl) ?_
  intro i hi
  obtain rfl | rfl | rfl | rfl | rfl : i = 0 ∨ i = 1 ∨ i = 2 ∨ i = 3 ∨ i = 4 := by omega
  rotate_left 4
  · simp only [Bz0, Bz1, Bz18, Nat.le_refl, Nat.zero_le, if_true, if_false, yzp, yz8, go_sem, yz0, Int.reduceLT, reduceLE, reduceToNat, reduceNeg, Nat.reduceLT, reduceLeDiff, reduceMul, reduceSub, reduceIte, reduceEqDiff, reduceAdd, reduceCtorEq]
    intro vs2 U2 hN2 hM
    have e : decide (((4 : Nat) : Int) < ((4 : Nat) : Int)) = false := by decide
    simp only [e, yzp, yz8, go_sem, yz0, Int.reduceLT, reduceLE, reduceToNat, reduceNeg, Nat.reduceLT, reduceLeDiff, reduceMul, reduceSub, reduceIte, reduceEqDiff, reduceAdd, reduceCtorEq]
    intro vs3 U3 hN3
    refine ⟨[], by simp, by simp, by simp, ?_⟩
    simp only [List.nil_append, List.cons_append, Nat.add_zero, ren_own_in, Nat.not_lt_zero, range1, yz1v, yz22, ren_ro, rnNm_n, yz21, rnNm_o, rnNm_s, ren_st, yz20, yz1h, yz12, yzl, yz1o, yz1q, yz1p, yz1f, yz1r, yzv, yzz, yzx, yz10, yz1b, yz1a, yzq, yzs, yz11, yzw, yz1c, yz19, List.range_zero, yzu, yzr, yzy, yz1n, yz1g, yz1m, AVal.fresh, freshL, yzk, yz1d, AObj.fresh, id, Option.isSome_some, or_true, true_or, go_sem, yz0, Int.reduceLT, reduceLE, reduceToNat, reduceNeg, Nat.reduceLT, reduceLeDiff, reduceMul, reduceSub, reduceIte, reduceEqDiff, reduceAdd, reduceCtorEq]
    try simp
  all_goals
    simp only [Bz0, Bz1, Nat.le_refl, Nat.zero_le, if_true, if_false, yzp, yz8, go_sem, yz0, Int.reduceLT, reduceLE, reduceToNat, reduceNeg, Nat.reduceLT, reduceLeDiff, reduceMul, reduceSub, reduceIte, reduceEqDiff, reduceAdd, reduceCtorEq]
    intro vs2 U2 hN2 hM
    simp only [Int.ofNat_lt, decide_true, Bz7, wpD_gh, yzp, yz8, go_sem, yz0, Int.reduceLT, reduceLE, reduceToNat, reduceNeg, Nat.reduceLT, reduceLeDiff, reduceMul, reduceSub, reduceIte, reduceEqDiff, reduceAdd, reduceCtorEq]
    intro _
    refine ⟨[], ?_⟩
    simp only [gwp_nil, yzp, yz8, go_sem, yz0, Int.reduceLT, reduceLE, reduceToNat, reduceNeg, Nat.reduceLT, reduceLeDiff, reduceMul, reduceSub, reduceIte, reduceEqDiff, reduceAdd, reduceCtorEq]
    intro vs3 U3 hN3
    refine ⟨by omega, ?_⟩
    first | refine yz1l (yzm y1 true _ (by omega) (by omega)) rfl rfl ?_ | refine yz1l (yzm y2 true _ (by omega) (by omega)) rfl rfl ?_ | refine yz1l (yzm y3 true _ (by omega) (by omega)) rfl rfl ?_ | refine yz1l (yzm y4 true _ (by omega) (by omega)) rfl rfl ?_
    simp only [Bz6, wSucc, yzp, yz8, go_sem, yz0, Int.reduceLT, reduceLE, reduceToNat, reduceNeg, Nat.reduceLT, reduceLeDiff, reduceMul, reduceSub, reduceIte, reduceEqDiff, reduceAdd, reduceCtorEq]
    intro vs4 U4 hN4
    first | exact ⟨1, by omega, by omega, rfl⟩ | exact ⟨2, by omega, by omega, rfl⟩ | exact ⟨3, by omega, by omega, rfl⟩ | exact ⟨4, by omega, by omega, rfl⟩
theorem k_markSS5 (y1 y2 y3 y4 y5 : List Int) (k : Int) (h : 0 ≤ k ∧ k ≤ 1000000) (hy1 : (y1.length : Int) ≤ 1000) (hy2 : (y2.length : Int) ≤ 1000) (hy3 : (y3.length : Int) ≤ 1000) (hy4 : (y4.length : Int) ≤ 1000) (hy5 : (y5.length : Int) ≤ 1000) :
    Con Try.prog nz5 [.row 0 1 true [.own 5001 1, .own 5002 2, .own 5003 3, .own 5004 4, .own 5005 5], .row 1 1 true (ints y1), .row 2 1 true (ints y2), .row 3 1 true (ints y3), .row 4 1 true (ints y4), .row 5 1 true (ints y5)] [.own 5000 0, iv k] true
      fun outs rows res => outs = [.row 0 1 true [.own 5001 1, .own 5002 2, .own 5003 3, .own 5004 4, .own 5005 5], .row 1 1 true (ints (seqI (k) y1.length)), .row 2 1 true (ints (seqI (k + y1.length) y2.length)), .row 3 1 true (ints (seqI (k + y1.length + y2.length) y3.length)), .row 4 1 true (ints (seqI (k + y1.length + y2.length + y3.length) y4.length)), .row 5 1 true (ints (seqI (k + y1.length + y2.length + y3.length + y4.length) y5.length))] ∧ rows = [] ∧ res = iv (k + y1.length + y2.length + y3.length + y4.length + y5.length) := by
  refine con_sh mixed cz1c rfl (by simp) ?_
  simp only [Az1a, Bz19, Bz17, yzp, yz8, go_sem, yz0, Int.reduceLT, reduceLE, reduceToNat, reduceNeg, Nat.reduceLT, reduceLeDiff, reduceMul, reduceSub, reduceIte, reduceEqDiff, reduceAdd, reduceCtorEq]
  intro vs0 U0 hN0 vs1 U1 hN1
  refine wpD_lp (fun i => 5 - i) (fun i => i ≤ 5)
    (fun i : Nat => ⟨L .any [(0, .own 5000 0), (1, iv (if i = 0 then k else if i = 1 then k + y1.length else if i = 2 then k + y1.length + y2.length else if i = 3 then k + y1.length + y2.length + y3.length else if i = 4 then k + y1.length + y2.length + y3.length + y4.length else k + y1.length + y2.length + y3.length + y4.length + y5.length)), (5, iv i)], L .gone [(5000, .row 0 1 true [.own 5001 1, .own 5002 2, .own 5003 3, .own 5004 4, .own 5005 5]), (5001, .row 1 1 true (ints (if i ≤ 0 then y1 else seqI (k) y1.length))), (5002, .row 2 1 true (ints (if i ≤ 1 then y2 else seqI (k + y1.length) y2.length))), (5003, .row 3 1 true (ints (if i ≤ 2 then y3 else seqI (k + y1.length + y2.length) y3.length))), (5004, .row 4 1 true (ints (if i ≤ 3 then y4 else seqI (k + y1.length + y2.length + y3.length) y4.length))), (5005, .row 5 1 true (ints (if i ≤ 4 then y5 else seqI (k + y1.length + y2.length + y3.length + y4.length) y5.length))), (5006, .gone), (5007, .gone), (5008, .gone), (5009, .gone)]⟩) 0 (by simp)
    (by simp only [Bz0, Nat.zero_le, if_true, go_sem, yz0, Int.reduceLT, reduceLE, reduceToNat, reduceNeg, Nat.reduceLT, reduceLeDiff, reduceMul, reduceSub, reduceIte, reduceEqDiff, reduceAdd, reduceCtorEq]; try rfl) ?_
  intro i hi
  obtain rfl | rfl | rfl | rfl | rfl | rfl : i = 0 ∨ i = 1 ∨ i = 2 ∨ i = 3 ∨ i = 4 ∨ i = 5 := by omega
  rotate_left 5
  · simp only [Bz0, Bz1, Bz18, Nat.le_refl, Nat.zero_le, if_true, if_false, yzp, yz8, go_sem, yz0, Int.reduceLT, reduceLE, reduceToNat, reduceNeg, Nat.reduceLT, reduceLeDiff, reduceMul, reduceSub, reduceIte, reduceEqDiff, reduceAdd, reduceCtorEq]
    intro vs2 U2 hN2 hM
    have e : decide (((5 : Nat) : Int) < ((5 : Nat) : Int)) = false := by decide
    simp only [e, yzp, yz8, go_sem, yz0, Int.reduceLT, reduceLE, reduceToNat, reduceNeg, Nat.reduceLT, reduceLeDiff, reduceMul, reduceSub, reduceIte, reduceEqDiff, reduceAdd, reduceCtorEq]
    intro vs3 U3 hN3
    refine ⟨[], by simp, by simp, by simp, ?_⟩
    simp only [List.nil_append, List.cons_append, Nat.add_zero, ren_own_in, Nat.not_lt_zero, range1, yz1v, yz22, ren_ro, rnNm_n, yz21, rnNm_o, rnNm_s, ren_st, yz20, yz1h, yz12, yzl, yz1o, yz1q, yz1p, yz1f, yz1r, yzv, yzz, yzx, yz10, yz1b, yz1a, yzq, yzs, yz11, yzw, yz1c, yz19, List.range_zero, yzu, yzr, yzy, yz1n, yz1g, yz1m, AVal.fresh, freshL, yzk, yz1d, AObj.fresh, id, Option.isSome_some, or_true, true_or, go_sem, yz0, Int.reduceLT, reduceLE, reduceToNat, reduceNeg, Nat.reduceLT, reduceLeDiff, reduceMul, reduceSub, reduceIte, reduceEqDiff, reduceAdd, reduceCtorEq]
    try simp
  all_goals
    simp only [Bz0, Bz1, Nat.le_refl, Nat.zero_le, if_true, if_false, yzp, yz8, go_sem, yz0, Int.reduceLT, reduceLE, reduceToNat, reduceNeg, Nat.reduceLT, reduceLeDiff, reduceMul, reduceSub, reduceIte, reduceEqDiff, reduceAdd, reduceCtorEq]
    intro vs2 U2 hN2 hM
    simp only [Int.ofNat_lt, decide_true, Bz7, wpD_gh, yzp, yz8, go_sem, yz0, Int.reduceLT, reduceLE, reduceToNat, reduceNeg, Nat.reduceLT, reduceLeDiff, reduceMul, reduceSub, reduceIte, reduceEqDiff, reduceAdd, reduceCtorEq]
    intro _
    refine ⟨[], ?_⟩
    simp only [gwp_nil, yzp, yz8, go_sem, yz0, Int.reduceLT, reduceLE, reduceToNat, reduceNeg, Nat.reduceLT, reduceLeDiff, reduceMul, reduceSub, reduceIte, reduceEqDiff, reduceAdd, reduceCtorEq]
    intro vs3 U3 hN3
    refine ⟨by omega, ?_⟩
    first | refine yz1l (yzm y1 true _ (by omega) (by omega)) rfl rfl ?_ | refine yz1l (yzm y2 true _ (by omega) (by omega)) rfl rfl ?_ | refine yz1l (yzm y3 true _ (by omega) (by omega)) rfl rfl ?_ | refine yz1l (yzm y4 true _ (by omega) (by omega)) rfl rfl ?_ | refine yz1l (yzm y5 true _ (by omega) (by omega)) rfl rfl ?_
    simp only [Bz6, wSucc, yzp, yz8, go_sem, yz0, Int.reduceLT, reduceLE, reduceToNat, reduceNeg, Nat.reduceLT, reduceLeDiff, reduceMul, reduceSub, reduceIte, reduceEqDiff, reduceAdd, reduceCtorEq]
    intro vs4 U4 hN4
    first | exact ⟨1, by omega, by omega, rfl⟩ | exact ⟨2, by omega, by omega, rfl⟩ | exact ⟨3, by omega, by omega, rfl⟩ | exact ⟨4, by omega, by omega, rfl⟩ | exact ⟨5, by omega, by omega, rfl⟩
theorem k_markSS6 (y1 y2 y3 y4 y5 y6 : List Int) (k : Int) (h : 0 ≤ k ∧ k ≤ 1000000) (hy1 : (y1.length : Int) ≤ 1000) (hy2 : (y2.length : Int) ≤ 1000) (hy3 : (y3.length : Int) ≤ 1000) (hy4 : (y4.length : Int) ≤ 1000) (hy5 : (y5.length : Int) ≤ 1000) (hy6 : (y6.length : Int) ≤ 1000) :
    Con Try.prog nz5 [.row 0 1 true [.own 5001 1, .own 5002 2, .own 5003 3, .own 5004 4, .own 5005 5, .own 5006 6], .row 1 1 true (ints y1), .row 2 1 true (ints y2), .row 3 1 true (ints y3), .row 4 1 true (ints y4), .row 5 1 true (ints y5), .row 6 1 true (ints y6)] [.own 5000 0, iv k] true
      fun outs rows res => outs = [.row 0 1 true [.own 5001 1, .own 5002 2, .own 5003 3, .own 5004 4, .own 5005 5, .own 5006 6], .row 1 1 true (ints (seqI (k) y1.length)), .row 2 1 true (ints (seqI (k + y1.length) y2.length)), .row 3 1 true (ints (seqI (k + y1.length + y2.length) y3.length)), .row 4 1 true (ints (seqI (k + y1.length + y2.length + y3.length) y4.length)), .row 5 1 true (ints (seqI (k + y1.length + y2.length + y3.length + y4.length) y5.length)), .row 6 1 true (ints (seqI (k + y1.length + y2.length + y3.length + y4.length + y5.length) y6.length))] ∧ rows = [] ∧ res = iv (k + y1.length + y2.length + y3.length + y4.length + y5.length + y6.length) := by
  refine con_sh mixed cz1c rfl (by simp) ?_
  simp only [Az1a, Bz19, Bz17, yzp, yz8, go_sem, yz0, Int.reduceLT, reduceLE, reduceToNat, reduceNeg, Nat.reduceLT, reduceLeDiff, reduceMul, reduceSub, reduceIte, reduceEqDiff, reduceAdd, reduceCtorEq]
  intro vs0 U0 hN0 vs1 U1 hN1
  refine wpD_lp (fun i => 6 - i) (fun i => i ≤ 6)
    (fun i : Nat => ⟨L .any [(0, .own 5000 0), (1, iv (if i = 0 then k else if i = 1 then k + y1.length else if i = 2 then k + y1.length + y2.length else if i = 3 then k + y1.length + y2.length + y3.length else if i = 4 then k + y1.length + y2.length + y3.length + y4.length else if i = 5 then k + y1.length + y2.length + y3.length + y4.length + y5.length else k + y1.length + y2.length + y3.length + y4.length + y5.length + y6.length)), (5, iv i)], L .gone [(5000, .row 0 1 true [.own 5001 1, .own 5002 2, .own 5003 3, .own 5004 4, .own 5005 5, .own 5006 6]), (5001, .row 1 1 true (ints (if i ≤ 0 then y1 else seqI (k) y1.length))), (5002, .row 2 1 true (ints (if i ≤ 1 then y2 else seqI (k + y1.length) y2.length))), (5003, .row 3 1 true (ints (if i ≤ 2 then y3 else seqI (k + y1.length + y2.length) y3.length))), (5004, .row 4 1 true (ints (if i ≤ 3 then y4 else seqI (k + y1.length + y2.length + y3.length) y4.length))), (5005, .row 5 1 true (ints (if i ≤ 4 then y5 else seqI (k + y1.length + y2.length + y3.length + y4.length) y5.length))), (5006, .row 6 1 true (ints (if i ≤ 5 then y6 else seqI (k + y1.length + y2.length + y3.length + y4.length + y5.length) y6.length))), (5007, .gone), (5008, .gone), (5009, .gone)]⟩) 0 (by simp)
    (by simp only [Bz0, Nat.zero_le, if_true, go_sem, yz0, Int.reduceLT, reduceLE, reduceToNat, reduceNeg, Nat.reduceLT, reduceLeDiff, reduceMul, reduceSub, reduceIte, reduceEqDiff, reduceAdd, reduceCtorEq]; try rfl) ?_
  intro i hi
  obtain rfl | rfl | rfl | rfl | rfl | rfl | rfl : i = 0 ∨ i = 1 ∨ i = 2 ∨ i = 3 ∨ i = 4 ∨ i = 5 ∨ i = 6 := by omega
  rotate_left 6
  · simp only [Bz0, Bz1, Bz18, Nat.le_refl, Nat.zero_le, if_true, if_false, yzp, yz8, go_sem, yz0, Int.reduceLT, reduceLE, reduceToNat, reduceNeg, Nat.reduceLT, reduceLeDiff, reduceMul, reduceSub, reduceIte, reduceEqDiff, reduceAdd, reduceCtorEq]
    intro vs2 U2 hN2 hM
    have e : decide (((6 : Nat) : Int) < ((6 : Nat) : Int)) = false := by decide
    simp only [e, yzp, yz8, go_sem, yz0, Int.reduceLT, reduceLE, reduceToNat, reduceNeg, Nat.reduceLT, reduceLeDiff, reduceMul, reduceSub, reduceIte, reduceEqDiff, reduceAdd, reduceCtorEq]
    intro vs3 U3 hN3
    refine ⟨[], by simp, by simp, by simp, ?_⟩
    simp only [List.nil_append, List.cons_append, Nat.add_zero, ren_own_in, Nat.not_lt_zero, range1, yz1v, yz22, ren_ro, rnNm_n, yz21, rnNm_o, rnNm_s, ren_st, yz20, yz1h, yz12, yzl, yz1o, yz1q, yz1p, yz1f, yz1r, yzv, yzz, yzx, yz10, yz1b, yz1a, yzq, yzs, yz11, yzw, yz1c, yz19, List.range_zero, yzu, yzr, yzy, yz1n, yz1g, yz1m, AVal.fresh, freshL, yzk, yz1d, AObj.fresh, id, Option.isSome_some, or_true, true_or, go_sem, yz0, Int.reduceLT, reduceLE, reduceToNat, reduceNeg, Nat.reduceLT, reduceLeDiff, reduceMul, reduceSub, reduceIte, reduceEqDiff, reduceAdd, reduceCtorEq]
    try simp
  all_goals
    simp only [Bz0, Bz1, Nat.le_refl, Nat.zero_le, if_true, if_false, yzp, yz8, go_sem, yz0, Int.reduceLT, reduceLE, reduceToNat, reduceNeg, Nat.reduceLT, reduceLeDiff, reduceMul, reduceSub, reduceIte, reduceEqDiff, reduceAdd, reduceCtorEq]
    intro vs2 U2 hN2 hM
    simp only [Int.ofNat_lt, decide_true, Bz7, wpD_gh, yzp, yz8, go_sem, yz0, Int.reduceLT, reduceLE, reduceToNat, reduceNeg, Nat.reduceLT, reduceLeDiff, reduceMul, reduceSub, reduceIte, reduceEqDiff, reduceAdd, reduceCtorEq]
    intro _
    refine ⟨[], ?_⟩
    simp only [gwp_nil, yzp, yz8, go_sem, yz0, Int.reduceLT, reduceLE, reduceToNat, reduceNeg, Nat.reduceLT, reduceLeDiff, reduceMul, reduceSub, reduceIte, reduceEqDiff, reduceAdd, reduceCtorEq]
    intro vs3 U3 hN3
    refine ⟨by omega, ?_⟩
    first | refine yz1l (yzm y1 true _ (by omega) (by omega)) rfl rfl ?_ | refine yz1l (yzm y2 true _ (by omega) (by omega)) rfl rfl ?_ | refine yz1l (yzm y3 true _ (by omega) (by omega)) rfl rfl ?_ | refine yz1l (yzm y4 true _ (by omega) (by omega)) rfl rfl ?_ | refine yz1l (yzm y5 true _ (by omega) (by omega)) rfl rfl ?_ | refine yz1l (yzm y6 true _ (by omega) (by omega)) rfl rfl ?_
    simp only [Bz6, wSucc, yzp, yz8, go_sem, yz0, Int.reduceLT, reduceLE, reduceToNat, reduceNeg, Nat.reduceLT, reduceLeDiff, reduceMul, reduceSub, reduceIte, reduceEqDiff, reduceAdd, reduceCtorEq]
    intro vs4 U4 hN4
    first | exact ⟨1, by omega, by omega, rfl⟩ | exact ⟨2, by omega, by omega, rfl⟩ | exact ⟨3, by omega, by omega, rfl⟩ | exact ⟨4, by omega, by omega, rfl⟩ | exact ⟨5, by omega, by omega, rfl⟩ | exact ⟨6, by omega, by omega, rfl⟩
theorem k_markSS7 (y1 y2 y3 y4 y5 y6 y7 : List Int) (k : Int) (h : 0 ≤ k ∧ k ≤ 1000000) (hy1 : (y1.length : Int) ≤ 1000) (hy2 : (y2.length : Int) ≤ 1000) (hy3 : (y3.length : Int) ≤ 1000) (hy4 : (y4.length : Int) ≤ 1000) (hy5 : (y5.length : Int) ≤ 1000) (hy6 : (y6.length : Int) ≤ 1000) (hy7 : (y7.length : Int) ≤ 1000) :
    Con Try.prog nz5 [.row 0 1 true [.own 5001 1, .own 5002 2, .own 5003 3, .own 5004 4, .own 5005 5, .own 5006 6, .own 5007 7], .row 1 1 true (ints y1), .row 2 1 true (ints y2), .row 3 1 true (ints y3), .row 4 1 true (ints y4), .row 5 1 true (ints y5), .row 6 1 true (ints y6), .row 7 1 true (ints y7)] [.own 5000 0, iv k] true
      fun outs rows res => outs = [.row 0 1 true [.own 5001 1, .own 5002 2, .own 5003 3, .own 5004 4, .own 5005 5, .own 5006 6, .own 5007 7], .row 1 1 true (ints (seqI (k) y1.length)), .row 2 1 true (ints (seqI (k + y1.length) y2.length)), .row 3 1 true (ints (seqI (k + y1.length + y2.length) y3.length)), .row 4 1 true (ints (seqI (k + y1.length + y2.length + y3.length) y4.length)), .row 5 1 true (ints (seqI (k + y1.length + y2.length + y3.length + y4.length) y5.length)), .row 6 1 true (ints (seqI (k + y1.length + y2.length + y3.length + y4.length + y5.length) y6.length)), .row 7 1 true (ints (seqI (k + y1.length + y2.length + y3.length + y4.length + y5.length + y6.length) y7.length))] ∧ rows = [] ∧ res = iv (k + y1.length + y2.length + y3.length + y4.length + y5.length + y6.length + y7.length) := by
  refine con_sh mixed cz1c rfl (by simp) ?_
  simp only [Az1a, Bz19, Bz17, yzp, yz8, go_sem, yz0, Int.reduceLT, reduceLE, reduceToNat, reduceNeg, Nat.reduceLT, reduceLeDiff, reduceMul, reduceSub, reduceIte, reduceEqDiff, reduceAdd, reduceCtorEq]
  intro vs0 U0 hN0 vs1 U1 hN1
  refine wpD_lp (fun i => 7 - i) (fun i => i ≤ 7)
    (fun i : Nat => ⟨L .any [(0, .own 5000 0), (1, iv (if i = 0 then k else if i = 1 then k + y1.length else if i = 2 then k + y1.length + y2.length else if i = 3 then k + y1.length + y2.length + y3.length else if i = 4 then k + y1.length + y2.length + y3.length + y4.length else if i = 5 then k + y1.length + y2.length + y3.length + y4.length + y5.length else if i = 6 then k + y1.length + y2.length + y3.length + y4.length + y5.length + y6.length else k + y1.length + y2.length + y3.length + y4.length + y5.length + y6.length + y7.length)), (5, iv i)], L .gone [(5000, .row 0 1 true [.own 5001 1, .own 5002 2, .own 5003 3, .own 5004 4, .own 5005 5, .own 5006 6, .own 5007 7]), (5001, .row 1 1 true (ints (if i ≤ 0 then y1 else seqI (k) y1.length))), (5002, .row 2 1 true (ints (if i ≤ 1 then y2 else seqI (k + y1.length) y2.length))), (5003, .row 3 1 true (ints (if i ≤ 2 then y3 else seqI (k + y1.length + y2.length) y3.length))), (5004, .row 4 1 true (ints (if i ≤ 3 then y4 else seqI (k + y1.length + y2.length + y3.length) y4.length))), (5005, .row 5 1 true (ints (if i ≤ 4 then y5 else seqI (k + y1.length + y2.length + y3.length + y4.length) y5.length))), (5006, .row 6 1 true (ints (if i ≤ 5 then y6 else seqI (k + y1.length + y2.length + y3.length + y4.length + y5.length) y6.length))), (5007, .row 7 1 true (ints (if i ≤ 6 then y7 else seqI (k + y1.length + y2.length + y3.length + y4.length + y5.length + y6.length) y7.length))), (5008, .gone), (5009, .gone)]⟩) 0 (by simp)
    (by simp only [Bz0, Nat.zero_le, if_true, go_sem, yz0, Int.reduceLT, reduceLE, reduceToNat, reduceNeg, Nat.reduceLT, reduceLeDiff, reduceMul, reduceSub, reduceIte, reduceEqDiff, reduceAdd, reduceCtorEq]; try rfl) ?_
  intro i hi
  obtain rfl | rfl | rfl | rfl | rfl | rfl | rfl | rfl : i = 0 ∨ i = 1 ∨ i = 2 ∨ i = 3 ∨ i = 4 ∨ i = 5 ∨ i = 6 ∨ i = 7 := by omega
  rotate_left 7
  · simp only [Bz0, Bz1, Bz18, Nat.le_refl, Nat.zero_le, if_true, if_false, yzp, yz8, go_sem, yz0, Int.reduceLT, reduceLE, reduceToNat, reduceNeg, Nat.reduceLT, reduceLeDiff, reduceMul, reduceSub, reduceIte, reduceEqDiff, reduceAdd, reduceCtorEq]
    intro vs2 U2 hN2 hM
    have e : decide (((7 : Nat) : Int) < ((7 : Nat) : Int)) = false := by decide
    simp only [e, yzp, yz8, go_sem, yz0, Int.reduceLT, reduceLE, reduceToNat, reduceNeg, Nat.reduceLT, reduceLeDiff, reduceMul, reduceSub, reduceIte, reduceEqDiff, reduceAdd, reduceCtorEq]
    intro vs3 U3 hN3
    refine ⟨[], by simp, by simp, by simp, ?_⟩
    simp only [List.nil_append, List.cons_append, Nat.add_zero, ren_own_in, Nat.not_lt_zero, range1, yz1v, yz22, ren_ro, rnNm_n, yz21, rnNm_o, rnNm_s, ren_st, yz20, yz1h, yz12, yzl, yz1o, yz1q, yz1p, yz1f, yz1r, yzv, yzz, yzx, yz10, yz1b, yz1a, yzq, yzs, yz11, yzw, yz1c, yz19, List.range_zero, yzu, yzr, yzy, yz1n, yz1g, yz1m, AVal.fresh, freshL, yzk, yz1d, AObj.fresh, id, Option.isSome_some, or_true, true_or, go_sem, yz0, Int.reduceLT, reduceLE, reduceToNat, reduceNeg, Nat.reduceLT, reduceLeDiff, reduceMul, reduceSub, reduceIte, reduceEqDiff, reduceAdd, reduceCtorEq]
    try simp
  all_goals
    simp only [Bz0, Bz1, Nat.le_refl, Nat.zero_le, if_true, if_false, yzp, yz8, go_sem, yz0, Int.reduceLT, reduceLE, reduceToNat, reduceNeg, Nat.reduceLT, reduceLeDiff, reduceMul, reduceSub, reduceIte, reduceEqDiff, reduceAdd, reduceCtorEq]
    intro vs2 U2 hN2 hM
    simp only [Int.ofNat_lt, decide_true, Bz7, wpD_gh, yzp, yz8, go_sem, yz0, Int.reduceLT, reduceLE, reduceToNat, reduceNeg, Nat.reduceLT, reduceLeDiff, reduceMul, reduceSub, reduceIte, reduceEqDiff, reduceAdd, reduceCtorEq]
    intro _
    refine ⟨[], ?_⟩
    simp only [gwp_nil, yzp, yz8, go_sem, yz0, Int.reduceLT, reduceLE, reduceToNat, reduceNeg, Nat.reduceLT, reduceLeDiff, reduceMul, reduceSub, reduceIte, reduceEqDiff, reduceAdd, reduceCtorEq]
    intro vs3 U3 hN3
    refine ⟨by omega, ?_⟩
    first | refine yz1l (yzm y1 true _ (by omega) (by omega)) rfl rfl ?_ | refine yz1l (yzm y2 true _ (by omega) (by omega)) rfl rfl ?_ | refine yz1l (yzm y3 true _ (by omega) (by omega)) rfl rfl ?_ | refine yz1l (yzm y4 true _ (by omega) (by omega)) rfl rfl ?_ | refine yz1l (yzm y5 true _ (by omega) (by omega)) rfl rfl ?_ | refine yz1l (yzm y6 true _ (by omega) (by omega)) rfl rfl ?_ | refine yz1l (yzm y7 true _ (by omega) (by omega)) rfl rfl ?_
    simp only [Bz6, wSucc, yzp, yz8, go_sem, yz0, Int.reduceLT, reduceLE, reduceToNat, reduceNeg, Nat.reduceLT, reduceLeDiff, reduceMul, reduceSub, reduceIte, reduceEqDiff, reduceAdd, reduceCtorEq]
    intro vs4 U4 hN4
    first | exact ⟨1, by omega, by omega, rfl⟩ | exact ⟨2, by omega, by omega, rfl⟩ | exact ⟨3, by omega, by omega, rfl⟩ | exact ⟨4, by omega, by omega, rfl⟩ | exact ⟨5, by omega, by omega, rfl⟩ | exact ⟨6, by omega, by omega, rfl⟩ | exact ⟨7, by omega, by omega, rfl⟩
theorem k_markSS8 (y1 y2 y3 y4 y5 y6 y7 y8 : List Int) (k : Int) (h : 0 ≤ k ∧ k ≤ 1000000) (hy1 : (y1.length : Int) ≤ 1000) (hy2 : (y2.length : Int) ≤ 1000) (hy3 : (y3.length : Int) ≤ 1000) (hy4 : (y4.length : Int) ≤ 1000) (hy5 : (y5.length : Int) ≤ 1000) (hy6 : (y6.length : Int) ≤ 1000) (hy7 : (y7.length : Int) ≤ 1000) (hy8 : (y8.length : Int) ≤ 1000) :
    Con Try.prog nz5 [.row 0 1 true [.own 5001 1, .own 5002 2, .own 5003 3, .own 5004 4, .own 5005 5, .own 5006 6, .own 5007 7, .own 5008 8], .row 1 1 true (ints y1), .row 2 1 true (ints y2), .row 3 1 true (ints y3), .row 4 1 true (ints y4), .row 5 1 true (ints y5), .row 6 1 true (ints y6), .row 7 1 true (ints y7), .row 8 1 true (ints y8)] [.own 5000 0, iv k] true
      fun outs rows res => outs = [.row 0 1 true [.own 5001 1, .own 5002 2, .own 5003 3, .own 5004 4, .own 5005 5, .own 5006 6, .own 5007 7, .own 5008 8], .row 1 1 true (ints (seqI (k) y1.length)), .row 2 1 true (ints (seqI (k + y1.length) y2.length)), .row 3 1 true (ints (seqI (k + y1.length + y2.length) y3.length)), .row 4 1 true (ints (seqI (k + y1.length + y2.length + y3.length) y4.length)), .row 5 1 true (ints (seqI (k + y1.length + y2.length + y3.length + y4.length) y5.length)), .row 6 1 true (ints (seqI (k + y1.length + y2.length + y3.length + y4.length + y5.length) y6.length)), .row 7 1 true (ints (seqI (k + y1.length + y2.length + y3.length + y4.length + y5.length + y6.length) y7.length)), .row 8 1 true (ints (seqI (k + y1.length + y2.length + y3.length + y4.length + y5.length + y6.length + y7.length) y8.length))] ∧ rows = [] ∧ res = iv (k + y1.length + y2.length + y3.length + y4.length + y5.length + y6.length + y7.length + y8.length) := by
  refine con_sh mixed cz1c rfl (by simp) ?_
  simp only [Az1a, Bz19, Bz17, yzp, yz8, go_sem, yz0, Int.reduceLT, reduceLE, reduceToNat, reduceNeg, Nat.reduceLT, reduceLeDiff, reduceMul, reduceSub, reduceIte, reduceEqDiff, reduceAdd, reduceCtorEq]
  intro vs0 U0 hN0 vs1 U1 hN1
  refine wpD_lp (fun i => 8 - i) (fun i => i ≤ 8)
    (fun i : Nat => ⟨L .any [(0, .own 5000 0), (1, iv (if i = 0 then k else if i = 1 then k + y1.length else if i = 2 then k + y1.length + y2.length else if i = 3 then k + y1.length + y2.length + y3.length else if i = 4 then k + y1.length + y2.length + y3.length + y4.length else if i = 5 then k + y1.length + y2.length + y3.length + y4.length + y5.length else if i = 6 then k + y1.length + y2.length + y3.length + y4.length + y5.length + y6.length else if i = 7 then k + y1.length + y2.length + y3.length + y4.length + y5.length + y6.length + y7.length else k + y1.length + y2.length + y3.length + y4.length + y5.length + y6.length + y7.length + y8.length)), (5, iv i)], L .gone [(5000, .row 0 1 true [.own 5001 1, .own 5002 2, .own 5003 3, .own 5004 4, .own 5005 5, .own 5006 6, .own 5007 7, .own 5008 8]), (5001, .row 1 1 true (ints (if i ≤ 0 then y1 else seqI (k) y1.length))), (5002, .row 2 1 true (ints (if i ≤ 1 then y2 else seqI (k + y1.length) y2.length))), (5003, .row 3 1 true (ints (if i ≤ 2 then y3 else seqI (k + y1.length + y2.length) y3.length))), (5004, .row 4 1 true (ints (if i ≤ 3 then y4 else seqI (k + y1.length + y2.length + y3.length) y4.length))), (5005, .row 5 1 true (ints (if i ≤ 4 then y5 else seqI (k + y1.length + y2.length + y3.length + y4.length) y5.length))), (5006, .row 6 1 true (ints (if i ≤ 5 then y6 else seqI (k + y1.length + y2.length + y3.length + y4.length + y5.length) y6.length))), (5007, .row 7 1 true (ints (if i ≤ 6 then y7 else seqI (k + y1.length + y2.length + y3.length + y4.length + y5.length + y6.length) y7.length))), (5008, .row 8 1 true (ints (if i ≤ 7 then y8 else seqI (k + y1.length + y2.length + y3.length + y4.length + y5.length + y6.length + y7.length) y8.length))), (5009, .gone)]⟩) 0 (by simp)
    (by simp only [Bz0, Nat.zero_le, if_true, go_sem, yz0, Int.reduceLT, reduceLE, reduceToNat, reduceNeg, Nat.reduceLT, reduceLeDiff, reduceMul, reduceSub, reduceIte, reduceEqDiff, reduceAdd, reduceCtorEq]; try rfl) ?_
  intro i hi
  obtain rfl | rfl | rfl | rfl | rfl | rfl | rfl | rfl | rfl : i = 0 ∨ i = 1 ∨ i = 2 ∨ i = 3 ∨ i = 4 ∨ i = 5 ∨ i = 6 ∨ i = 7 ∨ i = 8 := by omega
  rotate_left 8
  · simp only [Bz0, Bz1, Bz18, Nat.le_refl, Nat.zero_le, if_true, if_false, yzp, yz8, go_sem, yz0, Int.reduceLT, reduceLE, reduceToNat, reduceNeg, Nat.reduceLT, reduceLeDiff, reduceMul, reduceSub, reduceIte, reduceEqDiff, reduceAdd, reduceCtorEq]
    intro vs2 U2 hN2 hM
    have e : decide (((8 : Nat) : Int) < ((8 : Nat) : Int)) = false := by decide
    simp only [e, yzp, yz8, go_sem, yz0, Int.reduceLT, reduceLE, reduceToNat, reduceNeg, Nat.reduceLT, reduceLeDiff, reduceMul, reduceSub, reduceIte, reduceEqDiff, reduceAdd, reduceCtorEq]
    intro vs3 U3 hN3
    refine ⟨[], by simp, by simp, by simp, ?_⟩
    simp only [List.nil_append, List.cons_append, Nat.add_zero, ren_own_in, Nat.not_lt_zero, range1, yz1v, yz22, ren_ro, rnNm_n, yz21, rnNm_o, rnNm_s, ren_st, yz20, yz1h, yz12, yzl, yz1o, yz1q, yz1p, yz1f, yz1r, yzv, yzz, yzx, yz10, yz1b, yz1a, yzq, yzs, yz11, yzw, yz1c, yz19, List.range_zero, yzu, yzr, yzy, yz1n, yz1g, yz1m, AVal.fresh, freshL, yzk, yz1d, AObj.fresh, id, Option.isSome_some, or_true, true_or, go_sem, yz0, Int.reduceLT, reduceLE, reduceToNat, reduceNeg, Nat.reduceLT, reduceLeDiff, reduceMul, reduceSub, reduceIte, reduceEqDiff, reduceAdd, reduceCtorEq]
    try simp
  all_goals
    simp only [Bz0, Bz1, Nat.le_refl, Nat.zero_le, if_true, if_false, yzp, yz8, go_sem, yz0, Int.reduceLT, reduceLE, reduceToNat, reduceNeg, Nat.reduceLT, reduceLeDiff, reduceMul, reduceSub, reduceIte, reduceEqDiff, reduceAdd, reduceCtorEq]
    intro vs2 U2 hN2 hM
    simp only [Int.ofNat_lt, decide_true, Bz7, wpD_gh, yzp, yz8, go_sem, yz0, Int.reduceLT, reduceLE, reduceToNat, reduceNeg, Nat.reduceLT, reduceLeDiff, reduceMul, reduceSub, reduceIte, reduceEqDiff, reduceAdd, reduceCtorEq]
    intro _
    refine ⟨[], ?_⟩
    simp only [gwp_nil, yzp, yz8, go_sem, yz0, Int.reduceLT, reduceLE, reduceToNat, reduceNeg, Nat.reduceLT, reduceLeDiff, reduceMul, reduceSub, reduceIte, reduceEqDiff, reduceAdd, reduceCtorEq]
    intro vs3 U3 hN3
    refine ⟨by omega, ?_⟩
    first | refine yz1l (yzm y1 true _ (by omega) (by omega)) rfl rfl ?_ | refine yz1l (yzm y2 true _ (by omega) (by omega)) rfl rfl ?_ | refine yz1l (yzm y3 true _ (by omega) (by omega)) rfl rfl ?_ | refine yz1l (yzm y4 true _ (by omega) (by omega)) rfl rfl ?_ | refine yz1l (yzm y5 true _ (by omega) (by omega)) rfl rfl ?_ | refine yz1l (yzm y6 true _ (by omega) (by omega)) rfl rfl ?_ | refine yz1l (yzm y7 true _ (by omega) (by omega)) rfl rfl ?_ | refine yz1l (yzm y8 true _ (by omega) (by omega)) rfl rfl ?_
    simp only [Bz6, wSucc, yzp, yz8, go_sem, yz0, Int.reduceLT, reduceLE, reduceToNat, reduceNeg, Nat.reduceLT, reduceLeDiff, reduceMul, reduceSub, reduceIte, reduceEqDiff, reduceAdd, reduceCtorEq]
    intro vs4 U4 hN4
    first | exact ⟨1, by omega, by omega, rfl⟩ | exact ⟨2, by omega, by omega, rfl⟩ | exact ⟨3, by omega, by omega, rfl⟩ | exact ⟨4, by omega, by omega, rfl⟩ | exact ⟨5, by omega, by omega, rfl⟩ | exact ⟨6, by omega, by omega, rfl⟩ | exact ⟨7, by omega, by omega, rfl⟩ | exact ⟨8, by omega, by omega, rfl⟩
theorem k_markSS9 (y1 y2 y3 y4 y5 y6 y7 y8 y9 : List Int) (k : Int) (h : 0 ≤ k ∧ k ≤ 1000000) (hy1 : (y1.length : Int) ≤ 1000) (hy2 : (y2.length : Int) ≤ 1000) (hy3 : (y3.length : Int) ≤ 1000) (hy4 : (y4.length : Int) ≤ 1000) (hy5 : (y5.length : Int) ≤ 1000) (hy6 : (y6.length : Int) ≤ 1000) (hy7 : (y7.length : Int) ≤ 1000) (hy8 : (y8.length : Int) ≤ 1000) (hy9 : (y9.length : Int) ≤ 1000) :
    Con Try.prog nz5 [.row 0 1 true [.own 5001 1, .own 5002 2, .own 5003 3, .own 5004 4, .own 5005 5, .own 5006 6, .own 5007 7, .own 5008 8, .own 5009 9], .row 1 1 true (ints y1), .row 2 1 true (ints y2), .row 3 1 true (ints y3), .row 4 1 true (ints y4), .row 5 1 true (ints y5), .row 6 1 true (ints y6), .row 7 1 true (ints y7), .row 8 1 true (ints y8), .row 9 1 true (ints y9)] [.own 5000 0, iv k] true
      fun outs rows res => outs = [.row 0 1 true [.own 5001 1, .own 5002 2, .own 5003 3, .own 5004 4, .own 5005 5, .own 5006 6, .own 5007 7, .own 5008 8, .own 5009 9], .row 1 1 true (ints (seqI (k) y1.length)), .row 2 1 true (ints (seqI (k + y1.length) y2.length)), .row 3 1 true (ints (seqI (k + y1.length + y2.length) y3.length)), .row 4 1 true (ints (seqI (k + y1.length + y2.length + y3.length) y4.length)), .row 5 1 true (ints (seqI (k + y1.length + y2.length + y3.length + y4.length) y5.length)), .row 6 1 true (ints (seqI (k + y1.length + y2.length + y3.length + y4.length + y5.length) y6.length)), .row 7 1 true (ints (seqI (k + y1.length + y2.length + y3.length + y4.length + y5.length + y6.length) y7.length)), .row 8 1 true (ints (seqI (k + y1.length + y2.length + y3.length + y4.length + y5.length + y6.length + y7.length) y8.length)), .row 9 1 true (ints (seqI (k + y1.length + y2.length + y3.length + y4.length + y5.length + y6.length + y7.length + y8.length) y9.length))] ∧ rows = [] ∧ res = iv (k + y1.length + y2.length + y3.length + y4.length + y5.length + y6.length + y7.length + y8.length + y9.length) := by
  refine con_sh mixed cz1c rfl (by simp) ?_
  simp only [Az1a, Bz19, Bz17, yzp, yz8, go_sem, yz0, Int.reduceLT, reduceLE, reduceToNat, reduceNeg, Nat.reduceLT, reduceLeDiff, reduceMul, reduceSub, reduceIte, reduceEqDiff, reduceAdd, reduceCtorEq]
  intro vs0 U0 hN0 vs1 U1 hN1
  refine wpD_lp (fun i => 9 - i) (fun i => i ≤ 9)
    (fun i : Nat => ⟨L .any [(0, .own 5000 0), (1, iv (if i = 0 then k else if i = 1 then k + y1.length else if i = 2 then k + y1.length + y2.length else if i = 3 then k + y1.length + y2.length + y3.length else if i = 4 then k + y1.length + y2.length + y3.length + y4.length else if i = 5 then k + y1.length + y2.length + y3.length + y4.length + y5.length else if i = 6 then k + y1.length + y2.length + y3.length + y4.length + y5.length + y6.length else if i = 7 then k + y1.length + y2.length + y3.length + y4.length + y5.length + y6.length + y7.length else if i = 8 then k + y1.length + y2.length + y3.length + y4.length + y5.length + y6.length + y7.length + y8.length else k + y1.length + y2.length + y3.length + y4.length + y5.length + y6.length + y7.length + y8.length + y9.length)), (5, iv i)], L .gone [(5000, .row 0 1 true [.own 5001 1, .own 5002 2, .own 5003 3, .own 5004 4, .own 5005 5, .own 5006 6, .own 5007 7, .own 5008 8, .own 5009 9]), (5001, .row 1 1 true (ints (if i ≤ 0 then y1 else seqI (k) y1.length))), (5002, .row 2 1 true (ints (if i ≤ 1 then y2 else seqI (k + y1.length) y2.length))), (5003, .row 3 1 true (ints (if i ≤ 2 then y3 else seqI (k + y1.length + y2.length) y3.length))), (5004, .row 4 1 true (ints (if i ≤ 3 then y4 else seqI (k + y1.length + y2.length + y3.length) y4.length))), (5005, .row 5 1 true (ints (if i ≤ 4 then y5 else seqI (k + y1.length + y2.length + y3.length + y4.length) y5.length))), (5006, .row 6 1 true (ints (if i ≤ 5 then y6 else seqI (k + y1.length + y2.length + y3.length + y4.length + y5.length) y6.length))), (5007, .row 7 1 true (ints (if i ≤ 6 then y7 else seqI (k + y1.length + y2.length + y3.length + y4.length + y5.length + y6.length) y7.length))), (5008, .row 8 1 true (ints (if i ≤ 7 then y8 else seqI (k + y1.length + y2.length + y3.length + y4.length + y5.length + y6.length + y7.length) y8.length))), (5009, .row 9 1 true (ints (if i ≤ 8 then y9 else seqI (k + y1.length + y2.length + y3.length + y4.length + y5.length + y6.length + y7.length + y8.length) y9.length)))]⟩) 0 (by simp)
    (by simp only [Bz0, Nat.zero_le, if_true, go_sem, yz0, Int.reduceLT, reduceLE, reduceToNat, reduceNeg, Nat.reduceLT, reduceLeDiff, reduceMul, reduceSub, reduceIte, reduceEqDiff, reduceAdd, reduceCtorEq]; try rfl) ?_
  intro i hi
  obtain rfl | rfl | rfl | rfl | rfl | rfl | rfl | rfl | rfl | rfl : i = 0 ∨ i = 1 ∨ i = 2 ∨ i = 3 ∨ i = 4 ∨ i = 5 ∨ i = 6 ∨ i = 7 ∨ i = 8 ∨ i = 9 := by omega
  rotate_left 9
  · simp only [Bz0, Bz1, Bz18, Nat.le_refl, Nat.zero_le, if_true, if_false, yzp, yz8, go_sem, yz0, Int.reduceLT, reduceLE, reduceToNat, reduceNeg, Nat.reduceLT, reduceLeDiff, reduceMul, reduceSub, reduceIte, reduceEqDiff, reduceAdd, reduceCtorEq]
    intro vs2 U2 hN2 hM
    have e : decide (((9 : Nat) : Int) < ((9 : Nat) : Int)) = false := by decide
    simp only [e, yzp, yz8, go_sem, yz0, Int.reduceLT, reduceLE, reduceToNat, reduceNeg, Nat.reduceLT, reduceLeDiff, reduceMul, reduceSub, reduceIte, reduceEqDiff, reduceAdd, reduceCtorEq]
    intro vs3 U3 hN3
    refine ⟨[], by simp, by simp, by simp, ?_⟩
    simp only [List.nil_append, List.cons_append, Nat.add_zero, ren_own_in, Nat.not_lt_zero, range1, yz1v, yz22, ren_ro, rnNm_n, yz21, rnNm_o, rnNm_s, ren_st, yz20, yz1h, yz12, yzl, yz1o, yz1q, yz1p, yz1f, yz1r, yzv, yzz, yzx, yz10, yz1b, yz1a, yzq, yzs, yz11, yzw, yz1c, yz19, List.range_zero, yzu, yzr, yzy, yz1n, yz1g, yz1m, AVal.fresh, freshL, yzk, yz1d, AObj.fresh, id, Option.isSome_some, or_true, true_or, go_sem, yz0, Int.reduceLT, reduceLE, reduceToNat, reduceNeg, Nat.reduceLT, reduceLeDiff, reduceMul, reduceSub, reduceIte, reduceEqDiff, reduceAdd, reduceCtorEq]
    try simp
  all_goals
    simp only [Bz0, Bz1, Nat.le_refl, Nat.zero_le, if_true, if_false, yzp, yz8, go_sem, yz0, Int.reduceLT, reduceLE, reduceToNat, reduceNeg, Nat.reduceLT, reduceLeDiff, reduceMul, reduceSub, reduceIte, reduceEqDiff, reduceAdd, reduceCtorEq]
    intro vs2 U2 hN2 hM
    simp only [Int.ofNat_lt, decide_true, Bz7, wpD_gh, yzp, yz8, go_sem, yz0, Int.reduceLT, reduceLE, reduceToNat, reduceNeg, Nat.reduceLT, reduceLeDiff, reduceMul, reduceSub, reduceIte, reduceEqDiff, reduceAdd, reduceCtorEq]
    intro _
    refine ⟨[], ?_⟩
    simp only [gwp_nil, yzp, yz8, go_sem, yz0, Int.reduceLT, reduceLE, reduceToNat, reduceNeg, Nat.reduceLT, reduceLeDiff, reduceMul, reduceSub, reduceIte, reduceEqDiff, reduceAdd, reduceCtorEq]
    intro vs3 U3 hN3
    refine ⟨by omega, ?_⟩
    first | refine yz1l (yzm y1 true _ (by omega) (by omega)) rfl rfl ?_ | refine yz1l (yzm y2 true _ (by omega) (by omega)) rfl rfl ?_ | refine yz1l (yzm y3 true _ (by omega) (by omega)) rfl rfl ?_ | refine yz1l (yzm y4 true _ (by omega) (by omega)) rfl rfl ?_ | refine yz1l (yzm y5 true _ (by omega) (by omega)) rfl rfl ?_ | refine yz1l (yzm y6 true _ (by omega) (by omega)) rfl rfl ?_ | refine yz1l (yzm y7 true _ (by omega) (by omega)) rfl rfl ?_ | refine yz1l (yzm y8 true _ (by omega) (by omega)) rfl rfl ?_ | refine yz1l (yzm y9 true _ (by omega) (by omega)) rfl rfl ?_
    simp only [Bz6, wSucc, yzp, yz8, go_sem, yz0, Int.reduceLT, reduceLE, reduceToNat, reduceNeg, Nat.reduceLT, reduceLeDiff, reduceMul, reduceSub, reduceIte, reduceEqDiff, reduceAdd, reduceCtorEq]
    intro vs4 U4 hN4
    first | exact ⟨1, by omega, by omega, rfl⟩ | exact ⟨2, by omega, by omega, rfl⟩ | exact ⟨3, by omega, by omega, rfl⟩ | exact ⟨4, by omega, by omega, rfl⟩ | exact ⟨5, by omega, by omega, rfl⟩ | exact ⟨6, by omega, by omega, rfl⟩ | exact ⟨7, by omega, by omega, rfl⟩ | exact ⟨8, by omega, by omega, rfl⟩ | exact ⟨9, by omega, by omega, rfl⟩
theorem callHp_h5 {hp : Nat → AObj} {r q1 q2 q3 q4 d : Nat} {s : Nat → Nat} {o0 o1 o2 o3 o4 : AObj} (hnd : [r, q1, q2, q3, q4].Nodup) :
    callHp hp [r, q1, q2, q3, q4] d s [o0, o1, o2, o3, o4] [] = (upd (upd (upd (upd (upd hp r (o0.ren (rid [r, q1, q2, q3, q4] d 0) (sv hp [r, q1, q2, q3, q4] s))) q1 (o1.ren (rid [r, q1, q2, q3, q4] d 0) (sv hp [r, q1, q2, q3, q4] s))) q2 (o2.ren (rid [r, q1, q2, q3, q4] d 0) (sv hp [r, q1, q2, q3, q4] s))) q3 (o3.ren (rid [r, q1, q2, q3, q4] d 0) (sv hp [r, q1, q2, q3, q4] s))) q4 (o4.ren (rid [r, q1, q2, q3, q4] d 0) (sv hp [r, q1, q2, q3, q4] s))) := by
  have hnd' := hnd
  simp only [List.nodup_cons, List.mem_cons, List.not_mem_nil, or_false, not_or, List.nodup_nil, and_true, not_false_eq_true] at hnd'
  funext n
  by_cases e4 : n = q4
  · have h1 : rid [r, q1, q2, q3, q4] d ([] : List AObj).length 5004 = some n := by rw [e4]; exact rid_m (j := 4) (by omega) rfl
    rw [yz13 hnd (by simp) h1]
    simp [upd, e4, outHp, hnd', Ne.symm]
    try (intros; simp_all)
  by_cases e3 : n = q3
  · have h1 : rid [r, q1, q2, q3, q4] d ([] : List AObj).length 5003 = some n := by rw [e3]; exact rid_m (j := 3) (by omega) rfl
    rw [yz13 hnd (by simp) h1]
    simp [upd, e3, outHp, hnd', Ne.symm]
    try (intros; simp_all)
  by_cases e2 : n = q2
  · have h1 : rid [r, q1, q2, q3, q4] d ([] : List AObj).length 5002 = some n := by rw [e2]; exact rid_m (j := 2) (by omega) rfl
    rw [yz13 hnd (by simp) h1]
    simp [upd, e2, outHp, hnd', Ne.symm]
    try (intros; simp_all)
  by_cases e1 : n = q1
  · have h1 : rid [r, q1, q2, q3, q4] d ([] : List AObj).length 5001 = some n := by rw [e1]; exact rid_m (j := 1) (by omega) rfl
    rw [yz13 hnd (by simp) h1]
    simp [upd, e1, outHp, hnd', Ne.symm]
    try (intros; simp_all)
  by_cases e0 : n = r
  · have h1 : rid [r, q1, q2, q3, q4] d ([] : List AObj).length 5000 = some n := by rw [e0]; exact rid_m (j := 0) (by omega) rfl
    rw [yz13 hnd (by simp) h1]
    simp [upd, e0, outHp, hnd', Ne.symm]
    try (intros; simp_all)
  rw [callHp_not]
  · simp [upd, e0, e1, e2, e3, e4]
  · rintro ⟨x, hx⟩
    rcases rid_cases hx with ⟨j, rfl, _, h3⟩ | ⟨i, rfl, h3, _⟩
    · match j, h3 with
      | 0, h3 => simp at h3; exact e0 h3.symm
      | 1, h3 => simp at h3; exact e1 h3.symm
      | 2, h3 => simp at h3; exact e2 h3.symm
      | 3, h3 => simp at h3; exact e3 h3.symm
      | 4, h3 => simp at h3; exact e4 h3.symm
      | j + 5, h3 => simp at h3
    · simp at h3
theorem call_mark4 {P : Program} {σ : St} {g : FuncId} {As args : List AVal} {d : Nat} {s : Nat → Nat} {K : St → Prop} {r q1 q2 q3 q4 v u1 u2 u3 u4 : Nat} {y1 y2 y3 y4 y1' y2' y3' y4' : List Int} {z : Int}
    (h : Con P g [.row 0 1 true [.own 5001 1, .own 5002 2, .own 5003 3, .own 5004 4], .row 1 1 true (ints y1), .row 2 1 true (ints y2), .row 3 1 true (ints y3), .row 4 1 true (ints y4)] args true fun outs rows res => outs = [.row 0 1 true [.own 5001 1, .own 5002 2, .own 5003 3, .own 5004 4], .row 1 1 true (ints y1'), .row 2 1 true (ints y2'), .row 3 1 true (ints y3'), .row 4 1 true (ints y4')] ∧ rows = [] ∧ res = iv z)
    (hr : σ.hp r = .row v 1 true [.own q1 u1, .own q2 u2, .own q3 u3, .own q4 u4]) (h1 : σ.hp q1 = .row u1 1 true (ints y1)) (h2 : σ.hp q2 = .row u2 1 true (ints y2)) (h3 : σ.hp q3 = .row u3 1 true (ints y3)) (h4 : σ.hp q4 = .row u4 1 true (ints y4)) (hnd : [r, q1, q2, q3, q4].Nodup) (ha : CoeL σ.hp [r, q1, q2, q3, q4] false args As)
    (hk : K (St.put ⟨σ.tm, (upd (upd (upd (upd (upd σ.hp r (.row v 1 true [.own q1 u1, .own q2 u2, .own q3 u3, .own q4 u4])) q1 (.row u1 1 true (ints y1'))) q2 (.row u2 1 true (ints y2'))) q3 (.row u3 1 true (ints y3'))) q4 (.row u4 1 true (ints y4')))⟩ (some d) (iv z))) : wpCall P false σ g As (some d) s K := by
  refine .inl ⟨[r, q1, q2, q3, q4], _, _, true, _, h, ⟨by simp, rfl, hnd, ?_, ?_⟩, ha, (fun e => by cases e), ?_⟩
  · intro x hx
    simp only [List.mem_cons, List.not_mem_nil, or_false] at hx
    rcases hx with rfl | rfl | rfl | rfl | rfl
    · simp [hr]
    · simp [h1]
    · simp [h2]
    · simp [h3]
    · simp [h4]
  · intro j B r' hB hr'
    match j, hB, hr' with
    | 0, hB, hr' =>
      simp at hB hr'; subst hB; subst hr'
      simp only [ObjCoe, hr]
      refine ⟨trivial, v, _, rfl, ?_⟩
      simp only [yz6, yz9, and_true, Coe]
      exact ⟨⟨1, q1, u1, rfl, rfl, rfl, rfl, by rw [h1]; rfl⟩, ⟨2, q2, u2, rfl, rfl, rfl, rfl, by rw [h2]; rfl⟩, ⟨3, q3, u3, rfl, rfl, rfl, rfl, by rw [h3]; rfl⟩, ⟨4, q4, u4, rfl, rfl, rfl, rfl, by rw [h4]; rfl⟩⟩
    | 1, hB, hr' =>
      simp at hB hr'; subst hB; subst hr'
      simp only [ObjCoe, h1]
      exact ⟨trivial, u1, _, rfl, yz1i⟩
    | 2, hB, hr' =>
      simp at hB hr'; subst hB; subst hr'
      simp only [ObjCoe, h2]
      exact ⟨trivial, u2, _, rfl, yz1i⟩
    | 3, hB, hr' =>
      simp at hB hr'; subst hB; subst hr'
      simp only [ObjCoe, h3]
      exact ⟨trivial, u3, _, rfl, yz1i⟩
    | 4, hB, hr' =>
      simp at hB hr'; subst hB; subst hr'
      simp only [ObjCoe, h4]
      exact ⟨trivial, u4, _, rfl, yz1i⟩
    | j + 5, hB, hr' => simp at hB
  · rintro outs rows res ⟨rfl, rfl, rfl⟩
    refine ⟨rfl, by simp, by simp, ?_⟩
    have s0 : sv σ.hp [r, q1, q2, q3, q4] s 0 = v := by simp [sv, hr, AObj.ver]
    have s1 : sv σ.hp [r, q1, q2, q3, q4] s 1 = u1 := by simp [sv, h1, AObj.ver]
    have s2 : sv σ.hp [r, q1, q2, q3, q4] s 2 = u2 := by simp [sv, h2, AObj.ver]
    have s3 : sv σ.hp [r, q1, q2, q3, q4] s 3 = u3 := by simp [sv, h3, AObj.ver]
    have s4 : sv σ.hp [r, q1, q2, q3, q4] s 4 = u4 := by simp [sv, h4, AObj.ver]
    have r1 : AVal.ren (rid [r, q1, q2, q3, q4] d 0) (sv σ.hp [r, q1, q2, q3, q4] s) (.own 5001 1) = .own q1 u1 := by rw [yz24 (rid_m (j := 1) (by omega) rfl), s1]
    have r2 : AVal.ren (rid [r, q1, q2, q3, q4] d 0) (sv σ.hp [r, q1, q2, q3, q4] s) (.own 5002 2) = .own q2 u2 := by rw [yz24 (rid_m (j := 2) (by omega) rfl), s2]
    have r3 : AVal.ren (rid [r, q1, q2, q3, q4] d 0) (sv σ.hp [r, q1, q2, q3, q4] s) (.own 5003 3) = .own q3 u3 := by rw [yz24 (rid_m (j := 3) (by omega) rfl), s3]
    have r4 : AVal.ren (rid [r, q1, q2, q3, q4] d 0) (sv σ.hp [r, q1, q2, q3, q4] s) (.own 5004 4) = .own q4 u4 := by rw [yz24 (rid_m (j := 4) (by omega) rfl), s4]
    rw [Option.getD_some, callHp_h5 hnd]
    simp only [yz1f, yz12, yz1h, yzl, yz1v, s0, s1, s2, s3, s4, r1, r2, r3, r4]
    exact hk
theorem callHp_h6 {hp : Nat → AObj} {r q1 q2 q3 q4 q5 d : Nat} {s : Nat → Nat} {o0 o1 o2 o3 o4 o5 : AObj} (hnd : [r, q1, q2, q3, q4, q5].Nodup) :
    callHp hp [r, q1, q2, q3, q4, q5] d s [o0, o1, o2, o3, o4, o5] [] = (upd (upd (upd (upd (upd (upd hp r (o0.ren (rid [r, q1, q2, q3, q4, q5] d 0) (sv hp [r, q1, q2, q3, q4, q5] s))) q1 (o1.ren (rid [r, q1, q2, q3, q4, q5] d 0) (sv hp [r, q1, q2, q3, q4, q5] s))) q2 (o2.ren (rid [r, q1, q2, q3, q4, q5] d 0) (sv hp [r, q1, q2, q3, q4, q5] s))) q3 (o3.ren (rid [r, q1, q2, q3, q4, q5] d 0) (sv hp [r, q1, q2, q3, q4, q5] s))) q4 (o4.ren (rid [r, q1, q2, q3, q4, q5] d 0) (sv hp [r, q1, q2, q3, q4, q5] s))) q5 (o5.ren (rid [r, q1, q2, q3, q4, q5] d 0) (sv hp [r, q1, q2, q3, q4, q5] s))) := by
  have hnd' := hnd
  simp only [List.nodup_cons, List.mem_cons, List.not_mem_nil, or_false, not_or, List.nodup_nil, and_true, not_false_eq_true] at hnd'
  funext n
  by_cases e5 : n = q5
  · have h1 : rid [r, q1, q2, q3, q4, q5] d ([] : List AObj).length 5005 = some n := by rw [e5]; exact rid_m (j := 5) (by omega) rfl
    rw [yz13 hnd (by simp) h1]
    simp [upd, e5, outHp, hnd', Ne.symm]
    try (intros; simp_all)
  by_cases e4 : n = q4
  · have h1 : rid [r, q1, q2, q3, q4, q5] d ([] : List AObj).length 5004 = some n := by rw [e4]; exact rid_m (j := 4) (by omega) rfl
    rw [yz13 hnd (by simp) h1]
    simp [upd, e4, outHp, hnd', Ne.symm]
    try (intros; simp_all)
  by_cases e3 : n = q3
  · have h1 : rid [r, q1, q2, q3, q4, q5] d ([] : List AObj).length 5003 = some n := by rw [e3]; exact rid_m (j := 3) (by omega) rfl
    rw [yz13 hnd (by simp) h1]
    simp [upd, e3, outHp, hnd', Ne.symm]
    try (intros; simp_all)
  by_cases e2 : n = q2
  · have h1 : rid [r, q1, q2, q3, q4, q5] d ([] : List AObj).length 5002 = some n := by rw [e2]; exact rid_m (j := 2) (by omega) rfl
    rw [yz13 hnd (by simp) h1]
    simp [upd, e2, outHp, hnd', Ne.symm]
    try (intros; simp_all)
  by_cases e1 : n = q1
  · have h1 : rid [r, q1, q2, q3, q4, q5] d ([] : List AObj).length 5001 = some n := by rw [e1]; exact rid_m (j := 1) (by omega) rfl
    rw [yz13 hnd (by simp) h1]
    simp [upd, e1, outHp, hnd', Ne.symm]
    try (intros; simp_all)
  by_cases e0 : n = r
  · have h1 : rid [r, q1, q2, q3, q4, q5] d ([] : List AObj).length 5000 = some n := by rw [e0]; exact rid_m (j := 0) (by omega) rfl
    rw [yz13 hnd (by simp) h1]
    simp [upd, e0, outHp, hnd', Ne.symm]
    try (intros; simp_all)
  rw [callHp_not]
  · simp [upd, e0, e1, e2, e3, e4, e5]
  · rintro ⟨x, hx⟩
    rcases rid_cases hx with ⟨j, rfl, _, h3⟩ | ⟨i, rfl, h3, _⟩
    · match j, h3 with
      | 0, h3 => simp at h3; exact e0 h3.symm
      | 1, h3 => simp at h3; exact e1 h3.symm
      | 2, h3 => simp at h3; exact e2 h3.symm
      | 3, h3 => simp at h3; exact e3 h3.symm
      | 4, h3 => simp at h3; exact e4 h3.symm
      | 5, h3 => simp at h3; exact e5 h3.symm
      | j + 6, h3 => simp at h3
    · simp at h3
theorem call_mark5 {P : Program} {σ : St} {g : FuncId} {As args : List AVal} {d : Nat} {s : Nat → Nat} {K : St → Prop} {r q1 q2 q3 q4 q5 v u1 u2 u3 u4 u5 : Nat} {y1 y2 y3 y4 y5 y1' y2' y3' y4' y5' : List Int} {z : Int}
    (h : Con P g [.row 0 1 true [.own 5001 1, .own 5002 2, .own 5003 3, .own 5004 4, .own 5005 5], .row 1 1 true (ints y1), .row 2 1 true (ints y2), .row 3 1 true (ints y3), .row 4 1 true (ints y4), .row 5 1 true (ints y5)] args true fun outs rows res => outs = [.row 0 1 true [.own 5001 1, .own 5002 2, .own 5003 3, .own 5004 4, .own 5005 5], .row 1 1 true (ints y1'), .row 2 1 true (ints y2'), .row 3 1 true (ints y3'), .row 4 1 true (ints y4'), .row 5 1 true (ints y5')] ∧ rows = [] ∧ res = iv z)
    (hr : σ.hp r = .row v 1 true [.own q1 u1, .own q2 u2, .own q3 u3, .own q4 u4, .own q5 u5]) (h1 : σ.hp q1 = .row u1 1 true (ints y1)) (h2 : σ.hp q2 = .row u2 1 true (ints y2)) (h3 : σ.hp q3 = .row u3 1 true (ints y3)) (h4 : σ.hp q4 = .row u4 1 true (ints y4)) (h5 : σ.hp q5 = .row u5 1 true (ints y5)) (hnd : [r, q1, q2, q3, q4, q5].Nodup) (ha : CoeL σ.hp [r, q1, q2, q3, q4, q5] false args As)
    (hk : K (St.put ⟨σ.tm, (upd (upd (upd (upd (upd (upd σ.hp r (.row v 1 true [.own q1 u1, .own q2 u2, .own q3 u3, .own q4 u4, .own q5 u5])) q1 (.row u1 1 true (ints y1'))) q2 (.row u2 1 true (ints y2'))) q3 (.row u3 1 true (ints y3'))) q4 (.row u4 1 true (ints y4'))) q5 (.row u5 1 true (ints y5')))⟩ (some d) (iv z))) : wpCall P false σ g As (some d) s K := by
  refine .inl ⟨[r, q1, q2, q3, q4, q5], _, _, true, _, h, ⟨by simp, rfl, hnd, ?_, ?_⟩, ha, (fun e => by cases e), ?_⟩
  · intro x hx
    simp only [List.mem_cons, List.not_mem_nil, or_false] at hx
    rcases hx with rfl | rfl | rfl | rfl | rfl | rfl
    · simp [hr]
    · simp [h1]
    · simp [h2]
    · simp [h3]
    · simp [h4]
    · simp [h5]
  · intro j B r' hB hr'
    match j, hB, hr' with
    | 0, hB, hr' =>
      simp at hB hr'; subst hB; subst hr'
      simp only [ObjCoe, hr]
      refine ⟨trivial, v, _, rfl, ?_⟩
      simp only [yz6, yz9, and_true, Coe]
      exact ⟨⟨1, q1, u1, rfl, rfl, rfl, rfl, by rw [h1]; rfl⟩, ⟨2, q2, u2, rfl, rfl, rfl, rfl, by rw [h2]; rfl⟩, ⟨3, q3, u3, rfl, rfl, rfl, rfl, by rw [h3]; rfl⟩, ⟨4, q4, u4, rfl, rfl, rfl, rfl, by rw [h4]; rfl⟩, ⟨5, q5, u5, rfl, rfl, rfl, rfl, by rw [h5]; rfl⟩⟩
    | 1, hB, hr' =>
      simp at hB hr'; subst hB; subst hr'
      simp only [ObjCoe, h1]
      exact ⟨trivial, u1, _, rfl, yz1i⟩
    | 2, hB, hr' =>
      simp at hB hr'; subst hB; subst hr'
      simp only [ObjCoe, h2]
      exact ⟨trivial, u2, _, rfl, yz1i⟩
    | 3, hB, hr' =>
      simp at hB hr'; subst hB; subst hr'
      simp only [ObjCoe, h3]
      exact ⟨trivial, u3, _, rfl, yz1i⟩
    | 4, hB, hr' =>
      simp at hB hr'; subst hB; subst hr'
      simp only [ObjCoe, h4]
      exact ⟨trivial, u4, _, rfl, yz1i⟩
    | 5, hB, hr' =>
      simp at hB hr'; subst hB; subst hr'
      simp only [ObjCoe, h5]
      exact ⟨trivial, u5, _, rfl, yz1i⟩
    | j + 6, hB, hr' => simp at hB
  · rintro outs rows res ⟨rfl, rfl, rfl⟩
    refine ⟨rfl, by simp, by simp, ?_⟩
    have s0 : sv σ.hp [r, q1, q2, q3, q4, q5] s 0 = v := by simp [sv, hr, AObj.ver]
    have s1 : sv σ.hp [r, q1, q2, q3, q4, q5] s 1 = u1 := by simp [sv, h1, AObj.ver]
    have s2 : sv σ.hp [r, q1, q2, q3, q4, q5] s 2 = u2 := by simp [sv, h2, AObj.ver]
    have s3 : sv σ.hp [r, q1, q2, q3, q4, q5] s 3 = u3 := by simp [sv, h3, AObj.ver]
    have s4 : sv σ.hp [r, q1, q2, q3, q4, q5] s 4 = u4 := by simp [sv, h4, AObj.ver]
    have s5 : sv σ.hp [r, q1, q2, q3, q4, q5] s 5 = u5 := by simp [sv, h5, AObj.ver]
    have r1 : AVal.ren (rid [r, q1, q2, q3, q4, q5] d 0) (sv σ.hp [r, q1, q2, q3, q4, q5] s) (.own 5001 1) = .own q1 u1 := by rw [yz24 (rid_m (j := 1) (by omega) rfl), s1]
    have r2 : AVal.ren (rid [r, q1, q2, q3, q4, q5] d 0) (sv σ.hp [r, q1, q2, q3, q4, q5] s) (.own 5002 2) = .own q2 u2 := by rw [yz24 (rid_m (j := 2) (by omega) rfl), s2]
    have r3 : AVal.ren (rid [r, q1, q2, q3, q4, q5] d 0) (sv σ.hp [r, q1, q2, q3, q4, q5] s) (.own 5003 3) = .own q3 u3 := by rw [yz24 (rid_m (j := 3) (by omega) rfl), s3]
    have r4 : AVal.ren (rid [r, q1, q2, q3, q4, q5] d 0) (sv σ.hp [r, q1, q2, q3, q4, q5] s) (.own 5004 4) = .own q4 u4 := by rw [yz24 (rid_m (j := 4) (by omega) rfl), s4]
    have r5 : AVal.ren (rid [r, q1, q2, q3, q4, q5] d 0) (sv σ.hp [r, q1, q2, q3, q4, q5] s) (.own 5005 5) = .own q5 u5 := by rw [yz24 (rid_m (j := 5) (by omega) rfl), s5]
    rw [Option.getD_some, callHp_h6 hnd]
    simp only [yz1f, yz12, yz1h, yzl, yz1v, s0, s1, s2, s3, s4, s5, r1, r2, r3, r4, r5]
    exact hk
theorem callHp_h7 {hp : Nat → AObj} {r q1 q2 q3 q4 q5 q6 d : Nat} {s : Nat → Nat} {o0 o1 o2 o3 o4 o5 o6 : AObj} (hnd : [r, q1, q2, q3, q4, q5, q6].Nodup) :
    callHp hp [r, q1, q2, q3, q4, q5, q6] d s [o0, o1, o2, o3, o4, o5, o6] [] = (upd (upd (upd (upd (upd (upd (upd hp r (o0.ren (rid [r, q1, q2, q3, q4, q5, q6] d 0) (sv hp [r, q1, q2, q3, q4, q5, q6] s))) q1 (o1.ren (rid [r, q1, q2, q3, q4, q5, q6] d 0) (sv hp [r, q1, q2, q3, q4, q5, q6] s))) q2 (o2.ren (rid [r, q1, q2, q3, q4, q5, q6] d 0) (sv hp [r, q1, q2, q3, q4, q5, q6] s))) q3 (o3.ren (rid [r, q1, q2, q3, q4, q5, q6] d 0) (sv hp [r, q1, q2, q3, q4, q5, q6] s))) q4 (o4.ren (rid [r, q1, q2, q3, q4, q5, q6] d 0) (sv hp [r, q1, q2, q3, q4, q5, q6] s))) q5 (o5.ren (rid [r, q1, q2, q3, q4, q5, q6] d 0) (sv hp [r, q1, q2, q3, q4, q5, q6] s))) q6 (o6.ren (rid [r, q1, q2, q3, q4, q5, q6] d 0) (sv hp [r, q1, q2, q3, q4, q5, q6] s))) := by
  have hnd' := hnd
  simp only [List.nodup_cons, List.mem_cons, List.not_mem_nil, or_false, not_or, List.nodup_nil, and_true, not_false_eq_true] at hnd'
  funext n
  by_cases e6 : n = q6
  · have h1 : rid [r, q1, q2, q3, q4, q5, q6] d ([] : List AObj).length 5006 = some n := by rw [e6]; exact rid_m (j := 6) (by omega) rfl
    rw [yz13 hnd (by simp) h1]
    simp [upd, e6, outHp, hnd', Ne.symm]
    try (intros; simp_all)
  by_cases e5 : n = q5
  · have h1 : rid [r, q1, q2, q3, q4, q5, q6] d ([] : List AObj).length 5005 = some n := by rw [e5]; exact rid_m (j := 5) (by omega) rfl
    rw [yz13 hnd (by simp) h1]
    simp [upd, e5, outHp, hnd', Ne.symm]
    try (intros; simp_all)
  by_cases e4 : n = q4
  · have h1 : rid [r, q1, q2, q3, q4, q5, q6] d ([] : List AObj).length 5004 = some n := by rw [e4]; exact rid_m (j := 4) (by omega) rfl
    rw [yz13 hnd (by simp) h1]
    simp [upd, e4, outHp, hnd', Ne.symm]
    try (intros; simp_all)
  by_cases e3 : n = q3
  · have h1 : rid [r, q1, q2, q3, q4, q5, q6] d ([] : List AObj).length 5003 = some n := by rw [e3]; exact rid_m (j := 3) (by omega) rfl
    rw [yz13 hnd (by simp) h1]
    simp [upd, e3, outHp, hnd', Ne.symm]
    try (intros; simp_all)
  by_cases e2 : n = q2
  · have h1 : rid [r, q1, q2, q3, q4, q5, q6] d ([] : List AObj).length 5002 = some n := by rw [e2]; exact rid_m (j := 2) (by omega) rfl
    rw [yz13 hnd (by simp) h1]
    simp [upd, e2, outHp, hnd', Ne.symm]
    try (intros; simp_all)
  by_cases e1 : n = q1
  · have h1 : rid [r, q1, q2, q3, q4, q5, q6] d ([] : List AObj).length 5001 = some n := by rw [e1]; exact rid_m (j := 1) (by omega) rfl
    rw [yz13 hnd (by simp) h1]
    simp [upd, e1, outHp, hnd', Ne.symm]
    try (intros; simp_all)
  by_cases e0 : n = r
  · have h1 : rid [r, q1, q2, q3, q4, q5, q6] d ([] : List AObj).length 5000 = some n := by rw [e0]; exact rid_m (j := 0) (by omega) rfl
    rw [yz13 hnd (by simp) h1]
    simp [upd, e0, outHp, hnd', Ne.symm]
    try (intros; simp_all)
  rw [callHp_not]
  · simp [upd, e0, e1, e2, e3, e4, e5, e6]
  · rintro ⟨x, hx⟩
    rcases rid_cases hx with ⟨j, rfl, _, h3⟩ | ⟨i, rfl, h3, _⟩
    · match j, h3 with
      | 0, h3 => simp at h3; exact e0 h3.symm
      | 1, h3 => simp at h3; exact e1 h3.symm
      | 2, h3 => simp at h3; exact e2 h3.symm
      | 3, h3 => simp at h3; exact e3 h3.symm
      | 4, h3 => simp at h3; exact e4 h3.symm
      | 5, h3 => simp at h3; exact e5 h3.symm
      | 6, h3 => simp at h3; exact e6 h3.symm
      | j + 7, h3 => simp at h3
    · simp at h3
theorem call_mark6 {P : Program} {σ : St} {g : FuncId} {As args : List AVal} {d : Nat} {s : Nat → Nat} {K : St → Prop} {r q1 q2 q3 q4 q5 q6 v u1 u2 u3 u4 u5 u6 : Nat} {y1 y2 y3 y4 y5 y6 y1' y2' y3' y4' y5' y6' : List Int} {z : Int}
    (h : Con P g [.row 0 1 true [.own 5001 1, .own 5002 2, .own 5003 3, .own 5004 4, .own 5005 5, .own 5006 6], .row 1 1 true (ints y1), .row 2 1 true (ints y2), .row 3 1 true (ints y3), .row 4 1 true (ints y4), .row 5 1 true (ints y5), .row 6 1 true (ints y6)] args true fun outs rows res => outs = [.row 0 1 true [.own 5001 1, .own 5002 2, .own 5003 3, .own 5004 4, .own 5005 5, .own 5006 6], .row 1 1 true (ints y1'), .row 2 1 true (ints y2'), .row 3 1 true (ints y3'), .row 4 1 true (ints y4'), .row 5 1 true (ints y5'), .row 6 1 true (ints y6')] ∧ rows = [] ∧ res = iv z)
    (hr : σ.hp r = .row v 1 true [.own q1 u1, .own q2 u2, .own q3 u3, .own q4 u4, .own q5 u5, .own q6 u6]) (h1 : σ.hp q1 = .row u1 1 true (ints y1)) (h2 : σ.hp q2 = .row u2 1 true (ints y2)) (h3 : σ.hp q3 = .row u3 1 true (ints y3)) (h4 : σ.hp q4 = .row u4 1 true (ints y4)) (h5 : σ.hp q5 = .row u5 1 true (ints y5)) (h6 : σ.hp q6 = .row u6 1 true (ints y6)) (hnd : [r, q1, q2, q3, q4, q5, q6].Nodup) (ha : CoeL σ.hp [r, q1, q2, q3, q4, q5, q6] false args As)
    (hk : K (St.put ⟨σ.tm, (upd (upd (upd (upd (upd (upd (upd σ.hp r (.row v 1 true [.own q1 u1, .own q2 u2, .own q3 u3, .own q4 u4, .own q5 u5, .own q6 u6])) q1 (.row u1 1 true (ints y1'))) q2 (.row u2 1 true (ints y2'))) q3 (.row u3 1 true (ints y3'))) q4 (.row u4 1 true (ints y4'))) q5 (.row u5 1 true (ints y5'))) q6 (.row u6 1 true (ints y6')))⟩ (some d) (iv z))) : wpCall P false σ g As (some d) s K := by
  refine .inl ⟨[r, q1, q2, q3, q4, q5, q6], _, _, true, _, h, ⟨by simp, rfl, hnd, ?_, ?_⟩, ha, (fun e => by cases e), ?_⟩
  · intro x hx
    simp only [List.mem_cons, List.not_mem_nil, or_false] at hx
    rcases hx with rfl | rfl | rfl | rfl | rfl | rfl | rfl
    · simp [hr]
    · simp [h1]
    · simp [h2]
    · simp [h3]
    · simp [h4]
    · simp [h5]
    · simp [h6]
  · intro j B r' hB hr'
    match j, hB, hr' with
    | 0, hB, hr' =>
      simp at hB hr'; subst hB; subst hr'
      simp only [ObjCoe, hr]
      refine ⟨trivial, v, _, rfl, ?_⟩
      simp only [yz6, yz9, and_true, Coe]
      exact ⟨⟨1, q1, u1, rfl, rfl, rfl, rfl, by rw [h1]; rfl⟩, ⟨2, q2, u2, rfl, rfl, rfl, rfl, by rw [h2]; rfl⟩, ⟨3, q3, u3, rfl, rfl, rfl, rfl, by rw [h3]; rfl⟩, ⟨4, q4, u4, rfl, rfl, rfl, rfl, by rw [h4]; rfl⟩, ⟨5, q5, u5, rfl, rfl, rfl, rfl, by rw [h5]; rfl⟩, ⟨6, q6, u6, rfl, rfl, rfl, rfl, by rw [h6]; rfl⟩⟩
    | 1, hB, hr' =>
      simp at hB hr'; subst hB; subst hr'
      simp only [ObjCoe, h1]
      exact ⟨trivial, u1, _, rfl, yz1i⟩
    | 2, hB, hr' =>
      simp at hB hr'; subst hB; subst hr'
      simp only [ObjCoe, h2]
      exact ⟨trivial, u2, _, rfl, yz1i⟩
    | 3, hB, hr' =>
      simp at hB hr'; subst hB; subst hr'
      simp only [ObjCoe, h3]
      exact ⟨trivial, u3, _, rfl, yz1i⟩
    | 4, hB, hr' =>
      simp at hB hr'; subst hB; subst hr'
      simp only [ObjCoe, h4]
      exact ⟨trivial, u4, _, rfl, yz1i⟩
    | 5, hB, hr' =>
      simp at hB hr'; subst hB; subst hr'
      simp only [ObjCoe, h5]
      exact ⟨trivial, u5, _, rfl, yz1i⟩
    | 6, hB, hr' =>
      simp at hB hr'; subst hB; subst hr'
      simp only [ObjCoe, h6]
      exact ⟨trivial, u6, _, rfl, yz1i⟩
    | j + 7, hB, hr' => simp at hB
  · rintro outs rows res ⟨rfl, rfl, rfl⟩
    refine ⟨rfl, by simp, by simp, ?_⟩
    have s0 : sv σ.hp [r, q1, q2, q3, q4, q5, q6] s 0 = v := by simp [sv, hr, AObj.ver]
    have s1 : sv σ.hp [r, q1, q2, q3, q4, q5, q6] s 1 = u1 := by simp [sv, h1, AObj.ver]
    have s2 : sv σ.hp [r, q1, q2, q3, q4, q5, q6] s 2 = u2 := by simp [sv, h2, AObj.ver]
    have s3 : sv σ.hp [r, q1, q2, q3, q4, q5, q6] s 3 = u3 := by simp [sv, h3, AObj.ver]
    have s4 : sv σ.hp [r, q1, q2, q3, q4, q5, q6] s 4 = u4 := by simp [sv, h4, AObj.ver]
    have s5 : sv σ.hp [r, q1, q2, q3, q4, q5, q6] s 5 = u5 := by simp [sv, h5, AObj.ver]
    have s6 : sv σ.hp [r, q1, q2, q3, q4, q5, q6] s 6 = u6 := by simp [sv, h6, AObj.ver]
    have r1 : AVal.ren (rid [r, q1, q2, q3, q4, q5, q6] d 0) (sv σ.hp [r, q1, q2, q3, q4, q5, q6] s) (.own 5001 1) = .own q1 u1 := by rw [yz24 (rid_m (j := 1) (by omega) rfl), s1]
    have r2 : AVal.ren (rid [r, q1, q2, q3, q4, q5, q6] d 0) (sv σ.hp [r, q1, q2, q3, q4, q5, q6] s) (.own 5002 2) = .own q2 u2 := by rw [yz24 (rid_m (j := 2) (by omega) rfl), s2]
    have r3 : AVal.ren (rid [r, q1, q2, q3, q4, q5, q6] d 0) (sv σ.hp [r, q1, q2, q3, q4, q5, q6] s) (.own 5003 3) = .own q3 u3 := by rw [yz24 (rid_m (j := 3) (by omega) rfl), s3]
    have r4 : AVal.ren (rid [r, q1, q2, q3, q4, q5, q6] d 0) (sv σ.hp [r, q1, q2, q3, q4, q5, q6] s) (.own 5004 4) = .own q4 u4 := by rw [yz24 (rid_m (j := 4) (by omega) rfl), s4]
    have r5 : AVal.ren (rid [r, q1, q2, q3, q4, q5, q6] d 0) (sv σ.hp [r, q1, q2, q3, q4, q5, q6] s) (.own 5005 5) = .own q5 u5 := by rw [yz24 (rid_m (j := 5) (by omega) rfl), s5]
    have r6 : AVal.ren (rid [r, q1, q2, q3, q4, q5, q6] d 0) (sv σ.hp [r, q1, q2, q3, q4, q5, q6] s) (.own 5006 6) = .own q6 u6 := by rw [yz24 (rid_m (j := 6) (by omega) rfl), s6]
    rw [Option.getD_some, callHp_h7 hnd]
    simp only [yz1f, yz12, yz1h, yzl, yz1v, s0, s1, s2, s3, s4, s5, s6, r1, r2, r3, r4, r5, r6]
    exact hk
theorem callHp_h8 {hp : Nat → AObj} {r q1 q2 q3 q4 q5 q6 q7 d : Nat} {s : Nat → Nat} {o0 o1 o2 o3 o4 o5 o6 o7 : AObj} (hnd : [r, q1, q2, q3, q4, q5, q6, q7].Nodup) :
    callHp hp [r, q1, q2, q3, q4, q5, q6, q7] d s [o0, o1, o2, o3, o4, o5, o6, o7] [] = (upd (upd (upd (upd (upd (upd (upd (upd hp r (o0.ren (rid [r, q1, q2, q3, q4, q5, q6, q7] d 0) (sv hp [r, q1, q2, q3, q4, q5, q6, q7] s))) q1 (o1.ren (rid [r, q1, q2, q3, q4, q5, q6, q7] d 0) (sv hp [r, q1, q2, q3, q4, q5, q6, q7] s))) q2 (o2.ren (rid [r, q1, q2, q3, q4, q5, q6, q7] d 0) (sv hp [r, q1, q2, q3, q4, q5, q6, q7] s))) q3 (o3.ren (rid [r, q1, q2, q3, q4, q5, q6, q7] d 0) (sv hp [r, q1, q2, q3, q4, q5, q6, q7] s))) q4 (o4.ren (rid [r, q1, q2, q3, q4, q5, q6, q7] d 0) (sv hp [r, q1, q2, q3, q4, q5, q6, q7] s))) q5 (o5.ren (rid [r, q1, q2, q3, q4, q5, q6, q7] d 0) (sv hp [r, q1, q2, q3, q4, q5, q6, q7] s))) q6 (o6.ren (rid [r, q1, q2, q3, q4, q5, q6, q7] d 0) (sv hp [r, q1, q2, q3, q4, q5, q6, q7] s))) q7 (o7.ren (rid [r, q1, q2, q3, q4, q5, q6, q7] d 0) (sv hp [r, q1, q2, q3, q4, q5, q6, q7] s))) := by
  have hnd' := hnd
  simp only [List.nodup_cons, List.mem_cons, List.not_mem_nil, or_false, not_or, List.nodup_nil, and_true, not_false_eq_true] at hnd'
  funext n
  by_cases e7 : n = q7
  · have h1 : rid [r, q1, q2, q3, q4, q5, q6, q7] d ([] : List AObj).length 5007 = some n := by rw [e7]; exact rid_m (j := 7) (by omega) rfl
    rw [yz13 hnd (by simp) h1]
    simp [upd, e7, outHp, hnd', Ne.symm]
    try (intros; simp_all)
  by_cases e6 : n = q6
  · have h1 : rid [r, q1, q2, q3, q4, q5, q6, q7] d ([] : List AObj).length 5006 = some n := by rw [e6]; exact rid_m (j := 6) (by omega) rfl
    rw [yz13 hnd (by simp) h1]
    simp [upd, e6, outHp, hnd', Ne.symm]
    try (intros; simp_all)
  by_cases e5 : n = q5
  · have h1 : rid [r, q1, q2, q3, q4, q5, q6, q7] d ([] : List AObj).length 5005 = some n := by rw [e5]; exact rid_m (j := 5) (by omega) rfl
    rw [yz13 hnd (by simp) h1]
    simp [upd, e5, outHp, hnd', Ne.symm]
    try (intros; simp_all)
  by_cases e4 : n = q4
  · have h1 : rid [r, q1, q2, q3, q4, q5, q6, q7] d ([] : List AObj).length 5004 = some n := by rw [e4]; exact rid_m (j := 4) (by omega) rfl
    rw [yz13 hnd (by simp) h1]
    simp [upd, e4, outHp, hnd', Ne.symm]
    try (intros; simp_all)
  by_cases e3 : n = q3
  · have h1 : rid [r, q1, q2, q3, q4, q5, q6, q7] d ([] : List AObj).length 5003 = some n := by rw [e3]; exact rid_m (j := 3) (by omega) rfl
    rw [yz13 hnd (by simp) h1]
    simp [upd, e3, outHp, hnd', Ne.symm]
    try (intros; simp_all)
  by_cases e2 : n = q2
  · have h1 : rid [r, q1, q2, q3, q4, q5, q6, q7] d ([] : List AObj).length 5002 = some n := by rw [e2]; exact rid_m (j := 2) (by omega) rfl
    rw [yz13 hnd (by simp) h1]
    simp [upd, e2, outHp, hnd', Ne.symm]
    try (intros; simp_all)
  by_cases e1 : n = q1
  · have h1 : rid [r, q1, q2, q3, q4, q5, q6, q7] d ([] : List AObj).length 5001 = some n := by rw [e1]; exact rid_m (j := 1) (by omega) rfl
    rw [yz13 hnd (by simp) h1]
    simp [upd, e1, outHp, hnd', Ne.symm]
    try (intros; simp_all)
  by_cases e0 : n = r
  · have h1 : rid [r, q1, q2, q3, q4, q5, q6, q7] d ([] : List AObj).length 5000 = some n := by rw [e0]; exact rid_m (j := 0) (by omega) rfl
    rw [yz13 hnd (by simp) h1]
    simp [upd, e0, outHp, hnd', Ne.symm]
    try (intros; simp_all)
  rw [callHp_not]
  · simp [upd, e0, e1, e2, e3, e4, e5, e6, e7]
  · rintro ⟨x, hx⟩
    rcases rid_cases hx with ⟨j, rfl, _, h3⟩ | ⟨i, rfl, h3, _⟩
    · match j, h3 with
      | 0, h3 => simp at h3; exact e0 h3.symm
      | 1, h3 => simp at h3; exact e1 h3.symm
      | 2, h3 => simp at h3; exact e2 h3.symm
      | 3, h3 => simp at h3; exact e3 h3.symm
      | 4, h3 => simp at h3; exact e4 h3.symm
      | 5, h3 => simp at h3; exact e5 h3.symm
      | 6, h3 => simp at h3; exact e6 h3.symm
      | 7, h3 => simp at h3; exact e7 h3.symm
      | j + 8, h3 => simp at h3
    · simp at h3
theorem call_mark7 {P : Program} {σ : St} {g : FuncId} {As args : List AVal} {d : Nat} {s : Nat → Nat} {K : St → Prop} {r q1 q2 q3 q4 q5 q6 q7 v u1 u2 u3 u4 u5 u6 u7 : Nat} {y1 y2 y3 y4 y5 y6 y7 y1' y2' y3' y4' y5' y6' y7' : List Int} {z : Int}
    (h : Con P g [.row 0 1 true [.own 5001 1, .own 5002 2, .own 5003 3, .own 5004 4, .own 5005 5, .own 5006 6, .own 5007 7], .row 1 1 true (ints y1), .row 2 1 true (ints y2), .row 3 1 true (ints y3), .row 4 1 true (ints y4), .row 5 1 true (ints y5), .row 6 1 true (ints y6), .row 7 1 true (ints y7)] args true fun outs rows res => outs = [.row 0 1 true [.own 5001 1, .own 5002 2, .own 5003 3, .own 5004 4, .own 5005 5, .own 5006 6, .own 5007 7], .row 1 1 true (ints y1'), .row 2 1 true (ints y2'), .row 3 1 true (ints y3'), .row 4 1 true (ints y4'), .row 5 1 true (ints y5'), .row 6 1 true (ints y6'), .row 7 1 true (ints y7')] ∧ rows = [] ∧ res = iv z)
    (hr : σ.hp r = .row v 1 true [.own q1 u1, .own q2 u2, .own q3 u3, .own q4 u4, .own q5 u5, .own q6 u6, .own q7 u7]) (h1 : σ.hp q1 = .row u1 1 true (ints y1)) (h2 : σ.hp q2 = .row u2 1 true (ints y2)) (h3 : σ.hp q3 = .row u3 1 true (ints y3)) (h4 : σ.hp q4 = .row u4 1 true (ints y4)) (h5 : σ.hp q5 = .row u5 1 true (ints y5)) (h6 : σ.hp q6 = .row u6 1 true (ints y6)) (h7 : σ.hp q7 = .row u7 1 true (ints y7)) (hnd : [r, q1, q2, q3, q4, q5, q6, q7].Nodup) (ha : CoeL σ.hp [r, q1, q2, q3, q4, q5, q6, q7] false args As)
    (hk : K (St.put ⟨σ.tm, (upd (upd (upd (upd (upd (upd (upd (upd σ.hp r (.row v 1 true [.own q1 u1, .own q2 u2, .own q3 u3, .own q4 u4, .own q5 u5, .own q6 u6, .own q7 u7])) q1 (.row u1 1 true (ints y1'))) q2 (.row u2 1 true (ints y2'))) q3 (.row u3 1 true (ints y3'))) q4 (.row u4 1 true (ints y4'))) q5 (.row u5 1 true (ints y5'))) q6 (.row u6 1 true (ints y6'))) q7 (.row u7 1 true (ints y7')))⟩ (some d) (iv z))) : wpCall P false σ g As (some d) s K := by
  refine .inl ⟨[r, q1, q2, q3, q4, q5, q6, q7], _, _, true, _, h, ⟨by simp, rfl, hnd, ?_, ?_⟩, ha, (fun e => by cases e), ?_⟩
  · intro x hx
    simp only [List.mem_cons, List.not_mem_nil, or_false] at hx
    rcases hx with rfl | rfl | rfl | rfl | rfl | rfl | rfl | rfl
    · simp [hr]
    · simp [h1]
    · simp [h2]
    · simp [h3]
    · simp [h4]
    · simp [h5]
    · simp [h6]
    · simp [h7]
  · intro j B r' hB hr'
    match j, hB, hr' with
    | 0, hB, hr' =>
      simp at hB hr'; subst hB; subst hr'
      simp only [ObjCoe, hr]
      refine ⟨trivial, v, _, rfl, ?_⟩
      simp only [yz6, yz9, and_true, Coe]
      exact ⟨⟨1, q1, u1, rfl, rfl, rfl, rfl, by rw [h1]; rfl⟩, ⟨2, q2, u2, rfl, rfl, rfl, rfl, by rw [h2]; rfl⟩, ⟨3, q3, u3, rfl, rfl, rfl, rfl, by rw [h3]; rfl⟩, ⟨4, q4, u4, rfl, rfl, rfl, rfl, by rw [h4]; rfl⟩, ⟨5, q5, u5, rfl, rfl, rfl, rfl, by rw [h5]; rfl⟩, ⟨6, q6, u6, rfl, rfl, rfl, rfl, by rw [h6]; rfl⟩, ⟨7, q7, u7, rfl, rfl, rfl, rfl, by rw [h7]; rfl⟩⟩
    | 1, hB, hr' =>
      simp at hB hr'; subst hB; subst hr'
      simp only [ObjCoe, h1]
      exact ⟨trivial, u1, _, rfl, yz1i⟩
    | 2, hB, hr' =>
      simp at hB hr'; subst hB; subst hr'
      simp only [ObjCoe, h2]
      exact ⟨trivial, u2, _, rfl, yz1i⟩
    | 3, hB, hr' =>
      simp at hB hr'; subst hB; subst hr'
      simp only [ObjCoe, h3]
      exact ⟨trivial, u3, _, rfl, yz1i⟩
    | 4, hB, hr' =>
      simp at hB hr'; subst hB; subst hr'
      simp only [ObjCoe, h4]
      exact ⟨trivial, u4, _, rfl, yz1i⟩
    | 5, hB, hr' =>
      simp at hB hr'; subst hB; subst hr'
      simp only [ObjCoe, h5]
      exact ⟨trivial, u5, _, rfl, yz1i⟩
    | 6, hB, hr' =>
      simp at hB hr'; subst hB; subst hr'
      simp only [ObjCoe, h6]
      exact ⟨trivial, u6, _, rfl, yz1i⟩
    | 7, hB, hr' =>
      simp at hB hr'; subst hB; subst hr'
      simp only [ObjCoe, h7]
      exact ⟨trivial, u7, _, rfl, yz1i⟩
    | j + 8, hB, hr' => simp at hB
  · rintro outs rows res ⟨rfl, rfl, rfl⟩
    refine ⟨rfl, by simp, by simp, ?_⟩
    have s0 : sv σ.hp [r, q1, q2, q3, q4, q5, q6, q7] s 0 = v := by simp [sv, hr, AObj.ver]
    have s1 : sv σ.hp [r, q1, q2, q3, q4, q5, q6, q7] s 1 = u1 := by simp [sv, h1, AObj.ver]
    have s2 : sv σ.hp [r, q1, q2, q3, q4, q5, q6, q7] s 2 = u2 := by simp [sv, h2, AObj.ver]
    have s3 : sv σ.hp [r, q1, q2, q3, q4, q5, q6, q7] s 3 = u3 := by simp [sv, h3, AObj.ver]
    have s4 : sv σ.hp [r, q1, q2, q3, q4, q5, q6, q7] s 4 = u4 := by simp [sv, h4, AObj.ver]
    have s5 : sv σ.hp [r, q1, q2, q3, q4, q5, q6, q7] s 5 = u5 := by simp [sv, h5, AObj.ver]
    have s6 : sv σ.hp [r, q1, q2, q3, q4, q5, q6, q7] s 6 = u6 := by simp [sv, h6, AObj.ver]
    have s7 : sv σ.hp [r, q1, q2, q3, q4, q5, q6, q7] s 7 = u7 := by simp [sv, h7, AObj.ver]
    have r1 : AVal.ren (rid [r, q1, q2, q3, q4, q5, q6, q7] d 0) (sv σ.hp [r, q1, q2, q3, q4, q5, q6, q7] s) (.own 5001 1) = .own q1 u1 := by rw [yz24 (rid_m (j := 1) (by omega) rfl), s1]
    have r2 : AVal.ren (rid [r, q1, q2, q3, q4, q5, q6, q7] d 0) (sv σ.hp [r, q1, q2, q3, q4, q5, q6, q7] s) (.own 5002 2) = .own q2 u2 := by rw [yz24 (rid_m (j := 2) (by omega) rfl), s2]
    have r3 : AVal.ren (rid [r, q1, q2, q3, q4, q5, q6, q7] d 0) (sv σ.hp [r, q1, q2, q3, q4, q5, q6, q7] s) (.own 5003 3) = .own q3 u3 := by rw [yz24 (rid_m (j := 3) (by omega) rfl), s3]
    have r4 : AVal.ren (rid [r, q1, q2, q3, q4, q5, q6, q7] d 0) (sv σ.hp [r, q1, q2, q3, q4, q5, q6, q7] s) (.own 5004 4) = .own q4 u4 := by rw [yz24 (rid_m (j := 4) (by omega) rfl), s4]
    have r5 : AVal.ren (rid [r, q1, q2, q3, q4, q5, q6, q7] d 0) (sv σ.hp [r, q1, q2, q3, q4, q5, q6, q7] s) (.own 5005 5) = .own q5 u5 := by rw [yz24 (rid_m (j := 5) (by omega) rfl), s5]
    have r6 : AVal.ren (rid [r, q1, q2, q3, q4, q5, q6, q7] d 0) (sv σ.hp [r, q1, q2, q3, q4, q5, q6, q7] s) (.own 5006 6) = .own q6 u6 := by rw [yz24 (rid_m (j := 6) (by omega) rfl), s6]
    have r7 : AVal.ren (rid [r, q1, q2, q3, q4, q5, q6, q7] d 0) (sv σ.hp [r, q1, q2, q3, q4, q5, q6, q7] s) (.own 5007 7) = .own q7 u7 := by rw [yz24 (rid_m (j := 7) (by omega) rfl), s7]
    rw [Option.getD_some, callHp_h8 hnd]
    simp only [yz1f, yz12, yz1h, yzl, yz1v, s0, s1, s2, s3, s4, s5, s6, s7, r1, r2, r3, r4, r5, r6, r7]
    exact hk
theorem callHp_h9 {hp : Nat → AObj} {r q1 q2 q3 q4 q5 q6 q7 q8 d : Nat} {s : Nat → Nat} {o0 o1 o2 o3 o4 o5 o6 o7 o8 : AObj} (hnd : [r, q1, q2, q3, q4, q5, q6, q7, q8].Nodup) :
    callHp hp [r, q1, q2, q3, q4, q5, q6, q7, q8] d s [o0, o1, o2, o3, o4, o5, o6, o7, o8] [] = (upd (upd (upd (upd (upd (upd (upd (upd (upd hp r (o0.ren (rid [r, q1, q2, q3, q4, q5, q6, q7, q8] d 0) (sv hp [r, q1, q2, q3, q4, q5, q6, q7, q8] s))) q1 (o1.ren (rid [r, q1, q2, q3, q4, q5, q6, q7, q8] d 0) (sv hp [r, q1, q2, q3, q4, q5, q6, q7, q8] s))) q2 (o2.ren (rid [r, q1, q2, q3, q4, q5, q6, q7, q8] d 0) (sv hp [r, q1, q2, q3, q4, q5, q6, q7, q8] s))) q3 (o3.ren (rid [r, q1, q2, q3, q4, q5, q6, q7, q8] d 0) (sv hp [r, q1, q2, q3, q4, q5, q6, q7, q8] s))) q4 (o4.ren (rid [r, q1, q2, q3, q4, q5, q6, q7, q8] d 0) (sv hp [r, q1, q2, q3, q4, q5, q6, q7, q8] s))) q5 (o5.ren (rid [r, q1, q2, q3, q4, q5, q6, q7, q8] d 0) (sv hp [r, q1, q2, q3, q4, q5, q6, q7, q8] s))) q6 (o6.ren (rid [r, q1, q2, q3, q4, q5, q6, q7, q8] d 0) (sv hp [r, q1, q2, q3, q4, q5, q6, q7, q8] s))) q7 (o7.ren (rid [r, q1, q2, q3, q4, q5, q6, q7, q8] d 0) (sv hp [r, q1, q2, q3, q4, q5, q6, q7, q8] s))) q8 (o8.ren (rid [r, q1, q2, q3, q4, q5, q6, q7, q8] d 0) (sv hp [r, q1, q2, q3, q4, q5, q6, q7, q8] s))) := by
  have hnd' := hnd
  simp only [List.nodup_cons, List.mem_cons, List.not_mem_nil, or_false, not_or, List.nodup_nil, and_true, not_false_eq_true] at hnd'
  funext n
  by_cases e8 : n = q8
  · have h1 : rid [r, q1, q2, q3, q4, q5, q6, q7, q8] d ([] : List AObj).length 5008 = some n := by rw [e8]; exact rid_m (j := 8) (by omega) rfl
    rw [yz13 hnd (by simp) h1]
    simp [upd, e8, outHp, hnd', Ne.symm]
    try (intros; simp_all)
  by_cases e7 : n = q7
  · have h1 : rid [r, q1, q2, q3, q4, q5, q6, q7, q8] d ([] : List AObj).length 5007 = some n := by rw [e7]; exact rid_m (j := 7) (by omega) rfl
    rw [yz13 hnd (by simp) h1]
    simp [upd, e7, outHp, hnd', Ne.symm]
    try (intros; simp_all)
  by_cases e6 : n = q6
  · have h1 : rid [r, q1, q2, q3, q4, q5, q6, q7, q8] d ([] : List AObj).length 5006 = some n := by rw [e6]; exact rid_m (j := 6) (by omega) rfl
    rw [yz13 hnd (by simp) h1]
    simp [upd, e6, outHp, hnd', Ne.symm]
    try (intros; simp_all)
  by_cases e5 : n = q5
  · have h1 : rid [r, q1, q2, q3, q4, q5, q6, q7, q8] d ([] : List AObj).length 5005 = some n := by rw [e5]; exact rid_m (j := 5) (by omega) rfl
    rw [yz13 hnd (by simp) h1]
    simp [upd, e5, outHp, hnd', Ne.symm]
    try (intros; simp_all)
  by_cases e4 : n = q4
  · have h1 : rid [r, q1, q2, q3, q4, q5, q6, q7, q8] d ([] : List AObj).length 5004 = some n := by rw [e4]; exact rid_m (j := 4) (by omega) rfl
    rw [yz13 hnd (by simp) h1]
    simp [upd, e4, outHp, hnd', Ne.symm]
    try (intros; simp_all)
  by_cases e3 : n = q3
  · have h1 : rid [r, q1, q2, q3, q4, q5, q6, q7, q8] d ([] : List AObj).length 5003 = some n := by rw [e3]; exact rid_m (j := 3) (by omega) rfl
    rw [yz13 hnd (by simp) h1]
    simp [upd, e3, outHp, hnd', Ne.symm]
    try (intros; simp_all)
  by_cases e2 : n = q2
  · have h1 : rid [r, q1, q2, q3, q4, q5, q6, q7, q8] d ([] : List AObj).length 5002 = some n := by rw [e2]; exact rid_m (j := 2) (by omega) rfl
    rw [yz13 hnd (by simp) h1]
    simp [upd, e2, outHp, hnd', Ne.symm]
    try (intros; simp_all)
  by_cases e1 : n = q1
  · have h1 : rid [r, q1, q2, q3, q4, q5, q6, q7, q8] d ([] : List AObj).length 5001 = some n := by rw [e1]; exact rid_m (j := 1) (by omega) rfl
    rw [yz13 hnd (by simp) h1]
    simp [upd, e1, outHp, hnd', Ne.symm]
    try (intros; simp_all)
  by_cases e0 : n = r
  · have h1 : rid [r, q1, q2, q3, q4, q5, q6, q7, q8] d ([] : List AObj).length 5000 = some n := by rw [e0]; exact rid_m (j := 0) (by omega) rfl
    rw [yz13 hnd (by simp) h1]
    simp [upd, e0, outHp, hnd', Ne.symm]
    try (intros; simp_all)
  rw [callHp_not]
  · simp [upd, e0, e1, e2, e3, e4, e5, e6, e7, e8]
  · rintro ⟨x, hx⟩
    rcases rid_cases hx with ⟨j, rfl, _, h3⟩ | ⟨i, rfl, h3, _⟩
    · match j, h3 with
      | 0, h3 => simp at h3; exact e0 h3.symm
      | 1, h3 => simp at h3; exact e1 h3.symm
      | 2, h3 => simp at h3; exact e2 h3.symm
      | 3, h3 => simp at h3; exact e3 h3.symm
      | 4, h3 => simp at h3; exact e4 h3.symm
      | 5, h3 => simp at h3; exact e5 h3.symm
      | 6, h3 => simp at h3; exact e6 h3.symm
      | 7, h3 => simp at h3; exact e7 h3.symm
      | 8, h3 => simp at h3; exact e8 h3.symm
      | j + 9, h3 => simp at h3
    · simp at h3
theorem call_mark8 {P : Program} {σ : St} {g : FuncId} {As args : List AVal} {d : Nat} {s : Nat → Nat} {K : St → Prop} {r q1 q2 q3 q4 q5 q6 q7 q8 v u1 u2 u3 u4 u5 u6 u7 u8 : Nat} {y1 y2 y3 y4 y5 y6 y7 y8 y1' y2' y3' y4' y5' y6' y7' y8' : List Int} {z : Int}
    (h : Con P g [.row 0 1 true [.own 5001 1, .own 5002 2, .own 5003 3, .own 5004 4, .own 5005 5, .own 5006 6, .own 5007 7, .own 5008 8], .row 1 1 true (ints y1), .row 2 1 true (ints y2), .row 3 1 true (ints y3), .row 4 1 true (ints y4), .row 5 1 true (ints y5), .row 6 1 true (ints y6), .row 7 1 true (ints y7), .row 8 1 true (ints y8)] args true fun outs rows res => outs = [.row 0 1 true [.own 5001 1, .own 5002 2, .own 5003 3, .own 5004 4, .own 5005 5, .own 5006 6, .own 5007 7, .own 5008 8], .row 1 1 true (ints y1'), .row 2 1 true (ints y2'), .row 3 1 true (ints y3'), .row 4 1 true (ints y4'), .row 5 1 true (ints y5'), .row 6 1 true (ints y6'), .row 7 1 true (ints y7'), .row 8 1 true (ints y8')] ∧ rows = [] ∧ res = iv z)
    (hr : σ.hp r = .row v 1 true [.own q1 u1, .own q2 u2, .own q3 u3, .own q4 u4, .own q5 u5, .own q6 u6, .own q7 u7, .own q8 u8]) (h1 : σ.hp q1 = .row u1 1 true (ints y1)) (h2 : σ.hp q2 = .row u2 1 true (ints y2)) (h3 : σ.hp q3 = .row u3 1 true (ints y3)) (h4 : σ.hp q4 = .row u4 1 true (ints y4)) (h5 : σ.hp q5 = .row u5 1 true (ints y5)) (h6 : σ.hp q6 = .row u6 1 true (ints y6)) (h7 : σ.hp q7 = .row u7 1 true (ints y7)) (h8 : σ.hp q8 = .row u8 1 true (ints y8)) (hnd : [r, q1, q2, q3, q4, q5, q6, q7, q8].Nodup) (ha : CoeL σ.hp [r, q1, q2, q3, q4, q5, q6, q7, q8] false args As)
    (hk : K (St.put ⟨σ.tm, (upd (upd (upd (upd (upd (upd (upd (upd (upd σ.hp r (.row v 1 true [.own q1 u1, .own q2 u2, .own q3 u3, .own q4 u4, .own q5 u5, .own q6 u6, .own q7 u7, .own q8 u8])) q1 (.row u1 1 true (ints y1'))) q2 (.row u2 1 true (ints y2'))) q3 (.row u3 1 true (ints y3'))) q4 (.row u4 1 true (ints y4'))) q5 (.row u5 1 true (ints y5'))) q6 (.row u6 1 true (ints y6'))) q7 (.row u7 1 true (ints y7'))) q8 (.row u8 1 true (ints y8')))⟩ (some d) (iv z))) : wpCall P false σ g As (some d) s K := by
  refine .inl ⟨[r, q1, q2, q3, q4, q5, q6, q7, q8], _, _, true, _, h, ⟨by simp, rfl, hnd, ?_, ?_⟩, ha, (fun e => by cases e), ?_⟩
  · intro x hx
    simp only [List.mem_cons, List.not_mem_nil, or_false] at hx
    rcases hx with rfl | rfl | rfl | rfl | rfl | rfl | rfl | rfl | rfl
    · simp [hr]
    · simp [h1]
    · simp [h2]
    · simp [h3]
    · simp [h4]
    · simp [h5]
    · simp [h6]
    · simp [h7]
    · simp [h8]
  · intro j B r' hB hr'
    match j, hB, hr' with
    | 0, hB, hr' =>
      simp at hB hr'; subst hB; subst hr'
      simp only [ObjCoe, hr]
      refine ⟨trivial, v, _, rfl, ?_⟩
      simp only [yz6, yz9, and_true, Coe]
      exact ⟨⟨1, q1, u1, rfl, rfl, rfl, rfl, by rw [h1]; rfl⟩, ⟨2, q2, u2, rfl, rfl, rfl, rfl, by rw [h2]; rfl⟩, ⟨3, q3, u3, rfl, rfl, rfl, rfl, by rw [h3]; rfl⟩, ⟨4, q4, u4, rfl, rfl, rfl, rfl, by rw [h4]; rfl⟩, ⟨5, q5, u5, rfl, rfl, rfl, rfl, by rw [h5]; rfl⟩, ⟨6, q6, u6, rfl, rfl, rfl, rfl, by rw [h6]; rfl⟩, ⟨7, q7, u7, rfl, rfl, rfl, rfl, by rw [h7]; rfl⟩, ⟨8, q8, u8, rfl, rfl, rfl, rfl, by rw [h8]; rfl⟩⟩
    | 1, hB, hr' =>
      simp at hB hr'; subst hB; subst hr'
      simp only [ObjCoe, h1]
      exact ⟨trivial, u1, _, rfl, yz1i⟩
    | 2, hB, hr' =>
      simp at hB hr'; subst hB; subst hr'
      simp only [ObjCoe, h2]
      exact ⟨trivial, u2, _, rfl, yz1i⟩
    | 3, hB, hr' =>
      simp at hB hr'; subst hB; subst hr'
      simp only [ObjCoe, h3]
      exact ⟨trivial, u3, _, rfl, yz1i⟩
    | 4, hB, hr' =>
      simp at hB hr'; subst hB; subst hr'
      simp only [ObjCoe, h4]
      exact ⟨trivial, u4, _, rfl, yz1i⟩
    | 5, hB, hr' =>
      simp at hB hr'; subst hB; subst hr'
      simp only [ObjCoe, h5]
      exact ⟨trivial, u5, _, rfl, yz1i⟩
    | 6, hB, hr' =>
      simp at hB hr'; subst hB; subst hr'
      simp only [ObjCoe, h6]
      exact ⟨trivial, u6, _, rfl, yz1i⟩
    | 7, hB, hr' =>
      simp at hB hr'; subst hB; subst hr'
      simp only [ObjCoe, h7]
      exact ⟨trivial, u7, _, rfl, yz1i⟩
    | 8, hB, hr' =>
      simp at hB hr'; subst hB; subst hr'
      simp only [ObjCoe, h8]
      exact ⟨trivial, u8, _, rfl, yz1i⟩
    | j + 9, hB, hr' => simp at hB
  · rintro outs rows res ⟨rfl, rfl, rfl⟩
    refine ⟨rfl, by simp, by simp, ?_⟩
    have s0 : sv σ.hp [r, q1, q2, q3, q4, q5, q6, q7, q8] s 0 = v := by simp [sv, hr, AObj.ver]
    have s1 : sv σ.hp [r, q1, q2, q3, q4, q5, q6, q7, q8] s 1 = u1 := by simp [sv, h1, AObj.ver]
    have s2 : sv σ.hp [r, q1, q2, q3, q4, q5, q6, q7, q8] s 2 = u2 := by simp [sv, h2, AObj.ver]
    have s3 : sv σ.hp [r, q1, q2, q3, q4, q5, q6, q7, q8] s 3 = u3 := by simp [sv, h3, AObj.ver]
    have s4 : sv σ.hp [r, q1, q2, q3, q4, q5, q6, q7, q8] s 4 = u4 := by simp [sv, h4, AObj.ver]
    have s5 : sv σ.hp [r, q1, q2, q3, q4, q5, q6, q7, q8] s 5 = u5 := by simp [sv, h5, AObj.ver]
    have s6 : sv σ.hp [r, q1, q2, q3, q4, q5, q6, q7, q8] s 6 = u6 := by simp [sv, h6, AObj.ver]
    have s7 : sv σ.hp [r, q1, q2, q3, q4, q5, q6, q7, q8] s 7 = u7 := by simp [sv, h7, AObj.ver]
    have s8 : sv σ.hp [r, q1, q2, q3, q4, q5, q6, q7, q8] s 8 = u8 := by simp [sv, h8, AObj.ver]
    have r1 : AVal.ren (rid [r, q1, q2, q3, q4, q5, q6, q7, q8] d 0) (sv σ.hp [r, q1, q2, q3, q4, q5, q6, q7, q8] s) (.own 5001 1) = .own q1 u1 := by rw [yz24 (rid_m (j := 1) (by omega) rfl), s1]
    have r2 : AVal.ren (rid [r, q1, q2, q3, q4, q5, q6, q7, q8] d 0) (sv σ.hp [r, q1, q2, q3, q4, q5, q6, q7, q8] s) (.own 5002 2) = .own q2 u2 := by rw [yz24 (rid_m (j := 2) (by omega) rfl), s2]
    have r3 : AVal.ren (rid [r, q1, q2, q3, q4, q5, q6, q7, q8] d 0) (sv σ.hp [r, q1, q2, q3, q4, q5, q6, q7, q8] s) (.own 5003 3) = .own q3 u3 := by rw [yz24 (rid_m (j := 3) (by omega) rfl), s3]
    have r4 : AVal.ren (rid [r, q1, q2, q3, q4, q5, q6, q7, q8] d 0) (sv σ.hp [r, q1, q2, q3, q4, q5, q6, q7, q8] s) (.own 5004 4) = .own q4 u4 := by rw [yz24 (rid_m (j := 4) (by omega) rfl), s4]
    have r5 : AVal.ren (rid [r, q1, q2, q3, q4, q5, q6, q7, q8] d 0) (sv σ.hp [r, q1, q2, q3, q4, q5, q6, q7, q8] s) (.own 5005 5) = .own q5 u5 := by rw [yz24 (rid_m (j := 5) (by omega) rfl), s5]
    have r6 : AVal.ren (rid [r, q1, q2, q3, q4, q5, q6, q7, q8] d 0) (sv σ.hp [r, q1, q2, q3, q4, q5, q6, q7, q8] s) (.own 5006 6) = .own q6 u6 := by rw [yz24 (rid_m (j := 6) (by omega) rfl), s6]
    have r7 : AVal.ren (rid [r, q1, q2, q3, q4, q5, q6, q7, q8] d 0) (sv σ.hp [r, q1, q2, q3, q4, q5, q6, q7, q8] s) (.own 5007 7) = .own q7 u7 := by rw [yz24 (rid_m (j := 7) (by omega) rfl), s7]
    have r8 : AVal.ren (rid [r, q1, q2, q3, q4, q5, q6, q7, q8] d 0) (sv σ.hp [r, q1, q2, q3, q4, q5, q6, q7, q8] s) (.own 5008 8) = .own q8 u8 := by rw [yz24 (rid_m (j := 8) (by omega) rfl), s8]
    rw [Option.getD_some, callHp_h9 hnd]
    simp only [yz1f, yz12, yz1h, yzl, yz1v, s0, s1, s2, s3, s4, s5, s6, s7, s8, r1, r2, r3, r4, r5, r6, r7, r8]
    exact hk
theorem callHp_h10 {hp : Nat → AObj} {r q1 q2 q3 q4 q5 q6 q7 q8 q9 d : Nat} {s : Nat → Nat} {o0 o1 o2 o3 o4 o5 o6 o7 o8 o9 : AObj} (hnd : [r, q1, q2, q3, q4, q5, q6, q7, q8, q9].Nodup) :
    callHp hp [r, q1, q2, q3, q4, q5, q6, q7, q8, q9] d s [o0, o1, o2, o3, o4, o5, o6, o7, o8, o9] [] = (upd (upd (upd (upd (upd (upd (upd (upd (upd (upd hp r (o0.ren (rid [r, q1, q2, q3, q4, q5, q6, q7, q8, q9] d 0) (sv hp [r, q1, q2, q3, q4, q5, q6, q7, q8, q9] s))) q1 (o1.ren (rid [r, q1, q2, q3, q4, q5, q6, q7, q8, q9] d 0) (sv hp [r, q1, q2, q3, q4, q5, q6, q7, q8, q9] s))) q2 (o2.ren (rid [r, q1, q2, q3, q4, q5, q6, q7, q8, q9] d 0) (sv hp [r, q1, q2, q3, q4, q5, q6, q7, q8, q9] s))) q3 (o3.ren (rid [r, q1, q2, q3, q4, q5, q6, q7, q8, q9] d 0) (sv hp [r, q1, q2, q3, q4, q5, q6, q7, q8, q9] s))) q4 (o4.ren (rid [r, q1, q2, q3, q4, q5, q6, q7, q8, q9] d 0) (sv hp [r, q1, q2, q3, q4, q5, q6, q7, q8, q9] s))) q5 (o5.ren (rid [r, q1, q2, q3, q4, q5, q6, q7, q8, q9] d 0) (sv hp [r, q1, q2, q3, q4, q5, q6, q7, q8, q9] s))) q6 (o6.ren (rid [r, q1, q2, q3, q4, q5, q6, q7, q8, q9] d 0) (sv hp [r, q1, q2, q3, q4, q5, q6, q7, q8, q9] s))) q7 (o7.ren (rid [r, q1, q2, q3, q4, q5, q6, q7, q8, q9] d 0) (sv hp [r, q1, q2, q3, q4, q5, q6, q7, q8, q9] s))) q8 (o8.ren (rid [r, q1, q2, q3, q4, q5, q6, q7, q8, q9] d 0) (sv hp [r, q1, q2, q3, q4, q5, q6, q7, q8, q9] s))) q9 (o9.ren (rid [r, q1, q2, q3, q4, q5, q6, q7, q8, q9] d 0) (sv hp [r, q1, q2, q3, q4, q5, q6, q7, q8, q9] s))) := by
  have hnd' := hnd
  simp only [List.nodup_cons, List.mem_cons, List.not_mem_nil, or_false, not_or, List.nodup_nil, and_true, not_false_eq_true] at hnd'
  funext n
  by_cases e9 : n = q9
  · have h1 : rid [r, q1, q2, q3, q4, q5, q6, q7, q8, q9] d ([] : List AObj).length 5009 = some n := by rw [e9]; exact rid_m (j := 9) (by omega) rfl
    rw [yz13 hnd (by simp) h1]
    simp [upd, e9, outHp, hnd', Ne.symm]
    try (intros; simp_all)
  by_cases e8 : n = q8
  · have h1 : rid [r, q1, q2, q3, q4, q5, q6, q7, q8, q9] d ([] : List AObj).length 5008 = some n := by rw [e8]; exact rid_m (j := 8) (by omega) rfl
    rw [yz13 hnd (by simp) h1]
    simp [upd, e8, outHp, hnd', Ne.symm]
    try (intros; simp_all)
  by_cases e7 : n = q7
  · have h1 : rid [r, q1, q2, q3, q4, q5, q6, q7, q8, q9] d ([] : List AObj).length 5007 = some n := by rw [e7]; exact rid_m (j := 7) (by omega) rfl
    rw [yz13 hnd (by simp) h1]
    simp [upd, e7, outHp, hnd', Ne.symm]
    try (intros; simp_all)
  by_cases e6 : n = q6
  · have h1 : rid [r, q1, q2, q3, q4, q5, q6, q7, q8, q9] d ([] : List AObj).length 5006 = some n := by rw [e6]; exact rid_m (j := 6) (by omega) rfl
    rw [yz13 hnd (by simp) h1]
    simp [upd, e6, outHp, hnd', Ne.symm]
    try (intros; simp_all)
  by_cases e5 : n = q5
  · have h1 : rid [r, q1, q2, q3, q4, q5, q6, q7, q8, q9] d ([] : List AObj).length 5005 = some n := by rw [e5]; exact rid_m (j := 5) (by omega) rfl
    rw [yz13 hnd (by simp) h1]
    simp [upd, e5, outHp, hnd', Ne.symm]
    try (intros; simp_all)
  by_cases e4 : n = q4
  · have h1 : rid [r, q1, q2, q3, q4, q5, q6, q7, q8, q9] d ([] : List AObj).length 5004 = some n := by rw [e4]; exact rid_m (j := 4) (by omega) rfl
    rw [yz13 hnd (by simp) h1]
    simp [upd, e4, outHp, hnd', Ne.symm]
    try (intros; simp_all)
  by_cases e3 : n = q3
  · have h1 : rid [r, q1, q2, q3, q4, q5, q6, q7, q8, q9] d ([] : List AObj).length 5003 = some n := by rw [e3]; exact rid_m (j := 3) (by omega) rfl
    rw [yz13 hnd (by simp) h1]
    simp [upd, e3, outHp, hnd', Ne.symm]
    try (intros; simp_all)
  by_cases e2 : n = q2
  · have h1 : rid [r, q1, q2, q3, q4, q5, q6, q7, q8, q9] d ([] : List AObj).length 5002 = some n := by rw [e2]; exact rid_m (j := 2) (by omega) rfl
    rw [yz13 hnd (by simp) h1]
    simp [upd, e2, outHp, hnd', Ne.symm]
    try (intros; simp_all)
  by_cases e1 : n = q1
  · have h1 : rid [r, q1, q2, q3, q4, q5, q6, q7, q8, q9] d ([] : List AObj).length 5001 = some n := by rw [e1]; exact rid_m (j := 1) (by omega) rfl
    rw [yz13 hnd (by simp) h1]
    simp [upd, e1, outHp, hnd', Ne.symm]
    try (intros; simp_all)
  by_cases e0 : n = r
  · have h1 : rid [r, q1, q2, q3, q4, q5, q6, q7, q8, q9] d ([] : List AObj).length 5000 = some n := by rw [e0]; exact rid_m (j := 0) (by omega) rfl
    rw [yz13 hnd (by simp) h1]
    simp [upd, e0, outHp, hnd', Ne.symm]
    try (intros; simp_all)
  rw [callHp_not]
  · simp [upd, e0, e1, e2, e3, e4, e5, e6, e7, e8, e9]
  · rintro ⟨x, hx⟩
    rcases rid_cases hx with ⟨j, rfl, _, h3⟩ | ⟨i, rfl, h3, _⟩
    · match j, h3 with
      | 0, h3 => simp at h3; exact e0 h3.symm
      | 1, h3 => simp at h3; exact e1 h3.symm
      | 2, h3 => simp at h3; exact e2 h3.symm
      | 3, h3 => simp at h3; exact e3 h3.symm
      | 4, h3 => simp at h3; exact e4 h3.symm
      | 5, h3 => simp at h3; exact e5 h3.symm
      | 6, h3 => simp at h3; exact e6 h3.symm
      | 7, h3 => simp at h3; exact e7 h3.symm
      | 8, h3 => simp at h3; exact e8 h3.symm
      | 9, h3 => simp at h3; exact e9 h3.symm
      | j + 10, h3 => simp at h3
    · simp at h3
theorem call_mark9 {P : Program} {σ : St} {g : FuncId} {As args : List AVal} {d : Nat} {s : Nat → Nat} {K : St → Prop} {r q1 q2 q3 q4 q5 q6 q7 q8 q9 v u1 u2 u3 u4 u5 u6 u7 u8 u9 : Nat} {y1 y2 y3 y4 y5 y6 y7 y8 y9 y1' y2' y3' y4' y5' y6' y7' y8' y9' : List Int} {z : Int}
    (h : Con P g [.row 0 1 true [.own 5001 1, .own 5002 2, .own 5003 3, .own 5004 4, .own 5005 5, .own 5006 6, .own 5007 7, .own 5008 8, .own 5009 9], .row 1 1 true (ints y1), .row 2 1 true (ints y2), .row 3 1 true (ints y3), .row 4 1 true (ints y4), .row 5 1 true (ints y5), .row 6 1 true (ints y6), .row 7 1 true (ints y7), .row 8 1 true (ints y8), .row 9 1 true (ints y9)] args true fun outs rows res => outs = [.row 0 1 true [.own 5001 1, .own 5002 2, .own 5003 3, .own 5004 4, .own 5005 5, .own 5006 6, .own 5007 7, .own 5008 8, .own 5009 9], .row 1 1 true (ints y1'), .row 2 1 true (ints y2'), .row 3 1 true (ints y3'), .row 4 1 true (ints y4'), .row 5 1 true (ints y5'), .row 6 1 true (ints y6'), .row 7 1 true (ints y7'), .row 8 1 true (ints y8'), .row 9 1 true (ints y9')] ∧ rows = [] ∧ res = iv z)
    (hr : σ.hp r = .row v 1 true [.own q1 u1, .own q2 u2, .own q3 u3, .own q4 u4, .own q5 u5, .own q6 u6, .own q7 u7, .own q8 u8, .own q9 u9]) (h1 : σ.hp q1 = .row u1 1 true (ints y1)) (h2 : σ.hp q2 = .row u2 1 true (ints y2)) (h3 : σ.hp q3 = .row u3 1 true (ints y3)) (h4 : σ.hp q4 = .row u4 1 true (ints y4)) (h5 : σ.hp q5 = .row u5 1 true (ints y5)) (h6 : σ.hp q6 = .row u6 1 true (ints y6)) (h7 : σ.hp q7 = .row u7 1 true (ints y7)) (h8 : σ.hp q8 = .row u8 1 true (ints y8)) (h9 : σ.hp q9 = .row u9 1 true (ints y9)) (hnd : [r, q1, q2, q3, q4, q5, q6, q7, q8, q9].Nodup) (ha : CoeL σ.hp [r, q1, q2, q3, q4, q5, q6, q7, q8, q9] false args As)
    (hk : K (St.put ⟨σ.tm, (upd (upd (upd (upd (upd (upd (upd (upd (upd (upd σ.hp r (.row v 1 true [.own q1 u1, .own q2 u2, .own q3 u3, .own q4 u4, .own q5 u5, .own q6 u6, .own q7 u7, .own q8 u8, .own q9 u9])) q1 (.row u1 1 true (ints y1'))) q2 (.row u2 1 true (ints y2'))) q3 (.row u3 1 true (ints y3'))) q4 (.row u4 1 true (ints y4'))) q5 (.row u5 1 true (ints y5'))) q6 (.row u6 1 true (ints y6'))) q7 (.row u7 1 true (ints y7'))) q8 (.row u8 1 true (ints y8'))) q9 (.row u9 1 true (ints y9')))⟩ (some d) (iv z))) : wpCall P false σ g As (some d) s K := by
  refine .inl ⟨[r, q1, q2, q3, q4, q5, q6, q7, q8, q9], _, _, true, _, h, ⟨by simp, rfl, hnd, ?_, ?_⟩, ha, (fun e => by cases e), ?_⟩
  · intro x hx
    simp only [List.mem_cons, List.not_mem_nil, or_false] at hx
    rcases hx with rfl | rfl | rfl | rfl | rfl | rfl | rfl | rfl | rfl | rfl
    · simp [hr]
    · simp [h1]
    · simp [h2]
    · simp [h3]
    · simp [h4]
    · simp [h5]
    · simp [h6]
    · simp [h7]
    · simp [h8]
    · simp [h9]
  · intro j B r' hB hr'
    match j, hB, hr' with
    | 0, hB, hr' =>
      simp at hB hr'; subst hB; subst hr'
      simp only [ObjCoe, hr]
      refine ⟨trivial, v, _, rfl, ?_⟩
      simp only [yz6, yz9, and_true, Coe]
      exact ⟨⟨1, q1, u1, rfl, rfl, rfl, rfl, by rw [h1]; rfl⟩, ⟨2, q2, u2, rfl, rfl, rfl, rfl, by rw [h2]; rfl⟩, ⟨3, q3, u3, rfl, rfl, rfl, rfl, by rw [h3]; rfl⟩, ⟨4, q4, u4, rfl, rfl, rfl, rfl, by rw [h4]; rfl⟩, ⟨5, q5, u5, rfl, rfl, rfl, rfl, by rw [h5]; rfl⟩, ⟨6, q6, u6, rfl, rfl, rfl, rfl, by rw [h6]; rfl⟩, ⟨7, q7, u7, rfl, rfl, rfl, rfl, by rw [h7]; rfl⟩, ⟨8, q8, u8, rfl, rfl, rfl, rfl, by rw [h8]; rfl⟩, ⟨9, q9, u9, rfl, rfl, rfl, rfl, by rw [h9]; rfl⟩⟩
    | 1, hB, hr' =>
      simp at hB hr'; subst hB; subst hr'
      simp only [ObjCoe, h1]
      exact ⟨trivial, u1, _, rfl, yz1i⟩
    | 2, hB, hr' =>
      simp at hB hr'; subst hB; subst hr'
      simp only [ObjCoe, h2]
      exact ⟨trivial, u2, _, rfl, yz1i⟩
    | 3, hB, hr' =>
      simp at hB hr'; subst hB; subst hr'
      simp only [ObjCoe, h3]
      exact ⟨trivial, u3, _, rfl, yz1i⟩
    | 4, hB, hr' =>
      simp at hB hr'; subst hB; subst hr'
      simp only [ObjCoe, h4]
      exact ⟨trivial, u4, _, rfl, yz1i⟩
    | 5, hB, hr' =>
      simp at hB hr'; subst hB; subst hr'
      simp only [ObjCoe, h5]
      exact ⟨trivial, u5, _, rfl, yz1i⟩
    | 6, hB, hr' =>
      simp at hB hr'; subst hB; subst hr'
      simp only [ObjCoe, h6]
      exact ⟨trivial, u6, _, rfl, yz1i⟩
    | 7, hB, hr' =>
      simp at hB hr'; subst hB; subst hr'
      simp only [ObjCoe, h7]
      exact ⟨trivial, u7, _, rfl, yz1i⟩
    | 8, hB, hr' =>
      simp at hB hr'; subst hB; subst hr'
      simp only [ObjCoe, h8]
      exact ⟨trivial, u8, _, rfl, yz1i⟩
    | 9, hB, hr' =>
      simp at hB hr'; subst hB; subst hr'
      simp only [ObjCoe, h9]
      exact ⟨trivial, u9, _, rfl, yz1i⟩
    | j + 10, hB, hr' => simp at hB
  · rintro outs rows res ⟨rfl, rfl, rfl⟩
    refine ⟨rfl, by simp, by simp, ?_⟩
    have s0 : sv σ.hp [r, q1, q2, q3, q4, q5, q6, q7, q8, q9] s 0 = v := by simp [sv, hr, AObj.ver]
    have s1 : sv σ.hp [r, q1, q2, q3, q4, q5, q6, q7, q8, q9] s 1 = u1 := by simp [sv, h1, AObj.ver]
    have s2 : sv σ.hp [r, q1, q2, q3, q4, q5, q6, q7, q8, q9] s 2 = u2 := by simp [sv, h2, AObj.ver]
    have s3 : sv σ.hp [r, q1, q2, q3, q4, q5, q6, q7, q8, q9] s 3 = u3 := by simp [sv, h3, AObj.ver]
    have s4 : sv σ.hp [r, q1, q2, q3, q4, q5, q6, q7, q8, q9] s 4 = u4 := by simp [sv, h4, AObj.ver]
    have s5 : sv σ.hp [r, q1, q2, q3, q4, q5, q6, q7, q8, q9] s 5 = u5 := by simp [sv, h5, AObj.ver]
    have s6 : sv σ.hp [r, q1, q2, q3, q4, q5, q6, q7, q8, q9] s 6 = u6 := by simp [sv, h6, AObj.ver]
    have s7 : sv σ.hp [r, q1, q2, q3, q4, q5, q6, q7, q8, q9] s 7 = u7 := by simp [sv, h7, AObj.ver]
    have s8 : sv σ.hp [r, q1, q2, q3, q4, q5, q6, q7, q8, q9] s 8 = u8 := by simp [sv, h8, AObj.ver]
    have s9 : sv σ.hp [r, q1, q2, q3, q4, q5, q6, q7, q8, q9] s 9 = u9 := by simp [sv, h9, AObj.ver]
    have r1 : AVal.ren (rid [r, q1, q2, q3, q4, q5, q6, q7, q8, q9] d 0) (sv σ.hp [r, q1, q2, q3, q4, q5, q6, q7, q8, q9] s) (.own 5001 1) = .own q1 u1 := by rw [yz24 (rid_m (j := 1) (by omega) rfl), s1]
    have r2 : AVal.ren (rid [r, q1, q2, q3, q4, q5, q6, q7, q8, q9] d 0) (sv σ.hp [r, q1, q2, q3, q4, q5, q6, q7, q8, q9] s) (.own 5002 2) = .own q2 u2 := by rw [yz24 (rid_m (j := 2) (by omega) rfl), s2]
    have r3 : AVal.ren (rid [r, q1, q2, q3, q4, q5, q6, q7, q8, q9] d 0) (sv σ.hp [r, q1, q2, q3, q4, q5, q6, q7, q8, q9] s) (.own 5003 3) = .own q3 u3 := by rw [yz24 (rid_m (j := 3) (by omega) rfl), s3]
    have r4 : AVal.ren (rid [r, q1, q2, q3, q4, q5, q6, q7, q8, q9] d 0) (sv σ.hp [r, q1, q2, q3, q4, q5, q6, q7, q8, q9] s) (.own 5004 4) = .own q4 u4 := by rw [yz24 (rid_m (j := 4) (by omega) rfl), s4]
    have r5 : AVal.ren (rid [r, q1, q2, q3, q4, q5, q6, q7, q8, q9] d 0) (sv σ.hp [r, q1, q2, q3, q4, q5, q6, q7, q8, q9] s) (.own 5005 5) = .own q5 u5 := by rw [yz24 (rid_m (j := 5) (by omega) rfl), s5]
    have r6 : AVal.ren (rid [r, q1, q2, q3, q4, q5, q6, q7, q8, q9] d 0) (sv σ.hp [r, q1, q2, q3, q4, q5, q6, q7, q8, q9] s) (.own 5006 6) = .own q6 u6 := by rw [yz24 (rid_m (j := 6) (by omega) rfl), s6]
    have r7 : AVal.ren (rid [r, q1, q2, q3, q4, q5, q6, q7, q8, q9] d 0) (sv σ.hp [r, q1, q2, q3, q4, q5, q6, q7, q8, q9] s) (.own 5007 7) = .own q7 u7 := by rw [yz24 (rid_m (j := 7) (by omega) rfl), s7]
    have r8 : AVal.ren (rid [r, q1, q2, q3, q4, q5, q6, q7, q8, q9] d 0) (sv σ.hp [r, q1, q2, q3, q4, q5, q6, q7, q8, q9] s) (.own 5008 8) = .own q8 u8 := by rw [yz24 (rid_m (j := 8) (by omega) rfl), s8]
    have r9 : AVal.ren (rid [r, q1, q2, q3, q4, q5, q6, q7, q8, q9] d 0) (sv σ.hp [r, q1, q2, q3, q4, q5, q6, q7, q8, q9] s) (.own 5009 9) = .own q9 u9 := by rw [yz24 (rid_m (j := 9) (by omega) rfl), s9]
    rw [Option.getD_some, callHp_h10 hnd]
    simp only [yz1f, yz12, yz1h, yzl, yz1v, s0, s1, s2, s3, s4, s5, s6, s7, s8, s9, r1, r2, r3, r4, r5, r6, r7, r8, r9]
    exact hk
end Go.Ab
namespace Go.Ab
theorem put_len_new {x : Int} : ∀ {xs : List Int}, x ∉ xs → (put xs x).length = xs.length + 1
  | [], _ => by simp [put]
  | y :: xs, h => by
    have h1 : x ≠ y := fun e => h (by simp [e])
    have h2 : x ∉ xs := fun e => h (by simp [e])
    simp only [put]
    split
    · split
      · simp
      · omega
    · have := put_len_new (x := x) (xs := xs) h2
      simp only [List.length_cons]; omega
theorem nrm_len_nd {l : List Int} (h : l.Nodup) : (nrm l).length = l.length := by
  have gen : ∀ (l acc : List Int), l.Nodup → (∀ x ∈ l, x ∉ acc) → (l.foldl put acc).length = acc.length + l.length := by
    intro l
    induction l with
    | nil => intro acc _ _; simp
    | cons x l ih =>
      intro acc h1 h2
      rw [List.nodup_cons] at h1
      rw [List.foldl_cons, ih (put acc x) h1.2 (fun y hy hm => ?_), put_len_new (h2 x (by simp)), List.length_cons]
      · omega
      · rcases put_mem.1 hm with rfl | hm
        · exact h1.1 hy
        · exact h2 y (by simp [hy]) hm
  have := gen l [] h (by simp)
  simpa [nrm] using this
structure Once (n : Int) (l : List Int) : Prop where
  nd : l.Nodup
  rg : ∀ x ∈ l, 0 ≤ x ∧ x < n
theorem Once.len {n : Int} {l : List Int} (hn : 1 ≤ n) (h : Once n l) : (l.length : Int) ≤ n := by
  have h1 := nrm_len_nd h.nd
  rcases SI_len (nrm_SI l) (fun x hx => h.rg x (nrm_mem.1 hx)) with h2 | h2
  · omega
  · rw [h2] at h1; simp at h1; omega
theorem Once.snoc {n : Int} {l : List Int} {x : Int} (h : Once n l) (hx : 0 ≤ x ∧ x < n) (hm : x ∉ l) : Once n (l ++ [x]) := by
  refine ⟨?_, ?_⟩
  · rw [List.nodup_append]
    refine ⟨h.nd, by simp, ?_⟩
    intro a ha b hb
    have : b = x := by simpa using hb
    subst this
    rintro rfl
    exact hm ha
  · intro y hy
    rcases List.mem_append.1 hy with hy | hy
    · exact h.rg y hy
    · have : y = x := by simpa using hy
      subst this; exact hx
def addL (l : List Int) (x : Int) : List Int := if l.contains x = true then l else l ++ [x]
theorem Once.add {n : Int} {l : List Int} {x : Int} (h : Once n l) (hx : 0 ≤ x ∧ x < n) : Once n (addL l x) := by
  unfold addL
  split
  · exact h
  · rename_i h1
    exact h.snoc hx (by simpa using h1)
end Go.Ab
namespace Go.Ab
open Go.Proofs
end Go.Ab
namespace Go.Ab
open Go.Proofs
end Go.Ab
namespace Go.Ab
open Go.Proofs
end Go.Ab
namespace Go.Ab
open Go.Proofs
end Go.Ab
namespace Go.Ab
open Go.Proofs
theorem yz1e {a : List Int} (h : a ≠ []) : ints a ≠ [] := fun e => h (by simpa using e)
theorem wo_any {n : Nat} : AVal.wo n .any = .any := by simp only [AVal.wo]
theorem yz23 {p : Nat} {x : List Int} {ps : List (Nat × List Int)} : rwp ((p, x) :: ps) = .ro (some (some (p + 1))) 1 (ints x) :: rwp ps := rfl
theorem yz1t {x : List Int} {xs : List (List Int)} : rwn (x :: xs) = .ro none 1 (ints x) :: rwn xs := rfl
theorem yz1z : rwn [] = [] := rfl
end Go.Ab
namespace Go.Ab
open Go.Proofs
end Go.Ab
namespace Go.Ab
open Go.Proofs
end Go.Ab
namespace Go.Ab
open Go.Proofs
theorem fidx_neg (x : List Int) : ∀ (xs : List (List Int)) (i : Nat), decide (fidx (fun y => decide (y = x)) xs i < 0) = decide (x ∉ xs)
  | [], i => by simp [fidx]
  | y :: xs, i => by
    have h := fidx_neg x xs (i + 1)
    simp only [fidx]
    by_cases hy : y = x
    · have : x ∈ y :: xs := by simp [hy]
      simp [hy]
    · have : (x ∉ y :: xs) ↔ (x ∉ xs) := by simp [Ne.symm hy]
      simp only [hy, decide_false, Bool.false_eq_true, if_false, h]
      exact decide_eq_decide.2 this.symm
end Go.Ab
namespace Go.Ab
open Go.Proofs
def szC2 (x y : List (List Int)) (l : Int) : Int := if szLL x l < 0 then -1 else szLL y (szLL x l)
theorem szC2_ge {x y : List (List Int)} {l : Int} (h : ¬ szC2 x y l < 0) : 0 ≤ szLL x l ∧ 0 ≤ szLL y (szLL x l) ∧ szC2 x y l = szLL y (szLL x l) := by
  unfold szC2 at h ⊢
  split at h
  · omega
  · rename_i h1
    rw [if_neg h1]
    omega
theorem szLL_neg {x : List (List Int)} {l : Int} (h : szLL x l < 0) : szLL x l = -1 := by
  have gen : ∀ (xss : List (List Int)) (l : Int), 0 ≤ l → szRows xss l < 0 → szRows xss l = -1 := by
    intro xss
    induction xss with
    | nil => intro l h1 h2; simp only [szRows] at h2; omega
    | cons xs r ih =>
      intro l h1 h2
      simp only [szRows] at h2 ⊢
      split at h2
      · rename_i h3; rw [if_pos h3]
      · rename_i h3; rw [if_neg h3]; exact ih _ (by omega) h2
  unfold szLL at h ⊢
  split at h
  · rename_i h1; rw [if_pos h1]
  · rename_i h1; rw [if_neg h1]; exact gen _ _ (by omega) h
abbrev Rows2 (P : Program) (g : FuncId) (args : List AVal) (cs : List Int) (x y : List (List Int)) : Prop :=
  Fn P g args fun rows res => ∃ v w, rows = [.row v 1 true (rws x), .row w 1 true (rws y)] ∧ res = .st (cs.map (fun c => iv c) ++ [.own 6000 v, .own 6001 w])
theorem yz1u {P : Program} {pu : Bool} {σ : St} {g : FuncId} {As args : List AVal} {d : Nat} {s : Nat → Nat} {K : St → Prop} {cs : List Int} {x y : List (List Int)} (h : Rows2 P g args cs x y) (hco : CoeL σ.hp [] true args As)
    (hg : σ.hp d = .gone) (hg2 : σ.hp (d + 1000) = .gone)
    (hk : ∀ v w, K (St.put ⟨σ.tm, upd (upd σ.hp d (.row v 1 true (rws x))) (d + 1000) (.row w 1 true (rws y))⟩ (some d) (.st (cs.map (fun c => iv c) ++ [.own d v, .own (d + 1000) w])))) : wpCall P pu σ g As (some d) s K := by
  refine call_fn h hco (fun _ => ⟨_, _, 0, 1, rfl, rfl⟩) ?_
  rintro rows res ⟨v, w, rfl, rfl⟩
  refine ⟨by simp, ?_, ?_⟩
  · simp only [Option.getD_some, yz1m]; exact ⟨hg, hg2⟩
  · have e : (AVal.st (cs.map (fun c => iv c) ++ [.own 6000 v, .own 6001 w])).ren (rid [] d 2) s = .st (cs.map (fun c => iv c) ++ [.own d (s v), .own (d + 1000) (s w)]) := by
      rw [ren_st]
      congr 1
      simp only [renL_eq, List.map_append, List.map_map, List.map_cons, List.map_nil]
      have h0 := yzq (m := []) (d := d) (n := 1) (v := v) (s := s)
      have h1 := yzs (m := []) (d := d) (n := 0) (v := w) (s := s)
      rw [h0, h1]
      congr 1
    simp only [Option.getD_some, Nat.not_lt_zero, range1, yz1v, yz22, ren_ro, rnNm_n, yz21, rnNm_o, rnNm_s, ren_st, yz20, yz1h, yz12, yzl, yz1o, yz1q, yz1p, yz1f, yz1r, yzv, yzz, yzx, yz10, yz1b, yz1a, yzq, yzs, yz11, yzw, yz1c, yz19, List.range_zero, yzu, yzr, yzy, yz1n, yz1g, yz1m, AVal.fresh, freshL, yzk, yz1d, AObj.fresh, id, Option.isSome_some, or_true, true_or, List.length_cons, List.length_nil, Nat.zero_add, e]
    exact hk _ _
end Go.Ab
namespace Go.Ab
open Go.Proofs
theorem call_setC2 {P : Program} {σ : St} {g : FuncId} {As args : List AVal} {d : Nat} {s : Nat → Nat} {K : St → Prop} {xss : List (List Int)} {code : Int} (hs : ∀ x y, s x = s y → x = y) (h : SetC2 P g args xss code)
    (hco : CoeL σ.hp [] true args As) (hg : σ.hp d = .gone)
    (h1 : ∀ v ps, ps.map (·.2) = xss → DJ ps → (∀ p ∈ ps, ∃ y, p.1 = s y) → K (St.put ⟨σ.tm, upd σ.hp d (.row v 1 true (rwp ps))⟩ (some d) (.tup [.own d v, iv code]))) : wpCall P false σ g As (some d) s K := by
  refine call_fn h hco (fun e => by cases e) ?_
  rintro rows res ⟨v, ps, rfl, hp, hd, rfl⟩
  refine ⟨by simp, ?_, ?_⟩
  · simp only [Option.getD_some, yz1g]; exact hg
  · simp only [Option.getD_some, renL_rwp, List.length_singleton, Nat.not_lt_zero, range1, yz1v, yz22, ren_ro, rnNm_n, yz21, rnNm_o, rnNm_s, ren_st, yz20, yz1h, yz12, yzl, yz1o, yz1q, yz1p, yz1f, yz1r, yzv, yzz, yzx, yz10, yz1b, yz1a, yzq, yzs, yz11, yzw, yz1c, yz19, List.range_zero, yzu, yzr, yzy, yz1n, yz1g, yz1m, AVal.fresh, freshL, yzk, yz1d, AObj.fresh, id, Option.isSome_some, or_true, true_or]
    exact h1 _ _ (by rw [List.map_map]; exact hp) (hd.ren hs) (fun p hp => by obtain ⟨q, _, rfl⟩ := List.mem_map.1 hp; exact ⟨q.1, rfl⟩)
theorem call_setR {P : Program} {σ : St} {g : FuncId} {As args : List AVal} {d : Nat} {s : Nat → Nat} {K : St → Prop} {ok : Bool} {xss : List (List Int)} {code : Int} (hs : ∀ x y, s x = s y → x = y) (h : SetR P g args ok xss code)
    (hco : CoeL σ.hp [] true args As) (hg : σ.hp d = .gone)
    (h1 : ok = true → ∀ v ps, ps.map (·.2) = xss → DJ ps → (∀ p ∈ ps, ∃ y, p.1 = s y) → K (St.put ⟨σ.tm, upd σ.hp d (.row v 1 true (rwp ps))⟩ (some d) (.tup [.own d v, iv code])))
    (h2 : ok = false → K (St.put ⟨σ.tm, σ.hp⟩ (some d) (.tup [.val (.slice none 0 0), iv code]))) : wpCall P false σ g As (some d) s K := by
  cases ok with
  | true => exact call_setC2 hs (by simpa [SetR] using h) hco hg (h1 rfl)
  | false =>
    refine call_fn h hco (fun e => by cases e) ?_
    intro rows res hR
    simp only [Bool.false_eq_true, if_false] at hR
    obtain ⟨rfl, rfl⟩ := hR
    refine ⟨by simp, by simp, ?_⟩
    simp only [Nat.not_lt_zero, range1, yz1v, yz22, ren_ro, rnNm_n, yz21, rnNm_o, rnNm_s, ren_st, yz20, yz1h, yz12, yzl, yz1o, yz1q, yz1p, yz1f, yz1r, yzv, yzz, yzx, yz10, yz1b, yz1a, yzq, yzs, yz11, yzw, yz1c, yz19, List.range_zero, yzu, yzr, yzy, yz1n, yz1g, yz1m, AVal.fresh, freshL, yzk, yz1d, AObj.fresh, id, Option.isSome_some, or_true, true_or]
    exact h2 rfl
theorem yz1x {U : Nat → Prop} {vs : Nat → Nat → Nat} {ps : List (Nat × List Int)} {g k : Nat} (hold : ∀ p ∈ ps, p.2 = [] ∨ U p.1) (hn : ∀ i y, ¬ U (vs i y)) (e : ∃ y, g = vs k y) : ∀ p ∈ ps, p.2 = [] ∨ p.1 ≠ g := fun p hp => by
  obtain ⟨y, e⟩ := e
  rcases hold p hp with h | h
  · exact .inl h
  · exact .inr fun e2 => hn k y (by rw [← e]; exact e2 ▸ h)
theorem szM_facts {next out : List (List Int)} (h : ¬ szC2 next out 1048576 < 0) :
    (0 ≤ szLL next 1048576 ∧ 0 ≤ szLL out (szLL next 1048576) ∧ szLL next 1048576 ≤ 1048576) ∧ totL (next.map fun x => (0, x)) ≤ 1048576 ∧ totL (out.map fun x => (0, x)) ≤ szLL next 1048576 ∧ next.length * 24 ≤ 140737488355328 ∧ out.length * 24 ≤ 140737488355328 ∧ (∀ xs ∈ next, xs.length * 8 ≤ 140737488355328) ∧ (∀ xs ∈ out, xs.length * 8 ≤ 140737488355328) ∧
      (∀ xs ∈ next, (xs.length : Int) ≤ 1000000000) ∧ (∀ xs ∈ out, (xs.length : Int) ≤ 1000000000) := by
  obtain ⟨hqa0, hqb0, hqc0⟩ := szC2_ge h
  obtain ⟨hsa_next, hsb_next, hsc_next⟩ := szLL_ge (xss := next) (l := 1048576) (by omega)
  have htot_next := szLL_tot (ps := next.map fun x => (0, x)) (l := 1048576) (by rw [List.map_map]; simp only [Function.comp_def, List.map_id']; omega) (by omega)
  obtain ⟨hsa_out, hsb_out, hsc_out⟩ := szLL_ge (xss := out) (l := (szLL next 1048576)) (by omega)
  have htot_out := szLL_tot (ps := out.map fun x => (0, x)) (l := (szLL next 1048576)) (by rw [List.map_map]; simp only [Function.comp_def, List.map_id']; omega) (by omega)
  exact ⟨⟨hqa0, hqb0, hsc_next⟩, htot_next, htot_out, by omega, by omega, fun xs hx => by have := hsb_next xs hx; omega, fun xs hx => by have := hsb_out xs hx; omega, fun xs hx => by have := hsb_next xs hx; omega, fun xs hx => by have := hsb_out xs hx; omega⟩
theorem k_heldSSNil : Fun Try.prog nz9 [.ro none 1 (rwn []), iv 1] (iv 1) := by
  have h := k_heldSS [] 1 (by simp [totX]) (by simp) (by simp [okRows])
  simpa [totX] using h
theorem k_markSSNil (k : Int) : Fun Try.prog nz5 [.ro none 1 (rwn []), iv k] (iv k) := by
  rw [yz1z]
  refine fun_of mixed cz1c rfl ⟨rfl, trivial⟩ ?_
  simp only [Az1a, Bz19, Bz17, yzp, yz8, go_sem, yz0, Int.reduceLT, reduceLE, reduceToNat, reduceNeg, Nat.reduceLT, reduceLeDiff, reduceMul, reduceSub, reduceIte, reduceEqDiff, reduceAdd, reduceCtorEq]
  intro vs0 U0 hN0 vs1 U1 hN1
  refine wpD_lp (fun _ : Unit => 0) (fun _ => True) (fun _ => ⟨L .any [(0, .ro none 1 []), (1, iv k), (5, iv 0)], L .gone [(5000, .gone), (5001, .gone), (5002, .gone), (5003, .gone), (5004, .gone), (5005, .gone), (5006, .gone), (5007, .gone), (5008, .gone), (5009, .gone)]⟩) () trivial
    (by simp only [Bz0, go_sem, yz0, Int.reduceLT, reduceLE, reduceToNat, reduceNeg, Nat.reduceLT, reduceLeDiff, reduceMul, reduceSub, reduceIte, reduceEqDiff, reduceAdd, reduceCtorEq]; try rfl) ?_
  intro _ _
  have e : decide ((0 : Int) < 0) = false := by decide
  simp only [Bz0, Bz1, Bz18, e, yzp, yz8, go_sem, yz0, Int.reduceLT, reduceLE, reduceToNat, reduceNeg, Nat.reduceLT, reduceLeDiff, reduceMul, reduceSub, reduceIte, reduceEqDiff, reduceAdd, reduceCtorEq]
  try (intros; trivial)
theorem dj_at {ps : List (Nat × List Int)} (hd : DJ ps) {i j p q : Nat} {x y : List Int} (hij : i < j) (hi : ps[i]? = some (p, x)) (hj : ps[j]? = some (q, y)) (hx : x ≠ []) (hy : y ≠ []) : p ≠ q := by
  obtain ⟨h1, e1⟩ := List.getElem?_eq_some_iff.1 hi
  obtain ⟨h2, e2⟩ := List.getElem?_eq_some_iff.1 hj
  have h := List.pairwise_iff_getElem.1 hd i j h1 h2 hij
  rw [e1, e2] at h
  rcases h with h | h | h
  · exact absurd h hx
  · exact absurd h hy
  · exact h
theorem nam0 {ps : List (Nat × List Int)} (h : ps.map (·.2) = []) : ps = [] := by simpa using h
theorem namR1 {ps : List (Nat × List Int)} {y1 : List Int} (h : ps.map (·.2) = [y1]) (hd : DJ ps) (hy1 : y1 ≠ []) : ∃ p0, ps = [(p0, y1)] := by
  have hl : ps.length = 1 := by have := congrArg List.length h; simpa using this
  obtain ⟨⟨p0, x0⟩, rfl⟩ : ∃ q0, ps = [q0] := by
    match ps, hl with
    | [q0], _ => exact ⟨q0, rfl⟩
  simp only [List.map_cons, List.map_nil, List.cons.injEq, and_true] at h
  obtain rfl := h
  exact ⟨p0, rfl⟩
theorem namR2 {ps : List (Nat × List Int)} {y1 y2 : List Int} (h : ps.map (·.2) = [y1, y2]) (hd : DJ ps) (hy1 : y1 ≠ []) (hy2 : y2 ≠ []) : ∃ p0 p1, ps = [(p0, y1), (p1, y2)] ∧ p0 ≠ p1 := by
  have hl : ps.length = 2 := by have := congrArg List.length h; simpa using this
  obtain ⟨⟨p0, x0⟩, ⟨p1, x1⟩, rfl⟩ : ∃ q0 q1, ps = [q0, q1] := by
    match ps, hl with
    | [q0, q1], _ => exact ⟨q0, q1, rfl⟩
  simp only [List.map_cons, List.map_nil, List.cons.injEq, and_true] at h
  obtain ⟨rfl, rfl⟩ := h
  exact ⟨p0, p1, rfl, dj_at hd (i := 0) (j := 1) (by decide) rfl rfl hy1 hy2⟩
theorem namR3 {ps : List (Nat × List Int)} {y1 y2 y3 : List Int} (h : ps.map (·.2) = [y1, y2, y3]) (hd : DJ ps) (hy1 : y1 ≠ []) (hy2 : y2 ≠ []) (hy3 : y3 ≠ []) : ∃ p0 p1 p2, ps = [(p0, y1), (p1, y2), (p2, y3)] ∧ p0 ≠ p1 ∧ p0 ≠ p2 ∧ p1 ≠ p2 := by
  have hl : ps.length = 3 := by have := congrArg List.length h; simpa using this
  obtain ⟨⟨p0, x0⟩, ⟨p1, x1⟩, ⟨p2, x2⟩, rfl⟩ : ∃ q0 q1 q2, ps = [q0, q1, q2] := by
    match ps, hl with
    | [q0, q1, q2], _ => exact ⟨q0, q1, q2, rfl⟩
  simp only [List.map_cons, List.map_nil, List.cons.injEq, and_true] at h
  obtain ⟨rfl, rfl, rfl⟩ := h
  exact ⟨p0, p1, p2, rfl, dj_at hd (i := 0) (j := 1) (by decide) rfl rfl hy1 hy2, dj_at hd (i := 0) (j := 2) (by decide) rfl rfl hy1 hy3, dj_at hd (i := 1) (j := 2) (by decide) rfl rfl hy2 hy3⟩
theorem namR4 {ps : List (Nat × List Int)} {y1 y2 y3 y4 : List Int} (h : ps.map (·.2) = [y1, y2, y3, y4]) (hd : DJ ps) (hy1 : y1 ≠ []) (hy2 : y2 ≠ []) (hy3 : y3 ≠ []) (hy4 : y4 ≠ []) : ∃ p0 p1 p2 p3, ps = [(p0, y1), (p1, y2), (p2, y3), (p3, y4)] ∧ p0 ≠ p1 ∧ p0 ≠ p2 ∧ p0 ≠ p3 ∧ p1 ≠ p2 ∧ p1 ≠ p3 ∧ p2 ≠ p3 := by
  have hl : ps.length = 4 := by have := congrArg List.length h; simpa using this
  obtain ⟨⟨p0, x0⟩, ⟨p1, x1⟩, ⟨p2, x2⟩, ⟨p3, x3⟩, rfl⟩ : ∃ q0 q1 q2 q3, ps = [q0, q1, q2, q3] := by
    match ps, hl with
    | [q0, q1, q2, q3], _ => exact ⟨q0, q1, q2, q3, rfl⟩
  simp only [List.map_cons, List.map_nil, List.cons.injEq, and_true] at h
  obtain ⟨rfl, rfl, rfl, rfl⟩ := h
  exact ⟨p0, p1, p2, p3, rfl, dj_at hd (i := 0) (j := 1) (by decide) rfl rfl hy1 hy2, dj_at hd (i := 0) (j := 2) (by decide) rfl rfl hy1 hy3, dj_at hd (i := 0) (j := 3) (by decide) rfl rfl hy1 hy4, dj_at hd (i := 1) (j := 2) (by decide) rfl rfl hy2 hy3, dj_at hd (i := 1) (j := 3) (by decide) rfl rfl hy2 hy4, dj_at hd (i := 2) (j := 3) (by decide) rfl rfl hy3 hy4⟩
theorem namR5 {ps : List (Nat × List Int)} {y1 y2 y3 y4 y5 : List Int} (h : ps.map (·.2) = [y1, y2, y3, y4, y5]) (hd : DJ ps) (hy1 : y1 ≠ []) (hy2 : y2 ≠ []) (hy3 : y3 ≠ []) (hy4 : y4 ≠ []) (hy5 : y5 ≠ []) : ∃ p0 p1 p2 p3 p4, ps = [(p0, y1), (p1, y2), (p2, y3), (p3, y4), (p4, y5)] ∧ p0 ≠ p1 ∧ p0 ≠ p2 ∧ p0 ≠ p3 ∧ p0 ≠ p4 ∧ p1 ≠ p2 ∧ p1 ≠ p3 ∧ p1 ≠ p4 ∧ p2 ≠ p3 ∧ p2 ≠ p4 ∧ p3 ≠ p4 := by
  have hl : ps.length = 5 := by have := congrArg List.length h; simpa using this
  obtain ⟨⟨p0, x0⟩, ⟨p1, x1⟩, ⟨p2, x2⟩, ⟨p3, x3⟩, ⟨p4, x4⟩, rfl⟩ : ∃ q0 q1 q2 q3 q4, ps = [q0, q1, q2, q3, q4] := by
    match ps, hl with
    | [q0, q1, q2, q3, q4], _ => exact ⟨q0, q1, q2, q3, q4, rfl⟩
  simp only [List.map_cons, List.map_nil, List.cons.injEq, and_true] at h
  obtain ⟨rfl, rfl, rfl, rfl, rfl⟩ := h
  exact ⟨p0, p1, p2, p3, p4, rfl, dj_at hd (i := 0) (j := 1) (by decide) rfl rfl hy1 hy2, dj_at hd (i := 0) (j := 2) (by decide) rfl rfl hy1 hy3, dj_at hd (i := 0) (j := 3) (by decide) rfl rfl hy1 hy4, dj_at hd (i := 0) (j := 4) (by decide) rfl rfl hy1 hy5, dj_at hd (i := 1) (j := 2) (by decide) rfl rfl hy2 hy3, dj_at hd (i := 1) (j := 3) (by decide) rfl rfl hy2 hy4, dj_at hd (i := 1) (j := 4) (by decide) rfl rfl hy2 hy5, dj_at hd (i := 2) (j := 3) (by decide) rfl rfl hy3 hy4, dj_at hd (i := 2) (j := 4) (by decide) rfl rfl hy3 hy5, dj_at hd (i := 3) (j := 4) (by decide) rfl rfl hy4 hy5⟩
theorem namR6 {ps : List (Nat × List Int)} {y1 y2 y3 y4 y5 y6 : List Int} (h : ps.map (·.2) = [y1, y2, y3, y4, y5, y6]) (hd : DJ ps) (hy1 : y1 ≠ []) (hy2 : y2 ≠ []) (hy3 : y3 ≠ []) (hy4 : y4 ≠ []) (hy5 : y5 ≠ []) (hy6 : y6 ≠ []) : ∃ p0 p1 p2 p3 p4 p5, ps = [(p0, y1), (p1, y2), (p2, y3), (p3, y4), (p4, y5), (p5, y6)] ∧ p0 ≠ p1 ∧ p0 ≠ p2 ∧ p0 ≠ p3 ∧ p0 ≠ p4 ∧ p0 ≠ p5 ∧ p1 ≠ p2 ∧ p1 ≠ p3 ∧ p1 ≠ p4 ∧ p1 ≠ p5 ∧ p2 ≠ p3 ∧ p2 ≠ p4 ∧ p2 ≠ p5 ∧ p3 ≠ p4 ∧ p3 ≠ p5 ∧ p4 ≠ p5 := by
  have hl : ps.length = 6 := by have := congrArg List.length h; simpa using this
  obtain ⟨⟨p0, x0⟩, ⟨p1, x1⟩, ⟨p2, x2⟩, ⟨p3, x3⟩, ⟨p4, x4⟩, ⟨p5, x5⟩, rfl⟩ : ∃ q0 q1 q2 q3 q4 q5, ps = [q0, q1, q2, q3, q4, q5] := by
    match ps, hl with
    | [q0, q1, q2, q3, q4, q5], _ => exact ⟨q0, q1, q2, q3, q4, q5, rfl⟩
  simp only [List.map_cons, List.map_nil, List.cons.injEq, and_true] at h
  obtain ⟨rfl, rfl, rfl, rfl, rfl, rfl⟩ := h
  exact ⟨p0, p1, p2, p3, p4, p5, rfl, dj_at hd (i := 0) (j := 1) (by decide) rfl rfl hy1 hy2, dj_at hd (i := 0) (j := 2) (by decide) rfl rfl hy1 hy3, dj_at hd (i := 0) (j := 3) (by decide) rfl rfl hy1 hy4, dj_at hd (i := 0) (j := 4) (by decide) rfl rfl hy1 hy5, dj_at hd (i := 0) (j := 5) (by decide) rfl rfl hy1 hy6, dj_at hd (i := 1) (j := 2) (by decide) rfl rfl hy2 hy3, dj_at hd (i := 1) (j := 3) (by decide) rfl rfl hy2 hy4, dj_at hd (i := 1) (j := 4) (by decide) rfl rfl hy2 hy5, dj_at hd (i := 1) (j := 5) (by decide) rfl rfl hy2 hy6, dj_at hd (i := 2) (j := 3) (by decide) rfl rfl hy3 hy4, dj_at hd (i := 2) (j := 4) (by decide) rfl rfl hy3 hy5, dj_at hd (i := 2) (j := 5) (by decide) rfl rfl hy3 hy6, dj_at hd (i := 3) (j := 4) (by decide) rfl rfl hy4 hy5, dj_at hd (i := 3) (j := 5) (by decide) rfl rfl hy4 hy6, dj_at hd (i := 4) (j := 5) (by decide) rfl rfl hy5 hy6⟩
theorem namR7 {ps : List (Nat × List Int)} {y1 y2 y3 y4 y5 y6 y7 : List Int} (h : ps.map (·.2) = [y1, y2, y3, y4, y5, y6, y7]) (hd : DJ ps) (hy1 : y1 ≠ []) (hy2 : y2 ≠ []) (hy3 : y3 ≠ []) (hy4 : y4 ≠ []) (hy5 : y5 ≠ []) (hy6 : y6 ≠ []) (hy7 : y7 ≠ []) : ∃ p0 p1 p2 p3 p4 p5 p6, ps = [(p0, y1), (p1, y2), (p2, y3), (p3, y4), (p4, y5), (p5, y6), (p6, y7)] ∧ p0 ≠ p1 ∧ p0 ≠ p2 ∧ p0 ≠ p3 ∧ p0 ≠ p4 ∧ p0 ≠ p5 ∧ p0 ≠ p6 ∧ p1 ≠ p2 ∧ p1 ≠ p3 ∧ p1 ≠ p4 ∧ p1 ≠ p5 ∧ p1 ≠ p6 ∧ p2 ≠ p3 ∧ p2 ≠ p4 ∧ p2 ≠ p5 ∧ p2 ≠ p6 ∧ p3 ≠ p4 ∧ p3 ≠ p5 ∧ p3 ≠ p6 ∧ p4 ≠ p5 ∧ p4 ≠ p6 ∧ p5 ≠ p6 := by
  have hl : ps.length = 7 := by have := congrArg List.length h; simpa using this
  obtain ⟨⟨p0, x0⟩, ⟨p1, x1⟩, ⟨p2, x2⟩, ⟨p3, x3⟩, ⟨p4, x4⟩, ⟨p5, x5⟩, ⟨p6, x6⟩, rfl⟩ : ∃ q0 q1 q2 q3 q4 q5 q6, ps = [q0, q1, q2, q3, q4, q5, q6] := by
    match ps, hl with
    | [q0, q1, q2, q3, q4, q5, q6], _ => exact ⟨q0, q1, q2, q3, q4, q5, q6, rfl⟩
  simp only [List.map_cons, List.map_nil, List.cons.injEq, and_true] at h
  obtain ⟨rfl, rfl, rfl, rfl, rfl, rfl, rfl⟩ := h
  exact ⟨p0, p1, p2, p3, p4, p5, p6, rfl, dj_at hd (i := 0) (j := 1) (by decide) rfl rfl hy1 hy2, dj_at hd (i := 0) (j := 2) (by decide) rfl rfl hy1 hy3, dj_at hd (i := 0) (j := 3) (by decide) rfl rfl hy1 hy4, dj_at hd (i := 0) (j := 4) (by decide) rfl rfl hy1 hy5, dj_at hd (i := 0) (j := 5) (by decide) rfl rfl hy1 hy6, dj_at hd (i := 0) (j := 6) (by decide) rfl rfl hy1 hy7, dj_at hd (i := 1) (j := 2) (by decide) rfl rfl hy2 hy3, dj_at hd (i := 1) (j := 3) (by decide) rfl rfl hy2 hy4, dj_at hd (i := 1) (j := 4) (by decide) rfl rfl hy2 hy5, dj_at hd (i := 1) (j := 5) (by decide) rfl rfl hy2 hy6, dj_at hd (i := 1) (j := 6) (by decide) rfl rfl hy2 hy7, dj_at hd (i := 2) (j := 3) (by decide) rfl rfl hy3 hy4, dj_at hd (i := 2) (j := 4) (by decide) rfl rfl hy3 hy5, dj_at hd (i := 2) (j := 5) (by decide) rfl rfl hy3 hy6, dj_at hd (i := 2) (j := 6) (by decide) rfl rfl hy3 hy7, dj_at hd (i := 3) (j := 4) (by decide) rfl rfl hy4 hy5, dj_at hd (i := 3) (j := 5) (by decide) rfl rfl hy4 hy6, dj_at hd (i := 3) (j := 6) (by decide) rfl rfl hy4 hy7, dj_at hd (i := 4) (j := 5) (by decide) rfl rfl hy5 hy6, dj_at hd (i := 4) (j := 6) (by decide) rfl rfl hy5 hy7, dj_at hd (i := 5) (j := 6) (by decide) rfl rfl hy6 hy7⟩
theorem namR8 {ps : List (Nat × List Int)} {y1 y2 y3 y4 y5 y6 y7 y8 : List Int} (h : ps.map (·.2) = [y1, y2, y3, y4, y5, y6, y7, y8]) (hd : DJ ps) (hy1 : y1 ≠ []) (hy2 : y2 ≠ []) (hy3 : y3 ≠ []) (hy4 : y4 ≠ []) (hy5 : y5 ≠ []) (hy6 : y6 ≠ []) (hy7 : y7 ≠ []) (hy8 : y8 ≠ []) : ∃ p0 p1 p2 p3 p4 p5 p6 p7, ps = [(p0, y1), (p1, y2), (p2, y3), (p3, y4), (p4, y5), (p5, y6), (p6, y7), (p7, y8)] ∧ p0 ≠ p1 ∧ p0 ≠ p2 ∧ p0 ≠ p3 ∧ p0 ≠ p4 ∧ p0 ≠ p5 ∧ p0 ≠ p6 ∧ p0 ≠ p7 ∧ p1 ≠ p2 ∧ p1 ≠ p3 ∧ p1 ≠ p4 ∧ p1 ≠ p5 ∧ p1 ≠ p6 ∧ p1 ≠ p7 ∧ p2 ≠ p3 ∧ p2 ≠ p4 ∧ p2 ≠ p5 ∧ p2 ≠ p6 ∧ p2 ≠ p7 ∧ p3 ≠ p4 ∧ p3 ≠ p5 ∧ p3 ≠ p6 ∧ p3 ≠ p7 ∧ p4 ≠ p5 ∧ p4 ≠ p6 ∧ p4 ≠ p7 ∧ p5 ≠ p6 ∧ p5 ≠ p7 ∧ p6 ≠ p7 := by
  have hl : ps.length = 8 := by have := congrArg List.length h; simpa using this
  obtain ⟨⟨p0, x0⟩, ⟨p1, x1⟩, ⟨p2, x2⟩, ⟨p3, x3⟩, ⟨p4, x4⟩, ⟨p5, x5⟩, ⟨p6, x6⟩, ⟨p7, x7⟩, rfl⟩ : ∃ q0 q1 q2 q3 q4 q5 q6 q7, ps = [q0, q1, q2, q3, q4, q5, q6, q7] := by
    match ps, hl with
    | [q0, q1, q2, q3, q4, q5, q6, q7], _ => exact ⟨q0, q1, q2, q3, q4, q5, q6, q7, rfl⟩
  simp only [List.map_cons, List.map_nil, List.cons.injEq, and_true] at h
  obtain ⟨rfl, rfl, rfl, rfl, rfl, rfl, rfl, rfl⟩ := h
  exact ⟨p0, p1, p2, p3, p4, p5, p6, p7, rfl, dj_at hd (i := 0) (j := 1) (by decide) rfl rfl hy1 hy2, dj_at hd (i := 0) (j := 2) (by decide) rfl rfl hy1 hy3, dj_at hd (i := 0) (j := 3) (by decide) rfl rfl hy1 hy4, dj_at hd (i := 0) (j := 4) (by decide) rfl rfl hy1 hy5, dj_at hd (i := 0) (j := 5) (by decide) rfl rfl hy1 hy6, dj_at hd (i := 0) (j := 6) (by decide) rfl rfl hy1 hy7, dj_at hd (i := 0) (j := 7) (by decide) rfl rfl hy1 hy8, dj_at hd (i := 1) (j := 2) (by decide) rfl rfl hy2 hy3, dj_at hd (i := 1) (j := 3) (by decide) rfl rfl hy2 hy4, dj_at hd (i := 1) (j := 4) (by decide) rfl rfl hy2 hy5, dj_at hd (i := 1) (j := 5) (by decide) rfl rfl hy2 hy6, dj_at hd (i := 1) (j := 6) (by decide) rfl rfl hy2 hy7, dj_at hd (i := 1) (j := 7) (by decide) rfl rfl hy2 hy8, dj_at hd (i := 2) (j := 3) (by decide) rfl rfl hy3 hy4, dj_at hd (i := 2) (j := 4) (by decide) rfl rfl hy3 hy5, dj_at hd (i := 2) (j := 5) (by decide) rfl rfl hy3 hy6, dj_at hd (i := 2) (j := 6) (by decide) rfl rfl hy3 hy7, dj_at hd (i := 2) (j := 7) (by decide) rfl rfl hy3 hy8, dj_at hd (i := 3) (j := 4) (by decide) rfl rfl hy4 hy5, dj_at hd (i := 3) (j := 5) (by decide) rfl rfl hy4 hy6, dj_at hd (i := 3) (j := 6) (by decide) rfl rfl hy4 hy7, dj_at hd (i := 3) (j := 7) (by decide) rfl rfl hy4 hy8, dj_at hd (i := 4) (j := 5) (by decide) rfl rfl hy5 hy6, dj_at hd (i := 4) (j := 6) (by decide) rfl rfl hy5 hy7, dj_at hd (i := 4) (j := 7) (by decide) rfl rfl hy5 hy8, dj_at hd (i := 5) (j := 6) (by decide) rfl rfl hy6 hy7, dj_at hd (i := 5) (j := 7) (by decide) rfl rfl hy6 hy8, dj_at hd (i := 6) (j := 7) (by decide) rfl rfl hy7 hy8⟩
theorem namR9 {ps : List (Nat × List Int)} {y1 y2 y3 y4 y5 y6 y7 y8 y9 : List Int} (h : ps.map (·.2) = [y1, y2, y3, y4, y5, y6, y7, y8, y9]) (hd : DJ ps) (hy1 : y1 ≠ []) (hy2 : y2 ≠ []) (hy3 : y3 ≠ []) (hy4 : y4 ≠ []) (hy5 : y5 ≠ []) (hy6 : y6 ≠ []) (hy7 : y7 ≠ []) (hy8 : y8 ≠ []) (hy9 : y9 ≠ []) : ∃ p0 p1 p2 p3 p4 p5 p6 p7 p8, ps = [(p0, y1), (p1, y2), (p2, y3), (p3, y4), (p4, y5), (p5, y6), (p6, y7), (p7, y8), (p8, y9)] ∧ p0 ≠ p1 ∧ p0 ≠ p2 ∧ p0 ≠ p3 ∧ p0 ≠ p4 ∧ p0 ≠ p5 ∧ p0 ≠ p6 ∧ p0 ≠ p7 ∧ p0 ≠ p8 ∧ p1 ≠ p2 ∧ p1 ≠ p3 ∧ p1 ≠ p4 ∧ p1 ≠ p5 ∧ p1 ≠ p6 ∧ p1 ≠ p7 ∧ p1 ≠ p8 ∧ p2 ≠ p3 ∧ p2 ≠ p4 ∧ p2 ≠ p5 ∧ p2 ≠ p6 ∧ p2 ≠ p7 ∧ p2 ≠ p8 ∧ p3 ≠ p4 ∧ p3 ≠ p5 ∧ p3 ≠ p6 ∧ p3 ≠ p7 ∧ p3 ≠ p8 ∧ p4 ≠ p5 ∧ p4 ≠ p6 ∧ p4 ≠ p7 ∧ p4 ≠ p8 ∧ p5 ≠ p6 ∧ p5 ≠ p7 ∧ p5 ≠ p8 ∧ p6 ≠ p7 ∧ p6 ≠ p8 ∧ p7 ≠ p8 := by
  have hl : ps.length = 9 := by have := congrArg List.length h; simpa using this
  obtain ⟨⟨p0, x0⟩, ⟨p1, x1⟩, ⟨p2, x2⟩, ⟨p3, x3⟩, ⟨p4, x4⟩, ⟨p5, x5⟩, ⟨p6, x6⟩, ⟨p7, x7⟩, ⟨p8, x8⟩, rfl⟩ : ∃ q0 q1 q2 q3 q4 q5 q6 q7 q8, ps = [q0, q1, q2, q3, q4, q5, q6, q7, q8] := by
    match ps, hl with
    | [q0, q1, q2, q3, q4, q5, q6, q7, q8], _ => exact ⟨q0, q1, q2, q3, q4, q5, q6, q7, q8, rfl⟩
  simp only [List.map_cons, List.map_nil, List.cons.injEq, and_true] at h
  obtain ⟨rfl, rfl, rfl, rfl, rfl, rfl, rfl, rfl, rfl⟩ := h
  exact ⟨p0, p1, p2, p3, p4, p5, p6, p7, p8, rfl, dj_at hd (i := 0) (j := 1) (by decide) rfl rfl hy1 hy2, dj_at hd (i := 0) (j := 2) (by decide) rfl rfl hy1 hy3, dj_at hd (i := 0) (j := 3) (by decide) rfl rfl hy1 hy4, dj_at hd (i := 0) (j := 4) (by decide) rfl rfl hy1 hy5, dj_at hd (i := 0) (j := 5) (by decide) rfl rfl hy1 hy6, dj_at hd (i := 0) (j := 6) (by decide) rfl rfl hy1 hy7, dj_at hd (i := 0) (j := 7) (by decide) rfl rfl hy1 hy8, dj_at hd (i := 0) (j := 8) (by decide) rfl rfl hy1 hy9, dj_at hd (i := 1) (j := 2) (by decide) rfl rfl hy2 hy3, dj_at hd (i := 1) (j := 3) (by decide) rfl rfl hy2 hy4, dj_at hd (i := 1) (j := 4) (by decide) rfl rfl hy2 hy5, dj_at hd (i := 1) (j := 5) (by decide) rfl rfl hy2 hy6, dj_at hd (i := 1) (j := 6) (by decide) rfl rfl hy2 hy7, dj_at hd (i := 1) (j := 7) (by decide) rfl rfl hy2 hy8, dj_at hd (i := 1) (j := 8) (by decide) rfl rfl hy2 hy9, dj_at hd (i := 2) (j := 3) (by decide) rfl rfl hy3 hy4, dj_at hd (i := 2) (j := 4) (by decide) rfl rfl hy3 hy5, dj_at hd (i := 2) (j := 5) (by decide) rfl rfl hy3 hy6, dj_at hd (i := 2) (j := 6) (by decide) rfl rfl hy3 hy7, dj_at hd (i := 2) (j := 7) (by decide) rfl rfl hy3 hy8, dj_at hd (i := 2) (j := 8) (by decide) rfl rfl hy3 hy9, dj_at hd (i := 3) (j := 4) (by decide) rfl rfl hy4 hy5, dj_at hd (i := 3) (j := 5) (by decide) rfl rfl hy4 hy6, dj_at hd (i := 3) (j := 6) (by decide) rfl rfl hy4 hy7, dj_at hd (i := 3) (j := 7) (by decide) rfl rfl hy4 hy8, dj_at hd (i := 3) (j := 8) (by decide) rfl rfl hy4 hy9, dj_at hd (i := 4) (j := 5) (by decide) rfl rfl hy5 hy6, dj_at hd (i := 4) (j := 6) (by decide) rfl rfl hy5 hy7, dj_at hd (i := 4) (j := 7) (by decide) rfl rfl hy5 hy8, dj_at hd (i := 4) (j := 8) (by decide) rfl rfl hy5 hy9, dj_at hd (i := 5) (j := 6) (by decide) rfl rfl hy6 hy7, dj_at hd (i := 5) (j := 7) (by decide) rfl rfl hy6 hy8, dj_at hd (i := 5) (j := 8) (by decide) rfl rfl hy6 hy9, dj_at hd (i := 6) (j := 7) (by decide) rfl rfl hy7 hy8, dj_at hd (i := 6) (j := 8) (by decide) rfl rfl hy7 hy9, dj_at hd (i := 7) (j := 8) (by decide) rfl rfl hy8 hy9⟩
end Go.Ab
namespace Go.Ab
open Go.Proofs
abbrev machA (n o : Int) (next out : List (List Int)) : AVal := .st [iv n, iv o, .ro none 1 (rwn next), .ro none 1 (rwn out)]
abbrev machP (n o : Int) (next out : List (List Int)) : AVal := .rp [iv n, iv o, .ro none 1 (rwn next), .ro none 1 (rwn out)] 0
theorem k_szMachine (n o : Int) (x y : List (List Int)) (left : Int) (h : 0 ≤ left ∧ left ≤ 4611686018427387904) :
    Fun Try.prog nz2z [machA n o x y, iv left] (iv (szC2 x y left)) := by
  refine fun_of mixed czd6 rfl ⟨rfl, trivial⟩ ?_
  simp only [Az64, Bz63, go_sem, yz0, Int.reduceLT, reduceLE, reduceToNat, reduceNeg, Nat.reduceLT, reduceLeDiff, reduceMul, reduceSub, reduceIte, reduceEqDiff, reduceAdd, reduceCtorEq]
  intro vs vs2
  refine yzg (k_szInt64SS x left h) qCS trivial ?_
  by_cases h1 : szLL x left < 0
  · have e : szC2 x y left = -1 := by unfold szC2; rw [if_pos h1]
    simp only [Bz3u, Bz3r, decide_eq_true h1, e, go_sem, yz0, Int.reduceLT, reduceLE, reduceToNat, reduceNeg, Nat.reduceLT, reduceLeDiff, reduceMul, reduceSub, reduceIte, reduceEqDiff, reduceAdd, reduceCtorEq]
  · have e : szC2 x y left = szLL y (szLL x left) := by unfold szC2; rw [if_neg h1]
    have h2 := (szLL_ge (xss := x) (l := left) (by omega)).2.2
    simp only [Bz3u, Bz3r, Bz62, decide_eq_false h1, e, go_sem, yz0, Int.reduceLT, reduceLE, reduceToNat, reduceNeg, Nat.reduceLT, reduceLeDiff, reduceMul, reduceSub, reduceIte, reduceEqDiff, reduceAdd, reduceCtorEq]
    intro vs3
    refine yzg (k_szInt64SS y (szLL x left) ⟨by omega, by omega⟩) qCS trivial ?_
    by_cases h3 : szLL y (szLL x left) < 0
    · simp only [Bz3t, Bz3s, decide_eq_true h3, go_sem, yz0, Int.reduceLT, reduceLE, reduceToNat, reduceNeg, Nat.reduceLT, reduceLeDiff, reduceMul, reduceSub, reduceIte, reduceEqDiff, reduceAdd, reduceCtorEq]
      rw [szLL_neg h3]
    · simp only [Bz3t, Bz3s, Bz61, decide_eq_false h3, go_sem, yz0, Int.reduceLT, reduceLE, reduceToNat, reduceNeg, Nat.reduceLT, reduceLeDiff, reduceMul, reduceSub, reduceIte, reduceEqDiff, reduceAdd, reduceCtorEq]
theorem k_eqMachine (n n' o o' : Int) (x y x' y' : List (List Int)) : Fun Try.prog nz30 [machA n o x y, machA n' o' x' y'] (bv (decide (n = n') && (decide (o = o') && (decide (x = x') && decide (y = y'))))) := by
  refine fun_of mixed czdb rfl ⟨rfl, trivial⟩ ?_
  simp only [Az6v, Bz6u, go_sem, yz0, Int.reduceLT, reduceLE, reduceToNat, reduceNeg, Nat.reduceLT, reduceLeDiff, reduceMul, reduceSub, reduceIte, reduceEqDiff, reduceAdd, reduceCtorEq]
  intro vs
  by_cases hn : n = n'
  · subst hn
    by_cases ho : o = o'
    · subst ho
      simp only [Bz1z, Bz47, Bz44, Bz6t, bne_self_eq_false, go_sem, yz0, Int.reduceLT, reduceLE, reduceToNat, reduceNeg, Nat.reduceLT, reduceLeDiff, reduceMul, reduceSub, reduceIte, reduceEqDiff, reduceAdd, reduceCtorEq]
      intro vs3
      refine yzg (yz1j x x') qCS (by trivial) ?_
      by_cases h2 : x = x'
      · simp only [Bz45, Bz6s, decide_eq_true h2, decide_true, go_sem, yz0, Int.reduceLT, reduceLE, reduceToNat, reduceNeg, Nat.reduceLT, reduceLeDiff, reduceMul, reduceSub, reduceIte, reduceEqDiff, reduceAdd, reduceCtorEq]
        intro vs4
        refine yzg (yz1j y y') qCS (by trivial) ?_
        by_cases h3 : y = y'
        · simp only [Bz46, Bz6r, decide_eq_true h3, decide_true, Bool.and_self, go_sem, yz0, Int.reduceLT, reduceLE, reduceToNat, reduceNeg, Nat.reduceLT, reduceLeDiff, reduceMul, reduceSub, reduceIte, reduceEqDiff, reduceAdd, reduceCtorEq]
        · simp only [Bz46, decide_eq_false h3, Bool.and_false, go_sem, yz0, Int.reduceLT, reduceLE, reduceToNat, reduceNeg, Nat.reduceLT, reduceLeDiff, reduceMul, reduceSub, reduceIte, reduceEqDiff, reduceAdd, reduceCtorEq]
      · simp only [Bz45, decide_eq_false h2, Bool.false_and, Bool.and_false, go_sem, yz0, Int.reduceLT, reduceLE, reduceToNat, reduceNeg, Nat.reduceLT, reduceLeDiff, reduceMul, reduceSub, reduceIte, reduceEqDiff, reduceAdd, reduceCtorEq]
    · have hne : (o != o') = true := by simpa using ho
      simp only [Bz1z, Bz47, Bz44, bne_self_eq_false, hne, decide_eq_false ho, Bool.false_and, Bool.and_false, go_sem, yz0, Int.reduceLT, reduceLE, reduceToNat, reduceNeg, Nat.reduceLT, reduceLeDiff, reduceMul, reduceSub, reduceIte, reduceEqDiff, reduceAdd, reduceCtorEq]
  · have hne : (n != n') = true := by simpa using hn
    simp only [Bz1z, hne, decide_eq_false hn, Bool.false_and, go_sem, yz0, Int.reduceLT, reduceLE, reduceToNat, reduceNeg, Nat.reduceLT, reduceLeDiff, reduceMul, reduceSub, reduceIte, reduceEqDiff, reduceAdd, reduceCtorEq]
theorem k_toMachineN (n o : Int) (x y : List (List Int)) (h1 : x.length * 24 ≤ 140737488355328) (h2 : ∀ xs ∈ x, xs.length * 8 ≤ 140737488355328) (h3 : y.length * 24 ≤ 140737488355328) (h4 : ∀ xs ∈ y, xs.length * 8 ≤ 140737488355328) :
    Fn Try.prog nz1d [machA n o x y] (fun rows res => ∃ v w ps qs, rows = [.row v 1 true (rwp ps), .row w 1 true (rwp qs)] ∧ ps.map (·.2) = x ∧ qs.map (·.2) = y ∧ DJ (ps ++ qs) ∧ res = .st [iv n, iv o, .own 6000 v, .own 6001 w]) := by
  refine con_of mixed czd8 rfl (by simp) ?_
  simp only [Az6f, Bz6e, yzp, yz8, go_sem, yz0, Int.reduceLT, reduceLE, reduceToNat, reduceNeg, Nat.reduceLT, reduceLeDiff, reduceMul, reduceSub, reduceIte, reduceEqDiff, reduceAdd, reduceCtorEq]
  intro vs0 U0 hN0 vs1 U1 hN1
  simp only [Bz6d, Bz6c, yzp, yz8, go_sem, yz0, Int.reduceLT, reduceLE, reduceToNat, reduceNeg, Nat.reduceLT, reduceLeDiff, reduceMul, reduceSub, reduceIte, reduceEqDiff, reduceAdd, reduceCtorEq]
  intro vs2 U2 hN2 vs3 U3 hN3
  simp only [Bz6b, yzp, yz8, go_sem, yz0, Int.reduceLT, reduceLE, reduceToNat, reduceNeg, Nat.reduceLT, reduceLeDiff, reduceMul, reduceSub, reduceIte, reduceEqDiff, reduceAdd, reduceCtorEq]
  intro vs4 U4 hN4
  refine call_fn (k_toInt64SSn x h1 h2) qCS (by intro e; cases e) ?_
  rintro rows res ⟨v, ps, rfl, hps, hd, rfl⟩
  refine ⟨by simp, by simp only [Option.getD_some, yz1g]; rfl, ?_⟩
  simp only [Option.getD_some, List.length_singleton, renL_rwp, Bz6a, yzp, yz8, Nat.not_lt_zero, range1, yz1v, yz22, ren_ro, rnNm_n, yz21, rnNm_o, rnNm_s, ren_st, yz20, yz1h, yz12, yzl, yz1o, yz1q, yz1p, yz1f, yz1r, yzv, yzz, yzx, yz10, yz1b, yz1a, yzq, yzs, yz11, yzw, yz1c, yz19, List.range_zero, yzu, yzr, yzy, yz1n, yz1g, yz1m, AVal.fresh, freshL, yzk, yz1d, AObj.fresh, id, Option.isSome_some, or_true, true_or, go_sem, yz0, Int.reduceLT, reduceLE, reduceToNat, reduceNeg, Nat.reduceLT, reduceLeDiff, reduceMul, reduceSub, reduceIte, reduceEqDiff, reduceAdd, reduceCtorEq]
  intro vs5 U5 hN5
  refine call_fn (k_toInt64SSn y h3 h4) qCS (by intro e; cases e) ?_
  rintro rows res ⟨w, qs, rfl, hqs, hdq, rfl⟩
  refine ⟨by simp, by simp only [Option.getD_some, yz1g]; rfl, ?_⟩
  simp only [Option.getD_some, List.length_singleton, renL_rwp, Bz69, yzp, yz8, Nat.not_lt_zero, range1, yz1v, yz22, ren_ro, rnNm_n, yz21, rnNm_o, rnNm_s, ren_st, yz20, yz1h, yz12, yzl, yz1o, yz1q, yz1p, yz1f, yz1r, yzv, yzz, yzx, yz10, yz1b, yz1a, yzq, yzs, yz11, yzw, yz1c, yz19, List.range_zero, yzu, yzr, yzy, yz1n, yz1g, yz1m, AVal.fresh, freshL, yzk, yz1d, AObj.fresh, id, Option.isSome_some, or_true, true_or, go_sem, yz0, Int.reduceLT, reduceLE, reduceToNat, reduceNeg, Nat.reduceLT, reduceLeDiff, reduceMul, reduceSub, reduceIte, reduceEqDiff, reduceAdd, reduceCtorEq]
  intro vs6 U6 hN6
  refine ⟨[12, 16], by simp, by simp, by simp, ?_⟩
  simp only [renL_rwp, Nat.not_lt_zero, range1, yz1v, yz22, ren_ro, rnNm_n, yz21, rnNm_o, rnNm_s, ren_st, yz20, yz1h, yz12, yzl, yz1o, yz1q, yz1p, yz1f, yz1r, yzv, yzz, yzx, yz10, yz1b, yz1a, yzq, yzs, yz11, yzw, yz1c, yz19, List.range_zero, yzu, yzr, yzy, yz1n, yz1g, yz1m, AVal.fresh, freshL, yzk, yz1d, AObj.fresh, id, Option.isSome_some, or_true, true_or, go_sem, yz0, Int.reduceLT, reduceLE, reduceToNat, reduceNeg, Nat.reduceLT, reduceLeDiff, reduceMul, reduceSub, reduceIte, reduceEqDiff, reduceAdd, reduceCtorEq]
  have hU := hN5.hp 12
  simp only [AObj.uses, go_sem, yz0, Int.reduceLT, reduceLE, reduceToNat, reduceNeg, Nat.reduceLT, reduceLeDiff, reduceMul, reduceSub, reduceIte, reduceEqDiff, reduceAdd, reduceCtorEq] at hU
  have hold := usesL_rwp (rest := []) (by rw [List.append_nil]; exact hU.2)
  refine ⟨⟨fresh_rwp, fresh_rwp⟩, _, _, ps.map (fun p => (vs4 2 p.1, p.2)), qs.map (fun p => (vs5 2 p.1, p.2)), ?_, by rw [← hps, List.map_map]; rfl, by rw [← hqs, List.map_map]; rfl, ?_, rfl⟩
  · have e : ∀ l : List (Nat × List Int), l.map (fun p => (p.1, p.2)) = l := fun l => List.map_id l
    rw [e, e]
  · refine List.pairwise_append.2 ⟨hd.ren fun x y e => (hN4.inj _ _ _ _ e).2, hdq.ren fun x y e => (hN5.inj _ _ _ _ e).2, ?_⟩
    intro p hp q hq
    obtain ⟨q0, _, rfl⟩ := List.mem_map.1 hq
    rcases hold p hp with h | h
    · exact .inl h
    · exact .inr (.inr fun e => hN5.new 2 q0.1 (by have e : p.1 = vs5 2 q0.1 := e; rw [← e]; exact h))
theorem yz1k (n o : Int) (x y : List (List Int)) (h1 : x.length * 24 ≤ 140737488355328) (h2 : ∀ xs ∈ x, xs.length * 8 ≤ 140737488355328) (h3 : y.length * 24 ≤ 140737488355328) (h4 : ∀ xs ∈ y, xs.length * 8 ≤ 140737488355328) :
    Rows2 Try.prog nz1d [machA n o x y] [n, o] x y := by
  refine Con.dnr (k_toMachineN n o x y h1 h2 h3 h4) ?_
  rintro oo r z ⟨rfl, v, w, ps, qs, rfl, hps, hqs, _, rfl⟩
  refine ⟨rfl, v, w, ?_, by simp only [List.map_cons, List.map_nil, List.cons_append, List.nil_append, go_sem, yz0, Int.reduceLT, reduceLE, reduceToNat, reduceNeg, Nat.reduceLT, reduceLeDiff, reduceMul, reduceSub, reduceIte, reduceEqDiff, reduceAdd, reduceCtorEq]⟩
  simp only [List.map_cons, List.map_nil, odn_row, dnL_rwp]
  rw [hps, hqs]
theorem call_machN {P : Program} {σ : St} {g : FuncId} {As args : List AVal} {d : Nat} {s : Nat → Nat} {K : St → Prop} {n o : Int} {x y : List (List Int)} (hs : ∀ x y, s x = s y → x = y)
    (h : Fn P g args (fun rows res => ∃ v w ps qs, rows = [.row v 1 true (rwp ps), .row w 1 true (rwp qs)] ∧ ps.map (·.2) = x ∧ qs.map (·.2) = y ∧ DJ (ps ++ qs) ∧ res = .st [iv n, iv o, .own 6000 v, .own 6001 w]))
    (hco : CoeL σ.hp [] true args As) (hg : σ.hp d = .gone) (hg2 : σ.hp (d + 1000) = .gone)
    (hk : ∀ v w ps qs, ps.map (·.2) = x → qs.map (·.2) = y → DJ (ps ++ qs) → K (St.put ⟨σ.tm, upd (upd σ.hp d (.row v 1 true (rwp ps))) (d + 1000) (.row w 1 true (rwp qs))⟩ (some d) (.st [iv n, iv o, .own d v, .own (d + 1000) w]))) : wpCall P false σ g As (some d) s K := by
  refine call_fn h hco (fun e => by cases e) ?_
  rintro rows res ⟨v, w, ps, qs, rfl, hp, hq, hd, rfl⟩
  refine ⟨by simp, ?_, ?_⟩
  · simp only [Option.getD_some, yz1m]; exact ⟨hg, hg2⟩
  · simp only [Option.getD_some, renL_rwp, List.length_cons, List.length_nil, Nat.zero_add, reduceAdd, Nat.not_lt_zero, range1, yz1v, yz22, ren_ro, rnNm_n, yz21, rnNm_o, rnNm_s, ren_st, yz20, yz1h, yz12, yzl, yz1o, yz1q, yz1p, yz1f, yz1r, yzv, yzz, yzx, yz10, yz1b, yz1a, yzq, yzs, yz11, yzw, yz1c, yz19, List.range_zero, yzu, yzr, yzy, yz1n, yz1g, yz1m, AVal.fresh, freshL, yzk, yz1d, AObj.fresh, id, Option.isSome_some, or_true, true_or]
    exact hk _ _ _ _ (by rw [List.map_map]; exact hp) (by rw [List.map_map]; exact hq) (by have := hd.ren hs; rw [List.map_append] at this; exact this)
theorem k_markMachine (n o : Int) (ps qs : List (Nat × List Int)) (hd : DJ (ps ++ qs)) (k : Int) (h : 0 ≤ k ∧ k + (totL ps + totL qs) ≤ 4611686018427387904) (hx : ∀ p ∈ ps, (p.2.length : Int) ≤ 1000000000) (hy : ∀ p ∈ qs, (p.2.length : Int) ≤ 1000000000) :
    Con Try.prog nz31 [] [.st [iv n, iv o, .ro (some (some 0)) 1 (rwp ps), .ro (some (some 0)) 1 (rwp qs)], iv k] true (MarkR k (totL ps + totL qs)) := by
  refine con_sh mixed czdc rfl (by simp) ?_
  have t1 := totL_nn ps
  have t2 := totL_nn qs
  simp only [Az6z, Bz6y, yzp, yz8, go_sem, yz0, Int.reduceLT, reduceLE, reduceToNat, reduceNeg, Nat.reduceLT, reduceLeDiff, reduceMul, reduceSub, reduceIte, reduceEqDiff, reduceAdd, reduceCtorEq]
  intro vs U hN vs2 U2 hN2
  refine call_havP (pOf ps) (k_markInt64SS ps (List.pairwise_append.1 hd).1 k ⟨h.1, by omega⟩ hx) ?_ ?_
  · rw [coeHL_cons, coeHL_cons, coeHL_nil, coeH_val]; exact ⟨coeH_rwpP pOf_in, rfl, trivial⟩
  rintro v ⟨k', rfl, h1, h2⟩
  simp only [Bz6x, cl_L, clT, clO, clV_any, clV_val, clV_own, clV_ptr, clV_st, clV_o, clL_ints, clL_rwo, clL_cons, clL_nil, clR_row, clR_box, clR_gone, clL_rwpP (pOf_not hd), yzp, yz8, go_sem, yz0, Int.reduceLT, reduceLE, reduceToNat, reduceNeg, Nat.reduceLT, reduceLeDiff, reduceMul, reduceSub, reduceIte, reduceEqDiff, reduceAdd, reduceCtorEq]
  intro vs3 U3 hN3
  refine call_hav (k_markInt64SS qs (List.pairwise_append.1 hd).2.1 k' ⟨by omega, by omega⟩ hy) ?_ ?_
  · rw [coeHL_cons, coeHL_cons, coeHL_nil, coeH_val]; exact ⟨coeH_rwp, rfl, trivial⟩
  rintro v ⟨k2, rfl, h3, h4⟩
  simp only [Bz6w, cl_L, clT, clO, yzp, yz8, go_sem, yz0, Int.reduceLT, reduceLE, reduceToNat, reduceNeg, Nat.reduceLT, reduceLeDiff, reduceMul, reduceSub, reduceIte, reduceEqDiff, reduceAdd, reduceCtorEq]
  intro vs4 U4 hN4
  refine ⟨[], by simp, by simp, by simp, ?_⟩
  simp only [Nat.not_lt_zero, range1, yz1v, yz22, ren_ro, rnNm_n, yz21, rnNm_o, rnNm_s, ren_st, yz20, yz1h, yz12, yzl, yz1o, yz1q, yz1p, yz1f, yz1r, yzv, yzz, yzx, yz10, yz1b, yz1a, yzq, yzs, yz11, yzw, yz1c, yz19, List.range_zero, yzu, yzr, yzy, yz1n, yz1g, yz1m, AVal.fresh, freshL, yzk, yz1d, AObj.fresh, id, Option.isSome_some, or_true, true_or, go_sem, yz0, Int.reduceLT, reduceLE, reduceToNat, reduceNeg, Nat.reduceLT, reduceLeDiff, reduceMul, reduceSub, reduceIte, reduceEqDiff, reduceAdd, reduceCtorEq]
  exact ⟨rfl, rfl, _, ⟨k2, rfl, by omega, by omega⟩, rfl⟩
end Go.Ab
