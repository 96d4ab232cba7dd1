/- Contracts and what they lean on, part 9. Conditions: none. -/
import Derived.Test.YtlijcimaeplgbaaZ8
set_option maxRecDepth 100000
set_option maxHeartbeats 4000000
set_option linter.all false
open Nat (reduceLeDiff reduceMul reduceSub reduceEqDiff reduceAdd)
open Int (reduceToNat reduceNeg reduceLE)
namespace Go.Ab
open Go.Proofs
abbrev AlR (code : List Int) (at_ : Int) (outs rows : List AObj) (res : AVal) : Prop :=
  ∃ n ps v w xs a' s', Aut n (ps.map (·.2)) ∧ DJ ps ∧ n ≤ 6 ∧ at_ ≤ a' ∧ a' ≤ at_ + 2000 ∧ outs = [.box 0 (srcC code a' s')] ∧ rows = [.row v 1 true (rwp ps), .row w 1 true (ints xs)] ∧ res = .tup [.st [iv n, .own 6000 v], .own 6001 w]
theorem rwp_getD {ps : List (Nat × List Int)} {i : Nat} (h : i < ps.length) : (rwp ps).getD i .any = .ro (some (some ((ps.getD i (0, [])).1 + 1))) 1 (ints (ps.getD i (0, [])).2) := by
  rw [List.getD_eq_getElem?_getD, rwp, List.getElem?_map, List.getElem?_eq_getElem h, List.getD_eq_getElem?_getD, List.getElem?_eq_getElem h]; rfl
theorem k_l01Alike (code : List Int) (at_ seed : Int) (hb : ∀ x ∈ code, 0 ≤ x ∧ x ≤ 255) (ha : 0 ≤ at_ ∧ at_ ≤ 100000) :
    Con Try.prog nz3n [.box 0 (srcC code at_ seed)] [.ptr 5000 0 0] true (AlR code at_) := by
  refine con_sh mixed czi8 rfl (by simp) ?_
  generalize hQ : finQ _ = Q
  simp only [Az67, Bzf4, yzu, yze, go_sem, yz0, Int.reduceLT, reduceLE, reduceToNat, reduceNeg, Nat.reduceLT, reduceLeDiff, reduceMul, reduceSub, reduceIte, reduceEqDiff, reduceAdd, reduceCtorEq]
  intro vs0 U0 hN0 vs1 U1 hN1
  refine call_con (r := 5000) (k_DrawnN code at_ seed 3 hb (by omega) (by omega)) rfl (by simp only [Bool.not_true, rowIs, boxIs, coe_argN, yz1f, coe_ro_o, yz18, yzw, coe_any, coe_val, coe_ro, yz12, yz15, coe_st, yz13, coe_rp, yz14, coe_clo, coe_own0, yz1g, yz11, coeL_rws, coeL_rwn, L_hit, L_miss, L_nil, reduceEqDiff, ne_eq, reduceCtorEq, not_false_eq_true, true_and, and_true, and_self, exists_eq_left, exists_eq_right, List.mem_cons, List.not_mem_nil, or_false, AObj.row.injEq, AObj.box.injEq, exists_eq_left', exists_and_left, exists_eq, Nat.zero_lt_one, Nat.lt_add_one, List.map_cons, List.map_nil, AObj.ver, Nat.reduceLT, not_true_eq_false]) (by simp only [Bool.not_true, rowIs, boxIs, coe_argN, yz1f, coe_ro_o, yz18, yzw, coe_any, coe_val, coe_ro, yz12, yz15, coe_st, yz13, coe_rp, yz14, coe_clo, coe_own0, yz1g, yz11, coeL_rws, coeL_rwn, L_hit, L_miss, L_nil, reduceEqDiff, ne_eq, reduceCtorEq, not_false_eq_true, true_and, and_true, and_self, exists_eq_left, exists_eq_right, List.mem_cons, List.not_mem_nil, or_false, AObj.row.injEq, AObj.box.injEq, exists_eq_left', exists_and_left, exists_eq, Nat.zero_lt_one, Nat.lt_add_one, List.map_cons, List.map_nil, AObj.ver, Nat.reduceLT, not_true_eq_false]) ?_
  rintro outs rows res ⟨q, qs, vq, a1, s1, A, hd, hq3, h1, h2, rfl, rfl, rfl⟩
  refine ⟨rfl, by simp, by rw [Option.getD_some, yzl]; simp only [go_sem, yz0, Int.reduceLT, reduceLE, reduceToNat, reduceNeg, Nat.reduceLT, reduceLeDiff, reduceMul, reduceSub, reduceIte, reduceEqDiff, reduceAdd, reduceCtorEq], ?_⟩
  rw [Option.getD_some, callHp_mr (by omega)]
  simp only [renL_rwp, Bzf3, yzu, yze, Nat.not_lt_zero, range1, yzv, yzy, yz19, yz1b, yzz, yz1a, yz1c, yz17, yzx, yzp, yzf, yz3, yzs, yzq, yzn, yzm, yzt, yz7, yzd, yzb, yzc, yzi, yzh, yz2, yz6, yz8, yza, yzg, yzj, List.range_zero, yz5, yz4, yz9, yzr, yzl, yzo, AVal.fresh, freshL, yz1, yzk, AObj.fresh, id, Option.isSome_some, or_true, true_or, go_sem, yz0, Int.reduceLT, reduceLE, reduceToNat, reduceNeg, Nat.reduceLT, reduceLeDiff, reduceMul, reduceSub, reduceIte, reduceEqDiff, reduceAdd, reduceCtorEq]
  intro vs2 U2 hN2
  generalize hf : sv (L .gone _) [5000] (vs1 1) = f
  have hf0 : f 0 = 0 := by rw [← hf]; simp [sv, AObj.ver, L]
  rw [hf0]
  generalize hps0 : List.map (fun p => (f p.1, p.2)) qs = ps0
  have A0 : Aut q (ps0.map (·.2)) := by
    rw [← hps0, List.map_map]; exact A
  have n1 := A0.n1
  have l1 := A0.l1
  have l2 := A0.l2
  rw [List.length_map] at l1 l2
  refine call_funBN (k_pick code a1 s1 4 hb (by omega)) rfl (by simp) qCS qCS ⟨srcC code a1 0, .int .i64 0, ⟨a1, 0, 0, rfl, by omega, by omega, rfl, by omega, .inr rfl⟩, flat_srcC⟩ ?_
  rintro cs' x ⟨a2, s2, b2, rfl, g1, g2, rfl, g3, g4⟩
  obtain ⟨n, hn⟩ : ∃ n : Int, n = q + b2 := ⟨_, rfl⟩
  have wn : IntKind.i64.wrap (q + b2) = n := by rw [hn]; exact w64 (by omega)
  simp only [wn, Bzf2, yzu, yze, go_sem, yz0, Int.reduceLT, reduceLE, reduceToNat, reduceNeg, Nat.reduceLT, reduceLeDiff, reduceMul, reduceSub, reduceIte, reduceEqDiff, reduceAdd, reduceCtorEq]
  intro vs3 U3 hN3
  simp only [Bzf1, Bzeh, yzu, yze, go_sem, yz0, Int.reduceLT, reduceLE, reduceToNat, reduceNeg, Nat.reduceLT, reduceLeDiff, reduceMul, reduceSub, reduceIte, reduceEqDiff, reduceAdd, reduceCtorEq]
  intro vs4 U4 hN4
  refine wpD_lp (fun (_, _, _, xs) => n.toNat - List.length xs)
    (fun (_, a, _, xs) => a2 ≤ a ∧ a ≤ a2 + 2 * List.length xs ∧ (List.length xs : Int) ≤ n ∧ ∀ x ∈ xs, 0 ≤ x ∧ x < q)
    (fun ((v6, a, s, xs) : Nat × Int × Int × List Int) => ⟨L .any [(0, .ptr 5000 0 0), (2, .ptr 2 (vs0 0 0) 0), (4, .ptr 4 (vs1 2 0) 0), (5, iv n), (6, .own 23 v6), (7, iv xs.length)],
      L .gone [(2, .box (vs0 0 0) [iv 0, .val (.slice none 0 0)]), (4, .box (vs1 2 0) [iv q, .own 17 (f vq)]), (8, .gone), (17, .row (f vq) 1 true (rwp ps0)), (23, .row v6 1 true (ints xs)), (36, .gone), (43, .gone), (93, .gone), (5000, .box 0 (srcC code a s))]⟩)
    (_, a2, s2, []) ⟨Int.le_refl _, by simp, by simp; omega, by simp⟩ (by simp only [Bz2q, go_sem, yz0, Int.reduceLT, reduceLE, reduceToNat, reduceNeg, Nat.reduceLT, reduceLeDiff, reduceMul, reduceSub, reduceIte, reduceEqDiff, reduceAdd, reduceCtorEq]; try rfl) ?_
  rintro ⟨v6, a, s, xs⟩ ⟨i1, i2, i3, i4⟩
  have i1 : a2 ≤ a := i1
  have i2 : a ≤ a2 + 2 * xs.length := i2
  have i3 : (xs.length : Int) ≤ n := i3
  by_cases hlt : (xs.length : Int) < n
  · have w1 : IntKind.i64.wrap ((xs.length : Int) + 1) = ((xs.length + 1 : Nat) : Int) := by rw [w64 (by omega)]; simp
    simp only [Bz2q, Bz61, Bzeg, decide_eq_true hlt, yzu, yze, go_sem, yz0, Int.reduceLT, reduceLE, reduceToNat, reduceNeg, Nat.reduceLT, reduceLeDiff, reduceMul, reduceSub, reduceIte, reduceEqDiff, reduceAdd, reduceCtorEq]
    intro vs5 U5 hN5 vs6 U6 hN6
    by_cases hq : (xs.length : Int) < q
    · simp only [Bz62, Bz63, decide_eq_true hq, w1, yzu, yze, go_sem, yz0, Int.reduceLT, reduceLE, reduceToNat, reduceNeg, Nat.reduceLT, reduceLeDiff, reduceMul, reduceSub, reduceIte, reduceEqDiff, reduceAdd, reduceCtorEq]
      intro vs7 U7 hN7
      refine ⟨⟨_, rfl, rfl⟩, by omega, ?_⟩
      intro vs8 U8 hN8
      refine ⟨(vs7 3 0, a, s, xs ++ [(xs.length : Int)]), by dsimp only; rw [List.length_append, List.length_singleton]; omega, ⟨i1, by dsimp only; rw [List.length_append, List.length_singleton]; omega, by dsimp only; rw [List.length_append, List.length_singleton]; omega, fun x hx => ?_⟩, ?_⟩
      · rcases List.mem_append.1 hx with h | h
        · exact i4 x h
        · rw [List.mem_singleton.1 h]; omega
      · simp only [List.length_append, List.length_singleton]
    · simp only [Bz62, decide_eq_false hq, yzu, yze, go_sem, yz0, Int.reduceLT, reduceLE, reduceToNat, reduceNeg, Nat.reduceLT, reduceLeDiff, reduceMul, reduceSub, reduceIte, reduceEqDiff, reduceAdd, reduceCtorEq]
      intro vs7 U7 hN7
      refine call_funB (k_pick code a s q hb (by omega)) rfl qCS qCS ?_
      rintro cs' x ⟨a3, s3, b3, rfl, e1, e2, rfl, e3, e4⟩
      simp only [Bz63, w1, yzu, yze, go_sem, yz0, Int.reduceLT, reduceLE, reduceToNat, reduceNeg, Nat.reduceLT, reduceLeDiff, reduceMul, reduceSub, reduceIte, reduceEqDiff, reduceAdd, reduceCtorEq]
      refine ⟨⟨_, rfl, rfl⟩, by omega, ?_⟩
      intro vs8 U8 hN8
      refine ⟨(vs7 6 0, a3, s3, xs ++ [b3]), by dsimp only; rw [List.length_append, List.length_singleton]; omega, ⟨by dsimp only; omega, by dsimp only; rw [List.length_append, List.length_singleton]; omega, by dsimp only; rw [List.length_append, List.length_singleton]; omega, fun x hx => ?_⟩, ?_⟩
      · rcases List.mem_append.1 hx with h | h
        · exact i4 x h
        · rw [List.mem_singleton.1 h]; omega
      · simp only [List.length_append, List.length_singleton]
  have hxl : (xs.length : Int) = n := by omega
  simp only [Bz2q, Bz61, Bzf0, decide_eq_false hlt, yzu, yze, go_sem, yz0, Int.reduceLT, reduceLE, reduceToNat, reduceNeg, Nat.reduceLT, reduceLeDiff, reduceMul, reduceSub, reduceIte, reduceEqDiff, reduceAdd, reduceCtorEq]
  intro vs5 U5 hN5 vs6 U6 hN6
  simp only [Bzez, Bzex, yzu, yze, go_sem, yz0, Int.reduceLT, reduceLE, reduceToNat, reduceNeg, Nat.reduceLT, reduceLeDiff, reduceMul, reduceSub, reduceIte, reduceEqDiff, reduceAdd, reduceCtorEq]
  intro vs7 U7 hN7 ver
  refine wpD_lp (fun (_, _, _, _, ps) => ps0.length - List.length ps)
    (fun (_, nn, a', _, ps) => a ≤ a' ∧ a' ≤ a + 60 * List.length ps ∧ List.length ps ≤ ps0.length ∧ (ps ≠ [] → nn = true) ∧ (∀ p ∈ ps, (List.length p.2 : Int) = n ∧ ∀ x ∈ p.2, 0 ≤ x ∧ x < n) ∧ DJ ps)
    (fun ((v93, nn, a, s, ps) : Nat × Bool × Int × Int × List (Nat × List Int)) => ⟨L .any [(0, .ptr 5000 0 0), (2, .ptr 2 (vs0 0 0) 0), (4, .ptr 4 (vs1 2 0) 0), (5, iv n), (6, .own 23 v6), (8, .ptr 8 (vs6 2 0) 0), (9, iv ps.length)],
      L .gone [(2, .box (vs0 0 0) [iv 0, .val (.slice none 0 0)]), (4, .box (vs1 2 0) [iv q, .own 17 (f vq)]), (8, .box (vs6 2 0) [iv n, .own 93 v93]), (17, .row (f vq) 1 true (rwp ps0)), (23, .row v6 1 true (ints xs)), (36, .gone), (43, .gone), (93, .row v93 1 nn (rwp ps)), (5000, .box 0 (srcC code a s))]⟩)
    (ver, false, a, s, []) ⟨Int.le_refl _, by simp, by simp, by simp, by simp, by simp [DJ]⟩ (by simp only [Bz2t, go_sem, yz0, Int.reduceLT, reduceLE, reduceToNat, reduceNeg, Nat.reduceLT, reduceLeDiff, reduceMul, reduceSub, reduceIte, reduceEqDiff, reduceAdd, reduceCtorEq]; try rfl) ?_
  rintro ⟨v93, nn, a', s', ps⟩ ⟨j1, j2, j3, j4, j5, j6⟩
  have j1 : a ≤ a' := j1
  have j2 : a' ≤ a + 60 * ps.length := j2
  have j3 : ps.length ≤ ps0.length := j3
  by_cases hlp : (ps.length : Int) < ps0.length
  · have hlp1 : ps.length < ps0.length := by omega
    have hrw := A0.row _ (List.mem_map_of_mem (f := (·.2)) (yz16 hlp1 (0, [])))
    generalize hr0 : ps0.getD ps.length (0, []) = r0 at hrw
    simp only [Bz2t, Bz64, Bzew, rwp_len, decide_eq_true hlp, yzu, yze, go_sem, yz0, Int.reduceLT, reduceLE, reduceToNat, reduceNeg, Nat.reduceLT, reduceLeDiff, reduceMul, reduceSub, reduceIte, reduceEqDiff, reduceAdd, reduceCtorEq]
    intro vs8 U8 hN8 hM8 vs9 U9 hN9
    simp only [Bzeu, Bzes, yzu, yze, go_sem, yz0, Int.reduceLT, reduceLE, reduceToNat, reduceNeg, Nat.reduceLT, reduceLeDiff, reduceMul, reduceSub, reduceIte, reduceEqDiff, reduceAdd, reduceCtorEq]
    intro vs10 U10 hN10
    refine wpD_lp (fun (_, _, _, row) => n.toNat - List.length row)
      (fun (_, a3, _, row) => a' ≤ a3 ∧ a3 ≤ a' + 8 * List.length row ∧ (List.length row : Int) ≤ n ∧ ∀ x ∈ row, 0 ≤ x ∧ x < n)
      (fun ((v10, a, s, row) : Nat × Int × Int × List Int) => ⟨L .any [(0, .ptr 5000 0 0), (2, .ptr 2 (vs0 0 0) 0), (4, .ptr 4 (vs1 2 0) 0), (5, iv n), (6, .own 23 v6), (8, .ptr 8 (vs6 2 0) 0), (9, iv ps.length), (10, .own 53 v10), (11, iv row.length)],
        L .gone [(2, .box (vs0 0 0) [iv 0, .val (.slice none 0 0)]), (4, .box (vs1 2 0) [iv q, .own 17 (f vq)]), (8, .box (vs6 2 0) [iv n, .own 93 v93]), (17, .row (f vq) 1 true (rwp ps0)), (23, .row v6 1 true (ints xs)), (36, .gone), (43, .gone), (53, .row v10 1 true (ints row)), (88, .gone), (93, .row v93 1 nn (rwp ps)), (5000, .box 0 (srcC code a s))]⟩)
      (_, a', s', []) ⟨Int.le_refl _, by simp, by simp; omega, by simp⟩ (by simp only [Bz2s, go_sem, yz0, Int.reduceLT, reduceLE, reduceToNat, reduceNeg, Nat.reduceLT, reduceLeDiff, reduceMul, reduceSub, reduceIte, reduceEqDiff, reduceAdd, reduceCtorEq]; try rfl) ?_
    rintro ⟨v10, a3, s3, row⟩ ⟨k1, k2, k3, k4⟩
    have k1 : a' ≤ a3 := k1
    have k2 : a3 ≤ a' + 8 * row.length := k2
    have k3 : (row.length : Int) ≤ n := k3
    by_cases hlr : (row.length : Int) < n
    · have hx1 : row.length < xs.length := by omega
      have hm := i4 _ (yz16 hx1 0)
      generalize hmx : xs.getD row.length 0 = m at hm
      have hm1 : m.toNat < r0.2.length := by omega
      have hw := hrw.2 _ (yz16 hm1 0)
      generalize hwx : r0.2.getD m.toNat 0 = want at hw
      simp only [Bz2s, Bz65, Bzer, rwp_getD hlp1, hr0, yz1d hx1, hmx, yz1d hm1, hwx, decide_eq_true hlr, yzu, yze, go_sem, yz0, Int.reduceLT, reduceLE, reduceToNat, reduceNeg, Nat.reduceLT, reduceLeDiff, reduceMul, reduceSub, reduceIte, reduceEqDiff, reduceAdd, reduceCtorEq]
      intro vs11 U11 hN11 vs12 U12 hN12
      have hlw : (rwp ps0).length = ps0.length := rwp_len
      refine ⟨⟨by omega, by omega⟩, by omega, ⟨by omega, hx1⟩, hx1, ⟨hm.1, hm1⟩, hm1, ?_⟩
      simp only [Bzep, Bzeo, Bzem, yzu, yze, go_sem, yz0, Int.reduceLT, reduceLE, reduceToNat, reduceNeg, Nat.reduceLT, reduceLeDiff, reduceMul, reduceSub, reduceIte, reduceEqDiff, reduceAdd, reduceCtorEq]
      intro vs13 U13 hN13 vs14 U14 hN14
      refine wpD_lp (fun (_, _, _, j) => 4 - j)
        (fun (a4, _, t, j) => a3 ≤ a4 ∧ a4 ≤ a3 + 2 * (j : Nat) ∧ j ≤ 4 ∧ 0 ≤ t ∧ t < n)
        (fun ((a, s, t, j) : Int × Int × Int × Nat) => ⟨L .any [(0, .ptr 5000 0 0), (2, .ptr 2 (vs0 0 0) 0), (4, .ptr 4 (vs1 2 0) 0), (5, iv n), (6, .own 23 v6), (8, .ptr 8 (vs6 2 0) 0), (9, iv ps.length), (10, .own 53 v10), (11, iv row.length), (12, iv want), (13, iv t), (14, iv j)],
          L .gone [(2, .box (vs0 0 0) [iv 0, .val (.slice none 0 0)]), (4, .box (vs1 2 0) [iv q, .own 17 (f vq)]), (8, .box (vs6 2 0) [iv n, .own 93 v93]), (17, .row (f vq) 1 true (rwp ps0)), (23, .row v6 1 true (ints xs)), (36, .gone), (43, .gone), (53, .row v10 1 true (ints row)), (88, .gone), (93, .row v93 1 nn (rwp ps)), (5000, .box 0 (srcC code a s))]⟩)
        (a3, s3, want, 0) ⟨Int.le_refl _, by simp, by simp, hw.1, by omega⟩ (by simp only [Bz2r, go_sem, yz0, Int.reduceLT, reduceLE, reduceToNat, reduceNeg, Nat.reduceLT, reduceLeDiff, reduceMul, reduceSub, reduceIte, reduceEqDiff, reduceAdd, reduceCtorEq]; try rfl) ?_
      rintro ⟨a4, s4, t, j⟩ ⟨m1, m2, m3, m4, m5⟩
      have m1 : a3 ≤ a4 := m1
      have m2 : a4 ≤ a3 + 2 * (j : Nat) := m2
      have m3 : j ≤ 4 := m3
      by_cases hj : (j : Int) < 4
      · have w1 : IntKind.i64.wrap ((j : Int) + 1) = ((j + 1 : Nat) : Int) := by rw [w64 (by omega)]; simp
        simp only [Bz2r, Bz66, Bzel, decide_eq_true hj, yzu, yze, go_sem, yz0, Int.reduceLT, reduceLE, reduceToNat, reduceNeg, Nat.reduceLT, reduceLeDiff, reduceMul, reduceSub, reduceIte, reduceEqDiff, reduceAdd, reduceCtorEq]
        intro vs15 U15 hN15 vs16 U16 hN16
        refine call_funB (k_pick code a4 s4 n hb (by omega)) rfl qCS qCS ?_
        rintro cs' x ⟨a5, s5, b5, rfl, e1, e2, rfl, e3, e4⟩
        have hb5 : b5.toNat < xs.length := by omega
        simp only [Bzej, yz1d hb5, yzu, yze, go_sem, yz0, Int.reduceLT, reduceLE, reduceToNat, reduceNeg, Nat.reduceLT, reduceLeDiff, reduceMul, reduceSub, reduceIte, reduceEqDiff, reduceAdd, reduceCtorEq]
        intro vs17 U17 hN17
        refine ⟨⟨e3, hb5⟩, hb5, ?_⟩
        simp only [Bzei, Bzek, w1, yzu, yze, go_sem, yz0, Int.reduceLT, reduceLE, reduceToNat, reduceNeg, Nat.reduceLT, reduceLeDiff, reduceMul, reduceSub, reduceIte, reduceEqDiff, reduceAdd, reduceCtorEq]
        refine ⟨fun _ vs18 U18 hN18 vs19 U19 hN19 => ⟨(a5, s5, b5, j + 1), by dsimp only; omega, ⟨by dsimp only; omega, by dsimp only; omega, by dsimp only; omega, e3, by dsimp only; omega⟩, rfl⟩,
          fun _ vs18 U18 hN18 => ⟨(a5, s5, t, j + 1), by dsimp only; omega, ⟨by dsimp only; omega, by dsimp only; omega, by dsimp only; omega, m4, m5⟩, rfl⟩⟩
      · have w1 : IntKind.i64.wrap ((row.length : Int) + 1) = ((row.length + 1 : Nat) : Int) := by rw [w64 (by omega)]; simp
        simp only [Bz2r, Bz66, Bzen, decide_eq_false hj, yzu, yze, go_sem, yz0, Int.reduceLT, reduceLE, reduceToNat, reduceNeg, Nat.reduceLT, reduceLeDiff, reduceMul, reduceSub, reduceIte, reduceEqDiff, reduceAdd, reduceCtorEq]
        intro vs15 U15 hN15 vs16 U16 hN16
        refine ⟨⟨_, rfl, rfl⟩, by omega, ?_⟩
        simp only [Bzeq, w1, yzu, yze, go_sem, yz0, Int.reduceLT, reduceLE, reduceToNat, reduceNeg, Nat.reduceLT, reduceLeDiff, reduceMul, reduceSub, reduceIte, reduceEqDiff, reduceAdd, reduceCtorEq]
        intro vs17 U17 hN17
        refine ⟨(vs16 3 0, a4, s4, row ++ [t]), by dsimp only; rw [List.length_append, List.length_singleton]; omega, ⟨by dsimp only; omega, by dsimp only; rw [List.length_append, List.length_singleton]; omega, by dsimp only; rw [List.length_append, List.length_singleton]; omega, fun x hx => ?_⟩, ?_⟩
        · rcases List.mem_append.1 hx with h | h
          · exact k4 x h
          · rw [List.mem_singleton.1 h]; exact ⟨m4, m5⟩
        · simp only [List.length_append, List.length_singleton]
    · have hrl : (row.length : Int) = n := by omega
      have w1 : IntKind.i64.wrap ((ps.length : Int) + 1) = ((ps.length + 1 : Nat) : Int) := by rw [w64 (by omega)]; simp
      simp only [Bz2s, Bz65, Bzet, decide_eq_false hlr, yzu, yze, wpD_gh, go_sem, yz0, Int.reduceLT, reduceLE, reduceToNat, reduceNeg, Nat.reduceLT, reduceLeDiff, reduceMul, reduceSub, reduceIte, reduceEqDiff, reduceAdd, reduceCtorEq]
      intro vs11 U11 hN11 hD
      refine ⟨[], ?_⟩
      have hf : ∀ p ∈ ps, p.2 = [] ∨ p.1 ≠ v10 := fun p hp => by
        by_cases e : p.2 = []
        · exact .inl e
        · exact .inr (hD 93 v93 1 nn (rwp ps) 53 v10 rfl rfl p.1 1 (ints p.2) (List.mem_map.2 ⟨p, hp, rfl⟩) (by simpa using e))
      simp only [gwp_nil, yzu, yze, go_sem, yz0, Int.reduceLT, reduceLE, reduceToNat, reduceNeg, Nat.reduceLT, reduceLeDiff, reduceMul, reduceSub, reduceIte, reduceEqDiff, reduceAdd, reduceCtorEq]
      intro vs12 U12 hN12
      rw [rwp_len]
      refine ⟨by omega, ?_⟩
      simp only [Bzev, w1, rwp_snoc, yzu, yze, go_sem, yz0, Int.reduceLT, reduceLE, reduceToNat, reduceNeg, Nat.reduceLT, reduceLeDiff, reduceMul, reduceSub, reduceIte, reduceEqDiff, reduceAdd, reduceCtorEq]
      intro vs13 U13 hN13
      refine ⟨(vs12 4 0, true, a3, s3, ps ++ [(v10, row)]), by dsimp only; rw [List.length_append, List.length_singleton]; omega,
        ⟨by dsimp only; omega, by dsimp only; rw [List.length_append, List.length_singleton]; omega, by dsimp only; rw [List.length_append, List.length_singleton]; omega, by simp, fun p hp => ?_, j6.snoc hf⟩, ?_⟩
      · rcases List.mem_append.1 hp with h | h
        · exact j5 p h
        · rw [List.mem_singleton.1 h]; exact ⟨hrl, k4⟩
      · simp only [List.length_append, List.length_singleton]
  · have hlen : ps.length = ps0.length := by omega
    obtain rfl := j4 (fun e => by rw [e] at hlen; simp at hlen; omega)
    simp only [Bz2t, Bz64, Bzey, rwp_len, decide_eq_false hlp, yzu, yze, go_sem, yz0, Int.reduceLT, reduceLE, reduceToNat, reduceNeg, Nat.reduceLT, reduceLeDiff, reduceMul, reduceSub, reduceIte, reduceEqDiff, reduceAdd, reduceCtorEq]
    intro vs8 U8 hN8 hM8 vs9 U9 hN9
    refine call_rowI (k_l01Tidied xs (by omega)) qCS qGN ⟨[], trivial⟩ ?_
    rintro ys vy -
    simp only [Az67, ← hQ, yzu, yze, go_sem, yz0, Int.reduceLT, reduceLE, reduceToNat, reduceNeg, Nat.reduceLT, reduceLeDiff, reduceMul, reduceSub, reduceIte, reduceEqDiff, reduceAdd, reduceCtorEq]
    refine ⟨[93, 97], by simp, by simp, by simp, ?_⟩
    simp only [range1, List.length_singleton, renL_rwp, Nat.not_lt_zero, range1, yzv, yzy, yz19, yz1b, yzz, yz1a, yz1c, yz17, yzx, yzp, yzf, yz3, yzs, yzq, yzn, yzm, yzt, yz7, yzd, yzb, yzc, yzi, yzh, yz2, yz6, yz8, yza, yzg, yzj, List.range_zero, yz5, yz4, yz9, yzr, yzl, yzo, AVal.fresh, freshL, yz1, yzk, AObj.fresh, id, Option.isSome_some, or_true, true_or, go_sem, yz0, Int.reduceLT, reduceLE, reduceToNat, reduceNeg, Nat.reduceLT, reduceLeDiff, reduceMul, reduceSub, reduceIte, reduceEqDiff, reduceAdd, reduceCtorEq]
    exact ⟨n, ps, v93, vy, ys, a', s', ⟨by omega, by omega, by rw [List.length_map]; omega, by rw [List.length_map]; omega, fun r hr => by obtain ⟨p, hp, rfl⟩ := List.mem_map.1 hr; exact j5 p hp⟩, j6, by omega, by omega, by omega, rfl, by simp, rfl⟩
end Go.Ab
namespace Go.Ab
open Go.Proofs
structure TidP (xs ys : List Int) : Prop where
  ln : ys.length ≤ xs.length
  dv : divS 0 ys = true
  eq : ∀ i j, i < ys.length → j < ys.length → (ys.getD i 0 = ys.getD j 0 ↔ xs.getD i 0 = xs.getD j 0)
theorem TidP.nil {xs : List Int} : TidP xs [] := ⟨by simp, rfl, by simp⟩
theorem getD_snl {ys : List Int} {c : Int} {i : Nat} (h : i < ys.length) : (ys ++ [c]).getD i 0 = ys.getD i 0 := by
  rw [List.getD_eq_getElem?_getD, List.getElem?_append_left h, ← List.getD_eq_getElem?_getD]
theorem getD_snr {ys : List Int} {c : Int} : (ys ++ [c]).getD ys.length 0 = c := by
  rw [List.getD_eq_getElem?_getD, List.getElem?_append_right (Nat.le_refl _)]; simp
theorem TidP.add {xs ys : List Int} {c : Int} (T : TidP xs ys) (hlt : ys.length < xs.length) (hd : 0 ≤ c ∧ c ≤ usedS 0 ys) (he : ∀ i < ys.length, (ys.getD i 0 = c ↔ xs.getD i 0 = xs.getD ys.length 0)) : TidP xs (ys ++ [c]) := by
  refine ⟨by simp; omega, by rw [divS_snoc, T.dv]; simp [hd], fun i j hi hj => ?_⟩
  rw [List.length_append, List.length_singleton] at hi hj
  by_cases h1 : i < ys.length
  · by_cases h2 : j < ys.length
    · rw [getD_snl h1, getD_snl h2]; exact T.eq i j h1 h2
    · obtain rfl : j = ys.length := by omega
      rw [getD_snl h1, getD_snr]; exact he i h1
  · obtain rfl : i = ys.length := by omega
    by_cases h2 : j < ys.length
    · rw [getD_snl h2, getD_snr]
      constructor
      · intro h; exact ((he j h2).1 h.symm).symm
      · intro h; exact ((he j h2).2 h.symm).symm
    · obtain rfl : j = ys.length := by omega
      simp
theorem TidP.new {xs ys : List Int} (T : TidP xs ys) (hlt : ys.length < xs.length) (h : ∀ k < ys.length, xs.getD k 0 ≠ xs.getD ys.length 0) : TidP xs (ys ++ [usedS 0 ys]) := by
  refine T.add hlt ⟨used_ge, Int.le_refl _⟩ fun i hi => ⟨fun e => ?_, fun e => absurd e (h i hi)⟩
  have := used_mem (u := 0) (yz16 hi 0)
  omega
theorem TidP.old {xs ys : List Int} (T : TidP xs ys) (hlt : ys.length < xs.length) {k : Nat} (hk : k < ys.length) (h : xs.getD k 0 = xs.getD ys.length 0) : TidP xs (ys ++ [ys.getD k 0]) := by
  have hm := yz16 hk 0
  refine T.add hlt ⟨div_nn T.dv hm, by have := used_mem (u := 0) hm; omega⟩ fun i hi => ?_
  rw [T.eq i k hi hk, h]
end Go.Ab
namespace Go.Ab
def MerP (next : List (List Int)) (s t : Int) : Prop := ∃ w, IsW next.length w ∧ atA next s w = atA next t w
def StabP (next : List (List Int)) (s t : Int) : Prop := ∀ w, IsW next.length w → MerP next (atA next s w) (atA next t w)
theorem isw_nil {m : Nat} : IsW m [] := fun x hx => by simp at hx
theorem isw_app {m : Nat} {u v : List Int} (hu : IsW m u) (hv : IsW m v) : IsW m (u ++ v) := fun x hx => by
  rcases List.mem_append.1 hx with h | h
  · exact hu x h
  · exact hv x h
theorem StabP.refl {next : List (List Int)} {s : Int} : StabP next s s := fun _ _ => ⟨[], isw_nil, rfl⟩
theorem StabP.symm {next : List (List Int)} {s t : Int} (h : StabP next s t) : StabP next t s := fun w hw => by
  obtain ⟨v, h1, h2⟩ := h w hw
  exact ⟨v, h1, h2.symm⟩
theorem StabP.trans {next : List (List Int)} {s t u : Int} (h : StabP next s t) (k : StabP next t u) : StabP next s u := fun w hw => by
  obtain ⟨v, h1, h2⟩ := h w hw
  obtain ⟨x, k1, k2⟩ := k (w ++ v) (isw_app hw h1)
  refine ⟨v ++ x, isw_app h1 k1, ?_⟩
  rw [atA_app, atA_app (s := u)] at k2
  rw [atA_app, h2, k2, atA_app]
theorem StabP.step {next : List (List Int)} {s t : Int} (h : StabP next s t) {w : List Int} (hw : IsW next.length w) : StabP next (atA next s w) (atA next t w) := fun v hv => by
  have h1 := h (w ++ v) (isw_app hw hv)
  rw [atA_app, atA_app] at h1
  exact h1
theorem MerP.back {next : List (List Int)} {s t : Int} {w : List Int} (hw : IsW next.length w) (h : MerP next (atA next s w) (atA next t w)) : MerP next s t := by
  obtain ⟨v, h1, h2⟩ := h
  exact ⟨w ++ v, isw_app hw h1, by rw [atA_app, atA_app]; exact h2⟩
structure StD (n : Int) (next : List (List Int)) (us : List Int) : Prop where
  ln : (us.length : Int) = n
  eq : ∀ i j : Nat, (i : Int) < n → (j : Int) < n → (us.getD i 0 = us.getD j 0 ↔ StabP next i j)
structure StI (n : Int) (next : List (List Int)) (pre : List (List Int)) (us : List Int) : Prop where
  ln : (us.length : Int) = n
  rg : ∀ t : Nat, (t : Int) < n → 0 ≤ us.getD t 0 ∧ us.getD t 0 ≤ t
  st : ∀ t : Nat, (t : Int) < n → StabP next (us.getD t 0) t
  dn : ∀ a b : Nat, [(a : Int), (b : Int)] ∈ pre → us.getD b 0 ≤ a
theorem setAt_getD {us : List Int} {b i : Nat} {x : Int} (hb : b < us.length) : (us.set b x).getD i 0 = if i = b then x else us.getD i 0 := by
  rw [List.getD_eq_getElem?_getD, List.getElem?_set]
  by_cases h : b = i
  · rw [if_pos h, if_pos h.symm, if_pos (by omega)]; rfl
  · rw [if_neg h, if_neg (fun e => h e.symm), ← List.getD_eq_getElem?_getD]
theorem StI.step {n : Int} {next pre : List (List Int)} {us : List Int} (I : StI n next pre us) {a b : Nat} (hab : a < b) (hb : (b : Int) < n) (h : StabP next a b) :
    StI n next (pre ++ [[(a : Int), (b : Int)]]) (us.set b (min (us.getD b 0) (us.getD a 0))) := by
  have hln := I.ln
  have hbl : b < us.length := by omega
  have ra := I.rg a (by omega)
  have rb := I.rg b hb
  refine ⟨by rw [List.length_set]; exact hln, fun t ht => ?_, fun t ht => ?_, fun x y hxy => ?_⟩
  · rw [setAt_getD hbl]
    split
    · rename_i e; subst e; omega
    · exact I.rg t ht
  · rw [setAt_getD hbl]
    split
    · rename_i e; subst e
      by_cases hm : us.getD t 0 ≤ us.getD a 0
      · rw [Int.min_eq_left hm]; exact I.st t ht
      · rw [Int.min_eq_right (by omega)]; exact (I.st a (by omega)).trans h
    · exact I.st t ht
  · rw [setAt_getD hbl]
    rcases List.mem_append.1 hxy with hxy | hxy
    · have := I.dn x y hxy
      split
      · rename_i e; subst e; omega
      · exact this
    · rw [List.mem_singleton, List.cons.injEq, List.cons.injEq] at hxy
      have e1 : x = a := by omega
      have e2 : y = b := by omega
      subst e1; subst e2
      rw [if_pos rfl]; omega
theorem StI.done {n : Int} {next pre : List (List Int)} {us : List Int} (I : StI n next pre us) (hp : ∀ a b : Nat, a < b → (b : Int) < n → StabP next a b → [(a : Int), (b : Int)] ∈ pre) : StD n next us := by
  have le : ∀ i j : Nat, (i : Int) < n → (j : Int) < n → StabP next i j → us.getD j 0 ≤ us.getD i 0 := fun i j hi hj h => by
    have ri := I.rg i hi
    have rj := I.rg j hj
    have si := I.st i hi
    have e : (((us.getD i 0).toNat : Nat) : Int) = us.getD i 0 := by omega
    have h1 : StabP next (us.getD i 0) j := si.trans h
    rw [← e] at h1
    by_cases c1 : (us.getD i 0).toNat < j
    · have := I.dn _ _ (hp _ _ c1 hj h1); omega
    · omega
  refine ⟨I.ln, fun i j hi hj => ⟨fun e => ?_, fun h => ?_⟩⟩
  · have h1 := I.st i hi
    rw [e] at h1
    exact h1.symm.trans (I.st j hj)
  · have := le i j hi hj h
    have := le j i hj hi h.symm
    omega
structure StJ (n : Int) (next : List (List Int)) (pre : List (List Int)) (us : List Int) : Prop where
  ln : (us.length : Int) = n
  rg : ∀ x ∈ us, 0 ≤ x ∧ x < n
  st : ∀ i j : Nat, (i : Int) < n → (j : Int) < n → us.getD i 0 = us.getD j 0 → StabP next i j
  dn : ∀ a b : Nat, (a : Int) < n → (b : Int) < n → [(a : Int), (b : Int)] ∈ pre → us.getD b 0 = us.getD a 0
theorem StJ.step {n : Int} {next pre : List (List Int)} {us : List Int} (I : StJ n next pre us) {a b : Nat} (ha : (a : Int) < n) (hb : (b : Int) < n) (h : StabP next a b) :
    StJ n next (pre ++ [[(a : Int), (b : Int)]]) (repI (us.getD b 0) (us.getD a 0) us) := by
  have hln := I.ln
  refine ⟨by rw [repI_len]; exact hln, fun x hx => ?_, fun i j hi hj e => ?_, fun x y hx hy hxy => ?_⟩
  · simp only [repI, List.mem_map] at hx
    obtain ⟨c, hc, rfl⟩ := hx
    split
    · exact I.rg _ (yz16 (by omega) 0)
    · exact I.rg c hc
  · rw [repI_getD (by omega), repI_getD (by omega)] at e
    split at e
    · rename_i h1
      have s1 := I.st i b hi hb h1
      split at e
      · rename_i h2
        exact s1.trans (I.st j b hj hb h2).symm
      · exact (s1.trans h.symm).trans (I.st a j ha hj e)
    · split at e
      · rename_i h2
        exact ((I.st i a hi ha e).trans h).trans (I.st j b hj hb h2).symm
      · exact I.st i j hi hj e
  · rw [repI_getD (by omega), repI_getD (by omega)]
    rcases List.mem_append.1 hxy with hxy | hxy
    · rw [I.dn x y hx hy hxy]
    · rw [List.mem_singleton, List.cons.injEq, List.cons.injEq] at hxy
      have e1 : x = a := by omega
      have e2 : y = b := by omega
      subst e1; subst e2
      rw [if_pos rfl]
      split <;> rfl
theorem StJ.done {n : Int} {next pre : List (List Int)} {us : List Int} (I : StJ n next pre us) (hp : ∀ a b : Nat, a < b → (b : Int) < n → StabP next a b → [(a : Int), (b : Int)] ∈ pre) : StD n next us := by
  refine ⟨I.ln, fun i j hi hj => ⟨I.st i j hi hj, fun h => ?_⟩⟩
  by_cases h1 : i < j
  · exact (I.dn i j hi hj (hp i j h1 hj h)).symm
  · by_cases h2 : j < i
    · exact I.dn j i hj hi (hp j i h2 hi h.symm)
    · rw [show i = j by omega]
end Go.Ab
namespace Go.Ab
abbrev lenT (L : TS) (j : Nat) : Nat := (L.getD j (0, [])).2.length
theorem visT_tail {next : List (List Int)} {f : Nat} {w : List Int} : ∀ (x : Nat) (L : TS), ∃ t, visT next f w x L = L ++ t ∧ ∀ p ∈ t, p.2.length = w.length + 1
  | 0, L => ⟨[], by simp [visT]⟩
  | x + 1, L => by
    obtain ⟨t, h, h2⟩ := visT_tail (next := next) (f := f) (w := w) x L
    rw [visT_succ]
    split
    · exact ⟨t, h, h2⟩
    · refine ⟨t ++ [(stepN (next.getD x []) f, w ++ [(x : Int)])], by rw [← List.append_assoc, ← h], fun p hp => ?_⟩
      rcases List.mem_append.1 hp with hp | hp
      · exact h2 p hp
      · rw [List.mem_singleton.1 hp]; simp
structure MoT (next : List (List Int)) (L : TS) (i : Nat) : Prop where
  mo : ∀ j k, j ≤ k → k < L.length → lenT L j ≤ lenT L k
  cap : i < L.length → ∀ j < L.length, lenT L j ≤ lenT L i + 1
  ix : ∀ j < L.length, lenT L j ≤ j
  clo : ∀ j < i, ∀ x < next.length, ∃ k < L.length, (L.getD k (0, [])).1 = stepN (next.getD x []) (L.getD j (0, [])).1 ∧ lenT L k ≤ lenT L j + 1
theorem MoT.zero {next : List (List Int)} {f : Nat} : MoT next [(f, [])] 0 := by
  refine ⟨fun j k h hk => ?_, fun _ j hj => ?_, fun j hj => ?_, fun j hj => by omega⟩
  · have : k = 0 := by simpa using hk
    subst this
    obtain rfl : j = 0 := by omega
    exact Nat.le_refl _
  · have : j = 0 := by simpa using hj
    subst this; simp [lenT]
  · have : j = 0 := by simpa using hj
    subst this; simp [lenT]
theorem MoT.step {next : List (List Int)} {L : TS} {i : Nat} (M : MoT next L i) (hi : i < L.length) : MoT next (visT next (L.getD i (0, [])).1 (L.getD i (0, [])).2 next.length L) (i + 1) := by
  obtain ⟨t, ht, hl⟩ := visT_tail (next := next) (f := (L.getD i (0, [])).1) (w := (L.getD i (0, [])).2) next.length L
  have hhas := visT_has (next := next) (f := (L.getD i (0, [])).1) (w := (L.getD i (0, [])).2) next.length L
  rw [ht] at hhas ⊢
  have hold : ∀ j < L.length, (L ++ t).getD j (0, []) = L.getD j (0, []) := fun j hj => getD_app hj _
  have hnew : ∀ j, L.length ≤ j → j < (L ++ t).length → lenT (L ++ t) j = lenT L i + 1 := fun j h1 h2 => by
    have h3 : (L ++ t).getD j (0, []) ∈ t := by
      rw [List.getD_eq_getElem?_getD, List.getElem?_append_right h1]
      rw [List.length_append] at h2
      rw [List.getElem?_eq_getElem (by omega)]
      exact List.getElem_mem _
    exact hl _ h3
  have hcap : ∀ j < (L ++ t).length, lenT (L ++ t) j ≤ lenT L i + 1 := fun j hj => by
    by_cases h : j < L.length
    · show ((L ++ t).getD j (0, [])).2.length ≤ _
      rw [hold j h]; exact M.cap hi j h
    · exact Nat.le_of_eq (hnew j (by omega) hj)
  have hoi : lenT (L ++ t) i = lenT L i := by show ((L ++ t).getD i (0, [])).2.length = _; rw [hold i hi]
  have hmo : ∀ j k, j ≤ k → k < (L ++ t).length → lenT (L ++ t) j ≤ lenT (L ++ t) k := fun j k hjk hk => by
    by_cases h : k < L.length
    · show ((L ++ t).getD j (0, [])).2.length ≤ ((L ++ t).getD k (0, [])).2.length
      rw [hold j (by omega), hold k h]; exact M.mo j k hjk h
    · rw [hnew k (by omega) hk]; exact hcap j (by omega)
  refine ⟨hmo, fun h j hj => ?_, fun j hj => ?_, fun j hj x hx => ?_⟩
  · have h1 := hcap j hj
    have h2 := hmo i (i + 1) (by omega) h
    omega
  · by_cases h : j < L.length
    · show ((L ++ t).getD j (0, [])).2.length ≤ _
      rw [hold j h]; exact M.ix j h
    · rw [hnew j (by omega) hj]
      have := M.ix i hi
      omega
  · by_cases e : j < i
    · obtain ⟨k, hk, h1, h2⟩ := M.clo j e x hx
      refine ⟨k, by rw [List.length_append]; omega, ?_, ?_⟩
      · rw [hold k hk, hold j (by omega)]; exact h1
      · show ((L ++ t).getD k (0, [])).2.length ≤ ((L ++ t).getD j (0, [])).2.length + 1
        rw [hold k hk, hold j (by omega)]; exact h2
    · obtain rfl : j = i := by omega
      obtain ⟨p, hp, he⟩ := List.mem_map.1 (hasT_iff.1 (hhas x hx))
      obtain ⟨k, hk, hg⟩ := List.getElem_of_mem hp
      have hkd : (L ++ t).getD k (0, []) = p := by rw [List.getD_eq_getElem?_getD, List.getElem?_eq_getElem hk]; exact hg
      refine ⟨k, hk, ?_, ?_⟩
      · rw [hkd, hold j hi]; exact he
      · rw [hoi]; exact hcap k hk
theorem run_mo {n : Int} {next : List (List Int)} (A : Aut n next) : ∀ (F i : Nat) (L : TS), TI n.toNat next.length L → i ≤ L.length → 1025 ≤ F + i → MoT next L i → MoT next (runT next F i L) (runT next F i L).length
  | 0, i, L, h, hi, hF, hc => by
    have h1 := h.len
    have : 2 ^ n.toNat ≤ 1024 := Nat.pow_le_pow_right (n := 2) (by omega) (show n.toNat ≤ 10 by have := A.n2; omega)
    omega
  | F + 1, i, L, h, hi, hF, hc => by
    simp only [runT]
    split
    · rename_i hi1
      have h1 := (visT_ok A h hi1 next.length (Nat.le_refl _)).1
      obtain ⟨t, ht⟩ := visT_pre (next := next) (f := (L.getD i (0, [])).1) (w := (L.getD i (0, [])).2) next.length L
      exact run_mo A F (i + 1) _ h1 (by rw [ht, List.length_append]; omega) (by omega) (hc.step hi1)
    · have : i = L.length := by omega
      rw [← this]; exact hc
theorem tour_mo {n : Int} {next : List (List Int)} (A : Aut n next) {f : Nat} (hf : f < 2 ^ n.toNat) : MoT next (tourT next f) (tourT next f).length :=
  run_mo A 1100 0 _ (TI0 (m := next.length) hf) (by omega) (by omega) MoT.zero
theorem tour_le {n : Int} {next : List (List Int)} (A : Aut n next) {f : Nat} (hf : f < 2 ^ n.toNat) : ∀ (k : Nat) (w : List Int), w.length = k → (∀ x ∈ w, 0 ≤ x ∧ x < next.length) →
    ∃ j < (tourT next f).length, ((tourT next f).getD j (0, [])).1 = imN next f w ∧ lenT (tourT next f) j ≤ k
  | 0, w, hk, _ => by
    obtain rfl : w = [] := List.eq_nil_of_length_eq_zero hk
    obtain ⟨t, ht⟩ := runT_pre (next := next) 1100 0 [(f, [])]
    refine ⟨0, ?_, ?_, ?_⟩
    · unfold tourT; rw [ht]; simp
    · unfold tourT; rw [ht]; rfl
    · unfold tourT lenT; rw [ht]; exact Nat.le_refl _
  | k + 1, w, hk, hw => by
    have hne : w ≠ [] := fun e => by rw [e] at hk; simp at hk
    have e := List.dropLast_concat_getLast hne
    have hl := hw _ (List.getLast_mem hne)
    obtain ⟨j, hj, h1, h2⟩ := tour_le A hf k w.dropLast (by rw [List.length_dropLast]; omega) (fun x hx => hw x (List.dropLast_subset w hx))
    obtain ⟨m, hm, g1, g2⟩ := (tour_mo A hf).clo j hj (w.getLast hne).toNat (by omega)
    refine ⟨m, hm, ?_, by omega⟩
    rw [g1, h1, ← imN_snoc, e]
end Go.Ab
namespace Go.Ab
open Go Go.Proofs
theorem findT_idx {p : Nat → Bool} : ∀ {T : TS} (k : Nat), (T.find? (fun q => p q.1) = none ∧ fidx p (T.map (·.1)) k = -1) ∨ ∃ i, fidx p (T.map (·.1)) k = ((k + i : Nat) : Int) ∧ i < T.length ∧ T.find? (fun q => p q.1) = some (T.getD i (0, []))
  | [], k => .inl ⟨rfl, rfl⟩
  | q :: T, k => by
    cases hs : p q.1 with
    | true => exact .inr ⟨0, by simp only [List.map_cons, fidx, hs, if_true, Nat.add_zero], by simp, by simp [List.find?_cons, hs]⟩
    | false =>
      rcases findT_idx (p := p) (T := T) (k + 1) with ⟨h1, h2⟩ | ⟨i, h1, h2, h3⟩
      · exact .inl ⟨by simp [List.find?_cons, hs, h1], by simp only [List.map_cons, fidx, hs, Bool.false_eq_true, if_false, h2]⟩
      · refine .inr ⟨i + 1, ?_, by simp; omega, by simpa [List.find?_cons, hs] using h3⟩
        simp only [List.map_cons, fidx, hs, Bool.false_eq_true, if_false, h1]
        congr 1; omega
def findR (F : Option (Nat × List Int)) : AVal := match F with
  | some (_, w) => .tup [.ro none 1 (ints w), iv 0]
  | none => .tup [.val (.slice none 0 0), iv 6]
theorem k_firstG (N m : Nat) (T : TS) (hI : TI N m T) (hN : 2 ^ N ≤ 1024) (g : FuncId) (cs : List AVal) (p : Nat → Bool) (hc : Caps [.rp cs 0]) (hcd : dnL cs = cs) (hcr : ∀ f s, renL f s cs = cs) (hcc : ∀ hp m len, CoeL hp m len cs cs) (h : ∀ q ∈ T, Fun Try.prog g [fv q.1, .rp cs 0] (bv (p q.1))) :
    Con Try.prog nze [.row 0 1 true (intsK .u64 (setsI T)), .map 1 (keysF T) (rwn (T.map (·.2))), .box 2 cs] [.st [.own 5000 0, .mp 5001 1], .clo g [.ptr 5002 2 0]] true
      fun outs rows res => outs = [.row 0 1 true (intsK .u64 (setsI T)), .map 1 (keysF T) (rwn (T.map (·.2))), .box 2 cs] ∧ rows = [] ∧ res = findR (T.find? fun q => p q.1) := by
  refine con_sh mixed cz4r rfl (by simp) ?_
  have hIF : Fun Try.prog nzr [.ro none 1 (intsK .u64 (setsI T)), .clo g [.rp cs 0]] (iv (fidx p (T.map (·.1)) 0)) := by
    have hx := k_IndexFuncF (T.map (·.1)) g [.rp cs 0] p hc (fun x hx => by
      obtain ⟨q, hq, rfl⟩ := List.mem_map.1 hx
      exact h q hq)
    rw [List.map_map] at hx
    exact hx
  generalize hQ : finQ _ = Q
  simp only [Azj, Bz2b, go_sem, yz0, Int.reduceLT, reduceLE, reduceToNat, reduceNeg, Nat.reduceLT, reduceLeDiff, reduceMul, reduceSub, reduceIte, reduceEqDiff, reduceAdd, reduceCtorEq]
  intro vs vs2
  refine yz10 hIF ?_ trivial ?_
  · rw [yzw, yzw, yz18, coe_clo, yzw, yz18]
    refine ⟨by simp only [rowIs, boxIs, coe_argN, yz1f, coe_ro_o, yz18, yzw, coe_any, coe_val, coe_ro, yz12, yz15, coe_st, yz13, coe_rp, yz14, coe_clo, coe_own0, yz1g, yz11, coeL_rws, coeL_rwn, L_hit, L_miss, L_nil, reduceEqDiff, ne_eq, reduceCtorEq, not_false_eq_true, true_and, and_true, and_self, exists_eq_left, exists_eq_right, List.mem_cons, List.not_mem_nil, or_false, AObj.row.injEq, AObj.box.injEq, exists_eq_left', exists_and_left, exists_eq, Nat.zero_lt_one, Nat.lt_add_one, List.map_cons, List.map_nil, AObj.ver, Nat.reduceLT, not_true_eq_false], ⟨?_, trivial⟩, trivial⟩
    simp only [hcd, Coe]
    exact .inr ⟨trivial, 5002, 2, cs, rfl, by simp, by simp only [go_sem, yz0, Int.reduceLT, reduceLE, reduceToNat, reduceNeg, Nat.reduceLT, reduceLeDiff, reduceMul, reduceSub, reduceIte, reduceEqDiff, reduceAdd, reduceCtorEq], hcc _ _ _⟩
  rcases findT_idx (p := p) (T := T) 0 with ⟨h1, h2⟩ | ⟨i, h1, h2, h3⟩
  · have e : decide ((-1 : Int) < 0) = true := by decide
    simp only [h2, Bzv, Bzu, e, go_sem, yz0, Int.reduceLT, reduceLE, reduceToNat, reduceNeg, Nat.reduceLT, reduceLeDiff, reduceMul, reduceSub, reduceIte, reduceEqDiff, reduceAdd, reduceCtorEq]
    rw [← hQ]
    simp only [Azj, h1, findR, hcd, hcr, Nat.not_lt_zero, range1, yzv, yzy, yz19, yz1b, yzz, yz1a, yz1c, yz17, yzx, yzp, yzf, yz3, yzs, yzq, yzn, yzm, yzt, yz7, yzd, yzb, yzc, yzi, yzh, yz2, yz6, yz8, yza, yzg, yzj, List.range_zero, yz5, yz4, yz9, yzr, yzl, yzo, AVal.fresh, freshL, yz1, yzk, AObj.fresh, id, Option.isSome_some, or_true, true_or, go_sem, yz0, Int.reduceLT, reduceLE, reduceToNat, reduceNeg, Nat.reduceLT, reduceLeDiff, reduceMul, reduceSub, reduceIte, reduceEqDiff, reduceAdd, reduceCtorEq]
    exact ⟨[], by simp, by simp, by simp, by simp⟩
  · rw [Nat.zero_add] at h1
    have hls : i < (setsI T).length := by simpa using h2
    have hsg := setsI_getD h2
    have hk := fkF_at i 0 hI.nd h2
    rw [Nat.zero_add] at hk
    have hwl : i < (T.map (·.2)).length := by simpa using h2
    have hwg := words_getD h2
    have hi0 : ¬ (i : Int) < 0 := by omega
    simp only [h1, Bzv, Bzu, Bz4q, decide_eq_false hi0, yz1d hls, hsg, hk, rwn_getD hwl, hwg, go_sem, yz0, Int.reduceLT, reduceLE, reduceToNat, reduceNeg, Nat.reduceLT, reduceLeDiff, reduceMul, reduceSub, reduceIte, reduceEqDiff, reduceAdd, reduceCtorEq]
    refine ⟨⟨by omega, h2⟩, h2, ?_⟩
    rw [← hQ]
    simp only [Azj, h3, findR, hcd, hcr, Nat.not_lt_zero, range1, yzv, yzy, yz19, yz1b, yzz, yz1a, yz1c, yz17, yzx, yzp, yzf, yz3, yzs, yzq, yzn, yzm, yzt, yz7, yzd, yzb, yzc, yzi, yzh, yz2, yz6, yz8, yza, yzg, yzj, List.range_zero, yz5, yz4, yz9, yzr, yzl, yzo, AVal.fresh, freshL, yz1, yzk, AObj.fresh, id, Option.isSome_some, or_true, true_or, go_sem, yz0, Int.reduceLT, reduceLE, reduceToNat, reduceNeg, Nat.reduceLT, reduceLeDiff, reduceMul, reduceSub, reduceIte, reduceEqDiff, reduceAdd, reduceCtorEq]
    exact ⟨[], by simp, by simp, by simp, by simp⟩
theorem callHp_m3 {hp : Nat → AObj} {r0 r1 r2 d : Nat} {s : Nat → Nat} {o0 o1 o2 : AObj} (hn : [r0, r1, r2].Nodup) :
    callHp hp [r0, r1, r2] d s [o0, o1, o2] [] = upd (upd (upd hp r0 (o0.ren (rid [r0, r1, r2] d 0) (sv hp [r0, r1, r2] s))) r1 (o1.ren (rid [r0, r1, r2] d 0) (sv hp [r0, r1, r2] s))) r2 (o2.ren (rid [r0, r1, r2] d 0) (sv hp [r0, r1, r2] s)) := by
  have hn' := hn
  simp only [List.nodup_cons, List.mem_cons, List.not_mem_nil, or_false, not_or, not_false_eq_true, List.nodup_nil, and_true] at hn'
  obtain ⟨⟨a1, a2⟩, b1⟩ := hn'
  funext n
  by_cases h2 : n = r2
  · have h1 : rid [r0, r1, r2] d ([] : List AObj).length 5002 = some n := by rw [h2]; exact rid_m (j := 2) (by omega) rfl
    rw [callHp_at hn (by simp) h1]
    simp [upd, h2, outHp]
  · by_cases h1' : n = r1
    · have h1 : rid [r0, r1, r2] d ([] : List AObj).length 5001 = some n := by rw [h1']; exact rid_m (j := 1) (by omega) rfl
      rw [callHp_at hn (by simp) h1]
      simp [upd, h1', outHp, b1]
    · by_cases h0 : n = r0
      · have h1 : rid [r0, r1, r2] d ([] : List AObj).length 5000 = some n := by rw [h0]; exact rid_m (j := 0) (by omega) rfl
        rw [callHp_at hn (by simp) h1]
        simp [upd, h0, outHp, a1, a2]
      · rw [callHp_not]
        · simp [upd, h0, h1', h2]
        · rintro ⟨x, hx⟩
          rcases rid_cases hx with ⟨j, rfl, _, h4⟩ | ⟨i, rfl, h4, _⟩
          · match j, h4 with
            | 0, h4 => simp at h4; exact h0 h4.symm
            | 1, h4 => simp at h4; exact h1' h4.symm
            | 2, h4 => simp at h4; exact h2 h4.symm
            | j + 3, h4 => simp at h4
          · simp at h4
theorem call_rm3 {P : Program} {σ : St} {g gt : FuncId} {d : Nat} {s : Nat → Nat} {K : St → Prop} {r q b v u z : Nat} {cs cs' cb : List AVal} {ks : List Value} {vs vs' : List AVal} {R : AVal}
    (h : Con P g [.row 0 1 true cs, .map 1 ks vs, .box 2 cb] [.st [.own 5000 0, .mp 5001 1], .clo gt [.ptr 5002 2 0]] true fun outs rows res => outs = [.row 0 1 true cs, .map 1 ks vs, .box 2 cb] ∧ rows = [] ∧ res = R)
    (hr : σ.hp r = .row v 1 true cs') (hq : σ.hp q = .map u ks vs') (hb : σ.hp b = .box z cb) (hne : [r, q, b].Nodup) (hc : CoeL σ.hp [r, q, b] false cs cs') (hv : CoeL σ.hp [r, q, b] false vs vs') (hcb : CoeL σ.hp [r, q, b] false cb cb)
    (hk : K (St.put ⟨σ.tm, upd (upd (upd σ.hp r ((AObj.row 0 1 true cs).ren (rid [r, q, b] d 0) (sv σ.hp [r, q, b] s))) q ((AObj.map 1 ks vs).ren (rid [r, q, b] d 0) (sv σ.hp [r, q, b] s))) b ((AObj.box 2 cb).ren (rid [r, q, b] d 0) (sv σ.hp [r, q, b] s))⟩ (some d) (R.ren (rid [r, q, b] d 0) (sv σ.hp [r, q, b] s)))) :
    wpCall P false σ g [.st [.own r v, .mp q u], .clo gt [.ptr b z 0]] (some d) s K := by
  refine .inl ⟨[r, q, b], _, _, true, _, h, ⟨by simp, rfl, hne, ?_, ?_⟩, ?_, (fun e => by cases e), ?_⟩
  · intro x hx
    simp only [List.mem_cons, List.not_mem_nil, or_false] at hx
    rcases hx with rfl | rfl | rfl
    · simp [hr]
    · simp [hq]
    · simp [hb]
  · intro j B r' hB hr'
    match j, hB, hr' with
    | 0, hB, hr' =>
      simp at hB hr'; subst hB; subst hr'
      simp only [ObjCoe, hr]
      exact ⟨trivial, v, cs', rfl, hc⟩
    | 1, hB, hr' =>
      simp at hB hr'; subst hB; subst hr'
      simp only [ObjCoe, hq]
      exact ⟨trivial, u, vs', rfl, hv⟩
    | 2, hB, hr' =>
      simp at hB hr'; subst hB; subst hr'
      simp only [ObjCoe, hb]
      exact ⟨trivial, z, cb, rfl, hcb⟩
    | j + 3, hB, hr' => simp at hB
  · rw [yzw, yzw, yz18, coe_st, yzw, yzw, yz18, coe_clo, yzw, yz18]
    simp only [Coe]
    exact ⟨⟨⟨0, r, v, rfl, rfl, rfl, rfl, by rw [hr]; rfl⟩, ⟨1, q, u, rfl, rfl, rfl, rfl, by rw [hq]; rfl⟩, trivial⟩, ⟨⟨2, b, z, rfl, rfl, rfl, rfl, by rw [hb]; rfl⟩, trivial⟩, trivial⟩
  · rintro outs rows res ⟨rfl, rfl, rfl⟩
    refine ⟨rfl, by simp, by simp, ?_⟩
    rw [Option.getD_some, callHp_m3 hne]
    exact hk
end Go.Ab
namespace Go.Ab
open Go Go.Proofs
end Go.Ab
namespace Go.Ab
open Go Go.Proofs
abbrev CS := List (Nat × Nat)
abbrev keysC (L : CS) : List Value := L.map fun p => Value.int .u64 (p.1 : Int)
abbrev numsC (L : CS) : List Int := L.map fun p => (p.2 : Int)
def incr : CS → Nat → Nat → CS
  | [], f, n => [(f, n)]
  | p :: L, f, n => if p.1 = f then (f, p.2 + n) :: L else p :: incr L f n
def wsum (L : CS) (φ : Nat → Nat) : Nat := (L.map fun p => p.2 * φ p.1).sum
theorem wsum_nil {φ : Nat → Nat} : wsum [] φ = 0 := rfl
theorem wsum_cons {p : Nat × Nat} {L : CS} {φ : Nat → Nat} : wsum (p :: L) φ = p.2 * φ p.1 + wsum L φ := by simp [wsum]
theorem wsum_incr {f n : Nat} {φ : Nat → Nat} : ∀ {L : CS}, wsum (incr L f n) φ = wsum L φ + n * φ f
  | [] => by simp [incr, wsum]
  | p :: L => by
    unfold incr
    split
    · rename_i h; subst h
      rw [wsum_cons, wsum_cons]; dsimp only; rw [Nat.add_mul]; omega
    · rw [wsum_cons, wsum_cons, wsum_incr (L := L)]; omega
theorem wsum_erase {φ : Nat → Nat} : ∀ {L : CS} {j : Nat} {p : Nat × Nat}, L[j]? = some p → wsum L φ = p.2 * φ p.1 + wsum (L.eraseIdx j) φ
  | [], _, _, h => by simp at h
  | q :: L, 0, p, h => by
    simp only [List.getElem?_cons_zero, Option.some.injEq] at h
    subst h; rw [wsum_cons]; rfl
  | q :: L, j + 1, p, h => by
    rw [List.getElem?_cons_succ] at h
    rw [List.eraseIdx_cons_succ, wsum_cons, wsum_cons, wsum_erase (φ := φ) h]; omega
theorem wsum_mem {L : CS} {p : Nat × Nat} (h : p ∈ L) : p.2 ≤ wsum L fun _ => 1 := by
  obtain ⟨j, hj⟩ := List.getElem?_of_mem h
  rw [wsum_erase hj]; omega
theorem incr_keys {B f n : Nat} (hf : f < B) : ∀ {L : CS}, (∀ p ∈ L, p.1 < B) → ∀ p ∈ incr L f n, p.1 < B
  | [], _, p, hp => by
    simp only [incr, List.mem_singleton] at hp; subst hp; exact hf
  | q :: L, h, p, hp => by
    unfold incr at hp
    split at hp
    · rcases List.mem_cons.1 hp with rfl | hp
      · exact hf
      · exact h p (by simp [hp])
    · rcases List.mem_cons.1 hp with rfl | hp
      · exact h _ (by simp)
      · exact incr_keys hf (fun x hx => h x (by simp [hx])) p hp
theorem fkC {f n : Nat} : ∀ {L : CS} (i : Nat), (∃ j m, findKeyAt (.int .u64 (f : Int)) (keysC L) i = some (some (i + j)) ∧ L[j]? = some (f, m) ∧ incr L f n = L.set j (f, m + n)) ∨ (findKeyAt (.int .u64 (f : Int)) (keysC L) i = some none ∧ incr L f n = L ++ [(f, n)])
  | [], _ => .inr ⟨rfl, rfl⟩
  | p :: L, i => by
    by_cases h : p.1 = f
    · left
      obtain ⟨g, m⟩ := p
      subst h
      have h1 : ((g : Int) == (g : Int)) = true := beq_self_eq_true _
      exact ⟨0, m, by simp only [List.map_cons, findKeyAt, sameKey, h1, if_true, Nat.add_zero], rfl, by simp [incr]⟩
    · have h1 : ((f : Int) == (p.1 : Int)) = false := beq_false_of_ne fun e => h (by omega)
      rcases fkC (f := f) (n := n) (L := L) (i + 1) with ⟨j, m, h2, h3, h4⟩ | ⟨h2, h3⟩
      · left
        refine ⟨j + 1, m, ?_, h3, ?_⟩
        · simp only [List.map_cons, findKeyAt, sameKey, h1, if_true]
          rw [h2]; congr 2; omega
        · simp only [incr, if_neg h, h4, List.set_cons_succ]
      · right
        refine ⟨?_, ?_⟩
        · simp only [List.map_cons, findKeyAt, sameKey, h1, if_true]; exact h2
        · simp only [incr, if_neg h, h3, List.cons_append]
def lsum (next : List (List Int)) (m : Nat) (φ : Nat → Nat) (f : Nat) : Nat := ((List.range m).map fun x => φ (stepN (next.getD x []) f)).sum
theorem lsum_zero {next : List (List Int)} {φ : Nat → Nat} {f : Nat} : lsum next 0 φ f = 0 := rfl
theorem lsum_succ {next : List (List Int)} {m : Nat} {φ : Nat → Nat} {f : Nat} : lsum next (m + 1) φ f = lsum next m φ f + φ (stepN (next.getD m []) f) := by
  simp [lsum, List.range_succ]
def wnum (next : List (List Int)) : Nat → (Nat → Nat) → Nat → Nat
  | 0, φ, f => φ f
  | k + 1, φ, f => wnum next k (lsum next next.length φ) f
theorem lsum_one {next : List (List Int)} {c m f : Nat} : lsum next m (fun _ => c) f = m * c := by
  induction m with
  | zero => simp [lsum_zero]
  | succ m ih => rw [lsum_succ, ih, Nat.add_mul]; omega
theorem wnum_one {next : List (List Int)} {f : Nat} : ∀ (k c : Nat), wnum next k (fun _ => c) f = next.length ^ k * c
  | 0, c => by simp [wnum]
  | k + 1, c => by
    have : lsum next next.length (fun _ => c) = fun _ => next.length * c := funext fun g => lsum_one
    simp only [wnum, this]
    rw [wnum_one k, Nat.pow_succ, Nat.mul_assoc]
def visC (next : List (List Int)) (g n : Nat) : Nat → CS → CS
  | 0, L => L
  | x + 1, L => incr (visC next g n x L) (stepN (next.getD x []) g) n
theorem visC_sum {next : List (List Int)} {g n : Nat} {L : CS} {φ : Nat → Nat} : ∀ x, wsum (visC next g n x L) φ = wsum L φ + n * lsum next x φ g
  | 0 => by simp [visC, lsum_zero]
  | x + 1 => by
    rw [visC, wsum_incr, visC_sum x, lsum_succ, Nat.mul_add]; omega
theorem visC_keys {n : Int} {next : List (List Int)} (A : Aut n next) {g k : Nat} (hg : g < 2 ^ n.toNat) {L : CS} (h : ∀ p ∈ L, p.1 < 2 ^ n.toNat) : ∀ x, x ≤ next.length → ∀ p ∈ visC next g k x L, p.1 < 2 ^ n.toNat
  | 0, _ => h
  | x + 1, hx => incr_keys (stepN_lt A (by omega) hg) (visC_keys A hg h x (by omega))
structure CW (n : Int) (next : List (List Int)) (f k : Nat) (L : CS) : Prop where
  ks : ∀ p ∈ L, p.1 < 2 ^ n.toNat
  sm : ∀ φ, wsum L φ = wnum next k φ f
theorem CW.tot {n : Int} {next : List (List Int)} {f k : Nat} {L : CS} (A : Aut n next) (h : CW n next f k L) (hk : k ≤ 20) : wsum L (fun _ => 1) ≤ 3486784401 := by
  have l2 := A.l2
  rw [h.sm, wnum_one, Nat.mul_one]
  exact Nat.le_trans (Nat.pow_le_pow_left l2 k) (Nat.pow_le_pow_right (n := 3) (by omega) hk)
theorem getC {L : CS} {j : Nat} {k : Value} {A : AVal} (h1 : (keysC L)[j]? = some k) (h2 : (ints (numsC L))[j]? = some A) : ∃ p, L[j]? = some p ∧ k = .int .u64 (p.1 : Int) ∧ A = iv (p.2 : Int) := by
  rw [List.getElem?_map] at h1
  cases h : L[j]? with
  | none => rw [h] at h1; cases h1
  | some p =>
    rw [h] at h1
    simp only [Option.map_some, Option.some.injEq] at h1
    refine ⟨p, rfl, h1.symm, ?_⟩
    unfold ints numsC at h2
    rw [List.map_map, List.getElem?_map, h] at h2
    simpa using h2.symm
theorem erase_map {α β : Type} {f : α → β} : ∀ {l : List α} {j : Nat}, (l.map f).eraseIdx j = (l.eraseIdx j).map f
  | [], j => by simp
  | a :: l, 0 => rfl
  | a :: l, j + 1 => by simp only [List.map_cons, List.eraseIdx_cons_succ, erase_map (l := l)]
theorem erase_keys {L : CS} {j : Nat} : (keysC L).eraseIdx j = keysC (L.eraseIdx j) := erase_map
theorem erase_nums {L : CS} {j : Nat} : (ints (numsC L)).eraseIdx j = ints (numsC (L.eraseIdx j)) := by unfold ints numsC; rw [erase_map, erase_map]
theorem set_keys {L : CS} {j f m m' : Nat} (h : L[j]? = some (f, m)) : keysC (L.set j (f, m')) = keysC L := by
  unfold keysC
  rw [List.map_set]
  refine List.ext_getElem? fun i => ?_
  rw [List.getElem?_set]
  split
  · rename_i e; subst e
    have : j < L.length := (List.getElem?_eq_some_iff.1 h).1
    rw [if_pos (by simpa using this), List.getElem?_map, h]; rfl
  · rfl
theorem set_nums {L : CS} {j f m : Nat} : ints (numsC (L.set j (f, m))) = (ints (numsC L)).set j (iv (m : Int)) := by unfold ints numsC; rw [List.map_set, List.map_set]
theorem getD_nums {L : CS} {j f m : Nat} (h : L[j]? = some (f, m)) : (ints (numsC L)).getD j .any = iv (m : Int) := by
  unfold ints numsC
  rw [List.getD_eq_getElem?_getD, List.getElem?_map, List.getElem?_map, h]; rfl
theorem wnum_congr {next : List (List Int)} {f : Nat} : ∀ (k : Nat) {φ ψ : Nat → Nat}, (∀ w : List Int, w.length = k → IsW next.length w → φ (imN next f w) = ψ (imN next f w)) → wnum next k φ f = wnum next k ψ f
  | 0, φ, ψ, h => h [] rfl (by intro x hx; simp at hx)
  | k + 1, φ, ψ, h => by
    refine wnum_congr k fun w hl hw => ?_
    unfold lsum
    congr 1
    refine List.map_congr_left fun x hx => ?_
    rw [List.mem_range] at hx
    have := h (w ++ [(x : Int)]) (by simp [hl]) (by
      intro y hy
      rcases List.mem_append.1 hy with hy | hy
      · exact hw y hy
      · rw [List.mem_singleton.1 hy]; omega)
    rw [imN_snoc, Int.toNat_natCast] at this
    exact this
theorem wnum_nil {next : List (List Int)} {f : Nat} {k : Nat} {φ : Nat → Nat} (h : ∀ w : List Int, w.length = k → IsW next.length w → φ (imN next f w) = 0) : wnum next k φ f = 0 := by
  rw [wnum_congr (ψ := fun _ => 0) k h, wnum_one, Nat.mul_zero]
theorem wnum_add {next : List (List Int)} {f : Nat} : ∀ (k : Nat) {φ ψ : Nat → Nat}, wnum next k (fun g => φ g + ψ g) f = wnum next k φ f + wnum next k ψ f
  | 0, φ, ψ => rfl
  | k + 1, φ, ψ => by
    have e : lsum next next.length (fun g => φ g + ψ g) = fun g => lsum next next.length φ g + lsum next next.length ψ g := by
      funext g
      have : ∀ m, lsum next m (fun g => φ g + ψ g) g = lsum next m φ g + lsum next m ψ g := fun m => by
        induction m with
        | zero => rfl
        | succ m ih => rw [lsum_succ, lsum_succ, lsum_succ, ih]; omega
      exact this _
    simp only [wnum, e]
    exact wnum_add k
theorem itT_C1 {cur : Option (Nat × Nat)} {rem : CS} : itT cur.isSome (keysC (cur.toList ++ rem)) = keysC rem := by cases cur <;> rfl
theorem itT_C2 {cur : Option (Nat × Nat)} {rem : CS} : itT cur.isSome (ints (numsC (cur.toList ++ rem))) = ints (numsC rem) := by cases cur <;> rfl
theorem keysC_nil {L : CS} (h : keysC L = []) : L = [] := List.map_eq_nil_iff.1 h
end Go.Ab
namespace Go.Ab
open Go Go.Proofs
theorem k_counts (n : Int) (next : List (List Int)) (A : Aut n next) (k : Nat) (hk : k ≤ 20) :
    Fn Try.prog nz19 [autA n next, iv (k : Int)] (fun rows res => ∃ v L, CW n next (2 ^ n.toNat - 1) k L ∧ rows = [.map v (keysC L) (ints (numsC L))] ∧ res = .mp 6000 v) := by
  refine con_of mixed czhb rfl (by simp) ?_
  have n1 := A.n1
  have n2 := A.n2
  have l2 := A.l2
  have hp := Nat.two_pow_pos n.toNat
  have hN : 2 ^ n.toNat ≤ 1024 := Nat.pow_le_pow_right (n := 2) (by omega) (show n.toNat ≤ 10 by omega)
  have f0 : ∀ k : Value, findKeyAt k [] 0 = some none := fun _ => rfl
  generalize hF : 2 ^ n.toNat - 1 = F
  have hFl : F < 2 ^ n.toNat := by omega
  generalize hQ : finQ _ = Q
  simp only [Az4y, Bzbg, go_sem, yz0, Int.reduceLT, reduceLE, reduceToNat, reduceNeg, Nat.reduceLT, reduceLeDiff, reduceMul, reduceSub, reduceIte, reduceEqDiff, reduceAdd, reduceCtorEq]
  intro vs vs2
  refine call_rowI (k_all n next A) qCS rfl ⟨_, rfl⟩ ?_
  rintro xs v rfl
  simp only [go_sem, yz0, Int.reduceLT, reduceLE, reduceToNat, reduceNeg, Nat.reduceLT, reduceLeDiff, reduceMul, reduceSub, reduceIte, reduceEqDiff, reduceAdd, reduceCtorEq]
  refine yz10 (k_flockOf (allS n) (fun s hs => by have := allS_in s hs; omega)) qCS trivial ?_
  rw [maskN_all ⟨n1, n2⟩, hF]
  simp only [f0, go_sem, yz0, Int.reduceLT, reduceLE, reduceToNat, reduceNeg, Nat.reduceLT, reduceLeDiff, reduceMul, reduceSub, reduceIte, reduceEqDiff, reduceAdd, reduceCtorEq]
  simp only [Bzbf, Bzbd, go_sem, yz0, Int.reduceLT, reduceLE, reduceToNat, reduceNeg, Nat.reduceLT, reduceLeDiff, reduceMul, reduceSub, reduceIte, reduceEqDiff, reduceAdd, reduceCtorEq]
  have hz : wsum [(F, 1)] = fun φ => φ F := by funext φ; simp [wsum]
  refine wpD_lm (fun (_, i, _) => k - i) (fun (_, i, L) => i ≤ k ∧ CW n next F i L)
    (fun ((v, i, L) : Nat × Nat × CS) => ⟨Go.Ab.L .any [(2, .ptr 2 (vs 0 0) 0), (5, .mp 10 v), (15, iv k), (16, iv i)],
      Go.Ab.L .gone [(2, .box (vs 0 0) [iv n, .ro none 1 (rwn next)]), (10, .map v (keysC L) (ints (numsC L)))]⟩)
    (vs2 0 0, 0, [(F, 1)]) ⟨by omega, fun p hp => by rw [List.mem_singleton.1 hp]; exact hFl, fun φ => by rw [hz]; rfl⟩ (by intro u; simp only [Bz2d, go_sem, yz0, Int.reduceLT, reduceLE, reduceToNat, reduceNeg, Nat.reduceLT, reduceLeDiff, reduceMul, reduceSub, reduceIte, reduceEqDiff, reduceAdd, reduceCtorEq]; try rfl) ?_
  rintro ⟨v, i, L⟩ ⟨hi, hC⟩
  have hi : i ≤ k := hi
  have hC : CW n next F i L := hC
  by_cases hlt : (i : Int) < k
  · have wi : IntKind.i64.wrap ((i : Int) + 1) = ((i + 1 : Nat) : Int) := by rw [w64 (by omega)]; simp
    simp only [Bz2d, Bz4x, Bzbc, decide_eq_true hlt, go_sem, yz0, Int.reduceLT, reduceLE, reduceToNat, reduceNeg, Nat.reduceLT, reduceLeDiff, reduceMul, reduceSub, reduceIte, reduceEqDiff, reduceAdd, reduceCtorEq]
    intro vs3
    simp only [Bzba, Bzb8, dnL_ints, go_sem, yz0, Int.reduceLT, reduceLE, reduceToNat, reduceNeg, Nat.reduceLT, reduceLeDiff, reduceMul, reduceSub, reduceIte, reduceEqDiff, reduceAdd, reduceCtorEq]
    intro vs4
    have hT : ∀ (nx rem : CS), (∀ φ, wsum nx φ + wsum rem (lsum next next.length φ) = wsum L (lsum next next.length φ)) → wsum nx (fun _ => 1) + wsum rem (lsum next next.length fun _ => 1) ≤ 3486784401 := fun nx rem h => by
      rw [h, hC.sm]
      show wnum next (i + 1) (fun _ => 1) F ≤ _
      rw [wnum_one, Nat.mul_one]
      have h3 : 3 ^ (i + 1) ≤ 3 ^ 20 := Nat.pow_le_pow_right (by omega) (by omega)
      exact Nat.le_trans (Nat.pow_le_pow_left l2 (i + 1)) h3
    refine wpD_lo (fun (_, _, _, rem, _) => rem.length) (fun (_, _, _, rem, nx) => (∀ p ∈ rem, p.1 < 2 ^ n.toNat) ∧ (∀ p ∈ nx, p.1 < 2 ^ n.toNat) ∧ ∀ φ, wsum nx φ + wsum rem (lsum next next.length φ) = wsum L (lsum next next.length φ))
      (fun ((vm, vi, cur, rem, nx) : Nat × Nat × Option (Nat × Nat) × CS × CS) => ⟨Go.Ab.L .any [(2, .ptr 2 (vs 0 0) 0), (6, .mp 18 vm), (15, iv k), (16, iv i), (20, .own 20 vi)],
        Go.Ab.L .gone [(2, .box (vs 0 0) [iv n, .ro none 1 (rwn next)]), (18, .map vm (keysC nx) (ints (numsC nx))), (20, .it vi (some (cur.isSome, keysC (cur.toList ++ rem), ints (numsC (cur.toList ++ rem)))))]⟩)
      (_, _, none, L, []) ⟨hC.ks, (fun p hp => by simp at hp), fun φ => by rw [wsum_nil, Nat.zero_add]⟩ (by simp only [Bz4w, dnL_ints, go_sem, yz0, Int.reduceLT, reduceLE, reduceToNat, reduceNeg, Nat.reduceLT, reduceLeDiff, reduceMul, reduceSub, reduceIte, reduceEqDiff, reduceAdd, reduceCtorEq]; try rfl) ?_
    rintro ⟨vm, vi, cur, rem, nx⟩ ⟨hr, hx, hs⟩
    have hr : ∀ p ∈ rem, p.1 < 2 ^ n.toNat := hr
    have hx : ∀ p ∈ nx, p.1 < 2 ^ n.toNat := hx
    have hs : ∀ φ, wsum nx φ + wsum rem (lsum next next.length φ) = wsum L (lsum next next.length φ) := hs
    simp only [Bz4w, Bzb7, dnL_ints, itT_C1, itT_C2, go_sem, yz0, Int.reduceLT, reduceLE, reduceToNat, reduceNeg, Nat.reduceLT, reduceLeDiff, reduceMul, reduceSub, reduceIte, reduceEqDiff, reduceAdd, reduceCtorEq]
    refine ⟨fun h0 => ?_, fun j key A h1 h2 => ?_⟩
    · have h0 := keysC_nil h0
      subst h0
      simp only [Bzb9, Bzbb, wi, dnL_ints, go_sem, yz0, Int.reduceLT, reduceLE, reduceToNat, reduceNeg, Nat.reduceLT, reduceLeDiff, reduceMul, reduceSub, reduceIte, reduceEqDiff, reduceAdd, reduceCtorEq]
      refine ⟨k - (i + 1), by omega, fun u => ⟨(u, i + 1, nx), rfl, ⟨by dsimp only; omega, hx, fun φ => ?_⟩, rfl⟩⟩
      have := hs φ
      rw [wsum_nil, Nat.add_zero, hC.sm] at this
      exact this
    · obtain ⟨⟨g, c⟩, hp, rfl, rfl⟩ := getC h1 h2
      have hmem := List.mem_of_getElem? hp
      have hg := hr _ hmem
      have hsub : ∀ p ∈ rem.eraseIdx j, p.1 < 2 ^ n.toNat := fun p hp => hr p (List.mem_of_mem_eraseIdx hp)
      have hle : (rem.eraseIdx j).length < rem.length := by
        rw [List.length_eraseIdx_of_lt (List.getElem?_eq_some_iff.1 hp).1]
        have := (List.getElem?_eq_some_iff.1 hp).1; omega
      have hq : ∀ φ, c * lsum next next.length φ g + wsum (rem.eraseIdx j) (lsum next next.length φ) = wsum rem (lsum next next.length φ) := fun φ => (wsum_erase hp).symm
      have hT1 := hT nx rem hs
      rw [← hq, lsum_one, Nat.mul_one] at hT1
      rw [erase_keys, erase_nums]
      generalize rem.eraseIdx j = rem' at hsub hle hq hT1
      have hg : g < 2 ^ n.toNat := hg
      simp only [Bzb6, dnL_ints, go_sem, yz0, Int.reduceLT, reduceLE, reduceToNat, reduceNeg, Nat.reduceLT, reduceLeDiff, reduceMul, reduceSub, reduceIte, reduceEqDiff, reduceAdd, reduceCtorEq]
      simp only [Bzb5, dnL_ints, go_sem, yz0, Int.reduceLT, reduceLE, reduceToNat, reduceNeg, Nat.reduceLT, reduceLeDiff, reduceMul, reduceSub, reduceIte, reduceEqDiff, reduceAdd, reduceCtorEq]
      intro vs5
      refine yz10 (k_letters n next) qCS trivial ?_
      simp only [Bzb4, dnL_ints, go_sem, yz0, Int.reduceLT, reduceLE, reduceToNat, reduceNeg, Nat.reduceLT, reduceLeDiff, reduceMul, reduceSub, reduceIte, reduceEqDiff, reduceAdd, reduceCtorEq]
      refine wpD_lo (fun (_, x) => next.length - x) (fun (_, x) => x ≤ next.length)
        (fun ((vm, x) : Nat × Nat) => ⟨Go.Ab.L .any [(2, .ptr 2 (vs 0 0) 0), (6, .mp 18 vm), (7, fv g), (8, iv c), (15, iv k), (16, iv i), (20, .own 20 vi), (27, iv next.length), (28, iv x)],
          Go.Ab.L .gone [(2, .box (vs 0 0) [iv n, .ro none 1 (rwn next)]), (18, .map vm (keysC (visC next g c x nx)) (ints (numsC (visC next g c x nx)))), (20, .it vi (some (true, .int .u64 (g : Int) :: keysC rem', iv (c : Int) :: ints (numsC rem'))))]⟩)
        (_, 0) (Nat.zero_le _) (by simp only [Bz2c, dnL_ints, visC, go_sem, yz0, Int.reduceLT, reduceLE, reduceToNat, reduceNeg, Nat.reduceLT, reduceLeDiff, reduceMul, reduceSub, reduceIte, reduceEqDiff, reduceAdd, reduceCtorEq]; try rfl) ?_
      rintro ⟨vm, x⟩ hxl
      have hxl : x ≤ next.length := hxl
      have hxk := visC_keys A hg (k := c) hx x hxl
      by_cases hlx : (x : Int) < next.length
      · have hlx1 : x < next.length := by omega
        have wx : IntKind.i64.wrap ((x : Int) + 1) = ((x + 1 : Nat) : Int) := by rw [w64 (by omega)]; simp
        simp only [Bz2c, Bz4v, Bzb3, dnL_ints, decide_eq_true hlx, go_sem, yz0, Int.reduceLT, reduceLE, reduceToNat, reduceNeg, Nat.reduceLT, reduceLeDiff, reduceMul, reduceSub, reduceIte, reduceEqDiff, reduceAdd, reduceCtorEq]
        simp only [Bzb2, dnL_ints, go_sem, yz0, Int.reduceLT, reduceLE, reduceToNat, reduceNeg, Nat.reduceLT, reduceLeDiff, reduceMul, reduceSub, reduceIte, reduceEqDiff, reduceAdd, reduceCtorEq]
        intro vs6
        refine yz10 (k_step n next A g x hg hlx1) qCS trivial ?_
        have hsm := visC_sum (next := next) (g := g) (n := c) (L := nx) (φ := fun _ => 1) (x + 1)
        rw [lsum_one, Nat.mul_one] at hsm
        have hcx : c * (x + 1) ≤ c * next.length := Nat.mul_le_mul_left c hlx1
        unfold visC at hsm
        rcases fkC (f := stepN (next.getD x []) g) (n := c) (L := visC next g c x nx) 0 with ⟨j2, m, e1, e2, e3⟩ | ⟨e1, e3⟩
        · rw [Nat.zero_add] at e1
          have hb : m + c ≤ 3486784401 := by
            have := wsum_mem (L := incr (visC next g c x nx) (stepN (next.getD x []) g) c) (p := (stepN (next.getD x []) g, m + c)) (by rw [e3]; exact List.mem_set (List.getElem?_eq_some_iff.1 e2).1 _)
            dsimp only at this
            omega
          have w2 : IntKind.i64.wrap ((m : Int) + c) = ((m + c : Nat) : Int) := by rw [w64 (by omega)]; simp
          have hset := (set_nums (L := visC next g c x nx) (j := j2) (f := stepN (next.getD x []) g) (m := m + c)).symm
          have hv : visC next g c (x + 1) nx = (visC next g c x nx).set j2 (stepN (next.getD x []) g, m + c) := e3
          simp only [e1, getD_nums e2, w2, hset, dnL_ints, Bz4u, wx, go_sem, yz0, Int.reduceLT, reduceLE, reduceToNat, reduceNeg, Nat.reduceLT, reduceLeDiff, reduceMul, reduceSub, reduceIte, reduceEqDiff, reduceAdd, reduceCtorEq]
          exact ⟨(vm, x + 1), by dsimp only; omega, by dsimp only; omega, by dsimp only; rw [hv, set_keys e2]⟩
        · have hc : c ≤ 3486784401 := by
            have := wsum_mem (L := incr (visC next g c x nx) (stepN (next.getD x []) g) c) (p := (stepN (next.getD x []) g, c)) (by rw [e3]; simp)
            dsimp only at this
            omega
          have w2 : IntKind.i64.wrap (0 + (c : Int)) = (c : Int) := by rw [w64 (by omega)]; simp
          have hv : visC next g c (x + 1) nx = visC next g c x nx ++ [(stepN (next.getD x []) g, c)] := e3
          simp only [e1, w2, dnL_ints, Bz4u, wx, go_sem, yz0, Int.reduceLT, reduceLE, reduceToNat, reduceNeg, Nat.reduceLT, reduceLeDiff, reduceMul, reduceSub, reduceIte, reduceEqDiff, reduceAdd, reduceCtorEq]
          exact ⟨(vm, x + 1), by dsimp only; omega, by dsimp only; omega, by dsimp only; rw [hv]; simp only [List.map_append, List.map_cons, List.map_nil]⟩
      · obtain rfl : x = next.length := by omega
        simp only [Bz2c, Bz4v, decide_eq_false hlx, dnL_ints, go_sem, yz0, Int.reduceLT, reduceLE, reduceToNat, reduceNeg, Nat.reduceLT, reduceLeDiff, reduceMul, reduceSub, reduceIte, reduceEqDiff, reduceAdd, reduceCtorEq]
        refine ⟨(vm, vi, some (g, c), rem', visC next g c next.length nx), hle, ⟨hsub, hxk, fun φ => ?_⟩, rfl⟩
        show wsum (visC next g c next.length nx) φ + wsum rem' (lsum next next.length φ) = _
        rw [visC_sum, ← hs φ, ← hq φ, Nat.add_assoc]
  · obtain rfl : i = k := by omega
    simp only [Bz2d, Bz4x, Bzbe, decide_eq_false hlt, dnL_ints, Az4y, ← hQ, go_sem, yz0, Int.reduceLT, reduceLE, reduceToNat, reduceNeg, Nat.reduceLT, reduceLeDiff, reduceMul, reduceSub, reduceIte, reduceEqDiff, reduceAdd, reduceCtorEq]
    refine ⟨[10], by simp, by simp, by simp, ?_⟩
    simp only [Nat.not_lt_zero, range1, yzv, yzy, yz19, yz1b, yzz, yz1a, yz1c, yz17, yzx, yzp, yzf, yz3, yzs, yzq, yzn, yzm, yzt, yz7, yzd, yzb, yzc, yzi, yzh, yz2, yz6, yz8, yza, yzg, yzj, List.range_zero, yz5, yz4, yz9, yzr, yzl, yzo, AVal.fresh, freshL, yz1, yzk, AObj.fresh, id, Option.isSome_some, or_true, true_or, go_sem, yz0, Int.reduceLT, reduceLE, reduceToNat, reduceNeg, Nat.reduceLT, reduceLeDiff, reduceMul, reduceSub, reduceIte, reduceEqDiff, reduceAdd, reduceCtorEq]
    exact ⟨v, L, hC, rfl, rfl⟩
theorem k_CountResets_1 (k : Nat) : Fun Try.prog nz18 [.rp [iv (k : Int)] 0] (bv (decide (0 ≤ (k : Int)) && decide ((k : Int) ≤ 20))) := by
  refine fun_of mixed czh9 rfl ⟨rfl, trivial⟩ ?_
  simp only [Bzay, Azaz, go_sem, yz0, Int.reduceLT, reduceLE, reduceToNat, reduceNeg, Nat.reduceLT, reduceLeDiff, reduceMul, reduceSub, reduceIte, reduceEqDiff, reduceAdd, reduceCtorEq]
  intro vs
  refine yz10 (k_within (k : Int) 0 20) qCS trivial ?_
  simp only [go_sem, yz0, Int.reduceLT, reduceLE, reduceToNat, reduceNeg, Nat.reduceLT, reduceLeDiff, reduceMul, reduceSub, reduceIte, reduceEqDiff, reduceAdd, reduceCtorEq]
def resN (next : List (List Int)) (n : Int) (k : Nat) : Nat := wnum next k (fun f => if smallN f = true then 1 else 0) (2 ^ n.toNat - 1)
theorem k_CountResets (n : Int) (next : List (List Int)) (A : Aut n next) (k : Nat) (hk : k ≤ 20) :
    Fun2 Try.prog nz34 [autA n next, iv (k : Int)] (.int .i64 (resN next n k : Int)) (.int .i64 0) := by
  refine fun2_of mixed czgo rfl ?_
  have n1 := A.n1
  have n2 := A.n2
  have hN : 2 ^ n.toNat ≤ 1024 := Nat.pow_le_pow_right (n := 2) (by omega) (show n.toNat ≤ 10 by omega)
  have hd1 : decide ((0 : Int) ≤ k) = true := by rw [decide_eq_true_eq]; omega
  have hd2 : decide ((k : Int) ≤ 20) = true := by rw [decide_eq_true_eq]; omega
  have hcode := k_code n next nz18 [.rp [iv (k : Int)] 0] _ ⟨by simp only [go_sem, yz0, Int.reduceLT, reduceLE, reduceToNat, reduceNeg, Nat.reduceLT, reduceLeDiff, reduceMul, reduceSub, reduceIte, reduceEqDiff, reduceAdd, reduceCtorEq], by intros; simp only [rowIs, boxIs, coe_argN, yz1f, coe_ro_o, yz18, yzw, coe_any, coe_val, coe_ro, yz12, yz15, coe_st, yz13, coe_rp, yz14, coe_clo, coe_own0, yz1g, yz11, coeL_rws, coeL_rwn, L_hit, L_miss, L_nil, reduceEqDiff, ne_eq, reduceCtorEq, not_false_eq_true, true_and, and_true, and_self, exists_eq_left, exists_eq_right, List.mem_cons, List.not_mem_nil, or_false, AObj.row.injEq, AObj.box.injEq, exists_eq_left', exists_and_left, exists_eq, Nat.zero_lt_one, Nat.lt_add_one, List.map_cons, List.map_nil, AObj.ver, Nat.reduceLT, not_true_eq_false]⟩ (fun hv => k_CountResets_1 k)
  rw [hd1, hd2, autB_iff.2 A] at hcode
  have e00 : ((0 : Int) != 0) = false := rfl
  generalize hQ : finQ _ = Q
  simp only [Az43, Bz89, go_sem, yz0, Int.reduceLT, reduceLE, reduceToNat, reduceNeg, Nat.reduceLT, reduceLeDiff, reduceMul, reduceSub, reduceIte, reduceEqDiff, reduceAdd, reduceCtorEq]
  intro vs vs2
  refine yz10 hcode qCS trivial ?_
  simp only [codeI, Bool.and_self, if_true, Bz81, Bz80, Bz88, Bz87, e00, go_sem, yz0, Int.reduceLT, reduceLE, reduceToNat, reduceNeg, Nat.reduceLT, reduceLeDiff, reduceMul, reduceSub, reduceIte, reduceEqDiff, reduceAdd, reduceCtorEq]
  intro vs3
  refine call_fn (k_counts n next A k hk) qCS (fun e => by cases e) ?_
  rintro rows res ⟨v, L, hC, rfl, rfl⟩
  refine ⟨by simp, by rw [Option.getD_some, yzl]; simp only [go_sem, yz0, Int.reduceLT, reduceLE, reduceToNat, reduceNeg, Nat.reduceLT, reduceLeDiff, reduceMul, reduceSub, reduceIte, reduceEqDiff, reduceAdd, reduceCtorEq], ?_⟩
  simp only [Option.getD_some, Bz85, Nat.not_lt_zero, range1, yzv, yzy, yz19, yz1b, yzz, yz1a, yz1c, yz17, yzx, yzp, yzf, yz3, yzs, yzq, yzn, yzm, yzt, yz7, yzd, yzb, yzc, yzi, yzh, yz2, yz6, yz8, yza, yzg, yzj, List.range_zero, yz5, yz4, yz9, yzr, yzl, yzo, AVal.fresh, freshL, yz1, yzk, AObj.fresh, id, Option.isSome_some, or_true, true_or, go_sem, yz0, Int.reduceLT, reduceLE, reduceToNat, reduceNeg, Nat.reduceLT, reduceLeDiff, reduceMul, reduceSub, reduceIte, reduceEqDiff, reduceAdd, reduceCtorEq]
  have hT := hC.tot A hk
  have hsmall : ∀ M : CS, wsum M (fun f => if smallN f = true then 1 else 0) ≤ wsum M fun _ => 1 := fun M => by
    induction M with
    | nil => exact Nat.le_refl _
    | cons p M ih =>
      rw [wsum_cons, wsum_cons]
      split <;> omega
  have hres : wsum L (fun f => if smallN f = true then 1 else 0) = resN next n k := hC.sm _
  refine wpD_lo (fun (_, _, _, rem) => rem.length) (fun (acc, _, _, rem) => (∀ p ∈ rem, p.1 < 2 ^ n.toNat) ∧ acc + wsum rem (fun f => if smallN f = true then 1 else 0) = wsum L (fun f => if smallN f = true then 1 else 0))
    (fun ((acc, vi, cur, rem) : Nat × Nat × Option (Nat × Nat) × CS) => ⟨Go.Ab.L .any [(7, iv acc), (19, .own 19 vi)],
      Go.Ab.L .gone [(19, .it vi (some (cur.isSome, keysC (cur.toList ++ rem), ints (numsC (cur.toList ++ rem)))))]⟩)
    (0, _, none, L) ⟨hC.ks, by omega⟩ (by simp only [Bz42, dnL_ints, go_sem, yz0, Int.reduceLT, reduceLE, reduceToNat, reduceNeg, Nat.reduceLT, reduceLeDiff, reduceMul, reduceSub, reduceIte, reduceEqDiff, reduceAdd, reduceCtorEq]; try rfl) ?_
  rintro ⟨acc, vi, cur, rem⟩ ⟨hr, hs⟩
  have hr : ∀ p ∈ rem, p.1 < 2 ^ n.toNat := hr
  have hs : acc + wsum rem (fun f => if smallN f = true then 1 else 0) = wsum L (fun f => if smallN f = true then 1 else 0) := hs
  simp only [Bz42, Bz84, dnL_ints, itT_C1, itT_C2, go_sem, yz0, Int.reduceLT, reduceLE, reduceToNat, reduceNeg, Nat.reduceLT, reduceLeDiff, reduceMul, reduceSub, reduceIte, reduceEqDiff, reduceAdd, reduceCtorEq]
  refine ⟨fun h0 => ?_, fun j key A h1 h2 => ?_⟩
  · have h0 := keysC_nil h0
    subst h0
    rw [wsum_nil, Nat.add_zero, hres] at hs
    subst hs
    simp only [Bz86, Az43, ← hQ, dnL_ints, go_sem, yz0, Int.reduceLT, reduceLE, reduceToNat, reduceNeg, Nat.reduceLT, reduceLeDiff, reduceMul, reduceSub, reduceIte, reduceEqDiff, reduceAdd, reduceCtorEq]
  · obtain ⟨⟨g, c⟩, hp, rfl, rfl⟩ := getC h1 h2
    have hg := hr _ (List.mem_of_getElem? hp)
    have hg : g < 2 ^ n.toNat := hg
    have hsub : ∀ p ∈ rem.eraseIdx j, p.1 < 2 ^ n.toNat := fun p hp => hr p (List.mem_of_mem_eraseIdx hp)
    have hle : (rem.eraseIdx j).length < rem.length := by
      rw [List.length_eraseIdx_of_lt (List.getElem?_eq_some_iff.1 hp).1]
      have := (List.getElem?_eq_some_iff.1 hp).1; omega
    rw [wsum_erase hp] at hs
    have hs : acc + (c * (if smallN g = true then 1 else 0) + wsum (rem.eraseIdx j) (fun f => if smallN f = true then 1 else 0)) = wsum L (fun f => if smallN f = true then 1 else 0) := hs
    have hb := hsmall L
    rw [erase_keys, erase_nums]
    generalize rem.eraseIdx j = rem' at hsub hle hs
    simp only [Bz83, dnL_ints, go_sem, yz0, Int.reduceLT, reduceLE, reduceToNat, reduceNeg, Nat.reduceLT, reduceLeDiff, reduceMul, reduceSub, reduceIte, reduceEqDiff, reduceAdd, reduceCtorEq]
    simp only [Bz82, dnL_ints, go_sem, yz0, Int.reduceLT, reduceLE, reduceToNat, reduceNeg, Nat.reduceLT, reduceLeDiff, reduceMul, reduceSub, reduceIte, reduceEqDiff, reduceAdd, reduceCtorEq]
    intro vs4
    refine yz10 (k_isSmall g (by omega)) qCS trivial ?_
    cases hsg : smallN g with
    | true =>
      rw [hsg, if_pos rfl, Nat.mul_one] at hs
      have w2 : IntKind.i64.wrap ((acc : Int) + c) = ((acc + c : Nat) : Int) := by rw [w64 (by omega)]; simp
      simp only [Bz41, w2, dnL_ints, go_sem, yz0, Int.reduceLT, reduceLE, reduceToNat, reduceNeg, Nat.reduceLT, reduceLeDiff, reduceMul, reduceSub, reduceIte, reduceEqDiff, reduceAdd, reduceCtorEq]
      exact ⟨(acc + c, vi, some (g, c), rem'), hle, ⟨hsub, by dsimp only; omega⟩, rfl⟩
    | false =>
      rw [hsg, if_neg (by simp), Nat.mul_zero] at hs
      simp only [Bz41, dnL_ints, go_sem, yz0, Int.reduceLT, reduceLE, reduceToNat, reduceNeg, Nat.reduceLT, reduceLeDiff, reduceMul, reduceSub, reduceIte, reduceEqDiff, reduceAdd, reduceCtorEq]
      exact ⟨(acc, vi, some (g, c), rem'), hle, ⟨hsub, by dsimp only; omega⟩, rfl⟩
end Go.Ab
namespace Go.Ab
open Go Go.Proofs
def cntN (f : Nat) : Nat := (bitsTo f 10).length
theorem cntN_le {N f : Nat} (hN : N ≤ 10) (hf : f < 2 ^ N) : cntN f ≤ N := by
  unfold cntN
  rw [show 10 = N + (10 - N) by omega, bitsTo_add hf]
  exact bitsTo_len
theorem k_count (f : Nat) (h : f < 1024) : Fun Try.prog nzg [fv f] (iv (cntN f : Int)) := by
  refine fun_of mixed czhn rfl ⟨rfl, trivial⟩ ?_
  simp only [Bzcf, Azcg, go_sem, yz0, Int.reduceLT, reduceLE, reduceToNat, reduceNeg, Nat.reduceLT, reduceLeDiff, reduceMul, reduceSub, reduceIte, reduceEqDiff, reduceAdd, reduceCtorEq]
  intro vs
  refine call_rowI (k_flock_set f h) qCS rfl ⟨_, rfl⟩ ?_
  rintro ys v rfl
  simp only [go_sem, yz0, Int.reduceLT, reduceLE, reduceToNat, reduceNeg, Nat.reduceLT, reduceLeDiff, reduceMul, reduceSub, reduceIte, reduceEqDiff, reduceAdd, reduceCtorEq]
  refine yz10 (k_size (bitsTo f 10)) qCS trivial ?_
  simp only [cntN, go_sem, yz0, Int.reduceLT, reduceLE, reduceToNat, reduceNeg, Nat.reduceLT, reduceLeDiff, reduceMul, reduceSub, reduceIte, reduceEqDiff, reduceAdd, reduceCtorEq]
theorem k_CountByRank_1 (k : Nat) : Fun Try.prog nz1g [.rp [iv (k : Int)] 0] (bv (decide (0 ≤ (k : Int)) && decide ((k : Int) ≤ 20))) := by
  refine fun_of mixed czhq rfl ⟨rfl, trivial⟩ ?_
  simp only [Bzcp, Azcq, go_sem, yz0, Int.reduceLT, reduceLE, reduceToNat, reduceNeg, Nat.reduceLT, reduceLeDiff, reduceMul, reduceSub, reduceIte, reduceEqDiff, reduceAdd, reduceCtorEq]
  intro vs
  refine yz10 (k_within (k : Int) 0 20) qCS trivial ?_
  simp only [go_sem, yz0, Int.reduceLT, reduceLE, reduceToNat, reduceNeg, Nat.reduceLT, reduceLeDiff, reduceMul, reduceSub, reduceIte, reduceEqDiff, reduceAdd, reduceCtorEq]
def rnkN (next : List (List Int)) (n : Int) (k r : Nat) : Nat := wnum next k (fun f => if cntN f = r then 1 else 0) (2 ^ n.toNat - 1)
def ranksN (next : List (List Int)) (n : Int) (k : Nat) : List Nat := (List.range (n.toNat + 1)).map fun r => rnkN next n k r
def natI (R : List Nat) : List Int := R.map fun (x : Nat) => (x : Int)
theorem natI_set {R : List Nat} {i x : Nat} : natI (R.set i x) = (natI R).set i (x : Int) := by unfold natI; rw [List.map_set]
theorem natI_getD {R : List Nat} {i : Nat} (h : i < R.length) : (natI R).getD i 0 = (R.getD i 0 : Int) := by
  unfold natI
  rw [List.getD_eq_getElem?_getD, List.getElem?_map, List.getD_eq_getElem?_getD, List.getElem?_eq_getElem h]; rfl
theorem natI_len {R : List Nat} : (natI R).length = R.length := by unfold natI; rw [List.length_map]
theorem dn_putC {us : List Int} {i : Nat} {v : Int} (h : i < us.length) : dnL (List.take i (intsK .i64 us)) ++ [AVal.val (.int .i64 v)] ++ dnL (List.drop (i + 1) (intsK .i64 us)) = ints (us.set i v) := by
  have e1 : List.take i (intsK .i64 us) = intsK .i64 (us.take i) := by unfold intsK; rw [List.map_take]
  have e2 : List.drop (i + 1) (intsK .i64 us) = intsK .i64 (us.drop (i + 1)) := by unfold intsK; rw [List.map_drop]
  rw [e1, e2, dnL_ints, dnL_ints]
  unfold intsK ints
  rw [List.set_eq_take_append_cons_drop, if_pos h, List.map_append, List.map_cons, List.append_assoc]; rfl
theorem wsum_ge {L : CS} {φ ψ : Nat → Nat} (h : ∀ f, φ f ≤ ψ f) : wsum L φ ≤ wsum L ψ := by
  induction L with
  | nil => exact Nat.le_refl _
  | cons p L ih =>
    rw [wsum_cons, wsum_cons]
    have := Nat.mul_le_mul_left p.2 (h p.1)
    omega
theorem k_CountByRank (n : Int) (next : List (List Int)) (A : Aut n next) (k : Nat) (hk : k ≤ 20) :
    RowT Try.prog nz3c [autA n next, iv (k : Int)] true (natI (ranksN next n k)) 0 := by
  refine con_of mixed czgy rfl (by simp) ?_
  have n1 := A.n1
  have n2 := A.n2
  have hN : 2 ^ n.toNat ≤ 1024 := Nat.pow_le_pow_right (n := 2) (by omega) (show n.toNat ≤ 10 by omega)
  have hd1 : decide ((0 : Int) ≤ k) = true := by rw [decide_eq_true_eq]; omega
  have hd2 : decide ((k : Int) ≤ 20) = true := by rw [decide_eq_true_eq]; omega
  have hcode := k_code n next nz1g [.rp [iv (k : Int)] 0] _ ⟨by simp only [go_sem, yz0, Int.reduceLT, reduceLE, reduceToNat, reduceNeg, Nat.reduceLT, reduceLeDiff, reduceMul, reduceSub, reduceIte, reduceEqDiff, reduceAdd, reduceCtorEq], by intros; simp only [rowIs, boxIs, coe_argN, yz1f, coe_ro_o, yz18, yzw, coe_any, coe_val, coe_ro, yz12, yz15, coe_st, yz13, coe_rp, yz14, coe_clo, coe_own0, yz1g, yz11, coeL_rws, coeL_rwn, L_hit, L_miss, L_nil, reduceEqDiff, ne_eq, reduceCtorEq, not_false_eq_true, true_and, and_true, and_self, exists_eq_left, exists_eq_right, List.mem_cons, List.not_mem_nil, or_false, AObj.row.injEq, AObj.box.injEq, exists_eq_left', exists_and_left, exists_eq, Nat.zero_lt_one, Nat.lt_add_one, List.map_cons, List.map_nil, AObj.ver, Nat.reduceLT, not_true_eq_false]⟩ (fun hv => k_CountByRank_1 k)
  rw [hd1, hd2, autB_iff.2 A] at hcode
  have e00 : ((0 : Int) != 0) = false := rfl
  have wn : IntKind.i64.wrap (n + 1) = ((n.toNat + 1 : Nat) : Int) := by rw [w64 (by omega)]; omega
  generalize hQ : finQ _ = Q
  simp only [Az4b, Bz9k, go_sem, yz0, Int.reduceLT, reduceLE, reduceToNat, reduceNeg, Nat.reduceLT, reduceLeDiff, reduceMul, reduceSub, reduceIte, reduceEqDiff, reduceAdd, reduceCtorEq]
  intro vs vs2
  refine yz10 hcode qCS trivial ?_
  simp only [codeI, Bool.and_self, if_true, Bz9c, Bz9b, Bz9j, e00, wn, go_sem, yz0, Int.reduceLT, reduceLE, reduceToNat, reduceNeg, Nat.reduceLT, reduceLeDiff, reduceMul, reduceSub, reduceIte, reduceEqDiff, reduceAdd, reduceCtorEq]
  intro vs3
  refine ⟨⟨by omega, by omega, by omega, by omega⟩, ?_⟩
  simp only [Bz9i, go_sem, yz0, Int.reduceLT, reduceLE, reduceToNat, reduceNeg, Nat.reduceLT, reduceLeDiff, reduceMul, reduceSub, reduceIte, reduceEqDiff, reduceAdd, reduceCtorEq]
  intro vs4
  refine call_fn (k_counts n next A k hk) qCS (fun e => by cases e) ?_
  rintro rows res ⟨v, L, hC, rfl, rfl⟩
  refine ⟨by simp, by rw [Option.getD_some, yzl]; simp only [go_sem, yz0, Int.reduceLT, reduceLE, reduceToNat, reduceNeg, Nat.reduceLT, reduceLeDiff, reduceMul, reduceSub, reduceIte, reduceEqDiff, reduceAdd, reduceCtorEq], ?_⟩
  simp only [Option.getD_some, Bz9g, Nat.not_lt_zero, range1, yzv, yzy, yz19, yz1b, yzz, yz1a, yz1c, yz17, yzx, yzp, yzf, yz3, yzs, yzq, yzn, yzm, yzt, yz7, yzd, yzb, yzc, yzi, yzh, yz2, yz6, yz8, yza, yzg, yzj, List.range_zero, yz5, yz4, yz9, yzr, yzl, yzo, AVal.fresh, freshL, yz1, yzk, AObj.fresh, id, Option.isSome_some, or_true, true_or, go_sem, yz0, Int.reduceLT, reduceLE, reduceToNat, reduceNeg, Nat.reduceLT, reduceLeDiff, reduceMul, reduceSub, reduceIte, reduceEqDiff, reduceAdd, reduceCtorEq]
  have hT := hC.tot A hk
  have hone : ∀ r, wsum L (fun f => if cntN f = r then 1 else 0) ≤ 3486784401 := fun r => Nat.le_trans (wsum_ge fun f => by split <;> omega) hT
  have hres : ∀ r, wsum L (fun f => if cntN f = r then 1 else 0) = rnkN next n k r := fun r => hC.sm _
  have hrep : natI (List.replicate (n.toNat + 1) 0) = List.replicate (n.toNat + 1) 0 := by simp [natI]
  have hrg : ∀ r, r ≤ n.toNat → (List.replicate (n.toNat + 1) 0).getD r 0 = 0 := fun r hr => by rw [List.getD_eq_getElem?_getD, List.getElem?_replicate]; split <;> rfl
  refine wpD_lo (fun (_, _, _, _, rem) => rem.length) (fun (R, _, _, _, rem) => (∀ p ∈ rem, p.1 < 2 ^ n.toNat) ∧ R.length = n.toNat + 1 ∧ ∀ r, r ≤ n.toNat → R.getD r 0 + wsum rem (fun f => if cntN f = r then 1 else 0) = wsum L (fun f => if cntN f = r then 1 else 0))
    (fun ((R, vr, vi, cur, rem) : List Nat × Nat × Nat × Option (Nat × Nat) × CS) => ⟨Go.Ab.L .any [(7, .own 19 vr), (23, .own 23 vi)],
      Go.Ab.L .gone [(19, .row vr 1 true (ints (natI R))), (23, .it vi (some (cur.isSome, keysC (cur.toList ++ rem), ints (numsC (cur.toList ++ rem)))))]⟩)
    (List.replicate (n.toNat + 1) 0, _, _, none, L) ⟨hC.ks, by simp, fun r hr => by rw [hrg r hr, Nat.zero_add]⟩ (by simp only [Bz4a, dnL_ints, hrep, go_sem, yz0, Int.reduceLT, reduceLE, reduceToNat, reduceNeg, Nat.reduceLT, reduceLeDiff, reduceMul, reduceSub, reduceIte, reduceEqDiff, reduceAdd, reduceCtorEq]; try rfl) ?_
  rintro ⟨R, vr, vi, cur, rem⟩ ⟨hr, hl, hs⟩
  have hr : ∀ p ∈ rem, p.1 < 2 ^ n.toNat := hr
  have hl : R.length = n.toNat + 1 := hl
  have hs : ∀ r, r ≤ n.toNat → R.getD r 0 + wsum rem (fun f => if cntN f = r then 1 else 0) = wsum L (fun f => if cntN f = r then 1 else 0) := hs
  simp only [Bz4a, Bz9f, dnL_ints, itT_C1, itT_C2, go_sem, yz0, Int.reduceLT, reduceLE, reduceToNat, reduceNeg, Nat.reduceLT, reduceLeDiff, reduceMul, reduceSub, reduceIte, reduceEqDiff, reduceAdd, reduceCtorEq]
  refine ⟨fun h0 => ?_, fun j key A h1 h2 => ?_⟩
  · have h0 := keysC_nil h0
    subst h0
    have hR : R = ranksN next n k := by
      unfold ranksN
      refine List.ext_getElem (by simp [hl]) fun i h1 h2 => ?_
      have := hs i (by omega)
      rw [wsum_nil, Nat.add_zero, hres, List.getD_eq_getElem?_getD, List.getElem?_eq_getElem h1, Option.getD_some] at this
      rw [this, List.getElem_map, List.getElem_range]
    subst hR
    simp only [Bz9h, Az4b, ← hQ, dnL_ints, go_sem, yz0, Int.reduceLT, reduceLE, reduceToNat, reduceNeg, Nat.reduceLT, reduceLeDiff, reduceMul, reduceSub, reduceIte, reduceEqDiff, reduceAdd, reduceCtorEq]
    refine ⟨[19], by simp, by simp, by simp, ?_⟩
    simp only [Nat.not_lt_zero, range1, yzv, yzy, yz19, yz1b, yzz, yz1a, yz1c, yz17, yzx, yzp, yzf, yz3, yzs, yzq, yzn, yzm, yzt, yz7, yzd, yzb, yzc, yzi, yzh, yz2, yz6, yz8, yza, yzg, yzj, List.range_zero, yz5, yz4, yz9, yzr, yzl, yzo, AVal.fresh, freshL, yz1, yzk, AObj.fresh, id, Option.isSome_some, or_true, true_or, go_sem, yz0, Int.reduceLT, reduceLE, reduceToNat, reduceNeg, Nat.reduceLT, reduceLeDiff, reduceMul, reduceSub, reduceIte, reduceEqDiff, reduceAdd, reduceCtorEq]
    exact ⟨vr, rfl, rfl⟩
  · obtain ⟨⟨g, c⟩, hp, rfl, rfl⟩ := getC h1 h2
    have hg := hr _ (List.mem_of_getElem? hp)
    have hg : g < 2 ^ n.toNat := hg
    have hsub : ∀ p ∈ rem.eraseIdx j, p.1 < 2 ^ n.toNat := fun p hp => hr p (List.mem_of_mem_eraseIdx hp)
    have hle : (rem.eraseIdx j).length < rem.length := by
      rw [List.length_eraseIdx_of_lt (List.getElem?_eq_some_iff.1 hp).1]
      have := (List.getElem?_eq_some_iff.1 hp).1; omega
    have hs : ∀ r, r ≤ n.toNat → R.getD r 0 + (c * (if cntN g = r then 1 else 0) + wsum (rem.eraseIdx j) (fun f => if cntN f = r then 1 else 0)) = wsum L (fun f => if cntN f = r then 1 else 0) := fun r hr => by
      rw [← hs r hr, wsum_erase hp]
    have hcg := cntN_le (N := n.toNat) (by omega) hg
    have hb := hs (cntN g) hcg
    rw [if_pos rfl, Nat.mul_one] at hb
    have hb2 := hone (cntN g)
    have hi : cntN g < (natI R).length := by rw [natI_len]; omega
    have hi0 : cntN g < R.length := by omega
    rw [erase_keys, erase_nums]
    generalize rem.eraseIdx j = rem' at hsub hle hs hb
    simp only [Bz9e, dnL_ints, go_sem, yz0, Int.reduceLT, reduceLE, reduceToNat, reduceNeg, Nat.reduceLT, reduceLeDiff, reduceMul, reduceSub, reduceIte, reduceEqDiff, reduceAdd, reduceCtorEq]
    simp only [Bz9d, dnL_ints, go_sem, yz0, Int.reduceLT, reduceLE, reduceToNat, reduceNeg, Nat.reduceLT, reduceLeDiff, reduceMul, reduceSub, reduceIte, reduceEqDiff, reduceAdd, reduceCtorEq]
    intro vs4
    refine yz10 (k_count g (by omega)) qCS trivial ?_
    have hgd := natI_getD hi0
    have w2 : IntKind.i64.wrap (((R.getD (cntN g) 0 : Nat) : Int) + c) = ((R.getD (cntN g) 0 + c : Nat) : Int) := by rw [w64 (by omega)]; simp
    simp only [yz1d hi, hgd, w2, dn_putC hi, ← natI_set, go_sem, yz0, Int.reduceLT, reduceLE, reduceToNat, reduceNeg, Nat.reduceLT, reduceLeDiff, reduceMul, reduceSub, reduceIte, reduceEqDiff, reduceAdd, reduceCtorEq]
    refine ⟨⟨by omega, hi⟩, hi, ⟨by omega, hi⟩, hi, (R.set (cntN g) (R.getD (cntN g) 0 + c), vr, vi, some (g, c), rem'), hle, ⟨hsub, by simp [hl], fun r hr => ?_⟩, rfl⟩
    rw [← hs r hr]
    by_cases e : cntN g = r
    · subst e
      rw [if_pos rfl, Nat.mul_one, List.getD_eq_getElem?_getD, List.getElem?_set_self hi0, Option.getD_some, Nat.add_assoc]
    · rw [if_neg e, Nat.mul_zero, Nat.zero_add, List.getD_eq_getElem?_getD, List.getElem?_set_ne e, List.getD_eq_getElem?_getD, List.getD_eq_getElem?_getD]
def leastT (L : TS) (c : Nat) : Nat := L.foldl (fun o p => if cntN p.1 < o then cntN p.1 else o) c
theorem leastT_le : ∀ (L : TS) (c : Nat), leastT L c ≤ c ∧ ∀ p ∈ L, leastT L c ≤ cntN p.1
  | [], c => ⟨Nat.le_refl _, fun p hp => by simp at hp⟩
  | q :: L, c => by
    obtain ⟨h1, h2⟩ := leastT_le L (if cntN q.1 < c then cntN q.1 else c)
    have h1' : leastT (q :: L) c ≤ if cntN q.1 < c then cntN q.1 else c := h1
    refine ⟨?_, fun p hp => ?_⟩
    · split at h1' <;> omega
    · rcases List.mem_cons.1 hp with rfl | hp
      · split at h1' <;> omega
      · exact h2 p hp
theorem leastT_at : ∀ (L : TS) (c : Nat), leastT L c = c ∨ ∃ p ∈ L, leastT L c = cntN p.1
  | [], c => .inl rfl
  | q :: L, c => by
    rcases leastT_at L (if cntN q.1 < c then cntN q.1 else c) with h | ⟨p, hp, h⟩
    · have h : leastT (q :: L) c = if cntN q.1 < c then cntN q.1 else c := h
      by_cases e : cntN q.1 < c
      · rw [if_pos e] at h; exact .inr ⟨q, by simp, h⟩
      · rw [if_neg e] at h; exact .inl h
    · exact .inr ⟨p, by simp [hp], h⟩
theorem leastT_snoc {L : TS} {c : Nat} {q : Nat × List Int} : leastT (L ++ [q]) c = if cntN q.1 < leastT L c then cntN q.1 else leastT L c := by unfold leastT; rw [List.foldl_append]; rfl
theorem k_least (n : Int) (next : List (List Int)) (A : Aut n next) (f : Nat) (hf : f < 2 ^ n.toNat) :
    Fun Try.prog nz1f [autA n next, fv f] (iv (leastT (tourT next f) (cntN f) : Int)) := by
  refine fun_of mixed czhp rfl ⟨rfl, trivial⟩ ?_
  have n1 := A.n1
  have n2 := A.n2
  have hN : 2 ^ n.toNat ≤ 1024 := Nat.pow_le_pow_right (n := 2) (by omega) (show n.toNat ≤ 10 by omega)
  have hT : TI n.toNat next.length (tourT next f) := (runT_ok A 1100 0 _ (TI0 (m := next.length) hf)).1
  have hlen := hT.len
  generalize hQ : finQ _ = Q
  simp only [Az5g, Bzco, go_sem, yz0, Int.reduceLT, reduceLE, reduceToNat, reduceNeg, Nat.reduceLT, reduceLeDiff, reduceMul, reduceSub, reduceIte, reduceEqDiff, reduceAdd, reduceCtorEq]
  intro vs vs0
  refine yz10 (k_count f (by omega)) qCS trivial ?_
  simp only [Bzcn, go_sem, yz0, Int.reduceLT, reduceLE, reduceToNat, reduceNeg, Nat.reduceLT, reduceLeDiff, reduceMul, reduceSub, reduceIte, reduceEqDiff, reduceAdd, reduceCtorEq]
  intro vs2
  refine call_fn (k_tour n next A f hf) qCS (fun e => by cases e) ?_
  rintro rows res ⟨v1, v2, rfl, rfl⟩
  refine ⟨by simp, by rw [Option.getD_some, yzo]; simp only [go_sem, yz0, Int.reduceLT, reduceLE, reduceToNat, reduceNeg, Nat.reduceLT, reduceLeDiff, reduceMul, reduceSub, reduceIte, reduceEqDiff, reduceAdd, reduceCtorEq], ?_⟩
  simp only [Option.getD_some, Bzcl, Nat.not_lt_zero, range1, yzv, yzy, yz19, yz1b, yzz, yz1a, yz1c, yz17, yzx, yzp, yzf, yz3, yzs, yzq, yzn, yzm, yzt, yz7, yzd, yzb, yzc, yzi, yzh, yz2, yz6, yz8, yza, yzg, yzj, List.range_zero, yz5, yz4, yz9, yzr, yzl, yzo, AVal.fresh, freshL, yz1, yzk, AObj.fresh, id, Option.isSome_some, or_true, true_or, go_sem, yz0, Int.reduceLT, reduceLE, reduceToNat, reduceNeg, Nat.reduceLT, reduceLeDiff, reduceMul, reduceSub, reduceIte, reduceEqDiff, reduceAdd, reduceCtorEq]
  intro hM
  generalize tourT next f = T at hT hlen hQ hM
  refine wpD_lo (fun i => T.length - i) (fun i => i ≤ T.length)
    (fun (i : Nat) => ⟨Go.Ab.L .any [(5, iv (leastT (T.take i) (cntN f))), (13, .own 12 (vs2 2 v1)), (14, iv T.length), (15, iv i)],
      Go.Ab.L .gone [(2, .box (vs 0 0) [iv n, .ro none 1 (rwn next)]), (12, .row (vs2 2 v1) 1 true (intsK .u64 (setsI T))), (1012, .map (vs2 2 v2) (keysF T) (rws (T.map fun x => x.2)))]⟩)
    0 (by omega) (by simp only [Bz2h, List.take_zero, leastT, dnL_rws, go_sem, yz0, Int.reduceLT, reduceLE, reduceToNat, reduceNeg, Nat.reduceLT, reduceLeDiff, reduceMul, reduceSub, reduceIte, reduceEqDiff, reduceAdd, reduceCtorEq]; try rfl) ?_
  intro i hi
  by_cases hlt : (i : Int) < T.length
  · have hlt1 : i < T.length := by omega
    have wi : IntKind.i64.wrap ((i : Int) + 1) = ((i + 1 : Nat) : Int) := by rw [w64 (by omega)]; simp
    have hls : i < (setsI T).length := by simpa using hlt1
    have hm := yz16 hlt1 (0, ([] : List Int))
    have hfi := hT.rg _ hm
    have hsn : T.take (i + 1) = T.take i ++ [T.getD i (0, [])] := by rw [List.take_add_one, List.getD_eq_getElem?_getD, List.getElem?_eq_getElem hlt1]; rfl
    have hfi : (T.getD i (0, [])).1 < 1024 := by have : (T.getD i (0, [])).1 < 2 ^ n.toNat := hfi; omega
    have hcast : (if ((cntN (T.getD i (0, [])).1 : Nat) : Int) < ((leastT (T.take i) (cntN f) : Nat) : Int) then ((cntN (T.getD i (0, [])).1 : Nat) : Int) else ((leastT (T.take i) (cntN f) : Nat) : Int)) = ((leastT (T.take (i + 1)) (cntN f) : Nat) : Int) := by
      rw [hsn, leastT_snoc]
      split <;> split <;> omega
    simp only [Bz2h, Bz5f, Bzck, yz1d hls, setsI_getD hlt1, decide_eq_true hlt, dnL_rws, go_sem, yz0, Int.reduceLT, reduceLE, reduceToNat, reduceNeg, Nat.reduceLT, reduceLeDiff, reduceMul, reduceSub, reduceIte, reduceEqDiff, reduceAdd, reduceCtorEq]
    refine ⟨⟨by omega, hlt1⟩, hlt1, ?_⟩
    simp only [Bzcj, Bz5e, wi, dnL_rws, go_sem, yz0, Int.reduceLT, reduceLE, reduceToNat, reduceNeg, Nat.reduceLT, reduceLeDiff, reduceMul, reduceSub, reduceIte, reduceEqDiff, reduceAdd, reduceCtorEq]
    intro vs3
    refine yz10 (k_count _ hfi) qCS trivial ?_
    simp only [Bz5e, wi, hcast, dnL_rws, go_sem, yz0, Int.reduceLT, reduceLE, reduceToNat, reduceNeg, Nat.reduceLT, reduceLeDiff, reduceMul, reduceSub, reduceIte, reduceEqDiff, reduceAdd, reduceCtorEq]
    exact ⟨i + 1, by omega, by omega, rfl⟩
  · obtain rfl : i = T.length := by omega
    simp only [Bz2h, Bz5f, Bzcm, List.take_length, decide_eq_false hlt, Az5g, ← hQ, dnL_rws, go_sem, yz0, Int.reduceLT, reduceLE, reduceToNat, reduceNeg, Nat.reduceLT, reduceLeDiff, reduceMul, reduceSub, reduceIte, reduceEqDiff, reduceAdd, reduceCtorEq]
def rankT (next : List (List Int)) (n : Int) : Nat := leastT (tourT next (2 ^ n.toNat - 1)) (cntN (2 ^ n.toNat - 1))
theorem k_rank (n : Int) (next : List (List Int)) (A : Aut n next) : Fun Try.prog nz1c [autA n next] (iv (rankT next n : Int)) := by
  refine fun_of mixed czhj rfl ⟨rfl, trivial⟩ ?_
  have n1 := A.n1
  have n2 := A.n2
  have hp := Nat.two_pow_pos n.toNat
  simp only [Azc7, Bzc6, go_sem, yz0, Int.reduceLT, reduceLE, reduceToNat, reduceNeg, Nat.reduceLT, reduceLeDiff, reduceMul, reduceSub, reduceIte, reduceEqDiff, reduceAdd, reduceCtorEq]
  intro vs vs2
  refine call_rowI (k_all n next A) qCS rfl ⟨_, rfl⟩ ?_
  rintro xs v rfl
  simp only [go_sem, yz0, Int.reduceLT, reduceLE, reduceToNat, reduceNeg, Nat.reduceLT, reduceLeDiff, reduceMul, reduceSub, reduceIte, reduceEqDiff, reduceAdd, reduceCtorEq]
  refine yz10 (k_flockOf (allS n) (fun s hs => by have := allS_in s hs; omega)) qCS trivial ?_
  rw [maskN_all ⟨n1, n2⟩]
  simp only [go_sem, yz0, Int.reduceLT, reduceLE, reduceToNat, reduceNeg, Nat.reduceLT, reduceLeDiff, reduceMul, reduceSub, reduceIte, reduceEqDiff, reduceAdd, reduceCtorEq]
  refine yz10 (k_least n next A (2 ^ n.toNat - 1) (by omega)) qCS trivial ?_
  simp only [rankT, go_sem, yz0, Int.reduceLT, reduceLE, reduceToNat, reduceNeg, Nat.reduceLT, reduceLeDiff, reduceMul, reduceSub, reduceIte, reduceEqDiff, reduceAdd, reduceCtorEq]
theorem k_RankOf (n : Int) (next : List (List Int)) (A : Aut n next) : Fun2 Try.prog nz37 [autA n next] (.int .i64 (rankT next n : Int)) (.int .i64 0) := by
  refine fun2_of mixed czgs rfl ?_
  have hva := k_Valid n next
  rw [autB_iff.2 A] at hva
  simp only [Az8x, Bz8w, go_sem, yz0, Int.reduceLT, reduceLE, reduceToNat, reduceNeg, Nat.reduceLT, reduceLeDiff, reduceMul, reduceSub, reduceIte, reduceEqDiff, reduceAdd, reduceCtorEq]
  intro vs vs2
  refine yz10 hva qCS trivial ?_
  simp only [Bz8u, Bz8v, Bool.not_true, go_sem, yz0, Int.reduceLT, reduceLE, reduceToNat, reduceNeg, Nat.reduceLT, reduceLeDiff, reduceMul, reduceSub, reduceIte, reduceEqDiff, reduceAdd, reduceCtorEq]
  intro vs3
  refine yz10 (k_rank n next A) qCS trivial ?_
  simp only [go_sem, yz0, Int.reduceLT, reduceLE, reduceToNat, reduceNeg, Nat.reduceLT, reduceLeDiff, reduceMul, reduceSub, reduceIte, reduceEqDiff, reduceAdd, reduceCtorEq]
theorem k_RankOfSet_1 (n : Int) (next : List (List Int)) (set : List Int) (hn : 1 ≤ n ∧ n ≤ 10) : Fun Try.prog nz1e [.rp [.ro none 1 (ints set)] 0, autP n next] (bv (setB n set)) := by
  refine fun_of mixed czho rfl ⟨rfl, trivial⟩ ?_
  simp only [Bzch, Azci, go_sem, yz0, Int.reduceLT, reduceLE, reduceToNat, reduceNeg, Nat.reduceLT, reduceLeDiff, reduceMul, reduceSub, reduceIte, reduceEqDiff, reduceAdd, reduceCtorEq]
  intro vs
  refine yz10 (k_isSet set n hn) qCS trivial ?_
  simp only [go_sem, yz0, Int.reduceLT, reduceLE, reduceToNat, reduceNeg, Nat.reduceLT, reduceLeDiff, reduceMul, reduceSub, reduceIte, reduceEqDiff, reduceAdd, reduceCtorEq]
theorem k_RankOfSet (n : Int) (next : List (List Int)) (A : Aut n next) (set : List Int) (hs : setB n set = true) (hm : maskN set < 2 ^ n.toNat) :
    Fun2 Try.prog nz3a [autA n next, .ro none 1 (ints set)] (.int .i64 (leastT (tourT next (maskN set)) (cntN (maskN set)) : Int)) (.int .i64 0) := by
  refine fun2_of mixed czgw rfl ?_
  have n1 := A.n1
  have n2 := A.n2
  have hsr := (setB_iff.1 hs).2
  have hcode := k_code n next nz1e [.rp [.ro none 1 (ints set)] 0, autP n next] _ ⟨by simp only [go_sem, yz0, Int.reduceLT, reduceLE, reduceToNat, reduceNeg, Nat.reduceLT, reduceLeDiff, reduceMul, reduceSub, reduceIte, reduceEqDiff, reduceAdd, reduceCtorEq], by intros; simp only [rowIs, boxIs, coe_argN, yz1f, coe_ro_o, yz18, yzw, coe_any, coe_val, coe_ro, yz12, yz15, coe_st, yz13, coe_rp, yz14, coe_clo, coe_own0, yz1g, yz11, coeL_rws, coeL_rwn, L_hit, L_miss, L_nil, reduceEqDiff, ne_eq, reduceCtorEq, not_false_eq_true, true_and, and_true, and_self, exists_eq_left, exists_eq_right, List.mem_cons, List.not_mem_nil, or_false, AObj.row.injEq, AObj.box.injEq, exists_eq_left', exists_and_left, exists_eq, Nat.zero_lt_one, Nat.lt_add_one, List.map_cons, List.map_nil, AObj.ver, Nat.reduceLT, not_true_eq_false]⟩ (fun hv => k_RankOfSet_1 n next set ⟨n1, n2⟩)
  rw [hs, autB_iff.2 A] at hcode
  have e00 : ((0 : Int) != 0) = false := rfl
  simp only [Az9a, Bz99, go_sem, yz0, Int.reduceLT, reduceLE, reduceToNat, reduceNeg, Nat.reduceLT, reduceLeDiff, reduceMul, reduceSub, reduceIte, reduceEqDiff, reduceAdd, reduceCtorEq]
  intro vs vs2
  refine yz10 hcode qCS trivial ?_
  simp only [codeI, if_true, Bz97, Bz96, Bz98, e00, go_sem, yz0, Int.reduceLT, reduceLE, reduceToNat, reduceNeg, Nat.reduceLT, reduceLeDiff, reduceMul, reduceSub, reduceIte, reduceEqDiff, reduceAdd, reduceCtorEq]
  intro vs3
  refine yz10 (k_flockOf set (fun s h => by have := hsr s h; omega)) qCS trivial ?_
  simp only [go_sem, yz0, Int.reduceLT, reduceLE, reduceToNat, reduceNeg, Nat.reduceLT, reduceLeDiff, reduceMul, reduceSub, reduceIte, reduceEqDiff, reduceAdd, reduceCtorEq]
  refine yz10 (k_least n next A (maskN set) hm) qCS trivial ?_
  simp only [go_sem, yz0, Int.reduceLT, reduceLE, reduceToNat, reduceNeg, Nat.reduceLT, reduceLeDiff, reduceMul, reduceSub, reduceIte, reduceEqDiff, reduceAdd, reduceCtorEq]
theorem k_RankWord_1 (f r : Nat) (hf : f < 1024) : Fun Try.prog nz1d [fv f, .rp [iv (r : Int)] 0] (bv (cntN f == r)) := by
  refine fun_of mixed czhm rfl ⟨rfl, trivial⟩ ?_
  have e : (((cntN f : Nat) : Int) == (r : Int)) = (cntN f == r) := by
    rw [Bool.eq_iff_iff, beq_iff_eq, beq_iff_eq]; omega
  simp only [Bzcd, Azce, go_sem, yz0, Int.reduceLT, reduceLE, reduceToNat, reduceNeg, Nat.reduceLT, reduceLeDiff, reduceMul, reduceSub, reduceIte, reduceEqDiff, reduceAdd, reduceCtorEq]
  intro vs
  refine yz10 (k_count f hf) qCS trivial ?_
  simp only [e, go_sem, yz0, Int.reduceLT, reduceLE, reduceToNat, reduceNeg, Nat.reduceLT, reduceLeDiff, reduceMul, reduceSub, reduceIte, reduceEqDiff, reduceAdd, reduceCtorEq]
theorem k_RankWord (n : Int) (next : List (List Int)) (A : Aut n next) :
    Con Try.prog nz38 [] [autA n next] true fun outs rows res => outs = [] ∧ rows = [] ∧ res = findR ((tourT next (2 ^ n.toNat - 1)).find? fun q => cntN q.1 == rankT next n) := by
  refine con_sh mixed czgu rfl (by simp) ?_
  have n1 := A.n1
  have n2 := A.n2
  have hp := Nat.two_pow_pos n.toNat
  have hN : 2 ^ n.toNat ≤ 1024 := Nat.pow_le_pow_right (n := 2) (by omega) (show n.toNat ≤ 10 by omega)
  have hT : TI n.toNat next.length (tourT next (2 ^ n.toNat - 1)) := (runT_ok A 1100 0 _ (TI0 (m := next.length) (show 2 ^ n.toNat - 1 < 2 ^ n.toNat by omega))).1
  have hva := k_Valid n next
  rw [autB_iff.2 A] at hva
  generalize hr : rankT next n = r
  have hrk := k_rank n next A
  rw [hr] at hrk
  have hF := k_firstG n.toNat next.length (tourT next (2 ^ n.toNat - 1)) hT hN nz1d [iv (r : Int)] (fun f => cntN f == r) ⟨by simp only [go_sem, yz0, Int.reduceLT, reduceLE, reduceToNat, reduceNeg, Nat.reduceLT, reduceLeDiff, reduceMul, reduceSub, reduceIte, reduceEqDiff, reduceAdd, reduceCtorEq], by intros; simp only [rowIs, boxIs, coe_argN, yz1f, coe_ro_o, yz18, yzw, coe_any, coe_val, coe_ro, yz12, yz15, coe_st, yz13, coe_rp, yz14, coe_clo, coe_own0, yz1g, yz11, coeL_rws, coeL_rwn, L_hit, L_miss, L_nil, reduceEqDiff, ne_eq, reduceCtorEq, not_false_eq_true, true_and, and_true, and_self, exists_eq_left, exists_eq_right, List.mem_cons, List.not_mem_nil, or_false, AObj.row.injEq, AObj.box.injEq, exists_eq_left', exists_and_left, exists_eq, Nat.zero_lt_one, Nat.lt_add_one, List.map_cons, List.map_nil, AObj.ver, Nat.reduceLT, not_true_eq_false]⟩ (by simp only [go_sem, yz0, Int.reduceLT, reduceLE, reduceToNat, reduceNeg, Nat.reduceLT, reduceLeDiff, reduceMul, reduceSub, reduceIte, reduceEqDiff, reduceAdd, reduceCtorEq]) (by intros; simp only [Nat.not_lt_zero, range1, yzv, yzy, yz19, yz1b, yzz, yz1a, yz1c, yz17, yzx, yzp, yzf, yz3, yzs, yzq, yzn, yzm, yzt, yz7, yzd, yzb, yzc, yzi, yzh, yz2, yz6, yz8, yza, yzg, yzj, List.range_zero, yz5, yz4, yz9, yzr, yzl, yzo, AVal.fresh, freshL, yz1, yzk, AObj.fresh, id, Option.isSome_some, or_true, true_or]) (by intros; simp only [rowIs, boxIs, coe_argN, yz1f, coe_ro_o, yz18, yzw, coe_any, coe_val, coe_ro, yz12, yz15, coe_st, yz13, coe_rp, yz14, coe_clo, coe_own0, yz1g, yz11, coeL_rws, coeL_rwn, L_hit, L_miss, L_nil, reduceEqDiff, ne_eq, reduceCtorEq, not_false_eq_true, true_and, and_true, and_self, exists_eq_left, exists_eq_right, List.mem_cons, List.not_mem_nil, or_false, AObj.row.injEq, AObj.box.injEq, exists_eq_left', exists_and_left, exists_eq, Nat.zero_lt_one, Nat.lt_add_one, List.map_cons, List.map_nil, AObj.ver, Nat.reduceLT, not_true_eq_false])
    (fun q hq => k_RankWord_1 q.1 r (by have := hT.rg _ hq; omega))
  generalize hQ : finQ _ = Q
  simp only [Az1w, Bz93, go_sem, yz0, Int.reduceLT, reduceLE, reduceToNat, reduceNeg, Nat.reduceLT, reduceLeDiff, reduceMul, reduceSub, reduceIte, reduceEqDiff, reduceAdd, reduceCtorEq]
  intro vs vs2
  refine yz10 hva qCS trivial ?_
  simp only [Bz90, Bz92, Bool.not_true, go_sem, yz0, Int.reduceLT, reduceLE, reduceToNat, reduceNeg, Nat.reduceLT, reduceLeDiff, reduceMul, reduceSub, reduceIte, reduceEqDiff, reduceAdd, reduceCtorEq]
  intro vs3
  refine yz10 hrk qCS trivial ?_
  simp only [Bz91, go_sem, yz0, Int.reduceLT, reduceLE, reduceToNat, reduceNeg, Nat.reduceLT, reduceLeDiff, reduceMul, reduceSub, reduceIte, reduceEqDiff, reduceAdd, reduceCtorEq]
  intro vs4
  refine call_rowI (k_all n next A) qCS rfl ⟨_, rfl⟩ ?_
  rintro xs v rfl
  simp only [go_sem, yz0, Int.reduceLT, reduceLE, reduceToNat, reduceNeg, Nat.reduceLT, reduceLeDiff, reduceMul, reduceSub, reduceIte, reduceEqDiff, reduceAdd, reduceCtorEq]
  refine yz10 (k_flockOf (allS n) (fun s hs => by have := allS_in s hs; omega)) qCS trivial ?_
  rw [maskN_all ⟨n1, n2⟩]
  simp only [go_sem, yz0, Int.reduceLT, reduceLE, reduceToNat, reduceNeg, Nat.reduceLT, reduceLeDiff, reduceMul, reduceSub, reduceIte, reduceEqDiff, reduceAdd, reduceCtorEq]
  refine call_fn (k_tour n next A (2 ^ n.toNat - 1) (by omega)) qCS (fun _ => ⟨_, _, 0, 0, rfl, rfl⟩) ?_
  rintro rows res ⟨v1, v2, rfl, rfl⟩
  refine ⟨by simp, by rw [Option.getD_some, yzo]; simp only [go_sem, yz0, Int.reduceLT, reduceLE, reduceToNat, reduceNeg, Nat.reduceLT, reduceLeDiff, reduceMul, reduceSub, reduceIte, reduceEqDiff, reduceAdd, reduceCtorEq], ?_⟩
  simp only [Option.getD_some, Nat.not_lt_zero, range1, yzv, yzy, yz19, yz1b, yzz, yz1a, yz1c, yz17, yzx, yzp, yzf, yz3, yzs, yzq, yzn, yzm, yzt, yz7, yzd, yzb, yzc, yzi, yzh, yz2, yz6, yz8, yza, yzg, yzj, List.range_zero, yz5, yz4, yz9, yzr, yzl, yzo, AVal.fresh, freshL, yz1, yzk, AObj.fresh, id, Option.isSome_some, or_true, true_or, go_sem, yz0, Int.reduceLT, reduceLE, reduceToNat, reduceNeg, Nat.reduceLT, reduceLeDiff, reduceMul, reduceSub, reduceIte, reduceEqDiff, reduceAdd, reduceCtorEq]
  refine call_rm3 hF rfl rfl rfl (by simp) qCS qCS (by simp only [rowIs, boxIs, coe_argN, yz1f, coe_ro_o, yz18, yzw, coe_any, coe_val, coe_ro, yz12, yz15, coe_st, yz13, coe_rp, yz14, coe_clo, coe_own0, yz1g, yz11, coeL_rws, coeL_rwn, L_hit, L_miss, L_nil, reduceEqDiff, ne_eq, reduceCtorEq, not_false_eq_true, true_and, and_true, and_self, exists_eq_left, exists_eq_right, List.mem_cons, List.not_mem_nil, or_false, AObj.row.injEq, AObj.box.injEq, exists_eq_left', exists_and_left, exists_eq, Nat.zero_lt_one, Nat.lt_add_one, List.map_cons, List.map_nil, AObj.ver, Nat.reduceLT, not_true_eq_false]) ?_
  cases hf : (tourT next (2 ^ n.toNat - 1)).find? fun q => cntN q.1 == r with
  | some p =>
    obtain ⟨f, w⟩ := p
    simp only [findR, Nat.not_lt_zero, range1, yzv, yzy, yz19, yz1b, yzz, yz1a, yz1c, yz17, yzx, yzp, yzf, yz3, yzs, yzq, yzn, yzm, yzt, yz7, yzd, yzb, yzc, yzi, yzh, yz2, yz6, yz8, yza, yzg, yzj, List.range_zero, yz5, yz4, yz9, yzr, yzl, yzo, AVal.fresh, freshL, yz1, yzk, AObj.fresh, id, Option.isSome_some, or_true, true_or, go_sem, yz0, Int.reduceLT, reduceLE, reduceToNat, reduceNeg, Nat.reduceLT, reduceLeDiff, reduceMul, reduceSub, reduceIte, reduceEqDiff, reduceAdd, reduceCtorEq]
    rw [← hQ]
    simp only [Az1w, hf, findR, Nat.not_lt_zero, range1, yzv, yzy, yz19, yz1b, yzz, yz1a, yz1c, yz17, yzx, yzp, yzf, yz3, yzs, yzq, yzn, yzm, yzt, yz7, yzd, yzb, yzc, yzi, yzh, yz2, yz6, yz8, yza, yzg, yzj, List.range_zero, yz5, yz4, yz9, yzr, yzl, yzo, AVal.fresh, freshL, yz1, yzk, AObj.fresh, id, Option.isSome_some, or_true, true_or, go_sem, yz0, Int.reduceLT, reduceLE, reduceToNat, reduceNeg, Nat.reduceLT, reduceLeDiff, reduceMul, reduceSub, reduceIte, reduceEqDiff, reduceAdd, reduceCtorEq]
    exact ⟨[], by simp, by simp, by simp, by simp⟩
  | none =>
    simp only [findR, Nat.not_lt_zero, range1, yzv, yzy, yz19, yz1b, yzz, yz1a, yz1c, yz17, yzx, yzp, yzf, yz3, yzs, yzq, yzn, yzm, yzt, yz7, yzd, yzb, yzc, yzi, yzh, yz2, yz6, yz8, yza, yzg, yzj, List.range_zero, yz5, yz4, yz9, yzr, yzl, yzo, AVal.fresh, freshL, yz1, yzk, AObj.fresh, id, Option.isSome_some, or_true, true_or, go_sem, yz0, Int.reduceLT, reduceLE, reduceToNat, reduceNeg, Nat.reduceLT, reduceLeDiff, reduceMul, reduceSub, reduceIte, reduceEqDiff, reduceAdd, reduceCtorEq]
    rw [← hQ]
    simp only [Az1w, hf, findR, Nat.not_lt_zero, range1, yzv, yzy, yz19, yz1b, yzz, yz1a, yz1c, yz17, yzx, yzp, yzf, yz3, yzs, yzq, yzn, yzm, yzt, yz7, yzd, yzb, yzc, yzi, yzh, yz2, yz6, yz8, yza, yzg, yzj, List.range_zero, yz5, yz4, yz9, yzr, yzl, yzo, AVal.fresh, freshL, yz1, yzk, AObj.fresh, id, Option.isSome_some, or_true, true_or, go_sem, yz0, Int.reduceLT, reduceLE, reduceToNat, reduceNeg, Nat.reduceLT, reduceLeDiff, reduceMul, reduceSub, reduceIte, reduceEqDiff, reduceAdd, reduceCtorEq]
    exact ⟨[], by simp, by simp, by simp, by simp⟩
end Go.Ab
namespace Go.Ab
open Go.Proofs
def rww (x : List (List (List Int))) : List AVal := x.map fun xss => .ro (some none) 1 (rws xss)
def rwwn (x : List (List (List Int))) : List AVal := x.map fun xss => .ro none 1 (rwn xss)
theorem dnL_rww {x : List (List (List Int))} : dnL (rww x) = rww x := by
  simp only [dnL_eq, rww, List.map_map]
  exact List.map_congr_left fun o _ => by simp [AVal.dn, dnL_rws, dnNm]
theorem dnL_rwwn {x : List (List (List Int))} : dnL (rwwn x) = rwwn x := by
  simp only [dnL_eq, rwwn, List.map_map]
  exact List.map_congr_left fun o _ => by simp [AVal.dn, dnL_rwn, dnNm]
theorem one_rww {hp : Nat → AObj} {x : List (List (List Int))} : (∀ A ∈ rww x, One hp A) = True := by
  refine eq_true ?_
  intro A hA
  simp only [rww, List.mem_map] at hA
  obtain ⟨y, _, rfl⟩ := hA
  exact trivial
theorem frz_rww {hp : Nat → AObj} {x : List (List (List Int))} : (rww x).map (frz hp) = rww x := by simp [rww, frz]
theorem owned_rww : ∀ {x : List (List (List Int))}, owned (rww x) = []
  | [] => rfl
  | _ :: x => owned_rww (x := x)
theorem rww_snoc {x : List (List (List Int))} {y : List (List Int)} : rww x ++ [.ro (some none) 1 (rws y)] = rww (x ++ [y]) := by simp [rww]
theorem rww_len {x : List (List (List Int))} : (rww x).length = x.length := by simp [rww]
theorem rwwn_len {x : List (List (List Int))} : (rwwn x).length = x.length := by simp [rwwn]
theorem rww_nil : rww [] = [] := rfl
attribute [go_sem] dnL_rww dnL_rwwn one_rww frz_rww owned_rww rww_snoc rww_len rwwn_len rww_nil
structure Chc (n : Int) (nx : List (List (List Int))) : Prop where
  n1 : 1 ≤ n
  n2 : n ≤ 10
  l1 : 1 ≤ nx.length
  l2 : nx.length ≤ 3
  row : ∀ r ∈ nx, (r.length : Int) = n ∧ ∀ s ∈ r, setB n s = true
end Go.Ab
namespace Go.Ab
open Go.Proofs
end Go.Ab
namespace Go.Ab
open Go.Proofs
structure Prt (n : Int) (next : List (List Int)) : Prop where
  n1 : 1 ≤ n
  n2 : n ≤ 10
  l1 : 1 ≤ next.length
  l2 : next.length ≤ 3
  row : ∀ row ∈ next, (row.length : Int) = n ∧ ∀ x ∈ row, -1 ≤ x ∧ x < n
theorem Prt.at {n : Int} {next : List (List Int)} (P : Prt n next) {l : Nat} (hl : l < next.length) {s : Int} (hs : 0 ≤ s ∧ s < n) : s.toNat < (next.getD l []).length ∧ -1 ≤ (next.getD l []).getD s.toNat 0 ∧ (next.getD l []).getD s.toNat 0 < n := by
  have h1 := P.row _ (yz16 hl [])
  have h2 : s.toNat < (next.getD l []).length := by omega
  have h3 := h1.2 _ (yz16 h2 0)
  exact ⟨h2, h3⟩
end Go.Ab
namespace Go.Ab
open Go.Proofs
end Go.Ab
namespace Go.Ab
open Go.Proofs
theorem bitsTo_eq {f : Nat} : bitsTo f 10 = (bitsN f).map fun (s : Nat) => (s : Int) := rfl
theorem mem_bitsTo {f : Nat} {x : Int} : x ∈ bitsTo f 10 ↔ 0 ≤ x ∧ x < 10 ∧ f.testBit x.toNat = true := by
  rw [bitsTo_eq, List.mem_map]
  constructor
  · rintro ⟨s, hs, rfl⟩
    rw [mem_bits] at hs
    exact ⟨by omega, by omega, by rw [Int.toNat_natCast]; exact hs.2⟩
  · rintro ⟨h1, h2, h3⟩
    exact ⟨x.toNat, mem_bits.2 ⟨by omega, h3⟩, by omega⟩
end Go.Ab
namespace Go.Ab
open Go.Proofs
theorem bitsN_SI {f : Nat} : SI (bitsTo f 10) := by
  rw [bitsTo_eq]
  unfold SI
  rw [List.pairwise_map]
  unfold bitsN
  exact (List.Pairwise.filter _ List.pairwise_lt_range).imp fun h => by omega
theorem or_bits : ∀ (set : List Int) (o t : Nat), (set.foldl (fun o s => o ||| 2 ^ s.toNat) o).testBit t = (o.testBit t || set.any fun s => s.toNat == t)
  | [], o, t => by simp
  | s :: set, o, t => by
    rw [List.foldl_cons, or_bits set, Nat.testBit_or, Nat.testBit_two_pow, List.any_cons, Bool.or_assoc]
    congr 1
theorem img_bits {n : Int} {next : List (List Int)} (A : Aut n next) {w : List Int} (hw : IsW next.length w) : nrm ((allS n).map fun s => atA next s w) = bitsTo (imN next (2 ^ n.toNat - 1) w) 10 := by
  have n1 := A.n1
  have n2 := A.n2
  have hp := Nat.two_pow_pos n.toNat
  obtain ⟨h1, h2⟩ := imN_bit A w (f := 2 ^ n.toNat - 1) (by omega) hw
  refine SI_ext (nrm_SI _) bitsN_SI fun x => ?_
  rw [nrm_mem, List.mem_map, bitsTo_eq, List.mem_map]
  constructor
  · rintro ⟨s, hs, rfl⟩
    have hs := allS_in s hs
    have hs2 := A.at (w := w) hs hw
    refine ⟨(atA next s w).toNat, (h2 _).2 ⟨s.toNat, (all_bits ⟨n1, n2⟩).2 (by omega), by rw [show ((s.toNat : Nat) : Int) = s by omega]; omega⟩, by omega⟩
  · rintro ⟨t, ht, rfl⟩
    obtain ⟨s, hs, e⟩ := (h2 t).1 ht
    have b := (all_bits ⟨n1, n2⟩).1 hs
    refine ⟨(s : Int), ?_, e⟩
    unfold allS
    exact List.mem_map.2 ⟨s, List.mem_range.2 (by omega), rfl⟩
end Go.Ab
namespace Go.Ab
open Go Go.Proofs
theorem cntN_bits {f : Nat} : cntN f = (bitsN f).length := by unfold cntN; rw [bitsTo_eq, List.length_map]
theorem cntN_small {f : Nat} (hf : f < 1024) : smallN f = decide (cntN f ≤ 1) := by rw [small_bits f hf, cntN_bits]
theorem bitsN_nodup {f : Nat} : (bitsN f).Nodup := List.nodup_range.sublist List.filter_sublist
theorem nodup_le {l : List Nat} (h : l.Nodup) : ∀ (m : List Nat), (∀ x ∈ l, x ∈ m) → l.length ≤ m.length := by
  induction l with
  | nil => intro m _; simp
  | cons a l ih =>
    intro m hm
    rw [List.nodup_cons] at h
    have ha := hm a (by simp)
    have := ih h.2 (m.erase a) fun x hx => by
      have hne : x ≠ a := fun e => h.1 (e ▸ hx)
      exact (List.mem_erase_of_ne hne).2 (hm x (by simp [hx]))
    rw [List.length_erase_of_mem ha] at this
    have hp := List.length_pos_of_mem ha
    simp only [List.length_cons]; omega
theorem cntN_mono {f g : Nat} (h : ∀ t ∈ bitsN f, t ∈ bitsN g) : cntN f ≤ cntN g := by
  rw [cntN_bits, cntN_bits]; exact nodup_le bitsN_nodup _ h
theorem cntN_pos {f t : Nat} (h : t ∈ bitsN f) : 1 ≤ cntN f := by rw [cntN_bits]; exact List.length_pos_of_mem h
theorem bitsN_lt {N f t : Nat} (hf : f < 2 ^ N) (ht : t ∈ bitsN f) : t < N := by
  rw [mem_bits] at ht
  rcases Nat.lt_or_ge t N with g | g
  · exact g
  · have := Nat.testBit_lt_two_pow (x := f) (i := t) (Nat.lt_of_lt_of_le hf (Nat.pow_le_pow_right (by omega) g))
    rw [this] at ht; simp at ht
theorem img_set {n : Int} {next : List (List Int)} (A : Aut n next) {f : Nat} (hf : f < 2 ^ n.toNat) {w : List Int} (hw : IsW next.length w) : nrm ((bitsTo f 10).map fun s => atA next s w) = bitsTo (imN next f w) 10 := by
  have n1 := A.n1
  have n2 := A.n2
  obtain ⟨h1, h2⟩ := imN_bit A w hf hw
  refine SI_ext (nrm_SI _) bitsN_SI fun x => ?_
  rw [nrm_mem, List.mem_map, bitsTo_eq, bitsTo_eq]
  constructor
  · rintro ⟨s, hs, rfl⟩
    obtain ⟨t, ht, rfl⟩ := List.mem_map.1 hs
    have htl := bitsN_lt hf ht
    have hs2 := A.at (s := (t : Int)) (w := w) (by omega) hw
    exact List.mem_map.2 ⟨(atA next t w).toNat, (h2 _).2 ⟨t, ht, by omega⟩, by omega⟩
  · intro hx
    obtain ⟨t, ht, rfl⟩ := List.mem_map.1 hx
    obtain ⟨s, hs, e⟩ := (h2 t).1 ht
    exact ⟨(s : Int), List.mem_map_of_mem hs, e⟩
theorem set_bits {n : Int} {set : List Int} (hn : n ≤ 10) (hs : setB n set = true) : maskN set < 2 ^ n.toNat ∧ bitsTo (maskN set) 10 = set := by
  have h := setB_iff.1 hs
  have hlt : maskN set < 2 ^ n.toNat := by
    apply Nat.lt_pow_two_of_testBit
    intro i hi
    rw [Bool.eq_false_iff]
    intro hc
    unfold maskN at hc
    rw [or_bits, Nat.zero_testBit, Bool.false_or, List.any_eq_true] at hc
    obtain ⟨s, h1, h2⟩ := hc
    have h3 := h.2 s h1
    have : s.toNat = i := by simpa using h2
    omega
  refine ⟨hlt, SI_ext bitsN_SI h.1 fun x => ?_⟩
  rw [mem_bitsTo]
  unfold maskN
  rw [or_bits, Nat.zero_testBit, Bool.false_or, List.any_eq_true]
  constructor
  · rintro ⟨h1, h2, s, h3, h4⟩
    have h5 := h.2 s h3
    have : s.toNat = x.toNat := by simpa using h4
    rw [show x = s by omega]; exact h3
  · intro hx
    have h5 := h.2 x hx
    exact ⟨by omega, by omega, x, hx, by simp⟩
theorem leastT_word {n : Int} {next : List (List Int)} (A : Aut n next) {f : Nat} (hf : f < 2 ^ n.toNat) : (∀ w : List Int, IsW next.length w → leastT (tourT next f) (cntN f) ≤ cntN (imN next f w)) ∧ ∃ p ∈ tourT next f, leastT (tourT next f) (cntN f) = cntN p.1 := by
  constructor
  · intro w hw
    obtain ⟨j, hj, h1, _⟩ := tour_le A hf w.length w rfl hw
    rw [← h1]
    exact (leastT_le _ _).2 _ (yz16 hj _)
  · rcases leastT_at (tourT next f) (cntN f) with h | h
    · obtain ⟨j, hj, h1, _⟩ := tour_le A hf 0 [] rfl (by intro x hx; simp at hx)
      exact ⟨_, yz16 hj (0, []), by rw [h, h1]; rfl⟩
    · exact h
theorem least_word {n : Int} {next : List (List Int)} (A : Aut n next) {f : Nat} (hf : f < 2 ^ n.toNat) : ∃ w, IsW next.length w ∧ leastT (tourT next f) (cntN f) = cntN (imN next f w) := by
  obtain ⟨p, hp, h⟩ := (leastT_word A hf).2
  have hT := (runT_ok A 1100 0 _ (TI0 (m := next.length) hf)).1
  have hS := two_snd (next := next) (f := f) p hp
  exact ⟨p.2, (hT.wd p hp).1, by rw [h, hS]⟩
theorem img_pos {n : Int} {next : List (List Int)} (A : Aut n next) {f s : Nat} (hf : f < 2 ^ n.toNat) (hs : s ∈ bitsN f) {w : List Int} (hw : IsW next.length w) : 1 ≤ cntN (imN next f w) := by
  obtain ⟨_, h2⟩ := imN_bit A w hf hw
  have hsl := bitsN_lt hf hs
  have hs2 := A.at (s := (s : Int)) (w := w) (by omega) hw
  exact cntN_pos ((h2 (atA next s w).toNat).2 ⟨s, hs, by omega⟩)
theorem rank_facts {n : Int} {next : List (List Int)} (A : Aut n next) :
    1 ≤ rankT next n ∧ (∀ w : List Int, IsW next.length w → rankT next n ≤ cntN (imN next (2 ^ n.toNat - 1) w)) ∧ ((rankT next n = 1) ↔ (firstT (tourT next (2 ^ n.toNat - 1))).isSome = true) := by
  have n1 := A.n1
  have n2 := A.n2
  have hp := Nat.two_pow_pos n.toNat
  have hF : 2 ^ n.toNat - 1 < 2 ^ n.toNat := by omega
  have h0 : 0 ∈ bitsN (2 ^ n.toNat - 1) := (all_bits ⟨n1, n2⟩).2 (by omega)
  obtain ⟨w0, hw0, he0⟩ := least_word A hF
  have h1 : 1 ≤ rankT next n := by unfold rankT; rw [he0]; exact img_pos A hF h0 hw0
  have hN : 2 ^ n.toNat ≤ 1024 := Nat.pow_le_pow_right (n := 2) (by omega) (show n.toNat ≤ 10 by omega)
  refine ⟨h1, (leastT_word A hF).1, ?_⟩
  have hlt : ∀ w : List Int, IsW next.length w → imN next (2 ^ n.toNat - 1) w < 1024 := fun w hw => by have := (imN_bit A w hF hw).1; omega
  rw [tour_can A]
  constructor
  · intro h
    unfold rankT at h
    rw [he0] at h
    have hsm : smallN (imN next (2 ^ n.toNat - 1) w0) = true := by rw [cntN_small (hlt w0 hw0), h]; rfl
    exact ⟨w0, hw0, (small_can A hw0).1 hsm⟩
  · rintro ⟨w, hw, h⟩
    have hsm := (small_can A hw).2 h
    rw [cntN_small (hlt w hw), decide_eq_true_eq] at hsm
    have := (leastT_word A hF).1 w hw
    unfold rankT at h1 ⊢
    omega
theorem part_facts {n : Int} {next : List (List Int)} (A : Aut n next) {f : Nat} (hf : f < 2 ^ n.toNat) :
    leastT (tourT next f) (cntN f) ≤ rankT next n ∧ (leastT (tourT next f) (cntN f) = 0 ↔ cntN f = 0) := by
  have n1 := A.n1
  have n2 := A.n2
  have hp := Nat.two_pow_pos n.toNat
  have hF : 2 ^ n.toNat - 1 < 2 ^ n.toNat := by omega
  constructor
  · obtain ⟨w, hw, he⟩ := least_word A hF
    unfold rankT
    rw [he]
    refine Nat.le_trans ((leastT_word A hf).1 w hw) (cntN_mono fun t ht => ?_)
    obtain ⟨s, hs, e⟩ := ((imN_bit A w hf hw).2 t).1 ht
    exact ((imN_bit A w hF hw).2 t).2 ⟨s, (all_bits ⟨n1, n2⟩).2 (by have := bitsN_lt hf hs; omega), e⟩
  · constructor
    · intro h
      rcases Nat.eq_zero_or_pos (cntN f) with e | e
      · exact e
      · rw [cntN_bits] at e
        obtain ⟨s, hs⟩ := List.exists_mem_of_length_pos e
        obtain ⟨w, hw, he⟩ := least_word A hf
        have := img_pos A hf hs hw
        omega
    · intro h
      have := (leastT_le (tourT next f) (cntN f)).1
      omega
def belowN (next : List (List Int)) (n : Int) (k b : Nat) : Nat := wnum next k (fun f => if cntN f < b then 1 else 0) (2 ^ n.toNat - 1)
theorem belowN_zero {next : List (List Int)} {n : Int} {k : Nat} : belowN next n k 0 = 0 := wnum_nil fun w _ _ => by simp
theorem belowN_succ {next : List (List Int)} {n : Int} {k b : Nat} : belowN next n k (b + 1) = belowN next n k b + rnkN next n k b := by
  unfold belowN rnkN
  rw [← wnum_add]
  refine wnum_congr k fun w _ _ => ?_
  split <;> split <;> split <;> omega
theorem belowN_all {n : Int} {next : List (List Int)} (A : Aut n next) {k : Nat} : belowN next n k (n.toNat + 1) = next.length ^ k := by
  have n2 := A.n2
  have hp := Nat.two_pow_pos n.toNat
  unfold belowN
  rw [wnum_congr (ψ := fun _ => 1) k fun w _ hw => ?_, wnum_one, Nat.mul_one]
  have h1 := (imN_bit A w (f := 2 ^ n.toNat - 1) (by omega) hw).1
  have := cntN_le (N := n.toNat) (by omega) h1
  rw [if_pos (by omega)]
theorem belowN_le {n : Int} {next : List (List Int)} (A : Aut n next) {k : Nat} (hk : k ≤ 20) : ∀ b, belowN next n k b ≤ 3486784401 := fun b => by
  have l2 := A.l2
  have h3 : 3 ^ k ≤ 3 ^ 20 := Nat.pow_le_pow_right (by omega) hk
  have h4 := Nat.pow_le_pow_left l2 k
  have : belowN next n k b ≤ belowN next n k b + wnum next k (fun f => if cntN f < b then 0 else 1) (2 ^ n.toNat - 1) := by omega
  refine Nat.le_trans this ?_
  unfold belowN
  rw [← wnum_add, wnum_congr (ψ := fun _ => 1) k fun w _ _ => by split <;> rfl, wnum_one, Nat.mul_one]
  exact Nat.le_trans h4 h3
theorem rnk_low {n : Int} {next : List (List Int)} (A : Aut n next) {k r : Nat} (h : r < rankT next n) : rnkN next n k r = 0 := wnum_nil fun w _ hw => by
  have := (rank_facts A).2.1 w hw
  rw [if_neg (by omega)]
theorem rnk_one {n : Int} {next : List (List Int)} (A : Aut n next) {k : Nat} : rnkN next n k 1 = resN next n k := wnum_congr k fun w _ hw => by
  have n2 := A.n2
  have hp := Nat.two_pow_pos n.toNat
  have hN : 2 ^ n.toNat ≤ 1024 := Nat.pow_le_pow_right (n := 2) (by omega) (show n.toNat ≤ 10 by omega)
  have h1 := (rank_facts A).1
  have h2 := (rank_facts A).2.1 w hw
  have h3 := (imN_bit A w (f := 2 ^ n.toNat - 1) (by omega) hw).1
  rw [cntN_small (by omega)]
  by_cases e : cntN (imN next (2 ^ n.toNat - 1) w) ≤ 1
  · rw [if_pos (by omega), if_pos (by simpa using e)]
  · rw [if_neg (by omega), if_neg (by simpa using e)]
end Go.Ab
namespace Go.Ab
theorem rwp_putN {ps : List (Nat × List Int)} {i : Nat} {p : Nat × List Int} : (rwp ps).take i ++ [.ro (some (some (p.1 + 1))) 1 (ints p.2)] ++ (rwp ps).drop (i + 1) = rwp (ps.take i ++ [p] ++ ps.drop (i + 1)) := by
  simp only [rwp, List.map_append, List.map_take, List.map_drop, List.map_cons, List.map_nil]
theorem DJ_put {A C : List (Nat × List Int)} {b b' : Nat × List Int} (h : DJ (A ++ b :: C)) (h1 : b'.1 = b.1) (h2 : b.2 = [] → b'.2 = []) : DJ (A ++ b' :: C) := by
  unfold DJ at h ⊢
  rw [List.pairwise_append] at h ⊢
  obtain ⟨hA, hC, hX⟩ := h
  rw [List.pairwise_cons] at hC ⊢
  refine ⟨hA, ⟨fun x hx => ?_, hC.2⟩, fun x hx y hy => ?_⟩
  · rcases hC.1 x hx with e | e | e
    · exact .inl (h2 e)
    · exact .inr (.inl e)
    · exact .inr (.inr (by rw [h1]; exact e))
  · rcases List.mem_cons.1 hy with rfl | hy
    · rcases hX x hx b (List.mem_cons_self ..) with e | e | e
      · exact .inl e
      · exact .inr (.inl (h2 e))
      · exact .inr (.inr (by rw [h1]; exact e))
    · exact hX x hx y (List.mem_cons_of_mem _ hy)
theorem DJ_set {ps : List (Nat × List Int)} {i : Nat} (hi : i < ps.length) {xs : List Int} (h : DJ ps) (h2 : (ps.getD i (0, [])).2 = [] → xs = []) : DJ (ps.take i ++ [((ps.getD i (0, [])).1, xs)] ++ ps.drop (i + 1)) := by
  have e : ps = ps.take i ++ ps.getD i (0, []) :: ps.drop (i + 1) := by
    rw [List.getD_eq_getElem?_getD, List.getElem?_eq_getElem hi, Option.getD_some, List.getElem_cons_drop, List.take_append_drop]
  rw [e] at h
  rw [List.append_assoc, List.singleton_append]
  exact DJ_put h rfl h2
end Go.Ab
namespace Go.Ab
open Go.Proofs
theorem rf_L {l : List (Nat × AVal)} {h : List (Nat × AObj)} {r i q v k k' ver : Nat} {nn nn' : Bool} {cs cs' : List AVal} (hr : L .gone h r = .row v k nn cs) (hqr : q ≠ r) :
    St.rf ⟨L .any l, L .gone h⟩ r i q ver k' nn' cs' = ⟨L .any l, L .gone ((r, .row v k nn (cs.set i (.ro (frNm nn' cs'.length ver) k' cs'))) :: (q, .gone) :: h)⟩ := by
  unfold St.rf
  congr 1
  funext x
  simp only [L]
  split
  · rw [hr]
  · split <;> rfl
theorem gwp_rf {gs : List GStep} {K : St → Prop} {l : List (Nat × AVal)} {h : List (Nat × AObj)} {r i q v k k' ver : Nat} {nn nn' : Bool} {cs cs' : List AVal} (hr : L .gone h r = .row v k nn cs)
    (hi : cs[i]? = some (.own q ver)) (hqr : q ≠ r) (hq : L .gone h q = .row ver k' nn' cs')
    (hk : (∀ n k'' cs'', AVal.ro (some (some (n + 1))) k'' cs'' ∈ cs → cs'' ≠ [] → n ≠ ver) → gwp gs K ⟨L .any l, L .gone ((r, .row v k nn (cs.set i (.ro (frNm nn' cs'.length ver) k' cs'))) :: (q, .gone) :: h)⟩) : gwp (.rf r i q :: gs) K ⟨L .any l, L .gone h⟩ :=
  ⟨v, k, nn, cs, ver, k', nn', cs', hr, hi, hqr, hq, fun hd => by rw [rf_L hr hqr]; exact hk hd⟩
theorem woL_set {A C : List (Nat × List Int)} {b : Nat × List Int} {X : AVal} (h : ∀ p ∈ A ++ C, p.2 = [] ∨ p.1 ≠ b.1) : (woL b.1 (rwp (A ++ b :: C))).set A.length X = rwp A ++ X :: rwp C := by
  have e : rwp (A ++ b :: C) = rwp A ++ (.ro (some (some (b.1 + 1))) 1 (ints b.2)) :: rwp C := by simp [rwp]
  have hl : (rwp A).length = A.length := rwp_len
  have hA := woL_rwp (n := b.1) (ps := A) fun p hp => h p (List.mem_append.2 (.inl hp))
  have hC := woL_rwp (n := b.1) (ps := C) fun p hp => h p (List.mem_append.2 (.inr hp))
  have happ : ∀ l l' : List AVal, woL b.1 (l ++ l') = woL b.1 l ++ woL b.1 l' := by
    intro l l'
    simp only [woL_eq, List.map_append]
  rw [e, happ, hA, woL_cons, hC, List.set_append_right _ _ (by omega), hl, Nat.sub_self]
  rfl
theorem own_at {A C : List (Nat × List Int)} {X : AVal} {i : Nat} (h : i = A.length) : (rwp A ++ X :: rwp C).getD i .any = X := by
  subst h
  rw [List.getD_eq_getElem?_getD, List.getElem?_append_right (by rw [rwp_len]; exact Nat.le_refl _), rwp_len]; simp
theorem DJ_out {X Y : List (Nat × List Int)} {b : Nat × List Int} (h : DJ (X ++ b :: Y)) (hb : b.2 ≠ []) : ∀ p ∈ X ++ Y, p.2 = [] ∨ p.1 ≠ b.1 := by
  intro p hp
  rcases (List.pairwise_cons.1 (DJ_perm List.perm_middle h)).1 p hp with e | e | e
  · exact absurd e hb
  · exact .inl e
  · exact .inr (Ne.symm e)
theorem DJ_in {X Y : List (Nat × List Int)} {b : Nat × List Int} {u : Nat} {r : List Int} (h : DJ (X ++ b :: Y)) (hu : ∀ p ∈ X ++ Y, p.2 = [] ∨ p.1 ≠ u) : DJ (X ++ (u, r) :: Y) :=
  DJ_perm List.perm_middle.symm (List.pairwise_cons.2 ⟨fun p hp => by
    rcases hu p hp with e | e
    · exact .inr (.inl e)
    · exact .inr (.inr (Ne.symm e)), (List.pairwise_cons.1 (DJ_perm List.perm_middle h)).2⟩)
theorem rwp_get {A C : List (Nat × List Int)} {b : Nat × List Int} {i : Nat} (h : i = A.length) : (rwp (A ++ b :: C))[i]? = some (.ro (some (some (b.1 + 1))) 1 (ints b.2)) := by
  subst h
  rw [rwp, List.map_append, List.getElem?_append_right (by simp)]
  simp
theorem own_get {A C : List (Nat × List Int)} {X : AVal} {i : Nat} (h : i = A.length) : (rwp A ++ X :: rwp C)[i]? = some X := by
  subst h
  rw [List.getElem?_append_right (by rw [rwp_len]; exact Nat.le_refl _), rwp_len]; simp
theorem rwp_cat {A C : List (Nat × List Int)} {u : Nat} {xs : List Int} : rwp A ++ (.ro (some (some (u + 1))) 1 (ints xs)) :: rwp C = rwp (A ++ (u, xs) :: C) := by simp [rwp]
theorem rwp_split {ps : List (Nat × List Int)} {k : Nat} (h : k < ps.length) : ∃ A b C, ps = A ++ b :: C ∧ A.length = k :=
  ⟨ps.take k, ps[k], ps.drop (k + 1), by rw [← List.drop_eq_getElem_cons h, List.take_append_drop], by rw [List.length_take]; omega⟩
theorem callHp_mrr {hp : Nat → AObj} {r d : Nat} {s : Nat → Nat} {o o1 o2 : AObj} (hne : d ≠ r) (hne2 : d + 1000 ≠ r) :
    callHp hp [r] d s [o] [o1, o2] = upd (upd (upd hp r (o.ren (rid [r] d 2) (sv hp [r] s))) d (o1.ren (rid [r] d 2) (sv hp [r] s))) (d + 1000) (o2.ren (rid [r] d 2) (sv hp [r] s)) := by
  have hnew : ∀ i, i < [o1, o2].length → newId d i ∉ [r] := by
    intro i hi
    have : i = 0 ∨ i = 1 := by simp at hi; omega
    rcases this with rfl | rfl
    · simpa [newId] using hne
    · simpa [newId] using hne2
  funext n
  by_cases h : n = d + 1000
  · have h1 : rid [r] d [o1, o2].length 6001 = some n := by rw [h]; exact rid1
    rw [callHp_at (by simp) hnew h1]
    simp [upd, h, outHp]
  · by_cases h2 : n = d
    · have h1 : rid [r] d [o1, o2].length 6000 = some n := by rw [h2]; exact rid0
      rw [callHp_at (by simp) hnew h1]
      have hne3 : d ≠ d + 1000 := by omega
      simp [upd, h2, outHp, hne3]
    · by_cases h' : n = r
      · have h1 : rid [r] d [o1, o2].length 5000 = some n := by rw [h']; exact rid_m (j := 0) (by omega) rfl
        rw [callHp_at (by simp) hnew h1]
        simp [upd, h', outHp, Ne.symm hne, Ne.symm hne2]
      · rw [callHp_not]
        · simp [upd, h, h2, h']
        · rintro ⟨q, hq⟩
          rcases rid_cases hq with ⟨j, rfl, _, h1⟩ | ⟨i, rfl, h1, h3⟩
          · cases j with
            | zero => simp at h1; exact h' h1.symm
            | succ j => simp at h1
          · have : i = 0 ∨ i = 1 := by simp at h1; omega
            rcases this with rfl | rfl
            · exact h2 (by simpa [newId] using h3)
            · exact h (by simpa [newId] using h3)
theorem sv_inj {hp : Nat → AObj} {r v : Nat} {s : Nat → Nat} {cs : List AVal} (hr : hp r = .box v cs) (hs : ∀ x y, s x = s y → x = y) (hv : ∀ y, s y ≠ v) : ∀ x y, sv hp [r] s x = sv hp [r] s y → x = y := by
  intro x y e
  rcases Nat.eq_zero_or_pos x with rfl | hx <;> rcases Nat.eq_zero_or_pos y with rfl | hy
  · rfl
  · rw [sv_m hr, sv_new hy] at e; exact absurd e.symm (hv y)
  · rw [sv_new hx, sv_m hr] at e; exact absurd e (hv x)
  · rw [sv_new hx, sv_new hy] at e; exact hs _ _ e
structure TwI (n m : Int) (A B : List (Nat × List Int)) (top : Int) (low : Int) : Prop where
  a : ∀ p ∈ A, (p.2.length : Int) = m ∧ ∀ x ∈ p.2, 0 ≤ x ∧ x < top
  b : ∀ p ∈ B, (p.2.length : Int) = n ∧ ∀ x ∈ p.2, 0 ≤ x ∧ x < low
end Go.Ab
