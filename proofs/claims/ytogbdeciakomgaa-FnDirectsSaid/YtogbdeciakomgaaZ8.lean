/- Contracts and what they lean on, part 8. Conditions: none. -/
import Derived.Test.YtogbdeciakomgaaZ7
set_option maxRecDepth 100000
set_option maxHeartbeats 4000000
set_option linter.all false
open Nat (reduceLeDiff reduceMul reduceSub reduceEqDiff reduceAdd)
open Int (reduceToNat reduceNeg reduceLE)
namespace Go.Ab
open Go.Proofs
theorem Prt_put {n : Int} {A2 C2 : List (Nat × List Int)} {b : Nat × List Int} {u : Nat} {cur : List Int} (P : Prt n ((A2 ++ b :: C2).map (·.2))) (hl : cur.length = b.2.length) (hm : ∀ x ∈ cur, -1 ≤ x ∧ x < n) :
    Prt n ((A2 ++ (u, cur) :: C2).map (·.2)) := by
  have hlen : ((A2 ++ (u, cur) :: C2).map (·.2)).length = ((A2 ++ b :: C2).map (·.2)).length := by simp
  refine ⟨P.n1, P.n2, by rw [hlen]; exact P.l1, by rw [hlen]; exact P.l2, fun row hr => ?_⟩
  simp only [List.map_append, List.map_cons, List.mem_append, List.mem_cons] at hr
  rcases hr with h | rfl | h
  · exact P.row row (by simp only [List.map_append, List.map_cons, List.mem_append, List.mem_cons]; exact .inl h)
  · have := (P.row b.2 (by simp)).1
    exact ⟨by simp only [hl]; exact this, hm⟩
  · exact P.row row (by simp only [List.map_append, List.map_cons, List.mem_append, List.mem_cons]; exact .inr (.inr h))
abbrev DrP (code : List Int) (at_ most gaps : Int) (outs rows : List AObj) (res : AVal) : Prop :=
  ∃ n ps v a' s', Prt n (ps.map (·.2)) ∧ n ≤ most ∧ (gaps = 0 → ∀ p ∈ ps, ∀ x ∈ p.2, 0 ≤ x) ∧ outs = [.box 0 (srcC code a' s')] ∧ rows = [.row v 1 true (rwp ps)] ∧ res = .st [iv n, .own 6000 v]
theorem k_l04Draw (code : List Int) (at_ seed most gaps : Int) (hb : ∀ x ∈ code, 0 ≤ x ∧ x ≤ 255) (ha : 0 ≤ at_ ∧ at_ ≤ 100000) (hm : 1 ≤ most ∧ most ≤ 10) (hg : 0 ≤ gaps ∧ gaps ≤ 10) :
    Con Try.prog nz1i [.box 0 (srcC code at_ seed)] [.ptr 5000 0 0, iv most, iv gaps] true (DrP code at_ most gaps) := by
  refine con_sh mixed czgf rfl (by simp) ?_
  generalize hQ : finQ _ = Q
  simp only [Az5j, Bzce, wpD_kp, wpD_regi, go_sem, yz0, Int.reduceLT, reduceLE, reduceToNat, reduceNeg, Nat.reduceLT, reduceLeDiff, reduceMul, reduceSub, reduceIte, reduceEqDiff, reduceAdd, reduceCtorEq]
  intro vs0 U0 hN0 vs1 U1 hN1
  refine call_funB (k_pick code at_ seed most hb (by omega)) rfl qCS qCS ?_
  rintro cs' x ⟨a1, s1, b1, rfl, h1, h2, rfl, h3, h4⟩
  obtain ⟨n, hn⟩ : ∃ n : Int, n = 1 + b1 := ⟨_, rfl⟩
  have wn : IntKind.i64.wrap (1 + b1) = n := by rw [hn]; exact w64 (by omega)
  simp only [wn, Bzcd, wpD_kp, wpD_regi, go_sem, yz0, Int.reduceLT, reduceLE, reduceToNat, reduceNeg, Nat.reduceLT, reduceLeDiff, reduceMul, reduceSub, reduceIte, reduceEqDiff, reduceAdd, reduceCtorEq]
  intro vs2 U2 hN2
  refine call_funB (k_pick code a1 s1 3 hb (by omega)) rfl qCS qCS ?_
  rintro cs' x ⟨a2, s2, b2, rfl, g1, g2, rfl, g3, g4⟩
  obtain ⟨m, hmm⟩ : ∃ m : Nat, (m : Int) = 1 + b2 := ⟨(1 + b2).toNat, by omega⟩
  have wm : IntKind.i64.wrap (1 + b2) = (m : Int) := by rw [← hmm]; exact w64 (by omega)
  simp only [wm, Bzc7, wpD_kp, wpD_regi, go_sem, yz0, Int.reduceLT, reduceLE, reduceToNat, reduceNeg, Nat.reduceLT, reduceLeDiff, reduceMul, reduceSub, reduceIte, reduceEqDiff, reduceAdd, reduceCtorEq]
  intro ver
  refine wpD_lp (fun (_, _, _, _, c, _) => c) (fun (_, nn, a, _, c, ps) => a2 ≤ a ∧ a ≤ a2 + 60 * List.length ps ∧ c + List.length ps = m ∧ (ps ≠ [] → nn = true) ∧ (∀ p ∈ ps, (List.length p.2 : Int) = n ∧ ∀ x ∈ p.2, 0 ≤ x ∧ x < n) ∧ DJ ps)
    (fun ((v, nn, a, s, c, ps) : Nat × Bool × Int × Int × Nat × List (Nat × List Int)) => ⟨L .any [(0, .ptr 5000 0 0), (2, iv gaps), (6, .ptr 6 (vs0 0 0) 0), (7, .ptr 7 (vs1 5 0) 0), (8, iv c)],
      L .gone [(6, .box (vs0 0 0) [iv 0, .val (.slice none 0 0)]), (7, .box (vs1 5 0) [iv n, .own 52 v]), (52, .row v 1 nn (rwp ps)), (5000, .box 0 (srcC code a s)), (5001, .gone), (5002, .gone), (901, .gone)]⟩)
    (ver, false, a2, s2, m, []) ⟨Int.le_refl _, by simp, by simp, by simp, by simp, by simp [DJ]⟩ (by simp only [Bz2l, wpD_kp, wpD_regi, go_sem, yz0, Int.reduceLT, reduceLE, reduceToNat, reduceNeg, Nat.reduceLT, reduceLeDiff, reduceMul, reduceSub, reduceIte, reduceEqDiff, reduceAdd, reduceCtorEq]; try rfl) ?_
  rintro ⟨v, nn, a, s, c, ps⟩ ⟨i1, i2, i3, i4, i5, i6⟩
  have i1 : a2 ≤ a := i1
  have i2 : a ≤ a2 + 60 * ps.length := i2
  have i3 : c + ps.length = m := i3
  by_cases hc : (c : Int) > 0
  · have wc : IntKind.i64.wrap ((c : Int) - 1) = ((c - 1 : Nat) : Int) := by rw [w64 (by omega)]; omega
    simp only [Bz2l, Bz5f, Bzc6, decide_eq_true hc, wpD_kp, wpD_regi, go_sem, yz0, Int.reduceLT, reduceLE, reduceToNat, reduceNeg, Nat.reduceLT, reduceLeDiff, reduceMul, reduceSub, reduceIte, reduceEqDiff, reduceAdd, reduceCtorEq]
    intro vs3 U3 hN3 vs4 U4 hN4
    simp only [Bzc4, Bzc2, wpD_kp, wpD_regi, go_sem, yz0, Int.reduceLT, reduceLE, reduceToNat, reduceNeg, Nat.reduceLT, reduceLeDiff, reduceMul, reduceSub, reduceIte, reduceEqDiff, reduceAdd, reduceCtorEq]
    intro vs5 U5 hN5
    refine wpD_lp (fun (_, _, _, row) => n.toNat - List.length row)
      (fun (_, a', _, row) => a ≤ a' ∧ a' ≤ a + 4 * List.length row ∧ (List.length row : Int) ≤ n ∧ ∀ x ∈ row, 0 ≤ x ∧ x < n)
      (fun ((u, a, s, row) : Nat × Int × Int × List Int) => ⟨L .any [(0, .ptr 5000 0 0), (2, iv gaps), (6, .ptr 6 (vs0 0 0) 0), (7, .ptr 7 (vs1 5 0) 0), (8, iv c), (9, .own 24 u), (10, iv row.length)],
        L .gone [(6, .box (vs0 0 0) [iv 0, .val (.slice none 0 0)]), (7, .box (vs1 5 0) [iv n, .own 52 v]), (24, .row u 1 true (ints row)), (37, .gone), (52, .row v 1 nn (rwp ps)), (5000, .box 0 (srcC code a s)), (5001, .gone), (5002, .gone), (901, .gone)]⟩)
      (_, a, s, []) ⟨Int.le_refl _, by simp, by simp; omega, by simp⟩ (by simp only [Bz2k, wpD_kp, wpD_regi, go_sem, yz0, Int.reduceLT, reduceLE, reduceToNat, reduceNeg, Nat.reduceLT, reduceLeDiff, reduceMul, reduceSub, reduceIte, reduceEqDiff, reduceAdd, reduceCtorEq]; try rfl) ?_
    rintro ⟨u, a', s', row⟩ ⟨j1, j2, j3, j4⟩
    have j1 : a ≤ a' := j1
    have j2 : a' ≤ a + 4 * row.length := j2
    have j3 : (row.length : Int) ≤ n := j3
    by_cases hlt : (row.length : Int) < n
    · have wr : IntKind.i64.wrap ((row.length : Int) + 1) = ((row.length + 1 : Nat) : Int) := by rw [w64 (by omega)]; simp
      simp only [Bz2k, Bz5g, Bzc1, decide_eq_true hlt, wpD_kp, wpD_regi, go_sem, yz0, Int.reduceLT, reduceLE, reduceToNat, reduceNeg, Nat.reduceLT, reduceLeDiff, reduceMul, reduceSub, reduceIte, reduceEqDiff, reduceAdd, reduceCtorEq]
      intro vs6 U6 hN6 vs7 U7 hN7
      refine call_funB (k_pick code a' s' n hb (by omega)) rfl qCS qCS ?_
      rintro cs' x ⟨a3, s3, b3, rfl, e1, e2, rfl, e3, e4⟩
      simp only [wpD_kp, wpD_regi, go_sem, yz0, Int.reduceLT, reduceLE, reduceToNat, reduceNeg, Nat.reduceLT, reduceLeDiff, reduceMul, reduceSub, reduceIte, reduceEqDiff, reduceAdd, reduceCtorEq]
      refine ⟨⟨_, rfl, rfl⟩, by omega, ?_⟩
      simp only [Bzc0, wr, wpD_kp, wpD_regi, go_sem, yz0, Int.reduceLT, reduceLE, reduceToNat, reduceNeg, Nat.reduceLT, reduceLeDiff, reduceMul, reduceSub, reduceIte, reduceEqDiff, reduceAdd, reduceCtorEq]
      intro vs8 U8 hN8
      refine ⟨(vs7 6 0, a3, s3, row ++ [b3]), by dsimp only; rw [List.length_append, List.length_singleton]; omega, ⟨by dsimp only; omega, by dsimp only; rw [List.length_append, List.length_singleton]; omega, by dsimp only; rw [List.length_append, List.length_singleton]; omega, fun x hx => ?_⟩, ?_⟩
      · rcases List.mem_append.1 hx with h | h
        · exact j4 x h
        · rw [List.mem_singleton.1 h]; omega
      · simp only [List.length_append, List.length_singleton]; try rfl
    · have hrl : (row.length : Int) = n := by omega
      have h0l : 0 < row.length := by omega
      simp only [Bz2k, Bz5g, decide_eq_false hlt, wpD_kp, wpD_regi, go_sem, yz0, Int.reduceLT, reduceLE, reduceToNat, reduceNeg, Nat.reduceLT, reduceLeDiff, reduceMul, reduceSub, reduceIte, reduceEqDiff, reduceAdd, reduceCtorEq]
      intro vs6 U6 hN6
      unfold Bzc3
      rw [wpD_kp]
      refine wpD_cutn (α := Int × Int × List Int) (fun (a3, _, row) => a' ≤ a3 ∧ a3 ≤ a' + 2 ∧ (List.length row : Int) = n ∧ ∀ x ∈ row, 0 ≤ x ∧ x < n)
        (fun ((a3, s3, row) : Int × Int × List Int) => ⟨L .any [(0, .ptr 5000 0 0), (2, iv gaps), (6, .ptr 6 (vs0 0 0) 0), (7, .ptr 7 (vs1 5 0) 0), (8, iv c), (9, .own 24 u)],
          L .gone [(6, .box (vs0 0 0) [iv 0, .val (.slice none 0 0)]), (7, .box (vs1 5 0) [iv n, .own 52 v]), (24, .row u 1 true (ints row)), (37, .gone), (52, .row v 1 nn (rwp ps)), (5000, .box 0 (srcC code a3 s3)), (5001, .gone), (5002, .gone), (901, .gone)]⟩) ?_ ?_
      · simp only [wpD_kp, wpD_regi, go_sem, yz0, Int.reduceLT, reduceLE, reduceToNat, reduceNeg, Nat.reduceLT, reduceLeDiff, reduceMul, reduceSub, reduceIte, reduceEqDiff, reduceAdd, reduceCtorEq]
        intro vs7 U7 hN7
        refine call_funB (k_one code a' s' 3 hb (by omega)) rfl qCS qCS ?_
        rintro cs' x ⟨a3, s3, b3, rfl, e1, e2, rfl⟩
        cases b3 with
        | true =>
          have wl : IntKind.i64.wrap ((row.length : Int) - 1) = ((row.length - 1 : Nat) : Int) := by rw [w64 (by omega)]; omega
          have hll : row.length - 1 < row.length := by omega
          have hcl := lput_len (xs := row) (i := 0) (v := row.getD (row.length - 1) 0) h0l
          have hcm := lput_mem (xs := row) (i := 0) (v := row.getD (row.length - 1) 0) (Q := fun z => 0 ≤ z ∧ z < n) j4 (j4 _ (yzn hll 0))
          simp only [Bz5h, wl, yzg hll, wpD_kp, wpD_regi, go_sem, yz0, Int.reduceLT, reduceLE, reduceToNat, reduceNeg, Nat.reduceLT, reduceLeDiff, reduceMul, reduceSub, reduceIte, reduceEqDiff, reduceAdd, reduceCtorEq]
          intro vs8 U8 hN8 _
          refine ⟨⟨by omega, hll⟩, hll, h0l, by omega, (a3, s3, row.take 0 ++ [row.getD (row.length - 1) 0] ++ row.drop (0 + 1)), ⟨by dsimp only; omega, by dsimp only; omega, by dsimp only; rw [hcl]; exact hrl, hcm⟩, ?_⟩
          have ed : AVal.val (.int .i64 (row.getD (row.length - 1) 0)) :: List.drop 1 (ints row) = ints (row.take 0 ++ [row.getD (row.length - 1) 0] ++ row.drop (0 + 1)) := by simp [List.map_drop]
          rw [ed]
        | false =>
          simp only [Bz5h, wpD_kp, wpD_regi, go_sem, yz0, Int.reduceLT, reduceLE, reduceToNat, reduceNeg, Nat.reduceLT, reduceLeDiff, reduceMul, reduceSub, reduceIte, reduceEqDiff, reduceAdd, reduceCtorEq]
          exact ⟨(a3, s3, row), ⟨by dsimp only; omega, by dsimp only; omega, hrl, j4⟩, rfl⟩
      · rintro ⟨a3, s3, row⟩ ⟨e1, e2, hrl, j4⟩
        have e1 : a' ≤ a3 := e1
        have e2 : a3 ≤ a' + 2 := e2
        simp only [wpD_kp, wpD_gh, go_sem, yz0, Int.reduceLT, reduceLE, reduceToNat, reduceNeg, Nat.reduceLT, reduceLeDiff, reduceMul, reduceSub, reduceIte, reduceEqDiff, reduceAdd, reduceCtorEq]
        intro hD
        refine ⟨[], ?_⟩
        have hf : ∀ p ∈ ps, p.2 = [] ∨ p.1 ≠ u := fun p hp => by
          by_cases e : p.2 = []
          · exact .inl e
          · exact .inr (hD 52 v 1 nn (rwp ps) 24 u rfl rfl p.1 1 (ints p.2) (List.mem_map.2 ⟨p, hp, rfl⟩) (by simpa using e))
        simp only [gwp_nil, wpD_kp, wpD_regi, go_sem, yz0, Int.reduceLT, reduceLE, reduceToNat, reduceNeg, Nat.reduceLT, reduceLeDiff, reduceMul, reduceSub, reduceIte, reduceEqDiff, reduceAdd, reduceCtorEq]
        intro vs8 U8 hN8
        rw [rwp_len]
        refine ⟨by omega, ?_⟩
        simp only [Bzc5, wc, rwp_snoc, wpD_kp, wpD_regi, go_sem, yz0, Int.reduceLT, reduceLE, reduceToNat, reduceNeg, Nat.reduceLT, reduceLeDiff, reduceMul, reduceSub, reduceIte, reduceEqDiff, reduceAdd, reduceCtorEq]
        intro vs9 U9 hN9
        refine ⟨(vs8 4 0, true, a3, s3, c - 1, ps ++ [(u, row)]), by dsimp only; omega, ⟨by dsimp only; omega, by dsimp only; rw [List.length_append, List.length_singleton]; omega, by dsimp only; rw [List.length_append, List.length_singleton]; omega, fun _ => rfl, fun q hq => ?_, i6.snoc hf⟩, rfl⟩
        rcases List.mem_append.1 hq with h | h
        · exact i5 q h
        · rw [List.mem_singleton.1 h]; exact ⟨hrl, j4⟩
  · obtain rfl : nn = true := i4 (fun e => by rw [e] at i3; simp at i3; omega)
    have wg : IntKind.i64.wrap (gaps + 1) = gaps + 1 := w64 (by omega)
    simp only [Bz2l, Bz5f, Bzcc, decide_eq_false hc, wg, wpD_kp, wpD_regi, go_sem, yz0, Int.reduceLT, reduceLE, reduceToNat, reduceNeg, Nat.reduceLT, reduceLeDiff, reduceMul, reduceSub, reduceIte, reduceEqDiff, reduceAdd, reduceCtorEq]
    intro vs3 U3 hN3 vs4 U4 hN4
    refine call_funB (k_pick code a s (gaps + 1) hb (by omega)) rfl qCS qCS ?_
    rintro cs' x ⟨a3, s3, b3, rfl, e1, e2, rfl, e3, e4⟩
    obtain ⟨k0, hk0⟩ : ∃ k : Nat, (k : Int) = b3 := ⟨b3.toNat, by omega⟩
    have hP0 : Prt n (ps.map (·.2)) := ⟨by omega, by omega, by rw [List.length_map]; omega, by rw [List.length_map]; omega, fun row hr => by
      obtain ⟨p, hp, rfl⟩ := List.mem_map.1 hr
      exact ⟨(i5 p hp).1, fun x hx => by have := (i5 p hp).2 x hx; omega⟩⟩
    simp only [← hk0, Bzca, wpD_kp, wpD_regi, go_sem, yz0, Int.reduceLT, reduceLE, reduceToNat, reduceNeg, Nat.reduceLT, reduceLeDiff, reduceMul, reduceSub, reduceIte, reduceEqDiff, reduceAdd, reduceCtorEq]
    refine wpD_lp (fun (_, _, k, _) => k) (fun (a, _, k, ps) => a3 ≤ a ∧ a + 4 * (k : Int) ≤ a3 + 4 * k0 ∧ k ≤ k0 ∧ Prt n (ps.map (·.2)) ∧ DJ ps ∧ (gaps = 0 → ∀ p ∈ ps, ∀ x ∈ p.2, 0 ≤ x))
      (fun ((a, s, k, ps) : Int × Int × Nat × List (Nat × List Int)) => ⟨L .any [(0, .ptr 5000 0 0), (6, .ptr 6 (vs0 0 0) 0), (7, .ptr 7 (vs1 5 0) 0), (11, iv k)],
        L .gone [(6, .box (vs0 0 0) [iv 0, .val (.slice none 0 0)]), (7, .box (vs1 5 0) [iv n, .own 52 v]), (52, .row v 1 true (rwp ps)), (5000, .box 0 (srcC code a s)), (5001, .gone), (5002, .gone), (901, .gone)]⟩)
      (a3, s3, k0, ps) ⟨Int.le_refl _, Int.le_refl _, Nat.le_refl _, hP0, i6, fun _ p hp x hx => ((i5 p hp).2 x hx).1⟩ (by simp only [Bz2m, wpD_kp, wpD_regi, go_sem, yz0, Int.reduceLT, reduceLE, reduceToNat, reduceNeg, Nat.reduceLT, reduceLeDiff, reduceMul, reduceSub, reduceIte, reduceEqDiff, reduceAdd, reduceCtorEq]; try rfl) ?_
    rintro ⟨a5, s5, k, qs⟩ ⟨l1, l2, l3, l4, l5, l6⟩
    have l1 : a3 ≤ a5 := l1
    have l2 : a5 + 4 * (k : Int) ≤ a3 + 4 * k0 := l2
    have l3 : k ≤ k0 := l3
    have q1 := l4.l1
    have q2 := l4.l2
    rw [List.length_map] at q1 q2
    by_cases hk : (k : Int) > 0
    · have wk : IntKind.i64.wrap ((k : Int) - 1) = ((k - 1 : Nat) : Int) := by rw [w64 (by omega)]; omega
      obtain ⟨a6, s6, x0, f1, f2, f3, f4, hk1⟩ := k_pickE code a5 s5 qs.length hb (by omega)
      have hat : x0.toNat < qs.length := by omega
      obtain ⟨A2, b, C2, rfl, hAk⟩ := rwp_split hat
      have hbr := l4.row b.2 (by simp)
      have hbn : b.2 ≠ [] := fun e => by rw [e] at hbr; simp at hbr; omega
      have F0a := DJ_out l5 hbn
      simp only [Bz2m, Bz5i, decide_eq_true hk, wpD_kp, wpD_regi, go_sem, yz0, Int.reduceLT, reduceLE, reduceToNat, reduceNeg, Nat.reduceLT, reduceLeDiff, reduceMul, reduceSub, reduceIte, reduceEqDiff, reduceAdd, reduceCtorEq]
      intro vs5 U5 hN5
      simp only [Bzc9, wpD_kp, wpD_gh, go_sem, yz0, Int.reduceLT, reduceLE, reduceToNat, reduceNeg, Nat.reduceLT, reduceLeDiff, reduceMul, reduceSub, reduceIte, reduceEqDiff, reduceAdd, reduceCtorEq]
      intro _
      refine ⟨[.thaw 52 x0.toNat 901], gwp_thaw (n := b.1) rfl (rwp_get hAk.symm) (by simpa using hbn) rfl fun m1 => ?_⟩
      have hset : (woL b.1 (rwp (A2 ++ b :: C2))).set x0.toNat (AVal.own 901 m1) = rwp A2 ++ AVal.own 901 m1 :: rwp C2 := by rw [← hAk]; exact woL_set F0a
      have ho1 : (rwp A2 ++ AVal.own 901 m1 :: rwp C2).getD x0.toNat .any = .own 901 m1 := own_at hAk.symm
      have hol : (rwp A2 ++ AVal.own 901 m1 :: rwp C2).length = (A2 ++ b :: C2).length := by rw [List.length_append, List.length_cons, rwp_len, rwp_len, List.length_append, List.length_cons]
      have hkl : x0.toNat < (rwp A2 ++ AVal.own 901 m1 :: rwp C2).length := by omega
      have hdv : (rwp A2 ++ AVal.own 901 m1 :: rwp C2).length / 1 = (A2 ++ b :: C2).length := by rw [Nat.div_one]; exact hol
      simp only [hset, woT, woO, woL_cons, woL_nil, woV_val, woV_own, wo_ptr, wo_o, woL_ints, wo_st, woO_row, woO_box, woO_gone, wo_any, gwp_nil, wpD_kp, wpD_regi, go_sem, yz0, Int.reduceLT, reduceLE, reduceToNat, reduceNeg, Nat.reduceLT, reduceLeDiff, reduceMul, reduceSub, reduceIte, reduceEqDiff, reduceAdd, reduceCtorEq]
      intro vs8 U8 hN8
      simp only [hol, go_sem, yz0, Int.reduceLT, reduceLE, reduceToNat, reduceNeg, Nat.reduceLT, reduceLeDiff, reduceMul, reduceSub, reduceIte, reduceEqDiff, reduceAdd, reduceCtorEq]
      refine call_funBN hk1 rfl (by simp) qCS qCS ⟨srcC code a6 s6, .int .i64 x0, ⟨rfl, rfl⟩, flat_srcC⟩ ?_
      rintro cs' x ⟨rfl, rfl⟩
      simp only [ho1, wpD_kp, wpD_regi, go_sem, yz0, Int.reduceLT, reduceLE, reduceToNat, reduceNeg, Nat.reduceLT, reduceLeDiff, reduceMul, reduceSub, reduceIte, reduceEqDiff, reduceAdd, reduceCtorEq]
      refine ⟨⟨f3, hkl⟩, hkl, ?_⟩
      refine call_funBN (k_pick code a6 s6 n hb (by omega)) rfl (by simp) qCS qCS ⟨srcC code a6 0, .int .i64 0, ⟨a6, 0, 0, rfl, by omega, by omega, rfl, by omega, .inr rfl⟩, flat_srcC⟩ ?_
      rintro cs' x ⟨a7, s7, y1, rfl, p1, p2, rfl, p3, p4⟩
      have hy1 : y1.toNat < b.2.length := by omega
      have hcl := lput_len (xs := b.2) (v := -1) hy1
      have hcm := lput_mem (xs := b.2) (i := y1.toNat) (v := -1) (Q := fun z => -1 ≤ z ∧ z < n) hbr.2 (by omega)
      simp only [wpD_kp, wpD_regi, go_sem, yz0, Int.reduceLT, reduceLE, reduceToNat, reduceNeg, Nat.reduceLT, reduceLeDiff, reduceMul, reduceSub, reduceIte, reduceEqDiff, reduceAdd, reduceCtorEq]
      refine ⟨⟨p3, hy1⟩, hy1, ?_⟩
      simp only [ints_put]
      generalize hcu : b.2.take y1.toNat ++ [-1] ++ b.2.drop (y1.toNat + 1) = cur at hcl hcm ⊢
      simp only [Bzc8, wpD_kp, wpD_gh, go_sem, yz0, Int.reduceLT, reduceLE, reduceToNat, reduceNeg, Nat.reduceLT, reduceLeDiff, reduceMul, reduceSub, reduceIte, reduceEqDiff, reduceAdd, reduceCtorEq]
      intro hD
      refine ⟨[.rf 52 x0.toNat 901], gwp_rf (k := 1) (nn := true) rfl (own_get hAk.symm) (by decide) rfl fun hf => ?_⟩
      have D1 := DJ_refrozen l5 hf (cur := cur)
      have P1 := Prt_put l4 (u := m1) hcl hcm
      have hset4 : ∀ X : AVal, (rwp A2 ++ AVal.own 901 m1 :: rwp C2).set x0.toNat X = rwp A2 ++ X :: rwp C2 := fun X => by
        rw [← hAk, List.set_append_right _ _ (by rw [rwp_len]; exact Nat.le_refl _), rwp_len, Nat.sub_self]; rfl
      simp only [hset4, frNm_t, rwp_cat, gwp_nil, wk, wpD_kp, wpD_regi, go_sem, yz0, Int.reduceLT, reduceLE, reduceToNat, reduceNeg, Nat.reduceLT, reduceLeDiff, reduceMul, reduceSub, reduceIte, reduceEqDiff, reduceAdd, reduceCtorEq]
      intro vs9 U9 hN9
      exact ⟨(a7, s7, k - 1, A2 ++ (m1, cur) :: C2), by dsimp only; omega, ⟨by dsimp only; omega, by dsimp only; omega, by dsimp only; omega, P1, D1, fun hz => by omega⟩, rfl⟩
    · simp only [Bz2m, Bz5i, Bzcb, decide_eq_false hk, wpD_kp, wpD_regi, Az5j, ← hQ, go_sem, yz0, Int.reduceLT, reduceLE, reduceToNat, reduceNeg, Nat.reduceLT, reduceLeDiff, reduceMul, reduceSub, reduceIte, reduceEqDiff, reduceAdd, reduceCtorEq]
      intro vs5 U5 hN5 vs6 U6 hN6
      refine ⟨[52], by simp, by simp, by simp, ?_⟩
      simp only [range1, List.length_singleton, renL_rwp, Nat.not_lt_zero, range1, ren_val, ren_any, ren_ro, rnNm_n, rnNm_sn, rnNm_o, rnNm_s, ren_st, ren_tup, yzu, yzm, yz8, yzq, yzr, yzo, yzp, yzs, yza, yzc, yz9, yze, yzk, yzj, yz3, yzd, yz7, yz6, yzi, yzl, List.range_zero, yz5, yz4, yzb, yzt, yzf, yzv, AVal.fresh, freshL, yz1, yzh, AObj.fresh, id, Option.isSome_some, or_true, true_or, wpD_kp, wpD_regi, go_sem, yz0, Int.reduceLT, reduceLE, reduceToNat, reduceNeg, Nat.reduceLT, reduceLeDiff, reduceMul, reduceSub, reduceIte, reduceEqDiff, reduceAdd, reduceCtorEq]
      exact ⟨n, qs, v, a5, s5, l4, by omega, l6, rfl, by simp, rfl⟩
theorem k_P6Partial (code : List Int) (gaps : Int) (hb : ∀ x ∈ code, 0 ≤ x ∧ x ≤ 255) (hg : 0 ≤ gaps ∧ gaps ≤ 10) :
    Con Try.prog nz31 [] [.ro (some (some 0)) 1 (intsK .u8 code), iv gaps] true fun outs rows res => outs = [] ∧ ∃ n next v, Prt n next ∧ n ≤ 4 ∧ (gaps = 0 → ∀ r ∈ next, ∀ x ∈ r, 0 ≤ x) ∧ rows = [.row v 1 true (rws next)] ∧ res = .st [iv n, .own 6000 v] := by
  refine con_sh mixed czfs rfl (by simp) ?_
  generalize hQ : finQ _ = Q
  simp only [Az4f, Bz8o, go_sem, yz0, Int.reduceLT, reduceLE, reduceToNat, reduceNeg, Nat.reduceLT, reduceLeDiff, reduceMul, reduceSub, reduceIte, reduceEqDiff, reduceAdd, reduceCtorEq]
  intro vs0 vs1
  refine call_sh (k_from code) qCS (fun e => by cases e) ?_
  rintro outs rows res ⟨rfl, v, rfl, rfl⟩
  refine ⟨rfl, by simp, by rw [Option.getD_some, yzf]; rfl, ?_⟩
  simp only [Nat.not_lt_zero, range1, ren_val, ren_any, ren_ro, rnNm_n, rnNm_sn, rnNm_o, rnNm_s, ren_st, ren_tup, yzu, yzm, yz8, yzq, yzr, yzo, yzp, yzs, yza, yzc, yz9, yze, yzk, yzj, yz3, yzd, yz7, yz6, yzi, yzl, List.range_zero, yz5, yz4, yzb, yzt, yzf, yzv, AVal.fresh, freshL, yz1, yzh, AObj.fresh, id, Option.isSome_some, or_true, true_or, go_sem, yz0, Int.reduceLT, reduceLE, reduceToNat, reduceNeg, Nat.reduceLT, reduceLeDiff, reduceMul, reduceSub, reduceIte, reduceEqDiff, reduceAdd, reduceCtorEq]
  have h : Con Try.prog nz1i [.box 0 (srcC code 0 0)] [.ptr 5000 0 0, iv 4, iv gaps] true fun outs rows res => ∃ n next v a' s', Prt n next ∧ n ≤ 4 ∧ (gaps = 0 → ∀ r ∈ next, ∀ x ∈ r, 0 ≤ x) ∧ outs = [.box 0 (srcC code a' s')] ∧ rows = [.row v 1 true (rws next)] ∧ res = .st [iv n, .own 6000 v] := by
    refine Con.dnr (k_l04Draw code 0 0 4 gaps hb (by omega) (by omega) hg) ?_
    rintro o r x ⟨n, ps, v, a', s', hp, h1, h2, rfl, rfl, rfl⟩
    refine ⟨n, ps.map (·.2), v, a', s', hp, h1, fun hz r hr x hx => ?_, ?_, ?_, ?_⟩
    · obtain ⟨p, hp, rfl⟩ := List.mem_map.1 hr
      exact h2 hz p hp x hx
    · simp only [List.map_cons, List.map_nil, AObj.dn, dnL, AVal.dn, dnL_ints, dnNm]
    · simp only [List.map_cons, List.map_nil, AObj.dn, dnL_rwp]
    · simp only [AVal.dn, dnL]
  refine call_con (r := 6) h rfl (by simp only [Bool.not_true, rowIs, boxIs, coe_argN, coe_argNs, coe_ro_o, coeL_nil, yzw, coe_any, coe_val, coe_ro, coe_ro_nil, coe_ro_own, coe_st, coe_st_agg, coe_rp, coe_rp_ptr, coe_clo, coe_own0, coe_ptr0, coeL_intsK, coeL_rws, coeL_rwn, L_hit, L_miss, L_nil, reduceEqDiff, ne_eq, reduceCtorEq, not_false_eq_true, true_and, and_true, and_self, exists_eq_left, exists_eq_right, List.mem_cons, List.not_mem_nil, or_false, AObj.row.injEq, AObj.box.injEq, exists_eq_left', exists_and_left, exists_eq, Nat.zero_lt_one, Nat.lt_add_one, List.map_cons, List.map_nil, AObj.ver, Nat.reduceLT, not_true_eq_false]) (by simp only [Bool.not_true, rowIs, boxIs, coe_argN, coe_argNs, coe_ro_o, coeL_nil, yzw, coe_any, coe_val, coe_ro, coe_ro_nil, coe_ro_own, coe_st, coe_st_agg, coe_rp, coe_rp_ptr, coe_clo, coe_own0, coe_ptr0, coeL_intsK, coeL_rws, coeL_rwn, L_hit, L_miss, L_nil, reduceEqDiff, ne_eq, reduceCtorEq, not_false_eq_true, true_and, and_true, and_self, exists_eq_left, exists_eq_right, List.mem_cons, List.not_mem_nil, or_false, AObj.row.injEq, AObj.box.injEq, exists_eq_left', exists_and_left, exists_eq, Nat.zero_lt_one, Nat.lt_add_one, List.map_cons, List.map_nil, AObj.ver, Nat.reduceLT, not_true_eq_false]) ?_
  rintro outs rows res ⟨n, next, v', a', s', P, h4, h2, rfl, rfl, rfl⟩
  refine ⟨rfl, by simp, by rw [Option.getD_some, yzf]; simp only [go_sem, yz0, Int.reduceLT, reduceLE, reduceToNat, reduceNeg, Nat.reduceLT, reduceLeDiff, reduceMul, reduceSub, reduceIte, reduceEqDiff, reduceAdd, reduceCtorEq], ?_⟩
  rw [Option.getD_some, callHp_mr (by omega)]
  simp only [Az4f, ← hQ, Nat.not_lt_zero, range1, ren_val, ren_any, ren_ro, rnNm_n, rnNm_sn, rnNm_o, rnNm_s, ren_st, ren_tup, yzu, yzm, yz8, yzq, yzr, yzo, yzp, yzs, yza, yzc, yz9, yze, yzk, yzj, yz3, yzd, yz7, yz6, yzi, yzl, List.range_zero, yz5, yz4, yzb, yzt, yzf, yzv, AVal.fresh, freshL, yz1, yzh, AObj.fresh, id, Option.isSome_some, or_true, true_or, go_sem, yz0, Int.reduceLT, reduceLE, reduceToNat, reduceNeg, Nat.reduceLT, reduceLeDiff, reduceMul, reduceSub, reduceIte, reduceEqDiff, reduceAdd, reduceCtorEq]
  refine ⟨[8], by simp, by simp, by simp, ?_⟩
  simp only [range1, List.length_singleton, Nat.not_lt_zero, range1, ren_val, ren_any, ren_ro, rnNm_n, rnNm_sn, rnNm_o, rnNm_s, ren_st, ren_tup, yzu, yzm, yz8, yzq, yzr, yzo, yzp, yzs, yza, yzc, yz9, yze, yzk, yzj, yz3, yzd, yz7, yz6, yzi, yzl, List.range_zero, yz5, yz4, yzb, yzt, yzf, yzv, AVal.fresh, freshL, yz1, yzh, AObj.fresh, id, Option.isSome_some, or_true, true_or, go_sem, yz0, Int.reduceLT, reduceLE, reduceToNat, reduceNeg, Nat.reduceLT, reduceLeDiff, reduceMul, reduceSub, reduceIte, reduceEqDiff, reduceAdd, reduceCtorEq]
  exact ⟨n, next, _, P, h4, h2, rfl, rfl⟩
end Go.Ab
namespace Go.Ab
open Go.Proofs
theorem mvL_rww {a v b m : Nat} {x : List (List (List Int))} : mvL a v b m (rww x) = rww x := by
  simp only [mvL_eq, rww, List.map_map]
  exact List.map_congr_left fun o _ => by simp [AVal.mv, mvL_rws]
attribute [local go_sem] mvL_rww
theorem setB_put {n : Int} {s : List Int} {x : Int} (h : setB n s = true) (hx : 0 ≤ x ∧ x < n) : setB n (put s x) = true := by
  obtain ⟨h1, h2⟩ := setB_iff.1 h
  refine setB_iff.2 ⟨put_SI h1, fun y hy => ?_⟩
  rcases put_mem.1 hy with rfl | h
  · exact hx
  · exact h2 y h
theorem k_l04DrawChoice (code : List Int) (at_ seed most : Int) (hb : ∀ x ∈ code, 0 ≤ x ∧ x ≤ 255) (ha : 0 ≤ at_ ∧ at_ ≤ 100000) (hm : 1 ≤ most ∧ most ≤ 10) :
    Con Try.prog nz36 [.box 0 (srcC code at_ seed)] [.ptr 5000 0 0, iv most] true fun outs rows res =>
      ∃ n nx v a' s', Chc n nx ∧ n ≤ most ∧ nx.length ≤ 2 ∧ outs = [.box 0 (srcC code a' s')] ∧ rows = [.row v 1 true (rww nx)] ∧ res = .st [iv n, .own 6000 v] := by
  refine con_sh mixed czfx rfl (by simp) ?_
  generalize hQ : finQ _ = Q
  simp only [Az4s, Bz9t, go_sem, yz0, Int.reduceLT, reduceLE, reduceToNat, reduceNeg, Nat.reduceLT, reduceLeDiff, reduceMul, reduceSub, reduceIte, reduceEqDiff, reduceAdd, reduceCtorEq]
  intro vs vs2
  refine call_funB (k_pick code at_ seed most hb (by omega)) rfl qCS qCS ?_
  rintro cs' x ⟨a1, s1, b1, rfl, h1, h2, rfl, h3, h4⟩
  obtain ⟨n, hn⟩ : ∃ n : Int, n = 1 + b1 := ⟨_, rfl⟩
  have wn : IntKind.i64.wrap (1 + b1) = n := by rw [hn]; exact w64 (by omega)
  simp only [wn, go_sem, yz0, Int.reduceLT, reduceLE, reduceToNat, reduceNeg, Nat.reduceLT, reduceLeDiff, reduceMul, reduceSub, reduceIte, reduceEqDiff, reduceAdd, reduceCtorEq]
  simp only [Bz9s, go_sem, yz0, Int.reduceLT, reduceLE, reduceToNat, reduceNeg, Nat.reduceLT, reduceLeDiff, reduceMul, reduceSub, reduceIte, reduceEqDiff, reduceAdd, reduceCtorEq]
  intro vs3
  refine call_funB (k_pick code a1 s1 2 hb (by omega)) rfl qCS qCS ?_
  rintro cs' x ⟨a2, s2, b2, rfl, g1, g2, rfl, g3, g4⟩
  obtain ⟨m, hmm⟩ : ∃ m : Nat, (m : Int) = 1 + b2 := ⟨(1 + b2).toNat, by omega⟩
  have wm : IntKind.i64.wrap (1 + b2) = (m : Int) := by rw [← hmm]; exact w64 (by omega)
  simp only [wm, Bz9q, go_sem, yz0, Int.reduceLT, reduceLE, reduceToNat, reduceNeg, Nat.reduceLT, reduceLeDiff, reduceMul, reduceSub, reduceIte, reduceEqDiff, reduceAdd, reduceCtorEq]
  intro ver
  refine wpD_lo (fun (_, _, _, _, c, _) => c) (fun (_, nn, a, _, c, x) => a2 ≤ a ∧ a ≤ a2 + 200 * List.length x ∧ c + List.length x = m ∧ (x ≠ [] → nn = true) ∧ ∀ r ∈ x, (List.length r : Int) = n ∧ ∀ s ∈ r, setB n s = true)
    (fun ((v, nn, a, s, c, x) : Nat × Bool × Int × Int × Nat × List (List (List Int))) => ⟨L .any [(0, .ptr 5000 0 0), (4, .ptr 4 (vs 0 0) 0), (5, .ptr 5 (vs2 5 0) 0), (6, iv c)],
      L .gone [(4, .box (vs 0 0) [iv 0, .val (.slice none 0 0)]), (5, .box (vs2 5 0) [iv n, .own 57 v]), (57, .row v 1 nn (rww x)), (5000, .box 0 (srcC code a s))]⟩)
    (ver, false, a2, s2, m, []) ⟨Int.le_refl _, by simp, by simp, by simp, by simp⟩ (by simp only [Bz27, go_sem, yz0, Int.reduceLT, reduceLE, reduceToNat, reduceNeg, Nat.reduceLT, reduceLeDiff, reduceMul, reduceSub, reduceIte, reduceEqDiff, reduceAdd, reduceCtorEq]; try rfl) ?_
  rintro ⟨v, nn, a, s, c, x⟩ ⟨i1, i2, i3, i4, i5⟩
  have i1 : a2 ≤ a := i1
  have i2 : a ≤ a2 + 200 * x.length := i2
  have i3 : c + x.length = m := i3
  by_cases hc : (c : Int) > 0
  · have wc : IntKind.i64.wrap ((c : Int) - 1) = ((c - 1 : Nat) : Int) := by rw [w64 (by omega)]; omega
    simp only [Bz27, Bz4o, Bz9p, decide_eq_true hc, go_sem, yz0, Int.reduceLT, reduceLE, reduceToNat, reduceNeg, Nat.reduceLT, reduceLeDiff, reduceMul, reduceSub, reduceIte, reduceEqDiff, reduceAdd, reduceCtorEq]
    intro vs4
    simp only [Bz9n, Bz9l, go_sem, yz0, Int.reduceLT, reduceLE, reduceToNat, reduceNeg, Nat.reduceLT, reduceLeDiff, reduceMul, reduceSub, reduceIte, reduceEqDiff, reduceAdd, reduceCtorEq]
    refine wpD_lo (fun (_, _, _, r) => n.toNat - List.length r) (fun (_, a', _, r) => a ≤ a' ∧ a' ≤ a + 20 * List.length r ∧ (List.length r : Int) ≤ n ∧ ∀ s ∈ r, setB n s = true)
      (fun ((u, a', s', r) : Nat × Int × Int × List (List Int)) => ⟨L .any [(0, .ptr 5000 0 0), (4, .ptr 4 (vs 0 0) 0), (5, .ptr 5 (vs2 5 0) 0), (6, iv c), (7, .own 23 u), (8, iv r.length)],
        L .gone [(4, .box (vs 0 0) [iv 0, .val (.slice none 0 0)]), (5, .box (vs2 5 0) [iv n, .own 57 v]), (23, .row u 1 true (rws r)), (57, .row v 1 nn (rww x)), (5000, .box 0 (srcC code a' s'))]⟩)
      (_, a, s, []) ⟨Int.le_refl _, by simp, by simp; omega, by simp⟩ (by simp only [Bz26, go_sem, yz0, Int.reduceLT, reduceLE, reduceToNat, reduceNeg, Nat.reduceLT, reduceLeDiff, reduceMul, reduceSub, reduceIte, reduceEqDiff, reduceAdd, reduceCtorEq]; try rfl) ?_
    rintro ⟨u, a', s', r⟩ ⟨j1, j2, j3, j4⟩
    have j1 : a ≤ a' := j1
    have j2 : a' ≤ a + 20 * r.length := j2
    have j3 : (r.length : Int) ≤ n := j3
    by_cases hlt : (r.length : Int) < n
    · have wr : IntKind.i64.wrap ((r.length : Int) + 1) = ((r.length + 1 : Nat) : Int) := by rw [w64 (by omega)]; simp
      simp only [Bz26, Bz4p, Bz9k, decide_eq_true hlt, go_sem, yz0, Int.reduceLT, reduceLE, reduceToNat, reduceNeg, Nat.reduceLT, reduceLeDiff, reduceMul, reduceSub, reduceIte, reduceEqDiff, reduceAdd, reduceCtorEq]
      intro vs5
      simp only [Bz9j, go_sem, yz0, Int.reduceLT, reduceLE, reduceToNat, reduceNeg, Nat.reduceLT, reduceLeDiff, reduceMul, reduceSub, reduceIte, reduceEqDiff, reduceAdd, reduceCtorEq]
      intro vs6
      refine call_funB (k_pick code a' s' 2 hb (by omega)) rfl qCS qCS ?_
      rintro cs' x' ⟨a3, s3, b3, rfl, e1, e2, rfl, e3, e4⟩
      obtain ⟨k0, hk0⟩ : ∃ k : Nat, (k : Int) = 1 + b3 := ⟨(1 + b3).toNat, by omega⟩
      have wk : IntKind.i64.wrap (1 + b3) = (k0 : Int) := by rw [← hk0]; exact w64 (by omega)
      simp only [wk, Bz9i, go_sem, yz0, Int.reduceLT, reduceLE, reduceToNat, reduceNeg, Nat.reduceLT, reduceLeDiff, reduceMul, reduceSub, reduceIte, reduceEqDiff, reduceAdd, reduceCtorEq]
      refine wpD_lm (fun (_, _, _, k, _) => k) (fun (_, a, _, k, set) => a3 ≤ a ∧ a + 4 * (k : Int) ≤ a3 + 8 ∧ k ≤ k0 ∧ setB n set = true ∧ List.length set + k ≤ k0)
        (fun ((w, a, s, k, set) : Nat × Int × Int × Nat × List Int) => ⟨L .any [(0, .ptr 5000 0 0), (4, .ptr 4 (vs 0 0) 0), (5, .ptr 5 (vs2 5 0) 0), (6, iv c), (7, .own 23 u), (8, iv r.length), (9, .own 30 w), (10, iv k)],
          L .gone [(4, .box (vs 0 0) [iv 0, .val (.slice none 0 0)]), (5, .box (vs2 5 0) [iv n, .own 57 v]), (23, .row u 1 true (rws r)), (30, .row w 1 true (ints set)), (57, .row v 1 nn (rww x)), (5000, .box 0 (srcC code a s))]⟩)
        (_, a3, s3, k0, []) ⟨Int.le_refl _, by omega, by omega, by simp [setB, SI, allIn], by simp⟩ (by intro w; simp only [Bz25, List.map_nil, go_sem, yz0, Int.reduceLT, reduceLE, reduceToNat, reduceNeg, Nat.reduceLT, reduceLeDiff, reduceMul, reduceSub, reduceIte, reduceEqDiff, reduceAdd, reduceCtorEq]; try rfl) ?_
      rintro ⟨w, a4, s4, k, set⟩ ⟨l1, l2, l3, l4, l5⟩
      have l1 : a3 ≤ a4 := l1
      have l2 : a4 + 4 * (k : Int) ≤ a3 + 8 := l2
      have l3 : k ≤ k0 := l3
      have l4 : setB n set = true := l4
      have l5 : set.length + k ≤ k0 := l5
      by_cases hk : (k : Int) > 0
      · have wk2 : IntKind.i64.wrap ((k : Int) - 1) = ((k - 1 : Nat) : Int) := by rw [w64 (by omega)]; omega
        simp only [Bz25, decide_eq_true hk, go_sem, yz0, Int.reduceLT, reduceLE, reduceToNat, reduceNeg, Nat.reduceLT, reduceLeDiff, reduceMul, reduceSub, reduceIte, reduceEqDiff, reduceAdd, reduceCtorEq]
        intro vs7
        refine call_funB (k_one code a4 s4 10 hb (by omega)) rfl qCS qCS ?_
        rintro cs' x' ⟨a5, s5, b5, rfl, f1, f2, rfl⟩
        cases b5 with
        | true =>
          simp only [Bool.not_true, Bz24, Bz4q, Bz4r, wr, go_sem, yz0, Int.reduceLT, reduceLE, reduceToNat, reduceNeg, Nat.reduceLT, reduceLeDiff, reduceMul, reduceSub, reduceIte, reduceEqDiff, reduceAdd, reduceCtorEq]
          exact fun vs9 => ⟨by omega, (vs9 3 0, a5, s5, r ++ [set]), by dsimp only; rw [List.length_append, List.length_singleton]; omega, ⟨by dsimp only; omega, by dsimp only; rw [List.length_append, List.length_singleton]; omega, by dsimp only; rw [List.length_append, List.length_singleton]; omega, fun s hs => by rcases List.mem_append.1 hs with h | h; exact j4 s h; rw [List.mem_singleton.1 h]; exact l4⟩, by simp only [List.length_append, List.length_singleton]⟩
        | false =>
          simp only [Bool.not_false, Bz24, Bz9h, go_sem, yz0, Int.reduceLT, reduceLE, reduceToNat, reduceNeg, Nat.reduceLT, reduceLeDiff, reduceMul, reduceSub, reduceIte, reduceEqDiff, reduceAdd, reduceCtorEq]
          intro vs8
          refine call_funB (k_pick code a5 s5 n hb (by omega)) rfl qCS qCS ?_
          rintro cs' x' ⟨a6, s6, b6, rfl, f3, f4, rfl, f5, f6⟩
          simp only [go_sem, yz0, Int.reduceLT, reduceLE, reduceToNat, reduceNeg, Nat.reduceLT, reduceLeDiff, reduceMul, reduceSub, reduceIte, reduceEqDiff, reduceAdd, reduceCtorEq]
          refine call_rowI (k_l00Put set b6 (by omega)) qCS qWS ⟨_, rfl⟩ ?_
          rintro ys vy rfl
          simp only [Bz9g, wk2, go_sem, yz0, Int.reduceLT, reduceLE, reduceToNat, reduceNeg, Nat.reduceLT, reduceLeDiff, reduceMul, reduceSub, reduceIte, reduceEqDiff, reduceAdd, reduceCtorEq]
          exact ⟨k - 1, by omega, fun w' => ⟨(w', a6, s6, k - 1, put set b6), rfl, ⟨by dsimp only; omega, by dsimp only; omega, by dsimp only; omega, setB_put l4 (by omega), by dsimp only; have := put_len (n := b6) (xs := set); omega⟩, rfl⟩⟩
      · simp only [Bz25, decide_eq_false hk, Bz24, Bz4q, Bz4r, wr, go_sem, yz0, Int.reduceLT, reduceLE, reduceToNat, reduceNeg, Nat.reduceLT, reduceLeDiff, reduceMul, reduceSub, reduceIte, reduceEqDiff, reduceAdd, reduceCtorEq]
        exact fun vs9 => ⟨by omega, (vs9 3 0, a4, s4, r ++ [set]), by dsimp only; rw [List.length_append, List.length_singleton]; omega, ⟨by dsimp only; omega, by dsimp only; rw [List.length_append, List.length_singleton]; omega, by dsimp only; rw [List.length_append, List.length_singleton]; omega, fun s hs => by rcases List.mem_append.1 hs with h | h; exact j4 s h; rw [List.mem_singleton.1 h]; exact l4⟩, by simp only [List.length_append, List.length_singleton]⟩
    · have hrl : (r.length : Int) = n := by omega
      simp only [Bz26, Bz4p, Bz9m, Bz9o, decide_eq_false hlt, wc, go_sem, yz0, Int.reduceLT, reduceLE, reduceToNat, reduceNeg, Nat.reduceLT, reduceLeDiff, reduceMul, reduceSub, reduceIte, reduceEqDiff, reduceAdd, reduceCtorEq]
      exact fun vs5 => ⟨by omega, (vs5 4 0, true, a', s', c - 1, x ++ [r]), by dsimp only; omega, ⟨by dsimp only; omega, by dsimp only; rw [List.length_append, List.length_singleton]; omega, by dsimp only; rw [List.length_append, List.length_singleton]; omega, fun _ => rfl, fun q hq => by rcases List.mem_append.1 hq with h | h; exact i5 q h; rw [List.mem_singleton.1 h]; exact ⟨hrl, j4⟩⟩, rfl⟩
  · obtain rfl : nn = true := i4 (fun e => by rw [e] at i3; simp at i3; omega)
    simp only [Bz27, Bz4o, Bz9r, decide_eq_false hc, Az4s, ← hQ, go_sem, yz0, Int.reduceLT, reduceLE, reduceToNat, reduceNeg, Nat.reduceLT, reduceLeDiff, reduceMul, reduceSub, reduceIte, reduceEqDiff, reduceAdd, reduceCtorEq]
    refine ⟨[57], by simp, by simp, by simp, ?_⟩
    simp only [range1, List.length_singleton, renL_rww, fresh_rww, Nat.not_lt_zero, range1, ren_val, ren_any, ren_ro, rnNm_n, rnNm_sn, rnNm_o, rnNm_s, ren_st, ren_tup, yzu, yzm, yz8, yzq, yzr, yzo, yzp, yzs, yza, yzc, yz9, yze, yzk, yzj, yz3, yzd, yz7, yz6, yzi, yzl, List.range_zero, yz5, yz4, yzb, yzt, yzf, yzv, AVal.fresh, freshL, yz1, yzh, AObj.fresh, id, Option.isSome_some, or_true, true_or, go_sem, yz0, Int.reduceLT, reduceLE, reduceToNat, reduceNeg, Nat.reduceLT, reduceLeDiff, reduceMul, reduceSub, reduceIte, reduceEqDiff, reduceAdd, reduceCtorEq]
    exact ⟨n, x, v, a, s, ⟨by omega, by omega, by omega, by omega, i5⟩, by omega, by omega, rfl, rfl, rfl⟩
end Go.Ab
namespace Go.Ab
open Go.Proofs
end Go.Ab
namespace Go.Ab
theorem fold_bit {α : Type} (g : α → Nat) (t : Nat) : ∀ (l : List α) (o : Nat), (l.foldl (fun o s => o ||| 2 ^ g s) o).testBit t = true ↔ o.testBit t = true ∨ ∃ x ∈ l, g x = t
  | [], o => by simp
  | x :: l, o => by
    rw [List.foldl_cons, fold_bit g t l, Nat.testBit_or, Nat.testBit_two_pow, Bool.or_eq_true, decide_eq_true_eq]
    simp only [List.mem_cons, exists_eq_or_imp, or_assoc]
theorem step_bit {row : List Int} {f t : Nat} : (stepN row f).testBit t = true ↔ ∃ s ∈ bitsN f, (row.getD s 0).toNat = t := by
  unfold stepN
  rw [fold_bit (fun s => (row.getD s 0).toNat)]
  simp
def imN (next : List (List Int)) (f : Nat) (w : List Int) : Nat := w.foldl (fun f l => stepN (next.getD l.toNat []) f) f
theorem imN_snoc {next : List (List Int)} {f : Nat} {w : List Int} {x : Int} : imN next f (w ++ [x]) = stepN (next.getD x.toNat []) (imN next f w) := by simp [imN]
def SndT (next : List (List Int)) (f0 : Nat) (L : TS) : Prop := ∀ p ∈ L, p.1 = imN next f0 p.2
theorem SndT.vis {next : List (List Int)} {f0 f : Nat} {w : List Int} (hf : f = imN next f0 w) : ∀ (x : Nat) {L : TS}, SndT next f0 L → SndT next f0 (visT next f w x L)
  | 0, _, h => h
  | x + 1, L, h => by
    have h1 := SndT.vis hf x h
    rw [visT_succ]
    split
    · exact h1
    · intro p hp
      rcases List.mem_append.1 hp with hp | hp
      · exact h1 p hp
      · have hp : p = (stepN (next.getD x []) f, w ++ [(x : Int)]) := by simpa using hp
        rw [hp, imN_snoc, ← hf]; rfl
theorem SndT.run {next : List (List Int)} {f0 : Nat} : ∀ (F i : Nat) {L : TS}, SndT next f0 L → SndT next f0 (runT next F i L)
  | 0, _, _, h => h
  | F + 1, i, L, h => by
    simp only [runT]
    split
    · rename_i hi
      exact SndT.run F (i + 1) (SndT.vis (h _ (yzn hi _)) _ h)
    · exact h
theorem small_bits (f : Nat) (hf : f < 1024) : smallN f = decide ((bitsN f).length ≤ 1) :=
  have h : ∀ f : Fin 1024, smallN f = decide ((bitsN f).length ≤ 1) := by decide +kernel
  h ⟨f, hf⟩
theorem small_iff {f : Nat} (hf : f < 1024) : smallN f = true ↔ ∀ s ∈ bitsN f, ∀ t ∈ bitsN f, s = t := by
  rw [small_bits f hf, decide_eq_true_eq]
  have hn : (bitsN f).Nodup := List.nodup_range.filter _
  constructor
  · intro h s hs t ht
    match hb : bitsN f with
    | [] => rw [hb] at hs; simp at hs
    | [x] => rw [hb] at hs ht; simp at hs ht; rw [hs, ht]
    | x :: y :: l => rw [hb] at h; simp at h
  · intro h
    match hb : bitsN f with
    | [] => simp
    | [x] => simp
    | x :: y :: l =>
      rw [hb] at hn h
      have := h x (by simp) y (by simp)
      rw [this] at hn; simp at hn
theorem atA_app {next : List (List Int)} {s : Int} {u v : List Int} : atA next s (u ++ v) = atA next (atA next s u) v := by simp [atA, List.foldl_append]
end Go.Ab
namespace Go.Ab
open Go.Proofs
end Go.Ab
namespace Go.Ab
structure BT (L : TS) (B C : List Int) : Prop where
  lb : B.length = L.length
  lc : C.length = L.length
  wd : ∀ i, i < L.length → (B.getD i 0 = -1 ∧ (L.getD i (0, [])).2 = []) ∨ (0 ≤ B.getD i 0 ∧ B.getD i 0 < i ∧ (L.getD i (0, [])).2 = (L.getD (B.getD i 0).toNat (0, [])).2 ++ [C.getD i 0])
theorem getD_appL {α : Type} {xs ys : List α} {i : Nat} {d : α} (h : i < xs.length) : (xs ++ ys).getD i d = xs.getD i d := by
  rw [List.getD_eq_getElem?_getD, List.getElem?_append_left h, ← List.getD_eq_getElem?_getD]
theorem getD_last {α : Type} {xs : List α} {y d : α} {i : Nat} (h : i = xs.length) : (xs ++ [y]).getD i d = y := by
  rw [List.getD_eq_getElem?_getD, List.getElem?_append_right (by omega), h]; simp
theorem BT.add {L : TS} {B C : List Int} (h : BT L B C) {i : Nat} (hi : i < L.length) (to x : Nat) :
    BT (L ++ [(to, (L.getD i (0, [])).2 ++ [(x : Int)])]) (B ++ [(i : Int)]) (C ++ [(x : Int)]) := by
  have lb := h.lb
  have lc := h.lc
  refine ⟨by simp [lb], by simp [lc], fun j hj => ?_⟩
  rw [List.length_append, List.length_singleton] at hj
  by_cases e : j < L.length
  · have e1 : (B ++ [(i : Int)]).getD j 0 = B.getD j 0 := getD_appL (by omega)
    have e2 : (C ++ [(x : Int)]).getD j 0 = C.getD j 0 := getD_appL (by omega)
    have e3 : (L ++ [(to, (L.getD i (0, [])).2 ++ [(x : Int)])]).getD j (0, []) = L.getD j (0, []) := getD_appL e
    rw [e1, e2, e3]
    rcases h.wd j e with h1 | ⟨h1, h2, h3⟩
    · exact .inl h1
    · have e4 : (L ++ [(to, (L.getD i (0, [])).2 ++ [(x : Int)])]).getD (B.getD j 0).toNat (0, []) = L.getD (B.getD j 0).toNat (0, []) := getD_appL (by omega)
      rw [e4]
      exact .inr ⟨h1, h2, h3⟩
  · have : j = L.length := by omega
    subst this
    have e1 : (B ++ [(i : Int)]).getD L.length 0 = i := getD_last lb.symm
    have e2 : (C ++ [(x : Int)]).getD L.length 0 = x := getD_last lc.symm
    have e3 : (L ++ [(to, (L.getD i (0, [])).2 ++ [(x : Int)])]).getD L.length (0, []) = (to, (L.getD i (0, [])).2 ++ [(x : Int)]) := getD_last rfl
    have e4 : (L ++ [(to, (L.getD i (0, [])).2 ++ [(x : Int)])]).getD i (0, []) = L.getD i (0, []) := getD_appL hi
    rw [e1, e2, e3, Int.toNat_natCast, e4]
    exact .inr ⟨by omega, by omega, rfl⟩
end Go.Ab
namespace Go.Ab
open Go.Proofs
theorem i_and {x y : Nat} (hx : x < 4611686018427387904) (hy : y < 4611686018427387904) :
    IntKind.i64.wrap ((@HAnd.hAnd (BitVec 64) (BitVec 64) (BitVec 64) (@instHAndOfAndOp (BitVec IntKind.i64.bits) (@BitVec.instAndOp IntKind.i64.bits)) (BitVec.ofInt 64 (x : Int)) (BitVec.ofInt 64 (y : Int))).toNat) = ((x &&& y : Nat) : Int) := by
  have h : (BitVec.ofInt 64 (x : Int) &&& BitVec.ofInt 64 (y : Int)).toNat = x &&& y := by rw [BitVec.toNat_and, bv64 (by omega), bv64 (by omega)]
  show IntKind.i64.wrap ((BitVec.ofInt 64 (x : Int) &&& BitVec.ofInt 64 (y : Int)).toNat : Int) = _
  rw [h]
  have : x &&& y ≤ x := Nat.and_le_left
  exact w64 (by omega)
theorem i_and1 {x : Nat} (hx : x < 4611686018427387904) :
    IntKind.i64.wrap ((@HAnd.hAnd (BitVec 64) (BitVec 64) (BitVec 64) (@instHAndOfAndOp (BitVec IntKind.i64.bits) (@BitVec.instAndOp IntKind.i64.bits)) (BitVec.ofInt 64 (x : Int)) (BitVec.ofInt 64 1)).toNat) = ((x &&& 1 : Nat) : Int) := i_and (y := 1) hx (by omega)
theorem i_or {x y : Nat} (hx : x < 4611686018427387904) (hy : y < 4611686018427387904) :
    IntKind.i64.wrap ((@HOr.hOr (BitVec 64) (BitVec 64) (BitVec 64) (@instHOrOfOrOp (BitVec IntKind.i64.bits) (@BitVec.instOrOp IntKind.i64.bits)) (BitVec.ofInt 64 (x : Int)) (BitVec.ofInt 64 (y : Int))).toNat) = ((x ||| y : Nat) : Int) := by
  have h : (BitVec.ofInt 64 (x : Int) ||| BitVec.ofInt 64 (y : Int)).toNat = x ||| y := by rw [BitVec.toNat_or, bv64 (by omega), bv64 (by omega)]
  show IntKind.i64.wrap ((BitVec.ofInt 64 (x : Int) ||| BitVec.ofInt 64 (y : Int)).toNat : Int) = _
  rw [h]
  have : x ||| y < 2 ^ 62 := Nat.or_lt_two_pow (n := 62) (by omega) (by omega)
  exact w64 (by omega)
theorem i_shl {b : Nat} (h : b < 60) : IntKind.i64.wrap (1 * 2 ^ min b 64) = ((2 ^ b : Nat) : Int) := by
  have h1 : min b 64 = b := by omega
  have h2 : (2 : Int) ^ b = ((2 ^ b : Nat) : Int) := by simp
  rw [h1, Int.one_mul, h2]
  have h3 : 2 ^ b < 1152921504606846976 := Nat.pow_lt_pow_right (a := 2) (n := 60) (by omega) h
  generalize 2 ^ b = q at h3 ⊢
  exact w64 (by omega)
theorem bitsTo_lt {f s : Nat} {x : Int} (h : x ∈ bitsTo f s) : 0 ≤ x ∧ x < s := by
  simp only [bitsTo, List.mem_map, List.mem_filter, List.mem_range] at h
  obtain ⟨k, ⟨h1, _⟩, rfl⟩ := h
  omega
end Go.Ab
namespace Go.Ab
open Go.Proofs
def IsW6 (l most : Int) (w : List Int) : Prop := (w.length : Int) ≤ most ∧ ∀ x ∈ w, 0 ≤ x ∧ x < l
theorem k_P6Word (code : List Int) (l most : Int) (hb : ∀ x ∈ code, 0 ≤ x ∧ x ≤ 255) (hl : 1 ≤ l) (hm : 0 ≤ most ∧ most ≤ 100) :
    RowI Try.prog nz1a [.ro (some (some 0)) 1 (intsK .u8 code), iv l, iv most] (IsW6 l most) := by
  refine rowI_of mixed czfm rfl ?_
  have wm : IntKind.i64.wrap (most + 1) = most + 1 := w64 (by omega)
  simp only [Bz7e, Bz7f, Bz7g, Bz7h, Bz7i, Bz7j, Bz7k, Bz7l, Bz7m, Az7n, wm, go_sem, yz0, Int.reduceLT, reduceLE, reduceToNat, reduceNeg, Nat.reduceLT, reduceLeDiff, reduceMul, reduceSub, reduceIte, reduceEqDiff, reduceAdd, reduceCtorEq]
  intro vs
  refine call_sh (k_from code) qCS (fun _ => ⟨_, _, _, rfl, 0, rfl, rfl⟩) ?_
  rintro outs rows res ⟨rfl, v, rfl, rfl⟩
  refine ⟨rfl, by simp, by rw [Option.getD_some, yzf]; simp only [go_sem, yz0, Int.reduceLT, reduceLE, reduceToNat, reduceNeg, Nat.reduceLT, reduceLeDiff, reduceMul, reduceSub, reduceIte, reduceEqDiff, reduceAdd, reduceCtorEq], ?_⟩
  simp only [wm, Nat.not_lt_zero, range1, ren_val, ren_any, ren_ro, rnNm_n, rnNm_sn, rnNm_o, rnNm_s, ren_st, ren_tup, yzu, yzm, yz8, yzq, yzr, yzo, yzp, yzs, yza, yzc, yz9, yze, yzk, yzj, yz3, yzd, yz7, yz6, yzi, yzl, List.range_zero, yz5, yz4, yzb, yzt, yzf, yzv, AVal.fresh, freshL, yz1, yzh, AObj.fresh, id, Option.isSome_some, or_true, true_or, go_sem, yz0, Int.reduceLT, reduceLE, reduceToNat, reduceNeg, Nat.reduceLT, reduceLeDiff, reduceMul, reduceSub, reduceIte, reduceEqDiff, reduceAdd, reduceCtorEq]
  intro vs3 vs4
  refine call_funB (k_pick code 0 0 (most + 1) hb (by omega)) rfl qCS qCS ?_
  rintro cs' x ⟨a', s', b, rfl, h1, h2, rfl, h3, h4⟩
  simp only [Nat.not_lt_zero, range1, ren_val, ren_any, ren_ro, rnNm_n, rnNm_sn, rnNm_o, rnNm_s, ren_st, ren_tup, yzu, yzm, yz8, yzq, yzr, yzo, yzp, yzs, yza, yzc, yz9, yze, yzk, yzj, yz3, yzd, yz7, yz6, yzi, yzl, List.range_zero, yz5, yz4, yzb, yzt, yzf, yzv, AVal.fresh, freshL, yz1, yzh, AObj.fresh, id, Option.isSome_some, or_true, true_or, go_sem, yz0, Int.reduceLT, reduceLE, reduceToNat, reduceNeg, Nat.reduceLT, reduceLeDiff, reduceMul, reduceSub, reduceIte, reduceEqDiff, reduceAdd, reduceCtorEq]
  refine wpD_lo (fun (_, _, _, _, _, k) => Int.toNat k) (fun (w, _, _, a, _, k) => IsW6 l most w ∧ (w.length : Int) + k ≤ most ∧ 0 ≤ a ∧ a + 2 * k ≤ 1000 ∧ 0 ≤ k)
    (fun ((w, v12, v11, a, s, k) : List Int × Nat × Nat × Int × Int × Int) => ⟨L .any [(1, iv l), (7, .ptr 11 v11 0), (8, .own 12 v12), (9, iv k)], L .gone [(11, .box v11 (srcC code a s)), (12, .row v12 1 true (ints w))]⟩)
    ([], _, _, a', s', b) ?_ (by simp only [go_sem, yz0, Int.reduceLT, reduceLE, reduceToNat, reduceNeg, Nat.reduceLT, reduceLeDiff, reduceMul, reduceSub, reduceIte, reduceEqDiff, reduceAdd, reduceCtorEq]; rfl) ?_
  · simp only [IsW6, List.length_nil, List.not_mem_nil]
    simp
    omega
  · rintro ⟨w, v12, v11, a, s, k⟩ ⟨hw, hk1, ha, ha2, hk⟩
    by_cases hk0 : k > 0
    · simp only [decide_eq_true hk0, go_sem, yz0, Int.reduceLT, reduceLE, reduceToNat, reduceNeg, Nat.reduceLT, reduceLeDiff, reduceMul, reduceSub, reduceIte, reduceEqDiff, reduceAdd, reduceCtorEq]
      intro vs5
      refine call_funB (k_pick code a s l hb (by omega)) rfl qCS qCS ?_
      rintro cs' x ⟨a'', s'', b', rfl, g1, g2, rfl, g3, g4⟩
      have hwk : IntKind.i64.wrap (k - 1) = k - 1 := w64 (by omega)
      simp only [hwk, Nat.not_lt_zero, range1, ren_val, ren_any, ren_ro, rnNm_n, rnNm_sn, rnNm_o, rnNm_s, ren_st, ren_tup, yzu, yzm, yz8, yzq, yzr, yzo, yzp, yzs, yza, yzc, yz9, yze, yzk, yzj, yz3, yzd, yz7, yz6, yzi, yzl, List.range_zero, yz5, yz4, yzb, yzt, yzf, yzv, AVal.fresh, freshL, yz1, yzh, AObj.fresh, id, Option.isSome_some, or_true, true_or, go_sem, yz0, Int.reduceLT, reduceLE, reduceToNat, reduceNeg, Nat.reduceLT, reduceLeDiff, reduceMul, reduceSub, reduceIte, reduceEqDiff, reduceAdd, reduceCtorEq]
      refine ⟨⟨_, rfl, rfl⟩, ?_, (_, _, _, _, _, _), ?_, ?_, rfl⟩
      · omega
      · show (k - 1).toNat < k.toNat
        omega
      · refine ⟨⟨?_, ?_⟩, ?_, ?_, ?_, ?_⟩
        · simp; omega
        · intro x hx
          simp only [List.mem_append, List.mem_singleton] at hx
          rcases hx with hx | rfl
          · exact hw.2 x hx
          · omega
        · simp; omega
        · show 0 ≤ a''; omega
        · show a'' + 2 * (k - 1) ≤ 1000; omega
        · show 0 ≤ k - 1; omega
    · simp only [decide_eq_false hk0, go_sem, yz0, Int.reduceLT, reduceLE, reduceToNat, reduceNeg, Nat.reduceLT, reduceLeDiff, reduceMul, reduceSub, reduceIte, reduceEqDiff, reduceAdd, reduceCtorEq]
      exact ⟨12, v12, w, by omega, rfl, by simp only [go_sem, yz0, Int.reduceLT, reduceLE, reduceToNat, reduceNeg, Nat.reduceLT, reduceLeDiff, reduceMul, reduceSub, reduceIte, reduceEqDiff, reduceAdd, reduceCtorEq], hw⟩
theorem k_f6big (code : List Int) : Fun Try.prog nz19 [.ro (some (some 0)) 1 (intsK .u8 code)] (bv (decide ((code.length : Int) > 4096))) := by
  refine fun_of mixed czfk rfl ⟨rfl, trivial⟩ ?_
  simp only [Bz7b, Az7c, go_sem, yz0, Int.reduceLT, reduceLE, reduceToNat, reduceNeg, Nat.reduceLT, reduceLeDiff, reduceMul, reduceSub, reduceIte, reduceEqDiff, reduceAdd, reduceCtorEq]
  try (intro _)
  try simp
theorem k_f6ints (xs ys : List Int) : Fun Try.prog nz1c [.ro none 1 (ints xs), .ro none 1 (ints ys)] (bv (decide (xs = ys))) := by
  refine fun_of mixed czfq rfl ⟨rfl, trivial⟩ ?_
  simp only [Az8f, Bz8e, go_sem, yz0, Int.reduceLT, reduceLE, reduceToNat, reduceNeg, Nat.reduceLT, reduceLeDiff, reduceMul, reduceSub, reduceIte, reduceEqDiff, reduceAdd, reduceCtorEq]
  intro hx hy
  by_cases hlen : xs.length = ys.length
  · have hne : ((xs.length : Int) != (ys.length : Int)) = false := by rw [hlen]; simp
    simp only [hne, Bz47, Bz8d, Bz8b, go_sem, yz0, Int.reduceLT, reduceLE, reduceToNat, reduceNeg, Nat.reduceLT, reduceLeDiff, reduceMul, reduceSub, reduceIte, reduceEqDiff, reduceAdd, reduceCtorEq]
    refine wpD_lo (fun i => xs.length - i) (fun i => i ≤ xs.length ∧ xs.take i = ys.take i)
      (fun i : Nat => ⟨L .any [(0, .ro none 1 (ints xs)), (1, .ro none 1 (ints ys)), (5, iv i)], L .gone []⟩) 0 (by simp) (by simp only [Bz20, go_sem, yz0, Int.reduceLT, reduceLE, reduceToNat, reduceNeg, Nat.reduceLT, reduceLeDiff, reduceMul, reduceSub, reduceIte, reduceEqDiff, reduceAdd, reduceCtorEq]; try rfl) ?_
    rintro i ⟨hi, hti⟩
    by_cases hlt : (i : Int) < xs.length
    · have hlt1 : i < xs.length := by omega
      have hlt2 : i < ys.length := by omega
      simp only [Bz20, Bz48, Bz49, yzg hlt1, yzg hlt2, decide_eq_true hlt, go_sem, yz0, Int.reduceLT, reduceLE, reduceToNat, reduceNeg, Nat.reduceLT, reduceLeDiff, reduceMul, reduceSub, reduceIte, reduceEqDiff, reduceAdd, reduceCtorEq]
      intro _
      refine ⟨⟨by omega, hlt1⟩, hlt1, ⟨by omega, hlt2⟩, hlt2, ?_⟩
      simp only [Bz89, Bz8a, nat1 i _ hlt1 hx, go_sem, yz0, Int.reduceLT, reduceLE, reduceToNat, reduceNeg, Nat.reduceLT, reduceLeDiff, reduceMul, reduceSub, reduceIte, reduceEqDiff, reduceAdd, reduceCtorEq]
      refine ⟨fun h => ?_, fun h => ⟨i + 1, by omega, ⟨by omega, take_eq_step 0 hlt1 hlt2 hti (bne_false_eq h)⟩, rfl⟩⟩
      have : xs ≠ ys := by rintro rfl; simp at h
      simp [this]
    · have : i = xs.length := by omega
      subst this
      simp only [Bz20, Bz48, Bz49, Bz8c, decide_eq_false hlt, go_sem, yz0, Int.reduceLT, reduceLE, reduceToNat, reduceNeg, Nat.reduceLT, reduceLeDiff, reduceMul, reduceSub, reduceIte, reduceEqDiff, reduceAdd, reduceCtorEq]
      intro _
      have : xs = ys := by rw [List.take_length, hlen, List.take_length] at hti; exact hti
      simp [this]
  · have hne : ((xs.length : Int) != (ys.length : Int)) = true := by simp; omega
    simp only [hne, Bz47, go_sem, yz0, Int.reduceLT, reduceLE, reduceToNat, reduceNeg, Nat.reduceLT, reduceLeDiff, reduceMul, reduceSub, reduceIte, reduceEqDiff, reduceAdd, reduceCtorEq]
    have : xs ≠ ys := by rintro rfl; exact hlen rfl
    simp [this]
end Go.Ab
namespace Go.Ab
def outA (out : List (List Int)) (s l : Int) : Int := (out.getD l.toNat []).getD s.toNat 0
def lexP : List Int → List Int → Bool
  | x :: v, y :: w => if x = y then lexP v w else decide (x < y)
  | _, _ => false
def befP (v w : List Int) : Bool := if v.length = w.length then lexP v w else decide (v.length < w.length)
end Go.Ab
namespace Go.Ab
open Go.Proofs
end Go.Ab
namespace Go.Ab
def leP (u v : List Int) : Prop := befP u v = true ∨ u = v
def pairW (na nb : List (List Int)) : Nat × Nat → List Int → Nat × Nat
  | p, [] => p
  | p, x :: w => pairW na nb (stepP na nb p x.toNat) w
def difW (na nb oa ob : List (List Int)) : Nat × Nat → List Int → Bool
  | _, [] => false
  | p, x :: w => difP oa ob p x.toNat || difW na nb oa ob (stepP na nb p x.toNat) w
def isWd (k : Nat) (w : List Int) : Prop := ∀ x ∈ w, 0 ≤ x ∧ x < k
structure BI (na nb oa ob : List (List Int)) (p0 : Nat × Nat) (i : Nat) (L : PS) : Prop where
  ok : ∀ q ∈ L, q.1 = pairW na nb p0 q.2 ∧ difW na nb oa ob p0 q.2 = false ∧ isWd na.length q.2
  so : L.Pairwise fun a b => befP a.2 b.2 = true
  par : ∀ q ∈ L, q.2 = [] ∨ ∃ j < i, ∃ y, q.2 = (L.getD j ((0, 0), [])).2 ++ [y]
  cl : ∀ a < i, ∀ x < na.length, difP oa ob (L.getD a ((0, 0), [])).1 x = false ∧ ∃ q ∈ L, q.1 = stepP na nb (L.getD a ((0, 0), [])).1 x ∧ leP q.2 ((L.getD a ((0, 0), [])).2 ++ [(x : Int)])
  le : i ≤ L.length
  nil : ∃ q ∈ L, q.1 = p0 ∧ q.2 = []
structure BV (na nb oa ob : List (List Int)) (p0 : Nat × Nat) (i : Nat) (L : PS) (x : Nat) (L' : PS) : Prop where
  sub : ∃ t, L' = L ++ t
  ok : ∀ q ∈ L', q.1 = pairW na nb p0 q.2 ∧ difW na nb oa ob p0 q.2 = false ∧ isWd na.length q.2
  so : L'.Pairwise fun a b => befP a.2 b.2 = true
  par : ∀ q ∈ L', q.2 = [] ∨ (∃ j < i, ∃ y, q.2 = (L.getD j ((0, 0), [])).2 ++ [y]) ∨ ∃ y < x, q.2 = (L.getD i ((0, 0), [])).2 ++ [(y : Int)]
  cl : ∀ y < x, ∃ q ∈ L', q.1 = stepP na nb (L.getD i ((0, 0), [])).1 y ∧ leP q.2 ((L.getD i ((0, 0), [])).2 ++ [(y : Int)])
end Go.Ab
namespace Go.Ab
end Go.Ab
namespace Go.Ab
theorem appg_new {α : Type} {xs : List α} {y d : α} : (xs ++ [y]).getD xs.length d = y := by
  simp [List.getD_eq_getElem?_getD]
end Go.Ab
namespace Go.Ab
structure CI (n : Int) (L : List Int) : Prop where
  nd : L.Nodup
  rg : ∀ s ∈ L, 0 ≤ s ∧ s < n
  hd : L.getD 0 1 = 0
theorem CI.len {n : Int} {L : List Int} (h : CI n L) (hn : n ≤ 10) : 1 ≤ L.length ∧ L.length ≤ 10 := by
  have h1 : L ≠ [] := fun e => by have := h.hd; rw [e] at this; simp at this
  have hm : (L.map Int.toNat).Nodup := by
    refine List.Pairwise.map _ ?_ (List.Pairwise.and_mem.1 h.nd)
    rintro a b ⟨ha, hb, hab⟩ e
    have := h.rg a ha
    have := h.rg b hb
    omega
  have := nodup_lt 10 _ hm fun x hx => by
    obtain ⟨s, hs, rfl⟩ := List.mem_map.1 hx
    have := h.rg s hs
    omega
  rw [List.length_map] at this
  exact ⟨List.length_pos_iff.2 h1, this⟩
structure Rel (na oa nb ob : List (List Int)) (R : Int → Int → Prop) : Prop where
  len : na.length = nb.length
  step : ∀ s t, R s t → ∀ x, 0 ≤ x ∧ x < (na.length : Int) → outA oa s x = outA ob t x ∧ R (stepA na s x) (stepA nb t x)
  fn : ∀ s t t', R s t → R s t' → t = t'
  inj : ∀ s s' t, R s t → R s' t → s = s'
def RelL (R : Int → Int → Prop) (L M : List Int) : Prop := L.length = M.length ∧ ∀ i < L.length, R (L.getD i 0) (M.getD i 0)
theorem RelL.snoc {R : Int → Int → Prop} {L M : List Int} (h : RelL R L M) {s t : Int} (hst : R s t) : RelL R (L ++ [s]) (M ++ [t]) := by
  refine ⟨by simp [h.1], fun i hi => ?_⟩
  rw [List.length_append, List.length_singleton] at hi
  by_cases e : i < L.length
  · rw [getD_app e, getD_app (by rw [← h.1]; exact e)]; exact h.2 i e
  · have e1 : i = L.length := by omega
    subst e1
    rw [appg_new]
    rw [h.1, appg_new]; exact hst
end Go.Ab
namespace Go.Ab
end Go.Ab
namespace Go.Ab
open Go.Proofs
abbrev MachR (n o : Int) (xs ys : List (List Int)) (rows : List AObj) (res : AVal) : Prop :=
  ∃ v w ps qs, rows = [.row v 1 true (rwp ps), .row w 1 true (rwp qs)] ∧ ps.map (·.2) = xs ∧ qs.map (·.2) = ys ∧ DJ (ps ++ qs) ∧ res = .st [iv n, iv o, .own 6000 v, .own 6001 w]
abbrev NamM (P : Program) (g : FuncId) (args : List AVal) (n o : Int) (xs ys : List (List Int)) : Prop := Fn P g args (MachR n o xs ys)
end Go.Ab
namespace Go.Ab
open Go.Proofs
end Go.Ab
namespace Go.Ab
open Go.Proofs
abbrev MachS (n o : Int) (xs ys : List (List Int)) (rows : List AObj) (res : AVal) : Prop :=
  ∃ v w, rows = [.row v 1 true (rws xs), .row w 1 true (rws ys)] ∧ res = .st [iv n, iv o, .own 6000 v, .own 6001 w]
theorem NamM.dn {P : Program} {g : FuncId} {args : List AVal} {n o : Int} {xs ys : List (List Int)} (h : NamM P g args n o xs ys) : Fn P g args (MachS n o xs ys) := by
  refine Con.dnr h ?_
  rintro o' r x ⟨rfl, v, w, ps, qs, rfl, rfl, rfl, _, rfl⟩
  refine ⟨rfl, v, w, ?_, ?_⟩
  · simp only [List.map_cons, List.map_nil, AObj.dn, dnL_rwp]
  · simp only [AVal.dn, dnL]
abbrev MachRC (ok : Bool) (n o : Int) (xs ys : List (List Int)) (code : Int) (rows : List AObj) (res : AVal) : Prop :=
  if ok = true then ∃ v w ps qs, rows = [.row v 1 true (rwp ps), .row w 1 true (rwp qs)] ∧ ps.map (·.2) = xs ∧ qs.map (·.2) = ys ∧ DJ (ps ++ qs) ∧ res = .tup [.st [iv n, iv o, .own 6000 v, .own 6001 w], iv code]
  else rows = [] ∧ res = .tup [.st [iv 0, iv 0, nilS, nilS], iv code]
abbrev NamMR (P : Program) (g : FuncId) (args : List AVal) (ok : Bool) (n o : Int) (xs ys : List (List Int)) (code : Int) : Prop := Fn P g args (MachRC ok n o xs ys code)
abbrev MachSC (n o : Int) (xs ys : List (List Int)) (rows : List AObj) (res : AVal) : Prop :=
  ∃ v w, rows = [.row v 1 true (rws xs), .row w 1 true (rws ys)] ∧ res = .tup [.st [iv n, iv o, .own 6000 v, .own 6001 w], iv 0]
theorem NamMR.dn {P : Program} {g : FuncId} {args : List AVal} {ok : Bool} {n o : Int} {xs ys : List (List Int)} {code : Int} (h : NamMR P g args ok n o xs ys code) (hok : ok = true) (hc : code = 0) : Fn P g args (MachSC n o xs ys) := by
  subst hok hc
  refine Con.dnr h ?_
  rintro o' r x ⟨rfl, hR⟩
  unfold MachRC at hR
  rw [if_pos rfl] at hR
  obtain ⟨v, w, ps, qs, rfl, rfl, rfl, _, rfl⟩ := hR
  refine ⟨rfl, v, w, ?_, ?_⟩
  · simp only [List.map_cons, List.map_nil, AObj.dn, dnL_rwp]
  · simp only [AVal.dn, dnL]
end Go.Ab
namespace Go.Ab
open Go.Proofs
end Go.Ab
namespace Go.Ab
open Go.Proofs
end Go.Ab
namespace Go.Ab
open Go.Proofs
end Go.Ab
namespace Go.Ab
open Go.Proofs
end Go.Ab
namespace Go.Ab
open Go.Proofs
end Go.Ab
namespace Go.Ab
def pairI (n : Int) (p : List Int) : Nat := (fidx (fun q => decide (q = p)) (every n) 0).toNat
def wocW (n : Int) (words : List (List Int)) (set : List Int) : List Int := words.getD (pairI n (set.take 2)) []
def wocR (n : Int) (next words : List (List Int)) : Nat → List Int → List Int → List Int
  | 0, _, out => out
  | F + 1, set, out => if set.length ≤ 1 then out else wocR n next words F (imgL next set (wocW n words set)) (out ++ wocW n words set)
structure WS1 (n : Int) (set : List Int) : Prop where
  si : SI set
  rg : ∀ x ∈ set, 0 ≤ x ∧ x < n
end Go.Ab
namespace Go.Ab
end Go.Ab
namespace Go.Ab
end Go.Ab
namespace Go.Ab
end Go.Ab
namespace Go.Ab
open Go.Proofs
def optC : Option (List Int) → AVal
  | some w => .ro none 1 (ints w)
  | none => .val (.slice none 0 0)
def optL (os : List (Option (List Int))) : List AVal := os.map optC
def rzs (oss : List (List (Option (List Int)))) : List AVal := oss.map fun os => .ro (some none) 1 (optL os)
def rzn (oss : List (List (Option (List Int)))) : List AVal := oss.map fun os => .ro none 1 (optL os)
theorem dn_optC {o : Option (List Int)} : (optC o).dn = optC o := by cases o <;> simp [optC, AVal.dn, ints, dnL_eq, dnNm]
theorem dnL_opt {os : List (Option (List Int))} : dnL (optL os) = optL os := by
  simp only [dnL_eq, optL, List.map_map]
  exact List.map_congr_left fun o _ => dn_optC
theorem dnL_rzs {oss : List (List (Option (List Int)))} : dnL (rzs oss) = rzs oss := by
  simp only [dnL_eq, rzs, List.map_map]
  exact List.map_congr_left fun o _ => by simp [AVal.dn, dnL_opt, dnNm]
theorem dnL_rzn {oss : List (List (Option (List Int)))} : dnL (rzn oss) = rzn oss := by
  simp only [dnL_eq, rzn, List.map_map]
  exact List.map_congr_left fun o _ => by simp [AVal.dn, dnL_opt, dnNm]
theorem one_optC {hp : Nat → AObj} {o : Option (List Int)} : One hp (optC o) = True := by cases o <;> simp [optC, One, Value.oneCell']
theorem one_opt {hp : Nat → AObj} {os : List (Option (List Int))} : (∀ A ∈ optL os, One hp A) = True := by
  refine eq_true ?_
  intro A hA
  simp only [optL, List.mem_map] at hA
  obtain ⟨x, _, rfl⟩ := hA
  exact of_eq_true one_optC
theorem one_rzs {hp : Nat → AObj} {oss : List (List (Option (List Int)))} : (∀ A ∈ rzs oss, One hp A) = True := by
  refine eq_true ?_
  intro A hA
  simp only [rzs, List.mem_map] at hA
  obtain ⟨x, _, rfl⟩ := hA
  exact trivial
theorem frz_optC {hp : Nat → AObj} {o : Option (List Int)} : frz hp (optC o) = optC o := by cases o <;> simp [optC, frz]
theorem frz_opt {hp : Nat → AObj} {os : List (Option (List Int))} : (optL os).map (frz hp) = optL os := by
  simp only [optL, List.map_map]
  exact List.map_congr_left fun o _ => frz_optC
theorem frz_rzs {hp : Nat → AObj} {oss : List (List (Option (List Int)))} : (rzs oss).map (frz hp) = rzs oss := by simp [rzs, frz]
theorem owned_opt : ∀ {os : List (Option (List Int))}, owned (optL os) = []
  | [] => rfl
  | some _ :: os => owned_opt (os := os)
  | none :: os => owned_opt (os := os)
theorem owned_rzs : ∀ {oss : List (List (Option (List Int)))}, owned (rzs oss) = []
  | [] => rfl
  | _ :: oss => owned_rzs (oss := oss)
theorem opt_some {os : List (Option (List Int))} {w : List Int} : optL os ++ [.ro none 1 (ints w)] = optL (os ++ [some w]) := by simp [optL, optC]
theorem opt_none {os : List (Option (List Int))} : optL os ++ [.val (.slice none 0 0)] = optL (os ++ [none]) := by simp [optL, optC]
theorem rzs_snoc {oss : List (List (Option (List Int)))} {os : List (Option (List Int))} : rzs oss ++ [.ro (some none) 1 (optL os)] = rzs (oss ++ [os]) := by simp [rzs]
theorem opt_len {os : List (Option (List Int))} : (optL os).length = os.length := by simp [optL]
theorem rzs_len {oss : List (List (Option (List Int)))} : (rzs oss).length = oss.length := by simp [rzs]
theorem rzn_len {oss : List (List (Option (List Int)))} : (rzn oss).length = oss.length := by simp [rzn]
attribute [local go_sem] dnL_opt dnL_rzs dnL_rzn one_opt one_rzs frz_opt frz_rzs owned_opt owned_rzs opt_some opt_none rzs_snoc rzs_len rzn_len opt_len
end Go.Ab
namespace Go.Ab
open Go.Proofs
attribute [local go_sem] dnL_opt dnL_rzs dnL_rzn one_opt one_rzs frz_opt frz_rzs owned_opt owned_rzs opt_some opt_none rzs_snoc rzs_len rzn_len opt_len
theorem rwnS {xss : List (List Int)} {xs : List Int} : rwn xss ++ [.ro none 1 (ints xs)] = rwn (xss ++ [xs]) := by simp [rwn]
theorem frz_rwnS {hp : Nat → AObj} {xss : List (List Int)} : (rwn xss).map (frz hp) = rwn xss := by simp [rwn, frz]
theorem owned_rwnS : ∀ {xss : List (List Int)}, owned (rwn xss) = []
  | [] => rfl
  | _ :: xss => owned_rwnS (xss := xss)
attribute [local go_sem] rwnS frz_rwnS owned_rwnS
end Go.Ab
namespace Go.Ab
open Go.Proofs
theorem k_l02Bits (set : List Int) (h : ∀ s ∈ set, 0 ≤ s ∧ s < 10) : Fun Try.prog nz1h [.ro none 1 (ints set)] (iv (maskN set)) := by
  refine fun_of mixed czgd rfl ⟨rfl, trivial⟩ ?_
  simp only [Azbz, Bzby, Bzbx, Bzbv, go_sem, yz0, Int.reduceLT, reduceLE, reduceToNat, reduceNeg, Nat.reduceLT, reduceLeDiff, reduceMul, reduceSub, reduceIte, reduceEqDiff, reduceAdd, reduceCtorEq]
  refine wpD_lo (fun i => set.length - i) (fun i => i ≤ set.length)
    (fun i : Nat => ⟨L .any [(0, .ro none 1 (ints set)), (3, iv (maskN (set.take i))), (4, iv i)], L .gone []⟩) 0 (by simp) (by simp only [Bz2j, List.take_zero, go_sem, yz0, Int.reduceLT, reduceLE, reduceToNat, reduceNeg, Nat.reduceLT, reduceLeDiff, reduceMul, reduceSub, reduceIte, reduceEqDiff, reduceAdd, reduceCtorEq]; try rfl) ?_
  intro i hi
  by_cases hlt : (i : Int) < set.length
  · have hlt1 : i < set.length := by omega
    have hs := h _ (yzn hlt1 0)
    have hs0 : ¬ set.getD i 0 < 0 := by omega
    have h1 := maskN_lt (set := set.take i) (fun s hs => h s (List.mem_of_mem_take hs))
    have h2 := pow_lt10 (k := (set.getD i 0).toNat) (by omega)
    have hx64 : IntKind.u64.wrap (set.getD i 0) = set.getD i 0 := by
      rw [show set.getD i 0 = (((set.getD i 0).toNat : Nat) : Int) by omega]; exact u64w (by omega)
    have hsl := i_shl (b := (set.getD i 0).toNat) (by omega)
    have hor := i_or (x := maskN (set.take i)) (y := 2 ^ (set.getD i 0).toNat) (by omega) (by omega)
    have hr : maskN (set.take i) ||| 2 ^ (set.getD i 0).toNat = maskN (set.take (i + 1)) := getD_snoc set (fun o s => o ||| 2 ^ s.toNat) 0 0 hlt1
    simp only [Bz2j, Bz5e, Bzbu, Bzbt, hs0, hx64, hsl, hor, hr, yzg hlt1, decide_eq_true hlt, go_sem, yz0, Int.reduceLT, reduceLE, reduceToNat, reduceNeg, Nat.reduceLT, reduceLeDiff, reduceMul, reduceSub, reduceIte, reduceEqDiff, reduceAdd, reduceCtorEq]
    intro hM
    simp only [nat1 i _ hlt1 hM, go_sem, yz0, Int.reduceLT, reduceLE, reduceToNat, reduceNeg, Nat.reduceLT, reduceLeDiff, reduceMul, reduceSub, reduceIte, reduceEqDiff, reduceAdd, reduceCtorEq]
    exact ⟨⟨by omega, hlt1⟩, hlt1, i + 1, by omega, by omega, rfl⟩
  · obtain rfl : i = set.length := by omega
    simp only [Bz2j, Bz5e, Bzbw, decide_eq_false hlt, List.take_length, go_sem, yz0, Int.reduceLT, reduceLE, reduceToNat, reduceNeg, Nat.reduceLT, reduceLeDiff, reduceMul, reduceSub, reduceIte, reduceEqDiff, reduceAdd, reduceCtorEq]
    try (intro _; trivial)
end Go.Ab
namespace Go.Ab
def divS : Int → List Int → Bool
  | _, [] => true
  | u, c :: cs => (decide (0 ≤ c) && decide (c ≤ u)) && divS (max u (c + 1)) cs
def usedS : Int → List Int → Int
  | u, [] => u
  | u, c :: cs => usedS (max u (c + 1)) cs
def divB (cl : List Int) (n : Int) : Bool := divS 0 cl && decide ((cl.length : Int) = n)
theorem used_ge : ∀ {cs : List Int} {u : Int}, u ≤ usedS u cs
  | [], _ => Int.le_refl _
  | c :: cs, u => by
    have := used_ge (cs := cs) (u := max u (c + 1))
    simp only [usedS]; omega
theorem used_mem : ∀ {cs : List Int} {u c : Int}, c ∈ cs → c + 1 ≤ usedS u cs
  | x :: cs, u, c, h => by
    simp only [usedS]
    rcases List.mem_cons.1 h with rfl | h
    · have := used_ge (cs := cs) (u := max u (c + 1)); omega
    · exact used_mem h
theorem divS_cons {u c : Int} {cs : List Int} : divS u (c :: cs) = true ↔ (0 ≤ c ∧ c ≤ u) ∧ divS (max u (c + 1)) cs = true := by
  simp [divS, Bool.and_eq_true, decide_eq_true_eq]
theorem div_nn : ∀ {cs : List Int} {u c : Int}, divS u cs = true → c ∈ cs → 0 ≤ c
  | x :: cs, u, c, h, hc => by
    obtain ⟨h1, h2⟩ := divS_cons.1 h
    rcases List.mem_cons.1 hc with rfl | hc
    · exact h1.1
    · exact div_nn h2 hc
theorem div_surj : ∀ {cs : List Int} {u c : Int}, divS u cs = true → u ≤ c → c < usedS u cs → c ∈ cs
  | [], u, c, _, h1, h2 => by simp only [usedS] at h2; omega
  | x :: cs, u, c, h, h1, h2 => by
    obtain ⟨g1, g2⟩ := divS_cons.1 h
    simp only [usedS] at h2
    by_cases e : c = x
    · rw [e]; simp
    · exact List.mem_cons_of_mem _ (div_surj g2 (by omega) h2)
theorem used_len : ∀ {cs : List Int} {u : Int}, divS u cs = true → usedS u cs ≤ u + cs.length
  | [], u, _ => by simp [usedS]
  | x :: cs, u, h => by
    obtain ⟨g1, g2⟩ := divS_cons.1 h
    have := used_len g2
    simp only [usedS, List.length_cons]; omega
theorem divS_snoc : ∀ {cs : List Int} {u c : Int}, divS u (cs ++ [c]) = (divS u cs && (decide (0 ≤ c) && decide (c ≤ usedS u cs)))
  | [], u, c => by simp only [List.nil_append, divS, usedS, Bool.and_true, Bool.true_and]; rfl
  | x :: cs, u, c => by simp only [List.cons_append, divS, usedS, divS_snoc (cs := cs), Bool.and_assoc]; rfl
structure Div (cl : List Int) (n k : Int) : Prop where
  ln : (cl.length : Int) = n
  nn : ∀ c ∈ cl, 0 ≤ c ∧ c < k
  on : ∀ c, 0 ≤ c → c < k → c ∈ cl
  le : k ≤ n
theorem Div.of {cl : List Int} {n : Int} (h : divB cl n = true) : Div cl n (usedS 0 cl) := by
  unfold divB at h
  rw [Bool.and_eq_true, decide_eq_true_eq] at h
  exact ⟨h.2, fun c hc => ⟨div_nn h.1 hc, by have := used_mem (u := 0) hc; omega⟩, fun c h1 h2 => div_surj h.1 h1 h2, by have := used_len h.1; omega⟩
theorem Div.at {cl : List Int} {n k : Int} (D : Div cl n k) {s : Nat} (hs : (s : Int) < n) : 0 ≤ cl.getD s 0 ∧ cl.getD s 0 < k := D.nn _ (yzn (by have := D.ln; omega) 0)
end Go.Ab
namespace Go.Ab
open Go.Proofs
end Go.Ab
namespace Go.Ab
open Go.Proofs
end Go.Ab
namespace Go.Ab
def LeC (n : Nat) (cl us : List Int) : Prop := ∀ i j : Nat, i < n → j < n → cl.getD i 0 = cl.getD j 0 → us.getD i 0 = us.getD j 0
def RspC (n : Nat) (next : List (List Int)) (cl us : List Int) : Prop := ∀ row ∈ next, ∀ i j : Nat, i < n → j < n → cl.getD i 0 = cl.getD j 0 → us.getD (row.getD i 0).toNat 0 = us.getD (row.getD j 0).toNat 0
theorem LeC.refl {n : Nat} {cl : List Int} : LeC n cl cl := fun _ _ _ _ h => h
theorem LeC.trans {n : Nat} {a b c : List Int} (h : LeC n a b) (k : LeC n b c) : LeC n a c := fun i j hi hj e => k i j hi hj (h i j hi hj e)
structure JoinP (n : Nat) (next : List (List Int)) (cl : List Int) (s t : Nat) (us : List Int) : Prop where
  ln : us.length = cl.length
  rg : ∀ x ∈ us, x ∈ cl
  co : LeC n cl us
  st : us.getD s 0 = us.getD t 0
  mn : ∀ C : List Int, RspC n next C C → LeC n cl C → C.getD s 0 = C.getD t 0 → LeC n us C
  cg : ∀ F : List Int, LeC n us F → RspC n next cl F → RspC n next us F
theorem JoinP.same {n : Nat} {next : List (List Int)} {cl : List Int} {s t : Nat} (h : cl.getD s 0 = cl.getD t 0) : JoinP n next cl s t cl :=
  ⟨rfl, fun _ h => h, LeC.refl, h, fun _ _ h _ => h, fun _ _ h => h⟩
def repI (a b : Int) (l : List Int) : List Int := l.map fun c => if c = a then b else c
theorem repI_len {a b : Int} {l : List Int} : (repI a b l).length = l.length := by simp [repI]
theorem repI_getD {a b : Int} {l : List Int} {i : Nat} (h : i < l.length) : (repI a b l).getD i 0 = if l.getD i 0 = a then b else l.getD i 0 := by
  unfold repI
  rw [List.getD_eq_getElem?_getD, List.getElem?_map, List.getElem?_eq_getElem h, List.getD_eq_getElem?_getD, List.getElem?_eq_getElem h]; rfl
structure JoinI (n : Nat) (next : List (List Int)) (cl : List Int) (s t : Nat) (l : Nat) (us : List Int) : Prop where
  ln : us.length = cl.length
  rg : ∀ x ∈ us, x ∈ repI (cl.getD s 0) (cl.getD t 0) cl
  co : LeC n (repI (cl.getD s 0) (cl.getD t 0) cl) us
  rw' : ∀ row ∈ next.take l, us.getD (row.getD s 0).toNat 0 = us.getD (row.getD t 0).toNat 0
  mn : ∀ C : List Int, RspC n next C C → LeC n cl C → C.getD s 0 = C.getD t 0 → LeC n us C
  cg : ∀ F : List Int, LeC n us F → RspC n next (repI (cl.getD s 0) (cl.getD t 0) cl) F → RspC n next us F
theorem JoinI.zero {n : Nat} {next : List (List Int)} {cl : List Int} {s t : Nat} (hl : cl.length = n) (hs : s < n) (ht : t < n) : JoinI n next cl s t 0 (repI (cl.getD s 0) (cl.getD t 0) cl) := by
  refine ⟨repI_len, fun _ h => h, LeC.refl, by simp, fun C _ h e i j hi hj he => ?_, fun _ _ h => h⟩
  rw [repI_getD (by omega), repI_getD (by omega)] at he
  split at he
  · rename_i h1
    have e1 := h i s hi hs h1
    split at he
    · rename_i h2
      have e2 := h j s hj hs h2
      rw [e1, e2]
    · have e2 := h j t hj ht he.symm
      rw [e1, e2, e]
  · split at he
    · rename_i h2
      have e2 := h j s hj hs h2
      have e1 := h i t hi ht he
      rw [e1, e2, e]
    · exact h i j hi hj he
theorem JoinI.step {n : Nat} {next : List (List Int)} {cl : List Int} {s t l : Nat} {us vs row : List Int} (I : JoinI n next cl s t l us) (hs : s < n) (ht : t < n)
    (hrow : row ∈ next) (htk : next.take (l + 1) = next.take l ++ [row]) (hin : ∀ r ∈ next, ∀ i < n, (r.getD i 0).toNat < n) (J : JoinP n next us (row.getD s 0).toNat (row.getD t 0).toNat vs) : JoinI n next cl s t (l + 1) vs := by
  refine ⟨J.ln.trans I.ln, fun x h => I.rg x (J.rg x h), I.co.trans J.co, fun r hr => ?_, fun C hC hle he => J.mn C hC (I.mn C hC hle he) (hC row hrow s t hs ht he), fun F hF hR => J.cg F hF (I.cg F (J.co.trans hF) hR)⟩
  rw [htk] at hr
  rcases List.mem_append.1 hr with hr | hr
  · exact J.co _ _ (hin r (List.mem_of_mem_take hr) s hs) (hin r (List.mem_of_mem_take hr) t ht) (I.rw' r hr)
  · rw [List.mem_singleton.1 hr]; exact J.st
theorem JoinI.done {n : Nat} {next : List (List Int)} {cl : List Int} {s t l : Nat} {us : List Int} (I : JoinI n next cl s t l us) (hl : cl.length = n) (hs : s < n) (ht : t < n) (hll : next.length ≤ l)
    (hin : ∀ r ∈ next, ∀ i < n, (r.getD i 0).toNat < n) : JoinP n next cl s t us := by
  have hco : LeC n cl us := by
    intro i j hi hj he
    refine I.co i j hi hj ?_
    rw [repI_getD (by omega), repI_getD (by omega), he]
  refine ⟨I.ln, fun x h => ?_, hco, I.co s t hs ht ?_, I.mn, fun F hF hR => I.cg F hF ?_⟩
  · have h1 := I.rg x h
    simp only [repI, List.mem_map] at h1
    obtain ⟨c, hc, rfl⟩ := h1
    split
    · exact yzn (by omega) 0
    · exact hc
  · rw [repI_getD (by omega), repI_getD (by omega), if_pos rfl]
    split <;> rfl
  · have hst : ∀ row ∈ next, F.getD (row.getD s 0).toNat 0 = F.getD (row.getD t 0).toNat 0 := fun row hrow =>
      hF _ _ (hin row hrow s hs) (hin row hrow t ht) (I.rw' row (by rw [List.take_of_length_le hll]; exact hrow))
    intro row hrow i j hi hj he
    have h := hR row hrow
    rw [repI_getD (by omega), repI_getD (by omega)] at he
    split at he
    · rename_i h1
      have e1 := h i s hi hs h1
      split at he
      · rename_i h2
        have e2 := h j s hj hs h2
        rw [e1, e2]
      · have e2 := h j t hj ht he.symm
        rw [e1, e2, hst row hrow]
    · split at he
      · rename_i h2
        have e2 := h j s hj hs h2
        have e1 := h i t hi ht he
        rw [e1, e2, hst row hrow]
      · exact h i j hi hj he
end Go.Ab
namespace Go.Ab
open Go.Proofs
end Go.Ab
namespace Go.Ab
open Go.Proofs
structure TidP (xs ys : List Int) : Prop where
  ln : ys.length ≤ xs.length
  dv : divS 0 ys = true
  eq : ∀ i j, i < ys.length → j < ys.length → (ys.getD i 0 = ys.getD j 0 ↔ xs.getD i 0 = xs.getD j 0)
theorem TidP.nil {xs : List Int} : TidP xs [] := ⟨by simp, rfl, by simp⟩
theorem getD_snl {ys : List Int} {c : Int} {i : Nat} (h : i < ys.length) : (ys ++ [c]).getD i 0 = ys.getD i 0 := by
  rw [List.getD_eq_getElem?_getD, List.getElem?_append_left h, ← List.getD_eq_getElem?_getD]
theorem getD_snr {ys : List Int} {c : Int} : (ys ++ [c]).getD ys.length 0 = c := by
  rw [List.getD_eq_getElem?_getD, List.getElem?_append_right (Nat.le_refl _)]; simp
theorem TidP.add {xs ys : List Int} {c : Int} (T : TidP xs ys) (hlt : ys.length < xs.length) (hd : 0 ≤ c ∧ c ≤ usedS 0 ys) (he : ∀ i < ys.length, (ys.getD i 0 = c ↔ xs.getD i 0 = xs.getD ys.length 0)) : TidP xs (ys ++ [c]) := by
  refine ⟨by simp; omega, by rw [divS_snoc, T.dv]; simp [hd], fun i j hi hj => ?_⟩
  rw [List.length_append, List.length_singleton] at hi hj
  by_cases h1 : i < ys.length
  · by_cases h2 : j < ys.length
    · rw [getD_snl h1, getD_snl h2]; exact T.eq i j h1 h2
    · obtain rfl : j = ys.length := by omega
      rw [getD_snl h1, getD_snr]; exact he i h1
  · obtain rfl : i = ys.length := by omega
    by_cases h2 : j < ys.length
    · rw [getD_snl h2, getD_snr]
      constructor
      · intro h; exact ((he j h2).1 h.symm).symm
      · intro h; exact ((he j h2).2 h.symm).symm
    · obtain rfl : j = ys.length := by omega
      simp
theorem TidP.new {xs ys : List Int} (T : TidP xs ys) (hlt : ys.length < xs.length) (h : ∀ k < ys.length, xs.getD k 0 ≠ xs.getD ys.length 0) : TidP xs (ys ++ [usedS 0 ys]) := by
  refine T.add hlt ⟨used_ge, Int.le_refl _⟩ fun i hi => ⟨fun e => ?_, fun e => absurd e (h i hi)⟩
  have := used_mem (u := 0) (yzn hi 0)
  omega
theorem TidP.old {xs ys : List Int} (T : TidP xs ys) (hlt : ys.length < xs.length) {k : Nat} (hk : k < ys.length) (h : xs.getD k 0 = xs.getD ys.length 0) : TidP xs (ys ++ [ys.getD k 0]) := by
  have hm := yzn hk 0
  refine T.add hlt ⟨div_nn T.dv hm, by have := used_mem (u := 0) hm; omega⟩ fun i hi => ?_
  rw [T.eq i k hi hk, h]
end Go.Ab
namespace Go.Ab
def MerP (next : List (List Int)) (s t : Int) : Prop := ∃ w, IsW next.length w ∧ atA next s w = atA next t w
def StabP (next : List (List Int)) (s t : Int) : Prop := ∀ w, IsW next.length w → MerP next (atA next s w) (atA next t w)
theorem isw_nil {m : Nat} : IsW m [] := fun x hx => by simp at hx
theorem isw_app {m : Nat} {u v : List Int} (hu : IsW m u) (hv : IsW m v) : IsW m (u ++ v) := fun x hx => by
  rcases List.mem_append.1 hx with h | h
  · exact hu x h
  · exact hv x h
theorem StabP.refl {next : List (List Int)} {s : Int} : StabP next s s := fun _ _ => ⟨[], isw_nil, rfl⟩
theorem StabP.symm {next : List (List Int)} {s t : Int} (h : StabP next s t) : StabP next t s := fun w hw => by
  obtain ⟨v, h1, h2⟩ := h w hw
  exact ⟨v, h1, h2.symm⟩
theorem StabP.trans {next : List (List Int)} {s t u : Int} (h : StabP next s t) (k : StabP next t u) : StabP next s u := fun w hw => by
  obtain ⟨v, h1, h2⟩ := h w hw
  obtain ⟨x, k1, k2⟩ := k (w ++ v) (isw_app hw h1)
  refine ⟨v ++ x, isw_app h1 k1, ?_⟩
  rw [atA_app, atA_app (s := u)] at k2
  rw [atA_app, h2, k2, atA_app]
theorem StabP.step {next : List (List Int)} {s t : Int} (h : StabP next s t) {w : List Int} (hw : IsW next.length w) : StabP next (atA next s w) (atA next t w) := fun v hv => by
  have h1 := h (w ++ v) (isw_app hw hv)
  rw [atA_app, atA_app] at h1
  exact h1
theorem MerP.back {next : List (List Int)} {s t : Int} {w : List Int} (hw : IsW next.length w) (h : MerP next (atA next s w) (atA next t w)) : MerP next s t := by
  obtain ⟨v, h1, h2⟩ := h
  exact ⟨w ++ v, isw_app hw h1, by rw [atA_app, atA_app]; exact h2⟩
structure StD (n : Int) (next : List (List Int)) (us : List Int) : Prop where
  ln : (us.length : Int) = n
  eq : ∀ i j : Nat, (i : Int) < n → (j : Int) < n → (us.getD i 0 = us.getD j 0 ↔ StabP next i j)
structure StI (n : Int) (next : List (List Int)) (pre : List (List Int)) (us : List Int) : Prop where
  ln : (us.length : Int) = n
  rg : ∀ t : Nat, (t : Int) < n → 0 ≤ us.getD t 0 ∧ us.getD t 0 ≤ t
  st : ∀ t : Nat, (t : Int) < n → StabP next (us.getD t 0) t
  dn : ∀ a b : Nat, [(a : Int), (b : Int)] ∈ pre → us.getD b 0 ≤ a
theorem setAt_getD {us : List Int} {b i : Nat} {x : Int} (hb : b < us.length) : (us.set b x).getD i 0 = if i = b then x else us.getD i 0 := by
  rw [List.getD_eq_getElem?_getD, List.getElem?_set]
  by_cases h : b = i
  · rw [if_pos h, if_pos h.symm, if_pos (by omega)]; rfl
  · rw [if_neg h, if_neg (fun e => h e.symm), ← List.getD_eq_getElem?_getD]
theorem StI.step {n : Int} {next pre : List (List Int)} {us : List Int} (I : StI n next pre us) {a b : Nat} (hab : a < b) (hb : (b : Int) < n) (h : StabP next a b) :
    StI n next (pre ++ [[(a : Int), (b : Int)]]) (us.set b (min (us.getD b 0) (us.getD a 0))) := by
  have hln := I.ln
  have hbl : b < us.length := by omega
  have ra := I.rg a (by omega)
  have rb := I.rg b hb
  refine ⟨by rw [List.length_set]; exact hln, fun t ht => ?_, fun t ht => ?_, fun x y hxy => ?_⟩
  · rw [setAt_getD hbl]
    split
    · rename_i e; subst e; omega
    · exact I.rg t ht
  · rw [setAt_getD hbl]
    split
    · rename_i e; subst e
      by_cases hm : us.getD t 0 ≤ us.getD a 0
      · rw [Int.min_eq_left hm]; exact I.st t ht
      · rw [Int.min_eq_right (by omega)]; exact (I.st a (by omega)).trans h
    · exact I.st t ht
  · rw [setAt_getD hbl]
    rcases List.mem_append.1 hxy with hxy | hxy
    · have := I.dn x y hxy
      split
      · rename_i e; subst e; omega
      · exact this
    · rw [List.mem_singleton, List.cons.injEq, List.cons.injEq] at hxy
      have e1 : x = a := by omega
      have e2 : y = b := by omega
      subst e1; subst e2
      rw [if_pos rfl]; omega
theorem StI.done {n : Int} {next pre : List (List Int)} {us : List Int} (I : StI n next pre us) (hp : ∀ a b : Nat, a < b → (b : Int) < n → StabP next a b → [(a : Int), (b : Int)] ∈ pre) : StD n next us := by
  have le : ∀ i j : Nat, (i : Int) < n → (j : Int) < n → StabP next i j → us.getD j 0 ≤ us.getD i 0 := fun i j hi hj h => by
    have ri := I.rg i hi
    have rj := I.rg j hj
    have si := I.st i hi
    have e : (((us.getD i 0).toNat : Nat) : Int) = us.getD i 0 := by omega
    have h1 : StabP next (us.getD i 0) j := si.trans h
    rw [← e] at h1
    by_cases c1 : (us.getD i 0).toNat < j
    · have := I.dn _ _ (hp _ _ c1 hj h1); omega
    · omega
  refine ⟨I.ln, fun i j hi hj => ⟨fun e => ?_, fun h => ?_⟩⟩
  · have h1 := I.st i hi
    rw [e] at h1
    exact h1.symm.trans (I.st j hj)
  · have := le i j hi hj h
    have := le j i hj hi h.symm
    omega
structure StJ (n : Int) (next : List (List Int)) (pre : List (List Int)) (us : List Int) : Prop where
  ln : (us.length : Int) = n
  rg : ∀ x ∈ us, 0 ≤ x ∧ x < n
  st : ∀ i j : Nat, (i : Int) < n → (j : Int) < n → us.getD i 0 = us.getD j 0 → StabP next i j
  dn : ∀ a b : Nat, (a : Int) < n → (b : Int) < n → [(a : Int), (b : Int)] ∈ pre → us.getD b 0 = us.getD a 0
theorem StJ.step {n : Int} {next pre : List (List Int)} {us : List Int} (I : StJ n next pre us) {a b : Nat} (ha : (a : Int) < n) (hb : (b : Int) < n) (h : StabP next a b) :
    StJ n next (pre ++ [[(a : Int), (b : Int)]]) (repI (us.getD b 0) (us.getD a 0) us) := by
  have hln := I.ln
  refine ⟨by rw [repI_len]; exact hln, fun x hx => ?_, fun i j hi hj e => ?_, fun x y hx hy hxy => ?_⟩
  · simp only [repI, List.mem_map] at hx
    obtain ⟨c, hc, rfl⟩ := hx
    split
    · exact I.rg _ (yzn (by omega) 0)
    · exact I.rg c hc
  · rw [repI_getD (by omega), repI_getD (by omega)] at e
    split at e
    · rename_i h1
      have s1 := I.st i b hi hb h1
      split at e
      · rename_i h2
        exact s1.trans (I.st j b hj hb h2).symm
      · exact (s1.trans h.symm).trans (I.st a j ha hj e)
    · split at e
      · rename_i h2
        exact ((I.st i a hi ha e).trans h).trans (I.st j b hj hb h2).symm
      · exact I.st i j hi hj e
  · rw [repI_getD (by omega), repI_getD (by omega)]
    rcases List.mem_append.1 hxy with hxy | hxy
    · rw [I.dn x y hx hy hxy]
    · rw [List.mem_singleton, List.cons.injEq, List.cons.injEq] at hxy
      have e1 : x = a := by omega
      have e2 : y = b := by omega
      subst e1; subst e2
      rw [if_pos rfl]
      split <;> rfl
theorem StJ.done {n : Int} {next pre : List (List Int)} {us : List Int} (I : StJ n next pre us) (hp : ∀ a b : Nat, a < b → (b : Int) < n → StabP next a b → [(a : Int), (b : Int)] ∈ pre) : StD n next us := by
  refine ⟨I.ln, fun i j hi hj => ⟨I.st i j hi hj, fun h => ?_⟩⟩
  by_cases h1 : i < j
  · exact (I.dn i j hi hj (hp i j h1 hj h)).symm
  · by_cases h2 : j < i
    · exact I.dn j i hj hi (hp j i h2 hi h.symm)
    · rw [show i = j by omega]
end Go.Ab
namespace Go.Ab
open Go.Proofs
theorem k_l02Set (f : Nat) (h : f < 1024) : RowI Try.prog nz3d [iv f] (fun ys => ys = bitsTo f 10) := by
  refine rowI_of mixed czgb rfl ?_
  simp only [Azbm, Bzbl, go_sem, yz0, Int.reduceLT, reduceLE, reduceToNat, reduceNeg, Nat.reduceLT, reduceLeDiff, reduceMul, reduceSub, reduceIte, reduceEqDiff, reduceAdd, reduceCtorEq]
  intro vs
  simp only [Bzbk, Bzbi, go_sem, yz0, Int.reduceLT, reduceLE, reduceToNat, reduceNeg, Nat.reduceLT, reduceLeDiff, reduceMul, reduceSub, reduceIte, reduceEqDiff, reduceAdd, reduceCtorEq]
  refine wpD_lo (fun (_, s) => 10 - s) (fun (_, s) => s ≤ 10) (fun ((v, s) : Nat × Nat) => ⟨L .any [(0, iv f), (3, .own 5 v), (4, iv s)], L .gone [(5, .row v 1 true (ints (bitsTo f s)))]⟩)
    (_, 0) (by simp) (by simp only [Bzt, go_sem, yz0, Int.reduceLT, reduceLE, reduceToNat, reduceNeg, Nat.reduceLT, reduceLeDiff, reduceMul, reduceSub, reduceIte, reduceEqDiff, reduceAdd, reduceCtorEq]; try rfl) ?_
  rintro ⟨v, s⟩ hs
  have hs : s ≤ 10 := hs
  have hs0 : ¬ ((s : Nat) : Int) < 0 := by omega
  have h64 : IntKind.u64.wrap (s : Int) = s := u64w (by omega)
  have hsh := u_shr (f := f) (s := s) (by omega)
  have hlt : f >>> s < 4611686018427387904 := by rw [Nat.shiftRight_eq_div_pow]; exact Nat.lt_of_le_of_lt (Nat.div_le_self _ _) (by omega)
  by_cases hz : (0 : Int) < ((f >>> s : Nat) : Int)
  · have hs10 : s < 10 := by
      by_cases e : s < 10
      · exact e
      · have : f >>> s = 0 := shr_zero.2 (Nat.lt_of_lt_of_le (show f < 2 ^ 10 from h) (Nat.pow_le_pow_right (by omega) (by omega)))
        omega
    have hand := i_and1 hlt
    have hbit : ((((f >>> s &&& 1 : Nat) : Int)) == 1) = f.testBit s := by
      rw [Nat.testBit_eq_decide_div_mod_eq, Nat.and_one_is_mod, Nat.shiftRight_eq_div_pow, Bool.eq_iff_iff, beq_iff_eq, decide_eq_true_iff]
      generalize f / 2 ^ s % 2 = q
      omega
    have w1 : IntKind.i64.wrap ((s : Int) + 1) = ((s + 1 : Nat) : Int) := by rw [w64 (by omega)]; simp
    have hbl := bitsTo_len (f := f) (s := s)
    cases hb : f.testBit s with
    | true =>
      rw [hb] at hbit
      have hr : bitsTo f s ++ [(s : Int)] = bitsTo f (s + 1) := by rw [bitsTo_succ, if_pos hb]
      simp only [Bzt, Bz2h, Bz5c, Bz5a, Bz5b, h64, hs0, hsh, hand, hbit, w1, decide_eq_true hz, hr, go_sem, yz0, Int.reduceLT, reduceLE, reduceToNat, reduceNeg, Nat.reduceLT, reduceLeDiff, reduceMul, reduceSub, reduceIte, reduceEqDiff, reduceAdd, reduceCtorEq]
      exact fun vs2 => ⟨⟨_, rfl, rfl⟩, by omega, (vs2 3 0, s + 1), by dsimp only; omega, by dsimp only; omega, rfl⟩
    | false =>
      rw [hb] at hbit
      have hr : bitsTo f s = bitsTo f (s + 1) := by rw [bitsTo_succ, if_neg (by simp [hb])]
      simp only [Bzt, Bz2h, Bz5c, Bz5a, Bz5b, h64, hs0, hsh, hand, hbit, w1, decide_eq_true hz, go_sem, yz0, Int.reduceLT, reduceLE, reduceToNat, reduceNeg, Nat.reduceLT, reduceLeDiff, reduceMul, reduceSub, reduceIte, reduceEqDiff, reduceAdd, reduceCtorEq]
      exact ⟨(v, s + 1), by dsimp only; omega, by dsimp only; omega, by rw [hr]⟩
  · have hfz : f >>> s = 0 := by generalize f >>> s = q at hz; omega
    have hr : bitsTo f s = bitsTo f 10 := by
      have h2 := bitsTo_add (shr_zero.1 hfz) (10 - s)
      rw [show s + (10 - s) = 10 by omega] at h2
      exact h2.symm
    simp only [Bzt, Bz2h, Bzbj, h64, hs0, hsh, decide_eq_false hz, hr, go_sem, yz0, Int.reduceLT, reduceLE, reduceToNat, reduceNeg, Nat.reduceLT, reduceLeDiff, reduceMul, reduceSub, reduceIte, reduceEqDiff, reduceAdd, reduceCtorEq]
    exact ⟨5, v, _, by omega, rfl, by simp only [go_sem, yz0, Int.reduceLT, reduceLE, reduceToNat, reduceNeg, Nat.reduceLT, reduceLeDiff, reduceMul, reduceSub, reduceIte, reduceEqDiff, reduceAdd, reduceCtorEq], rfl⟩
end Go.Ab
namespace Go.Ab
open Go.Proofs
theorem k_P6Choice (code : List Int) (hb : ∀ x ∈ code, 0 ≤ x ∧ x ≤ 255) :
    Con Try.prog nz2y [] [.ro (some (some 0)) 1 (intsK .u8 code)] true fun outs rows res => outs = [] ∧ ∃ n nx v, Chc n nx ∧ n ≤ 4 ∧ nx.length ≤ 2 ∧ rows = [.row v 1 true (rww nx)] ∧ res = .st [iv n, .own 6000 v] := by
  refine con_sh mixed czfl rfl (by simp) ?_
  generalize hQ : finQ _ = Q
  simp only [Az43, Bz7d, go_sem, yz0, Int.reduceLT, reduceLE, reduceToNat, reduceNeg, Nat.reduceLT, reduceLeDiff, reduceMul, reduceSub, reduceIte, reduceEqDiff, reduceAdd, reduceCtorEq]
  intro vs0 vs1
  refine call_sh (k_from code) qCS (fun e => by cases e) ?_
  rintro outs rows res ⟨rfl, v, rfl, rfl⟩
  refine ⟨rfl, by simp, by rw [Option.getD_some, yzf]; rfl, ?_⟩
  simp only [Nat.not_lt_zero, range1, ren_val, ren_any, ren_ro, rnNm_n, rnNm_sn, rnNm_o, rnNm_s, ren_st, ren_tup, yzu, yzm, yz8, yzq, yzr, yzo, yzp, yzs, yza, yzc, yz9, yze, yzk, yzj, yz3, yzd, yz7, yz6, yzi, yzl, List.range_zero, yz5, yz4, yzb, yzt, yzf, yzv, AVal.fresh, freshL, yz1, yzh, AObj.fresh, id, Option.isSome_some, or_true, true_or, go_sem, yz0, Int.reduceLT, reduceLE, reduceToNat, reduceNeg, Nat.reduceLT, reduceLeDiff, reduceMul, reduceSub, reduceIte, reduceEqDiff, reduceAdd, reduceCtorEq]
  refine call_con (r := 4) (k_l04DrawChoice code 0 0 4 hb (by omega) (by omega)) rfl (by simp only [Bool.not_true, rowIs, boxIs, coe_argN, coe_argNs, coe_ro_o, coeL_nil, yzw, coe_any, coe_val, coe_ro, coe_ro_nil, coe_ro_own, coe_st, coe_st_agg, coe_rp, coe_rp_ptr, coe_clo, coe_own0, coe_ptr0, coeL_intsK, coeL_rws, coeL_rwn, L_hit, L_miss, L_nil, reduceEqDiff, ne_eq, reduceCtorEq, not_false_eq_true, true_and, and_true, and_self, exists_eq_left, exists_eq_right, List.mem_cons, List.not_mem_nil, or_false, AObj.row.injEq, AObj.box.injEq, exists_eq_left', exists_and_left, exists_eq, Nat.zero_lt_one, Nat.lt_add_one, List.map_cons, List.map_nil, AObj.ver, Nat.reduceLT, not_true_eq_false]) (by simp only [Bool.not_true, rowIs, boxIs, coe_argN, coe_argNs, coe_ro_o, coeL_nil, yzw, coe_any, coe_val, coe_ro, coe_ro_nil, coe_ro_own, coe_st, coe_st_agg, coe_rp, coe_rp_ptr, coe_clo, coe_own0, coe_ptr0, coeL_intsK, coeL_rws, coeL_rwn, L_hit, L_miss, L_nil, reduceEqDiff, ne_eq, reduceCtorEq, not_false_eq_true, true_and, and_true, and_self, exists_eq_left, exists_eq_right, List.mem_cons, List.not_mem_nil, or_false, AObj.row.injEq, AObj.box.injEq, exists_eq_left', exists_and_left, exists_eq, Nat.zero_lt_one, Nat.lt_add_one, List.map_cons, List.map_nil, AObj.ver, Nat.reduceLT, not_true_eq_false]) ?_
  rintro outs rows res ⟨n, nx, v', a', s', C, h4, h2, rfl, rfl, rfl⟩
  refine ⟨rfl, by simp, by rw [Option.getD_some, yzf]; simp only [go_sem, yz0, Int.reduceLT, reduceLE, reduceToNat, reduceNeg, Nat.reduceLT, reduceLeDiff, reduceMul, reduceSub, reduceIte, reduceEqDiff, reduceAdd, reduceCtorEq], ?_⟩
  rw [Option.getD_some, callHp_mr (by omega)]
  simp only [Az43, ← hQ, renL_rww, Nat.not_lt_zero, range1, ren_val, ren_any, ren_ro, rnNm_n, rnNm_sn, rnNm_o, rnNm_s, ren_st, ren_tup, yzu, yzm, yz8, yzq, yzr, yzo, yzp, yzs, yza, yzc, yz9, yze, yzk, yzj, yz3, yzd, yz7, yz6, yzi, yzl, List.range_zero, yz5, yz4, yzb, yzt, yzf, yzv, AVal.fresh, freshL, yz1, yzh, AObj.fresh, id, Option.isSome_some, or_true, true_or, go_sem, yz0, Int.reduceLT, reduceLE, reduceToNat, reduceNeg, Nat.reduceLT, reduceLeDiff, reduceMul, reduceSub, reduceIte, reduceEqDiff, reduceAdd, reduceCtorEq]
  refine ⟨[5], by simp, by simp, by simp, ?_⟩
  simp only [range1, List.length_singleton, renL_rww, fresh_rww, Nat.not_lt_zero, range1, ren_val, ren_any, ren_ro, rnNm_n, rnNm_sn, rnNm_o, rnNm_s, ren_st, ren_tup, yzu, yzm, yz8, yzq, yzr, yzo, yzp, yzs, yza, yzc, yz9, yze, yzk, yzj, yz3, yzd, yz7, yz6, yzi, yzl, List.range_zero, yz5, yz4, yzb, yzt, yzf, yzv, AVal.fresh, freshL, yz1, yzh, AObj.fresh, id, Option.isSome_some, or_true, true_or, go_sem, yz0, Int.reduceLT, reduceLE, reduceToNat, reduceNeg, Nat.reduceLT, reduceLeDiff, reduceMul, reduceSub, reduceIte, reduceEqDiff, reduceAdd, reduceCtorEq]
  exact ⟨n, nx, _, C, h4, h2, rfl, rfl⟩
theorem k_l04Size (n l : Int) (h1 : 1 ≤ n) (h2 : n ≤ 10) (h3 : 1 ≤ l) (h4 : l ≤ 3) : Fun Try.prog nz3m [iv n, iv l] (bv true) := by
  refine fun_of mixed czh0 rfl ⟨rfl, trivial⟩ ?_
  have e1 : (decide (1 ≤ n) && decide (n ≤ 10)) = true := by simp; omega
  have e2 : (decide (1 ≤ l) && decide (l ≤ 3)) = true := by simp; omega
  simp only [Bze6, Aze7, go_sem, yz0, Int.reduceLT, reduceLE, reduceToNat, reduceNeg, Nat.reduceLT, reduceLeDiff, reduceMul, reduceSub, reduceIte, reduceEqDiff, reduceAdd, reduceCtorEq]
  intro vs
  refine yz2 (k_l00In n 1 10) qCS trivial ?_
  simp only [e1, go_sem, yz0, Int.reduceLT, reduceLE, reduceToNat, reduceNeg, Nat.reduceLT, reduceLeDiff, reduceMul, reduceSub, reduceIte, reduceEqDiff, reduceAdd, reduceCtorEq]
  refine yz2 (k_l00In l 1 3) qCS trivial ?_
  simp only [e2, go_sem, yz0, Int.reduceLT, reduceLE, reduceToNat, reduceNeg, Nat.reduceLT, reduceLeDiff, reduceMul, reduceSub, reduceIte, reduceEqDiff, reduceAdd, reduceCtorEq]
theorem k_l04Choices (n : Int) (nx : List (List (List Int))) (C : Chc n nx) : Fun Try.prog nz39 [coP n nx] (bv true) := by
  refine fun_of mixed czg7 rfl ⟨rfl, trivial⟩ ?_
  have n1 := C.n1
  have n2 := C.n2
  have l1 := C.l1
  have l2 := C.l2
  have w1 : IntKind.i64.wrap (n - 1) = n - 1 := w64 (by omega)
  simp only [Azb8, Bzb7, go_sem, yz0, Int.reduceLT, reduceLE, reduceToNat, reduceNeg, Nat.reduceLT, reduceLeDiff, reduceMul, reduceSub, reduceIte, reduceEqDiff, reduceAdd, reduceCtorEq]
  intro vs
  refine yz2 (k_l04Size n nx.length (by omega) (by omega) (by omega) (by omega)) qCW trivial ?_
  simp only [Bzav, Bzb6, Bzb4, Bool.not_true, go_sem, yz0, Int.reduceLT, reduceLE, reduceToNat, reduceNeg, Nat.reduceLT, reduceLeDiff, reduceMul, reduceSub, reduceIte, reduceEqDiff, reduceAdd, reduceCtorEq]
  refine wpD_lo (fun l => nx.length - l) (fun l => l ≤ nx.length)
    (fun l : Nat => ⟨L .any [(0, coP n nx), (3, iv l)], L .gone []⟩) 0 (by simp) (by simp only [Bz2f, go_sem, yz0, Int.reduceLT, reduceLE, reduceToNat, reduceNeg, Nat.reduceLT, reduceLeDiff, reduceMul, reduceSub, reduceIte, reduceEqDiff, reduceAdd, reduceCtorEq]; try rfl) ?_
  rintro l hl
  by_cases hlt : (l : Int) < nx.length
  · have hlt1 : l < nx.length := by omega
    have wl : IntKind.i64.wrap ((l : Int) + 1) = ((l + 1 : Nat) : Int) := by rw [w64 (by omega)]; simp
    have hr := C.row _ (yzn hlt1 [])
    have hgd := rwwn_getD hlt1
    generalize nx.getD l [] = r at hr hgd
    have hrn : ((r.length : Int) != n) = false := by simp [hr.1]
    have hrl := hr.1
    simp only [Bz2f, Bz55, Bzb3, Bzaw, hgd, hrn, decide_eq_true hlt, go_sem, yz0, Int.reduceLT, reduceLE, reduceToNat, reduceNeg, Nat.reduceLT, reduceLeDiff, reduceMul, reduceSub, reduceIte, reduceEqDiff, reduceAdd, reduceCtorEq]
    intro hM2
    refine ⟨⟨by omega, hlt1⟩, hlt1, ?_⟩
    simp only [Bzb1, Bzb0, go_sem, yz0, Int.reduceLT, reduceLE, reduceToNat, reduceNeg, Nat.reduceLT, reduceLeDiff, reduceMul, reduceSub, reduceIte, reduceEqDiff, reduceAdd, reduceCtorEq]
    refine wpD_lo (fun s => r.length - s) (fun s => s ≤ r.length)
      (fun s : Nat => ⟨L .any [(0, coP n nx), (3, iv l), (4, iv s)], L .gone []⟩) 0 (by simp) (by simp only [Bz2e, go_sem, yz0, Int.reduceLT, reduceLE, reduceToNat, reduceNeg, Nat.reduceLT, reduceLeDiff, reduceMul, reduceSub, reduceIte, reduceEqDiff, reduceAdd, reduceCtorEq]; try rfl) ?_
    rintro s hs
    by_cases hlts : (s : Int) < r.length
    · have hlts1 : s < r.length := by omega
      have ws : IntKind.i64.wrap ((s : Int) + 1) = ((s + 1 : Nat) : Int) := by rw [w64 (by omega)]; simp
      have hset := hr.2 _ (yzn hlts1 [])
      have hgs := rwn_getD hlts1
      generalize r.getD s [] = set at hset hgs
      have hk := k_l00Rises set 0 (n - 1)
      have hse : (decide (SI set) && allIn set 0 (n - 1)) = true := hset
      rw [hse] at hk
      simp only [Bz2e, Bz56, Bzaz, hgd, hgs, w1, decide_eq_true hlts, go_sem, yz0, Int.reduceLT, reduceLE, reduceToNat, reduceNeg, Nat.reduceLT, reduceLeDiff, reduceMul, reduceSub, reduceIte, reduceEqDiff, reduceAdd, reduceCtorEq]
      refine ⟨⟨by omega, hlt1⟩, hlt1, ?_⟩
      intro _ vs2
      refine ⟨⟨by omega, hlt1⟩, hlt1, ⟨by omega, hlts1⟩, hlts1, ?_⟩
      refine yz2 hk qCW trivial ?_
      simp only [Bzax, Bzay, ws, Bool.not_true, go_sem, yz0, Int.reduceLT, reduceLE, reduceToNat, reduceNeg, Nat.reduceLT, reduceLeDiff, reduceMul, reduceSub, reduceIte, reduceEqDiff, reduceAdd, reduceCtorEq]
      exact ⟨s + 1, by omega, by omega, rfl⟩
    · obtain rfl : s = r.length := by omega
      simp only [Bz2e, Bz56, Bzb2, hgd, wl, decide_eq_false hlts, go_sem, yz0, Int.reduceLT, reduceLE, reduceToNat, reduceNeg, Nat.reduceLT, reduceLeDiff, reduceMul, reduceSub, reduceIte, reduceEqDiff, reduceAdd, reduceCtorEq]
      refine ⟨⟨by omega, hlt1⟩, hlt1, ?_⟩
      exact fun _ => ⟨l + 1, by omega, by omega, rfl⟩
  · obtain rfl : l = nx.length := by omega
    simp only [Bz2f, Bz55, Bzb5, decide_eq_false hlt, go_sem, yz0, Int.reduceLT, reduceLE, reduceToNat, reduceNeg, Nat.reduceLT, reduceLeDiff, reduceMul, reduceSub, reduceIte, reduceEqDiff, reduceAdd, reduceCtorEq]
    try (intros; trivial)
theorem k_l04Go (n : Int) (nx : List (List (List Int))) (C : Chc n nx) (f l : Nat) (hf : f < 2 ^ n.toNat) (hl : l < nx.length) :
    Fun Try.prog nz3k [coP n nx, iv f, iv l] (iv (goN (nx.getD l []) f)) := by
  refine fun_of mixed czgs rfl ⟨rfl, trivial⟩ ?_
  have n1 := C.n1
  have n2 := C.n2
  have hN : 2 ^ n.toNat ≤ 1024 := Nat.pow_le_pow_right (n := 2) (by omega) (show n.toNat ≤ 10 by omega)
  simp only [Azdn, Bzdm, Bzdl, Bzdj, go_sem, yz0, Int.reduceLT, reduceLE, reduceToNat, reduceNeg, Nat.reduceLT, reduceLeDiff, reduceMul, reduceSub, reduceIte, reduceEqDiff, reduceAdd, reduceCtorEq]
  refine wpD_lo (fun i => n.toNat - i) (fun i => i ≤ n.toNat)
    (fun i : Nat => ⟨L .any [(0, coP n nx), (1, iv f), (2, iv l), (7, iv (goTo (nx.getD l []) (bitsTo f i))), (8, iv i)], L .gone []⟩) 0 (by simp) (by simp only [Bzu, go_sem, yz0, Int.reduceLT, reduceLE, reduceToNat, reduceNeg, Nat.reduceLT, reduceLeDiff, reduceMul, reduceSub, reduceIte, reduceEqDiff, reduceAdd, reduceCtorEq]; try rfl) ?_
  rintro i hi
  by_cases hlt : (i : Int) < n
  · have wi : IntKind.i64.wrap ((i : Int) + 1) = ((i + 1 : Nat) : Int) := by rw [w64 (by omega)]; simp
    have h64 : IntKind.u64.wrap (i : Int) = i := u64w (by omega)
    have hi0 : ¬ (i : Int) < 0 := by omega
    have hsh := u_shr (f := f) (s := i) (by omega)
    have hlt2 : f >>> i < 4611686018427387904 := by rw [Nat.shiftRight_eq_div_pow]; exact Nat.lt_of_le_of_lt (Nat.div_le_self _ _) (by omega)
    have hand := i_and1 hlt2
    have hbit : ((((f >>> i &&& 1 : Nat) : Int)) == 1) = f.testBit i := by
      rw [Nat.testBit_eq_decide_div_mod_eq, Nat.and_one_is_mod, Nat.shiftRight_eq_div_pow, Bool.eq_iff_iff, beq_iff_eq, decide_eq_true_iff]
      generalize f / 2 ^ i % 2 = q
      omega
    have hst : goTo (nx.getD l []) (bitsTo f i) < 2 ^ n.toNat := C.go_lt hl fun s hs => by
      have := bitsTo_lt hs
      omega
    obtain ⟨hc, hi2, hm⟩ := C.mask hl (s := (i : Int)) ⟨by omega, hlt⟩
    rw [Int.toNat_natCast] at hc hi2 hm
    have hor := i_or (x := goTo (nx.getD l []) (bitsTo f i)) (y := maskN ((nx.getD l []).getD i [])) (by omega) (by omega)
    cases hb : f.testBit i with
    | true =>
      rw [hb] at hbit
      have hs : goTo (nx.getD l []) (bitsTo f i) ||| maskN ((nx.getD l []).getD i []) = goTo (nx.getD l []) (bitsTo f (i + 1)) := by
        rw [bitsTo_succ, if_pos hb]; simp [goTo, List.foldl_append]
      simp only [Bzu, Bz2r, Bz5z, Bz5x, h64, hi0, hsh, hand, hbit, rwwn_getD hl, rwn_getD hc, decide_eq_true hlt, Int.toNat_natCast, go_sem, yz0, Int.reduceLT, reduceLE, reduceToNat, reduceNeg, Nat.reduceLT, reduceLeDiff, reduceMul, reduceSub, reduceIte, reduceEqDiff, reduceAdd, reduceCtorEq]
      intro vs
      refine ⟨⟨by omega, hl⟩, hl, ⟨by omega, hc⟩, hc, ?_⟩
      refine yz2 (k_l02Bits ((nx.getD l []).getD i []) (fun x hx => by have := hi2 x hx; omega)) qCW trivial ?_
      simp only [Bz5y, hor, hs, wi, go_sem, yz0, Int.reduceLT, reduceLE, reduceToNat, reduceNeg, Nat.reduceLT, reduceLeDiff, reduceMul, reduceSub, reduceIte, reduceEqDiff, reduceAdd, reduceCtorEq]
      exact ⟨i + 1, by omega, by omega, rfl⟩
    | false =>
      rw [hb] at hbit
      have hs : goTo (nx.getD l []) (bitsTo f i) = goTo (nx.getD l []) (bitsTo f (i + 1)) := by
        rw [bitsTo_succ, if_neg (by simp [hb])]
      simp only [Bzu, Bz2r, Bz5z, Bz5x, Bz5y, h64, hi0, hsh, hand, hbit, wi, decide_eq_true hlt, Int.toNat_natCast, go_sem, yz0, Int.reduceLT, reduceLE, reduceToNat, reduceNeg, Nat.reduceLT, reduceLeDiff, reduceMul, reduceSub, reduceIte, reduceEqDiff, reduceAdd, reduceCtorEq]
      exact ⟨i + 1, by omega, by omega, by rw [← hs]⟩
  · obtain rfl : i = n.toNat := by omega
    have hbt : bitsTo f n.toNat = bitsTo f 10 := by
      have := bitsTo_add hf (10 - n.toNat)
      rw [show n.toNat + (10 - n.toNat) = 10 by omega] at this
      exact this.symm
    have hgo : goN (nx.getD l []) f = goTo (nx.getD l []) (bitsTo f 10) := rfl
    simp only [Bzu, Bz2r, Bzdk, hbt, hgo, decide_eq_false hlt, go_sem, yz0, Int.reduceLT, reduceLE, reduceToNat, reduceNeg, Nat.reduceLT, reduceLeDiff, reduceMul, reduceSub, reduceIte, reduceEqDiff, reduceAdd, reduceCtorEq]
theorem k_l04By (n : Int) (nx : List (List (List Int))) (C : Chc n nx) (f : Nat) (w : List Int) (hf : f < 2 ^ n.toNat) (hw : IsW nx.length w) :
    Fun Try.prog nz3e [coP n nx, iv f, .ro none 1 (ints w)] (iv (goW nx f w)) := by
  refine fun_of mixed czgc rfl ⟨rfl, trivial⟩ ?_
  simp only [Azbs, Bzbr, Bzbp, go_sem, yz0, Int.reduceLT, reduceLE, reduceToNat, reduceNeg, Nat.reduceLT, reduceLeDiff, reduceMul, reduceSub, reduceIte, reduceEqDiff, reduceAdd, reduceCtorEq]
  refine wpD_lo (fun i => w.length - i) (fun i => i ≤ w.length)
    (fun i : Nat => ⟨L .any [(0, coP n nx), (1, iv (goW nx f (w.take i))), (2, .ro none 1 (ints w)), (7, iv i)], L .gone []⟩) 0 (by simp) (by simp only [Bz2i, List.take_zero, go_sem, yz0, Int.reduceLT, reduceLE, reduceToNat, reduceNeg, Nat.reduceLT, reduceLeDiff, reduceMul, reduceSub, reduceIte, reduceEqDiff, reduceAdd, reduceCtorEq]; try rfl) ?_
  rintro i hi
  by_cases hlt : (i : Int) < w.length
  · have hlt1 : i < w.length := by omega
    have hl := hw _ (yzn hlt1 0)
    have hr : goN (nx.getD (w.getD i 0).toNat []) (goW nx f (w.take i)) = goW nx f (w.take (i + 1)) := getD_snoc w (fun f l => goN (nx.getD l.toNat []) f) f 0 hlt1
    have hlt2 : goW nx f (w.take i) < 2 ^ n.toNat := C.goW_lt (fun x hx => hw x (List.mem_of_mem_take hx)) hf
    have hk := k_l04Go n nx C (goW nx f (w.take i)) (w.getD i 0).toNat hlt2 (by omega)
    rw [hr, show (((w.getD i 0).toNat : Nat) : Int) = w.getD i 0 by omega] at hk
    simp only [Bz2i, Bz5d, Bzbo, yzg hlt1, decide_eq_true hlt, go_sem, yz0, Int.reduceLT, reduceLE, reduceToNat, reduceNeg, Nat.reduceLT, reduceLeDiff, reduceMul, reduceSub, reduceIte, reduceEqDiff, reduceAdd, reduceCtorEq]
    intro hM vs3
    refine ⟨⟨by omega, hlt1⟩, hlt1, ?_⟩
    refine yz2 hk qCW trivial ?_
    simp only [Bzbn, nat1 i _ hlt1 hM, go_sem, yz0, Int.reduceLT, reduceLE, reduceToNat, reduceNeg, Nat.reduceLT, reduceLeDiff, reduceMul, reduceSub, reduceIte, reduceEqDiff, reduceAdd, reduceCtorEq]
    exact ⟨i + 1, by omega, by omega, rfl⟩
  · have : i = w.length := by omega
    subst this
    simp only [Bz2i, Bz5d, Bzbq, decide_eq_false hlt, List.take_length, go_sem, yz0, Int.reduceLT, reduceLE, reduceToNat, reduceNeg, Nat.reduceLT, reduceLeDiff, reduceMul, reduceSub, reduceIte, reduceEqDiff, reduceAdd, reduceCtorEq]
    try (intros; trivial)
end Go.Ab
namespace Go.Ab
open Go.Proofs
abbrev nilC (k : Nat) : List AVal := List.replicate k (.val (.slice none 0 0))
theorem coeL_nilC {hp : Nat → AObj} {m : List Nat} {len : Bool} : ∀ {k : Nat}, CoeL hp m len (rwn (List.replicate k [])) (nilC k) = True
  | 0 => coeL_nil
  | k + 1 => by
    have h := coeL_nilC (hp := hp) (m := m) (len := len) (k := k)
    simp only [nilC, rwn, List.replicate_succ, List.map_cons] at h ⊢
    rw [yzw, h]
    simp [coe_ro_nil]
theorem dnL_nilC {k : Nat} : dnL (nilC k) = nilC k := by simp [dnL_eq, nilC, AVal.dn]
theorem renL_nilC {f : Nat → Option Nat} {s : Nat → Nat} {k : Nat} : renL f s (nilC k) = nilC k := by simp [renL_eq, nilC, AVal.ren]
theorem fresh_nilC {k : Nat} : freshL (nilC k) = True := by
  refine eq_true ((freshL_iff _).2 fun A hA => ?_)
  rw [List.eq_of_mem_replicate hA]
  simp [AVal.fresh]
theorem flatten_nilC {k : Nat} : (List.replicate k [AVal.val (.slice none 0 0)]).flatten = nilC k := by
  induction k with
  | zero => rfl
  | succ k ih => rw [List.replicate_succ, List.flatten_cons, ih]; simp [nilC, List.replicate_succ]
attribute [local go_sem] dnL_nilC
theorem k_l04Shape (n : Int) (l : Nat) (hl : l ≤ 10) : Fn Try.prog nz3a [iv n, iv l] fun rows res => ∃ v, rows = [.row v 1 true (nilC l)] ∧ res = .st [iv n, .own 6000 v] := by
  refine con_of mixed czg8 rfl (by simp) ?_
  generalize hQ : finQ _ = Q
  simp only [Az57, Bzb9, go_sem, yz0, Int.reduceLT, reduceLE, reduceToNat, reduceNeg, Nat.reduceLT, reduceLeDiff, reduceMul, reduceSub, reduceIte, reduceEqDiff, reduceAdd, reduceCtorEq]
  intro vs vs2
  refine ⟨⟨by omega, Int.le_refl _, by simp; omega, by omega⟩, ?_⟩
  simp only [Az57, ← hQ, flatten_nilC, go_sem, yz0, Int.reduceLT, reduceLE, reduceToNat, reduceNeg, Nat.reduceLT, reduceLeDiff, reduceMul, reduceSub, reduceIte, reduceEqDiff, reduceAdd, reduceCtorEq]
  refine ⟨[7], by simp, by simp, by simp, ?_⟩
  simp only [range1, List.length_singleton, renL_nilC, fresh_nilC, Nat.not_lt_zero, range1, ren_val, ren_any, ren_ro, rnNm_n, rnNm_sn, rnNm_o, rnNm_s, ren_st, ren_tup, yzu, yzm, yz8, yzq, yzr, yzo, yzp, yzs, yza, yzc, yz9, yze, yzk, yzj, yz3, yzd, yz7, yz6, yzi, yzl, List.range_zero, yz5, yz4, yzb, yzt, yzf, yzv, AVal.fresh, freshL, yz1, yzh, AObj.fresh, id, Option.isSome_some, or_true, true_or, go_sem, yz0, Int.reduceLT, reduceLE, reduceToNat, reduceNeg, Nat.reduceLT, reduceLeDiff, reduceMul, reduceSub, reduceIte, reduceEqDiff, reduceAdd, reduceCtorEq]
  exact ⟨_, rfl, rfl⟩
theorem k_specReachBy (n : Int) (nx : List (List (List Int))) (C : Chc n nx) (set w : List Int) (hs : setB n set = true) (hw : wordB nx.length w = true) :
    Fn Try.prog nz2z [coA n nx, .ro none 1 (ints set), .ro none 1 (ints w)] fun rows res => ∃ v, rows = [.row v 1 true (ints (bitsTo (goW nx (maskN set) w) 10))] ∧ res = .tup [.own 6000 v, iv 0] := by
  refine con_of mixed czfp rfl (by simp) ?_
  have n1 := C.n1
  have n2 := C.n2
  have l2 := C.l2
  have hN : 2 ^ n.toNat ≤ 1024 := Nat.pow_le_pow_right (n := 2) (by omega) (show n.toNat ≤ 10 by omega)
  have hwi := (wordB_iff.1 hw).2
  have hsi := setB_in hs
  have hm := mask_lt2 hsi
  have hg := C.goW_lt hwi hm
  generalize hQ : finQ _ = Q
  simp only [Az46, Bz88, go_sem, yz0, Int.reduceLT, reduceLE, reduceToNat, reduceNeg, Nat.reduceLT, reduceLeDiff, reduceMul, reduceSub, reduceIte, reduceEqDiff, reduceAdd, reduceCtorEq]
  intro vs vs2
  refine yz2 (k_l04Choices n nx C) qCW trivial ?_
  simp only [Bz83, Bz87, Bool.not_true, go_sem, yz0, Int.reduceLT, reduceLE, reduceToNat, reduceNeg, Nat.reduceLT, reduceLeDiff, reduceMul, reduceSub, reduceIte, reduceEqDiff, reduceAdd, reduceCtorEq]
  intro hM vs3
  refine call_fn (k_l04Shape n nx.length (by omega)) qCW (fun e => by cases e) ?_
  rintro rows res ⟨v, rfl, rfl⟩
  refine ⟨by simp, by rw [Option.getD_some, yzf]; simp only [go_sem, yz0, Int.reduceLT, reduceLE, reduceToNat, reduceNeg, Nat.reduceLT, reduceLeDiff, reduceMul, reduceSub, reduceIte, reduceEqDiff, reduceAdd, reduceCtorEq], ?_⟩
  have hw2 : wordB (List.replicate nx.length ([] : List Int)).length w = true := by rw [List.length_replicate]; exact hw
  simp only [Option.getD_some, renL_nilC, Bz86, Nat.not_lt_zero, range1, ren_val, ren_any, ren_ro, rnNm_n, rnNm_sn, rnNm_o, rnNm_s, ren_st, ren_tup, yzu, yzm, yz8, yzq, yzr, yzo, yzp, yzs, yza, yzc, yz9, yze, yzk, yzj, yz3, yzd, yz7, yz6, yzi, yzl, List.range_zero, yz5, yz4, yzb, yzt, yzf, yzv, AVal.fresh, freshL, yz1, yzh, AObj.fresh, id, Option.isSome_some, or_true, true_or, go_sem, yz0, Int.reduceLT, reduceLE, reduceToNat, reduceNeg, Nat.reduceLT, reduceLeDiff, reduceMul, reduceSub, reduceIte, reduceEqDiff, reduceAdd, reduceCtorEq]
  intro vs4
  refine yz2 (k_l01Set n (List.replicate nx.length []) set ⟨n1, n2⟩) (by simp only [coeL_nilC, coeL_rwwn, rowIs, boxIs, coe_argN, coe_argNs, coe_ro_o, coeL_nil, yzw, coe_any, coe_val, coe_ro, coe_ro_nil, coe_ro_own, coe_st, coe_st_agg, coe_rp, coe_rp_ptr, coe_clo, coe_own0, coe_ptr0, coeL_intsK, coeL_rws, coeL_rwn, L_hit, L_miss, L_nil, reduceEqDiff, ne_eq, reduceCtorEq, not_false_eq_true, true_and, and_true, and_self, exists_eq_left, exists_eq_right, List.mem_cons, List.not_mem_nil, or_false, AObj.row.injEq, AObj.box.injEq, exists_eq_left', exists_and_left, exists_eq, Nat.zero_lt_one, Nat.lt_add_one, List.map_cons, List.map_nil, AObj.ver, Nat.reduceLT, not_true_eq_false]) trivial ?_
  simp only [hs, Bool.not_true, go_sem, yz0, Int.reduceLT, reduceLE, reduceToNat, reduceNeg, Nat.reduceLT, reduceLeDiff, reduceMul, reduceSub, reduceIte, reduceEqDiff, reduceAdd, reduceCtorEq]
  refine yz2 (k_l01Word n (List.replicate nx.length []) w (by simp; omega)) (by simp only [coeL_nilC, coeL_rwwn, rowIs, boxIs, coe_argN, coe_argNs, coe_ro_o, coeL_nil, yzw, coe_any, coe_val, coe_ro, coe_ro_nil, coe_ro_own, coe_st, coe_st_agg, coe_rp, coe_rp_ptr, coe_clo, coe_own0, coe_ptr0, coeL_intsK, coeL_rws, coeL_rwn, L_hit, L_miss, L_nil, reduceEqDiff, ne_eq, reduceCtorEq, not_false_eq_true, true_and, and_true, and_self, exists_eq_left, exists_eq_right, List.mem_cons, List.not_mem_nil, or_false, AObj.row.injEq, AObj.box.injEq, exists_eq_left', exists_and_left, exists_eq, Nat.zero_lt_one, Nat.lt_add_one, List.map_cons, List.map_nil, AObj.ver, Nat.reduceLT, not_true_eq_false]) trivial ?_
  simp only [hw2, Bool.not_true, Bz84, Bz85, go_sem, yz0, Int.reduceLT, reduceLE, reduceToNat, reduceNeg, Nat.reduceLT, reduceLeDiff, reduceMul, reduceSub, reduceIte, reduceEqDiff, reduceAdd, reduceCtorEq]
  intro vs5
  refine yz2 (k_l02Bits set (fun x hx => by have := hsi x hx; omega)) qCW trivial ?_
  simp only [go_sem, yz0, Int.reduceLT, reduceLE, reduceToNat, reduceNeg, Nat.reduceLT, reduceLeDiff, reduceMul, reduceSub, reduceIte, reduceEqDiff, reduceAdd, reduceCtorEq]
  refine yz2 (k_l04By n nx C (maskN set) w hm hwi) qCW trivial ?_
  simp only [go_sem, yz0, Int.reduceLT, reduceLE, reduceToNat, reduceNeg, Nat.reduceLT, reduceLeDiff, reduceMul, reduceSub, reduceIte, reduceEqDiff, reduceAdd, reduceCtorEq]
  refine call_rowI (k_l02Set (goW nx (maskN set) w) (by omega)) qCW qGN ⟨_, rfl⟩ ?_
  rintro ys v' rfl
  simp only [Az46, ← hQ, go_sem, yz0, Int.reduceLT, reduceLE, reduceToNat, reduceNeg, Nat.reduceLT, reduceLeDiff, reduceMul, reduceSub, reduceIte, reduceEqDiff, reduceAdd, reduceCtorEq]
  refine ⟨[31], by simp, by simp, by simp, ?_⟩
  simp only [range1, List.length_singleton, Nat.not_lt_zero, range1, ren_val, ren_any, ren_ro, rnNm_n, rnNm_sn, rnNm_o, rnNm_s, ren_st, ren_tup, yzu, yzm, yz8, yzq, yzr, yzo, yzp, yzs, yza, yzc, yz9, yze, yzk, yzj, yz3, yzd, yz7, yz6, yzi, yzl, List.range_zero, yz5, yz4, yzb, yzt, yzf, yzv, AVal.fresh, freshL, yz1, yzh, AObj.fresh, id, Option.isSome_some, or_true, true_or, go_sem, yz0, Int.reduceLT, reduceLE, reduceToNat, reduceNeg, Nat.reduceLT, reduceLeDiff, reduceMul, reduceSub, reduceIte, reduceEqDiff, reduceAdd, reduceCtorEq]
  exact ⟨_, rfl, rfl⟩
def partB (xs ys : List Int) : Bool := xs.all fun x => ys.any fun y => x == y
theorem k_f6part (xs ys : List Int) : Fun Try.prog nz30 [.ro none 1 (ints xs), .ro none 1 (ints ys)] (bv (partB xs ys)) := by
  refine fun_of mixed czfr rfl ⟨rfl, trivial⟩ ?_
  simp only [Az8n, Bz8m, Bz8k, go_sem, yz0, Int.reduceLT, reduceLE, reduceToNat, reduceNeg, Nat.reduceLT, reduceLeDiff, reduceMul, reduceSub, reduceIte, reduceEqDiff, reduceAdd, reduceCtorEq]
  refine wpD_lo (fun i => xs.length - i) (fun i => i ≤ xs.length ∧ partB (xs.take i) ys = true)
    (fun i : Nat => ⟨L .any [(0, .ro none 1 (ints xs)), (1, .ro none 1 (ints ys)), (5, iv i)], L .gone []⟩) 0 ⟨by simp, rfl⟩ (by simp only [Bz21, go_sem, yz0, Int.reduceLT, reduceLE, reduceToNat, reduceNeg, Nat.reduceLT, reduceLeDiff, reduceMul, reduceSub, reduceIte, reduceEqDiff, reduceAdd, reduceCtorEq]; try rfl) ?_
  rintro i ⟨hi, hp⟩
  by_cases hlt : (i : Int) < xs.length
  · have hlt1 : i < xs.length := by omega
    have hps : partB (xs.take (i + 1)) ys = (partB (xs.take i) ys && ys.any fun y => xs.getD i 0 == y) := by
      unfold partB
      rw [List.take_succ, List.all_append, List.getD_eq_getElem?_getD, List.getElem?_eq_getElem hlt1]
      simp
    rw [hp, Bool.true_and] at hps
    simp only [Bz21, Bz4a, Bz8j, Bz8h, Bz8g, decide_eq_true hlt, go_sem, yz0, Int.reduceLT, reduceLE, reduceToNat, reduceNeg, Nat.reduceLT, reduceLeDiff, reduceMul, reduceSub, reduceIte, reduceEqDiff, reduceAdd, reduceCtorEq]
    intro hM
    refine wpD_lo (fun j => ys.length - j) (fun j => j ≤ ys.length)
      (fun j : Nat => ⟨L .any [(0, .ro none 1 (ints xs)), (1, .ro none 1 (ints ys)), (5, iv i), (6, bv ((ys.take j).any fun y => xs.getD i 0 == y)), (7, iv j)], L .gone []⟩) 0 (by simp) (by simp only [Bz6, List.take_zero, List.any_nil, go_sem, yz0, Int.reduceLT, reduceLE, reduceToNat, reduceNeg, Nat.reduceLT, reduceLeDiff, reduceMul, reduceSub, reduceIte, reduceEqDiff, reduceAdd, reduceCtorEq]; try rfl) ?_
    rintro j hj
    by_cases hlj : (j : Int) < ys.length
    · have hlj1 : j < ys.length := by omega
      have hjs : ((ys.take (j + 1)).any fun y => xs.getD i 0 == y) = (((ys.take j).any fun y => xs.getD i 0 == y) || (xs.getD i 0 == ys.getD j 0)) := by
        rw [List.take_succ, List.any_append, List.getD_eq_getElem?_getD (l := ys), List.getElem?_eq_getElem hlj1]
        simp
      cases hb : (ys.take j).any fun y => xs.getD i 0 == y with
      | true =>
        rw [hb, Bool.true_or] at hjs
        simp only [Bz6, Bzq, Bz4c, Bz4b, hb, decide_eq_true hlj, go_sem, yz0, Int.reduceLT, reduceLE, reduceToNat, reduceNeg, Nat.reduceLT, reduceLeDiff, reduceMul, reduceSub, reduceIte, reduceEqDiff, reduceAdd, reduceCtorEq]
        intro hM2
        simp only [nat1 j _ hlj1 hM2, go_sem, yz0, Int.reduceLT, reduceLE, reduceToNat, reduceNeg, Nat.reduceLT, reduceLeDiff, reduceMul, reduceSub, reduceIte, reduceEqDiff, reduceAdd, reduceCtorEq]
        exact ⟨j + 1, by omega, by omega, by rw [hjs]⟩
      | false =>
        rw [hb, Bool.false_or] at hjs
        simp only [Bz6, Bzq, Bz4c, Bz4b, hb, yzg hlt1, yzg hlj1, decide_eq_true hlj, go_sem, yz0, Int.reduceLT, reduceLE, reduceToNat, reduceNeg, Nat.reduceLT, reduceLeDiff, reduceMul, reduceSub, reduceIte, reduceEqDiff, reduceAdd, reduceCtorEq]
        intro hM2
        simp only [nat1 j _ hlj1 hM2, go_sem, yz0, Int.reduceLT, reduceLE, reduceToNat, reduceNeg, Nat.reduceLT, reduceLeDiff, reduceMul, reduceSub, reduceIte, reduceEqDiff, reduceAdd, reduceCtorEq]
        exact ⟨⟨by omega, hlt1⟩, hlt1, ⟨by omega, hlj1⟩, hlj1, j + 1, by omega, by omega, by rw [hjs]⟩
    · obtain rfl : j = ys.length := by omega
      rw [List.take_length]
      cases hb : ys.any fun y => xs.getD i 0 == y with
      | true =>
        rw [hb] at hps
        simp only [Bz6, Bzq, Bz4e, Bz4d, Bz8i, hb, nat1 i _ hlt1 hM, Bool.not_true, decide_eq_false hlj, go_sem, yz0, Int.reduceLT, reduceLE, reduceToNat, reduceNeg, Nat.reduceLT, reduceLeDiff, reduceMul, reduceSub, reduceIte, reduceEqDiff, reduceAdd, reduceCtorEq]
        exact fun _ => ⟨i + 1, by omega, ⟨by omega, hps⟩, rfl⟩
      | false =>
        have hf : partB xs ys = false := by
          unfold partB
          rw [List.all_eq_false]
          exact ⟨_, yzn hlt1 0, by rw [hb]; simp⟩
        simp only [Bz6, Bzq, Bz4e, Bz4d, hb, hf, Bool.not_false, decide_eq_false hlj, go_sem, yz0, Int.reduceLT, reduceLE, reduceToNat, reduceNeg, Nat.reduceLT, reduceLeDiff, reduceMul, reduceSub, reduceIte, reduceEqDiff, reduceAdd, reduceCtorEq]
        try (intros; trivial)
  · obtain rfl : i = xs.length := by omega
    rw [List.take_length] at hp
    simp only [Bz21, Bz4a, Bz8l, hp, decide_eq_false hlt, go_sem, yz0, Int.reduceLT, reduceLE, reduceToNat, reduceNeg, Nat.reduceLT, reduceLeDiff, reduceMul, reduceSub, reduceIte, reduceEqDiff, reduceAdd, reduceCtorEq]
    try (intros; trivial)
end Go.Ab
namespace Go.Ab
open Go.Proofs
def gapsR (row : List Int) (l : Nat) (k : Nat) : List Int := (List.range k).flatMap fun s => if row.getD s 0 < 0 then [(l : Int), (s : Int)] else []
def gapsF (next : List (List Int)) (k : Nat) : List Int := (List.range k).flatMap fun l => gapsR (next.getD l []) l (next.getD l []).length
theorem gapsR_succ {row : List Int} {l k : Nat} : gapsR row l (k + 1) = gapsR row l k ++ if row.getD k 0 < 0 then [(l : Int), (k : Int)] else [] := by simp [gapsR, List.range_succ]
theorem gapsF_succ {next : List (List Int)} {k : Nat} : gapsF next (k + 1) = gapsF next k ++ gapsR (next.getD k []) k (next.getD k []).length := by simp [gapsF, List.range_succ]
theorem gapsR_len {row : List Int} {l : Nat} : ∀ {k : Nat}, (gapsR row l k).length ≤ 2 * k
  | 0 => by simp [gapsR]
  | k + 1 => by
    have := gapsR_len (row := row) (l := l) (k := k)
    rw [gapsR_succ, List.length_append]
    split <;> simp <;> omega
theorem gapsF_len {next : List (List Int)} (h : ∀ r ∈ next, r.length ≤ 10) : ∀ {k : Nat}, k ≤ next.length → (gapsF next k).length ≤ 20 * k
  | 0, _ => by simp [gapsF]
  | k + 1, hk => by
    have h1 := gapsF_len h (k := k) (by omega)
    have h2 := gapsR_len (row := next.getD k []) (l := k) (k := (next.getD k []).length)
    have h3 := h _ (yzn (show k < next.length by omega) [])
    rw [gapsF_succ, List.length_append]; omega
theorem ints_two {xs : List Int} {a b : Int} : ints xs ++ [iv a, iv b] = ints (xs ++ [a, b]) := by simp
theorem k_gaps (n : Int) (next : List (List Int)) (P : Prt n next) : Fn Try.prog nz3i [autA n next] fun rows res => ∃ v, rows = [.row v 2 true (ints (gapsF next next.length))] ∧ res = .own 6000 v := by
  refine con_of mixed czgp rfl (by simp) ?_
  have n1 := P.n1
  have n2 := P.n2
  have l2 := P.l2
  have hrl : ∀ r ∈ next, r.length ≤ 10 := fun r hr => by have := (P.row r hr).1; omega
  generalize hQ : finQ _ = Q
  simp only [Az5u, Bzd9, go_sem, yz0, Int.reduceLT, reduceLE, reduceToNat, reduceNeg, Nat.reduceLT, reduceLeDiff, reduceMul, reduceSub, reduceIte, reduceEqDiff, reduceAdd, reduceCtorEq]
  intro vs vs2
  simp only [Bzd8, Bzd6, go_sem, yz0, Int.reduceLT, reduceLE, reduceToNat, reduceNeg, Nat.reduceLT, reduceLeDiff, reduceMul, reduceSub, reduceIte, reduceEqDiff, reduceAdd, reduceCtorEq]
  intro hM
  refine wpD_lo (fun (_, l) => next.length - l) (fun (_, l) => l ≤ next.length)
    (fun ((v, l) : Nat × Nat) => ⟨L .any [(3, .own 8 v), (10, .ro none 1 (rwn next)), (11, iv next.length), (12, iv l)], L .gone [(1, .box (vs 0 0) [iv n, .ro none 1 (rwn next)]), (8, .row v 2 true (ints (gapsF next l)))]⟩)
    (_, 0) (by simp) (by simp only [Bz2p, go_sem, yz0, Int.reduceLT, reduceLE, reduceToNat, reduceNeg, Nat.reduceLT, reduceLeDiff, reduceMul, reduceSub, reduceIte, reduceEqDiff, reduceAdd, reduceCtorEq]; try rfl) ?_
  rintro ⟨v, l⟩ hl
  have hl : l ≤ next.length := hl
  by_cases hlt : (l : Int) < next.length
  · have hlt1 : l < next.length := by omega
    have wl : IntKind.i64.wrap ((l : Int) + 1) = ((l + 1 : Nat) : Int) := by rw [w64 (by omega)]; simp
    have hgl := gapsF_len hrl hl
    have hr := hrl _ (yzn hlt1 [])
    have hfs := gapsF_succ (next := next) (k := l)
    have hgd := rwn_getD hlt1
    generalize next.getD l [] = row at hr hfs hgd
    simp only [Bz2p, Bz5t, Bzd5, hgd, decide_eq_true hlt, go_sem, yz0, Int.reduceLT, reduceLE, reduceToNat, reduceNeg, Nat.reduceLT, reduceLeDiff, reduceMul, reduceSub, reduceIte, reduceEqDiff, reduceAdd, reduceCtorEq]
    refine ⟨⟨by omega, hlt1⟩, hlt1, ?_⟩
    simp only [Bzd3, Bzd2, go_sem, yz0, Int.reduceLT, reduceLE, reduceToNat, reduceNeg, Nat.reduceLT, reduceLeDiff, reduceMul, reduceSub, reduceIte, reduceEqDiff, reduceAdd, reduceCtorEq]
    intro hM2
    refine wpD_lo (fun (_, s) => row.length - s) (fun (_, s) => s ≤ row.length)
      (fun ((v, s) : Nat × Nat) => ⟨L .any [(3, .own 8 v), (4, iv l), (10, .ro none 1 (rwn next)), (11, iv next.length), (12, iv l), (17, .ro none 1 (ints row)), (18, iv row.length), (19, iv s)], L .gone [(1, .box (vs 0 0) [iv n, .ro none 1 (rwn next)]), (8, .row v 2 true (ints (gapsF next l ++ gapsR row l s)))]⟩)
      (_, 0) (by simp) (by simp only [Bz2o, gapsR, List.range_zero, List.flatMap_nil, List.append_nil, go_sem, yz0, Int.reduceLT, reduceLE, reduceToNat, reduceNeg, Nat.reduceLT, reduceLeDiff, reduceMul, reduceSub, reduceIte, reduceEqDiff, reduceAdd, reduceCtorEq]; try rfl) ?_
    rintro ⟨v, s⟩ hs
    have hs : s ≤ row.length := hs
    by_cases hlts : (s : Int) < row.length
    · have hlts1 : s < row.length := by omega
      have ws : IntKind.i64.wrap ((s : Int) + 1) = ((s + 1 : Nat) : Int) := by rw [w64 (by omega)]; simp
      have hrs := gapsR_succ (row := row) (l := l) (k := s)
      have hrl2 := gapsR_len (row := row) (l := l) (k := s)
      have hgs := yzg (k := .i64) hlts1
      generalize row.getD s 0 = x at hrs hgs
      simp only [Bz2o, Bz5s, Bzd1, hgs, decide_eq_true hlts, go_sem, yz0, Int.reduceLT, reduceLE, reduceToNat, reduceNeg, Nat.reduceLT, reduceLeDiff, reduceMul, reduceSub, reduceIte, reduceEqDiff, reduceAdd, reduceCtorEq]
      refine ⟨⟨by omega, hlts1⟩, hlts1, ?_⟩
      by_cases hx : x < 0
      · rw [if_pos hx] at hrs
        simp only [Bz5q, Bz5p, Bz5r, decide_eq_true hx, ws, go_sem, yz0, Int.reduceLT, reduceLE, reduceToNat, reduceNeg, Nat.reduceLT, reduceLeDiff, reduceMul, reduceSub, reduceIte, reduceEqDiff, reduceAdd, reduceCtorEq]
        exact fun vs5 => ⟨by rw [List.length_append]; omega, (vs5 5 0, s + 1), by dsimp only; omega, by dsimp only; omega, by rw [hrs, ints_two, List.append_assoc]⟩
      · rw [if_neg hx, List.append_nil] at hrs
        simp only [Bz5q, Bz5p, Bz5r, decide_eq_false hx, ws, go_sem, yz0, Int.reduceLT, reduceLE, reduceToNat, reduceNeg, Nat.reduceLT, reduceLeDiff, reduceMul, reduceSub, reduceIte, reduceEqDiff, reduceAdd, reduceCtorEq]
        exact ⟨(v, s + 1), by dsimp only; omega, by dsimp only; omega, by rw [hrs]⟩
    · obtain rfl : s = row.length := by omega
      simp only [Bz2o, Bz5s, Bzd4, decide_eq_false hlts, wl, go_sem, yz0, Int.reduceLT, reduceLE, reduceToNat, reduceNeg, Nat.reduceLT, reduceLeDiff, reduceMul, reduceSub, reduceIte, reduceEqDiff, reduceAdd, reduceCtorEq]
      exact ⟨(v, l + 1), by dsimp only; omega, by dsimp only; omega, by rw [hfs]⟩
  · obtain rfl : l = next.length := by omega
    simp only [Bz2p, Bz5t, Bzd7, decide_eq_false hlt, Az5u, ← hQ, go_sem, yz0, Int.reduceLT, reduceLE, reduceToNat, reduceNeg, Nat.reduceLT, reduceLeDiff, reduceMul, reduceSub, reduceIte, reduceEqDiff, reduceAdd, reduceCtorEq]
    refine ⟨[8], by simp, by simp, by simp, ?_⟩
    simp only [range1, List.length_singleton, Nat.not_lt_zero, range1, ren_val, ren_any, ren_ro, rnNm_n, rnNm_sn, rnNm_o, rnNm_s, ren_st, ren_tup, yzu, yzm, yz8, yzq, yzr, yzo, yzp, yzs, yza, yzc, yz9, yze, yzk, yzj, yz3, yzd, yz7, yz6, yzi, yzl, List.range_zero, yz5, yz4, yzb, yzt, yzf, yzv, AVal.fresh, freshL, yz1, yzh, AObj.fresh, id, Option.isSome_some, or_true, true_or, go_sem, yz0, Int.reduceLT, reduceLE, reduceToNat, reduceNeg, Nat.reduceLT, reduceLeDiff, reduceMul, reduceSub, reduceIte, reduceEqDiff, reduceAdd, reduceCtorEq]
    exact ⟨_, rfl, rfl⟩
theorem k_GapsOf (n : Int) (next : List (List Int)) (P : Prt n next) : Fn Try.prog nz35 [autA n next] fun rows res => ∃ v, rows = [.row v 2 true (ints (gapsF next next.length))] ∧ res = .tup [.own 6000 v, iv 0] := by
  refine con_of mixed czfw rfl (by simp) ?_
  simp only [Az9f, Bz9e, go_sem, yz0, Int.reduceLT, reduceLE, reduceToNat, reduceNeg, Nat.reduceLT, reduceLeDiff, reduceMul, reduceSub, reduceIte, reduceEqDiff, reduceAdd, reduceCtorEq]
  intro vs vs2
  refine yz2 (k_ValidPartial n next P) qCS trivial ?_
  simp only [Bz9c, Bz9d, Bool.not_true, go_sem, yz0, Int.reduceLT, reduceLE, reduceToNat, reduceNeg, Nat.reduceLT, reduceLeDiff, reduceMul, reduceSub, reduceIte, reduceEqDiff, reduceAdd, reduceCtorEq]
  intro vs3
  refine call_fn (k_gaps n next P) qCS (fun e => by cases e) ?_
  rintro rows res ⟨v, rfl, rfl⟩
  refine ⟨by simp, by rw [Option.getD_some, yzf]; simp only [go_sem, yz0, Int.reduceLT, reduceLE, reduceToNat, reduceNeg, Nat.reduceLT, reduceLeDiff, reduceMul, reduceSub, reduceIte, reduceEqDiff, reduceAdd, reduceCtorEq], ?_⟩
  simp only [Option.getD_some, Nat.not_lt_zero, range1, ren_val, ren_any, ren_ro, rnNm_n, rnNm_sn, rnNm_o, rnNm_s, ren_st, ren_tup, yzu, yzm, yz8, yzq, yzr, yzo, yzp, yzs, yza, yzc, yz9, yze, yzk, yzj, yz3, yzd, yz7, yz6, yzi, yzl, List.range_zero, yz5, yz4, yzb, yzt, yzf, yzv, AVal.fresh, freshL, yz1, yzh, AObj.fresh, id, Option.isSome_some, or_true, true_or, go_sem, yz0, Int.reduceLT, reduceLE, reduceToNat, reduceNeg, Nat.reduceLT, reduceLeDiff, reduceMul, reduceSub, reduceIte, reduceEqDiff, reduceAdd, reduceCtorEq]
  refine ⟨[8], by simp, by simp, by simp, ?_⟩
  simp only [range1, List.length_singleton, Nat.not_lt_zero, range1, ren_val, ren_any, ren_ro, rnNm_n, rnNm_sn, rnNm_o, rnNm_s, ren_st, ren_tup, yzu, yzm, yz8, yzq, yzr, yzo, yzp, yzs, yza, yzc, yz9, yze, yzk, yzj, yz3, yzd, yz7, yz6, yzi, yzl, List.range_zero, yz5, yz4, yzb, yzt, yzf, yzv, AVal.fresh, freshL, yz1, yzh, AObj.fresh, id, Option.isSome_some, or_true, true_or, go_sem, yz0, Int.reduceLT, reduceLE, reduceToNat, reduceNeg, Nat.reduceLT, reduceLeDiff, reduceMul, reduceSub, reduceIte, reduceEqDiff, reduceAdd, reduceCtorEq]
  exact ⟨_, rfl, rfl⟩
def chS (x : Int) : List Int := if 0 ≤ x then [x] else []
def chOf (next : List (List Int)) : List (List (List Int)) := next.map fun row => row.map chS
theorem Prt.chc {n : Int} {next : List (List Int)} (P : Prt n next) : Chc n (chOf next) := by
  refine ⟨P.n1, P.n2, by simp [chOf]; exact P.l1, by simp [chOf]; exact P.l2, fun r hr => ?_⟩
  obtain ⟨row, hrow, rfl⟩ := List.mem_map.1 hr
  obtain ⟨h1, h2⟩ := P.row row hrow
  refine ⟨by rw [List.length_map]; exact h1, fun s hs => ?_⟩
  obtain ⟨x, hx, rfl⟩ := List.mem_map.1 hs
  have := h2 x hx
  rw [setB_iff]
  unfold chS
  split
  · exact ⟨by simp [SI], fun y hy => by rw [List.mem_singleton.1 hy]; omega⟩
  · exact ⟨by simp [SI], fun y hy => by cases hy⟩
theorem k_ChoiceOf (n : Int) (next : List (List Int)) (P : Prt n next) : Fn Try.prog nz32 [autA n next] fun rows res => ∃ v, rows = [.row v 1 true (rww (chOf next))] ∧ res = .tup [.st [iv n, .own 6000 v], iv 0] := by
  refine con_of mixed czft rfl (by simp) ?_
  have n1 := P.n1
  have n2 := P.n2
  have l2 := P.l2
  have l1 := P.l1
  generalize hQ : finQ _ = Q
  simp only [Az4m, Bz92, go_sem, yz0, Int.reduceLT, reduceLE, reduceToNat, reduceNeg, Nat.reduceLT, reduceLeDiff, reduceMul, reduceSub, reduceIte, reduceEqDiff, reduceAdd, reduceCtorEq]
  intro vs vs2
  refine yz2 (k_ValidPartial n next P) qCS trivial ?_
  simp only [Bz8p, Bz91, Bool.not_true, go_sem, yz0, Int.reduceLT, reduceLE, reduceToNat, reduceNeg, Nat.reduceLT, reduceLeDiff, reduceMul, reduceSub, reduceIte, reduceEqDiff, reduceAdd, reduceCtorEq]
  intro vs3
  simp only [Bz90, Bz8y, go_sem, yz0, Int.reduceLT, reduceLE, reduceToNat, reduceNeg, Nat.reduceLT, reduceLeDiff, reduceMul, reduceSub, reduceIte, reduceEqDiff, reduceAdd, reduceCtorEq]
  intro hM ver
  refine wpD_lo (fun (_, _, k) => next.length - k) (fun (_, nn, k) => k ≤ next.length ∧ (0 < k → nn = true))
    (fun ((v, nn, k) : Nat × Bool × Nat) => ⟨L .any [(2, .ptr 2 (vs 1 0) 0), (4, .ptr 4 (vs3 3 0) 0), (19, .ro none 1 (rwn next)), (20, iv next.length), (21, iv k)],
      L .gone [(1, .box (vs 0 0) [iv n, .ro none 1 (rwn next)]), (2, .box (vs 1 0) [iv 0, .val (.slice none 0 0)]), (4, .box (vs3 3 0) [iv n, .own 48 v]), (48, .row v 1 nn (rww ((chOf next).take k)))]⟩)
    (ver, false, 0) ⟨by omega, fun h => by omega⟩ (by simp only [Bz23, List.take_zero, go_sem, yz0, Int.reduceLT, reduceLE, reduceToNat, reduceNeg, Nat.reduceLT, reduceLeDiff, reduceMul, reduceSub, reduceIte, reduceEqDiff, reduceAdd, reduceCtorEq]; try rfl) ?_
  rintro ⟨v, nn, k⟩ ⟨hk, hnn⟩
  have hk : k ≤ next.length := hk
  have hcl : (chOf next).length = next.length := by simp [chOf]
  by_cases hlt : (k : Int) < next.length
  · have hlt1 : k < next.length := by omega
    have wk : IntKind.i64.wrap ((k : Int) + 1) = ((k + 1 : Nat) : Int) := by rw [w64 (by omega)]; simp
    have hrow := P.row _ (yzn hlt1 [])
    have hcg : (chOf next).getD k [] = (next.getD k []).map chS := by
      unfold chOf
      rw [List.getD_eq_getElem?_getD, List.getElem?_map, List.getD_eq_getElem?_getD, List.getElem?_eq_getElem hlt1]; rfl
    have hct : (chOf next).take (k + 1) = (chOf next).take k ++ [(next.getD k []).map chS] := by
      rw [← hcg, List.take_succ, List.getD_eq_getElem?_getD, List.getElem?_eq_getElem (by omega)]; rfl
    have hgd := rwn_getD hlt1
    generalize next.getD k [] = row at hrow hct hgd
    have hrl := hrow.1
    simp only [Bz23, Bz4l, Bz8x, hgd, decide_eq_true hlt, go_sem, yz0, Int.reduceLT, reduceLE, reduceToNat, reduceNeg, Nat.reduceLT, reduceLeDiff, reduceMul, reduceSub, reduceIte, reduceEqDiff, reduceAdd, reduceCtorEq]
    refine ⟨⟨by omega, hlt1⟩, hlt1, ?_⟩
    simp only [Bz8v, go_sem, yz0, Int.reduceLT, reduceLE, reduceToNat, reduceNeg, Nat.reduceLT, reduceLeDiff, reduceMul, reduceSub, reduceIte, reduceEqDiff, reduceAdd, reduceCtorEq]
    intro vs4
    simp only [Bz8u, Bz8s, go_sem, yz0, Int.reduceLT, reduceLE, reduceToNat, reduceNeg, Nat.reduceLT, reduceLeDiff, reduceMul, reduceSub, reduceIte, reduceEqDiff, reduceAdd, reduceCtorEq]
    intro hM2
    refine wpD_lo (fun (_, s) => row.length - s) (fun (_, s) => s ≤ row.length)
      (fun ((u, s) : Nat × Nat) => ⟨L .any [(2, .ptr 2 (vs 1 0) 0), (4, .ptr 4 (vs3 3 0) 0), (7, .own 25 u), (19, .ro none 1 (rwn next)), (20, iv next.length), (21, iv k), (26, .ro none 1 (ints row)), (27, iv row.length), (28, iv s)],
        L .gone [(1, .box (vs 0 0) [iv n, .ro none 1 (rwn next)]), (2, .box (vs 1 0) [iv 0, .val (.slice none 0 0)]), (4, .box (vs3 3 0) [iv n, .own 48 v]), (25, .row u 1 true (rws ((row.map chS).take s))), (48, .row v 1 nn (rww ((chOf next).take k)))]⟩)
      (_, 0) (by simp) (by simp only [Bz22, List.take_zero, go_sem, yz0, Int.reduceLT, reduceLE, reduceToNat, reduceNeg, Nat.reduceLT, reduceLeDiff, reduceMul, reduceSub, reduceIte, reduceEqDiff, reduceAdd, reduceCtorEq]; try rfl) ?_
    rintro ⟨u, s⟩ hs
    have hs : s ≤ row.length := hs
    by_cases hlts : (s : Int) < row.length
    · have hlts1 : s < row.length := by omega
      have ws : IntKind.i64.wrap ((s : Int) + 1) = ((s + 1 : Nat) : Int) := by rw [w64 (by omega)]; simp
      have hgs := yzg (k := .i64) hlts1
      have hst : (row.map chS).take (s + 1) = (row.map chS).take s ++ [chS (row.getD s 0)] := by
        rw [List.take_succ, List.getElem?_map, List.getD_eq_getElem?_getD, List.getElem?_eq_getElem hlts1]; rfl
      have hlm : ((row.map chS).take s).length = s := by rw [List.length_take, List.length_map]; omega
      have hch : chS (row.getD s 0) = if 0 ≤ row.getD s 0 then [row.getD s 0] else [] := rfl
      generalize row.getD s 0 = x at hst hgs hch
      simp only [Bz22, Bz4k, Bz8r, hgs, decide_eq_true hlts, go_sem, yz0, Int.reduceLT, reduceLE, reduceToNat, reduceNeg, Nat.reduceLT, reduceLeDiff, reduceMul, reduceSub, reduceIte, reduceEqDiff, reduceAdd, reduceCtorEq]
      refine ⟨⟨by omega, hlts1⟩, hlts1, ?_⟩
      simp only [Bz8q, go_sem, yz0, Int.reduceLT, reduceLE, reduceToNat, reduceNeg, Nat.reduceLT, reduceLeDiff, reduceMul, reduceSub, reduceIte, reduceEqDiff, reduceAdd, reduceCtorEq]
      intro vs5
      by_cases hx : x ≥ 0
      · rw [if_pos hx] at hch
        rw [hch] at hst
        simp only [Bz4i, Bz4g, Bz4h, Bz4j, decide_eq_true hx, ws, go_sem, yz0, Int.reduceLT, reduceLE, reduceToNat, reduceNeg, Nat.reduceLT, reduceLeDiff, reduceMul, reduceSub, reduceIte, reduceEqDiff, reduceAdd, reduceCtorEq]
        exact ⟨⟨_, rfl, rfl⟩, fun vs6 => ⟨by rw [hlm]; omega, (vs6 3 0, s + 1), by dsimp only; omega, by dsimp only; omega, by rw [hst, ← rws_snoc]; rfl⟩⟩
      · rw [if_neg hx] at hch
        rw [hch] at hst
        simp only [Bz4i, Bz4g, Bz4h, Bz4j, decide_eq_false hx, ws, go_sem, yz0, Int.reduceLT, reduceLE, reduceToNat, reduceNeg, Nat.reduceLT, reduceLeDiff, reduceMul, reduceSub, reduceIte, reduceEqDiff, reduceAdd, reduceCtorEq]
        exact fun vs6 => ⟨by rw [hlm]; omega, (vs6 3 0, s + 1), by dsimp only; omega, by dsimp only; omega, by rw [hst, ← rws_snoc]; rfl⟩
    · obtain rfl : s = row.length := by omega
      have htl : (row.map chS).take row.length = row.map chS := List.take_of_length_le (by simp)
      simp only [Bz22, Bz4k, Bz8t, Bz8w, decide_eq_false hlts, wk, htl, go_sem, yz0, Int.reduceLT, reduceLE, reduceToNat, reduceNeg, Nat.reduceLT, reduceLeDiff, reduceMul, reduceSub, reduceIte, reduceEqDiff, reduceAdd, reduceCtorEq]
      exact fun vs5 => ⟨by rw [List.length_take]; omega, (vs5 4 0, true, k + 1), by dsimp only; omega, ⟨by dsimp only; omega, fun _ => rfl⟩, by rw [hct]⟩
  · obtain rfl : k = next.length := by omega
    obtain rfl : nn = true := hnn (by omega)
    have htl : (chOf next).take next.length = chOf next := List.take_of_length_le (by omega)
    simp only [Bz23, Bz4l, Bz8z, decide_eq_false hlt, htl, Az4m, ← hQ, go_sem, yz0, Int.reduceLT, reduceLE, reduceToNat, reduceNeg, Nat.reduceLT, reduceLeDiff, reduceMul, reduceSub, reduceIte, reduceEqDiff, reduceAdd, reduceCtorEq]
    refine ⟨[48], by simp, by simp, by simp, ?_⟩
    simp only [range1, List.length_singleton, renL_rww, Nat.not_lt_zero, range1, ren_val, ren_any, ren_ro, rnNm_n, rnNm_sn, rnNm_o, rnNm_s, ren_st, ren_tup, yzu, yzm, yz8, yzq, yzr, yzo, yzp, yzs, yza, yzc, yz9, yze, yzk, yzj, yz3, yzd, yz7, yz6, yzi, yzl, List.range_zero, yz5, yz4, yzb, yzt, yzf, yzv, AVal.fresh, freshL, yz1, yzh, AObj.fresh, id, Option.isSome_some, or_true, true_or, go_sem, yz0, Int.reduceLT, reduceLE, reduceToNat, reduceNeg, Nat.reduceLT, reduceLeDiff, reduceMul, reduceSub, reduceIte, reduceEqDiff, reduceAdd, reduceCtorEq]
    exact ⟨of_eq_true fresh_rww, _, rfl, rfl⟩
end Go.Ab
