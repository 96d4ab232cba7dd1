/- Contracts and what they lean on, part 8. Conditions: none. -/
import Derived.Test.YtjolahggbdnmbaaZ7
set_option maxRecDepth 100000
set_option maxHeartbeats 4000000
set_option linter.all false
open Nat (reduceLeDiff reduceMul reduceSub reduceEqDiff reduceAdd)
open Int (reduceToNat reduceNeg reduceLE)
namespace Go.Ab
open Go.Proofs
theorem DJ_perm {ps qs : List (Nat × List Int)} (h : ps.Perm qs) (hp : DJ ps) : DJ qs :=
  (h.pairwise_iff fun {x y} e => by
    rcases e with e | e | e
    · exact .inr (.inl e)
    · exact .inl e
    · exact .inr (.inr (Ne.symm e))).1 hp
theorem ints_put {xs : List Int} {i : Nat} {v : Int} : List.take i (ints xs) ++ [iv v] ++ List.drop (i + 1) (ints xs) = ints (xs.take i ++ [v] ++ xs.drop (i + 1)) := by
  simp only [List.map_append, List.map_take, List.map_drop, List.map_cons, List.map_nil]
theorem lput_len {xs : List Int} {i : Nat} {v : Int} (h : i < xs.length) : (xs.take i ++ [v] ++ xs.drop (i + 1)).length = xs.length := by
  simp only [List.length_append, List.length_take, List.length_drop, List.length_cons, List.length_nil]; omega
theorem lput_mem {xs : List Int} {i : Nat} {v : Int} {Q : Int → Prop} (h : ∀ x ∈ xs, Q x) (hv : Q v) : ∀ x ∈ xs.take i ++ [v] ++ xs.drop (i + 1), Q x := by
  intro x hx
  simp only [List.mem_append, List.mem_singleton] at hx
  rcases hx with (hx | rfl) | hx
  · exact h x (List.mem_of_mem_take hx)
  · exact hv
  · exact h x (List.mem_of_mem_drop hx)
theorem call_boxrow {P : Program} {σ : St} {g : FuncId} {As args : List AVal} {d : Nat} {s : Nat → Nat} {K : St → Prop} {r q v u : Nat} {cs : List AVal} {xs : List Int} {Q : List AVal → Value → Prop}
    (h : Con P g [.box 0 cs, .row 1 1 true (ints xs)] args true fun outs rows res => ∃ cs' x, Q cs' x ∧ flatL cs' ∧ outs = [.box 0 cs', .row 1 1 true (ints xs)] ∧ rows = [] ∧ res = .val x)
    (hr : σ.hp r = .box v cs) (hq : σ.hp q = .row u 1 true (ints xs)) (hne : [r, q].Nodup) (hcs : CoeL σ.hp [r, q] false cs cs) (ha : CoeL σ.hp [r, q] false args As)
    (hk : ∀ cs' x, Q cs' x → K (St.put ⟨σ.tm, upd (upd σ.hp r (.box v cs')) q (.row u 1 true (ints xs))⟩ (some d) (.val x))) : wpCall P false σ g As (some d) s K := by
  refine .inl ⟨[r, q], _, _, true, _, h, ⟨by simp, rfl, hne, ?_, ?_⟩, ha, (fun e => by cases e), ?_⟩
  · intro x hx
    simp only [List.mem_cons, List.not_mem_nil, or_false] at hx
    rcases hx with rfl | rfl
    · simp [hr]
    · simp [hq]
  · intro j B r' hB hr'
    match j, hB, hr' with
    | 0, hB, hr' =>
      simp at hB hr'; subst hB; subst hr'
      rw [hr]
      exact ⟨rfl, v, cs, rfl, hcs⟩
    | 1, hB, hr' =>
      simp at hB hr'; subst hB; subst hr'
      simp only [ObjCoe, hq]
      exact ⟨trivial, u, _, rfl, coeL_ints⟩
    | j + 2, hB, hr' => simp at hB
  · rintro outs rows res ⟨cs', x, hQ, hf, rfl, rfl, rfl⟩
    refine ⟨rfl, by simp, by simp, ?_⟩
    have s0 : sv σ.hp [r, q] s 0 = v := by simp [sv, hr, AObj.ver]
    have s1 : sv σ.hp [r, q] s 1 = u := by simp [sv, hq, AObj.ver]
    rw [Option.getD_some, callHp_h2 hne]
    simp only [yzs, yzr, renL_flat cs' hf, yz5, yzy, s0, s1]
    exact hk cs' x hQ
theorem k_among (code : List Int) (at_ seed : Int) (list : List Int) (hb : ∀ x ∈ code, 0 ≤ x ∧ x ≤ 255) (ha : 0 ≤ at_ ∧ at_ ≤ 1000000000000) (hl : list ≠ []) :
    Con Try.prog nz43 [.box 0 (srcC code at_ seed), .row 1 1 true (ints list)] [.ptr 5000 0 0, .own 5001 1] true fun outs rows res => ∃ cs' x, (∃ at' seed' b, cs' = srcC code at' seed' ∧ at_ ≤ at' ∧ at' ≤ at_ + 2 ∧ x = .int .i64 b ∧ b ∈ list) ∧ flatL cs' ∧
      outs = [.box 0 cs', .row 1 1 true (ints list)] ∧ rows = [] ∧ res = .val x := by
  refine con_sh mixed czkr rfl (by simp) ?_
  simp only [Bzfr, Azfs, go_sem, yz0, Int.reduceLT, reduceLE, reduceToNat, reduceNeg, Nat.reduceLT, reduceLeDiff, reduceMul, reduceSub, reduceIte, reduceEqDiff, reduceAdd, reduceCtorEq]
  intro vs hM
  refine call_funB (k_pick code at_ seed list.length hb ha) rfl qCS qCS ?_
  rintro cs' x ⟨a', s', b, rfl, h1, h2, rfl, h3, h4⟩
  have hpos : 0 < list.length := List.length_pos_iff.2 hl
  have hb2 : b.toNat < list.length := by omega
  simp only [yzg hb2, go_sem, yz0, Int.reduceLT, reduceLE, reduceToNat, reduceNeg, Nat.reduceLT, reduceLeDiff, reduceMul, reduceSub, reduceIte, reduceEqDiff, reduceAdd, reduceCtorEq]
  refine ⟨⟨h3, hb2⟩, hb2, [], by simp, by simp, by simp, ?_⟩
  simp only [Nat.not_lt_zero, range1, yzy, yz12, yz1d, yz1e, yz10, yz1f, yz1c, yz1b, yz11, yzv, yzj, yz5, yzw, yzt, yzr, yzs, yzx, yz6, yz7, yzb, yzd, yzm, yzi, yz4, yzc, yz8, yza, yzk, yzh, List.range_zero, yz2, yz3, yz9, yzu, yzn, yzq, AVal.fresh, freshL, yz1, yzl, AObj.fresh, id, Option.isSome_some, or_true, true_or, go_sem, yz0, Int.reduceLT, reduceLE, reduceToNat, reduceNeg, Nat.reduceLT, reduceLeDiff, reduceMul, reduceSub, reduceIte, reduceEqDiff, reduceAdd, reduceCtorEq]
  exact ⟨_, _, ⟨a', s', list.getD b.toNat 0, rfl, h1, h2, rfl, yzo hb2 0⟩, by simp [flatL, AVal.flat, flat_vals], rfl, rfl⟩
abbrev DrM (code : List Int) (at_ most : Int) (outs rows : List AObj) (res : AVal) : Prop :=
  ∃ n o ps qs v w a' s', Mach n o (ps.map (·.2)) (qs.map (·.2)) ∧ n ≤ most ∧ DJ (ps ++ qs) ∧ at_ ≤ a' ∧ a' ≤ at_ + 1000 ∧ outs = [.box 0 (srcC code a' s')] ∧ rows = [.row v 1 true (rwp ps), .row w 1 true (rwp qs)] ∧ res = .st [iv n, iv o, .own 6000 v, .own 6001 w]
theorem k_l06Draw (code : List Int) (at_ seed most : Int) (hb : ∀ x ∈ code, 0 ≤ x ∧ x ≤ 255) (ha : 0 ≤ at_ ∧ at_ ≤ 1000000) (hm : 1 ≤ most ∧ most ≤ 9) :
    Con Try.prog nz17 [.box 0 (srcC code at_ seed)] [.ptr 5000 0 0, iv most] true (DrM code at_ most) := by
  refine con_sh mixed czk7 rfl (by simp) ?_
  generalize hQ : finQ _ = Q
  have h7 : ∀ (σ : St) (v4 v5 : Nat) (a s n o l : Int), at_ ≤ a ∧ a ≤ at_ + 20 ∧ 1 ≤ n ∧ n ≤ most ∧ 1 ≤ o ∧ o ≤ 3 ∧ 1 ≤ l ∧ l ≤ 3 → σ.keep [0, 4, 5, 6] [4, 5, 75, 81, 5000, 5001] =
      ⟨L .any [(0, .ptr 5000 0 0), (4, .ptr 4 v4 0), (5, .ptr 5 v5 0), (6, iv l)], L .gone [(4, .box v4 [iv 0, iv 0, nilS, nilS]), (5, .box v5 [iv n, iv o, nilS, nilS]), (75, .gone), (81, .gone), (5000, .box 0 (srcC code a s)), (5001, .gone)]⟩ → wpD Try.prog Bz5s Q σ := by
    rintro σ v4 v5 a s n o l ⟨i1, i2, i3, i4, i5, i6, i7, i8⟩ hS
    unfold Bz5s
    rw [yzz, hS]
    simp only [go_sem, yz0, Int.reduceLT, reduceLE, reduceToNat, reduceNeg, Nat.reduceLT, reduceLeDiff, reduceMul, reduceSub, reduceIte, reduceEqDiff, reduceAdd, reduceCtorEq, yzz, yze]
    intro vs U hN
    simp only [Bzcd, yzz, yze, go_sem, yz0, Int.reduceLT, reduceLE, reduceToNat, reduceNeg, Nat.reduceLT, reduceLeDiff, reduceMul, reduceSub, reduceIte, reduceEqDiff, reduceAdd, reduceCtorEq]
    intro ver1 ver2
    refine wpD_lp (fun (_, _, _, _, _, _, _, ps, _) => l.toNat - List.length ps)
      (fun (_, _, _, n1, n2, a, _, ps, qs) => at_ ≤ a ∧ a ≤ at_ + 20 + 60 * List.length ps ∧ (List.length ps : Int) ≤ l ∧ List.length qs = List.length ps ∧ (ps ≠ [] → n1 = true ∧ n2 = true) ∧ DJ (ps ++ qs) ∧
        (∀ p ∈ ps, (List.length p.2 : Int) = n ∧ ∀ x ∈ p.2, 0 ≤ x ∧ x < n) ∧ ∀ p ∈ qs, (List.length p.2 : Int) = n ∧ ∀ x ∈ p.2, 0 ≤ x ∧ x < o)
      (fun ((v5, v75, v81, n1, n2, a, s, ps, qs) : Nat × Nat × Nat × Bool × Bool × Int × Int × List (Nat × List Int) × List (Nat × List Int)) =>
        ⟨L .any [(0, .ptr 5000 0 0), (4, .ptr 4 v4 0), (5, .ptr 5 v5 0), (6, iv l), (7, iv ps.length)],
         L .gone [(4, .box v4 [iv 0, iv 0, nilS, nilS]), (5, .box v5 [iv n, iv o, .own 75 v75, .own 81 v81]), (75, .row v75 1 n1 (rwp ps)), (81, .row v81 1 n2 (rwp qs)), (5000, .box 0 (srcC code a s)), (5001, .gone)]⟩)
      (v5, ver2, ver1, false, false, a, s, [], []) ⟨by omega, by simp; omega, by simp; omega, rfl, by simp, by simp [DJ], by simp, by simp⟩ (by simp only [Bz2f, go_sem, yz0, Int.reduceLT, reduceLE, reduceToNat, reduceNeg, Nat.reduceLT, reduceLeDiff, reduceMul, reduceSub, reduceIte, reduceEqDiff, reduceAdd, reduceCtorEq]; try rfl) ?_
    rintro ⟨v5, v75, v81, nn1, nn2, a, s, ps, qs⟩ ⟨j1, j2, j3, j4, j5, j6, j7, j8⟩
    have j1 : at_ ≤ a := j1
    have j2 : a ≤ at_ + 20 + 60 * ps.length := j2
    have j3 : (ps.length : Int) ≤ l := j3
    have j4 : qs.length = ps.length := j4
    by_cases hlt : (ps.length : Int) < l
    · have w7 : IntKind.i64.wrap ((ps.length : Int) + 1) = ((ps.length + 1 : Nat) : Int) := by rw [w64 (by omega)]; simp
      simp only [Bz2f, Bz5p, Bzcc, decide_eq_true hlt, yzz, yze, go_sem, yz0, Int.reduceLT, reduceLE, reduceToNat, reduceNeg, Nat.reduceLT, reduceLeDiff, reduceMul, reduceSub, reduceIte, reduceEqDiff, reduceAdd, reduceCtorEq]
      intro vs1 U1 hN1 vs2 U2 hN2
      simp only [Bzca, yzz, yze, go_sem, yz0, Int.reduceLT, reduceLE, reduceToNat, reduceNeg, Nat.reduceLT, reduceLeDiff, reduceMul, reduceSub, reduceIte, reduceEqDiff, reduceAdd, reduceCtorEq]
      intro vs3 U3 hN3
      simp only [Bzc9, yzz, yze, go_sem, yz0, Int.reduceLT, reduceLE, reduceToNat, reduceNeg, Nat.reduceLT, reduceLeDiff, reduceMul, reduceSub, reduceIte, reduceEqDiff, reduceAdd, reduceCtorEq]
      intro vs4 U4 hN4
      simp only [Bzc1, yzz, yze, go_sem, yz0, Int.reduceLT, reduceLE, reduceToNat, reduceNeg, Nat.reduceLT, reduceLeDiff, reduceMul, reduceSub, reduceIte, reduceEqDiff, reduceAdd, reduceCtorEq]
      refine wpD_lp (fun (_, _, _, _, row, _) => n.toNat - List.length row)
        (fun (_, _, a', _, row, outs) => a ≤ a' ∧ a' ≤ a + 4 * List.length row ∧ (List.length row : Int) ≤ n ∧ List.length outs = List.length row ∧ (∀ x ∈ row, 0 ≤ x ∧ x < n) ∧ ∀ x ∈ outs, 0 ≤ x ∧ x < o)
        (fun ((v33, v34, a, s, row, outs) : Nat × Nat × Int × Int × List Int × List Int) =>
          ⟨L .any [(0, .ptr 5000 0 0), (4, .ptr 4 v4 0), (5, .ptr 5 v5 0), (6, iv l), (7, iv ps.length), (8, .own 33 v33), (9, .own 34 v34), (10, iv row.length)],
           L .gone [(4, .box v4 [iv 0, iv 0, nilS, nilS]), (5, .box v5 [iv n, iv o, .own 75 v75, .own 81 v81]), (33, .row v33 1 true (ints row)), (34, .row v34 1 true (ints outs)), (47, .gone), (54, .gone), (75, .row v75 1 nn1 (rwp ps)), (81, .row v81 1 nn2 (rwp qs)), (5000, .box 0 (srcC code a s)), (5001, .gone)]⟩)
        (_, _, a, s, [], []) ⟨by omega, by simp, by simp; omega, rfl, by simp, by simp⟩ (by simp only [Bz2d, go_sem, yz0, Int.reduceLT, reduceLE, reduceToNat, reduceNeg, Nat.reduceLT, reduceLeDiff, reduceMul, reduceSub, reduceIte, reduceEqDiff, reduceAdd, reduceCtorEq]; try rfl) ?_
      rintro ⟨v33, v34, a', s', row, outs⟩ ⟨q1, q2, q3, q4, q5, q6⟩
      have q1 : a ≤ a' := q1
      have q2 : a' ≤ a + 4 * row.length := q2
      have q3 : (row.length : Int) ≤ n := q3
      have q4 : outs.length = row.length := q4
      by_cases hlt2 : (row.length : Int) < n
      · have w8 : IntKind.i64.wrap ((row.length : Int) + 1) = ((row.length + 1 : Nat) : Int) := by rw [w64 (by omega)]; simp
        simp only [Bz2d, Bz5q, Bzc0, decide_eq_true hlt2, yzz, yze, go_sem, yz0, Int.reduceLT, reduceLE, reduceToNat, reduceNeg, Nat.reduceLT, reduceLeDiff, reduceMul, reduceSub, reduceIte, reduceEqDiff, reduceAdd, reduceCtorEq]
        intro vs5 U5 hN5 vs6 U6 hN6
        refine call_funB (k_pick code a' s' n hb (by omega)) rfl qCS qCS ?_
        rintro cs' x ⟨a2, s2, to, rfl, f1, f2, rfl, f3, f4⟩
        simp only [Bzby, yzz, yze, go_sem, yz0, Int.reduceLT, reduceLE, reduceToNat, reduceNeg, Nat.reduceLT, reduceLeDiff, reduceMul, reduceSub, reduceIte, reduceEqDiff, reduceAdd, reduceCtorEq]
        refine ⟨⟨_, rfl, rfl⟩, by omega, ?_⟩
        intro vs7 U7 hN7
        refine call_funB (k_pick code a2 s2 o hb (by omega)) rfl qCS qCS ?_
        rintro cs' x ⟨a3, s3, to2, rfl, f5, f6, rfl, f7, f8⟩
        simp only [Bzbz, w8, yzz, yze, go_sem, yz0, Int.reduceLT, reduceLE, reduceToNat, reduceNeg, Nat.reduceLT, reduceLeDiff, reduceMul, reduceSub, reduceIte, reduceEqDiff, reduceAdd, reduceCtorEq]
        refine ⟨⟨_, rfl, rfl⟩, by omega, ?_⟩
        intro vs8 U8 hN8
        refine ⟨(vs6 6 0, vs7 6 0, a3, s3, row ++ [to], outs ++ [to2]), by dsimp only; rw [List.length_append, List.length_singleton]; omega, ⟨by dsimp only; omega, by dsimp only; rw [List.length_append, List.length_singleton]; omega, by dsimp only; rw [List.length_append, List.length_singleton]; omega, by dsimp only; rw [List.length_append, List.length_append, q4]; rfl, ?_, ?_⟩, ?_⟩
        · intro x hx
          rcases List.mem_append.1 hx with h | h
          · exact q5 x h
          · rw [List.mem_singleton.1 h]; omega
        · intro x hx
          rcases List.mem_append.1 hx with h | h
          · exact q6 x h
          · rw [List.mem_singleton.1 h]; omega
        · simp only [List.length_append, List.length_singleton]
      · have hrl : (row.length : Int) = n := by omega
        simp only [Bz2d, Bz5q, Bzc8, decide_eq_false hlt2, yzz, yze, go_sem, yz0, Int.reduceLT, reduceLE, reduceToNat, reduceNeg, Nat.reduceLT, reduceLeDiff, reduceMul, reduceSub, reduceIte, reduceEqDiff, reduceAdd, reduceCtorEq]
        intro vs5 U5 hN5 vs6 U6 hN6
        refine call_funB (k_one code a' s' 3 hb (by omega)) rfl qCS qCS ?_
        rintro cs' x ⟨a2, s2, b2, rfl, f1, f2, rfl⟩
        simp only [yzz, yze, go_sem, yz0, Int.reduceLT, reduceLE, reduceToNat, reduceNeg, Nat.reduceLT, reduceLeDiff, reduceMul, reduceSub, reduceIte, reduceEqDiff, reduceAdd, reduceCtorEq]
        refine wpD_cutq (b := Bzc7) rfl (fun (_, row2) => List.length row2 = row.length ∧ ∀ x ∈ row2, 0 ≤ x ∧ x < n)
          (fun ((v33, row2) : Nat × List Int) => ⟨L .any [(0, .ptr 5000 0 0), (4, .ptr 4 v4 0), (5, .ptr 5 v5 0), (6, iv l), (7, iv ps.length), (8, .own 33 v33), (9, .own 34 v34)],
           L .gone [(4, .box v4 [iv 0, iv 0, nilS, nilS]), (5, .box v5 [iv n, iv o, .own 75 v75, .own 81 v81]), (33, .row v33 1 true (ints row2)), (34, .row v34 1 true (ints outs)), (47, .gone), (54, .gone), (75, .row v75 1 nn1 (rwp ps)), (81, .row v81 1 nn2 (rwp qs)), (5000, .box 0 (srcC code a2 s2)), (5001, .gone)]⟩) ?_ ?_
        · simp only [Bzc5, yzz, yze, go_sem, yz0, Int.reduceLT, reduceLE, reduceToNat, reduceNeg, Nat.reduceLT, reduceLeDiff, reduceMul, reduceSub, reduceIte, reduceEqDiff, reduceAdd, reduceCtorEq]
          refine ⟨fun _ vs7 U7 hN7 => ?_, fun _ => ⟨(v33, row), ⟨rfl, q5⟩, rfl⟩⟩
          simp only [Bzc4, yzz, yze, go_sem, yz0, Int.reduceLT, reduceLE, reduceToNat, reduceNeg, Nat.reduceLT, reduceLeDiff, reduceMul, reduceSub, reduceIte, reduceEqDiff, reduceAdd, reduceCtorEq]
          refine wpD_lp (fun (_, _, x) => n.toNat - x) (fun (_, row2, x) => (x : Int) ≤ n ∧ List.length row2 = row.length ∧ ∀ x ∈ row2, 0 ≤ x ∧ x < n)
            (fun ((v33, row2, x) : Nat × List Int × Nat) => ⟨L .any [(0, .ptr 5000 0 0), (4, .ptr 4 v4 0), (5, .ptr 5 v5 0), (6, iv l), (7, iv ps.length), (8, .own 33 v33), (9, .own 34 v34), (11, iv x)],
             L .gone [(4, .box v4 [iv 0, iv 0, nilS, nilS]), (5, .box v5 [iv n, iv o, .own 75 v75, .own 81 v81]), (33, .row v33 1 true (ints row2)), (34, .row v34 1 true (ints outs)), (47, .gone), (54, .gone), (75, .row v75 1 nn1 (rwp ps)), (81, .row v81 1 nn2 (rwp qs)), (5000, .box 0 (srcC code a2 s2)), (5001, .gone)]⟩)
            (v33, row, 0) ⟨by omega, rfl, q5⟩ (by simp only [Bz2e, go_sem, yz0, Int.reduceLT, reduceLE, reduceToNat, reduceNeg, Nat.reduceLT, reduceLeDiff, reduceMul, reduceSub, reduceIte, reduceEqDiff, reduceAdd, reduceCtorEq]; try rfl) ?_
          rintro ⟨v33, row2, x⟩ ⟨e1, e2, e3⟩
          have e1 : (x : Int) ≤ n := e1
          have e2 : row2.length = row.length := e2
          by_cases hx : (x : Int) < n
          · have w9 : IntKind.i64.wrap ((x : Int) + 1) = ((x + 1 : Nat) : Int) := by rw [w64 (by omega)]; simp
            have hn0 : ¬ n = 0 := by omega
            have ht := tmod_in (a := ((x + 1 : Nat) : Int)) (n := n) (by omega) i3
            have hxl : x < row2.length := by omega
            simp only [Bz2e, Bz5r, Bzc3, Bzc2, decide_eq_true hx, w9, hn0, yzz, yze, go_sem, yz0, Int.reduceLT, reduceLE, reduceToNat, reduceNeg, Nat.reduceLT, reduceLeDiff, reduceMul, reduceSub, reduceIte, reduceEqDiff, reduceAdd, reduceCtorEq]
            intro vs8 U8 hN8 vs9 U9 hN9
            refine ⟨⟨by omega, hxl⟩, by omega, ?_⟩
            intro vs10 U10 hN10
            refine ⟨(v33, row2.take x ++ [((x + 1 : Nat) : Int).tmod n] ++ row2.drop (x + 1), x + 1), by dsimp only; omega, ⟨by dsimp only; omega, by dsimp only; rw [lput_len hxl]; exact e2, lput_mem e3 ht⟩, ?_⟩
            simp only [← ints_put]
          · simp only [Bz2e, Bz5r, decide_eq_false hx, yzz, yze, go_sem, yz0, Int.reduceLT, reduceLE, reduceToNat, reduceNeg, Nat.reduceLT, reduceLeDiff, reduceMul, reduceSub, reduceIte, reduceEqDiff, reduceAdd, reduceCtorEq]
            intro vs8 U8 hN8
            exact ⟨(v33, row2), ⟨e2, e3⟩, rfl⟩
        · rintro ⟨v33, row2⟩ ⟨e2, e3⟩
          have e2 : row2.length = row.length := e2
          simp only [wpD_gh]
          intro hD
          refine ⟨[], ?_⟩
          have hf : ∀ u, (L AObj.gone [(4, AObj.box v4 [iv 0, iv 0, nilS, nilS]), (5, AObj.box v5 [iv n, iv o, .own 75 v75, .own 81 v81]), (33, AObj.row v33 1 true (ints row2)), (34, AObj.row v34 1 true (ints outs)), (47, AObj.gone), (54, AObj.gone), (75, AObj.row v75 1 nn1 (rwp ps)), (81, AObj.row v81 1 nn2 (rwp qs)), (5000, AObj.box 0 (srcC code a2 s2)), (5001, AObj.gone)] 33).ver = some u ∨
              (L AObj.gone [(4, AObj.box v4 [iv 0, iv 0, nilS, nilS]), (5, AObj.box v5 [iv n, iv o, .own 75 v75, .own 81 v81]), (33, AObj.row v33 1 true (ints row2)), (34, AObj.row v34 1 true (ints outs)), (47, AObj.gone), (54, AObj.gone), (75, AObj.row v75 1 nn1 (rwp ps)), (81, AObj.row v81 1 nn2 (rwp qs)), (5000, AObj.box 0 (srcC code a2 s2)), (5001, AObj.gone)] 34).ver = some u → ∀ p ∈ ps ++ qs, p.2 = [] ∨ p.1 ≠ u := fun u hu p hp => by
            by_cases e : p.2 = []
            · exact .inl e
            · refine .inr ?_
              rcases List.mem_append.1 hp with hp | hp <;> rcases hu with hu | hu
              · exact hD 75 v75 1 nn1 (rwp ps) 33 u rfl hu p.1 1 (ints p.2) (List.mem_map.2 ⟨p, hp, rfl⟩) (by simpa using e)
              · exact hD 75 v75 1 nn1 (rwp ps) 34 u rfl hu p.1 1 (ints p.2) (List.mem_map.2 ⟨p, hp, rfl⟩) (by simpa using e)
              · exact hD 81 v81 1 nn2 (rwp qs) 33 u rfl hu p.1 1 (ints p.2) (List.mem_map.2 ⟨p, hp, rfl⟩) (by simpa using e)
              · exact hD 81 v81 1 nn2 (rwp qs) 34 u rfl hu p.1 1 (ints p.2) (List.mem_map.2 ⟨p, hp, rfl⟩) (by simpa using e)
          have hf1 := hf v33 (.inl rfl)
          have hf2 := hf v34 (.inr rfl)
          clear hf
          simp only [gwp_nil, yzz, yze, go_sem, yz0, Int.reduceLT, reduceLE, reduceToNat, reduceNeg, Nat.reduceLT, reduceLeDiff, reduceMul, reduceSub, reduceIte, reduceEqDiff, reduceAdd, reduceCtorEq]
          intro vs8 U8 hN8
          rw [rwp_len]
          refine ⟨by omega, ?_⟩
          simp only [Bzc6, rwp_snoc, yzz, wpD_gh, go_sem, yz0, Int.reduceLT, reduceLE, reduceToNat, reduceNeg, Nat.reduceLT, reduceLeDiff, reduceMul, reduceSub, reduceIte, reduceEqDiff, reduceAdd, reduceCtorEq]
          intro hD2
          refine ⟨[], ?_⟩
          have hf3 : row2 = [] ∨ v33 ≠ v34 := by
            by_cases e : row2 = []
            · exact .inl e
            · exact .inr (hD2 75 (vs8 4 0) 1 true (rwp (ps ++ [(v33, row2)])) 34 v34 rfl rfl v33 1 (ints row2) (List.mem_map.2 ⟨(v33, row2), by simp, rfl⟩) (by simpa using e))
          simp only [gwp_nil, yzz, yze, go_sem, yz0, Int.reduceLT, reduceLE, reduceToNat, reduceNeg, Nat.reduceLT, reduceLeDiff, reduceMul, reduceSub, reduceIte, reduceEqDiff, reduceAdd, reduceCtorEq]
          intro vs9 U9 hN9
          rw [rwp_len]
          refine ⟨by omega, ?_⟩
          simp only [Bzcb, rwp_snoc, w7, yzz, yze, go_sem, yz0, Int.reduceLT, reduceLE, reduceToNat, reduceNeg, Nat.reduceLT, reduceLeDiff, reduceMul, reduceSub, reduceIte, reduceEqDiff, reduceAdd, reduceCtorEq]
          intro vs10 U10 hN10
          refine ⟨(v5, vs8 4 0, vs9 4 0, true, true, a2, s2, ps ++ [(v33, row2)], qs ++ [(v34, outs)]), by dsimp only; rw [List.length_append, List.length_singleton]; omega, ⟨by dsimp only; omega, by dsimp only; rw [List.length_append, List.length_singleton]; omega, by dsimp only; rw [List.length_append, List.length_singleton]; omega, by dsimp only; rw [List.length_append, List.length_append, j4]; rfl, fun _ => ⟨rfl, rfl⟩, ?_, ?_, ?_⟩, ?_⟩
          · refine DJ_perm ?_ ((j6.snoc (n := v33) (xs := row2) hf1).snoc (n := v34) (xs := outs) fun p hp => ?_)
            · simp only [List.append_assoc]
              refine List.Perm.append_left _ ?_
              exact (List.perm_append_comm_assoc qs [(v33, row2)] [(v34, outs)])
            · rcases List.mem_append.1 hp with h | h
              · exact hf2 p h
              · rw [List.mem_singleton.1 h]; exact hf3
          · intro p hp
            rcases List.mem_append.1 hp with h | h
            · exact j7 p h
            · rw [List.mem_singleton.1 h]; exact ⟨by dsimp only; omega, e3⟩
          · intro p hp
            rcases List.mem_append.1 hp with h | h
            · exact j8 p h
            · rw [List.mem_singleton.1 h]; exact ⟨by dsimp only; omega, q6⟩
          · simp only [List.length_append, List.length_singleton]
    · have hlen : (ps.length : Int) = l := by omega
      have hnn := j5 (fun e => by subst e; simp at hlen; omega)
      obtain ⟨rfl, rfl⟩ := hnn
      simp only [Bz2f, Bz5p, Bzce, decide_eq_false hlt, yzz, yze, go_sem, yz0, Int.reduceLT, reduceLE, reduceToNat, reduceNeg, Nat.reduceLT, reduceLeDiff, reduceMul, reduceSub, reduceIte, reduceEqDiff, reduceAdd, reduceCtorEq]
      intro vs1 U1 hN1 vs2 U2 hN2
      simp only [← hQ, Az5u, go_sem, yz0, Int.reduceLT, reduceLE, reduceToNat, reduceNeg, Nat.reduceLT, reduceLeDiff, reduceMul, reduceSub, reduceIte, reduceEqDiff, reduceAdd, reduceCtorEq]
      refine ⟨[75, 81], by simp, by simp, by simp, ?_⟩
      simp only [range1, List.length_singleton, renL_rwp, Nat.not_lt_zero, range1, yzy, yz12, yz1d, yz1e, yz10, yz1f, yz1c, yz1b, yz11, yzv, yzj, yz5, yzw, yzt, yzr, yzs, yzx, yz6, yz7, yzb, yzd, yzm, yzi, yz4, yzc, yz8, yza, yzk, yzh, List.range_zero, yz2, yz3, yz9, yzu, yzn, yzq, AVal.fresh, freshL, yz1, yzl, AObj.fresh, id, Option.isSome_some, or_true, true_or, go_sem, yz0, Int.reduceLT, reduceLE, reduceToNat, reduceNeg, Nat.reduceLT, reduceLeDiff, reduceMul, reduceSub, reduceIte, reduceEqDiff, reduceAdd, reduceCtorEq]
      exact ⟨n, o, ps, qs, v75, v81, a, s, ⟨⟨i3, by omega, by rw [List.length_map]; omega, by rw [List.length_map]; omega, fun row hr => by obtain ⟨p, hp, rfl⟩ := List.mem_map.1 hr; exact j7 p hp⟩, i5, i6, by rw [List.length_map, List.length_map]; exact j4, fun row hr => by obtain ⟨p, hp, rfl⟩ := List.mem_map.1 hr; exact j8 p hp⟩, i4, j6, by omega, by omega, rfl, by simp, rfl⟩
  have h4 : ∀ (σ : St) (v4 v5 : Nat) (a s n o : Int), at_ ≤ a ∧ a ≤ at_ + 10 ∧ 1 ≤ n ∧ n ≤ most ∧ 1 ≤ o ∧ o ≤ 3 → σ.keep [0, 4, 5] [4, 5, 75, 81, 5000, 5001] =
      ⟨L .any [(0, .ptr 5000 0 0), (4, .ptr 4 v4 0), (5, .ptr 5 v5 0)], L .gone [(4, .box v4 [iv 0, iv 0, nilS, nilS]), (5, .box v5 [iv n, iv o, nilS, nilS]), (75, .gone), (81, .gone), (5000, .box 0 (srcC code a s)), (5001, .gone)]⟩ → wpD Try.prog Bz5t Q σ := by
    rintro σ v4 v5 a s n o ⟨i1, i2, i3, i4, i5, i6⟩ hS
    unfold Bz5t
    rw [yzz, hS]
    simp only [yzz, yze, go_sem, yz0, Int.reduceLT, reduceLE, reduceToNat, reduceNeg, Nat.reduceLT, reduceLeDiff, reduceMul, reduceSub, reduceIte, reduceEqDiff, reduceAdd, reduceCtorEq]
    intro vs U hN
    refine call_funB (k_pick code a s 2 hb (by omega)) rfl qCS qCS ?_
    rintro cs' x ⟨a1, s1, b1, rfl, h1, h2, rfl, h3, h4⟩
    have hw : IntKind.i64.wrap (1 + b1) = 1 + b1 := w64 (by omega)
    simp only [hw, Bzcf, yzz, yze, go_sem, yz0, Int.reduceLT, reduceLE, reduceToNat, reduceNeg, Nat.reduceLT, reduceLeDiff, reduceMul, reduceSub, reduceIte, reduceEqDiff, reduceAdd, reduceCtorEq]
    intro vs2 U2 hN2
    refine call_funB (k_one code a1 s1 8 hb (by omega)) rfl qCS qCS ?_
    rintro cs' x ⟨a2, s2, b2, rfl, g1, g2, rfl⟩
    simp only [Bzbx, yzz, yze, go_sem, yz0, Int.reduceLT, reduceLE, reduceToNat, reduceNeg, Nat.reduceLT, reduceLeDiff, reduceMul, reduceSub, reduceIte, reduceEqDiff, reduceAdd, reduceCtorEq]
    refine ⟨fun _ vs3 U3 hN3 => ?_, fun _ => ?_⟩
    · exact h7 _ v4 v5 a2 s2 n o 3 (by omega) (by simp only [go_sem, yz0, Int.reduceLT, reduceLE, reduceToNat, reduceNeg, Nat.reduceLT, reduceLeDiff, reduceMul, reduceSub, reduceIte, reduceEqDiff, reduceAdd, reduceCtorEq]; try rfl)
    · exact h7 _ v4 v5 a2 s2 n o (1 + b1) (by omega) (by simp only [go_sem, yz0, Int.reduceLT, reduceLE, reduceToNat, reduceNeg, Nat.reduceLT, reduceLeDiff, reduceMul, reduceSub, reduceIte, reduceEqDiff, reduceAdd, reduceCtorEq]; try rfl)
  simp only [Az5u, Bzch, yzz, yze, go_sem, yz0, Int.reduceLT, reduceLE, reduceToNat, reduceNeg, Nat.reduceLT, reduceLeDiff, reduceMul, reduceSub, reduceIte, reduceEqDiff, reduceAdd, reduceCtorEq]
  intro vs U hN vs1 U1 hN1
  refine call_funB (k_pick code at_ seed most hb (by omega)) rfl qCS qCS ?_
  rintro cs' x ⟨a1, s1, b1, rfl, h1, h2, rfl, h3, h4'⟩
  have hn1 : IntKind.i64.wrap (1 + b1) = 1 + b1 := w64 (by omega)
  simp only [hn1, Bzcg, yzz, yze, go_sem, yz0, Int.reduceLT, reduceLE, reduceToNat, reduceNeg, Nat.reduceLT, reduceLeDiff, reduceMul, reduceSub, reduceIte, reduceEqDiff, reduceAdd, reduceCtorEq]
  intro vs2 U2 hN2
  refine call_funB (k_one code a1 s1 6 hb (by omega)) rfl qCS qCS ?_
  rintro cs' x ⟨a2, s2, b2, rfl, g1, g2, rfl⟩
  simp only [Bzbw, yzz, yze, go_sem, yz0, Int.reduceLT, reduceLE, reduceToNat, reduceNeg, Nat.reduceLT, reduceLeDiff, reduceMul, reduceSub, reduceIte, reduceEqDiff, reduceAdd, reduceCtorEq]
  refine ⟨fun _ vs3 U3 hN3 => ?_, fun _ => ?_⟩
  · refine ⟨⟨⟨_, rfl, rfl⟩, _, rfl, rfl⟩, ?_⟩
    refine call_boxrow (r := 5000) (q := 20) (k_among code a2 s2 [1, 3] hb (by omega) (by simp)) rfl rfl (by decide) qCS (by simp only [yz18, coeL_nil, and_true, Coe]; exact ⟨⟨0, _, _, rfl, rfl, rfl, rfl, rfl⟩, 1, _, _, rfl, rfl, rfl, rfl, rfl⟩) ?_
    rintro cs' x ⟨a3, s3, b3, rfl, g3, g4, rfl, g5⟩
    have hb3 : b3 = 1 ∨ b3 = 3 := by simpa using g5
    simp only [go_sem, yz0, Int.reduceLT, reduceLE, reduceToNat, reduceNeg, Nat.reduceLT, reduceLeDiff, reduceMul, reduceSub, reduceIte, reduceEqDiff, reduceAdd, reduceCtorEq]
    exact h4 _ (vs 0 0) (vs1 5 0) a3 s3 (1 + b1) b3 (by omega) (by simp only [go_sem, yz0, Int.reduceLT, reduceLE, reduceToNat, reduceNeg, Nat.reduceLT, reduceLeDiff, reduceMul, reduceSub, reduceIte, reduceEqDiff, reduceAdd, reduceCtorEq]; try rfl)
  · exact h4 _ (vs 0 0) (vs1 5 0) a2 s2 (1 + b1) 2 (by omega) (by simp only [go_sem, yz0, Int.reduceLT, reduceLE, reduceToNat, reduceNeg, Nat.reduceLT, reduceLeDiff, reduceMul, reduceSub, reduceIte, reduceEqDiff, reduceAdd, reduceCtorEq]; try rfl)
end Go.Ab
namespace Go.Ab
open Go.Proofs
theorem rf_L {l : List (Nat × AVal)} {h : List (Nat × AObj)} {r i q v k k' ver : Nat} {nn nn' : Bool} {cs cs' : List AVal} (hr : L .gone h r = .row v k nn cs) (hqr : q ≠ r) :
    St.rf ⟨L .any l, L .gone h⟩ r i q ver k' nn' cs' = ⟨L .any l, L .gone ((r, .row v k nn (cs.set i (.ro (frNm nn' cs'.length ver) k' cs'))) :: (q, .gone) :: h)⟩ := by
  unfold St.rf
  congr 1
  funext x
  simp only [L]
  split
  · rw [hr]
  · split <;> rfl
theorem gwp_rf {gs : List GStep} {K : St → Prop} {l : List (Nat × AVal)} {h : List (Nat × AObj)} {r i q v k k' ver : Nat} {nn nn' : Bool} {cs cs' : List AVal} (hr : L .gone h r = .row v k nn cs)
    (hi : cs[i]? = some (.own q ver)) (hqr : q ≠ r) (hq : L .gone h q = .row ver k' nn' cs')
    (hk : (∀ n k'' cs'', AVal.ro (some (some (n + 1))) k'' cs'' ∈ cs → cs'' ≠ [] → n ≠ ver) → gwp gs K ⟨L .any l, L .gone ((r, .row v k nn (cs.set i (.ro (frNm nn' cs'.length ver) k' cs'))) :: (q, .gone) :: h)⟩) : gwp (.rf r i q :: gs) K ⟨L .any l, L .gone h⟩ :=
  ⟨v, k, nn, cs, ver, k', nn', cs', hr, hi, hqr, hq, fun hd => by rw [rf_L hr hqr]; exact hk hd⟩
theorem usesL_rwp2 {U : Nat → Prop} {X : AVal} {A C : List (Nat × List Int)} (h : usesL U (rwp A ++ X :: rwp C)) : ∀ p ∈ A ++ C, p.2 = [] ∨ U p.1 := by
  intro p hp
  rcases List.mem_append.1 hp with hp | hp
  · exact usesL_rwp h p hp
  · have h2 : ∀ (l : List AVal), usesL U (l ++ X :: rwp C) → usesL U (rwp C) := by
      intro l
      induction l with
      | nil => intro h; simp only [List.nil_append, usesL] at h; exact h.2
      | cons y l ih => intro h; simp only [List.cons_append, usesL] at h; exact ih h.2
    exact usesL_rwp (rest := []) (by rw [List.append_nil]; exact h2 _ h) p hp
theorem woL_set {A C : List (Nat × List Int)} {b : Nat × List Int} {X : AVal} (h : ∀ p ∈ A ++ C, p.2 = [] ∨ p.1 ≠ b.1) : (woL b.1 (rwp (A ++ b :: C))).set A.length X = rwp A ++ X :: rwp C := by
  have e : rwp (A ++ b :: C) = rwp A ++ (.ro (some (some (b.1 + 1))) 1 (ints b.2)) :: rwp C := by simp [rwp]
  have hl : (rwp A).length = A.length := rwp_len
  have hA := woL_rwp (n := b.1) (ps := A) fun p hp => h p (List.mem_append.2 (.inl hp))
  have hC := woL_rwp (n := b.1) (ps := C) fun p hp => h p (List.mem_append.2 (.inr hp))
  have happ : ∀ l l' : List AVal, woL b.1 (l ++ l') = woL b.1 l ++ woL b.1 l' := by
    intro l l'
    simp only [woL_eq, List.map_append]
  rw [e, happ, hA, woL_cons, hC, List.set_append_right _ _ (by omega), hl, Nat.sub_self]
  rfl
theorem own_at {A C : List (Nat × List Int)} {X : AVal} {i : Nat} (h : i = A.length) : (rwp A ++ X :: rwp C).getD i .any = X := by
  subst h
  rw [List.getD_eq_getElem?_getD, List.getElem?_append_right (by rw [rwp_len]; exact Nat.le_refl _), rwp_len]; simp
theorem own_put {A C : List (Nat × List Int)} {X Y : AVal} {i : Nat} (h : i = A.length) : (rwp A ++ X :: rwp C).take i ++ [Y] ++ (rwp A ++ X :: rwp C).drop (i + 1) = rwp A ++ Y :: rwp C := by
  subst h
  have hl : (rwp A).length = A.length := rwp_len
  rw [← hl, List.take_left, List.drop_append]
  simp
theorem DJ_out {X Y : List (Nat × List Int)} {b : Nat × List Int} (h : DJ (X ++ b :: Y)) (hb : b.2 ≠ []) : ∀ p ∈ X ++ Y, p.2 = [] ∨ p.1 ≠ b.1 := by
  intro p hp
  rcases (List.pairwise_cons.1 (DJ_perm List.perm_middle h)).1 p hp with e | e | e
  · exact absurd e hb
  · exact .inl e
  · exact .inr (Ne.symm e)
theorem DJ_in {X Y : List (Nat × List Int)} {b : Nat × List Int} {u : Nat} {r : List Int} (h : DJ (X ++ b :: Y)) (hu : ∀ p ∈ X ++ Y, p.2 = [] ∨ p.1 ≠ u) : DJ (X ++ (u, r) :: Y) :=
  DJ_perm List.perm_middle.symm (List.pairwise_cons.2 ⟨fun p hp => by
    rcases hu p hp with e | e
    · exact .inr (.inl e)
    · exact .inr (.inr (Ne.symm e)), (List.pairwise_cons.1 (DJ_perm List.perm_middle h)).2⟩)
theorem rwp_get {A C : List (Nat × List Int)} {b : Nat × List Int} {i : Nat} (h : i = A.length) : (rwp (A ++ b :: C))[i]? = some (.ro (some (some (b.1 + 1))) 1 (ints b.2)) := by
  subst h
  rw [rwp, List.map_append, List.getElem?_append_right (by simp)]
  simp
theorem own_get {A C : List (Nat × List Int)} {X : AVal} {i : Nat} (h : i = A.length) : (rwp A ++ X :: rwp C)[i]? = some X := by
  subst h
  rw [List.getElem?_append_right (by rw [rwp_len]; exact Nat.le_refl _), rwp_len]; simp
theorem rwp_at {A C : List (Nat × List Int)} {b : Nat × List Int} {i : Nat} (h : i = A.length) : (rwp (A ++ b :: C)).getD i .any = .ro (some (some (b.1 + 1))) 1 (ints b.2) := by
  subst h
  rw [List.getD_eq_getElem?_getD, rwp, List.map_append, List.getElem?_append_right (by simp)]
  simp
theorem rwp_cat {A C : List (Nat × List Int)} {u : Nat} {xs : List Int} : rwp A ++ (.ro (some (some (u + 1))) 1 (ints xs)) :: rwp C = rwp (A ++ (u, xs) :: C) := by simp [rwp]
theorem callHp_mrr {hp : Nat → AObj} {r d : Nat} {s : Nat → Nat} {o o1 o2 : AObj} (hne : d ≠ r) (hne2 : d + 1000 ≠ r) :
    callHp hp [r] d s [o] [o1, o2] = upd (upd (upd hp r (o.ren (rid [r] d 2) (sv hp [r] s))) d (o1.ren (rid [r] d 2) (sv hp [r] s))) (d + 1000) (o2.ren (rid [r] d 2) (sv hp [r] s)) := by
  have hnew : ∀ i, i < [o1, o2].length → newId d i ∉ [r] := by
    intro i hi
    have : i = 0 ∨ i = 1 := by simp at hi; omega
    rcases this with rfl | rfl
    · simpa [newId] using hne
    · simpa [newId] using hne2
  funext n
  by_cases h : n = d + 1000
  · have h1 : rid [r] d [o1, o2].length 6001 = some n := by rw [h]; exact rid1
    rw [callHp_at (by simp) hnew h1]
    simp [upd, h, outHp]
  · by_cases h2 : n = d
    · have h1 : rid [r] d [o1, o2].length 6000 = some n := by rw [h2]; exact rid0
      rw [callHp_at (by simp) hnew h1]
      have hne3 : d ≠ d + 1000 := by omega
      simp [upd, h2, outHp, hne3]
    · by_cases h' : n = r
      · have h1 : rid [r] d [o1, o2].length 5000 = some n := by rw [h']; exact rid_m (j := 0) (by omega) rfl
        rw [callHp_at (by simp) hnew h1]
        simp [upd, h', outHp, Ne.symm hne, Ne.symm hne2]
      · rw [callHp_not]
        · simp [upd, h, h2, h']
        · rintro ⟨q, hq⟩
          rcases rid_cases hq with ⟨j, rfl, _, h1⟩ | ⟨i, rfl, h1, h3⟩
          · cases j with
            | zero => simp at h1; exact h' h1.symm
            | succ j => simp at h1
          · have : i = 0 ∨ i = 1 := by simp at h1; omega
            rcases this with rfl | rfl
            · exact h2 (by simpa [newId] using h3)
            · exact h (by simpa [newId] using h3)
theorem sv_inj {hp : Nat → AObj} {r v : Nat} {s : Nat → Nat} {cs : List AVal} (hr : hp r = .box v cs) (hs : ∀ x y, s x = s y → x = y) (hv : ∀ y, s y ≠ v) : ∀ x y, sv hp [r] s x = sv hp [r] s y → x = y := by
  intro x y e
  rcases Nat.eq_zero_or_pos x with rfl | hx <;> rcases Nat.eq_zero_or_pos y with rfl | hy
  · rfl
  · rw [sv_m hr, sv_new hy] at e; exact absurd e.symm (hv y)
  · rw [sv_new hx, sv_m hr] at e; exact absurd e (hv x)
  · rw [sv_new hx, sv_new hy] at e; exact hs _ _ e
structure TwI (n m : Int) (A B : List (Nat × List Int)) (top : Int) (low : Int) : Prop where
  a : ∀ p ∈ A, (p.2.length : Int) = m ∧ ∀ x ∈ p.2, 0 ≤ x ∧ x < top
  b : ∀ p ∈ B, (p.2.length : Int) = n ∧ ∀ x ∈ p.2, 0 ≤ x ∧ x < low
theorem k_l06Twin (code : List Int) (at_ seed : Int) (hb : ∀ x ∈ code, 0 ≤ x ∧ x ≤ 255) (ha : 0 ≤ at_ ∧ at_ ≤ 1000000) :
    Con Try.prog nz3t [.box 0 (srcC code at_ seed)] [.ptr 5000 0 0] true fun outs rows res =>
      ∃ n o ps qs v w a' s', Mach n o (ps.map (·.2)) (qs.map (·.2)) ∧ n ≤ 5 ∧ at_ ≤ a' ∧ a' ≤ at_ + 2000 ∧ outs = [.box 0 (srcC code a' s')] ∧ rows = [.row v 1 true (rwp ps), .row w 1 true (rwp qs)] ∧ res = .st [iv n, iv o, .own 6000 v, .own 6001 w] := by
  refine con_sh mixed czk6 rfl (by simp) ?_
  generalize hQ : finQ _ = Q
  simp only [Az5o, Bzbv, yzz, yze, go_sem, yz0, Int.reduceLT, reduceLE, reduceToNat, reduceNeg, Nat.reduceLT, reduceLeDiff, reduceMul, reduceSub, reduceIte, reduceEqDiff, reduceAdd, reduceCtorEq]
  intro vs0 U0 hN0 vs1 U1 hN1
  refine call_con (r := 5000) (k_l06Draw code at_ seed 4 hb ha (by omega)) rfl (by simp only [Bool.not_true, rowIs, boxIs, coe_argN, yz1a, coe_ro_o, coeL_nil, yz18, coe_any, coe_val, coe_ro, yz16, yz17, coe_st, yz15, coe_rp, yz14, coe_clo, coe_own0, coe_ptr0, yz13, coeL_rws, coeL_rwn, L_hit, L_miss, L_nil, reduceEqDiff, ne_eq, reduceCtorEq, not_false_eq_true, true_and, and_true, and_self, exists_eq_left, exists_eq_right, List.mem_cons, List.not_mem_nil, or_false, AObj.row.injEq, AObj.box.injEq, exists_eq_left', exists_and_left, exists_eq, Nat.zero_lt_one, Nat.lt_add_one, List.map_cons, List.map_nil, AObj.ver, Nat.reduceLT, not_true_eq_false]) (by simp only [Bool.not_true, rowIs, boxIs, coe_argN, yz1a, coe_ro_o, coeL_nil, yz18, coe_any, coe_val, coe_ro, yz16, yz17, coe_st, yz15, coe_rp, yz14, coe_clo, coe_own0, coe_ptr0, yz13, coeL_rws, coeL_rwn, L_hit, L_miss, L_nil, reduceEqDiff, ne_eq, reduceCtorEq, not_false_eq_true, true_and, and_true, and_self, exists_eq_left, exists_eq_right, List.mem_cons, List.not_mem_nil, or_false, AObj.row.injEq, AObj.box.injEq, exists_eq_left', exists_and_left, exists_eq, Nat.zero_lt_one, Nat.lt_add_one, List.map_cons, List.map_nil, AObj.ver, Nat.reduceLT, not_true_eq_false]) ?_
  rintro outs rows res ⟨n, o, ps, qs, v, w, a', s', M, hn4, hd, ha1, ha2, rfl, rfl, rfl⟩
  refine ⟨rfl, by simp, by intro i hi; simp only [List.length_cons, List.length_nil] at hi; rcases (show i = 0 ∨ i = 1 by omega) with rfl | rfl <;> simp [newId, L], ?_⟩
  rw [Option.getD_some, callHp_mrr (by omega) (by omega)]
  have hv0 : ∀ y, vs1 1 y ≠ 0 := fun y e => by
    have h := hN1.hp 5000
    simp only [AObj.uses, go_sem, yz0, Int.reduceLT, reduceLE, reduceToNat, reduceNeg, Nat.reduceLT, reduceLeDiff, reduceMul, reduceSub, reduceIte, reduceEqDiff, reduceAdd, reduceCtorEq] at h
    exact hN1.new 1 y (by rw [e]; exact h.1)
  have hsi := sv_inj (hp := L .gone [(2, .box (vs0 0 0) [iv 0, iv 0, nilS, nilS]), (3, .gone), (8, .gone), (37, .gone), (56, .gone), (1008, .gone), (5000, .box 0 (srcC code at_ seed)), (901, .gone)]) (r := 5000) rfl (fun x y e => (hN1.inj _ _ _ _ e).2) hv0
  have hs0 : sv (L .gone [(2, .box (vs0 0 0) [iv 0, iv 0, nilS, nilS]), (3, .gone), (8, .gone), (37, .gone), (56, .gone), (1008, .gone), (5000, .box 0 (srcC code at_ seed)), (901, .gone)]) [5000] (vs1 1) 0 = 0 := sv_m rfl
  have hd2 := hd.ren hsi
  rw [List.map_append] at hd2
  have M2 : Mach n o ((ps.map fun p => (sv (L .gone [(2, .box (vs0 0 0) [iv 0, iv 0, nilS, nilS]), (3, .gone), (8, .gone), (37, .gone), (56, .gone), (1008, .gone), (5000, .box 0 (srcC code at_ seed)), (901, .gone)]) [5000] (vs1 1) p.1, p.2)).map (·.2)) ((qs.map fun p => (sv (L .gone [(2, .box (vs0 0 0) [iv 0, iv 0, nilS, nilS]), (3, .gone), (8, .gone), (37, .gone), (56, .gone), (1008, .gone), (5000, .box 0 (srcC code at_ seed)), (901, .gone)]) [5000] (vs1 1) p.1, p.2)).map (·.2)) := by
    rw [List.map_map, List.map_map]; exact M
  simp only [renL_rwp, Nat.not_lt_zero, range1, yzy, yz12, yz1d, yz1e, yz10, yz1f, yz1c, yz1b, yz11, yzv, yzj, yz5, yzw, yzt, yzr, yzs, yzx, yz6, yz7, yzb, yzd, yzm, yzi, yz4, yzc, yz8, yza, yzk, yzh, List.range_zero, yz2, yz3, yz9, yzu, yzn, yzq, AVal.fresh, freshL, yz1, yzl, AObj.fresh, id, Option.isSome_some, or_true, true_or, go_sem, yz0, Int.reduceLT, reduceLE, reduceToNat, reduceNeg, Nat.reduceLT, reduceLeDiff, reduceMul, reduceSub, reduceIte, reduceEqDiff, reduceAdd, reduceCtorEq]
  generalize sv (L .gone [(2, .box (vs0 0 0) [iv 0, iv 0, nilS, nilS]), (3, .gone), (8, .gone), (37, .gone), (56, .gone), (1008, .gone), (5000, .box 0 (srcC code at_ seed)), (901, .gone)]) [5000] (vs1 1) = sg at hsi hs0 hd2 M2 ⊢
  rw [hs0]
  generalize (ps.map fun p => (sg p.1, p.2)) = ps2 at hd2 M2 ⊢
  generalize (qs.map fun p => (sg p.1, p.2)) = qs2 at hd2 M2 ⊢
  generalize sg v = v8
  generalize sg w = v1008
  clear hsi hd M hs0
  have n1 := M2.aut.n1
  simp only [Bzbu, yzz, yze, go_sem, yz0, Int.reduceLT, reduceLE, reduceToNat, reduceNeg, Nat.reduceLT, reduceLeDiff, reduceMul, reduceSub, reduceIte, reduceEqDiff, reduceAdd, reduceCtorEq]
  intro vs2 U2 hN2
  refine call_funB (k_pick code a' s' n hb (by omega)) rfl qCS qCS ?_
  rintro cs' x ⟨a2, s2, at0, rfl, f1, f2, rfl, f3, f4⟩
  have f5 : at0 < n := by omega
  simp only [Bzbt, yzz, yze, go_sem, yz0, Int.reduceLT, reduceLE, reduceToNat, reduceNeg, Nat.reduceLT, reduceLeDiff, reduceMul, reduceSub, reduceIte, reduceEqDiff, reduceAdd, reduceCtorEq]
  intro vs3 U3 hN3
  have hl3 := M2.aut.l2
  have hlen := M2.len
  have hr1 := M2.aut.row
  have hr2 := M2.row
  have o1 := M2.o1
  have o2 := M2.o2
  have hl1 := M2.aut.l1
  rw [List.length_map] at hl3 hl1
  rw [List.length_map, List.length_map] at hlen
  simp only [Bzbq, yzz, yze, go_sem, yz0, Int.reduceLT, reduceLE, reduceToNat, reduceNeg, Nat.reduceLT, reduceLeDiff, reduceMul, reduceSub, reduceIte, reduceEqDiff, reduceAdd, reduceCtorEq]
  refine wpD_lp (fun (_, _, _, _, _, _, B, _, _) => List.length B)
    (fun (_, _, _, a, _, A, B, A2, B2) => a2 ≤ a ∧ a ≤ a2 + 20 * List.length A ∧ List.length A + List.length B = ps2.length ∧ List.length A2 = List.length A ∧ List.length B2 = List.length B ∧ DJ ((A ++ B) ++ (A2 ++ B2)) ∧ TwI n (n + 1) A B (n + 1) n ∧ TwI n (n + 1) A2 B2 o o)
    (fun ((v3, v8, v1008, a, s, A, B, A2, B2) : Nat × Nat × Nat × Int × Int × List (Nat × List Int) × List (Nat × List Int) × List (Nat × List Int) × List (Nat × List Int)) =>
      ⟨L .any [(0, .ptr 5000 0 0), (2, .ptr 2 (vs0 0 0) 0), (3, .ptr 3 v3 0), (4, iv at0), (5, iv A.length)],
       L .gone [(2, .box (vs0 0 0) [iv 0, iv 0, nilS, nilS]), (3, .box v3 [iv n, iv o, .own 8 v8, .own 1008 v1008]), (8, .row v8 1 true (rwp (A ++ B))), (37, .gone), (56, .gone), (1008, .row v1008 1 true (rwp (A2 ++ B2))), (5000, .box 0 (srcC code a s)), (901, .gone)]⟩)
    (vs1 2 0, v8, v1008, a2, s2, [], ps2, [], qs2) ⟨by omega, by simp, by simp, rfl, by omega, by simpa using hd2, ⟨by simp, fun p hp => hr1 _ (List.mem_map_of_mem hp)⟩, ⟨by simp, fun p hp => hr2 _ (List.mem_map_of_mem hp)⟩⟩ (by simp only [Bz2c, List.nil_append, go_sem, yz0, Int.reduceLT, reduceLE, reduceToNat, reduceNeg, Nat.reduceLT, reduceLeDiff, reduceMul, reduceSub, reduceIte, reduceEqDiff, reduceAdd, reduceCtorEq]; try rfl) ?_
  rintro ⟨v3, v8, v1008, a, s, A, B, A2, B2⟩ ⟨j1, j2, j3, j4, j5, j6, j7, j8⟩
  have j1 : a2 ≤ a := j1
  have j2 : a ≤ a2 + 20 * A.length := j2
  have j3 : A.length + B.length = ps2.length := j3
  have j4 : A2.length = A.length := j4
  have j5 : B2.length = B.length := j5
  have hll : (rwp (A ++ B)).length = A.length + B.length := by rw [rwp_len, List.length_append]
  cases B with
  | nil =>
    have hB2 : B2 = [] := by simpa using j5
    subst hB2
    have hlt : ¬ ((A.length : Int) < ((rwp A).length : Int)) := by rw [rwp_len]; omega
    have wn : IntKind.i64.wrap (n + 1) = n + 1 := w64 (by omega)
    simp only [Bz2c, Bz5m, Bzbs, decide_eq_false hlt, yzz, yze, go_sem, yz0, Int.reduceLT, reduceLE, reduceToNat, reduceNeg, Nat.reduceLT, reduceLeDiff, reduceMul, reduceSub, reduceIte, reduceEqDiff, reduceAdd, reduceCtorEq]
    intro vs4 U4 hN4 hM vs5 U5 hN5
    simp only [Bzbr, wn, List.append_nil, yzz, yze, go_sem, yz0, Int.reduceLT, reduceLE, reduceToNat, reduceNeg, Nat.reduceLT, reduceLeDiff, reduceMul, reduceSub, reduceIte, reduceEqDiff, reduceAdd, reduceCtorEq]
    intro vs6 U6 hN6
    simp only [← hQ, Az5o, go_sem, yz0, Int.reduceLT, reduceLE, reduceToNat, reduceNeg, Nat.reduceLT, reduceLeDiff, reduceMul, reduceSub, reduceIte, reduceEqDiff, reduceAdd, reduceCtorEq]
    refine ⟨[8, 1008], by simp, by simp, by simp, ?_⟩
    simp only [range1, List.length_singleton, renL_rwp, Nat.not_lt_zero, range1, yzy, yz12, yz1d, yz1e, yz10, yz1f, yz1c, yz1b, yz11, yzv, yzj, yz5, yzw, yzt, yzr, yzs, yzx, yz6, yz7, yzb, yzd, yzm, yzi, yz4, yzc, yz8, yza, yzk, yzh, List.range_zero, yz2, yz3, yz9, yzu, yzn, yzq, AVal.fresh, freshL, yz1, yzl, AObj.fresh, id, Option.isSome_some, or_true, true_or, go_sem, yz0, Int.reduceLT, reduceLE, reduceToNat, reduceNeg, Nat.reduceLT, reduceLeDiff, reduceMul, reduceSub, reduceIte, reduceEqDiff, reduceAdd, reduceCtorEq]
    have j3 : A.length = ps2.length := by simpa using j3
    refine ⟨n + 1, o, A, A2, v8, v1008, a, s, ⟨⟨by omega, by omega, by rw [List.length_map]; omega, by rw [List.length_map]; omega, fun row hr => by obtain ⟨p, hp, rfl⟩ := List.mem_map.1 hr; exact j7.a p hp⟩, o1, o2, by rw [List.length_map, List.length_map]; exact j4, fun row hr => by obtain ⟨p, hp, rfl⟩ := List.mem_map.1 hr; exact j8.a p hp⟩, by omega, by omega, by omega, rfl, by simp, rfl⟩
  | cons b C =>
    cases B2 with
    | nil => simp at j5
    | cons b2 C2 =>
      have hlt : (A.length : Int) < ((rwp (A ++ b :: C)).length : Int) := by rw [hll]; simp; omega
      have hlt1 : A.length < (rwp (A ++ b :: C)).length := by omega
      have hlt2 : A.length < (rwp (A2 ++ b2 :: C2)).length := by rw [rwp_len, List.length_append, j4]; simp
      have hbl := j7.b b (by simp)
      have hbl2 := j8.b b2 (by simp)
      have hat : at0.toNat < b.2.length := by omega
      have hat2 : at0.toNat < b2.2.length := by omega
      have w5 : IntKind.i64.wrap ((A.length : Int) + 1) = ((A.length + 1 : Nat) : Int) := by rw [w64 (by omega)]; simp
      have g1 : (rwp (A ++ b :: C)).getD A.length .any = .ro (some (some (b.1 + 1))) 1 (ints b.2) := rwp_at rfl
      have g2 : (rwp (A2 ++ b2 :: C2)).getD A.length .any = .ro (some (some (b2.1 + 1))) 1 (ints b2.2) := rwp_at j4.symm
      have hbn : b.2 ≠ [] := fun e => by rw [e] at hbl; simp at hbl; omega
      have hbn2 : b2.2 ≠ [] := fun e => by rw [e] at hbl2; simp at hbl2; omega
      have D0 : DJ (A ++ b :: (C ++ (A2 ++ b2 :: C2))) := by have h : DJ ((A ++ b :: C) ++ (A2 ++ b2 :: C2)) := j6; rwa [List.append_assoc, List.cons_append] at h
      have F0 := DJ_out D0 hbn
      have F0a : ∀ p ∈ A ++ C, p.2 = [] ∨ p.1 ≠ b.1 := fun p hp => F0 p (by simp only [List.mem_append, List.mem_cons] at hp ⊢; rcases hp with h | h <;> simp [h])
      have F0b : ∀ p ∈ A2 ++ b2 :: C2, p.2 = [] ∨ p.1 ≠ b.1 := fun p hp => F0 p (by simp only [List.mem_append] at hp ⊢; exact .inr (.inr hp))
      simp only [Bz2c, Bz5m, decide_eq_true hlt, yzz, yze, go_sem, yz0, Int.reduceLT, reduceLE, reduceToNat, reduceNeg, Nat.reduceLT, reduceLeDiff, reduceMul, reduceSub, reduceIte, reduceEqDiff, reduceAdd, reduceCtorEq]
      intro vs4 U4 hN4 hM
      simp only [Bzbp, yzz, wpD_gh, go_sem, yz0, Int.reduceLT, reduceLE, reduceToNat, reduceNeg, Nat.reduceLT, reduceLeDiff, reduceMul, reduceSub, reduceIte, reduceEqDiff, reduceAdd, reduceCtorEq]
      intro _
      refine ⟨[.thaw 8 A.length 901], gwp_thaw (n := b.1) rfl (rwp_get rfl) (by simpa using hbn) rfl fun m7 => ?_⟩
      have hx0 := hbl.2 _ (yzo hat 0)
      have hx2 := hbl2.2 _ (yzo hat2 0)
      have ho1 : (rwp A ++ .own 901 m7 :: rwp C).getD A.length .any = .own 901 m7 := own_at rfl
      have hol : (rwp A ++ AVal.own 901 m7 :: rwp C).length = A.length + (C.length + 1) := by rw [List.length_append, List.length_cons, rwp_len, rwp_len]
      simp only [woL_set F0a, woL_rwp F0b, woT, woO, woL_cons, woL_nil, woV_val, woV_own, wo_ptr, wo_o, woL_ints, wo_st, woO_row, woO_box, woO_gone, wo_any, gwp_nil, yzz, yze, go_sem, yz0, Int.reduceLT, reduceLE, reduceToNat, reduceNeg, Nat.reduceLT, reduceLeDiff, reduceMul, reduceSub, reduceIte, reduceEqDiff, reduceAdd, reduceCtorEq]
      intro vs5 U5 hN5
      simp only [ho1, yzg hat, own_put rfl, go_sem, yz0, Int.reduceLT, reduceLE, reduceToNat, reduceNeg, Nat.reduceLT, reduceLeDiff, reduceMul, reduceSub, reduceIte, reduceEqDiff, reduceAdd, reduceCtorEq]
      have hAl : A.length < (rwp A ++ AVal.own 901 m7 :: rwp C).length := by omega
      refine ⟨⟨by omega, hAl⟩, hAl, ⟨by omega, hAl⟩, hAl, ⟨f3, hat⟩, hat, ⟨_, rfl, rfl⟩, by omega, ⟨by omega, hAl⟩, by omega, ?_⟩
      have hU8 := hN5.hp 8
      have hU18 := hN5.hp 1008
      simp only [AObj.uses, go_sem, yz0, Int.reduceLT, reduceLE, reduceToNat, reduceNeg, Nat.reduceLT, reduceLeDiff, reduceMul, reduceSub, reduceIte, reduceEqDiff, reduceAdd, reduceCtorEq] at hU8 hU18
      have hold8 := usesL_rwp2 hU8.2
      have hold18 := usesL_rwp (rest := []) (by rw [List.append_nil]; exact hU18.2)
      have hnew1 : ∀ p ∈ A ++ (C ++ (A2 ++ b2 :: C2)), p.2 = [] ∨ p.1 ≠ vs5 17 0 := fun p hp => by
        have : p.2 = [] ∨ U5 p.1 := by
          rw [← List.append_assoc] at hp
          rcases List.mem_append.1 hp with h | h
          · exact hold8 p h
          · exact hold18 p h
        rcases this with h | h
        · exact .inl h
        · exact .inr fun e => hN5.new 17 0 (e ▸ h)
      have D1 := DJ_in (r := b.2 ++ [b.2.getD at0.toNat 0]) D0 hnew1
      have D1' : DJ ((A ++ (vs5 17 0, b.2 ++ [b.2.getD at0.toNat 0]) :: C ++ A2) ++ b2 :: C2) := by
        have e : A ++ (vs5 17 0, b.2 ++ [b.2.getD at0.toNat 0]) :: (C ++ (A2 ++ b2 :: C2)) = (A ++ (vs5 17 0, b.2 ++ [b.2.getD at0.toNat 0]) :: C ++ A2) ++ b2 :: C2 := by simp
        rw [← e]; exact D1
      have F1 := DJ_out D1' hbn2
      have F1a : ∀ p ∈ A ++ (vs5 17 0, b.2 ++ [b.2.getD at0.toNat 0]) :: C, p.2 = [] ∨ p.1 ≠ b2.1 := fun p hp => F1 p (by rw [List.append_assoc]; exact List.mem_append.2 (.inl hp))
      have F1b : ∀ p ∈ A2 ++ C2, p.2 = [] ∨ p.1 ≠ b2.1 := fun p hp => F1 p (by rw [List.append_assoc]; exact List.mem_append.2 (.inr hp))
      generalize hr1e : b.2 ++ [b.2.getD at0.toNat 0] = r1 at D1 D1' F1a ⊢
      generalize vs5 17 0 = u1 at D1 D1' F1a ⊢
      have hA2l : A.length = A2.length := j4.symm
      simp only [Bzbn, rwp_cat, yzz, wpD_gh, go_sem, yz0, Int.reduceLT, reduceLE, reduceToNat, reduceNeg, Nat.reduceLT, reduceLeDiff, reduceMul, reduceSub, reduceIte, reduceEqDiff, reduceAdd, reduceCtorEq]
      intro _
      refine ⟨[.thaw 1008 A.length 901], gwp_thaw (n := b2.1) rfl (rwp_get hA2l) (by simpa using hbn2) rfl fun m8 => ?_⟩
      have ho2 : (rwp A2 ++ AVal.own 901 m8 :: rwp C2).getD A.length .any = .own 901 m8 := own_at hA2l
      have hol2 : (rwp A2 ++ AVal.own 901 m8 :: rwp C2).length = A.length + (C2.length + 1) := by rw [List.length_append, List.length_cons, rwp_len, rwp_len, j4]
      have hset2 : (woL b2.1 (rwp (A2 ++ b2 :: C2))).set A.length (AVal.own 901 m8) = rwp A2 ++ AVal.own 901 m8 :: rwp C2 := by rw [hA2l]; exact woL_set F1b
      simp only [hset2, woL_rwp F1a, woT, woO, woL_cons, woL_nil, woV_val, woV_own, wo_ptr, wo_o, woL_ints, wo_st, woO_row, woO_box, woO_gone, wo_any, gwp_nil, yzz, yze, go_sem, yz0, Int.reduceLT, reduceLE, reduceToNat, reduceNeg, Nat.reduceLT, reduceLeDiff, reduceMul, reduceSub, reduceIte, reduceEqDiff, reduceAdd, reduceCtorEq]
      intro vs6 U6 hN6
      simp only [ho2, yzg hat2, own_put hA2l, go_sem, yz0, Int.reduceLT, reduceLE, reduceToNat, reduceNeg, Nat.reduceLT, reduceLeDiff, reduceMul, reduceSub, reduceIte, reduceEqDiff, reduceAdd, reduceCtorEq]
      have hAl2 : A.length < (rwp A2 ++ AVal.own 901 m8 :: rwp C2).length := by omega
      refine ⟨⟨by omega, hAl2⟩, hAl2, ⟨by omega, hAl2⟩, hAl2, ⟨f3, hat2⟩, hat2, ⟨_, rfl, rfl⟩, by omega, ⟨by omega, hAl2⟩, by omega, ?_⟩
      have hU8 := hN6.hp 8
      have hU18 := hN6.hp 1008
      simp only [AObj.uses, go_sem, yz0, Int.reduceLT, reduceLE, reduceToNat, reduceNeg, Nat.reduceLT, reduceLeDiff, reduceMul, reduceSub, reduceIte, reduceEqDiff, reduceAdd, reduceCtorEq] at hU8 hU18
      have hold8 := usesL_rwp (rest := []) (by rw [List.append_nil]; exact hU8.2)
      have hold18 := usesL_rwp2 hU18.2
      have hnew2 : ∀ p ∈ (A ++ (u1, r1) :: C ++ A2) ++ C2, p.2 = [] ∨ p.1 ≠ vs6 17 0 := fun p hp => by
        have : p.2 = [] ∨ U6 p.1 := by
          rw [List.append_assoc] at hp
          rcases List.mem_append.1 hp with h | h
          · exact hold8 p h
          · exact hold18 p h
        rcases this with h | h
        · exact .inl h
        · exact .inr fun e => hN6.new 17 0 (e ▸ h)
      have D2 := DJ_in (r := b2.2 ++ [b2.2.getD at0.toNat 0]) D1' hnew2
      generalize hr2e : b2.2 ++ [b2.2.getD at0.toNat 0] = r2 at D2 ⊢
      generalize vs6 17 0 = u2 at D2 ⊢
      have D2' : DJ (A ++ (u1, r1) :: (C ++ (A2 ++ (u2, r2) :: C2))) := by
        have e : A ++ (u1, r1) :: (C ++ (A2 ++ (u2, r2) :: C2)) = (A ++ (u1, r1) :: C ++ A2) ++ (u2, r2) :: C2 := by simp
        rw [e]; exact D2
      have hr1l : (r1.length : Int) = n + 1 := by rw [← hr1e, List.length_append]; simp; omega
      have hr1m : ∀ x ∈ r1, 0 ≤ x ∧ x < n + 1 := fun x hx => by
        rw [← hr1e] at hx
        rcases List.mem_append.1 hx with h | h
        · have := hbl.2 x h; omega
        · rw [List.mem_singleton.1 h]; omega
      have hr2l : (r2.length : Int) = n + 1 := by rw [← hr2e, List.length_append]; simp; omega
      have hr2m : ∀ x ∈ r2, 0 ≤ x ∧ x < o := fun x hx => by
        rw [← hr2e] at hx
        rcases List.mem_append.1 hx with h | h
        · exact hbl2.2 x h
        · rw [List.mem_singleton.1 h]; exact hx2
      clear hr1e hr2e
      have hr1n : r1 ≠ [] := fun e => by rw [e] at hr1l; simp at hr1l; omega
      have F2 := DJ_out D2' hr1n
      have F2a : ∀ p ∈ A ++ C, p.2 = [] ∨ p.1 ≠ u1 := fun p hp => F2 p (by simp only [List.mem_append] at hp ⊢; rcases hp with h | h <;> simp [h])
      have F2b : ∀ p ∈ A2 ++ (u2, r2) :: C2, p.2 = [] ∨ p.1 ≠ u1 := fun p hp => F2 p (by simp only [List.mem_append] at hp ⊢; exact .inr (.inr hp))
      simp only [Bzbm, rwp_cat, yzz, wpD_gh, go_sem, yz0, Int.reduceLT, reduceLE, reduceToNat, reduceNeg, Nat.reduceLT, reduceLeDiff, reduceMul, reduceSub, reduceIte, reduceEqDiff, reduceAdd, reduceCtorEq]
      intro _
      refine ⟨[.thaw 8 A.length 901], gwp_thaw (n := u1) rfl (rwp_get (b := (u1, r1)) rfl) (by simpa using hr1n) rfl fun m9 => ?_⟩
      have hset3 : (woL u1 (rwp (A ++ (u1, r1) :: C))).set A.length (AVal.own 901 m9) = rwp A ++ AVal.own 901 m9 :: rwp C := woL_set (b := (u1, r1)) F2a
      simp only [hset3, woL_rwp F2b, woT, woO, woL_cons, woL_nil, woV_val, woV_own, wo_ptr, wo_o, woL_ints, wo_st, woO_row, woO_box, woO_gone, wo_any, gwp_nil, yzz, yze, go_sem, yz0, Int.reduceLT, reduceLE, reduceToNat, reduceNeg, Nat.reduceLT, reduceLeDiff, reduceMul, reduceSub, reduceIte, reduceEqDiff, reduceAdd, reduceCtorEq]
      intro vs7 U7 hN7
      simp only [Bzbl, yzz, yze, go_sem, yz0, Int.reduceLT, reduceLE, reduceToNat, reduceNeg, Nat.reduceLT, reduceLeDiff, reduceMul, reduceSub, reduceIte, reduceEqDiff, reduceAdd, reduceCtorEq]
      have hsA : A.length < 4 := by simp at j3; omega
      refine wpD_lp (fun (_, _, _, _, x) => r1.length - x) (fun (a', _, _, cur, x) => a ≤ a' ∧ a' ≤ a + 2 * x ∧ x ≤ r1.length ∧ List.length cur = r1.length ∧ ∀ y ∈ cur, 0 ≤ y ∧ y < n + 1)
        (fun ((a, s, m, cur, x) : Int × Int × Nat × List Int × Nat) =>
          ⟨L .any [(0, .ptr 5000 0 0), (2, .ptr 2 (vs0 0 0) 0), (3, .ptr 3 v3 0), (4, iv at0), (5, iv A.length), (6, iv x)],
           L .gone [(2, .box (vs0 0 0) [iv 0, iv 0, nilS, nilS]), (3, .box v3 [iv n, iv o, .own 8 v8, .own 1008 v1008]), (8, .row v8 1 true (rwp A ++ .own 901 m :: rwp C)), (37, .gone), (56, .gone), (1008, .row v1008 1 true (rwp (A2 ++ (u2, r2) :: C2))), (5000, .box 0 (srcC code a s)), (901, .row m 1 true (ints cur))]⟩)
        (a, s, m9, r1, 0) ⟨by omega, by simp, by omega, rfl, hr1m⟩ (by simp only [Bz2b, go_sem, yz0, Int.reduceLT, reduceLE, reduceToNat, reduceNeg, Nat.reduceLT, reduceLeDiff, reduceMul, reduceSub, reduceIte, reduceEqDiff, reduceAdd, reduceCtorEq]; try rfl) ?_
      rintro ⟨a', s', m, cur, x⟩ ⟨e1, e2, e3, e4, e5⟩
      have e1 : a ≤ a' := e1
      have e2 : a' ≤ a + 2 * x := e2
      have e3 : x ≤ r1.length := e3
      have e4 : cur.length = r1.length := e4
      have hoc : (rwp A ++ AVal.own 901 m :: rwp C).getD A.length .any = .own 901 m := own_at rfl
      have holc : (rwp A ++ AVal.own 901 m :: rwp C).length = A.length + (C.length + 1) := by rw [List.length_append, List.length_cons, rwp_len, rwp_len]
      have hAlc : A.length < (rwp A ++ AVal.own 901 m :: rwp C).length := by omega
      by_cases hxl : (x : Int) < cur.length
      · have hx1 : x < cur.length := by omega
        have w6 : IntKind.i64.wrap ((x : Int) + 1) = ((x + 1 : Nat) : Int) := by rw [w64 (by omega)]; simp
        simp only [Bz2b, Bz5n, Bzbk, hoc, yzg hx1, decide_eq_true hxl, yzz, yze, go_sem, yz0, Int.reduceLT, reduceLE, reduceToNat, reduceNeg, Nat.reduceLT, reduceLeDiff, reduceMul, reduceSub, reduceIte, reduceEqDiff, reduceAdd, reduceCtorEq]
        intro vs8 U8 hN8
        refine ⟨⟨by omega, hAlc⟩, hAlc, ?_⟩
        intro hM5 vs9 U9 hN9
        refine ⟨⟨by omega, hAlc⟩, hAlc, ⟨by omega, hx1⟩, hx1, ?_⟩
        by_cases heq : cur.getD x 0 = at0
        · have hb1 : (cur.getD x 0 == at0) = true := by simpa using heq
          simp only [hb1, yzz, yze, go_sem, yz0, Int.reduceLT, reduceLE, reduceToNat, reduceNeg, Nat.reduceLT, reduceLeDiff, reduceMul, reduceSub, reduceIte, reduceEqDiff, reduceAdd, reduceCtorEq]
          refine call_funB (k_one code a' s' 2 hb (by omega)) rfl qCS qCS ?_
          rintro cs' x1 ⟨a3, s3, b3, rfl, c1, c2, rfl⟩
          cases b3 with
          | true =>
            simp only [Bz29, Bz2a, hoc, w6, yzz, yze, go_sem, yz0, Int.reduceLT, reduceLE, reduceToNat, reduceNeg, Nat.reduceLT, reduceLeDiff, reduceMul, reduceSub, reduceIte, reduceEqDiff, reduceAdd, reduceCtorEq]
            intro vs10 U10 hN10
            refine ⟨⟨by omega, hAlc⟩, hAlc, ⟨by omega, hx1⟩, by omega, ?_⟩
            intro vs11 U11 hN11
            refine ⟨(a3, s3, m, cur.take x ++ [n] ++ cur.drop (x + 1), x + 1), by dsimp only; omega, ⟨by dsimp only; omega, by dsimp only; omega, by dsimp only; omega, by dsimp only; rw [lput_len hx1]; exact e4, lput_mem e5 (by omega)⟩, ?_⟩
            simp only [← ints_put]
          | false =>
            simp only [Bz29, Bz2a, w6, yzz, yze, go_sem, yz0, Int.reduceLT, reduceLE, reduceToNat, reduceNeg, Nat.reduceLT, reduceLeDiff, reduceMul, reduceSub, reduceIte, reduceEqDiff, reduceAdd, reduceCtorEq]
            intro vs10 U10 hN10
            exact ⟨(a3, s3, m, cur, x + 1), by dsimp only; omega, ⟨by dsimp only; omega, by dsimp only; omega, by dsimp only; omega, e4, e5⟩, rfl⟩
        · have hb1 : (cur.getD x 0 == at0) = false := by simpa using heq
          simp only [hb1, Bz29, Bz2a, w6, yzz, yze, go_sem, yz0, Int.reduceLT, reduceLE, reduceToNat, reduceNeg, Nat.reduceLT, reduceLeDiff, reduceMul, reduceSub, reduceIte, reduceEqDiff, reduceAdd, reduceCtorEq]
          intro vs10 U10 hN10
          exact ⟨(a', s', m, cur, x + 1), by dsimp only; omega, ⟨by dsimp only; omega, by dsimp only; omega, by dsimp only; omega, e4, e5⟩, rfl⟩
      · simp only [Bz2b, Bz5n, hoc, decide_eq_false hxl, yzz, yze, go_sem, yz0, Int.reduceLT, reduceLE, reduceToNat, reduceNeg, Nat.reduceLT, reduceLeDiff, reduceMul, reduceSub, reduceIte, reduceEqDiff, reduceAdd, reduceCtorEq]
        intro vs8 U8 hN8
        refine ⟨⟨by omega, hAlc⟩, hAlc, ?_⟩
        intro hM5
        simp only [Bzbo, yzz, wpD_gh, go_sem, yz0, Int.reduceLT, reduceLE, reduceToNat, reduceNeg, Nat.reduceLT, reduceLeDiff, reduceMul, reduceSub, reduceIte, reduceEqDiff, reduceAdd, reduceCtorEq]
        intro hD
        refine ⟨[.rf 8 A.length 901], gwp_rf (k := 1) (nn := true) rfl (own_get rfl) (by decide) rfl fun hf => ?_⟩
        have hf1 : ∀ p ∈ A ++ C, p.2 = [] ∨ p.1 ≠ m := fun p hp => by
          by_cases e : p.2 = []
          · exact .inl e
          · refine .inr (hf p.1 1 (ints p.2) ?_ (by simpa using e))
            rcases List.mem_append.1 hp with h | h
            · exact List.mem_append.2 (.inl (List.mem_map.2 ⟨p, h, rfl⟩))
            · exact List.mem_append.2 (.inr (List.mem_cons.2 (.inr (List.mem_map.2 ⟨p, h, rfl⟩))))
        have hf2 : ∀ p ∈ A2 ++ (u2, r2) :: C2, p.2 = [] ∨ p.1 ≠ m := fun p hp => by
          by_cases e : p.2 = []
          · exact .inl e
          · exact .inr (hD 1008 v1008 1 true (rwp (A2 ++ (u2, r2) :: C2)) 901 m rfl rfl p.1 1 (ints p.2) (List.mem_map.2 ⟨p, hp, rfl⟩) (by simpa using e))
        have D3 := DJ_in (u := m) (r := cur) D2' fun p hp => by
          rw [← List.append_assoc] at hp
          rcases List.mem_append.1 hp with h | h
          · exact hf1 p h
          · exact hf2 p h
        have hset4 : ∀ X : AVal, (rwp A ++ AVal.own 901 m :: rwp C).set A.length X = rwp A ++ X :: rwp C := fun X => by
          rw [List.set_append_right _ _ (by rw [rwp_len]; exact Nat.le_refl _), rwp_len, Nat.sub_self]; rfl
        simp only [hset4, frNm_t, w5, gwp_nil, yzz, yze, go_sem, yz0, Int.reduceLT, reduceLE, reduceToNat, reduceNeg, Nat.reduceLT, reduceLeDiff, reduceMul, reduceSub, reduceIte, reduceEqDiff, reduceAdd, reduceCtorEq]
        intro vs9 U9 hN9
        have hxr : x = cur.length := by omega
        refine ⟨(v3, v8, v1008, a', s', A ++ [(m, cur)], C, A2 ++ [(u2, r2)], C2), by dsimp only; simp, ⟨by dsimp only; omega, by dsimp only; rw [List.length_append, List.length_singleton]; omega, ?_, ?_, ?_, ?_, ⟨?_, ?_⟩, ⟨?_, ?_⟩⟩, ?_⟩
        · dsimp only; rw [List.length_append, List.length_singleton]; simp at j3; omega
        · dsimp only; rw [List.length_append, List.length_append, j4]; rfl
        · dsimp only; simpa using j5
        · have e : A ++ (m, cur) :: (C ++ (A2 ++ (u2, r2) :: C2)) = ((A ++ [(m, cur)]) ++ C) ++ ((A2 ++ [(u2, r2)]) ++ C2) := by simp
          dsimp only; rw [← e]; exact D3
        · intro p hp
          rcases List.mem_append.1 hp with h | h
          · exact j7.a p h
          · rw [List.mem_singleton.1 h]; exact ⟨by dsimp only; omega, e5⟩
        · exact fun p hp => j7.b p (List.mem_cons_of_mem _ hp)
        · intro p hp
          rcases List.mem_append.1 hp with h | h
          · exact j8.a p h
          · rw [List.mem_singleton.1 h]; exact ⟨hr2l, hr2m⟩
        · exact fun p hp => j8.b p (List.mem_cons_of_mem _ hp)
        · simp only [List.append_assoc, List.cons_append, List.nil_append, List.length_append, List.length_cons, List.length_nil, rwp_cat]
end Go.Ab
namespace Go.Ab
open Go.Proofs
theorem k_P6Machine (code : List Int) (hb : ∀ x ∈ code, 0 ≤ x ∧ x ≤ 255) :
    Con Try.prog nz3k [] [.ro (some (some 0)) 1 (intsK .u8 code)] true fun outs rows res => outs = [] ∧ ∃ n o next out v w, Mach n o next out ∧ n ≤ 5 ∧ rows = [.row v 1 true (rws next), .row w 1 true (rws out)] ∧ res = .st [iv n, iv o, .own 6000 v, .own 6001 w] := by
  refine con_sh mixed czjr rfl (by simp) ?_
  simp only [Az8u, Bz8t, go_sem, yz0, Int.reduceLT, reduceLE, reduceToNat, reduceNeg, Nat.reduceLT, reduceLeDiff, reduceMul, reduceSub, reduceIte, reduceEqDiff, reduceAdd, reduceCtorEq]
  intro vs vs2
  refine call_sh (k_from code) qCS (fun _ => ⟨_, _, _, rfl, 0, rfl, rfl⟩) ?_
  rintro outs rows res ⟨rfl, v, rfl, rfl⟩
  refine ⟨rfl, by simp, by rw [Option.getD_some, yzn]; simp only [go_sem, yz0, Int.reduceLT, reduceLE, reduceToNat, reduceNeg, Nat.reduceLT, reduceLeDiff, reduceMul, reduceSub, reduceIte, reduceEqDiff, reduceAdd, reduceCtorEq], ?_⟩
  simp only [Bz8s, Nat.not_lt_zero, range1, yzy, yz12, yz1d, yz1e, yz10, yz1f, yz1c, yz1b, yz11, yzv, yzj, yz5, yzw, yzt, yzr, yzs, yzx, yz6, yz7, yzb, yzd, yzm, yzi, yz4, yzc, yz8, yza, yzk, yzh, List.range_zero, yz2, yz3, yz9, yzu, yzn, yzq, AVal.fresh, freshL, yz1, yzl, AObj.fresh, id, Option.isSome_some, or_true, true_or, go_sem, yz0, Int.reduceLT, reduceLE, reduceToNat, reduceNeg, Nat.reduceLT, reduceLeDiff, reduceMul, reduceSub, reduceIte, reduceEqDiff, reduceAdd, reduceCtorEq]
  intro vs3
  refine call_funB (k_one code 0 0 4 hb (by omega)) rfl qCS qCS ?_
  rintro cs' x ⟨a1, s1, b1, rfl, h1, h2, rfl⟩
  simp only [Bz8q, go_sem, yz0, Int.reduceLT, reduceLE, reduceToNat, reduceNeg, Nat.reduceLT, reduceLeDiff, reduceMul, reduceSub, reduceIte, reduceEqDiff, reduceAdd, reduceCtorEq]
  refine ⟨fun _ vs4 => ?_, fun _ => ?_⟩
  · refine call_con (r := 5) (k_l06Twin code a1 s1 hb (by omega)) rfl (by simp only [Bool.not_true, rowIs, boxIs, coe_argN, yz1a, coe_ro_o, coeL_nil, yz18, coe_any, coe_val, coe_ro, yz16, yz17, coe_st, yz15, coe_rp, yz14, coe_clo, coe_own0, coe_ptr0, yz13, coeL_rws, coeL_rwn, L_hit, L_miss, L_nil, reduceEqDiff, ne_eq, reduceCtorEq, not_false_eq_true, true_and, and_true, and_self, exists_eq_left, exists_eq_right, List.mem_cons, List.not_mem_nil, or_false, AObj.row.injEq, AObj.box.injEq, exists_eq_left', exists_and_left, exists_eq, Nat.zero_lt_one, Nat.lt_add_one, List.map_cons, List.map_nil, AObj.ver, Nat.reduceLT, not_true_eq_false]) (by simp only [Bool.not_true, rowIs, boxIs, coe_argN, yz1a, coe_ro_o, coeL_nil, yz18, coe_any, coe_val, coe_ro, yz16, yz17, coe_st, yz15, coe_rp, yz14, coe_clo, coe_own0, coe_ptr0, yz13, coeL_rws, coeL_rwn, L_hit, L_miss, L_nil, reduceEqDiff, ne_eq, reduceCtorEq, not_false_eq_true, true_and, and_true, and_self, exists_eq_left, exists_eq_right, List.mem_cons, List.not_mem_nil, or_false, AObj.row.injEq, AObj.box.injEq, exists_eq_left', exists_and_left, exists_eq, Nat.zero_lt_one, Nat.lt_add_one, List.map_cons, List.map_nil, AObj.ver, Nat.reduceLT, not_true_eq_false]) ?_
    rintro outs rows res ⟨n, o, ps, qs, v1, v2, a', s', M, hn, _, _, rfl, rfl, rfl⟩
    refine ⟨rfl, by simp, by rw [Option.getD_some, yzq]; exact ⟨rfl, rfl⟩, ?_⟩
    rw [Option.getD_some, callHp_mrr (by omega) (by omega)]
    simp only [renL_rwp, Nat.not_lt_zero, range1, yzy, yz12, yz1d, yz1e, yz10, yz1f, yz1c, yz1b, yz11, yzv, yzj, yz5, yzw, yzt, yzr, yzs, yzx, yz6, yz7, yzb, yzd, yzm, yzi, yz4, yzc, yz8, yza, yzk, yzh, List.range_zero, yz2, yz3, yz9, yzu, yzn, yzq, AVal.fresh, freshL, yz1, yzl, AObj.fresh, id, Option.isSome_some, or_true, true_or, go_sem, yz0, Int.reduceLT, reduceLE, reduceToNat, reduceNeg, Nat.reduceLT, reduceLeDiff, reduceMul, reduceSub, reduceIte, reduceEqDiff, reduceAdd, reduceCtorEq]
    refine ⟨[9, 1009], by simp, by simp, by simp, ?_⟩
    have e : ∀ (f : Nat → Nat) (l : List (Nat × List Int)), List.map ((fun x : Nat × List Int => x.2) ∘ fun p => (f p.1, p.2)) l = l.map (·.2) := fun _ _ => rfl
    simp only [range1, List.length_singleton, dnL_rwp, List.map_map, e, Nat.not_lt_zero, range1, yzy, yz12, yz1d, yz1e, yz10, yz1f, yz1c, yz1b, yz11, yzv, yzj, yz5, yzw, yzt, yzr, yzs, yzx, yz6, yz7, yzb, yzd, yzm, yzi, yz4, yzc, yz8, yza, yzk, yzh, List.range_zero, yz2, yz3, yz9, yzu, yzn, yzq, AVal.fresh, freshL, yz1, yzl, AObj.fresh, id, Option.isSome_some, or_true, true_or, go_sem, yz0, Int.reduceLT, reduceLE, reduceToNat, reduceNeg, Nat.reduceLT, reduceLeDiff, reduceMul, reduceSub, reduceIte, reduceEqDiff, reduceAdd, reduceCtorEq]
    exact ⟨n, o, _, _, _, _, M, hn, rfl, rfl⟩
  · simp only [Bz8r, go_sem, yz0, Int.reduceLT, reduceLE, reduceToNat, reduceNeg, Nat.reduceLT, reduceLeDiff, reduceMul, reduceSub, reduceIte, reduceEqDiff, reduceAdd, reduceCtorEq]
    intro vs4
    refine call_con (r := 5) (k_l06Draw code a1 s1 5 hb (by omega) (by omega)) rfl (by simp only [Bool.not_true, rowIs, boxIs, coe_argN, yz1a, coe_ro_o, coeL_nil, yz18, coe_any, coe_val, coe_ro, yz16, yz17, coe_st, yz15, coe_rp, yz14, coe_clo, coe_own0, coe_ptr0, yz13, coeL_rws, coeL_rwn, L_hit, L_miss, L_nil, reduceEqDiff, ne_eq, reduceCtorEq, not_false_eq_true, true_and, and_true, and_self, exists_eq_left, exists_eq_right, List.mem_cons, List.not_mem_nil, or_false, AObj.row.injEq, AObj.box.injEq, exists_eq_left', exists_and_left, exists_eq, Nat.zero_lt_one, Nat.lt_add_one, List.map_cons, List.map_nil, AObj.ver, Nat.reduceLT, not_true_eq_false]) (by simp only [Bool.not_true, rowIs, boxIs, coe_argN, yz1a, coe_ro_o, coeL_nil, yz18, coe_any, coe_val, coe_ro, yz16, yz17, coe_st, yz15, coe_rp, yz14, coe_clo, coe_own0, coe_ptr0, yz13, coeL_rws, coeL_rwn, L_hit, L_miss, L_nil, reduceEqDiff, ne_eq, reduceCtorEq, not_false_eq_true, true_and, and_true, and_self, exists_eq_left, exists_eq_right, List.mem_cons, List.not_mem_nil, or_false, AObj.row.injEq, AObj.box.injEq, exists_eq_left', exists_and_left, exists_eq, Nat.zero_lt_one, Nat.lt_add_one, List.map_cons, List.map_nil, AObj.ver, Nat.reduceLT, not_true_eq_false]) ?_
    rintro outs rows res ⟨n, o, ps, qs, v1, v2, a', s', M, hn, hd, _, _, rfl, rfl, rfl⟩
    refine ⟨rfl, by simp, by rw [Option.getD_some, yzq]; exact ⟨rfl, rfl⟩, ?_⟩
    rw [Option.getD_some, callHp_mrr (by omega) (by omega)]
    simp only [renL_rwp, Nat.not_lt_zero, range1, yzy, yz12, yz1d, yz1e, yz10, yz1f, yz1c, yz1b, yz11, yzv, yzj, yz5, yzw, yzt, yzr, yzs, yzx, yz6, yz7, yzb, yzd, yzm, yzi, yz4, yzc, yz8, yza, yzk, yzh, List.range_zero, yz2, yz3, yz9, yzu, yzn, yzq, AVal.fresh, freshL, yz1, yzl, AObj.fresh, id, Option.isSome_some, or_true, true_or, go_sem, yz0, Int.reduceLT, reduceLE, reduceToNat, reduceNeg, Nat.reduceLT, reduceLeDiff, reduceMul, reduceSub, reduceIte, reduceEqDiff, reduceAdd, reduceCtorEq]
    refine ⟨[11, 1011], by simp, by simp, by simp, ?_⟩
    have e : ∀ (f : Nat → Nat) (l : List (Nat × List Int)), List.map ((fun x : Nat × List Int => x.2) ∘ fun p => (f p.1, p.2)) l = l.map (·.2) := fun _ _ => rfl
    simp only [range1, List.length_singleton, dnL_rwp, List.map_map, e, Nat.not_lt_zero, range1, yzy, yz12, yz1d, yz1e, yz10, yz1f, yz1c, yz1b, yz11, yzv, yzj, yz5, yzw, yzt, yzr, yzs, yzx, yz6, yz7, yzb, yzd, yzm, yzi, yz4, yzc, yz8, yza, yzk, yzh, List.range_zero, yz2, yz3, yz9, yzu, yzn, yzq, AVal.fresh, freshL, yz1, yzl, AObj.fresh, id, Option.isSome_some, or_true, true_or, go_sem, yz0, Int.reduceLT, reduceLE, reduceToNat, reduceNeg, Nat.reduceLT, reduceLeDiff, reduceMul, reduceSub, reduceIte, reduceEqDiff, reduceAdd, reduceCtorEq]
    exact ⟨n, o, _, _, _, _, M, hn, rfl, rfl⟩
theorem k_P6Pick (code : List Int) (n : Int) (hb : ∀ x ∈ code, 0 ≤ x ∧ x ≤ 255) :
    FunE Try.prog nz3l [.ro (some (some 0)) 1 (intsK .u8 code), iv n] (fun v => ∃ b, v = .int .i64 b ∧ 0 ≤ b ∧ (b < n ∨ b = 0)) := by
  refine funE_of mixed czjs rfl ?_
  simp only [Bz8v, Az8w, go_sem, yz0, Int.reduceLT, reduceLE, reduceToNat, reduceNeg, Nat.reduceLT, reduceLeDiff, reduceMul, reduceSub, reduceIte, reduceEqDiff, reduceAdd, reduceCtorEq]
  intro vs
  refine call_sh (k_from code) qCS (fun _ => ⟨_, _, _, rfl, 0, rfl, rfl⟩) ?_
  rintro outs rows res ⟨rfl, v, rfl, rfl⟩
  refine ⟨rfl, by simp, by rw [Option.getD_some, yzn]; simp only [go_sem, yz0, Int.reduceLT, reduceLE, reduceToNat, reduceNeg, Nat.reduceLT, reduceLeDiff, reduceMul, reduceSub, reduceIte, reduceEqDiff, reduceAdd, reduceCtorEq], ?_⟩
  simp only [Nat.not_lt_zero, range1, yzy, yz12, yz1d, yz1e, yz10, yz1f, yz1c, yz1b, yz11, yzv, yzj, yz5, yzw, yzt, yzr, yzs, yzx, yz6, yz7, yzb, yzd, yzm, yzi, yz4, yzc, yz8, yza, yzk, yzh, List.range_zero, yz2, yz3, yz9, yzu, yzn, yzq, AVal.fresh, freshL, yz1, yzl, AObj.fresh, id, Option.isSome_some, or_true, true_or, go_sem, yz0, Int.reduceLT, reduceLE, reduceToNat, reduceNeg, Nat.reduceLT, reduceLeDiff, reduceMul, reduceSub, reduceIte, reduceEqDiff, reduceAdd, reduceCtorEq]
  refine call_funB (k_pick code 0 0 n hb (by omega)) rfl qCS qCS ?_
  rintro cs' x ⟨a', s', b, rfl, h1, h2, rfl, h3, h4⟩
  simp only [Nat.not_lt_zero, range1, yzy, yz12, yz1d, yz1e, yz10, yz1f, yz1c, yz1b, yz11, yzv, yzj, yz5, yzw, yzt, yzr, yzs, yzx, yz6, yz7, yzb, yzd, yzm, yzi, yz4, yzc, yz8, yza, yzk, yzh, List.range_zero, yz2, yz3, yz9, yzu, yzn, yzq, AVal.fresh, freshL, yz1, yzl, AObj.fresh, id, Option.isSome_some, or_true, true_or, go_sem, yz0, Int.reduceLT, reduceLE, reduceToNat, reduceNeg, Nat.reduceLT, reduceLeDiff, reduceMul, reduceSub, reduceIte, reduceEqDiff, reduceAdd, reduceCtorEq]
  exact ⟨_, rfl, b, rfl, h3, h4⟩
def IsW6 (l most : Int) (w : List Int) : Prop := (w.length : Int) ≤ most ∧ ∀ x ∈ w, 0 ≤ x ∧ x < l
theorem k_P6Word (code : List Int) (l most : Int) (hb : ∀ x ∈ code, 0 ≤ x ∧ x ≤ 255) (hl : 1 ≤ l) (hm : 0 ≤ most ∧ most ≤ 100) :
    RowI Try.prog nz3q [.ro (some (some 0)) 1 (intsK .u8 code), iv l, iv most] (IsW6 l most) := by
  refine rowI_of mixed czjz rfl ?_
  have wm : IntKind.i64.wrap (most + 1) = most + 1 := w64 (by omega)
  simp only [Bzal, Bzam, Bzan, Bzao, Bzap, Bzaq, Bzar, Bzas, Bzat, Azau, wm, go_sem, yz0, Int.reduceLT, reduceLE, reduceToNat, reduceNeg, Nat.reduceLT, reduceLeDiff, reduceMul, reduceSub, reduceIte, reduceEqDiff, reduceAdd, reduceCtorEq]
  intro vs
  refine call_sh (k_from code) qCS (fun _ => ⟨_, _, _, rfl, 0, rfl, rfl⟩) ?_
  rintro outs rows res ⟨rfl, v, rfl, rfl⟩
  refine ⟨rfl, by simp, by rw [Option.getD_some, yzn]; simp only [go_sem, yz0, Int.reduceLT, reduceLE, reduceToNat, reduceNeg, Nat.reduceLT, reduceLeDiff, reduceMul, reduceSub, reduceIte, reduceEqDiff, reduceAdd, reduceCtorEq], ?_⟩
  simp only [wm, Nat.not_lt_zero, range1, yzy, yz12, yz1d, yz1e, yz10, yz1f, yz1c, yz1b, yz11, yzv, yzj, yz5, yzw, yzt, yzr, yzs, yzx, yz6, yz7, yzb, yzd, yzm, yzi, yz4, yzc, yz8, yza, yzk, yzh, List.range_zero, yz2, yz3, yz9, yzu, yzn, yzq, AVal.fresh, freshL, yz1, yzl, AObj.fresh, id, Option.isSome_some, or_true, true_or, go_sem, yz0, Int.reduceLT, reduceLE, reduceToNat, reduceNeg, Nat.reduceLT, reduceLeDiff, reduceMul, reduceSub, reduceIte, reduceEqDiff, reduceAdd, reduceCtorEq]
  intro vs3 vs4
  refine call_funB (k_pick code 0 0 (most + 1) hb (by omega)) rfl qCS qCS ?_
  rintro cs' x ⟨a', s', b, rfl, h1, h2, rfl, h3, h4⟩
  simp only [Nat.not_lt_zero, range1, yzy, yz12, yz1d, yz1e, yz10, yz1f, yz1c, yz1b, yz11, yzv, yzj, yz5, yzw, yzt, yzr, yzs, yzx, yz6, yz7, yzb, yzd, yzm, yzi, yz4, yzc, yz8, yza, yzk, yzh, List.range_zero, yz2, yz3, yz9, yzu, yzn, yzq, AVal.fresh, freshL, yz1, yzl, AObj.fresh, id, Option.isSome_some, or_true, true_or, go_sem, yz0, Int.reduceLT, reduceLE, reduceToNat, reduceNeg, Nat.reduceLT, reduceLeDiff, reduceMul, reduceSub, reduceIte, reduceEqDiff, reduceAdd, reduceCtorEq]
  refine wpD_lo (fun (_, _, _, _, _, k) => Int.toNat k) (fun (w, _, _, a, _, k) => IsW6 l most w ∧ (w.length : Int) + k ≤ most ∧ 0 ≤ a ∧ a + 2 * k ≤ 1000 ∧ 0 ≤ k)
    (fun ((w, v12, v11, a, s, k) : List Int × Nat × Nat × Int × Int × Int) => ⟨L .any [(1, iv l), (7, .ptr 11 v11 0), (8, .own 12 v12), (9, iv k)], L .gone [(11, .box v11 (srcC code a s)), (12, .row v12 1 true (ints w))]⟩)
    ([], _, _, a', s', b) ?_ (by simp only [go_sem, yz0, Int.reduceLT, reduceLE, reduceToNat, reduceNeg, Nat.reduceLT, reduceLeDiff, reduceMul, reduceSub, reduceIte, reduceEqDiff, reduceAdd, reduceCtorEq]; rfl) ?_
  · simp only [IsW6, List.length_nil, List.not_mem_nil]
    simp
    omega
  · rintro ⟨w, v12, v11, a, s, k⟩ ⟨hw, hk1, ha, ha2, hk⟩
    by_cases hk0 : k > 0
    · simp only [decide_eq_true hk0, go_sem, yz0, Int.reduceLT, reduceLE, reduceToNat, reduceNeg, Nat.reduceLT, reduceLeDiff, reduceMul, reduceSub, reduceIte, reduceEqDiff, reduceAdd, reduceCtorEq]
      intro vs5
      refine call_funB (k_pick code a s l hb (by omega)) rfl qCS qCS ?_
      rintro cs' x ⟨a'', s'', b', rfl, g1, g2, rfl, g3, g4⟩
      have hwk : IntKind.i64.wrap (k - 1) = k - 1 := w64 (by omega)
      simp only [hwk, Nat.not_lt_zero, range1, yzy, yz12, yz1d, yz1e, yz10, yz1f, yz1c, yz1b, yz11, yzv, yzj, yz5, yzw, yzt, yzr, yzs, yzx, yz6, yz7, yzb, yzd, yzm, yzi, yz4, yzc, yz8, yza, yzk, yzh, List.range_zero, yz2, yz3, yz9, yzu, yzn, yzq, AVal.fresh, freshL, yz1, yzl, AObj.fresh, id, Option.isSome_some, or_true, true_or, go_sem, yz0, Int.reduceLT, reduceLE, reduceToNat, reduceNeg, Nat.reduceLT, reduceLeDiff, reduceMul, reduceSub, reduceIte, reduceEqDiff, reduceAdd, reduceCtorEq]
      refine ⟨⟨_, rfl, rfl⟩, ?_, (_, _, _, _, _, _), ?_, ?_, rfl⟩
      · omega
      · show (k - 1).toNat < k.toNat
        omega
      · refine ⟨⟨?_, ?_⟩, ?_, ?_, ?_, ?_⟩
        · simp; omega
        · intro x hx
          simp only [List.mem_append, List.mem_singleton] at hx
          rcases hx with hx | rfl
          · exact hw.2 x hx
          · omega
        · simp; omega
        · show 0 ≤ a''; omega
        · show a'' + 2 * (k - 1) ≤ 1000; omega
        · show 0 ≤ k - 1; omega
    · simp only [decide_eq_false hk0, go_sem, yz0, Int.reduceLT, reduceLE, reduceToNat, reduceNeg, Nat.reduceLT, reduceLeDiff, reduceMul, reduceSub, reduceIte, reduceEqDiff, reduceAdd, reduceCtorEq]
      exact ⟨12, v12, w, by omega, rfl, by simp only [go_sem, yz0, Int.reduceLT, reduceLE, reduceToNat, reduceNeg, Nat.reduceLT, reduceLeDiff, reduceMul, reduceSub, reduceIte, reduceEqDiff, reduceAdd, reduceCtorEq], hw⟩
theorem k_f6big (code : List Int) : Fun Try.prog nz15 [.ro (some (some 0)) 1 (intsK .u8 code)] (bv (decide ((code.length : Int) > 4096))) := by
  refine fun_of mixed czjq rfl ⟨rfl, trivial⟩ ?_
  simp only [Bz8o, Az8p, go_sem, yz0, Int.reduceLT, reduceLE, reduceToNat, reduceNeg, Nat.reduceLT, reduceLeDiff, reduceMul, reduceSub, reduceIte, reduceEqDiff, reduceAdd, reduceCtorEq]
  try (intro _)
  try simp
theorem k_f6ints (xs ys : List Int) : Fun Try.prog nzh [.ro none 1 (ints xs), .ro none 1 (ints ys)] (bv (decide (xs = ys))) := by
  refine fun_of mixed czjx rfl ⟨rfl, trivial⟩ ?_
  simp only [Azad, Bzac, go_sem, yz0, Int.reduceLT, reduceLE, reduceToNat, reduceNeg, Nat.reduceLT, reduceLeDiff, reduceMul, reduceSub, reduceIte, reduceEqDiff, reduceAdd, reduceCtorEq]
  intro hx hy
  by_cases hlen : xs.length = ys.length
  · have hne : ((xs.length : Int) != (ys.length : Int)) = false := by rw [hlen]; simp
    simp only [hne, Bz59, Bzab, Bza9, go_sem, yz0, Int.reduceLT, reduceLE, reduceToNat, reduceNeg, Nat.reduceLT, reduceLeDiff, reduceMul, reduceSub, reduceIte, reduceEqDiff, reduceAdd, reduceCtorEq]
    refine wpD_lo (fun i => xs.length - i) (fun i => i ≤ xs.length ∧ xs.take i = ys.take i)
      (fun i : Nat => ⟨L .any [(0, .ro none 1 (ints xs)), (1, .ro none 1 (ints ys)), (5, iv i)], L .gone []⟩) 0 (by simp) (by simp only [Bz24, go_sem, yz0, Int.reduceLT, reduceLE, reduceToNat, reduceNeg, Nat.reduceLT, reduceLeDiff, reduceMul, reduceSub, reduceIte, reduceEqDiff, reduceAdd, reduceCtorEq]; try rfl) ?_
    rintro i ⟨hi, hti⟩
    by_cases hlt : (i : Int) < xs.length
    · have hlt1 : i < xs.length := by omega
      have hlt2 : i < ys.length := by omega
      simp only [Bz24, Bz5a, Bz5b, yzg hlt1, yzg hlt2, decide_eq_true hlt, go_sem, yz0, Int.reduceLT, reduceLE, reduceToNat, reduceNeg, Nat.reduceLT, reduceLeDiff, reduceMul, reduceSub, reduceIte, reduceEqDiff, reduceAdd, reduceCtorEq]
      intro _
      refine ⟨⟨by omega, hlt1⟩, hlt1, ⟨by omega, hlt2⟩, hlt2, ?_⟩
      simp only [Bza7, Bza8, nat1 i _ hlt1 hx, go_sem, yz0, Int.reduceLT, reduceLE, reduceToNat, reduceNeg, Nat.reduceLT, reduceLeDiff, reduceMul, reduceSub, reduceIte, reduceEqDiff, reduceAdd, reduceCtorEq]
      refine ⟨fun h => ?_, fun h => ⟨i + 1, by omega, ⟨by omega, take_eq_step 0 hlt1 hlt2 hti (bne_false_eq h)⟩, rfl⟩⟩
      have : xs ≠ ys := by rintro rfl; simp at h
      simp [this]
    · have : i = xs.length := by omega
      subst this
      simp only [Bz24, Bz5a, Bz5b, Bzaa, decide_eq_false hlt, go_sem, yz0, Int.reduceLT, reduceLE, reduceToNat, reduceNeg, Nat.reduceLT, reduceLeDiff, reduceMul, reduceSub, reduceIte, reduceEqDiff, reduceAdd, reduceCtorEq]
      intro _
      have : xs = ys := by rw [List.take_length, hlen, List.take_length] at hti; exact hti
      simp [this]
  · have hne : ((xs.length : Int) != (ys.length : Int)) = true := by simp; omega
    simp only [hne, Bz59, go_sem, yz0, Int.reduceLT, reduceLE, reduceToNat, reduceNeg, Nat.reduceLT, reduceLeDiff, reduceMul, reduceSub, reduceIte, reduceEqDiff, reduceAdd, reduceCtorEq]
    have : xs ≠ ys := by rintro rfl; exact hlen rfl
    simp [this]
end Go.Ab
namespace Go.Ab
def outA (out : List (List Int)) (s l : Int) : Int := (out.getD l.toNat []).getD s.toNat 0
def outsA (next out : List (List Int)) : Int → List Int → List Int
  | _, [] => []
  | s, x :: w => outA out s x :: outsA next out (stepA next s x) w
def lexP : List Int → List Int → Bool
  | x :: v, y :: w => if x = y then lexP v w else decide (x < y)
  | _, _ => false
def befP (v w : List Int) : Bool := if v.length = w.length then lexP v w else decide (v.length < w.length)
end Go.Ab
namespace Go.Ab
open Go.Proofs
theorem k_f6before (xs ys : List Int) : Fun Try.prog nz3r [.ro none 1 (ints xs), .ro none 1 (ints ys)] (bv (befP xs ys)) := by
  refine fun_of mixed czk1 rfl ⟨rfl, trivial⟩ ?_
  simp only [Azb4, Bzb3, go_sem, yz0, Int.reduceLT, reduceLE, reduceToNat, reduceNeg, Nat.reduceLT, reduceLeDiff, reduceMul, reduceSub, reduceIte, reduceEqDiff, reduceAdd, reduceCtorEq]
  intro hx hy
  by_cases hlen : xs.length = ys.length
  · have hne : ((xs.length : Int) != (ys.length : Int)) = false := by rw [hlen]; simp
    have hb : befP xs ys = lexP xs ys := by rw [befP, if_pos hlen]
    simp only [hne, hb, Bz5f, Bzb2, Bzb0, go_sem, yz0, Int.reduceLT, reduceLE, reduceToNat, reduceNeg, Nat.reduceLT, reduceLeDiff, reduceMul, reduceSub, reduceIte, reduceEqDiff, reduceAdd, reduceCtorEq]
    refine wpD_lo (fun i => xs.length - i) (fun i => i ≤ xs.length ∧ lexP (xs.drop i) (ys.drop i) = lexP xs ys)
      (fun i : Nat => ⟨L .any [(0, .ro none 1 (ints xs)), (1, .ro none 1 (ints ys)), (5, iv i)], L .gone []⟩) 0 (by simp) (by simp only [Bz26, go_sem, yz0, Int.reduceLT, reduceLE, reduceToNat, reduceNeg, Nat.reduceLT, reduceLeDiff, reduceMul, reduceSub, reduceIte, reduceEqDiff, reduceAdd, reduceCtorEq]; try rfl) ?_
    rintro i ⟨hi, hti⟩
    by_cases hlt : (i : Int) < xs.length
    · have hlt1 : i < xs.length := by omega
      have hlt2 : i < ys.length := by omega
      rw [drop_getD hlt1 0, drop_getD hlt2 0] at hti
      simp only [lexP] at hti
      simp only [Bz26, Bz5g, Bz5i, yzg hlt1, yzg hlt2, decide_eq_true hlt, go_sem, yz0, Int.reduceLT, reduceLE, reduceToNat, reduceNeg, Nat.reduceLT, reduceLeDiff, reduceMul, reduceSub, reduceIte, reduceEqDiff, reduceAdd, reduceCtorEq]
      intro _
      refine ⟨⟨by omega, hlt1⟩, hlt1, ⟨by omega, hlt2⟩, hlt2, ?_⟩
      by_cases he : xs.getD i 0 = ys.getD i 0
      · rw [if_pos he] at hti
        have hb : (xs.getD i 0 != ys.getD i 0) = false := by rw [he]; simp
        simp only [hb, Bz5h, Bzaz, nat1 i _ hlt1 hx, go_sem, yz0, Int.reduceLT, reduceLE, reduceToNat, reduceNeg, Nat.reduceLT, reduceLeDiff, reduceMul, reduceSub, reduceIte, reduceEqDiff, reduceAdd, reduceCtorEq]
        exact ⟨i + 1, by omega, ⟨by omega, hti⟩, rfl⟩
      · rw [if_neg he] at hti
        have hb : (xs.getD i 0 != ys.getD i 0) = true := by simpa using he
        simp only [hb, Bz5h, yzg hlt1, yzg hlt2, go_sem, yz0, Int.reduceLT, reduceLE, reduceToNat, reduceNeg, Nat.reduceLT, reduceLeDiff, reduceMul, reduceSub, reduceIte, reduceEqDiff, reduceAdd, reduceCtorEq]
        refine ⟨⟨by omega, hlt1⟩, hlt1, ⟨by omega, hlt2⟩, hlt2, ?_⟩
        rw [← hti]
    · have : i = xs.length := by omega
      subst this
      rw [List.drop_length] at hti
      simp only [Bz26, Bz5g, Bz5i, Bzb1, decide_eq_false hlt, go_sem, yz0, Int.reduceLT, reduceLE, reduceToNat, reduceNeg, Nat.reduceLT, reduceLeDiff, reduceMul, reduceSub, reduceIte, reduceEqDiff, reduceAdd, reduceCtorEq]
      intro _
      rw [← hti]; rfl
  · have hne : ((xs.length : Int) != (ys.length : Int)) = true := by simp; omega
    have hb : befP xs ys = decide ((xs.length : Int) < ys.length) := by rw [befP, if_neg hlen]; simp
    simp only [hne, hb, Bz5f, go_sem, yz0, Int.reduceLT, reduceLE, reduceToNat, reduceNeg, Nat.reduceLT, reduceLeDiff, reduceMul, reduceSub, reduceIte, reduceEqDiff, reduceAdd, reduceCtorEq]
    try (intro _ _)
    try simp
theorem k_Machine_isState (n o : Int) (next out : List (List Int)) (s : Int) (hn : 1 ≤ n ∧ n ≤ 10) : Fun Try.prog nz3v [machA n o next out, iv s] (bv (decide (0 ≤ s) && decide (s ≤ n - 1))) := by
  refine fun_of mixed czkb rfl ⟨rfl, trivial⟩ ?_
  have w1 : IntKind.i64.wrap (n - 1) = n - 1 := w64 (by omega)
  simp only [Bzcp, Azcq, w1, go_sem, yz0, Int.reduceLT, reduceLE, reduceToNat, reduceNeg, Nat.reduceLT, reduceLeDiff, reduceMul, reduceSub, reduceIte, reduceEqDiff, reduceAdd, reduceCtorEq]
  intro vs vs2
  refine yzp (k_within s 0 (n - 1)) qCS trivial ?_
  simp only [go_sem, yz0, Int.reduceLT, reduceLE, reduceToNat, reduceNeg, Nat.reduceLT, reduceLeDiff, reduceMul, reduceSub, reduceIte, reduceEqDiff, reduceAdd, reduceCtorEq]
theorem k_Machine_code (n o : Int) (next out : List (List Int)) (g : FuncId) (caps : List AVal) (r : Bool) (hc : Caps caps) (h : machB n o next out = true → Fun Try.prog g caps (bv r)) :
    Fun Try.prog nz3u [machA n o next out, .clo g caps] (iv (codeI (machB n o next out) r)) := by
  refine fun_of mixed czk9 rfl ⟨rfl, trivial⟩ ?_
  simp only [Azcm, Bzcl, hc.dn, go_sem, yz0, Int.reduceLT, reduceLE, reduceToNat, reduceNeg, Nat.reduceLT, reduceLeDiff, reduceMul, reduceSub, reduceIte, reduceEqDiff, reduceAdd, reduceCtorEq]
  intro vs vs2
  refine yzp (k_ValidMachine n o next out) qCS trivial ?_
  simp only [Bzcj, hc.dn, go_sem, yz0, Int.reduceLT, reduceLE, reduceToNat, reduceNeg, Nat.reduceLT, reduceLeDiff, reduceMul, reduceSub, reduceIte, reduceEqDiff, reduceAdd, reduceCtorEq]
  cases hv : machB n o next out with
  | false =>
    simp only [codeI, go_sem, yz0, Int.reduceLT, reduceLE, reduceToNat, reduceNeg, Nat.reduceLT, reduceLeDiff, reduceMul, reduceSub, reduceIte, reduceEqDiff, reduceAdd, reduceCtorEq]
  | true =>
    simp only [go_sem, yz0, Int.reduceLT, reduceLE, reduceToNat, reduceNeg, Nat.reduceLT, reduceLeDiff, reduceMul, reduceSub, reduceIte, reduceEqDiff, reduceAdd, reduceCtorEq]
    intro vs3
    refine yzp (h hv) (hc.coe _ _ _) trivial ?_
    simp only [Bzci, Bzck, go_sem, yz0, Int.reduceLT, reduceLE, reduceToNat, reduceNeg, Nat.reduceLT, reduceLeDiff, reduceMul, reduceSub, reduceIte, reduceEqDiff, reduceAdd, reduceCtorEq]
    cases r <;> simp [codeI]
theorem k_l06State (n o : Int) (next out : List (List Int)) (s : Int) (hn : 1 ≤ n ∧ n ≤ 10) : Fun Try.prog nz1a [machP n o next out, iv s] (bv (decide (0 ≤ s) && decide (s ≤ n - 1))) := by
  refine fun_of mixed czkf rfl ⟨rfl, trivial⟩ ?_
  have w1 : IntKind.i64.wrap (n - 1) = n - 1 := w64 (by omega)
  simp only [Bzdc, Azdd, w1, go_sem, yz0, Int.reduceLT, reduceLE, reduceToNat, reduceNeg, Nat.reduceLT, reduceLeDiff, reduceMul, reduceSub, reduceIte, reduceEqDiff, reduceAdd, reduceCtorEq]
  intro vs
  refine yzp (k_l00In s 0 (n - 1)) qCS trivial ?_
  simp only [go_sem, yz0, Int.reduceLT, reduceLE, reduceToNat, reduceNeg, Nat.reduceLT, reduceLeDiff, reduceMul, reduceSub, reduceIte, reduceEqDiff, reduceAdd, reduceCtorEq]
theorem k_l06Word (n o : Int) (next out : List (List Int)) (w : List Int) (hl : next.length ≤ 1000000) : Fun Try.prog nz49 [machP n o next out, .ro none 1 (ints w)] (bv (wordB next.length w)) := by
  refine fun_of mixed czla rfl ⟨rfl, trivial⟩ ?_
  simp only [Azi0, Bzhz, go_sem, yz0, Int.reduceLT, reduceLE, reduceToNat, reduceNeg, Nat.reduceLT, reduceLeDiff, reduceMul, reduceSub, reduceIte, reduceEqDiff, reduceAdd, reduceCtorEq]
  intro vs
  refine call_sh (k_l06Plain n o next out) qCS (fun e => by cases e) ?_
  rintro outs rows res ⟨rfl, rfl, rfl⟩
  refine ⟨rfl, by simp, by simp, ?_⟩
  simp only [Bzhy, Nat.not_lt_zero, range1, yzy, yz12, yz1d, yz1e, yz10, yz1f, yz1c, yz1b, yz11, yzv, yzj, yz5, yzw, yzt, yzr, yzs, yzx, yz6, yz7, yzb, yzd, yzm, yzi, yz4, yzc, yz8, yza, yzk, yzh, List.range_zero, yz2, yz3, yz9, yzu, yzn, yzq, AVal.fresh, freshL, yz1, yzl, AObj.fresh, id, Option.isSome_some, or_true, true_or, go_sem, yz0, Int.reduceLT, reduceLE, reduceToNat, reduceNeg, Nat.reduceLT, reduceLeDiff, reduceMul, reduceSub, reduceIte, reduceEqDiff, reduceAdd, reduceCtorEq]
  intro vs2
  refine yzp (k_l01Word n next w hl) qCS trivial ?_
  simp only [go_sem, yz0, Int.reduceLT, reduceLE, reduceToNat, reduceNeg, Nat.reduceLT, reduceLeDiff, reduceMul, reduceSub, reduceIte, reduceEqDiff, reduceAdd, reduceCtorEq]
theorem k_l06Run (n o : Int) (next out : List (List Int)) (M : Mach n o next out) (s : Int) (hs : 0 ≤ s ∧ s < n) (w : List Int) (hw : IsW next.length w) (hwl : w.length ≤ 1000000) :
    Fn Try.prog nzn [machP n o next out, iv s, .ro none 1 (ints w)] fun rows res => ∃ v, rows = [.row v 1 true (ints (outsA next out s w))] ∧ res = .tup [.own 6000 v, iv (atA next s w)] := by
  refine con_of mixed czl7 rfl (by simp) ?_
  generalize hQ : finQ _ = Q
  simp only [Az7k, Bzhj, go_sem, yz0, Int.reduceLT, reduceLE, reduceToNat, reduceNeg, Nat.reduceLT, reduceLeDiff, reduceMul, reduceSub, reduceIte, reduceEqDiff, reduceAdd, reduceCtorEq]
  intro vs
  simp only [Bzhi, Bzhg, go_sem, yz0, Int.reduceLT, reduceLE, reduceToNat, reduceNeg, Nat.reduceLT, reduceLeDiff, reduceMul, reduceSub, reduceIte, reduceEqDiff, reduceAdd, reduceCtorEq]
  refine wpD_lo (fun (_, i, _, _) => w.length - i) (fun (_, i, u, r) => i ≤ w.length ∧ (0 ≤ u ∧ u < n) ∧ r ++ outsA next out u (w.drop i) = outsA next out s w ∧ atA next u (w.drop i) = atA next s w ∧ List.length r = i)
    (fun ((va, i, u, r) : Nat × Nat × Int × List Int) => ⟨L .any [(0, machP n o next out), (1, iv u), (2, .ro none 1 (ints w)), (8, .own 10 va), (9, iv i)], L .gone [(10, .row va 1 true (ints r))]⟩)
    (_, 0, s, []) ⟨by omega, hs, rfl, rfl, rfl⟩ (by simp only [Bz3a, go_sem, yz0, Int.reduceLT, reduceLE, reduceToNat, reduceNeg, Nat.reduceLT, reduceLeDiff, reduceMul, reduceSub, reduceIte, reduceEqDiff, reduceAdd, reduceCtorEq]; try rfl) ?_
  rintro ⟨va, i, u, r⟩ ⟨hi, hu, hr, hat, hrl⟩
  have hi : i ≤ w.length := hi
  have hrl : r.length = i := hrl
  by_cases hlt : (i : Int) < w.length
  · have hlt1 : i < w.length := by omega
    rw [drop_getD hlt1 0] at hr hat
    have hx := hw _ (yzo hlt1 0)
    generalize hxe : w.getD i 0 = x at hr hat hx
    have hxl : x.toNat < next.length := by omega
    have hxo : x.toNat < out.length := by rw [M.len]; exact hxl
    have r1 := M.aut.row _ (yzo hxl [])
    have r2 := M.row _ (yzo hxo [])
    have z1 : u.toNat < (next.getD x.toNat []).length := by omega
    have z2 : u.toNat < (out.getD x.toNat []).length := by omega
    have hst := r1.2 _ (yzo z1 0)
    simp only [Bz3a, Bz7j, Bzhf, yzg hlt1, hxe, yz19 hxo, yzg z2, decide_eq_true hlt, go_sem, yz0, Int.reduceLT, reduceLE, reduceToNat, reduceNeg, Nat.reduceLT, reduceLeDiff, reduceMul, reduceSub, reduceIte, reduceEqDiff, reduceAdd, reduceCtorEq]
    intro hM vs2
    refine ⟨⟨by omega, hlt1⟩, hlt1, ⟨hx.1, hxo⟩, hxo, ⟨hu.1, z2⟩, z2, ⟨_, rfl, rfl⟩, by omega, ?_⟩
    simp only [Bzhd, Bzhe, yzg hlt1, hxe, yz19 hxl, yzg z1, nat1 i _ hlt1 hM, go_sem, yz0, Int.reduceLT, reduceLE, reduceToNat, reduceNeg, Nat.reduceLT, reduceLeDiff, reduceMul, reduceSub, reduceIte, reduceEqDiff, reduceAdd, reduceCtorEq]
    refine ⟨⟨by omega, hlt1⟩, hlt1, ⟨hx.1, hxl⟩, hxl, ⟨hu.1, z1⟩, z1, ?_⟩
    refine ⟨(vs2 15 0, i + 1, (next.getD x.toNat []).getD u.toNat 0, r ++ [(out.getD x.toNat []).getD u.toNat 0]), by dsimp only; omega, ⟨by dsimp only; omega, hst, ?_, hat, by dsimp only; rw [List.length_append, hrl]; rfl⟩, rfl⟩
    dsimp only
    rw [← hr]
    simp only [outsA, List.append_assoc, List.cons_append, List.nil_append]
    rfl
  · have : i = w.length := by omega
    subst this
    rw [List.drop_length] at hr hat
    simp only [outsA, List.append_nil] at hr
    simp only [Bz3a, Bz7j, Bzhh, decide_eq_false hlt, Az7k, ← hQ, go_sem, yz0, Int.reduceLT, reduceLE, reduceToNat, reduceNeg, Nat.reduceLT, reduceLeDiff, reduceMul, reduceSub, reduceIte, reduceEqDiff, reduceAdd, reduceCtorEq]
    intro hM
    refine ⟨[10], by simp, by simp, by simp, ?_⟩
    simp only [range1, List.length_singleton, Nat.not_lt_zero, range1, yzy, yz12, yz1d, yz1e, yz10, yz1f, yz1c, yz1b, yz11, yzv, yzj, yz5, yzw, yzt, yzr, yzs, yzx, yz6, yz7, yzb, yzd, yzm, yzi, yz4, yzc, yz8, yza, yzk, yzh, List.range_zero, yz2, yz3, yz9, yzu, yzn, yzq, AVal.fresh, freshL, yz1, yzl, AObj.fresh, id, Option.isSome_some, or_true, true_or, go_sem, yz0, Int.reduceLT, reduceLE, reduceToNat, reduceNeg, Nat.reduceLT, reduceLeDiff, reduceMul, reduceSub, reduceIte, reduceEqDiff, reduceAdd, reduceCtorEq]
    exact ⟨va, by rw [hr], by rw [← hat]; rfl⟩
theorem k_OutputsOf (n o : Int) (next out : List (List Int)) (M : Mach n o next out) (s : Int) (hs : 0 ≤ s ∧ s < n) (w : List Int) (hw : IsW next.length w) (hwl : w.length ≤ 400) :
    Fn Try.prog nz1c [machA n o next out, iv s, .ro none 1 (ints w)] fun rows res => ∃ v, rows = [.row v 1 true (ints (outsA next out s w))] ∧ res = .tup [.own 6000 v, iv (atA next s w), iv 0] := by
  refine con_of mixed czkl rfl (by simp) ?_
  have n1 := M.aut.n1
  have n2 := M.aut.n2
  have l2 := M.aut.l2
  have hv : machB n o next out = true := machB_iff.2 M
  have e1 : (decide (0 ≤ s) && decide (s ≤ n - 1)) = true := by rw [decide_eq_true hs.1, decide_eq_true (show s ≤ n - 1 by omega)]; rfl
  have e2 : wordB next.length w = true := by
    simp only [wordB, Bool.and_eq_true, decide_eq_true_eq, allIn_iff]
    exact ⟨by omega, fun x hx => by have := hw x hx; omega⟩
  simp only [Azek, Bzej, go_sem, yz0, Int.reduceLT, reduceLE, reduceToNat, reduceNeg, Nat.reduceLT, reduceLeDiff, reduceMul, reduceSub, reduceIte, reduceEqDiff, reduceAdd, reduceCtorEq]
  intro vs vs2
  refine yzp (k_l06Ok n o next out) qCS trivial ?_
  simp only [hv, Bzee, Bzei, go_sem, yz0, Int.reduceLT, reduceLE, reduceToNat, reduceNeg, Nat.reduceLT, reduceLeDiff, reduceMul, reduceSub, reduceIte, reduceEqDiff, reduceAdd, reduceCtorEq]
  intro vs3
  refine yzp (k_l06State n o next out s ⟨n1, n2⟩) qCS trivial ?_
  simp only [e1, go_sem, yz0, Int.reduceLT, reduceLE, reduceToNat, reduceNeg, Nat.reduceLT, reduceLeDiff, reduceMul, reduceSub, reduceIte, reduceEqDiff, reduceAdd, reduceCtorEq]
  refine yzp (k_l06Word n o next out w (by omega)) qCS trivial ?_
  simp only [e2, Bzef, Bzeh, go_sem, yz0, Int.reduceLT, reduceLE, reduceToNat, reduceNeg, Nat.reduceLT, reduceLeDiff, reduceMul, reduceSub, reduceIte, reduceEqDiff, reduceAdd, reduceCtorEq]
  intro vs4
  refine call_fn (k_l06Run n o next out M s hs w hw (by omega)) qCS (fun e => by cases e) ?_
  rintro rows res ⟨v, rfl, rfl⟩
  refine ⟨by simp, by simp only [Option.getD_some, yzn]; rfl, ?_⟩
  simp only [Option.getD_some, List.length_singleton, Bzeg, Nat.not_lt_zero, range1, yzy, yz12, yz1d, yz1e, yz10, yz1f, yz1c, yz1b, yz11, yzv, yzj, yz5, yzw, yzt, yzr, yzs, yzx, yz6, yz7, yzb, yzd, yzm, yzi, yz4, yzc, yz8, yza, yzk, yzh, List.range_zero, yz2, yz3, yz9, yzu, yzn, yzq, AVal.fresh, freshL, yz1, yzl, AObj.fresh, id, Option.isSome_some, or_true, true_or, go_sem, yz0, Int.reduceLT, reduceLE, reduceToNat, reduceNeg, Nat.reduceLT, reduceLeDiff, reduceMul, reduceSub, reduceIte, reduceEqDiff, reduceAdd, reduceCtorEq]
  refine ⟨[26], by simp, by simp, by simp, ?_⟩
  simp only [range1, List.length_singleton, Nat.not_lt_zero, range1, yzy, yz12, yz1d, yz1e, yz10, yz1f, yz1c, yz1b, yz11, yzv, yzj, yz5, yzw, yzt, yzr, yzs, yzx, yz6, yz7, yzb, yzd, yzm, yzi, yz4, yzc, yz8, yza, yzk, yzh, List.range_zero, yz2, yz3, yz9, yzu, yzn, yzq, AVal.fresh, freshL, yz1, yzl, AObj.fresh, id, Option.isSome_some, or_true, true_or, go_sem, yz0, Int.reduceLT, reduceLE, reduceToNat, reduceNeg, Nat.reduceLT, reduceLeDiff, reduceMul, reduceSub, reduceIte, reduceEqDiff, reduceAdd, reduceCtorEq]
  exact ⟨_, rfl, rfl⟩
theorem k_f6apart (n o : Int) (next out : List (List Int)) (M : Mach n o next out) (s t : Int) (hs : 0 ≤ s ∧ s < n) (ht : 0 ≤ t ∧ t < n) (w : List Int) (hw : IsW next.length w) (hwl : w.length ≤ 400) :
    Fun Try.prog nzi [machA n o next out, iv s, iv t, .ro none 1 (ints w)] (bv (!decide (outsA next out s w = outsA next out t w))) := by
  refine fun_of mixed czk0 rfl ⟨rfl, trivial⟩ ?_
  simp only [Azay, Bzax, go_sem, yz0, Int.reduceLT, reduceLE, reduceToNat, reduceNeg, Nat.reduceLT, reduceLeDiff, reduceMul, reduceSub, reduceIte, reduceEqDiff, reduceAdd, reduceCtorEq]
  intro vs vs2
  refine call_fn (k_OutputsOf n o next out M s hs w hw hwl) qCS (fun e => by cases e) ?_
  rintro rows res ⟨v, rfl, rfl⟩
  refine ⟨by simp, by simp only [Option.getD_some, yzn]; rfl, ?_⟩
  simp only [Option.getD_some, List.length_singleton, Bzaw, Nat.not_lt_zero, range1, yzy, yz12, yz1d, yz1e, yz10, yz1f, yz1c, yz1b, yz11, yzv, yzj, yz5, yzw, yzt, yzr, yzs, yzx, yz6, yz7, yzb, yzd, yzm, yzi, yz4, yzc, yz8, yza, yzk, yzh, List.range_zero, yz2, yz3, yz9, yzu, yzn, yzq, AVal.fresh, freshL, yz1, yzl, AObj.fresh, id, Option.isSome_some, or_true, true_or, go_sem, yz0, Int.reduceLT, reduceLE, reduceToNat, reduceNeg, Nat.reduceLT, reduceLeDiff, reduceMul, reduceSub, reduceIte, reduceEqDiff, reduceAdd, reduceCtorEq]
  intro vs3
  refine call_fn (k_OutputsOf n o next out M t ht w hw hwl) qCS (fun e => by cases e) ?_
  rintro rows res ⟨v2, rfl, rfl⟩
  refine ⟨by simp, by simp only [Option.getD_some, yzn]; rfl, ?_⟩
  simp only [Option.getD_some, List.length_singleton, Bzav, beq_self_eq_true, Nat.not_lt_zero, range1, yzy, yz12, yz1d, yz1e, yz10, yz1f, yz1c, yz1b, yz11, yzv, yzj, yz5, yzw, yzt, yzr, yzs, yzx, yz6, yz7, yzb, yzd, yzm, yzi, yz4, yzc, yz8, yza, yzk, yzh, List.range_zero, yz2, yz3, yz9, yzu, yzn, yzq, AVal.fresh, freshL, yz1, yzl, AObj.fresh, id, Option.isSome_some, or_true, true_or, go_sem, yz0, Int.reduceLT, reduceLE, reduceToNat, reduceNeg, Nat.reduceLT, reduceLeDiff, reduceMul, reduceSub, reduceIte, reduceEqDiff, reduceAdd, reduceCtorEq]
  intro vs4
  refine yzp (k_f6ints (outsA next out s w) (outsA next out t w)) qCS trivial ?_
  simp only [go_sem, yz0, Int.reduceLT, reduceLE, reduceToNat, reduceNeg, Nat.reduceLT, reduceLeDiff, reduceMul, reduceSub, reduceIte, reduceEqDiff, reduceAdd, reduceCtorEq]
end Go.Ab
namespace Go.Ab
theorem lexP_irrefl : ∀ u : List Int, lexP u u = false
  | [] => rfl
  | x :: u => by simp only [lexP, if_pos rfl]; exact lexP_irrefl u
theorem lexP_trans : ∀ {u v w : List Int}, lexP u v = true → lexP v w = true → lexP u w = true
  | [], _, _, h, _ => by simp [lexP] at h
  | _ :: _, [], _, h, _ => by simp [lexP] at h
  | _ :: _, _ :: _, [], _, h => by simp [lexP] at h
  | x :: u, y :: v, z :: w, h1, h2 => by
    simp only [lexP] at h1 h2 ⊢
    by_cases e1 : x = y
    · subst e1
      rw [if_pos rfl] at h1
      by_cases e2 : x = z
      · subst e2
        rw [if_pos rfl] at h2 ⊢
        exact lexP_trans h1 h2
      · rw [if_neg e2] at h2 ⊢; exact h2
    · rw [if_neg e1] at h1
      by_cases e2 : y = z
      · subst e2
        rw [if_neg e1]; exact h1
      · rw [if_neg e2] at h2
        have h1 := of_decide_eq_true h1
        have h2 := of_decide_eq_true h2
        rw [if_neg (by omega)]; exact decide_eq_true (by omega)
theorem lexP_snoc : ∀ {u v : List Int} {x y : Int}, u.length = v.length → lexP u v = true → lexP (u ++ [x]) (v ++ [y]) = true
  | [], _, _, _, _, h => by simp [lexP] at h
  | _ :: _, [], _, _, _, h => by simp [lexP] at h
  | a :: u, b :: v, x, y, hl, h => by
    simp only [lexP, List.cons_append] at h ⊢
    by_cases e : a = b
    · rw [if_pos e] at h ⊢; exact lexP_snoc (by simpa using hl) h
    · rw [if_neg e] at h ⊢; exact h
theorem lexP_last : ∀ {u : List Int} {x y : Int}, x < y → lexP (u ++ [x]) (u ++ [y]) = true
  | [], x, y, h => by
    simp only [List.nil_append, lexP]
    rw [if_neg (by omega)]; exact decide_eq_true h
  | a :: u, x, y, h => by simp only [List.cons_append, lexP, if_pos rfl]; exact lexP_last h
theorem befP_len {u v : List Int} (h : u.length < v.length) : befP u v = true := by
  rw [befP, if_neg (by omega)]; exact decide_eq_true h
theorem befP_le {u v : List Int} (h : befP u v = true) : u.length ≤ v.length := by
  rw [befP] at h
  split at h
  · omega
  · have := of_decide_eq_true h; omega
theorem befP_irrefl (u : List Int) : befP u u = false := by rw [befP, if_pos rfl]; exact lexP_irrefl u
theorem befP_trans {u v w : List Int} (h1 : befP u v = true) (h2 : befP v w = true) : befP u w = true := by
  have l1 := befP_le h1
  have l2 := befP_le h2
  by_cases e : u.length = w.length
  · rw [befP, if_pos (by omega)] at h1 h2 ⊢
    exact lexP_trans h1 h2
  · exact befP_len (by omega)
theorem befP_snoc {u v : List Int} {x y : Int} (h : befP u v = true) : befP (u ++ [x]) (v ++ [y]) = true := by
  have l1 := befP_le h
  by_cases e : u.length = v.length
  · rw [befP, if_pos e] at h
    rw [befP, if_pos (by simp [e])]
    exact lexP_snoc e h
  · exact befP_len (by simp; omega)
theorem befP_last {u : List Int} {x y : Int} (h : x < y) : befP (u ++ [x]) (u ++ [y]) = true := by
  rw [befP, if_pos (by simp)]; exact lexP_last h
def leP (u v : List Int) : Prop := befP u v = true ∨ u = v
theorem leP_trans {u v w : List Int} (h1 : leP u v) (h2 : leP v w) : leP u w := by
  rcases h1 with h1 | rfl
  · rcases h2 with h2 | rfl
    · exact .inl (befP_trans h1 h2)
    · exact .inl h1
  · exact h2
theorem leP_app (u v : List Int) : leP u (u ++ v) := by
  cases v with
  | nil => exact .inr (by simp)
  | cons a v => exact .inl (befP_len (by simp))
theorem leP_not {u v : List Int} (h : leP u v) : befP v u = false := by
  cases hb : befP v u with
  | false => rfl
  | true =>
    rcases h with h | rfl
    · have := befP_trans h hb
      rw [befP_irrefl] at this; cases this
    · rw [befP_irrefl] at hb; cases hb
def pairW (na nb : List (List Int)) : Nat × Nat → List Int → Nat × Nat
  | p, [] => p
  | p, x :: w => pairW na nb (stepP na nb p x.toNat) w
def difW (na nb oa ob : List (List Int)) : Nat × Nat → List Int → Bool
  | _, [] => false
  | p, x :: w => difP oa ob p x.toNat || difW na nb oa ob (stepP na nb p x.toNat) w
theorem pairW_app {na nb : List (List Int)} : ∀ (u v : List Int) (p : Nat × Nat), pairW na nb p (u ++ v) = pairW na nb (pairW na nb p u) v
  | [], _, _ => rfl
  | x :: u, v, p => by simp only [List.cons_append, pairW, pairW_app u v]
theorem difW_app {na nb oa ob : List (List Int)} : ∀ (u v : List Int) (p : Nat × Nat), difW na nb oa ob p (u ++ v) = (difW na nb oa ob p u || difW na nb oa ob (pairW na nb p u) v)
  | [], _, _ => by simp [difW, pairW]
  | x :: u, v, p => by simp only [List.cons_append, difW, pairW, difW_app u v, Bool.or_assoc]
def isWd (k : Nat) (w : List Int) : Prop := ∀ x ∈ w, 0 ≤ x ∧ x < k
structure BI (na nb oa ob : List (List Int)) (p0 : Nat × Nat) (i : Nat) (L : PS) : Prop where
  ok : ∀ q ∈ L, q.1 = pairW na nb p0 q.2 ∧ difW na nb oa ob p0 q.2 = false ∧ isWd na.length q.2
  so : L.Pairwise fun a b => befP a.2 b.2 = true
  par : ∀ q ∈ L, q.2 = [] ∨ ∃ j < i, ∃ y, q.2 = (L.getD j ((0, 0), [])).2 ++ [y]
  cl : ∀ a < i, ∀ x < na.length, difP oa ob (L.getD a ((0, 0), [])).1 x = false ∧ ∃ q ∈ L, q.1 = stepP na nb (L.getD a ((0, 0), [])).1 x ∧ leP q.2 ((L.getD a ((0, 0), [])).2 ++ [(x : Int)])
  le : i ≤ L.length
  nil : ∃ q ∈ L, q.1 = p0 ∧ q.2 = []
theorem so_lt {L : PS} (h : L.Pairwise fun a b => befP a.2 b.2 = true) {i j : Nat} (hij : i < j) (hj : j < L.length) : befP (L.getD i ((0, 0), [])).2 (L.getD j ((0, 0), [])).2 = true := by
  have := (List.pairwise_iff_getElem.1 h) i j (by omega) hj hij
  rw [List.getD_eq_getElem?_getD, List.getElem?_eq_getElem (show i < L.length by omega), List.getD_eq_getElem?_getD, List.getElem?_eq_getElem hj]
  exact this
theorem BI0 {na nb oa ob : List (List Int)} {p0 : Nat × Nat} : BI na nb oa ob p0 0 [(p0, [])] where
  ok := fun q hq => by rw [List.mem_singleton.1 hq]; exact ⟨rfl, rfl, by simp [isWd]⟩
  so := by simp
  par := fun q hq => by rw [List.mem_singleton.1 hq]; exact .inl rfl
  cl := fun a h => by omega
  le := by simp
  nil := ⟨(p0, []), by simp, rfl, rfl⟩
structure BV (na nb oa ob : List (List Int)) (p0 : Nat × Nat) (i : Nat) (L : PS) (x : Nat) (L' : PS) : Prop where
  sub : ∃ t, L' = L ++ t
  ok : ∀ q ∈ L', q.1 = pairW na nb p0 q.2 ∧ difW na nb oa ob p0 q.2 = false ∧ isWd na.length q.2
  so : L'.Pairwise fun a b => befP a.2 b.2 = true
  par : ∀ q ∈ L', q.2 = [] ∨ (∃ j < i, ∃ y, q.2 = (L.getD j ((0, 0), [])).2 ++ [y]) ∨ ∃ y < x, q.2 = (L.getD i ((0, 0), [])).2 ++ [(y : Int)]
  cl : ∀ y < x, ∃ q ∈ L', q.1 = stepP na nb (L.getD i ((0, 0), [])).1 y ∧ leP q.2 ((L.getD i ((0, 0), [])).2 ++ [(y : Int)])
theorem visP_BV {na nb oa ob : List (List Int)} {p0 : Nat × Nat} {i : Nat} {L : PS} (h : BI na nb oa ob p0 i L) (hi : i < L.length) (hd : ∀ x < na.length, difP oa ob (L.getD i ((0, 0), [])).1 x = false) :
    ∀ x, x ≤ na.length → BV na nb oa ob p0 i L x (visP na nb (L.getD i ((0, 0), [])).1 (L.getD i ((0, 0), [])).2 x L)
  | 0, _ => by
    refine ⟨⟨[], by simp [visP]⟩, h.ok, h.so, fun q hq => ?_, fun y hy => by omega⟩
    rcases h.par q hq with e | ⟨j, hj, y, e⟩
    · exact .inl e
    · exact .inr (.inl ⟨j, hj, y, e⟩)
  | x + 1, hx => by
    have V := visP_BV h hi hd x (by omega)
    have hm := yzo hi ((0, 0), ([] : List Int))
    obtain ⟨k1, k2, k3⟩ := h.ok _ hm
    rw [visP_succ]
    generalize visP na nb (L.getD i ((0, 0), [])).1 (L.getD i ((0, 0), [])).2 x L = L' at V ⊢
    generalize hp : L.getD i ((0, 0), []) = p at V hd k1 k2 k3 ⊢
    have hall : ∀ q ∈ L', befP q.2 (p.2 ++ [(x : Int)]) = true := fun q hq => by
      rcases V.par q hq with e | ⟨j, hj, y, e⟩ | ⟨y, hy, e⟩
      · rw [e]; exact befP_len (by simp)
      · rw [e]
        have := so_lt h.so hj hi
        rw [hp] at this
        exact befP_snoc this
      · rw [e, hp]; exact befP_last (by omega)
    split
    · rename_i hh
      obtain ⟨q, hq, e⟩ := List.mem_map.1 (hasP_iff.1 hh)
      refine ⟨V.sub, V.ok, V.so, fun q hq => ?_, fun y hy => ?_⟩
      · rcases V.par q hq with e | e | ⟨y, hy, e⟩
        · exact .inl e
        · exact .inr (.inl e)
        · exact .inr (.inr ⟨y, by omega, e⟩)
      · rw [hp]
        by_cases ey : y < x
        · have := V.cl y ey; rwa [hp] at this
        · have : y = x := by omega
          subst this
          exact ⟨q, hq, e, .inl (hall q hq)⟩
    · obtain ⟨t, ht⟩ := V.sub
      refine ⟨⟨t ++ [(stepP na nb p.1 x, p.2 ++ [(x : Int)])], by rw [ht, List.append_assoc]⟩, fun q hq => ?_, ?_, fun q hq => ?_, fun y hy => ?_⟩
      · rcases List.mem_append.1 hq with hq | hq
        · exact V.ok q hq
        · rw [List.mem_singleton.1 hq]
          dsimp only
          refine ⟨?_, ?_, fun z hz => ?_⟩
          · rw [pairW_app, ← k1]; simp [pairW]
          · rw [difW_app, k2, ← k1]
            have := hd x (by omega)
            simp [difW, this]
          · rcases List.mem_append.1 hz with hz | hz
            · exact k3 z hz
            · rw [List.mem_singleton.1 hz]; omega
      · rw [List.pairwise_append]
        refine ⟨V.so, by simp, fun a ha b hb => ?_⟩
        rw [List.mem_singleton.1 hb]; exact hall a ha
      · rcases List.mem_append.1 hq with hq | hq
        · rcases V.par q hq with e | e | ⟨y, hy, e⟩
          · exact .inl e
          · exact .inr (.inl e)
          · exact .inr (.inr ⟨y, by omega, e⟩)
        · rw [List.mem_singleton.1 hq]
          exact .inr (.inr ⟨x, by omega, by rw [hp]⟩)
      · rw [hp]
        by_cases ey : y < x
        · obtain ⟨q, hq, h1, h2⟩ := V.cl y ey
          rw [hp] at h1 h2
          exact ⟨q, List.mem_append.2 (.inl hq), h1, h2⟩
        · have : y = x := by omega
          subst this
          exact ⟨_, List.mem_append.2 (.inr (List.mem_singleton.2 rfl)), rfl, .inr rfl⟩
theorem BI_succ {na nb oa ob : List (List Int)} {p0 : Nat × Nat} {i : Nat} {L : PS} (h : BI na nb oa ob p0 i L) (hi : i < L.length) (hd : ∀ x < na.length, difP oa ob (L.getD i ((0, 0), [])).1 x = false) :
    BI na nb oa ob p0 (i + 1) (visP na nb (L.getD i ((0, 0), [])).1 (L.getD i ((0, 0), [])).2 na.length L) := by
  have V := visP_BV h hi hd na.length (Nat.le_refl _)
  generalize visP na nb (L.getD i ((0, 0), [])).1 (L.getD i ((0, 0), [])).2 na.length L = L' at V ⊢
  obtain ⟨t, rfl⟩ := V.sub
  have g : ∀ j, j ≤ i → (L ++ t).getD j ((0, 0), []) = L.getD j ((0, 0), []) := fun j hj => getD_app (by omega) _
  refine ⟨V.ok, V.so, fun q hq => ?_, fun a ha x hx => ?_, by rw [List.length_append]; omega, ?_⟩
  · rcases V.par q hq with e | ⟨j, hj, y, e⟩ | ⟨y, hy, e⟩
    · exact .inl e
    · exact .inr ⟨j, by omega, y, by rw [g j (by omega)]; exact e⟩
    · exact .inr ⟨i, by omega, y, by rw [g i (by omega)]; exact e⟩
  · rw [g a (by omega)]
    by_cases e : a < i
    · obtain ⟨h1, q, hq, h2, h3⟩ := h.cl a e x hx
      exact ⟨h1, q, List.mem_append.2 (.inl hq), h2, h3⟩
    · have : a = i := by omega
      subst this
      exact ⟨hd x hx, V.cl x hx⟩
  · obtain ⟨q, hq, h1⟩ := h.nil
    exact ⟨q, List.mem_append.2 (.inl hq), h1⟩
theorem BI_word {na nb oa ob : List (List Int)} {p0 : Nat × Nat} {i : Nat} {L : PS} (h : BI na nb oa ob p0 i L) (m : Nat) (u : List Int) (hl : u.length = m) (hu : isWd na.length u) :
    (difW na nb oa ob p0 u = false ∧ ∃ q ∈ L, q.1 = pairW na nb p0 u ∧ leP q.2 u) ∨
    ∃ u' y r b, u = u' ++ y :: r ∧ i ≤ b ∧ b < L.length ∧ (L.getD b ((0, 0), [])).1 = pairW na nb p0 u' ∧ leP (L.getD b ((0, 0), [])).2 u' := by
  induction m generalizing u with
  | zero =>
    have : u = [] := List.length_eq_zero_iff.1 hl
    subst this
    obtain ⟨q, hq, h1, h2⟩ := h.nil
    exact .inl ⟨rfl, q, hq, h1, .inr h2⟩
  | succ m ih =>
    have hne : u ≠ [] := fun e => by rw [e] at hl; simp at hl
    obtain ⟨v, x, rfl⟩ : ∃ v x, u = v ++ [x] := ⟨u.dropLast, u.getLast hne, (List.dropLast_concat_getLast hne).symm⟩
    have hvl : v.length = m := by simpa using hl
    have hx := hu x (by simp)
    rcases ih v hvl (fun z hz => hu z (List.mem_append.2 (.inl hz))) with ⟨h1, q, hq, h2, h3⟩ | ⟨u', y, r, b, h1, h2, h3, h4, h5⟩
    · obtain ⟨b, hb, rfl⟩ := List.getElem_of_mem hq
      have hg : L.getD b ((0, 0), []) = L[b] := by rw [List.getD_eq_getElem?_getD, List.getElem?_eq_getElem hb]; rfl
      by_cases e : b < i
      · obtain ⟨c1, q2, hq2, c2, c3⟩ := h.cl b e x.toNat (by omega)
        rw [hg] at c1 c2 c3
        have ex : ((x.toNat : Nat) : Int) = x := by omega
        rw [ex] at c3
        refine .inl ⟨?_, q2, hq2, ?_, ?_⟩
        · rw [difW_app, h1, ← h2]; simp [difW, c1]
        · rw [pairW_app, ← h2, c2]; rfl
        · refine leP_trans c3 ?_
          rcases h3 with h3 | h3
          · exact .inl (befP_snoc h3)
          · rw [h3]; exact .inr rfl
      · exact .inr ⟨v, x, [], b, rfl, by omega, hb, by rw [hg]; exact h2, by rw [hg]; exact h3⟩
    · exact .inr ⟨u', y, r ++ [x], b, by rw [h1]; simp, h2, h3, h4, h5⟩
theorem runP_first {na nb oa ob : List (List Int)} {p0 : Nat × Nat} : ∀ (F i : Nat) (L : PS) (w : List Int), BI na nb oa ob p0 i L → runP na nb oa ob F i L = some w →
    difW na nb oa ob p0 w = true ∧ isWd na.length w ∧ ∀ u, isWd na.length u → befP u w = true → difW na nb oa ob p0 u = false
  | 0, _, _, _, _, h => by simp [runP] at h
  | F + 1, i, L, w, hB, h => by
    simp only [runP] at h
    split at h
    · rename_i hi
      have hm := yzo hi ((0, 0), ([] : List Int))
      split at h
      · rename_i x hf
        cases h
        have hx : x < na.length := by simpa using List.mem_of_find?_eq_some hf
        have hdx : difP oa ob (L.getD i ((0, 0), [])).1 x = true := List.find?_some hf
        have hbef : ∀ y < x, difP oa ob (L.getD i ((0, 0), [])).1 y = false := fun y hy => by
          obtain ⟨_, la, lb, hab, hno⟩ := List.find?_eq_some_iff_append.1 hf
          have hl : la.length = x := by
            have e1 : (List.range na.length)[la.length]? = some x := by rw [hab]; simp
            have e2 : la.length < na.length := by
              have := congrArg List.length hab
              simp at this; omega
            rw [List.getElem?_range e2] at e1
            simpa using e1
          have e3 : la = List.range x := by
            have e4 : (List.range na.length).take la.length = la := by rw [hab]; simp
            rw [List.take_range, hl, Nat.min_eq_left (by omega)] at e4
            exact e4.symm
          have := hno y (by rw [e3]; simpa using hy)
          simpa using this
        obtain ⟨k1, k2, k3⟩ := hB.ok _ hm
        have hso : ∀ b, i ≤ b → b < L.length → leP (L.getD i ((0, 0), [])).2 (L.getD b ((0, 0), [])).2 := fun b h1 h2 => by
          by_cases e : i = b
          · subst e; exact .inr rfl
          · exact .inl (so_lt hB.so (by omega) h2)
        generalize L.getD i ((0, 0), []) = p at hdx hbef k1 k2 k3 hso ⊢
        refine ⟨?_, fun z hz => ?_, fun u hu hlt => ?_⟩
        · rw [difW_app, k2, ← k1]; simp [difW, hdx]
        · rcases List.mem_append.1 hz with hz | hz
          · exact k3 z hz
          · rw [List.mem_singleton.1 hz]; omega
        · cases hdu : difW na nb oa ob p0 u with
          | false => rfl
          | true =>
            exfalso
            rcases BI_word hB u.length u rfl hu with ⟨h1, _⟩ | ⟨u', y, r, b, rfl, h2, h3, h4, h5⟩
            · rw [hdu] at h1; cases h1
            · have hy := hu y (by simp)
              have hle := leP_trans (hso b h2 h3) h5
              have hua : leP (u' ++ [y]) (u' ++ y :: r) := by
                have : u' ++ y :: r = (u' ++ [y]) ++ r := by simp
                rw [this]; exact leP_app _ _
              rcases hle with hle | hle
              · have := leP_not (leP_trans (.inl (befP_snoc (x := (x : Int)) (y := y) hle)) hua)
                rw [hlt] at this; cases this
              · rw [← hle] at hua hlt hdu
                rcases Int.lt_trichotomy y x with hyx | hyx | hyx
                · have hd0 := hbef y.toNat (by omega)
                  rw [difW_app, k2, ← k1] at hdu
                  simp only [difW, hd0, Bool.false_or] at hdu
                  have hr : r ≠ [] := fun e => by rw [e] at hdu; simp [difW] at hdu
                  have hrl : 0 < r.length := List.length_pos_iff.2 hr
                  have := befP_le hlt
                  rw [List.length_append, List.length_append, List.length_cons, List.length_singleton] at this; omega
                · rw [hyx] at hua
                  have := leP_not hua
                  rw [hyx] at hlt
                  rw [hlt] at this; cases this
                · have := leP_not (leP_trans (.inl (befP_last (u := p.2) hyx)) hua)
                  rw [hlt] at this; cases this
      · rename_i hf
        have hd : ∀ x < na.length, difP oa ob (L.getD i ((0, 0), [])).1 x = false := fdP_none.1 hf
        exact runP_first F (i + 1) _ w (BI_succ hB hi hd) h
    · cases h
theorem apartQ_first {na nb oa ob : List (List Int)} {s t : Nat} {w : List Int} (h : apartQ na nb oa ob s t = some w) :
    difW na nb oa ob (s, t) w = true ∧ isWd na.length w ∧ ∀ u, isWd na.length u → befP u w = true → difW na nb oa ob (s, t) u = false := runP_first 200 0 _ w BI0 h
theorem difW_bis {na nb oa ob : List (List Int)} {R : Nat × Nat → Prop} (B : Bis na nb oa ob R) : ∀ (w : List Int) (p : Nat × Nat), R p → isWd na.length w → difW na nb oa ob p w = false
  | [], _, _, _ => rfl
  | x :: w, p, hp, hw => by
    have hx := hw x (by simp)
    have := B p hp x.toNat (by omega)
    simp only [difW, this.1, Bool.false_or]
    exact difW_bis B w _ this.2 fun y hy => hw y (List.mem_cons_of_mem _ hy)
theorem outs_iff {n o : Int} {next out : List (List Int)} (A : Aut n next) : ∀ (w : List Int) (s t : Nat), s < n.toNat → t < n.toNat → isWd next.length w →
    (outsA next out (s : Int) w = outsA next out (t : Int) w ↔ difW next next out out (s, t) w = false)
  | [], _, _, _, _, _ => by simp [outsA, difW]
  | x :: w, s, t, hs, ht, hw => by
    have hx := hw x (by simp)
    have hxl : x.toNat < next.length := by omega
    have r := A.row _ (yzo hxl [])
    have zs : s < (next.getD x.toNat []).length := by omega
    have zt : t < (next.getD x.toNat []).length := by omega
    have hs2 := r.2 _ (yzo zs 0)
    have ht2 := r.2 _ (yzo zt 0)
    have es : stepA next (s : Int) x = ((stepP next next (s, t) x.toNat).1 : Int) := by
      simp only [stepA, stepP, Int.toNat_natCast]; omega
    have et : stepA next (t : Int) x = ((stepP next next (s, t) x.toNat).2 : Int) := by
      simp only [stepA, stepP, Int.toNat_natCast]; omega
    have ih := outs_iff (o := o) (out := out) A w (stepP next next (s, t) x.toNat).1 (stepP next next (s, t) x.toNat).2 (by simp only [stepP]; omega) (by simp only [stepP]; omega) fun y hy => hw y (List.mem_cons_of_mem _ hy)
    simp only [outsA, difW, List.cons.injEq, es, et, ih, Bool.or_eq_false_iff]
    simp only [outA, difP, Int.toNat_natCast, bne_eq_false_iff_eq]
def eqW (next out : List (List Int)) (j : Nat) (s t : Nat) : Prop := ∀ u, isWd next.length u → u.length ≤ j → outsA next out (s : Int) u = outsA next out (t : Int) u
theorem filter_lt {α : Type} {p q : α → Bool} : ∀ {l : List α}, (∀ x ∈ l, p x = true → q x = true) → (∃ x ∈ l, q x = true ∧ p x = false) → (l.filter p).length < (l.filter q).length
  | [], _, h => by obtain ⟨x, hx, _⟩ := h; simp at hx
  | a :: l, h1, ⟨x, hx, h2, h3⟩ => by
    have hle : ∀ {l : List α}, (∀ x ∈ l, p x = true → q x = true) → (l.filter p).length ≤ (l.filter q).length := by
      intro l
      induction l with
      | nil => intro _; simp
      | cons b l ih =>
        intro h
        have := ih fun x hx => h x (List.mem_cons_of_mem _ hx)
        cases hp : p b with
        | true =>
          have hq := h b (by simp) hp
          rw [List.filter_cons_of_pos hp, List.filter_cons_of_pos hq]; simp; omega
        | false =>
          rw [List.filter_cons_of_neg (by simp [hp])]
          cases hq : q b with
          | true => rw [List.filter_cons_of_pos hq]; simp; omega
          | false => rw [List.filter_cons_of_neg (by simp [hq])]; exact this
    have ht := fun x hx => h1 x (List.mem_cons_of_mem _ hx)
    rcases List.mem_cons.1 hx with rfl | hx
    · rw [List.filter_cons_of_neg (by simp [h3]), List.filter_cons_of_pos h2, List.length_cons]
      exact Nat.lt_succ_of_le (hle ht)
    · have ih := filter_lt ht ⟨x, hx, h2, h3⟩
      cases hp : p a with
      | true =>
        have hq := h1 a (by simp) hp
        rw [List.filter_cons_of_pos hp, List.filter_cons_of_pos hq]; simp; omega
      | false =>
        rw [List.filter_cons_of_neg (by simp [hp])]
        cases hq : q a with
        | true => rw [List.filter_cons_of_pos hq]; simp; omega
        | false => rw [List.filter_cons_of_neg (by simp [hq])]; exact ih
open Classical in
noncomputable def firstW (next out : List (List Int)) (n j : Nat) : List Nat := (List.range n).filter fun s => decide (∀ t < s, ¬ eqW next out j t s)
theorem least_of {P : Nat → Prop} {m : Nat} (h : P m) : ∃ r, r ≤ m ∧ P r ∧ ∀ t < r, ¬ P t := by
  induction m using Nat.strongRecOn with
  | _ m ih =>
    by_cases e : ∃ t, t < m ∧ P t
    · obtain ⟨t, ht, hP⟩ := e
      obtain ⟨r, h1, h2, h3⟩ := ih t ht hP
      exact ⟨r, by omega, h2, h3⟩
    · exact ⟨m, Nat.le_refl _, h, fun t ht hP => e ⟨t, ht, hP⟩⟩
open Classical in
theorem firstW_step {next out : List (List Int)} {n j p q : Nat} (hp : p < n) (hq : q < n) (h1 : eqW next out j p q) (h2 : ¬ eqW next out (j + 1) p q) :
    (firstW next out n j).length < (firstW next out n (j + 1)).length := by
  have mono : ∀ s t, eqW next out (j + 1) s t → eqW next out j s t := fun s t h u hu hl => h u hu (by omega)
  have tr : ∀ {i s t u}, eqW next out i s t → eqW next out i t u → eqW next out i s u := fun a b v hv hl => (a v hv hl).trans (b v hv hl)
  have sy : ∀ {i s t}, eqW next out i s t → eqW next out i t s := fun a v hv hl => (a v hv hl).symm
  refine filter_lt (fun s _ h => decide_eq_true fun t ht he => of_decide_eq_true h t ht (mono _ _ he)) ?_
  obtain ⟨r, hr1, hr2, hr3⟩ := least_of (P := fun t => eqW next out j t p) (m := p) fun _ _ _ => rfl
  have hz : ∃ z, z < n ∧ eqW next out j r z ∧ ¬ eqW next out (j + 1) r z := by
    by_cases e : eqW next out (j + 1) r p
    · exact ⟨q, hq, tr hr2 h1, fun e2 => h2 (tr (sy e) e2)⟩
    · exact ⟨p, hp, hr2, e⟩
  obtain ⟨z, hz1, hz2, hz3⟩ := hz
  obtain ⟨r', h5, h6, h7⟩ := least_of (P := fun t => eqW next out (j + 1) t z) (m := z) fun _ _ _ => rfl
  have hrp : eqW next out j r' p := tr (mono _ _ h6) (tr (sy hz2) hr2)
  have hlt : r < r' := by
    rcases Nat.lt_trichotomy r r' with h | h | h
    · exact h
    · subst h; exact absurd h6 hz3
    · exact absurd hrp (hr3 r' h)
  refine ⟨r', List.mem_range.2 (by omega), decide_eq_true fun t ht he => h7 t ht (tr he h6), decide_eq_false fun h => h r hlt ?_⟩
  exact tr hr2 (sy hrp)
open Classical in
theorem firstW_ge {next out : List (List Int)} {n l : Nat} (hn : 1 ≤ n) (h : ∀ j < l, ∃ p q, p < n ∧ q < n ∧ eqW next out j p q ∧ ¬ eqW next out (j + 1) p q) : ∀ j, j ≤ l → j + 1 ≤ (firstW next out n j).length
  | 0, _ => by
    have : 0 ∈ firstW next out n 0 := List.mem_filter.2 ⟨List.mem_range.2 (by omega), decide_eq_true fun t ht => by omega⟩
    exact List.length_pos_of_mem this
  | j + 1, hj => by
    have ih := firstW_ge hn h j (by omega)
    obtain ⟨p, q, h1, h2, h3, h4⟩ := h j (by omega)
    have := firstW_step h1 h2 h3 h4
    omega
theorem stepP_in {n : Int} {next : List (List Int)} (A : Aut n next) {p : Nat × Nat} {x : Nat} (h : p.1 < n.toNat ∧ p.2 < n.toNat) (hx : x < next.length) : (stepP next next p x).1 < n.toNat ∧ (stepP next next p x).2 < n.toNat := by
  have r := A.row _ (yzo hx [])
  have z1 : p.1 < (next.getD x []).length := by omega
  have z2 : p.2 < (next.getD x []).length := by omega
  have h1 := r.2 _ (yzo z1 0)
  have h2 := r.2 _ (yzo z2 0)
  simp only [stepP]; omega
theorem pairW_in {n : Int} {next : List (List Int)} (A : Aut n next) : ∀ (w : List Int) (p : Nat × Nat), p.1 < n.toNat ∧ p.2 < n.toNat → isWd next.length w → (pairW next next p w).1 < n.toNat ∧ (pairW next next p w).2 < n.toNat
  | [], _, h, _ => h
  | x :: w, p, h, hw => by
    have hx := hw x (by simp)
    exact pairW_in A w _ (stepP_in A h (by omega)) fun y hy => hw y (List.mem_cons_of_mem _ hy)
theorem apartQ_short {n : Int} {next out : List (List Int)} (A : Aut n next) {s t : Nat} (hs : s < n.toNat) (ht : t < n.toNat) {w : List Int} (h : apartQ next next out out s t = some w) : w.length < n.toNat := by
  obtain ⟨h1, h2, h3⟩ := apartQ_first h
  have hG := firstW_ge (next := next) (out := out) (n := n.toNat) (l := w.length) (by omega) (fun j hj => by
    have e : w.take (w.length - (j + 1)) ++ w.drop (w.length - (j + 1)) = w := List.take_append_drop _ _
    generalize hA : w.take (w.length - (j + 1)) = a at e
    generalize hB : w.drop (w.length - (j + 1)) = b at e
    have la : a.length = w.length - (j + 1) := by rw [← hA, List.length_take]; omega
    have lb : b.length = j + 1 := by rw [← hB, List.length_drop]; omega
    have wa : isWd next.length a := fun x hx => h2 x (by rw [← e]; exact List.mem_append.2 (.inl hx))
    have wb : isWd next.length b := fun x hx => h2 x (by rw [← e]; exact List.mem_append.2 (.inr hx))
    have hp := pairW_in A a (s, t) ⟨hs, ht⟩ wa
    refine ⟨_, _, hp.1, hp.2, fun u hu hl => ?_, fun hE => ?_⟩
    · rw [outs_iff (o := 0) A u _ _ hp.1 hp.2 hu]
      have h4 := h3 (a ++ u) (fun x hx => by rcases List.mem_append.1 hx with hx | hx; exact wa x hx; exact hu x hx) (befP_len (by rw [List.length_append]; omega))
      rw [difW_app, Bool.or_eq_false_iff] at h4
      exact h4.2
    · have h4 := hE b wb (by omega)
      rw [outs_iff (o := 0) A b _ _ hp.1 hp.2 wb] at h4
      have h5 := h3 a wa (befP_len (by omega))
      rw [← e, difW_app, h5, Bool.false_or] at h1
      have : difW next next out out (pairW next next (s, t) a) b = false := h4
      rw [h1] at this; cases this) w.length (Nat.le_refl _)
  have hle : (firstW next out n.toNat w.length).length ≤ n.toNat := by
    unfold firstW
    refine Nat.le_trans (List.length_filter_le _ _) ?_
    rw [List.length_range]; exact Nat.le_refl _
  omega
end Go.Ab
namespace Go.Ab
theorem eqvP_outs {n : Int} {next out : List (List Int)} (A : Aut n next) {s t : Nat} (hs : s < n.toNat) (ht : t < n.toNat) : eqvP next out s t = true ↔ ∀ w, isWd next.length w → outsA next out (s : Int) w = outsA next out (t : Int) w := by
  constructor
  · intro h w hw
    obtain ⟨R, B, hR⟩ := (eqvP_iff A ⟨hs, ht⟩).1 h
    exact (outs_iff (o := 0) A w s t hs ht hw).2 (difW_bis B w _ hR hw)
  · intro h
    cases ha : apartQ next next out out s t with
    | none => rw [eqvP, ha]; rfl
    | some w =>
      obtain ⟨h1, h2, _⟩ := apartQ_first ha
      have := (outs_iff (o := 0) A w s t hs ht h2).1 (h w h2)
      rw [h1] at this; cases this
end Go.Ab
namespace Go.Ab
def selN (to order row : List Int) : List Int := order.map fun s => to.getD (row.getD s.toNat 0).toNat 0
def selO (order row : List Int) : List Int := order.map fun s => row.getD s.toNat 0
theorem memg {α : Type} {xs : List α} {x d : α} (h : x ∈ xs) : ∃ j, j < xs.length ∧ xs.getD j d = x := by
  obtain ⟨j, hj⟩ := List.getElem?_of_mem h
  obtain ⟨h1, h2⟩ := List.getElem?_eq_some_iff.1 hj
  exact ⟨j, h1, by simp [List.getD_eq_getElem?_getD, hj]⟩
theorem appg_new {α : Type} {xs : List α} {y d : α} : (xs ++ [y]).getD xs.length d = y := by
  simp [List.getD_eq_getElem?_getD]
theorem step_rg {n : Int} {next : List (List Int)} (A : Aut n next) {s x : Int} (hs : 0 ≤ s ∧ s < n) (hx : 0 ≤ x ∧ x < next.length) : 0 ≤ stepA next s x ∧ stepA next s x < n := by
  have r := A.row _ (yzo (show x.toNat < next.length by omega) [])
  exact r.2 _ (yzo (show s.toNat < (next.getD x.toNat []).length by omega) 0)
theorem cls_take (next out : List (List Int)) {k : Nat} : ∀ {m : Nat}, k ≤ m → (clsP next out k).2 = (clsP next out m).2.take k
  | 0, h => by
    have : k = 0 := by omega
    subst this; simp [clsP]
  | m + 1, h => by
    by_cases e : k ≤ m
    · have ih := cls_take next out e
      have hl := (clsP_len next out m).1
      rw [ih]
      simp only [clsP]
      generalize clsP next out m = C at hl ⊢
      obtain ⟨c, r⟩ := C
      dsimp only at hl ⊢
      split <;> dsimp only <;> rw [List.take_append_of_le_length (by omega)]
    · have : k = m + 1 := by omega
      subst this
      rw [List.take_of_length_le]
      have := (clsP_len next out (m + 1)).1
      omega
theorem cls_step (next out : List (List Int)) {k m : Nat} (h : k < m) : ((clsP next out m).2.getD k 0 = ((clsP next out k).1 : Int) ∧ (clsP next out (k + 1)).1 = (clsP next out k).1 + 1) ∨
    ((clsP next out m).2.getD k 0 < ((clsP next out k).1 : Int) ∧ (clsP next out (k + 1)).1 = (clsP next out k).1) := by
  have e := cls_take next out (k := k + 1) (m := m) h
  have hm := (clsP_len next out m).1
  obtain ⟨h1, h2, h3⟩ := clsP_len next out k
  have g : (clsP next out m).2.getD k 0 = (clsP next out (k + 1)).2.getD k 0 := by
    rw [e, List.getD_eq_getElem?_getD, List.getD_eq_getElem?_getD, List.getElem?_take_of_lt (by omega)]
  rw [g]
  simp only [clsP]
  generalize clsP next out k = C at h1 h2 h3 ⊢
  obtain ⟨c, r⟩ := C
  dsimp only at h1 h2 h3 ⊢
  split
  · rename_i t hf
    have ht : t < k := by simpa using List.mem_of_find?_eq_some hf
    right
    refine ⟨?_, rfl⟩
    have e2 : (r ++ [r.getD t 0]).getD k 0 = r.getD t 0 := by rw [← h1]; exact appg_new
    dsimp only
    rw [e2]
    exact (h3 _ (yzo (by omega) 0)).2
  · left
    refine ⟨?_, rfl⟩
    dsimp only
    rw [← h1]; exact appg_new
theorem cls_mem (next out : List (List Int)) : ∀ k, ∀ i < (clsP next out k).1, (i : Int) ∈ (clsP next out k).2
  | 0, i, h => by simp [clsP] at h
  | k + 1, i, h => by
    have ih := cls_mem next out k
    have e := cls_take next out (show k ≤ k + 1 by omega)
    have hl := (clsP_len next out (k + 1)).1
    rcases cls_step next out (show k < k + 1 by omega) with ⟨h1, h2⟩ | ⟨h1, h2⟩
    · by_cases e2 : i < (clsP next out k).1
      · exact List.mem_of_mem_take (e ▸ ih i e2)
      · have : i = (clsP next out k).1 := by omega
        rw [this, ← h1]; exact yzo (by omega) 0
    · exact List.mem_of_mem_take (e ▸ ih i (by omega))
def ordC (next out : List (List Int)) (n k : Nat) : List Int := (List.range (clsP next out k).1).map fun (i : Nat) => ((clsP next out n).2.idxOf (i : Int) : Int)
abbrev redO (next out : List (List Int)) (n : Nat) : List Int := ordC next out n n
theorem redO_len (next out : List (List Int)) (n : Nat) : (redO next out n).length = (clsP next out n).1 := by simp [ordC]
theorem redO_at (next out : List (List Int)) {n i : Nat} (h : i < (clsP next out n).1) : 0 ≤ (redO next out n).getD i 0 ∧ (redO next out n).getD i 0 < n ∧ (clsP next out n).2.getD ((redO next out n).getD i 0).toNat 0 = (i : Int) := by
  have hm := cls_mem next out n i h
  have hl := (clsP_len next out n).1
  have hi := List.idxOf_lt_length_of_mem hm
  have e : (redO next out n).getD i 0 = ((clsP next out n).2.idxOf (i : Int) : Int) := by
    unfold redO ordC
    rw [List.getD_eq_getElem?_getD, List.getElem?_map, List.getElem?_range h]; rfl
  rw [e]
  refine ⟨by omega, by omega, ?_⟩
  rw [Int.toNat_natCast, List.getD_eq_getElem?_getD, List.getElem?_eq_getElem hi]
  exact List.getElem_idxOf hi
theorem redO_mem (next out : List (List Int)) {n : Nat} {s : Int} (h : s ∈ redO next out n) : 0 ≤ s ∧ s < n := by
  obtain ⟨i, hi, rfl⟩ := memg (d := 0) h
  rw [redO_len] at hi
  have := redO_at next out hi
  exact ⟨this.1, this.2.1⟩
abbrev redN (next out : List (List Int)) (n : Nat) : List (List Int) := next.map (selN (clsP next out n).2 (redO next out n))
abbrev redU (next out : List (List Int)) (n : Nat) : List (List Int) := out.map (selO (redO next out n))
end Go.Ab
namespace Go.Ab
structure CI (n : Int) (L : List Int) : Prop where
  nd : L.Nodup
  rg : ∀ s ∈ L, 0 ≤ s ∧ s < n
  hd : L.getD 0 1 = 0
theorem CI.len {n : Int} {L : List Int} (h : CI n L) (hn : n ≤ 10) : 1 ≤ L.length ∧ L.length ≤ 10 := by
  have h1 : L ≠ [] := fun e => by have := h.hd; rw [e] at this; simp at this
  have hm : (L.map Int.toNat).Nodup := by
    refine List.Pairwise.map _ ?_ (List.Pairwise.and_mem.1 h.nd)
    rintro a b ⟨ha, hb, hab⟩ e
    have := h.rg a ha
    have := h.rg b hb
    omega
  have := nodup_lt 10 _ hm fun x hx => by
    obtain ⟨s, hs, rfl⟩ := List.mem_map.1 hx
    have := h.rg s hs
    omega
  rw [List.length_map] at this
  exact ⟨List.length_pos_iff.2 h1, this⟩
structure Rel (na oa nb ob : List (List Int)) (R : Int → Int → Prop) : Prop where
  len : na.length = nb.length
  step : ∀ s t, R s t → ∀ x, 0 ≤ x ∧ x < (na.length : Int) → outA oa s x = outA ob t x ∧ R (stepA na s x) (stepA nb t x)
  fn : ∀ s t t', R s t → R s t' → t = t'
  inj : ∀ s s' t, R s t → R s' t → s = s'
def RelL (R : Int → Int → Prop) (L M : List Int) : Prop := L.length = M.length ∧ ∀ i < L.length, R (L.getD i 0) (M.getD i 0)
theorem RelL.snoc {R : Int → Int → Prop} {L M : List Int} (h : RelL R L M) {s t : Int} (hst : R s t) : RelL R (L ++ [s]) (M ++ [t]) := by
  refine ⟨by simp [h.1], fun i hi => ?_⟩
  rw [List.length_append, List.length_singleton] at hi
  by_cases e : i < L.length
  · rw [getD_app e, getD_app (by rw [← h.1]; exact e)]; exact h.2 i e
  · have e1 : i = L.length := by omega
    subst e1
    rw [appg_new]
    rw [h.1, appg_new]; exact hst
end Go.Ab
namespace Go.Ab
end Go.Ab
namespace Go.Ab
open Go.Proofs
abbrev MachR (n o : Int) (xs ys : List (List Int)) (rows : List AObj) (res : AVal) : Prop :=
  ∃ v w ps qs, rows = [.row v 1 true (rwp ps), .row w 1 true (rwp qs)] ∧ ps.map (·.2) = xs ∧ qs.map (·.2) = ys ∧ DJ (ps ++ qs) ∧ res = .st [iv n, iv o, .own 6000 v, .own 6001 w]
abbrev NamM (P : Program) (g : FuncId) (args : List AVal) (n o : Int) (xs ys : List (List Int)) : Prop := Fn P g args (MachR n o xs ys)
theorem DJ_two {ps qs : List (Nat × List Int)} {u v : Nat} {r s : List Int} (h : DJ (ps ++ qs)) (h1 : ∀ p ∈ ps ++ qs, p.2 = [] ∨ p.1 ≠ u) (h2 : ∀ p ∈ ps ++ qs, p.2 = [] ∨ p.1 ≠ v) (h3 : r = [] ∨ u ≠ v) : DJ ((ps ++ [(u, r)]) ++ (qs ++ [(v, s)])) := by
  refine DJ_perm ?_ ((h.snoc (n := u) (xs := r) h1).snoc (n := v) (xs := s) fun p hp => ?_)
  · simp only [List.append_assoc]
    refine List.Perm.append_left _ ?_
    exact (List.perm_append_comm_assoc qs [(u, r)] [(v, s)])
  · rcases List.mem_append.1 hp with h | h
    · exact h2 p h
    · rw [List.mem_singleton.1 h]; exact h3
theorem take_map_snoc {α β : Type} {f : α → β} {l : List α} {i : Nat} (d : α) (h : i < l.length) : (l.take i).map f ++ [f (l.getD i d)] = (l.take (i + 1)).map f := by
  rw [List.take_succ_eq_append_getElem h, List.map_append, show l.getD i d = l[i] by rw [List.getD_eq_getElem?_getD, List.getElem?_eq_getElem h]; rfl]; rfl
end Go.Ab
namespace Go.Ab
open Go.Proofs
end Go.Ab
namespace Go.Ab
open Go.Proofs
abbrev MachS (n o : Int) (xs ys : List (List Int)) (rows : List AObj) (res : AVal) : Prop :=
  ∃ v w, rows = [.row v 1 true (rws xs), .row w 1 true (rws ys)] ∧ res = .st [iv n, iv o, .own 6000 v, .own 6001 w]
theorem NamM.dn {P : Program} {g : FuncId} {args : List AVal} {n o : Int} {xs ys : List (List Int)} (h : NamM P g args n o xs ys) : Fn P g args (MachS n o xs ys) := by
  refine Con.dnr h ?_
  rintro o' r x ⟨rfl, v, w, ps, qs, rfl, rfl, rfl, _, rfl⟩
  refine ⟨rfl, v, w, ?_, ?_⟩
  · simp only [List.map_cons, List.map_nil, AObj.dn, dnL_rwp]
  · simp only [AVal.dn, dnL]
abbrev MachRC (ok : Bool) (n o : Int) (xs ys : List (List Int)) (code : Int) (rows : List AObj) (res : AVal) : Prop :=
  if ok = true then ∃ v w ps qs, rows = [.row v 1 true (rwp ps), .row w 1 true (rwp qs)] ∧ ps.map (·.2) = xs ∧ qs.map (·.2) = ys ∧ DJ (ps ++ qs) ∧ res = .tup [.st [iv n, iv o, .own 6000 v, .own 6001 w], iv code]
  else rows = [] ∧ res = .tup [.st [iv 0, iv 0, nilS, nilS], iv code]
abbrev NamMR (P : Program) (g : FuncId) (args : List AVal) (ok : Bool) (n o : Int) (xs ys : List (List Int)) (code : Int) : Prop := Fn P g args (MachRC ok n o xs ys code)
abbrev MachSC (n o : Int) (xs ys : List (List Int)) (rows : List AObj) (res : AVal) : Prop :=
  ∃ v w, rows = [.row v 1 true (rws xs), .row w 1 true (rws ys)] ∧ res = .tup [.st [iv n, iv o, .own 6000 v, .own 6001 w], iv 0]
theorem NamMR.dn {P : Program} {g : FuncId} {args : List AVal} {ok : Bool} {n o : Int} {xs ys : List (List Int)} {code : Int} (h : NamMR P g args ok n o xs ys code) (hok : ok = true) (hc : code = 0) : Fn P g args (MachSC n o xs ys) := by
  subst hok hc
  refine Con.dnr h ?_
  rintro o' r x ⟨rfl, hR⟩
  unfold MachRC at hR
  rw [if_pos rfl] at hR
  obtain ⟨v, w, ps, qs, rfl, rfl, rfl, _, rfl⟩ := hR
  refine ⟨rfl, v, w, ?_, ?_⟩
  · simp only [List.map_cons, List.map_nil, AObj.dn, dnL_rwp]
  · simp only [AVal.dn, dnL]
theorem call_machC {P : Program} {pu : Bool} {σ : St} {g : FuncId} {As args : List AVal} {d : Nat} {s : Nat → Nat} {K : St → Prop} {n o : Int} {x y : List (List Int)}
    (h : Fn P g args (MachSC n o x y)) (hco : CoeL σ.hp [] true args As) (hg : σ.hp d = .gone) (hg2 : σ.hp (d + 1000) = .gone)
    (hk : ∀ v w, K (St.put ⟨σ.tm, upd (upd σ.hp d (.row v 1 true (rws x))) (d + 1000) (.row w 1 true (rws y))⟩ (some d) (.tup [.st [iv n, iv o, .own d v, .own (d + 1000) w], iv 0]))) : wpCall P pu σ g As (some d) s K := by
  refine call_fn h hco (fun _ => ⟨_, _, 0, 0, rfl, rfl⟩) ?_
  rintro rows res ⟨v, w, rfl, rfl⟩
  refine ⟨by simp, ?_, ?_⟩
  · simp only [Option.getD_some, yzq]; exact ⟨hg, hg2⟩
  · simp only [Option.getD_some, List.length_cons, List.length_nil, Nat.zero_add, reduceAdd, Nat.not_lt_zero, range1, yzy, yz12, yz1d, yz1e, yz10, yz1f, yz1c, yz1b, yz11, yzv, yzj, yz5, yzw, yzt, yzr, yzs, yzx, yz6, yz7, yzb, yzd, yzm, yzi, yz4, yzc, yz8, yza, yzk, yzh, List.range_zero, yz2, yz3, yz9, yzu, yzn, yzq, AVal.fresh, freshL, yz1, yzl, AObj.fresh, id, Option.isSome_some, or_true, true_or]
    exact hk _ _
end Go.Ab
