/- Contracts and what they lean on, part 10. Conditions: none. -/
import Derived.Test.YtlijcimaeplgbaaZ9
set_option maxRecDepth 100000
set_option maxHeartbeats 4000000
set_option linter.all false
open Nat (reduceLeDiff reduceMul reduceSub reduceEqDiff reduceAdd)
open Int (reduceToNat reduceNeg reduceLE)
namespace Go.Ab
open Go.Proofs
abbrev LoR (code : List Int) (at_ k : Int) (outs rows : List AObj) (res : AVal) : Prop :=
  ∃ n ps v a' s', (ps.length ≤ 3 → DJ ps) ∧ ps.length ≤ 10 ∧ -1 ≤ n ∧ n ≤ 11 ∧ (∀ p ∈ ps, p.2.length ≤ 10) ∧ at_ ≤ a' ∧ a' ≤ at_ + k ∧ outs = [.box 0 (srcC code a' s')] ∧ rows = [.row v 1 true (rwp ps)] ∧ res = .st [iv n, .own 6000 v]
theorem call_boxrowN {P : Program} {nos : List Nat} {σ : St} {g : FuncId} {As args : List AVal} {d : Nat} {s : Nat → Nat} {K : St → Prop} {r q v u : Nat} {cs cs0 : List AVal} {xs : List Int} {Q : List AVal → Value → Prop}
    (h : Con P g [.box 0 cs, .row 1 1 true (ints xs)] args true fun outs rows res => ∃ cs' x, Q cs' x ∧ flatL cs' ∧ outs = [.box 0 cs', .row 1 1 true (ints xs)] ∧ rows = [] ∧ res = .val x)
    (hr : σ.hp r = .box v cs0) (hq : σ.hp q = .row u 1 true (ints xs)) (hm : r ∈ nos ∧ q ∈ nos) (hne : [r, q].Nodup) (hcs : CoeL σ.hp [r, q] false cs cs0) (ha : CoeL σ.hp [r, q] false args As) (hex : ∃ cs' x, Q cs' x ∧ flatL cs')
    (hk : ∀ cs' x, Q cs' x → K (St.put ⟨σ.tm, upd (upd σ.hp r (.box v cs')) q (.row u 1 true (ints xs))⟩ (some d) (.val x))) : wpCallN P nos σ g As (some d) s K := by
  refine ⟨[r, q], _, _, true, _, h, ⟨by simp, rfl, hne, ?_, ?_⟩, ha, ⟨by simp [hm.1, hm.2], ?_⟩, ?_⟩
  · intro x hx
    simp only [List.mem_cons, List.not_mem_nil, or_false] at hx
    rcases hx with rfl | rfl
    · simp [hr]
    · simp [hq]
  · intro j B r' hB hr'
    match j, hB, hr' with
    | 0, hB, hr' =>
      simp at hB hr'; subst hB; subst hr'
      rw [hr]
      exact ⟨rfl, v, cs0, rfl, hcs⟩
    | 1, hB, hr' =>
      simp at hB hr'; subst hB; subst hr'
      simp only [ObjCoe, hq]
      exact ⟨trivial, u, _, rfl, coeL_ints⟩
    | j + 2, hB, hr' => simp at hB
  · obtain ⟨cs', x, hq, hf⟩ := hex
    exact ⟨_, _, _, cs', x, hq, hf, rfl, rfl, rfl⟩
  · rintro outs rows res ⟨cs', x, hQ, hf, rfl, rfl, rfl⟩
    refine ⟨rfl, rfl, ?_⟩
    have s0 : sv σ.hp [r, q] s 0 = v := by simp [sv, hr, AObj.ver]
    have s1 : sv σ.hp [r, q] s 1 = u := by simp [sv, hq, AObj.ver]
    rw [Option.getD_some, callHp_h2 hne]
    simp only [yzm, yzn, renL_flat cs' hf, yz3, yzv, s0, s1]
    exact hk cs' x hQ
theorem k_l01Bent (code : List Int) (at_ seed : Int) (hb : ∀ x ∈ code, 0 ≤ x ∧ x ≤ 255) (ha : 0 ≤ at_ ∧ at_ ≤ 100000) :
    Con Try.prog nz3o [.box 0 (srcC code at_ seed)] [.ptr 5000 0 0] true (LoR code at_ 3000) := by
  refine con_shE mixed czi9 rfl (by simp) ?_
  generalize hQ : finQ _ = Q
  have h12 : ∀ (σ : St) (v2 v3 : Nat) (r v : Nat) (o6 o10 o61 o73 o77 : AObj) (a s n : Int) (ps : List (Nat × List Int)),
      (ps.length ≤ 3 → DJ ps) → ps.length ≤ 10 → -1 ≤ n ∧ n ≤ 11 → (∀ p ∈ ps, p.2.length ≤ 10) → at_ ≤ a ∧ a ≤ at_ + 3000 →
      (r = 6 ∧ o6 = .row v 1 true (rwp ps) ∨ r = 10 ∧ o10 = .row v 1 true (rwp ps) ∨ r = 77 ∧ o77 = .row v 1 true (rwp ps)) →
      σ.keep [2, 3] [2, 3, 6, 10, 61, 73, 77, 5000, 901] = ⟨L .any [(2, .ptr 2 v2 0), (3, .ptr 3 v3 0)],
        L .gone [(2, .box v2 [iv 0, .val (.slice none 0 0)]), (3, .box v3 [iv n, .own r v]), (6, o6), (10, o10), (61, o61), (73, o73), (77, o77), (5000, .box 0 (srcC code a s)), (901, .gone)]⟩ →
      wpD Try.prog Bz11 Q σ := by
    intro σ v2 v3 r v o6 o10 o61 o73 o77 a s n ps hd hl hn hr ha' hrv hS
    unfold Bz11
    rw [yzu, hS]
    simp only [wpD_gh]
    intro _
    refine ⟨[], ?_⟩
    rcases hrv with ⟨rfl, rfl⟩ | ⟨rfl, rfl⟩ | ⟨rfl, rfl⟩
    · simp only [gwp_nil, yzu, yze, go_sem, yz0, Int.reduceLT, reduceLE, reduceToNat, reduceNeg, Nat.reduceLT, reduceLeDiff, reduceMul, reduceSub, reduceIte, reduceEqDiff, reduceAdd, reduceCtorEq]
      intro vs U hN
      simp only [← hQ, Azd, go_sem, yz0, Int.reduceLT, reduceLE, reduceToNat, reduceNeg, Nat.reduceLT, reduceLeDiff, reduceMul, reduceSub, reduceIte, reduceEqDiff, reduceAdd, reduceCtorEq]
      refine ⟨[6], by simp, by simp, by simp, ?_⟩
      simp only [range1, List.length_singleton, renL_rwp, Nat.not_lt_zero, range1, yzv, yzy, yz19, yz1b, yzz, yz1a, yz1c, yz17, yzx, yzp, yzf, yz3, yzs, yzq, yzn, yzm, yzt, yz7, yzd, yzb, yzc, yzi, yzh, yz2, yz6, yz8, yza, yzg, yzj, List.range_zero, yz5, yz4, yz9, yzr, yzl, yzo, AVal.fresh, freshL, yz1, yzk, AObj.fresh, id, Option.isSome_some, or_true, true_or, go_sem, yz0, Int.reduceLT, reduceLE, reduceToNat, reduceNeg, Nat.reduceLT, reduceLeDiff, reduceMul, reduceSub, reduceIte, reduceEqDiff, reduceAdd, reduceCtorEq]
      exact ⟨n, ps, v, a, s, hd, hl, hn.1, hn.2, hr, ha'.1, ha'.2, rfl, by simp, rfl⟩
    · simp only [gwp_nil, yzu, yze, go_sem, yz0, Int.reduceLT, reduceLE, reduceToNat, reduceNeg, Nat.reduceLT, reduceLeDiff, reduceMul, reduceSub, reduceIte, reduceEqDiff, reduceAdd, reduceCtorEq]
      intro vs U hN
      simp only [← hQ, Azd, go_sem, yz0, Int.reduceLT, reduceLE, reduceToNat, reduceNeg, Nat.reduceLT, reduceLeDiff, reduceMul, reduceSub, reduceIte, reduceEqDiff, reduceAdd, reduceCtorEq]
      refine ⟨[10], by simp, by simp, by simp, ?_⟩
      simp only [range1, List.length_singleton, renL_rwp, Nat.not_lt_zero, range1, yzv, yzy, yz19, yz1b, yzz, yz1a, yz1c, yz17, yzx, yzp, yzf, yz3, yzs, yzq, yzn, yzm, yzt, yz7, yzd, yzb, yzc, yzi, yzh, yz2, yz6, yz8, yza, yzg, yzj, List.range_zero, yz5, yz4, yz9, yzr, yzl, yzo, AVal.fresh, freshL, yz1, yzk, AObj.fresh, id, Option.isSome_some, or_true, true_or, go_sem, yz0, Int.reduceLT, reduceLE, reduceToNat, reduceNeg, Nat.reduceLT, reduceLeDiff, reduceMul, reduceSub, reduceIte, reduceEqDiff, reduceAdd, reduceCtorEq]
      exact ⟨n, ps, v, a, s, hd, hl, hn.1, hn.2, hr, ha'.1, ha'.2, rfl, by simp, rfl⟩
    · simp only [gwp_nil, yzu, yze, go_sem, yz0, Int.reduceLT, reduceLE, reduceToNat, reduceNeg, Nat.reduceLT, reduceLeDiff, reduceMul, reduceSub, reduceIte, reduceEqDiff, reduceAdd, reduceCtorEq]
      intro vs U hN
      simp only [← hQ, Azd, go_sem, yz0, Int.reduceLT, reduceLE, reduceToNat, reduceNeg, Nat.reduceLT, reduceLeDiff, reduceMul, reduceSub, reduceIte, reduceEqDiff, reduceAdd, reduceCtorEq]
      refine ⟨[77], by simp, by simp, by simp, ?_⟩
      simp only [range1, List.length_singleton, renL_rwp, Nat.not_lt_zero, range1, yzv, yzy, yz19, yz1b, yzz, yz1a, yz1c, yz17, yzx, yzp, yzf, yz3, yzs, yzq, yzn, yzm, yzt, yz7, yzd, yzb, yzc, yzi, yzh, yz2, yz6, yz8, yza, yzg, yzj, List.range_zero, yz5, yz4, yz9, yzr, yzl, yzo, AVal.fresh, freshL, yz1, yzk, AObj.fresh, id, Option.isSome_some, or_true, true_or, go_sem, yz0, Int.reduceLT, reduceLE, reduceToNat, reduceNeg, Nat.reduceLT, reduceLeDiff, reduceMul, reduceSub, reduceIte, reduceEqDiff, reduceAdd, reduceCtorEq]
      exact ⟨n, ps, v, a, s, hd, hl, hn.1, hn.2, hr, ha'.1, ha'.2, rfl, by simp, rfl⟩
  have h12b : ∀ (σ : St) (v2 v3 r v m : Nat) (o6 o10 : AObj) (a s n : Int) (A2 C2 : List (Nat × List Int)) (b : Nat × List Int) (cur : List Int),
      DJ (A2 ++ b :: C2) → (A2 ++ b :: C2).length ≤ 10 → -1 ≤ n ∧ n ≤ 11 → (∀ p ∈ A2 ++ C2, p.2.length ≤ 10) → cur.length ≤ 10 → at_ ≤ a ∧ a ≤ at_ + 3000 →
      (r = 6 ∧ o6 = .row v 1 true (rwp A2 ++ .own 901 m :: rwp C2) ∨ r = 10 ∧ o10 = .row v 1 true (rwp A2 ++ .own 901 m :: rwp C2)) →
      σ.keep [2, 3] [2, 3, 6, 10, 61, 73, 77, 5000, 901] = ⟨L .any [(2, .ptr 2 v2 0), (3, .ptr 3 v3 0)],
        L .gone [(2, .box v2 [iv 0, .val (.slice none 0 0)]), (3, .box v3 [iv n, .own r v]), (6, o6), (10, o10), (61, .gone), (73, .gone), (77, .gone), (5000, .box 0 (srcC code a s)), (901, .row m 1 true (ints cur))]⟩ →
      wpD Try.prog Bz11 Q σ := by
    intro σ v2 v3 r v m o6 o10 a s n A2 C2 b cur hd hl hn hr hc ha' hrv hS
    unfold Bz11
    rw [yzu, hS]
    simp only [wpD_gh]
    intro hD
    have hset4 : ∀ X : AVal, (rwp A2 ++ AVal.own 901 m :: rwp C2).set A2.length X = rwp A2 ++ X :: rwp C2 := fun X => by
      rw [List.set_append_right _ _ (by rw [rwp_len]; exact Nat.le_refl _), rwp_len, Nat.sub_self]; rfl
    rw [List.length_append, List.length_cons] at hl
    have key : (∀ n k'' cs'', AVal.ro (some (some (n + 1))) k'' cs'' ∈ rwp A2 ++ AVal.own 901 m :: rwp C2 → cs'' ≠ [] → n ≠ m) → DJ (A2 ++ (m, cur) :: C2) := fun hf => DJ_in hd fun p hp => by
      by_cases e : p.2 = []
      · exact .inl e
      · refine .inr (hf p.1 1 (ints p.2) ?_ (by simpa using e))
        rcases List.mem_append.1 hp with h | h
        · exact List.mem_append.2 (.inl (List.mem_map.2 ⟨p, h, rfl⟩))
        · exact List.mem_append.2 (.inr (List.mem_cons.2 (.inr (List.mem_map.2 ⟨p, h, rfl⟩))))
    have hr2 : ∀ p ∈ A2 ++ (m, cur) :: C2, p.2.length ≤ 10 := fun p hp => by
      simp only [List.mem_append, List.mem_cons] at hp
      rcases hp with h | rfl | h
      · exact hr p (by simp [h])
      · exact hc
      · exact hr p (by simp [h])
    rcases hrv with ⟨rfl, rfl⟩ | ⟨rfl, rfl⟩
    · refine ⟨[.rf 6 A2.length 901], gwp_rf (k := 1) (nn := true) rfl (own_get rfl) (by decide) rfl fun hf => ?_⟩
      have D1 := key hf
      simp only [hset4, frNm_t, rwp_cat, gwp_nil, yzu, yze, go_sem, yz0, Int.reduceLT, reduceLE, reduceToNat, reduceNeg, Nat.reduceLT, reduceLeDiff, reduceMul, reduceSub, reduceIte, reduceEqDiff, reduceAdd, reduceCtorEq]
      intro vs U hN
      simp only [← hQ, Azd, go_sem, yz0, Int.reduceLT, reduceLE, reduceToNat, reduceNeg, Nat.reduceLT, reduceLeDiff, reduceMul, reduceSub, reduceIte, reduceEqDiff, reduceAdd, reduceCtorEq]
      refine ⟨[6], by simp, by simp, by simp, ?_⟩
      simp only [range1, List.length_singleton, renL_rwp, Nat.not_lt_zero, range1, yzv, yzy, yz19, yz1b, yzz, yz1a, yz1c, yz17, yzx, yzp, yzf, yz3, yzs, yzq, yzn, yzm, yzt, yz7, yzd, yzb, yzc, yzi, yzh, yz2, yz6, yz8, yza, yzg, yzj, List.range_zero, yz5, yz4, yz9, yzr, yzl, yzo, AVal.fresh, freshL, yz1, yzk, AObj.fresh, id, Option.isSome_some, or_true, true_or, go_sem, yz0, Int.reduceLT, reduceLE, reduceToNat, reduceNeg, Nat.reduceLT, reduceLeDiff, reduceMul, reduceSub, reduceIte, reduceEqDiff, reduceAdd, reduceCtorEq]
      exact ⟨n, A2 ++ (m, cur) :: C2, v, a, s, fun _ => D1, by simp; omega, hn.1, hn.2, hr2, ha'.1, ha'.2, rfl, by simp, rfl⟩
    · refine ⟨[.rf 10 A2.length 901], gwp_rf (k := 1) (nn := true) rfl (own_get rfl) (by decide) rfl fun hf => ?_⟩
      have D1 := key hf
      simp only [hset4, frNm_t, rwp_cat, gwp_nil, yzu, yze, go_sem, yz0, Int.reduceLT, reduceLE, reduceToNat, reduceNeg, Nat.reduceLT, reduceLeDiff, reduceMul, reduceSub, reduceIte, reduceEqDiff, reduceAdd, reduceCtorEq]
      intro vs U hN
      simp only [← hQ, Azd, go_sem, yz0, Int.reduceLT, reduceLE, reduceToNat, reduceNeg, Nat.reduceLT, reduceLeDiff, reduceMul, reduceSub, reduceIte, reduceEqDiff, reduceAdd, reduceCtorEq]
      refine ⟨[10], by simp, by simp, by simp, ?_⟩
      simp only [range1, List.length_singleton, renL_rwp, Nat.not_lt_zero, range1, yzv, yzy, yz19, yz1b, yzz, yz1a, yz1c, yz17, yzx, yzp, yzf, yz3, yzs, yzq, yzn, yzm, yzt, yz7, yzd, yzb, yzc, yzi, yzh, yz2, yz6, yz8, yza, yzg, yzj, List.range_zero, yz5, yz4, yz9, yzr, yzl, yzo, AVal.fresh, freshL, yz1, yzk, AObj.fresh, id, Option.isSome_some, or_true, true_or, go_sem, yz0, Int.reduceLT, reduceLE, reduceToNat, reduceNeg, Nat.reduceLT, reduceLeDiff, reduceMul, reduceSub, reduceIte, reduceEqDiff, reduceAdd, reduceCtorEq]
      exact ⟨n, A2 ++ (m, cur) :: C2, v, a, s, fun _ => D1, by simp; omega, hn.1, hn.2, hr2, ha'.1, ha'.2, rfl, by simp, rfl⟩
  have h4 : ∀ (σ : St) (v2 v3 : Nat) (r v : Nat) (o6 o10 : AObj) (a s n : Int) (ps : List (Nat × List Int)),
      Aut n (ps.map (·.2)) → DJ ps → at_ ≤ a ∧ a ≤ at_ + 2500 → (r = 6 ∧ o6 = .row v 1 true (rwp ps) ∨ r = 10 ∧ o10 = .row v 1 true (rwp ps)) →
      σ.keep [0, 2, 3] [2, 3, 6, 10, 61, 73, 77, 5000, 901] = ⟨L .any [(0, .ptr 5000 0 0), (2, .ptr 2 v2 0), (3, .ptr 3 v3 0)],
        L .gone [(2, .box v2 [iv 0, .val (.slice none 0 0)]), (3, .box v3 [iv n, .own r v]), (6, o6), (10, o10), (61, .gone), (73, .gone), (77, .gone), (5000, .box 0 (srcC code a s)), (901, .gone)]⟩ →
      wpD Try.prog Bz69 Q σ := by
    intro σ v2 v3 r v o6 o10 a s n ps A hd ha' hrv hS
    unfold Bz69
    rw [yzu, hS]
    have l1 := A.l1
    have l2 := A.l2
    have n1 := A.n1
    have n2 := A.n2
    rw [List.length_map] at l1 l2
    rcases hrv with ⟨rfl, rfl⟩ | ⟨rfl, rfl⟩
    · simp only [rwp_len, yzu, yze, go_sem, yz0, Int.reduceLT, reduceLE, reduceToNat, reduceNeg, Nat.reduceLT, reduceLeDiff, reduceMul, reduceSub, reduceIte, reduceEqDiff, reduceAdd, reduceCtorEq]
      intro vs U hN hM
      refine call_funB (k_pick code a s ps.length hb (by omega)) rfl qCS qCS ?_
      rintro cs' x ⟨a1, s1, at1, rfl, e1, e2, rfl, e3, e4⟩
      have hat : at1.toNat < ps.length := by omega
      simp only [Bz68, yzu, yze, go_sem, yz0, Int.reduceLT, reduceLE, reduceToNat, reduceNeg, Nat.reduceLT, reduceLeDiff, reduceMul, reduceSub, reduceIte, reduceEqDiff, reduceAdd, reduceCtorEq]
      intro vs1 U1 hN1
      refine call_funB (k_pick code a1 s1 24 hb (by omega)) rfl qCS qCS ?_
      rintro cs' x ⟨a2, s2, kd, rfl, f1, f2, rfl, f3, f4⟩
      have hps : ∀ p ∈ ps, p.2.length ≤ 10 := fun p hp => by have := (A.row p.2 (List.mem_map.2 ⟨p, hp, rfl⟩)).1; omega
      by_cases k0 : kd = 0
      · subst k0
        have w1 : IntKind.i64.wrap (n + 1) = n + 1 := w64 (by omega)
        simp only [Bz2, Bz1, w1, beq_self_eq_true, yzu, yze, go_sem, yz0, Int.reduceLT, reduceLE, reduceToNat, reduceNeg, Nat.reduceLT, reduceLeDiff, reduceMul, reduceSub, reduceIte, reduceEqDiff, reduceAdd, reduceCtorEq]
        intro vs2 U2 hN2 vs3 U3 hN3
        refine ⟨⟨⟨_, rfl, rfl⟩, ⟨_, rfl, rfl⟩, ⟨_, rfl, rfl⟩, _, rfl, rfl⟩, ?_⟩
        refine call_boxrow (r := 5000) (q := 24) (k_among code a2 s2 [0, -1, n + 1, 11] hb (by omega) (by simp)) rfl rfl (by decide) qCS (by simp only [yzw, yz18, and_true, Coe]; exact ⟨⟨0, _, _, rfl, rfl, rfl, rfl, rfl⟩, 1, _, _, rfl, rfl, rfl, rfl, rfl⟩) ?_
        rintro cs' x ⟨a3, s3, b3, rfl, g3, g4, rfl, g5⟩
        have hb3 : -1 ≤ b3 ∧ b3 ≤ 11 := by simp at g5; omega
        simp only [go_sem, yz0, Int.reduceLT, reduceLE, reduceToNat, reduceNeg, Nat.reduceLT, reduceLeDiff, reduceMul, reduceSub, reduceIte, reduceEqDiff, reduceAdd, reduceCtorEq]
        exact h12 _ v2 v3 6 v _ o10 .gone .gone .gone a3 s3 b3 ps (fun _ => hd) (by omega) hb3 hps (by omega) (.inl ⟨rfl, rfl⟩) (by simp only [go_sem, yz0, Int.reduceLT, reduceLE, reduceToNat, reduceNeg, Nat.reduceLT, reduceLeDiff, reduceMul, reduceSub, reduceIte, reduceEqDiff, reduceAdd, reduceCtorEq]; try rfl)
      by_cases k1 : kd = 1
      · subst k1
        simp only [beq_false_of_ne (show (1 : Int) ≠ 0 by omega), Bz2, Bz1, Bz3, rwp_getD hat, St.bound, List.take_length, beq_self_eq_true, yzu, yze, go_sem, yz0, Int.reduceLT, reduceLE, reduceToNat, reduceNeg, Nat.reduceLT, reduceLeDiff, reduceMul, reduceSub, reduceIte, reduceEqDiff, reduceAdd, reduceCtorEq]
        intro _ _ _ _ _ _ vs4 U4 hN4
        have hlw : (rwp ps).length = ps.length := rwp_len
        have hrl := (A.row _ (List.mem_map.2 ⟨_, yz16 hat (0, []), rfl⟩)).1
        refine ⟨⟨e3, by omega⟩, by omega, ⟨by omega, Nat.le_refl _⟩, ⟨e3, by omega⟩, by omega, ?_⟩
        have ed : List.drop 1 (ints (ps.getD at1.toNat (0, [])).2) = ints ((ps.getD at1.toNat (0, [])).2.drop 1) := by simp only [List.map_drop]
        rw [ed, rwp_putN (p := ((ps.getD at1.toNat (0, [])).1, (ps.getD at1.toNat (0, [])).2.drop 1))]
        have hlp : (ps.take at1.toNat ++ [((ps.getD at1.toNat (0, [])).1, (ps.getD at1.toNat (0, [])).2.drop 1)] ++ ps.drop (at1.toNat + 1)).length = ps.length := by
          simp only [List.length_append, List.length_take, List.length_drop, List.length_singleton]; omega
        exact h12 _ v2 v3 6 v _ o10 .gone .gone .gone a2 s2 n _ (fun _ => DJ_set (xs := (ps.getD at1.toNat (0, [])).2.drop 1) hat hd fun e => by rw [e]; rfl) (by rw [hlp]; omega) (by omega) (fun p hp => by
          simp only [List.mem_append, List.mem_singleton] at hp
          rcases hp with (hp | rfl) | hp
          · exact hps p (List.mem_of_mem_take hp)
          · have := hps _ (yz16 hat (0, [])); simp only [List.length_drop]; omega
          · exact hps p (List.mem_of_mem_drop hp)) (by omega) (.inl ⟨rfl, rfl⟩) (by simp only [go_sem, yz0, Int.reduceLT, reduceLE, reduceToNat, reduceNeg, Nat.reduceLT, reduceLeDiff, reduceMul, reduceSub, reduceIte, reduceEqDiff, reduceAdd, reduceCtorEq]; try rfl)
      by_cases k2 : kd = 2
      · subst k2
        obtain ⟨A2, b, C2, rfl, hAk⟩ := rwp_split hat
        have hbr := A.row b.2 (by simp)
        have hbn : b.2 ≠ [] := fun e => by rw [e] at hbr; simp at hbr; omega
        have hbl : 0 < b.2.length := by omega
        have F0 := DJ_out hd hbn
        have F0a : ∀ p ∈ A2 ++ C2, p.2 = [] ∨ p.1 ≠ b.1 := F0
        simp only [beq_false_of_ne (show (2 : Int) ≠ 0 by omega), beq_false_of_ne (show (2 : Int) ≠ 1 by omega), Bz2, Bz1, Bz3, yzu, yze, go_sem, yz0, Int.reduceLT, reduceLE, reduceToNat, reduceNeg, Nat.reduceLT, reduceLeDiff, reduceMul, reduceSub, reduceIte, reduceEqDiff, reduceAdd, reduceCtorEq]
        intro _ _ _ _ _ _ _ _ _
        simp only [beq_self_eq_true, Bz5, yzu, wpD_gh, go_sem, yz0, Int.reduceLT, reduceLE, reduceToNat, reduceNeg, Nat.reduceLT, reduceLeDiff, reduceMul, reduceSub, reduceIte, reduceEqDiff, reduceAdd, reduceCtorEq]
        intro _
        refine ⟨[.thaw 6 at1.toNat 901], gwp_thaw (n := b.1) rfl (rwp_get hAk.symm) (by simpa using hbn) rfl fun m1 => ?_⟩
        have hset : (woL b.1 (rwp (A2 ++ b :: C2))).set at1.toNat (AVal.own 901 m1) = rwp A2 ++ AVal.own 901 m1 :: rwp C2 := by rw [← hAk]; exact woL_set F0a
        have ho1 : (rwp A2 ++ AVal.own 901 m1 :: rwp C2).getD at1.toNat .any = .own 901 m1 := own_at hAk.symm
        have hol : (rwp A2 ++ AVal.own 901 m1 :: rwp C2).length = A2.length + (C2.length + 1) := by rw [List.length_append, List.length_cons, rwp_len, rwp_len]
        have hkl : at1.toNat < (rwp A2 ++ AVal.own 901 m1 :: rwp C2).length := by omega
        simp only [hset, woT, woO, woL_cons, woL_nil, woV_val, woV_own, wo_ptr, wo_o, woL_ints, wo_st, woO_row, woO_box, woO_gone, wo_any, gwp_nil, yzu, yze, go_sem, yz0, Int.reduceLT, reduceLE, reduceToNat, reduceNeg, Nat.reduceLT, reduceLeDiff, reduceMul, reduceSub, reduceIte, reduceEqDiff, reduceAdd, reduceCtorEq]
        intro vs4 U4 hN4
        simp only [ho1, go_sem, yz0, Int.reduceLT, reduceLE, reduceToNat, reduceNeg, Nat.reduceLT, reduceLeDiff, reduceMul, reduceSub, reduceIte, reduceEqDiff, reduceAdd, reduceCtorEq]
        refine ⟨⟨e3, hkl⟩, hkl, ⟨⟨_, rfl, rfl⟩, _, rfl, rfl⟩, ?_⟩
        refine call_boxrowN (r := 5000) (q := 49) (cs0 := srcC code a2 s2) (k_among code a2 s2 [-1, n] hb (by omega) (by simp)) rfl rfl (by simp) (by decide) qCS (by simp only [yzw, yz18, and_true, Coe]; exact ⟨⟨0, _, _, rfl, rfl, rfl, rfl, rfl⟩, 1, _, _, rfl, rfl, rfl, rfl, rfl⟩) ⟨srcC code a2 0, .int .i64 n, ⟨a2, 0, n, rfl, by omega, by omega, rfl, by simp⟩, flat_srcC⟩ ?_
        rintro cs' x ⟨a3, s3, b3, rfl, g3, g4, rfl, g5⟩
        simp only [yzu, yze, go_sem, yz0, Int.reduceLT, reduceLE, reduceToNat, reduceNeg, Nat.reduceLT, reduceLeDiff, reduceMul, reduceSub, reduceIte, reduceEqDiff, reduceAdd, reduceCtorEq]
        refine ⟨hbl, hbl, ?_⟩
        have ed : AVal.val (.int .i64 b3) :: List.drop 1 (ints b.2) = ints (b3 :: b.2.drop 1) := by simp [List.map_drop]
        rw [ed]
        exact h12b _ v2 v3 6 v m1 _ (AObj.wo b.1 o10) a3 s3 n A2 C2 b (b3 :: b.2.drop 1) hd (by omega) (by omega) (fun p hp => hps p (by simp only [List.mem_append, List.mem_cons] at hp ⊢; rcases hp with h | h <;> simp [h])) (by simp only [List.length_cons, List.length_drop]; omega) (by omega) (.inl ⟨rfl, rfl⟩) (by simp only [go_sem, yz0, Int.reduceLT, reduceLE, reduceToNat, reduceNeg, Nat.reduceLT, reduceLeDiff, reduceMul, reduceSub, reduceIte, reduceEqDiff, reduceAdd, reduceCtorEq]; try rfl)
      by_cases k3 : kd = 3
      · subst k3
        have h00 : 0 < ps.length := by omega
        simp only [beq_false_of_ne (show (3 : Int) ≠ 0 by omega), beq_false_of_ne (show (3 : Int) ≠ 1 by omega), Bz2, Bz1, Bz3, yzu, yze, go_sem, yz0, Int.reduceLT, reduceLE, reduceToNat, reduceNeg, Nat.reduceLT, reduceLeDiff, reduceMul, reduceSub, reduceIte, reduceEqDiff, reduceAdd, reduceCtorEq]
        intro _ _ _ _ _ _ _ _ _
        simp only [beq_false_of_ne (show (3 : Int) ≠ 2 by omega), Bz5, yzu, wpD_gh, go_sem, yz0, Int.reduceLT, reduceLE, reduceToNat, reduceNeg, Nat.reduceLT, reduceLeDiff, reduceMul, reduceSub, reduceIte, reduceEqDiff, reduceAdd, reduceCtorEq]
        intro _
        refine ⟨[], ?_⟩
        simp only [beq_self_eq_true, Bzc, rwp_getD h00, gwp_nil, yzu, yze, go_sem, yz0, Int.reduceLT, reduceLE, reduceToNat, reduceNeg, Nat.reduceLT, reduceLeDiff, reduceMul, reduceSub, reduceIte, reduceEqDiff, reduceAdd, reduceCtorEq]
        intro _ _ _ vs9 U9 hN9
        have hlw : (rwp ps).length = ps.length := rwp_len
        refine ⟨by omega, by omega, by omega, by omega, by omega, by omega, by omega, by rw [List.length_append, List.length_singleton]; omega, ?_⟩
        generalize hp0 : ps.getD 0 (0, []) = p0
        have hp0m : p0 ∈ ps := hp0 ▸ yz16 h00 (0, [])
        have e5 : rwp ps ++ [AVal.ro (some (some (p0.1 + 1))) 1 (ints p0.2)] ++ [AVal.ro (some (some (p0.1 + 1))) 1 (ints p0.2), AVal.ro (some (some (p0.1 + 1))) 1 (ints p0.2)] = rwp (ps ++ [p0] ++ [p0, p0]) := by simp only [rwp, List.map_append, List.map_cons, List.map_nil]
        rw [e5]
        have hl6 : (ps ++ [p0] ++ [p0, p0]).length = ps.length + 3 := by simp
        exact h12 _ v2 v3 6 (vs9 19 0) _ o10 .gone .gone .gone a2 s2 n (ps ++ [p0] ++ [p0, p0]) (fun h => absurd h (by omega)) (by omega) (by omega) (fun p hp => by
          simp only [List.mem_append, List.mem_cons, List.not_mem_nil, or_false] at hp
          rcases hp with (hp | rfl) | rfl | rfl
          · exact hps p hp
          · exact hps _ hp0m
          · exact hps _ hp0m
          · exact hps _ hp0m) (by omega) (.inl ⟨rfl, rfl⟩) (by simp only [go_sem, yz0, Int.reduceLT, reduceLE, reduceToNat, reduceNeg, Nat.reduceLT, reduceLeDiff, reduceMul, reduceSub, reduceIte, reduceEqDiff, reduceAdd, reduceCtorEq]; try rfl)
      by_cases k4 : kd = 4
      · subst k4
        simp only [beq_false_of_ne (show (4 : Int) ≠ 0 by omega), beq_false_of_ne (show (4 : Int) ≠ 1 by omega), Bz2, Bz1, Bz3, yzu, yze, go_sem, yz0, Int.reduceLT, reduceLE, reduceToNat, reduceNeg, Nat.reduceLT, reduceLeDiff, reduceMul, reduceSub, reduceIte, reduceEqDiff, reduceAdd, reduceCtorEq]
        intro _ _ _ _ _ _ _ _ _
        simp only [beq_false_of_ne (show (4 : Int) ≠ 2 by omega), Bz5, yzu, wpD_gh, go_sem, yz0, Int.reduceLT, reduceLE, reduceToNat, reduceNeg, Nat.reduceLT, reduceLeDiff, reduceMul, reduceSub, reduceIte, reduceEqDiff, reduceAdd, reduceCtorEq]
        intro _
        refine ⟨[], ?_⟩
        simp only [beq_false_of_ne (show (4 : Int) ≠ 3 by omega), Bzc, Bz10, beq_self_eq_true, gwp_nil, yzu, yze, go_sem, yz0, Int.reduceLT, reduceLE, reduceToNat, reduceNeg, Nat.reduceLT, reduceLeDiff, reduceMul, reduceSub, reduceIte, reduceEqDiff, reduceAdd, reduceCtorEq]
        intro _ _ _ _ _ _ vs9 U9 hN9
        exact h12 _ v2 v3 77 (vs9 0 0) _ o10 .gone .gone _ a2 s2 n [] (fun _ => by simp [DJ]) (by simp) (by omega) (by simp) (by omega) (.inr (.inr ⟨rfl, rfl⟩)) (by simp only [rwp_nil, go_sem, yz0, Int.reduceLT, reduceLE, reduceToNat, reduceNeg, Nat.reduceLT, reduceLeDiff, reduceMul, reduceSub, reduceIte, reduceEqDiff, reduceAdd, reduceCtorEq]; try rfl)
      simp only [beq_false_of_ne k0, beq_false_of_ne k1, Bz2, Bz1, Bz3, yzu, yze, go_sem, yz0, Int.reduceLT, reduceLE, reduceToNat, reduceNeg, Nat.reduceLT, reduceLeDiff, reduceMul, reduceSub, reduceIte, reduceEqDiff, reduceAdd, reduceCtorEq]
      intro _ _ _ _ _ _ _ _ _
      simp only [beq_false_of_ne k2, Bz5, yzu, wpD_gh, go_sem, yz0, Int.reduceLT, reduceLE, reduceToNat, reduceNeg, Nat.reduceLT, reduceLeDiff, reduceMul, reduceSub, reduceIte, reduceEqDiff, reduceAdd, reduceCtorEq]
      intro _
      refine ⟨[], ?_⟩
      simp only [beq_false_of_ne k3, beq_false_of_ne k4, Bzc, Bz10, gwp_nil, yzu, yze, go_sem, yz0, Int.reduceLT, reduceLE, reduceToNat, reduceNeg, Nat.reduceLT, reduceLeDiff, reduceMul, reduceSub, reduceIte, reduceEqDiff, reduceAdd, reduceCtorEq]
      intro _ _ _ _ _ _
      exact h12 _ v2 v3 6 v _ o10 .gone .gone .gone a2 s2 n ps (fun _ => hd) (by omega) (by omega) hps (by omega) (.inl ⟨rfl, rfl⟩) (by simp only [go_sem, yz0, Int.reduceLT, reduceLE, reduceToNat, reduceNeg, Nat.reduceLT, reduceLeDiff, reduceMul, reduceSub, reduceIte, reduceEqDiff, reduceAdd, reduceCtorEq]; try rfl)
    · simp only [rwp_len, yzu, yze, go_sem, yz0, Int.reduceLT, reduceLE, reduceToNat, reduceNeg, Nat.reduceLT, reduceLeDiff, reduceMul, reduceSub, reduceIte, reduceEqDiff, reduceAdd, reduceCtorEq]
      intro vs U hN hM
      refine call_funB (k_pick code a s ps.length hb (by omega)) rfl qCS qCS ?_
      rintro cs' x ⟨a1, s1, at1, rfl, e1, e2, rfl, e3, e4⟩
      have hat : at1.toNat < ps.length := by omega
      simp only [Bz68, yzu, yze, go_sem, yz0, Int.reduceLT, reduceLE, reduceToNat, reduceNeg, Nat.reduceLT, reduceLeDiff, reduceMul, reduceSub, reduceIte, reduceEqDiff, reduceAdd, reduceCtorEq]
      intro vs1 U1 hN1
      refine call_funB (k_pick code a1 s1 24 hb (by omega)) rfl qCS qCS ?_
      rintro cs' x ⟨a2, s2, kd, rfl, f1, f2, rfl, f3, f4⟩
      have hps : ∀ p ∈ ps, p.2.length ≤ 10 := fun p hp => by have := (A.row p.2 (List.mem_map.2 ⟨p, hp, rfl⟩)).1; omega
      by_cases k0 : kd = 0
      · subst k0
        have w1 : IntKind.i64.wrap (n + 1) = n + 1 := w64 (by omega)
        simp only [Bz2, Bz1, w1, beq_self_eq_true, yzu, yze, go_sem, yz0, Int.reduceLT, reduceLE, reduceToNat, reduceNeg, Nat.reduceLT, reduceLeDiff, reduceMul, reduceSub, reduceIte, reduceEqDiff, reduceAdd, reduceCtorEq]
        intro vs2 U2 hN2 vs3 U3 hN3
        refine ⟨⟨⟨_, rfl, rfl⟩, ⟨_, rfl, rfl⟩, ⟨_, rfl, rfl⟩, _, rfl, rfl⟩, ?_⟩
        refine call_boxrow (r := 5000) (q := 24) (k_among code a2 s2 [0, -1, n + 1, 11] hb (by omega) (by simp)) rfl rfl (by decide) qCS (by simp only [yzw, yz18, and_true, Coe]; exact ⟨⟨0, _, _, rfl, rfl, rfl, rfl, rfl⟩, 1, _, _, rfl, rfl, rfl, rfl, rfl⟩) ?_
        rintro cs' x ⟨a3, s3, b3, rfl, g3, g4, rfl, g5⟩
        have hb3 : -1 ≤ b3 ∧ b3 ≤ 11 := by simp at g5; omega
        simp only [go_sem, yz0, Int.reduceLT, reduceLE, reduceToNat, reduceNeg, Nat.reduceLT, reduceLeDiff, reduceMul, reduceSub, reduceIte, reduceEqDiff, reduceAdd, reduceCtorEq]
        exact h12 _ v2 v3 10 v o6 _ .gone .gone .gone a3 s3 b3 ps (fun _ => hd) (by omega) hb3 hps (by omega) (.inr (.inl ⟨rfl, rfl⟩)) (by simp only [go_sem, yz0, Int.reduceLT, reduceLE, reduceToNat, reduceNeg, Nat.reduceLT, reduceLeDiff, reduceMul, reduceSub, reduceIte, reduceEqDiff, reduceAdd, reduceCtorEq]; try rfl)
      by_cases k1 : kd = 1
      · subst k1
        simp only [beq_false_of_ne (show (1 : Int) ≠ 0 by omega), Bz2, Bz1, Bz3, rwp_getD hat, St.bound, List.take_length, beq_self_eq_true, yzu, yze, go_sem, yz0, Int.reduceLT, reduceLE, reduceToNat, reduceNeg, Nat.reduceLT, reduceLeDiff, reduceMul, reduceSub, reduceIte, reduceEqDiff, reduceAdd, reduceCtorEq]
        intro _ _ _ _ _ _ vs4 U4 hN4
        have hlw : (rwp ps).length = ps.length := rwp_len
        have hrl := (A.row _ (List.mem_map.2 ⟨_, yz16 hat (0, []), rfl⟩)).1
        refine ⟨⟨e3, by omega⟩, by omega, ⟨by omega, Nat.le_refl _⟩, ⟨e3, by omega⟩, by omega, ?_⟩
        have ed : List.drop 1 (ints (ps.getD at1.toNat (0, [])).2) = ints ((ps.getD at1.toNat (0, [])).2.drop 1) := by simp only [List.map_drop]
        rw [ed, rwp_putN (p := ((ps.getD at1.toNat (0, [])).1, (ps.getD at1.toNat (0, [])).2.drop 1))]
        have hlp : (ps.take at1.toNat ++ [((ps.getD at1.toNat (0, [])).1, (ps.getD at1.toNat (0, [])).2.drop 1)] ++ ps.drop (at1.toNat + 1)).length = ps.length := by
          simp only [List.length_append, List.length_take, List.length_drop, List.length_singleton]; omega
        exact h12 _ v2 v3 10 v o6 _ .gone .gone .gone a2 s2 n _ (fun _ => DJ_set (xs := (ps.getD at1.toNat (0, [])).2.drop 1) hat hd fun e => by rw [e]; rfl) (by rw [hlp]; omega) (by omega) (fun p hp => by
          simp only [List.mem_append, List.mem_singleton] at hp
          rcases hp with (hp | rfl) | hp
          · exact hps p (List.mem_of_mem_take hp)
          · have := hps _ (yz16 hat (0, [])); simp only [List.length_drop]; omega
          · exact hps p (List.mem_of_mem_drop hp)) (by omega) (.inr (.inl ⟨rfl, rfl⟩)) (by simp only [go_sem, yz0, Int.reduceLT, reduceLE, reduceToNat, reduceNeg, Nat.reduceLT, reduceLeDiff, reduceMul, reduceSub, reduceIte, reduceEqDiff, reduceAdd, reduceCtorEq]; try rfl)
      by_cases k2 : kd = 2
      · subst k2
        obtain ⟨A2, b, C2, rfl, hAk⟩ := rwp_split hat
        have hbr := A.row b.2 (by simp)
        have hbn : b.2 ≠ [] := fun e => by rw [e] at hbr; simp at hbr; omega
        have hbl : 0 < b.2.length := by omega
        have F0 := DJ_out hd hbn
        have F0a : ∀ p ∈ A2 ++ C2, p.2 = [] ∨ p.1 ≠ b.1 := F0
        simp only [beq_false_of_ne (show (2 : Int) ≠ 0 by omega), beq_false_of_ne (show (2 : Int) ≠ 1 by omega), Bz2, Bz1, Bz3, yzu, yze, go_sem, yz0, Int.reduceLT, reduceLE, reduceToNat, reduceNeg, Nat.reduceLT, reduceLeDiff, reduceMul, reduceSub, reduceIte, reduceEqDiff, reduceAdd, reduceCtorEq]
        intro _ _ _ _ _ _ _ _ _
        simp only [beq_self_eq_true, Bz5, yzu, wpD_gh, go_sem, yz0, Int.reduceLT, reduceLE, reduceToNat, reduceNeg, Nat.reduceLT, reduceLeDiff, reduceMul, reduceSub, reduceIte, reduceEqDiff, reduceAdd, reduceCtorEq]
        intro _
        refine ⟨[.thaw 10 at1.toNat 901], gwp_thaw (n := b.1) rfl (rwp_get hAk.symm) (by simpa using hbn) rfl fun m1 => ?_⟩
        have hset : (woL b.1 (rwp (A2 ++ b :: C2))).set at1.toNat (AVal.own 901 m1) = rwp A2 ++ AVal.own 901 m1 :: rwp C2 := by rw [← hAk]; exact woL_set F0a
        have ho1 : (rwp A2 ++ AVal.own 901 m1 :: rwp C2).getD at1.toNat .any = .own 901 m1 := own_at hAk.symm
        have hol : (rwp A2 ++ AVal.own 901 m1 :: rwp C2).length = A2.length + (C2.length + 1) := by rw [List.length_append, List.length_cons, rwp_len, rwp_len]
        have hkl : at1.toNat < (rwp A2 ++ AVal.own 901 m1 :: rwp C2).length := by omega
        simp only [hset, woT, woO, woL_cons, woL_nil, woV_val, woV_own, wo_ptr, wo_o, woL_ints, wo_st, woO_row, woO_box, woO_gone, wo_any, gwp_nil, yzu, yze, go_sem, yz0, Int.reduceLT, reduceLE, reduceToNat, reduceNeg, Nat.reduceLT, reduceLeDiff, reduceMul, reduceSub, reduceIte, reduceEqDiff, reduceAdd, reduceCtorEq]
        intro vs4 U4 hN4
        simp only [ho1, go_sem, yz0, Int.reduceLT, reduceLE, reduceToNat, reduceNeg, Nat.reduceLT, reduceLeDiff, reduceMul, reduceSub, reduceIte, reduceEqDiff, reduceAdd, reduceCtorEq]
        refine ⟨⟨e3, hkl⟩, hkl, ⟨⟨_, rfl, rfl⟩, _, rfl, rfl⟩, ?_⟩
        refine call_boxrowN (r := 5000) (q := 49) (cs0 := srcC code a2 s2) (k_among code a2 s2 [-1, n] hb (by omega) (by simp)) rfl rfl (by simp) (by decide) qCS (by simp only [yzw, yz18, and_true, Coe]; exact ⟨⟨0, _, _, rfl, rfl, rfl, rfl, rfl⟩, 1, _, _, rfl, rfl, rfl, rfl, rfl⟩) ⟨srcC code a2 0, .int .i64 n, ⟨a2, 0, n, rfl, by omega, by omega, rfl, by simp⟩, flat_srcC⟩ ?_
        rintro cs' x ⟨a3, s3, b3, rfl, g3, g4, rfl, g5⟩
        simp only [yzu, yze, go_sem, yz0, Int.reduceLT, reduceLE, reduceToNat, reduceNeg, Nat.reduceLT, reduceLeDiff, reduceMul, reduceSub, reduceIte, reduceEqDiff, reduceAdd, reduceCtorEq]
        refine ⟨hbl, hbl, ?_⟩
        have ed : AVal.val (.int .i64 b3) :: List.drop 1 (ints b.2) = ints (b3 :: b.2.drop 1) := by simp [List.map_drop]
        rw [ed]
        exact h12b _ v2 v3 10 v m1 (AObj.wo b.1 o6) _ a3 s3 n A2 C2 b (b3 :: b.2.drop 1) hd (by omega) (by omega) (fun p hp => hps p (by simp only [List.mem_append, List.mem_cons] at hp ⊢; rcases hp with h | h <;> simp [h])) (by simp only [List.length_cons, List.length_drop]; omega) (by omega) (.inr ⟨rfl, rfl⟩) (by simp only [go_sem, yz0, Int.reduceLT, reduceLE, reduceToNat, reduceNeg, Nat.reduceLT, reduceLeDiff, reduceMul, reduceSub, reduceIte, reduceEqDiff, reduceAdd, reduceCtorEq]; try rfl)
      by_cases k3 : kd = 3
      · subst k3
        have h00 : 0 < ps.length := by omega
        simp only [beq_false_of_ne (show (3 : Int) ≠ 0 by omega), beq_false_of_ne (show (3 : Int) ≠ 1 by omega), Bz2, Bz1, Bz3, yzu, yze, go_sem, yz0, Int.reduceLT, reduceLE, reduceToNat, reduceNeg, Nat.reduceLT, reduceLeDiff, reduceMul, reduceSub, reduceIte, reduceEqDiff, reduceAdd, reduceCtorEq]
        intro _ _ _ _ _ _ _ _ _
        simp only [beq_false_of_ne (show (3 : Int) ≠ 2 by omega), Bz5, yzu, wpD_gh, go_sem, yz0, Int.reduceLT, reduceLE, reduceToNat, reduceNeg, Nat.reduceLT, reduceLeDiff, reduceMul, reduceSub, reduceIte, reduceEqDiff, reduceAdd, reduceCtorEq]
        intro _
        refine ⟨[], ?_⟩
        simp only [beq_self_eq_true, Bzc, rwp_getD h00, gwp_nil, yzu, yze, go_sem, yz0, Int.reduceLT, reduceLE, reduceToNat, reduceNeg, Nat.reduceLT, reduceLeDiff, reduceMul, reduceSub, reduceIte, reduceEqDiff, reduceAdd, reduceCtorEq]
        intro _ _ _ vs9 U9 hN9
        have hlw : (rwp ps).length = ps.length := rwp_len
        refine ⟨by omega, by omega, by omega, by omega, by omega, by omega, by omega, by rw [List.length_append, List.length_singleton]; omega, ?_⟩
        generalize hp0 : ps.getD 0 (0, []) = p0
        have hp0m : p0 ∈ ps := hp0 ▸ yz16 h00 (0, [])
        have e5 : rwp ps ++ [AVal.ro (some (some (p0.1 + 1))) 1 (ints p0.2)] ++ [AVal.ro (some (some (p0.1 + 1))) 1 (ints p0.2), AVal.ro (some (some (p0.1 + 1))) 1 (ints p0.2)] = rwp (ps ++ [p0] ++ [p0, p0]) := by simp only [rwp, List.map_append, List.map_cons, List.map_nil]
        rw [e5]
        have hl6 : (ps ++ [p0] ++ [p0, p0]).length = ps.length + 3 := by simp
        exact h12 _ v2 v3 10 (vs9 19 0) o6 _ .gone .gone .gone a2 s2 n (ps ++ [p0] ++ [p0, p0]) (fun h => absurd h (by omega)) (by omega) (by omega) (fun p hp => by
          simp only [List.mem_append, List.mem_cons, List.not_mem_nil, or_false] at hp
          rcases hp with (hp | rfl) | rfl | rfl
          · exact hps p hp
          · exact hps _ hp0m
          · exact hps _ hp0m
          · exact hps _ hp0m) (by omega) (.inr (.inl ⟨rfl, rfl⟩)) (by simp only [go_sem, yz0, Int.reduceLT, reduceLE, reduceToNat, reduceNeg, Nat.reduceLT, reduceLeDiff, reduceMul, reduceSub, reduceIte, reduceEqDiff, reduceAdd, reduceCtorEq]; try rfl)
      by_cases k4 : kd = 4
      · subst k4
        simp only [beq_false_of_ne (show (4 : Int) ≠ 0 by omega), beq_false_of_ne (show (4 : Int) ≠ 1 by omega), Bz2, Bz1, Bz3, yzu, yze, go_sem, yz0, Int.reduceLT, reduceLE, reduceToNat, reduceNeg, Nat.reduceLT, reduceLeDiff, reduceMul, reduceSub, reduceIte, reduceEqDiff, reduceAdd, reduceCtorEq]
        intro _ _ _ _ _ _ _ _ _
        simp only [beq_false_of_ne (show (4 : Int) ≠ 2 by omega), Bz5, yzu, wpD_gh, go_sem, yz0, Int.reduceLT, reduceLE, reduceToNat, reduceNeg, Nat.reduceLT, reduceLeDiff, reduceMul, reduceSub, reduceIte, reduceEqDiff, reduceAdd, reduceCtorEq]
        intro _
        refine ⟨[], ?_⟩
        simp only [beq_false_of_ne (show (4 : Int) ≠ 3 by omega), Bzc, Bz10, beq_self_eq_true, gwp_nil, yzu, yze, go_sem, yz0, Int.reduceLT, reduceLE, reduceToNat, reduceNeg, Nat.reduceLT, reduceLeDiff, reduceMul, reduceSub, reduceIte, reduceEqDiff, reduceAdd, reduceCtorEq]
        intro _ _ _ _ _ _ vs9 U9 hN9
        exact h12 _ v2 v3 77 (vs9 0 0) o6 _ .gone .gone _ a2 s2 n [] (fun _ => by simp [DJ]) (by simp) (by omega) (by simp) (by omega) (.inr (.inr ⟨rfl, rfl⟩)) (by simp only [rwp_nil, go_sem, yz0, Int.reduceLT, reduceLE, reduceToNat, reduceNeg, Nat.reduceLT, reduceLeDiff, reduceMul, reduceSub, reduceIte, reduceEqDiff, reduceAdd, reduceCtorEq]; try rfl)
      simp only [beq_false_of_ne k0, beq_false_of_ne k1, Bz2, Bz1, Bz3, yzu, yze, go_sem, yz0, Int.reduceLT, reduceLE, reduceToNat, reduceNeg, Nat.reduceLT, reduceLeDiff, reduceMul, reduceSub, reduceIte, reduceEqDiff, reduceAdd, reduceCtorEq]
      intro _ _ _ _ _ _ _ _ _
      simp only [beq_false_of_ne k2, Bz5, yzu, wpD_gh, go_sem, yz0, Int.reduceLT, reduceLE, reduceToNat, reduceNeg, Nat.reduceLT, reduceLeDiff, reduceMul, reduceSub, reduceIte, reduceEqDiff, reduceAdd, reduceCtorEq]
      intro _
      refine ⟨[], ?_⟩
      simp only [beq_false_of_ne k3, beq_false_of_ne k4, Bzc, Bz10, gwp_nil, yzu, yze, go_sem, yz0, Int.reduceLT, reduceLE, reduceToNat, reduceNeg, Nat.reduceLT, reduceLeDiff, reduceMul, reduceSub, reduceIte, reduceEqDiff, reduceAdd, reduceCtorEq]
      intro _ _ _ _ _ _
      exact h12 _ v2 v3 10 v o6 _ .gone .gone .gone a2 s2 n ps (fun _ => hd) (by omega) (by omega) hps (by omega) (.inr (.inl ⟨rfl, rfl⟩)) (by simp only [go_sem, yz0, Int.reduceLT, reduceLE, reduceToNat, reduceNeg, Nat.reduceLT, reduceLeDiff, reduceMul, reduceSub, reduceIte, reduceEqDiff, reduceAdd, reduceCtorEq]; try rfl)
  simp only [Azd, Bzf7, yzu, yze, go_sem, yz0, Int.reduceLT, reduceLE, reduceToNat, reduceNeg, Nat.reduceLT, reduceLeDiff, reduceMul, reduceSub, reduceIte, reduceEqDiff, reduceAdd, reduceCtorEq]
  intro vs0 U0 hN0 vs1 U1 hN1
  refine call_con (r := 5000) (k_DrawnN code at_ seed 6 hb (by omega) (by omega)) rfl (by simp only [Bool.not_true, rowIs, boxIs, coe_argN, yz1f, coe_ro_o, yz18, yzw, coe_any, coe_val, coe_ro, yz12, yz15, coe_st, yz13, coe_rp, yz14, coe_clo, coe_own0, yz1g, yz11, coeL_rws, coeL_rwn, L_hit, L_miss, L_nil, reduceEqDiff, ne_eq, reduceCtorEq, not_false_eq_true, true_and, and_true, and_self, exists_eq_left, exists_eq_right, List.mem_cons, List.not_mem_nil, or_false, AObj.row.injEq, AObj.box.injEq, exists_eq_left', exists_and_left, exists_eq, Nat.zero_lt_one, Nat.lt_add_one, List.map_cons, List.map_nil, AObj.ver, Nat.reduceLT, not_true_eq_false]) (by simp only [Bool.not_true, rowIs, boxIs, coe_argN, yz1f, coe_ro_o, yz18, yzw, coe_any, coe_val, coe_ro, yz12, yz15, coe_st, yz13, coe_rp, yz14, coe_clo, coe_own0, yz1g, yz11, coeL_rws, coeL_rwn, L_hit, L_miss, L_nil, reduceEqDiff, ne_eq, reduceCtorEq, not_false_eq_true, true_and, and_true, and_self, exists_eq_left, exists_eq_right, List.mem_cons, List.not_mem_nil, or_false, AObj.row.injEq, AObj.box.injEq, exists_eq_left', exists_and_left, exists_eq, Nat.zero_lt_one, Nat.lt_add_one, List.map_cons, List.map_nil, AObj.ver, Nat.reduceLT, not_true_eq_false]) ?_
  rintro outs rows res ⟨q, qs, vq, a1, s1, A, hd, hq3, h1, h2, rfl, rfl, rfl⟩
  refine ⟨rfl, by simp, by rw [Option.getD_some, yzl]; simp only [go_sem, yz0, Int.reduceLT, reduceLE, reduceToNat, reduceNeg, Nat.reduceLT, reduceLeDiff, reduceMul, reduceSub, reduceIte, reduceEqDiff, reduceAdd, reduceCtorEq], ?_⟩
  rw [Option.getD_some, callHp_mr (by omega)]
  have hv0 : ∀ y, vs1 1 y ≠ 0 := fun y e => by
    have h := hN1.hp 5000
    simp only [AObj.uses, go_sem, yz0, Int.reduceLT, reduceLE, reduceToNat, reduceNeg, Nat.reduceLT, reduceLeDiff, reduceMul, reduceSub, reduceIte, reduceEqDiff, reduceAdd, reduceCtorEq] at h
    exact hN1.new 1 y (by rw [e]; exact h.1)
  simp only [renL_rwp, Bzf6, yzu, yze, Nat.not_lt_zero, range1, yzv, yzy, yz19, yz1b, yzz, yz1a, yz1c, yz17, yzx, yzp, yzf, yz3, yzs, yzq, yzn, yzm, yzt, yz7, yzd, yzb, yzc, yzi, yzh, yz2, yz6, yz8, yza, yzg, yzj, List.range_zero, yz5, yz4, yz9, yzr, yzl, yzo, AVal.fresh, freshL, yz1, yzk, AObj.fresh, id, Option.isSome_some, or_true, true_or, go_sem, yz0, Int.reduceLT, reduceLE, reduceToNat, reduceNeg, Nat.reduceLT, reduceLeDiff, reduceMul, reduceSub, reduceIte, reduceEqDiff, reduceAdd, reduceCtorEq]
  intro vs2 U2 hN2
  clear hN2
  have hsi := fun l (h : L .gone l 5000 = .box 0 (srcC code at_ seed)) => sv_inj (hp := L .gone l) (r := 5000) h (fun x y e => (hN1.inj _ _ _ _ e).2) hv0
  have hs0 := fun l (h : L .gone l 5000 = .box 0 (srcC code at_ seed)) => (sv_m (s := vs1 1) h : sv (L .gone l) [5000] (vs1 1) 0 = 0)
  generalize hl0 : [(2, AObj.box (vs0 0 0) [iv 0, AVal.val (Value.slice none 0 0)]), (3, AObj.gone), (6, AObj.gone), (10, AObj.gone), (61, AObj.gone), (73, AObj.gone), (77, AObj.gone), (5000, AObj.box 0 (srcC code at_ seed)), (901, AObj.gone)] = l0
  have hi := hsi l0 (by rw [← hl0]; rfl)
  have h0 := hs0 l0 (by rw [← hl0]; rfl)
  generalize sv (L .gone l0) [5000] (vs1 1) = f at hi h0 ⊢
  rw [h0]
  have A0 : Aut q ((qs.map fun p => (f p.1, p.2)).map (·.2)) := by rw [List.map_map]; exact A
  have hd0 := hd.ren hi
  generalize (qs.map fun p => (f p.1, p.2)) = ps0 at A0 hd0 ⊢
  refine call_funB (k_one code a1 s1 8 hb (by omega)) rfl qCS qCS ?_
  rintro cs' x ⟨a2, s2, b2, rfl, g1, g2, rfl⟩
  simp only [Bzf5, yzu, yze, go_sem, yz0, Int.reduceLT, reduceLE, reduceToNat, reduceNeg, Nat.reduceLT, reduceLeDiff, reduceMul, reduceSub, reduceIte, reduceEqDiff, reduceAdd, reduceCtorEq]
  refine ⟨fun _ vs3 U3 hN3 => ?_, fun _ => ?_⟩
  · refine call_con (r := 5000) (k_DrawnN code a2 s2 10 hb (by omega) (by omega)) rfl (by simp only [Bool.not_true, rowIs, boxIs, coe_argN, yz1f, coe_ro_o, yz18, yzw, coe_any, coe_val, coe_ro, yz12, yz15, coe_st, yz13, coe_rp, yz14, coe_clo, coe_own0, yz1g, yz11, coeL_rws, coeL_rwn, L_hit, L_miss, L_nil, reduceEqDiff, ne_eq, reduceCtorEq, not_false_eq_true, true_and, and_true, and_self, exists_eq_left, exists_eq_right, List.mem_cons, List.not_mem_nil, or_false, AObj.row.injEq, AObj.box.injEq, exists_eq_left', exists_and_left, exists_eq, Nat.zero_lt_one, Nat.lt_add_one, List.map_cons, List.map_nil, AObj.ver, Nat.reduceLT, not_true_eq_false]) (by simp only [Bool.not_true, rowIs, boxIs, coe_argN, yz1f, coe_ro_o, yz18, yzw, coe_any, coe_val, coe_ro, yz12, yz15, coe_st, yz13, coe_rp, yz14, coe_clo, coe_own0, yz1g, yz11, coeL_rws, coeL_rwn, L_hit, L_miss, L_nil, reduceEqDiff, ne_eq, reduceCtorEq, not_false_eq_true, true_and, and_true, and_self, exists_eq_left, exists_eq_right, List.mem_cons, List.not_mem_nil, or_false, AObj.row.injEq, AObj.box.injEq, exists_eq_left', exists_and_left, exists_eq, Nat.zero_lt_one, Nat.lt_add_one, List.map_cons, List.map_nil, AObj.ver, Nat.reduceLT, not_true_eq_false]) ?_
    rintro outs rows res ⟨q', qs', vq', a3, s3, A', hd', hq', g3, g4, rfl, rfl, rfl⟩
    refine ⟨rfl, by simp, by rw [Option.getD_some, yzl]; simp only [go_sem, yz0, Int.reduceLT, reduceLE, reduceToNat, reduceNeg, Nat.reduceLT, reduceLeDiff, reduceMul, reduceSub, reduceIte, reduceEqDiff, reduceAdd, reduceCtorEq], ?_⟩
    rw [Option.getD_some, callHp_mr (by omega)]
    have hv1 : ∀ y, vs3 1 y ≠ 0 := fun y e => by
      have h := hN3.hp 5000
      simp only [AObj.uses, go_sem, yz0, Int.reduceLT, reduceLE, reduceToNat, reduceNeg, Nat.reduceLT, reduceLeDiff, reduceMul, reduceSub, reduceIte, reduceEqDiff, reduceAdd, reduceCtorEq] at h
      exact hN3.new 1 y (by rw [e]; exact h.1)
    simp only [renL_rwp, yzu, yze, Nat.not_lt_zero, range1, yzv, yzy, yz19, yz1b, yzz, yz1a, yz1c, yz17, yzx, yzp, yzf, yz3, yzs, yzq, yzn, yzm, yzt, yz7, yzd, yzb, yzc, yzi, yzh, yz2, yz6, yz8, yza, yzg, yzj, List.range_zero, yz5, yz4, yz9, yzr, yzl, yzo, AVal.fresh, freshL, yz1, yzk, AObj.fresh, id, Option.isSome_some, or_true, true_or, go_sem, yz0, Int.reduceLT, reduceLE, reduceToNat, reduceNeg, Nat.reduceLT, reduceLeDiff, reduceMul, reduceSub, reduceIte, reduceEqDiff, reduceAdd, reduceCtorEq]
    have hsi := fun l (h : L .gone l 5000 = .box 0 (srcC code a2 s2)) => sv_inj (hp := L .gone l) (r := 5000) h (fun x y e => (hN3.inj _ _ _ _ e).2) hv1
    have hs0 := fun l (h : L .gone l 5000 = .box 0 (srcC code a2 s2)) => (sv_m (s := vs3 1) h : sv (L .gone l) [5000] (vs3 1) 0 = 0)
    generalize hl1 : [(2, AObj.box (vs0 0 0) [iv 0, AVal.val (Value.slice none 0 0)]), (3, AObj.box (vs1 2 0) [iv q, .own 6 (f vq)]), (6, AObj.row (f vq) 1 true (rwp ps0)), (10, AObj.gone), (61, AObj.gone), (73, AObj.gone), (77, AObj.gone), (5000, AObj.box 0 (srcC code a2 s2)), (901, AObj.gone)] = l1
    have hi1 := hsi l1 (by rw [← hl1]; rfl)
    have h01 := hs0 l1 (by rw [← hl1]; rfl)
    generalize sv (L .gone l1) [5000] (vs3 1) = f1 at hi1 h01 ⊢
    rw [h01]
    have A1 : Aut q' ((qs'.map fun p => (f1 p.1, p.2)).map (·.2)) := by rw [List.map_map]; exact A'
    have hd1 := hd'.ren hi1
    generalize (qs'.map fun p => (f1 p.1, p.2)) = ps1 at A1 hd1 ⊢
    exact h4 _ (vs0 0 0) (vs1 2 0) 10 (f1 vq') _ _ a3 s3 q' ps1 A1 hd1 (by omega) (.inr ⟨rfl, rfl⟩) (by simp only [← hl1, go_sem, yz0, Int.reduceLT, reduceLE, reduceToNat, reduceNeg, Nat.reduceLT, reduceLeDiff, reduceMul, reduceSub, reduceIte, reduceEqDiff, reduceAdd, reduceCtorEq]; try rfl)
  · exact h4 _ (vs0 0 0) (vs1 2 0) 6 (f vq) _ .gone a2 s2 q ps0 A0 hd0 (by omega) (.inl ⟨rfl, rfl⟩) (by simp only [go_sem, yz0, Int.reduceLT, reduceLE, reduceToNat, reduceNeg, Nat.reduceLT, reduceLeDiff, reduceMul, reduceSub, reduceIte, reduceEqDiff, reduceAdd, reduceCtorEq]; try rfl)
end Go.Ab
namespace Go.Ab
open Go.Proofs
def FRen (F : Int → List (Nat × List Int) → Prop) : Prop := ∀ n ps (f : Nat → Nat), (∀ x y, f x = f y → x = y) → F n ps → F n (ps.map fun p => (f p.1, p.2))
theorem New.box {vs : Nat → Nat → Nat} {U : Nat → Prop} {σ : St} {r v : Nat} {cs : List AVal} (h : New vs U σ) (hr : σ.hp r = .box v cs) (i y : Nat) : vs i y ≠ v := fun e => by
  have h1 := h.hp r
  rw [hr] at h1
  simp only [AObj.uses] at h1
  exact h.new i y (by rw [e]; exact h1.1)
theorem call_lo {P : Program} {F : Int → List (Nat × List Int) → Prop} (hF : FRen F) {σ : St} {g : FuncId} {As args : List AVal} {d : Nat} {s : Nat → Nat} {K : St → Prop} {r v : Nat} {code : List Int} {a s0 k : Int}
    (h : Con P g [.box 0 (srcC code a s0)] (.ptr 5000 0 0 :: args) true fun outs rows res => ∃ n ps v a' s', F n ps ∧ a ≤ a' ∧ a' ≤ a + k ∧ outs = [.box 0 (srcC code a' s')] ∧ rows = [.row v 1 true (rwp ps)] ∧ res = .st [iv n, .own 6000 v])
    (hr : σ.hp r = .box v (srcC code a s0)) (hs : ∀ x y, s x = s y → x = y) (hv : ∀ y, s y ≠ v) (hco : CoeL σ.hp [r] false args As) (hd : σ.hp d = .gone)
    (hk : ∀ n ps v' a' s', F n ps → a ≤ a' → a' ≤ a + k → K (St.put ⟨σ.tm, upd (upd σ.hp r (.box v (srcC code a' s'))) d (.row v' 1 true (rwp ps))⟩ (some d) (.st [iv n, .own d v']))) : wpCall P false σ g (.ptr r v 0 :: As) (some d) s K := by
  have hne : d ≠ r := fun e => by rw [e, hr] at hd; cases hd
  refine call_con (r := r) h hr (by simp only [Bool.not_true, rowIs, boxIs, coe_argN, yz1f, coe_ro_o, yz18, yzw, coe_any, coe_val, coe_ro, yz12, yz15, coe_st, yz13, coe_rp, yz14, coe_clo, coe_own0, yz1g, yz11, coeL_rws, coeL_rwn, L_hit, L_miss, L_nil, reduceEqDiff, ne_eq, reduceCtorEq, not_false_eq_true, true_and, and_true, and_self, exists_eq_left, exists_eq_right, List.mem_cons, List.not_mem_nil, or_false, AObj.row.injEq, AObj.box.injEq, exists_eq_left', exists_and_left, exists_eq, Nat.zero_lt_one, Nat.lt_add_one, List.map_cons, List.map_nil, AObj.ver, Nat.reduceLT, not_true_eq_false]) (by rw [Bool.not_true, yzw, yz1g, hr]; exact ⟨rfl, hco⟩) ?_
  rintro outs rows res ⟨n, ps, w, a', s', hf, h1, h2, rfl, rfl, rfl⟩
  refine ⟨rfl, by simp, by rw [Option.getD_some, yzl]; exact hd, ?_⟩
  rw [Option.getD_some, callHp_mr hne]
  have hi := sv_inj (hp := σ.hp) (r := r) hr hs hv
  have h0 : sv σ.hp [r] s 0 = v := sv_m hr
  simp only [yzn, yzm, renL_rwp, renL_flat _ flat_srcC, yz17, yzf, yzp, yzv, List.length_singleton, yz2, h0]
  exact hk n _ _ a' s' (hF n ps _ hi hf) h1 h2
theorem call_lo0 {P : Program} {F : Int → List (Nat × List Int) → Prop} (hF : FRen F) {σ : St} {g : FuncId} {As args : List AVal} {d : Nat} {s : Nat → Nat} {K : St → Prop}
    (h : Con P g [] args true fun outs rows res => outs = [] ∧ ∃ n v ps, F n ps ∧ rows = [.row v 1 true (rwp ps)] ∧ res = .st [iv n, .own 6000 v])
    (hs : ∀ x y, s x = s y → x = y) (hco : CoeL σ.hp [] false args As) (hd : σ.hp d = .gone)
    (hk : ∀ n ps v', F n ps → K (St.put ⟨σ.tm, upd σ.hp d (.row v' 1 true (rwp ps))⟩ (some d) (.st [iv n, .own d v']))) : wpCall P false σ g As (some d) s K := by
  refine call_sh h hco (fun e => by cases e) ?_
  rintro outs rows res ⟨rfl, n, w, ps, hf, rfl, rfl⟩
  refine ⟨rfl, by simp, by rw [Option.getD_some, yzl]; exact hd, ?_⟩
  rw [Option.getD_some, yz4]
  simp only [yzm, renL_rwp, yz17, yzf, yzp, yzv, List.length_singleton, yz2]
  exact hk n _ _ (hF n ps _ hs hf)
theorem call_lo2 {P : Program} {F : Int → List (Nat × List Int) → Prop} (hF : FRen F) {σ : St} {g : FuncId} {As args : List AVal} {d : Nat} {s : Nat → Nat} {K : St → Prop} {r v : Nat} {code : List Int} {a s0 k : Int}
    (h : Con P g [.box 0 (srcC code a s0)] (.ptr 5000 0 0 :: args) true fun outs rows res => ∃ n ps v w xs a' s', F n ps ∧ a ≤ a' ∧ a' ≤ a + k ∧ outs = [.box 0 (srcC code a' s')] ∧ rows = [.row v 1 true (rwp ps), .row w 1 true (ints xs)] ∧ res = .tup [.st [iv n, .own 6000 v], .own 6001 w])
    (hr : σ.hp r = .box v (srcC code a s0)) (hs : ∀ x y, s x = s y → x = y) (hv : ∀ y, s y ≠ v) (hco : CoeL σ.hp [r] false args As) (hd : σ.hp d = .gone) (hd2 : σ.hp (d + 1000) = .gone)
    (hk : ∀ n ps v' w' xs a' s', F n ps → a ≤ a' → a' ≤ a + k → K (St.put ⟨σ.tm, upd (upd (upd σ.hp r (.box v (srcC code a' s'))) d (.row v' 1 true (rwp ps))) (d + 1000) (.row w' 1 true (ints xs))⟩ (some d) (.tup [.st [iv n, .own d v'], .own (d + 1000) w']))) : wpCall P false σ g (.ptr r v 0 :: As) (some d) s K := by
  have hne : d ≠ r := fun e => by rw [e, hr] at hd; cases hd
  have hne2 : d + 1000 ≠ r := fun e => by rw [e, hr] at hd2; cases hd2
  refine call_con (r := r) h hr (by simp only [Bool.not_true, rowIs, boxIs, coe_argN, yz1f, coe_ro_o, yz18, yzw, coe_any, coe_val, coe_ro, yz12, yz15, coe_st, yz13, coe_rp, yz14, coe_clo, coe_own0, yz1g, yz11, coeL_rws, coeL_rwn, L_hit, L_miss, L_nil, reduceEqDiff, ne_eq, reduceCtorEq, not_false_eq_true, true_and, and_true, and_self, exists_eq_left, exists_eq_right, List.mem_cons, List.not_mem_nil, or_false, AObj.row.injEq, AObj.box.injEq, exists_eq_left', exists_and_left, exists_eq, Nat.zero_lt_one, Nat.lt_add_one, List.map_cons, List.map_nil, AObj.ver, Nat.reduceLT, not_true_eq_false]) (by rw [Bool.not_true, yzw, yz1g, hr]; exact ⟨rfl, hco⟩) ?_
  rintro outs rows res ⟨n, ps, w, w2, xs, a', s', hf, h1, h2, rfl, rfl, rfl⟩
  refine ⟨rfl, by simp, by rw [Option.getD_some, yzo]; exact ⟨hd, hd2⟩, ?_⟩
  rw [Option.getD_some, callHp_mrr hne hne2]
  have hi := sv_inj (hp := σ.hp) (r := r) hr hs hv
  have h0 : sv σ.hp [r] s 0 = v := sv_m hr
  have e2 : ([AObj.row w 1 true (rwp ps), AObj.row w2 1 true (ints xs)] : List AObj).length = 2 := rfl
  simp only [yzn, yzm, renL_rwp, renL_flat _ flat_srcC, yz17, yzx, yzf, yzp, yz3, yzv, e2, yz2, yz6, h0]
  exact hk n _ _ _ xs a' s' (hF n ps _ hi hf) h1 h2
def FAut (m : Int) (n : Int) (ps : List (Nat × List Int)) : Prop := Aut n (ps.map (·.2)) ∧ DJ ps ∧ n ≤ m
def FLo (n : Int) (ps : List (Nat × List Int)) : Prop := (ps.length ≤ 3 → DJ ps) ∧ ps.length ≤ 10 ∧ -1 ≤ n ∧ n ≤ 11 ∧ ∀ p ∈ ps, p.2.length ≤ 10
theorem map_named {ps : List (Nat × List Int)} {f : Nat → Nat} : (ps.map fun p => (f p.1, p.2)).map (·.2) = ps.map (·.2) := by rw [List.map_map]; rfl
theorem FAut_ren (m : Int) : FRen (FAut m) := by
  rintro n ps f hf ⟨h1, h2, h3⟩
  exact ⟨by rw [map_named]; exact h1, h2.ren hf, h3⟩
theorem FLo_ren : FRen FLo := by
  rintro n ps f hf ⟨h1, h2, h3, h4, h5⟩
  refine ⟨fun h => (h1 (by simpa using h)).ren hf, by simpa using h2, h3, h4, fun p hp => ?_⟩
  obtain ⟨q, hq, rfl⟩ := List.mem_map.1 hp
  exact h5 q hq
theorem FAut.lo {m n : Int} {ps : List (Nat × List Int)} (h : FAut m n ps) : FLo n ps := by
  obtain ⟨A, hd, hm⟩ := h
  have n1 := A.n1
  have n2 := A.n2
  have l2 := A.l2
  rw [List.length_map] at l2
  exact ⟨fun _ => hd, by omega, by omega, by omega, fun p hp => by have := (A.row p.2 (List.mem_map.2 ⟨p, hp, rfl⟩)).1; omega⟩
theorem DJ_refrozen {A2 C2 : List (Nat × List Int)} {b : Nat × List Int} {m : Nat} {cur : List Int} (hd : DJ (A2 ++ b :: C2))
    (hf : ∀ n k'' cs'', AVal.ro (some (some (n + 1))) k'' cs'' ∈ rwp A2 ++ AVal.own 901 m :: rwp C2 → cs'' ≠ [] → n ≠ m) : DJ (A2 ++ (m, cur) :: C2) := DJ_in hd fun p hp => by
  by_cases e : p.2 = []
  · exact .inl e
  · refine .inr (hf p.1 1 (ints p.2) ?_ (by simpa using e))
    rcases List.mem_append.1 hp with h | h
    · exact List.mem_append.2 (.inl (List.mem_map.2 ⟨p, h, rfl⟩))
    · exact List.mem_append.2 (.inr (List.mem_cons.2 (.inr (List.mem_map.2 ⟨p, h, rfl⟩))))
theorem Aut_put {n : Int} {A2 C2 : List (Nat × List Int)} {b : Nat × List Int} {u : Nat} {cur : List Int} (A : Aut n ((A2 ++ b :: C2).map (·.2))) (hl : cur.length = b.2.length) (hm : ∀ x ∈ cur, 0 ≤ x ∧ x < n) : Aut n ((A2 ++ (u, cur) :: C2).map (·.2)) := by
  have l1 := A.l1
  have l2 := A.l2
  have hbr := A.row b.2 (by simp)
  refine ⟨A.n1, A.n2, by rw [List.length_map] at l1 ⊢; simpa using l1, by rw [List.length_map] at l2 ⊢; simpa using l2, fun row hr => ?_⟩
  rw [List.map_append, List.map_cons, List.mem_append, List.mem_cons] at hr
  rcases hr with h | h | h
  · exact A.row row (by rw [List.map_append]; exact List.mem_append.2 (.inl h))
  · rw [h]; exact ⟨by dsimp only; omega, hm⟩
  · exact A.row row (by rw [List.map_append, List.map_cons]; exact List.mem_append.2 (.inr (List.mem_cons_of_mem _ h)))
theorem k_l02Drawn (code : List Int) (at_ seed : Int) (hb : ∀ x ∈ code, 0 ≤ x ∧ x ≤ 255) (ha : 0 ≤ at_ ∧ at_ ≤ 10000) :
    Con Try.prog nz3h [.box 0 (srcC code at_ seed)] [.ptr 5000 0 0] true fun outs rows res => ∃ n ps v a' s', FLo n ps ∧ at_ ≤ a' ∧ a' ≤ at_ + 5000 ∧ outs = [.box 0 (srcC code a' s')] ∧ rows = [.row v 1 true (rwp ps)] ∧ res = .st [iv n, .own 6000 v] := by
  refine con_sh mixed czht rfl (by simp) ?_
  generalize hQ : finQ _ = Q
  simp only [Azb, Bzd1, yzu, yze, go_sem, yz0, Int.reduceLT, reduceLE, reduceToNat, reduceNeg, Nat.reduceLT, reduceLeDiff, reduceMul, reduceSub, reduceIte, reduceEqDiff, reduceAdd, reduceCtorEq]
  intro vs0 U0 hN0 vs1 U1 hN1
  refine call_funB (k_pick code at_ seed 6 hb (by omega)) rfl qCS qCS ?_
  rintro cs' x ⟨a1, s1, b1, rfl, g1, g2, rfl, g3, g4⟩
  by_cases k0 : b1 = 0
  · subst k0
    simp only [Bzy, Bzx, beq_self_eq_true, yzu, yze, go_sem, yz0, Int.reduceLT, reduceLE, reduceToNat, reduceNeg, Nat.reduceLT, reduceLeDiff, reduceMul, reduceSub, reduceIte, reduceEqDiff, reduceAdd, reduceCtorEq]
    intro vs2 U2 hN2 vs3 U3 hN3
    refine call_funB (k_pick code a1 s1 6 hb (by omega)) rfl qCS qCS ?_
    rintro cs' x ⟨a2, s2, b2, rfl, g5, g6, rfl, g7, g8⟩
    have w1 : IntKind.i64.wrap (2 + b2) = 2 + b2 := w64 (by omega)
    simp only [w1, yzu, yze, go_sem, yz0, Int.reduceLT, reduceLE, reduceToNat, reduceNeg, Nat.reduceLT, reduceLeDiff, reduceMul, reduceSub, reduceIte, reduceEqDiff, reduceAdd, reduceCtorEq]
    refine call_lo0 (FAut_ren 10) (Con.mono (k_l02SlowN (2 + b2) (by omega)) ?_) (fun x y e => (hN3.inj _ _ _ _ e).2) qCS qGN ?_
    · rintro outs rows res ⟨h1, v, ps, h2, h3, h4, h5⟩
      exact ⟨h1, _, v, ps, ⟨h2, h3, by omega⟩, h4, h5⟩
    intro n ps v' hf
    simp only [← hQ, Azb, yzu, yze, go_sem, yz0, Int.reduceLT, reduceLE, reduceToNat, reduceNeg, Nat.reduceLT, reduceLeDiff, reduceMul, reduceSub, reduceIte, reduceEqDiff, reduceAdd, reduceCtorEq]
    refine ⟨[14], by simp, by simp, by simp, ?_⟩
    simp only [range1, List.length_singleton, renL_rwp, Nat.not_lt_zero, range1, yzv, yzy, yz19, yz1b, yzz, yz1a, yz1c, yz17, yzx, yzp, yzf, yz3, yzs, yzq, yzn, yzm, yzt, yz7, yzd, yzb, yzc, yzi, yzh, yz2, yz6, yz8, yza, yzg, yzj, List.range_zero, yz5, yz4, yz9, yzr, yzl, yzo, AVal.fresh, freshL, yz1, yzk, AObj.fresh, id, Option.isSome_some, or_true, true_or, go_sem, yz0, Int.reduceLT, reduceLE, reduceToNat, reduceNeg, Nat.reduceLT, reduceLeDiff, reduceMul, reduceSub, reduceIte, reduceEqDiff, reduceAdd, reduceCtorEq]
    exact ⟨n, ps, v', a2, s2, hf.lo, by omega, by omega, rfl, by simp, rfl⟩
  by_cases k1 : b1 = 1
  · subst k1
    simp only [beq_false_of_ne (show (1 : Int) ≠ 0 by omega), Bzy, Bzx, Bz2i, beq_self_eq_true, yzu, yze, go_sem, yz0, Int.reduceLT, reduceLE, reduceToNat, reduceNeg, Nat.reduceLT, reduceLeDiff, reduceMul, reduceSub, reduceIte, reduceEqDiff, reduceAdd, reduceCtorEq]
    intro vs2 U2 hN2 vs3 U3 hN3 vs4 U4 hN4
    refine call_lo2 (k := 2000) (FAut_ren 10) (Con.mono (k_l01Alike code a1 s1 hb (by omega)) ?_) rfl (fun x y e => (hN4.inj _ _ _ _ e).2) (hN4.box (r := 5000) rfl 1) qCS qGN qGN ?_
    · rintro outs rows res ⟨n, ps, v, w, xs, a', s', h1, h2, h3, h4, h5, h6⟩
      exact ⟨n, ps, v, w, xs, a', s', ⟨h1, h2, by omega⟩, h4, h5, h6⟩
    intro n ps v' w' xs a2 s2 hf h1 h2
    simp only [yzu, yze, go_sem, yz0, Int.reduceLT, reduceLE, reduceToNat, reduceNeg, Nat.reduceLT, reduceLeDiff, reduceMul, reduceSub, reduceIte, reduceEqDiff, reduceAdd, reduceCtorEq]
    simp only [Bzcx, ← hQ, Azb, yzu, yze, go_sem, yz0, Int.reduceLT, reduceLE, reduceToNat, reduceNeg, Nat.reduceLT, reduceLeDiff, reduceMul, reduceSub, reduceIte, reduceEqDiff, reduceAdd, reduceCtorEq]
    intro vs5 U5 hN5
    refine ⟨[19], by simp, by simp, by simp, ?_⟩
    simp only [range1, List.length_singleton, renL_rwp, Nat.not_lt_zero, range1, yzv, yzy, yz19, yz1b, yzz, yz1a, yz1c, yz17, yzx, yzp, yzf, yz3, yzs, yzq, yzn, yzm, yzt, yz7, yzd, yzb, yzc, yzi, yzh, yz2, yz6, yz8, yza, yzg, yzj, List.range_zero, yz5, yz4, yz9, yzr, yzl, yzo, AVal.fresh, freshL, yz1, yzk, AObj.fresh, id, Option.isSome_some, or_true, true_or, go_sem, yz0, Int.reduceLT, reduceLE, reduceToNat, reduceNeg, Nat.reduceLT, reduceLeDiff, reduceMul, reduceSub, reduceIte, reduceEqDiff, reduceAdd, reduceCtorEq]
    exact ⟨n, ps, v', a2, s2, hf.lo, by omega, by omega, rfl, by simp, rfl⟩
  by_cases k2 : b1 = 2
  · subst k2
    simp only [beq_false_of_ne (show (2 : Int) ≠ 0 by omega), beq_false_of_ne (show (2 : Int) ≠ 1 by omega), Bzy, Bzx, Bz2i, Bz5h, beq_self_eq_true, yzu, yze, go_sem, yz0, Int.reduceLT, reduceLE, reduceToNat, reduceNeg, Nat.reduceLT, reduceLeDiff, reduceMul, reduceSub, reduceIte, reduceEqDiff, reduceAdd, reduceCtorEq]
    intro vs2 U2 hN2 vs3 U3 hN3 vs4 U4 hN4 vs5 U5 hN5
    refine call_lo (k := 3000) FLo_ren (Con.mono (k_l01Bent code a1 s1 hb (by omega)) ?_) rfl (fun x y e => (hN5.inj _ _ _ _ e).2) (hN5.box (r := 5000) rfl 1) qCS qGN ?_
    · rintro outs rows res ⟨n, ps, v, a', s', h1, h2, h3, h4, h5, h6⟩
      exact ⟨n, ps, v, a', s', ⟨h1, h2, h3, h4, h5⟩, h6⟩
    intro n ps v' a2 s2 hf h1 h2
    simp only [← hQ, Azb, yzu, yze, go_sem, yz0, Int.reduceLT, reduceLE, reduceToNat, reduceNeg, Nat.reduceLT, reduceLeDiff, reduceMul, reduceSub, reduceIte, reduceEqDiff, reduceAdd, reduceCtorEq]
    refine ⟨[26], by simp, by simp, by simp, ?_⟩
    simp only [range1, List.length_singleton, renL_rwp, Nat.not_lt_zero, range1, yzv, yzy, yz19, yz1b, yzz, yz1a, yz1c, yz17, yzx, yzp, yzf, yz3, yzs, yzq, yzn, yzm, yzt, yz7, yzd, yzb, yzc, yzi, yzh, yz2, yz6, yz8, yza, yzg, yzj, List.range_zero, yz5, yz4, yz9, yzr, yzl, yzo, AVal.fresh, freshL, yz1, yzk, AObj.fresh, id, Option.isSome_some, or_true, true_or, go_sem, yz0, Int.reduceLT, reduceLE, reduceToNat, reduceNeg, Nat.reduceLT, reduceLeDiff, reduceMul, reduceSub, reduceIte, reduceEqDiff, reduceAdd, reduceCtorEq]
    exact ⟨n, ps, v', a2, s2, hf, by omega, by omega, rfl, by simp, rfl⟩
  simp only [beq_false_of_ne k0, beq_false_of_ne k1, beq_false_of_ne k2, Bzy, Bzx, Bz2i, Bz5h, Bzd0, yzu, yze, go_sem, yz0, Int.reduceLT, reduceLE, reduceToNat, reduceNeg, Nat.reduceLT, reduceLeDiff, reduceMul, reduceSub, reduceIte, reduceEqDiff, reduceAdd, reduceCtorEq]
  intro vs2 U2 hN2 vs3 U3 hN3 vs4 U4 hN4 vs5 U5 hN5
  refine call_lo (k := 1000) (FAut_ren 6) (Con.mono (k_DrawnN code a1 s1 6 hb (by omega) (by omega)) ?_) rfl (fun x y e => (hN5.inj _ _ _ _ e).2) (hN5.box (r := 5000) rfl 1) qCS qGN ?_
  · rintro outs rows res ⟨n, ps, v, a', s', h1, h2, h3, h4, h5, h6⟩
    exact ⟨n, ps, v, a', s', ⟨h1, h2, h3⟩, h4, h5, h6⟩
  intro n ps v' a2 s2 hf h1 h2
  simp only [Bzcz, yzu, yze, go_sem, yz0, Int.reduceLT, reduceLE, reduceToNat, reduceNeg, Nat.reduceLT, reduceLeDiff, reduceMul, reduceSub, reduceIte, reduceEqDiff, reduceAdd, reduceCtorEq]
  intro vs6 U6 hN6
  refine call_funB (k_one code a2 s2 2 hb (by omega)) rfl qCS qCS ?_
  rintro cs' x ⟨a3, s3, b3, rfl, g5, g6, rfl⟩
  obtain ⟨A, hdj, hn6⟩ := hf
  have l1 := A.l1
  have l2 := A.l2
  have n1 := A.n1
  have n2 := A.n2
  rw [List.length_map] at l1 l2
  have hend : ∀ (σ : St) (v2 v5 : Nat) (ps : List (Nat × List Int)) (a s : Int), FLo n ps → at_ ≤ a ∧ a ≤ at_ + 5000 →
      σ.keep [2, 5] [2, 3, 5, 14, 19, 26, 28, 1019, 5000, 901] = ⟨L .any [(2, .ptr 2 v2 0), (5, .ptr 5 v5 0)],
        L .gone [(2, .box v2 [iv 0, .val (.slice none 0 0)]), (3, .gone), (5, .box v5 [iv n, .own 28 v']), (14, .gone), (19, .gone), (26, .gone), (28, .row v' 1 true (rwp ps)), (1019, .gone), (5000, .box 0 (srcC code a s)), (901, .gone)]⟩ →
      wpD Try.prog Bz2j Q σ := by
    intro σ v2 v5 ps a s hf ha' hS
    unfold Bz2j
    rw [yzu, hS]
    simp only [wpD_gh]
    intro _
    refine ⟨[], ?_⟩
    simp only [gwp_nil, yzu, yze, go_sem, yz0, Int.reduceLT, reduceLE, reduceToNat, reduceNeg, Nat.reduceLT, reduceLeDiff, reduceMul, reduceSub, reduceIte, reduceEqDiff, reduceAdd, reduceCtorEq]
    intro vs U hN
    simp only [← hQ, Azb, go_sem, yz0, Int.reduceLT, reduceLE, reduceToNat, reduceNeg, Nat.reduceLT, reduceLeDiff, reduceMul, reduceSub, reduceIte, reduceEqDiff, reduceAdd, reduceCtorEq]
    refine ⟨[28], by simp, by simp, by simp, ?_⟩
    simp only [range1, List.length_singleton, renL_rwp, Nat.not_lt_zero, range1, yzv, yzy, yz19, yz1b, yzz, yz1a, yz1c, yz17, yzx, yzp, yzf, yz3, yzs, yzq, yzn, yzm, yzt, yz7, yzd, yzb, yzc, yzi, yzh, yz2, yz6, yz8, yza, yzg, yzj, List.range_zero, yz5, yz4, yz9, yzr, yzl, yzo, AVal.fresh, freshL, yz1, yzk, AObj.fresh, id, Option.isSome_some, or_true, true_or, go_sem, yz0, Int.reduceLT, reduceLE, reduceToNat, reduceNeg, Nat.reduceLT, reduceLeDiff, reduceMul, reduceSub, reduceIte, reduceEqDiff, reduceAdd, reduceCtorEq]
    exact ⟨n, ps, v', a, s, hf, ha'.1, ha'.2, rfl, by simp, rfl⟩
  cases b3 with
  | false =>
    simp only [Bz5i, yzu, yze, go_sem, yz0, Int.reduceLT, reduceLE, reduceToNat, reduceNeg, Nat.reduceLT, reduceLeDiff, reduceMul, reduceSub, reduceIte, reduceEqDiff, reduceAdd, reduceCtorEq]
    exact hend _ (vs0 0 0) (vs5 2 0) ps a3 s3 (FAut.lo ⟨A, hdj, hn6⟩) (by omega) (by simp only [go_sem, yz0, Int.reduceLT, reduceLE, reduceToNat, reduceNeg, Nat.reduceLT, reduceLeDiff, reduceMul, reduceSub, reduceIte, reduceEqDiff, reduceAdd, reduceCtorEq]; try rfl)
  | true =>
    simp only [Bz5i, rwp_len, yzu, yze, go_sem, yz0, Int.reduceLT, reduceLE, reduceToNat, reduceNeg, Nat.reduceLT, reduceLeDiff, reduceMul, reduceSub, reduceIte, reduceEqDiff, reduceAdd, reduceCtorEq]
    intro vs7 U7 hN7 hM7
    refine call_funB (k_pick code a3 s3 ps.length hb (by omega)) rfl qCS qCS ?_
    rintro cs' x ⟨a4, s4, x0, rfl, g7, g8, rfl, g9, g10⟩
    have hat : x0.toNat < ps.length := by omega
    obtain ⟨A2, b, C2, rfl, hAk⟩ := rwp_split hat
    have hbr := A.row b.2 (by simp)
    have hbn : b.2 ≠ [] := fun e => by rw [e] at hbr; simp at hbr; omega
    have F0a := DJ_out hdj hbn
    simp only [Bzcy, yzu, wpD_gh, go_sem, yz0, Int.reduceLT, reduceLE, reduceToNat, reduceNeg, Nat.reduceLT, reduceLeDiff, reduceMul, reduceSub, reduceIte, reduceEqDiff, reduceAdd, reduceCtorEq]
    intro _
    refine ⟨[.thaw 28 x0.toNat 901], gwp_thaw (n := b.1) rfl (rwp_get hAk.symm) (by simpa using hbn) rfl fun m1 => ?_⟩
    have hset : (woL b.1 (rwp (A2 ++ b :: C2))).set x0.toNat (AVal.own 901 m1) = rwp A2 ++ AVal.own 901 m1 :: rwp C2 := by rw [← hAk]; exact woL_set F0a
    have ho1 : (rwp A2 ++ AVal.own 901 m1 :: rwp C2).getD x0.toNat .any = .own 901 m1 := own_at hAk.symm
    have hol : (rwp A2 ++ AVal.own 901 m1 :: rwp C2).length = A2.length + (C2.length + 1) := by rw [List.length_append, List.length_cons, rwp_len, rwp_len]
    have hkl : x0.toNat < (rwp A2 ++ AVal.own 901 m1 :: rwp C2).length := by omega
    simp only [hset, woT, woO, woL_cons, woL_nil, woV_val, woV_own, wo_ptr, wo_o, woL_ints, wo_st, woO_row, woO_box, woO_gone, wo_any, gwp_nil, yzu, yze, go_sem, yz0, Int.reduceLT, reduceLE, reduceToNat, reduceNeg, Nat.reduceLT, reduceLeDiff, reduceMul, reduceSub, reduceIte, reduceEqDiff, reduceAdd, reduceCtorEq]
    intro vs8 U8 hN8
    simp only [ho1, go_sem, yz0, Int.reduceLT, reduceLE, reduceToNat, reduceNeg, Nat.reduceLT, reduceLeDiff, reduceMul, reduceSub, reduceIte, reduceEqDiff, reduceAdd, reduceCtorEq]
    refine ⟨⟨g9, hkl⟩, hkl, ?_⟩
    refine call_funBN (k_pick code a4 s4 n hb (by omega)) rfl (by simp) qCS qCS ⟨srcC code a4 0, .int .i64 0, ⟨a4, 0, 0, rfl, by omega, by omega, rfl, by omega, .inr rfl⟩, flat_srcC⟩ ?_
    rintro cs' x ⟨a5, s5, y1, rfl, p1, p2, rfl, p3, p4⟩
    have hy1 : y1.toNat < b.2.length := by omega
    simp only [ho1, yzu, yze, go_sem, yz0, Int.reduceLT, reduceLE, reduceToNat, reduceNeg, Nat.reduceLT, reduceLeDiff, reduceMul, reduceSub, reduceIte, reduceEqDiff, reduceAdd, reduceCtorEq]
    refine ⟨⟨g9, hkl⟩, hkl, ?_⟩
    refine call_funBN (k_pick code a5 s5 n hb (by omega)) rfl (by simp) qCS qCS ⟨srcC code a5 0, .int .i64 0, ⟨a5, 0, 0, rfl, by omega, by omega, rfl, by omega, .inr rfl⟩, flat_srcC⟩ ?_
    rintro cs' x ⟨a6, s6, y2, rfl, p5, p6, rfl, p7, p8⟩
    have hy2 : y2.toNat < b.2.length := by omega
    simp only [yz1d hy2, yzu, yze, go_sem, yz0, Int.reduceLT, reduceLE, reduceToNat, reduceNeg, Nat.reduceLT, reduceLeDiff, reduceMul, reduceSub, reduceIte, reduceEqDiff, reduceAdd, reduceCtorEq]
    refine ⟨⟨p7, hy2⟩, hy2, ⟨p3, hy1⟩, hy1, ?_⟩
    have hcl := lput_len (xs := b.2) (v := b.2.getD y2.toNat 0) hy1
    have hcm := lput_mem (xs := b.2) (i := y1.toNat) (v := b.2.getD y2.toNat 0) (Q := fun z => 0 ≤ z ∧ z < n) hbr.2 (hbr.2 _ (yz16 hy2 0))
    simp only [ints_put]
    generalize hcu : b.2.take y1.toNat ++ [b.2.getD y2.toNat 0] ++ b.2.drop (y1.toNat + 1) = cur at hcl hcm ⊢
    simp only [Bz2j, yzu, wpD_gh, go_sem, yz0, Int.reduceLT, reduceLE, reduceToNat, reduceNeg, Nat.reduceLT, reduceLeDiff, reduceMul, reduceSub, reduceIte, reduceEqDiff, reduceAdd, reduceCtorEq]
    intro hD
    refine ⟨[.rf 28 x0.toNat 901], gwp_rf (k := 1) (nn := true) rfl (own_get hAk.symm) (by decide) rfl fun hf => ?_⟩
    have D1 := DJ_refrozen hdj hf (cur := cur)
    have A1 := Aut_put A (u := m1) hcl hcm
    have hset4 : ∀ X : AVal, (rwp A2 ++ AVal.own 901 m1 :: rwp C2).set x0.toNat X = rwp A2 ++ X :: rwp C2 := fun X => by
      rw [← hAk, List.set_append_right _ _ (by rw [rwp_len]; exact Nat.le_refl _), rwp_len, Nat.sub_self]; rfl
    simp only [hset4, frNm_t, rwp_cat, gwp_nil, yzu, yze, go_sem, yz0, Int.reduceLT, reduceLE, reduceToNat, reduceNeg, Nat.reduceLT, reduceLeDiff, reduceMul, reduceSub, reduceIte, reduceEqDiff, reduceAdd, reduceCtorEq]
    intro vs9 U9 hN9
    simp only [← hQ, Azb, go_sem, yz0, Int.reduceLT, reduceLE, reduceToNat, reduceNeg, Nat.reduceLT, reduceLeDiff, reduceMul, reduceSub, reduceIte, reduceEqDiff, reduceAdd, reduceCtorEq]
    refine ⟨[28], by simp, by simp, by simp, ?_⟩
    simp only [range1, List.length_singleton, renL_rwp, Nat.not_lt_zero, range1, yzv, yzy, yz19, yz1b, yzz, yz1a, yz1c, yz17, yzx, yzp, yzf, yz3, yzs, yzq, yzn, yzm, yzt, yz7, yzd, yzb, yzc, yzi, yzh, yz2, yz6, yz8, yza, yzg, yzj, List.range_zero, yz5, yz4, yz9, yzr, yzl, yzo, AVal.fresh, freshL, yz1, yzk, AObj.fresh, id, Option.isSome_some, or_true, true_or, go_sem, yz0, Int.reduceLT, reduceLE, reduceToNat, reduceNeg, Nat.reduceLT, reduceLeDiff, reduceMul, reduceSub, reduceIte, reduceEqDiff, reduceAdd, reduceCtorEq]
    exact ⟨n, A2 ++ (m1, cur) :: C2, v', a6, s6, FAut.lo ⟨A1, D1, hn6⟩, by omega, by omega, rfl, by simp, rfl⟩
theorem k_l03Linked (code : List Int) (at_ seed : Int) (hb : ∀ x ∈ code, 0 ≤ x ∧ x ≤ 255) (ha : 0 ≤ at_ ∧ at_ ≤ 1000) :
    Con Try.prog nz16 [.box 0 (srcC code at_ seed)] [.ptr 5000 0 0] true fun outs rows res => ∃ n ps v a' s', FLo n ps ∧ at_ ≤ a' ∧ a' ≤ at_ + 6000 ∧ outs = [.box 0 (srcC code a' s')] ∧ rows = [.row v 1 true (rwp ps)] ∧ res = .st [iv n, .own 6000 v] := by
  refine con_sh mixed czh0 rfl (by simp) ?_
  generalize hQ : finQ _ = Q
  simp only [Az24, Bz9r, yzu, yze, go_sem, yz0, Int.reduceLT, reduceLE, reduceToNat, reduceNeg, Nat.reduceLT, reduceLeDiff, reduceMul, reduceSub, reduceIte, reduceEqDiff, reduceAdd, reduceCtorEq]
  intro vs0 U0 hN0 vs1 U1 hN1
  refine call_lo (k := 5000) FLo_ren (k_l02Drawn code at_ seed hb (by omega)) rfl (fun x y e => (hN1.inj _ _ _ _ e).2) (hN1.box (r := 5000) rfl 1) qCS qGN ?_
  intro n ps v' a1 s1 hf h1 h2
  have hend : ∀ (σ : St) (v2 v3 : Nat) (a s : Int), at_ ≤ a ∧ a ≤ at_ + 6000 →
      σ.keep [2, 3] [2, 3, 6, 5000, 901] = ⟨L .any [(2, .ptr 2 v2 0), (3, .ptr 3 v3 0)],
        L .gone [(2, .box v2 [iv 0, .val (.slice none 0 0)]), (3, .box v3 [iv n, .own 6 v']), (6, .row v' 1 true (rwp ps)), (5000, .box 0 (srcC code a s)), (901, .gone)]⟩ →
      wpD Try.prog Bz23 Q σ := by
    intro σ v2 v3 a s ha' hS
    unfold Bz23
    rw [yzu, hS]
    simp only [wpD_gh]
    intro _
    refine ⟨[], ?_⟩
    simp only [gwp_nil, yzu, yze, go_sem, yz0, Int.reduceLT, reduceLE, reduceToNat, reduceNeg, Nat.reduceLT, reduceLeDiff, reduceMul, reduceSub, reduceIte, reduceEqDiff, reduceAdd, reduceCtorEq]
    intro vs U hN
    simp only [← hQ, Az24, go_sem, yz0, Int.reduceLT, reduceLE, reduceToNat, reduceNeg, Nat.reduceLT, reduceLeDiff, reduceMul, reduceSub, reduceIte, reduceEqDiff, reduceAdd, reduceCtorEq]
    refine ⟨[6], by simp, by simp, by simp, ?_⟩
    simp only [range1, List.length_singleton, renL_rwp, Nat.not_lt_zero, range1, yzv, yzy, yz19, yz1b, yzz, yz1a, yz1c, yz17, yzx, yzp, yzf, yz3, yzs, yzq, yzn, yzm, yzt, yz7, yzd, yzb, yzc, yzi, yzh, yz2, yz6, yz8, yza, yzg, yzj, List.range_zero, yz5, yz4, yz9, yzr, yzl, yzo, AVal.fresh, freshL, yz1, yzk, AObj.fresh, id, Option.isSome_some, or_true, true_or, go_sem, yz0, Int.reduceLT, reduceLE, reduceToNat, reduceNeg, Nat.reduceLT, reduceLeDiff, reduceMul, reduceSub, reduceIte, reduceEqDiff, reduceAdd, reduceCtorEq]
    exact ⟨n, ps, v', a, s, hf, ha'.1, ha'.2, rfl, by simp, rfl⟩
  simp only [Bz9q, yzu, yze, go_sem, yz0, Int.reduceLT, reduceLE, reduceToNat, reduceNeg, Nat.reduceLT, reduceLeDiff, reduceMul, reduceSub, reduceIte, reduceEqDiff, reduceAdd, reduceCtorEq]
  intro vs2 U2 hN2
  refine yz10 (k_l01Ok n (ps.map (·.2))) (by simp only [coeL_rwp_t, rowIs, boxIs, coe_argN, yz1f, coe_ro_o, yz18, yzw, coe_any, coe_val, coe_ro, yz12, yz15, coe_st, yz13, coe_rp, yz14, coe_clo, coe_own0, yz1g, yz11, coeL_rws, coeL_rwn, L_hit, L_miss, L_nil, reduceEqDiff, ne_eq, reduceCtorEq, not_false_eq_true, true_and, and_true, and_self, exists_eq_left, exists_eq_right, List.mem_cons, List.not_mem_nil, or_false, AObj.row.injEq, AObj.box.injEq, exists_eq_left', exists_and_left, exists_eq, Nat.zero_lt_one, Nat.lt_add_one, List.map_cons, List.map_nil, AObj.ver, Nat.reduceLT, not_true_eq_false]) trivial ?_
  cases hA : autB n (ps.map (·.2)) with
  | false =>
    simp only [Bz22, yzu, yze, go_sem, yz0, Int.reduceLT, reduceLE, reduceToNat, reduceNeg, Nat.reduceLT, reduceLeDiff, reduceMul, reduceSub, reduceIte, reduceEqDiff, reduceAdd, reduceCtorEq]
    exact hend _ (vs0 0 0) (vs1 2 0) a1 s1 (by omega) (by simp only [go_sem, yz0, Int.reduceLT, reduceLE, reduceToNat, reduceNeg, Nat.reduceLT, reduceLeDiff, reduceMul, reduceSub, reduceIte, reduceEqDiff, reduceAdd, reduceCtorEq]; try rfl)
  | true =>
    have A := autB_iff.1 hA
    have n1 := A.n1
    have n2 := A.n2
    have l1 := A.l1
    have l2 := A.l2
    rw [List.length_map] at l1 l2
    have hdj : DJ ps := hf.1 l2
    simp only [yzu, yze, go_sem, yz0, Int.reduceLT, reduceLE, reduceToNat, reduceNeg, Nat.reduceLT, reduceLeDiff, reduceMul, reduceSub, reduceIte, reduceEqDiff, reduceAdd, reduceCtorEq]
    refine call_funB (k_one code a1 s1 4 hb (by omega)) rfl qCS qCS ?_
    rintro cs' x ⟨a2, s2, b2, rfl, g1, g2, rfl⟩
    cases b2 with
    | true =>
      simp only [Bz22, Bool.not_true, yzu, yze, go_sem, yz0, Int.reduceLT, reduceLE, reduceToNat, reduceNeg, Nat.reduceLT, reduceLeDiff, reduceMul, reduceSub, reduceIte, reduceEqDiff, reduceAdd, reduceCtorEq]
      exact hend _ (vs0 0 0) (vs1 2 0) a2 s2 (by omega) (by simp only [go_sem, yz0, Int.reduceLT, reduceLE, reduceToNat, reduceNeg, Nat.reduceLT, reduceLeDiff, reduceMul, reduceSub, reduceIte, reduceEqDiff, reduceAdd, reduceCtorEq]; try rfl)
    | false =>
      obtain ⟨A2, b, C2, rfl, hAk⟩ := rwp_split (show 0 < ps.length by omega)
      have hbr := A.row b.2 (by simp)
      have hbn : b.2 ≠ [] := fun e => by rw [e] at hbr; simp at hbr; omega
      have F0a := DJ_out hdj hbn
      simp only [Bz22, Bool.not_false, yzu, yze, go_sem, yz0, Int.reduceLT, reduceLE, reduceToNat, reduceNeg, Nat.reduceLT, reduceLeDiff, reduceMul, reduceSub, reduceIte, reduceEqDiff, reduceAdd, reduceCtorEq]
      intro vs3 U3 hN3
      simp only [Bz9p, yzu, wpD_gh, go_sem, yz0, Int.reduceLT, reduceLE, reduceToNat, reduceNeg, Nat.reduceLT, reduceLeDiff, reduceMul, reduceSub, reduceIte, reduceEqDiff, reduceAdd, reduceCtorEq]
      intro _
      refine ⟨[.thaw 6 0 901], gwp_thaw (n := b.1) rfl (rwp_get hAk.symm) (by simpa using hbn) rfl fun m1 => ?_⟩
      have hset : (woL b.1 (rwp (A2 ++ b :: C2))).set 0 (AVal.own 901 m1) = rwp A2 ++ AVal.own 901 m1 :: rwp C2 := by rw [← hAk]; exact woL_set F0a
      have ho1 : (rwp A2 ++ AVal.own 901 m1 :: rwp C2).getD 0 .any = .own 901 m1 := own_at hAk.symm
      have hol : (rwp A2 ++ AVal.own 901 m1 :: rwp C2).length = A2.length + (C2.length + 1) := by rw [List.length_append, List.length_cons, rwp_len, rwp_len]
      have hkl : 0 < (rwp A2 ++ AVal.own 901 m1 :: rwp C2).length := by omega
      simp only [hset, woT, woO, woL_cons, woL_nil, woV_val, woV_own, wo_ptr, wo_o, woL_ints, wo_st, woO_row, woO_box, woO_gone, wo_any, gwp_nil, yzu, yze, go_sem, yz0, Int.reduceLT, reduceLE, reduceToNat, reduceNeg, Nat.reduceLT, reduceLeDiff, reduceMul, reduceSub, reduceIte, reduceEqDiff, reduceAdd, reduceCtorEq]
      refine wpD_lp (fun (x : Nat × List Int) => n.toNat - x.1) (fun x => (x.1 : Int) ≤ n ∧ x.2.length = b.2.length ∧ ∀ z ∈ x.2, 0 ≤ z ∧ z < n)
        (fun (x : Nat × List Int) => ⟨L .any [(2, .ptr 2 (vs0 0 0) 0), (3, .ptr 3 (vs1 2 0) 0), (4, iv x.1)],
          L .gone [(2, .box (vs0 0 0) [iv 0, .val (.slice none 0 0)]), (3, .box (vs1 2 0) [iv n, .own 6 v']), (6, .row v' 1 true (rwp A2 ++ .own 901 m1 :: rwp C2)), (5000, .box 0 (srcC code a2 s2)), (901, .row m1 1 true (ints x.2))]⟩)
        (0, b.2) ⟨by simp; omega, rfl, hbr.2⟩ (by simp only [Bz21, go_sem, yz0, Int.reduceLT, reduceLE, reduceToNat, reduceNeg, Nat.reduceLT, reduceLeDiff, reduceMul, reduceSub, reduceIte, reduceEqDiff, reduceAdd, reduceCtorEq]; try rfl) ?_
      rintro ⟨i, cur⟩ ⟨h3, h4, h5⟩
      have h3 : (i : Int) ≤ n := h3
      have h4 : cur.length = b.2.length := h4
      have h5 : ∀ z ∈ cur, 0 ≤ z ∧ z < n := h5
      by_cases hlt : (i : Int) < n
      · have w1 : IntKind.i64.wrap ((i : Int) + 1) = ((i + 1 : Nat) : Int) := by rw [w64 (by omega)]; simp
        have hn0 : ¬ n = 0 := by omega
        have hil : i < cur.length := by omega
        have t1 := tmod_in (a := ((i + 1 : Nat) : Int)) (n := n) (by omega) (by omega)
        simp only [Bz21, Bz4c, Bz9o, decide_eq_true hlt, yzu, yze, go_sem, yz0, Int.reduceLT, reduceLE, reduceToNat, reduceNeg, Nat.reduceLT, reduceLeDiff, reduceMul, reduceSub, reduceIte, reduceEqDiff, reduceAdd, reduceCtorEq]
        intro vs4 U4 hN4 vs5 U5 hN5
        simp only [ho1, w1, hn0, go_sem, yz0, Int.reduceLT, reduceLE, reduceToNat, reduceNeg, Nat.reduceLT, reduceLeDiff, reduceMul, reduceSub, reduceIte, reduceEqDiff, reduceAdd, reduceCtorEq]
        refine ⟨hkl, hkl, ⟨by omega, hil⟩, by omega, ?_⟩
        have hcl := lput_len (xs := cur) (v := ((i + 1 : Nat) : Int).tmod n) hil
        have hcm := lput_mem (xs := cur) (i := i) (v := ((i + 1 : Nat) : Int).tmod n) (Q := fun z => 0 ≤ z ∧ z < n) h5 t1
        simp only [ints_put]
        generalize hcu : cur.take i ++ [((i + 1 : Nat) : Int).tmod n] ++ cur.drop (i + 1) = cur2 at hcl hcm ⊢
        simp only [Bz9n, w1, yzu, yze, go_sem, yz0, Int.reduceLT, reduceLE, reduceToNat, reduceNeg, Nat.reduceLT, reduceLeDiff, reduceMul, reduceSub, reduceIte, reduceEqDiff, reduceAdd, reduceCtorEq]
        intro vs6 U6 hN6
        exact ⟨(i + 1, cur2), by dsimp only; omega, ⟨by dsimp only; omega, by dsimp only; omega, hcm⟩, rfl⟩
      · simp only [Bz21, Bz4c, Bz23, decide_eq_false hlt, yzu, yze, wpD_gh, go_sem, yz0, Int.reduceLT, reduceLE, reduceToNat, reduceNeg, Nat.reduceLT, reduceLeDiff, reduceMul, reduceSub, reduceIte, reduceEqDiff, reduceAdd, reduceCtorEq]
        intro vs4 U4 hN4 hD
        refine ⟨[.rf 6 0 901], gwp_rf (k := 1) (nn := true) rfl (own_get hAk.symm) (by decide) rfl fun hf2 => ?_⟩
        have D1 := DJ_refrozen hdj hf2 (cur := cur)
        have A1 := Aut_put A (u := m1) h4 h5
        have hset4 : ∀ X : AVal, (rwp A2 ++ AVal.own 901 m1 :: rwp C2).set 0 X = rwp A2 ++ X :: rwp C2 := fun X => by
          rw [← hAk, List.set_append_right _ _ (by rw [rwp_len]; exact Nat.le_refl _), rwp_len, Nat.sub_self]; rfl
        simp only [hset4, frNm_t, rwp_cat, gwp_nil, yzu, yze, go_sem, yz0, Int.reduceLT, reduceLE, reduceToNat, reduceNeg, Nat.reduceLT, reduceLeDiff, reduceMul, reduceSub, reduceIte, reduceEqDiff, reduceAdd, reduceCtorEq]
        intro vs9 U9 hN9
        simp only [← hQ, Az24, go_sem, yz0, Int.reduceLT, reduceLE, reduceToNat, reduceNeg, Nat.reduceLT, reduceLeDiff, reduceMul, reduceSub, reduceIte, reduceEqDiff, reduceAdd, reduceCtorEq]
        refine ⟨[6], by simp, by simp, by simp, ?_⟩
        simp only [range1, List.length_singleton, renL_rwp, Nat.not_lt_zero, range1, yzv, yzy, yz19, yz1b, yzz, yz1a, yz1c, yz17, yzx, yzp, yzf, yz3, yzs, yzq, yzn, yzm, yzt, yz7, yzd, yzb, yzc, yzi, yzh, yz2, yz6, yz8, yza, yzg, yzj, List.range_zero, yz5, yz4, yz9, yzr, yzl, yzo, AVal.fresh, freshL, yz1, yzk, AObj.fresh, id, Option.isSome_some, or_true, true_or, go_sem, yz0, Int.reduceLT, reduceLE, reduceToNat, reduceNeg, Nat.reduceLT, reduceLeDiff, reduceMul, reduceSub, reduceIte, reduceEqDiff, reduceAdd, reduceCtorEq]
        exact ⟨n, A2 ++ (m1, cur) :: C2, v', a2, s2, FAut.lo (m := 10) ⟨A1, D1, by omega⟩, by omega, by omega, rfl, by simp, rfl⟩
theorem k_A2Automaton (code : List Int) (hb : ∀ x ∈ code, 0 ≤ x ∧ x ≤ 255) :
    Con Try.prog nz32 [] [.ro (some (some 0)) 1 (intsK .u8 code)] true fun outs rows res => outs = [] ∧ ∃ n next v, Aut n next ∧ n ≤ 7 ∧ rows = [.row v 1 true (rws next)] ∧ res = .st [iv n, .own 6000 v] := by
  refine con_sh mixed czgm rfl (by simp) ?_
  generalize hQ : finQ _ = Q
  simp only [Azt, Bz7v, go_sem, yz0, Int.reduceLT, reduceLE, reduceToNat, reduceNeg, Nat.reduceLT, reduceLeDiff, reduceMul, reduceSub, reduceIte, reduceEqDiff, reduceAdd, reduceCtorEq]
  intro vs0 vs1
  refine call_sh (k_from code) qCS (fun e => by cases e) ?_
  rintro outs rows res ⟨rfl, v, rfl, rfl⟩
  refine ⟨rfl, by simp, by rw [Option.getD_some, yzl]; rfl, ?_⟩
  simp only [Bz7u, Nat.not_lt_zero, range1, yzv, yzy, yz19, yz1b, yzz, yz1a, yz1c, yz17, yzx, yzp, yzf, yz3, yzs, yzq, yzn, yzm, yzt, yz7, yzd, yzb, yzc, yzi, yzh, yz2, yz6, yz8, yza, yzg, yzj, List.range_zero, yz5, yz4, yz9, yzr, yzl, yzo, AVal.fresh, freshL, yz1, yzk, AObj.fresh, id, Option.isSome_some, or_true, true_or, go_sem, yz0, Int.reduceLT, reduceLE, reduceToNat, reduceNeg, Nat.reduceLT, reduceLeDiff, reduceMul, reduceSub, reduceIte, reduceEqDiff, reduceAdd, reduceCtorEq]
  intro vs2
  have h : Con Try.prog nz16 [.box 0 (srcC code 0 0)] [.ptr 5000 0 0] true fun outs rows res => ∃ n next v a' s', outs = [.box 0 (srcC code a' s')] ∧ rows = [.row v 1 true (rws next)] ∧ res = .st [iv n, .own 6000 v] := by
    refine Con.dnr (k_l03Linked code 0 0 hb (by omega)) ?_
    rintro o r x ⟨n, ps, v, a', s', hf, h1, h2, rfl, rfl, rfl⟩
    refine ⟨n, ps.map (·.2), v, a', s', ?_, ?_, ?_⟩
    · simp only [List.map_cons, List.map_nil, AObj.dn, dnL, AVal.dn, dnL_ints, dnNm]
    · simp only [List.map_cons, List.map_nil, AObj.dn, dnL_rwp]
    · simp only [AVal.dn, dnL]
  refine call_con (r := 6) h rfl (by simp only [Bool.not_true, rowIs, boxIs, coe_argN, yz1f, coe_ro_o, yz18, yzw, coe_any, coe_val, coe_ro, yz12, yz15, coe_st, yz13, coe_rp, yz14, coe_clo, coe_own0, yz1g, yz11, coeL_rws, coeL_rwn, L_hit, L_miss, L_nil, reduceEqDiff, ne_eq, reduceCtorEq, not_false_eq_true, true_and, and_true, and_self, exists_eq_left, exists_eq_right, List.mem_cons, List.not_mem_nil, or_false, AObj.row.injEq, AObj.box.injEq, exists_eq_left', exists_and_left, exists_eq, Nat.zero_lt_one, Nat.lt_add_one, List.map_cons, List.map_nil, AObj.ver, Nat.reduceLT, not_true_eq_false]) (by simp only [Bool.not_true, rowIs, boxIs, coe_argN, yz1f, coe_ro_o, yz18, yzw, coe_any, coe_val, coe_ro, yz12, yz15, coe_st, yz13, coe_rp, yz14, coe_clo, coe_own0, yz1g, yz11, coeL_rws, coeL_rwn, L_hit, L_miss, L_nil, reduceEqDiff, ne_eq, reduceCtorEq, not_false_eq_true, true_and, and_true, and_self, exists_eq_left, exists_eq_right, List.mem_cons, List.not_mem_nil, or_false, AObj.row.injEq, AObj.box.injEq, exists_eq_left', exists_and_left, exists_eq, Nat.zero_lt_one, Nat.lt_add_one, List.map_cons, List.map_nil, AObj.ver, Nat.reduceLT, not_true_eq_false]) ?_
  rintro outs rows res ⟨n, next, v', a', s', rfl, rfl, rfl⟩
  refine ⟨rfl, by simp, by rw [Option.getD_some, yzl]; simp only [go_sem, yz0, Int.reduceLT, reduceLE, reduceToNat, reduceNeg, Nat.reduceLT, reduceLeDiff, reduceMul, reduceSub, reduceIte, reduceEqDiff, reduceAdd, reduceCtorEq], ?_⟩
  rw [Option.getD_some, callHp_mr (by omega)]
  have hslow : Con Try.prog nzn [] [iv 4] true fun outs rows res => outs = [] ∧ ∃ next v, Aut 4 next ∧ rows = [.row v 1 true (rws next)] ∧ res = .st [iv 4, .own 6000 v] := by
    refine Con.dnr (k_l02SlowN 4 (by omega)) ?_
    rintro o r x ⟨rfl, v, ps, hA, hd, rfl, rfl⟩
    refine ⟨rfl, ps.map (·.2), v, hA, ?_, ?_⟩
    · simp only [List.map_cons, List.map_nil, AObj.dn, dnL_rwp]
    · simp only [AVal.dn, dnL]
  simp only [Bz7t, Nat.not_lt_zero, range1, yzv, yzy, yz19, yz1b, yzz, yz1a, yz1c, yz17, yzx, yzp, yzf, yz3, yzs, yzq, yzn, yzm, yzt, yz7, yzd, yzb, yzc, yzi, yzh, yz2, yz6, yz8, yza, yzg, yzj, List.range_zero, yz5, yz4, yz9, yzr, yzl, yzo, AVal.fresh, freshL, yz1, yzk, AObj.fresh, id, Option.isSome_some, or_true, true_or, go_sem, yz0, Int.reduceLT, reduceLE, reduceToNat, reduceNeg, Nat.reduceLT, reduceLeDiff, reduceMul, reduceSub, reduceIte, reduceEqDiff, reduceAdd, reduceCtorEq]
  intro vs3
  refine yz10 (k_l01Ok n next) qCS trivial ?_
  cases hA : autB n next with
  | false =>
    simp only [Bz1r, Bz40, go_sem, yz0, Int.reduceLT, reduceLE, reduceToNat, reduceNeg, Nat.reduceLT, reduceLeDiff, reduceMul, reduceSub, reduceIte, reduceEqDiff, reduceAdd, reduceCtorEq]
    intro vs5
    refine call_sh hslow qCS (fun e => by cases e) ?_
    rintro outs rows res ⟨rfl, next2, v2, A2, rfl, rfl⟩
    refine ⟨rfl, by simp, by rw [Option.getD_some, yzl]; simp only [go_sem, yz0, Int.reduceLT, reduceLE, reduceToNat, reduceNeg, Nat.reduceLT, reduceLeDiff, reduceMul, reduceSub, reduceIte, reduceEqDiff, reduceAdd, reduceCtorEq], ?_⟩
    simp only [← hQ, Azt, dnL_rws, Nat.not_lt_zero, range1, yzv, yzy, yz19, yz1b, yzz, yz1a, yz1c, yz17, yzx, yzp, yzf, yz3, yzs, yzq, yzn, yzm, yzt, yz7, yzd, yzb, yzc, yzi, yzh, yz2, yz6, yz8, yza, yzg, yzj, List.range_zero, yz5, yz4, yz9, yzr, yzl, yzo, AVal.fresh, freshL, yz1, yzk, AObj.fresh, id, Option.isSome_some, or_true, true_or, go_sem, yz0, Int.reduceLT, reduceLE, reduceToNat, reduceNeg, Nat.reduceLT, reduceLeDiff, reduceMul, reduceSub, reduceIte, reduceEqDiff, reduceAdd, reduceCtorEq]
    refine ⟨[16], by simp, by simp, by simp, ?_⟩
    simp only [Nat.not_lt_zero, range1, yzv, yzy, yz19, yz1b, yzz, yz1a, yz1c, yz17, yzx, yzp, yzf, yz3, yzs, yzq, yzn, yzm, yzt, yz7, yzd, yzb, yzc, yzi, yzh, yz2, yz6, yz8, yza, yzg, yzj, List.range_zero, yz5, yz4, yz9, yzr, yzl, yzo, AVal.fresh, freshL, yz1, yzk, AObj.fresh, id, Option.isSome_some, or_true, true_or, go_sem, yz0, Int.reduceLT, reduceLE, reduceToNat, reduceNeg, Nat.reduceLT, reduceLeDiff, reduceMul, reduceSub, reduceIte, reduceEqDiff, reduceAdd, reduceCtorEq]
    exact ⟨4, next2, _, A2, by omega, rfl, rfl⟩
  | true =>
    have A := autB_iff.1 hA
    by_cases h7 : n ≤ 7
    · simp only [decide_eq_true h7, Bz1r, ← hQ, Azt, dnL_rws, go_sem, yz0, Int.reduceLT, reduceLE, reduceToNat, reduceNeg, Nat.reduceLT, reduceLeDiff, reduceMul, reduceSub, reduceIte, reduceEqDiff, reduceAdd, reduceCtorEq]
      refine ⟨[8], by simp, by simp, by simp, ?_⟩
      simp only [Nat.not_lt_zero, range1, yzv, yzy, yz19, yz1b, yzz, yz1a, yz1c, yz17, yzx, yzp, yzf, yz3, yzs, yzq, yzn, yzm, yzt, yz7, yzd, yzb, yzc, yzi, yzh, yz2, yz6, yz8, yza, yzg, yzj, List.range_zero, yz5, yz4, yz9, yzr, yzl, yzo, AVal.fresh, freshL, yz1, yzk, AObj.fresh, id, Option.isSome_some, or_true, true_or, go_sem, yz0, Int.reduceLT, reduceLE, reduceToNat, reduceNeg, Nat.reduceLT, reduceLeDiff, reduceMul, reduceSub, reduceIte, reduceEqDiff, reduceAdd, reduceCtorEq]
      exact ⟨n, next, _, A, h7, rfl, rfl⟩
    · simp only [Bz1r, Bz40, decide_eq_false h7, go_sem, yz0, Int.reduceLT, reduceLE, reduceToNat, reduceNeg, Nat.reduceLT, reduceLeDiff, reduceMul, reduceSub, reduceIte, reduceEqDiff, reduceAdd, reduceCtorEq]
      intro vs5
      refine call_sh hslow qCS (fun e => by cases e) ?_
      rintro outs rows res ⟨rfl, next2, v2, A2, rfl, rfl⟩
      refine ⟨rfl, by simp, by rw [Option.getD_some, yzl]; simp only [go_sem, yz0, Int.reduceLT, reduceLE, reduceToNat, reduceNeg, Nat.reduceLT, reduceLeDiff, reduceMul, reduceSub, reduceIte, reduceEqDiff, reduceAdd, reduceCtorEq], ?_⟩
      simp only [← hQ, Azt, dnL_rws, Nat.not_lt_zero, range1, yzv, yzy, yz19, yz1b, yzz, yz1a, yz1c, yz17, yzx, yzp, yzf, yz3, yzs, yzq, yzn, yzm, yzt, yz7, yzd, yzb, yzc, yzi, yzh, yz2, yz6, yz8, yza, yzg, yzj, List.range_zero, yz5, yz4, yz9, yzr, yzl, yzo, AVal.fresh, freshL, yz1, yzk, AObj.fresh, id, Option.isSome_some, or_true, true_or, go_sem, yz0, Int.reduceLT, reduceLE, reduceToNat, reduceNeg, Nat.reduceLT, reduceLeDiff, reduceMul, reduceSub, reduceIte, reduceEqDiff, reduceAdd, reduceCtorEq]
      refine ⟨[16], by simp, by simp, by simp, ?_⟩
      simp only [Nat.not_lt_zero, range1, yzv, yzy, yz19, yz1b, yzz, yz1a, yz1c, yz17, yzx, yzp, yzf, yz3, yzs, yzq, yzn, yzm, yzt, yz7, yzd, yzb, yzc, yzi, yzh, yz2, yz6, yz8, yza, yzg, yzj, List.range_zero, yz5, yz4, yz9, yzr, yzl, yzo, AVal.fresh, freshL, yz1, yzk, AObj.fresh, id, Option.isSome_some, or_true, true_or, go_sem, yz0, Int.reduceLT, reduceLE, reduceToNat, reduceNeg, Nat.reduceLT, reduceLeDiff, reduceMul, reduceSub, reduceIte, reduceEqDiff, reduceAdd, reduceCtorEq]
      exact ⟨4, next2, _, A2, by omega, rfl, rfl⟩
end Go.Ab
namespace Go.Ab
open Go.Proofs
theorem SI_snoc {w : List Int} {k : Int} (h : SI w) (hx : ∀ x ∈ w, x < k) : SI (w ++ [k]) := by
  unfold SI at h ⊢
  rw [List.pairwise_append]
  exact ⟨h, by simp, fun x hx' y hy => by rw [List.mem_singleton.1 hy]; exact hx x hx'⟩
theorem k_A2Set (code : List Int) (n : Int) (next : List (List Int)) (hb : ∀ x ∈ code, 0 ≤ x ∧ x ≤ 255) (hn : 0 ≤ n ∧ n ≤ 10) :
    RowI Try.prog nz35 [.ro (some (some 0)) 1 (intsK .u8 code), .st [iv n, .ro none 1 (rwn next)]] (fun xs => setB n xs = true) := by
  refine rowI_of mixed czgp rfl ?_
  simp only [Az8g, Bz8f, go_sem, yz0, Int.reduceLT, reduceLE, reduceToNat, reduceNeg, Nat.reduceLT, reduceLeDiff, reduceMul, reduceSub, reduceIte, reduceEqDiff, reduceAdd, reduceCtorEq]
  intro vs vs2
  refine call_sh (k_from code) qCS (fun _ => ⟨_, _, _, rfl, 0, rfl, rfl⟩) ?_
  rintro outs rows res ⟨rfl, v, rfl, rfl⟩
  refine ⟨rfl, by simp, by rw [Option.getD_some, yzl]; simp only [go_sem, yz0, Int.reduceLT, reduceLE, reduceToNat, reduceNeg, Nat.reduceLT, reduceLeDiff, reduceMul, reduceSub, reduceIte, reduceEqDiff, reduceAdd, reduceCtorEq], ?_⟩
  simp only [Bz8e, Bz8d, Bz8b, Nat.not_lt_zero, range1, yzv, yzy, yz19, yz1b, yzz, yz1a, yz1c, yz17, yzx, yzp, yzf, yz3, yzs, yzq, yzn, yzm, yzt, yz7, yzd, yzb, yzc, yzi, yzh, yz2, yz6, yz8, yza, yzg, yzj, List.range_zero, yz5, yz4, yz9, yzr, yzl, yzo, AVal.fresh, freshL, yz1, yzk, AObj.fresh, id, Option.isSome_some, or_true, true_or, go_sem, yz0, Int.reduceLT, reduceLE, reduceToNat, reduceNeg, Nat.reduceLT, reduceLeDiff, reduceMul, reduceSub, reduceIte, reduceEqDiff, reduceAdd, reduceCtorEq]
  intro vs3
  refine wpD_lo (fun (_, _, _, _, _, _, k) => n.toNat - k) (fun (w, _, _, _, a, _, k) => SI w ∧ (∀ x ∈ w, 0 ≤ x ∧ x < k) ∧ w.length ≤ k ∧ 0 ≤ a ∧ a ≤ 2 * k ∧ (k : Int) ≤ n)
    (fun ((w, v10, v9, v3, a, s, k) : List Int × Nat × Nat × Nat × Int × Int × Nat) => ⟨L .any [(3, .ptr 3 v3 0), (5, .ptr 9 v9 0), (6, .own 10 v10), (7, iv k)], L .gone [(3, .box v3 [iv n, .ro none 1 (rwn next)]), (9, .box v9 (srcC code a s)), (10, .row v10 1 true (ints w))]⟩)
    ([], _, _, _, 0, 0, 0) ⟨by simp [SI], by simp, by simp, by simp, by simp, by simp; omega⟩ (by simp only [Bz1s, go_sem, yz0, Int.reduceLT, reduceLE, reduceToNat, reduceNeg, Nat.reduceLT, reduceLeDiff, reduceMul, reduceSub, reduceIte, reduceEqDiff, reduceAdd, reduceCtorEq]; rfl) ?_
  rintro ⟨w, v10, v9, v3, a, s, k⟩ ⟨hw, hx, hl, ha, ha2, hk⟩
  have hl : w.length ≤ k := hl
  have ha : 0 ≤ a := ha
  have ha2 : a ≤ 2 * k := ha2
  have hk : (k : Int) ≤ n := hk
  have hx : ∀ x ∈ w, 0 ≤ x ∧ x < (k : Int) := hx
  by_cases hlt : (k : Int) < n
  · have w1 : IntKind.i64.wrap ((k : Int) + 1) = ((k + 1 : Nat) : Int) := by rw [w64 (by omega)]; simp
    simp only [Bz1s, Bz44, Bz8a, decide_eq_true hlt, go_sem, yz0, Int.reduceLT, reduceLE, reduceToNat, reduceNeg, Nat.reduceLT, reduceLeDiff, reduceMul, reduceSub, reduceIte, reduceEqDiff, reduceAdd, reduceCtorEq]
    intro vs5
    refine call_funB (k_one code a s 2 hb (by omega)) rfl qCS qCS ?_
    rintro cs' x ⟨a', s', b, rfl, h1, h2, rfl⟩
    cases b with
    | true =>
      simp only [Bz45, Bz46, w1, Nat.not_lt_zero, range1, yzv, yzy, yz19, yz1b, yzz, yz1a, yz1c, yz17, yzx, yzp, yzf, yz3, yzs, yzq, yzn, yzm, yzt, yz7, yzd, yzb, yzc, yzi, yzh, yz2, yz6, yz8, yza, yzg, yzj, List.range_zero, yz5, yz4, yz9, yzr, yzl, yzo, AVal.fresh, freshL, yz1, yzk, AObj.fresh, id, Option.isSome_some, or_true, true_or, go_sem, yz0, Int.reduceLT, reduceLE, reduceToNat, reduceNeg, Nat.reduceLT, reduceLeDiff, reduceMul, reduceSub, reduceIte, reduceEqDiff, reduceAdd, reduceCtorEq]
      intro vs6
      refine ⟨⟨_, rfl, rfl⟩, by omega, (w ++ [(k : Int)], _, _, _, a', s', k + 1), ?_, ⟨?_, ?_, ?_, ?_, ?_, ?_⟩, rfl⟩
      · show n.toNat - (k + 1) < n.toNat - k; omega
      · exact SI_snoc hw fun x h => (hx x h).2
      · intro x h
        rcases List.mem_append.1 h with h | h
        · have := hx x h; show 0 ≤ x ∧ x < ((k + 1 : Nat) : Int); omega
        · rw [List.mem_singleton.1 h]; show 0 ≤ (k : Int) ∧ (k : Int) < ((k + 1 : Nat) : Int); omega
      · show (w ++ [(k : Int)]).length ≤ k + 1; simp; omega
      · show 0 ≤ a'; omega
      · show a' ≤ 2 * ((k + 1 : Nat) : Int); omega
      · show ((k + 1 : Nat) : Int) ≤ n; omega
    | false =>
      simp only [Bz45, Bz46, w1, Nat.not_lt_zero, range1, yzv, yzy, yz19, yz1b, yzz, yz1a, yz1c, yz17, yzx, yzp, yzf, yz3, yzs, yzq, yzn, yzm, yzt, yz7, yzd, yzb, yzc, yzi, yzh, yz2, yz6, yz8, yza, yzg, yzj, List.range_zero, yz5, yz4, yz9, yzr, yzl, yzo, AVal.fresh, freshL, yz1, yzk, AObj.fresh, id, Option.isSome_some, or_true, true_or, go_sem, yz0, Int.reduceLT, reduceLE, reduceToNat, reduceNeg, Nat.reduceLT, reduceLeDiff, reduceMul, reduceSub, reduceIte, reduceEqDiff, reduceAdd, reduceCtorEq]
      refine ⟨(w, _, _, _, a', s', k + 1), ?_, ⟨hw, ?_, ?_, ?_, ?_, ?_⟩, rfl⟩
      · show n.toNat - (k + 1) < n.toNat - k; omega
      · intro x h; have := hx x h; show 0 ≤ x ∧ x < ((k + 1 : Nat) : Int); omega
      · show w.length ≤ k + 1; omega
      · show 0 ≤ a'; omega
      · show a' ≤ 2 * ((k + 1 : Nat) : Int); omega
      · show ((k + 1 : Nat) : Int) ≤ n; omega
  · simp only [Bz1s, Bz44, Bz8c, decide_eq_false hlt, go_sem, yz0, Int.reduceLT, reduceLE, reduceToNat, reduceNeg, Nat.reduceLT, reduceLeDiff, reduceMul, reduceSub, reduceIte, reduceEqDiff, reduceAdd, reduceCtorEq]
    exact ⟨10, v10, w, by omega, rfl, by simp only [go_sem, yz0, Int.reduceLT, reduceLE, reduceToNat, reduceNeg, Nat.reduceLT, reduceLeDiff, reduceMul, reduceSub, reduceIte, reduceEqDiff, reduceAdd, reduceCtorEq], setB_iff.2 ⟨hw, fun x h => by have := hx x h; omega⟩⟩
end Go.Ab
namespace Go.Ab
open Go.Proofs
noncomputable def wocF (n : Int) (next words : List (List Int)) : List Int := wocR n next words n.toNat (allS n) []
structure WocI (n : Int) (next words : List (List Int)) (set out : List Int) : Prop where
  ws : WS1 n set
  ln : out.length + 400 * (set.length - 1) ≤ 4000
  fu : ∃ F, set.length ≤ F ∧ wocR n next words F set out = wocF n next words
end Go.Ab
namespace Go.Ab
open Go.Proofs
theorem fb_L {l : List (Nat × AVal)} {h : List (Nat × AObj)} {r i q v ver k' : Nat} {nn' : Bool} {cs cs' : List AVal} (hr : L .gone h r = .box v cs) :
    St.fb ⟨L .any l, L .gone h⟩ r i q ver k' nn' cs' = ⟨L .any l, L .gone ((r, .box v (cs.set i (.ro (frNm nn' cs'.length ver) k' cs'))) :: (q, .gone) :: h)⟩ := by
  have h2 : ∀ x, (if x = r then (match L .gone h r with | .box v cs => AObj.box v (cs.set i (.ro (frNm nn' cs'.length ver) k' cs')) | o => o) else if x = q then AObj.gone else L .gone h x) = L .gone ((r, .box v (cs.set i (.ro (frNm nn' cs'.length ver) k' cs'))) :: (q, .gone) :: h) x := fun x => by
    rw [hr]
    by_cases e : x = r
    · simp [L, e]
    · by_cases e2 : x = q <;> simp [L, e, e2, Ne.symm e, eq_comm]
  exact congrArg (St.mk _) (funext h2)
theorem gwp_fb {gs : List GStep} {K : St → Prop} {l : List (Nat × AVal)} {h : List (Nat × AObj)} {r i q v ver k' : Nat} {nn' : Bool} {cs cs' : List AVal} (hr : L .gone h r = .box v cs)
    (hi : cs[i]? = some (.own q ver)) (hqr : q ≠ r) (hq : L .gone h q = .row ver k' nn' cs') (hk : gwp gs K ⟨L .any l, L .gone ((r, .box v (cs.set i (.ro (frNm nn' cs'.length ver) k' cs'))) :: (q, .gone) :: h)⟩) :
    gwp (.fb r i q :: gs) K ⟨L .any l, L .gone h⟩ := ⟨v, cs, ver, k', nn', cs', hr, hi, hqr, hq, by rw [fb_L hr]; exact hk⟩
end Go.Ab
namespace Go.Ab
open Go Go.Proofs
theorem k_FnRanks (code more : List Int) (hb : ∀ x ∈ code, 0 ≤ x ∧ x ≤ 255) (hb2 : ∀ x ∈ more, 0 ≤ x ∧ x ≤ 255) :
    Fun Try.prog nz6t [.ro (some (some 0)) 1 (intsK .u8 code), .ro (some (some 0)) 1 (intsK .u8 more)] (bv true) := by
  refine fun_of mixed czgk rfl ⟨rfl, trivial⟩ ?_
  simp only [Az7q, Bz7p, go_sem, yz0, Int.reduceLT, reduceLE, reduceToNat, reduceNeg, Nat.reduceLT, reduceLeDiff, reduceMul, reduceSub, reduceIte, reduceEqDiff, reduceAdd, reduceCtorEq]
  intro vs
  refine yz10 (k_a2Long code more) qCS trivial ?_
  simp only [Bz6u, Bz7o, go_sem, yz0, Int.reduceLT, reduceLE, reduceToNat, reduceNeg, Nat.reduceLT, reduceLeDiff, reduceMul, reduceSub, reduceIte, reduceEqDiff, reduceAdd, reduceCtorEq]
  intro _ vs2
  refine call_sh (k_A2Automaton code hb) qCS (fun e => by cases e) ?_
  rintro outs rows res ⟨rfl, n, next, v, A, n7, rfl, rfl⟩
  refine ⟨rfl, by simp, by rw [Option.getD_some, yzl]; simp only [go_sem, yz0, Int.reduceLT, reduceLE, reduceToNat, reduceNeg, Nat.reduceLT, reduceLeDiff, reduceMul, reduceSub, reduceIte, reduceEqDiff, reduceAdd, reduceCtorEq], ?_⟩
  have n1 := A.n1
  have n2 := A.n2
  have hp := Nat.two_pow_pos n.toNat
  have hN : 2 ^ n.toNat ≤ 128 := Nat.pow_le_pow_right (n := 2) (by omega) (show n.toNat ≤ 7 by omega)
  have hFl : 2 ^ n.toNat - 1 < 2 ^ n.toNat := by omega
  have hM := maxLen_le
  have hT : TI n.toNat next.length (tourT next (2 ^ n.toNat - 1)) := (runT_ok A 1100 0 _ (TI0 (m := next.length) hFl)).1
  have hTl := hT.len
  have hWB : ∀ u : List Int, u.length ≤ 400 → IsW next.length u → wordB next.length u = true := fun u h1 h2 => wordB_iff.2 ⟨by omega, h2⟩
  have hRW : ∀ u : List Int, u.length ≤ 400 → IsW next.length u → Fun2 Try.prog nzl [autA n next, .ro none 1 (ints u)] (.int .i64 (cntN (imN next (2 ^ n.toNat - 1) u) : Int)) (.int .i64 0) := fun u h1 h2 => by
    have h := k_RankOfWord n next u
    rw [autB_iff.2 A, hWB u h1 h2] at h
    unfold imgA at h
    rw [img_bits A h2] at h
    exact h
  obtain ⟨rk1, rk2, rk3⟩ := rank_facts A
  have hrk10 : rankT next n ≤ 10 := by
    have h1 := rk2 [] (by intro x hx; simp at hx)
    have h2 : cntN (2 ^ n.toNat - 1) ≤ n.toNat := cntN_le (by omega) hFl
    have h3 : cntN (imN next (2 ^ n.toNat - 1) []) = cntN (2 ^ n.toNat - 1) := rfl
    omega
  simp only [Bz7n, wpD_gh, Nat.not_lt_zero, range1, yzv, yzy, yz19, yz1b, yzz, yz1a, yz1c, yz17, yzx, yzp, yzf, yz3, yzs, yzq, yzn, yzm, yzt, yz7, yzd, yzb, yzc, yzi, yzh, yz2, yz6, yz8, yza, yzg, yzj, List.range_zero, yz5, yz4, yz9, yzr, yzl, yzo, AVal.fresh, freshL, yz1, yzk, AObj.fresh, id, Option.isSome_some, or_true, true_or, go_sem, yz0, Int.reduceLT, reduceLE, reduceToNat, reduceNeg, Nat.reduceLT, reduceLeDiff, reduceMul, reduceSub, reduceIte, reduceEqDiff, reduceAdd, reduceCtorEq]
  intro _
  refine ⟨[.fb 5 1 34], gwp_fb rfl rfl (by simp) rfl ?_⟩
  simp only [gwp_nil, List.set_cons_zero, List.set_cons_succ, go_sem, yz0, Int.reduceLT, reduceLE, reduceToNat, reduceNeg, Nat.reduceLT, reduceLeDiff, reduceMul, reduceSub, reduceIte, reduceEqDiff, reduceAdd, reduceCtorEq]
  intro vs3
  refine call_rowI (k_A2Word more n next hb2 A.l1) qCS qWS ⟨[], by simp [IsW8]⟩ ?_
  rintro w vw hw8
  have hw : IsW next.length w := hw8.2
  have hw4 : w.length ≤ 400 := by have := hw8.1; omega
  have hown := rk2 w hw
  have hiw := (imN_bit A w hFl hw).1
  have hcw := cntN_le (N := n.toNat) (by omega) hiw
  simp only [Bz7m, dnL_rws, dnL_rwn, Nat.not_lt_zero, range1, yzv, yzy, yz19, yz1b, yzz, yz1a, yz1c, yz17, yzx, yzp, yzf, yz3, yzs, yzq, yzn, yzm, yzt, yz7, yzd, yzb, yzc, yzi, yzh, yz2, yz6, yz8, yza, yzg, yzj, List.range_zero, yz5, yz4, yz9, yzr, yzl, yzo, AVal.fresh, freshL, yz1, yzk, AObj.fresh, id, Option.isSome_some, or_true, true_or, go_sem, yz0, Int.reduceLT, reduceLE, reduceToNat, reduceNeg, Nat.reduceLT, reduceLeDiff, reduceMul, reduceSub, reduceIte, reduceEqDiff, reduceAdd, reduceCtorEq]
  intro vs4
  refine call_fun2 (k_RankOf n next A) qCS ?_
  simp only [Bz7l, dnL_rws, dnL_rwn, Nat.not_lt_zero, range1, yzv, yzy, yz19, yz1b, yzz, yz1a, yz1c, yz17, yzx, yzp, yzf, yz3, yzs, yzq, yzn, yzm, yzt, yz7, yzd, yzb, yzc, yzi, yzh, yz2, yz6, yz8, yza, yzg, yzj, List.range_zero, yz5, yz4, yz9, yzr, yzl, yzo, AVal.fresh, freshL, yz1, yzk, AObj.fresh, id, Option.isSome_some, or_true, true_or, go_sem, yz0, Int.reduceLT, reduceLE, reduceToNat, reduceNeg, Nat.reduceLT, reduceLeDiff, reduceMul, reduceSub, reduceIte, reduceEqDiff, reduceAdd, reduceCtorEq]
  intro vs5
  refine call_fun2 (hRW w hw4 hw) qCS ?_
  simp only [Bz7k, dnL_rws, dnL_rwn, Nat.not_lt_zero, range1, yzv, yzy, yz19, yz1b, yzz, yz1a, yz1c, yz17, yzx, yzp, yzf, yz3, yzs, yzq, yzn, yzm, yzt, yz7, yzd, yzb, yzc, yzi, yzh, yz2, yz6, yz8, yza, yzg, yzj, List.range_zero, yz5, yz4, yz9, yzr, yzl, yzo, AVal.fresh, freshL, yz1, yzk, AObj.fresh, id, Option.isSome_some, or_true, true_or, go_sem, yz0, Int.reduceLT, reduceLE, reduceToNat, reduceNeg, Nat.reduceLT, reduceLeDiff, reduceMul, reduceSub, reduceIte, reduceEqDiff, reduceAdd, reduceCtorEq]
  intro vs6
  obtain ⟨p, hpm, hpe⟩ := (leastT_word A hFl).2
  have hfs : ((tourT next (2 ^ n.toNat - 1)).find? fun q => cntN q.1 == rankT next n).isSome = true := by
    rw [List.find?_isSome]
    exact ⟨p, hpm, by unfold rankT; rw [hpe]; simp⟩
  obtain ⟨q, hq⟩ := Option.isSome_iff_exists.1 hfs
  have hqm := List.mem_of_find?_eq_some hq
  have hqc : cntN q.1 = rankT next n := by have := List.find?_some hq; simpa using this
  have hqS := two_snd (next := next) (f := 2 ^ n.toNat - 1) q hqm
  have hqw := hT.wd q hqm
  have hRk := k_RankWord n next A
  rw [hq] at hRk
  refine call_sh hRk qCS (fun e => by cases e) ?_
  rintro outs rows res ⟨rfl, rfl, rfl⟩
  refine ⟨rfl, by simp, by simp, ?_⟩
  simp only [findR, Bz7j, dnL_rws, dnL_rwn, Nat.not_lt_zero, range1, yzv, yzy, yz19, yz1b, yzz, yz1a, yz1c, yz17, yzx, yzp, yzf, yz3, yzs, yzq, yzn, yzm, yzt, yz7, yzd, yzb, yzc, yzi, yzh, yz2, yz6, yz8, yza, yzg, yzj, List.range_zero, yz5, yz4, yz9, yzr, yzl, yzo, AVal.fresh, freshL, yz1, yzk, AObj.fresh, id, Option.isSome_some, or_true, true_or, go_sem, yz0, Int.reduceLT, reduceLE, reduceToNat, reduceNeg, Nat.reduceLT, reduceLeDiff, reduceMul, reduceSub, reduceIte, reduceEqDiff, reduceAdd, reduceCtorEq]
  intro vs7
  have hq4 : q.2.length ≤ 400 := by have := hqw.2; omega
  have hQ2 := hRW q.2 hq4 hqw.1
  rw [← hqS, hqc] at hQ2
  refine call_fun2 hQ2 qCS ?_
  simp only [Bz7i, dnL_rws, dnL_rwn, Nat.not_lt_zero, range1, yzv, yzy, yz19, yz1b, yzz, yz1a, yz1c, yz17, yzx, yzp, yzf, yz3, yzs, yzq, yzn, yzm, yzt, yz7, yzd, yzb, yzc, yzi, yzh, yz2, yz6, yz8, yza, yzg, yzj, List.range_zero, yz5, yz4, yz9, yzr, yzl, yzo, AVal.fresh, freshL, yz1, yzk, AObj.fresh, id, Option.isSome_some, or_true, true_or, go_sem, yz0, Int.reduceLT, reduceLE, reduceToNat, reduceNeg, Nat.reduceLT, reduceLeDiff, reduceMul, reduceSub, reduceIte, reduceEqDiff, reduceAdd, reduceCtorEq]
  intro vs8
  refine yz10 (k_CanReset n next A) qCS (by intro A hA; simp only [List.mem_cons, List.not_mem_nil, or_false] at hA; rcases hA with rfl | rfl <;> exact ⟨_, rfl⟩) ?_
  have e00 : ((0 : Int) != 0) = false := rfl
  have c1 : decide (((cntN (imN next (2 ^ n.toNat - 1) w) : Nat) : Int) < (rankT next n : Int)) = false := by rw [decide_eq_false_iff_not]; omega
  have c2 : decide (((rankT next n : Nat) : Int) < 1) = false := by rw [decide_eq_false_iff_not]; omega
  have c3 : (((rankT next n : Nat) : Int) == 1) = (firstT (tourT next (2 ^ n.toNat - 1))).isSome := by
    rw [Bool.eq_iff_iff, ← rk3, beq_iff_eq]; omega
  simp only [Bz7h, e00, c1, c2, c3, bne_self_eq_false, beq_self_eq_true, dnL_rws, dnL_rwn, Nat.not_lt_zero, range1, yzv, yzy, yz19, yz1b, yzz, yz1a, yz1c, yz17, yzx, yzp, yzf, yz3, yzs, yzq, yzn, yzm, yzt, yz7, yzd, yzb, yzc, yzi, yzh, yz2, yz6, yz8, yza, yzg, yzj, List.range_zero, yz5, yz4, yz9, yzr, yzl, yzo, AVal.fresh, freshL, yz1, yzk, AObj.fresh, id, Option.isSome_some, or_true, true_or, go_sem, yz0, Int.reduceLT, reduceLE, reduceToNat, reduceNeg, Nat.reduceLT, reduceLeDiff, reduceMul, reduceSub, reduceIte, reduceEqDiff, reduceAdd, reduceCtorEq]
  simp only [Bz6v, Bz7g, dnL_rws, dnL_rwn, Nat.not_lt_zero, range1, yzv, yzy, yz19, yz1b, yzz, yz1a, yz1c, yz17, yzx, yzp, yzf, yz3, yzs, yzq, yzn, yzm, yzt, yz7, yzd, yzb, yzc, yzi, yzh, yz2, yz6, yz8, yza, yzg, yzj, List.range_zero, yz5, yz4, yz9, yzr, yzl, yzo, AVal.fresh, freshL, yz1, yzk, AObj.fresh, id, Option.isSome_some, or_true, true_or, go_sem, yz0, Int.reduceLT, reduceLE, reduceToNat, reduceNeg, Nat.reduceLT, reduceLeDiff, reduceMul, reduceSub, reduceIte, reduceEqDiff, reduceAdd, reduceCtorEq]
  intro vs9
  refine call_rowI (k_A2Set more n next hb2 (by omega)) qCS qWS ⟨[], by simp [setB, allIn, SI]⟩ ?_
  rintro set vset hset
  obtain ⟨hml, hmb⟩ := set_bits n2 hset
  obtain ⟨pf1, pf2⟩ := part_facts A hml
  simp only [Bz7f, dnL_rws, dnL_rwn, Nat.not_lt_zero, range1, yzv, yzy, yz19, yz1b, yzz, yz1a, yz1c, yz17, yzx, yzp, yzf, yz3, yzs, yzq, yzn, yzm, yzt, yz7, yzd, yzb, yzc, yzi, yzh, yz2, yz6, yz8, yza, yzg, yzj, List.range_zero, yz5, yz4, yz9, yzr, yzl, yzo, AVal.fresh, freshL, yz1, yzk, AObj.fresh, id, Option.isSome_some, or_true, true_or, go_sem, yz0, Int.reduceLT, reduceLE, reduceToNat, reduceNeg, Nat.reduceLT, reduceLeDiff, reduceMul, reduceSub, reduceIte, reduceEqDiff, reduceAdd, reduceCtorEq]
  intro vs10
  refine call_fun2 (k_RankOfSet n next A set hset hml) qCS ?_
  have hpart := (leastT_word A hml).1 w hw
  have hI := k_ImageOf n next set w
  have himg := img_set A hml hw
  rw [hmb] at himg
  rw [autB_iff.2 A, hset, hWB w hw4 hw, himg] at hI
  have hset0 : cntN (maskN set) = set.length := by unfold cntN; rw [hmb]
  rw [hset0] at pf1 pf2 hpart ⊢
  generalize leastT (tourT next (maskN set)) set.length = part at pf1 pf2 hpart ⊢
  simp only [Bz7e, dnL_rws, dnL_rwn, Nat.not_lt_zero, range1, yzv, yzy, yz19, yz1b, yzz, yz1a, yz1c, yz17, yzx, yzp, yzf, yz3, yzs, yzq, yzn, yzm, yzt, yz7, yzd, yzb, yzc, yzi, yzh, yz2, yz6, yz8, yza, yzg, yzj, List.range_zero, yz5, yz4, yz9, yzr, yzl, yzo, AVal.fresh, freshL, yz1, yzk, AObj.fresh, id, Option.isSome_some, or_true, true_or, go_sem, yz0, Int.reduceLT, reduceLE, reduceToNat, reduceNeg, Nat.reduceLT, reduceLeDiff, reduceMul, reduceSub, reduceIte, reduceEqDiff, reduceAdd, reduceCtorEq]
  intro vs11
  refine call_rowT hI qCS qWS (fun _ vi => ?_) (fun h => by cases h)
  have c4 : decide ((part : Int) > (rankT next n : Int)) = false := by rw [decide_eq_false_iff_not]; omega
  have c5 : decide (((bitsTo (imN next (maskN set) w) 10).length : Int) < (part : Int)) = false := by
    rw [decide_eq_false_iff_not]
    have : (bitsTo (imN next (maskN set) w) 10).length = cntN (imN next (maskN set) w) := rfl
    omega
  have c6 : ((part : Int) == 0) = ((set.length : Int) == 0) := by
    rw [Bool.eq_iff_iff, beq_iff_eq, beq_iff_eq]; omega
  simp only [Bz7d, codeI, Bool.and_self, if_true, e00, c4, c5, c6, bne_self_eq_false, beq_self_eq_true, dnL_rws, dnL_rwn, Nat.not_lt_zero, range1, yzv, yzy, yz19, yz1b, yzz, yz1a, yz1c, yz17, yzx, yzp, yzf, yz3, yzs, yzq, yzn, yzm, yzt, yz7, yzd, yzb, yzc, yzi, yzh, yz2, yz6, yz8, yza, yzg, yzj, List.range_zero, yz5, yz4, yz9, yzr, yzl, yzo, AVal.fresh, freshL, yz1, yzk, AObj.fresh, id, Option.isSome_some, or_true, true_or, go_sem, yz0, Int.reduceLT, reduceLE, reduceToNat, reduceNeg, Nat.reduceLT, reduceLeDiff, reduceMul, reduceSub, reduceIte, reduceEqDiff, reduceAdd, reduceCtorEq]
  intro hM1 hM2
  simp only [Bz6w, Bz7c, dnL_rws, dnL_rwn, Nat.not_lt_zero, range1, yzv, yzy, yz19, yz1b, yzz, yz1a, yz1c, yz17, yzx, yzp, yzf, yz3, yzs, yzq, yzn, yzm, yzt, yz7, yzd, yzb, yzc, yzi, yzh, yz2, yz6, yz8, yza, yzg, yzj, List.range_zero, yz5, yz4, yz9, yzr, yzl, yzo, AVal.fresh, freshL, yz1, yzk, AObj.fresh, id, Option.isSome_some, or_true, true_or, go_sem, yz0, Int.reduceLT, reduceLE, reduceToNat, reduceNeg, Nat.reduceLT, reduceLeDiff, reduceMul, reduceSub, reduceIte, reduceEqDiff, reduceAdd, reduceCtorEq]
  intro vs12
  refine call_funE (k_a2At more 0 9 hb2 (by omega)) qCS ⟨_, 0, rfl, by omega, .inr rfl⟩ ?_
  rintro _ ⟨b, rfl, b1, b2⟩
  obtain ⟨m, rfl⟩ : ∃ m : Nat, b = m := ⟨b.toNat, by omega⟩
  have hm9 : m ≤ 9 := by omega
  simp only [Bz7b, dnL_rws, dnL_rwn, Nat.not_lt_zero, range1, yzv, yzy, yz19, yz1b, yzz, yz1a, yz1c, yz17, yzx, yzp, yzf, yz3, yzs, yzq, yzn, yzm, yzt, yz7, yzd, yzb, yzc, yzi, yzh, yz2, yz6, yz8, yza, yzg, yzj, List.range_zero, yz5, yz4, yz9, yzr, yzl, yzo, AVal.fresh, freshL, yz1, yzk, AObj.fresh, id, Option.isSome_some, or_true, true_or, go_sem, yz0, Int.reduceLT, reduceLE, reduceToNat, reduceNeg, Nat.reduceLT, reduceLeDiff, reduceMul, reduceSub, reduceIte, reduceEqDiff, reduceAdd, reduceCtorEq]
  intro vs13
  refine call_rowT (k_CountByRank n next A m (by omega)) qCS qWS (fun _ vr => ?_) (fun h => by cases h)
  simp only [Bz7a, dnL_rws, dnL_rwn, Nat.not_lt_zero, range1, yzv, yzy, yz19, yz1b, yzz, yz1a, yz1c, yz17, yzx, yzp, yzf, yz3, yzs, yzq, yzn, yzm, yzt, yz7, yzd, yzb, yzc, yzi, yzh, yz2, yz6, yz8, yza, yzg, yzj, List.range_zero, yz5, yz4, yz9, yzr, yzl, yzo, AVal.fresh, freshL, yz1, yzk, AObj.fresh, id, Option.isSome_some, or_true, true_or, go_sem, yz0, Int.reduceLT, reduceLE, reduceToNat, reduceNeg, Nat.reduceLT, reduceLeDiff, reduceMul, reduceSub, reduceIte, reduceEqDiff, reduceAdd, reduceCtorEq]
  intro vs14
  refine call_fun2 (k_CountResets n next A m (by omega)) qCS ?_
  have hRl : (natI (ranksN next n m)).length = n.toNat + 1 := by rw [natI_len]; simp [ranksN]
  have hRg : ∀ r : Nat, r ≤ n.toNat → (natI (ranksN next n m)).getD r 0 = ((rnkN next n m r : Nat) : Int) := fun r hr => by
    rw [natI_getD (by simp [ranksN]; omega)]
    unfold ranksN
    rw [List.getD_eq_getElem?_getD, List.getElem?_map, List.getElem?_range (by omega)]; rfl
  have w1 : IntKind.i64.wrap (n + 1) = n + 1 := w64 (by omega)
  have c7 : ((((natI (ranksN next n m)).length : Nat) : Int) != n + 1) = false := by
    rw [hRl, bne_eq_false_iff_eq]; omega
  have h1l : 1 < (natI (ranksN next n m)).length := by rw [hRl]; omega
  have hone := hRg 1 (by omega)
  rw [rnk_one A] at hone
  have e10 : (1 : Int).toNat = 1 := rfl
  simp only [Bz79, e00, w1, c7, yz1d h1l, hone, e10, bne_self_eq_false, dnL_rws, dnL_rwn, Nat.not_lt_zero, range1, yzv, yzy, yz19, yz1b, yzz, yz1a, yz1c, yz17, yzx, yzp, yzf, yz3, yzs, yzq, yzn, yzm, yzt, yz7, yzd, yzb, yzc, yzi, yzh, yz2, yz6, yz8, yza, yzg, yzj, List.range_zero, yz5, yz4, yz9, yzr, yzl, yzo, AVal.fresh, freshL, yz1, yzk, AObj.fresh, id, Option.isSome_some, or_true, true_or, go_sem, yz0, Int.reduceLT, reduceLE, reduceToNat, reduceNeg, Nat.reduceLT, reduceLeDiff, reduceMul, reduceSub, reduceIte, reduceEqDiff, reduceAdd, reduceCtorEq]
  intro hM3
  refine ⟨h1l, h1l, ?_⟩
  simp only [Bz6x, Bz78, Bz77, Bz6z, dnL_rws, dnL_rwn, Nat.not_lt_zero, range1, yzv, yzy, yz19, yz1b, yzz, yz1a, yz1c, yz17, yzx, yzp, yzf, yz3, yzs, yzq, yzn, yzm, yzt, yz7, yzd, yzb, yzc, yzi, yzh, yz2, yz6, yz8, yza, yzg, yzj, List.range_zero, yz5, yz4, yz9, yzr, yzl, yzo, AVal.fresh, freshL, yz1, yzk, AObj.fresh, id, Option.isSome_some, or_true, true_or, go_sem, yz0, Int.reduceLT, reduceLE, reduceToNat, reduceNeg, Nat.reduceLT, reduceLeDiff, reduceMul, reduceSub, reduceIte, reduceEqDiff, reduceAdd, reduceCtorEq]
  generalize natI (ranksN next n m) = R at hRl hRg
  refine wpD_lo (fun k => n.toNat + 1 - k) (fun k => k ≤ n.toNat + 1)
    (fun (k : Nat) => ⟨L .any [(5, .ptr 5 (vs2 2 0) 0), (7, iv (rankT next n)), (22, iv m), (23, .own 149 vr), (27, iv (belowN next n m k)), (28, iv k)],
      L .gone [(5, .box (vs2 2 0) [iv n, .ro (some none) 1 (rws next)]), (149, .row vr 1 true (ints R))]⟩)
    0 (by omega) (by simp only [Bz1p, belowN_zero, dnL_rws, dnL_rwn, Nat.not_lt_zero, range1, yzv, yzy, yz19, yz1b, yzz, yz1a, yz1c, yz17, yzx, yzp, yzf, yz3, yzs, yzq, yzn, yzm, yzt, yz7, yzd, yzb, yzc, yzi, yzh, yz2, yz6, yz8, yza, yzg, yzj, List.range_zero, yz5, yz4, yz9, yzr, yzl, yzo, AVal.fresh, freshL, yz1, yzk, AObj.fresh, id, Option.isSome_some, or_true, true_or, go_sem, yz0, Int.reduceLT, reduceLE, reduceToNat, reduceNeg, Nat.reduceLT, reduceLeDiff, reduceMul, reduceSub, reduceIte, reduceEqDiff, reduceAdd, reduceCtorEq]; try rfl) ?_
  intro k hk
  by_cases hlt : (k : Int) ≤ n
  · have hkl : k < R.length := by omega
    have wk : IntKind.i64.wrap ((k : Int) + 1) = ((k + 1 : Nat) : Int) := by rw [w64 (by omega)]; simp
    have hb1 := belowN_le A (k := m) (by omega) (k + 1)
    rw [belowN_succ] at hb1
    have ws : IntKind.i64.wrap ((belowN next n m k : Int) + (rnkN next n m k : Int)) = ((belowN next n m (k + 1) : Nat) : Int) := by
      rw [belowN_succ, w64 (by omega)]; simp
    simp only [Bz1p, Bz3v, Bz6y, yz1d hkl, hRg k (by omega), ws, decide_eq_true hlt, dnL_rws, dnL_rwn, Nat.not_lt_zero, range1, yzv, yzy, yz19, yz1b, yzz, yz1a, yz1c, yz17, yzx, yzp, yzf, yz3, yzs, yzq, yzn, yzm, yzt, yz7, yzd, yzb, yzc, yzi, yzh, yz2, yz6, yz8, yza, yzg, yzj, List.range_zero, yz5, yz4, yz9, yzr, yzl, yzo, AVal.fresh, freshL, yz1, yzk, AObj.fresh, id, Option.isSome_some, or_true, true_or, go_sem, yz0, Int.reduceLT, reduceLE, reduceToNat, reduceNeg, Nat.reduceLT, reduceLeDiff, reduceMul, reduceSub, reduceIte, reduceEqDiff, reduceAdd, reduceCtorEq]
    refine ⟨⟨by omega, hkl⟩, hkl, ?_⟩
    by_cases g : k < rankT next n
    · have g1 : decide ((k : Int) < (rankT next n : Int)) = true := by rw [decide_eq_true_eq]; omega
      have z : ((rnkN next n m k : Nat) : Int) = 0 := by rw [rnk_low A g]; rfl
      have hRk := hRg k (by omega)
      rw [z] at hRk
      simp only [Bz3x, g1, yz1d hkl, hRk, bne_self_eq_false, dnL_rws, dnL_rwn, Nat.not_lt_zero, range1, yzv, yzy, yz19, yz1b, yzz, yz1a, yz1c, yz17, yzx, yzp, yzf, yz3, yzs, yzq, yzn, yzm, yzt, yz7, yzd, yzb, yzc, yzi, yzh, yz2, yz6, yz8, yza, yzg, yzj, List.range_zero, yz5, yz4, yz9, yzr, yzl, yzo, AVal.fresh, freshL, yz1, yzk, AObj.fresh, id, Option.isSome_some, or_true, true_or, go_sem, yz0, Int.reduceLT, reduceLE, reduceToNat, reduceNeg, Nat.reduceLT, reduceLeDiff, reduceMul, reduceSub, reduceIte, reduceEqDiff, reduceAdd, reduceCtorEq]
      refine ⟨⟨by omega, hkl⟩, hkl, ?_⟩
      simp only [Bz3w, Bz3y, wk, dnL_rws, dnL_rwn, Nat.not_lt_zero, range1, yzv, yzy, yz19, yz1b, yzz, yz1a, yz1c, yz17, yzx, yzp, yzf, yz3, yzs, yzq, yzn, yzm, yzt, yz7, yzd, yzb, yzc, yzi, yzh, yz2, yz6, yz8, yza, yzg, yzj, List.range_zero, yz5, yz4, yz9, yzr, yzl, yzo, AVal.fresh, freshL, yz1, yzk, AObj.fresh, id, Option.isSome_some, or_true, true_or, go_sem, yz0, Int.reduceLT, reduceLE, reduceToNat, reduceNeg, Nat.reduceLT, reduceLeDiff, reduceMul, reduceSub, reduceIte, reduceEqDiff, reduceAdd, reduceCtorEq]
      exact ⟨k + 1, by omega, by omega, rfl⟩
    · have g1 : decide ((k : Int) < (rankT next n : Int)) = false := by rw [decide_eq_false_iff_not]; omega
      simp only [Bz3x, Bz3w, Bz3y, g1, wk, dnL_rws, dnL_rwn, Nat.not_lt_zero, range1, yzv, yzy, yz19, yz1b, yzz, yz1a, yz1c, yz17, yzx, yzp, yzf, yz3, yzs, yzq, yzn, yzm, yzt, yz7, yzd, yzb, yzc, yzi, yzh, yz2, yz6, yz8, yza, yzg, yzj, List.range_zero, yz5, yz4, yz9, yzr, yzl, yzo, AVal.fresh, freshL, yz1, yzk, AObj.fresh, id, Option.isSome_some, or_true, true_or, go_sem, yz0, Int.reduceLT, reduceLE, reduceToNat, reduceNeg, Nat.reduceLT, reduceLeDiff, reduceMul, reduceSub, reduceIte, reduceEqDiff, reduceAdd, reduceCtorEq]
      exact ⟨k + 1, by omega, by omega, rfl⟩
  · obtain rfl : k = n.toNat + 1 := by omega
    have hba := belowN_all A (k := m)
    have hbl := belowN_le A (k := m) (by omega) (n.toNat + 1)
    rw [hba] at hbl
    simp only [Bz1p, Bz3v, Bz76, Bz74, hba, decide_eq_false hlt, dnL_rws, dnL_rwn, Nat.not_lt_zero, range1, yzv, yzy, yz19, yz1b, yzz, yz1a, yz1c, yz17, yzx, yzp, yzf, yz3, yzs, yzq, yzn, yzm, yzt, yz7, yzd, yzb, yzc, yzi, yzh, yz2, yz6, yz8, yza, yzg, yzj, List.range_zero, yz5, yz4, yz9, yzr, yzl, yzo, AVal.fresh, freshL, yz1, yzk, AObj.fresh, id, Option.isSome_some, or_true, true_or, go_sem, yz0, Int.reduceLT, reduceLE, reduceToNat, reduceNeg, Nat.reduceLT, reduceLeDiff, reduceMul, reduceSub, reduceIte, reduceEqDiff, reduceAdd, reduceCtorEq]
    refine wpD_lo (fun i => m - i) (fun i => i ≤ m)
      (fun (i : Nat) => ⟨L .any [(5, .ptr 5 (vs2 2 0) 0), (22, iv m), (27, iv ((next.length ^ (m - i) : Nat) : Int)), (29, iv i)],
        L .gone [(5, .box (vs2 2 0) [iv n, .ro (some none) 1 (rws next)]), (149, .row vr 1 true (ints R))]⟩)
      0 (by omega) (by simp only [Bz1q, Nat.sub_zero, dnL_rws, dnL_rwn, Nat.not_lt_zero, range1, yzv, yzy, yz19, yz1b, yzz, yz1a, yz1c, yz17, yzx, yzp, yzf, yz3, yzs, yzq, yzn, yzm, yzt, yz7, yzd, yzb, yzc, yzi, yzh, yz2, yz6, yz8, yza, yzg, yzj, List.range_zero, yz5, yz4, yz9, yzr, yzl, yzo, AVal.fresh, freshL, yz1, yzk, AObj.fresh, id, Option.isSome_some, or_true, true_or, go_sem, yz0, Int.reduceLT, reduceLE, reduceToNat, reduceNeg, Nat.reduceLT, reduceLeDiff, reduceMul, reduceSub, reduceIte, reduceEqDiff, reduceAdd, reduceCtorEq]; try rfl) ?_
    intro i hi
    by_cases hli : (i : Int) < m
    · have wi : IntKind.i64.wrap ((i : Int) + 1) = ((i + 1 : Nat) : Int) := by rw [w64 (by omega)]; simp
      have hl1 := A.l1
      have hl0 : ¬ ((next.length : Int) = 0) := by omega
      have hmi : m - i = (m - (i + 1)) + 1 := by omega
      have hpw : ((next.length ^ (m - i) : Nat) : Int) = ((next.length ^ (m - (i + 1)) : Nat) : Int) * (next.length : Int) := by rw [hmi, Nat.pow_succ, Int.natCast_mul]
      have hle : next.length ^ (m - (i + 1)) ≤ next.length ^ m := Nat.pow_le_pow_right hl1 (by omega)
      have hr : ((next.length ^ (m - i) : Nat) : Int).tmod (next.length : Int) = 0 := by rw [hpw]; exact Int.mul_tmod_left _ _
      have hq : IntKind.i64.wrap (((next.length ^ (m - i) : Nat) : Int).tdiv (next.length : Int)) = ((next.length ^ (m - (i + 1)) : Nat) : Int) := by
        rw [hpw, Int.mul_tdiv_cancel _ hl0]; exact w64 (by omega)
      have e0 : ((0 : Int) != 0) = false := rfl
      simp only [Bz1q, Bz3z, Bz73, hl0, hr, e0, if_false, decide_eq_true hli, dnL_rws, dnL_rwn, Nat.not_lt_zero, range1, yzv, yzy, yz19, yz1b, yzz, yz1a, yz1c, yz17, yzx, yzp, yzf, yz3, yzs, yzq, yzn, yzm, yzt, yz7, yzd, yzb, yzc, yzi, yzh, yz2, yz6, yz8, yza, yzg, yzj, List.range_zero, yz5, yz4, yz9, yzr, yzl, yzo, AVal.fresh, freshL, yz1, yzk, AObj.fresh, id, Option.isSome_some, or_true, true_or, go_sem, yz0, Int.reduceLT, reduceLE, reduceToNat, reduceNeg, Nat.reduceLT, reduceLeDiff, reduceMul, reduceSub, reduceIte, reduceEqDiff, reduceAdd, reduceCtorEq]
      intro hM4
      simp only [Bz70, Bz71, Bz72, hl0, hq, wi, if_false, dnL_rws, dnL_rwn, Nat.not_lt_zero, range1, yzv, yzy, yz19, yz1b, yzz, yz1a, yz1c, yz17, yzx, yzp, yzf, yz3, yzs, yzq, yzn, yzm, yzt, yz7, yzd, yzb, yzc, yzi, yzh, yz2, yz6, yz8, yza, yzg, yzj, List.range_zero, yz5, yz4, yz9, yzr, yzl, yzo, AVal.fresh, freshL, yz1, yzk, AObj.fresh, id, Option.isSome_some, or_true, true_or, go_sem, yz0, Int.reduceLT, reduceLE, reduceToNat, reduceNeg, Nat.reduceLT, reduceLeDiff, reduceMul, reduceSub, reduceIte, reduceEqDiff, reduceAdd, reduceCtorEq]
      intro hM5
      exact ⟨i + 1, by omega, by omega, rfl⟩
    · obtain rfl : m = i := by omega
      have ez : (((next.length ^ (m - m) : Nat) : Int) == 1) = true := by rw [Nat.sub_self]; rfl
      simp only [Bz1q, Bz3z, Bz75, ez, decide_eq_false hli, dnL_rws, dnL_rwn, Nat.not_lt_zero, range1, yzv, yzy, yz19, yz1b, yzz, yz1a, yz1c, yz17, yzx, yzp, yzf, yz3, yzs, yzq, yzn, yzm, yzt, yz7, yzd, yzb, yzc, yzi, yzh, yz2, yz6, yz8, yza, yzg, yzj, List.range_zero, yz5, yz4, yz9, yzr, yzl, yzo, AVal.fresh, freshL, yz1, yzk, AObj.fresh, id, Option.isSome_some, or_true, true_or, go_sem, yz0, Int.reduceLT, reduceLE, reduceToNat, reduceNeg, Nat.reduceLT, reduceLeDiff, reduceMul, reduceSub, reduceIte, reduceEqDiff, reduceAdd, reduceCtorEq]
end Go.Ab
