/- Contracts and what they lean on, part 9. Conditions: none. -/
import Derived.Test.YtiaoooekoffloaaZ8
set_option maxRecDepth 100000
set_option maxHeartbeats 4000000
set_option linter.all false
open Nat (reduceLeDiff reduceMul reduceSub reduceEqDiff reduceAdd)
open Int (reduceToNat reduceNeg reduceLE)
namespace Go.Ab
open Go.Proofs
abbrev LoR (code : List Int) (at_ k : Int) (outs rows : List AObj) (res : AVal) : Prop :=
  ∃ n ps v a' s', (ps.length ≤ 3 → DJ ps) ∧ ps.length ≤ 10 ∧ -1 ≤ n ∧ n ≤ 11 ∧ (∀ p ∈ ps, p.2.length ≤ 10) ∧ at_ ≤ a' ∧ a' ≤ at_ + k ∧ outs = [.box 0 (srcC code a' s')] ∧ rows = [.row v 1 true (rwp ps)] ∧ res = .st [iv n, .own 6000 v]
theorem call_boxrowN {P : Program} {nos : List Nat} {σ : St} {g : FuncId} {As args : List AVal} {d : Nat} {s : Nat → Nat} {K : St → Prop} {r q v u : Nat} {cs cs0 : List AVal} {xs : List Int} {Q : List AVal → Value → Prop}
    (h : Con P g [.box 0 cs, .row 1 1 true (ints xs)] args true fun outs rows res => ∃ cs' x, Q cs' x ∧ flatL cs' ∧ outs = [.box 0 cs', .row 1 1 true (ints xs)] ∧ rows = [] ∧ res = .val x)
    (hr : σ.hp r = .box v cs0) (hq : σ.hp q = .row u 1 true (ints xs)) (hm : r ∈ nos ∧ q ∈ nos) (hne : [r, q].Nodup) (hcs : CoeL σ.hp [r, q] false cs cs0) (ha : CoeL σ.hp [r, q] false args As) (hex : ∃ cs' x, Q cs' x ∧ flatL cs')
    (hk : ∀ cs' x, Q cs' x → K (St.put ⟨σ.tm, upd (upd σ.hp r (.box v cs')) q (.row u 1 true (ints xs))⟩ (some d) (.val x))) : wpCallN P nos σ g As (some d) s K := by
  refine ⟨[r, q], _, _, true, _, h, ⟨by simp, rfl, hne, ?_, ?_⟩, ha, ⟨by simp [hm.1, hm.2], ?_⟩, ?_⟩
  · intro x hx
    simp only [List.mem_cons, List.not_mem_nil, or_false] at hx
    rcases hx with rfl | rfl
    · simp [hr]
    · simp [hq]
  · intro j B r' hB hr'
    match j, hB, hr' with
    | 0, hB, hr' =>
      simp at hB hr'; subst hB; subst hr'
      rw [hr]
      exact ⟨rfl, v, cs0, rfl, hcs⟩
    | 1, hB, hr' =>
      simp at hB hr'; subst hB; subst hr'
      simp only [ObjCoe, hq]
      exact ⟨trivial, u, _, rfl, coeL_ints⟩
    | j + 2, hB, hr' => simp at hB
  · obtain ⟨cs', x, hq, hf⟩ := hex
    exact ⟨_, _, _, cs', x, hq, hf, rfl, rfl, rfl⟩
  · rintro outs rows res ⟨cs', x, hQ, hf, rfl, rfl, rfl⟩
    refine ⟨rfl, rfl, ?_⟩
    have s0 : sv σ.hp [r, q] s 0 = v := by simp [sv, hr, AObj.ver]
    have s1 : sv σ.hp [r, q] s 1 = u := by simp [sv, hq, AObj.ver]
    rw [Option.getD_some, callHp_h2 hne]
    simp only [yzn, yzp, renL_flat cs' hf, yz4, yzw, s0, s1]
    exact hk cs' x hQ
theorem k_l01Bent (code : List Int) (at_ seed : Int) (hb : ∀ x ∈ code, 0 ≤ x ∧ x ≤ 255) (ha : 0 ≤ at_ ∧ at_ ≤ 100000) :
    Con Try.prog nz3q [.box 0 (srcC code at_ seed)] [.ptr 5000 0 0] true (LoR code at_ 3000) := by
  refine con_shE mixed czhj rfl (by simp) ?_
  generalize hQ : finQ _ = Q
  have h12 : ∀ (σ : St) (v2 v3 : Nat) (r v : Nat) (o6 o10 o61 o73 o77 : AObj) (a s n : Int) (ps : List (Nat × List Int)),
      (ps.length ≤ 3 → DJ ps) → ps.length ≤ 10 → -1 ≤ n ∧ n ≤ 11 → (∀ p ∈ ps, p.2.length ≤ 10) → at_ ≤ a ∧ a ≤ at_ + 3000 →
      (r = 6 ∧ o6 = .row v 1 true (rwp ps) ∨ r = 10 ∧ o10 = .row v 1 true (rwp ps) ∨ r = 77 ∧ o77 = .row v 1 true (rwp ps)) →
      σ.keep [2, 3] [2, 3, 6, 10, 61, 73, 77, 5000, 901] = ⟨L .any [(2, .ptr 2 v2 0), (3, .ptr 3 v3 0)],
        L .gone [(2, .box v2 [iv 0, .val (.slice none 0 0)]), (3, .box v3 [iv n, .own r v]), (6, o6), (10, o10), (61, o61), (73, o73), (77, o77), (5000, .box 0 (srcC code a s)), (901, .gone)]⟩ →
      wpD Try.prog Bzw Q σ := by
    intro σ v2 v3 r v o6 o10 o61 o73 o77 a s n ps hd hl hn hr ha' hrv hS
    unfold Bzw
    rw [yzg, hS]
    simp only [wpD_gh]
    intro _
    refine ⟨[], ?_⟩
    rcases hrv with ⟨rfl, rfl⟩ | ⟨rfl, rfl⟩ | ⟨rfl, rfl⟩
    · simp only [gwp_nil, yzg, yz1, go_sem, yz0, Int.reduceLT, reduceLE, reduceToNat, reduceNeg, Nat.reduceLT, reduceLeDiff, reduceMul, reduceSub, reduceIte, reduceEqDiff, reduceAdd, reduceCtorEq]
      intro vs U hN
      simp only [← hQ, Azc, go_sem, yz0, Int.reduceLT, reduceLE, reduceToNat, reduceNeg, Nat.reduceLT, reduceLeDiff, reduceMul, reduceSub, reduceIte, reduceEqDiff, reduceAdd, reduceCtorEq]
      refine ⟨[6], by simp, by simp, by simp, ?_⟩
      simp only [range1, List.length_singleton, renL_rwp, Nat.not_lt_zero, range1, yzw, yz11, ren_ro, rnNm_n, yz12, rnNm_o, rnNm_s, ren_st, yzz, yzo, yzf, yz4, yzu, yzt, yzp, yzn, yzr, yzc, yz9, yz8, yze, yzj, yzl, yz3, yz7, yzb, yzd, yzi, yzm, List.range_zero, yz6, yz5, yza, yzv, yzh, yzq, AVal.fresh, freshL, yz2, yzk, AObj.fresh, id, Option.isSome_some, or_true, true_or, go_sem, yz0, Int.reduceLT, reduceLE, reduceToNat, reduceNeg, Nat.reduceLT, reduceLeDiff, reduceMul, reduceSub, reduceIte, reduceEqDiff, reduceAdd, reduceCtorEq]
      exact ⟨n, ps, v, a, s, hd, hl, hn.1, hn.2, hr, ha'.1, ha'.2, rfl, by simp, rfl⟩
    · simp only [gwp_nil, yzg, yz1, go_sem, yz0, Int.reduceLT, reduceLE, reduceToNat, reduceNeg, Nat.reduceLT, reduceLeDiff, reduceMul, reduceSub, reduceIte, reduceEqDiff, reduceAdd, reduceCtorEq]
      intro vs U hN
      simp only [← hQ, Azc, go_sem, yz0, Int.reduceLT, reduceLE, reduceToNat, reduceNeg, Nat.reduceLT, reduceLeDiff, reduceMul, reduceSub, reduceIte, reduceEqDiff, reduceAdd, reduceCtorEq]
      refine ⟨[10], by simp, by simp, by simp, ?_⟩
      simp only [range1, List.length_singleton, renL_rwp, Nat.not_lt_zero, range1, yzw, yz11, ren_ro, rnNm_n, yz12, rnNm_o, rnNm_s, ren_st, yzz, yzo, yzf, yz4, yzu, yzt, yzp, yzn, yzr, yzc, yz9, yz8, yze, yzj, yzl, yz3, yz7, yzb, yzd, yzi, yzm, List.range_zero, yz6, yz5, yza, yzv, yzh, yzq, AVal.fresh, freshL, yz2, yzk, AObj.fresh, id, Option.isSome_some, or_true, true_or, go_sem, yz0, Int.reduceLT, reduceLE, reduceToNat, reduceNeg, Nat.reduceLT, reduceLeDiff, reduceMul, reduceSub, reduceIte, reduceEqDiff, reduceAdd, reduceCtorEq]
      exact ⟨n, ps, v, a, s, hd, hl, hn.1, hn.2, hr, ha'.1, ha'.2, rfl, by simp, rfl⟩
    · simp only [gwp_nil, yzg, yz1, go_sem, yz0, Int.reduceLT, reduceLE, reduceToNat, reduceNeg, Nat.reduceLT, reduceLeDiff, reduceMul, reduceSub, reduceIte, reduceEqDiff, reduceAdd, reduceCtorEq]
      intro vs U hN
      simp only [← hQ, Azc, go_sem, yz0, Int.reduceLT, reduceLE, reduceToNat, reduceNeg, Nat.reduceLT, reduceLeDiff, reduceMul, reduceSub, reduceIte, reduceEqDiff, reduceAdd, reduceCtorEq]
      refine ⟨[77], by simp, by simp, by simp, ?_⟩
      simp only [range1, List.length_singleton, renL_rwp, Nat.not_lt_zero, range1, yzw, yz11, ren_ro, rnNm_n, yz12, rnNm_o, rnNm_s, ren_st, yzz, yzo, yzf, yz4, yzu, yzt, yzp, yzn, yzr, yzc, yz9, yz8, yze, yzj, yzl, yz3, yz7, yzb, yzd, yzi, yzm, List.range_zero, yz6, yz5, yza, yzv, yzh, yzq, AVal.fresh, freshL, yz2, yzk, AObj.fresh, id, Option.isSome_some, or_true, true_or, go_sem, yz0, Int.reduceLT, reduceLE, reduceToNat, reduceNeg, Nat.reduceLT, reduceLeDiff, reduceMul, reduceSub, reduceIte, reduceEqDiff, reduceAdd, reduceCtorEq]
      exact ⟨n, ps, v, a, s, hd, hl, hn.1, hn.2, hr, ha'.1, ha'.2, rfl, by simp, rfl⟩
  have h12b : ∀ (σ : St) (v2 v3 r v m : Nat) (o6 o10 : AObj) (a s n : Int) (A2 C2 : List (Nat × List Int)) (b : Nat × List Int) (cur : List Int),
      DJ (A2 ++ b :: C2) → (A2 ++ b :: C2).length ≤ 10 → -1 ≤ n ∧ n ≤ 11 → (∀ p ∈ A2 ++ C2, p.2.length ≤ 10) → cur.length ≤ 10 → at_ ≤ a ∧ a ≤ at_ + 3000 →
      (r = 6 ∧ o6 = .row v 1 true (rwp A2 ++ .own 901 m :: rwp C2) ∨ r = 10 ∧ o10 = .row v 1 true (rwp A2 ++ .own 901 m :: rwp C2)) →
      σ.keep [2, 3] [2, 3, 6, 10, 61, 73, 77, 5000, 901] = ⟨L .any [(2, .ptr 2 v2 0), (3, .ptr 3 v3 0)],
        L .gone [(2, .box v2 [iv 0, .val (.slice none 0 0)]), (3, .box v3 [iv n, .own r v]), (6, o6), (10, o10), (61, .gone), (73, .gone), (77, .gone), (5000, .box 0 (srcC code a s)), (901, .row m 1 true (ints cur))]⟩ →
      wpD Try.prog Bzw Q σ := by
    intro σ v2 v3 r v m o6 o10 a s n A2 C2 b cur hd hl hn hr hc ha' hrv hS
    unfold Bzw
    rw [yzg, hS]
    simp only [wpD_gh]
    intro hD
    have hset4 : ∀ X : AVal, (rwp A2 ++ AVal.own 901 m :: rwp C2).set A2.length X = rwp A2 ++ X :: rwp C2 := fun X => by
      rw [List.set_append_right _ _ (by rw [rwp_len]; exact Nat.le_refl _), rwp_len, Nat.sub_self]; rfl
    rw [List.length_append, List.length_cons] at hl
    have key : (∀ n k'' cs'', AVal.ro (some (some (n + 1))) k'' cs'' ∈ rwp A2 ++ AVal.own 901 m :: rwp C2 → cs'' ≠ [] → n ≠ m) → DJ (A2 ++ (m, cur) :: C2) := fun hf => DJ_in hd fun p hp => by
      by_cases e : p.2 = []
      · exact .inl e
      · refine .inr (hf p.1 1 (ints p.2) ?_ (by simpa using e))
        rcases List.mem_append.1 hp with h | h
        · exact List.mem_append.2 (.inl (List.mem_map.2 ⟨p, h, rfl⟩))
        · exact List.mem_append.2 (.inr (List.mem_cons.2 (.inr (List.mem_map.2 ⟨p, h, rfl⟩))))
    have hr2 : ∀ p ∈ A2 ++ (m, cur) :: C2, p.2.length ≤ 10 := fun p hp => by
      simp only [List.mem_append, List.mem_cons] at hp
      rcases hp with h | rfl | h
      · exact hr p (by simp [h])
      · exact hc
      · exact hr p (by simp [h])
    rcases hrv with ⟨rfl, rfl⟩ | ⟨rfl, rfl⟩
    · refine ⟨[.rf 6 A2.length 901], gwp_rf (k := 1) (nn := true) rfl (own_get rfl) (by decide) rfl fun hf => ?_⟩
      have D1 := key hf
      simp only [hset4, frNm_t, rwp_cat, gwp_nil, yzg, yz1, go_sem, yz0, Int.reduceLT, reduceLE, reduceToNat, reduceNeg, Nat.reduceLT, reduceLeDiff, reduceMul, reduceSub, reduceIte, reduceEqDiff, reduceAdd, reduceCtorEq]
      intro vs U hN
      simp only [← hQ, Azc, go_sem, yz0, Int.reduceLT, reduceLE, reduceToNat, reduceNeg, Nat.reduceLT, reduceLeDiff, reduceMul, reduceSub, reduceIte, reduceEqDiff, reduceAdd, reduceCtorEq]
      refine ⟨[6], by simp, by simp, by simp, ?_⟩
      simp only [range1, List.length_singleton, renL_rwp, Nat.not_lt_zero, range1, yzw, yz11, ren_ro, rnNm_n, yz12, rnNm_o, rnNm_s, ren_st, yzz, yzo, yzf, yz4, yzu, yzt, yzp, yzn, yzr, yzc, yz9, yz8, yze, yzj, yzl, yz3, yz7, yzb, yzd, yzi, yzm, List.range_zero, yz6, yz5, yza, yzv, yzh, yzq, AVal.fresh, freshL, yz2, yzk, AObj.fresh, id, Option.isSome_some, or_true, true_or, go_sem, yz0, Int.reduceLT, reduceLE, reduceToNat, reduceNeg, Nat.reduceLT, reduceLeDiff, reduceMul, reduceSub, reduceIte, reduceEqDiff, reduceAdd, reduceCtorEq]
      exact ⟨n, A2 ++ (m, cur) :: C2, v, a, s, fun _ => D1, by simp; omega, hn.1, hn.2, hr2, ha'.1, ha'.2, rfl, by simp, rfl⟩
    · refine ⟨[.rf 10 A2.length 901], gwp_rf (k := 1) (nn := true) rfl (own_get rfl) (by decide) rfl fun hf => ?_⟩
      have D1 := key hf
      simp only [hset4, frNm_t, rwp_cat, gwp_nil, yzg, yz1, go_sem, yz0, Int.reduceLT, reduceLE, reduceToNat, reduceNeg, Nat.reduceLT, reduceLeDiff, reduceMul, reduceSub, reduceIte, reduceEqDiff, reduceAdd, reduceCtorEq]
      intro vs U hN
      simp only [← hQ, Azc, go_sem, yz0, Int.reduceLT, reduceLE, reduceToNat, reduceNeg, Nat.reduceLT, reduceLeDiff, reduceMul, reduceSub, reduceIte, reduceEqDiff, reduceAdd, reduceCtorEq]
      refine ⟨[10], by simp, by simp, by simp, ?_⟩
      simp only [range1, List.length_singleton, renL_rwp, Nat.not_lt_zero, range1, yzw, yz11, ren_ro, rnNm_n, yz12, rnNm_o, rnNm_s, ren_st, yzz, yzo, yzf, yz4, yzu, yzt, yzp, yzn, yzr, yzc, yz9, yz8, yze, yzj, yzl, yz3, yz7, yzb, yzd, yzi, yzm, List.range_zero, yz6, yz5, yza, yzv, yzh, yzq, AVal.fresh, freshL, yz2, yzk, AObj.fresh, id, Option.isSome_some, or_true, true_or, go_sem, yz0, Int.reduceLT, reduceLE, reduceToNat, reduceNeg, Nat.reduceLT, reduceLeDiff, reduceMul, reduceSub, reduceIte, reduceEqDiff, reduceAdd, reduceCtorEq]
      exact ⟨n, A2 ++ (m, cur) :: C2, v, a, s, fun _ => D1, by simp; omega, hn.1, hn.2, hr2, ha'.1, ha'.2, rfl, by simp, rfl⟩
  have h4 : ∀ (σ : St) (v2 v3 : Nat) (r v : Nat) (o6 o10 : AObj) (a s n : Int) (ps : List (Nat × List Int)),
      Aut n (ps.map (·.2)) → DJ ps → at_ ≤ a ∧ a ≤ at_ + 2500 → (r = 6 ∧ o6 = .row v 1 true (rwp ps) ∨ r = 10 ∧ o10 = .row v 1 true (rwp ps)) →
      σ.keep [0, 2, 3] [2, 3, 6, 10, 61, 73, 77, 5000, 901] = ⟨L .any [(0, .ptr 5000 0 0), (2, .ptr 2 v2 0), (3, .ptr 3 v3 0)],
        L .gone [(2, .box v2 [iv 0, .val (.slice none 0 0)]), (3, .box v3 [iv n, .own r v]), (6, o6), (10, o10), (61, .gone), (73, .gone), (77, .gone), (5000, .box 0 (srcC code a s)), (901, .gone)]⟩ →
      wpD Try.prog Bz6m Q σ := by
    intro σ v2 v3 r v o6 o10 a s n ps A hd ha' hrv hS
    unfold Bz6m
    rw [yzg, hS]
    have l1 := A.l1
    have l2 := A.l2
    have n1 := A.n1
    have n2 := A.n2
    rw [List.length_map] at l1 l2
    rcases hrv with ⟨rfl, rfl⟩ | ⟨rfl, rfl⟩
    · simp only [rwp_len, yzg, yz1, go_sem, yz0, Int.reduceLT, reduceLE, reduceToNat, reduceNeg, Nat.reduceLT, reduceLeDiff, reduceMul, reduceSub, reduceIte, reduceEqDiff, reduceAdd, reduceCtorEq]
      intro vs U hN hM
      refine call_funB (k_pick code a s ps.length hb (by omega)) rfl qCS qCS ?_
      rintro cs' x ⟨a1, s1, at1, rfl, e1, e2, rfl, e3, e4⟩
      have hat : at1.toNat < ps.length := by omega
      simp only [Bz6l, yzg, yz1, go_sem, yz0, Int.reduceLT, reduceLE, reduceToNat, reduceNeg, Nat.reduceLT, reduceLeDiff, reduceMul, reduceSub, reduceIte, reduceEqDiff, reduceAdd, reduceCtorEq]
      intro vs1 U1 hN1
      refine call_funB (k_pick code a1 s1 24 hb (by omega)) rfl qCS qCS ?_
      rintro cs' x ⟨a2, s2, kd, rfl, f1, f2, rfl, f3, f4⟩
      have hps : ∀ p ∈ ps, p.2.length ≤ 10 := fun p hp => by have := (A.row p.2 (List.mem_map.2 ⟨p, hp, rfl⟩)).1; omega
      by_cases k0 : kd = 0
      · subst k0
        have w1 : IntKind.i64.wrap (n + 1) = n + 1 := w64 (by omega)
        simp only [Bz2, Bz1, w1, beq_self_eq_true, yzg, yz1, go_sem, yz0, Int.reduceLT, reduceLE, reduceToNat, reduceNeg, Nat.reduceLT, reduceLeDiff, reduceMul, reduceSub, reduceIte, reduceEqDiff, reduceAdd, reduceCtorEq]
        intro vs2 U2 hN2 vs3 U3 hN3
        refine ⟨⟨⟨_, rfl, rfl⟩, ⟨_, rfl, rfl⟩, ⟨_, rfl, rfl⟩, _, rfl, rfl⟩, ?_⟩
        refine call_boxrow (r := 5000) (q := 24) (k_among code a2 s2 [0, -1, n + 1, 11] hb (by omega) (by simp)) rfl rfl (by decide) qCS (by simp only [yzs, yz18, and_true, Coe]; exact ⟨⟨0, _, _, rfl, rfl, rfl, rfl, rfl⟩, 1, _, _, rfl, rfl, rfl, rfl, rfl⟩) ?_
        rintro cs' x ⟨a3, s3, b3, rfl, g3, g4, rfl, g5⟩
        have hb3 : -1 ≤ b3 ∧ b3 ≤ 11 := by simp at g5; omega
        simp only [go_sem, yz0, Int.reduceLT, reduceLE, reduceToNat, reduceNeg, Nat.reduceLT, reduceLeDiff, reduceMul, reduceSub, reduceIte, reduceEqDiff, reduceAdd, reduceCtorEq]
        exact h12 _ v2 v3 6 v _ o10 .gone .gone .gone a3 s3 b3 ps (fun _ => hd) (by omega) hb3 hps (by omega) (.inl ⟨rfl, rfl⟩) (by simp only [go_sem, yz0, Int.reduceLT, reduceLE, reduceToNat, reduceNeg, Nat.reduceLT, reduceLeDiff, reduceMul, reduceSub, reduceIte, reduceEqDiff, reduceAdd, reduceCtorEq]; try rfl)
      by_cases k1 : kd = 1
      · subst k1
        simp only [beq_false_of_ne (show (1 : Int) ≠ 0 by omega), Bz2, Bz1, Bz3, rwp_getD hat, St.bound, List.take_length, beq_self_eq_true, yzg, yz1, go_sem, yz0, Int.reduceLT, reduceLE, reduceToNat, reduceNeg, Nat.reduceLT, reduceLeDiff, reduceMul, reduceSub, reduceIte, reduceEqDiff, reduceAdd, reduceCtorEq]
        intro _ _ _ _ _ _ vs4 U4 hN4
        have hlw : (rwp ps).length = ps.length := rwp_len
        have hrl := (A.row _ (List.mem_map.2 ⟨_, yz10 hat (0, []), rfl⟩)).1
        refine ⟨⟨e3, by omega⟩, by omega, ⟨by omega, Nat.le_refl _⟩, ⟨e3, by omega⟩, by omega, ?_⟩
        have ed : List.drop 1 (ints (ps.getD at1.toNat (0, [])).2) = ints ((ps.getD at1.toNat (0, [])).2.drop 1) := by simp only [List.map_drop]
        rw [ed, rwp_putN (p := ((ps.getD at1.toNat (0, [])).1, (ps.getD at1.toNat (0, [])).2.drop 1))]
        have hlp : (ps.take at1.toNat ++ [((ps.getD at1.toNat (0, [])).1, (ps.getD at1.toNat (0, [])).2.drop 1)] ++ ps.drop (at1.toNat + 1)).length = ps.length := by
          simp only [List.length_append, List.length_take, List.length_drop, List.length_singleton]; omega
        exact h12 _ v2 v3 6 v _ o10 .gone .gone .gone a2 s2 n _ (fun _ => DJ_set (xs := (ps.getD at1.toNat (0, [])).2.drop 1) hat hd fun e => by rw [e]; rfl) (by rw [hlp]; omega) (by omega) (fun p hp => by
          simp only [List.mem_append, List.mem_singleton] at hp
          rcases hp with (hp | rfl) | hp
          · exact hps p (List.mem_of_mem_take hp)
          · have := hps _ (yz10 hat (0, [])); simp only [List.length_drop]; omega
          · exact hps p (List.mem_of_mem_drop hp)) (by omega) (.inl ⟨rfl, rfl⟩) (by simp only [go_sem, yz0, Int.reduceLT, reduceLE, reduceToNat, reduceNeg, Nat.reduceLT, reduceLeDiff, reduceMul, reduceSub, reduceIte, reduceEqDiff, reduceAdd, reduceCtorEq]; try rfl)
      by_cases k2 : kd = 2
      · subst k2
        obtain ⟨A2, b, C2, rfl, hAk⟩ := rwp_split hat
        have hbr := A.row b.2 (by simp)
        have hbn : b.2 ≠ [] := fun e => by rw [e] at hbr; simp at hbr; omega
        have hbl : 0 < b.2.length := by omega
        have F0 := DJ_out hd hbn
        have F0a : ∀ p ∈ A2 ++ C2, p.2 = [] ∨ p.1 ≠ b.1 := F0
        simp only [beq_false_of_ne (show (2 : Int) ≠ 0 by omega), beq_false_of_ne (show (2 : Int) ≠ 1 by omega), Bz2, Bz1, Bz3, yzg, yz1, go_sem, yz0, Int.reduceLT, reduceLE, reduceToNat, reduceNeg, Nat.reduceLT, reduceLeDiff, reduceMul, reduceSub, reduceIte, reduceEqDiff, reduceAdd, reduceCtorEq]
        intro _ _ _ _ _ _ _ _ _
        simp only [beq_self_eq_true, Bz7, yzg, wpD_gh, go_sem, yz0, Int.reduceLT, reduceLE, reduceToNat, reduceNeg, Nat.reduceLT, reduceLeDiff, reduceMul, reduceSub, reduceIte, reduceEqDiff, reduceAdd, reduceCtorEq]
        intro _
        refine ⟨[.thaw 6 at1.toNat 901], gwp_thaw (n := b.1) rfl (rwp_get hAk.symm) (by simpa using hbn) rfl fun m1 => ?_⟩
        have hset : (woL b.1 (rwp (A2 ++ b :: C2))).set at1.toNat (AVal.own 901 m1) = rwp A2 ++ AVal.own 901 m1 :: rwp C2 := by rw [← hAk]; exact woL_set F0a
        have ho1 : (rwp A2 ++ AVal.own 901 m1 :: rwp C2).getD at1.toNat .any = .own 901 m1 := own_at hAk.symm
        have hol : (rwp A2 ++ AVal.own 901 m1 :: rwp C2).length = A2.length + (C2.length + 1) := by rw [List.length_append, List.length_cons, rwp_len, rwp_len]
        have hkl : at1.toNat < (rwp A2 ++ AVal.own 901 m1 :: rwp C2).length := by omega
        simp only [hset, woT, woO, woL_cons, woL_nil, woV_val, woV_own, wo_ptr, wo_o, woL_ints, wo_st, woO_row, woO_box, woO_gone, wo_any, gwp_nil, yzg, yz1, go_sem, yz0, Int.reduceLT, reduceLE, reduceToNat, reduceNeg, Nat.reduceLT, reduceLeDiff, reduceMul, reduceSub, reduceIte, reduceEqDiff, reduceAdd, reduceCtorEq]
        intro vs4 U4 hN4
        simp only [ho1, go_sem, yz0, Int.reduceLT, reduceLE, reduceToNat, reduceNeg, Nat.reduceLT, reduceLeDiff, reduceMul, reduceSub, reduceIte, reduceEqDiff, reduceAdd, reduceCtorEq]
        refine ⟨⟨e3, hkl⟩, hkl, ⟨⟨_, rfl, rfl⟩, _, rfl, rfl⟩, ?_⟩
        refine call_boxrowN (r := 5000) (q := 49) (cs0 := srcC code a2 s2) (k_among code a2 s2 [-1, n] hb (by omega) (by simp)) rfl rfl (by simp) (by decide) qCS (by simp only [yzs, yz18, and_true, Coe]; exact ⟨⟨0, _, _, rfl, rfl, rfl, rfl, rfl⟩, 1, _, _, rfl, rfl, rfl, rfl, rfl⟩) ⟨srcC code a2 0, .int .i64 n, ⟨a2, 0, n, rfl, by omega, by omega, rfl, by simp⟩, flat_srcC⟩ ?_
        rintro cs' x ⟨a3, s3, b3, rfl, g3, g4, rfl, g5⟩
        simp only [yzg, yz1, go_sem, yz0, Int.reduceLT, reduceLE, reduceToNat, reduceNeg, Nat.reduceLT, reduceLeDiff, reduceMul, reduceSub, reduceIte, reduceEqDiff, reduceAdd, reduceCtorEq]
        refine ⟨hbl, hbl, ?_⟩
        have ed : AVal.val (.int .i64 b3) :: List.drop 1 (ints b.2) = ints (b3 :: b.2.drop 1) := by simp [List.map_drop]
        rw [ed]
        exact h12b _ v2 v3 6 v m1 _ (AObj.wo b.1 o10) a3 s3 n A2 C2 b (b3 :: b.2.drop 1) hd (by omega) (by omega) (fun p hp => hps p (by simp only [List.mem_append, List.mem_cons] at hp ⊢; rcases hp with h | h <;> simp [h])) (by simp only [List.length_cons, List.length_drop]; omega) (by omega) (.inl ⟨rfl, rfl⟩) (by simp only [go_sem, yz0, Int.reduceLT, reduceLE, reduceToNat, reduceNeg, Nat.reduceLT, reduceLeDiff, reduceMul, reduceSub, reduceIte, reduceEqDiff, reduceAdd, reduceCtorEq]; try rfl)
      by_cases k3 : kd = 3
      · subst k3
        have h00 : 0 < ps.length := by omega
        simp only [beq_false_of_ne (show (3 : Int) ≠ 0 by omega), beq_false_of_ne (show (3 : Int) ≠ 1 by omega), Bz2, Bz1, Bz3, yzg, yz1, go_sem, yz0, Int.reduceLT, reduceLE, reduceToNat, reduceNeg, Nat.reduceLT, reduceLeDiff, reduceMul, reduceSub, reduceIte, reduceEqDiff, reduceAdd, reduceCtorEq]
        intro _ _ _ _ _ _ _ _ _
        simp only [beq_false_of_ne (show (3 : Int) ≠ 2 by omega), Bz7, yzg, wpD_gh, go_sem, yz0, Int.reduceLT, reduceLE, reduceToNat, reduceNeg, Nat.reduceLT, reduceLeDiff, reduceMul, reduceSub, reduceIte, reduceEqDiff, reduceAdd, reduceCtorEq]
        intro _
        refine ⟨[], ?_⟩
        simp only [beq_self_eq_true, Bzb, rwp_getD h00, gwp_nil, yzg, yz1, go_sem, yz0, Int.reduceLT, reduceLE, reduceToNat, reduceNeg, Nat.reduceLT, reduceLeDiff, reduceMul, reduceSub, reduceIte, reduceEqDiff, reduceAdd, reduceCtorEq]
        intro _ _ _ vs9 U9 hN9
        have hlw : (rwp ps).length = ps.length := rwp_len
        refine ⟨by omega, by omega, by omega, by omega, by omega, by omega, by omega, by rw [List.length_append, List.length_singleton]; omega, ?_⟩
        generalize hp0 : ps.getD 0 (0, []) = p0
        have hp0m : p0 ∈ ps := hp0 ▸ yz10 h00 (0, [])
        have e5 : rwp ps ++ [AVal.ro (some (some (p0.1 + 1))) 1 (ints p0.2)] ++ [AVal.ro (some (some (p0.1 + 1))) 1 (ints p0.2), AVal.ro (some (some (p0.1 + 1))) 1 (ints p0.2)] = rwp (ps ++ [p0] ++ [p0, p0]) := by simp only [rwp, List.map_append, List.map_cons, List.map_nil]
        rw [e5]
        have hl6 : (ps ++ [p0] ++ [p0, p0]).length = ps.length + 3 := by simp
        exact h12 _ v2 v3 6 (vs9 19 0) _ o10 .gone .gone .gone a2 s2 n (ps ++ [p0] ++ [p0, p0]) (fun h => absurd h (by omega)) (by omega) (by omega) (fun p hp => by
          simp only [List.mem_append, List.mem_cons, List.not_mem_nil, or_false] at hp
          rcases hp with (hp | rfl) | rfl | rfl
          · exact hps p hp
          · exact hps _ hp0m
          · exact hps _ hp0m
          · exact hps _ hp0m) (by omega) (.inl ⟨rfl, rfl⟩) (by simp only [go_sem, yz0, Int.reduceLT, reduceLE, reduceToNat, reduceNeg, Nat.reduceLT, reduceLeDiff, reduceMul, reduceSub, reduceIte, reduceEqDiff, reduceAdd, reduceCtorEq]; try rfl)
      by_cases k4 : kd = 4
      · subst k4
        simp only [beq_false_of_ne (show (4 : Int) ≠ 0 by omega), beq_false_of_ne (show (4 : Int) ≠ 1 by omega), Bz2, Bz1, Bz3, yzg, yz1, go_sem, yz0, Int.reduceLT, reduceLE, reduceToNat, reduceNeg, Nat.reduceLT, reduceLeDiff, reduceMul, reduceSub, reduceIte, reduceEqDiff, reduceAdd, reduceCtorEq]
        intro _ _ _ _ _ _ _ _ _
        simp only [beq_false_of_ne (show (4 : Int) ≠ 2 by omega), Bz7, yzg, wpD_gh, go_sem, yz0, Int.reduceLT, reduceLE, reduceToNat, reduceNeg, Nat.reduceLT, reduceLeDiff, reduceMul, reduceSub, reduceIte, reduceEqDiff, reduceAdd, reduceCtorEq]
        intro _
        refine ⟨[], ?_⟩
        simp only [beq_false_of_ne (show (4 : Int) ≠ 3 by omega), Bzb, Bzv, beq_self_eq_true, gwp_nil, yzg, yz1, go_sem, yz0, Int.reduceLT, reduceLE, reduceToNat, reduceNeg, Nat.reduceLT, reduceLeDiff, reduceMul, reduceSub, reduceIte, reduceEqDiff, reduceAdd, reduceCtorEq]
        intro _ _ _ _ _ _ vs9 U9 hN9
        exact h12 _ v2 v3 77 (vs9 0 0) _ o10 .gone .gone _ a2 s2 n [] (fun _ => by simp [DJ]) (by simp) (by omega) (by simp) (by omega) (.inr (.inr ⟨rfl, rfl⟩)) (by simp only [rwp_nil, go_sem, yz0, Int.reduceLT, reduceLE, reduceToNat, reduceNeg, Nat.reduceLT, reduceLeDiff, reduceMul, reduceSub, reduceIte, reduceEqDiff, reduceAdd, reduceCtorEq]; try rfl)
      simp only [beq_false_of_ne k0, beq_false_of_ne k1, Bz2, Bz1, Bz3, yzg, yz1, go_sem, yz0, Int.reduceLT, reduceLE, reduceToNat, reduceNeg, Nat.reduceLT, reduceLeDiff, reduceMul, reduceSub, reduceIte, reduceEqDiff, reduceAdd, reduceCtorEq]
      intro _ _ _ _ _ _ _ _ _
      simp only [beq_false_of_ne k2, Bz7, yzg, wpD_gh, go_sem, yz0, Int.reduceLT, reduceLE, reduceToNat, reduceNeg, Nat.reduceLT, reduceLeDiff, reduceMul, reduceSub, reduceIte, reduceEqDiff, reduceAdd, reduceCtorEq]
      intro _
      refine ⟨[], ?_⟩
      simp only [beq_false_of_ne k3, beq_false_of_ne k4, Bzb, Bzv, gwp_nil, yzg, yz1, go_sem, yz0, Int.reduceLT, reduceLE, reduceToNat, reduceNeg, Nat.reduceLT, reduceLeDiff, reduceMul, reduceSub, reduceIte, reduceEqDiff, reduceAdd, reduceCtorEq]
      intro _ _ _ _ _ _
      exact h12 _ v2 v3 6 v _ o10 .gone .gone .gone a2 s2 n ps (fun _ => hd) (by omega) (by omega) hps (by omega) (.inl ⟨rfl, rfl⟩) (by simp only [go_sem, yz0, Int.reduceLT, reduceLE, reduceToNat, reduceNeg, Nat.reduceLT, reduceLeDiff, reduceMul, reduceSub, reduceIte, reduceEqDiff, reduceAdd, reduceCtorEq]; try rfl)
    · simp only [rwp_len, yzg, yz1, go_sem, yz0, Int.reduceLT, reduceLE, reduceToNat, reduceNeg, Nat.reduceLT, reduceLeDiff, reduceMul, reduceSub, reduceIte, reduceEqDiff, reduceAdd, reduceCtorEq]
      intro vs U hN hM
      refine call_funB (k_pick code a s ps.length hb (by omega)) rfl qCS qCS ?_
      rintro cs' x ⟨a1, s1, at1, rfl, e1, e2, rfl, e3, e4⟩
      have hat : at1.toNat < ps.length := by omega
      simp only [Bz6l, yzg, yz1, go_sem, yz0, Int.reduceLT, reduceLE, reduceToNat, reduceNeg, Nat.reduceLT, reduceLeDiff, reduceMul, reduceSub, reduceIte, reduceEqDiff, reduceAdd, reduceCtorEq]
      intro vs1 U1 hN1
      refine call_funB (k_pick code a1 s1 24 hb (by omega)) rfl qCS qCS ?_
      rintro cs' x ⟨a2, s2, kd, rfl, f1, f2, rfl, f3, f4⟩
      have hps : ∀ p ∈ ps, p.2.length ≤ 10 := fun p hp => by have := (A.row p.2 (List.mem_map.2 ⟨p, hp, rfl⟩)).1; omega
      by_cases k0 : kd = 0
      · subst k0
        have w1 : IntKind.i64.wrap (n + 1) = n + 1 := w64 (by omega)
        simp only [Bz2, Bz1, w1, beq_self_eq_true, yzg, yz1, go_sem, yz0, Int.reduceLT, reduceLE, reduceToNat, reduceNeg, Nat.reduceLT, reduceLeDiff, reduceMul, reduceSub, reduceIte, reduceEqDiff, reduceAdd, reduceCtorEq]
        intro vs2 U2 hN2 vs3 U3 hN3
        refine ⟨⟨⟨_, rfl, rfl⟩, ⟨_, rfl, rfl⟩, ⟨_, rfl, rfl⟩, _, rfl, rfl⟩, ?_⟩
        refine call_boxrow (r := 5000) (q := 24) (k_among code a2 s2 [0, -1, n + 1, 11] hb (by omega) (by simp)) rfl rfl (by decide) qCS (by simp only [yzs, yz18, and_true, Coe]; exact ⟨⟨0, _, _, rfl, rfl, rfl, rfl, rfl⟩, 1, _, _, rfl, rfl, rfl, rfl, rfl⟩) ?_
        rintro cs' x ⟨a3, s3, b3, rfl, g3, g4, rfl, g5⟩
        have hb3 : -1 ≤ b3 ∧ b3 ≤ 11 := by simp at g5; omega
        simp only [go_sem, yz0, Int.reduceLT, reduceLE, reduceToNat, reduceNeg, Nat.reduceLT, reduceLeDiff, reduceMul, reduceSub, reduceIte, reduceEqDiff, reduceAdd, reduceCtorEq]
        exact h12 _ v2 v3 10 v o6 _ .gone .gone .gone a3 s3 b3 ps (fun _ => hd) (by omega) hb3 hps (by omega) (.inr (.inl ⟨rfl, rfl⟩)) (by simp only [go_sem, yz0, Int.reduceLT, reduceLE, reduceToNat, reduceNeg, Nat.reduceLT, reduceLeDiff, reduceMul, reduceSub, reduceIte, reduceEqDiff, reduceAdd, reduceCtorEq]; try rfl)
      by_cases k1 : kd = 1
      · subst k1
        simp only [beq_false_of_ne (show (1 : Int) ≠ 0 by omega), Bz2, Bz1, Bz3, rwp_getD hat, St.bound, List.take_length, beq_self_eq_true, yzg, yz1, go_sem, yz0, Int.reduceLT, reduceLE, reduceToNat, reduceNeg, Nat.reduceLT, reduceLeDiff, reduceMul, reduceSub, reduceIte, reduceEqDiff, reduceAdd, reduceCtorEq]
        intro _ _ _ _ _ _ vs4 U4 hN4
        have hlw : (rwp ps).length = ps.length := rwp_len
        have hrl := (A.row _ (List.mem_map.2 ⟨_, yz10 hat (0, []), rfl⟩)).1
        refine ⟨⟨e3, by omega⟩, by omega, ⟨by omega, Nat.le_refl _⟩, ⟨e3, by omega⟩, by omega, ?_⟩
        have ed : List.drop 1 (ints (ps.getD at1.toNat (0, [])).2) = ints ((ps.getD at1.toNat (0, [])).2.drop 1) := by simp only [List.map_drop]
        rw [ed, rwp_putN (p := ((ps.getD at1.toNat (0, [])).1, (ps.getD at1.toNat (0, [])).2.drop 1))]
        have hlp : (ps.take at1.toNat ++ [((ps.getD at1.toNat (0, [])).1, (ps.getD at1.toNat (0, [])).2.drop 1)] ++ ps.drop (at1.toNat + 1)).length = ps.length := by
          simp only [List.length_append, List.length_take, List.length_drop, List.length_singleton]; omega
        exact h12 _ v2 v3 10 v o6 _ .gone .gone .gone a2 s2 n _ (fun _ => DJ_set (xs := (ps.getD at1.toNat (0, [])).2.drop 1) hat hd fun e => by rw [e]; rfl) (by rw [hlp]; omega) (by omega) (fun p hp => by
          simp only [List.mem_append, List.mem_singleton] at hp
          rcases hp with (hp | rfl) | hp
          · exact hps p (List.mem_of_mem_take hp)
          · have := hps _ (yz10 hat (0, [])); simp only [List.length_drop]; omega
          · exact hps p (List.mem_of_mem_drop hp)) (by omega) (.inr (.inl ⟨rfl, rfl⟩)) (by simp only [go_sem, yz0, Int.reduceLT, reduceLE, reduceToNat, reduceNeg, Nat.reduceLT, reduceLeDiff, reduceMul, reduceSub, reduceIte, reduceEqDiff, reduceAdd, reduceCtorEq]; try rfl)
      by_cases k2 : kd = 2
      · subst k2
        obtain ⟨A2, b, C2, rfl, hAk⟩ := rwp_split hat
        have hbr := A.row b.2 (by simp)
        have hbn : b.2 ≠ [] := fun e => by rw [e] at hbr; simp at hbr; omega
        have hbl : 0 < b.2.length := by omega
        have F0 := DJ_out hd hbn
        have F0a : ∀ p ∈ A2 ++ C2, p.2 = [] ∨ p.1 ≠ b.1 := F0
        simp only [beq_false_of_ne (show (2 : Int) ≠ 0 by omega), beq_false_of_ne (show (2 : Int) ≠ 1 by omega), Bz2, Bz1, Bz3, yzg, yz1, go_sem, yz0, Int.reduceLT, reduceLE, reduceToNat, reduceNeg, Nat.reduceLT, reduceLeDiff, reduceMul, reduceSub, reduceIte, reduceEqDiff, reduceAdd, reduceCtorEq]
        intro _ _ _ _ _ _ _ _ _
        simp only [beq_self_eq_true, Bz7, yzg, wpD_gh, go_sem, yz0, Int.reduceLT, reduceLE, reduceToNat, reduceNeg, Nat.reduceLT, reduceLeDiff, reduceMul, reduceSub, reduceIte, reduceEqDiff, reduceAdd, reduceCtorEq]
        intro _
        refine ⟨[.thaw 10 at1.toNat 901], gwp_thaw (n := b.1) rfl (rwp_get hAk.symm) (by simpa using hbn) rfl fun m1 => ?_⟩
        have hset : (woL b.1 (rwp (A2 ++ b :: C2))).set at1.toNat (AVal.own 901 m1) = rwp A2 ++ AVal.own 901 m1 :: rwp C2 := by rw [← hAk]; exact woL_set F0a
        have ho1 : (rwp A2 ++ AVal.own 901 m1 :: rwp C2).getD at1.toNat .any = .own 901 m1 := own_at hAk.symm
        have hol : (rwp A2 ++ AVal.own 901 m1 :: rwp C2).length = A2.length + (C2.length + 1) := by rw [List.length_append, List.length_cons, rwp_len, rwp_len]
        have hkl : at1.toNat < (rwp A2 ++ AVal.own 901 m1 :: rwp C2).length := by omega
        simp only [hset, woT, woO, woL_cons, woL_nil, woV_val, woV_own, wo_ptr, wo_o, woL_ints, wo_st, woO_row, woO_box, woO_gone, wo_any, gwp_nil, yzg, yz1, go_sem, yz0, Int.reduceLT, reduceLE, reduceToNat, reduceNeg, Nat.reduceLT, reduceLeDiff, reduceMul, reduceSub, reduceIte, reduceEqDiff, reduceAdd, reduceCtorEq]
        intro vs4 U4 hN4
        simp only [ho1, go_sem, yz0, Int.reduceLT, reduceLE, reduceToNat, reduceNeg, Nat.reduceLT, reduceLeDiff, reduceMul, reduceSub, reduceIte, reduceEqDiff, reduceAdd, reduceCtorEq]
        refine ⟨⟨e3, hkl⟩, hkl, ⟨⟨_, rfl, rfl⟩, _, rfl, rfl⟩, ?_⟩
        refine call_boxrowN (r := 5000) (q := 49) (cs0 := srcC code a2 s2) (k_among code a2 s2 [-1, n] hb (by omega) (by simp)) rfl rfl (by simp) (by decide) qCS (by simp only [yzs, yz18, and_true, Coe]; exact ⟨⟨0, _, _, rfl, rfl, rfl, rfl, rfl⟩, 1, _, _, rfl, rfl, rfl, rfl, rfl⟩) ⟨srcC code a2 0, .int .i64 n, ⟨a2, 0, n, rfl, by omega, by omega, rfl, by simp⟩, flat_srcC⟩ ?_
        rintro cs' x ⟨a3, s3, b3, rfl, g3, g4, rfl, g5⟩
        simp only [yzg, yz1, go_sem, yz0, Int.reduceLT, reduceLE, reduceToNat, reduceNeg, Nat.reduceLT, reduceLeDiff, reduceMul, reduceSub, reduceIte, reduceEqDiff, reduceAdd, reduceCtorEq]
        refine ⟨hbl, hbl, ?_⟩
        have ed : AVal.val (.int .i64 b3) :: List.drop 1 (ints b.2) = ints (b3 :: b.2.drop 1) := by simp [List.map_drop]
        rw [ed]
        exact h12b _ v2 v3 10 v m1 (AObj.wo b.1 o6) _ a3 s3 n A2 C2 b (b3 :: b.2.drop 1) hd (by omega) (by omega) (fun p hp => hps p (by simp only [List.mem_append, List.mem_cons] at hp ⊢; rcases hp with h | h <;> simp [h])) (by simp only [List.length_cons, List.length_drop]; omega) (by omega) (.inr ⟨rfl, rfl⟩) (by simp only [go_sem, yz0, Int.reduceLT, reduceLE, reduceToNat, reduceNeg, Nat.reduceLT, reduceLeDiff, reduceMul, reduceSub, reduceIte, reduceEqDiff, reduceAdd, reduceCtorEq]; try rfl)
      by_cases k3 : kd = 3
      · subst k3
        have h00 : 0 < ps.length := by omega
        simp only [beq_false_of_ne (show (3 : Int) ≠ 0 by omega), beq_false_of_ne (show (3 : Int) ≠ 1 by omega), Bz2, Bz1, Bz3, yzg, yz1, go_sem, yz0, Int.reduceLT, reduceLE, reduceToNat, reduceNeg, Nat.reduceLT, reduceLeDiff, reduceMul, reduceSub, reduceIte, reduceEqDiff, reduceAdd, reduceCtorEq]
        intro _ _ _ _ _ _ _ _ _
        simp only [beq_false_of_ne (show (3 : Int) ≠ 2 by omega), Bz7, yzg, wpD_gh, go_sem, yz0, Int.reduceLT, reduceLE, reduceToNat, reduceNeg, Nat.reduceLT, reduceLeDiff, reduceMul, reduceSub, reduceIte, reduceEqDiff, reduceAdd, reduceCtorEq]
        intro _
        refine ⟨[], ?_⟩
        simp only [beq_self_eq_true, Bzb, rwp_getD h00, gwp_nil, yzg, yz1, go_sem, yz0, Int.reduceLT, reduceLE, reduceToNat, reduceNeg, Nat.reduceLT, reduceLeDiff, reduceMul, reduceSub, reduceIte, reduceEqDiff, reduceAdd, reduceCtorEq]
        intro _ _ _ vs9 U9 hN9
        have hlw : (rwp ps).length = ps.length := rwp_len
        refine ⟨by omega, by omega, by omega, by omega, by omega, by omega, by omega, by rw [List.length_append, List.length_singleton]; omega, ?_⟩
        generalize hp0 : ps.getD 0 (0, []) = p0
        have hp0m : p0 ∈ ps := hp0 ▸ yz10 h00 (0, [])
        have e5 : rwp ps ++ [AVal.ro (some (some (p0.1 + 1))) 1 (ints p0.2)] ++ [AVal.ro (some (some (p0.1 + 1))) 1 (ints p0.2), AVal.ro (some (some (p0.1 + 1))) 1 (ints p0.2)] = rwp (ps ++ [p0] ++ [p0, p0]) := by simp only [rwp, List.map_append, List.map_cons, List.map_nil]
        rw [e5]
        have hl6 : (ps ++ [p0] ++ [p0, p0]).length = ps.length + 3 := by simp
        exact h12 _ v2 v3 10 (vs9 19 0) o6 _ .gone .gone .gone a2 s2 n (ps ++ [p0] ++ [p0, p0]) (fun h => absurd h (by omega)) (by omega) (by omega) (fun p hp => by
          simp only [List.mem_append, List.mem_cons, List.not_mem_nil, or_false] at hp
          rcases hp with (hp | rfl) | rfl | rfl
          · exact hps p hp
          · exact hps _ hp0m
          · exact hps _ hp0m
          · exact hps _ hp0m) (by omega) (.inr (.inl ⟨rfl, rfl⟩)) (by simp only [go_sem, yz0, Int.reduceLT, reduceLE, reduceToNat, reduceNeg, Nat.reduceLT, reduceLeDiff, reduceMul, reduceSub, reduceIte, reduceEqDiff, reduceAdd, reduceCtorEq]; try rfl)
      by_cases k4 : kd = 4
      · subst k4
        simp only [beq_false_of_ne (show (4 : Int) ≠ 0 by omega), beq_false_of_ne (show (4 : Int) ≠ 1 by omega), Bz2, Bz1, Bz3, yzg, yz1, go_sem, yz0, Int.reduceLT, reduceLE, reduceToNat, reduceNeg, Nat.reduceLT, reduceLeDiff, reduceMul, reduceSub, reduceIte, reduceEqDiff, reduceAdd, reduceCtorEq]
        intro _ _ _ _ _ _ _ _ _
        simp only [beq_false_of_ne (show (4 : Int) ≠ 2 by omega), Bz7, yzg, wpD_gh, go_sem, yz0, Int.reduceLT, reduceLE, reduceToNat, reduceNeg, Nat.reduceLT, reduceLeDiff, reduceMul, reduceSub, reduceIte, reduceEqDiff, reduceAdd, reduceCtorEq]
        intro _
        refine ⟨[], ?_⟩
        simp only [beq_false_of_ne (show (4 : Int) ≠ 3 by omega), Bzb, Bzv, beq_self_eq_true, gwp_nil, yzg, yz1, go_sem, yz0, Int.reduceLT, reduceLE, reduceToNat, reduceNeg, Nat.reduceLT, reduceLeDiff, reduceMul, reduceSub, reduceIte, reduceEqDiff, reduceAdd, reduceCtorEq]
        intro _ _ _ _ _ _ vs9 U9 hN9
        exact h12 _ v2 v3 77 (vs9 0 0) o6 _ .gone .gone _ a2 s2 n [] (fun _ => by simp [DJ]) (by simp) (by omega) (by simp) (by omega) (.inr (.inr ⟨rfl, rfl⟩)) (by simp only [rwp_nil, go_sem, yz0, Int.reduceLT, reduceLE, reduceToNat, reduceNeg, Nat.reduceLT, reduceLeDiff, reduceMul, reduceSub, reduceIte, reduceEqDiff, reduceAdd, reduceCtorEq]; try rfl)
      simp only [beq_false_of_ne k0, beq_false_of_ne k1, Bz2, Bz1, Bz3, yzg, yz1, go_sem, yz0, Int.reduceLT, reduceLE, reduceToNat, reduceNeg, Nat.reduceLT, reduceLeDiff, reduceMul, reduceSub, reduceIte, reduceEqDiff, reduceAdd, reduceCtorEq]
      intro _ _ _ _ _ _ _ _ _
      simp only [beq_false_of_ne k2, Bz7, yzg, wpD_gh, go_sem, yz0, Int.reduceLT, reduceLE, reduceToNat, reduceNeg, Nat.reduceLT, reduceLeDiff, reduceMul, reduceSub, reduceIte, reduceEqDiff, reduceAdd, reduceCtorEq]
      intro _
      refine ⟨[], ?_⟩
      simp only [beq_false_of_ne k3, beq_false_of_ne k4, Bzb, Bzv, gwp_nil, yzg, yz1, go_sem, yz0, Int.reduceLT, reduceLE, reduceToNat, reduceNeg, Nat.reduceLT, reduceLeDiff, reduceMul, reduceSub, reduceIte, reduceEqDiff, reduceAdd, reduceCtorEq]
      intro _ _ _ _ _ _
      exact h12 _ v2 v3 10 v o6 _ .gone .gone .gone a2 s2 n ps (fun _ => hd) (by omega) (by omega) hps (by omega) (.inr (.inl ⟨rfl, rfl⟩)) (by simp only [go_sem, yz0, Int.reduceLT, reduceLE, reduceToNat, reduceNeg, Nat.reduceLT, reduceLeDiff, reduceMul, reduceSub, reduceIte, reduceEqDiff, reduceAdd, reduceCtorEq]; try rfl)
  simp only [Azc, Bzec, yzg, yz1, go_sem, yz0, Int.reduceLT, reduceLE, reduceToNat, reduceNeg, Nat.reduceLT, reduceLeDiff, reduceMul, reduceSub, reduceIte, reduceEqDiff, reduceAdd, reduceCtorEq]
  intro vs0 U0 hN0 vs1 U1 hN1
  refine call_con (r := 5000) (k_DrawnN code at_ seed 6 hb (by omega) (by omega)) rfl (by simp only [Bool.not_true, rowIs, boxIs, coe_argN, coe_argNs, coe_ro_o, yz18, yzs, coe_any, coe_val, coe_ro, yz17, yz15, coe_st, yz16, coe_rp, yz14, coe_clo, coe_own0, coe_ptr0, yz13, coeL_rws, coeL_rwn, L_hit, L_miss, L_nil, reduceEqDiff, ne_eq, reduceCtorEq, not_false_eq_true, true_and, and_true, and_self, exists_eq_left, exists_eq_right, List.mem_cons, List.not_mem_nil, or_false, AObj.row.injEq, AObj.box.injEq, exists_eq_left', exists_and_left, exists_eq, Nat.zero_lt_one, Nat.lt_add_one, List.map_cons, List.map_nil, AObj.ver, Nat.reduceLT, not_true_eq_false]) (by simp only [Bool.not_true, rowIs, boxIs, coe_argN, coe_argNs, coe_ro_o, yz18, yzs, coe_any, coe_val, coe_ro, yz17, yz15, coe_st, yz16, coe_rp, yz14, coe_clo, coe_own0, coe_ptr0, yz13, coeL_rws, coeL_rwn, L_hit, L_miss, L_nil, reduceEqDiff, ne_eq, reduceCtorEq, not_false_eq_true, true_and, and_true, and_self, exists_eq_left, exists_eq_right, List.mem_cons, List.not_mem_nil, or_false, AObj.row.injEq, AObj.box.injEq, exists_eq_left', exists_and_left, exists_eq, Nat.zero_lt_one, Nat.lt_add_one, List.map_cons, List.map_nil, AObj.ver, Nat.reduceLT, not_true_eq_false]) ?_
  rintro outs rows res ⟨q, qs, vq, a1, s1, A, hd, hq3, h1, h2, rfl, rfl, rfl⟩
  refine ⟨rfl, by simp, by rw [Option.getD_some, yzh]; simp only [go_sem, yz0, Int.reduceLT, reduceLE, reduceToNat, reduceNeg, Nat.reduceLT, reduceLeDiff, reduceMul, reduceSub, reduceIte, reduceEqDiff, reduceAdd, reduceCtorEq], ?_⟩
  rw [Option.getD_some, callHp_mr (by omega)]
  have hv0 : ∀ y, vs1 1 y ≠ 0 := fun y e => by
    have h := hN1.hp 5000
    simp only [AObj.uses, go_sem, yz0, Int.reduceLT, reduceLE, reduceToNat, reduceNeg, Nat.reduceLT, reduceLeDiff, reduceMul, reduceSub, reduceIte, reduceEqDiff, reduceAdd, reduceCtorEq] at h
    exact hN1.new 1 y (by rw [e]; exact h.1)
  simp only [renL_rwp, Bzeb, yzg, yz1, Nat.not_lt_zero, range1, yzw, yz11, ren_ro, rnNm_n, yz12, rnNm_o, rnNm_s, ren_st, yzz, yzo, yzf, yz4, yzu, yzt, yzp, yzn, yzr, yzc, yz9, yz8, yze, yzj, yzl, yz3, yz7, yzb, yzd, yzi, yzm, List.range_zero, yz6, yz5, yza, yzv, yzh, yzq, AVal.fresh, freshL, yz2, yzk, AObj.fresh, id, Option.isSome_some, or_true, true_or, go_sem, yz0, Int.reduceLT, reduceLE, reduceToNat, reduceNeg, Nat.reduceLT, reduceLeDiff, reduceMul, reduceSub, reduceIte, reduceEqDiff, reduceAdd, reduceCtorEq]
  intro vs2 U2 hN2
  clear hN2
  have hsi := fun l (h : L .gone l 5000 = .box 0 (srcC code at_ seed)) => sv_inj (hp := L .gone l) (r := 5000) h (fun x y e => (hN1.inj _ _ _ _ e).2) hv0
  have hs0 := fun l (h : L .gone l 5000 = .box 0 (srcC code at_ seed)) => (sv_m (s := vs1 1) h : sv (L .gone l) [5000] (vs1 1) 0 = 0)
  generalize hl0 : [(2, AObj.box (vs0 0 0) [iv 0, AVal.val (Value.slice none 0 0)]), (3, AObj.gone), (6, AObj.gone), (10, AObj.gone), (61, AObj.gone), (73, AObj.gone), (77, AObj.gone), (5000, AObj.box 0 (srcC code at_ seed)), (901, AObj.gone)] = l0
  have hi := hsi l0 (by rw [← hl0]; rfl)
  have h0 := hs0 l0 (by rw [← hl0]; rfl)
  generalize sv (L .gone l0) [5000] (vs1 1) = f at hi h0 ⊢
  rw [h0]
  have A0 : Aut q ((qs.map fun p => (f p.1, p.2)).map (·.2)) := by rw [List.map_map]; exact A
  have hd0 := hd.ren hi
  generalize (qs.map fun p => (f p.1, p.2)) = ps0 at A0 hd0 ⊢
  refine call_funB (k_one code a1 s1 8 hb (by omega)) rfl qCS qCS ?_
  rintro cs' x ⟨a2, s2, b2, rfl, g1, g2, rfl⟩
  simp only [Bzea, yzg, yz1, go_sem, yz0, Int.reduceLT, reduceLE, reduceToNat, reduceNeg, Nat.reduceLT, reduceLeDiff, reduceMul, reduceSub, reduceIte, reduceEqDiff, reduceAdd, reduceCtorEq]
  refine ⟨fun _ vs3 U3 hN3 => ?_, fun _ => ?_⟩
  · refine call_con (r := 5000) (k_DrawnN code a2 s2 10 hb (by omega) (by omega)) rfl (by simp only [Bool.not_true, rowIs, boxIs, coe_argN, coe_argNs, coe_ro_o, yz18, yzs, coe_any, coe_val, coe_ro, yz17, yz15, coe_st, yz16, coe_rp, yz14, coe_clo, coe_own0, coe_ptr0, yz13, coeL_rws, coeL_rwn, L_hit, L_miss, L_nil, reduceEqDiff, ne_eq, reduceCtorEq, not_false_eq_true, true_and, and_true, and_self, exists_eq_left, exists_eq_right, List.mem_cons, List.not_mem_nil, or_false, AObj.row.injEq, AObj.box.injEq, exists_eq_left', exists_and_left, exists_eq, Nat.zero_lt_one, Nat.lt_add_one, List.map_cons, List.map_nil, AObj.ver, Nat.reduceLT, not_true_eq_false]) (by simp only [Bool.not_true, rowIs, boxIs, coe_argN, coe_argNs, coe_ro_o, yz18, yzs, coe_any, coe_val, coe_ro, yz17, yz15, coe_st, yz16, coe_rp, yz14, coe_clo, coe_own0, coe_ptr0, yz13, coeL_rws, coeL_rwn, L_hit, L_miss, L_nil, reduceEqDiff, ne_eq, reduceCtorEq, not_false_eq_true, true_and, and_true, and_self, exists_eq_left, exists_eq_right, List.mem_cons, List.not_mem_nil, or_false, AObj.row.injEq, AObj.box.injEq, exists_eq_left', exists_and_left, exists_eq, Nat.zero_lt_one, Nat.lt_add_one, List.map_cons, List.map_nil, AObj.ver, Nat.reduceLT, not_true_eq_false]) ?_
    rintro outs rows res ⟨q', qs', vq', a3, s3, A', hd', hq', g3, g4, rfl, rfl, rfl⟩
    refine ⟨rfl, by simp, by rw [Option.getD_some, yzh]; simp only [go_sem, yz0, Int.reduceLT, reduceLE, reduceToNat, reduceNeg, Nat.reduceLT, reduceLeDiff, reduceMul, reduceSub, reduceIte, reduceEqDiff, reduceAdd, reduceCtorEq], ?_⟩
    rw [Option.getD_some, callHp_mr (by omega)]
    have hv1 : ∀ y, vs3 1 y ≠ 0 := fun y e => by
      have h := hN3.hp 5000
      simp only [AObj.uses, go_sem, yz0, Int.reduceLT, reduceLE, reduceToNat, reduceNeg, Nat.reduceLT, reduceLeDiff, reduceMul, reduceSub, reduceIte, reduceEqDiff, reduceAdd, reduceCtorEq] at h
      exact hN3.new 1 y (by rw [e]; exact h.1)
    simp only [renL_rwp, yzg, yz1, Nat.not_lt_zero, range1, yzw, yz11, ren_ro, rnNm_n, yz12, rnNm_o, rnNm_s, ren_st, yzz, yzo, yzf, yz4, yzu, yzt, yzp, yzn, yzr, yzc, yz9, yz8, yze, yzj, yzl, yz3, yz7, yzb, yzd, yzi, yzm, List.range_zero, yz6, yz5, yza, yzv, yzh, yzq, AVal.fresh, freshL, yz2, yzk, AObj.fresh, id, Option.isSome_some, or_true, true_or, go_sem, yz0, Int.reduceLT, reduceLE, reduceToNat, reduceNeg, Nat.reduceLT, reduceLeDiff, reduceMul, reduceSub, reduceIte, reduceEqDiff, reduceAdd, reduceCtorEq]
    have hsi := fun l (h : L .gone l 5000 = .box 0 (srcC code a2 s2)) => sv_inj (hp := L .gone l) (r := 5000) h (fun x y e => (hN3.inj _ _ _ _ e).2) hv1
    have hs0 := fun l (h : L .gone l 5000 = .box 0 (srcC code a2 s2)) => (sv_m (s := vs3 1) h : sv (L .gone l) [5000] (vs3 1) 0 = 0)
    generalize hl1 : [(2, AObj.box (vs0 0 0) [iv 0, AVal.val (Value.slice none 0 0)]), (3, AObj.box (vs1 2 0) [iv q, .own 6 (f vq)]), (6, AObj.row (f vq) 1 true (rwp ps0)), (10, AObj.gone), (61, AObj.gone), (73, AObj.gone), (77, AObj.gone), (5000, AObj.box 0 (srcC code a2 s2)), (901, AObj.gone)] = l1
    have hi1 := hsi l1 (by rw [← hl1]; rfl)
    have h01 := hs0 l1 (by rw [← hl1]; rfl)
    generalize sv (L .gone l1) [5000] (vs3 1) = f1 at hi1 h01 ⊢
    rw [h01]
    have A1 : Aut q' ((qs'.map fun p => (f1 p.1, p.2)).map (·.2)) := by rw [List.map_map]; exact A'
    have hd1 := hd'.ren hi1
    generalize (qs'.map fun p => (f1 p.1, p.2)) = ps1 at A1 hd1 ⊢
    exact h4 _ (vs0 0 0) (vs1 2 0) 10 (f1 vq') _ _ a3 s3 q' ps1 A1 hd1 (by omega) (.inr ⟨rfl, rfl⟩) (by simp only [← hl1, go_sem, yz0, Int.reduceLT, reduceLE, reduceToNat, reduceNeg, Nat.reduceLT, reduceLeDiff, reduceMul, reduceSub, reduceIte, reduceEqDiff, reduceAdd, reduceCtorEq]; try rfl)
  · exact h4 _ (vs0 0 0) (vs1 2 0) 6 (f vq) _ .gone a2 s2 q ps0 A0 hd0 (by omega) (.inl ⟨rfl, rfl⟩) (by simp only [go_sem, yz0, Int.reduceLT, reduceLE, reduceToNat, reduceNeg, Nat.reduceLT, reduceLeDiff, reduceMul, reduceSub, reduceIte, reduceEqDiff, reduceAdd, reduceCtorEq]; try rfl)
end Go.Ab
namespace Go.Ab
open Go.Proofs
def FRen (F : Int → List (Nat × List Int) → Prop) : Prop := ∀ n ps (f : Nat → Nat), (∀ x y, f x = f y → x = y) → F n ps → F n (ps.map fun p => (f p.1, p.2))
theorem New.box {vs : Nat → Nat → Nat} {U : Nat → Prop} {σ : St} {r v : Nat} {cs : List AVal} (h : New vs U σ) (hr : σ.hp r = .box v cs) (i y : Nat) : vs i y ≠ v := fun e => by
  have h1 := h.hp r
  rw [hr] at h1
  simp only [AObj.uses] at h1
  exact h.new i y (by rw [e]; exact h1.1)
theorem call_lo {P : Program} {F : Int → List (Nat × List Int) → Prop} (hF : FRen F) {σ : St} {g : FuncId} {As args : List AVal} {d : Nat} {s : Nat → Nat} {K : St → Prop} {r v : Nat} {code : List Int} {a s0 k : Int}
    (h : Con P g [.box 0 (srcC code a s0)] (.ptr 5000 0 0 :: args) true fun outs rows res => ∃ n ps v a' s', F n ps ∧ a ≤ a' ∧ a' ≤ a + k ∧ outs = [.box 0 (srcC code a' s')] ∧ rows = [.row v 1 true (rwp ps)] ∧ res = .st [iv n, .own 6000 v])
    (hr : σ.hp r = .box v (srcC code a s0)) (hs : ∀ x y, s x = s y → x = y) (hv : ∀ y, s y ≠ v) (hco : CoeL σ.hp [r] false args As) (hd : σ.hp d = .gone)
    (hk : ∀ n ps v' a' s', F n ps → a ≤ a' → a' ≤ a + k → K (St.put ⟨σ.tm, upd (upd σ.hp r (.box v (srcC code a' s'))) d (.row v' 1 true (rwp ps))⟩ (some d) (.st [iv n, .own d v']))) : wpCall P false σ g (.ptr r v 0 :: As) (some d) s K := by
  have hne : d ≠ r := fun e => by rw [e, hr] at hd; cases hd
  refine call_con (r := r) h hr (by simp only [Bool.not_true, rowIs, boxIs, coe_argN, coe_argNs, coe_ro_o, yz18, yzs, coe_any, coe_val, coe_ro, yz17, yz15, coe_st, yz16, coe_rp, yz14, coe_clo, coe_own0, coe_ptr0, yz13, coeL_rws, coeL_rwn, L_hit, L_miss, L_nil, reduceEqDiff, ne_eq, reduceCtorEq, not_false_eq_true, true_and, and_true, and_self, exists_eq_left, exists_eq_right, List.mem_cons, List.not_mem_nil, or_false, AObj.row.injEq, AObj.box.injEq, exists_eq_left', exists_and_left, exists_eq, Nat.zero_lt_one, Nat.lt_add_one, List.map_cons, List.map_nil, AObj.ver, Nat.reduceLT, not_true_eq_false]) (by rw [Bool.not_true, yzs, coe_ptr0, hr]; exact ⟨rfl, hco⟩) ?_
  rintro outs rows res ⟨n, ps, w, a', s', hf, h1, h2, rfl, rfl, rfl⟩
  refine ⟨rfl, by simp, by rw [Option.getD_some, yzh]; exact hd, ?_⟩
  rw [Option.getD_some, callHp_mr hne]
  have hi := sv_inj (hp := σ.hp) (r := r) hr hs hv
  have h0 : sv σ.hp [r] s 0 = v := sv_m hr
  simp only [yzp, yzn, renL_rwp, renL_flat _ flat_srcC, ren_st, yzf, yzo, yzw, List.length_singleton, yz3, h0]
  exact hk n _ _ a' s' (hF n ps _ hi hf) h1 h2
theorem call_lo0 {P : Program} {F : Int → List (Nat × List Int) → Prop} (hF : FRen F) {σ : St} {g : FuncId} {As args : List AVal} {d : Nat} {s : Nat → Nat} {K : St → Prop}
    (h : Con P g [] args true fun outs rows res => outs = [] ∧ ∃ n v ps, F n ps ∧ rows = [.row v 1 true (rwp ps)] ∧ res = .st [iv n, .own 6000 v])
    (hs : ∀ x y, s x = s y → x = y) (hco : CoeL σ.hp [] false args As) (hd : σ.hp d = .gone)
    (hk : ∀ n ps v', F n ps → K (St.put ⟨σ.tm, upd σ.hp d (.row v' 1 true (rwp ps))⟩ (some d) (.st [iv n, .own d v']))) : wpCall P false σ g As (some d) s K := by
  refine call_sh h hco (fun e => by cases e) ?_
  rintro outs rows res ⟨rfl, n, w, ps, hf, rfl, rfl⟩
  refine ⟨rfl, by simp, by rw [Option.getD_some, yzh]; exact hd, ?_⟩
  rw [Option.getD_some, yz5]
  simp only [yzn, renL_rwp, ren_st, yzf, yzo, yzw, List.length_singleton, yz3]
  exact hk n _ _ (hF n ps _ hs hf)
theorem call_lo2 {P : Program} {F : Int → List (Nat × List Int) → Prop} (hF : FRen F) {σ : St} {g : FuncId} {As args : List AVal} {d : Nat} {s : Nat → Nat} {K : St → Prop} {r v : Nat} {code : List Int} {a s0 k : Int}
    (h : Con P g [.box 0 (srcC code a s0)] (.ptr 5000 0 0 :: args) true fun outs rows res => ∃ n ps v w xs a' s', F n ps ∧ a ≤ a' ∧ a' ≤ a + k ∧ outs = [.box 0 (srcC code a' s')] ∧ rows = [.row v 1 true (rwp ps), .row w 1 true (ints xs)] ∧ res = .tup [.st [iv n, .own 6000 v], .own 6001 w])
    (hr : σ.hp r = .box v (srcC code a s0)) (hs : ∀ x y, s x = s y → x = y) (hv : ∀ y, s y ≠ v) (hco : CoeL σ.hp [r] false args As) (hd : σ.hp d = .gone) (hd2 : σ.hp (d + 1000) = .gone)
    (hk : ∀ n ps v' w' xs a' s', F n ps → a ≤ a' → a' ≤ a + k → K (St.put ⟨σ.tm, upd (upd (upd σ.hp r (.box v (srcC code a' s'))) d (.row v' 1 true (rwp ps))) (d + 1000) (.row w' 1 true (ints xs))⟩ (some d) (.tup [.st [iv n, .own d v'], .own (d + 1000) w']))) : wpCall P false σ g (.ptr r v 0 :: As) (some d) s K := by
  have hne : d ≠ r := fun e => by rw [e, hr] at hd; cases hd
  have hne2 : d + 1000 ≠ r := fun e => by rw [e, hr] at hd2; cases hd2
  refine call_con (r := r) h hr (by simp only [Bool.not_true, rowIs, boxIs, coe_argN, coe_argNs, coe_ro_o, yz18, yzs, coe_any, coe_val, coe_ro, yz17, yz15, coe_st, yz16, coe_rp, yz14, coe_clo, coe_own0, coe_ptr0, yz13, coeL_rws, coeL_rwn, L_hit, L_miss, L_nil, reduceEqDiff, ne_eq, reduceCtorEq, not_false_eq_true, true_and, and_true, and_self, exists_eq_left, exists_eq_right, List.mem_cons, List.not_mem_nil, or_false, AObj.row.injEq, AObj.box.injEq, exists_eq_left', exists_and_left, exists_eq, Nat.zero_lt_one, Nat.lt_add_one, List.map_cons, List.map_nil, AObj.ver, Nat.reduceLT, not_true_eq_false]) (by rw [Bool.not_true, yzs, coe_ptr0, hr]; exact ⟨rfl, hco⟩) ?_
  rintro outs rows res ⟨n, ps, w, w2, xs, a', s', hf, h1, h2, rfl, rfl, rfl⟩
  refine ⟨rfl, by simp, by rw [Option.getD_some, yzq]; exact ⟨hd, hd2⟩, ?_⟩
  rw [Option.getD_some, callHp_mrr hne hne2]
  have hi := sv_inj (hp := σ.hp) (r := r) hr hs hv
  have h0 : sv σ.hp [r] s 0 = v := sv_m hr
  have e2 : ([AObj.row w 1 true (rwp ps), AObj.row w2 1 true (ints xs)] : List AObj).length = 2 := rfl
  simp only [yzp, yzn, renL_rwp, renL_flat _ flat_srcC, ren_st, yzz, yzf, yzo, yz4, yzw, e2, yz3, yz7, h0]
  exact hk n _ _ _ xs a' s' (hF n ps _ hi hf) h1 h2
def FAut (m : Int) (n : Int) (ps : List (Nat × List Int)) : Prop := Aut n (ps.map (·.2)) ∧ DJ ps ∧ n ≤ m
def FLo (n : Int) (ps : List (Nat × List Int)) : Prop := (ps.length ≤ 3 → DJ ps) ∧ ps.length ≤ 10 ∧ -1 ≤ n ∧ n ≤ 11 ∧ ∀ p ∈ ps, p.2.length ≤ 10
theorem map_named {ps : List (Nat × List Int)} {f : Nat → Nat} : (ps.map fun p => (f p.1, p.2)).map (·.2) = ps.map (·.2) := by rw [List.map_map]; rfl
theorem FAut_ren (m : Int) : FRen (FAut m) := by
  rintro n ps f hf ⟨h1, h2, h3⟩
  exact ⟨by rw [map_named]; exact h1, h2.ren hf, h3⟩
theorem FLo_ren : FRen FLo := by
  rintro n ps f hf ⟨h1, h2, h3, h4, h5⟩
  refine ⟨fun h => (h1 (by simpa using h)).ren hf, by simpa using h2, h3, h4, fun p hp => ?_⟩
  obtain ⟨q, hq, rfl⟩ := List.mem_map.1 hp
  exact h5 q hq
theorem FAut.lo {m n : Int} {ps : List (Nat × List Int)} (h : FAut m n ps) : FLo n ps := by
  obtain ⟨A, hd, hm⟩ := h
  have n1 := A.n1
  have n2 := A.n2
  have l2 := A.l2
  rw [List.length_map] at l2
  exact ⟨fun _ => hd, by omega, by omega, by omega, fun p hp => by have := (A.row p.2 (List.mem_map.2 ⟨p, hp, rfl⟩)).1; omega⟩
theorem DJ_refrozen {A2 C2 : List (Nat × List Int)} {b : Nat × List Int} {m : Nat} {cur : List Int} (hd : DJ (A2 ++ b :: C2))
    (hf : ∀ n k'' cs'', AVal.ro (some (some (n + 1))) k'' cs'' ∈ rwp A2 ++ AVal.own 901 m :: rwp C2 → cs'' ≠ [] → n ≠ m) : DJ (A2 ++ (m, cur) :: C2) := DJ_in hd fun p hp => by
  by_cases e : p.2 = []
  · exact .inl e
  · refine .inr (hf p.1 1 (ints p.2) ?_ (by simpa using e))
    rcases List.mem_append.1 hp with h | h
    · exact List.mem_append.2 (.inl (List.mem_map.2 ⟨p, h, rfl⟩))
    · exact List.mem_append.2 (.inr (List.mem_cons.2 (.inr (List.mem_map.2 ⟨p, h, rfl⟩))))
theorem Aut_put {n : Int} {A2 C2 : List (Nat × List Int)} {b : Nat × List Int} {u : Nat} {cur : List Int} (A : Aut n ((A2 ++ b :: C2).map (·.2))) (hl : cur.length = b.2.length) (hm : ∀ x ∈ cur, 0 ≤ x ∧ x < n) : Aut n ((A2 ++ (u, cur) :: C2).map (·.2)) := by
  have l1 := A.l1
  have l2 := A.l2
  have hbr := A.row b.2 (by simp)
  refine ⟨A.n1, A.n2, by rw [List.length_map] at l1 ⊢; simpa using l1, by rw [List.length_map] at l2 ⊢; simpa using l2, fun row hr => ?_⟩
  rw [List.map_append, List.map_cons, List.mem_append, List.mem_cons] at hr
  rcases hr with h | h | h
  · exact A.row row (by rw [List.map_append]; exact List.mem_append.2 (.inl h))
  · rw [h]; exact ⟨by dsimp only; omega, hm⟩
  · exact A.row row (by rw [List.map_append, List.map_cons]; exact List.mem_append.2 (.inr (List.mem_cons_of_mem _ h)))
theorem k_l02Drawn (code : List Int) (at_ seed : Int) (hb : ∀ x ∈ code, 0 ≤ x ∧ x ≤ 255) (ha : 0 ≤ at_ ∧ at_ ≤ 10000) :
    Con Try.prog nz3g [.box 0 (srcC code at_ seed)] [.ptr 5000 0 0] true fun outs rows res => ∃ n ps v a' s', FLo n ps ∧ at_ ≤ a' ∧ a' ≤ at_ + 5000 ∧ outs = [.box 0 (srcC code a' s')] ∧ rows = [.row v 1 true (rwp ps)] ∧ res = .st [iv n, .own 6000 v] := by
  refine con_sh mixed czh0 rfl (by simp) ?_
  generalize hQ : finQ _ = Q
  simp only [Aza, Bzbg, yzg, yz1, go_sem, yz0, Int.reduceLT, reduceLE, reduceToNat, reduceNeg, Nat.reduceLT, reduceLeDiff, reduceMul, reduceSub, reduceIte, reduceEqDiff, reduceAdd, reduceCtorEq]
  intro vs0 U0 hN0 vs1 U1 hN1
  refine call_funB (k_pick code at_ seed 6 hb (by omega)) rfl qCS qCS ?_
  rintro cs' x ⟨a1, s1, b1, rfl, g1, g2, rfl, g3, g4⟩
  by_cases k0 : b1 = 0
  · subst k0
    simp only [Bzt, Bzs, beq_self_eq_true, yzg, yz1, go_sem, yz0, Int.reduceLT, reduceLE, reduceToNat, reduceNeg, Nat.reduceLT, reduceLeDiff, reduceMul, reduceSub, reduceIte, reduceEqDiff, reduceAdd, reduceCtorEq]
    intro vs2 U2 hN2 vs3 U3 hN3
    refine call_funB (k_pick code a1 s1 6 hb (by omega)) rfl qCS qCS ?_
    rintro cs' x ⟨a2, s2, b2, rfl, g5, g6, rfl, g7, g8⟩
    have w1 : IntKind.i64.wrap (2 + b2) = 2 + b2 := w64 (by omega)
    simp only [w1, yzg, yz1, go_sem, yz0, Int.reduceLT, reduceLE, reduceToNat, reduceNeg, Nat.reduceLT, reduceLeDiff, reduceMul, reduceSub, reduceIte, reduceEqDiff, reduceAdd, reduceCtorEq]
    refine call_lo0 (FAut_ren 10) (Con.mono (k_l02SlowN (2 + b2) (by omega)) ?_) (fun x y e => (hN3.inj _ _ _ _ e).2) qCS qGN ?_
    · rintro outs rows res ⟨h1, v, ps, h2, h3, h4, h5⟩
      exact ⟨h1, _, v, ps, ⟨h2, h3, by omega⟩, h4, h5⟩
    intro n ps v' hf
    simp only [← hQ, Aza, yzg, yz1, go_sem, yz0, Int.reduceLT, reduceLE, reduceToNat, reduceNeg, Nat.reduceLT, reduceLeDiff, reduceMul, reduceSub, reduceIte, reduceEqDiff, reduceAdd, reduceCtorEq]
    refine ⟨[14], by simp, by simp, by simp, ?_⟩
    simp only [range1, List.length_singleton, renL_rwp, Nat.not_lt_zero, range1, yzw, yz11, ren_ro, rnNm_n, yz12, rnNm_o, rnNm_s, ren_st, yzz, yzo, yzf, yz4, yzu, yzt, yzp, yzn, yzr, yzc, yz9, yz8, yze, yzj, yzl, yz3, yz7, yzb, yzd, yzi, yzm, List.range_zero, yz6, yz5, yza, yzv, yzh, yzq, AVal.fresh, freshL, yz2, yzk, AObj.fresh, id, Option.isSome_some, or_true, true_or, go_sem, yz0, Int.reduceLT, reduceLE, reduceToNat, reduceNeg, Nat.reduceLT, reduceLeDiff, reduceMul, reduceSub, reduceIte, reduceEqDiff, reduceAdd, reduceCtorEq]
    exact ⟨n, ps, v', a2, s2, hf.lo, by omega, by omega, rfl, by simp, rfl⟩
  by_cases k1 : b1 = 1
  · subst k1
    simp only [beq_false_of_ne (show (1 : Int) ≠ 0 by omega), Bzt, Bzs, Bz2b, beq_self_eq_true, yzg, yz1, go_sem, yz0, Int.reduceLT, reduceLE, reduceToNat, reduceNeg, Nat.reduceLT, reduceLeDiff, reduceMul, reduceSub, reduceIte, reduceEqDiff, reduceAdd, reduceCtorEq]
    intro vs2 U2 hN2 vs3 U3 hN3 vs4 U4 hN4
    refine call_lo2 (k := 2000) (FAut_ren 10) (Con.mono (k_l01Alike code a1 s1 hb (by omega)) ?_) rfl (fun x y e => (hN4.inj _ _ _ _ e).2) (hN4.box (r := 5000) rfl 1) qCS qGN qGN ?_
    · rintro outs rows res ⟨n, ps, v, w, xs, a', s', h1, h2, h3, h4, h5, h6⟩
      exact ⟨n, ps, v, w, xs, a', s', ⟨h1, h2, by omega⟩, h4, h5, h6⟩
    intro n ps v' w' xs a2 s2 hf h1 h2
    simp only [yzg, yz1, go_sem, yz0, Int.reduceLT, reduceLE, reduceToNat, reduceNeg, Nat.reduceLT, reduceLeDiff, reduceMul, reduceSub, reduceIte, reduceEqDiff, reduceAdd, reduceCtorEq]
    simp only [Bzbc, ← hQ, Aza, yzg, yz1, go_sem, yz0, Int.reduceLT, reduceLE, reduceToNat, reduceNeg, Nat.reduceLT, reduceLeDiff, reduceMul, reduceSub, reduceIte, reduceEqDiff, reduceAdd, reduceCtorEq]
    intro vs5 U5 hN5
    refine ⟨[19], by simp, by simp, by simp, ?_⟩
    simp only [range1, List.length_singleton, renL_rwp, Nat.not_lt_zero, range1, yzw, yz11, ren_ro, rnNm_n, yz12, rnNm_o, rnNm_s, ren_st, yzz, yzo, yzf, yz4, yzu, yzt, yzp, yzn, yzr, yzc, yz9, yz8, yze, yzj, yzl, yz3, yz7, yzb, yzd, yzi, yzm, List.range_zero, yz6, yz5, yza, yzv, yzh, yzq, AVal.fresh, freshL, yz2, yzk, AObj.fresh, id, Option.isSome_some, or_true, true_or, go_sem, yz0, Int.reduceLT, reduceLE, reduceToNat, reduceNeg, Nat.reduceLT, reduceLeDiff, reduceMul, reduceSub, reduceIte, reduceEqDiff, reduceAdd, reduceCtorEq]
    exact ⟨n, ps, v', a2, s2, hf.lo, by omega, by omega, rfl, by simp, rfl⟩
  by_cases k2 : b1 = 2
  · subst k2
    simp only [beq_false_of_ne (show (2 : Int) ≠ 0 by omega), beq_false_of_ne (show (2 : Int) ≠ 1 by omega), Bzt, Bzs, Bz2b, Bz5k, beq_self_eq_true, yzg, yz1, go_sem, yz0, Int.reduceLT, reduceLE, reduceToNat, reduceNeg, Nat.reduceLT, reduceLeDiff, reduceMul, reduceSub, reduceIte, reduceEqDiff, reduceAdd, reduceCtorEq]
    intro vs2 U2 hN2 vs3 U3 hN3 vs4 U4 hN4 vs5 U5 hN5
    refine call_lo (k := 3000) FLo_ren (Con.mono (k_l01Bent code a1 s1 hb (by omega)) ?_) rfl (fun x y e => (hN5.inj _ _ _ _ e).2) (hN5.box (r := 5000) rfl 1) qCS qGN ?_
    · rintro outs rows res ⟨n, ps, v, a', s', h1, h2, h3, h4, h5, h6⟩
      exact ⟨n, ps, v, a', s', ⟨h1, h2, h3, h4, h5⟩, h6⟩
    intro n ps v' a2 s2 hf h1 h2
    simp only [← hQ, Aza, yzg, yz1, go_sem, yz0, Int.reduceLT, reduceLE, reduceToNat, reduceNeg, Nat.reduceLT, reduceLeDiff, reduceMul, reduceSub, reduceIte, reduceEqDiff, reduceAdd, reduceCtorEq]
    refine ⟨[26], by simp, by simp, by simp, ?_⟩
    simp only [range1, List.length_singleton, renL_rwp, Nat.not_lt_zero, range1, yzw, yz11, ren_ro, rnNm_n, yz12, rnNm_o, rnNm_s, ren_st, yzz, yzo, yzf, yz4, yzu, yzt, yzp, yzn, yzr, yzc, yz9, yz8, yze, yzj, yzl, yz3, yz7, yzb, yzd, yzi, yzm, List.range_zero, yz6, yz5, yza, yzv, yzh, yzq, AVal.fresh, freshL, yz2, yzk, AObj.fresh, id, Option.isSome_some, or_true, true_or, go_sem, yz0, Int.reduceLT, reduceLE, reduceToNat, reduceNeg, Nat.reduceLT, reduceLeDiff, reduceMul, reduceSub, reduceIte, reduceEqDiff, reduceAdd, reduceCtorEq]
    exact ⟨n, ps, v', a2, s2, hf, by omega, by omega, rfl, by simp, rfl⟩
  simp only [beq_false_of_ne k0, beq_false_of_ne k1, beq_false_of_ne k2, Bzt, Bzs, Bz2b, Bz5k, Bzbf, yzg, yz1, go_sem, yz0, Int.reduceLT, reduceLE, reduceToNat, reduceNeg, Nat.reduceLT, reduceLeDiff, reduceMul, reduceSub, reduceIte, reduceEqDiff, reduceAdd, reduceCtorEq]
  intro vs2 U2 hN2 vs3 U3 hN3 vs4 U4 hN4 vs5 U5 hN5
  refine call_lo (k := 1000) (FAut_ren 6) (Con.mono (k_DrawnN code a1 s1 6 hb (by omega) (by omega)) ?_) rfl (fun x y e => (hN5.inj _ _ _ _ e).2) (hN5.box (r := 5000) rfl 1) qCS qGN ?_
  · rintro outs rows res ⟨n, ps, v, a', s', h1, h2, h3, h4, h5, h6⟩
    exact ⟨n, ps, v, a', s', ⟨h1, h2, h3⟩, h4, h5, h6⟩
  intro n ps v' a2 s2 hf h1 h2
  simp only [Bzbe, yzg, yz1, go_sem, yz0, Int.reduceLT, reduceLE, reduceToNat, reduceNeg, Nat.reduceLT, reduceLeDiff, reduceMul, reduceSub, reduceIte, reduceEqDiff, reduceAdd, reduceCtorEq]
  intro vs6 U6 hN6
  refine call_funB (k_one code a2 s2 2 hb (by omega)) rfl qCS qCS ?_
  rintro cs' x ⟨a3, s3, b3, rfl, g5, g6, rfl⟩
  obtain ⟨A, hdj, hn6⟩ := hf
  have l1 := A.l1
  have l2 := A.l2
  have n1 := A.n1
  have n2 := A.n2
  rw [List.length_map] at l1 l2
  have hend : ∀ (σ : St) (v2 v5 : Nat) (ps : List (Nat × List Int)) (a s : Int), FLo n ps → at_ ≤ a ∧ a ≤ at_ + 5000 →
      σ.keep [2, 5] [2, 3, 5, 14, 19, 26, 28, 1019, 5000, 901] = ⟨L .any [(2, .ptr 2 v2 0), (5, .ptr 5 v5 0)],
        L .gone [(2, .box v2 [iv 0, .val (.slice none 0 0)]), (3, .gone), (5, .box v5 [iv n, .own 28 v']), (14, .gone), (19, .gone), (26, .gone), (28, .row v' 1 true (rwp ps)), (1019, .gone), (5000, .box 0 (srcC code a s)), (901, .gone)]⟩ →
      wpD Try.prog Bz2c Q σ := by
    intro σ v2 v5 ps a s hf ha' hS
    unfold Bz2c
    rw [yzg, hS]
    simp only [wpD_gh]
    intro _
    refine ⟨[], ?_⟩
    simp only [gwp_nil, yzg, yz1, go_sem, yz0, Int.reduceLT, reduceLE, reduceToNat, reduceNeg, Nat.reduceLT, reduceLeDiff, reduceMul, reduceSub, reduceIte, reduceEqDiff, reduceAdd, reduceCtorEq]
    intro vs U hN
    simp only [← hQ, Aza, go_sem, yz0, Int.reduceLT, reduceLE, reduceToNat, reduceNeg, Nat.reduceLT, reduceLeDiff, reduceMul, reduceSub, reduceIte, reduceEqDiff, reduceAdd, reduceCtorEq]
    refine ⟨[28], by simp, by simp, by simp, ?_⟩
    simp only [range1, List.length_singleton, renL_rwp, Nat.not_lt_zero, range1, yzw, yz11, ren_ro, rnNm_n, yz12, rnNm_o, rnNm_s, ren_st, yzz, yzo, yzf, yz4, yzu, yzt, yzp, yzn, yzr, yzc, yz9, yz8, yze, yzj, yzl, yz3, yz7, yzb, yzd, yzi, yzm, List.range_zero, yz6, yz5, yza, yzv, yzh, yzq, AVal.fresh, freshL, yz2, yzk, AObj.fresh, id, Option.isSome_some, or_true, true_or, go_sem, yz0, Int.reduceLT, reduceLE, reduceToNat, reduceNeg, Nat.reduceLT, reduceLeDiff, reduceMul, reduceSub, reduceIte, reduceEqDiff, reduceAdd, reduceCtorEq]
    exact ⟨n, ps, v', a, s, hf, ha'.1, ha'.2, rfl, by simp, rfl⟩
  cases b3 with
  | false =>
    simp only [Bz5l, yzg, yz1, go_sem, yz0, Int.reduceLT, reduceLE, reduceToNat, reduceNeg, Nat.reduceLT, reduceLeDiff, reduceMul, reduceSub, reduceIte, reduceEqDiff, reduceAdd, reduceCtorEq]
    exact hend _ (vs0 0 0) (vs5 2 0) ps a3 s3 (FAut.lo ⟨A, hdj, hn6⟩) (by omega) (by simp only [go_sem, yz0, Int.reduceLT, reduceLE, reduceToNat, reduceNeg, Nat.reduceLT, reduceLeDiff, reduceMul, reduceSub, reduceIte, reduceEqDiff, reduceAdd, reduceCtorEq]; try rfl)
  | true =>
    simp only [Bz5l, rwp_len, yzg, yz1, go_sem, yz0, Int.reduceLT, reduceLE, reduceToNat, reduceNeg, Nat.reduceLT, reduceLeDiff, reduceMul, reduceSub, reduceIte, reduceEqDiff, reduceAdd, reduceCtorEq]
    intro vs7 U7 hN7 hM7
    refine call_funB (k_pick code a3 s3 ps.length hb (by omega)) rfl qCS qCS ?_
    rintro cs' x ⟨a4, s4, x0, rfl, g7, g8, rfl, g9, g10⟩
    have hat : x0.toNat < ps.length := by omega
    obtain ⟨A2, b, C2, rfl, hAk⟩ := rwp_split hat
    have hbr := A.row b.2 (by simp)
    have hbn : b.2 ≠ [] := fun e => by rw [e] at hbr; simp at hbr; omega
    have F0a := DJ_out hdj hbn
    simp only [Bzbd, yzg, wpD_gh, go_sem, yz0, Int.reduceLT, reduceLE, reduceToNat, reduceNeg, Nat.reduceLT, reduceLeDiff, reduceMul, reduceSub, reduceIte, reduceEqDiff, reduceAdd, reduceCtorEq]
    intro _
    refine ⟨[.thaw 28 x0.toNat 901], gwp_thaw (n := b.1) rfl (rwp_get hAk.symm) (by simpa using hbn) rfl fun m1 => ?_⟩
    have hset : (woL b.1 (rwp (A2 ++ b :: C2))).set x0.toNat (AVal.own 901 m1) = rwp A2 ++ AVal.own 901 m1 :: rwp C2 := by rw [← hAk]; exact woL_set F0a
    have ho1 : (rwp A2 ++ AVal.own 901 m1 :: rwp C2).getD x0.toNat .any = .own 901 m1 := own_at hAk.symm
    have hol : (rwp A2 ++ AVal.own 901 m1 :: rwp C2).length = A2.length + (C2.length + 1) := by rw [List.length_append, List.length_cons, rwp_len, rwp_len]
    have hkl : x0.toNat < (rwp A2 ++ AVal.own 901 m1 :: rwp C2).length := by omega
    simp only [hset, woT, woO, woL_cons, woL_nil, woV_val, woV_own, wo_ptr, wo_o, woL_ints, wo_st, woO_row, woO_box, woO_gone, wo_any, gwp_nil, yzg, yz1, go_sem, yz0, Int.reduceLT, reduceLE, reduceToNat, reduceNeg, Nat.reduceLT, reduceLeDiff, reduceMul, reduceSub, reduceIte, reduceEqDiff, reduceAdd, reduceCtorEq]
    intro vs8 U8 hN8
    simp only [ho1, go_sem, yz0, Int.reduceLT, reduceLE, reduceToNat, reduceNeg, Nat.reduceLT, reduceLeDiff, reduceMul, reduceSub, reduceIte, reduceEqDiff, reduceAdd, reduceCtorEq]
    refine ⟨⟨g9, hkl⟩, hkl, ?_⟩
    refine call_funBN (k_pick code a4 s4 n hb (by omega)) rfl (by simp) qCS qCS ⟨srcC code a4 0, .int .i64 0, ⟨a4, 0, 0, rfl, by omega, by omega, rfl, by omega, .inr rfl⟩, flat_srcC⟩ ?_
    rintro cs' x ⟨a5, s5, y1, rfl, p1, p2, rfl, p3, p4⟩
    have hy1 : y1.toNat < b.2.length := by omega
    simp only [ho1, yzg, yz1, go_sem, yz0, Int.reduceLT, reduceLE, reduceToNat, reduceNeg, Nat.reduceLT, reduceLeDiff, reduceMul, reduceSub, reduceIte, reduceEqDiff, reduceAdd, reduceCtorEq]
    refine ⟨⟨g9, hkl⟩, hkl, ?_⟩
    refine call_funBN (k_pick code a5 s5 n hb (by omega)) rfl (by simp) qCS qCS ⟨srcC code a5 0, .int .i64 0, ⟨a5, 0, 0, rfl, by omega, by omega, rfl, by omega, .inr rfl⟩, flat_srcC⟩ ?_
    rintro cs' x ⟨a6, s6, y2, rfl, p5, p6, rfl, p7, p8⟩
    have hy2 : y2.toNat < b.2.length := by omega
    simp only [yzx hy2, yzg, yz1, go_sem, yz0, Int.reduceLT, reduceLE, reduceToNat, reduceNeg, Nat.reduceLT, reduceLeDiff, reduceMul, reduceSub, reduceIte, reduceEqDiff, reduceAdd, reduceCtorEq]
    refine ⟨⟨p7, hy2⟩, hy2, ⟨p3, hy1⟩, hy1, ?_⟩
    have hcl := lput_len (xs := b.2) (v := b.2.getD y2.toNat 0) hy1
    have hcm := lput_mem (xs := b.2) (i := y1.toNat) (v := b.2.getD y2.toNat 0) (Q := fun z => 0 ≤ z ∧ z < n) hbr.2 (hbr.2 _ (yz10 hy2 0))
    simp only [ints_put]
    generalize hcu : b.2.take y1.toNat ++ [b.2.getD y2.toNat 0] ++ b.2.drop (y1.toNat + 1) = cur at hcl hcm ⊢
    simp only [Bz2c, yzg, wpD_gh, go_sem, yz0, Int.reduceLT, reduceLE, reduceToNat, reduceNeg, Nat.reduceLT, reduceLeDiff, reduceMul, reduceSub, reduceIte, reduceEqDiff, reduceAdd, reduceCtorEq]
    intro hD
    refine ⟨[.rf 28 x0.toNat 901], gwp_rf (k := 1) (nn := true) rfl (own_get hAk.symm) (by decide) rfl fun hf => ?_⟩
    have D1 := DJ_refrozen hdj hf (cur := cur)
    have A1 := Aut_put A (u := m1) hcl hcm
    have hset4 : ∀ X : AVal, (rwp A2 ++ AVal.own 901 m1 :: rwp C2).set x0.toNat X = rwp A2 ++ X :: rwp C2 := fun X => by
      rw [← hAk, List.set_append_right _ _ (by rw [rwp_len]; exact Nat.le_refl _), rwp_len, Nat.sub_self]; rfl
    simp only [hset4, frNm_t, rwp_cat, gwp_nil, yzg, yz1, go_sem, yz0, Int.reduceLT, reduceLE, reduceToNat, reduceNeg, Nat.reduceLT, reduceLeDiff, reduceMul, reduceSub, reduceIte, reduceEqDiff, reduceAdd, reduceCtorEq]
    intro vs9 U9 hN9
    simp only [← hQ, Aza, go_sem, yz0, Int.reduceLT, reduceLE, reduceToNat, reduceNeg, Nat.reduceLT, reduceLeDiff, reduceMul, reduceSub, reduceIte, reduceEqDiff, reduceAdd, reduceCtorEq]
    refine ⟨[28], by simp, by simp, by simp, ?_⟩
    simp only [range1, List.length_singleton, renL_rwp, Nat.not_lt_zero, range1, yzw, yz11, ren_ro, rnNm_n, yz12, rnNm_o, rnNm_s, ren_st, yzz, yzo, yzf, yz4, yzu, yzt, yzp, yzn, yzr, yzc, yz9, yz8, yze, yzj, yzl, yz3, yz7, yzb, yzd, yzi, yzm, List.range_zero, yz6, yz5, yza, yzv, yzh, yzq, AVal.fresh, freshL, yz2, yzk, AObj.fresh, id, Option.isSome_some, or_true, true_or, go_sem, yz0, Int.reduceLT, reduceLE, reduceToNat, reduceNeg, Nat.reduceLT, reduceLeDiff, reduceMul, reduceSub, reduceIte, reduceEqDiff, reduceAdd, reduceCtorEq]
    exact ⟨n, A2 ++ (m1, cur) :: C2, v', a6, s6, FAut.lo ⟨A1, D1, hn6⟩, by omega, by omega, rfl, by simp, rfl⟩
theorem k_l03Linked (code : List Int) (at_ seed : Int) (hb : ∀ x ∈ code, 0 ≤ x ∧ x ≤ 255) (ha : 0 ≤ at_ ∧ at_ ≤ 1000) :
    Con Try.prog nz14 [.box 0 (srcC code at_ seed)] [.ptr 5000 0 0] true fun outs rows res => ∃ n ps v a' s', FLo n ps ∧ at_ ≤ a' ∧ a' ≤ at_ + 6000 ∧ outs = [.box 0 (srcC code a' s')] ∧ rows = [.row v 1 true (rwp ps)] ∧ res = .st [iv n, .own 6000 v] := by
  refine con_sh mixed czge rfl (by simp) ?_
  generalize hQ : finQ _ = Q
  simp only [Az1z, Bz90, yzg, yz1, go_sem, yz0, Int.reduceLT, reduceLE, reduceToNat, reduceNeg, Nat.reduceLT, reduceLeDiff, reduceMul, reduceSub, reduceIte, reduceEqDiff, reduceAdd, reduceCtorEq]
  intro vs0 U0 hN0 vs1 U1 hN1
  refine call_lo (k := 5000) FLo_ren (k_l02Drawn code at_ seed hb (by omega)) rfl (fun x y e => (hN1.inj _ _ _ _ e).2) (hN1.box (r := 5000) rfl 1) qCS qGN ?_
  intro n ps v' a1 s1 hf h1 h2
  have hend : ∀ (σ : St) (v2 v3 : Nat) (a s : Int), at_ ≤ a ∧ a ≤ at_ + 6000 →
      σ.keep [2, 3] [2, 3, 6, 5000, 901] = ⟨L .any [(2, .ptr 2 v2 0), (3, .ptr 3 v3 0)],
        L .gone [(2, .box v2 [iv 0, .val (.slice none 0 0)]), (3, .box v3 [iv n, .own 6 v']), (6, .row v' 1 true (rwp ps)), (5000, .box 0 (srcC code a s)), (901, .gone)]⟩ →
      wpD Try.prog Bz1y Q σ := by
    intro σ v2 v3 a s ha' hS
    unfold Bz1y
    rw [yzg, hS]
    simp only [wpD_gh]
    intro _
    refine ⟨[], ?_⟩
    simp only [gwp_nil, yzg, yz1, go_sem, yz0, Int.reduceLT, reduceLE, reduceToNat, reduceNeg, Nat.reduceLT, reduceLeDiff, reduceMul, reduceSub, reduceIte, reduceEqDiff, reduceAdd, reduceCtorEq]
    intro vs U hN
    simp only [← hQ, Az1z, go_sem, yz0, Int.reduceLT, reduceLE, reduceToNat, reduceNeg, Nat.reduceLT, reduceLeDiff, reduceMul, reduceSub, reduceIte, reduceEqDiff, reduceAdd, reduceCtorEq]
    refine ⟨[6], by simp, by simp, by simp, ?_⟩
    simp only [range1, List.length_singleton, renL_rwp, Nat.not_lt_zero, range1, yzw, yz11, ren_ro, rnNm_n, yz12, rnNm_o, rnNm_s, ren_st, yzz, yzo, yzf, yz4, yzu, yzt, yzp, yzn, yzr, yzc, yz9, yz8, yze, yzj, yzl, yz3, yz7, yzb, yzd, yzi, yzm, List.range_zero, yz6, yz5, yza, yzv, yzh, yzq, AVal.fresh, freshL, yz2, yzk, AObj.fresh, id, Option.isSome_some, or_true, true_or, go_sem, yz0, Int.reduceLT, reduceLE, reduceToNat, reduceNeg, Nat.reduceLT, reduceLeDiff, reduceMul, reduceSub, reduceIte, reduceEqDiff, reduceAdd, reduceCtorEq]
    exact ⟨n, ps, v', a, s, hf, ha'.1, ha'.2, rfl, by simp, rfl⟩
  simp only [Bz8z, yzg, yz1, go_sem, yz0, Int.reduceLT, reduceLE, reduceToNat, reduceNeg, Nat.reduceLT, reduceLeDiff, reduceMul, reduceSub, reduceIte, reduceEqDiff, reduceAdd, reduceCtorEq]
  intro vs2 U2 hN2
  refine yzy (k_l01Ok n (ps.map (·.2))) (by simp only [coeL_rwp_t, rowIs, boxIs, coe_argN, coe_argNs, coe_ro_o, yz18, yzs, coe_any, coe_val, coe_ro, yz17, yz15, coe_st, yz16, coe_rp, yz14, coe_clo, coe_own0, coe_ptr0, yz13, coeL_rws, coeL_rwn, L_hit, L_miss, L_nil, reduceEqDiff, ne_eq, reduceCtorEq, not_false_eq_true, true_and, and_true, and_self, exists_eq_left, exists_eq_right, List.mem_cons, List.not_mem_nil, or_false, AObj.row.injEq, AObj.box.injEq, exists_eq_left', exists_and_left, exists_eq, Nat.zero_lt_one, Nat.lt_add_one, List.map_cons, List.map_nil, AObj.ver, Nat.reduceLT, not_true_eq_false]) trivial ?_
  cases hA : autB n (ps.map (·.2)) with
  | false =>
    simp only [Bz1x, yzg, yz1, go_sem, yz0, Int.reduceLT, reduceLE, reduceToNat, reduceNeg, Nat.reduceLT, reduceLeDiff, reduceMul, reduceSub, reduceIte, reduceEqDiff, reduceAdd, reduceCtorEq]
    exact hend _ (vs0 0 0) (vs1 2 0) a1 s1 (by omega) (by simp only [go_sem, yz0, Int.reduceLT, reduceLE, reduceToNat, reduceNeg, Nat.reduceLT, reduceLeDiff, reduceMul, reduceSub, reduceIte, reduceEqDiff, reduceAdd, reduceCtorEq]; try rfl)
  | true =>
    have A := autB_iff.1 hA
    have n1 := A.n1
    have n2 := A.n2
    have l1 := A.l1
    have l2 := A.l2
    rw [List.length_map] at l1 l2
    have hdj : DJ ps := hf.1 l2
    simp only [yzg, yz1, go_sem, yz0, Int.reduceLT, reduceLE, reduceToNat, reduceNeg, Nat.reduceLT, reduceLeDiff, reduceMul, reduceSub, reduceIte, reduceEqDiff, reduceAdd, reduceCtorEq]
    refine call_funB (k_one code a1 s1 4 hb (by omega)) rfl qCS qCS ?_
    rintro cs' x ⟨a2, s2, b2, rfl, g1, g2, rfl⟩
    cases b2 with
    | true =>
      simp only [Bz1x, Bool.not_true, yzg, yz1, go_sem, yz0, Int.reduceLT, reduceLE, reduceToNat, reduceNeg, Nat.reduceLT, reduceLeDiff, reduceMul, reduceSub, reduceIte, reduceEqDiff, reduceAdd, reduceCtorEq]
      exact hend _ (vs0 0 0) (vs1 2 0) a2 s2 (by omega) (by simp only [go_sem, yz0, Int.reduceLT, reduceLE, reduceToNat, reduceNeg, Nat.reduceLT, reduceLeDiff, reduceMul, reduceSub, reduceIte, reduceEqDiff, reduceAdd, reduceCtorEq]; try rfl)
    | false =>
      obtain ⟨A2, b, C2, rfl, hAk⟩ := rwp_split (show 0 < ps.length by omega)
      have hbr := A.row b.2 (by simp)
      have hbn : b.2 ≠ [] := fun e => by rw [e] at hbr; simp at hbr; omega
      have F0a := DJ_out hdj hbn
      simp only [Bz1x, Bool.not_false, yzg, yz1, go_sem, yz0, Int.reduceLT, reduceLE, reduceToNat, reduceNeg, Nat.reduceLT, reduceLeDiff, reduceMul, reduceSub, reduceIte, reduceEqDiff, reduceAdd, reduceCtorEq]
      intro vs3 U3 hN3
      simp only [Bz8y, yzg, wpD_gh, go_sem, yz0, Int.reduceLT, reduceLE, reduceToNat, reduceNeg, Nat.reduceLT, reduceLeDiff, reduceMul, reduceSub, reduceIte, reduceEqDiff, reduceAdd, reduceCtorEq]
      intro _
      refine ⟨[.thaw 6 0 901], gwp_thaw (n := b.1) rfl (rwp_get hAk.symm) (by simpa using hbn) rfl fun m1 => ?_⟩
      have hset : (woL b.1 (rwp (A2 ++ b :: C2))).set 0 (AVal.own 901 m1) = rwp A2 ++ AVal.own 901 m1 :: rwp C2 := by rw [← hAk]; exact woL_set F0a
      have ho1 : (rwp A2 ++ AVal.own 901 m1 :: rwp C2).getD 0 .any = .own 901 m1 := own_at hAk.symm
      have hol : (rwp A2 ++ AVal.own 901 m1 :: rwp C2).length = A2.length + (C2.length + 1) := by rw [List.length_append, List.length_cons, rwp_len, rwp_len]
      have hkl : 0 < (rwp A2 ++ AVal.own 901 m1 :: rwp C2).length := by omega
      simp only [hset, woT, woO, woL_cons, woL_nil, woV_val, woV_own, wo_ptr, wo_o, woL_ints, wo_st, woO_row, woO_box, woO_gone, wo_any, gwp_nil, yzg, yz1, go_sem, yz0, Int.reduceLT, reduceLE, reduceToNat, reduceNeg, Nat.reduceLT, reduceLeDiff, reduceMul, reduceSub, reduceIte, reduceEqDiff, reduceAdd, reduceCtorEq]
      refine wpD_lp (fun (x : Nat × List Int) => n.toNat - x.1) (fun x => (x.1 : Int) ≤ n ∧ x.2.length = b.2.length ∧ ∀ z ∈ x.2, 0 ≤ z ∧ z < n)
        (fun (x : Nat × List Int) => ⟨L .any [(2, .ptr 2 (vs0 0 0) 0), (3, .ptr 3 (vs1 2 0) 0), (4, iv x.1)],
          L .gone [(2, .box (vs0 0 0) [iv 0, .val (.slice none 0 0)]), (3, .box (vs1 2 0) [iv n, .own 6 v']), (6, .row v' 1 true (rwp A2 ++ .own 901 m1 :: rwp C2)), (5000, .box 0 (srcC code a2 s2)), (901, .row m1 1 true (ints x.2))]⟩)
        (0, b.2) ⟨by simp; omega, rfl, hbr.2⟩ (by simp only [Bz1w, go_sem, yz0, Int.reduceLT, reduceLE, reduceToNat, reduceNeg, Nat.reduceLT, reduceLeDiff, reduceMul, reduceSub, reduceIte, reduceEqDiff, reduceAdd, reduceCtorEq]; try rfl) ?_
      rintro ⟨i, cur⟩ ⟨h3, h4, h5⟩
      have h3 : (i : Int) ≤ n := h3
      have h4 : cur.length = b.2.length := h4
      have h5 : ∀ z ∈ cur, 0 ≤ z ∧ z < n := h5
      by_cases hlt : (i : Int) < n
      · have w1 : IntKind.i64.wrap ((i : Int) + 1) = ((i + 1 : Nat) : Int) := by rw [w64 (by omega)]; simp
        have hn0 : ¬ n = 0 := by omega
        have hil : i < cur.length := by omega
        have t1 := tmod_in (a := ((i + 1 : Nat) : Int)) (n := n) (by omega) (by omega)
        simp only [Bz1w, Bz4g, Bz8x, decide_eq_true hlt, yzg, yz1, go_sem, yz0, Int.reduceLT, reduceLE, reduceToNat, reduceNeg, Nat.reduceLT, reduceLeDiff, reduceMul, reduceSub, reduceIte, reduceEqDiff, reduceAdd, reduceCtorEq]
        intro vs4 U4 hN4 vs5 U5 hN5
        simp only [ho1, w1, hn0, go_sem, yz0, Int.reduceLT, reduceLE, reduceToNat, reduceNeg, Nat.reduceLT, reduceLeDiff, reduceMul, reduceSub, reduceIte, reduceEqDiff, reduceAdd, reduceCtorEq]
        refine ⟨hkl, hkl, ⟨by omega, hil⟩, by omega, ?_⟩
        have hcl := lput_len (xs := cur) (v := ((i + 1 : Nat) : Int).tmod n) hil
        have hcm := lput_mem (xs := cur) (i := i) (v := ((i + 1 : Nat) : Int).tmod n) (Q := fun z => 0 ≤ z ∧ z < n) h5 t1
        simp only [ints_put]
        generalize hcu : cur.take i ++ [((i + 1 : Nat) : Int).tmod n] ++ cur.drop (i + 1) = cur2 at hcl hcm ⊢
        simp only [Bz8w, w1, yzg, yz1, go_sem, yz0, Int.reduceLT, reduceLE, reduceToNat, reduceNeg, Nat.reduceLT, reduceLeDiff, reduceMul, reduceSub, reduceIte, reduceEqDiff, reduceAdd, reduceCtorEq]
        intro vs6 U6 hN6
        exact ⟨(i + 1, cur2), by dsimp only; omega, ⟨by dsimp only; omega, by dsimp only; omega, hcm⟩, rfl⟩
      · simp only [Bz1w, Bz4g, Bz1y, decide_eq_false hlt, yzg, yz1, wpD_gh, go_sem, yz0, Int.reduceLT, reduceLE, reduceToNat, reduceNeg, Nat.reduceLT, reduceLeDiff, reduceMul, reduceSub, reduceIte, reduceEqDiff, reduceAdd, reduceCtorEq]
        intro vs4 U4 hN4 hD
        refine ⟨[.rf 6 0 901], gwp_rf (k := 1) (nn := true) rfl (own_get hAk.symm) (by decide) rfl fun hf2 => ?_⟩
        have D1 := DJ_refrozen hdj hf2 (cur := cur)
        have A1 := Aut_put A (u := m1) h4 h5
        have hset4 : ∀ X : AVal, (rwp A2 ++ AVal.own 901 m1 :: rwp C2).set 0 X = rwp A2 ++ X :: rwp C2 := fun X => by
          rw [← hAk, List.set_append_right _ _ (by rw [rwp_len]; exact Nat.le_refl _), rwp_len, Nat.sub_self]; rfl
        simp only [hset4, frNm_t, rwp_cat, gwp_nil, yzg, yz1, go_sem, yz0, Int.reduceLT, reduceLE, reduceToNat, reduceNeg, Nat.reduceLT, reduceLeDiff, reduceMul, reduceSub, reduceIte, reduceEqDiff, reduceAdd, reduceCtorEq]
        intro vs9 U9 hN9
        simp only [← hQ, Az1z, go_sem, yz0, Int.reduceLT, reduceLE, reduceToNat, reduceNeg, Nat.reduceLT, reduceLeDiff, reduceMul, reduceSub, reduceIte, reduceEqDiff, reduceAdd, reduceCtorEq]
        refine ⟨[6], by simp, by simp, by simp, ?_⟩
        simp only [range1, List.length_singleton, renL_rwp, Nat.not_lt_zero, range1, yzw, yz11, ren_ro, rnNm_n, yz12, rnNm_o, rnNm_s, ren_st, yzz, yzo, yzf, yz4, yzu, yzt, yzp, yzn, yzr, yzc, yz9, yz8, yze, yzj, yzl, yz3, yz7, yzb, yzd, yzi, yzm, List.range_zero, yz6, yz5, yza, yzv, yzh, yzq, AVal.fresh, freshL, yz2, yzk, AObj.fresh, id, Option.isSome_some, or_true, true_or, go_sem, yz0, Int.reduceLT, reduceLE, reduceToNat, reduceNeg, Nat.reduceLT, reduceLeDiff, reduceMul, reduceSub, reduceIte, reduceEqDiff, reduceAdd, reduceCtorEq]
        exact ⟨n, A2 ++ (m1, cur) :: C2, v', a2, s2, FAut.lo (m := 10) ⟨A1, D1, by omega⟩, by omega, by omega, rfl, by simp, rfl⟩
theorem k_A2Automaton (code : List Int) (hb : ∀ x ∈ code, 0 ≤ x ∧ x ≤ 255) :
    Con Try.prog nz30 [] [.ro (some (some 0)) 1 (intsK .u8 code)] true fun outs rows res => outs = [] ∧ ∃ n next v, Aut n next ∧ n ≤ 7 ∧ rows = [.row v 1 true (rws next)] ∧ res = .st [iv n, .own 6000 v] := by
  refine con_sh mixed czg2 rfl (by simp) ?_
  generalize hQ : finQ _ = Q
  simp only [Azq, Bz7k, go_sem, yz0, Int.reduceLT, reduceLE, reduceToNat, reduceNeg, Nat.reduceLT, reduceLeDiff, reduceMul, reduceSub, reduceIte, reduceEqDiff, reduceAdd, reduceCtorEq]
  intro vs0 vs1
  refine call_sh (k_from code) qCS (fun e => by cases e) ?_
  rintro outs rows res ⟨rfl, v, rfl, rfl⟩
  refine ⟨rfl, by simp, by rw [Option.getD_some, yzh]; rfl, ?_⟩
  simp only [Bz7j, Nat.not_lt_zero, range1, yzw, yz11, ren_ro, rnNm_n, yz12, rnNm_o, rnNm_s, ren_st, yzz, yzo, yzf, yz4, yzu, yzt, yzp, yzn, yzr, yzc, yz9, yz8, yze, yzj, yzl, yz3, yz7, yzb, yzd, yzi, yzm, List.range_zero, yz6, yz5, yza, yzv, yzh, yzq, AVal.fresh, freshL, yz2, yzk, AObj.fresh, id, Option.isSome_some, or_true, true_or, go_sem, yz0, Int.reduceLT, reduceLE, reduceToNat, reduceNeg, Nat.reduceLT, reduceLeDiff, reduceMul, reduceSub, reduceIte, reduceEqDiff, reduceAdd, reduceCtorEq]
  intro vs2
  have h : Con Try.prog nz14 [.box 0 (srcC code 0 0)] [.ptr 5000 0 0] true fun outs rows res => ∃ n next v a' s', outs = [.box 0 (srcC code a' s')] ∧ rows = [.row v 1 true (rws next)] ∧ res = .st [iv n, .own 6000 v] := by
    refine Con.dnr (k_l03Linked code 0 0 hb (by omega)) ?_
    rintro o r x ⟨n, ps, v, a', s', hf, h1, h2, rfl, rfl, rfl⟩
    refine ⟨n, ps.map (·.2), v, a', s', ?_, ?_, ?_⟩
    · simp only [List.map_cons, List.map_nil, AObj.dn, dnL, AVal.dn, dnL_ints, dnNm]
    · simp only [List.map_cons, List.map_nil, AObj.dn, dnL_rwp]
    · simp only [AVal.dn, dnL]
  refine call_con (r := 6) h rfl (by simp only [Bool.not_true, rowIs, boxIs, coe_argN, coe_argNs, coe_ro_o, yz18, yzs, coe_any, coe_val, coe_ro, yz17, yz15, coe_st, yz16, coe_rp, yz14, coe_clo, coe_own0, coe_ptr0, yz13, coeL_rws, coeL_rwn, L_hit, L_miss, L_nil, reduceEqDiff, ne_eq, reduceCtorEq, not_false_eq_true, true_and, and_true, and_self, exists_eq_left, exists_eq_right, List.mem_cons, List.not_mem_nil, or_false, AObj.row.injEq, AObj.box.injEq, exists_eq_left', exists_and_left, exists_eq, Nat.zero_lt_one, Nat.lt_add_one, List.map_cons, List.map_nil, AObj.ver, Nat.reduceLT, not_true_eq_false]) (by simp only [Bool.not_true, rowIs, boxIs, coe_argN, coe_argNs, coe_ro_o, yz18, yzs, coe_any, coe_val, coe_ro, yz17, yz15, coe_st, yz16, coe_rp, yz14, coe_clo, coe_own0, coe_ptr0, yz13, coeL_rws, coeL_rwn, L_hit, L_miss, L_nil, reduceEqDiff, ne_eq, reduceCtorEq, not_false_eq_true, true_and, and_true, and_self, exists_eq_left, exists_eq_right, List.mem_cons, List.not_mem_nil, or_false, AObj.row.injEq, AObj.box.injEq, exists_eq_left', exists_and_left, exists_eq, Nat.zero_lt_one, Nat.lt_add_one, List.map_cons, List.map_nil, AObj.ver, Nat.reduceLT, not_true_eq_false]) ?_
  rintro outs rows res ⟨n, next, v', a', s', rfl, rfl, rfl⟩
  refine ⟨rfl, by simp, by rw [Option.getD_some, yzh]; simp only [go_sem, yz0, Int.reduceLT, reduceLE, reduceToNat, reduceNeg, Nat.reduceLT, reduceLeDiff, reduceMul, reduceSub, reduceIte, reduceEqDiff, reduceAdd, reduceCtorEq], ?_⟩
  rw [Option.getD_some, callHp_mr (by omega)]
  have hslow : Con Try.prog nzh [] [iv 4] true fun outs rows res => outs = [] ∧ ∃ next v, Aut 4 next ∧ rows = [.row v 1 true (rws next)] ∧ res = .st [iv 4, .own 6000 v] := by
    refine Con.dnr (k_l02SlowN 4 (by omega)) ?_
    rintro o r x ⟨rfl, v, ps, hA, hd, rfl, rfl⟩
    refine ⟨rfl, ps.map (·.2), v, hA, ?_, ?_⟩
    · simp only [List.map_cons, List.map_nil, AObj.dn, dnL_rwp]
    · simp only [AVal.dn, dnL]
  simp only [Bz7i, Nat.not_lt_zero, range1, yzw, yz11, ren_ro, rnNm_n, yz12, rnNm_o, rnNm_s, ren_st, yzz, yzo, yzf, yz4, yzu, yzt, yzp, yzn, yzr, yzc, yz9, yz8, yze, yzj, yzl, yz3, yz7, yzb, yzd, yzi, yzm, List.range_zero, yz6, yz5, yza, yzv, yzh, yzq, AVal.fresh, freshL, yz2, yzk, AObj.fresh, id, Option.isSome_some, or_true, true_or, go_sem, yz0, Int.reduceLT, reduceLE, reduceToNat, reduceNeg, Nat.reduceLT, reduceLeDiff, reduceMul, reduceSub, reduceIte, reduceEqDiff, reduceAdd, reduceCtorEq]
  intro vs3
  refine yzy (k_l01Ok n next) qCS trivial ?_
  cases hA : autB n next with
  | false =>
    simp only [Bz1l, Bz4c, go_sem, yz0, Int.reduceLT, reduceLE, reduceToNat, reduceNeg, Nat.reduceLT, reduceLeDiff, reduceMul, reduceSub, reduceIte, reduceEqDiff, reduceAdd, reduceCtorEq]
    intro vs5
    refine call_sh hslow qCS (fun e => by cases e) ?_
    rintro outs rows res ⟨rfl, next2, v2, A2, rfl, rfl⟩
    refine ⟨rfl, by simp, by rw [Option.getD_some, yzh]; simp only [go_sem, yz0, Int.reduceLT, reduceLE, reduceToNat, reduceNeg, Nat.reduceLT, reduceLeDiff, reduceMul, reduceSub, reduceIte, reduceEqDiff, reduceAdd, reduceCtorEq], ?_⟩
    simp only [← hQ, Azq, dnL_rws, Nat.not_lt_zero, range1, yzw, yz11, ren_ro, rnNm_n, yz12, rnNm_o, rnNm_s, ren_st, yzz, yzo, yzf, yz4, yzu, yzt, yzp, yzn, yzr, yzc, yz9, yz8, yze, yzj, yzl, yz3, yz7, yzb, yzd, yzi, yzm, List.range_zero, yz6, yz5, yza, yzv, yzh, yzq, AVal.fresh, freshL, yz2, yzk, AObj.fresh, id, Option.isSome_some, or_true, true_or, go_sem, yz0, Int.reduceLT, reduceLE, reduceToNat, reduceNeg, Nat.reduceLT, reduceLeDiff, reduceMul, reduceSub, reduceIte, reduceEqDiff, reduceAdd, reduceCtorEq]
    refine ⟨[16], by simp, by simp, by simp, ?_⟩
    simp only [Nat.not_lt_zero, range1, yzw, yz11, ren_ro, rnNm_n, yz12, rnNm_o, rnNm_s, ren_st, yzz, yzo, yzf, yz4, yzu, yzt, yzp, yzn, yzr, yzc, yz9, yz8, yze, yzj, yzl, yz3, yz7, yzb, yzd, yzi, yzm, List.range_zero, yz6, yz5, yza, yzv, yzh, yzq, AVal.fresh, freshL, yz2, yzk, AObj.fresh, id, Option.isSome_some, or_true, true_or, go_sem, yz0, Int.reduceLT, reduceLE, reduceToNat, reduceNeg, Nat.reduceLT, reduceLeDiff, reduceMul, reduceSub, reduceIte, reduceEqDiff, reduceAdd, reduceCtorEq]
    exact ⟨4, next2, _, A2, by omega, rfl, rfl⟩
  | true =>
    have A := autB_iff.1 hA
    by_cases h7 : n ≤ 7
    · simp only [decide_eq_true h7, Bz1l, ← hQ, Azq, dnL_rws, go_sem, yz0, Int.reduceLT, reduceLE, reduceToNat, reduceNeg, Nat.reduceLT, reduceLeDiff, reduceMul, reduceSub, reduceIte, reduceEqDiff, reduceAdd, reduceCtorEq]
      refine ⟨[8], by simp, by simp, by simp, ?_⟩
      simp only [Nat.not_lt_zero, range1, yzw, yz11, ren_ro, rnNm_n, yz12, rnNm_o, rnNm_s, ren_st, yzz, yzo, yzf, yz4, yzu, yzt, yzp, yzn, yzr, yzc, yz9, yz8, yze, yzj, yzl, yz3, yz7, yzb, yzd, yzi, yzm, List.range_zero, yz6, yz5, yza, yzv, yzh, yzq, AVal.fresh, freshL, yz2, yzk, AObj.fresh, id, Option.isSome_some, or_true, true_or, go_sem, yz0, Int.reduceLT, reduceLE, reduceToNat, reduceNeg, Nat.reduceLT, reduceLeDiff, reduceMul, reduceSub, reduceIte, reduceEqDiff, reduceAdd, reduceCtorEq]
      exact ⟨n, next, _, A, h7, rfl, rfl⟩
    · simp only [Bz1l, Bz4c, decide_eq_false h7, go_sem, yz0, Int.reduceLT, reduceLE, reduceToNat, reduceNeg, Nat.reduceLT, reduceLeDiff, reduceMul, reduceSub, reduceIte, reduceEqDiff, reduceAdd, reduceCtorEq]
      intro vs5
      refine call_sh hslow qCS (fun e => by cases e) ?_
      rintro outs rows res ⟨rfl, next2, v2, A2, rfl, rfl⟩
      refine ⟨rfl, by simp, by rw [Option.getD_some, yzh]; simp only [go_sem, yz0, Int.reduceLT, reduceLE, reduceToNat, reduceNeg, Nat.reduceLT, reduceLeDiff, reduceMul, reduceSub, reduceIte, reduceEqDiff, reduceAdd, reduceCtorEq], ?_⟩
      simp only [← hQ, Azq, dnL_rws, Nat.not_lt_zero, range1, yzw, yz11, ren_ro, rnNm_n, yz12, rnNm_o, rnNm_s, ren_st, yzz, yzo, yzf, yz4, yzu, yzt, yzp, yzn, yzr, yzc, yz9, yz8, yze, yzj, yzl, yz3, yz7, yzb, yzd, yzi, yzm, List.range_zero, yz6, yz5, yza, yzv, yzh, yzq, AVal.fresh, freshL, yz2, yzk, AObj.fresh, id, Option.isSome_some, or_true, true_or, go_sem, yz0, Int.reduceLT, reduceLE, reduceToNat, reduceNeg, Nat.reduceLT, reduceLeDiff, reduceMul, reduceSub, reduceIte, reduceEqDiff, reduceAdd, reduceCtorEq]
      refine ⟨[16], by simp, by simp, by simp, ?_⟩
      simp only [Nat.not_lt_zero, range1, yzw, yz11, ren_ro, rnNm_n, yz12, rnNm_o, rnNm_s, ren_st, yzz, yzo, yzf, yz4, yzu, yzt, yzp, yzn, yzr, yzc, yz9, yz8, yze, yzj, yzl, yz3, yz7, yzb, yzd, yzi, yzm, List.range_zero, yz6, yz5, yza, yzv, yzh, yzq, AVal.fresh, freshL, yz2, yzk, AObj.fresh, id, Option.isSome_some, or_true, true_or, go_sem, yz0, Int.reduceLT, reduceLE, reduceToNat, reduceNeg, Nat.reduceLT, reduceLeDiff, reduceMul, reduceSub, reduceIte, reduceEqDiff, reduceAdd, reduceCtorEq]
      exact ⟨4, next2, _, A2, by omega, rfl, rfl⟩
end Go.Ab
namespace Go.Ab
open Go.Proofs
end Go.Ab
namespace Go.Ab
open Go.Proofs
abbrev fv (f : Nat) : AVal := .val (.int .u64 (f : Int))
theorem u64w {n : Nat} (h : n < 18446744073709551616) : IntKind.u64.wrap (n : Int) = n := IntWalk.u64_in _ (by omega)
theorem bv64 {x : Nat} (h : x < 18446744073709551616) : (BitVec.ofInt 64 (x : Int)).toNat = x := by
  rw [BitVec.ofInt_natCast, BitVec.toNat_ofNat, Nat.mod_eq_of_lt h]
theorem u_or {x y : Nat} (hx : x < 18446744073709551616) (hy : y < 18446744073709551616) :
    IntKind.u64.wrap ((BitVec.ofInt 64 (x : Int) ||| BitVec.ofInt 64 (y : Int)).toNat) = ((x ||| y : Nat) : Int) := by
  have h : (BitVec.ofInt 64 (x : Int) ||| BitVec.ofInt 64 (y : Int)).toNat = x ||| y := by rw [BitVec.toNat_or, bv64 hx, bv64 hy]
  show IntKind.u64.wrap ((BitVec.ofInt 64 (x : Int) ||| BitVec.ofInt 64 (y : Int)).toNat : Int) = _
  rw [h]; exact u64w (Nat.or_lt_two_pow (n := 64) hx hy)
theorem u_and {x y : Nat} (hx : x < 18446744073709551616) (hy : y < 18446744073709551616) :
    IntKind.u64.wrap ((BitVec.ofInt 64 (x : Int) &&& BitVec.ofInt 64 (y : Int)).toNat) = ((x &&& y : Nat) : Int) := by
  have h : (BitVec.ofInt 64 (x : Int) &&& BitVec.ofInt 64 (y : Int)).toNat = x &&& y := by rw [BitVec.toNat_and, bv64 hx, bv64 hy]
  show IntKind.u64.wrap ((BitVec.ofInt 64 (x : Int) &&& BitVec.ofInt 64 (y : Int)).toNat : Int) = _
  rw [h]; exact u64w (Nat.lt_of_le_of_lt Nat.and_le_left hx)
theorem u_and1 {x : Nat} (hx : x < 18446744073709551616) :
    IntKind.u64.wrap ((@HAnd.hAnd (BitVec 64) (BitVec 64) (BitVec 64) (@instHAndOfAndOp (BitVec IntKind.u64.bits) (@BitVec.instAndOp IntKind.u64.bits)) (BitVec.ofInt 64 (x : Int)) (BitVec.ofInt 64 1)).toNat) = ((x &&& 1 : Nat) : Int) := u_and (y := 1) hx (by omega)
theorem u_andW {x y : Nat} (hx : x < 18446744073709551616) (hy : y < 18446744073709551616) :
    IntKind.u64.wrap ((@HAnd.hAnd (BitVec 64) (BitVec 64) (BitVec 64) (@instHAndOfAndOp (BitVec IntKind.u64.bits) (@BitVec.instAndOp IntKind.u64.bits)) (BitVec.ofInt 64 (x : Int)) (BitVec.ofInt 64 (y : Int))).toNat) = ((x &&& y : Nat) : Int) := u_and hx hy
theorem u_orW {x y : Nat} (hx : x < 18446744073709551616) (hy : y < 18446744073709551616) :
    IntKind.u64.wrap ((@HOr.hOr (BitVec 64) (BitVec 64) (BitVec 64) (@instHOrOfOrOp (BitVec IntKind.u64.bits) (@BitVec.instOrOp IntKind.u64.bits)) (BitVec.ofInt 64 (x : Int)) (BitVec.ofInt 64 (y : Int))).toNat) = ((x ||| y : Nat) : Int) := u_or hx hy
theorem u_shl {b : Nat} (h : b < 64) : IntKind.u64.wrap (1 * 2 ^ min b 64) = ((2 ^ b : Nat) : Int) := by
  have h1 : min b 64 = b := by omega
  have h2 : (2 : Int) ^ b = ((2 ^ b : Nat) : Int) := by simp
  rw [h1, Int.one_mul, h2]
  exact u64w (Nat.pow_lt_pow_right (a := 2) (n := 64) (by omega) h)
theorem u_shr {f s : Nat} (h : s ≤ 64) : ((f : Int)).fdiv (2 ^ min s 64) = ((f >>> s : Nat) : Int) := by
  have h1 : min s 64 = s := by omega
  have h2 : (2 : Int) ^ s = ((2 ^ s : Nat) : Int) := by simp
  rw [h1, h2, Nat.shiftRight_eq_div_pow, Int.fdiv_eq_ediv_of_nonneg _ (Int.natCast_nonneg _)]
  rfl
def bitsTo (f s : Nat) : List Int := ((List.range s).filter fun k => f.testBit k).map fun (k : Nat) => (k : Int)
theorem bitsTo_succ {f s : Nat} : bitsTo f (s + 1) = if f.testBit s = true then bitsTo f s ++ [(s : Int)] else bitsTo f s := by
  unfold bitsTo
  rw [List.range_succ, List.filter_append]
  cases h : f.testBit s with
  | true => simp [h]
  | false => simp [h]
theorem bitsTo_len {f s : Nat} : (bitsTo f s).length ≤ s := by
  unfold bitsTo
  rw [List.length_map]
  have := List.length_filter_le (fun k => f.testBit k) (List.range s)
  rw [List.length_range] at this; exact this
theorem bitsTo_add {f s : Nat} (h : f < 2 ^ s) : ∀ d, bitsTo f (s + d) = bitsTo f s
  | 0 => rfl
  | d + 1 => by
    rw [show s + (d + 1) = s + d + 1 by omega, bitsTo_succ, Nat.testBit_lt_two_pow (Nat.lt_of_lt_of_le h (Nat.pow_le_pow_right (by omega) (by omega))), if_neg (by simp), bitsTo_add h d]
theorem dec_beqN {a k : Nat} : decide (a = k) = Nat.beq a k := by
  rw [Bool.eq_iff_iff, decide_eq_true_iff, Nat.beq_eq]
theorem shr_zero {f s : Nat} : f >>> s = 0 ↔ f < 2 ^ s := by
  rw [Nat.shiftRight_eq_div_pow, Nat.div_eq_zero_iff]
  have := Nat.two_pow_pos s
  omega
theorem k_flock_set (f : Nat) (h : f < 1024) : RowI Try.prog nz3j [fv f] (fun ys => ys = bitsTo f 10) := by
  refine rowI_of mixed czh8 rfl ?_
  simp only [Azc3, Bzc2, Bzc1, Bzbz, go_sem, yz0, Int.reduceLT, reduceLE, reduceToNat, reduceNeg, Nat.reduceLT, reduceLeDiff, reduceMul, reduceSub, reduceIte, reduceEqDiff, reduceAdd, reduceCtorEq]
  intro vs
  refine wpD_lo (fun (_, s) => 10 - s) (fun (_, s) => s ≤ 10) (fun ((v, s) : Nat × Nat) => ⟨L .any [(0, fv f), (3, .own 5 v), (4, iv s)], L .gone [(5, .row v 1 true (ints (bitsTo f s)))]⟩)
    (_, 0) (by simp) (by simp only [Bzu, go_sem, yz0, Int.reduceLT, reduceLE, reduceToNat, reduceNeg, Nat.reduceLT, reduceLeDiff, reduceMul, reduceSub, reduceIte, reduceEqDiff, reduceAdd, reduceCtorEq]; try rfl) ?_
  rintro ⟨v, s⟩ hs
  have hs : s ≤ 10 := hs
  have hs0 : ¬ ((s : Nat) : Int) < 0 := by omega
  have hsh := u_shr (f := f) (s := s) (by omega)
  have hlt : f >>> s < 18446744073709551616 := by rw [Nat.shiftRight_eq_div_pow]; exact Nat.lt_of_le_of_lt (Nat.div_le_self _ _) (by omega)
  by_cases hz : (0 : Int) < ((f >>> s : Nat) : Int)
  · have hs10 : s < 10 := by
      by_cases e : s < 10
      · exact e
      · have : f >>> s = 0 := shr_zero.2 (Nat.lt_of_lt_of_le (show f < 2 ^ 10 from h) (Nat.pow_le_pow_right (by omega) (by omega)))
        omega
    have hand := u_and1 hlt
    have hbit : ((((f >>> s &&& 1 : Nat) : Int)) == 1) = f.testBit s := by
      rw [Nat.testBit_eq_decide_div_mod_eq, Nat.and_one_is_mod, Nat.shiftRight_eq_div_pow, Bool.eq_iff_iff, beq_iff_eq, decide_eq_true_iff]
      generalize f / 2 ^ s % 2 = q
      omega
    have w1 : IntKind.i64.wrap ((s : Int) + 1) = ((s + 1 : Nat) : Int) := by rw [w64 (by omega)]; simp
    cases hb : f.testBit s with
    | true =>
      rw [hb] at hbit
      have hr : bitsTo f s ++ [(s : Int)] = bitsTo f (s + 1) := by rw [bitsTo_succ, if_pos hb]
      have hl := bitsTo_len (f := f) (s := s)
      simp only [Bzu, Bz2e, Bz2f, Bz5o, Bz5p, hs0, hsh, hand, hbit, w1, hr, decide_eq_true hz, go_sem, yz0, Int.reduceLT, reduceLE, reduceToNat, reduceNeg, Nat.reduceLT, reduceLeDiff, reduceMul, reduceSub, reduceIte, reduceEqDiff, reduceAdd, reduceCtorEq]
      intro vs2
      exact ⟨⟨_, rfl, rfl⟩, by omega, (_, s + 1), by dsimp only; omega, by dsimp only; omega, rfl⟩
    | false =>
      rw [hb] at hbit
      have hr : bitsTo f s = bitsTo f (s + 1) := by rw [bitsTo_succ, if_neg (by simp [hb])]
      simp only [Bzu, Bz2e, Bz2f, Bz5o, Bz5p, hs0, hsh, hand, hbit, w1, decide_eq_true hz, go_sem, yz0, Int.reduceLT, reduceLE, reduceToNat, reduceNeg, Nat.reduceLT, reduceLeDiff, reduceMul, reduceSub, reduceIte, reduceEqDiff, reduceAdd, reduceCtorEq]
      refine ⟨(v, s + 1), by dsimp only; omega, by dsimp only; omega, ?_⟩
      dsimp only
      rw [← hr]
  · have he : bitsTo f 10 = bitsTo f s := by
      have h1 : f >>> s = 0 := Nat.eq_zero_of_not_pos fun e => hz (Int.natCast_pos.2 e)
      have h2 := bitsTo_add (shr_zero.1 h1) (10 - s)
      rw [show s + (10 - s) = 10 by omega] at h2; exact h2
    simp only [Bzu, Bz2e, Bz2f, Bzc0, hs0, hsh, decide_eq_false hz, he, go_sem, yz0, Int.reduceLT, reduceLE, reduceToNat, reduceNeg, Nat.reduceLT, reduceLeDiff, reduceMul, reduceSub, reduceIte, reduceEqDiff, reduceAdd, reduceCtorEq]
    exact ⟨5, v, _, by omega, rfl, by simp only [go_sem, yz0, Int.reduceLT, reduceLE, reduceToNat, reduceNeg, Nat.reduceLT, reduceLeDiff, reduceMul, reduceSub, reduceIte, reduceEqDiff, reduceAdd, reduceCtorEq], rfl⟩
theorem getD_snoc {α β : Type} (xs : List α) (g : β → α → β) (o : β) (d : α) {i : Nat} (h : i < xs.length) : g ((xs.take i).foldl g o) (xs.getD i d) = (xs.take (i + 1)).foldl g o := by
  rw [List.take_succ_eq_append_getElem h, List.foldl_append, List.getD_eq_getElem?_getD, List.getElem?_eq_getElem h]; rfl
theorem maskN_lt {set : List Int} (h : ∀ s ∈ set, 0 ≤ s ∧ s < 10) : maskN set < 1024 := fold_lt (fun s : Int => s.toNat) set 0 (fun x hx => by have := h x hx; omega) (by omega)
theorem k_flockOf (set : List Int) (h : ∀ s ∈ set, 0 ≤ s ∧ s < 10) : Fun Try.prog nz3c [.ro none 1 (ints set)] (fv (maskN set)) := by
  refine fun_of mixed czgu rfl ⟨rfl, trivial⟩ ?_
  simp only [Azaz, Bzay, Bzax, Bzav, go_sem, yz0, Int.reduceLT, reduceLE, reduceToNat, reduceNeg, Nat.reduceLT, reduceLeDiff, reduceMul, reduceSub, reduceIte, reduceEqDiff, reduceAdd, reduceCtorEq]
  intro hM
  have hM2 := maxLen_le
  refine wpD_lo (fun i => set.length - i) (fun i => i ≤ set.length)
    (fun i : Nat => ⟨L .any [(3, fv (maskN (set.take i))), (6, .ro none 1 (ints set)), (7, iv set.length), (8, iv i)], L .gone []⟩) 0 (by simp) (by simp only [Bz28, go_sem, yz0, Int.reduceLT, reduceLE, reduceToNat, reduceNeg, Nat.reduceLT, reduceLeDiff, reduceMul, reduceSub, reduceIte, reduceEqDiff, reduceAdd, reduceCtorEq]; try rfl) ?_
  rintro i hi
  by_cases hlt : (i : Int) < set.length
  · have hlt1 : i < set.length := by omega
    have hs := h _ (yz10 hlt1 0)
    have hs0 : ¬ set.getD i 0 < 0 := by omega
    have h1 := maskN_lt (set := set.take i) (fun s hs => h s (List.mem_of_mem_take hs))
    have h2 := pow_lt10 (k := (set.getD i 0).toNat) (by omega)
    have hsl := u_shl (b := (set.getD i 0).toNat) (by omega)
    have hor := u_orW (x := maskN (set.take i)) (y := 2 ^ (set.getD i 0).toNat) (by omega) (by omega)
    have hr : maskN (set.take i) ||| 2 ^ (set.getD i 0).toNat = maskN (set.take (i + 1)) := getD_snoc set (fun o s => o ||| 2 ^ s.toNat) 0 0 hlt1
    simp only [Bz28, Bz57, Bz56, Bzat, Bzau, yzx hlt1, hs0, hsl, hor, hr, nat1 i _ hlt1 hM, decide_eq_true hlt, go_sem, yz0, Int.reduceLT, reduceLE, reduceToNat, reduceNeg, Nat.reduceLT, reduceLeDiff, reduceMul, reduceSub, reduceIte, reduceEqDiff, reduceAdd, reduceCtorEq]
    exact ⟨⟨by omega, hlt1⟩, hlt1, i + 1, by omega, by omega, rfl⟩
  · have : i = set.length := by omega
    subst this
    simp only [Bz28, Bz57, Bz56, Bzaw, decide_eq_false hlt, List.take_length, go_sem, yz0, Int.reduceLT, reduceLE, reduceToNat, reduceNeg, Nat.reduceLT, reduceLeDiff, reduceMul, reduceSub, reduceIte, reduceEqDiff, reduceAdd, reduceCtorEq]
theorem k_isSmall (f : Nat) (h : f < 1024) : Fun Try.prog nz8 [fv f] (bv (smallN f)) := by
  refine fun_of mixed czgv rfl ⟨rfl, trivial⟩ ?_
  by_cases h0 : f = 0
  · subst h0
    simp only [Az5d, Bz5c, go_sem, yz0, Int.reduceLT, reduceLE, reduceToNat, reduceNeg, Nat.reduceLT, reduceLeDiff, reduceMul, reduceSub, reduceIte, reduceEqDiff, reduceAdd, reduceCtorEq]
    rfl
  · have e : IntKind.u64.wrap ((f : Int) - 1) = ((f - 1 : Nat) : Int) := by rw [show (f : Int) - 1 = ((f - 1 : Nat) : Int) by omega]; exact u64w (by omega)
    have hand := u_andW (x := f) (y := f - 1) (by omega) (by omega)
    have hb : ((((f &&& (f - 1) : Nat)) : Int) == 0) = smallN f := by
      unfold smallN
      rw [← dec_beqN, Bool.eq_iff_iff, beq_iff_eq, decide_eq_true_iff]; omega
    simp only [Az5d, Bz5c, e, hand, hb, go_sem, yz0, Int.reduceLT, reduceLE, reduceToNat, reduceNeg, Nat.reduceLT, reduceLeDiff, reduceMul, reduceSub, reduceIte, reduceEqDiff, reduceAdd, reduceCtorEq]
theorem k_IndexFuncF (xs : List Nat) (g : FuncId) (caps : List AVal) (p : Nat → Bool) (hc : Caps caps) (h : ∀ x ∈ xs, Fun Try.prog g (fv x :: caps) (bv (p x))) :
    Fun Try.prog nz1i [.ro none 1 (intsK .u64 (xs.map fun (x : Nat) => (x : Int))), .clo g caps] (iv (fidx p xs 0)) := by
  refine fun_of mixed czhe rfl ⟨rfl, trivial⟩ ?_
  simp only [Azcw, Bzcv, hc.dn, go_sem, yz0, Int.reduceLT, reduceLE, reduceToNat, reduceNeg, Nat.reduceLT, reduceLeDiff, reduceMul, reduceSub, reduceIte, reduceEqDiff, reduceAdd, reduceCtorEq]
  intro hM
  have hM2 := maxLen_le
  have hM : (xs.length : Int) ≤ maxLen := by simpa using hM
  simp only [Bzct, hc.dn, go_sem, yz0, Int.reduceLT, reduceLE, reduceToNat, reduceNeg, Nat.reduceLT, reduceLeDiff, reduceMul, reduceSub, reduceIte, reduceEqDiff, reduceAdd, reduceCtorEq]
  refine wpD_lo (fun i => xs.length - i) (fun i => i ≤ xs.length ∧ fidx p (xs.drop i) i = fidx p xs 0)
    (fun i : Nat => ⟨L .any [(0, .ro none 1 (intsK .u64 (xs.map fun (x : Nat) => (x : Int)))), (1, .clo g caps), (7, iv xs.length), (8, iv i)], L .gone []⟩) 0 (by simp) (by simp only [Bz2i, hc.dn, go_sem, yz0, Int.reduceLT, reduceLE, reduceToNat, reduceNeg, Nat.reduceLT, reduceLeDiff, reduceMul, reduceSub, reduceIte, reduceEqDiff, reduceAdd, reduceCtorEq]; try rfl) ?_
  rintro i ⟨hi, he⟩
  by_cases hlt : (i : Int) < xs.length
  · have hlt' : i < xs.length := by omega
    have hlm : i < (xs.map fun (x : Nat) => (x : Int)).length := by simpa using hlt'
    have hg : (xs.map fun (x : Nat) => (x : Int)).getD i 0 = ((xs.getD i 0 : Nat) : Int) := by
      rw [List.getD_eq_getElem?_getD, List.getElem?_map, List.getElem?_eq_getElem hlt', List.getD_eq_getElem?_getD, List.getElem?_eq_getElem hlt']; rfl
    have w1 : IntKind.i64.wrap ((i : Int) + 1) = ((i + 1 : Nat) : Int) := by rw [w64 (by omega)]; simp
    rw [drop_getD hlt' 0] at he
    simp only [fidx] at he
    simp only [Bz2i, Bz63, Bz62, Bzcr, yzx hlm, hg, decide_eq_true hlt, hc.dn, go_sem, yz0, Int.reduceLT, reduceLE, reduceToNat, reduceNeg, Nat.reduceLT, reduceLeDiff, reduceMul, reduceSub, reduceIte, reduceEqDiff, reduceAdd, reduceCtorEq]
    intro vs
    refine ⟨⟨by omega, hlt'⟩, hlt', ?_⟩
    refine yzy (h _ (yz10 hlt' 0)) (by simp only [rowIs, boxIs, coe_argN, coe_argNs, coe_ro_o, yz18, yzs, coe_any, coe_val, coe_ro, yz17, yz15, coe_st, yz16, coe_rp, yz14, coe_clo, coe_own0, coe_ptr0, yz13, coeL_rws, coeL_rwn, L_hit, L_miss, L_nil, reduceEqDiff, ne_eq, reduceCtorEq, not_false_eq_true, true_and, and_true, and_self, exists_eq_left, exists_eq_right, List.mem_cons, List.not_mem_nil, or_false, AObj.row.injEq, AObj.box.injEq, exists_eq_left', exists_and_left, exists_eq, Nat.zero_lt_one, Nat.lt_add_one, List.map_cons, List.map_nil, AObj.ver, Nat.reduceLT, not_true_eq_false]; exact hc.coe _ _ _) trivial ?_
    simp only [Bzcq, Bzcs, w1, hc.dn, go_sem, yz0, Int.reduceLT, reduceLE, reduceToNat, reduceNeg, Nat.reduceLT, reduceLeDiff, reduceMul, reduceSub, reduceIte, reduceEqDiff, reduceAdd, reduceCtorEq]
    refine ⟨fun hp => ?_, fun hp => ⟨i + 1, by omega, ⟨by omega, ?_⟩, rfl⟩⟩
    · rw [hp] at he; simp at he; rw [← he]
    · rw [hp] at he; simpa using he
  · have : i = xs.length := by omega
    subst this
    rw [List.drop_length] at he
    simp only [fidx] at he
    simp only [Bz2i, Bz63, Bz62, Bzcu, decide_eq_false hlt, hc.dn, go_sem, yz0, Int.reduceLT, reduceLE, reduceToNat, reduceNeg, Nat.reduceLT, reduceLeDiff, reduceMul, reduceSub, reduceIte, reduceEqDiff, reduceAdd, reduceCtorEq]
    rw [← he]
def stepTo (row set : List Int) : Nat := set.foldl (fun o s => o ||| 2 ^ (row.getD s.toNat 0).toNat) 0
theorem stepTo_all {row : List Int} {f : Nat} : stepTo row (bitsTo f 10) = stepN row f := by
  unfold stepTo stepN bitsTo bitsN
  rw [List.foldl_map]
  rfl
theorem k_step (n : Int) (next : List (List Int)) (A : Aut n next) (f l : Nat) (hf : f < 2 ^ n.toNat) (hl : l < next.length) :
    Fun Try.prog nz3l [autA n next, fv f, iv l] (fv (stepN (next.getD l []) f)) := by
  refine fun_of mixed czhc rfl ⟨rfl, trivial⟩ ?_
  have n1 := A.n1
  have n2 := A.n2
  have hf10 : f < 1024 := Nat.lt_of_lt_of_le hf (Nat.pow_le_pow_right (by omega) (show n.toNat ≤ 10 by omega))
  have hrow := A.row _ (yz10 hl [])
  have hset : ∀ s ∈ bitsTo f 10, 0 ≤ s ∧ s < n := fun s hs => by
    unfold bitsTo at hs
    obtain ⟨k, hk, rfl⟩ := List.mem_map.1 hs
    have := bits_lt hf (show k ∈ bitsN f from hk)
    omega
  have hto : ∀ s ∈ bitsTo f 10, ((next.getD l []).getD s.toNat 0).toNat < 10 := fun s hs => by
    have h1 := hset s hs
    have := hrow.2 _ (yz10 (show s.toNat < (next.getD l []).length by omega) 0)
    omega
  simp only [Azcl, Bzck, go_sem, yz0, Int.reduceLT, reduceLE, reduceToNat, reduceNeg, Nat.reduceLT, reduceLeDiff, reduceMul, reduceSub, reduceIte, reduceEqDiff, reduceAdd, reduceCtorEq]
  intro vs
  simp only [Bzcj, go_sem, yz0, Int.reduceLT, reduceLE, reduceToNat, reduceNeg, Nat.reduceLT, reduceLeDiff, reduceMul, reduceSub, reduceIte, reduceEqDiff, reduceAdd, reduceCtorEq]
  intro vs2
  refine call_rowI (k_flock_set f hf10) qCS rfl ⟨_, rfl⟩ ?_
  rintro ys v rfl
  simp only [Bzch, go_sem, yz0, Int.reduceLT, reduceLE, reduceToNat, reduceNeg, Nat.reduceLT, reduceLeDiff, reduceMul, reduceSub, reduceIte, reduceEqDiff, reduceAdd, reduceCtorEq]
  intro hM
  have hM2 := maxLen_le
  generalize hS : bitsTo f 10 = set at hset hto hM ⊢
  refine wpD_lo (fun i => set.length - i) (fun i => i ≤ set.length)
    (fun i : Nat => ⟨L .any [(2, iv l), (3, .ptr 3 (vs 0 0) 0), (7, fv (stepTo (next.getD l []) (set.take i))), (11, .own 11 v), (12, iv set.length), (13, iv i)], L .gone [(3, .box (vs 0 0) [iv n, .ro none 1 (rwn next)]), (11, .row v 1 true (ints set))]⟩) 0 (by simp) (by simp only [Bz2h, go_sem, yz0, Int.reduceLT, reduceLE, reduceToNat, reduceNeg, Nat.reduceLT, reduceLeDiff, reduceMul, reduceSub, reduceIte, reduceEqDiff, reduceAdd, reduceCtorEq]; try rfl) ?_
  rintro i hi
  by_cases hlt : (i : Int) < set.length
  · have hlt1 : i < set.length := by omega
    have hs := hset _ (yz10 hlt1 0)
    have ht := hto _ (yz10 hlt1 0)
    have hc : (set.getD i 0).toNat < (next.getD l []).length := by omega
    have hv := hrow.2 _ (yz10 hc 0)
    have hs0 : ¬ (next.getD l []).getD (set.getD i 0).toNat 0 < 0 := by omega
    have h1 : stepTo (next.getD l []) (set.take i) < 1024 := fold_lt (fun s : Int => ((next.getD l []).getD s.toNat 0).toNat) (set.take i) 0 (fun x hx => hto x (List.mem_of_mem_take hx)) (by omega)
    have h2 := pow_lt10 ht
    have hsl := u_shl (b := ((next.getD l []).getD (set.getD i 0).toNat 0).toNat) (by omega)
    have hor := u_orW (x := stepTo (next.getD l []) (set.take i)) (y := 2 ^ ((next.getD l []).getD (set.getD i 0).toNat 0).toNat) (by omega) (by omega)
    have hr : stepTo (next.getD l []) (set.take i) ||| 2 ^ ((next.getD l []).getD (set.getD i 0).toNat 0).toNat = stepTo (next.getD l []) (set.take (i + 1)) := getD_snoc set (fun o s => o ||| 2 ^ ((next.getD l []).getD s.toNat 0).toNat) 0 0 hlt1
    simp only [Bz2h, Bz61, Bzcg, yzx hlt1, decide_eq_true hlt, go_sem, yz0, Int.reduceLT, reduceLE, reduceToNat, reduceNeg, Nat.reduceLT, reduceLeDiff, reduceMul, reduceSub, reduceIte, reduceEqDiff, reduceAdd, reduceCtorEq]
    refine ⟨⟨by omega, hlt1⟩, hlt1, ?_⟩
    simp only [Bzce, Bzcf, rwn_getD hl, yzx hc, hs0, hsl, hor, hr, nat1 i _ hlt1 hM, go_sem, yz0, Int.reduceLT, reduceLE, reduceToNat, reduceNeg, Nat.reduceLT, reduceLeDiff, reduceMul, reduceSub, reduceIte, reduceEqDiff, reduceAdd, reduceCtorEq]
    refine ⟨⟨by omega, hl⟩, hl, ⟨hs.1, hc⟩, hc, i + 1, by omega, by omega, rfl⟩
  · have : i = set.length := by omega
    subst this
    simp only [Bz2h, Bz61, Bzci, decide_eq_false hlt, List.take_length, go_sem, yz0, Int.reduceLT, reduceLE, reduceToNat, reduceNeg, Nat.reduceLT, reduceLeDiff, reduceMul, reduceSub, reduceIte, reduceEqDiff, reduceAdd, reduceCtorEq]
    rw [← hS, stepTo_all]
end Go.Ab
namespace Go.Ab
open Go.Proofs
abbrev keysF (L : TS) : List Value := L.map fun p => Value.int .u64 (p.1 : Int)
abbrev setsI (L : TS) : List Int := L.map fun p => (p.1 : Int)
theorem fkF_not {f : Nat} : ∀ {L : TS} (i : Nat), hasT L f = false → findKeyAt (.int .u64 (f : Int)) (keysF L) i = some none
  | [], _, _ => rfl
  | p :: L, i, h => by
    simp only [hasT, List.any_cons, Bool.or_eq_false_iff] at h
    have h1 : ((f : Int) == (p.1 : Int)) = false := by
      have : p.1 ≠ f := fun e => by rw [e, Nat.beq_refl] at h; cases h.1
      exact beq_false_of_ne fun e => this (by omega)
    have h2 := fkF_not (f := f) (L := L) (i + 1) h.2
    simp only [List.map_cons, findKeyAt, sameKey, h1, if_true]
    exact h2
theorem fkF_mem {f : Nat} : ∀ {L : TS} (i : Nat), hasT L f = true → ∃ j, findKeyAt (.int .u64 (f : Int)) (keysF L) i = some (some (i + j)) ∧ j < L.length
  | [], _, h => by cases h
  | p :: L, i, h => by
    by_cases e : p.1 = f
    · refine ⟨0, ?_, by simp⟩
      have h1 : ((f : Int) == (p.1 : Int)) = true := by rw [e]; exact beq_self_eq_true _
      simp only [List.map_cons, findKeyAt, sameKey, h1, if_true, Nat.add_zero]
    · have h0 : Nat.beq p.1 f = false := by rw [← dec_beqN]; exact decide_eq_false e
      simp only [hasT, List.any_cons, h0, Bool.false_or] at h
      have h1 : ((f : Int) == (p.1 : Int)) = false := beq_false_of_ne fun e' => e (by omega)
      obtain ⟨j, h2, h3⟩ := fkF_mem (f := f) (L := L) (i + 1) h
      refine ⟨j + 1, ?_, by simp; omega⟩
      simp only [List.map_cons, findKeyAt, sameKey, h1, if_true]
      rw [h2]; congr 2; omega
theorem fkF_at : ∀ {L : TS} (i k : Nat), (L.map (·.1)).Nodup → i < L.length → findKeyAt (.int .u64 ((L.getD i (0, [])).1 : Int)) (keysF L) k = some (some (k + i))
  | [], _, _, _, h => by simp at h
  | p :: L, 0, k, _, _ => by
    simp only [List.getD_cons_zero, List.map_cons, findKeyAt, sameKey, beq_self_eq_true, if_true, Nat.add_zero]
  | p :: L, i + 1, k, hd, h => by
    rw [List.map_cons, List.nodup_cons] at hd
    have hi : i < L.length := by simpa using h
    have hm := yz10 hi (0, ([] : List Int))
    have h1 : (((L.getD i (0, [])).1 : Int) == (p.1 : Int)) = false := beq_false_of_ne fun e => hd.1 (List.mem_map.2 ⟨_, hm, by omega⟩)
    have h2 := fkF_at (L := L) i (k + 1) hd.2 hi
    simp only [List.getD_cons_succ, List.map_cons, findKeyAt, sameKey, h1, if_true]
    rw [h2]; congr 2; omega
theorem setsI_getD {L : TS} {i : Nat} (h : i < L.length) : (setsI L).getD i 0 = ((L.getD i (0, [])).1 : Int) := by
  rw [List.getD_eq_getElem?_getD, List.getElem?_map, List.getElem?_eq_getElem h, List.getD_eq_getElem?_getD, List.getElem?_eq_getElem h]; rfl
theorem words_getD {L : TS} {i : Nat} (h : i < L.length) : (L.map (·.2)).getD i [] = (L.getD i (0, [])).2 := by
  rw [List.getD_eq_getElem?_getD, List.getElem?_map, List.getElem?_eq_getElem h, List.getD_eq_getElem?_getD, List.getElem?_eq_getElem h]; rfl
theorem k_tour (n : Int) (next : List (List Int)) (A : Aut n next) (f : Nat) (hf : f < 2 ^ n.toNat) :
    Fn Try.prog nz3b [autA n next, fv f] (fun rows res => ∃ v w, rows = [.row v 1 true (intsK .u64 (setsI (tourT next f))), .map w (keysF (tourT next f)) (rws ((tourT next f).map (·.2)))] ∧ res = .st [.own 6000 v, .mp 6001 w]) := by
  refine con_of mixed czgt rfl (by simp) ?_
  have n1 := A.n1
  have n2 := A.n2
  have l2 := A.l2
  have hN : 2 ^ n.toNat ≤ 1024 := Nat.pow_le_pow_right (n := 2) (by omega) (show n.toNat ≤ 10 by omega)
  have f0 : ∀ k : Value, findKeyAt k [] 0 = some none := fun _ => rfl
  generalize hQ : finQ _ = Q
  simp only [Az55, Bzas, f0, go_sem, yz0, Int.reduceLT, reduceLE, reduceToNat, reduceNeg, Nat.reduceLT, reduceLeDiff, reduceMul, reduceSub, reduceIte, reduceEqDiff, reduceAdd, reduceCtorEq]
  intro vs vs2
  refine ⟨⟨_, rfl, rfl⟩, ?_⟩
  simp only [Bzar, Bzap, go_sem, yz0, Int.reduceLT, reduceLE, reduceToNat, reduceNeg, Nat.reduceLT, reduceLeDiff, reduceMul, reduceSub, reduceIte, reduceEqDiff, reduceAdd, reduceCtorEq]
  refine ⟨fun r v' e => by cases e; exact ⟨_, _, _, rfl⟩, ?_⟩
  refine wpD_lo (fun (_, _, _, i, _) => 1100 - i)
    (fun (_, _, _, i, L) => TI n.toNat next.length L ∧ i ≤ List.length L ∧ runT next (1100 - i) i L = tourT next f)
    (fun ((v5, va, vm, i, L) : Nat × Nat × Nat × Nat × TS) => ⟨Go.Ab.L .any [(2, .ptr 2 (vs 0 0) 0), (4, .ptr 4 (vs 1 0) 0), (5, .ptr 5 v5 0), (6, iv i)],
      Go.Ab.L .gone [(2, .box (vs 0 0) [iv n, .ro none 1 (rwn next)]), (4, .box (vs 1 0) [nilS, .val (.map none)]), (5, .box v5 [.own 13 va, .mp 14 vm]), (13, .row va 1 true (intsK .u64 (setsI L))), (14, .map vm (keysF L) (rws (L.map (·.2))))]⟩)
    (_, _, _, 0, [(f, [])]) ⟨TI0 hf, by simp, rfl⟩ (by simp only [Bz27, go_sem, yz0, Int.reduceLT, reduceLE, reduceToNat, reduceNeg, Nat.reduceLT, reduceLeDiff, reduceMul, reduceSub, reduceIte, reduceEqDiff, reduceAdd, reduceCtorEq]; try rfl) ?_
  rintro ⟨v5, va, vm, i, L⟩ ⟨hI, hi, hR⟩
  have hi : i ≤ L.length := hi
  have hlen := hI.len
  by_cases hlt : (i : Int) < L.length
  · have hlt1 : i < L.length := by omega
    have hls : i < (setsI L).length := by simpa using hlt1
    have hm := yz10 hlt1 (0, ([] : List Int))
    have hfi := hI.rg _ hm
    have hwi := hI.wd _ hm
    simp only [Bz27, Bz4z, Bzao, yzx hls, setsI_getD hlt1, dnL_rws, decide_eq_true hlt, go_sem, yz0, Int.reduceLT, reduceLE, reduceToNat, reduceNeg, Nat.reduceLT, reduceLeDiff, reduceMul, reduceSub, reduceIte, reduceEqDiff, reduceAdd, reduceCtorEq]
    intro hM
    refine ⟨⟨by omega, hlt1⟩, hlt1, ?_⟩
    simp only [Bzam, go_sem, yz0, Int.reduceLT, reduceLE, reduceToNat, reduceNeg, Nat.reduceLT, reduceLeDiff, reduceMul, reduceSub, reduceIte, reduceEqDiff, reduceAdd, reduceCtorEq]
    intro vs3
    refine yzy (k_letters n next) qCS trivial ?_
    simp only [Bzal, go_sem, yz0, Int.reduceLT, reduceLE, reduceToNat, reduceNeg, Nat.reduceLT, reduceLeDiff, reduceMul, reduceSub, reduceIte, reduceEqDiff, reduceAdd, reduceCtorEq]
    have hM2 := maxLen_le
    generalize hfw : L.getD i (0, []) = fw at hm hfi hwi ⊢
    refine wpD_lo (fun (_, _, _, x, _) => next.length - x)
      (fun (_, _, _, x, L') => x ≤ next.length ∧ L' = visT next fw.1 fw.2 x L)
      (fun ((v5, va, vm, x, L') : Nat × Nat × Nat × Nat × TS) => ⟨Go.Ab.L .any [(2, .ptr 2 (vs 0 0) 0), (4, .ptr 4 (vs 1 0) 0), (5, .ptr 5 v5 0), (6, iv i), (7, fv fw.1), (32, iv next.length), (33, iv x)],
        Go.Ab.L .gone [(2, .box (vs 0 0) [iv n, .ro none 1 (rwn next)]), (4, .box (vs 1 0) [nilS, .val (.map none)]), (5, .box v5 [.own 13 va, .mp 14 vm]), (13, .row va 1 true (intsK .u64 (setsI L'))), (14, .map vm (keysF L') (rws (L'.map (·.2))))]⟩)
      (_, _, _, 0, L) ⟨by simp, rfl⟩ (by simp only [Bz26, dnL_rws, go_sem, yz0, Int.reduceLT, reduceLE, reduceToNat, reduceNeg, Nat.reduceLT, reduceLeDiff, reduceMul, reduceSub, reduceIte, reduceEqDiff, reduceAdd, reduceCtorEq]; try rfl) ?_
    rintro ⟨v5, va, vm, x, L'⟩ ⟨hx, rfl⟩
    have hx : x ≤ next.length := hx
    obtain ⟨hI', t, hpre⟩ := visT_ok A hI hlt1 x hx
    rw [hfw] at hI' hpre
    generalize hV : visT next fw.1 fw.2 x L = L' at hI' hpre ⊢
    have hlen' := hI'.len
    have hi2 : i < L'.length := by rw [hpre, List.length_append]; omega
    have hat : L'.getD i (0, []) = fw := by rw [hpre, getD_app hlt1, hfw]
    by_cases hxl : (x : Int) < next.length
    · have hxl1 : x < next.length := by omega
      have hto := stepN_lt A hxl1 hfi
      have w1 : IntKind.i64.wrap ((x : Int) + 1) = ((x + 1 : Nat) : Int) := by rw [w64 (by omega)]; simp
      simp only [Bz26, Bz54, Bzak, dnL_rws, decide_eq_true hxl, go_sem, yz0, Int.reduceLT, reduceLE, reduceToNat, reduceNeg, Nat.reduceLT, reduceLeDiff, reduceMul, reduceSub, reduceIte, reduceEqDiff, reduceAdd, reduceCtorEq]
      simp only [Bzaj, dnL_rws, go_sem, yz0, Int.reduceLT, reduceLE, reduceToNat, reduceNeg, Nat.reduceLT, reduceLeDiff, reduceMul, reduceSub, reduceIte, reduceEqDiff, reduceAdd, reduceCtorEq]
      intro vs4
      refine yzy (k_step n next A fw.1 x hfi hxl1) qCS trivial ?_
      have hsucc := visT_succ (next := next) (f := fw.1) (w := fw.2) (x := x) (L := L)
      rw [hV] at hsucc
      generalize stepN (next.getD x []) fw.1 = to at hto hsucc ⊢
      cases hh : hasT L' to with
      | true =>
        rw [hh, if_pos rfl] at hsucc
        obtain ⟨j, hj1, hj2⟩ := fkF_mem 0 hh
        rw [Nat.zero_add] at hj1
        simp only [Bz52, Bz51, Bz50, Bz53, hj1, w1, dnL_rws, go_sem, yz0, Int.reduceLT, reduceLE, reduceToNat, reduceNeg, Nat.reduceLT, reduceLeDiff, reduceMul, reduceSub, reduceIte, reduceEqDiff, reduceAdd, reduceCtorEq]
        exact ⟨(_, _, _, x + 1, _), by dsimp only; omega, ⟨by dsimp only; omega, hsucc.symm⟩, rfl⟩
      | false =>
        rw [hh, if_neg (by simp)] at hsucc
        have hj1 := fkF_not 0 hh
        have hk := fkF_at i 0 hI'.nd hi2
        rw [hat, Nat.zero_add] at hk
        have hwl : i < (L'.map (·.2)).length := by simpa using hi2
        have hwg := words_getD hi2
        rw [hat] at hwg
        simp only [Bz52, Bz51, Bz50, hj1, hk, rws_getD hwl, hwg, dnL_rws, go_sem, yz0, Int.reduceLT, reduceLE, reduceToNat, reduceNeg, Nat.reduceLT, reduceLeDiff, reduceMul, reduceSub, reduceIte, reduceEqDiff, reduceAdd, reduceCtorEq]
        intro vs5
        refine call_rowI (k_Clone fw.2 (by omega)) qCS qGN ⟨_, rfl⟩ ?_
        rintro xs v7 rfl
        simp only [hj1, dnL_rws, go_sem, yz0, Int.reduceLT, reduceLE, reduceToNat, reduceNeg, Nat.reduceLT, reduceLeDiff, reduceMul, reduceSub, reduceIte, reduceEqDiff, reduceAdd, reduceCtorEq]
        refine ⟨⟨_, rfl, rfl⟩, by omega, ⟨fun r v' e => by cases e; exact ⟨_, _, _, rfl⟩, ?_⟩⟩
        simp only [Bzai, Bz53, w1, dnL_rws, go_sem, yz0, Int.reduceLT, reduceLE, reduceToNat, reduceNeg, Nat.reduceLT, reduceLeDiff, reduceMul, reduceSub, reduceIte, reduceEqDiff, reduceAdd, reduceCtorEq]
        intro vs6
        exact ⟨⟨_, rfl, rfl⟩, by omega, (v5, vs6 4 0, vm, x + 1, L' ++ [(to, fw.2 ++ [(x : Int)])]), by dsimp only; omega, ⟨by dsimp only; omega, hsucc.symm⟩, by simp only [List.map_append, List.map_cons, List.map_nil]⟩
    · have : x = next.length := by omega
      subst this
      simp only [Bz26, Bz54, Bzan, dnL_rws, nat1 i _ hlt1 hM, decide_eq_false hxl, go_sem, yz0, Int.reduceLT, reduceLE, reduceToNat, reduceNeg, Nat.reduceLT, reduceLeDiff, reduceMul, reduceSub, reduceIte, reduceEqDiff, reduceAdd, reduceCtorEq]
      obtain ⟨F, hF⟩ : ∃ F, 1100 - i = F + 1 := ⟨1099 - i, by omega⟩
      have hF2 : 1100 - (i + 1) = F := by omega
      rw [hF] at hR
      simp only [runT, if_pos hlt1, hfw, hV] at hR
      exact ⟨(_, _, _, i + 1, L'), by dsimp only; omega, ⟨hI', by dsimp only; omega, by dsimp only; rw [hF2]; exact hR⟩, rfl⟩
  · have : i = L.length := by omega
    subst this
    have hend : L = tourT next f := by
      obtain ⟨F, hF⟩ : ∃ F, 1100 - L.length = F + 1 := ⟨1099 - L.length, by omega⟩
      rw [← hR, hF]; simp only [runT, Nat.lt_irrefl, if_false]
    simp only [Bz27, Bz4z, Bzaq, decide_eq_false hlt, Az55, ← hQ, go_sem, yz0, Int.reduceLT, reduceLE, reduceToNat, reduceNeg, Nat.reduceLT, reduceLeDiff, reduceMul, reduceSub, reduceIte, reduceEqDiff, reduceAdd, reduceCtorEq]
    intro hM
    refine ⟨[13, 14], by simp, by simp, by simp, ?_⟩
    simp only [hend, Nat.not_lt_zero, range1, yzw, yz11, ren_ro, rnNm_n, yz12, rnNm_o, rnNm_s, ren_st, yzz, yzo, yzf, yz4, yzu, yzt, yzp, yzn, yzr, yzc, yz9, yz8, yze, yzj, yzl, yz3, yz7, yzb, yzd, yzi, yzm, List.range_zero, yz6, yz5, yza, yzv, yzh, yzq, AVal.fresh, freshL, yz2, yzk, AObj.fresh, id, Option.isSome_some, or_true, true_or, go_sem, yz0, Int.reduceLT, reduceLE, reduceToNat, reduceNeg, Nat.reduceLT, reduceLeDiff, reduceMul, reduceSub, reduceIte, reduceEqDiff, reduceAdd, reduceCtorEq]
    exact ⟨va, vm, rfl, rfl⟩
theorem k_IndexFuncT (T : TS) (h : ∀ p ∈ T, p.1 < 1024) :
    Fun Try.prog nz1i [.ro none 1 (intsK .u64 (setsI T)), .clo nz8 []] (iv (fidx smallN (T.map (·.1)) 0)) := by
  have hx := k_IndexFuncF (T.map (·.1)) nz8 [] smallN ⟨by simp only [go_sem, yz0, Int.reduceLT, reduceLE, reduceToNat, reduceNeg, Nat.reduceLT, reduceLeDiff, reduceMul, reduceSub, reduceIte, reduceEqDiff, reduceAdd, reduceCtorEq], by intros; simp only [rowIs, boxIs, coe_argN, coe_argNs, coe_ro_o, yz18, yzs, coe_any, coe_val, coe_ro, yz17, yz15, coe_st, yz16, coe_rp, yz14, coe_clo, coe_own0, coe_ptr0, yz13, coeL_rws, coeL_rwn, L_hit, L_miss, L_nil, reduceEqDiff, ne_eq, reduceCtorEq, not_false_eq_true, true_and, and_true, and_self, exists_eq_left, exists_eq_right, List.mem_cons, List.not_mem_nil, or_false, AObj.row.injEq, AObj.box.injEq, exists_eq_left', exists_and_left, exists_eq, Nat.zero_lt_one, Nat.lt_add_one, List.map_cons, List.map_nil, AObj.ver, Nat.reduceLT, not_true_eq_false]⟩ (fun x hx => by
    obtain ⟨p, hp, rfl⟩ := List.mem_map.1 hx
    exact k_isSmall p.1 (h p hp))
  rw [List.map_map] at hx
  exact hx
theorem firstT_idx {f : Nat} {w : List Int} : ∀ {T : TS} (k : Nat), firstT T = some (f, w) → ∃ i, fidx smallN (T.map (·.1)) k = ((k + i : Nat) : Int) ∧ i < T.length ∧ T.getD i (0, []) = (f, w)
  | [], _, h => by cases h
  | p :: T, k, h => by
    simp only [firstT, List.find?_cons] at h
    cases hs : smallN p.1 with
    | true =>
      rw [hs] at h
      simp only [Option.some.injEq] at h
      exact ⟨0, by simp only [List.map_cons, fidx, hs, if_true, Nat.add_zero], by simp, by simpa using h⟩
    | false =>
      rw [hs] at h
      obtain ⟨i, h1, h2, h3⟩ := firstT_idx (T := T) (k + 1) h
      refine ⟨i + 1, ?_, by simp; omega, by simpa using h3⟩
      simp only [List.map_cons, fidx, hs, Bool.false_eq_true, if_false, h1]
      congr 1; omega
theorem k_first (N m : Nat) (T : TS) (hI : TI N m T) (hN : 2 ^ N ≤ 1024) (f : Nat) (w : List Int) (hf : firstT T = some (f, w)) :
    Con Try.prog nz1b [.row 0 1 true (intsK .u64 (setsI T)), .map 1 (keysF T) (rwn (T.map (·.2)))] [.st [.own 5000 0, .mp 5001 1], .clo nz8 []] true
      fun outs rows res => outs = [.row 0 1 true (intsK .u64 (setsI T)), .map 1 (keysF T) (rwn (T.map (·.2)))] ∧ rows = [] ∧ res = .tup [.ro none 1 (ints w), iv 0] := by
  refine con_sh mixed czb1 rfl (by simp) ?_
  obtain ⟨i, h1, h2, h3⟩ := firstT_idx 0 hf
  rw [Nat.zero_add] at h1
  have hls : i < (setsI T).length := by simpa using h2
  have hsg := setsI_getD h2
  have hk := fkF_at i 0 hI.nd h2
  rw [h3, Nat.zero_add] at hk
  rw [h3] at hsg
  have hwl : i < (T.map (·.2)).length := by simpa using h2
  have hwg := words_getD h2
  rw [h3] at hwg
  simp only [Az5b, Bz5a, go_sem, yz0, Int.reduceLT, reduceLE, reduceToNat, reduceNeg, Nat.reduceLT, reduceLeDiff, reduceMul, reduceSub, reduceIte, reduceEqDiff, reduceAdd, reduceCtorEq]
  intro vs vs2
  refine yzy (k_IndexFuncT T (fun p hp => by have := hI.rg p hp; omega)) qCS trivial ?_
  have hi0 : ¬ (i : Int) < 0 := by omega
  simp only [h1, Bz59, Bz58, Bzb0, decide_eq_false hi0, yzx hls, hsg, hk, rwn_getD hwl, hwg, go_sem, yz0, Int.reduceLT, reduceLE, reduceToNat, reduceNeg, Nat.reduceLT, reduceLeDiff, reduceMul, reduceSub, reduceIte, reduceEqDiff, reduceAdd, reduceCtorEq]
  refine ⟨⟨by omega, h2⟩, h2, [], by simp, by simp, by simp, ?_⟩
  simp only [List.nil_append, List.cons_append, Nat.add_zero, reduceAdd, Nat.not_lt_zero, range1, yzw, yz11, ren_ro, rnNm_n, yz12, rnNm_o, rnNm_s, ren_st, yzz, yzo, yzf, yz4, yzu, yzt, yzp, yzn, yzr, yzc, yz9, yz8, yze, yzj, yzl, yz3, yz7, yzb, yzd, yzi, yzm, List.range_zero, yz6, yz5, yza, yzv, yzh, yzq, AVal.fresh, freshL, yz2, yzk, AObj.fresh, id, Option.isSome_some, or_true, true_or, go_sem, yz0, Int.reduceLT, reduceLE, reduceToNat, reduceNeg, Nat.reduceLT, reduceLeDiff, reduceMul, reduceSub, reduceIte, reduceEqDiff, reduceAdd, reduceCtorEq]
theorem callHp_m2 {hp : Nat → AObj} {r q d : Nat} {s : Nat → Nat} {o0 o1 : AObj} (hne : r ≠ q) :
    callHp hp [r, q] d s [o0, o1] [] = upd (upd hp r (o0.ren (rid [r, q] d 0) (sv hp [r, q] s))) q (o1.ren (rid [r, q] d 0) (sv hp [r, q] s)) := by
  funext n
  by_cases h : n = q
  · have h1 : rid [r, q] d ([] : List AObj).length 5001 = some n := by rw [h]; exact rid_m (j := 1) (by omega) rfl
    rw [callHp_at (by simp [hne]) (by simp) h1]
    simp [upd, h, outHp]
  · by_cases h' : n = r
    · have h1 : rid [r, q] d ([] : List AObj).length 5000 = some n := by rw [h']; exact rid_m (j := 0) (by omega) rfl
      rw [callHp_at (by simp [hne]) (by simp) h1]
      simp [upd, h, h', outHp, hne]
    · rw [callHp_not]
      · simp [upd, h, h']
      · rintro ⟨x, hx⟩
        rcases rid_cases hx with ⟨j, rfl, _, h3⟩ | ⟨i, rfl, h3, _⟩
        · match j, h3 with
          | 0, h3 => simp at h3; exact h' h3.symm
          | 1, h3 => simp at h3; exact h h3.symm
          | j + 2, h3 => simp at h3
        · simp at h3
theorem call_rm {P : Program} {σ : St} {g : FuncId} {As args : List AVal} {d : Nat} {s : Nat → Nat} {K : St → Prop} {r q v u : Nat} {cs cs' : List AVal} {ks : List Value} {vs vs' : List AVal} {R : AVal}
    (h : Con P g [.row 0 1 true cs, .map 1 ks vs] (.st [.own 5000 0, .mp 5001 1] :: args) true fun outs rows res => outs = [.row 0 1 true cs, .map 1 ks vs] ∧ rows = [] ∧ res = R)
    (hr : σ.hp r = .row v 1 true cs') (hq : σ.hp q = .map u ks vs') (hne : r ≠ q) (hc : CoeL σ.hp [r, q] false cs cs') (hv : CoeL σ.hp [r, q] false vs vs') (ha : CoeL σ.hp [r, q] false args As)
    (hk : K (St.put ⟨σ.tm, upd (upd σ.hp r ((AObj.row 0 1 true cs).ren (rid [r, q] d 0) (sv σ.hp [r, q] s))) q ((AObj.map 1 ks vs).ren (rid [r, q] d 0) (sv σ.hp [r, q] s))⟩ (some d) (R.ren (rid [r, q] d 0) (sv σ.hp [r, q] s)))) : wpCall P false σ g (.st [.own r v, .mp q u] :: As) (some d) s K := by
  refine .inl ⟨[r, q], _, _, true, _, h, ⟨by simp, rfl, by simp [hne], ?_, ?_⟩, ?_, (fun e => by cases e), ?_⟩
  · intro x hx
    simp only [List.mem_cons, List.not_mem_nil, or_false] at hx
    rcases hx with rfl | rfl
    · simp [hr]
    · simp [hq]
  · intro j B r' hB hr'
    match j, hB, hr' with
    | 0, hB, hr' =>
      simp at hB hr'; subst hB; subst hr'
      simp only [ObjCoe, hr]
      exact ⟨trivial, v, cs', rfl, hc⟩
    | 1, hB, hr' =>
      simp at hB hr'; subst hB; subst hr'
      simp only [ObjCoe, hq]
      exact ⟨trivial, u, vs', rfl, hv⟩
    | j + 2, hB, hr' => simp at hB
  · rw [yzs]
    refine ⟨?_, ha⟩
    rw [coe_st, yzs, yzs, yz18]
    simp only [Coe]
    exact ⟨⟨0, r, v, rfl, rfl, rfl, rfl, by rw [hr]; rfl⟩, ⟨1, q, u, rfl, rfl, rfl, rfl, by rw [hq]; rfl⟩, trivial⟩
  · rintro outs rows res ⟨rfl, rfl, rfl⟩
    refine ⟨rfl, by simp, by simp, ?_⟩
    rw [Option.getD_some, callHp_m2 hne]
    exact hk
theorem maskN_all {n : Int} (h : 1 ≤ n ∧ n ≤ 10) : maskN (allS n) = 2 ^ n.toNat - 1 := by
  obtain ⟨k, rfl⟩ : ∃ k : Nat, n = k := ⟨n.toNat, by omega⟩
  have h2 : k = 1 ∨ k = 2 ∨ k = 3 ∨ k = 4 ∨ k = 5 ∨ k = 6 ∨ k = 7 ∨ k = 8 ∨ k = 9 ∨ k = 10 := by omega
  rcases h2 with rfl | rfl | rfl | rfl | rfl | rfl | rfl | rfl | rfl | rfl <;> decide
end Go.Ab
namespace Go.Ab
def imN (next : List (List Int)) (f : Nat) (w : List Int) : Nat := w.foldl (fun f l => stepN (next.getD l.toNat []) f) f
theorem imN_snoc {next : List (List Int)} {f : Nat} {w : List Int} {x : Int} : imN next f (w ++ [x]) = stepN (next.getD x.toNat []) (imN next f w) := by simp [imN]
def SndT (next : List (List Int)) (f0 : Nat) (L : TS) : Prop := ∀ p ∈ L, p.1 = imN next f0 p.2
theorem SndT.vis {next : List (List Int)} {f0 f : Nat} {w : List Int} (hf : f = imN next f0 w) : ∀ (x : Nat) {L : TS}, SndT next f0 L → SndT next f0 (visT next f w x L)
  | 0, _, h => h
  | x + 1, L, h => by
    have h1 := SndT.vis hf x h
    rw [visT_succ]
    split
    · exact h1
    · intro p hp
      rcases List.mem_append.1 hp with hp | hp
      · exact h1 p hp
      · have hp : p = (stepN (next.getD x []) f, w ++ [(x : Int)]) := by simpa using hp
        rw [hp, imN_snoc, ← hf]; rfl
theorem SndT.run {next : List (List Int)} {f0 : Nat} : ∀ (F i : Nat) {L : TS}, SndT next f0 L → SndT next f0 (runT next F i L)
  | 0, _, _, h => h
  | F + 1, i, L, h => by
    simp only [runT]
    split
    · rename_i hi
      exact SndT.run F (i + 1) (SndT.vis (h _ (yz10 hi _)) _ h)
    · exact h
theorem atA_app {next : List (List Int)} {s : Int} {u v : List Int} : atA next s (u ++ v) = atA next (atA next s u) v := by simp [atA, List.foldl_append]
theorem fidx_eq {q : Int} : ∀ {xs : List Int} (k : Nat), q ∈ xs → ∃ i : Nat, fidx (fun y => q == y) xs k = ((k + i : Nat) : Int) ∧ i < xs.length ∧ xs.getD i 0 = q
  | [], _, h => by simp at h
  | x :: xs, k, h => by
    by_cases e : q = x
    · exact ⟨0, by simp [fidx, e], by simp, by simpa using e.symm⟩
    · obtain ⟨i, h1, h2, h3⟩ := fidx_eq (xs := xs) (k + 1) (by simpa [e] using h)
      have e1 : (q == x) = false := beq_false_of_ne e
      refine ⟨i + 1, ?_, by simp; omega, by simpa using h3⟩
      simp only [fidx, e1, Bool.false_eq_true, if_false, h1]
      congr 1; omega
end Go.Ab
namespace Go.Ab
open Go.Proofs
theorem firstT_no : ∀ {T : TS} (k : Nat), firstT T = none → fidx smallN (T.map (·.1)) k = -1
  | [], _, _ => rfl
  | p :: T, k, h => by
    simp only [firstT, List.find?_cons] at h
    cases hs : smallN p.1 with
    | true => rw [hs] at h; cases h
    | false =>
      rw [hs] at h
      have h1 := firstT_no (T := T) (k + 1) h
      simp only [List.map_cons, fidx, hs, Bool.false_eq_true, if_false, h1]
theorem k_firstN (N m : Nat) (T : TS) (hI : TI N m T) (hN : 2 ^ N ≤ 1024) (hf : firstT T = none) :
    Con Try.prog nz1b [.row 0 1 true (intsK .u64 (setsI T)), .map 1 (keysF T) (rwn (T.map (·.2)))] [.st [.own 5000 0, .mp 5001 1], .clo nz8 []] true
      fun outs rows res => outs = [.row 0 1 true (intsK .u64 (setsI T)), .map 1 (keysF T) (rwn (T.map (·.2)))] ∧ rows = [] ∧ res = .tup [.val (.slice none 0 0), iv 6] := by
  refine con_sh mixed czb1 rfl (by simp) ?_
  have h1 := firstT_no 0 hf
  simp only [Az5b, Bz5a, go_sem, yz0, Int.reduceLT, reduceLE, reduceToNat, reduceNeg, Nat.reduceLT, reduceLeDiff, reduceMul, reduceSub, reduceIte, reduceEqDiff, reduceAdd, reduceCtorEq]
  intro vs vs2
  refine yzy (k_IndexFuncT T (fun p hp => by have := hI.rg p hp; omega)) qCS trivial ?_
  have hi0 : ((-1 : Int) < 0) := by omega
  simp only [h1, Bz59, Bz58, decide_eq_true hi0, go_sem, yz0, Int.reduceLT, reduceLE, reduceToNat, reduceNeg, Nat.reduceLT, reduceLeDiff, reduceMul, reduceSub, reduceIte, reduceEqDiff, reduceAdd, reduceCtorEq]
  refine ⟨[], by simp, by simp, by simp, ?_⟩
  simp only [List.nil_append, List.cons_append, Nat.add_zero, reduceAdd, Nat.not_lt_zero, range1, yzw, yz11, ren_ro, rnNm_n, yz12, rnNm_o, rnNm_s, ren_st, yzz, yzo, yzf, yz4, yzu, yzt, yzp, yzn, yzr, yzc, yz9, yz8, yze, yzj, yzl, yz3, yz7, yzb, yzd, yzi, yzm, List.range_zero, yz6, yz5, yza, yzv, yzh, yzq, AVal.fresh, freshL, yz2, yzk, AObj.fresh, id, Option.isSome_some, or_true, true_or, go_sem, yz0, Int.reduceLT, reduceLE, reduceToNat, reduceNeg, Nat.reduceLT, reduceLeDiff, reduceMul, reduceSub, reduceIte, reduceEqDiff, reduceAdd, reduceCtorEq]
def shortR (next : List (List Int)) (n : Int) : AVal := match firstT (tourT next (2 ^ n.toNat - 1)) with
  | some (_, w) => .tup [.ro none 1 (ints w), iv 0]
  | none => .tup [.val (.slice none 0 0), iv 6]
end Go.Ab
namespace Go.Ab
structure ClS (n : Int) (next : List (List Int)) (set : List Int) : Prop where
  rg : ∀ x ∈ set, 0 ≤ x ∧ x < n
  cl : ∀ x ∈ set, ∀ row ∈ next, row.getD x.toNat 0 ∈ set
theorem renR_len {set row : List Int} : (renR set row).length = set.length := by simp [renR]
theorem Aut.rest {n : Int} {next : List (List Int)} {set : List Int} (A : Aut n next) (C : ClS n next set) (h0 : 1 ≤ set.length) (h1 : set.length ≤ 10) : Aut set.length (next.map (renR set)) := by
  have l1 := A.l1
  have l2 := A.l2
  refine ⟨by omega, by omega, by rw [List.length_map]; omega, by rw [List.length_map]; omega, ?_⟩
  intro row hr
  obtain ⟨row, hr', rfl⟩ := List.mem_map.1 hr
  refine ⟨by rw [renR_len], fun x hx => ?_⟩
  obtain ⟨s, hs, rfl⟩ := List.mem_map.1 hx
  obtain ⟨i, h1, h2, h3⟩ := fidx_eq 0 (C.cl s hs row hr')
  simp only [h1, Nat.zero_add]
  omega
theorem actA_getD {n : Int} {next : List (List Int)} {w : List Int} {i : Nat} (h : (i : Int) < n) : (actA n next w).getD i 0 = atA next i w := by
  rw [List.getD_eq_getElem?_getD, actA, List.getElem?_map, List.getElem?_range (by omega)]; rfl
end Go.Ab
namespace Go.Ab
open Go.Proofs
theorem k_a2Map (xs : List Int) (n : Int) (h : ∀ x ∈ xs, 0 ≤ x ∧ x < n) (hl : (xs.length : Int) = n) : Fun Try.prog nz33 [.ro none 1 (ints xs), iv n] (bv true) := by
  refine fun_of mixed czg5 rfl ⟨rfl, trivial⟩ ?_
  simp only [Az7w, Bz7v, Bz7t, go_sem, yz0, Int.reduceLT, reduceLE, reduceToNat, reduceNeg, Nat.reduceLT, reduceLeDiff, reduceMul, reduceSub, reduceIte, reduceEqDiff, reduceAdd, reduceCtorEq]
  refine wpD_lo (fun i => xs.length - i) (fun i => i ≤ xs.length)
    (fun (i : Nat) => ⟨L .any [(0, .ro none 1 (ints xs)), (1, iv n), (5, iv i)], L .gone []⟩)
    0 (by simp) (by simp only [Bz1q, go_sem, yz0, Int.reduceLT, reduceLE, reduceToNat, reduceNeg, Nat.reduceLT, reduceLeDiff, reduceMul, reduceSub, reduceIte, reduceEqDiff, reduceAdd, reduceCtorEq]; try rfl) ?_
  intro i hi
  by_cases hlt : (i : Int) < xs.length
  · have hlt1 : i < xs.length := by omega
    have hx := h _ (yz10 hlt1 0)
    have g1 : ¬ xs.getD i 0 < 0 := by omega
    have g2 : ¬ xs.getD i 0 ≥ n := by omega
    simp only [Bz1q, Bz4d, Bz7s, yzx hlt1, decide_eq_true hlt, decide_eq_false g1, decide_eq_false g2, go_sem, yz0, Int.reduceLT, reduceLE, reduceToNat, reduceNeg, Nat.reduceLT, reduceLeDiff, reduceMul, reduceSub, reduceIte, reduceEqDiff, reduceAdd, reduceCtorEq]
    intro hM
    refine ⟨⟨by omega, hlt1⟩, hlt1, ⟨by omega, hlt1⟩, hlt1, ?_⟩
    simp only [Bz7q, Bz7r, nat1 i _ hlt1 hM, go_sem, yz0, Int.reduceLT, reduceLE, reduceToNat, reduceNeg, Nat.reduceLT, reduceLeDiff, reduceMul, reduceSub, reduceIte, reduceEqDiff, reduceAdd, reduceCtorEq]
    exact ⟨i + 1, by omega, by omega, rfl⟩
  · have e1 : ((xs.length : Int) == n) = true := by rw [hl]; simp
    simp only [Bz1q, Bz4d, Bz7u, e1, decide_eq_false hlt, go_sem, yz0, Int.reduceLT, reduceLE, reduceToNat, reduceNeg, Nat.reduceLT, reduceLeDiff, reduceMul, reduceSub, reduceIte, reduceEqDiff, reduceAdd, reduceCtorEq]
end Go.Ab
namespace Go.Ab
def seenT (N : Nat) (L : TS) : List Bool := (List.range N).map fun f => hasT L f
theorem seenT_len {N : Nat} {L : TS} : (seenT N L).length = N := by simp [seenT]
theorem seenT_getD {N f : Nat} {L : TS} (h : f < N) : (seenT N L).getD f false = hasT L f := by
  rw [seenT, List.getD_eq_getElem?_getD, List.getElem?_map, List.getElem?_range h]; rfl
theorem hasT_add {L : TS} {f g : Nat} {w : List Int} : hasT (L ++ [(f, w)]) g = (hasT L g || Nat.beq f g) := by simp [hasT]
theorem seenT_add {N f : Nat} {L : TS} {w : List Int} (h : f < N) : seenT N (L ++ [(f, w)]) = (seenT N L).take f ++ [true] ++ (seenT N L).drop (f + 1) := by
  apply List.ext_getElem?
  intro i
  by_cases hi : i < N
  · have h1 : (seenT N (L ++ [(f, w)]))[i]? = some (hasT L i || Nat.beq f i) := by rw [seenT, List.getElem?_map, List.getElem?_range hi]; simp [hasT_add]
    rw [h1]
    have hl : (List.take f (seenT N L)).length = f := by rw [List.length_take, seenT_len]; omega
    rw [List.append_assoc]
    by_cases e : i < f
    · rw [List.getElem?_append_left (by omega), List.getElem?_take_of_lt e, seenT, List.getElem?_map, List.getElem?_range hi]
      have : Nat.beq f i = false := by rw [Bool.eq_false_iff]; intro h2; have := Nat.eq_of_beq_eq_true h2; omega
      simp [this]
    · rw [List.getElem?_append_right (by omega), hl]
      by_cases e2 : i = f
      · subst e2
        have : Nat.beq i i = true := Nat.beq_refl i
        simp [this]
      · obtain ⟨d, rfl⟩ : ∃ d, i = f + 1 + d := ⟨i - f - 1, by omega⟩
        have : Nat.beq f (f + 1 + d) = false := by rw [Bool.eq_false_iff]; intro h2; have := Nat.eq_of_beq_eq_true h2; omega
        rw [show f + 1 + d - f = d + 1 by omega, List.singleton_append, List.getElem?_cons_succ, List.getElem?_drop, seenT, List.getElem?_map, List.getElem?_range hi]
        simp [this]
  · rw [List.getElem?_eq_none (by rw [seenT_len]; omega), List.getElem?_eq_none]
    rw [List.length_append, List.length_append, List.length_take, List.length_drop, seenT_len, List.length_singleton]; omega
theorem seenT_one {N f : Nat} (h : f < N) : (List.replicate N false).take f ++ [true] ++ (List.replicate N false).drop (f + 1) = seenT N [(f, [])] := by
  have h1 := seenT_add (L := []) (w := []) h
  have h2 : seenT N [] = List.replicate N false := by
    rw [seenT]
    apply List.ext_getElem?
    intro i
    by_cases hi : i < N
    · rw [List.getElem?_map, List.getElem?_range hi, List.getElem?_replicate, if_pos hi]; rfl
    · rw [List.getElem?_eq_none (by simp; omega), List.getElem?_eq_none (by simp; omega)]
  rw [h2] at h1
  exact h1.symm
structure BT (L : TS) (B C : List Int) : Prop where
  lb : B.length = L.length
  lc : C.length = L.length
  wd : ∀ i, i < L.length → (B.getD i 0 = -1 ∧ (L.getD i (0, [])).2 = []) ∨ (0 ≤ B.getD i 0 ∧ B.getD i 0 < i ∧ (L.getD i (0, [])).2 = (L.getD (B.getD i 0).toNat (0, [])).2 ++ [C.getD i 0])
theorem BT0 {f : Nat} : BT [(f, [])] [-1] [0] := ⟨rfl, rfl, fun i hi => by
  have : i = 0 := by simpa using hi
  subst this; exact .inl ⟨rfl, rfl⟩⟩
theorem getD_appL {α : Type} {xs ys : List α} {i : Nat} {d : α} (h : i < xs.length) : (xs ++ ys).getD i d = xs.getD i d := by
  rw [List.getD_eq_getElem?_getD, List.getElem?_append_left h, ← List.getD_eq_getElem?_getD]
theorem getD_last {α : Type} {xs : List α} {y d : α} {i : Nat} (h : i = xs.length) : (xs ++ [y]).getD i d = y := by
  rw [List.getD_eq_getElem?_getD, List.getElem?_append_right (by omega), h]; simp
theorem BT.add {L : TS} {B C : List Int} (h : BT L B C) {i : Nat} (hi : i < L.length) (to x : Nat) :
    BT (L ++ [(to, (L.getD i (0, [])).2 ++ [(x : Int)])]) (B ++ [(i : Int)]) (C ++ [(x : Int)]) := by
  have lb := h.lb
  have lc := h.lc
  refine ⟨by simp [lb], by simp [lc], fun j hj => ?_⟩
  rw [List.length_append, List.length_singleton] at hj
  by_cases e : j < L.length
  · have e1 : (B ++ [(i : Int)]).getD j 0 = B.getD j 0 := getD_appL (by omega)
    have e2 : (C ++ [(x : Int)]).getD j 0 = C.getD j 0 := getD_appL (by omega)
    have e3 : (L ++ [(to, (L.getD i (0, [])).2 ++ [(x : Int)])]).getD j (0, []) = L.getD j (0, []) := getD_appL e
    rw [e1, e2, e3]
    rcases h.wd j e with h1 | ⟨h1, h2, h3⟩
    · exact .inl h1
    · have e4 : (L ++ [(to, (L.getD i (0, [])).2 ++ [(x : Int)])]).getD (B.getD j 0).toNat (0, []) = L.getD (B.getD j 0).toNat (0, []) := getD_appL (by omega)
      rw [e4]
      exact .inr ⟨h1, h2, h3⟩
  · have : j = L.length := by omega
    subst this
    have e1 : (B ++ [(i : Int)]).getD L.length 0 = i := getD_last lb.symm
    have e2 : (C ++ [(x : Int)]).getD L.length 0 = x := getD_last lc.symm
    have e3 : (L ++ [(to, (L.getD i (0, [])).2 ++ [(x : Int)])]).getD L.length (0, []) = (to, (L.getD i (0, [])).2 ++ [(x : Int)]) := getD_last rfl
    have e4 : (L ++ [(to, (L.getD i (0, [])).2 ++ [(x : Int)])]).getD i (0, []) = L.getD i (0, []) := getD_appL hi
    rw [e1, e2, e3, Int.toNat_natCast, e4]
    exact .inr ⟨by omega, by omega, rfl⟩
end Go.Ab
namespace Go.Ab
open Go.Proofs
theorem i_and {x y : Nat} (hx : x < 4611686018427387904) (hy : y < 4611686018427387904) :
    IntKind.i64.wrap ((@HAnd.hAnd (BitVec 64) (BitVec 64) (BitVec 64) (@instHAndOfAndOp (BitVec IntKind.i64.bits) (@BitVec.instAndOp IntKind.i64.bits)) (BitVec.ofInt 64 (x : Int)) (BitVec.ofInt 64 (y : Int))).toNat) = ((x &&& y : Nat) : Int) := by
  have h : (BitVec.ofInt 64 (x : Int) &&& BitVec.ofInt 64 (y : Int)).toNat = x &&& y := by rw [BitVec.toNat_and, bv64 (by omega), bv64 (by omega)]
  show IntKind.i64.wrap ((BitVec.ofInt 64 (x : Int) &&& BitVec.ofInt 64 (y : Int)).toNat : Int) = _
  rw [h]
  have : x &&& y ≤ x := Nat.and_le_left
  exact w64 (by omega)
theorem i_and1 {x : Nat} (hx : x < 4611686018427387904) :
    IntKind.i64.wrap ((@HAnd.hAnd (BitVec 64) (BitVec 64) (BitVec 64) (@instHAndOfAndOp (BitVec IntKind.i64.bits) (@BitVec.instAndOp IntKind.i64.bits)) (BitVec.ofInt 64 (x : Int)) (BitVec.ofInt 64 1)).toNat) = ((x &&& 1 : Nat) : Int) := i_and (y := 1) hx (by omega)
theorem i_or {x y : Nat} (hx : x < 4611686018427387904) (hy : y < 4611686018427387904) :
    IntKind.i64.wrap ((@HOr.hOr (BitVec 64) (BitVec 64) (BitVec 64) (@instHOrOfOrOp (BitVec IntKind.i64.bits) (@BitVec.instOrOp IntKind.i64.bits)) (BitVec.ofInt 64 (x : Int)) (BitVec.ofInt 64 (y : Int))).toNat) = ((x ||| y : Nat) : Int) := by
  have h : (BitVec.ofInt 64 (x : Int) ||| BitVec.ofInt 64 (y : Int)).toNat = x ||| y := by rw [BitVec.toNat_or, bv64 (by omega), bv64 (by omega)]
  show IntKind.i64.wrap ((BitVec.ofInt 64 (x : Int) ||| BitVec.ofInt 64 (y : Int)).toNat : Int) = _
  rw [h]
  have : x ||| y < 2 ^ 62 := Nat.or_lt_two_pow (n := 62) (by omega) (by omega)
  exact w64 (by omega)
theorem i_shl {b : Nat} (h : b < 60) : IntKind.i64.wrap (1 * 2 ^ min b 64) = ((2 ^ b : Nat) : Int) := by
  have h1 : min b 64 = b := by omega
  have h2 : (2 : Int) ^ b = ((2 ^ b : Nat) : Int) := by simp
  rw [h1, Int.one_mul, h2]
  have h3 : 2 ^ b < 1152921504606846976 := Nat.pow_lt_pow_right (a := 2) (n := 60) (by omega) h
  generalize 2 ^ b = q at h3 ⊢
  exact w64 (by omega)
theorem pow_lt10' {k : Nat} (h : k ≤ 10) : 1 ≤ 2 ^ k ∧ 2 ^ k ≤ 1024 := ⟨Nat.two_pow_pos k, Nat.pow_le_pow_right (n := 2) (by omega) h⟩
theorem k_l02Single (f : Nat) (h : f < 1024) : Fun Try.prog nz3n [iv f] (bv (smallN f)) := by
  refine fun_of mixed czhg rfl ⟨rfl, trivial⟩ ?_
  by_cases h0 : f = 0
  · subst h0
    simp only [Az6b, Bz6a, go_sem, yz0, Int.reduceLT, reduceLE, reduceToNat, reduceNeg, Nat.reduceLT, reduceLeDiff, reduceMul, reduceSub, reduceIte, reduceEqDiff, reduceAdd, reduceCtorEq]
    rfl
  · have w1 : IntKind.i64.wrap ((f : Int) - 1) = ((f - 1 : Nat) : Int) := by rw [w64 (by omega)]; omega
    have hand := i_and (x := f) (y := f - 1) (by omega) (by omega)
    have hb : ((((f &&& (f - 1) : Nat)) : Int) == 0) = smallN f := by
      unfold smallN
      rw [← dec_beqN, Bool.eq_iff_iff, beq_iff_eq, decide_eq_true_iff]; omega
    simp only [Az6b, Bz6a, w1, hand, hb, go_sem, yz0, Int.reduceLT, reduceLE, reduceToNat, reduceNeg, Nat.reduceLT, reduceLeDiff, reduceMul, reduceSub, reduceIte, reduceEqDiff, reduceAdd, reduceCtorEq]
theorem stepTo_lt {row set : List Int} (h : ∀ s ∈ set, 0 ≤ row.getD s.toNat 0 ∧ row.getD s.toNat 0 < 10) : stepTo row set < 1024 := fold_lt (fun s : Int => (row.getD s.toNat 0).toNat) set 0 (fun x hx => by have := h x hx; omega) (by omega)
theorem bitsTo_lt {f s : Nat} {x : Int} (h : x ∈ bitsTo f s) : 0 ≤ x ∧ x < s := by
  simp only [bitsTo, List.mem_map, List.mem_filter, List.mem_range] at h
  obtain ⟨k, ⟨h1, _⟩, rfl⟩ := h
  omega
theorem k_l02Moved (row : List Int) (f : Nat) (hl : row.length ≤ 10) (hr : ∀ x ∈ row, 0 ≤ x ∧ x < 10) (hf : f < 2 ^ row.length) :
    Fun Try.prog nz3w [.ro none 1 (ints row), iv f] (iv (stepN row f)) := by
  refine fun_of mixed czhp rfl ⟨rfl, trivial⟩ ?_
  have hN : 2 ^ row.length ≤ 1024 := Nat.pow_le_pow_right (n := 2) (by omega) hl
  simp only [Azf8, Bzf7, Bzf6, Bzf4, go_sem, yz0, Int.reduceLT, reduceLE, reduceToNat, reduceNeg, Nat.reduceLT, reduceLeDiff, reduceMul, reduceSub, reduceIte, reduceEqDiff, reduceAdd, reduceCtorEq]
  refine wpD_lo (fun i => row.length - i) (fun i => i ≤ row.length)
    (fun i : Nat => ⟨L .any [(0, .ro none 1 (ints row)), (1, iv f), (5, iv (stepTo row (bitsTo f i))), (6, iv i)], L .gone []⟩) 0 (by simp) (by simp only [Bz10, go_sem, yz0, Int.reduceLT, reduceLE, reduceToNat, reduceNeg, Nat.reduceLT, reduceLeDiff, reduceMul, reduceSub, reduceIte, reduceEqDiff, reduceAdd, reduceCtorEq]; try rfl) ?_
  intro i hi
  by_cases hlt : (i : Int) < row.length
  · have hlt1 : i < row.length := by omega
    have h64 : IntKind.u64.wrap (i : Int) = i := u64w (by omega)
    have hi0 : ¬ (i : Int) < 0 := by omega
    have hsh := u_shr (f := f) (s := i) (by omega)
    have hlt2 : f >>> i < 4611686018427387904 := by rw [Nat.shiftRight_eq_div_pow]; exact Nat.lt_of_le_of_lt (Nat.div_le_self _ _) (by omega)
    have hand := i_and1 hlt2
    have hbit : ((((f >>> i &&& 1 : Nat) : Int)) == 1) = f.testBit i := by
      rw [Nat.testBit_eq_decide_div_mod_eq, Nat.and_one_is_mod, Nat.shiftRight_eq_div_pow, Bool.eq_iff_iff, beq_iff_eq, decide_eq_true_iff]
      generalize f / 2 ^ i % 2 = q
      omega
    have hst : stepTo row (bitsTo f i) < 1024 := stepTo_lt fun s hs => by
      have := bitsTo_lt hs
      exact hr _ (yz10 (by omega) 0)
    have hx := hr _ (yz10 hlt1 0)
    have hx64 : IntKind.u64.wrap (row.getD i 0) = row.getD i 0 := by
      rw [show row.getD i 0 = (((row.getD i 0).toNat : Nat) : Int) by omega]; exact u64w (by omega)
    have hx0 : ¬ row.getD i 0 < 0 := by omega
    have hsl := i_shl (b := (row.getD i 0).toNat) (by omega)
    have h2 := pow_lt10 (k := (row.getD i 0).toNat) (by omega)
    have hor := i_or (x := stepTo row (bitsTo f i)) (y := 2 ^ (row.getD i 0).toNat) (by omega) (by omega)
    cases hb : f.testBit i with
    | true =>
      rw [hb] at hbit
      have hs : stepTo row (bitsTo f i) ||| 2 ^ (row.getD i 0).toNat = stepTo row (bitsTo f (i + 1)) := by
        rw [bitsTo_succ, if_pos hb]; simp [stepTo, List.foldl_append]
      simp only [Bz10, Bz2v, Bz71, Bz6z, Bz70, h64, hi0, hsh, hand, hbit, yzx hlt1, hx64, hx0, hsl, hor, hs, decide_eq_true hlt, go_sem, yz0, Int.reduceLT, reduceLE, reduceToNat, reduceNeg, Nat.reduceLT, reduceLeDiff, reduceMul, reduceSub, reduceIte, reduceEqDiff, reduceAdd, reduceCtorEq]
      intro hM
      simp only [nat1 i _ hlt1 hM, go_sem, yz0, Int.reduceLT, reduceLE, reduceToNat, reduceNeg, Nat.reduceLT, reduceLeDiff, reduceMul, reduceSub, reduceIte, reduceEqDiff, reduceAdd, reduceCtorEq]
      exact ⟨⟨by omega, hlt1⟩, hlt1, i + 1, by omega, by omega, rfl⟩
    | false =>
      rw [hb] at hbit
      have hs : stepTo row (bitsTo f i) = stepTo row (bitsTo f (i + 1)) := by rw [bitsTo_succ, if_neg (by simp [hb])]
      simp only [Bz10, Bz2v, Bz71, Bz6z, Bz70, h64, hi0, hsh, hand, hbit, decide_eq_true hlt, go_sem, yz0, Int.reduceLT, reduceLE, reduceToNat, reduceNeg, Nat.reduceLT, reduceLeDiff, reduceMul, reduceSub, reduceIte, reduceEqDiff, reduceAdd, reduceCtorEq]
      intro hM
      simp only [nat1 i _ hlt1 hM, go_sem, yz0, Int.reduceLT, reduceLE, reduceToNat, reduceNeg, Nat.reduceLT, reduceLeDiff, reduceMul, reduceSub, reduceIte, reduceEqDiff, reduceAdd, reduceCtorEq]
      exact ⟨i + 1, by omega, by omega, by rw [← hs]⟩
  · have e : stepTo row (bitsTo f i) = stepN row f := by
      have e1 : i = row.length := by omega
      subst e1
      have h2 := bitsTo_add hf (10 - row.length)
      rw [show row.length + (10 - row.length) = 10 by omega] at h2
      rw [← h2, stepTo_all]
    simp only [Bz10, Bz2v, Bzf5, decide_eq_false hlt, e, go_sem, yz0, Int.reduceLT, reduceLE, reduceToNat, reduceNeg, Nat.reduceLT, reduceLeDiff, reduceMul, reduceSub, reduceIte, reduceEqDiff, reduceAdd, reduceCtorEq]
theorem k_l02Full (n : Int) (next : List (List Int)) (hn : 1 ≤ n ∧ n ≤ 10) : Fun Try.prog nz3f [autP n next] (iv ((2 ^ n.toNat - 1 : Nat) : Int)) := by
  refine fun_of mixed czgy rfl ⟨rfl, trivial⟩ ?_
  have h64 : IntKind.u64.wrap n = n := by rw [show n = ((n.toNat : Nat) : Int) by omega]; exact u64w (by omega)
  have hn0 : ¬ n < 0 := by omega
  have hsl := i_shl (b := n.toNat) (by omega)
  have hp := pow_lt10' (k := n.toNat) (by omega)
  have w1 : IntKind.i64.wrap (((2 ^ n.toNat : Nat) : Int) - 1) = ((2 ^ n.toNat - 1 : Nat) : Int) := by rw [w64 (by omega)]; omega
  simp only [Azb9, Bzb8, h64, hn0, hsl, w1, go_sem, yz0, Int.reduceLT, reduceLE, reduceToNat, reduceNeg, Nat.reduceLT, reduceLeDiff, reduceMul, reduceSub, reduceIte, reduceEqDiff, reduceAdd, reduceCtorEq]
end Go.Ab
namespace Go.Ab
open Go.Proofs
end Go.Ab
namespace Go.Ab
def outA (out : List (List Int)) (s l : Int) : Int := (out.getD l.toNat []).getD s.toNat 0
def lexP : List Int → List Int → Bool
  | x :: v, y :: w => if x = y then lexP v w else decide (x < y)
  | _, _ => false
def befP (v w : List Int) : Bool := if v.length = w.length then lexP v w else decide (v.length < w.length)
end Go.Ab
namespace Go.Ab
open Go.Proofs
end Go.Ab
namespace Go.Ab
def leP (u v : List Int) : Prop := befP u v = true ∨ u = v
def pairW (na nb : List (List Int)) : Nat × Nat → List Int → Nat × Nat
  | p, [] => p
  | p, x :: w => pairW na nb (stepP na nb p x.toNat) w
def difW (na nb oa ob : List (List Int)) : Nat × Nat → List Int → Bool
  | _, [] => false
  | p, x :: w => difP oa ob p x.toNat || difW na nb oa ob (stepP na nb p x.toNat) w
def isWd (k : Nat) (w : List Int) : Prop := ∀ x ∈ w, 0 ≤ x ∧ x < k
structure BI (na nb oa ob : List (List Int)) (p0 : Nat × Nat) (i : Nat) (L : PS) : Prop where
  ok : ∀ q ∈ L, q.1 = pairW na nb p0 q.2 ∧ difW na nb oa ob p0 q.2 = false ∧ isWd na.length q.2
  so : L.Pairwise fun a b => befP a.2 b.2 = true
  par : ∀ q ∈ L, q.2 = [] ∨ ∃ j < i, ∃ y, q.2 = (L.getD j ((0, 0), [])).2 ++ [y]
  cl : ∀ a < i, ∀ x < na.length, difP oa ob (L.getD a ((0, 0), [])).1 x = false ∧ ∃ q ∈ L, q.1 = stepP na nb (L.getD a ((0, 0), [])).1 x ∧ leP q.2 ((L.getD a ((0, 0), [])).2 ++ [(x : Int)])
  le : i ≤ L.length
  nil : ∃ q ∈ L, q.1 = p0 ∧ q.2 = []
structure BV (na nb oa ob : List (List Int)) (p0 : Nat × Nat) (i : Nat) (L : PS) (x : Nat) (L' : PS) : Prop where
  sub : ∃ t, L' = L ++ t
  ok : ∀ q ∈ L', q.1 = pairW na nb p0 q.2 ∧ difW na nb oa ob p0 q.2 = false ∧ isWd na.length q.2
  so : L'.Pairwise fun a b => befP a.2 b.2 = true
  par : ∀ q ∈ L', q.2 = [] ∨ (∃ j < i, ∃ y, q.2 = (L.getD j ((0, 0), [])).2 ++ [y]) ∨ ∃ y < x, q.2 = (L.getD i ((0, 0), [])).2 ++ [(y : Int)]
  cl : ∀ y < x, ∃ q ∈ L', q.1 = stepP na nb (L.getD i ((0, 0), [])).1 y ∧ leP q.2 ((L.getD i ((0, 0), [])).2 ++ [(y : Int)])
end Go.Ab
namespace Go.Ab
end Go.Ab
