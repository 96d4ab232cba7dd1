/- Contracts: the reference draws machines. Conditions: none. -/
import Derived.Test.YtaicnehaodkikaaMi
set_option linter.all false
namespace Go.Ab
open Go.Proofs
set_option maxRecDepth 20000
set_option maxHeartbeats 2000000

section
variable {P : Program} {a b : AC} {Q : AEx → St → Prop} {σ : St}
/-- A place where the ways meet again; names are kept. -/
theorem wpD_cutn {α : Type} {ts hs : List Nat} (inv : α → Prop) (S : α → St)
    (h1 : wpD P a (seqQ (fun _ σ' => ∃ x, inv x ∧ σ'.keep ts hs = S x) Q) σ) (h2 : ∀ x, inv x → wpD P b Q (S x)) : wpD P (.seq a (.kp ts hs b)) Q σ := by
  rw [wpD_seq]
  refine wpD_mono _ _ _ _ (fun e σ' he => ?_) h1
  cases e with
  | normal =>
    obtain ⟨x, hx, hS⟩ := he
    show wpD P (.kp ts hs b) Q σ'
    rw [wpD_kp, hS]
    exact h2 x hx
  | exit i => exact he
  | ret => exact he
theorem wpD_cutq {b' : AC} {α : Type} {ts hs : List Nat} (hb : b = .kp ts hs b') (inv : α → Prop) (S : α → St)
    (h1 : wpD P a (seqQ (fun _ σ' => ∃ x, inv x ∧ σ'.keep ts hs = S x) Q) σ) (h2 : ∀ x, inv x → wpD P b' Q (S x)) : wpD P a (seqQ (wpD P b) Q) σ := by
  subst hb
  have := wpD_cutn inv S h1 h2
  rwa [wpD_seq] at this
end

theorem DJ_perm {ps qs : List (Nat × List Int)} (h : ps.Perm qs) (hp : DJ ps) : DJ qs :=
  (h.pairwise_iff fun {x y} e => by
    rcases e with e | e | e
    · exact .inr (.inl e)
    · exact .inl e
    · exact .inr (.inr (Ne.symm e))).1 hp

theorem ints_put {xs : List Int} {i : Nat} {v : Int} : List.take i (ints xs) ++ [iv v] ++ List.drop (i + 1) (ints xs) = ints (xs.take i ++ [v] ++ xs.drop (i + 1)) := by
  simp only [List.map_append, List.map_take, List.map_drop, List.map_cons, List.map_nil]
theorem lput_len {xs : List Int} {i : Nat} {v : Int} (h : i < xs.length) : (xs.take i ++ [v] ++ xs.drop (i + 1)).length = xs.length := by
  simp only [List.length_append, List.length_take, List.length_drop, List.length_cons, List.length_nil]; omega
theorem lput_mem {xs : List Int} {i : Nat} {v : Int} {Q : Int → Prop} (h : ∀ x ∈ xs, Q x) (hv : Q v) : ∀ x ∈ xs.take i ++ [v] ++ xs.drop (i + 1), Q x := by
  intro x hx
  simp only [List.mem_append, List.mem_singleton] at hx
  rcases hx with (hx | rfl) | hx
  · exact h x (List.mem_of_mem_take hx)
  · exact hv
  · exact h x (List.mem_of_mem_drop hx)

theorem call_boxrow {P : Program} {σ : St} {g : FuncId} {As args : List AVal} {d : Nat} {s : Nat → Nat} {K : St → Prop} {r q v u : Nat} {cs : List AVal} {xs : List Int} {Q : List AVal → Value → Prop}
    (h : Con P g [.box 0 cs, .row 1 1 true (ints xs)] args true fun outs rows res => ∃ cs' x, Q cs' x ∧ flatL cs' ∧ outs = [.box 0 cs', .row 1 1 true (ints xs)] ∧ rows = [] ∧ res = .val x)
    (hr : σ.hp r = .box v cs) (hq : σ.hp q = .row u 1 true (ints xs)) (hne : [r, q].Nodup) (hcs : CoeL σ.hp [r, q] false cs cs) (ha : CoeL σ.hp [r, q] false args As)
    (hk : ∀ cs' x, Q cs' x → K (St.put ⟨σ.tm, upd (upd σ.hp r (.box v cs')) q (.row u 1 true (ints xs))⟩ (some d) (.val x))) : wpCall P false σ g As (some d) s K := by
  refine .inl ⟨[r, q], _, _, true, _, h, ⟨by simp, rfl, hne, ?_, ?_⟩, ha, (fun e => by cases e), ?_⟩
  · intro x hx
    simp only [List.mem_cons, List.not_mem_nil, or_false] at hx
    rcases hx with rfl | rfl
    · simp [hr]
    · simp [hq]
  · intro j B r' hB hr'
    match j, hB, hr' with
    | 0, hB, hr' =>
      simp at hB hr'; subst hB; subst hr'
      rw [hr]
      exact ⟨rfl, v, cs, rfl, hcs⟩
    | 1, hB, hr' =>
      simp at hB hr'; subst hB; subst hr'
      simp only [ObjCoe, hq]
      exact ⟨trivial, u, _, rfl, coeL_ints⟩
    | j + 2, hB, hr' => simp at hB
  · rintro outs rows res ⟨cs', x, hQ, hf, rfl, rfl, rfl⟩
    refine ⟨rfl, by simp, by simp, ?_⟩
    have s0 : sv σ.hp [r, q] s 0 = v := by simp [sv, hr, AObj.ver]
    have s1 : sv σ.hp [r, q] s 1 = u := by simp [sv, hq, AObj.ver]
    rw [Option.getD_some, callHp_h2 hne]
    simp only [oren_row, oren_box, renL_flat cs' hf, renL_intsK, ren_val, s0, s1]
    exact hk cs' x hQ

theorem k_among (code : List Int) (at_ seed : Int) (list : List Int) (hb : ∀ x ∈ code, 0 ≤ x ∧ x ≤ 255) (ha : 0 ≤ at_ ∧ at_ ≤ 1000000000000) (hl : list ≠ []) :
    Con Try.prog n_spec_l00Src_among [.box 0 (srcC code at_ seed), .row 1 1 true (ints list)] [.ptr 5000 0 0, .own 5001 1] true fun outs rows res => ∃ cs' x, (∃ at' seed' b, cs' = srcC code at' seed' ∧ at_ ≤ at' ∧ at' ≤ at_ + 2 ∧ x = .int .i64 b ∧ b ∈ list) ∧ flatL cs' ∧
      outs = [.box 0 cs', .row 1 1 true (ints list)] ∧ rows = [] ∧ res = .val x := by
  refine con_sh mixed c_spec_l00Src_among rfl (by simp) ?_
  simp only [B_spec_l00Src_among_1, A_spec_l00Src_among, go_sem, adopt_fun, Int.reduceLT, Int.reduceLE, Int.reduceToNat, Int.reduceNeg, Nat.reduceLT, Nat.reduceLeDiff, Nat.reduceMul, Nat.reduceSub, reduceIte, Nat.reduceEqDiff, Nat.reduceAdd, reduceCtorEq]
  intro vs hM
  refine call_funB (k_pick code at_ seed list.length hb ha) rfl qCS qCS ?_
  rintro cs' x ⟨a', s', b, rfl, h1, h2, rfl, h3, h4⟩
  have hpos : 0 < list.length := List.length_pos_iff.2 hl
  have hb2 : b.toNat < list.length := by omega
  simp only [intsK_getD hb2, go_sem, adopt_fun, Int.reduceLT, Int.reduceLE, Int.reduceToNat, Int.reduceNeg, Nat.reduceLT, Nat.reduceLeDiff, Nat.reduceMul, Nat.reduceSub, reduceIte, Nat.reduceEqDiff, Nat.reduceAdd, reduceCtorEq]
  refine ⟨⟨h3, hb2⟩, hb2, [], by simp, by simp, by simp, ?_⟩
  simp only [Nat.not_lt_zero, range1, ren_val, ren_any, ren_ro, rnNm_n, rnNm_sn, rnNm_o, rnNm_s, ren_st, ren_tup, renL_nil, renL_cons, renL_intsK, renL_rws, renL_rwn, oren_box, oren_row, oren_map, ren_own_e0, ren_own_e1, ren_own_e2, ren_ptr_e0, ren_mp_e0, ren_mp_e1, ren_own_r0, ren_own_r1, ren_own_r2, ren_ptr_r0, ren_mp_r0, ren_mp_r1, List.range_zero, callHp_nil, callHp_one, callHp_two, gone_nil, gone_one, gone_two, AVal.fresh, freshL, fresh_intsK, fresh_rws, AObj.fresh, id, Option.isSome_some, or_true, true_or, go_sem, adopt_fun, Int.reduceLT, Int.reduceLE, Int.reduceToNat, Int.reduceNeg, Nat.reduceLT, Nat.reduceLeDiff, Nat.reduceMul, Nat.reduceSub, reduceIte, Nat.reduceEqDiff, Nat.reduceAdd, reduceCtorEq]
  exact ⟨_, _, ⟨a', s', list.getD b.toNat 0, rfl, h1, h2, rfl, getD_mem hb2 0⟩, by simp [flatL, AVal.flat, flat_vals], rfl, rfl⟩

/-- What a machine that is drawn is. -/
abbrev DrM (code : List Int) (at_ most : Int) (outs rows : List AObj) (res : AVal) : Prop :=
  ∃ n o ps qs v w a' s', Mach n o (ps.map (·.2)) (qs.map (·.2)) ∧ n ≤ most ∧ DJ (ps ++ qs) ∧ at_ ≤ a' ∧ a' ≤ at_ + 1000 ∧ outs = [.box 0 (srcC code a' s')] ∧ rows = [.row v 1 true (rwp ps), .row w 1 true (rwp qs)] ∧ res = .st [iv n, iv o, .own 6000 v, .own 6001 w]

theorem k_l06Draw (code : List Int) (at_ seed most : Int) (hb : ∀ x ∈ code, 0 ≤ x ∧ x ≤ 255) (ha : 0 ≤ at_ ∧ at_ ≤ 1000000) (hm : 1 ≤ most ∧ most ≤ 9) :
    Con Try.prog n_spec_l06Draw [.box 0 (srcC code at_ seed)] [.ptr 5000 0 0, iv most] true (DrM code at_ most) := by
  refine con_sh mixed c_spec_l06Draw rfl (by simp) ?_
  generalize hQ : finQ _ = Q
  -- behind the numbers of states, outputs and letters
  have h7 : ∀ (σ : St) (v4 v5 : Nat) (a s n o l : Int), at_ ≤ a ∧ a ≤ at_ + 20 ∧ 1 ≤ n ∧ n ≤ most ∧ 1 ≤ o ∧ o ≤ 3 ∧ 1 ≤ l ∧ l ≤ 3 → σ.keep [0, 4, 5, 6] [4, 5, 75, 81, 5000, 5001] =
      ⟨L .any [(0, .ptr 5000 0 0), (4, .ptr 4 v4 0), (5, .ptr 5 v5 0), (6, iv l)], L .gone [(4, .box v4 [iv 0, iv 0, nilS, nilS]), (5, .box v5 [iv n, iv o, nilS, nilS]), (75, .gone), (81, .gone), (5000, .box 0 (srcC code a s)), (5001, .gone)]⟩ → wpD Try.prog B_spec_l06Draw_7 Q σ := by
    rintro σ v4 v5 a s n o l ⟨i1, i2, i3, i4, i5, i6, i7, i8⟩ hS
    unfold B_spec_l06Draw_7
    rw [wpD_kp, hS]
    simp only [go_sem, adopt_fun, Int.reduceLT, Int.reduceLE, Int.reduceToNat, Int.reduceNeg, Nat.reduceLT, Nat.reduceLeDiff, Nat.reduceMul, Nat.reduceSub, reduceIte, Nat.reduceEqDiff, Nat.reduceAdd, reduceCtorEq, wpD_kp, wpD_regi]
    intro vs U hN
    simp only [B_spec_l06Draw_8, wpD_kp, wpD_regi, go_sem, adopt_fun, Int.reduceLT, Int.reduceLE, Int.reduceToNat, Int.reduceNeg, Nat.reduceLT, Nat.reduceLeDiff, Nat.reduceMul, Nat.reduceSub, reduceIte, Nat.reduceEqDiff, Nat.reduceAdd, reduceCtorEq]
    intro ver1 ver2
    -- the letters
    refine wpD_lp (fun (_, _, _, _, _, _, _, ps, _) => l.toNat - List.length ps)
      (fun (_, _, _, n1, n2, a, _, ps, qs) => at_ ≤ a ∧ a ≤ at_ + 20 + 60 * List.length ps ∧ (List.length ps : Int) ≤ l ∧ List.length qs = List.length ps ∧ (ps ≠ [] → n1 = true ∧ n2 = true) ∧ DJ (ps ++ qs) ∧
        (∀ p ∈ ps, (List.length p.2 : Int) = n ∧ ∀ x ∈ p.2, 0 ≤ x ∧ x < n) ∧ ∀ p ∈ qs, (List.length p.2 : Int) = n ∧ ∀ x ∈ p.2, 0 ≤ x ∧ x < o)
      (fun ((v5, v75, v81, n1, n2, a, s, ps, qs) : Nat × Nat × Nat × Bool × Bool × Int × Int × List (Nat × List Int) × List (Nat × List Int)) =>
        ⟨L .any [(0, .ptr 5000 0 0), (4, .ptr 4 v4 0), (5, .ptr 5 v5 0), (6, iv l), (7, iv ps.length)],
         L .gone [(4, .box v4 [iv 0, iv 0, nilS, nilS]), (5, .box v5 [iv n, iv o, .own 75 v75, .own 81 v81]), (75, .row v75 1 n1 (rwp ps)), (81, .row v81 1 n2 (rwp qs)), (5000, .box 0 (srcC code a s)), (5001, .gone)]⟩)
      (v5, ver2, ver1, false, false, a, s, [], []) ⟨by omega, by simp; omega, by simp; omega, rfl, by simp, by simp [DJ], by simp, by simp⟩ (by simp only [B_spec_l06Draw_9, go_sem, adopt_fun, Int.reduceLT, Int.reduceLE, Int.reduceToNat, Int.reduceNeg, Nat.reduceLT, Nat.reduceLeDiff, Nat.reduceMul, Nat.reduceSub, reduceIte, Nat.reduceEqDiff, Nat.reduceAdd, reduceCtorEq]; try rfl) ?_
    rintro ⟨v5, v75, v81, nn1, nn2, a, s, ps, qs⟩ ⟨j1, j2, j3, j4, j5, j6, j7, j8⟩
    have j1 : at_ ≤ a := j1
    have j2 : a ≤ at_ + 20 + 60 * ps.length := j2
    have j3 : (ps.length : Int) ≤ l := j3
    have j4 : qs.length = ps.length := j4
    by_cases hlt : (ps.length : Int) < l
    · have w7 : IntKind.i64.wrap ((ps.length : Int) + 1) = ((ps.length + 1 : Nat) : Int) := by rw [w64 (by omega)]; simp
      simp only [B_spec_l06Draw_9, B_spec_l06Draw_10, B_spec_l06Draw_11, decide_eq_true hlt, wpD_kp, wpD_regi, go_sem, adopt_fun, Int.reduceLT, Int.reduceLE, Int.reduceToNat, Int.reduceNeg, Nat.reduceLT, Nat.reduceLeDiff, Nat.reduceMul, Nat.reduceSub, reduceIte, Nat.reduceEqDiff, Nat.reduceAdd, reduceCtorEq]
      intro vs1 U1 hN1 vs2 U2 hN2
      simp only [B_spec_l06Draw_12, wpD_kp, wpD_regi, go_sem, adopt_fun, Int.reduceLT, Int.reduceLE, Int.reduceToNat, Int.reduceNeg, Nat.reduceLT, Nat.reduceLeDiff, Nat.reduceMul, Nat.reduceSub, reduceIte, Nat.reduceEqDiff, Nat.reduceAdd, reduceCtorEq]
      intro vs3 U3 hN3
      simp only [B_spec_l06Draw_13, wpD_kp, wpD_regi, go_sem, adopt_fun, Int.reduceLT, Int.reduceLE, Int.reduceToNat, Int.reduceNeg, Nat.reduceLT, Nat.reduceLeDiff, Nat.reduceMul, Nat.reduceSub, reduceIte, Nat.reduceEqDiff, Nat.reduceAdd, reduceCtorEq]
      intro vs4 U4 hN4
      simp only [B_spec_l06Draw_14, wpD_kp, wpD_regi, go_sem, adopt_fun, Int.reduceLT, Int.reduceLE, Int.reduceToNat, Int.reduceNeg, Nat.reduceLT, Nat.reduceLeDiff, Nat.reduceMul, Nat.reduceSub, reduceIte, Nat.reduceEqDiff, Nat.reduceAdd, reduceCtorEq]
      -- the states
      refine wpD_lp (fun (_, _, _, _, row, _) => n.toNat - List.length row)
        (fun (_, _, a', _, row, outs) => a ≤ a' ∧ a' ≤ a + 4 * List.length row ∧ (List.length row : Int) ≤ n ∧ List.length outs = List.length row ∧ (∀ x ∈ row, 0 ≤ x ∧ x < n) ∧ ∀ x ∈ outs, 0 ≤ x ∧ x < o)
        (fun ((v33, v34, a, s, row, outs) : Nat × Nat × Int × Int × List Int × List Int) =>
          ⟨L .any [(0, .ptr 5000 0 0), (4, .ptr 4 v4 0), (5, .ptr 5 v5 0), (6, iv l), (7, iv ps.length), (8, .own 33 v33), (9, .own 34 v34), (10, iv row.length)],
           L .gone [(4, .box v4 [iv 0, iv 0, nilS, nilS]), (5, .box v5 [iv n, iv o, .own 75 v75, .own 81 v81]), (33, .row v33 1 true (ints row)), (34, .row v34 1 true (ints outs)), (47, .gone), (54, .gone), (75, .row v75 1 nn1 (rwp ps)), (81, .row v81 1 nn2 (rwp qs)), (5000, .box 0 (srcC code a s)), (5001, .gone)]⟩)
        (_, _, a, s, [], []) ⟨by omega, by simp, by simp; omega, rfl, by simp, by simp⟩ (by simp only [B_spec_l06Draw_15, go_sem, adopt_fun, Int.reduceLT, Int.reduceLE, Int.reduceToNat, Int.reduceNeg, Nat.reduceLT, Nat.reduceLeDiff, Nat.reduceMul, Nat.reduceSub, reduceIte, Nat.reduceEqDiff, Nat.reduceAdd, reduceCtorEq]; try rfl) ?_
      rintro ⟨v33, v34, a', s', row, outs⟩ ⟨q1, q2, q3, q4, q5, q6⟩
      have q1 : a ≤ a' := q1
      have q2 : a' ≤ a + 4 * row.length := q2
      have q3 : (row.length : Int) ≤ n := q3
      have q4 : outs.length = row.length := q4
      by_cases hlt2 : (row.length : Int) < n
      · have w8 : IntKind.i64.wrap ((row.length : Int) + 1) = ((row.length + 1 : Nat) : Int) := by rw [w64 (by omega)]; simp
        simp only [B_spec_l06Draw_15, B_spec_l06Draw_16, B_spec_l06Draw_17, decide_eq_true hlt2, wpD_kp, wpD_regi, go_sem, adopt_fun, Int.reduceLT, Int.reduceLE, Int.reduceToNat, Int.reduceNeg, Nat.reduceLT, Nat.reduceLeDiff, Nat.reduceMul, Nat.reduceSub, reduceIte, Nat.reduceEqDiff, Nat.reduceAdd, reduceCtorEq]
        intro vs5 U5 hN5 vs6 U6 hN6
        refine call_funB (k_pick code a' s' n hb (by omega)) rfl qCS qCS ?_
        rintro cs' x ⟨a2, s2, to, rfl, f1, f2, rfl, f3, f4⟩
        simp only [B_spec_l06Draw_18, wpD_kp, wpD_regi, go_sem, adopt_fun, Int.reduceLT, Int.reduceLE, Int.reduceToNat, Int.reduceNeg, Nat.reduceLT, Nat.reduceLeDiff, Nat.reduceMul, Nat.reduceSub, reduceIte, Nat.reduceEqDiff, Nat.reduceAdd, reduceCtorEq]
        refine ⟨⟨_, rfl, rfl⟩, by omega, ?_⟩
        intro vs7 U7 hN7
        refine call_funB (k_pick code a2 s2 o hb (by omega)) rfl qCS qCS ?_
        rintro cs' x ⟨a3, s3, to2, rfl, f5, f6, rfl, f7, f8⟩
        simp only [B_spec_l06Draw_19, w8, wpD_kp, wpD_regi, go_sem, adopt_fun, Int.reduceLT, Int.reduceLE, Int.reduceToNat, Int.reduceNeg, Nat.reduceLT, Nat.reduceLeDiff, Nat.reduceMul, Nat.reduceSub, reduceIte, Nat.reduceEqDiff, Nat.reduceAdd, reduceCtorEq]
        refine ⟨⟨_, rfl, rfl⟩, by omega, ?_⟩
        intro vs8 U8 hN8
        refine ⟨(vs6 6 0, vs7 6 0, a3, s3, row ++ [to], outs ++ [to2]), by dsimp only; rw [List.length_append, List.length_singleton]; omega, ⟨by dsimp only; omega, by dsimp only; rw [List.length_append, List.length_singleton]; omega, by dsimp only; rw [List.length_append, List.length_singleton]; omega, by dsimp only; rw [List.length_append, List.length_append, q4]; rfl, ?_, ?_⟩, ?_⟩
        · intro x hx
          rcases List.mem_append.1 hx with h | h
          · exact q5 x h
          · rw [List.mem_singleton.1 h]; omega
        · intro x hx
          rcases List.mem_append.1 hx with h | h
          · exact q6 x h
          · rw [List.mem_singleton.1 h]; omega
        · simp only [List.length_append, List.length_singleton]
      · have hrl : (row.length : Int) = n := by omega
        simp only [B_spec_l06Draw_15, B_spec_l06Draw_16, B_spec_l06Draw_20, decide_eq_false hlt2, wpD_kp, wpD_regi, go_sem, adopt_fun, Int.reduceLT, Int.reduceLE, Int.reduceToNat, Int.reduceNeg, Nat.reduceLT, Nat.reduceLeDiff, Nat.reduceMul, Nat.reduceSub, reduceIte, Nat.reduceEqDiff, Nat.reduceAdd, reduceCtorEq]
        intro vs5 U5 hN5 vs6 U6 hN6
        refine call_funB (k_one code a' s' 3 hb (by omega)) rfl qCS qCS ?_
        rintro cs' x ⟨a2, s2, b2, rfl, f1, f2, rfl⟩
        simp only [wpD_kp, wpD_regi, go_sem, adopt_fun, Int.reduceLT, Int.reduceLE, Int.reduceToNat, Int.reduceNeg, Nat.reduceLT, Nat.reduceLeDiff, Nat.reduceMul, Nat.reduceSub, reduceIte, Nat.reduceEqDiff, Nat.reduceAdd, reduceCtorEq]
        refine wpD_cutq (b := B_spec_l06Draw_27) rfl (fun (_, row2) => List.length row2 = row.length ∧ ∀ x ∈ row2, 0 ≤ x ∧ x < n)
          (fun ((v33, row2) : Nat × List Int) => ⟨L .any [(0, .ptr 5000 0 0), (4, .ptr 4 v4 0), (5, .ptr 5 v5 0), (6, iv l), (7, iv ps.length), (8, .own 33 v33), (9, .own 34 v34)],
           L .gone [(4, .box v4 [iv 0, iv 0, nilS, nilS]), (5, .box v5 [iv n, iv o, .own 75 v75, .own 81 v81]), (33, .row v33 1 true (ints row2)), (34, .row v34 1 true (ints outs)), (47, .gone), (54, .gone), (75, .row v75 1 nn1 (rwp ps)), (81, .row v81 1 nn2 (rwp qs)), (5000, .box 0 (srcC code a2 s2)), (5001, .gone)]⟩) ?_ ?_
        · simp only [B_spec_l06Draw_21, wpD_kp, wpD_regi, go_sem, adopt_fun, Int.reduceLT, Int.reduceLE, Int.reduceToNat, Int.reduceNeg, Nat.reduceLT, Nat.reduceLeDiff, Nat.reduceMul, Nat.reduceSub, reduceIte, Nat.reduceEqDiff, Nat.reduceAdd, reduceCtorEq]
          refine ⟨fun _ vs7 U7 hN7 => ?_, fun _ => ⟨(v33, row), ⟨rfl, q5⟩, rfl⟩⟩
          simp only [B_spec_l06Draw_22, wpD_kp, wpD_regi, go_sem, adopt_fun, Int.reduceLT, Int.reduceLE, Int.reduceToNat, Int.reduceNeg, Nat.reduceLT, Nat.reduceLeDiff, Nat.reduceMul, Nat.reduceSub, reduceIte, Nat.reduceEqDiff, Nat.reduceAdd, reduceCtorEq]
          refine wpD_lp (fun (_, _, x) => n.toNat - x) (fun (_, row2, x) => (x : Int) ≤ n ∧ List.length row2 = row.length ∧ ∀ x ∈ row2, 0 ≤ x ∧ x < n)
            (fun ((v33, row2, x) : Nat × List Int × Nat) => ⟨L .any [(0, .ptr 5000 0 0), (4, .ptr 4 v4 0), (5, .ptr 5 v5 0), (6, iv l), (7, iv ps.length), (8, .own 33 v33), (9, .own 34 v34), (11, iv x)],
             L .gone [(4, .box v4 [iv 0, iv 0, nilS, nilS]), (5, .box v5 [iv n, iv o, .own 75 v75, .own 81 v81]), (33, .row v33 1 true (ints row2)), (34, .row v34 1 true (ints outs)), (47, .gone), (54, .gone), (75, .row v75 1 nn1 (rwp ps)), (81, .row v81 1 nn2 (rwp qs)), (5000, .box 0 (srcC code a2 s2)), (5001, .gone)]⟩)
            (v33, row, 0) ⟨by omega, rfl, q5⟩ (by simp only [B_spec_l06Draw_23, go_sem, adopt_fun, Int.reduceLT, Int.reduceLE, Int.reduceToNat, Int.reduceNeg, Nat.reduceLT, Nat.reduceLeDiff, Nat.reduceMul, Nat.reduceSub, reduceIte, Nat.reduceEqDiff, Nat.reduceAdd, reduceCtorEq]; try rfl) ?_
          rintro ⟨v33, row2, x⟩ ⟨e1, e2, e3⟩
          have e1 : (x : Int) ≤ n := e1
          have e2 : row2.length = row.length := e2
          by_cases hx : (x : Int) < n
          · have w9 : IntKind.i64.wrap ((x : Int) + 1) = ((x + 1 : Nat) : Int) := by rw [w64 (by omega)]; simp
            have hn0 : ¬ n = 0 := by omega
            have ht := tmod_in (a := ((x + 1 : Nat) : Int)) (n := n) (by omega) i3
            have hxl : x < row2.length := by omega
            simp only [B_spec_l06Draw_23, B_spec_l06Draw_24, B_spec_l06Draw_25, B_spec_l06Draw_26, decide_eq_true hx, w9, hn0, wpD_kp, wpD_regi, go_sem, adopt_fun, Int.reduceLT, Int.reduceLE, Int.reduceToNat, Int.reduceNeg, Nat.reduceLT, Nat.reduceLeDiff, Nat.reduceMul, Nat.reduceSub, reduceIte, Nat.reduceEqDiff, Nat.reduceAdd, reduceCtorEq]
            intro vs8 U8 hN8 vs9 U9 hN9
            refine ⟨⟨by omega, hxl⟩, by omega, ?_⟩
            intro vs10 U10 hN10
            refine ⟨(v33, row2.take x ++ [((x + 1 : Nat) : Int).tmod n] ++ row2.drop (x + 1), x + 1), by dsimp only; omega, ⟨by dsimp only; omega, by dsimp only; rw [lput_len hxl]; exact e2, lput_mem e3 ht⟩, ?_⟩
            simp only [← ints_put]
          · simp only [B_spec_l06Draw_23, B_spec_l06Draw_24, decide_eq_false hx, wpD_kp, wpD_regi, go_sem, adopt_fun, Int.reduceLT, Int.reduceLE, Int.reduceToNat, Int.reduceNeg, Nat.reduceLT, Nat.reduceLeDiff, Nat.reduceMul, Nat.reduceSub, reduceIte, Nat.reduceEqDiff, Nat.reduceAdd, reduceCtorEq]
            intro vs8 U8 hN8
            exact ⟨(v33, row2), ⟨e2, e3⟩, rfl⟩
        · rintro ⟨v33, row2⟩ ⟨e2, e3⟩
          have e2 : row2.length = row.length := e2
          simp only [wpD_gh]
          intro hD
          refine ⟨[], ?_⟩
          have hf : ∀ u, (L AObj.gone [(4, AObj.box v4 [iv 0, iv 0, nilS, nilS]), (5, AObj.box v5 [iv n, iv o, .own 75 v75, .own 81 v81]), (33, AObj.row v33 1 true (ints row2)), (34, AObj.row v34 1 true (ints outs)), (47, AObj.gone), (54, AObj.gone), (75, AObj.row v75 1 nn1 (rwp ps)), (81, AObj.row v81 1 nn2 (rwp qs)), (5000, AObj.box 0 (srcC code a2 s2)), (5001, AObj.gone)] 33).ver = some u ∨
              (L AObj.gone [(4, AObj.box v4 [iv 0, iv 0, nilS, nilS]), (5, AObj.box v5 [iv n, iv o, .own 75 v75, .own 81 v81]), (33, AObj.row v33 1 true (ints row2)), (34, AObj.row v34 1 true (ints outs)), (47, AObj.gone), (54, AObj.gone), (75, AObj.row v75 1 nn1 (rwp ps)), (81, AObj.row v81 1 nn2 (rwp qs)), (5000, AObj.box 0 (srcC code a2 s2)), (5001, AObj.gone)] 34).ver = some u → ∀ p ∈ ps ++ qs, p.2 = [] ∨ p.1 ≠ u := fun u hu p hp => by
            by_cases e : p.2 = []
            · exact .inl e
            · refine .inr ?_
              rcases List.mem_append.1 hp with hp | hp <;> rcases hu with hu | hu
              · exact hD 75 v75 1 nn1 (rwp ps) 33 u rfl hu p.1 1 (ints p.2) (List.mem_map.2 ⟨p, hp, rfl⟩) (by simpa using e)
              · exact hD 75 v75 1 nn1 (rwp ps) 34 u rfl hu p.1 1 (ints p.2) (List.mem_map.2 ⟨p, hp, rfl⟩) (by simpa using e)
              · exact hD 81 v81 1 nn2 (rwp qs) 33 u rfl hu p.1 1 (ints p.2) (List.mem_map.2 ⟨p, hp, rfl⟩) (by simpa using e)
              · exact hD 81 v81 1 nn2 (rwp qs) 34 u rfl hu p.1 1 (ints p.2) (List.mem_map.2 ⟨p, hp, rfl⟩) (by simpa using e)
          have hf1 := hf v33 (.inl rfl)
          have hf2 := hf v34 (.inr rfl)
          clear hf
          simp only [gwp_nil, wpD_kp, wpD_regi, go_sem, adopt_fun, Int.reduceLT, Int.reduceLE, Int.reduceToNat, Int.reduceNeg, Nat.reduceLT, Nat.reduceLeDiff, Nat.reduceMul, Nat.reduceSub, reduceIte, Nat.reduceEqDiff, Nat.reduceAdd, reduceCtorEq]
          intro vs8 U8 hN8
          rw [rwp_len]
          refine ⟨by omega, ?_⟩
          simp only [B_spec_l06Draw_28, rwp_snoc, wpD_kp, wpD_gh, go_sem, adopt_fun, Int.reduceLT, Int.reduceLE, Int.reduceToNat, Int.reduceNeg, Nat.reduceLT, Nat.reduceLeDiff, Nat.reduceMul, Nat.reduceSub, reduceIte, Nat.reduceEqDiff, Nat.reduceAdd, reduceCtorEq]
          intro hD2
          refine ⟨[], ?_⟩
          have hf3 : row2 = [] ∨ v33 ≠ v34 := by
            by_cases e : row2 = []
            · exact .inl e
            · exact .inr (hD2 75 (vs8 4 0) 1 true (rwp (ps ++ [(v33, row2)])) 34 v34 rfl rfl v33 1 (ints row2) (List.mem_map.2 ⟨(v33, row2), by simp, rfl⟩) (by simpa using e))
          simp only [gwp_nil, wpD_kp, wpD_regi, go_sem, adopt_fun, Int.reduceLT, Int.reduceLE, Int.reduceToNat, Int.reduceNeg, Nat.reduceLT, Nat.reduceLeDiff, Nat.reduceMul, Nat.reduceSub, reduceIte, Nat.reduceEqDiff, Nat.reduceAdd, reduceCtorEq]
          intro vs9 U9 hN9
          rw [rwp_len]
          refine ⟨by omega, ?_⟩
          simp only [B_spec_l06Draw_29, rwp_snoc, w7, wpD_kp, wpD_regi, go_sem, adopt_fun, Int.reduceLT, Int.reduceLE, Int.reduceToNat, Int.reduceNeg, Nat.reduceLT, Nat.reduceLeDiff, Nat.reduceMul, Nat.reduceSub, reduceIte, Nat.reduceEqDiff, Nat.reduceAdd, reduceCtorEq]
          intro vs10 U10 hN10
          refine ⟨(v5, vs8 4 0, vs9 4 0, true, true, a2, s2, ps ++ [(v33, row2)], qs ++ [(v34, outs)]), by dsimp only; rw [List.length_append, List.length_singleton]; omega, ⟨by dsimp only; omega, by dsimp only; rw [List.length_append, List.length_singleton]; omega, by dsimp only; rw [List.length_append, List.length_singleton]; omega, by dsimp only; rw [List.length_append, List.length_append, j4]; rfl, fun _ => ⟨rfl, rfl⟩, ?_, ?_, ?_⟩, ?_⟩
          · refine DJ_perm ?_ ((j6.snoc (n := v33) (xs := row2) hf1).snoc (n := v34) (xs := outs) fun p hp => ?_)
            · simp only [List.append_assoc]
              refine List.Perm.append_left _ ?_
              exact (List.perm_append_comm_assoc qs [(v33, row2)] [(v34, outs)])
            · rcases List.mem_append.1 hp with h | h
              · exact hf2 p h
              · rw [List.mem_singleton.1 h]; exact hf3
          · intro p hp
            rcases List.mem_append.1 hp with h | h
            · exact j7 p h
            · rw [List.mem_singleton.1 h]; exact ⟨by dsimp only; omega, e3⟩
          · intro p hp
            rcases List.mem_append.1 hp with h | h
            · exact j8 p h
            · rw [List.mem_singleton.1 h]; exact ⟨by dsimp only; omega, q6⟩
          · simp only [List.length_append, List.length_singleton]
    · have hlen : (ps.length : Int) = l := by omega
      have hnn := j5 (fun e => by subst e; simp at hlen; omega)
      obtain ⟨rfl, rfl⟩ := hnn
      simp only [B_spec_l06Draw_9, B_spec_l06Draw_10, B_spec_l06Draw_30, decide_eq_false hlt, wpD_kp, wpD_regi, go_sem, adopt_fun, Int.reduceLT, Int.reduceLE, Int.reduceToNat, Int.reduceNeg, Nat.reduceLT, Nat.reduceLeDiff, Nat.reduceMul, Nat.reduceSub, reduceIte, Nat.reduceEqDiff, Nat.reduceAdd, reduceCtorEq]
      intro vs1 U1 hN1 vs2 U2 hN2
      simp only [← hQ, A_spec_l06Draw, go_sem, adopt_fun, Int.reduceLT, Int.reduceLE, Int.reduceToNat, Int.reduceNeg, Nat.reduceLT, Nat.reduceLeDiff, Nat.reduceMul, Nat.reduceSub, reduceIte, Nat.reduceEqDiff, Nat.reduceAdd, reduceCtorEq]
      refine ⟨[75, 81], by simp, by simp, by simp, ?_⟩
      simp only [range1, List.length_singleton, renL_rwp, Nat.not_lt_zero, range1, ren_val, ren_any, ren_ro, rnNm_n, rnNm_sn, rnNm_o, rnNm_s, ren_st, ren_tup, renL_nil, renL_cons, renL_intsK, renL_rws, renL_rwn, oren_box, oren_row, oren_map, ren_own_e0, ren_own_e1, ren_own_e2, ren_ptr_e0, ren_mp_e0, ren_mp_e1, ren_own_r0, ren_own_r1, ren_own_r2, ren_ptr_r0, ren_mp_r0, ren_mp_r1, List.range_zero, callHp_nil, callHp_one, callHp_two, gone_nil, gone_one, gone_two, AVal.fresh, freshL, fresh_intsK, fresh_rws, AObj.fresh, id, Option.isSome_some, or_true, true_or, go_sem, adopt_fun, Int.reduceLT, Int.reduceLE, Int.reduceToNat, Int.reduceNeg, Nat.reduceLT, Nat.reduceLeDiff, Nat.reduceMul, Nat.reduceSub, reduceIte, Nat.reduceEqDiff, Nat.reduceAdd, reduceCtorEq]
      exact ⟨n, o, ps, qs, v75, v81, a, s, ⟨⟨i3, by omega, by rw [List.length_map]; omega, by rw [List.length_map]; omega, fun row hr => by obtain ⟨p, hp, rfl⟩ := List.mem_map.1 hr; exact j7 p hp⟩, i5, i6, by rw [List.length_map, List.length_map]; exact j4, fun row hr => by obtain ⟨p, hp, rfl⟩ := List.mem_map.1 hr; exact j8 p hp⟩, i4, j6, by omega, by omega, rfl, by simp, rfl⟩
  have h4 : ∀ (σ : St) (v4 v5 : Nat) (a s n o : Int), at_ ≤ a ∧ a ≤ at_ + 10 ∧ 1 ≤ n ∧ n ≤ most ∧ 1 ≤ o ∧ o ≤ 3 → σ.keep [0, 4, 5] [4, 5, 75, 81, 5000, 5001] =
      ⟨L .any [(0, .ptr 5000 0 0), (4, .ptr 4 v4 0), (5, .ptr 5 v5 0)], L .gone [(4, .box v4 [iv 0, iv 0, nilS, nilS]), (5, .box v5 [iv n, iv o, nilS, nilS]), (75, .gone), (81, .gone), (5000, .box 0 (srcC code a s)), (5001, .gone)]⟩ → wpD Try.prog B_spec_l06Draw_4 Q σ := by
    rintro σ v4 v5 a s n o ⟨i1, i2, i3, i4, i5, i6⟩ hS
    unfold B_spec_l06Draw_4
    rw [wpD_kp, hS]
    simp only [wpD_kp, wpD_regi, go_sem, adopt_fun, Int.reduceLT, Int.reduceLE, Int.reduceToNat, Int.reduceNeg, Nat.reduceLT, Nat.reduceLeDiff, Nat.reduceMul, Nat.reduceSub, reduceIte, Nat.reduceEqDiff, Nat.reduceAdd, reduceCtorEq]
    intro vs U hN
    refine call_funB (k_pick code a s 2 hb (by omega)) rfl qCS qCS ?_
    rintro cs' x ⟨a1, s1, b1, rfl, h1, h2, rfl, h3, h4⟩
    have hw : IntKind.i64.wrap (1 + b1) = 1 + b1 := w64 (by omega)
    simp only [hw, B_spec_l06Draw_5, wpD_kp, wpD_regi, go_sem, adopt_fun, Int.reduceLT, Int.reduceLE, Int.reduceToNat, Int.reduceNeg, Nat.reduceLT, Nat.reduceLeDiff, Nat.reduceMul, Nat.reduceSub, reduceIte, Nat.reduceEqDiff, Nat.reduceAdd, reduceCtorEq]
    intro vs2 U2 hN2
    refine call_funB (k_one code a1 s1 8 hb (by omega)) rfl qCS qCS ?_
    rintro cs' x ⟨a2, s2, b2, rfl, g1, g2, rfl⟩
    simp only [B_spec_l06Draw_6, wpD_kp, wpD_regi, go_sem, adopt_fun, Int.reduceLT, Int.reduceLE, Int.reduceToNat, Int.reduceNeg, Nat.reduceLT, Nat.reduceLeDiff, Nat.reduceMul, Nat.reduceSub, reduceIte, Nat.reduceEqDiff, Nat.reduceAdd, reduceCtorEq]
    refine ⟨fun _ vs3 U3 hN3 => ?_, fun _ => ?_⟩
    · exact h7 _ v4 v5 a2 s2 n o 3 (by omega) (by simp only [go_sem, adopt_fun, Int.reduceLT, Int.reduceLE, Int.reduceToNat, Int.reduceNeg, Nat.reduceLT, Nat.reduceLeDiff, Nat.reduceMul, Nat.reduceSub, reduceIte, Nat.reduceEqDiff, Nat.reduceAdd, reduceCtorEq]; try rfl)
    · exact h7 _ v4 v5 a2 s2 n o (1 + b1) (by omega) (by simp only [go_sem, adopt_fun, Int.reduceLT, Int.reduceLE, Int.reduceToNat, Int.reduceNeg, Nat.reduceLT, Nat.reduceLeDiff, Nat.reduceMul, Nat.reduceSub, reduceIte, Nat.reduceEqDiff, Nat.reduceAdd, reduceCtorEq]; try rfl)
  simp only [A_spec_l06Draw, B_spec_l06Draw_1, wpD_kp, wpD_regi, go_sem, adopt_fun, Int.reduceLT, Int.reduceLE, Int.reduceToNat, Int.reduceNeg, Nat.reduceLT, Nat.reduceLeDiff, Nat.reduceMul, Nat.reduceSub, reduceIte, Nat.reduceEqDiff, Nat.reduceAdd, reduceCtorEq]
  intro vs U hN vs1 U1 hN1
  refine call_funB (k_pick code at_ seed most hb (by omega)) rfl qCS qCS ?_
  rintro cs' x ⟨a1, s1, b1, rfl, h1, h2, rfl, h3, h4'⟩
  have hn1 : IntKind.i64.wrap (1 + b1) = 1 + b1 := w64 (by omega)
  simp only [hn1, B_spec_l06Draw_2, wpD_kp, wpD_regi, go_sem, adopt_fun, Int.reduceLT, Int.reduceLE, Int.reduceToNat, Int.reduceNeg, Nat.reduceLT, Nat.reduceLeDiff, Nat.reduceMul, Nat.reduceSub, reduceIte, Nat.reduceEqDiff, Nat.reduceAdd, reduceCtorEq]
  intro vs2 U2 hN2
  refine call_funB (k_one code a1 s1 6 hb (by omega)) rfl qCS qCS ?_
  rintro cs' x ⟨a2, s2, b2, rfl, g1, g2, rfl⟩
  simp only [B_spec_l06Draw_3, wpD_kp, wpD_regi, go_sem, adopt_fun, Int.reduceLT, Int.reduceLE, Int.reduceToNat, Int.reduceNeg, Nat.reduceLT, Nat.reduceLeDiff, Nat.reduceMul, Nat.reduceSub, reduceIte, Nat.reduceEqDiff, Nat.reduceAdd, reduceCtorEq]
  refine ⟨fun _ vs3 U3 hN3 => ?_, fun _ => ?_⟩
  · refine ⟨⟨⟨_, rfl, rfl⟩, _, rfl, rfl⟩, ?_⟩
    refine call_boxrow (r := 5000) (q := 20) (k_among code a2 s2 [1, 3] hb (by omega) (by simp)) rfl rfl (by decide) qCS (by simp only [coeL_cons, coeL_nil, and_true, Coe]; exact ⟨⟨0, _, _, rfl, rfl, rfl, rfl, rfl⟩, 1, _, _, rfl, rfl, rfl, rfl, rfl⟩) ?_
    rintro cs' x ⟨a3, s3, b3, rfl, g3, g4, rfl, g5⟩
    have hb3 : b3 = 1 ∨ b3 = 3 := by simpa using g5
    simp only [go_sem, adopt_fun, Int.reduceLT, Int.reduceLE, Int.reduceToNat, Int.reduceNeg, Nat.reduceLT, Nat.reduceLeDiff, Nat.reduceMul, Nat.reduceSub, reduceIte, Nat.reduceEqDiff, Nat.reduceAdd, reduceCtorEq]
    exact h4 _ (vs 0 0) (vs1 5 0) a3 s3 (1 + b1) b3 (by omega) (by simp only [go_sem, adopt_fun, Int.reduceLT, Int.reduceLE, Int.reduceToNat, Int.reduceNeg, Nat.reduceLT, Nat.reduceLeDiff, Nat.reduceMul, Nat.reduceSub, reduceIte, Nat.reduceEqDiff, Nat.reduceAdd, reduceCtorEq]; try rfl)
  · exact h4 _ (vs 0 0) (vs1 5 0) a2 s2 (1 + b1) 2 (by omega) (by simp only [go_sem, adopt_fun, Int.reduceLT, Int.reduceLE, Int.reduceToNat, Int.reduceNeg, Nat.reduceLT, Nat.reduceLeDiff, Nat.reduceMul, Nat.reduceSub, reduceIte, Nat.reduceEqDiff, Nat.reduceAdd, reduceCtorEq]; try rfl)
end Go.Ab
