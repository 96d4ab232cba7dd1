/- Contracts: drawn automata and words. Conditions: none. -/
import Derived.Test.YtmdimjlfgjmchaaKa
import Derived.Test.YtmdimjlfgjmchaaM7
set_option linter.all false
namespace Go.Ab
open Go.Proofs
set_option maxRecDepth 20000
set_option linter.unusedSimpArgs false

/-- A word of at most 8 letters. -/
def IsW8 (l : Nat) (w : List Int) : Prop := w.length ≤ 8 ∧ ∀ x ∈ w, 0 ≤ x ∧ x < l

theorem k_A2Word (code : List Int) (n : Int) (next : List (List Int)) (hb : ∀ x ∈ code, 0 ≤ x ∧ x ≤ 255) (hl : 1 ≤ next.length) :
    RowI Try.prog n_spec_A2Word [.ro (some (some 0)) 1 (intsK .u8 code), .st [iv n, .ro none 1 (rwn next)]] (IsW8 next.length) := by
  refine rowI_of mixed c_spec_A2Word rfl ?_
  simp only [B_spec_A2Word_6, B_spec_A2Word_8, B_spec_A2Word_7, B_spec_A2Word_5, B_spec_A2Word_4, B_spec_A2Word_9, B_spec_A2Word_3, B_spec_A2Word_2, B_spec_A2Word_1, A_spec_A2Word, go_sem, adopt_fun, Int.reduceLT, Int.reduceLE, Int.reduceToNat, Int.reduceNeg, Nat.reduceLT, Nat.reduceLeDiff, Nat.reduceMul, Nat.reduceSub, reduceIte, Nat.reduceEqDiff, Nat.reduceAdd, reduceCtorEq]
  intro vs vs2
  refine call_sh (k_from code) qCS (fun _ => ⟨_, _, _, rfl, 0, rfl, rfl⟩) ?_
  rintro outs rows res ⟨rfl, v, rfl, rfl⟩
  refine ⟨rfl, by simp, by rw [Option.getD_some, gone_one]; simp only [go_sem, adopt_fun, Int.reduceLT, Int.reduceLE, Int.reduceToNat, Int.reduceNeg, Nat.reduceLT, Nat.reduceLeDiff, Nat.reduceMul, Nat.reduceSub, reduceIte, Nat.reduceEqDiff, Nat.reduceAdd, reduceCtorEq], ?_⟩
  simp only [Nat.not_lt_zero, range1, ren_val, ren_any, ren_ro, rnNm_n, rnNm_sn, rnNm_o, rnNm_s, ren_st, ren_tup, renL_nil, renL_cons, renL_intsK, renL_rws, renL_rwn, oren_box, oren_row, oren_map, ren_own_e0, ren_own_e1, ren_own_e2, ren_ptr_e0, ren_mp_e0, ren_mp_e1, ren_own_r0, ren_own_r1, ren_own_r2, ren_ptr_r0, ren_mp_r0, ren_mp_r1, List.range_zero, callHp_nil, callHp_one, callHp_two, gone_nil, gone_one, gone_two, AVal.fresh, freshL, fresh_intsK, fresh_rws, AObj.fresh, id, Option.isSome_some, or_true, true_or, go_sem, adopt_fun, Int.reduceLT, Int.reduceLE, Int.reduceToNat, Int.reduceNeg, Nat.reduceLT, Nat.reduceLeDiff, Nat.reduceMul, Nat.reduceSub, reduceIte, Nat.reduceEqDiff, Nat.reduceAdd, reduceCtorEq]
  intro vs3 vs4
  refine call_funB (k_pick code 0 0 9 hb (by omega)) rfl qCS qCS ?_
  rintro cs' x ⟨a', s', b, rfl, h1, h2, rfl, h3, h4⟩
  simp only [Nat.not_lt_zero, range1, ren_val, ren_any, ren_ro, rnNm_n, rnNm_sn, rnNm_o, rnNm_s, ren_st, ren_tup, renL_nil, renL_cons, renL_intsK, renL_rws, renL_rwn, oren_box, oren_row, oren_map, ren_own_e0, ren_own_e1, ren_own_e2, ren_ptr_e0, ren_mp_e0, ren_mp_e1, ren_own_r0, ren_own_r1, ren_own_r2, ren_ptr_r0, ren_mp_r0, ren_mp_r1, List.range_zero, callHp_nil, callHp_one, callHp_two, gone_nil, gone_one, gone_two, AVal.fresh, freshL, fresh_intsK, fresh_rws, AObj.fresh, id, Option.isSome_some, or_true, true_or, go_sem, adopt_fun, Int.reduceLT, Int.reduceLE, Int.reduceToNat, Int.reduceNeg, Nat.reduceLT, Nat.reduceLeDiff, Nat.reduceMul, Nat.reduceSub, reduceIte, Nat.reduceEqDiff, Nat.reduceAdd, reduceCtorEq]
  refine wpD_lo (fun (_, _, _, _, _, _, k) => Int.toNat k) (fun (w, _, _, _, a, _, k) => IsW8 next.length w ∧ (w.length : Int) + k ≤ 8 ∧ 0 ≤ a ∧ a + 2 * k ≤ 100 ∧ 0 ≤ k)
    (fun ((w, v10, v9, v3, a, s, k) : List Int × Nat × Nat × Nat × Int × Int × Int) => ⟨L .any [(3, .ptr 3 v3 0), (5, .ptr 9 v9 0), (6, .own 10 v10), (7, iv k)], L .gone [(3, .box v3 [iv n, .ro none 1 (rwn next)]), (9, .box v9 (srcC code a s)), (10, .row v10 1 true (ints w))]⟩)
    ([], _, _, _, a', s', b) ?_ (by simp only [go_sem, adopt_fun, Int.reduceLT, Int.reduceLE, Int.reduceToNat, Int.reduceNeg, Nat.reduceLT, Nat.reduceLeDiff, Nat.reduceMul, Nat.reduceSub, reduceIte, Nat.reduceEqDiff, Nat.reduceAdd, reduceCtorEq]; rfl) ?_
  · simp only [IsW8, List.length_nil, List.not_mem_nil]
    simp
    omega
  · rintro ⟨w, v10, v9, v3, a, s, k⟩ ⟨hw, hk1, ha, ha2, hk⟩
    by_cases hk0 : k > 0
    · simp only [decide_eq_true hk0, go_sem, adopt_fun, Int.reduceLT, Int.reduceLE, Int.reduceToNat, Int.reduceNeg, Nat.reduceLT, Nat.reduceLeDiff, Nat.reduceMul, Nat.reduceSub, reduceIte, Nat.reduceEqDiff, Nat.reduceAdd, reduceCtorEq]
      intro vs5 hM
      refine call_funB (k_pick code a s next.length hb (by omega)) rfl qCS qCS ?_
      rintro cs' x ⟨a'', s'', b', rfl, g1, g2, rfl, g3, g4⟩
      have hwk : IntKind.i64.wrap (k - 1) = k - 1 := w64 (by omega)
      simp only [hwk, Nat.not_lt_zero, range1, ren_val, ren_any, ren_ro, rnNm_n, rnNm_sn, rnNm_o, rnNm_s, ren_st, ren_tup, renL_nil, renL_cons, renL_intsK, renL_rws, renL_rwn, oren_box, oren_row, oren_map, ren_own_e0, ren_own_e1, ren_own_e2, ren_ptr_e0, ren_mp_e0, ren_mp_e1, ren_own_r0, ren_own_r1, ren_own_r2, ren_ptr_r0, ren_mp_r0, ren_mp_r1, List.range_zero, callHp_nil, callHp_one, callHp_two, gone_nil, gone_one, gone_two, AVal.fresh, freshL, fresh_intsK, fresh_rws, AObj.fresh, id, Option.isSome_some, or_true, true_or, go_sem, adopt_fun, Int.reduceLT, Int.reduceLE, Int.reduceToNat, Int.reduceNeg, Nat.reduceLT, Nat.reduceLeDiff, Nat.reduceMul, Nat.reduceSub, reduceIte, Nat.reduceEqDiff, Nat.reduceAdd, reduceCtorEq]
      refine ⟨⟨_, rfl, rfl⟩, ?_, (_, _, _, _, _, _, _), ?_, ?_, rfl⟩
      · omega
      · show (k - 1).toNat < k.toNat
        omega
      · refine ⟨⟨?_, ?_⟩, ?_, ?_, ?_, ?_⟩
        · simp; omega
        · intro x hx
          simp only [List.mem_append, List.mem_singleton] at hx
          rcases hx with hx | rfl
          · exact hw.2 x hx
          · omega
        · simp; omega
        · show 0 ≤ a''; omega
        · show a'' + 2 * (k - 1) ≤ 100; omega
        · show 0 ≤ k - 1; omega
    · simp only [decide_eq_false hk0, go_sem, adopt_fun, Int.reduceLT, Int.reduceLE, Int.reduceToNat, Int.reduceNeg, Nat.reduceLT, Nat.reduceLeDiff, Nat.reduceMul, Nat.reduceSub, reduceIte, Nat.reduceEqDiff, Nat.reduceAdd, reduceCtorEq]
      exact ⟨10, v10, w, by omega, rfl, by simp only [go_sem, adopt_fun, Int.reduceLT, Int.reduceLE, Int.reduceToNat, Int.reduceNeg, Nat.reduceLT, Nat.reduceLeDiff, Nat.reduceMul, Nat.reduceSub, reduceIte, Nat.reduceEqDiff, Nat.reduceAdd, reduceCtorEq], hw⟩
theorem tmod_in {a n : Int} (h : 0 ≤ a) (hn : 1 ≤ n) : 0 ≤ a.tmod n ∧ a.tmod n < n := ⟨Int.tmod_nonneg _ h, Int.tmod_lt_of_pos _ (by omega)⟩

section
variable {P : Program} {a b : AC} {Q : AEx → St → Prop} {σ : St}
end

/-- What a drawn automaton is. -/
def DrR (code : List Int) (at_ most : Int) (outs rows : List AObj) (res : AVal) : Prop :=
  ∃ n next v a' s', Aut n next ∧ n ≤ most ∧ at_ ≤ a' ∧ a' ≤ at_ + 1000 ∧ outs = [.box 0 (srcC code a' s')] ∧ rows = [.row v 1 true (rws next)] ∧ res = .st [iv n, .own 6000 v]

theorem k_Drawn (code : List Int) (at_ seed most : Int) (hb : ∀ x ∈ code, 0 ≤ x ∧ x ≤ 255) (ha : 0 ≤ at_ ∧ at_ ≤ 1000000) (hm : 1 ≤ most ∧ most ≤ 10) :
    Con Try.prog n_spec_l01Drawn [.box 0 (srcC code at_ seed)] [.ptr 5000 0 0, iv most] true (DrR code at_ most) := by
  -- unnamed: spec_l01Drawn
  refine con_sh mixed c_spec_l01Drawn rfl (by simp) ?_
  generalize hQ : finQ _ = Q
  -- the number of states and that of letters are known
  have h7 : ∀ (σ : St) (v4 : Nat) (a s n l : Int), at_ ≤ a ∧ a ≤ at_ + 20 ∧ 1 ≤ n ∧ n ≤ most ∧ 1 ≤ l ∧ l ≤ 3 → σ.kd B_spec_l01Drawn_7.kts B_spec_l01Drawn_7.khs =
      ⟨L .any [(0, .ptr 5000 0 0), (4, .ptr 4 v4 0), (5, iv n), (6, iv l)], L .gone [(4, .box v4 [iv 0, .val (.slice none 0 0)]), (5000, .box 0 (srcC code a s))]⟩ → wpD Try.prog B_spec_l01Drawn_7 Q σ := by
    rintro σ v4 a s n l ⟨i1, i2, i3, i4, i5, i6⟩ hS
    rw [wpD_lab rfl, hS]
    simp only [B_spec_l01Drawn_7, go_sem, adopt_fun, Int.reduceLT, Int.reduceLE, Int.reduceToNat, Int.reduceNeg, Nat.reduceLT, Nat.reduceLeDiff, Nat.reduceMul, Nat.reduceSub, reduceIte, Nat.reduceEqDiff, Nat.reduceAdd, reduceCtorEq]
    intro vs
    simp only [B_spec_l01Drawn_8, B_spec_l01Drawn_9, go_sem, adopt_fun, Int.reduceLT, Int.reduceLE, Int.reduceToNat, Int.reduceNeg, Nat.reduceLT, Nat.reduceLeDiff, Nat.reduceMul, Nat.reduceSub, reduceIte, Nat.reduceEqDiff, Nat.reduceAdd, reduceCtorEq]
    intro ver
    -- the rows
    refine wpD_lo (fun (_, _, _, _, _, _, next) => l.toNat - List.length next)
      (fun (_, _, _, nn, a, _, next) => at_ ≤ a ∧ a ≤ at_ + 20 + 44 * List.length next ∧ (List.length next : Int) ≤ l ∧ (next ≠ [] → nn = true) ∧ ∀ row ∈ next, (List.length row : Int) = n ∧ ∀ x ∈ row, 0 ≤ x ∧ x < n)
      (fun ((v4, v7, v87, nn, a, s, next) : Nat × Nat × Nat × Bool × Int × Int × List (List Int)) =>
        ⟨L .any [(0, .ptr 5000 0 0), (4, .ptr 4 v4 0), (5, iv n), (6, iv l), (7, .ptr 7 v7 0), (8, iv next.length)],
         L .gone [(4, .box v4 [iv 0, .val (.slice none 0 0)]), (7, .box v7 [iv n, .own 87 v87]), (87, .row v87 1 nn (rws next)), (5000, .box 0 (srcC code a s))]⟩)
      (v4, _, _, _, a, s, []) ?_ (by simp only [B_spec_l01Drawn_10, go_sem, adopt_fun, Int.reduceLT, Int.reduceLE, Int.reduceToNat, Int.reduceNeg, Nat.reduceLT, Nat.reduceLeDiff, Nat.reduceMul, Nat.reduceSub, reduceIte, Nat.reduceEqDiff, Nat.reduceAdd, reduceCtorEq]; try rfl) ?_
    · simp; omega
    · rintro ⟨v4, v7, v87, nn, a, s, next⟩ ⟨j1, j2, j3, j5, j4⟩
      by_cases hlt : (next.length : Int) < l
      · simp only [B_spec_l01Drawn_10, B_spec_l01Drawn_11, B_spec_l01Drawn_12, decide_eq_true hlt, go_sem, adopt_fun, Int.reduceLT, Int.reduceLE, Int.reduceToNat, Int.reduceNeg, Nat.reduceLT, Nat.reduceLeDiff, Nat.reduceMul, Nat.reduceSub, reduceIte, Nat.reduceEqDiff, Nat.reduceAdd, reduceCtorEq]
        intro vs2
        simp only [B_spec_l01Drawn_13, go_sem, adopt_fun, Int.reduceLT, Int.reduceLE, Int.reduceToNat, Int.reduceNeg, Nat.reduceLT, Nat.reduceLeDiff, Nat.reduceMul, Nat.reduceSub, reduceIte, Nat.reduceEqDiff, Nat.reduceAdd, reduceCtorEq]
        intro vs3
        refine call_funB (k_pick code a s 5 hb (by omega)) rfl qCS qCS ?_
        rintro cs' x ⟨a1, s1, kind, rfl, h1, h2, rfl, h3, h4⟩
        simp only [B_spec_l01Drawn_14, B_spec_l01Drawn_15, go_sem, adopt_fun, Int.reduceLT, Int.reduceLE, Int.reduceToNat, Int.reduceNeg, Nat.reduceLT, Nat.reduceLeDiff, Nat.reduceMul, Nat.reduceSub, reduceIte, Nat.reduceEqDiff, Nat.reduceAdd, reduceCtorEq]
        refine wpD_lo (fun (_, _, _, row) => n.toNat - List.length row)
          (fun (_, a', _, row) => at_ ≤ a' ∧ a' ≤ a1 + 4 * List.length row ∧ (List.length row : Int) ≤ n ∧ ∀ x ∈ row, 0 ≤ x ∧ x < n)
          (fun ((v9, a, s, row) : Nat × Int × Int × List Int) => ⟨L .any [(0, .ptr 5000 0 0), (4, .ptr 4 v4 0), (5, iv n), (6, iv l), (7, .ptr 7 v7 0), (8, iv next.length), (9, .own 46 v9), (10, iv kind), (11, iv row.length)], L .gone [(4, .box v4 [iv 0, .val (.slice none 0 0)]), (7, .box v7 [iv n, .own 87 v87]), (46, .row v9 1 true (ints row)), (87, .row v87 1 nn (rws next)), (5000, .box 0 (srcC code a s))]⟩)
          (_, a1, s1, []) ?_ (by simp only [B_spec_l01Drawn_16, go_sem, adopt_fun, Int.reduceLT, Int.reduceLE, Int.reduceToNat, Int.reduceNeg, Nat.reduceLT, Nat.reduceLeDiff, Nat.reduceMul, Nat.reduceSub, reduceIte, Nat.reduceEqDiff, Nat.reduceAdd, reduceCtorEq]; try rfl) ?_
        · simp; omega
        · rintro ⟨v9, a, s, row⟩ ⟨q1, q2, q3, q4⟩
          by_cases hlt2 : (row.length : Int) < n
          · simp only [B_spec_l01Drawn_16, B_spec_l01Drawn_17, B_spec_l01Drawn_18, decide_eq_true hlt2, go_sem, adopt_fun, Int.reduceLT, Int.reduceLE, Int.reduceToNat, Int.reduceNeg, Nat.reduceLT, Nat.reduceLeDiff, Nat.reduceMul, Nat.reduceSub, reduceIte, Nat.reduceEqDiff, Nat.reduceAdd, reduceCtorEq]
            intro vs4
            refine call_funB (k_pick code a s n hb (by omega)) rfl qCS qCS ?_
            rintro cs' x ⟨a2, s2, to, rfl, f1, f2, rfl, f3, f4⟩
            simp only [go_sem, adopt_fun, Int.reduceLT, Int.reduceLE, Int.reduceToNat, Int.reduceNeg, Nat.reduceLT, Nat.reduceLeDiff, Nat.reduceMul, Nat.reduceSub, reduceIte, Nat.reduceEqDiff, Nat.reduceAdd, reduceCtorEq]
            rw [wpD_lab (b := B_spec_l01Drawn_19) rfl]
            refine wpD_cut (α := Int × Int × Int) (fun (a', _, t) => a2 ≤ a' ∧ a' ≤ a2 + 2 ∧ 0 ≤ t ∧ t < n)
              (fun ((a, s, t) : Int × Int × Int) => ⟨L .any [(0, .ptr 5000 0 0), (4, .ptr 4 v4 0), (5, iv n), (6, iv l), (7, .ptr 7 v7 0), (8, iv next.length), (9, .own 46 v9), (10, iv kind), (11, iv row.length), (12, iv t)], L .gone [(4, .box v4 [iv 0, .val (.slice none 0 0)]), (7, .box v7 [iv n, .own 87 v87]), (46, .row v9 1 true (ints row)), (87, .row v87 1 nn (rws next)), (5000, .box 0 (srcC code a s))]⟩) ?_ ?_
            · have w1 : IntKind.i64.wrap ((row.length : Int) + 1) = row.length + 1 := w64 (by omega)
              have w2 : IntKind.i64.wrap (n - 1) = n - 1 := w64 (by omega)
              have w3 : IntKind.i64.wrap (n - 1 - row.length) = n - 1 - row.length := w64 (by omega)
              have hn0 : ¬ n = 0 := by omega
              have ht := tmod_in (a := (row.length : Int) + 1) (n := n) (by omega) i3
              by_cases k0 : kind = 0
              · subst k0
                simp only [w1, hn0, B_spec_l01Drawn_19, B_spec_l01Drawn_20, B_spec_l01Drawn_21, go_sem, adopt_fun, Int.reduceLT, Int.reduceLE, Int.reduceToNat, Int.reduceNeg, Nat.reduceLT, Nat.reduceLeDiff, Nat.reduceMul, Nat.reduceSub, reduceIte, Nat.reduceEqDiff, Nat.reduceAdd, reduceCtorEq]
                exact ⟨(_, _, ((row.length : Int) + 1).tmod n), (by dsimp only; omega), rfl⟩
              by_cases k1 : kind = 1
              · subst k1
                simp only [beq_false_of_ne (show (1 : Int) ≠ 0 by omega), B_spec_l01Drawn_19, B_spec_l01Drawn_20, B_spec_l01Drawn_21, B_spec_l01Drawn_22, go_sem, adopt_fun, Int.reduceLT, Int.reduceLE, Int.reduceToNat, Int.reduceNeg, Nat.reduceLT, Nat.reduceLeDiff, Nat.reduceMul, Nat.reduceSub, reduceIte, Nat.reduceEqDiff, Nat.reduceAdd, reduceCtorEq]
                intro vs5
                refine call_funB (k_one code a2 s2 4 hb (by omega)) rfl qCS qCS ?_
                rintro cs' x ⟨a3, s3, b, rfl, e1, e2, rfl⟩
                simp only [B_spec_l01Drawn_23, go_sem, adopt_fun, Int.reduceLT, Int.reduceLE, Int.reduceToNat, Int.reduceNeg, Nat.reduceLT, Nat.reduceLeDiff, Nat.reduceMul, Nat.reduceSub, reduceIte, Nat.reduceEqDiff, Nat.reduceAdd, reduceCtorEq]
                exact ⟨fun _ => ⟨(_, _, (row.length : Int)), (by dsimp only; omega), rfl⟩, fun _ => ⟨(_, _, to), (by dsimp only; omega), rfl⟩⟩
              by_cases k2 : kind = 2
              · subst k2
                simp only [beq_false_of_ne (show (2 : Int) ≠ 0 by omega), beq_false_of_ne (show (2 : Int) ≠ 1 by omega), B_spec_l01Drawn_19, B_spec_l01Drawn_20, B_spec_l01Drawn_21, B_spec_l01Drawn_22, B_spec_l01Drawn_24, go_sem, adopt_fun, Int.reduceLT, Int.reduceLE, Int.reduceToNat, Int.reduceNeg, Nat.reduceLT, Nat.reduceLeDiff, Nat.reduceMul, Nat.reduceSub, reduceIte, Nat.reduceEqDiff, Nat.reduceAdd, reduceCtorEq]
                intro vs5
                refine call_funB (k_one code a2 s2 3 hb (by omega)) rfl qCS qCS ?_
                rintro cs' x ⟨a3, s3, b, rfl, e1, e2, rfl⟩
                simp only [w2, w3, B_spec_l01Drawn_25, go_sem, adopt_fun, Int.reduceLT, Int.reduceLE, Int.reduceToNat, Int.reduceNeg, Nat.reduceLT, Nat.reduceLeDiff, Nat.reduceMul, Nat.reduceSub, reduceIte, Nat.reduceEqDiff, Nat.reduceAdd, reduceCtorEq]
                exact ⟨fun _ => ⟨(_, _, n - 1 - (row.length : Int)), (by dsimp only; omega), rfl⟩, fun _ => ⟨(_, _, to), (by dsimp only; omega), rfl⟩⟩
              simp only [beq_false_of_ne k0, beq_false_of_ne k1, beq_false_of_ne k2, B_spec_l01Drawn_19, B_spec_l01Drawn_20, B_spec_l01Drawn_21, B_spec_l01Drawn_22, B_spec_l01Drawn_24, go_sem, adopt_fun, Int.reduceLT, Int.reduceLE, Int.reduceToNat, Int.reduceNeg, Nat.reduceLT, Nat.reduceLeDiff, Nat.reduceMul, Nat.reduceSub, reduceIte, Nat.reduceEqDiff, Nat.reduceAdd, reduceCtorEq]
              exact ⟨(_, _, to), (by dsimp only; omega), rfl⟩
            · rintro ⟨a3, s3, t⟩ ⟨e1, e2, e3, e4⟩
              have w1 : IntKind.i64.wrap ((row.length : Int) + 1) = ((row ++ [t]).length : Int) := by rw [w64 (by omega)]; simp
              simp only [w1, B_spec_l01Drawn_26, B_spec_l01Drawn_27, go_sem, adopt_fun, Int.reduceLT, Int.reduceLE, Int.reduceToNat, Int.reduceNeg, Nat.reduceLT, Nat.reduceLeDiff, Nat.reduceMul, Nat.reduceSub, reduceIte, Nat.reduceEqDiff, Nat.reduceAdd, reduceCtorEq]
              intro vs6
              refine ⟨⟨_, rfl, rfl⟩, by omega, (_, _, _, row ++ [t]), ?_, ⟨?_, ?_, ?_, ?_⟩, rfl⟩
              · simp; omega
              · show at_ ≤ a3; omega
              · simp; omega
              · simp; omega
              · intro x hx
                simp only [List.mem_append, List.mem_singleton] at hx
                rcases hx with hx | rfl
                · exact q4 x hx
                · omega
          · simp only [B_spec_l01Drawn_16, B_spec_l01Drawn_17, B_spec_l01Drawn_18, decide_eq_false hlt2, go_sem, adopt_fun, Int.reduceLT, Int.reduceLE, Int.reduceToNat, Int.reduceNeg, Nat.reduceLT, Nat.reduceLeDiff, Nat.reduceMul, Nat.reduceSub, reduceIte, Nat.reduceEqDiff, Nat.reduceAdd, reduceCtorEq]
            have hrow : (row.length : Int) = n := by omega
            have w1 : IntKind.i64.wrap ((next.length : Int) + 1) = ((next ++ [row]).length : Int) := by rw [w64 (by omega)]; simp
            simp only [B_spec_l01Drawn_28, go_sem, adopt_fun, Int.reduceLT, Int.reduceLE, Int.reduceToNat, Int.reduceNeg, Nat.reduceLT, Nat.reduceLeDiff, Nat.reduceMul, Nat.reduceSub, reduceIte, Nat.reduceEqDiff, Nat.reduceAdd, reduceCtorEq]
            intro vs4
            refine ⟨by omega, ?_⟩
            simp only [w1, B_spec_l01Drawn_29, go_sem, adopt_fun, Int.reduceLT, Int.reduceLE, Int.reduceToNat, Int.reduceNeg, Nat.reduceLT, Nat.reduceLeDiff, Nat.reduceMul, Nat.reduceSub, reduceIte, Nat.reduceEqDiff, Nat.reduceAdd, reduceCtorEq]
            refine ⟨(_, _, _, _, _, _, next ++ [row]), ?_, ⟨?_, ?_, ?_, ?_, ?_⟩, rfl⟩
            · simp; omega
            · show at_ ≤ a; omega
            · simp; omega
            · simp; omega
            · exact fun _ => rfl
            · intro r hr
              simp only [List.mem_append, List.mem_singleton] at hr
              rcases hr with hr | rfl
              · exact j4 r hr
              · exact ⟨hrow, q4⟩
      · simp only [B_spec_l01Drawn_10, B_spec_l01Drawn_11, B_spec_l01Drawn_12, decide_eq_false hlt, go_sem, adopt_fun, Int.reduceLT, Int.reduceLE, Int.reduceToNat, Int.reduceNeg, Nat.reduceLT, Nat.reduceLeDiff, Nat.reduceMul, Nat.reduceSub, reduceIte, Nat.reduceEqDiff, Nat.reduceAdd, reduceCtorEq]
        have hnn : nn = true := j5 (by intro e; rw [e] at hlt; simp at hlt; omega)
        subst hnn
        simp only [B_spec_l01Drawn_30, ← hQ, A_spec_l01Drawn, go_sem, adopt_fun, Int.reduceLT, Int.reduceLE, Int.reduceToNat, Int.reduceNeg, Nat.reduceLT, Nat.reduceLeDiff, Nat.reduceMul, Nat.reduceSub, reduceIte, Nat.reduceEqDiff, Nat.reduceAdd, reduceCtorEq]
        refine ⟨[87], by simp, by simp, by simp, ?_⟩
        simp only [range1, List.length_singleton, Nat.not_lt_zero, range1, ren_val, ren_any, ren_ro, rnNm_n, rnNm_sn, rnNm_o, rnNm_s, ren_st, ren_tup, renL_nil, renL_cons, renL_intsK, renL_rws, renL_rwn, oren_box, oren_row, oren_map, ren_own_e0, ren_own_e1, ren_own_e2, ren_ptr_e0, ren_mp_e0, ren_mp_e1, ren_own_r0, ren_own_r1, ren_own_r2, ren_ptr_r0, ren_mp_r0, ren_mp_r1, List.range_zero, callHp_nil, callHp_one, callHp_two, gone_nil, gone_one, gone_two, AVal.fresh, freshL, fresh_intsK, fresh_rws, AObj.fresh, id, Option.isSome_some, or_true, true_or, go_sem, adopt_fun, Int.reduceLT, Int.reduceLE, Int.reduceToNat, Int.reduceNeg, Nat.reduceLT, Nat.reduceLeDiff, Nat.reduceMul, Nat.reduceSub, reduceIte, Nat.reduceEqDiff, Nat.reduceAdd, reduceCtorEq]
        exact ⟨n, next, v87, a, s, ⟨i3, by omega, by omega, by omega, j4⟩, i4, by omega, by omega, rfl, rfl, rfl⟩
  have h4 : ∀ (σ : St) (v4 : Nat) (a s n : Int), at_ ≤ a ∧ a ≤ at_ + 10 ∧ 1 ≤ n ∧ n ≤ most → σ.kd B_spec_l01Drawn_4.kts B_spec_l01Drawn_4.khs =
      ⟨L .any [(0, .ptr 5000 0 0), (4, .ptr 4 v4 0), (5, iv n)], L .gone [(4, .box v4 [iv 0, .val (.slice none 0 0)]), (5000, .box 0 (srcC code a s))]⟩ → wpD Try.prog B_spec_l01Drawn_4 Q σ := by
    rintro σ v4 a s n ⟨i1, i2, i3, i4⟩ hS
    rw [wpD_lab rfl, hS]
    simp only [B_spec_l01Drawn_4, go_sem, adopt_fun, Int.reduceLT, Int.reduceLE, Int.reduceToNat, Int.reduceNeg, Nat.reduceLT, Nat.reduceLeDiff, Nat.reduceMul, Nat.reduceSub, reduceIte, Nat.reduceEqDiff, Nat.reduceAdd, reduceCtorEq]
    intro vs
    refine call_funB (k_pick code a s 3 hb (by omega)) rfl qCS qCS ?_
    rintro cs' x ⟨a1, s1, b1, rfl, h1, h2, rfl, h3, h4⟩
    have hw : IntKind.i64.wrap (1 + b1) = 1 + b1 := w64 (by omega)
    by_cases he : 1 + b1 = 1
    · simp only [hw.trans he, B_spec_l01Drawn_5, go_sem, adopt_fun, Int.reduceLT, Int.reduceLE, Int.reduceToNat, Int.reduceNeg, Nat.reduceLT, Nat.reduceLeDiff, Nat.reduceMul, Nat.reduceSub, reduceIte, Nat.reduceEqDiff, Nat.reduceAdd, reduceCtorEq]
      intro vs2
      refine call_funB (k_one code a1 s1 3 hb (by omega)) rfl qCS qCS ?_
      rintro cs' x ⟨a2, s2, b2, rfl, g1, g2, rfl⟩
      simp only [B_spec_l01Drawn_6, go_sem, adopt_fun, Int.reduceLT, Int.reduceLE, Int.reduceToNat, Int.reduceNeg, Nat.reduceLT, Nat.reduceLeDiff, Nat.reduceMul, Nat.reduceSub, reduceIte, Nat.reduceEqDiff, Nat.reduceAdd, reduceCtorEq]
      refine ⟨fun _ => h7 _ v4 a2 s2 n 2 (by omega) ?_, fun _ => h7 _ v4 a2 s2 n 1 (by omega) ?_⟩ <;> (simp only [B_spec_l01Drawn_7, go_sem, adopt_fun, Int.reduceLT, Int.reduceLE, Int.reduceToNat, Int.reduceNeg, Nat.reduceLT, Nat.reduceLeDiff, Nat.reduceMul, Nat.reduceSub, reduceIte, Nat.reduceEqDiff, Nat.reduceAdd, reduceCtorEq]; try rfl)
    · simp only [hw, beq_false_of_ne he, B_spec_l01Drawn_5, go_sem, adopt_fun, Int.reduceLT, Int.reduceLE, Int.reduceToNat, Int.reduceNeg, Nat.reduceLT, Nat.reduceLeDiff, Nat.reduceMul, Nat.reduceSub, reduceIte, Nat.reduceEqDiff, Nat.reduceAdd, reduceCtorEq]
      simp only [B_spec_l01Drawn_6, go_sem, adopt_fun, Int.reduceLT, Int.reduceLE, Int.reduceToNat, Int.reduceNeg, Nat.reduceLT, Nat.reduceLeDiff, Nat.reduceMul, Nat.reduceSub, reduceIte, Nat.reduceEqDiff, Nat.reduceAdd, reduceCtorEq]
      refine h7 _ v4 a1 s1 n (1 + b1) (by omega) ?_
      simp only [B_spec_l01Drawn_7, go_sem, adopt_fun, Int.reduceLT, Int.reduceLE, Int.reduceToNat, Int.reduceNeg, Nat.reduceLT, Nat.reduceLeDiff, Nat.reduceMul, Nat.reduceSub, reduceIte, Nat.reduceEqDiff, Nat.reduceAdd, reduceCtorEq]; try rfl
  simp only [A_spec_l01Drawn, B_spec_l01Drawn_1, go_sem, adopt_fun, Int.reduceLT, Int.reduceLE, Int.reduceToNat, Int.reduceNeg, Nat.reduceLT, Nat.reduceLeDiff, Nat.reduceMul, Nat.reduceSub, reduceIte, Nat.reduceEqDiff, Nat.reduceAdd, reduceCtorEq]
  intro vs vs2
  refine call_funB (k_pick code at_ seed most hb (by omega)) rfl qCS qCS ?_
  rintro cs' x ⟨a1, s1, b1, rfl, h1, h2, rfl, h3, h4'⟩
  have hn1 : IntKind.i64.wrap (1 + b1) = 1 + b1 := w64 (by omega)
  by_cases hlt : 1 + b1 < 3
  · simp only [hn1, decide_eq_true hlt, B_spec_l01Drawn_2, go_sem, adopt_fun, Int.reduceLT, Int.reduceLE, Int.reduceToNat, Int.reduceNeg, Nat.reduceLT, Nat.reduceLeDiff, Nat.reduceMul, Nat.reduceSub, reduceIte, Nat.reduceEqDiff, Nat.reduceAdd, reduceCtorEq]
    intro vs3
    refine call_funB (k_one code a1 s1 3 hb (by omega)) rfl qCS qCS ?_
    rintro cs' x ⟨a2, s2, b2, rfl, g1, g2, rfl⟩
    simp only [B_spec_l01Drawn_3, go_sem, adopt_fun, Int.reduceLT, Int.reduceLE, Int.reduceToNat, Int.reduceNeg, Nat.reduceLT, Nat.reduceLeDiff, Nat.reduceMul, Nat.reduceSub, reduceIte, Nat.reduceEqDiff, Nat.reduceAdd, reduceCtorEq]
    refine ⟨fun _ vs4 => ?_, fun _ => h4 _ (vs 0 0) a2 s2 (1 + b1) (by omega) ?_⟩
    · refine call_funB (k_pick code a2 s2 3 hb (by omega)) rfl qCS qCS ?_
      rintro cs' x ⟨a3, s3, b3, rfl, f1, f2, rfl, f3, f4⟩
      have hn2 : IntKind.i64.wrap (3 + b3) = 3 + b3 := w64 (by omega)
      simp only [hn2, go_sem, adopt_fun, Int.reduceLT, Int.reduceLE, Int.reduceToNat, Int.reduceNeg, Nat.reduceLT, Nat.reduceLeDiff, Nat.reduceMul, Nat.reduceSub, reduceIte, Nat.reduceEqDiff, Nat.reduceAdd, reduceCtorEq]
      refine call_fun (k_l00Min most (3 + b3)) qCS trivial ?_
      simp only [go_sem, adopt_fun, Int.reduceLT, Int.reduceLE, Int.reduceToNat, Int.reduceNeg, Nat.reduceLT, Nat.reduceLeDiff, Nat.reduceMul, Nat.reduceSub, reduceIte, Nat.reduceEqDiff, Nat.reduceAdd, reduceCtorEq]
      refine h4 _ (vs 0 0) a3 s3 (min most (3 + b3)) (by omega) ?_
      simp only [B_spec_l01Drawn_4, go_sem, adopt_fun, Int.reduceLT, Int.reduceLE, Int.reduceToNat, Int.reduceNeg, Nat.reduceLT, Nat.reduceLeDiff, Nat.reduceMul, Nat.reduceSub, reduceIte, Nat.reduceEqDiff, Nat.reduceAdd, reduceCtorEq]; try rfl
    · simp only [B_spec_l01Drawn_4, go_sem, adopt_fun, Int.reduceLT, Int.reduceLE, Int.reduceToNat, Int.reduceNeg, Nat.reduceLT, Nat.reduceLeDiff, Nat.reduceMul, Nat.reduceSub, reduceIte, Nat.reduceEqDiff, Nat.reduceAdd, reduceCtorEq]; try rfl
  · simp only [hn1, decide_eq_false hlt, B_spec_l01Drawn_2, go_sem, adopt_fun, Int.reduceLT, Int.reduceLE, Int.reduceToNat, Int.reduceNeg, Nat.reduceLT, Nat.reduceLeDiff, Nat.reduceMul, Nat.reduceSub, reduceIte, Nat.reduceEqDiff, Nat.reduceAdd, reduceCtorEq]
    simp only [B_spec_l01Drawn_3, go_sem, adopt_fun, Int.reduceLT, Int.reduceLE, Int.reduceToNat, Int.reduceNeg, Nat.reduceLT, Nat.reduceLeDiff, Nat.reduceMul, Nat.reduceSub, reduceIte, Nat.reduceEqDiff, Nat.reduceAdd, reduceCtorEq]
    refine h4 _ (vs 0 0) a1 s1 (1 + b1) (by omega) ?_
    simp only [B_spec_l01Drawn_4, go_sem, adopt_fun, Int.reduceLT, Int.reduceLE, Int.reduceToNat, Int.reduceNeg, Nat.reduceLT, Nat.reduceLeDiff, Nat.reduceMul, Nat.reduceSub, reduceIte, Nat.reduceEqDiff, Nat.reduceAdd, reduceCtorEq]; try rfl
theorem call_funBN {P : Program} {nos : List Nat} {σ : St} {g : FuncId} {As args : List AVal} {d : Option Nat} {s : Nat → Nat} {K : St → Prop} {cs cs0 : List AVal} {Q : List AVal → Value → Prop} {r v : Nat} (h : FunB P g cs args Q) (hr : σ.hp r = .box v cs0) (hm : r ∈ nos)
    (hcs : CoeL σ.hp [r] false cs cs0) (hco : CoeL σ.hp [r] false args As) (hex : ∃ cs' x, Q cs' x ∧ flatL cs') (hk : ∀ cs' x, Q cs' x → K (St.put ⟨σ.tm, upd σ.hp r (.box v cs')⟩ d (.val x))) : wpCallN P nos σ g (.ptr r v 0 :: As) d s K := by
  refine ⟨[r], [.box 0 cs], .ptr 5000 0 0 :: args, true, _, h, ⟨by simp, rfl, by simp, ?_, ?_⟩, ?_, ⟨by simpa using hm, ?_⟩, ?_⟩
  · intro r' hr'
    simp only [List.mem_singleton] at hr'
    subst hr'; rw [hr]; simp
  · intro j B r' hB hr'
    cases j with
    | zero =>
      simp at hB hr'
      subst hB hr'
      rw [hr]
      exact ⟨rfl, v, cs0, rfl, hcs⟩
    | succ j => simp at hB
  · rw [coeL_cons, coe_ptr0, hr]
    exact ⟨rfl, hco⟩
  · obtain ⟨cs', x, hq, hf⟩ := hex
    exact ⟨[.box 0 cs'], [], .val x, cs', x, hq, hf, rfl, rfl, rfl⟩
  · rintro outs rows res ⟨cs', x, hq, hf, rfl, rfl, rfl⟩
    refine ⟨rfl, rfl, ?_⟩
    rw [callHp_m, ren_val, oren_box, renL_flat cs' hf]
    have : sv σ.hp [r] s 0 = v := by simp [sv, hr, AObj.ver]
    rw [this]
    exact hk cs' x hq

theorem flat_srcC {code : List Int} {a s : Int} : flatL (srcC code a s) := by simp [flatL, AVal.flat, flat_vals]
end Go.Ab
