/- The law FnProduct: its contract. Conditions: none. -/
import Derived.Test.YtmdimjlfgjmchaaNc
import Derived.Test.YtmdimjlfgjmchaaNd
import Derived.Test.YtmdimjlfgjmchaaNe
set_option linter.all false
namespace Go.Ab
open Go.Proofs
set_option maxRecDepth 20000
set_option maxHeartbeats 4000000
set_option linter.unusedSimpArgs false

theorem actA_rg {n : Int} {next : List (List Int)} (A : Aut n next) {w : List Int} (hw : IsW next.length w) : ((actA n next w).length : Int) = n ∧ ∀ x ∈ actA n next w, 0 ≤ x ∧ x < n := by
  have := A.n1
  refine ⟨by simp [actA]; omega, fun x hx => ?_⟩
  simp only [actA, List.mem_map, List.mem_range] at hx
  obtain ⟨s, hs, rfl⟩ := hx
  exact A.at (by omega) hw

theorem k_FnProduct (code more : List Int) (hb : ∀ x ∈ code, 0 ≤ x ∧ x ≤ 255) (hb2 : ∀ x ∈ more, 0 ≤ x ∧ x ≤ 255) : Fun Try.prog n_laws_FnProduct [.ro (some (some 0)) 1 (intsK .u8 code), .ro (some (some 0)) 1 (intsK .u8 more)] (bv true) := by
  refine fun_of mixed c_laws_FnProduct rfl ⟨rfl, trivial⟩ ?_
  simp only [A_laws_FnProduct, B_laws_FnProduct_1, go_sem, adopt_fun, Int.reduceLT, Int.reduceLE, Int.reduceToNat, Int.reduceNeg, Nat.reduceLT, Nat.reduceLeDiff, Nat.reduceMul, Nat.reduceSub, reduceIte, Nat.reduceEqDiff, Nat.reduceAdd, reduceCtorEq]
  intro vs
  refine call_fun (k_a2Long code more) qCS trivial ?_
  simp only [B_laws_FnProduct_2, B_laws_FnProduct_3, go_sem, adopt_fun, Int.reduceLT, Int.reduceLE, Int.reduceToNat, Int.reduceNeg, Nat.reduceLT, Nat.reduceLeDiff, Nat.reduceMul, Nat.reduceSub, reduceIte, Nat.reduceEqDiff, Nat.reduceAdd, reduceCtorEq]
  intro _ vs2
  refine call_sh (k_A2Pair code hb) qCS (fun e => by cases e) ?_
  rintro outs rows res ⟨rfl, na, an, nb, bn, va, vb, A, B, na3, nb3, hl, rfl, rfl⟩
  refine ⟨rfl, by simp, by rw [Option.getD_some, gone_two]; simp only [go_sem, adopt_fun, Int.reduceLT, Int.reduceLE, Int.reduceToNat, Int.reduceNeg, Nat.reduceLT, Nat.reduceLeDiff, Nat.reduceMul, Nat.reduceSub, reduceIte, Nat.reduceEqDiff, Nat.reduceAdd, reduceCtorEq], ?_⟩
  simp only [B_laws_FnProduct_4, Nat.not_lt_zero, range1, ren_val, ren_any, ren_ro, rnNm_n, rnNm_sn, rnNm_o, rnNm_s, ren_st, ren_tup, renL_nil, renL_cons, renL_intsK, renL_rws, renL_rwn, oren_box, oren_row, oren_map, ren_own_e0, ren_own_e1, ren_own_e2, ren_ptr_e0, ren_mp_e0, ren_mp_e1, ren_own_r0, ren_own_r1, ren_own_r2, ren_ptr_r0, ren_mp_r0, ren_mp_r1, List.range_zero, callHp_nil, callHp_one, callHp_two, gone_nil, gone_one, gone_two, AVal.fresh, freshL, fresh_intsK, fresh_rws, AObj.fresh, id, Option.isSome_some, or_true, true_or, go_sem, adopt_fun, Int.reduceLT, Int.reduceLE, Int.reduceToNat, Int.reduceNeg, Nat.reduceLT, Nat.reduceLeDiff, Nat.reduceMul, Nat.reduceSub, reduceIte, Nat.reduceEqDiff, Nat.reduceAdd, reduceCtorEq]
  intro vs3
  refine call_rowI (k_A2Word more na an hb2 A.l1) qCS qWS ⟨[], by simp [IsW8]⟩ ?_
  rintro w v6 hw8
  have hw : IsW an.length w := hw8.2
  have hwb : IsW bn.length w := fun x hx => by have := hw x hx; omega
  have hw4 : w.length ≤ 400 := by have := hw8.1; omega
  simp only [B_laws_FnProduct_5, go_sem, adopt_fun, Int.reduceLT, Int.reduceLE, Int.reduceToNat, Int.reduceNeg, Nat.reduceLT, Nat.reduceLeDiff, Nat.reduceMul, Nat.reduceSub, reduceIte, Nat.reduceEqDiff, Nat.reduceAdd, reduceCtorEq]
  intro vs4
  refine call_fn (k_ProductOf na nb an bn A B hl na3 nb3) qCS (fun e => by cases e) ?_
  rintro rows res ⟨vp, rfl, rfl⟩
  refine ⟨by simp, by rw [Option.getD_some, gone_one]; simp only [go_sem, adopt_fun, Int.reduceLT, Int.reduceLE, Int.reduceToNat, Int.reduceNeg, Nat.reduceLT, Nat.reduceLeDiff, Nat.reduceMul, Nat.reduceSub, reduceIte, Nat.reduceEqDiff, Nat.reduceAdd, reduceCtorEq], ?_⟩
  have a1 := A.n1
  have b1 := B.n1
  have hm : 1 ≤ na * nb ∧ na * nb ≤ 9 := by
    have e1 : na = 1 ∨ na = 2 ∨ na = 3 := by omega
    rcases e1 with rfl | rfl | rfl <;> omega
  have P := A.prod B hl (by omega)
  have hpl := prodL_len (nb := nb) (an := an) (bn := bn)
  have hwp : IsW (prodL nb an bn).length w := by rw [hpl]; exact hw
  simp only [B_laws_FnProduct_6, Option.getD_some, Nat.not_lt_zero, range1, ren_val, ren_any, ren_ro, rnNm_n, rnNm_sn, rnNm_o, rnNm_s, ren_st, ren_tup, renL_nil, renL_cons, renL_intsK, renL_rws, renL_rwn, oren_box, oren_row, oren_map, ren_own_e0, ren_own_e1, ren_own_e2, ren_ptr_e0, ren_mp_e0, ren_mp_e1, ren_own_r0, ren_own_r1, ren_own_r2, ren_ptr_r0, ren_mp_r0, ren_mp_r1, List.range_zero, callHp_nil, callHp_one, callHp_two, gone_nil, gone_one, gone_two, AVal.fresh, freshL, fresh_intsK, fresh_rws, AObj.fresh, id, Option.isSome_some, or_true, true_or, go_sem, adopt_fun, Int.reduceLT, Int.reduceLE, Int.reduceToNat, Int.reduceNeg, Nat.reduceLT, Nat.reduceLeDiff, Nat.reduceMul, Nat.reduceSub, reduceIte, Nat.reduceEqDiff, Nat.reduceAdd, reduceCtorEq]
  intro vs5
  refine call_tupI (k_ActionOf na an w A hw hw4) qCS qWS ⟨_, rfl⟩ ?_
  rintro xs v7 rfl
  simp only [B_laws_FnProduct_7, go_sem, adopt_fun, Int.reduceLT, Int.reduceLE, Int.reduceToNat, Int.reduceNeg, Nat.reduceLT, Nat.reduceLeDiff, Nat.reduceMul, Nat.reduceSub, reduceIte, Nat.reduceEqDiff, Nat.reduceAdd, reduceCtorEq]
  intro vs6
  refine call_tupI (k_ActionOf nb bn w B hwb hw4) qCS qWS ⟨_, rfl⟩ ?_
  rintro xs v8 rfl
  simp only [B_laws_FnProduct_8, go_sem, adopt_fun, Int.reduceLT, Int.reduceLE, Int.reduceToNat, Int.reduceNeg, Nat.reduceLT, Nat.reduceLeDiff, Nat.reduceMul, Nat.reduceSub, reduceIte, Nat.reduceEqDiff, Nat.reduceAdd, reduceCtorEq]
  intro vs7
  refine call_tupI (k_ActionOf (na * nb) (prodL nb an bn) w P hwp hw4) qCS qWS ⟨_, rfl⟩ ?_
  rintro xs v9 rfl
  have xa := actA_rg A hw
  have xb := actA_rg B hwb
  have xp := actA_rg P hwp
  have hzz : ∀ (i k : Nat), (i : Int) < na → (k : Int) < nb → (actA (na * nb) (prodL nb an bn) w).getD ((i : Int) * nb + k).toNat 0 = (actA na an w).getD i 0 * nb + (actA nb bn w).getD k 0 := by
    intro i k hi hk
    have h1 := prod_lt (x := (i : Int)) (y := (k : Int)) (na := na) (nb := nb) (by omega) (by omega)
    rw [actA_getD (i := ((i : Int) * nb + k).toNat) (by omega), actA_getD hi, actA_getD hk, show ((((i : Int) * nb + k).toNat : Nat) : Int) = (i : Int) * nb + k by omega]
    exact prod_at A B hl w (by omega) (by omega) hw
  have hzs : ∀ (s : Nat), (s : Int) < na * nb → (actA (na * nb) (prodL nb an bn) w).getD s 0 = atA (prodL nb an bn) s w := fun s hs => actA_getD hs
  generalize hxa : actA na an w = x at xa hzz
  generalize hxb : actA nb bn w = y at xb hzz
  generalize hxp : actA (na * nb) (prodL nb an bn) w = z at xp hzz hzs
  have e0 : ((0 : Int) != 0) = false := rfl
  have w1 : IntKind.i64.wrap (na * nb) = na * nb := w64 (by omega)
  simp only [e0, B_laws_FnProduct_9, go_sem, adopt_fun, Int.reduceLT, Int.reduceLE, Int.reduceToNat, Int.reduceNeg, Nat.reduceLT, Nat.reduceLeDiff, Nat.reduceMul, Nat.reduceSub, reduceIte, Nat.reduceEqDiff, Nat.reduceAdd, reduceCtorEq]
  intro vs8
  refine call_fun (k_a2Map x na xa.2 xa.1) qCS trivial ?_
  simp only [go_sem, adopt_fun, Int.reduceLT, Int.reduceLE, Int.reduceToNat, Int.reduceNeg, Nat.reduceLT, Nat.reduceLeDiff, Nat.reduceMul, Nat.reduceSub, reduceIte, Nat.reduceEqDiff, Nat.reduceAdd, reduceCtorEq]
  refine call_fun (k_a2Map y nb xb.2 xb.1) qCS trivial ?_
  simp only [w1, go_sem, adopt_fun, Int.reduceLT, Int.reduceLE, Int.reduceToNat, Int.reduceNeg, Nat.reduceLT, Nat.reduceLeDiff, Nat.reduceMul, Nat.reduceSub, reduceIte, Nat.reduceEqDiff, Nat.reduceAdd, reduceCtorEq]
  refine call_fun (k_a2Map z (na * nb) xp.2 xp.1) qCS trivial ?_
  simp only [B_laws_FnProduct_10, B_laws_FnProduct_11, B_laws_FnProduct_12, go_sem, adopt_fun, Int.reduceLT, Int.reduceLE, Int.reduceToNat, Int.reduceNeg, Nat.reduceLT, Nat.reduceLeDiff, Nat.reduceMul, Nat.reduceSub, reduceIte, Nat.reduceEqDiff, Nat.reduceAdd, reduceCtorEq]
  refine wpD_lo (fun i => na.toNat - i) (fun i => (i : Int) ≤ na)
    (fun (i : Nat) => ⟨L .any [(1, .ro (some (some 0)) 1 (intsK .u8 more)), (5, .ptr 5 (vs2 5 0) 0), (6, .ptr 6 (vs2 6 0) 0), (7, .own 41 v6), (8, .ptr 8 (vs4 6 0) 0), (10, .own 51 v7), (12, .own 57 v8), (14, .own 63 v9), (16, iv i)],
      L .gone [(5, .box (vs2 5 0) [iv na, .own 36 (vs2 1 va)]), (6, .box (vs2 6 0) [iv nb, .own 1036 (vs2 1 vb)]), (8, .box (vs4 6 0) [iv (na * nb), .own 45 (vs4 2 vp)]), (36, .row (vs2 1 va) 1 true (rws an)), (41, .row v6 1 true (ints w)),
        (45, .row (vs4 2 vp) 1 true (rws (prodL nb an bn))), (51, .row v7 1 true (ints x)), (57, .row v8 1 true (ints y)), (63, .row v9 1 true (ints z)), (1036, .row (vs2 1 vb) 1 true (rws bn))]⟩)
    0 (by simp; omega) (by simp only [B_laws_FnProduct_13, go_sem, adopt_fun, Int.reduceLT, Int.reduceLE, Int.reduceToNat, Int.reduceNeg, Nat.reduceLT, Nat.reduceLeDiff, Nat.reduceMul, Nat.reduceSub, reduceIte, Nat.reduceEqDiff, Nat.reduceAdd, reduceCtorEq]; try rfl) ?_
  intro i hi
  by_cases hil : (i : Int) < na
  · have hi1 : i < x.length := by omega
    have w2 : IntKind.i64.wrap ((i : Int) + 1) = ((i + 1 : Nat) : Int) := by rw [w64 (by omega)]; simp
    simp only [B_laws_FnProduct_13, B_laws_FnProduct_14, B_laws_FnProduct_15, B_laws_FnProduct_16, decide_eq_true hil, go_sem, adopt_fun, Int.reduceLT, Int.reduceLE, Int.reduceToNat, Int.reduceNeg, Nat.reduceLT, Nat.reduceLeDiff, Nat.reduceMul, Nat.reduceSub, reduceIte, Nat.reduceEqDiff, Nat.reduceAdd, reduceCtorEq]
    refine wpD_lo (fun k => nb.toNat - k) (fun k => (k : Int) ≤ nb)
      (fun (k : Nat) => ⟨L .any [(1, .ro (some (some 0)) 1 (intsK .u8 more)), (5, .ptr 5 (vs2 5 0) 0), (6, .ptr 6 (vs2 6 0) 0), (7, .own 41 v6), (8, .ptr 8 (vs4 6 0) 0), (10, .own 51 v7), (12, .own 57 v8), (14, .own 63 v9), (16, iv i), (17, iv k)],
        L .gone [(5, .box (vs2 5 0) [iv na, .own 36 (vs2 1 va)]), (6, .box (vs2 6 0) [iv nb, .own 1036 (vs2 1 vb)]), (8, .box (vs4 6 0) [iv (na * nb), .own 45 (vs4 2 vp)]), (36, .row (vs2 1 va) 1 true (rws an)), (41, .row v6 1 true (ints w)),
          (45, .row (vs4 2 vp) 1 true (rws (prodL nb an bn))), (51, .row v7 1 true (ints x)), (57, .row v8 1 true (ints y)), (63, .row v9 1 true (ints z)), (1036, .row (vs2 1 vb) 1 true (rws bn))]⟩)
      0 (by simp; omega) (by simp only [B_laws_FnProduct_17, go_sem, adopt_fun, Int.reduceLT, Int.reduceLE, Int.reduceToNat, Int.reduceNeg, Nat.reduceLT, Nat.reduceLeDiff, Nat.reduceMul, Nat.reduceSub, reduceIte, Nat.reduceEqDiff, Nat.reduceAdd, reduceCtorEq]; try rfl) ?_
    intro k hk
    by_cases hkl : (k : Int) < nb
    · have hk1 : k < y.length := by omega
      have w3 : IntKind.i64.wrap ((k : Int) + 1) = ((k + 1 : Nat) : Int) := by rw [w64 (by omega)]; simp
      have hx := xa.2 _ (getD_mem hi1 0)
      have hy := xb.2 _ (getD_mem hk1 0)
      have g1 := prod_lt (x := (i : Int)) (y := (k : Int)) (na := na) (nb := nb) (by omega) (by omega)
      have g2 := prod_lt (x := (i : Int)) (y := 0) (na := na) (nb := nb) (by omega) (by omega)
      have g3 := prod_lt hx hy
      have g4 := prod_lt (x := x.getD i 0) (y := 0) (na := na) (nb := nb) hx (by omega)
      have hz1 : ((i : Int) * nb + k).toNat < z.length := by omega
      have hzk := hzz i k hil hkl
      have w4 : IntKind.i64.wrap ((i : Int) * nb) = (i : Int) * nb := w64 (by omega)
      have w5 : IntKind.i64.wrap ((i : Int) * nb + k) = (i : Int) * nb + k := w64 (by omega)
      have w6 : IntKind.i64.wrap (x.getD i 0 * nb) = x.getD i 0 * nb := w64 (by omega)
      have w7 : IntKind.i64.wrap (x.getD i 0 * nb + y.getD k 0) = x.getD i 0 * nb + y.getD k 0 := w64 (by omega)
      simp only [B_laws_FnProduct_17, B_laws_FnProduct_18, B_laws_FnProduct_19, w4, w5, intsK_getD hz1, intsK_getD hi1, intsK_getD hk1, w6, w7, hzk, decide_eq_true hkl, go_sem, adopt_fun, Int.reduceLT, Int.reduceLE, Int.reduceToNat, Int.reduceNeg, Nat.reduceLT, Nat.reduceLeDiff, Nat.reduceMul, Nat.reduceSub, reduceIte, Nat.reduceEqDiff, Nat.reduceAdd, reduceCtorEq]
      refine ⟨⟨g1.1, hz1⟩, hz1, ⟨by omega, hi1⟩, hi1, ⟨by omega, hk1⟩, hk1, ?_⟩
      have e3 : (x.getD i 0 * nb + y.getD k 0 != x.getD i 0 * nb + y.getD k 0) = false := bne_self_eq_false _
      simp only [e3, B_laws_FnProduct_20, B_laws_FnProduct_21, w3, go_sem, adopt_fun, Int.reduceLT, Int.reduceLE, Int.reduceToNat, Int.reduceNeg, Nat.reduceLT, Nat.reduceLeDiff, Nat.reduceMul, Nat.reduceSub, reduceIte, Nat.reduceEqDiff, Nat.reduceAdd, reduceCtorEq]
      exact ⟨k + 1, by omega, by omega, rfl⟩
    · simp only [B_laws_FnProduct_17, B_laws_FnProduct_18, B_laws_FnProduct_22, w2, decide_eq_false hkl, go_sem, adopt_fun, Int.reduceLT, Int.reduceLE, Int.reduceToNat, Int.reduceNeg, Nat.reduceLT, Nat.reduceLeDiff, Nat.reduceMul, Nat.reduceSub, reduceIte, Nat.reduceEqDiff, Nat.reduceAdd, reduceCtorEq]
      exact ⟨i + 1, by omega, by omega, rfl⟩
  have hfa := tour_can A
  have hfb := tour_can B
  have hfp := tour_can P
  have hcan : (firstT (tourT (prodL nb an bn) (2 ^ (na * nb).toNat - 1))).isSome = ((firstT (tourT an (2 ^ na.toNat - 1))).isSome && (firstT (tourT bn (2 ^ nb.toNat - 1))).isSome) := by
    rw [Bool.eq_iff_iff, hfp, Bool.and_eq_true, hfa, hfb]
    exact can_prod A B hl (by omega)
  simp only [B_laws_FnProduct_13, B_laws_FnProduct_14, B_laws_FnProduct_23, decide_eq_false hil, go_sem, adopt_fun, Int.reduceLT, Int.reduceLE, Int.reduceToNat, Int.reduceNeg, Nat.reduceLT, Nat.reduceLeDiff, Nat.reduceMul, Nat.reduceSub, reduceIte, Nat.reduceEqDiff, Nat.reduceAdd, reduceCtorEq]
  intro vs9
  refine call_fun2 (k_CanReset na an A) qCS ?_
  simp only [B_laws_FnProduct_24, go_sem, adopt_fun, Int.reduceLT, Int.reduceLE, Int.reduceToNat, Int.reduceNeg, Nat.reduceLT, Nat.reduceLeDiff, Nat.reduceMul, Nat.reduceSub, reduceIte, Nat.reduceEqDiff, Nat.reduceAdd, reduceCtorEq]
  intro vs10
  refine call_fun2 (k_CanReset nb bn B) qCS ?_
  simp only [B_laws_FnProduct_25, go_sem, adopt_fun, Int.reduceLT, Int.reduceLE, Int.reduceToNat, Int.reduceNeg, Nat.reduceLT, Nat.reduceLeDiff, Nat.reduceMul, Nat.reduceSub, reduceIte, Nat.reduceEqDiff, Nat.reduceAdd, reduceCtorEq]
  intro vs11
  refine call_fun2 (k_CanReset (na * nb) (prodL nb an bn) P) qCS ?_
  rw [hcan]
  generalize (firstT (tourT an (2 ^ na.toNat - 1))).isSome = fa
  generalize (firstT (tourT bn (2 ^ nb.toNat - 1))).isSome = fb
  simp only [B_laws_FnProduct_26, go_sem, adopt_fun, Int.reduceLT, Int.reduceLE, Int.reduceToNat, Int.reduceNeg, Nat.reduceLT, Nat.reduceLeDiff, Nat.reduceMul, Nat.reduceSub, reduceIte, Nat.reduceEqDiff, Nat.reduceAdd, reduceCtorEq]
  intro vs12
  refine call_funE (k_a2At more 0 (na * nb) hb2 (by omega)) qCS ⟨_, 0, rfl, by omega, .inr rfl⟩ ?_
  rintro _ ⟨s, rfl, hs1, hs2⟩
  have hs2 : s < na * nb := by omega
  have C := ClS.reach P ⟨hs1, hs2⟩
  have hSI := nrm_SI (reachL (na * nb) (prodL nb an bn) s)
  have hsm : s ∈ nrm (reachL (na * nb) (prodL nb an bn) s) := nrm_mem.2 (reach_closed P ⟨hs1, hs2⟩).1
  have hR := k_ReachedFrom (na * nb) (prodL nb an bn) s
  have hok : (autB (na * nb) (prodL nb an bn) && (decide (0 ≤ s) && decide (s ≤ na * nb - 1))) = true := by
    rw [autB_iff.2 P, decide_eq_true hs1, decide_eq_true (by omega)]; rfl
  have hoc : codeI (autB (na * nb) (prodL nb an bn)) (decide (0 ≤ s) && decide (s ≤ na * nb - 1)) = 0 := by
    rw [autB_iff.2 P, decide_eq_true hs1, decide_eq_true (by omega)]; rfl
  rw [hok, hoc] at hR
  generalize nrm (reachL (na * nb) (prodL nb an bn) s) = set at C hSI hsm hR
  simp only [go_sem, adopt_fun, Int.reduceLT, Int.reduceLE, Int.reduceToNat, Int.reduceNeg, Nat.reduceLT, Nat.reduceLeDiff, Nat.reduceMul, Nat.reduceSub, reduceIte, Nat.reduceEqDiff, Nat.reduceAdd, reduceCtorEq]
  refine call_rowT hR qCS qGN (fun _ v10 => ?_) (fun e => by cases e)
  have hsl : 1 ≤ set.length := List.length_pos_of_mem hsm
  have hsl2 : set.length ≤ 10 := by
    rcases SI_len hSI (fun x hx => C.rg x hx) with h | h
    · omega
    · rw [h] at hsl; simp at hsl
  simp only [B_laws_FnProduct_27, go_sem, adopt_fun, Int.reduceLT, Int.reduceLE, Int.reduceToNat, Int.reduceNeg, Nat.reduceLT, Nat.reduceLeDiff, Nat.reduceMul, Nat.reduceSub, reduceIte, Nat.reduceEqDiff, Nat.reduceAdd, reduceCtorEq]
  intro vs13
  refine call_fn (k_RestrictTo (na * nb) (prodL nb an bn) set P C (setB_iff.2 ⟨hSI, C.rg⟩) hsl hsl2) qCS (fun e => by cases e) ?_
  rintro rows res ⟨v11, ps, rfl, hps, rfl⟩
  refine ⟨by simp, by rw [Option.getD_some, gone_one]; simp only [go_sem, adopt_fun, Int.reduceLT, Int.reduceLE, Int.reduceToNat, Int.reduceNeg, Nat.reduceLT, Nat.reduceLeDiff, Nat.reduceMul, Nat.reduceSub, reduceIte, Nat.reduceEqDiff, Nat.reduceAdd, reduceCtorEq], ?_⟩
  have hdn : dnL (renL (rid [] 165 1) (vs13 2) (rwp ps)) = rws ((prodL nb an bn).map (renR set)) := by
    rw [renL_rwp, dnL_rwp, List.map_map, ← hps]; rfl
  have R := P.rest C hsl hsl2
  have hwr : IsW ((prodL nb an bn).map (renR set)).length w := by rw [List.length_map, hpl]; exact hw
  have hra := fun (j : Nat) (hj : (j : Int) < set.length) => rest_at C w (j := (j : Int)) ⟨by omega, hj⟩ hwp
  simp only [B_laws_FnProduct_28, hdn, Option.getD_some, Nat.not_lt_zero, range1, ren_val, ren_any, ren_ro, rnNm_n, rnNm_sn, rnNm_o, rnNm_s, ren_st, ren_tup, renL_nil, renL_cons, renL_intsK, renL_rws, renL_rwn, oren_box, oren_row, oren_map, ren_own_e0, ren_own_e1, ren_own_e2, ren_ptr_e0, ren_mp_e0, ren_mp_e1, ren_own_r0, ren_own_r1, ren_own_r2, ren_ptr_r0, ren_mp_r0, ren_mp_r1, List.range_zero, callHp_nil, callHp_one, callHp_two, gone_nil, gone_one, gone_two, AVal.fresh, freshL, fresh_intsK, fresh_rws, AObj.fresh, id, Option.isSome_some, or_true, true_or, go_sem, adopt_fun, Int.reduceLT, Int.reduceLE, Int.reduceToNat, Int.reduceNeg, Nat.reduceLT, Nat.reduceLeDiff, Nat.reduceMul, Nat.reduceSub, reduceIte, Nat.reduceEqDiff, Nat.reduceAdd, reduceCtorEq]
  intro vs14
  refine call_tupI (k_ActionOf set.length ((prodL nb an bn).map (renR set)) w R hwr hw4) qCS qWS ⟨_, rfl⟩ ?_
  rintro _ v12 rfl
  have xr := actA_rg R hwr
  have hrs : ∀ (j : Nat), (j : Int) < set.length → (actA set.length ((prodL nb an bn).map (renR set)) w).getD j 0 = atA ((prodL nb an bn).map (renR set)) j w := fun j hj => actA_getD hj
  generalize actA set.length ((prodL nb an bn).map (renR set)) w = act at xr hrs
  have e4 : ((act.length : Int) != (set.length : Int)) = false := by rw [xr.1]; exact bne_self_eq_false _
  have hK : ∀ σ : St, σ.kd B_laws_FnProduct_30.kts B_laws_FnProduct_30.khs = ⟨L .any [(8, .ptr 8 (vs4 6 0) 0), (14, .own 63 v9), (24, .own 159 v10), (28, .own 171 v12), (210, bv false)],
      L .gone [(5, .box (vs2 5 0) [iv na, .own 36 (vs2 1 va)]), (6, .box (vs2 6 0) [iv nb, .own 1036 (vs2 1 vb)]), (8, .box (vs4 6 0) [iv (na * nb), .own 45 (vs4 2 vp)]), (26, .box (vs13 6 0) [iv set.length, .own 165 (vs13 2 v11)]), (36, .row (vs2 1 va) 1 true (rws an)), (41, .row v6 1 true (ints w)),
      (45, .row (vs4 2 vp) 1 true (rws (prodL nb an bn))), (63, .row v9 1 true (ints z)), (159, .row v10 1 true (ints set)), (165, .row (vs13 2 v11) 1 true (rws ((prodL nb an bn).map (renR set)))), (171, .row v12 1 true (ints act)), (1036, .row (vs2 1 vb) 1 true (rws bn))]⟩ →
      wpD Try.prog B_laws_FnProduct_30 (seqQ (wpD Try.prog B_laws_FnProduct_31) (finQ fun σ => σ.tm 4 = bv true)) σ := by
    intro σ hS
    rw [wpD_lab rfl, hS]
    simp only [B_laws_FnProduct_30, B_laws_FnProduct_31, B_laws_FnProduct_32, go_sem, adopt_fun, Int.reduceLT, Int.reduceLE, Int.reduceToNat, Int.reduceNeg, Nat.reduceLT, Nat.reduceLeDiff, Nat.reduceMul, Nat.reduceSub, reduceIte, Nat.reduceEqDiff, Nat.reduceAdd, reduceCtorEq]
    refine wpD_lo (fun i => set.length - i) (fun i => i ≤ set.length)
      (fun (i : Nat) => ⟨L .any [(8, .ptr 8 (vs4 6 0) 0), (14, .own 63 v9), (24, .own 159 v10), (28, .own 171 v12), (30, iv i)],
        L .gone [(5, .box (vs2 5 0) [iv na, .own 36 (vs2 1 va)]), (6, .box (vs2 6 0) [iv nb, .own 1036 (vs2 1 vb)]), (8, .box (vs4 6 0) [iv (na * nb), .own 45 (vs4 2 vp)]), (26, .box (vs13 6 0) [iv set.length, .own 165 (vs13 2 v11)]), (36, .row (vs2 1 va) 1 true (rws an)), (41, .row v6 1 true (ints w)),
      (45, .row (vs4 2 vp) 1 true (rws (prodL nb an bn))), (63, .row v9 1 true (ints z)), (159, .row v10 1 true (ints set)), (165, .row (vs13 2 v11) 1 true (rws ((prodL nb an bn).map (renR set)))), (171, .row v12 1 true (ints act)), (1036, .row (vs2 1 vb) 1 true (rws bn))]⟩)
      0 (by simp) (by simp only [B_laws_FnProduct_33, go_sem, adopt_fun, Int.reduceLT, Int.reduceLE, Int.reduceToNat, Int.reduceNeg, Nat.reduceLT, Nat.reduceLeDiff, Nat.reduceMul, Nat.reduceSub, reduceIte, Nat.reduceEqDiff, Nat.reduceAdd, reduceCtorEq]; try rfl) ?_
    intro i hi
    by_cases hil : (i : Int) < set.length
    · have hi1 : i < set.length := by omega
      have hi2 : i < act.length := by omega
      have ha := xr.2 _ (getD_mem hi2 0)
      have hs3 := C.rg _ (getD_mem hi1 0)
      have h5 := (hra i hil).2
      rw [← hrs i hil, Int.toNat_natCast] at h5
      have h6 := hzs (set.getD i 0).toNat (by omega)
      rw [show (((set.getD i 0).toNat : Nat) : Int) = set.getD i 0 by omega] at h6
      have ha1 : (act.getD i 0).toNat < set.length := by omega
      have hz1 : (set.getD i 0).toNat < z.length := by omega
      have q1 : ¬ act.getD i 0 < 0 := by omega
      have q2 : ¬ act.getD i 0 ≥ (set.length : Int) := by omega
      have q3 : ¬ set.getD i 0 < 0 := by omega
      have q4 : ¬ set.getD i 0 ≥ na * nb := by omega
      have q5 : (atA (prodL nb an bn) (set.getD i 0) w != atA (prodL nb an bn) (set.getD i 0) w) = false := bne_self_eq_false _
      simp only [B_laws_FnProduct_33, B_laws_FnProduct_34, B_laws_FnProduct_35, intsK_getD hi1, intsK_getD hi2, intsK_getD ha1, intsK_getD hz1, h5, h6, q5, decide_eq_true hil, decide_eq_false q1, decide_eq_false q2, decide_eq_false q3, decide_eq_false q4, go_sem, adopt_fun, Int.reduceLT, Int.reduceLE, Int.reduceToNat, Int.reduceNeg, Nat.reduceLT, Nat.reduceLeDiff, Nat.reduceMul, Nat.reduceSub, reduceIte, Nat.reduceEqDiff, Nat.reduceAdd, reduceCtorEq]
      intro hM
      refine ⟨⟨by omega, hi2⟩, hi2, ⟨by omega, hi2⟩, hi2, ⟨by omega, hi1⟩, hi1, ⟨by omega, hi1⟩, hi1, ⟨by omega, hi2⟩, hi2, ⟨ha.1, ha1⟩, ha1, ⟨by omega, hi1⟩, hi1, ⟨hs3.1, hz1⟩, hz1, ?_⟩
      simp only [B_laws_FnProduct_36, B_laws_FnProduct_37, nat1 i _ hi1 hM, go_sem, adopt_fun, Int.reduceLT, Int.reduceLE, Int.reduceToNat, Int.reduceNeg, Nat.reduceLT, Nat.reduceLeDiff, Nat.reduceMul, Nat.reduceSub, reduceIte, Nat.reduceEqDiff, Nat.reduceAdd, reduceCtorEq]
      exact ⟨i + 1, by omega, by omega, rfl⟩
    · simp only [B_laws_FnProduct_33, B_laws_FnProduct_34, B_laws_FnProduct_38, decide_eq_false hil, go_sem, adopt_fun, Int.reduceLT, Int.reduceLE, Int.reduceToNat, Int.reduceNeg, Nat.reduceLT, Nat.reduceLeDiff, Nat.reduceMul, Nat.reduceSub, reduceIte, Nat.reduceEqDiff, Nat.reduceAdd, reduceCtorEq]
  have d1 : (!(false == false)) = false := rfl
  have d2 : (!(true == true)) = false := rfl
  cases fa <;> cases fb
  all_goals
    simp only [e0, e4, d1, d2, Bool.false_and, Bool.true_and, B_laws_FnProduct_29, go_sem, adopt_fun, Int.reduceLT, Int.reduceLE, Int.reduceToNat, Int.reduceNeg, Nat.reduceLT, Nat.reduceLeDiff, Nat.reduceMul, Nat.reduceSub, reduceIte, Nat.reduceEqDiff, Nat.reduceAdd, reduceCtorEq]
    intros
    refine hK _ ?_
    simp only [B_laws_FnProduct_30, go_sem, adopt_fun, Int.reduceLT, Int.reduceLE, Int.reduceToNat, Int.reduceNeg, Nat.reduceLT, Nat.reduceLeDiff, Nat.reduceMul, Nat.reduceSub, reduceIte, Nat.reduceEqDiff, Nat.reduceAdd, reduceCtorEq]
    try rfl
end Go.Ab
