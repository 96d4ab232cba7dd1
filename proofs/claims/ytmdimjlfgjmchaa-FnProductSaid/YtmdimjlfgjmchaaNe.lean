/- Contracts: products of automata. Conditions: none. -/
import Derived.Test.YtmdimjlfgjmchaaPk
set_option linter.all false
namespace Go.Ab
open Go.Proofs
set_option maxRecDepth 20000
set_option maxHeartbeats 4000000

theorem prodR_snoc {nb : Int} {ra rb : List Int} {s : Nat} (h : s < ra.length) : prodR nb (ra.take s) rb ++ rb.map (fun y => ra.getD s 0 * nb + y) = prodR nb (ra.take (s + 1)) rb := by
  rw [List.take_succ_eq_append_getElem h, List.getD_eq_getElem?_getD, List.getElem?_eq_getElem h]
  simp only [prodR, List.flatMap_append, List.flatMap_cons, List.flatMap_nil, List.append_nil, Option.getD_some]
theorem map_take_snoc {g : Int → Int} {rb : List Int} {k : Nat} (h : k < rb.length) : (rb.take k).map g ++ [g (rb.getD k 0)] = (rb.take (k + 1)).map g := by
  rw [List.take_succ_eq_append_getElem h, List.getD_eq_getElem?_getD, List.getElem?_eq_getElem h]
  simp only [List.map_append, List.map_cons, List.map_nil, Option.getD_some]

theorem k_ProductOf (na nb : Int) (an bn : List (List Int)) (A : Aut na an) (B : Aut nb bn) (hl : an.length = bn.length) (ha3 : na ≤ 3) (hb3 : nb ≤ 3) :
    Fn Try.prog n_impl_ProductOf [autA na an, autA nb bn] fun rows res => ∃ v, rows = [.row v 1 true (rws (prodL nb an bn))] ∧ res = .tup [.st [iv (na * nb), .own 6000 v], iv 0] := by
  refine con_of mixed c_impl_ProductOf rfl (by simp) ?_
  generalize hQ : finQ _ = Q
  have a1 := A.n1
  have b1 := B.n1
  have l1 := A.l1
  have l2 := A.l2
  have hva : autB na an = true := autB_iff.2 A
  have hvb : autB nb bn = true := autB_iff.2 B
  have hm : 1 ≤ na * nb ∧ na * nb ≤ 9 := by
    have e1 : na = 1 ∨ na = 2 ∨ na = 3 := by omega
    rcases e1 with rfl | rfl | rfl <;> omega
  simp only [A_impl_ProductOf, B_impl_ProductOf_1, go_sem, adopt_fun, Int.reduceLT, Int.reduceLE, Int.reduceToNat, Int.reduceNeg, Nat.reduceLT, Nat.reduceLeDiff, Nat.reduceMul, Nat.reduceSub, reduceIte, Nat.reduceEqDiff, Nat.reduceAdd, reduceCtorEq]
  intro vs0 vs1
  refine call_fun (k_Valid na an) qCS trivial ?_
  simp only [hva, go_sem, adopt_fun, Int.reduceLT, Int.reduceLE, Int.reduceToNat, Int.reduceNeg, Nat.reduceLT, Nat.reduceLeDiff, Nat.reduceMul, Nat.reduceSub, reduceIte, Nat.reduceEqDiff, Nat.reduceAdd, reduceCtorEq]
  refine call_fun (k_Valid nb bn) qCS trivial ?_
  simp only [hvb, B_impl_ProductOf_2, go_sem, adopt_fun, Int.reduceLT, Int.reduceLE, Int.reduceToNat, Int.reduceNeg, Nat.reduceLT, Nat.reduceLeDiff, Nat.reduceMul, Nat.reduceSub, reduceIte, Nat.reduceEqDiff, Nat.reduceAdd, reduceCtorEq]
  intro vs2
  refine call_fun (k_letters na an) qCS trivial ?_
  simp only [go_sem, adopt_fun, Int.reduceLT, Int.reduceLE, Int.reduceToNat, Int.reduceNeg, Nat.reduceLT, Nat.reduceLeDiff, Nat.reduceMul, Nat.reduceSub, reduceIte, Nat.reduceEqDiff, Nat.reduceAdd, reduceCtorEq]
  refine call_fun (k_letters nb bn) qCS trivial ?_
  have e1 : ((an.length : Int) != bn.length) = false := by rw [hl]; simp
  have w1 : IntKind.i64.wrap (na * nb) = na * nb := w64 (by omega)
  have g1 : ¬ na * nb > 10 := by omega
  simp only [e1, B_impl_ProductOf_3, B_impl_ProductOf_4, B_impl_ProductOf_5, w1, decide_eq_false g1, go_sem, adopt_fun, Int.reduceLT, Int.reduceLE, Int.reduceToNat, Int.reduceNeg, Nat.reduceLT, Nat.reduceLeDiff, Nat.reduceMul, Nat.reduceSub, reduceIte, Nat.reduceEqDiff, Nat.reduceAdd, reduceCtorEq]
  intro vs3
  simp only [B_impl_ProductOf_6, B_impl_ProductOf_7, go_sem, adopt_fun, Int.reduceLT, Int.reduceLE, Int.reduceToNat, Int.reduceNeg, Nat.reduceLT, Nat.reduceLeDiff, Nat.reduceMul, Nat.reduceSub, reduceIte, Nat.reduceEqDiff, Nat.reduceAdd, reduceCtorEq]
  intro hM ver
  refine wpD_lo (fun (_, _, _, xss) => an.length - List.length xss)
    (fun (nn, _, _, xss) => xss = (prodL nb an bn).take (List.length xss) ∧ List.length xss ≤ an.length ∧ (xss ≠ [] → nn = true))
    (fun ((nn, v6, va, xss) : Bool × Nat × Nat × List (List Int)) => ⟨L .any [(2, .ptr 2 (vs0 0 0) 0), (3, .ptr 3 (vs0 1 0) 0), (4, .ptr 4 (vs0 2 0) 0), (6, .ptr 6 v6 0), (44, iv an.length), (45, iv xss.length)],
      L .gone [(2, .box (vs0 0 0) [iv na, .ro none 1 (rwn an)]), (3, .box (vs0 1 0) [iv nb, .ro none 1 (rwn bn)]), (4, .box (vs0 2 0) [iv 0, .val (.slice none 0 0)]), (6, .box v6 [iv (na * nb), .own 88 va]), (88, .row va 1 nn (rws xss))]⟩)
    (_, _, _, []) ⟨rfl, by simp, by simp⟩ (by simp only [B_impl_ProductOf_8, List.length_nil, rws_nil, go_sem, adopt_fun, Int.reduceLT, Int.reduceLE, Int.reduceToNat, Int.reduceNeg, Nat.reduceLT, Nat.reduceLeDiff, Nat.reduceMul, Nat.reduceSub, reduceIte, Nat.reduceEqDiff, Nat.reduceAdd, reduceCtorEq]; try rfl) ?_
  rintro ⟨nn, v6, va, xss⟩ ⟨h1, h2, h3⟩
  have h1 : xss = (prodL nb an bn).take xss.length := h1
  have h2 : xss.length ≤ an.length := h2
  have h3 : xss ≠ [] → nn = true := h3
  by_cases hlt : (xss.length : Int) < an.length
  · have hlt1 : xss.length < an.length := by omega
    have hlt2 : xss.length < bn.length := by omega
    have hra := A.row _ (getD_mem hlt1 [])
    have hrb := B.row _ (getD_mem hlt2 [])
    have hpl := prodL_getD (nb := nb) (bn := bn) hlt1
    simp only [B_impl_ProductOf_8, B_impl_ProductOf_9, B_impl_ProductOf_10, B_impl_ProductOf_11, decide_eq_true hlt, go_sem, adopt_fun, Int.reduceLT, Int.reduceLE, Int.reduceToNat, Int.reduceNeg, Nat.reduceLT, Nat.reduceLeDiff, Nat.reduceMul, Nat.reduceSub, reduceIte, Nat.reduceEqDiff, Nat.reduceAdd, reduceCtorEq]
    generalize hga : an.getD xss.length [] = ra at hra hpl
    generalize hgb : bn.getD xss.length [] = rb at hrb hpl
    intro vs4
    simp only [B_impl_ProductOf_12, B_impl_ProductOf_13, go_sem, adopt_fun, Int.reduceLT, Int.reduceLE, Int.reduceToNat, Int.reduceNeg, Nat.reduceLT, Nat.reduceLeDiff, Nat.reduceMul, Nat.reduceSub, reduceIte, Nat.reduceEqDiff, Nat.reduceAdd, reduceCtorEq]
    refine wpD_lo (fun (_, s) => na.toNat - s) (fun (_, s) => (s : Int) ≤ na)
      (fun ((v8, s) : Nat × Nat) => ⟨L .any [(2, .ptr 2 (vs0 0 0) 0), (3, .ptr 3 (vs0 1 0) 0), (4, .ptr 4 (vs0 2 0) 0), (6, .ptr 6 v6 0), (7, iv xss.length), (8, .own 48 v8), (44, iv an.length), (45, iv xss.length), (50, iv na), (51, iv s)],
        L .gone [(2, .box (vs0 0 0) [iv na, .ro none 1 (rwn an)]), (3, .box (vs0 1 0) [iv nb, .ro none 1 (rwn bn)]), (4, .box (vs0 2 0) [iv 0, .val (.slice none 0 0)]), (6, .box v6 [iv (na * nb), .own 88 va]), (48, .row v8 1 true (ints (prodR nb (ra.take s) rb))), (88, .row va 1 nn (rws xss))]⟩)
      (_, 0) (by simp; omega) (by simp only [B_impl_ProductOf_14, go_sem, adopt_fun, Int.reduceLT, Int.reduceLE, Int.reduceToNat, Int.reduceNeg, Nat.reduceLT, Nat.reduceLeDiff, Nat.reduceMul, Nat.reduceSub, reduceIte, Nat.reduceEqDiff, Nat.reduceAdd, reduceCtorEq]; try rfl) ?_
    rintro ⟨v8, s⟩ hs
    have hs : (s : Int) ≤ na := hs
    by_cases hsl : (s : Int) < na
    · have hs1 : s < ra.length := by omega
      have w2 : IntKind.i64.wrap ((s : Int) + 1) = ((s + 1 : Nat) : Int) := by rw [w64 (by omega)]; simp
      have hx := hra.2 _ (getD_mem hs1 0)
      simp only [B_impl_ProductOf_14, B_impl_ProductOf_15, B_impl_ProductOf_16, B_impl_ProductOf_17, B_impl_ProductOf_18, decide_eq_true hsl, go_sem, adopt_fun, Int.reduceLT, Int.reduceLE, Int.reduceToNat, Int.reduceNeg, Nat.reduceLT, Nat.reduceLeDiff, Nat.reduceMul, Nat.reduceSub, reduceIte, Nat.reduceEqDiff, Nat.reduceAdd, reduceCtorEq]
      refine wpD_lo (fun (_, k) => nb.toNat - k) (fun (_, k) => (k : Int) ≤ nb)
        (fun ((v8, k) : Nat × Nat) => ⟨L .any [(2, .ptr 2 (vs0 0 0) 0), (3, .ptr 3 (vs0 1 0) 0), (4, .ptr 4 (vs0 2 0) 0), (6, .ptr 6 v6 0), (7, iv xss.length), (8, .own 48 v8), (9, iv s), (44, iv an.length), (45, iv xss.length), (50, iv na), (51, iv s), (55, iv nb), (56, iv k)],
          L .gone [(2, .box (vs0 0 0) [iv na, .ro none 1 (rwn an)]), (3, .box (vs0 1 0) [iv nb, .ro none 1 (rwn bn)]), (4, .box (vs0 2 0) [iv 0, .val (.slice none 0 0)]), (6, .box v6 [iv (na * nb), .own 88 va]), (48, .row v8 1 true (ints (prodR nb (ra.take s) rb ++ (rb.take k).map (fun y => ra.getD s 0 * nb + y)))), (88, .row va 1 nn (rws xss))]⟩)
        (_, 0) (by simp; omega) (by simp only [B_impl_ProductOf_19, List.take_zero, List.map_nil, List.append_nil, go_sem, adopt_fun, Int.reduceLT, Int.reduceLE, Int.reduceToNat, Int.reduceNeg, Nat.reduceLT, Nat.reduceLeDiff, Nat.reduceMul, Nat.reduceSub, reduceIte, Nat.reduceEqDiff, Nat.reduceAdd, reduceCtorEq]; try rfl) ?_
      rintro ⟨v8, k⟩ hk
      have hk : (k : Int) ≤ nb := hk
      by_cases hkl : (k : Int) < nb
      · have hk1 : k < rb.length := by omega
        have w3 : IntKind.i64.wrap ((k : Int) + 1) = ((k + 1 : Nat) : Int) := by rw [w64 (by omega)]; simp
        have hy := hrb.2 _ (getD_mem hk1 0)
        have hz := prod_lt hx hy
        have hz1 := prod_lt (x := ra.getD s 0) (y := 0) (na := na) (nb := nb) hx (by omega)
        have w4 : IntKind.i64.wrap (ra.getD s 0 * nb) = ra.getD s 0 * nb := w64 (by omega)
        have w5 : IntKind.i64.wrap (ra.getD s 0 * nb + rb.getD k 0) = ra.getD s 0 * nb + rb.getD k 0 := w64 (by omega)
        have hm2 : (rb.take k).map (fun y => ra.getD s 0 * nb + y) ++ [ra.getD s 0 * nb + rb.getD k 0] = (rb.take (k + 1)).map (fun y => ra.getD s 0 * nb + y) := map_take_snoc (g := fun y => ra.getD s 0 * nb + y) hk1
        have hlen : (prodR nb (ra.take s) rb ++ (rb.take k).map (fun y => ra.getD s 0 * nb + y)).length ≤ 1000 := by
          rw [List.length_append, prodR_len, List.length_map, List.length_take, List.length_take]
          have : min s ra.length * rb.length ≤ 3 * 3 := Nat.mul_le_mul (by omega) (by omega)
          omega
        simp only [B_impl_ProductOf_19, B_impl_ProductOf_20, B_impl_ProductOf_21, B_impl_ProductOf_22, rwn_getD hlt1, rwn_getD hlt2, hga, hgb, intsK_getD hs1, intsK_getD hk1, w3, w4, w5, decide_eq_true hkl, go_sem, adopt_fun, Int.reduceLT, Int.reduceLE, Int.reduceToNat, Int.reduceNeg, Nat.reduceLT, Nat.reduceLeDiff, Nat.reduceMul, Nat.reduceSub, reduceIte, Nat.reduceEqDiff, Nat.reduceAdd, reduceCtorEq]
        intro vs5
        refine ⟨⟨by omega, hlt1⟩, hlt1, ⟨by omega, hs1⟩, hs1, ⟨by omega, hlt2⟩, hlt2, ⟨by omega, hk1⟩, hk1, ⟨_, rfl, rfl⟩, by omega, ?_⟩
        simp only [B_impl_ProductOf_23, w3, List.append_assoc, hm2, go_sem, adopt_fun, Int.reduceLT, Int.reduceLE, Int.reduceToNat, Int.reduceNeg, Nat.reduceLT, Nat.reduceLeDiff, Nat.reduceMul, Nat.reduceSub, reduceIte, Nat.reduceEqDiff, Nat.reduceAdd, reduceCtorEq]
        exact ⟨(_, k + 1), by dsimp only; omega, by dsimp only; omega, rfl⟩
      · have hke : k = rb.length := by omega
        subst hke
        simp only [B_impl_ProductOf_19, B_impl_ProductOf_20, B_impl_ProductOf_24, List.take_length, prodR_snoc hs1, w2, decide_eq_false hkl, go_sem, adopt_fun, Int.reduceLT, Int.reduceLE, Int.reduceToNat, Int.reduceNeg, Nat.reduceLT, Nat.reduceLeDiff, Nat.reduceMul, Nat.reduceSub, reduceIte, Nat.reduceEqDiff, Nat.reduceAdd, reduceCtorEq]
        exact ⟨(_, s + 1), by dsimp only; omega, by dsimp only; omega, rfl⟩
    · have hse : s = ra.length := by omega
      subst hse
      have w2 : IntKind.i64.wrap ((xss.length : Int) + 1) = ((xss ++ [prodR nb ra rb]).length : Int) := by rw [w64 (by omega)]; simp
      have hsn : xss ++ [prodR nb ra rb] = (prodL nb an bn).take (xss.length + 1) := by
        have hlp : xss.length < (prodL nb an bn).length := by rw [prodL_len]; exact hlt1
        rw [List.take_succ_eq_append_getElem hlp, ← h1, ← hpl, List.getD_eq_getElem?_getD, List.getElem?_eq_getElem hlp]; rfl
      simp only [B_impl_ProductOf_14, B_impl_ProductOf_15, B_impl_ProductOf_25, List.take_length, decide_eq_false hsl, go_sem, adopt_fun, Int.reduceLT, Int.reduceLE, Int.reduceToNat, Int.reduceNeg, Nat.reduceLT, Nat.reduceLeDiff, Nat.reduceMul, Nat.reduceSub, reduceIte, Nat.reduceEqDiff, Nat.reduceAdd, reduceCtorEq]
      intro vs5
      refine ⟨by omega, ?_⟩
      simp only [w2, B_impl_ProductOf_26, go_sem, adopt_fun, Int.reduceLT, Int.reduceLE, Int.reduceToNat, Int.reduceNeg, Nat.reduceLT, Nat.reduceLeDiff, Nat.reduceMul, Nat.reduceSub, reduceIte, Nat.reduceEqDiff, Nat.reduceAdd, reduceCtorEq]
      exact ⟨(true, _, _, xss ++ [prodR nb ra rb]), by dsimp only; rw [List.length_append, List.length_singleton]; omega, ⟨by dsimp only; rw [List.length_append, List.length_singleton]; exact hsn, by dsimp only; rw [List.length_append, List.length_singleton]; omega, fun _ => rfl⟩, rfl⟩
  · have hxe : xss.length = an.length := by omega
    obtain rfl := h3 (fun e => by rw [e] at hxe; simp at hxe; omega)
    simp only [B_impl_ProductOf_8, B_impl_ProductOf_9, B_impl_ProductOf_27, decide_eq_false hlt, A_impl_ProductOf, ← hQ, go_sem, adopt_fun, Int.reduceLT, Int.reduceLE, Int.reduceToNat, Int.reduceNeg, Nat.reduceLT, Nat.reduceLeDiff, Nat.reduceMul, Nat.reduceSub, reduceIte, Nat.reduceEqDiff, Nat.reduceAdd, reduceCtorEq]
    have hxp : xss = prodL nb an bn := by rw [h1, hxe, ← prodL_len (nb := nb) (an := an) (bn := bn), List.take_length]
    refine ⟨[88], by simp, by simp, by simp, ?_⟩
    simp only [hxp, range1, List.length_singleton, Nat.not_lt_zero, range1, ren_val, ren_any, ren_ro, rnNm_n, rnNm_sn, rnNm_o, rnNm_s, ren_st, ren_tup, renL_nil, renL_cons, renL_intsK, renL_rws, renL_rwn, oren_box, oren_row, oren_map, ren_own_e0, ren_own_e1, ren_own_e2, ren_ptr_e0, ren_mp_e0, ren_mp_e1, ren_own_r0, ren_own_r1, ren_own_r2, ren_ptr_r0, ren_mp_r0, ren_mp_r1, List.range_zero, callHp_nil, callHp_one, callHp_two, gone_nil, gone_one, gone_two, AVal.fresh, freshL, fresh_intsK, fresh_rws, AObj.fresh, id, Option.isSome_some, or_true, true_or, go_sem, adopt_fun, Int.reduceLT, Int.reduceLE, Int.reduceToNat, Int.reduceNeg, Nat.reduceLT, Nat.reduceLeDiff, Nat.reduceMul, Nat.reduceSub, reduceIte, Nat.reduceEqDiff, Nat.reduceAdd, reduceCtorEq]
    exact ⟨va, rfl, rfl⟩
end Go.Ab
