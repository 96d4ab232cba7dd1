/- Contracts: the reference's equivalent states. Conditions: none. -/
import Derived.Test.YtoadopegbnmfkaaMg
import Derived.Test.YtoadopegbnmfkaaMh
set_option linter.all false
namespace Go.Ab
open Go.Proofs
set_option maxRecDepth 20000
set_option maxHeartbeats 2000000

theorem k_l06Apart (n o : Int) (next out : List (List Int)) (M : Mach n o next out) (s t : Nat) (hs : (s : Int) < n) (ht : (t : Int) < n) :
    Fn Try.prog n_spec_l06Apart [machP n o next out, iv s, iv t] fun rows res => ∃ v, rows = [.row v 1 true (ints ((apartQ next next out out s t).getD []))] ∧ res = .tup [.own 6000 v, bv (apartQ next next out out s t).isSome] := by
  refine con_of mixed c_spec_l06Apart rfl (by simp) ?_
  simp only [A_spec_l06Apart, B_spec_l06Apart_1, go_sem, adopt_fun, Int.reduceLT, Int.reduceLE, Int.reduceToNat, Int.reduceNeg, Nat.reduceLT, Nat.reduceLeDiff, Nat.reduceMul, Nat.reduceSub, reduceIte, Nat.reduceEqDiff, Nat.reduceAdd, reduceCtorEq]
  intro vs
  simp only [B_spec_l06Apart_2, go_sem, adopt_fun, Int.reduceLT, Int.reduceLE, Int.reduceToNat, Int.reduceNeg, Nat.reduceLT, Nat.reduceLeDiff, Nat.reduceMul, Nat.reduceSub, reduceIte, Nat.reduceEqDiff, Nat.reduceAdd, reduceCtorEq]
  intro vs3
  refine call_con (r := 12) (k_find n n o o next next out out M M rfl s t hs ht) rfl (by simp only [Bool.not_true, rowIs, boxIs, coe_argN, coe_argNs, coe_ro_o, coeL_nil, coeL_cons, coe_any, coe_val, coe_ro, coe_ro_nil, coe_ro_own, coe_st, coe_st_agg, coe_rp, coe_rp_ptr, coe_clo, coe_own0, coe_ptr0, coeL_intsK, coeL_rws, coeL_rwn, L_hit, L_miss, L_nil, Nat.reduceEqDiff, ne_eq, reduceCtorEq, not_false_eq_true, true_and, and_true, and_self, exists_eq_left, exists_eq_right, List.mem_cons, List.not_mem_nil, or_false, AObj.row.injEq, AObj.box.injEq, exists_eq_left', exists_and_left, exists_eq, Nat.zero_lt_one, Nat.lt_add_one, List.map_cons, List.map_nil, AObj.ver, Nat.reduceLT, not_true_eq_false]) (by simp only [Bool.not_true, rowIs, boxIs, coe_argN, coe_argNs, coe_ro_o, coeL_nil, coeL_cons, coe_any, coe_val, coe_ro, coe_ro_nil, coe_ro_own, coe_st, coe_st_agg, coe_rp, coe_rp_ptr, coe_clo, coe_own0, coe_ptr0, coeL_intsK, coeL_rws, coeL_rwn, L_hit, L_miss, L_nil, Nat.reduceEqDiff, ne_eq, reduceCtorEq, not_false_eq_true, true_and, and_true, and_self, exists_eq_left, exists_eq_right, List.mem_cons, List.not_mem_nil, or_false, AObj.row.injEq, AObj.box.injEq, exists_eq_left', exists_and_left, exists_eq, Nat.zero_lt_one, Nat.lt_add_one, List.map_cons, List.map_nil, AObj.ver, Nat.reduceLT, not_true_eq_false]) ?_
  rintro outs rows res ⟨rfl, v, rfl, rfl⟩
  refine ⟨rfl, by simp, by rw [Option.getD_some, gone_one]; simp only [go_sem, adopt_fun, Int.reduceLT, Int.reduceLE, Int.reduceToNat, Int.reduceNeg, Nat.reduceLT, Nat.reduceLeDiff, Nat.reduceMul, Nat.reduceSub, reduceIte, Nat.reduceEqDiff, Nat.reduceAdd, reduceCtorEq], ?_⟩
  rw [Option.getD_some, callHp_mr (by omega)]
  simp only [Nat.not_lt_zero, range1, ren_val, ren_any, ren_ro, rnNm_n, rnNm_sn, rnNm_o, rnNm_s, ren_st, ren_tup, renL_nil, renL_cons, renL_intsK, renL_rws, renL_rwn, oren_box, oren_row, oren_map, ren_own_e0, ren_own_e1, ren_own_e2, ren_ptr_e0, ren_mp_e0, ren_mp_e1, ren_own_r0, ren_own_r1, ren_own_r2, ren_ptr_r0, ren_mp_r0, ren_mp_r1, List.range_zero, callHp_nil, callHp_one, callHp_two, gone_nil, gone_one, gone_two, AVal.fresh, freshL, fresh_intsK, fresh_rws, AObj.fresh, id, Option.isSome_some, or_true, true_or, go_sem, adopt_fun, Int.reduceLT, Int.reduceLE, Int.reduceToNat, Int.reduceNeg, Nat.reduceLT, Nat.reduceLeDiff, Nat.reduceMul, Nat.reduceSub, reduceIte, Nat.reduceEqDiff, Nat.reduceAdd, reduceCtorEq]
  refine ⟨[16], by simp, by simp, by simp, ?_⟩
  simp only [Nat.not_lt_zero, range1, ren_val, ren_any, ren_ro, rnNm_n, rnNm_sn, rnNm_o, rnNm_s, ren_st, ren_tup, renL_nil, renL_cons, renL_intsK, renL_rws, renL_rwn, oren_box, oren_row, oren_map, ren_own_e0, ren_own_e1, ren_own_e2, ren_ptr_e0, ren_mp_e0, ren_mp_e1, ren_own_r0, ren_own_r1, ren_own_r2, ren_ptr_r0, ren_mp_r0, ren_mp_r1, List.range_zero, callHp_nil, callHp_one, callHp_two, gone_nil, gone_one, gone_two, AVal.fresh, freshL, fresh_intsK, fresh_rws, AObj.fresh, id, Option.isSome_some, or_true, true_or, go_sem, adopt_fun, Int.reduceLT, Int.reduceLE, Int.reduceToNat, Int.reduceNeg, Nat.reduceLT, Nat.reduceLeDiff, Nat.reduceMul, Nat.reduceSub, reduceIte, Nat.reduceEqDiff, Nat.reduceAdd, reduceCtorEq]
  exact ⟨_, rfl, rfl⟩

theorem call_wordF {P : Program} {pu : Bool} {σ : St} {g : FuncId} {As args : List AVal} {d : Nat} {s : Nat → Nat} {K : St → Prop} {r : List Int} {b : Bool} (h : Fn P g args fun rows res => ∃ v, rows = [.row v 1 true (ints r)] ∧ res = .tup [.own 6000 v, bv b])
    (hco : CoeL σ.hp [] true args As) (hg : σ.hp d = .gone) (h1 : ∀ v, K (St.put ⟨σ.tm, upd σ.hp d (.row v 1 true (ints r))⟩ (some d) (.tup [.own d v, bv b]))) : wpCall P pu σ g As (some d) s K := by
  refine call_fn h hco (fun _ => ⟨_, _, 0, rfl, rfl⟩) ?_
  rintro rows res ⟨v, rfl, rfl⟩
  refine ⟨by simp, ?_, ?_⟩
  · simp only [Option.getD_some, gone_one]; exact hg
  · simp only [Option.getD_some, List.length_singleton, Nat.not_lt_zero, range1, ren_val, ren_any, ren_ro, rnNm_n, rnNm_sn, rnNm_o, rnNm_s, ren_st, ren_tup, renL_nil, renL_cons, renL_intsK, renL_rws, renL_rwn, oren_box, oren_row, oren_map, ren_own_e0, ren_own_e1, ren_own_e2, ren_ptr_e0, ren_mp_e0, ren_mp_e1, ren_own_r0, ren_own_r1, ren_own_r2, ren_ptr_r0, ren_mp_r0, ren_mp_r1, List.range_zero, callHp_nil, callHp_one, callHp_two, gone_nil, gone_one, gone_two, AVal.fresh, freshL, fresh_intsK, fresh_rws, AObj.fresh, id, Option.isSome_some, or_true, true_or]
    exact h1 _

theorem clsP_len (next out : List (List Int)) : ∀ k, (clsP next out k).2.length = k ∧ (clsP next out k).1 ≤ k ∧ ∀ x ∈ (clsP next out k).2, 0 ≤ x ∧ x < (clsP next out k).1
  | 0 => by simp [clsP]
  | k + 1 => by
    obtain ⟨h1, h2, h3⟩ := clsP_len next out k
    simp only [clsP]
    generalize clsP next out k = C at h1 h2 h3 ⊢
    obtain ⟨c, r⟩ := C
    dsimp only at h1 h2 h3 ⊢
    split
    · rename_i t hf
      have ht : t < k := by simpa using List.mem_of_find?_eq_some hf
      dsimp only
      refine ⟨by simp [h1], by omega, fun x hx => ?_⟩
      rcases List.mem_append.1 hx with h | h
      · exact h3 x h
      · have := getD_mem (show t < r.length by omega) (0 : Int)
        have := h3 _ this
        rw [List.mem_singleton.1 h]; omega
    · dsimp only
      refine ⟨by simp [h1], by omega, fun x hx => ?_⟩
      rcases List.mem_append.1 hx with h | h
      · have := h3 x h; omega
      · rw [List.mem_singleton.1 h]; omega

theorem k_l06Classes (n o : Int) (next out : List (List Int)) (M : Mach n o next out) : RowI Try.prog n_spec_l06Classes [machP n o next out] (fun ys => ys = (clsP next out n.toNat).2) := by
  refine rowI_of mixed c_spec_l06Classes rfl ?_
  have n1 := M.aut.n1
  have n2 := M.aut.n2
  simp only [A_spec_l06Classes, B_spec_l06Classes_1, go_sem, adopt_fun, Int.reduceLT, Int.reduceLE, Int.reduceToNat, Int.reduceNeg, Nat.reduceLT, Nat.reduceLeDiff, Nat.reduceMul, Nat.reduceSub, reduceIte, Nat.reduceEqDiff, Nat.reduceAdd, reduceCtorEq]
  intro vs
  simp only [B_spec_l06Classes_2, B_spec_l06Classes_3, B_spec_l06Classes_4, go_sem, adopt_fun, Int.reduceLT, Int.reduceLE, Int.reduceToNat, Int.reduceNeg, Nat.reduceLT, Nat.reduceLeDiff, Nat.reduceMul, Nat.reduceSub, reduceIte, Nat.reduceEqDiff, Nat.reduceAdd, reduceCtorEq]
  refine wpD_lo (fun (_, s) => n.toNat - s) (fun (_, s) => (s : Int) ≤ n)
    (fun ((va, s) : Nat × Nat) => ⟨L .any [(0, machP n o next out), (3, .own 10 va), (4, iv (clsP next out s).1), (5, iv s)],
      L .gone [(10, .row va 1 true (ints (clsP next out s).2))]⟩)
    (_, 0) (by simp; omega) (by simp only [B_spec_l06Classes_5, go_sem, adopt_fun, Int.reduceLT, Int.reduceLE, Int.reduceToNat, Int.reduceNeg, Nat.reduceLT, Nat.reduceLeDiff, Nat.reduceMul, Nat.reduceSub, reduceIte, Nat.reduceEqDiff, Nat.reduceAdd, reduceCtorEq]; try rfl) ?_
  rintro ⟨va, s⟩ hs
  have hs : (s : Int) ≤ n := hs
  obtain ⟨c1, c2, c3⟩ := clsP_len next out s
  by_cases hlt : (s : Int) < n
  · have w1 : IntKind.i64.wrap ((s : Int) + 1) = ((s + 1 : Nat) : Int) := by rw [w64 (by omega)]; simp
    have w3 : IntKind.i64.wrap (((clsP next out s).1 : Int) + 1) = (((clsP next out s).1 + 1 : Nat) : Int) := by rw [w64 (by omega)]; simp
    simp only [B_spec_l06Classes_5, B_spec_l06Classes_6, B_spec_l06Classes_7, B_spec_l06Classes_8, B_spec_l06Classes_9, decide_eq_true hlt, go_sem, adopt_fun, Int.reduceLT, Int.reduceLE, Int.reduceToNat, Int.reduceNeg, Nat.reduceLT, Nat.reduceLeDiff, Nat.reduceMul, Nat.reduceSub, reduceIte, Nat.reduceEqDiff, Nat.reduceAdd, reduceCtorEq]
    refine wpD_lo (fun ((t, _) : Nat × Option Nat) => s - t) (fun ((t, r) : Nat × Option Nat) => t ≤ s ∧ match r with | none => ∀ u < t, eqvP next out s u = false | some j => (List.range s).find? (eqvP next out s) = some j ∧ j < s)
      (fun ((t, r) : Nat × Option Nat) => ⟨L .any [(0, machP n o next out), (3, .own 10 va), (4, iv (clsP next out s).1), (5, iv s), (6, iv (match r with | none => -1 | some j => (clsP next out s).2.getD j 0)), (7, iv t)],
        L .gone [(10, .row va 1 true (ints (clsP next out s).2))]⟩)
      (0, none) ⟨by omega, fun u h => by omega⟩ (by simp only [B_spec_l06Classes_10, go_sem, adopt_fun, Int.reduceLT, Int.reduceLE, Int.reduceToNat, Int.reduceNeg, Nat.reduceLT, Nat.reduceLeDiff, Nat.reduceMul, Nat.reduceSub, reduceIte, Nat.reduceEqDiff, Nat.reduceAdd, reduceCtorEq]; try rfl) ?_
    rintro ⟨t, r⟩ ⟨ht, hr⟩
    have ht : t ≤ s := ht
    cases r with
    | some j =>
      obtain ⟨hf, hj⟩ := hr
      have hx := c3 _ (getD_mem (show j < (clsP next out s).2.length by omega) (0 : Int))
      generalize hxe : (clsP next out s).2.getD j 0 = x at hx ⊢
      have hneg : ¬ (x < 0) := by omega
      have hb : (if decide ((t : Int) < s) = true then decide (x < 0) else false) = false := by rw [decide_eq_false hneg]; simp
      have hcl : clsP next out (s + 1) = ((clsP next out s).1, (clsP next out s).2 ++ [x]) := by simp only [clsP, hf, hxe]
      have hr2 : ints (clsP next out s).2 ++ [iv x] = ints ((clsP next out s).2 ++ [x]) := by simp [ints, intsK]
      simp only [B_spec_l06Classes_10, B_spec_l06Classes_11, B_spec_l06Classes_16, B_spec_l06Classes_17, B_spec_l06Classes_19, B_spec_l06Classes_20, hxe, w1, decide_eq_false hneg, go_sem, adopt_fun, Int.reduceLT, Int.reduceLE, Int.reduceToNat, Int.reduceNeg, Nat.reduceLT, Nat.reduceLeDiff, Nat.reduceMul, Nat.reduceSub, reduceIte, Nat.reduceEqDiff, Nat.reduceAdd, reduceCtorEq]
      by_cases htl : (t : Int) < s
      · simp only [decide_eq_true htl, go_sem, adopt_fun, Int.reduceLT, Int.reduceLE, Int.reduceToNat, Int.reduceNeg, Nat.reduceLT, Nat.reduceLeDiff, Nat.reduceMul, Nat.reduceSub, reduceIte, Nat.reduceEqDiff, Nat.reduceAdd, reduceCtorEq]
        intro vs2
        refine ⟨⟨_, rfl, rfl⟩, by omega, (vs2 3 0, s + 1), by dsimp only; omega, by dsimp only; omega, ?_⟩
        simp only [hcl, go_sem, adopt_fun, Int.reduceLT, Int.reduceLE, Int.reduceToNat, Int.reduceNeg, Nat.reduceLT, Nat.reduceLeDiff, Nat.reduceMul, Nat.reduceSub, reduceIte, Nat.reduceEqDiff, Nat.reduceAdd, reduceCtorEq]
      · simp only [decide_eq_false htl, go_sem, adopt_fun, Int.reduceLT, Int.reduceLE, Int.reduceToNat, Int.reduceNeg, Nat.reduceLT, Nat.reduceLeDiff, Nat.reduceMul, Nat.reduceSub, reduceIte, Nat.reduceEqDiff, Nat.reduceAdd, reduceCtorEq]
        intro vs2
        refine ⟨⟨_, rfl, rfl⟩, by omega, (vs2 3 0, s + 1), by dsimp only; omega, by dsimp only; omega, ?_⟩
        simp only [hcl, go_sem, adopt_fun, Int.reduceLT, Int.reduceLE, Int.reduceToNat, Int.reduceNeg, Nat.reduceLT, Nat.reduceLeDiff, Nat.reduceMul, Nat.reduceSub, reduceIte, Nat.reduceEqDiff, Nat.reduceAdd, reduceCtorEq]
    | none =>
      by_cases htl : (t : Int) < s
      · have htl1 : t < s := by omega
        have w2 : IntKind.i64.wrap ((t : Int) + 1) = ((t + 1 : Nat) : Int) := by rw [w64 (by omega)]; simp
        simp only [B_spec_l06Classes_10, B_spec_l06Classes_11, B_spec_l06Classes_12, decide_eq_true htl, go_sem, adopt_fun, Int.reduceLT, Int.reduceLE, Int.reduceToNat, Int.reduceNeg, Nat.reduceLT, Nat.reduceLeDiff, Nat.reduceMul, Nat.reduceSub, reduceIte, Nat.reduceEqDiff, Nat.reduceAdd, reduceCtorEq]
        intro vs2
        refine call_wordF (k_l06Apart n o next out M s t (by omega) (by omega)) qCS qGN ?_
        intro v
        cases he : eqvP next out s t with
        | true =>
          have hs1 : (apartQ next next out out s t).isSome = false := by
            have : (apartQ next next out out s t).isNone = true := he
            simpa using this
          have htc : t < (clsP next out s).2.length := by omega
          simp only [B_spec_l06Classes_13, B_spec_l06Classes_14, B_spec_l06Classes_15, hs1, w2, intsK_getD htc, go_sem, adopt_fun, Int.reduceLT, Int.reduceLE, Int.reduceToNat, Int.reduceNeg, Nat.reduceLT, Nat.reduceLeDiff, Nat.reduceMul, Nat.reduceSub, reduceIte, Nat.reduceEqDiff, Nat.reduceAdd, reduceCtorEq]
          exact ⟨⟨by omega, htc⟩, htc, (t + 1, some t), by dsimp only; omega, ⟨by dsimp only; omega, repP_hit htl1 he hr, htl1⟩, rfl⟩
        | false =>
          have hs1 : (apartQ next next out out s t).isSome = true := by
            have : (apartQ next next out out s t).isNone = false := he
            cases hq : apartQ next next out out s t with
            | none => rw [hq] at this; cases this
            | some w => rfl
          simp only [B_spec_l06Classes_13, B_spec_l06Classes_14, B_spec_l06Classes_15, hs1, w2, go_sem, adopt_fun, Int.reduceLT, Int.reduceLE, Int.reduceToNat, Int.reduceNeg, Nat.reduceLT, Nat.reduceLeDiff, Nat.reduceMul, Nat.reduceSub, reduceIte, Nat.reduceEqDiff, Nat.reduceAdd, reduceCtorEq]
          exact ⟨(t + 1, none), by dsimp only; omega, ⟨by dsimp only; omega, fun u hu => by rcases Nat.lt_succ_iff_lt_or_eq.1 hu with h | h; exact hr u h; exact h ▸ he⟩, rfl⟩
      · have : t = s := by omega
        subst this
        have hf := repP_all hr
        have hcl : clsP next out (t + 1) = ((clsP next out t).1 + 1, (clsP next out t).2 ++ [((clsP next out t).1 : Int)]) := by simp only [clsP, hf]
        simp only [B_spec_l06Classes_10, B_spec_l06Classes_11, B_spec_l06Classes_16, B_spec_l06Classes_17, B_spec_l06Classes_18, B_spec_l06Classes_19, B_spec_l06Classes_20, w1, w3, decide_eq_false htl, go_sem, adopt_fun, Int.reduceLT, Int.reduceLE, Int.reduceToNat, Int.reduceNeg, Nat.reduceLT, Nat.reduceLeDiff, Nat.reduceMul, Nat.reduceSub, reduceIte, Nat.reduceEqDiff, Nat.reduceAdd, reduceCtorEq]
        intro vs2
        refine ⟨⟨_, rfl, rfl⟩, by omega, (vs2 3 0, t + 1), by dsimp only; omega, by dsimp only; omega, ?_⟩
        simp only [hcl, go_sem, adopt_fun, Int.reduceLT, Int.reduceLE, Int.reduceToNat, Int.reduceNeg, Nat.reduceLT, Nat.reduceLeDiff, Nat.reduceMul, Nat.reduceSub, reduceIte, Nat.reduceEqDiff, Nat.reduceAdd, reduceCtorEq]
  · have : (s : Int) = n := by omega
    have hsn : s = n.toNat := by omega
    simp only [B_spec_l06Classes_5, B_spec_l06Classes_6, B_spec_l06Classes_21, decide_eq_false hlt, go_sem, adopt_fun, Int.reduceLT, Int.reduceLE, Int.reduceToNat, Int.reduceNeg, Nat.reduceLT, Nat.reduceLeDiff, Nat.reduceMul, Nat.reduceSub, reduceIte, Nat.reduceEqDiff, Nat.reduceAdd, reduceCtorEq]
    exact ⟨10, va, (clsP next out n.toNat).2, by omega, rfl, by simp only [hsn, go_sem, adopt_fun, Int.reduceLT, Int.reduceLE, Int.reduceToNat, Int.reduceNeg, Nat.reduceLT, Nat.reduceLeDiff, Nat.reduceMul, Nat.reduceSub, reduceIte, Nat.reduceEqDiff, Nat.reduceAdd, reduceCtorEq], rfl⟩

end Go.Ab
