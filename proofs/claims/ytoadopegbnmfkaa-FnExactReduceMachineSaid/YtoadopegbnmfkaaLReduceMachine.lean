/- The exact law ReduceMachine. Conditions: none. -/
import Derived.Test.YtoadopegbnmfkaaQf
import Derived.Test.YtoadopegbnmfkaaMt
set_option linter.all false
namespace Go.Ab
open Go.Proofs
set_option maxRecDepth 20000
set_option maxHeartbeats 2000000

theorem law_ReduceMachine (n o : Int) (next out : List (List Int)) (ok : Bool) (m0 o0 : Int) (ws zs : List (List Int)) (cc : Int) (KS : NamMR Try.prog n_spec_ReduceMachine [.st [iv n, iv o, .ro none 1 (rwn next), .ro none 1 (rwn out)]] ok m0 o0 ws zs cc) (KI : NamMR Try.prog n_impl_ReduceMachine [.st [iv n, iv o, .ro none 1 (rwn next), .ro none 1 (rwn out)]] ok m0 o0 ws zs cc)
    (hl : ok = true → 1 ≤ ws.length ∧ ws.length ≤ 3 ∧ zs.length = ws.length) (hw : ok = true → ∀ x ∈ ws ++ zs, x ≠ [] ∧ (x.length : Int) ≤ 1000) :
    Fun Try.prog n_laws_FnExactReduceMachine [.st [iv n, iv o, .ro (some (some 0)) 1 (rwo next), .ro (some (some 0)) 1 (rwo out)]] (bv true) := by
  refine fun_of mixed c_laws_FnExactReduceMachine rfl ⟨rfl, trivial⟩ ?_
  simp only [A_laws_FnExactReduceMachine, B_laws_FnExactReduceMachine_1, B_laws_FnExactReduceMachine_2, wpD_kp, wpD_regi, go_sem, adopt_fun, Int.reduceLT, Int.reduceLE, Int.reduceToNat, Int.reduceNeg, Nat.reduceLT, Nat.reduceLeDiff, Nat.reduceMul, Nat.reduceSub, reduceIte, Nat.reduceEqDiff, Nat.reduceAdd, reduceCtorEq]
  rintro vs1 U1 - vs2 U2 - vs3 U3 -
  refine call_fun (k_szMachine n o next out 1048576 (by omega)) qCO trivial ?_
  by_cases hsz0 : (szC2 next out 1048576) < 0
  · simp only [B_laws_FnExactReduceMachine_3, B_laws_FnExactReduceMachine_4, decide_eq_true hsz0, wpD_kp, wpD_regi, go_sem, adopt_fun, Int.reduceLT, Int.reduceLE, Int.reduceToNat, Int.reduceNeg, Nat.reduceLT, Nat.reduceLeDiff, Nat.reduceMul, Nat.reduceSub, reduceIte, Nat.reduceEqDiff, Nat.reduceAdd, reduceCtorEq]
    try simp
  obtain ⟨hqa0, hqb0, hqc0⟩ := szC2_ge hsz0
  obtain ⟨hsa_next, hsb_next, hsc_next⟩ := szLL_ge (xss := next) (l := 1048576) (by omega)
  have htot_next := szLL_tot (ps := next.map fun x => (0, x)) (l := 1048576) (by rw [List.map_map]; simp only [Function.comp_def, List.map_id']; omega) (by omega)
  have hb_next : next.length * 24 ≤ 140737488355328 := by omega
  have hc_next : ∀ xs ∈ next, xs.length * 8 ≤ 140737488355328 := fun xs hx => by have := hsb_next xs hx; omega
  have hd_next : ∀ xs ∈ next, (xs.length : Int) ≤ 1000000000 := fun xs hx => by have := hsb_next xs hx; omega
  obtain ⟨hsa_out, hsb_out, hsc_out⟩ := szLL_ge (xss := out) (l := (szLL next 1048576)) (by omega)
  have htot_out := szLL_tot (ps := out.map fun x => (0, x)) (l := (szLL next 1048576)) (by rw [List.map_map]; simp only [Function.comp_def, List.map_id']; omega) (by omega)
  have hb_out : out.length * 24 ≤ 140737488355328 := by omega
  have hc_out : ∀ xs ∈ out, xs.length * 8 ≤ 140737488355328 := fun xs hx => by have := hsb_out xs hx; omega
  have hd_out : ∀ xs ∈ out, (xs.length : Int) ≤ 1000000000 := fun xs hx => by have := hsb_out xs hx; omega
  simp only [B_laws_FnExactReduceMachine_3, B_laws_FnExactReduceMachine_4, B_laws_FnExactReduceMachine_5, decide_eq_false hsz0, wpD_kp, wpD_regi, go_sem, adopt_fun, Int.reduceLT, Int.reduceLE, Int.reduceToNat, Int.reduceNeg, Nat.reduceLT, Nat.reduceLeDiff, Nat.reduceMul, Nat.reduceSub, reduceIte, Nat.reduceEqDiff, Nat.reduceAdd, reduceCtorEq]
  rintro vs4 U4 - vs5 U5 hN5
  refine call_rows2 (k_toMachine n o next out hb_next hc_next hb_out hc_out) qCO rfl rfl ?_
  intro v1 v2
  try simp only [List.map_cons, List.map_nil, List.cons_append, List.nil_append, wpD_kp, wpD_regi, go_sem, adopt_fun, Int.reduceLT, Int.reduceLE, Int.reduceToNat, Int.reduceNeg, Nat.reduceLT, Nat.reduceLeDiff, Nat.reduceMul, Nat.reduceSub, reduceIte, Nat.reduceEqDiff, Nat.reduceAdd, reduceCtorEq]
  cases ok with
  | false =>
    refine call_machT (fun x y e => (hN5.inj _ _ _ _ e).2) KS qCS rfl rfl (fun h => by cases h) (fun _ => ?_)
    simp only [B_laws_FnExactReduceMachine_6, wpD_kp, wpD_regi, wpD_gh, go_sem, adopt_fun, Int.reduceLT, Int.reduceLE, Int.reduceToNat, Int.reduceNeg, Nat.reduceLT, Nat.reduceLeDiff, Nat.reduceMul, Nat.reduceSub, reduceIte, Nat.reduceEqDiff, Nat.reduceAdd, reduceCtorEq]
    intro _
    refine ⟨[], ?_⟩
    simp only [gwp_nil, wpD_kp, wpD_regi, go_sem, adopt_fun, Int.reduceLT, Int.reduceLE, Int.reduceToNat, Int.reduceNeg, Nat.reduceLT, Nat.reduceLeDiff, Nat.reduceMul, Nat.reduceSub, reduceIte, Nat.reduceEqDiff, Nat.reduceAdd, reduceCtorEq]
    try simp only [wpD_kp, wpD_regi, go_sem, adopt_fun, Int.reduceLT, Int.reduceLE, Int.reduceToNat, Int.reduceNeg, Nat.reduceLT, Nat.reduceLeDiff, Nat.reduceMul, Nat.reduceSub, reduceIte, Nat.reduceEqDiff, Nat.reduceAdd, reduceCtorEq]
    rintro vs6 U6 hN6
    refine call_machN (fun x y e => (hN6.inj _ _ _ _ e).2) (k_toMachineN n o next out hb_next hc_next hb_out hc_out) qCO rfl rfl ?_
    intro v3 v4 ps_next ps_out hps_next hps_out hdj
    clear hN6
    have htt_next : totL ps_next ≤ 1048576 := by have h := szLL_tot (ps := ps_next) (l := 1048576) (by rw [hps_next]; omega) (by omega); omega
    have htn_next := totL_nn ps_next
    have hdp_next : ∀ p ∈ ps_next, (p.2.length : Int) ≤ 1000000000 := fun p hp => hd_next p.2 (by rw [← hps_next]; exact List.mem_map_of_mem hp)
    have htt_out : totL ps_out ≤ 1048576 := by have h := szLL_tot (ps := ps_out) (l := (szLL next 1048576)) (by rw [hps_out]; omega) (by omega); omega
    have htn_out := totL_nn ps_out
    have hdp_out : ∀ p ∈ ps_out, (p.2.length : Int) ≤ 1000000000 := fun p hp => hd_out p.2 (by rw [← hps_out]; exact List.mem_map_of_mem hp)
    simp only [B_laws_FnExactReduceMachine_7, wpD_kp, wpD_regi, go_sem, adopt_fun, Int.reduceLT, Int.reduceLE, Int.reduceToNat, Int.reduceNeg, Nat.reduceLT, Nat.reduceLeDiff, Nat.reduceMul, Nat.reduceSub, reduceIte, Nat.reduceEqDiff, Nat.reduceAdd, reduceCtorEq]
    rintro vs7 U7 hN7
    refine call_machT (fun x y e => (hN7.inj _ _ _ _ e).2) KI (by simp only [← hps_next, ← hps_out, coeL_rwp_t, rowIs, boxIs, coe_argN, coe_argNs, coe_ro_o, coeL_nil, coeL_cons, coe_any, coe_val, coe_ro, coe_ro_nil, coe_ro_own, coe_st, coe_st_agg, coe_rp, coe_rp_ptr, coe_clo, coe_own0, coe_ptr0, coeL_intsK, coeL_rws, coeL_rwn, L_hit, L_miss, L_nil, Nat.reduceEqDiff, ne_eq, reduceCtorEq, not_false_eq_true, true_and, and_true, and_self, exists_eq_left, exists_eq_right, List.mem_cons, List.not_mem_nil, or_false, AObj.row.injEq, AObj.box.injEq, exists_eq_left', exists_and_left, exists_eq, Nat.zero_lt_one, Nat.lt_add_one, List.map_cons, List.map_nil, AObj.ver, Nat.reduceLT, not_true_eq_false]) rfl rfl (fun h => by cases h) (fun _ => ?_)
    simp only [B_laws_FnExactReduceMachine_8, bne_self_eq_false, wpD_kp, wpD_regi, wpD_gh, go_sem, adopt_fun, Int.reduceLT, Int.reduceLE, Int.reduceToNat, Int.reduceNeg, Nat.reduceLT, Nat.reduceLeDiff, Nat.reduceMul, Nat.reduceSub, reduceIte, Nat.reduceEqDiff, Nat.reduceAdd, reduceCtorEq]
    intro _
    refine ⟨[], ?_⟩
    simp only [gwp_nil, wpD_kp, wpD_regi, go_sem, adopt_fun, Int.reduceLT, Int.reduceLE, Int.reduceToNat, Int.reduceNeg, Nat.reduceLT, Nat.reduceLeDiff, Nat.reduceMul, Nat.reduceSub, reduceIte, Nat.reduceEqDiff, Nat.reduceAdd, reduceCtorEq]
    try simp only [wpD_kp, wpD_regi, go_sem, adopt_fun, Int.reduceLT, Int.reduceLE, Int.reduceToNat, Int.reduceNeg, Nat.reduceLT, Nat.reduceLeDiff, Nat.reduceMul, Nat.reduceSub, reduceIte, Nat.reduceEqDiff, Nat.reduceAdd, reduceCtorEq]
    rintro vs8 U8 -
    refine call_fun (k_eqMachine 0 0 0 0 [] [] [] []) (by simp only [rwn_nil, rowIs, boxIs, coe_argN, coe_argNs, coe_ro_o, coeL_nil, coeL_cons, coe_any, coe_val, coe_ro, coe_ro_nil, coe_ro_own, coe_st, coe_st_agg, coe_rp, coe_rp_ptr, coe_clo, coe_own0, coe_ptr0, coeL_intsK, coeL_rws, coeL_rwn, L_hit, L_miss, L_nil, Nat.reduceEqDiff, ne_eq, reduceCtorEq, not_false_eq_true, true_and, and_true, and_self, exists_eq_left, exists_eq_right, List.mem_cons, List.not_mem_nil, or_false, AObj.row.injEq, AObj.box.injEq, exists_eq_left', exists_and_left, exists_eq, Nat.zero_lt_one, Nat.lt_add_one, List.map_cons, List.map_nil, AObj.ver, Nat.reduceLT, not_true_eq_false]) trivial ?_
    simp only [B_laws_FnExactReduceMachine_9, B_laws_FnExactReduceMachine_10, decide_true, Bool.and_self, bne_self_eq_false, wpD_kp, wpD_regi, go_sem, adopt_fun, Int.reduceLT, Int.reduceLE, Int.reduceToNat, Int.reduceNeg, Nat.reduceLT, Nat.reduceLeDiff, Nat.reduceMul, Nat.reduceSub, reduceIte, Nat.reduceEqDiff, Nat.reduceAdd, reduceCtorEq]
    rintro vs9 U9 -
    refine call_rows2 (k_toMachine n o next out hb_next hc_next hb_out hc_out) qCO rfl rfl ?_
    intro v5 v6
    try simp only [List.map_cons, List.map_nil, List.cons_append, List.nil_append, wpD_kp, wpD_regi, go_sem, adopt_fun, Int.reduceLT, Int.reduceLE, Int.reduceToNat, Int.reduceNeg, Nat.reduceLT, Nat.reduceLeDiff, Nat.reduceMul, Nat.reduceSub, reduceIte, Nat.reduceEqDiff, Nat.reduceAdd, reduceCtorEq]
    refine call_fun (k_eqMachine n n o o next out next out) (by simp only [← hps_next, ← hps_out, coeL_rwp_t, rowIs, boxIs, coe_argN, coe_argNs, coe_ro_o, coeL_nil, coeL_cons, coe_any, coe_val, coe_ro, coe_ro_nil, coe_ro_own, coe_st, coe_st_agg, coe_rp, coe_rp_ptr, coe_clo, coe_own0, coe_ptr0, coeL_intsK, coeL_rws, coeL_rwn, L_hit, L_miss, L_nil, Nat.reduceEqDiff, ne_eq, reduceCtorEq, not_false_eq_true, true_and, and_true, and_self, exists_eq_left, exists_eq_right, List.mem_cons, List.not_mem_nil, or_false, AObj.row.injEq, AObj.box.injEq, exists_eq_left', exists_and_left, exists_eq, Nat.zero_lt_one, Nat.lt_add_one, List.map_cons, List.map_nil, AObj.ver, Nat.reduceLT, not_true_eq_false]) trivial ?_
    simp only [B_laws_FnExactReduceMachine_11, B_laws_FnExactReduceMachine_12, B_laws_FnExactReduceMachine_13, decide_true, Bool.and_self, bne_self_eq_false, wpD_kp, wpD_regi, go_sem, adopt_fun, Int.reduceLT, Int.reduceLE, Int.reduceToNat, Int.reduceNeg, Nat.reduceLT, Nat.reduceLeDiff, Nat.reduceMul, Nat.reduceSub, reduceIte, Nat.reduceEqDiff, Nat.reduceAdd, reduceCtorEq]
    rintro vs10 U10 - vs11 U11 -
    refine call_hav (k_markMachine n o ps_next ps_out hdj 1 (by omega) hdp_next hdp_out) ?_ ?_
    · simp only [coeHL_cons, coeHL_nil, coeH_val, coeH_st, and_true, true_and]
      refine ⟨?_, ?_⟩ <;> exact coeH_own (nn := true) qWS
    rintro x ⟨k1, rfl, hk1a, hk1b⟩
    have hkn1 : ¬ (k1 < 0) := by omega
    simp only [B_laws_FnExactReduceMachine_14, cl_L, clT, clO, clV_any, clV_val, clV_own, clV_ptr, clV_st, clV_o, clL_ints, clL_rwo, clL_cons, clL_nil, clR_row, clR_box, clR_gone, decide_eq_false hkn1, wpD_kp, wpD_regi, go_sem, adopt_fun, Int.reduceLT, Int.reduceLE, Int.reduceToNat, Int.reduceNeg, Nat.reduceLT, Nat.reduceLeDiff, Nat.reduceMul, Nat.reduceSub, reduceIte, Nat.reduceEqDiff, Nat.reduceAdd, reduceCtorEq]
    rintro vs12 U12 -
    refine call_fun (k_eqMachine 0 0 0 0 [] [] [] []) (by simp only [rwn_nil, rowIs, boxIs, coe_argN, coe_argNs, coe_ro_o, coeL_nil, coeL_cons, coe_any, coe_val, coe_ro, coe_ro_nil, coe_ro_own, coe_st, coe_st_agg, coe_rp, coe_rp_ptr, coe_clo, coe_own0, coe_ptr0, coeL_intsK, coeL_rws, coeL_rwn, L_hit, L_miss, L_nil, Nat.reduceEqDiff, ne_eq, reduceCtorEq, not_false_eq_true, true_and, and_true, and_self, exists_eq_left, exists_eq_right, List.mem_cons, List.not_mem_nil, or_false, AObj.row.injEq, AObj.box.injEq, exists_eq_left', exists_and_left, exists_eq, Nat.zero_lt_one, Nat.lt_add_one, List.map_cons, List.map_nil, AObj.ver, Nat.reduceLT, not_true_eq_false]) trivial ?_
    simp only [B_laws_FnExactReduceMachine_15, B_laws_FnExactReduceMachine_16, B_laws_FnExactReduceMachine_17, decide_true, Bool.and_self, bne_self_eq_false, wpD_kp, wpD_regi, go_sem, adopt_fun, Int.reduceLT, Int.reduceLE, Int.reduceToNat, Int.reduceNeg, Nat.reduceLT, Nat.reduceLeDiff, Nat.reduceMul, Nat.reduceSub, reduceIte, Nat.reduceEqDiff, Nat.reduceAdd, reduceCtorEq]
    rintro vs13 U13 - vs14 U14 -
    refine call_fun (k_markMachNil 0 0 1) (by simp only [rwn_nil, rowIs, boxIs, coe_argN, coe_argNs, coe_ro_o, coeL_nil, coeL_cons, coe_any, coe_val, coe_ro, coe_ro_nil, coe_ro_own, coe_st, coe_st_agg, coe_rp, coe_rp_ptr, coe_clo, coe_own0, coe_ptr0, coeL_intsK, coeL_rws, coeL_rwn, L_hit, L_miss, L_nil, Nat.reduceEqDiff, ne_eq, reduceCtorEq, not_false_eq_true, true_and, and_true, and_self, exists_eq_left, exists_eq_right, List.mem_cons, List.not_mem_nil, or_false, AObj.row.injEq, AObj.box.injEq, exists_eq_left', exists_and_left, exists_eq, Nat.zero_lt_one, Nat.lt_add_one, List.map_cons, List.map_nil, AObj.ver, Nat.reduceLT, not_true_eq_false]) trivial ?_
    simp only [B_laws_FnExactReduceMachine_18, B_laws_FnExactReduceMachine_19, wpD_kp, wpD_regi, go_sem, adopt_fun, Int.reduceLT, Int.reduceLE, Int.reduceToNat, Int.reduceNeg, Nat.reduceLT, Nat.reduceLeDiff, Nat.reduceMul, Nat.reduceSub, reduceIte, Nat.reduceEqDiff, Nat.reduceAdd, reduceCtorEq]
    rintro vs15 U15 - vs16 U16 -
    refine call_fun k_heldMachNil (by simp only [rwn_nil, rowIs, boxIs, coe_argN, coe_argNs, coe_ro_o, coeL_nil, coeL_cons, coe_any, coe_val, coe_ro, coe_ro_nil, coe_ro_own, coe_st, coe_st_agg, coe_rp, coe_rp_ptr, coe_clo, coe_own0, coe_ptr0, coeL_intsK, coeL_rws, coeL_rwn, L_hit, L_miss, L_nil, Nat.reduceEqDiff, ne_eq, reduceCtorEq, not_false_eq_true, true_and, and_true, and_self, exists_eq_left, exists_eq_right, List.mem_cons, List.not_mem_nil, or_false, AObj.row.injEq, AObj.box.injEq, exists_eq_left', exists_and_left, exists_eq, Nat.zero_lt_one, Nat.lt_add_one, List.map_cons, List.map_nil, AObj.ver, Nat.reduceLT, not_true_eq_false]) trivial ?_
    simp only [B_laws_FnExactReduceMachine_20, B_laws_FnExactReduceMachine_21, B_laws_FnExactReduceMachine_22, B_laws_FnExactReduceMachine_23, B_laws_FnExactReduceMachine_24, bne_self_eq_false, dec10, wpD_kp, wpD_regi, go_sem, adopt_fun, Int.reduceLT, Int.reduceLE, Int.reduceToNat, Int.reduceNeg, Nat.reduceLT, Nat.reduceLeDiff, Nat.reduceMul, Nat.reduceSub, reduceIte, Nat.reduceEqDiff, Nat.reduceAdd, reduceCtorEq]
    rintro vs17 U17 - vs18 U18 - vs19 U19 hN19
    refine call_rows2 (k_toMachine n o next out hb_next hc_next hb_out hc_out) qCO rfl rfl ?_
    intro v7 v8
    try simp only [List.map_cons, List.map_nil, List.cons_append, List.nil_append, wpD_kp, wpD_regi, go_sem, adopt_fun, Int.reduceLT, Int.reduceLE, Int.reduceToNat, Int.reduceNeg, Nat.reduceLT, Nat.reduceLeDiff, Nat.reduceMul, Nat.reduceSub, reduceIte, Nat.reduceEqDiff, Nat.reduceAdd, reduceCtorEq]
    refine call_machT (fun x y e => (hN19.inj _ _ _ _ e).2) KI qCS rfl rfl (fun h => by cases h) (fun _ => ?_)
    simp only [B_laws_FnExactReduceMachine_25, bne_self_eq_false, wpD_kp, wpD_regi, go_sem, adopt_fun, Int.reduceLT, Int.reduceLE, Int.reduceToNat, Int.reduceNeg, Nat.reduceLT, Nat.reduceLeDiff, Nat.reduceMul, Nat.reduceSub, reduceIte, Nat.reduceEqDiff, Nat.reduceAdd, reduceCtorEq]
    rintro vs20 U20 -
    refine call_fun (k_eqMachine 0 0 0 0 [] [] [] []) (by simp only [rwn_nil, rowIs, boxIs, coe_argN, coe_argNs, coe_ro_o, coeL_nil, coeL_cons, coe_any, coe_val, coe_ro, coe_ro_nil, coe_ro_own, coe_st, coe_st_agg, coe_rp, coe_rp_ptr, coe_clo, coe_own0, coe_ptr0, coeL_intsK, coeL_rws, coeL_rwn, L_hit, L_miss, L_nil, Nat.reduceEqDiff, ne_eq, reduceCtorEq, not_false_eq_true, true_and, and_true, and_self, exists_eq_left, exists_eq_right, List.mem_cons, List.not_mem_nil, or_false, AObj.row.injEq, AObj.box.injEq, exists_eq_left', exists_and_left, exists_eq, Nat.zero_lt_one, Nat.lt_add_one, List.map_cons, List.map_nil, AObj.ver, Nat.reduceLT, not_true_eq_false]) trivial ?_
    simp only [B_laws_FnExactReduceMachine_26, B_laws_FnExactReduceMachine_27, B_laws_FnExactReduceMachine_28, decide_true, Bool.and_self, bne_self_eq_false, wpD_kp, wpD_regi, go_sem, adopt_fun, Int.reduceLT, Int.reduceLE, Int.reduceToNat, Int.reduceNeg, Nat.reduceLT, Nat.reduceLeDiff, Nat.reduceMul, Nat.reduceSub, reduceIte, Nat.reduceEqDiff, Nat.reduceAdd, reduceCtorEq]
    rintro vs21 U21 - vs22 U22 -
    refine call_fun k_heldMachNil (by simp only [rwn_nil, rowIs, boxIs, coe_argN, coe_argNs, coe_ro_o, coeL_nil, coeL_cons, coe_any, coe_val, coe_ro, coe_ro_nil, coe_ro_own, coe_st, coe_st_agg, coe_rp, coe_rp_ptr, coe_clo, coe_own0, coe_ptr0, coeL_intsK, coeL_rws, coeL_rwn, L_hit, L_miss, L_nil, Nat.reduceEqDiff, ne_eq, reduceCtorEq, not_false_eq_true, true_and, and_true, and_self, exists_eq_left, exists_eq_right, List.mem_cons, List.not_mem_nil, or_false, AObj.row.injEq, AObj.box.injEq, exists_eq_left', exists_and_left, exists_eq, Nat.zero_lt_one, Nat.lt_add_one, List.map_cons, List.map_nil, AObj.ver, Nat.reduceLT, not_true_eq_false]) trivial ?_
    simp only [B_laws_FnExactReduceMachine_29, B_laws_FnExactReduceMachine_30, B_laws_FnExactReduceMachine_31, B_laws_FnExactReduceMachine_32, B_laws_FnExactReduceMachine_33, bne_self_eq_false, dec10, wpD_kp, wpD_regi, go_sem, adopt_fun, Int.reduceLT, Int.reduceLE, Int.reduceToNat, Int.reduceNeg, Nat.reduceLT, Nat.reduceLeDiff, Nat.reduceMul, Nat.reduceSub, reduceIte, Nat.reduceEqDiff, Nat.reduceAdd, reduceCtorEq]
    try simp
  | true =>
    obtain ⟨hl1, hl2, hl3⟩ := hl rfl
    have hw := hw rfl
    rcases ws3 hl1 hl2 with ⟨a, rfl⟩ | ⟨a, b, rfl⟩ | ⟨a, b, c, rfl⟩
    · -- 1
      obtain ⟨x1, rfl⟩ := zs1 hl3
      have ha := hw a (by simp)
      have hx1 := hw x1 (by simp)
      refine call_machT (fun x y e => (hN5.inj _ _ _ _ e).2) KS qCS rfl rfl (fun _ vS wS pS qS hS hS2 hdS hyS => ?_) (fun h => by cases h)
      obtain ⟨Sp0, Sp1, rfl, rfl, Se01⟩ := nmM1 hS hS2 hdS ha.1 hx1.1
      simp only [B_laws_FnExactReduceMachine_6, wpD_kp, wpD_regi, wpD_gh, go_sem, adopt_fun, Int.reduceLT, Int.reduceLE, Int.reduceToNat, Int.reduceNeg, Nat.reduceLT, Nat.reduceLeDiff, Nat.reduceMul, Nat.reduceSub, reduceIte, Nat.reduceEqDiff, Nat.reduceAdd, reduceCtorEq]
      intro _
      refine ⟨[.thaw 22 0 901, .thaw 1022 0 931], ?_⟩
      refine gwp_thaw rfl rfl (ints_ne ha.1) rfl fun Sm0 => ?_
      simp only [wo_ne (Ne.symm Se01), woT, woO, woL_cons, woL_nil, woV_val, woV_own, wo_ptr, wo_o, woL_ints, woL_rwo, wo_st, woO_row, woO_box, woO_gone, wo_any, rwp_cons, rwp_nil, go_sem, adopt_fun, Int.reduceLT, Int.reduceLE, Int.reduceToNat, Int.reduceNeg, Nat.reduceLT, Nat.reduceLeDiff, Nat.reduceMul, Nat.reduceSub, reduceIte, Nat.reduceEqDiff, Nat.reduceAdd, reduceCtorEq]
      refine gwp_thaw rfl rfl (ints_ne hx1.1) rfl fun Sm1 => ?_
      simp only [wo_ne Se01, woT, woO, woL_cons, woL_nil, woV_val, woV_own, wo_ptr, wo_o, woL_ints, woL_rwo, wo_st, woO_row, woO_box, woO_gone, wo_any, rwp_cons, rwp_nil, go_sem, adopt_fun, Int.reduceLT, Int.reduceLE, Int.reduceToNat, Int.reduceNeg, Nat.reduceLT, Nat.reduceLeDiff, Nat.reduceMul, Nat.reduceSub, reduceIte, Nat.reduceEqDiff, Nat.reduceAdd, reduceCtorEq]
      simp only [gwp_nil, wpD_kp, wpD_regi, go_sem, adopt_fun, Int.reduceLT, Int.reduceLE, Int.reduceToNat, Int.reduceNeg, Nat.reduceLT, Nat.reduceLeDiff, Nat.reduceMul, Nat.reduceSub, reduceIte, Nat.reduceEqDiff, Nat.reduceAdd, reduceCtorEq]
      try simp only [wpD_kp, wpD_regi, go_sem, adopt_fun, Int.reduceLT, Int.reduceLE, Int.reduceToNat, Int.reduceNeg, Nat.reduceLT, Nat.reduceLeDiff, Nat.reduceMul, Nat.reduceSub, reduceIte, Nat.reduceEqDiff, Nat.reduceAdd, reduceCtorEq]
      rintro vs6 U6 hN6
      refine call_machN (fun x y e => (hN6.inj _ _ _ _ e).2) (k_toMachineN n o next out hb_next hc_next hb_out hc_out) qCO rfl rfl ?_
      intro v3 v4 ps_next ps_out hps_next hps_out hdj
      clear hN6
      have htt_next : totL ps_next ≤ 1048576 := by have h := szLL_tot (ps := ps_next) (l := 1048576) (by rw [hps_next]; omega) (by omega); omega
      have htn_next := totL_nn ps_next
      have hdp_next : ∀ p ∈ ps_next, (p.2.length : Int) ≤ 1000000000 := fun p hp => hd_next p.2 (by rw [← hps_next]; exact List.mem_map_of_mem hp)
      have htt_out : totL ps_out ≤ 1048576 := by have h := szLL_tot (ps := ps_out) (l := (szLL next 1048576)) (by rw [hps_out]; omega) (by omega); omega
      have htn_out := totL_nn ps_out
      have hdp_out : ∀ p ∈ ps_out, (p.2.length : Int) ≤ 1000000000 := fun p hp => hd_out p.2 (by rw [← hps_out]; exact List.mem_map_of_mem hp)
      simp only [B_laws_FnExactReduceMachine_7, wpD_kp, wpD_regi, go_sem, adopt_fun, Int.reduceLT, Int.reduceLE, Int.reduceToNat, Int.reduceNeg, Nat.reduceLT, Nat.reduceLeDiff, Nat.reduceMul, Nat.reduceSub, reduceIte, Nat.reduceEqDiff, Nat.reduceAdd, reduceCtorEq]
      rintro vs7 U7 hN7
      refine call_machT (fun x y e => (hN7.inj _ _ _ _ e).2) KI (by simp only [← hps_next, ← hps_out, coeL_rwp_t, rowIs, boxIs, coe_argN, coe_argNs, coe_ro_o, coeL_nil, coeL_cons, coe_any, coe_val, coe_ro, coe_ro_nil, coe_ro_own, coe_st, coe_st_agg, coe_rp, coe_rp_ptr, coe_clo, coe_own0, coe_ptr0, coeL_intsK, coeL_rws, coeL_rwn, L_hit, L_miss, L_nil, Nat.reduceEqDiff, ne_eq, reduceCtorEq, not_false_eq_true, true_and, and_true, and_self, exists_eq_left, exists_eq_right, List.mem_cons, List.not_mem_nil, or_false, AObj.row.injEq, AObj.box.injEq, exists_eq_left', exists_and_left, exists_eq, Nat.zero_lt_one, Nat.lt_add_one, List.map_cons, List.map_nil, AObj.ver, Nat.reduceLT, not_true_eq_false]) rfl rfl (fun _ vG wG pG qG hG hG2 hdG hyG => ?_) (fun h => by cases h)
      obtain ⟨Gp0, Gp1, rfl, rfl, Ge01⟩ := nmM1 hG hG2 hdG ha.1 hx1.1
      have hU_next := hN7.hp 26
      simp only [AObj.uses, go_sem, adopt_fun, Int.reduceLT, Int.reduceLE, Int.reduceToNat, Int.reduceNeg, Nat.reduceLT, Nat.reduceLeDiff, Nat.reduceMul, Nat.reduceSub, reduceIte, Nat.reduceEqDiff, Nat.reduceAdd, reduceCtorEq] at hU_next
      have hold_next := usesL_rwp (rest := []) (by rw [List.append_nil]; exact hU_next.2)
      have hf_next0 : ∀ p ∈ ps_next, p.2 = [] ∨ p.1 ≠ Gp0 := fun p hp => by
        obtain ⟨y, e⟩ := hyG (Gp0, a) (by simp)
        rcases hold_next p hp with h | h
        · exact .inl h
        · exact .inr fun e2 => hN7.new _ y (by rw [← e]; exact e2 ▸ h)
      have hf_next1 : ∀ p ∈ ps_next, p.2 = [] ∨ p.1 ≠ Gp1 := fun p hp => by
        obtain ⟨y, e⟩ := hyG (Gp1, x1) (by simp)
        rcases hold_next p hp with h | h
        · exact .inl h
        · exact .inr fun e2 => hN7.new _ y (by rw [← e]; exact e2 ▸ h)
      have hU_out := hN7.hp 1026
      simp only [AObj.uses, go_sem, adopt_fun, Int.reduceLT, Int.reduceLE, Int.reduceToNat, Int.reduceNeg, Nat.reduceLT, Nat.reduceLeDiff, Nat.reduceMul, Nat.reduceSub, reduceIte, Nat.reduceEqDiff, Nat.reduceAdd, reduceCtorEq] at hU_out
      have hold_out := usesL_rwp (rest := []) (by rw [List.append_nil]; exact hU_out.2)
      have hf_out0 : ∀ p ∈ ps_out, p.2 = [] ∨ p.1 ≠ Gp0 := fun p hp => by
        obtain ⟨y, e⟩ := hyG (Gp0, a) (by simp)
        rcases hold_out p hp with h | h
        · exact .inl h
        · exact .inr fun e2 => hN7.new _ y (by rw [← e]; exact e2 ▸ h)
      have hf_out1 : ∀ p ∈ ps_out, p.2 = [] ∨ p.1 ≠ Gp1 := fun p hp => by
        obtain ⟨y, e⟩ := hyG (Gp1, x1) (by simp)
        rcases hold_out p hp with h | h
        · exact .inl h
        · exact .inr fun e2 => hN7.new _ y (by rw [← e]; exact e2 ▸ h)
      simp only [B_laws_FnExactReduceMachine_8, bne_self_eq_false, wpD_kp, wpD_regi, wpD_gh, go_sem, adopt_fun, Int.reduceLT, Int.reduceLE, Int.reduceToNat, Int.reduceNeg, Nat.reduceLT, Nat.reduceLeDiff, Nat.reduceMul, Nat.reduceSub, reduceIte, Nat.reduceEqDiff, Nat.reduceAdd, reduceCtorEq]
      intro _
      refine ⟨[.thaw 29 0 911, .thaw 1029 0 921], ?_⟩
      refine gwp_thaw rfl rfl (ints_ne ha.1) rfl fun Gm0 => ?_
      simp only [wo_ne (Ne.symm Ge01), woL_rwp hf_next0, woL_rwp hf_out0, woT, woO, woL_cons, woL_nil, woV_val, woV_own, wo_ptr, wo_o, woL_ints, woL_rwo, wo_st, woO_row, woO_box, woO_gone, wo_any, rwp_cons, rwp_nil, go_sem, adopt_fun, Int.reduceLT, Int.reduceLE, Int.reduceToNat, Int.reduceNeg, Nat.reduceLT, Nat.reduceLeDiff, Nat.reduceMul, Nat.reduceSub, reduceIte, Nat.reduceEqDiff, Nat.reduceAdd, reduceCtorEq]
      refine gwp_thaw rfl rfl (ints_ne hx1.1) rfl fun Gm1 => ?_
      simp only [wo_ne Ge01, woL_rwp hf_next1, woL_rwp hf_out1, woT, woO, woL_cons, woL_nil, woV_val, woV_own, wo_ptr, wo_o, woL_ints, woL_rwo, wo_st, woO_row, woO_box, woO_gone, wo_any, rwp_cons, rwp_nil, go_sem, adopt_fun, Int.reduceLT, Int.reduceLE, Int.reduceToNat, Int.reduceNeg, Nat.reduceLT, Nat.reduceLeDiff, Nat.reduceMul, Nat.reduceSub, reduceIte, Nat.reduceEqDiff, Nat.reduceAdd, reduceCtorEq]
      simp only [gwp_nil, wpD_kp, wpD_regi, go_sem, adopt_fun, Int.reduceLT, Int.reduceLE, Int.reduceToNat, Int.reduceNeg, Nat.reduceLT, Nat.reduceLeDiff, Nat.reduceMul, Nat.reduceSub, reduceIte, Nat.reduceEqDiff, Nat.reduceAdd, reduceCtorEq]
      try simp only [wpD_kp, wpD_regi, go_sem, adopt_fun, Int.reduceLT, Int.reduceLE, Int.reduceToNat, Int.reduceNeg, Nat.reduceLT, Nat.reduceLeDiff, Nat.reduceMul, Nat.reduceSub, reduceIte, Nat.reduceEqDiff, Nat.reduceAdd, reduceCtorEq]
      rintro vs8 U8 -
      refine call_fun (k_eqMachine m0 m0 o0 o0 [a] [x1] [a] [x1]) (by simp only [rwn_cons, rwn_nil, rwp_cons, rwp_nil, coeL_ints_t, rowIs, boxIs, coe_argN, coe_argNs, coe_ro_o, coeL_nil, coeL_cons, coe_any, coe_val, coe_ro, coe_ro_nil, coe_ro_own, coe_st, coe_st_agg, coe_rp, coe_rp_ptr, coe_clo, coe_own0, coe_ptr0, coeL_intsK, coeL_rws, coeL_rwn, L_hit, L_miss, L_nil, Nat.reduceEqDiff, ne_eq, reduceCtorEq, not_false_eq_true, true_and, and_true, and_self, exists_eq_left, exists_eq_right, List.mem_cons, List.not_mem_nil, or_false, AObj.row.injEq, AObj.box.injEq, exists_eq_left', exists_and_left, exists_eq, Nat.zero_lt_one, Nat.lt_add_one, List.map_cons, List.map_nil, AObj.ver, Nat.reduceLT, not_true_eq_false]) trivial ?_
      simp only [B_laws_FnExactReduceMachine_9, B_laws_FnExactReduceMachine_10, decide_true, Bool.and_self, bne_self_eq_false, wpD_kp, wpD_regi, go_sem, adopt_fun, Int.reduceLT, Int.reduceLE, Int.reduceToNat, Int.reduceNeg, Nat.reduceLT, Nat.reduceLeDiff, Nat.reduceMul, Nat.reduceSub, reduceIte, Nat.reduceEqDiff, Nat.reduceAdd, reduceCtorEq]
      rintro vs9 U9 -
      refine call_rows2 (k_toMachine n o next out hb_next hc_next hb_out hc_out) qCO rfl rfl ?_
      intro v5 v6
      try simp only [List.map_cons, List.map_nil, List.cons_append, List.nil_append, wpD_kp, wpD_regi, go_sem, adopt_fun, Int.reduceLT, Int.reduceLE, Int.reduceToNat, Int.reduceNeg, Nat.reduceLT, Nat.reduceLeDiff, Nat.reduceMul, Nat.reduceSub, reduceIte, Nat.reduceEqDiff, Nat.reduceAdd, reduceCtorEq]
      refine call_fun (k_eqMachine n n o o next out next out) (by simp only [← hps_next, ← hps_out, coeL_rwp_t, rowIs, boxIs, coe_argN, coe_argNs, coe_ro_o, coeL_nil, coeL_cons, coe_any, coe_val, coe_ro, coe_ro_nil, coe_ro_own, coe_st, coe_st_agg, coe_rp, coe_rp_ptr, coe_clo, coe_own0, coe_ptr0, coeL_intsK, coeL_rws, coeL_rwn, L_hit, L_miss, L_nil, Nat.reduceEqDiff, ne_eq, reduceCtorEq, not_false_eq_true, true_and, and_true, and_self, exists_eq_left, exists_eq_right, List.mem_cons, List.not_mem_nil, or_false, AObj.row.injEq, AObj.box.injEq, exists_eq_left', exists_and_left, exists_eq, Nat.zero_lt_one, Nat.lt_add_one, List.map_cons, List.map_nil, AObj.ver, Nat.reduceLT, not_true_eq_false]) trivial ?_
      simp only [B_laws_FnExactReduceMachine_11, B_laws_FnExactReduceMachine_12, B_laws_FnExactReduceMachine_13, decide_true, Bool.and_self, bne_self_eq_false, wpD_kp, wpD_regi, go_sem, adopt_fun, Int.reduceLT, Int.reduceLE, Int.reduceToNat, Int.reduceNeg, Nat.reduceLT, Nat.reduceLeDiff, Nat.reduceMul, Nat.reduceSub, reduceIte, Nat.reduceEqDiff, Nat.reduceAdd, reduceCtorEq]
      rintro vs10 U10 - vs11 U11 -
      refine call_hav (k_markMachine n o ps_next ps_out hdj 1 (by omega) hdp_next hdp_out) ?_ ?_
      · simp only [coeHL_cons, coeHL_nil, coeH_val, coeH_st, and_true, true_and]
        refine ⟨?_, ?_⟩ <;> exact coeH_own (nn := true) qWS
      rintro x ⟨k2, rfl, hk2a, hk2b⟩
      have hkn2 : ¬ (k2 < 0) := by omega
      simp only [B_laws_FnExactReduceMachine_14, cl_L, clT, clO, clV_any, clV_val, clV_own, clV_ptr, clV_st, clV_o, clL_ints, clL_rwo, clL_cons, clL_nil, clR_row, clR_box, clR_gone, decide_eq_false hkn2, wpD_kp, wpD_regi, go_sem, adopt_fun, Int.reduceLT, Int.reduceLE, Int.reduceToNat, Int.reduceNeg, Nat.reduceLT, Nat.reduceLeDiff, Nat.reduceMul, Nat.reduceSub, reduceIte, Nat.reduceEqDiff, Nat.reduceAdd, reduceCtorEq]
      rintro vs12 U12 -
      refine call_fun (k_eqMachine m0 m0 o0 o0 [a] [x1] [a] [x1]) (by simp only [rwn_cons, rwn_nil, rwp_cons, rwp_nil, coeL_ints_t, rowIs, boxIs, coe_argN, coe_argNs, coe_ro_o, coeL_nil, coeL_cons, coe_any, coe_val, coe_ro, coe_ro_nil, coe_ro_own, coe_st, coe_st_agg, coe_rp, coe_rp_ptr, coe_clo, coe_own0, coe_ptr0, coeL_intsK, coeL_rws, coeL_rwn, L_hit, L_miss, L_nil, Nat.reduceEqDiff, ne_eq, reduceCtorEq, not_false_eq_true, true_and, and_true, and_self, exists_eq_left, exists_eq_right, List.mem_cons, List.not_mem_nil, or_false, AObj.row.injEq, AObj.box.injEq, exists_eq_left', exists_and_left, exists_eq, Nat.zero_lt_one, Nat.lt_add_one, List.map_cons, List.map_nil, AObj.ver, Nat.reduceLT, not_true_eq_false]) trivial ?_
      simp only [B_laws_FnExactReduceMachine_15, B_laws_FnExactReduceMachine_16, B_laws_FnExactReduceMachine_17, decide_true, Bool.and_self, bne_self_eq_false, wpD_kp, wpD_regi, go_sem, adopt_fun, Int.reduceLT, Int.reduceLE, Int.reduceToNat, Int.reduceNeg, Nat.reduceLT, Nat.reduceLeDiff, Nat.reduceMul, Nat.reduceSub, reduceIte, Nat.reduceEqDiff, Nat.reduceAdd, reduceCtorEq]
      rintro vs13 U13 - vs14 U14 -
      refine call_markM1 (r := 29) (t := 1029) (q2 := 911) (q3 := 921) (k_markMach1 m0 o0 a x1 1 (by omega) ha.2 hx1.2) rfl rfl rfl rfl (by decide) (by simp only [coeL_cons, coeL_nil, coe_st, coe_val, and_true, true_and]; simp only [Coe]; exact ⟨⟨0, _, _, rfl, rfl, rfl, rfl, rfl⟩, ⟨1, _, _, rfl, rfl, rfl, rfl, rfl⟩⟩) ?_
      simp only [B_laws_FnExactReduceMachine_18, B_laws_FnExactReduceMachine_19, wpD_kp, wpD_regi, go_sem, adopt_fun, Int.reduceLT, Int.reduceLE, Int.reduceToNat, Int.reduceNeg, Nat.reduceLT, Nat.reduceLeDiff, Nat.reduceMul, Nat.reduceSub, reduceIte, Nat.reduceEqDiff, Nat.reduceAdd, reduceCtorEq]
      rintro vs15 U15 - vs16 U16 -
      have hneg : ¬ (((1 : Int) + a.length + x1.length) < 0) := by omega
      have hheld : Fun Try.prog n_laws_heldMachine [machA m0 o0 [seqI (1) a.length] [seqI (1 + a.length) x1.length], iv 1] (iv (1 + a.length + x1.length)) := by
        have e1 : (1 : Int) + totX [seqI (1) a.length] = 1 + a.length := by simp only [totX, seqI_len]; omega
        have e2 : (1 : Int) + totX [seqI (1) a.length] + totX [seqI (1 + a.length) x1.length] = 1 + a.length + x1.length := by simp only [totX, seqI_len]; omega
        have h := k_heldMachine m0 o0 [seqI (1) a.length] [seqI (1 + a.length) x1.length] 1 (by simp only [totX, seqI_len]; omega) (by intro x hx; simp only [List.mem_cons, List.not_mem_nil, or_false] at hx; rcases hx with rfl <;> rw [seqI_len] <;> omega) (by intro x hx; simp only [List.mem_cons, List.not_mem_nil, or_false] at hx; rcases hx with rfl <;> rw [seqI_len] <;> omega) (by simp [okRows, seqI_len]) (by rw [e1]; simp [okRows, seqI_len])
        rw [e2] at h; exact h
      refine call_fun hheld (by simp only [rwn_cons, rwn_nil, coeL_ints_t, rowIs, boxIs, coe_argN, coe_argNs, coe_ro_o, coeL_nil, coeL_cons, coe_any, coe_val, coe_ro, coe_ro_nil, coe_ro_own, coe_st, coe_st_agg, coe_rp, coe_rp_ptr, coe_clo, coe_own0, coe_ptr0, coeL_intsK, coeL_rws, coeL_rwn, L_hit, L_miss, L_nil, Nat.reduceEqDiff, ne_eq, reduceCtorEq, not_false_eq_true, true_and, and_true, and_self, exists_eq_left, exists_eq_right, List.mem_cons, List.not_mem_nil, or_false, AObj.row.injEq, AObj.box.injEq, exists_eq_left', exists_and_left, exists_eq, Nat.zero_lt_one, Nat.lt_add_one, List.map_cons, List.map_nil, AObj.ver, Nat.reduceLT, not_true_eq_false]) trivial ?_
      simp only [B_laws_FnExactReduceMachine_20, B_laws_FnExactReduceMachine_21, B_laws_FnExactReduceMachine_22, B_laws_FnExactReduceMachine_23, B_laws_FnExactReduceMachine_24, bne_self_eq_false, decide_eq_false hneg, wpD_kp, wpD_regi, go_sem, adopt_fun, Int.reduceLT, Int.reduceLE, Int.reduceToNat, Int.reduceNeg, Nat.reduceLT, Nat.reduceLeDiff, Nat.reduceMul, Nat.reduceSub, reduceIte, Nat.reduceEqDiff, Nat.reduceAdd, reduceCtorEq]
      rintro vs17 U17 - vs18 U18 - vs19 U19 hN19
      refine call_rows2 (k_toMachine n o next out hb_next hc_next hb_out hc_out) qCO rfl rfl ?_
      intro v7 v8
      try simp only [List.map_cons, List.map_nil, List.cons_append, List.nil_append, wpD_kp, wpD_regi, go_sem, adopt_fun, Int.reduceLT, Int.reduceLE, Int.reduceToNat, Int.reduceNeg, Nat.reduceLT, Nat.reduceLeDiff, Nat.reduceMul, Nat.reduceSub, reduceIte, Nat.reduceEqDiff, Nat.reduceAdd, reduceCtorEq]
      refine call_machT (fun x y e => (hN19.inj _ _ _ _ e).2) KI qCS rfl rfl (fun _ vH wH pH qH hH hH2 hdH hyH => ?_) (fun h => by cases h)
      obtain ⟨Hp0, Hp1, rfl, rfl, He01⟩ := nmM1 hH hH2 hdH ha.1 hx1.1
      simp only [B_laws_FnExactReduceMachine_25, bne_self_eq_false, wpD_kp, wpD_regi, go_sem, adopt_fun, Int.reduceLT, Int.reduceLE, Int.reduceToNat, Int.reduceNeg, Nat.reduceLT, Nat.reduceLeDiff, Nat.reduceMul, Nat.reduceSub, reduceIte, Nat.reduceEqDiff, Nat.reduceAdd, reduceCtorEq]
      rintro vs20 U20 -
      refine call_fun (k_eqMachine m0 m0 o0 o0 [a] [x1] [a] [x1]) (by simp only [rwn_cons, rwn_nil, rwp_cons, rwp_nil, coeL_ints_t, rowIs, boxIs, coe_argN, coe_argNs, coe_ro_o, coeL_nil, coeL_cons, coe_any, coe_val, coe_ro, coe_ro_nil, coe_ro_own, coe_st, coe_st_agg, coe_rp, coe_rp_ptr, coe_clo, coe_own0, coe_ptr0, coeL_intsK, coeL_rws, coeL_rwn, L_hit, L_miss, L_nil, Nat.reduceEqDiff, ne_eq, reduceCtorEq, not_false_eq_true, true_and, and_true, and_self, exists_eq_left, exists_eq_right, List.mem_cons, List.not_mem_nil, or_false, AObj.row.injEq, AObj.box.injEq, exists_eq_left', exists_and_left, exists_eq, Nat.zero_lt_one, Nat.lt_add_one, List.map_cons, List.map_nil, AObj.ver, Nat.reduceLT, not_true_eq_false]) trivial ?_
      simp only [B_laws_FnExactReduceMachine_26, B_laws_FnExactReduceMachine_27, B_laws_FnExactReduceMachine_28, decide_true, Bool.and_self, bne_self_eq_false, wpD_kp, wpD_regi, go_sem, adopt_fun, Int.reduceLT, Int.reduceLE, Int.reduceToNat, Int.reduceNeg, Nat.reduceLT, Nat.reduceLeDiff, Nat.reduceMul, Nat.reduceSub, reduceIte, Nat.reduceEqDiff, Nat.reduceAdd, reduceCtorEq]
      rintro vs21 U21 - vs22 U22 -
      refine call_fun hheld (by simp only [rwn_cons, rwn_nil, coeL_ints_t, rowIs, boxIs, coe_argN, coe_argNs, coe_ro_o, coeL_nil, coeL_cons, coe_any, coe_val, coe_ro, coe_ro_nil, coe_ro_own, coe_st, coe_st_agg, coe_rp, coe_rp_ptr, coe_clo, coe_own0, coe_ptr0, coeL_intsK, coeL_rws, coeL_rwn, L_hit, L_miss, L_nil, Nat.reduceEqDiff, ne_eq, reduceCtorEq, not_false_eq_true, true_and, and_true, and_self, exists_eq_left, exists_eq_right, List.mem_cons, List.not_mem_nil, or_false, AObj.row.injEq, AObj.box.injEq, exists_eq_left', exists_and_left, exists_eq, Nat.zero_lt_one, Nat.lt_add_one, List.map_cons, List.map_nil, AObj.ver, Nat.reduceLT, not_true_eq_false]) trivial ?_
      simp only [B_laws_FnExactReduceMachine_29, B_laws_FnExactReduceMachine_30, B_laws_FnExactReduceMachine_31, B_laws_FnExactReduceMachine_32, B_laws_FnExactReduceMachine_33, bne_self_eq_false, decide_eq_false hneg, wpD_kp, wpD_regi, go_sem, adopt_fun, Int.reduceLT, Int.reduceLE, Int.reduceToNat, Int.reduceNeg, Nat.reduceLT, Nat.reduceLeDiff, Nat.reduceMul, Nat.reduceSub, reduceIte, Nat.reduceEqDiff, Nat.reduceAdd, reduceCtorEq]
      try simp
    · -- 2
      obtain ⟨x1, y1, rfl⟩ := zs2 hl3
      have ha := hw a (by simp)
      have hb := hw b (by simp)
      have hx1 := hw x1 (by simp)
      have hy1 := hw y1 (by simp)
      refine call_machT (fun x y e => (hN5.inj _ _ _ _ e).2) KS qCS rfl rfl (fun _ vS wS pS qS hS hS2 hdS hyS => ?_) (fun h => by cases h)
      obtain ⟨Sp0, Sp1, Sp2, Sp3, rfl, rfl, Se01, Se02, Se03, Se12, Se13, Se23⟩ := nmM2 hS hS2 hdS ha.1 hb.1 hx1.1 hy1.1
      simp only [B_laws_FnExactReduceMachine_6, wpD_kp, wpD_regi, wpD_gh, go_sem, adopt_fun, Int.reduceLT, Int.reduceLE, Int.reduceToNat, Int.reduceNeg, Nat.reduceLT, Nat.reduceLeDiff, Nat.reduceMul, Nat.reduceSub, reduceIte, Nat.reduceEqDiff, Nat.reduceAdd, reduceCtorEq]
      intro _
      refine ⟨[.thaw 22 0 901, .thaw 22 1 902, .thaw 1022 0 931, .thaw 1022 1 932], ?_⟩
      refine gwp_thaw rfl rfl (ints_ne ha.1) rfl fun Sm0 => ?_
      simp only [wo_ne (Ne.symm Se01), wo_ne (Ne.symm Se02), wo_ne (Ne.symm Se03), woT, woO, woL_cons, woL_nil, woV_val, woV_own, wo_ptr, wo_o, woL_ints, woL_rwo, wo_st, woO_row, woO_box, woO_gone, wo_any, rwp_cons, rwp_nil, go_sem, adopt_fun, Int.reduceLT, Int.reduceLE, Int.reduceToNat, Int.reduceNeg, Nat.reduceLT, Nat.reduceLeDiff, Nat.reduceMul, Nat.reduceSub, reduceIte, Nat.reduceEqDiff, Nat.reduceAdd, reduceCtorEq]
      refine gwp_thaw rfl rfl (ints_ne hb.1) rfl fun Sm1 => ?_
      simp only [wo_ne Se01, wo_ne (Ne.symm Se12), wo_ne (Ne.symm Se13), woT, woO, woL_cons, woL_nil, woV_val, woV_own, wo_ptr, wo_o, woL_ints, woL_rwo, wo_st, woO_row, woO_box, woO_gone, wo_any, rwp_cons, rwp_nil, go_sem, adopt_fun, Int.reduceLT, Int.reduceLE, Int.reduceToNat, Int.reduceNeg, Nat.reduceLT, Nat.reduceLeDiff, Nat.reduceMul, Nat.reduceSub, reduceIte, Nat.reduceEqDiff, Nat.reduceAdd, reduceCtorEq]
      refine gwp_thaw rfl rfl (ints_ne hx1.1) rfl fun Sm2 => ?_
      simp only [wo_ne Se02, wo_ne Se12, wo_ne (Ne.symm Se23), woT, woO, woL_cons, woL_nil, woV_val, woV_own, wo_ptr, wo_o, woL_ints, woL_rwo, wo_st, woO_row, woO_box, woO_gone, wo_any, rwp_cons, rwp_nil, go_sem, adopt_fun, Int.reduceLT, Int.reduceLE, Int.reduceToNat, Int.reduceNeg, Nat.reduceLT, Nat.reduceLeDiff, Nat.reduceMul, Nat.reduceSub, reduceIte, Nat.reduceEqDiff, Nat.reduceAdd, reduceCtorEq]
      refine gwp_thaw rfl rfl (ints_ne hy1.1) rfl fun Sm3 => ?_
      simp only [wo_ne Se03, wo_ne Se13, wo_ne Se23, woT, woO, woL_cons, woL_nil, woV_val, woV_own, wo_ptr, wo_o, woL_ints, woL_rwo, wo_st, woO_row, woO_box, woO_gone, wo_any, rwp_cons, rwp_nil, go_sem, adopt_fun, Int.reduceLT, Int.reduceLE, Int.reduceToNat, Int.reduceNeg, Nat.reduceLT, Nat.reduceLeDiff, Nat.reduceMul, Nat.reduceSub, reduceIte, Nat.reduceEqDiff, Nat.reduceAdd, reduceCtorEq]
      simp only [gwp_nil, wpD_kp, wpD_regi, go_sem, adopt_fun, Int.reduceLT, Int.reduceLE, Int.reduceToNat, Int.reduceNeg, Nat.reduceLT, Nat.reduceLeDiff, Nat.reduceMul, Nat.reduceSub, reduceIte, Nat.reduceEqDiff, Nat.reduceAdd, reduceCtorEq]
      try simp only [wpD_kp, wpD_regi, go_sem, adopt_fun, Int.reduceLT, Int.reduceLE, Int.reduceToNat, Int.reduceNeg, Nat.reduceLT, Nat.reduceLeDiff, Nat.reduceMul, Nat.reduceSub, reduceIte, Nat.reduceEqDiff, Nat.reduceAdd, reduceCtorEq]
      rintro vs6 U6 hN6
      refine call_machN (fun x y e => (hN6.inj _ _ _ _ e).2) (k_toMachineN n o next out hb_next hc_next hb_out hc_out) qCO rfl rfl ?_
      intro v3 v4 ps_next ps_out hps_next hps_out hdj
      clear hN6
      have htt_next : totL ps_next ≤ 1048576 := by have h := szLL_tot (ps := ps_next) (l := 1048576) (by rw [hps_next]; omega) (by omega); omega
      have htn_next := totL_nn ps_next
      have hdp_next : ∀ p ∈ ps_next, (p.2.length : Int) ≤ 1000000000 := fun p hp => hd_next p.2 (by rw [← hps_next]; exact List.mem_map_of_mem hp)
      have htt_out : totL ps_out ≤ 1048576 := by have h := szLL_tot (ps := ps_out) (l := (szLL next 1048576)) (by rw [hps_out]; omega) (by omega); omega
      have htn_out := totL_nn ps_out
      have hdp_out : ∀ p ∈ ps_out, (p.2.length : Int) ≤ 1000000000 := fun p hp => hd_out p.2 (by rw [← hps_out]; exact List.mem_map_of_mem hp)
      simp only [B_laws_FnExactReduceMachine_7, wpD_kp, wpD_regi, go_sem, adopt_fun, Int.reduceLT, Int.reduceLE, Int.reduceToNat, Int.reduceNeg, Nat.reduceLT, Nat.reduceLeDiff, Nat.reduceMul, Nat.reduceSub, reduceIte, Nat.reduceEqDiff, Nat.reduceAdd, reduceCtorEq]
      rintro vs7 U7 hN7
      refine call_machT (fun x y e => (hN7.inj _ _ _ _ e).2) KI (by simp only [← hps_next, ← hps_out, coeL_rwp_t, rowIs, boxIs, coe_argN, coe_argNs, coe_ro_o, coeL_nil, coeL_cons, coe_any, coe_val, coe_ro, coe_ro_nil, coe_ro_own, coe_st, coe_st_agg, coe_rp, coe_rp_ptr, coe_clo, coe_own0, coe_ptr0, coeL_intsK, coeL_rws, coeL_rwn, L_hit, L_miss, L_nil, Nat.reduceEqDiff, ne_eq, reduceCtorEq, not_false_eq_true, true_and, and_true, and_self, exists_eq_left, exists_eq_right, List.mem_cons, List.not_mem_nil, or_false, AObj.row.injEq, AObj.box.injEq, exists_eq_left', exists_and_left, exists_eq, Nat.zero_lt_one, Nat.lt_add_one, List.map_cons, List.map_nil, AObj.ver, Nat.reduceLT, not_true_eq_false]) rfl rfl (fun _ vG wG pG qG hG hG2 hdG hyG => ?_) (fun h => by cases h)
      obtain ⟨Gp0, Gp1, Gp2, Gp3, rfl, rfl, Ge01, Ge02, Ge03, Ge12, Ge13, Ge23⟩ := nmM2 hG hG2 hdG ha.1 hb.1 hx1.1 hy1.1
      have hU_next := hN7.hp 26
      simp only [AObj.uses, go_sem, adopt_fun, Int.reduceLT, Int.reduceLE, Int.reduceToNat, Int.reduceNeg, Nat.reduceLT, Nat.reduceLeDiff, Nat.reduceMul, Nat.reduceSub, reduceIte, Nat.reduceEqDiff, Nat.reduceAdd, reduceCtorEq] at hU_next
      have hold_next := usesL_rwp (rest := []) (by rw [List.append_nil]; exact hU_next.2)
      have hf_next0 : ∀ p ∈ ps_next, p.2 = [] ∨ p.1 ≠ Gp0 := fun p hp => by
        obtain ⟨y, e⟩ := hyG (Gp0, a) (by simp)
        rcases hold_next p hp with h | h
        · exact .inl h
        · exact .inr fun e2 => hN7.new _ y (by rw [← e]; exact e2 ▸ h)
      have hf_next1 : ∀ p ∈ ps_next, p.2 = [] ∨ p.1 ≠ Gp1 := fun p hp => by
        obtain ⟨y, e⟩ := hyG (Gp1, b) (by simp)
        rcases hold_next p hp with h | h
        · exact .inl h
        · exact .inr fun e2 => hN7.new _ y (by rw [← e]; exact e2 ▸ h)
      have hf_next2 : ∀ p ∈ ps_next, p.2 = [] ∨ p.1 ≠ Gp2 := fun p hp => by
        obtain ⟨y, e⟩ := hyG (Gp2, x1) (by simp)
        rcases hold_next p hp with h | h
        · exact .inl h
        · exact .inr fun e2 => hN7.new _ y (by rw [← e]; exact e2 ▸ h)
      have hf_next3 : ∀ p ∈ ps_next, p.2 = [] ∨ p.1 ≠ Gp3 := fun p hp => by
        obtain ⟨y, e⟩ := hyG (Gp3, y1) (by simp)
        rcases hold_next p hp with h | h
        · exact .inl h
        · exact .inr fun e2 => hN7.new _ y (by rw [← e]; exact e2 ▸ h)
      have hU_out := hN7.hp 1026
      simp only [AObj.uses, go_sem, adopt_fun, Int.reduceLT, Int.reduceLE, Int.reduceToNat, Int.reduceNeg, Nat.reduceLT, Nat.reduceLeDiff, Nat.reduceMul, Nat.reduceSub, reduceIte, Nat.reduceEqDiff, Nat.reduceAdd, reduceCtorEq] at hU_out
      have hold_out := usesL_rwp (rest := []) (by rw [List.append_nil]; exact hU_out.2)
      have hf_out0 : ∀ p ∈ ps_out, p.2 = [] ∨ p.1 ≠ Gp0 := fun p hp => by
        obtain ⟨y, e⟩ := hyG (Gp0, a) (by simp)
        rcases hold_out p hp with h | h
        · exact .inl h
        · exact .inr fun e2 => hN7.new _ y (by rw [← e]; exact e2 ▸ h)
      have hf_out1 : ∀ p ∈ ps_out, p.2 = [] ∨ p.1 ≠ Gp1 := fun p hp => by
        obtain ⟨y, e⟩ := hyG (Gp1, b) (by simp)
        rcases hold_out p hp with h | h
        · exact .inl h
        · exact .inr fun e2 => hN7.new _ y (by rw [← e]; exact e2 ▸ h)
      have hf_out2 : ∀ p ∈ ps_out, p.2 = [] ∨ p.1 ≠ Gp2 := fun p hp => by
        obtain ⟨y, e⟩ := hyG (Gp2, x1) (by simp)
        rcases hold_out p hp with h | h
        · exact .inl h
        · exact .inr fun e2 => hN7.new _ y (by rw [← e]; exact e2 ▸ h)
      have hf_out3 : ∀ p ∈ ps_out, p.2 = [] ∨ p.1 ≠ Gp3 := fun p hp => by
        obtain ⟨y, e⟩ := hyG (Gp3, y1) (by simp)
        rcases hold_out p hp with h | h
        · exact .inl h
        · exact .inr fun e2 => hN7.new _ y (by rw [← e]; exact e2 ▸ h)
      simp only [B_laws_FnExactReduceMachine_8, bne_self_eq_false, wpD_kp, wpD_regi, wpD_gh, go_sem, adopt_fun, Int.reduceLT, Int.reduceLE, Int.reduceToNat, Int.reduceNeg, Nat.reduceLT, Nat.reduceLeDiff, Nat.reduceMul, Nat.reduceSub, reduceIte, Nat.reduceEqDiff, Nat.reduceAdd, reduceCtorEq]
      intro _
      refine ⟨[.thaw 29 0 911, .thaw 29 1 912, .thaw 1029 0 921, .thaw 1029 1 922], ?_⟩
      refine gwp_thaw rfl rfl (ints_ne ha.1) rfl fun Gm0 => ?_
      simp only [wo_ne (Ne.symm Ge01), wo_ne (Ne.symm Ge02), wo_ne (Ne.symm Ge03), woL_rwp hf_next0, woL_rwp hf_out0, woT, woO, woL_cons, woL_nil, woV_val, woV_own, wo_ptr, wo_o, woL_ints, woL_rwo, wo_st, woO_row, woO_box, woO_gone, wo_any, rwp_cons, rwp_nil, go_sem, adopt_fun, Int.reduceLT, Int.reduceLE, Int.reduceToNat, Int.reduceNeg, Nat.reduceLT, Nat.reduceLeDiff, Nat.reduceMul, Nat.reduceSub, reduceIte, Nat.reduceEqDiff, Nat.reduceAdd, reduceCtorEq]
      refine gwp_thaw rfl rfl (ints_ne hb.1) rfl fun Gm1 => ?_
      simp only [wo_ne Ge01, wo_ne (Ne.symm Ge12), wo_ne (Ne.symm Ge13), woL_rwp hf_next1, woL_rwp hf_out1, woT, woO, woL_cons, woL_nil, woV_val, woV_own, wo_ptr, wo_o, woL_ints, woL_rwo, wo_st, woO_row, woO_box, woO_gone, wo_any, rwp_cons, rwp_nil, go_sem, adopt_fun, Int.reduceLT, Int.reduceLE, Int.reduceToNat, Int.reduceNeg, Nat.reduceLT, Nat.reduceLeDiff, Nat.reduceMul, Nat.reduceSub, reduceIte, Nat.reduceEqDiff, Nat.reduceAdd, reduceCtorEq]
      refine gwp_thaw rfl rfl (ints_ne hx1.1) rfl fun Gm2 => ?_
      simp only [wo_ne Ge02, wo_ne Ge12, wo_ne (Ne.symm Ge23), woL_rwp hf_next2, woL_rwp hf_out2, woT, woO, woL_cons, woL_nil, woV_val, woV_own, wo_ptr, wo_o, woL_ints, woL_rwo, wo_st, woO_row, woO_box, woO_gone, wo_any, rwp_cons, rwp_nil, go_sem, adopt_fun, Int.reduceLT, Int.reduceLE, Int.reduceToNat, Int.reduceNeg, Nat.reduceLT, Nat.reduceLeDiff, Nat.reduceMul, Nat.reduceSub, reduceIte, Nat.reduceEqDiff, Nat.reduceAdd, reduceCtorEq]
      refine gwp_thaw rfl rfl (ints_ne hy1.1) rfl fun Gm3 => ?_
      simp only [wo_ne Ge03, wo_ne Ge13, wo_ne Ge23, woL_rwp hf_next3, woL_rwp hf_out3, woT, woO, woL_cons, woL_nil, woV_val, woV_own, wo_ptr, wo_o, woL_ints, woL_rwo, wo_st, woO_row, woO_box, woO_gone, wo_any, rwp_cons, rwp_nil, go_sem, adopt_fun, Int.reduceLT, Int.reduceLE, Int.reduceToNat, Int.reduceNeg, Nat.reduceLT, Nat.reduceLeDiff, Nat.reduceMul, Nat.reduceSub, reduceIte, Nat.reduceEqDiff, Nat.reduceAdd, reduceCtorEq]
      simp only [gwp_nil, wpD_kp, wpD_regi, go_sem, adopt_fun, Int.reduceLT, Int.reduceLE, Int.reduceToNat, Int.reduceNeg, Nat.reduceLT, Nat.reduceLeDiff, Nat.reduceMul, Nat.reduceSub, reduceIte, Nat.reduceEqDiff, Nat.reduceAdd, reduceCtorEq]
      try simp only [wpD_kp, wpD_regi, go_sem, adopt_fun, Int.reduceLT, Int.reduceLE, Int.reduceToNat, Int.reduceNeg, Nat.reduceLT, Nat.reduceLeDiff, Nat.reduceMul, Nat.reduceSub, reduceIte, Nat.reduceEqDiff, Nat.reduceAdd, reduceCtorEq]
      rintro vs8 U8 -
      refine call_fun (k_eqMachine m0 m0 o0 o0 [a, b] [x1, y1] [a, b] [x1, y1]) (by simp only [rwn_cons, rwn_nil, rwp_cons, rwp_nil, coeL_ints_t, rowIs, boxIs, coe_argN, coe_argNs, coe_ro_o, coeL_nil, coeL_cons, coe_any, coe_val, coe_ro, coe_ro_nil, coe_ro_own, coe_st, coe_st_agg, coe_rp, coe_rp_ptr, coe_clo, coe_own0, coe_ptr0, coeL_intsK, coeL_rws, coeL_rwn, L_hit, L_miss, L_nil, Nat.reduceEqDiff, ne_eq, reduceCtorEq, not_false_eq_true, true_and, and_true, and_self, exists_eq_left, exists_eq_right, List.mem_cons, List.not_mem_nil, or_false, AObj.row.injEq, AObj.box.injEq, exists_eq_left', exists_and_left, exists_eq, Nat.zero_lt_one, Nat.lt_add_one, List.map_cons, List.map_nil, AObj.ver, Nat.reduceLT, not_true_eq_false]) trivial ?_
      simp only [B_laws_FnExactReduceMachine_9, B_laws_FnExactReduceMachine_10, decide_true, Bool.and_self, bne_self_eq_false, wpD_kp, wpD_regi, go_sem, adopt_fun, Int.reduceLT, Int.reduceLE, Int.reduceToNat, Int.reduceNeg, Nat.reduceLT, Nat.reduceLeDiff, Nat.reduceMul, Nat.reduceSub, reduceIte, Nat.reduceEqDiff, Nat.reduceAdd, reduceCtorEq]
      rintro vs9 U9 -
      refine call_rows2 (k_toMachine n o next out hb_next hc_next hb_out hc_out) qCO rfl rfl ?_
      intro v5 v6
      try simp only [List.map_cons, List.map_nil, List.cons_append, List.nil_append, wpD_kp, wpD_regi, go_sem, adopt_fun, Int.reduceLT, Int.reduceLE, Int.reduceToNat, Int.reduceNeg, Nat.reduceLT, Nat.reduceLeDiff, Nat.reduceMul, Nat.reduceSub, reduceIte, Nat.reduceEqDiff, Nat.reduceAdd, reduceCtorEq]
      refine call_fun (k_eqMachine n n o o next out next out) (by simp only [← hps_next, ← hps_out, coeL_rwp_t, rowIs, boxIs, coe_argN, coe_argNs, coe_ro_o, coeL_nil, coeL_cons, coe_any, coe_val, coe_ro, coe_ro_nil, coe_ro_own, coe_st, coe_st_agg, coe_rp, coe_rp_ptr, coe_clo, coe_own0, coe_ptr0, coeL_intsK, coeL_rws, coeL_rwn, L_hit, L_miss, L_nil, Nat.reduceEqDiff, ne_eq, reduceCtorEq, not_false_eq_true, true_and, and_true, and_self, exists_eq_left, exists_eq_right, List.mem_cons, List.not_mem_nil, or_false, AObj.row.injEq, AObj.box.injEq, exists_eq_left', exists_and_left, exists_eq, Nat.zero_lt_one, Nat.lt_add_one, List.map_cons, List.map_nil, AObj.ver, Nat.reduceLT, not_true_eq_false]) trivial ?_
      simp only [B_laws_FnExactReduceMachine_11, B_laws_FnExactReduceMachine_12, B_laws_FnExactReduceMachine_13, decide_true, Bool.and_self, bne_self_eq_false, wpD_kp, wpD_regi, go_sem, adopt_fun, Int.reduceLT, Int.reduceLE, Int.reduceToNat, Int.reduceNeg, Nat.reduceLT, Nat.reduceLeDiff, Nat.reduceMul, Nat.reduceSub, reduceIte, Nat.reduceEqDiff, Nat.reduceAdd, reduceCtorEq]
      rintro vs10 U10 - vs11 U11 -
      refine call_hav (k_markMachine n o ps_next ps_out hdj 1 (by omega) hdp_next hdp_out) ?_ ?_
      · simp only [coeHL_cons, coeHL_nil, coeH_val, coeH_st, and_true, true_and]
        refine ⟨?_, ?_⟩ <;> exact coeH_own (nn := true) qWS
      rintro x ⟨k3, rfl, hk3a, hk3b⟩
      have hkn3 : ¬ (k3 < 0) := by omega
      simp only [B_laws_FnExactReduceMachine_14, cl_L, clT, clO, clV_any, clV_val, clV_own, clV_ptr, clV_st, clV_o, clL_ints, clL_rwo, clL_cons, clL_nil, clR_row, clR_box, clR_gone, decide_eq_false hkn3, wpD_kp, wpD_regi, go_sem, adopt_fun, Int.reduceLT, Int.reduceLE, Int.reduceToNat, Int.reduceNeg, Nat.reduceLT, Nat.reduceLeDiff, Nat.reduceMul, Nat.reduceSub, reduceIte, Nat.reduceEqDiff, Nat.reduceAdd, reduceCtorEq]
      rintro vs12 U12 -
      refine call_fun (k_eqMachine m0 m0 o0 o0 [a, b] [x1, y1] [a, b] [x1, y1]) (by simp only [rwn_cons, rwn_nil, rwp_cons, rwp_nil, coeL_ints_t, rowIs, boxIs, coe_argN, coe_argNs, coe_ro_o, coeL_nil, coeL_cons, coe_any, coe_val, coe_ro, coe_ro_nil, coe_ro_own, coe_st, coe_st_agg, coe_rp, coe_rp_ptr, coe_clo, coe_own0, coe_ptr0, coeL_intsK, coeL_rws, coeL_rwn, L_hit, L_miss, L_nil, Nat.reduceEqDiff, ne_eq, reduceCtorEq, not_false_eq_true, true_and, and_true, and_self, exists_eq_left, exists_eq_right, List.mem_cons, List.not_mem_nil, or_false, AObj.row.injEq, AObj.box.injEq, exists_eq_left', exists_and_left, exists_eq, Nat.zero_lt_one, Nat.lt_add_one, List.map_cons, List.map_nil, AObj.ver, Nat.reduceLT, not_true_eq_false]) trivial ?_
      simp only [B_laws_FnExactReduceMachine_15, B_laws_FnExactReduceMachine_16, B_laws_FnExactReduceMachine_17, decide_true, Bool.and_self, bne_self_eq_false, wpD_kp, wpD_regi, go_sem, adopt_fun, Int.reduceLT, Int.reduceLE, Int.reduceToNat, Int.reduceNeg, Nat.reduceLT, Nat.reduceLeDiff, Nat.reduceMul, Nat.reduceSub, reduceIte, Nat.reduceEqDiff, Nat.reduceAdd, reduceCtorEq]
      rintro vs13 U13 - vs14 U14 -
      refine call_markM2 (r := 29) (t := 1029) (q2 := 911) (q3 := 912) (q4 := 921) (q5 := 922) (k_markMach2 m0 o0 a b x1 y1 1 (by omega) ha.2 hb.2 hx1.2 hy1.2) rfl rfl rfl rfl rfl rfl (by decide) (by simp only [coeL_cons, coeL_nil, coe_st, coe_val, and_true, true_and]; simp only [Coe]; exact ⟨⟨0, _, _, rfl, rfl, rfl, rfl, rfl⟩, ⟨1, _, _, rfl, rfl, rfl, rfl, rfl⟩⟩) ?_
      simp only [B_laws_FnExactReduceMachine_18, B_laws_FnExactReduceMachine_19, wpD_kp, wpD_regi, go_sem, adopt_fun, Int.reduceLT, Int.reduceLE, Int.reduceToNat, Int.reduceNeg, Nat.reduceLT, Nat.reduceLeDiff, Nat.reduceMul, Nat.reduceSub, reduceIte, Nat.reduceEqDiff, Nat.reduceAdd, reduceCtorEq]
      rintro vs15 U15 - vs16 U16 -
      have hneg : ¬ (((1 : Int) + a.length + b.length + x1.length + y1.length) < 0) := by omega
      have hheld : Fun Try.prog n_laws_heldMachine [machA m0 o0 [seqI (1) a.length, seqI (1 + a.length) b.length] [seqI (1 + a.length + b.length) x1.length, seqI (1 + a.length + b.length + x1.length) y1.length], iv 1] (iv (1 + a.length + b.length + x1.length + y1.length)) := by
        have e1 : (1 : Int) + totX [seqI (1) a.length, seqI (1 + a.length) b.length] = 1 + a.length + b.length := by simp only [totX, seqI_len]; omega
        have e2 : (1 : Int) + totX [seqI (1) a.length, seqI (1 + a.length) b.length] + totX [seqI (1 + a.length + b.length) x1.length, seqI (1 + a.length + b.length + x1.length) y1.length] = 1 + a.length + b.length + x1.length + y1.length := by simp only [totX, seqI_len]; omega
        have h := k_heldMachine m0 o0 [seqI (1) a.length, seqI (1 + a.length) b.length] [seqI (1 + a.length + b.length) x1.length, seqI (1 + a.length + b.length + x1.length) y1.length] 1 (by simp only [totX, seqI_len]; omega) (by intro x hx; simp only [List.mem_cons, List.not_mem_nil, or_false] at hx; rcases hx with rfl | rfl <;> rw [seqI_len] <;> omega) (by intro x hx; simp only [List.mem_cons, List.not_mem_nil, or_false] at hx; rcases hx with rfl | rfl <;> rw [seqI_len] <;> omega) (by simp [okRows, seqI_len]) (by rw [e1]; simp [okRows, seqI_len])
        rw [e2] at h; exact h
      refine call_fun hheld (by simp only [rwn_cons, rwn_nil, coeL_ints_t, rowIs, boxIs, coe_argN, coe_argNs, coe_ro_o, coeL_nil, coeL_cons, coe_any, coe_val, coe_ro, coe_ro_nil, coe_ro_own, coe_st, coe_st_agg, coe_rp, coe_rp_ptr, coe_clo, coe_own0, coe_ptr0, coeL_intsK, coeL_rws, coeL_rwn, L_hit, L_miss, L_nil, Nat.reduceEqDiff, ne_eq, reduceCtorEq, not_false_eq_true, true_and, and_true, and_self, exists_eq_left, exists_eq_right, List.mem_cons, List.not_mem_nil, or_false, AObj.row.injEq, AObj.box.injEq, exists_eq_left', exists_and_left, exists_eq, Nat.zero_lt_one, Nat.lt_add_one, List.map_cons, List.map_nil, AObj.ver, Nat.reduceLT, not_true_eq_false]) trivial ?_
      simp only [B_laws_FnExactReduceMachine_20, B_laws_FnExactReduceMachine_21, B_laws_FnExactReduceMachine_22, B_laws_FnExactReduceMachine_23, B_laws_FnExactReduceMachine_24, bne_self_eq_false, decide_eq_false hneg, wpD_kp, wpD_regi, go_sem, adopt_fun, Int.reduceLT, Int.reduceLE, Int.reduceToNat, Int.reduceNeg, Nat.reduceLT, Nat.reduceLeDiff, Nat.reduceMul, Nat.reduceSub, reduceIte, Nat.reduceEqDiff, Nat.reduceAdd, reduceCtorEq]
      rintro vs17 U17 - vs18 U18 - vs19 U19 hN19
      refine call_rows2 (k_toMachine n o next out hb_next hc_next hb_out hc_out) qCO rfl rfl ?_
      intro v7 v8
      try simp only [List.map_cons, List.map_nil, List.cons_append, List.nil_append, wpD_kp, wpD_regi, go_sem, adopt_fun, Int.reduceLT, Int.reduceLE, Int.reduceToNat, Int.reduceNeg, Nat.reduceLT, Nat.reduceLeDiff, Nat.reduceMul, Nat.reduceSub, reduceIte, Nat.reduceEqDiff, Nat.reduceAdd, reduceCtorEq]
      refine call_machT (fun x y e => (hN19.inj _ _ _ _ e).2) KI qCS rfl rfl (fun _ vH wH pH qH hH hH2 hdH hyH => ?_) (fun h => by cases h)
      obtain ⟨Hp0, Hp1, Hp2, Hp3, rfl, rfl, He01, He02, He03, He12, He13, He23⟩ := nmM2 hH hH2 hdH ha.1 hb.1 hx1.1 hy1.1
      simp only [B_laws_FnExactReduceMachine_25, bne_self_eq_false, wpD_kp, wpD_regi, go_sem, adopt_fun, Int.reduceLT, Int.reduceLE, Int.reduceToNat, Int.reduceNeg, Nat.reduceLT, Nat.reduceLeDiff, Nat.reduceMul, Nat.reduceSub, reduceIte, Nat.reduceEqDiff, Nat.reduceAdd, reduceCtorEq]
      rintro vs20 U20 -
      refine call_fun (k_eqMachine m0 m0 o0 o0 [a, b] [x1, y1] [a, b] [x1, y1]) (by simp only [rwn_cons, rwn_nil, rwp_cons, rwp_nil, coeL_ints_t, rowIs, boxIs, coe_argN, coe_argNs, coe_ro_o, coeL_nil, coeL_cons, coe_any, coe_val, coe_ro, coe_ro_nil, coe_ro_own, coe_st, coe_st_agg, coe_rp, coe_rp_ptr, coe_clo, coe_own0, coe_ptr0, coeL_intsK, coeL_rws, coeL_rwn, L_hit, L_miss, L_nil, Nat.reduceEqDiff, ne_eq, reduceCtorEq, not_false_eq_true, true_and, and_true, and_self, exists_eq_left, exists_eq_right, List.mem_cons, List.not_mem_nil, or_false, AObj.row.injEq, AObj.box.injEq, exists_eq_left', exists_and_left, exists_eq, Nat.zero_lt_one, Nat.lt_add_one, List.map_cons, List.map_nil, AObj.ver, Nat.reduceLT, not_true_eq_false]) trivial ?_
      simp only [B_laws_FnExactReduceMachine_26, B_laws_FnExactReduceMachine_27, B_laws_FnExactReduceMachine_28, decide_true, Bool.and_self, bne_self_eq_false, wpD_kp, wpD_regi, go_sem, adopt_fun, Int.reduceLT, Int.reduceLE, Int.reduceToNat, Int.reduceNeg, Nat.reduceLT, Nat.reduceLeDiff, Nat.reduceMul, Nat.reduceSub, reduceIte, Nat.reduceEqDiff, Nat.reduceAdd, reduceCtorEq]
      rintro vs21 U21 - vs22 U22 -
      refine call_fun hheld (by simp only [rwn_cons, rwn_nil, coeL_ints_t, rowIs, boxIs, coe_argN, coe_argNs, coe_ro_o, coeL_nil, coeL_cons, coe_any, coe_val, coe_ro, coe_ro_nil, coe_ro_own, coe_st, coe_st_agg, coe_rp, coe_rp_ptr, coe_clo, coe_own0, coe_ptr0, coeL_intsK, coeL_rws, coeL_rwn, L_hit, L_miss, L_nil, Nat.reduceEqDiff, ne_eq, reduceCtorEq, not_false_eq_true, true_and, and_true, and_self, exists_eq_left, exists_eq_right, List.mem_cons, List.not_mem_nil, or_false, AObj.row.injEq, AObj.box.injEq, exists_eq_left', exists_and_left, exists_eq, Nat.zero_lt_one, Nat.lt_add_one, List.map_cons, List.map_nil, AObj.ver, Nat.reduceLT, not_true_eq_false]) trivial ?_
      simp only [B_laws_FnExactReduceMachine_29, B_laws_FnExactReduceMachine_30, B_laws_FnExactReduceMachine_31, B_laws_FnExactReduceMachine_32, B_laws_FnExactReduceMachine_33, bne_self_eq_false, decide_eq_false hneg, wpD_kp, wpD_regi, go_sem, adopt_fun, Int.reduceLT, Int.reduceLE, Int.reduceToNat, Int.reduceNeg, Nat.reduceLT, Nat.reduceLeDiff, Nat.reduceMul, Nat.reduceSub, reduceIte, Nat.reduceEqDiff, Nat.reduceAdd, reduceCtorEq]
      try simp
    · -- 3
      obtain ⟨x1, y1, z1, rfl⟩ := zs3 hl3
      have ha := hw a (by simp)
      have hb := hw b (by simp)
      have hc := hw c (by simp)
      have hx1 := hw x1 (by simp)
      have hy1 := hw y1 (by simp)
      have hz1 := hw z1 (by simp)
      refine call_machT (fun x y e => (hN5.inj _ _ _ _ e).2) KS qCS rfl rfl (fun _ vS wS pS qS hS hS2 hdS hyS => ?_) (fun h => by cases h)
      obtain ⟨Sp0, Sp1, Sp2, Sp3, Sp4, Sp5, rfl, rfl, Se01, Se02, Se03, Se04, Se05, Se12, Se13, Se14, Se15, Se23, Se24, Se25, Se34, Se35, Se45⟩ := nmM3 hS hS2 hdS ha.1 hb.1 hc.1 hx1.1 hy1.1 hz1.1
      simp only [B_laws_FnExactReduceMachine_6, wpD_kp, wpD_regi, wpD_gh, go_sem, adopt_fun, Int.reduceLT, Int.reduceLE, Int.reduceToNat, Int.reduceNeg, Nat.reduceLT, Nat.reduceLeDiff, Nat.reduceMul, Nat.reduceSub, reduceIte, Nat.reduceEqDiff, Nat.reduceAdd, reduceCtorEq]
      intro _
      refine ⟨[.thaw 22 0 901, .thaw 22 1 902, .thaw 22 2 903, .thaw 1022 0 931, .thaw 1022 1 932, .thaw 1022 2 933], ?_⟩
      refine gwp_thaw rfl rfl (ints_ne ha.1) rfl fun Sm0 => ?_
      simp only [wo_ne (Ne.symm Se01), wo_ne (Ne.symm Se02), wo_ne (Ne.symm Se03), wo_ne (Ne.symm Se04), wo_ne (Ne.symm Se05), woT, woO, woL_cons, woL_nil, woV_val, woV_own, wo_ptr, wo_o, woL_ints, woL_rwo, wo_st, woO_row, woO_box, woO_gone, wo_any, rwp_cons, rwp_nil, go_sem, adopt_fun, Int.reduceLT, Int.reduceLE, Int.reduceToNat, Int.reduceNeg, Nat.reduceLT, Nat.reduceLeDiff, Nat.reduceMul, Nat.reduceSub, reduceIte, Nat.reduceEqDiff, Nat.reduceAdd, reduceCtorEq]
      refine gwp_thaw rfl rfl (ints_ne hb.1) rfl fun Sm1 => ?_
      simp only [wo_ne Se01, wo_ne (Ne.symm Se12), wo_ne (Ne.symm Se13), wo_ne (Ne.symm Se14), wo_ne (Ne.symm Se15), woT, woO, woL_cons, woL_nil, woV_val, woV_own, wo_ptr, wo_o, woL_ints, woL_rwo, wo_st, woO_row, woO_box, woO_gone, wo_any, rwp_cons, rwp_nil, go_sem, adopt_fun, Int.reduceLT, Int.reduceLE, Int.reduceToNat, Int.reduceNeg, Nat.reduceLT, Nat.reduceLeDiff, Nat.reduceMul, Nat.reduceSub, reduceIte, Nat.reduceEqDiff, Nat.reduceAdd, reduceCtorEq]
      refine gwp_thaw rfl rfl (ints_ne hc.1) rfl fun Sm2 => ?_
      simp only [wo_ne Se02, wo_ne Se12, wo_ne (Ne.symm Se23), wo_ne (Ne.symm Se24), wo_ne (Ne.symm Se25), woT, woO, woL_cons, woL_nil, woV_val, woV_own, wo_ptr, wo_o, woL_ints, woL_rwo, wo_st, woO_row, woO_box, woO_gone, wo_any, rwp_cons, rwp_nil, go_sem, adopt_fun, Int.reduceLT, Int.reduceLE, Int.reduceToNat, Int.reduceNeg, Nat.reduceLT, Nat.reduceLeDiff, Nat.reduceMul, Nat.reduceSub, reduceIte, Nat.reduceEqDiff, Nat.reduceAdd, reduceCtorEq]
      refine gwp_thaw rfl rfl (ints_ne hx1.1) rfl fun Sm3 => ?_
      simp only [wo_ne Se03, wo_ne Se13, wo_ne Se23, wo_ne (Ne.symm Se34), wo_ne (Ne.symm Se35), woT, woO, woL_cons, woL_nil, woV_val, woV_own, wo_ptr, wo_o, woL_ints, woL_rwo, wo_st, woO_row, woO_box, woO_gone, wo_any, rwp_cons, rwp_nil, go_sem, adopt_fun, Int.reduceLT, Int.reduceLE, Int.reduceToNat, Int.reduceNeg, Nat.reduceLT, Nat.reduceLeDiff, Nat.reduceMul, Nat.reduceSub, reduceIte, Nat.reduceEqDiff, Nat.reduceAdd, reduceCtorEq]
      refine gwp_thaw rfl rfl (ints_ne hy1.1) rfl fun Sm4 => ?_
      simp only [wo_ne Se04, wo_ne Se14, wo_ne Se24, wo_ne Se34, wo_ne (Ne.symm Se45), woT, woO, woL_cons, woL_nil, woV_val, woV_own, wo_ptr, wo_o, woL_ints, woL_rwo, wo_st, woO_row, woO_box, woO_gone, wo_any, rwp_cons, rwp_nil, go_sem, adopt_fun, Int.reduceLT, Int.reduceLE, Int.reduceToNat, Int.reduceNeg, Nat.reduceLT, Nat.reduceLeDiff, Nat.reduceMul, Nat.reduceSub, reduceIte, Nat.reduceEqDiff, Nat.reduceAdd, reduceCtorEq]
      refine gwp_thaw rfl rfl (ints_ne hz1.1) rfl fun Sm5 => ?_
      simp only [wo_ne Se05, wo_ne Se15, wo_ne Se25, wo_ne Se35, wo_ne Se45, woT, woO, woL_cons, woL_nil, woV_val, woV_own, wo_ptr, wo_o, woL_ints, woL_rwo, wo_st, woO_row, woO_box, woO_gone, wo_any, rwp_cons, rwp_nil, go_sem, adopt_fun, Int.reduceLT, Int.reduceLE, Int.reduceToNat, Int.reduceNeg, Nat.reduceLT, Nat.reduceLeDiff, Nat.reduceMul, Nat.reduceSub, reduceIte, Nat.reduceEqDiff, Nat.reduceAdd, reduceCtorEq]
      simp only [gwp_nil, wpD_kp, wpD_regi, go_sem, adopt_fun, Int.reduceLT, Int.reduceLE, Int.reduceToNat, Int.reduceNeg, Nat.reduceLT, Nat.reduceLeDiff, Nat.reduceMul, Nat.reduceSub, reduceIte, Nat.reduceEqDiff, Nat.reduceAdd, reduceCtorEq]
      try simp only [wpD_kp, wpD_regi, go_sem, adopt_fun, Int.reduceLT, Int.reduceLE, Int.reduceToNat, Int.reduceNeg, Nat.reduceLT, Nat.reduceLeDiff, Nat.reduceMul, Nat.reduceSub, reduceIte, Nat.reduceEqDiff, Nat.reduceAdd, reduceCtorEq]
      rintro vs6 U6 hN6
      refine call_machN (fun x y e => (hN6.inj _ _ _ _ e).2) (k_toMachineN n o next out hb_next hc_next hb_out hc_out) qCO rfl rfl ?_
      intro v3 v4 ps_next ps_out hps_next hps_out hdj
      clear hN6
      have htt_next : totL ps_next ≤ 1048576 := by have h := szLL_tot (ps := ps_next) (l := 1048576) (by rw [hps_next]; omega) (by omega); omega
      have htn_next := totL_nn ps_next
      have hdp_next : ∀ p ∈ ps_next, (p.2.length : Int) ≤ 1000000000 := fun p hp => hd_next p.2 (by rw [← hps_next]; exact List.mem_map_of_mem hp)
      have htt_out : totL ps_out ≤ 1048576 := by have h := szLL_tot (ps := ps_out) (l := (szLL next 1048576)) (by rw [hps_out]; omega) (by omega); omega
      have htn_out := totL_nn ps_out
      have hdp_out : ∀ p ∈ ps_out, (p.2.length : Int) ≤ 1000000000 := fun p hp => hd_out p.2 (by rw [← hps_out]; exact List.mem_map_of_mem hp)
      simp only [B_laws_FnExactReduceMachine_7, wpD_kp, wpD_regi, go_sem, adopt_fun, Int.reduceLT, Int.reduceLE, Int.reduceToNat, Int.reduceNeg, Nat.reduceLT, Nat.reduceLeDiff, Nat.reduceMul, Nat.reduceSub, reduceIte, Nat.reduceEqDiff, Nat.reduceAdd, reduceCtorEq]
      rintro vs7 U7 hN7
      refine call_machT (fun x y e => (hN7.inj _ _ _ _ e).2) KI (by simp only [← hps_next, ← hps_out, coeL_rwp_t, rowIs, boxIs, coe_argN, coe_argNs, coe_ro_o, coeL_nil, coeL_cons, coe_any, coe_val, coe_ro, coe_ro_nil, coe_ro_own, coe_st, coe_st_agg, coe_rp, coe_rp_ptr, coe_clo, coe_own0, coe_ptr0, coeL_intsK, coeL_rws, coeL_rwn, L_hit, L_miss, L_nil, Nat.reduceEqDiff, ne_eq, reduceCtorEq, not_false_eq_true, true_and, and_true, and_self, exists_eq_left, exists_eq_right, List.mem_cons, List.not_mem_nil, or_false, AObj.row.injEq, AObj.box.injEq, exists_eq_left', exists_and_left, exists_eq, Nat.zero_lt_one, Nat.lt_add_one, List.map_cons, List.map_nil, AObj.ver, Nat.reduceLT, not_true_eq_false]) rfl rfl (fun _ vG wG pG qG hG hG2 hdG hyG => ?_) (fun h => by cases h)
      obtain ⟨Gp0, Gp1, Gp2, Gp3, Gp4, Gp5, rfl, rfl, Ge01, Ge02, Ge03, Ge04, Ge05, Ge12, Ge13, Ge14, Ge15, Ge23, Ge24, Ge25, Ge34, Ge35, Ge45⟩ := nmM3 hG hG2 hdG ha.1 hb.1 hc.1 hx1.1 hy1.1 hz1.1
      have hU_next := hN7.hp 26
      simp only [AObj.uses, go_sem, adopt_fun, Int.reduceLT, Int.reduceLE, Int.reduceToNat, Int.reduceNeg, Nat.reduceLT, Nat.reduceLeDiff, Nat.reduceMul, Nat.reduceSub, reduceIte, Nat.reduceEqDiff, Nat.reduceAdd, reduceCtorEq] at hU_next
      have hold_next := usesL_rwp (rest := []) (by rw [List.append_nil]; exact hU_next.2)
      have hf_next0 : ∀ p ∈ ps_next, p.2 = [] ∨ p.1 ≠ Gp0 := fun p hp => by
        obtain ⟨y, e⟩ := hyG (Gp0, a) (by simp)
        rcases hold_next p hp with h | h
        · exact .inl h
        · exact .inr fun e2 => hN7.new _ y (by rw [← e]; exact e2 ▸ h)
      have hf_next1 : ∀ p ∈ ps_next, p.2 = [] ∨ p.1 ≠ Gp1 := fun p hp => by
        obtain ⟨y, e⟩ := hyG (Gp1, b) (by simp)
        rcases hold_next p hp with h | h
        · exact .inl h
        · exact .inr fun e2 => hN7.new _ y (by rw [← e]; exact e2 ▸ h)
      have hf_next2 : ∀ p ∈ ps_next, p.2 = [] ∨ p.1 ≠ Gp2 := fun p hp => by
        obtain ⟨y, e⟩ := hyG (Gp2, c) (by simp)
        rcases hold_next p hp with h | h
        · exact .inl h
        · exact .inr fun e2 => hN7.new _ y (by rw [← e]; exact e2 ▸ h)
      have hf_next3 : ∀ p ∈ ps_next, p.2 = [] ∨ p.1 ≠ Gp3 := fun p hp => by
        obtain ⟨y, e⟩ := hyG (Gp3, x1) (by simp)
        rcases hold_next p hp with h | h
        · exact .inl h
        · exact .inr fun e2 => hN7.new _ y (by rw [← e]; exact e2 ▸ h)
      have hf_next4 : ∀ p ∈ ps_next, p.2 = [] ∨ p.1 ≠ Gp4 := fun p hp => by
        obtain ⟨y, e⟩ := hyG (Gp4, y1) (by simp)
        rcases hold_next p hp with h | h
        · exact .inl h
        · exact .inr fun e2 => hN7.new _ y (by rw [← e]; exact e2 ▸ h)
      have hf_next5 : ∀ p ∈ ps_next, p.2 = [] ∨ p.1 ≠ Gp5 := fun p hp => by
        obtain ⟨y, e⟩ := hyG (Gp5, z1) (by simp)
        rcases hold_next p hp with h | h
        · exact .inl h
        · exact .inr fun e2 => hN7.new _ y (by rw [← e]; exact e2 ▸ h)
      have hU_out := hN7.hp 1026
      simp only [AObj.uses, go_sem, adopt_fun, Int.reduceLT, Int.reduceLE, Int.reduceToNat, Int.reduceNeg, Nat.reduceLT, Nat.reduceLeDiff, Nat.reduceMul, Nat.reduceSub, reduceIte, Nat.reduceEqDiff, Nat.reduceAdd, reduceCtorEq] at hU_out
      have hold_out := usesL_rwp (rest := []) (by rw [List.append_nil]; exact hU_out.2)
      have hf_out0 : ∀ p ∈ ps_out, p.2 = [] ∨ p.1 ≠ Gp0 := fun p hp => by
        obtain ⟨y, e⟩ := hyG (Gp0, a) (by simp)
        rcases hold_out p hp with h | h
        · exact .inl h
        · exact .inr fun e2 => hN7.new _ y (by rw [← e]; exact e2 ▸ h)
      have hf_out1 : ∀ p ∈ ps_out, p.2 = [] ∨ p.1 ≠ Gp1 := fun p hp => by
        obtain ⟨y, e⟩ := hyG (Gp1, b) (by simp)
        rcases hold_out p hp with h | h
        · exact .inl h
        · exact .inr fun e2 => hN7.new _ y (by rw [← e]; exact e2 ▸ h)
      have hf_out2 : ∀ p ∈ ps_out, p.2 = [] ∨ p.1 ≠ Gp2 := fun p hp => by
        obtain ⟨y, e⟩ := hyG (Gp2, c) (by simp)
        rcases hold_out p hp with h | h
        · exact .inl h
        · exact .inr fun e2 => hN7.new _ y (by rw [← e]; exact e2 ▸ h)
      have hf_out3 : ∀ p ∈ ps_out, p.2 = [] ∨ p.1 ≠ Gp3 := fun p hp => by
        obtain ⟨y, e⟩ := hyG (Gp3, x1) (by simp)
        rcases hold_out p hp with h | h
        · exact .inl h
        · exact .inr fun e2 => hN7.new _ y (by rw [← e]; exact e2 ▸ h)
      have hf_out4 : ∀ p ∈ ps_out, p.2 = [] ∨ p.1 ≠ Gp4 := fun p hp => by
        obtain ⟨y, e⟩ := hyG (Gp4, y1) (by simp)
        rcases hold_out p hp with h | h
        · exact .inl h
        · exact .inr fun e2 => hN7.new _ y (by rw [← e]; exact e2 ▸ h)
      have hf_out5 : ∀ p ∈ ps_out, p.2 = [] ∨ p.1 ≠ Gp5 := fun p hp => by
        obtain ⟨y, e⟩ := hyG (Gp5, z1) (by simp)
        rcases hold_out p hp with h | h
        · exact .inl h
        · exact .inr fun e2 => hN7.new _ y (by rw [← e]; exact e2 ▸ h)
      simp only [B_laws_FnExactReduceMachine_8, bne_self_eq_false, wpD_kp, wpD_regi, wpD_gh, go_sem, adopt_fun, Int.reduceLT, Int.reduceLE, Int.reduceToNat, Int.reduceNeg, Nat.reduceLT, Nat.reduceLeDiff, Nat.reduceMul, Nat.reduceSub, reduceIte, Nat.reduceEqDiff, Nat.reduceAdd, reduceCtorEq]
      intro _
      refine ⟨[.thaw 29 0 911, .thaw 29 1 912, .thaw 29 2 913, .thaw 1029 0 921, .thaw 1029 1 922, .thaw 1029 2 923], ?_⟩
      refine gwp_thaw rfl rfl (ints_ne ha.1) rfl fun Gm0 => ?_
      simp only [wo_ne (Ne.symm Ge01), wo_ne (Ne.symm Ge02), wo_ne (Ne.symm Ge03), wo_ne (Ne.symm Ge04), wo_ne (Ne.symm Ge05), woL_rwp hf_next0, woL_rwp hf_out0, woT, woO, woL_cons, woL_nil, woV_val, woV_own, wo_ptr, wo_o, woL_ints, woL_rwo, wo_st, woO_row, woO_box, woO_gone, wo_any, rwp_cons, rwp_nil, go_sem, adopt_fun, Int.reduceLT, Int.reduceLE, Int.reduceToNat, Int.reduceNeg, Nat.reduceLT, Nat.reduceLeDiff, Nat.reduceMul, Nat.reduceSub, reduceIte, Nat.reduceEqDiff, Nat.reduceAdd, reduceCtorEq]
      refine gwp_thaw rfl rfl (ints_ne hb.1) rfl fun Gm1 => ?_
      simp only [wo_ne Ge01, wo_ne (Ne.symm Ge12), wo_ne (Ne.symm Ge13), wo_ne (Ne.symm Ge14), wo_ne (Ne.symm Ge15), woL_rwp hf_next1, woL_rwp hf_out1, woT, woO, woL_cons, woL_nil, woV_val, woV_own, wo_ptr, wo_o, woL_ints, woL_rwo, wo_st, woO_row, woO_box, woO_gone, wo_any, rwp_cons, rwp_nil, go_sem, adopt_fun, Int.reduceLT, Int.reduceLE, Int.reduceToNat, Int.reduceNeg, Nat.reduceLT, Nat.reduceLeDiff, Nat.reduceMul, Nat.reduceSub, reduceIte, Nat.reduceEqDiff, Nat.reduceAdd, reduceCtorEq]
      refine gwp_thaw rfl rfl (ints_ne hc.1) rfl fun Gm2 => ?_
      simp only [wo_ne Ge02, wo_ne Ge12, wo_ne (Ne.symm Ge23), wo_ne (Ne.symm Ge24), wo_ne (Ne.symm Ge25), woL_rwp hf_next2, woL_rwp hf_out2, woT, woO, woL_cons, woL_nil, woV_val, woV_own, wo_ptr, wo_o, woL_ints, woL_rwo, wo_st, woO_row, woO_box, woO_gone, wo_any, rwp_cons, rwp_nil, go_sem, adopt_fun, Int.reduceLT, Int.reduceLE, Int.reduceToNat, Int.reduceNeg, Nat.reduceLT, Nat.reduceLeDiff, Nat.reduceMul, Nat.reduceSub, reduceIte, Nat.reduceEqDiff, Nat.reduceAdd, reduceCtorEq]
      refine gwp_thaw rfl rfl (ints_ne hx1.1) rfl fun Gm3 => ?_
      simp only [wo_ne Ge03, wo_ne Ge13, wo_ne Ge23, wo_ne (Ne.symm Ge34), wo_ne (Ne.symm Ge35), woL_rwp hf_next3, woL_rwp hf_out3, woT, woO, woL_cons, woL_nil, woV_val, woV_own, wo_ptr, wo_o, woL_ints, woL_rwo, wo_st, woO_row, woO_box, woO_gone, wo_any, rwp_cons, rwp_nil, go_sem, adopt_fun, Int.reduceLT, Int.reduceLE, Int.reduceToNat, Int.reduceNeg, Nat.reduceLT, Nat.reduceLeDiff, Nat.reduceMul, Nat.reduceSub, reduceIte, Nat.reduceEqDiff, Nat.reduceAdd, reduceCtorEq]
      refine gwp_thaw rfl rfl (ints_ne hy1.1) rfl fun Gm4 => ?_
      simp only [wo_ne Ge04, wo_ne Ge14, wo_ne Ge24, wo_ne Ge34, wo_ne (Ne.symm Ge45), woL_rwp hf_next4, woL_rwp hf_out4, woT, woO, woL_cons, woL_nil, woV_val, woV_own, wo_ptr, wo_o, woL_ints, woL_rwo, wo_st, woO_row, woO_box, woO_gone, wo_any, rwp_cons, rwp_nil, go_sem, adopt_fun, Int.reduceLT, Int.reduceLE, Int.reduceToNat, Int.reduceNeg, Nat.reduceLT, Nat.reduceLeDiff, Nat.reduceMul, Nat.reduceSub, reduceIte, Nat.reduceEqDiff, Nat.reduceAdd, reduceCtorEq]
      refine gwp_thaw rfl rfl (ints_ne hz1.1) rfl fun Gm5 => ?_
      simp only [wo_ne Ge05, wo_ne Ge15, wo_ne Ge25, wo_ne Ge35, wo_ne Ge45, woL_rwp hf_next5, woL_rwp hf_out5, woT, woO, woL_cons, woL_nil, woV_val, woV_own, wo_ptr, wo_o, woL_ints, woL_rwo, wo_st, woO_row, woO_box, woO_gone, wo_any, rwp_cons, rwp_nil, go_sem, adopt_fun, Int.reduceLT, Int.reduceLE, Int.reduceToNat, Int.reduceNeg, Nat.reduceLT, Nat.reduceLeDiff, Nat.reduceMul, Nat.reduceSub, reduceIte, Nat.reduceEqDiff, Nat.reduceAdd, reduceCtorEq]
      simp only [gwp_nil, wpD_kp, wpD_regi, go_sem, adopt_fun, Int.reduceLT, Int.reduceLE, Int.reduceToNat, Int.reduceNeg, Nat.reduceLT, Nat.reduceLeDiff, Nat.reduceMul, Nat.reduceSub, reduceIte, Nat.reduceEqDiff, Nat.reduceAdd, reduceCtorEq]
      try simp only [wpD_kp, wpD_regi, go_sem, adopt_fun, Int.reduceLT, Int.reduceLE, Int.reduceToNat, Int.reduceNeg, Nat.reduceLT, Nat.reduceLeDiff, Nat.reduceMul, Nat.reduceSub, reduceIte, Nat.reduceEqDiff, Nat.reduceAdd, reduceCtorEq]
      rintro vs8 U8 -
      refine call_fun (k_eqMachine m0 m0 o0 o0 [a, b, c] [x1, y1, z1] [a, b, c] [x1, y1, z1]) (by simp only [rwn_cons, rwn_nil, rwp_cons, rwp_nil, coeL_ints_t, rowIs, boxIs, coe_argN, coe_argNs, coe_ro_o, coeL_nil, coeL_cons, coe_any, coe_val, coe_ro, coe_ro_nil, coe_ro_own, coe_st, coe_st_agg, coe_rp, coe_rp_ptr, coe_clo, coe_own0, coe_ptr0, coeL_intsK, coeL_rws, coeL_rwn, L_hit, L_miss, L_nil, Nat.reduceEqDiff, ne_eq, reduceCtorEq, not_false_eq_true, true_and, and_true, and_self, exists_eq_left, exists_eq_right, List.mem_cons, List.not_mem_nil, or_false, AObj.row.injEq, AObj.box.injEq, exists_eq_left', exists_and_left, exists_eq, Nat.zero_lt_one, Nat.lt_add_one, List.map_cons, List.map_nil, AObj.ver, Nat.reduceLT, not_true_eq_false]) trivial ?_
      simp only [B_laws_FnExactReduceMachine_9, B_laws_FnExactReduceMachine_10, decide_true, Bool.and_self, bne_self_eq_false, wpD_kp, wpD_regi, go_sem, adopt_fun, Int.reduceLT, Int.reduceLE, Int.reduceToNat, Int.reduceNeg, Nat.reduceLT, Nat.reduceLeDiff, Nat.reduceMul, Nat.reduceSub, reduceIte, Nat.reduceEqDiff, Nat.reduceAdd, reduceCtorEq]
      rintro vs9 U9 -
      refine call_rows2 (k_toMachine n o next out hb_next hc_next hb_out hc_out) qCO rfl rfl ?_
      intro v5 v6
      try simp only [List.map_cons, List.map_nil, List.cons_append, List.nil_append, wpD_kp, wpD_regi, go_sem, adopt_fun, Int.reduceLT, Int.reduceLE, Int.reduceToNat, Int.reduceNeg, Nat.reduceLT, Nat.reduceLeDiff, Nat.reduceMul, Nat.reduceSub, reduceIte, Nat.reduceEqDiff, Nat.reduceAdd, reduceCtorEq]
      refine call_fun (k_eqMachine n n o o next out next out) (by simp only [← hps_next, ← hps_out, coeL_rwp_t, rowIs, boxIs, coe_argN, coe_argNs, coe_ro_o, coeL_nil, coeL_cons, coe_any, coe_val, coe_ro, coe_ro_nil, coe_ro_own, coe_st, coe_st_agg, coe_rp, coe_rp_ptr, coe_clo, coe_own0, coe_ptr0, coeL_intsK, coeL_rws, coeL_rwn, L_hit, L_miss, L_nil, Nat.reduceEqDiff, ne_eq, reduceCtorEq, not_false_eq_true, true_and, and_true, and_self, exists_eq_left, exists_eq_right, List.mem_cons, List.not_mem_nil, or_false, AObj.row.injEq, AObj.box.injEq, exists_eq_left', exists_and_left, exists_eq, Nat.zero_lt_one, Nat.lt_add_one, List.map_cons, List.map_nil, AObj.ver, Nat.reduceLT, not_true_eq_false]) trivial ?_
      simp only [B_laws_FnExactReduceMachine_11, B_laws_FnExactReduceMachine_12, B_laws_FnExactReduceMachine_13, decide_true, Bool.and_self, bne_self_eq_false, wpD_kp, wpD_regi, go_sem, adopt_fun, Int.reduceLT, Int.reduceLE, Int.reduceToNat, Int.reduceNeg, Nat.reduceLT, Nat.reduceLeDiff, Nat.reduceMul, Nat.reduceSub, reduceIte, Nat.reduceEqDiff, Nat.reduceAdd, reduceCtorEq]
      rintro vs10 U10 - vs11 U11 -
      refine call_hav (k_markMachine n o ps_next ps_out hdj 1 (by omega) hdp_next hdp_out) ?_ ?_
      · simp only [coeHL_cons, coeHL_nil, coeH_val, coeH_st, and_true, true_and]
        refine ⟨?_, ?_⟩ <;> exact coeH_own (nn := true) qWS
      rintro x ⟨k4, rfl, hk4a, hk4b⟩
      have hkn4 : ¬ (k4 < 0) := by omega
      simp only [B_laws_FnExactReduceMachine_14, cl_L, clT, clO, clV_any, clV_val, clV_own, clV_ptr, clV_st, clV_o, clL_ints, clL_rwo, clL_cons, clL_nil, clR_row, clR_box, clR_gone, decide_eq_false hkn4, wpD_kp, wpD_regi, go_sem, adopt_fun, Int.reduceLT, Int.reduceLE, Int.reduceToNat, Int.reduceNeg, Nat.reduceLT, Nat.reduceLeDiff, Nat.reduceMul, Nat.reduceSub, reduceIte, Nat.reduceEqDiff, Nat.reduceAdd, reduceCtorEq]
      rintro vs12 U12 -
      refine call_fun (k_eqMachine m0 m0 o0 o0 [a, b, c] [x1, y1, z1] [a, b, c] [x1, y1, z1]) (by simp only [rwn_cons, rwn_nil, rwp_cons, rwp_nil, coeL_ints_t, rowIs, boxIs, coe_argN, coe_argNs, coe_ro_o, coeL_nil, coeL_cons, coe_any, coe_val, coe_ro, coe_ro_nil, coe_ro_own, coe_st, coe_st_agg, coe_rp, coe_rp_ptr, coe_clo, coe_own0, coe_ptr0, coeL_intsK, coeL_rws, coeL_rwn, L_hit, L_miss, L_nil, Nat.reduceEqDiff, ne_eq, reduceCtorEq, not_false_eq_true, true_and, and_true, and_self, exists_eq_left, exists_eq_right, List.mem_cons, List.not_mem_nil, or_false, AObj.row.injEq, AObj.box.injEq, exists_eq_left', exists_and_left, exists_eq, Nat.zero_lt_one, Nat.lt_add_one, List.map_cons, List.map_nil, AObj.ver, Nat.reduceLT, not_true_eq_false]) trivial ?_
      simp only [B_laws_FnExactReduceMachine_15, B_laws_FnExactReduceMachine_16, B_laws_FnExactReduceMachine_17, decide_true, Bool.and_self, bne_self_eq_false, wpD_kp, wpD_regi, go_sem, adopt_fun, Int.reduceLT, Int.reduceLE, Int.reduceToNat, Int.reduceNeg, Nat.reduceLT, Nat.reduceLeDiff, Nat.reduceMul, Nat.reduceSub, reduceIte, Nat.reduceEqDiff, Nat.reduceAdd, reduceCtorEq]
      rintro vs13 U13 - vs14 U14 -
      refine call_markM3 (r := 29) (t := 1029) (q2 := 911) (q3 := 912) (q4 := 913) (q5 := 921) (q6 := 922) (q7 := 923) (k_markMach3 m0 o0 a b c x1 y1 z1 1 (by omega) ha.2 hb.2 hc.2 hx1.2 hy1.2 hz1.2) rfl rfl rfl rfl rfl rfl rfl rfl (by decide) (by simp only [coeL_cons, coeL_nil, coe_st, coe_val, and_true, true_and]; simp only [Coe]; exact ⟨⟨0, _, _, rfl, rfl, rfl, rfl, rfl⟩, ⟨1, _, _, rfl, rfl, rfl, rfl, rfl⟩⟩) ?_
      simp only [B_laws_FnExactReduceMachine_18, B_laws_FnExactReduceMachine_19, wpD_kp, wpD_regi, go_sem, adopt_fun, Int.reduceLT, Int.reduceLE, Int.reduceToNat, Int.reduceNeg, Nat.reduceLT, Nat.reduceLeDiff, Nat.reduceMul, Nat.reduceSub, reduceIte, Nat.reduceEqDiff, Nat.reduceAdd, reduceCtorEq]
      rintro vs15 U15 - vs16 U16 -
      have hneg : ¬ (((1 : Int) + a.length + b.length + c.length + x1.length + y1.length + z1.length) < 0) := by omega
      have hheld : Fun Try.prog n_laws_heldMachine [machA m0 o0 [seqI (1) a.length, seqI (1 + a.length) b.length, seqI (1 + a.length + b.length) c.length] [seqI (1 + a.length + b.length + c.length) x1.length, seqI (1 + a.length + b.length + c.length + x1.length) y1.length, seqI (1 + a.length + b.length + c.length + x1.length + y1.length) z1.length], iv 1] (iv (1 + a.length + b.length + c.length + x1.length + y1.length + z1.length)) := by
        have e1 : (1 : Int) + totX [seqI (1) a.length, seqI (1 + a.length) b.length, seqI (1 + a.length + b.length) c.length] = 1 + a.length + b.length + c.length := by simp only [totX, seqI_len]; omega
        have e2 : (1 : Int) + totX [seqI (1) a.length, seqI (1 + a.length) b.length, seqI (1 + a.length + b.length) c.length] + totX [seqI (1 + a.length + b.length + c.length) x1.length, seqI (1 + a.length + b.length + c.length + x1.length) y1.length, seqI (1 + a.length + b.length + c.length + x1.length + y1.length) z1.length] = 1 + a.length + b.length + c.length + x1.length + y1.length + z1.length := by simp only [totX, seqI_len]; omega
        have h := k_heldMachine m0 o0 [seqI (1) a.length, seqI (1 + a.length) b.length, seqI (1 + a.length + b.length) c.length] [seqI (1 + a.length + b.length + c.length) x1.length, seqI (1 + a.length + b.length + c.length + x1.length) y1.length, seqI (1 + a.length + b.length + c.length + x1.length + y1.length) z1.length] 1 (by simp only [totX, seqI_len]; omega) (by intro x hx; simp only [List.mem_cons, List.not_mem_nil, or_false] at hx; rcases hx with rfl | rfl | rfl <;> rw [seqI_len] <;> omega) (by intro x hx; simp only [List.mem_cons, List.not_mem_nil, or_false] at hx; rcases hx with rfl | rfl | rfl <;> rw [seqI_len] <;> omega) (by simp [okRows, seqI_len]) (by rw [e1]; simp [okRows, seqI_len])
        rw [e2] at h; exact h
      refine call_fun hheld (by simp only [rwn_cons, rwn_nil, coeL_ints_t, rowIs, boxIs, coe_argN, coe_argNs, coe_ro_o, coeL_nil, coeL_cons, coe_any, coe_val, coe_ro, coe_ro_nil, coe_ro_own, coe_st, coe_st_agg, coe_rp, coe_rp_ptr, coe_clo, coe_own0, coe_ptr0, coeL_intsK, coeL_rws, coeL_rwn, L_hit, L_miss, L_nil, Nat.reduceEqDiff, ne_eq, reduceCtorEq, not_false_eq_true, true_and, and_true, and_self, exists_eq_left, exists_eq_right, List.mem_cons, List.not_mem_nil, or_false, AObj.row.injEq, AObj.box.injEq, exists_eq_left', exists_and_left, exists_eq, Nat.zero_lt_one, Nat.lt_add_one, List.map_cons, List.map_nil, AObj.ver, Nat.reduceLT, not_true_eq_false]) trivial ?_
      simp only [B_laws_FnExactReduceMachine_20, B_laws_FnExactReduceMachine_21, B_laws_FnExactReduceMachine_22, B_laws_FnExactReduceMachine_23, B_laws_FnExactReduceMachine_24, bne_self_eq_false, decide_eq_false hneg, wpD_kp, wpD_regi, go_sem, adopt_fun, Int.reduceLT, Int.reduceLE, Int.reduceToNat, Int.reduceNeg, Nat.reduceLT, Nat.reduceLeDiff, Nat.reduceMul, Nat.reduceSub, reduceIte, Nat.reduceEqDiff, Nat.reduceAdd, reduceCtorEq]
      rintro vs17 U17 - vs18 U18 - vs19 U19 hN19
      refine call_rows2 (k_toMachine n o next out hb_next hc_next hb_out hc_out) qCO rfl rfl ?_
      intro v7 v8
      try simp only [List.map_cons, List.map_nil, List.cons_append, List.nil_append, wpD_kp, wpD_regi, go_sem, adopt_fun, Int.reduceLT, Int.reduceLE, Int.reduceToNat, Int.reduceNeg, Nat.reduceLT, Nat.reduceLeDiff, Nat.reduceMul, Nat.reduceSub, reduceIte, Nat.reduceEqDiff, Nat.reduceAdd, reduceCtorEq]
      refine call_machT (fun x y e => (hN19.inj _ _ _ _ e).2) KI qCS rfl rfl (fun _ vH wH pH qH hH hH2 hdH hyH => ?_) (fun h => by cases h)
      obtain ⟨Hp0, Hp1, Hp2, Hp3, Hp4, Hp5, rfl, rfl, He01, He02, He03, He04, He05, He12, He13, He14, He15, He23, He24, He25, He34, He35, He45⟩ := nmM3 hH hH2 hdH ha.1 hb.1 hc.1 hx1.1 hy1.1 hz1.1
      simp only [B_laws_FnExactReduceMachine_25, bne_self_eq_false, wpD_kp, wpD_regi, go_sem, adopt_fun, Int.reduceLT, Int.reduceLE, Int.reduceToNat, Int.reduceNeg, Nat.reduceLT, Nat.reduceLeDiff, Nat.reduceMul, Nat.reduceSub, reduceIte, Nat.reduceEqDiff, Nat.reduceAdd, reduceCtorEq]
      rintro vs20 U20 -
      refine call_fun (k_eqMachine m0 m0 o0 o0 [a, b, c] [x1, y1, z1] [a, b, c] [x1, y1, z1]) (by simp only [rwn_cons, rwn_nil, rwp_cons, rwp_nil, coeL_ints_t, rowIs, boxIs, coe_argN, coe_argNs, coe_ro_o, coeL_nil, coeL_cons, coe_any, coe_val, coe_ro, coe_ro_nil, coe_ro_own, coe_st, coe_st_agg, coe_rp, coe_rp_ptr, coe_clo, coe_own0, coe_ptr0, coeL_intsK, coeL_rws, coeL_rwn, L_hit, L_miss, L_nil, Nat.reduceEqDiff, ne_eq, reduceCtorEq, not_false_eq_true, true_and, and_true, and_self, exists_eq_left, exists_eq_right, List.mem_cons, List.not_mem_nil, or_false, AObj.row.injEq, AObj.box.injEq, exists_eq_left', exists_and_left, exists_eq, Nat.zero_lt_one, Nat.lt_add_one, List.map_cons, List.map_nil, AObj.ver, Nat.reduceLT, not_true_eq_false]) trivial ?_
      simp only [B_laws_FnExactReduceMachine_26, B_laws_FnExactReduceMachine_27, B_laws_FnExactReduceMachine_28, decide_true, Bool.and_self, bne_self_eq_false, wpD_kp, wpD_regi, go_sem, adopt_fun, Int.reduceLT, Int.reduceLE, Int.reduceToNat, Int.reduceNeg, Nat.reduceLT, Nat.reduceLeDiff, Nat.reduceMul, Nat.reduceSub, reduceIte, Nat.reduceEqDiff, Nat.reduceAdd, reduceCtorEq]
      rintro vs21 U21 - vs22 U22 -
      refine call_fun hheld (by simp only [rwn_cons, rwn_nil, coeL_ints_t, rowIs, boxIs, coe_argN, coe_argNs, coe_ro_o, coeL_nil, coeL_cons, coe_any, coe_val, coe_ro, coe_ro_nil, coe_ro_own, coe_st, coe_st_agg, coe_rp, coe_rp_ptr, coe_clo, coe_own0, coe_ptr0, coeL_intsK, coeL_rws, coeL_rwn, L_hit, L_miss, L_nil, Nat.reduceEqDiff, ne_eq, reduceCtorEq, not_false_eq_true, true_and, and_true, and_self, exists_eq_left, exists_eq_right, List.mem_cons, List.not_mem_nil, or_false, AObj.row.injEq, AObj.box.injEq, exists_eq_left', exists_and_left, exists_eq, Nat.zero_lt_one, Nat.lt_add_one, List.map_cons, List.map_nil, AObj.ver, Nat.reduceLT, not_true_eq_false]) trivial ?_
      simp only [B_laws_FnExactReduceMachine_29, B_laws_FnExactReduceMachine_30, B_laws_FnExactReduceMachine_31, B_laws_FnExactReduceMachine_32, B_laws_FnExactReduceMachine_33, bne_self_eq_false, decide_eq_false hneg, wpD_kp, wpD_regi, go_sem, adopt_fun, Int.reduceLT, Int.reduceLE, Int.reduceToNat, Int.reduceNeg, Nat.reduceLT, Nat.reduceLeDiff, Nat.reduceMul, Nat.reduceSub, reduceIte, Nat.reduceEqDiff, Nat.reduceAdd, reduceCtorEq]
      try simp

theorem k_FnExactReduceMachine (n o : Int) (next out : List (List Int)) : Fun Try.prog n_laws_FnExactReduceMachine [.st [iv n, iv o, .ro (some (some 0)) 1 (rwo next), .ro (some (some 0)) 1 (rwo out)]] (bv true) := by
  refine law_ReduceMachine n o next out (machB n o next out) ((clsP next out n.toNat).1 : Int) o (redN next out n.toNat) (redU next out n.toNat) _ (k_specReduceMachine n o next out) (k_implReduceMachine n o next out) (fun h => ?_) (fun h x hx => ?_)
  · have M := machB_iff.1 h
    have l1 := M.aut.l1
    have l2 := M.aut.l2
    have l3 := M.len
    rw [List.length_map, List.length_map]
    exact ⟨l1, l2, l3⟩
  · have M := machB_iff.1 h
    have R := red_mach M
    have n1 := R.aut.n1
    have n2 := R.aut.n2
    have hl : ((x.length : Int)) = (clsP next out n.toNat).1 := by
      rcases List.mem_append.1 hx with hx | hx
      · exact (R.aut.row _ hx).1
      · exact (R.row _ hx).1
    refine ⟨fun e => ?_, by omega⟩
    rw [e] at hl; simp at hl; omega
end Go.Ab
