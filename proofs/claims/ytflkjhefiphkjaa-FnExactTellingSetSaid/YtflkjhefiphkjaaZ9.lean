/- Contracts and what they lean on, part 9. Conditions: none. -/
import Derived.Test.YtflkjhefiphkjaaZ8
set_option maxRecDepth 100000
set_option maxHeartbeats 4000000
set_option linter.all false
open Nat (reduceLeDiff reduceMul reduceSub reduceEqDiff reduceAdd)
open Int (reduceToNat reduceNeg reduceLE)
namespace Go.Ab
open Go.Proofs
attribute [local go_sem] woT woO woL_cons woL_nil woV_val woV_own wo_ptr wo_o woL_ints woL_rwo wo_st woO_row woO_box woO_gone wo_any yz23 rwp_nil yzp yz8
theorem law_TellingSet_no (n o : Int) (next out : List (List Int)) (cc : Int) (KS : SetC2 Try.prog nz8 [.st [iv n, iv o, .ro none 1 (rwn next), .ro none 1 (rwn out)]] [] cc) (KI : SetR Try.prog nz4 [.st [iv n, iv o, .ro none 1 (rwn next), .ro none 1 (rwn out)]] false [] cc)
     :
    Fun Try.prog nza [.st [iv n, iv o, .ro (some (some 0)) 1 (rwo next), .ro (some (some 0)) 1 (rwo out)]] (bv true) := by
  refine fun_of mixed cz1b rfl ⟨rfl, trivial⟩ ?_
  simp only [Az16, Bz15, Bz14, go_sem, yz0, Int.reduceLT, reduceLE, reduceToNat, reduceNeg, Nat.reduceLT, reduceLeDiff, reduceMul, reduceSub, reduceIte, reduceEqDiff, reduceAdd, reduceCtorEq]
  rintro vs1 U1 - vs2 U2 - vs3 U3 -
  refine yzg (k_szMachine n o next out 1048576 (by omega)) (by simp only [yzt, rowIs, boxIs, yzd, yz7, yze, yz9, yz6, yzi, yzh, yz14, yz4, yz2, yz17, yz5, yz16, yz3, yzj, yzf, yzc, yz1, yzb, yza, L_hit, yz15, L_nil, reduceEqDiff, ne_eq, reduceCtorEq, not_false_eq_true, true_and, and_true, and_self, exists_eq_left, exists_eq_right, List.mem_cons, List.not_mem_nil, or_false, AObj.row.injEq, AObj.box.injEq, exists_eq_left', exists_and_left, exists_eq, Nat.zero_lt_one, Nat.lt_add_one, List.map_cons, List.map_nil, AObj.ver, Nat.reduceLT, not_true_eq_false]) trivial ?_
  by_cases hsz0 : (szC2 next out 1048576) < 0
  · simp only [Bz3, Bz2, decide_eq_true hsz0, go_sem, yz0, Int.reduceLT, reduceLE, reduceToNat, reduceNeg, Nat.reduceLT, reduceLeDiff, reduceMul, reduceSub, reduceIte, reduceEqDiff, reduceAdd, reduceCtorEq]
    try simp
  obtain ⟨⟨hqa, hqb, hqc⟩, htot_next, htot_out, hb_next, hb_out, hc_next, hc_out, hd_next, hd_out⟩ := szM_facts hsz0
  simp only [Bz3, Bz2, Bz13, decide_eq_false hsz0, go_sem, yz0, Int.reduceLT, reduceLE, reduceToNat, reduceNeg, Nat.reduceLT, reduceLeDiff, reduceMul, reduceSub, reduceIte, reduceEqDiff, reduceAdd, reduceCtorEq]
  rintro vs4 U4 - vs5 U5 hN5
  refine yz1u (yz1k n o next out hb_next hc_next hb_out hc_out) (by simp only [yzt, rowIs, boxIs, yzd, yz7, yze, yz9, yz6, yzi, yzh, yz14, yz4, yz2, yz17, yz5, yz16, yz3, yzj, yzf, yzc, yz1, yzb, yza, L_hit, yz15, L_nil, reduceEqDiff, ne_eq, reduceCtorEq, not_false_eq_true, true_and, and_true, and_self, exists_eq_left, exists_eq_right, List.mem_cons, List.not_mem_nil, or_false, AObj.row.injEq, AObj.box.injEq, exists_eq_left', exists_and_left, exists_eq, Nat.zero_lt_one, Nat.lt_add_one, List.map_cons, List.map_nil, AObj.ver, Nat.reduceLT, not_true_eq_false]) rfl rfl ?_
  intro v1 v2
  try simp only [List.map_cons, List.map_nil, List.cons_append, List.nil_append, go_sem, yz0, Int.reduceLT, reduceLE, reduceToNat, reduceNeg, Nat.reduceLT, reduceLeDiff, reduceMul, reduceSub, reduceIte, reduceEqDiff, reduceAdd, reduceCtorEq]
  refine call_setC2 (fun x y e => (hN5.inj _ _ _ _ e).2) KS qCS rfl (fun vS pS hS hdS hyS => ?_)
  obtain rfl := nam0 hS
  simp only [Bz12, yzp, yz8, wpD_gh, go_sem, yz0, Int.reduceLT, reduceLE, reduceToNat, reduceNeg, Nat.reduceLT, reduceLeDiff, reduceMul, reduceSub, reduceIte, reduceEqDiff, reduceAdd, reduceCtorEq]
  intro _
  refine ⟨[], ?_⟩
  simp only [gwp_nil, rwp_nil, go_sem, yz0, Int.reduceLT, reduceLE, reduceToNat, reduceNeg, Nat.reduceLT, reduceLeDiff, reduceMul, reduceSub, reduceIte, reduceEqDiff, reduceAdd, reduceCtorEq]
  rintro vs6 U6 hN6
  refine call_machN (fun x y e => (hN6.inj _ _ _ _ e).2) (k_toMachineN n o next out hb_next hc_next hb_out hc_out) (by simp only [yzt, rowIs, boxIs, yzd, yz7, yze, yz9, yz6, yzi, yzh, yz14, yz4, yz2, yz17, yz5, yz16, yz3, yzj, yzf, yzc, yz1, yzb, yza, L_hit, yz15, L_nil, reduceEqDiff, ne_eq, reduceCtorEq, not_false_eq_true, true_and, and_true, and_self, exists_eq_left, exists_eq_right, List.mem_cons, List.not_mem_nil, or_false, AObj.row.injEq, AObj.box.injEq, exists_eq_left', exists_and_left, exists_eq, Nat.zero_lt_one, Nat.lt_add_one, List.map_cons, List.map_nil, AObj.ver, Nat.reduceLT, not_true_eq_false]) rfl rfl ?_
  intro v3 v4 ps_next ps_out hps_next hps_out hdj
  clear hN6
  have htt_next : totL ps_next ≤ 1048576 := by have h := szLL_tot (ps := ps_next) (l := 1048576) (by rw [hps_next]; omega) (by omega); omega
  have htn_next := totL_nn ps_next
  have hdp_next : ∀ p ∈ ps_next, (p.2.length : Int) ≤ 1000000000 := fun p hp => hd_next p.2 (by rw [← hps_next]; exact List.mem_map_of_mem hp)
  have htt_out : totL ps_out ≤ 1048576 := by have h := szLL_tot (ps := ps_out) (l := (szLL next 1048576)) (by rw [hps_out]; omega) (by omega); omega
  have htn_out := totL_nn ps_out
  have hdp_out : ∀ p ∈ ps_out, (p.2.length : Int) ≤ 1000000000 := fun p hp => hd_out p.2 (by rw [← hps_out]; exact List.mem_map_of_mem hp)
  simp only [Bz11, go_sem, yz0, Int.reduceLT, reduceLE, reduceToNat, reduceNeg, Nat.reduceLT, reduceLeDiff, reduceMul, reduceSub, reduceIte, reduceEqDiff, reduceAdd, reduceCtorEq]
  rintro vs7 U7 hN7
  refine call_setR (fun x y e => (hN7.inj _ _ _ _ e).2) KI (by simp only [← hps_next, ← hps_out, coeL_rwp_t, rowIs, boxIs, yzd, yz7, yze, yz9, yz6, yzi, yzh, yz14, yz4, yz2, yz17, yz5, yz16, yz3, yzj, yzf, yzc, yz1, yzb, yza, L_hit, yz15, L_nil, reduceEqDiff, ne_eq, reduceCtorEq, not_false_eq_true, true_and, and_true, and_self, exists_eq_left, exists_eq_right, List.mem_cons, List.not_mem_nil, or_false, AObj.row.injEq, AObj.box.injEq, exists_eq_left', exists_and_left, exists_eq, Nat.zero_lt_one, Nat.lt_add_one, List.map_cons, List.map_nil, AObj.ver, Nat.reduceLT, not_true_eq_false]) rfl (fun h => by cases h) (fun _ => ?_)
  simp only [Bz10, bne_self_eq_false, yzp, yz8, wpD_gh, go_sem, yz0, Int.reduceLT, reduceLE, reduceToNat, reduceNeg, Nat.reduceLT, reduceLeDiff, reduceMul, reduceSub, reduceIte, reduceEqDiff, reduceAdd, reduceCtorEq]
  intro _
  refine ⟨[], ?_⟩
  simp only [gwp_nil, rwp_nil, go_sem, yz0, Int.reduceLT, reduceLE, reduceToNat, reduceNeg, Nat.reduceLT, reduceLeDiff, reduceMul, reduceSub, reduceIte, reduceEqDiff, reduceAdd, reduceCtorEq]
  rintro vs8 U8 -
  refine yzg (yz1j [] []) (by simp only [yz1t, yz1z, yz23, rwp_nil, yzn, rowIs, boxIs, yzd, yz7, yze, yz9, yz6, yzi, yzh, yz14, yz4, yz2, yz17, yz5, yz16, yz3, yzj, yzf, yzc, yz1, yzb, yza, L_hit, yz15, L_nil, reduceEqDiff, ne_eq, reduceCtorEq, not_false_eq_true, true_and, and_true, and_self, exists_eq_left, exists_eq_right, List.mem_cons, List.not_mem_nil, or_false, AObj.row.injEq, AObj.box.injEq, exists_eq_left', exists_and_left, exists_eq, Nat.zero_lt_one, Nat.lt_add_one, List.map_cons, List.map_nil, AObj.ver, Nat.reduceLT, not_true_eq_false]) trivial ?_
  simp only [Bzb, Bzz, decide_true, Bool.and_self, bne_self_eq_false, go_sem, yz0, Int.reduceLT, reduceLE, reduceToNat, reduceNeg, Nat.reduceLT, reduceLeDiff, reduceMul, reduceSub, reduceIte, reduceEqDiff, reduceAdd, reduceCtorEq]
  rintro vs9 U9 -
  refine yz1u (yz1k n o next out hb_next hc_next hb_out hc_out) (by simp only [yzt, rowIs, boxIs, yzd, yz7, yze, yz9, yz6, yzi, yzh, yz14, yz4, yz2, yz17, yz5, yz16, yz3, yzj, yzf, yzc, yz1, yzb, yza, L_hit, yz15, L_nil, reduceEqDiff, ne_eq, reduceCtorEq, not_false_eq_true, true_and, and_true, and_self, exists_eq_left, exists_eq_right, List.mem_cons, List.not_mem_nil, or_false, AObj.row.injEq, AObj.box.injEq, exists_eq_left', exists_and_left, exists_eq, Nat.zero_lt_one, Nat.lt_add_one, List.map_cons, List.map_nil, AObj.ver, Nat.reduceLT, not_true_eq_false]) rfl rfl ?_
  intro v5 v6
  try simp only [List.map_cons, List.map_nil, List.cons_append, List.nil_append, go_sem, yz0, Int.reduceLT, reduceLE, reduceToNat, reduceNeg, Nat.reduceLT, reduceLeDiff, reduceMul, reduceSub, reduceIte, reduceEqDiff, reduceAdd, reduceCtorEq]
  refine yzg (k_eqMachine n n o o next out next out) (by simp only [← hps_next, ← hps_out, coeL_rwp_t, rowIs, boxIs, yzd, yz7, yze, yz9, yz6, yzi, yzh, yz14, yz4, yz2, yz17, yz5, yz16, yz3, yzj, yzf, yzc, yz1, yzb, yza, L_hit, yz15, L_nil, reduceEqDiff, ne_eq, reduceCtorEq, not_false_eq_true, true_and, and_true, and_self, exists_eq_left, exists_eq_right, List.mem_cons, List.not_mem_nil, or_false, AObj.row.injEq, AObj.box.injEq, exists_eq_left', exists_and_left, exists_eq, Nat.zero_lt_one, Nat.lt_add_one, List.map_cons, List.map_nil, AObj.ver, Nat.reduceLT, not_true_eq_false]) trivial ?_
  simp only [Bzc, Bzy, Bzx, decide_true, Bool.and_self, bne_self_eq_false, go_sem, yz0, Int.reduceLT, reduceLE, reduceToNat, reduceNeg, Nat.reduceLT, reduceLeDiff, reduceMul, reduceSub, reduceIte, reduceEqDiff, reduceAdd, reduceCtorEq]
  rintro vs10 U10 - vs11 U11 -
  refine call_hav (k_markMachine n o ps_next ps_out hdj 1 (by omega) hdp_next hdp_out) ?_ ?_
  · simp only [coeHL_cons, coeHL_nil, coeH_val, coeH_st, and_true, true_and]
    refine ⟨?_, ?_⟩ <;> exact coeH_own (nn := true) qWS
  rintro x ⟨k1, rfl, hk1a, hk1b⟩
  have hkn1 : ¬ (k1 < 0) := by omega
  simp only [Bzw, cl_L, clT, clO, clV_any, clV_val, clV_own, clV_ptr, clV_st, clV_o, clL_ints, clL_rwo, clL_cons, clL_nil, clR_row, clR_box, clR_gone, decide_eq_false hkn1, go_sem, yz0, Int.reduceLT, reduceLE, reduceToNat, reduceNeg, Nat.reduceLT, reduceLeDiff, reduceMul, reduceSub, reduceIte, reduceEqDiff, reduceAdd, reduceCtorEq]
  rintro vs12 U12 -
  refine yzg (yz1j [] []) (by simp only [yz1t, yz1z, yz23, rwp_nil, yzn, rowIs, boxIs, yzd, yz7, yze, yz9, yz6, yzi, yzh, yz14, yz4, yz2, yz17, yz5, yz16, yz3, yzj, yzf, yzc, yz1, yzb, yza, L_hit, yz15, L_nil, reduceEqDiff, ne_eq, reduceCtorEq, not_false_eq_true, true_and, and_true, and_self, exists_eq_left, exists_eq_right, List.mem_cons, List.not_mem_nil, or_false, AObj.row.injEq, AObj.box.injEq, exists_eq_left', exists_and_left, exists_eq, Nat.zero_lt_one, Nat.lt_add_one, List.map_cons, List.map_nil, AObj.ver, Nat.reduceLT, not_true_eq_false]) trivial ?_
  simp only [Bzd, Bzv, Bzu, decide_true, Bool.and_self, bne_self_eq_false, go_sem, yz0, Int.reduceLT, reduceLE, reduceToNat, reduceNeg, Nat.reduceLT, reduceLeDiff, reduceMul, reduceSub, reduceIte, reduceEqDiff, reduceAdd, reduceCtorEq]
  rintro vs13 U13 - vs14 U14 -
  refine yzg (k_markSSNil 1) (by simp only [yz1z, rowIs, boxIs, yzd, yz7, yze, yz9, yz6, yzi, yzh, yz14, yz4, yz2, yz17, yz5, yz16, yz3, yzj, yzf, yzc, yz1, yzb, yza, L_hit, yz15, L_nil, reduceEqDiff, ne_eq, reduceCtorEq, not_false_eq_true, true_and, and_true, and_self, exists_eq_left, exists_eq_right, List.mem_cons, List.not_mem_nil, or_false, AObj.row.injEq, AObj.box.injEq, exists_eq_left', exists_and_left, exists_eq, Nat.zero_lt_one, Nat.lt_add_one, List.map_cons, List.map_nil, AObj.ver, Nat.reduceLT, not_true_eq_false]) trivial ?_
  simp only [Bzt, Bzs, go_sem, yz0, Int.reduceLT, reduceLE, reduceToNat, reduceNeg, Nat.reduceLT, reduceLeDiff, reduceMul, reduceSub, reduceIte, reduceEqDiff, reduceAdd, reduceCtorEq]
  rintro vs15 U15 - vs16 U16 -
  refine yzg k_heldSSNil (by simp only [yz1z, rowIs, boxIs, yzd, yz7, yze, yz9, yz6, yzi, yzh, yz14, yz4, yz2, yz17, yz5, yz16, yz3, yzj, yzf, yzc, yz1, yzb, yza, L_hit, yz15, L_nil, reduceEqDiff, ne_eq, reduceCtorEq, not_false_eq_true, true_and, and_true, and_self, exists_eq_left, exists_eq_right, List.mem_cons, List.not_mem_nil, or_false, AObj.row.injEq, AObj.box.injEq, exists_eq_left', exists_and_left, exists_eq, Nat.zero_lt_one, Nat.lt_add_one, List.map_cons, List.map_nil, AObj.ver, Nat.reduceLT, not_true_eq_false]) trivial ?_
  simp only [Bzr, Bze, Bzq, Bzf, Bzp, bne_self_eq_false, dec10, go_sem, yz0, Int.reduceLT, reduceLE, reduceToNat, reduceNeg, Nat.reduceLT, reduceLeDiff, reduceMul, reduceSub, reduceIte, reduceEqDiff, reduceAdd, reduceCtorEq]
  rintro vs17 U17 - vs18 U18 - vs19 U19 hN19
  refine yz1u (yz1k n o next out hb_next hc_next hb_out hc_out) (by simp only [yzt, rowIs, boxIs, yzd, yz7, yze, yz9, yz6, yzi, yzh, yz14, yz4, yz2, yz17, yz5, yz16, yz3, yzj, yzf, yzc, yz1, yzb, yza, L_hit, yz15, L_nil, reduceEqDiff, ne_eq, reduceCtorEq, not_false_eq_true, true_and, and_true, and_self, exists_eq_left, exists_eq_right, List.mem_cons, List.not_mem_nil, or_false, AObj.row.injEq, AObj.box.injEq, exists_eq_left', exists_and_left, exists_eq, Nat.zero_lt_one, Nat.lt_add_one, List.map_cons, List.map_nil, AObj.ver, Nat.reduceLT, not_true_eq_false]) rfl rfl ?_
  intro v7 v8
  try simp only [List.map_cons, List.map_nil, List.cons_append, List.nil_append, go_sem, yz0, Int.reduceLT, reduceLE, reduceToNat, reduceNeg, Nat.reduceLT, reduceLeDiff, reduceMul, reduceSub, reduceIte, reduceEqDiff, reduceAdd, reduceCtorEq]
  refine call_setR (fun x y e => (hN19.inj _ _ _ _ e).2) KI qCS rfl (fun h => by cases h) (fun _ => ?_)
  simp only [Bzo, bne_self_eq_false, go_sem, yz0, Int.reduceLT, reduceLE, reduceToNat, reduceNeg, Nat.reduceLT, reduceLeDiff, reduceMul, reduceSub, reduceIte, reduceEqDiff, reduceAdd, reduceCtorEq]
  rintro vs20 U20 -
  refine yzg (yz1j [] []) (by simp only [yz1t, yz1z, yz23, rwp_nil, yzn, rowIs, boxIs, yzd, yz7, yze, yz9, yz6, yzi, yzh, yz14, yz4, yz2, yz17, yz5, yz16, yz3, yzj, yzf, yzc, yz1, yzb, yza, L_hit, yz15, L_nil, reduceEqDiff, ne_eq, reduceCtorEq, not_false_eq_true, true_and, and_true, and_self, exists_eq_left, exists_eq_right, List.mem_cons, List.not_mem_nil, or_false, AObj.row.injEq, AObj.box.injEq, exists_eq_left', exists_and_left, exists_eq, Nat.zero_lt_one, Nat.lt_add_one, List.map_cons, List.map_nil, AObj.ver, Nat.reduceLT, not_true_eq_false]) trivial ?_
  simp only [Bzg, Bzn, Bzm, decide_true, Bool.and_self, bne_self_eq_false, go_sem, yz0, Int.reduceLT, reduceLE, reduceToNat, reduceNeg, Nat.reduceLT, reduceLeDiff, reduceMul, reduceSub, reduceIte, reduceEqDiff, reduceAdd, reduceCtorEq]
  rintro vs21 U21 - vs22 U22 -
  refine yzg k_heldSSNil (by simp only [yz1z, rowIs, boxIs, yzd, yz7, yze, yz9, yz6, yzi, yzh, yz14, yz4, yz2, yz17, yz5, yz16, yz3, yzj, yzf, yzc, yz1, yzb, yza, L_hit, yz15, L_nil, reduceEqDiff, ne_eq, reduceCtorEq, not_false_eq_true, true_and, and_true, and_self, exists_eq_left, exists_eq_right, List.mem_cons, List.not_mem_nil, or_false, AObj.row.injEq, AObj.box.injEq, exists_eq_left', exists_and_left, exists_eq, Nat.zero_lt_one, Nat.lt_add_one, List.map_cons, List.map_nil, AObj.ver, Nat.reduceLT, not_true_eq_false]) trivial ?_
  simp only [Bzl, Bzh, Bzk, Bzi, Bzj, bne_self_eq_false, dec10, go_sem, yz0, Int.reduceLT, reduceLE, reduceToNat, reduceNeg, Nat.reduceLT, reduceLeDiff, reduceMul, reduceSub, reduceIte, reduceEqDiff, reduceAdd, reduceCtorEq]
  try simp
theorem law_TellingSet_0 (n o : Int) (next out : List (List Int)) (cc : Int) (KS : SetC2 Try.prog nz8 [.st [iv n, iv o, .ro none 1 (rwn next), .ro none 1 (rwn out)]] [] cc) (KI : SetR Try.prog nz4 [.st [iv n, iv o, .ro none 1 (rwn next), .ro none 1 (rwn out)]] true [] cc)
     :
    Fun Try.prog nza [.st [iv n, iv o, .ro (some (some 0)) 1 (rwo next), .ro (some (some 0)) 1 (rwo out)]] (bv true) := by
  refine fun_of mixed cz1b rfl ⟨rfl, trivial⟩ ?_
  simp only [Az16, Bz15, Bz14, go_sem, yz0, Int.reduceLT, reduceLE, reduceToNat, reduceNeg, Nat.reduceLT, reduceLeDiff, reduceMul, reduceSub, reduceIte, reduceEqDiff, reduceAdd, reduceCtorEq]
  rintro vs1 U1 - vs2 U2 - vs3 U3 -
  refine yzg (k_szMachine n o next out 1048576 (by omega)) (by simp only [yzt, rowIs, boxIs, yzd, yz7, yze, yz9, yz6, yzi, yzh, yz14, yz4, yz2, yz17, yz5, yz16, yz3, yzj, yzf, yzc, yz1, yzb, yza, L_hit, yz15, L_nil, reduceEqDiff, ne_eq, reduceCtorEq, not_false_eq_true, true_and, and_true, and_self, exists_eq_left, exists_eq_right, List.mem_cons, List.not_mem_nil, or_false, AObj.row.injEq, AObj.box.injEq, exists_eq_left', exists_and_left, exists_eq, Nat.zero_lt_one, Nat.lt_add_one, List.map_cons, List.map_nil, AObj.ver, Nat.reduceLT, not_true_eq_false]) trivial ?_
  by_cases hsz0 : (szC2 next out 1048576) < 0
  · simp only [Bz3, Bz2, decide_eq_true hsz0, go_sem, yz0, Int.reduceLT, reduceLE, reduceToNat, reduceNeg, Nat.reduceLT, reduceLeDiff, reduceMul, reduceSub, reduceIte, reduceEqDiff, reduceAdd, reduceCtorEq]
    try simp
  obtain ⟨⟨hqa, hqb, hqc⟩, htot_next, htot_out, hb_next, hb_out, hc_next, hc_out, hd_next, hd_out⟩ := szM_facts hsz0
  simp only [Bz3, Bz2, Bz13, decide_eq_false hsz0, go_sem, yz0, Int.reduceLT, reduceLE, reduceToNat, reduceNeg, Nat.reduceLT, reduceLeDiff, reduceMul, reduceSub, reduceIte, reduceEqDiff, reduceAdd, reduceCtorEq]
  rintro vs4 U4 - vs5 U5 hN5
  refine yz1u (yz1k n o next out hb_next hc_next hb_out hc_out) (by simp only [yzt, rowIs, boxIs, yzd, yz7, yze, yz9, yz6, yzi, yzh, yz14, yz4, yz2, yz17, yz5, yz16, yz3, yzj, yzf, yzc, yz1, yzb, yza, L_hit, yz15, L_nil, reduceEqDiff, ne_eq, reduceCtorEq, not_false_eq_true, true_and, and_true, and_self, exists_eq_left, exists_eq_right, List.mem_cons, List.not_mem_nil, or_false, AObj.row.injEq, AObj.box.injEq, exists_eq_left', exists_and_left, exists_eq, Nat.zero_lt_one, Nat.lt_add_one, List.map_cons, List.map_nil, AObj.ver, Nat.reduceLT, not_true_eq_false]) rfl rfl ?_
  intro v1 v2
  try simp only [List.map_cons, List.map_nil, List.cons_append, List.nil_append, go_sem, yz0, Int.reduceLT, reduceLE, reduceToNat, reduceNeg, Nat.reduceLT, reduceLeDiff, reduceMul, reduceSub, reduceIte, reduceEqDiff, reduceAdd, reduceCtorEq]
  refine call_setC2 (fun x y e => (hN5.inj _ _ _ _ e).2) KS qCS rfl (fun vS pS hS hdS hyS => ?_)
  obtain rfl := nam0 hS
  simp only [Bz12, yzp, yz8, wpD_gh, go_sem, yz0, Int.reduceLT, reduceLE, reduceToNat, reduceNeg, Nat.reduceLT, reduceLeDiff, reduceMul, reduceSub, reduceIte, reduceEqDiff, reduceAdd, reduceCtorEq]
  intro _
  refine ⟨[], ?_⟩
  simp only [gwp_nil, rwp_nil, go_sem, yz0, Int.reduceLT, reduceLE, reduceToNat, reduceNeg, Nat.reduceLT, reduceLeDiff, reduceMul, reduceSub, reduceIte, reduceEqDiff, reduceAdd, reduceCtorEq]
  rintro vs6 U6 hN6
  refine call_machN (fun x y e => (hN6.inj _ _ _ _ e).2) (k_toMachineN n o next out hb_next hc_next hb_out hc_out) (by simp only [yzt, rowIs, boxIs, yzd, yz7, yze, yz9, yz6, yzi, yzh, yz14, yz4, yz2, yz17, yz5, yz16, yz3, yzj, yzf, yzc, yz1, yzb, yza, L_hit, yz15, L_nil, reduceEqDiff, ne_eq, reduceCtorEq, not_false_eq_true, true_and, and_true, and_self, exists_eq_left, exists_eq_right, List.mem_cons, List.not_mem_nil, or_false, AObj.row.injEq, AObj.box.injEq, exists_eq_left', exists_and_left, exists_eq, Nat.zero_lt_one, Nat.lt_add_one, List.map_cons, List.map_nil, AObj.ver, Nat.reduceLT, not_true_eq_false]) rfl rfl ?_
  intro v3 v4 ps_next ps_out hps_next hps_out hdj
  clear hN6
  have htt_next : totL ps_next ≤ 1048576 := by have h := szLL_tot (ps := ps_next) (l := 1048576) (by rw [hps_next]; omega) (by omega); omega
  have htn_next := totL_nn ps_next
  have hdp_next : ∀ p ∈ ps_next, (p.2.length : Int) ≤ 1000000000 := fun p hp => hd_next p.2 (by rw [← hps_next]; exact List.mem_map_of_mem hp)
  have htt_out : totL ps_out ≤ 1048576 := by have h := szLL_tot (ps := ps_out) (l := (szLL next 1048576)) (by rw [hps_out]; omega) (by omega); omega
  have htn_out := totL_nn ps_out
  have hdp_out : ∀ p ∈ ps_out, (p.2.length : Int) ≤ 1000000000 := fun p hp => hd_out p.2 (by rw [← hps_out]; exact List.mem_map_of_mem hp)
  simp only [Bz11, go_sem, yz0, Int.reduceLT, reduceLE, reduceToNat, reduceNeg, Nat.reduceLT, reduceLeDiff, reduceMul, reduceSub, reduceIte, reduceEqDiff, reduceAdd, reduceCtorEq]
  rintro vs7 U7 hN7
  refine call_setR (fun x y e => (hN7.inj _ _ _ _ e).2) KI (by simp only [← hps_next, ← hps_out, coeL_rwp_t, rowIs, boxIs, yzd, yz7, yze, yz9, yz6, yzi, yzh, yz14, yz4, yz2, yz17, yz5, yz16, yz3, yzj, yzf, yzc, yz1, yzb, yza, L_hit, yz15, L_nil, reduceEqDiff, ne_eq, reduceCtorEq, not_false_eq_true, true_and, and_true, and_self, exists_eq_left, exists_eq_right, List.mem_cons, List.not_mem_nil, or_false, AObj.row.injEq, AObj.box.injEq, exists_eq_left', exists_and_left, exists_eq, Nat.zero_lt_one, Nat.lt_add_one, List.map_cons, List.map_nil, AObj.ver, Nat.reduceLT, not_true_eq_false]) rfl (fun _ vG pG hG hdG hyG => ?_) (fun h => by cases h)
  obtain rfl := nam0 hG
  have hU_next := hN7.hp 26
  simp only [AObj.uses, go_sem, yz0, Int.reduceLT, reduceLE, reduceToNat, reduceNeg, Nat.reduceLT, reduceLeDiff, reduceMul, reduceSub, reduceIte, reduceEqDiff, reduceAdd, reduceCtorEq] at hU_next
  have hold_next := usesL_rwp (rest := []) (by rw [List.append_nil]; exact hU_next.2)
  have hU_out := hN7.hp 1026
  simp only [AObj.uses, go_sem, yz0, Int.reduceLT, reduceLE, reduceToNat, reduceNeg, Nat.reduceLT, reduceLeDiff, reduceMul, reduceSub, reduceIte, reduceEqDiff, reduceAdd, reduceCtorEq] at hU_out
  have hold_out := usesL_rwp (rest := []) (by rw [List.append_nil]; exact hU_out.2)
  simp only [Bz10, bne_self_eq_false, yzp, yz8, wpD_gh, go_sem, yz0, Int.reduceLT, reduceLE, reduceToNat, reduceNeg, Nat.reduceLT, reduceLeDiff, reduceMul, reduceSub, reduceIte, reduceEqDiff, reduceAdd, reduceCtorEq]
  intro _
  refine ⟨[], ?_⟩
  simp only [gwp_nil, rwp_nil, go_sem, yz0, Int.reduceLT, reduceLE, reduceToNat, reduceNeg, Nat.reduceLT, reduceLeDiff, reduceMul, reduceSub, reduceIte, reduceEqDiff, reduceAdd, reduceCtorEq]
  rintro vs8 U8 -
  refine yzg (yz1j [] []) (by simp only [yz1t, yz1z, yz23, rwp_nil, yzn, rowIs, boxIs, yzd, yz7, yze, yz9, yz6, yzi, yzh, yz14, yz4, yz2, yz17, yz5, yz16, yz3, yzj, yzf, yzc, yz1, yzb, yza, L_hit, yz15, L_nil, reduceEqDiff, ne_eq, reduceCtorEq, not_false_eq_true, true_and, and_true, and_self, exists_eq_left, exists_eq_right, List.mem_cons, List.not_mem_nil, or_false, AObj.row.injEq, AObj.box.injEq, exists_eq_left', exists_and_left, exists_eq, Nat.zero_lt_one, Nat.lt_add_one, List.map_cons, List.map_nil, AObj.ver, Nat.reduceLT, not_true_eq_false]) trivial ?_
  simp only [Bzb, Bzz, decide_true, Bool.and_self, bne_self_eq_false, go_sem, yz0, Int.reduceLT, reduceLE, reduceToNat, reduceNeg, Nat.reduceLT, reduceLeDiff, reduceMul, reduceSub, reduceIte, reduceEqDiff, reduceAdd, reduceCtorEq]
  rintro vs9 U9 -
  refine yz1u (yz1k n o next out hb_next hc_next hb_out hc_out) (by simp only [yzt, rowIs, boxIs, yzd, yz7, yze, yz9, yz6, yzi, yzh, yz14, yz4, yz2, yz17, yz5, yz16, yz3, yzj, yzf, yzc, yz1, yzb, yza, L_hit, yz15, L_nil, reduceEqDiff, ne_eq, reduceCtorEq, not_false_eq_true, true_and, and_true, and_self, exists_eq_left, exists_eq_right, List.mem_cons, List.not_mem_nil, or_false, AObj.row.injEq, AObj.box.injEq, exists_eq_left', exists_and_left, exists_eq, Nat.zero_lt_one, Nat.lt_add_one, List.map_cons, List.map_nil, AObj.ver, Nat.reduceLT, not_true_eq_false]) rfl rfl ?_
  intro v5 v6
  try simp only [List.map_cons, List.map_nil, List.cons_append, List.nil_append, go_sem, yz0, Int.reduceLT, reduceLE, reduceToNat, reduceNeg, Nat.reduceLT, reduceLeDiff, reduceMul, reduceSub, reduceIte, reduceEqDiff, reduceAdd, reduceCtorEq]
  refine yzg (k_eqMachine n n o o next out next out) (by simp only [← hps_next, ← hps_out, coeL_rwp_t, rowIs, boxIs, yzd, yz7, yze, yz9, yz6, yzi, yzh, yz14, yz4, yz2, yz17, yz5, yz16, yz3, yzj, yzf, yzc, yz1, yzb, yza, L_hit, yz15, L_nil, reduceEqDiff, ne_eq, reduceCtorEq, not_false_eq_true, true_and, and_true, and_self, exists_eq_left, exists_eq_right, List.mem_cons, List.not_mem_nil, or_false, AObj.row.injEq, AObj.box.injEq, exists_eq_left', exists_and_left, exists_eq, Nat.zero_lt_one, Nat.lt_add_one, List.map_cons, List.map_nil, AObj.ver, Nat.reduceLT, not_true_eq_false]) trivial ?_
  simp only [Bzc, Bzy, Bzx, decide_true, Bool.and_self, bne_self_eq_false, go_sem, yz0, Int.reduceLT, reduceLE, reduceToNat, reduceNeg, Nat.reduceLT, reduceLeDiff, reduceMul, reduceSub, reduceIte, reduceEqDiff, reduceAdd, reduceCtorEq]
  rintro vs10 U10 - vs11 U11 -
  refine call_hav (k_markMachine n o ps_next ps_out hdj 1 (by omega) hdp_next hdp_out) ?_ ?_
  · simp only [coeHL_cons, coeHL_nil, coeH_val, coeH_st, and_true, true_and]
    refine ⟨?_, ?_⟩ <;> exact coeH_own (nn := true) qWS
  rintro x ⟨k1, rfl, hk1a, hk1b⟩
  have hkn1 : ¬ (k1 < 0) := by omega
  simp only [Bzw, cl_L, clT, clO, clV_any, clV_val, clV_own, clV_ptr, clV_st, clV_o, clL_ints, clL_rwo, clL_cons, clL_nil, clR_row, clR_box, clR_gone, decide_eq_false hkn1, go_sem, yz0, Int.reduceLT, reduceLE, reduceToNat, reduceNeg, Nat.reduceLT, reduceLeDiff, reduceMul, reduceSub, reduceIte, reduceEqDiff, reduceAdd, reduceCtorEq]
  rintro vs12 U12 -
  refine yzg (yz1j [] []) (by simp only [yz1t, yz1z, yz23, rwp_nil, yzn, rowIs, boxIs, yzd, yz7, yze, yz9, yz6, yzi, yzh, yz14, yz4, yz2, yz17, yz5, yz16, yz3, yzj, yzf, yzc, yz1, yzb, yza, L_hit, yz15, L_nil, reduceEqDiff, ne_eq, reduceCtorEq, not_false_eq_true, true_and, and_true, and_self, exists_eq_left, exists_eq_right, List.mem_cons, List.not_mem_nil, or_false, AObj.row.injEq, AObj.box.injEq, exists_eq_left', exists_and_left, exists_eq, Nat.zero_lt_one, Nat.lt_add_one, List.map_cons, List.map_nil, AObj.ver, Nat.reduceLT, not_true_eq_false]) trivial ?_
  simp only [Bzd, Bzv, Bzu, decide_true, Bool.and_self, bne_self_eq_false, go_sem, yz0, Int.reduceLT, reduceLE, reduceToNat, reduceNeg, Nat.reduceLT, reduceLeDiff, reduceMul, reduceSub, reduceIte, reduceEqDiff, reduceAdd, reduceCtorEq]
  rintro vs13 U13 - vs14 U14 -
  refine yzg (k_markSSNil 1) (by simp only [yz1z, rowIs, boxIs, yzd, yz7, yze, yz9, yz6, yzi, yzh, yz14, yz4, yz2, yz17, yz5, yz16, yz3, yzj, yzf, yzc, yz1, yzb, yza, L_hit, yz15, L_nil, reduceEqDiff, ne_eq, reduceCtorEq, not_false_eq_true, true_and, and_true, and_self, exists_eq_left, exists_eq_right, List.mem_cons, List.not_mem_nil, or_false, AObj.row.injEq, AObj.box.injEq, exists_eq_left', exists_and_left, exists_eq, Nat.zero_lt_one, Nat.lt_add_one, List.map_cons, List.map_nil, AObj.ver, Nat.reduceLT, not_true_eq_false]) trivial ?_
  simp only [Bzt, Bzs, go_sem, yz0, Int.reduceLT, reduceLE, reduceToNat, reduceNeg, Nat.reduceLT, reduceLeDiff, reduceMul, reduceSub, reduceIte, reduceEqDiff, reduceAdd, reduceCtorEq]
  rintro vs15 U15 - vs16 U16 -
  refine yzg k_heldSSNil (by simp only [yz1z, rowIs, boxIs, yzd, yz7, yze, yz9, yz6, yzi, yzh, yz14, yz4, yz2, yz17, yz5, yz16, yz3, yzj, yzf, yzc, yz1, yzb, yza, L_hit, yz15, L_nil, reduceEqDiff, ne_eq, reduceCtorEq, not_false_eq_true, true_and, and_true, and_self, exists_eq_left, exists_eq_right, List.mem_cons, List.not_mem_nil, or_false, AObj.row.injEq, AObj.box.injEq, exists_eq_left', exists_and_left, exists_eq, Nat.zero_lt_one, Nat.lt_add_one, List.map_cons, List.map_nil, AObj.ver, Nat.reduceLT, not_true_eq_false]) trivial ?_
  simp only [Bzr, Bze, Bzq, Bzf, Bzp, bne_self_eq_false, dec10, go_sem, yz0, Int.reduceLT, reduceLE, reduceToNat, reduceNeg, Nat.reduceLT, reduceLeDiff, reduceMul, reduceSub, reduceIte, reduceEqDiff, reduceAdd, reduceCtorEq]
  rintro vs17 U17 - vs18 U18 - vs19 U19 hN19
  refine yz1u (yz1k n o next out hb_next hc_next hb_out hc_out) (by simp only [yzt, rowIs, boxIs, yzd, yz7, yze, yz9, yz6, yzi, yzh, yz14, yz4, yz2, yz17, yz5, yz16, yz3, yzj, yzf, yzc, yz1, yzb, yza, L_hit, yz15, L_nil, reduceEqDiff, ne_eq, reduceCtorEq, not_false_eq_true, true_and, and_true, and_self, exists_eq_left, exists_eq_right, List.mem_cons, List.not_mem_nil, or_false, AObj.row.injEq, AObj.box.injEq, exists_eq_left', exists_and_left, exists_eq, Nat.zero_lt_one, Nat.lt_add_one, List.map_cons, List.map_nil, AObj.ver, Nat.reduceLT, not_true_eq_false]) rfl rfl ?_
  intro v7 v8
  try simp only [List.map_cons, List.map_nil, List.cons_append, List.nil_append, go_sem, yz0, Int.reduceLT, reduceLE, reduceToNat, reduceNeg, Nat.reduceLT, reduceLeDiff, reduceMul, reduceSub, reduceIte, reduceEqDiff, reduceAdd, reduceCtorEq]
  refine call_setR (fun x y e => (hN19.inj _ _ _ _ e).2) KI qCS rfl (fun _ vH pH hH hdH hyH => ?_) (fun h => by cases h)
  obtain rfl := nam0 hH
  simp only [Bzo, bne_self_eq_false, go_sem, yz0, Int.reduceLT, reduceLE, reduceToNat, reduceNeg, Nat.reduceLT, reduceLeDiff, reduceMul, reduceSub, reduceIte, reduceEqDiff, reduceAdd, reduceCtorEq]
  rintro vs20 U20 -
  refine yzg (yz1j [] []) (by simp only [yz1t, yz1z, yz23, rwp_nil, yzn, rowIs, boxIs, yzd, yz7, yze, yz9, yz6, yzi, yzh, yz14, yz4, yz2, yz17, yz5, yz16, yz3, yzj, yzf, yzc, yz1, yzb, yza, L_hit, yz15, L_nil, reduceEqDiff, ne_eq, reduceCtorEq, not_false_eq_true, true_and, and_true, and_self, exists_eq_left, exists_eq_right, List.mem_cons, List.not_mem_nil, or_false, AObj.row.injEq, AObj.box.injEq, exists_eq_left', exists_and_left, exists_eq, Nat.zero_lt_one, Nat.lt_add_one, List.map_cons, List.map_nil, AObj.ver, Nat.reduceLT, not_true_eq_false]) trivial ?_
  simp only [Bzg, Bzn, Bzm, decide_true, Bool.and_self, bne_self_eq_false, go_sem, yz0, Int.reduceLT, reduceLE, reduceToNat, reduceNeg, Nat.reduceLT, reduceLeDiff, reduceMul, reduceSub, reduceIte, reduceEqDiff, reduceAdd, reduceCtorEq]
  rintro vs21 U21 - vs22 U22 -
  refine yzg k_heldSSNil (by simp only [yz1z, rowIs, boxIs, yzd, yz7, yze, yz9, yz6, yzi, yzh, yz14, yz4, yz2, yz17, yz5, yz16, yz3, yzj, yzf, yzc, yz1, yzb, yza, L_hit, yz15, L_nil, reduceEqDiff, ne_eq, reduceCtorEq, not_false_eq_true, true_and, and_true, and_self, exists_eq_left, exists_eq_right, List.mem_cons, List.not_mem_nil, or_false, AObj.row.injEq, AObj.box.injEq, exists_eq_left', exists_and_left, exists_eq, Nat.zero_lt_one, Nat.lt_add_one, List.map_cons, List.map_nil, AObj.ver, Nat.reduceLT, not_true_eq_false]) trivial ?_
  simp only [Bzl, Bzh, Bzk, Bzi, Bzj, bne_self_eq_false, dec10, go_sem, yz0, Int.reduceLT, reduceLE, reduceToNat, reduceNeg, Nat.reduceLT, reduceLeDiff, reduceMul, reduceSub, reduceIte, reduceEqDiff, reduceAdd, reduceCtorEq]
  try simp
end Go.Ab
namespace Go.Ab
open Go.Proofs
attribute [local go_sem] woT woO woL_cons woL_nil woV_val woV_own wo_ptr wo_o woL_ints woL_rwo wo_st woO_row woO_box woO_gone wo_any yz23 rwp_nil yzp yz8
theorem law_TellingSet_4 (n o : Int) (next out : List (List Int)) (y1 y2 y3 y4 : List Int) (cc : Int) (KS : SetC2 Try.prog nz8 [.st [iv n, iv o, .ro none 1 (rwn next), .ro none 1 (rwn out)]] [y1, y2, y3, y4] cc) (KI : SetR Try.prog nz4 [.st [iv n, iv o, .ro none 1 (rwn next), .ro none 1 (rwn out)]] true [y1, y2, y3, y4] cc)
    (hy1 : y1 ≠ [] ∧ (y1.length : Int) ≤ 1000) (hy2 : y2 ≠ [] ∧ (y2.length : Int) ≤ 1000) (hy3 : y3 ≠ [] ∧ (y3.length : Int) ≤ 1000) (hy4 : y4 ≠ [] ∧ (y4.length : Int) ≤ 1000) :
    Fun Try.prog nza [.st [iv n, iv o, .ro (some (some 0)) 1 (rwo next), .ro (some (some 0)) 1 (rwo out)]] (bv true) := by
  refine fun_of mixed cz1b rfl ⟨rfl, trivial⟩ ?_
  simp only [Az16, Bz15, Bz14, go_sem, yz0, Int.reduceLT, reduceLE, reduceToNat, reduceNeg, Nat.reduceLT, reduceLeDiff, reduceMul, reduceSub, reduceIte, reduceEqDiff, reduceAdd, reduceCtorEq]
  rintro vs1 U1 - vs2 U2 - vs3 U3 -
  refine yzg (k_szMachine n o next out 1048576 (by omega)) (by simp only [yzt, rowIs, boxIs, yzd, yz7, yze, yz9, yz6, yzi, yzh, yz14, yz4, yz2, yz17, yz5, yz16, yz3, yzj, yzf, yzc, yz1, yzb, yza, L_hit, yz15, L_nil, reduceEqDiff, ne_eq, reduceCtorEq, not_false_eq_true, true_and, and_true, and_self, exists_eq_left, exists_eq_right, List.mem_cons, List.not_mem_nil, or_false, AObj.row.injEq, AObj.box.injEq, exists_eq_left', exists_and_left, exists_eq, Nat.zero_lt_one, Nat.lt_add_one, List.map_cons, List.map_nil, AObj.ver, Nat.reduceLT, not_true_eq_false]) trivial ?_
  by_cases hsz0 : (szC2 next out 1048576) < 0
  · simp only [Bz3, Bz2, decide_eq_true hsz0, go_sem, yz0, Int.reduceLT, reduceLE, reduceToNat, reduceNeg, Nat.reduceLT, reduceLeDiff, reduceMul, reduceSub, reduceIte, reduceEqDiff, reduceAdd, reduceCtorEq]
    try simp
  obtain ⟨⟨hqa, hqb, hqc⟩, htot_next, htot_out, hb_next, hb_out, hc_next, hc_out, hd_next, hd_out⟩ := szM_facts hsz0
  simp only [Bz3, Bz2, Bz13, decide_eq_false hsz0, go_sem, yz0, Int.reduceLT, reduceLE, reduceToNat, reduceNeg, Nat.reduceLT, reduceLeDiff, reduceMul, reduceSub, reduceIte, reduceEqDiff, reduceAdd, reduceCtorEq]
  rintro vs4 U4 - vs5 U5 hN5
  refine yz1u (yz1k n o next out hb_next hc_next hb_out hc_out) (by simp only [yzt, rowIs, boxIs, yzd, yz7, yze, yz9, yz6, yzi, yzh, yz14, yz4, yz2, yz17, yz5, yz16, yz3, yzj, yzf, yzc, yz1, yzb, yza, L_hit, yz15, L_nil, reduceEqDiff, ne_eq, reduceCtorEq, not_false_eq_true, true_and, and_true, and_self, exists_eq_left, exists_eq_right, List.mem_cons, List.not_mem_nil, or_false, AObj.row.injEq, AObj.box.injEq, exists_eq_left', exists_and_left, exists_eq, Nat.zero_lt_one, Nat.lt_add_one, List.map_cons, List.map_nil, AObj.ver, Nat.reduceLT, not_true_eq_false]) rfl rfl ?_
  intro v1 v2
  try simp only [List.map_cons, List.map_nil, List.cons_append, List.nil_append, go_sem, yz0, Int.reduceLT, reduceLE, reduceToNat, reduceNeg, Nat.reduceLT, reduceLeDiff, reduceMul, reduceSub, reduceIte, reduceEqDiff, reduceAdd, reduceCtorEq]
  refine call_setC2 (fun x y e => (hN5.inj _ _ _ _ e).2) KS qCS rfl (fun vS pS hS hdS hyS => ?_)
  obtain ⟨Sp0, Sp1, Sp2, Sp3, rfl, Se01, Se02, Se03, Se12, Se13, Se23⟩ := namR4 hS hdS hy1.1 hy2.1 hy3.1 hy4.1
  simp only [Bz12, yzp, yz8, wpD_gh, go_sem, yz0, Int.reduceLT, reduceLE, reduceToNat, reduceNeg, Nat.reduceLT, reduceLeDiff, reduceMul, reduceSub, reduceIte, reduceEqDiff, reduceAdd, reduceCtorEq]
  intro _
  refine ⟨[.thaw 22 0 901, .thaw 22 1 902, .thaw 22 2 903, .thaw 22 3 904], ?_⟩
  refine yzo rfl rfl (yz1e hy1.1) rfl fun Sm0 => ?_
  simp only [wo_ne (Ne.symm Se01), wo_ne (Ne.symm Se02), wo_ne (Ne.symm Se03), go_sem, yz0, Int.reduceLT, reduceLE, reduceToNat, reduceNeg, Nat.reduceLT, reduceLeDiff, reduceMul, reduceSub, reduceIte, reduceEqDiff, reduceAdd, reduceCtorEq]
  refine yzo rfl rfl (yz1e hy2.1) rfl fun Sm1 => ?_
  simp only [wo_ne Se01, wo_ne (Ne.symm Se12), wo_ne (Ne.symm Se13), go_sem, yz0, Int.reduceLT, reduceLE, reduceToNat, reduceNeg, Nat.reduceLT, reduceLeDiff, reduceMul, reduceSub, reduceIte, reduceEqDiff, reduceAdd, reduceCtorEq]
  refine yzo rfl rfl (yz1e hy3.1) rfl fun Sm2 => ?_
  simp only [wo_ne Se02, wo_ne Se12, wo_ne (Ne.symm Se23), go_sem, yz0, Int.reduceLT, reduceLE, reduceToNat, reduceNeg, Nat.reduceLT, reduceLeDiff, reduceMul, reduceSub, reduceIte, reduceEqDiff, reduceAdd, reduceCtorEq]
  refine yzo rfl rfl (yz1e hy4.1) rfl fun Sm3 => ?_
  simp only [wo_ne Se03, wo_ne Se13, wo_ne Se23, go_sem, yz0, Int.reduceLT, reduceLE, reduceToNat, reduceNeg, Nat.reduceLT, reduceLeDiff, reduceMul, reduceSub, reduceIte, reduceEqDiff, reduceAdd, reduceCtorEq]
  simp only [gwp_nil, go_sem, yz0, Int.reduceLT, reduceLE, reduceToNat, reduceNeg, Nat.reduceLT, reduceLeDiff, reduceMul, reduceSub, reduceIte, reduceEqDiff, reduceAdd, reduceCtorEq]
  rintro vs6 U6 hN6
  refine call_machN (fun x y e => (hN6.inj _ _ _ _ e).2) (k_toMachineN n o next out hb_next hc_next hb_out hc_out) (by simp only [yzt, rowIs, boxIs, yzd, yz7, yze, yz9, yz6, yzi, yzh, yz14, yz4, yz2, yz17, yz5, yz16, yz3, yzj, yzf, yzc, yz1, yzb, yza, L_hit, yz15, L_nil, reduceEqDiff, ne_eq, reduceCtorEq, not_false_eq_true, true_and, and_true, and_self, exists_eq_left, exists_eq_right, List.mem_cons, List.not_mem_nil, or_false, AObj.row.injEq, AObj.box.injEq, exists_eq_left', exists_and_left, exists_eq, Nat.zero_lt_one, Nat.lt_add_one, List.map_cons, List.map_nil, AObj.ver, Nat.reduceLT, not_true_eq_false]) rfl rfl ?_
  intro v3 v4 ps_next ps_out hps_next hps_out hdj
  clear hN6
  have htt_next : totL ps_next ≤ 1048576 := by have h := szLL_tot (ps := ps_next) (l := 1048576) (by rw [hps_next]; omega) (by omega); omega
  have htn_next := totL_nn ps_next
  have hdp_next : ∀ p ∈ ps_next, (p.2.length : Int) ≤ 1000000000 := fun p hp => hd_next p.2 (by rw [← hps_next]; exact List.mem_map_of_mem hp)
  have htt_out : totL ps_out ≤ 1048576 := by have h := szLL_tot (ps := ps_out) (l := (szLL next 1048576)) (by rw [hps_out]; omega) (by omega); omega
  have htn_out := totL_nn ps_out
  have hdp_out : ∀ p ∈ ps_out, (p.2.length : Int) ≤ 1000000000 := fun p hp => hd_out p.2 (by rw [← hps_out]; exact List.mem_map_of_mem hp)
  simp only [Bz11, go_sem, yz0, Int.reduceLT, reduceLE, reduceToNat, reduceNeg, Nat.reduceLT, reduceLeDiff, reduceMul, reduceSub, reduceIte, reduceEqDiff, reduceAdd, reduceCtorEq]
  rintro vs7 U7 hN7
  refine call_setR (fun x y e => (hN7.inj _ _ _ _ e).2) KI (by simp only [← hps_next, ← hps_out, coeL_rwp_t, rowIs, boxIs, yzd, yz7, yze, yz9, yz6, yzi, yzh, yz14, yz4, yz2, yz17, yz5, yz16, yz3, yzj, yzf, yzc, yz1, yzb, yza, L_hit, yz15, L_nil, reduceEqDiff, ne_eq, reduceCtorEq, not_false_eq_true, true_and, and_true, and_self, exists_eq_left, exists_eq_right, List.mem_cons, List.not_mem_nil, or_false, AObj.row.injEq, AObj.box.injEq, exists_eq_left', exists_and_left, exists_eq, Nat.zero_lt_one, Nat.lt_add_one, List.map_cons, List.map_nil, AObj.ver, Nat.reduceLT, not_true_eq_false]) rfl (fun _ vG pG hG hdG hyG => ?_) (fun h => by cases h)
  obtain ⟨Gp0, Gp1, Gp2, Gp3, rfl, Ge01, Ge02, Ge03, Ge12, Ge13, Ge23⟩ := namR4 hG hdG hy1.1 hy2.1 hy3.1 hy4.1
  have hU_next := hN7.hp 26
  simp only [AObj.uses, go_sem, yz0, Int.reduceLT, reduceLE, reduceToNat, reduceNeg, Nat.reduceLT, reduceLeDiff, reduceMul, reduceSub, reduceIte, reduceEqDiff, reduceAdd, reduceCtorEq] at hU_next
  have hold_next := usesL_rwp (rest := []) (by rw [List.append_nil]; exact hU_next.2)
  have hf_next0 := yz1x hold_next hN7.new (hyG (Gp0, y1) (by simp))
  have hf_next1 := yz1x hold_next hN7.new (hyG (Gp1, y2) (by simp))
  have hf_next2 := yz1x hold_next hN7.new (hyG (Gp2, y3) (by simp))
  have hf_next3 := yz1x hold_next hN7.new (hyG (Gp3, y4) (by simp))
  have hU_out := hN7.hp 1026
  simp only [AObj.uses, go_sem, yz0, Int.reduceLT, reduceLE, reduceToNat, reduceNeg, Nat.reduceLT, reduceLeDiff, reduceMul, reduceSub, reduceIte, reduceEqDiff, reduceAdd, reduceCtorEq] at hU_out
  have hold_out := usesL_rwp (rest := []) (by rw [List.append_nil]; exact hU_out.2)
  have hf_out0 := yz1x hold_out hN7.new (hyG (Gp0, y1) (by simp))
  have hf_out1 := yz1x hold_out hN7.new (hyG (Gp1, y2) (by simp))
  have hf_out2 := yz1x hold_out hN7.new (hyG (Gp2, y3) (by simp))
  have hf_out3 := yz1x hold_out hN7.new (hyG (Gp3, y4) (by simp))
  simp only [Bz10, bne_self_eq_false, yzp, yz8, wpD_gh, go_sem, yz0, Int.reduceLT, reduceLE, reduceToNat, reduceNeg, Nat.reduceLT, reduceLeDiff, reduceMul, reduceSub, reduceIte, reduceEqDiff, reduceAdd, reduceCtorEq]
  intro _
  refine ⟨[.thaw 29 0 911, .thaw 29 1 912, .thaw 29 2 913, .thaw 29 3 914], ?_⟩
  refine yzo rfl rfl (yz1e hy1.1) rfl fun Gm0 => ?_
  simp only [wo_ne (Ne.symm Ge01), wo_ne (Ne.symm Ge02), wo_ne (Ne.symm Ge03), yz18 hf_next0, yz18 hf_out0, go_sem, yz0, Int.reduceLT, reduceLE, reduceToNat, reduceNeg, Nat.reduceLT, reduceLeDiff, reduceMul, reduceSub, reduceIte, reduceEqDiff, reduceAdd, reduceCtorEq]
  refine yzo rfl rfl (yz1e hy2.1) rfl fun Gm1 => ?_
  simp only [wo_ne Ge01, wo_ne (Ne.symm Ge12), wo_ne (Ne.symm Ge13), yz18 hf_next1, yz18 hf_out1, go_sem, yz0, Int.reduceLT, reduceLE, reduceToNat, reduceNeg, Nat.reduceLT, reduceLeDiff, reduceMul, reduceSub, reduceIte, reduceEqDiff, reduceAdd, reduceCtorEq]
  refine yzo rfl rfl (yz1e hy3.1) rfl fun Gm2 => ?_
  simp only [wo_ne Ge02, wo_ne Ge12, wo_ne (Ne.symm Ge23), yz18 hf_next2, yz18 hf_out2, go_sem, yz0, Int.reduceLT, reduceLE, reduceToNat, reduceNeg, Nat.reduceLT, reduceLeDiff, reduceMul, reduceSub, reduceIte, reduceEqDiff, reduceAdd, reduceCtorEq]
  refine yzo rfl rfl (yz1e hy4.1) rfl fun Gm3 => ?_
  simp only [wo_ne Ge03, wo_ne Ge13, wo_ne Ge23, yz18 hf_next3, yz18 hf_out3, go_sem, yz0, Int.reduceLT, reduceLE, reduceToNat, reduceNeg, Nat.reduceLT, reduceLeDiff, reduceMul, reduceSub, reduceIte, reduceEqDiff, reduceAdd, reduceCtorEq]
  simp only [gwp_nil, go_sem, yz0, Int.reduceLT, reduceLE, reduceToNat, reduceNeg, Nat.reduceLT, reduceLeDiff, reduceMul, reduceSub, reduceIte, reduceEqDiff, reduceAdd, reduceCtorEq]
  rintro vs8 U8 -
  refine yzg (yz1j [y1, y2, y3, y4] [y1, y2, y3, y4]) (by simp only [yz1t, yz1z, yz23, rwp_nil, yzn, rowIs, boxIs, yzd, yz7, yze, yz9, yz6, yzi, yzh, yz14, yz4, yz2, yz17, yz5, yz16, yz3, yzj, yzf, yzc, yz1, yzb, yza, L_hit, yz15, L_nil, reduceEqDiff, ne_eq, reduceCtorEq, not_false_eq_true, true_and, and_true, and_self, exists_eq_left, exists_eq_right, List.mem_cons, List.not_mem_nil, or_false, AObj.row.injEq, AObj.box.injEq, exists_eq_left', exists_and_left, exists_eq, Nat.zero_lt_one, Nat.lt_add_one, List.map_cons, List.map_nil, AObj.ver, Nat.reduceLT, not_true_eq_false]) trivial ?_
  simp only [Bzb, Bzz, decide_true, Bool.and_self, bne_self_eq_false, go_sem, yz0, Int.reduceLT, reduceLE, reduceToNat, reduceNeg, Nat.reduceLT, reduceLeDiff, reduceMul, reduceSub, reduceIte, reduceEqDiff, reduceAdd, reduceCtorEq]
  rintro vs9 U9 -
  refine yz1u (yz1k n o next out hb_next hc_next hb_out hc_out) (by simp only [yzt, rowIs, boxIs, yzd, yz7, yze, yz9, yz6, yzi, yzh, yz14, yz4, yz2, yz17, yz5, yz16, yz3, yzj, yzf, yzc, yz1, yzb, yza, L_hit, yz15, L_nil, reduceEqDiff, ne_eq, reduceCtorEq, not_false_eq_true, true_and, and_true, and_self, exists_eq_left, exists_eq_right, List.mem_cons, List.not_mem_nil, or_false, AObj.row.injEq, AObj.box.injEq, exists_eq_left', exists_and_left, exists_eq, Nat.zero_lt_one, Nat.lt_add_one, List.map_cons, List.map_nil, AObj.ver, Nat.reduceLT, not_true_eq_false]) rfl rfl ?_
  intro v5 v6
  try simp only [List.map_cons, List.map_nil, List.cons_append, List.nil_append, go_sem, yz0, Int.reduceLT, reduceLE, reduceToNat, reduceNeg, Nat.reduceLT, reduceLeDiff, reduceMul, reduceSub, reduceIte, reduceEqDiff, reduceAdd, reduceCtorEq]
  refine yzg (k_eqMachine n n o o next out next out) (by simp only [← hps_next, ← hps_out, coeL_rwp_t, rowIs, boxIs, yzd, yz7, yze, yz9, yz6, yzi, yzh, yz14, yz4, yz2, yz17, yz5, yz16, yz3, yzj, yzf, yzc, yz1, yzb, yza, L_hit, yz15, L_nil, reduceEqDiff, ne_eq, reduceCtorEq, not_false_eq_true, true_and, and_true, and_self, exists_eq_left, exists_eq_right, List.mem_cons, List.not_mem_nil, or_false, AObj.row.injEq, AObj.box.injEq, exists_eq_left', exists_and_left, exists_eq, Nat.zero_lt_one, Nat.lt_add_one, List.map_cons, List.map_nil, AObj.ver, Nat.reduceLT, not_true_eq_false]) trivial ?_
  simp only [Bzc, Bzy, Bzx, decide_true, Bool.and_self, bne_self_eq_false, go_sem, yz0, Int.reduceLT, reduceLE, reduceToNat, reduceNeg, Nat.reduceLT, reduceLeDiff, reduceMul, reduceSub, reduceIte, reduceEqDiff, reduceAdd, reduceCtorEq]
  rintro vs10 U10 - vs11 U11 -
  refine call_hav (k_markMachine n o ps_next ps_out hdj 1 (by omega) hdp_next hdp_out) ?_ ?_
  · simp only [coeHL_cons, coeHL_nil, coeH_val, coeH_st, and_true, true_and]
    refine ⟨?_, ?_⟩ <;> exact coeH_own (nn := true) qWS
  rintro x ⟨k1, rfl, hk1a, hk1b⟩
  have hkn1 : ¬ (k1 < 0) := by omega
  simp only [Bzw, cl_L, clT, clO, clV_any, clV_val, clV_own, clV_ptr, clV_st, clV_o, clL_ints, clL_rwo, clL_cons, clL_nil, clR_row, clR_box, clR_gone, decide_eq_false hkn1, go_sem, yz0, Int.reduceLT, reduceLE, reduceToNat, reduceNeg, Nat.reduceLT, reduceLeDiff, reduceMul, reduceSub, reduceIte, reduceEqDiff, reduceAdd, reduceCtorEq]
  rintro vs12 U12 -
  refine yzg (yz1j [y1, y2, y3, y4] [y1, y2, y3, y4]) (by simp only [yz1t, yz1z, yz23, rwp_nil, yzn, rowIs, boxIs, yzd, yz7, yze, yz9, yz6, yzi, yzh, yz14, yz4, yz2, yz17, yz5, yz16, yz3, yzj, yzf, yzc, yz1, yzb, yza, L_hit, yz15, L_nil, reduceEqDiff, ne_eq, reduceCtorEq, not_false_eq_true, true_and, and_true, and_self, exists_eq_left, exists_eq_right, List.mem_cons, List.not_mem_nil, or_false, AObj.row.injEq, AObj.box.injEq, exists_eq_left', exists_and_left, exists_eq, Nat.zero_lt_one, Nat.lt_add_one, List.map_cons, List.map_nil, AObj.ver, Nat.reduceLT, not_true_eq_false]) trivial ?_
  simp only [Bzd, Bzv, Bzu, decide_true, Bool.and_self, bne_self_eq_false, go_sem, yz0, Int.reduceLT, reduceLE, reduceToNat, reduceNeg, Nat.reduceLT, reduceLeDiff, reduceMul, reduceSub, reduceIte, reduceEqDiff, reduceAdd, reduceCtorEq]
  rintro vs13 U13 - vs14 U14 -
  refine call_mark4 (r := 29) (q1 := 911) (q2 := 912) (q3 := 913) (q4 := 914) (k_markSS4 y1 y2 y3 y4 1 (by omega) hy1.2 hy2.2 hy3.2 hy4.2) rfl rfl rfl rfl rfl (by decide) (by simp only [yz6, yz9, yzh, and_true, Coe]; exact ⟨0, _, _, rfl, rfl, rfl, rfl, rfl⟩) ?_
  simp only [Bzt, Bzs, go_sem, yz0, Int.reduceLT, reduceLE, reduceToNat, reduceNeg, Nat.reduceLT, reduceLeDiff, reduceMul, reduceSub, reduceIte, reduceEqDiff, reduceAdd, reduceCtorEq]
  rintro vs15 U15 - vs16 U16 -
  have hneg : ¬ (((1 : Int) + y1.length + y2.length + y3.length + y4.length) < 0) := by omega
  have hheld : Fun Try.prog nz9 [.ro none 1 (rwn [seqI (1) y1.length, seqI (1 + y1.length) y2.length, seqI (1 + y1.length + y2.length) y3.length, seqI (1 + y1.length + y2.length + y3.length) y4.length]), iv 1] (iv (1 + y1.length + y2.length + y3.length + y4.length)) := by
    have h := k_heldSS [seqI (1) y1.length, seqI (1 + y1.length) y2.length, seqI (1 + y1.length + y2.length) y3.length, seqI (1 + y1.length + y2.length + y3.length) y4.length] 1 (by simp only [totX, yz1y]; omega) (by intro x hx; simp only [List.mem_cons, List.not_mem_nil, or_false] at hx; rcases hx with rfl | rfl | rfl | rfl <;> rw [yz1y] <;> omega) (by simp [okRows, yz1y])
    have e : (1 : Int) + totX [seqI (1) y1.length, seqI (1 + y1.length) y2.length, seqI (1 + y1.length + y2.length) y3.length, seqI (1 + y1.length + y2.length + y3.length) y4.length] = 1 + y1.length + y2.length + y3.length + y4.length := by simp only [totX, yz1y]; omega
    rw [e] at h; exact h
  refine yzg hheld (by simp only [yz1t, yz1z, yzn, rowIs, boxIs, yzd, yz7, yze, yz9, yz6, yzi, yzh, yz14, yz4, yz2, yz17, yz5, yz16, yz3, yzj, yzf, yzc, yz1, yzb, yza, L_hit, yz15, L_nil, reduceEqDiff, ne_eq, reduceCtorEq, not_false_eq_true, true_and, and_true, and_self, exists_eq_left, exists_eq_right, List.mem_cons, List.not_mem_nil, or_false, AObj.row.injEq, AObj.box.injEq, exists_eq_left', exists_and_left, exists_eq, Nat.zero_lt_one, Nat.lt_add_one, List.map_cons, List.map_nil, AObj.ver, Nat.reduceLT, not_true_eq_false]) trivial ?_
  simp only [Bzr, Bze, Bzq, Bzf, Bzp, bne_self_eq_false, decide_eq_false hneg, go_sem, yz0, Int.reduceLT, reduceLE, reduceToNat, reduceNeg, Nat.reduceLT, reduceLeDiff, reduceMul, reduceSub, reduceIte, reduceEqDiff, reduceAdd, reduceCtorEq]
  rintro vs17 U17 - vs18 U18 - vs19 U19 hN19
  refine yz1u (yz1k n o next out hb_next hc_next hb_out hc_out) (by simp only [yzt, rowIs, boxIs, yzd, yz7, yze, yz9, yz6, yzi, yzh, yz14, yz4, yz2, yz17, yz5, yz16, yz3, yzj, yzf, yzc, yz1, yzb, yza, L_hit, yz15, L_nil, reduceEqDiff, ne_eq, reduceCtorEq, not_false_eq_true, true_and, and_true, and_self, exists_eq_left, exists_eq_right, List.mem_cons, List.not_mem_nil, or_false, AObj.row.injEq, AObj.box.injEq, exists_eq_left', exists_and_left, exists_eq, Nat.zero_lt_one, Nat.lt_add_one, List.map_cons, List.map_nil, AObj.ver, Nat.reduceLT, not_true_eq_false]) rfl rfl ?_
  intro v7 v8
  try simp only [List.map_cons, List.map_nil, List.cons_append, List.nil_append, go_sem, yz0, Int.reduceLT, reduceLE, reduceToNat, reduceNeg, Nat.reduceLT, reduceLeDiff, reduceMul, reduceSub, reduceIte, reduceEqDiff, reduceAdd, reduceCtorEq]
  refine call_setR (fun x y e => (hN19.inj _ _ _ _ e).2) KI qCS rfl (fun _ vH pH hH hdH hyH => ?_) (fun h => by cases h)
  obtain ⟨Hp0, Hp1, Hp2, Hp3, rfl, He01, He02, He03, He12, He13, He23⟩ := namR4 hH hdH hy1.1 hy2.1 hy3.1 hy4.1
  simp only [Bzo, bne_self_eq_false, go_sem, yz0, Int.reduceLT, reduceLE, reduceToNat, reduceNeg, Nat.reduceLT, reduceLeDiff, reduceMul, reduceSub, reduceIte, reduceEqDiff, reduceAdd, reduceCtorEq]
  rintro vs20 U20 -
  refine yzg (yz1j [y1, y2, y3, y4] [y1, y2, y3, y4]) (by simp only [yz1t, yz1z, yz23, rwp_nil, yzn, rowIs, boxIs, yzd, yz7, yze, yz9, yz6, yzi, yzh, yz14, yz4, yz2, yz17, yz5, yz16, yz3, yzj, yzf, yzc, yz1, yzb, yza, L_hit, yz15, L_nil, reduceEqDiff, ne_eq, reduceCtorEq, not_false_eq_true, true_and, and_true, and_self, exists_eq_left, exists_eq_right, List.mem_cons, List.not_mem_nil, or_false, AObj.row.injEq, AObj.box.injEq, exists_eq_left', exists_and_left, exists_eq, Nat.zero_lt_one, Nat.lt_add_one, List.map_cons, List.map_nil, AObj.ver, Nat.reduceLT, not_true_eq_false]) trivial ?_
  simp only [Bzg, Bzn, Bzm, decide_true, Bool.and_self, bne_self_eq_false, go_sem, yz0, Int.reduceLT, reduceLE, reduceToNat, reduceNeg, Nat.reduceLT, reduceLeDiff, reduceMul, reduceSub, reduceIte, reduceEqDiff, reduceAdd, reduceCtorEq]
  rintro vs21 U21 - vs22 U22 -
  refine yzg hheld (by simp only [yz1t, yz1z, yzn, rowIs, boxIs, yzd, yz7, yze, yz9, yz6, yzi, yzh, yz14, yz4, yz2, yz17, yz5, yz16, yz3, yzj, yzf, yzc, yz1, yzb, yza, L_hit, yz15, L_nil, reduceEqDiff, ne_eq, reduceCtorEq, not_false_eq_true, true_and, and_true, and_self, exists_eq_left, exists_eq_right, List.mem_cons, List.not_mem_nil, or_false, AObj.row.injEq, AObj.box.injEq, exists_eq_left', exists_and_left, exists_eq, Nat.zero_lt_one, Nat.lt_add_one, List.map_cons, List.map_nil, AObj.ver, Nat.reduceLT, not_true_eq_false]) trivial ?_
  simp only [Bzl, Bzh, Bzk, Bzi, Bzj, bne_self_eq_false, decide_eq_false hneg, go_sem, yz0, Int.reduceLT, reduceLE, reduceToNat, reduceNeg, Nat.reduceLT, reduceLeDiff, reduceMul, reduceSub, reduceIte, reduceEqDiff, reduceAdd, reduceCtorEq]
  try simp
theorem law_TellingSet_5 (n o : Int) (next out : List (List Int)) (y1 y2 y3 y4 y5 : List Int) (cc : Int) (KS : SetC2 Try.prog nz8 [.st [iv n, iv o, .ro none 1 (rwn next), .ro none 1 (rwn out)]] [y1, y2, y3, y4, y5] cc) (KI : SetR Try.prog nz4 [.st [iv n, iv o, .ro none 1 (rwn next), .ro none 1 (rwn out)]] true [y1, y2, y3, y4, y5] cc)
    (hy1 : y1 ≠ [] ∧ (y1.length : Int) ≤ 1000) (hy2 : y2 ≠ [] ∧ (y2.length : Int) ≤ 1000) (hy3 : y3 ≠ [] ∧ (y3.length : Int) ≤ 1000) (hy4 : y4 ≠ [] ∧ (y4.length : Int) ≤ 1000) (hy5 : y5 ≠ [] ∧ (y5.length : Int) ≤ 1000) :
    Fun Try.prog nza [.st [iv n, iv o, .ro (some (some 0)) 1 (rwo next), .ro (some (some 0)) 1 (rwo out)]] (bv true) := by
  refine fun_of mixed cz1b rfl ⟨rfl, trivial⟩ ?_
  simp only [Az16, Bz15, Bz14, go_sem, yz0, Int.reduceLT, reduceLE, reduceToNat, reduceNeg, Nat.reduceLT, reduceLeDiff, reduceMul, reduceSub, reduceIte, reduceEqDiff, reduceAdd, reduceCtorEq]
  rintro vs1 U1 - vs2 U2 - vs3 U3 -
  refine yzg (k_szMachine n o next out 1048576 (by omega)) (by simp only [yzt, rowIs, boxIs, yzd, yz7, yze, yz9, yz6, yzi, yzh, yz14, yz4, yz2, yz17, yz5, yz16, yz3, yzj, yzf, yzc, yz1, yzb, yza, L_hit, yz15, L_nil, reduceEqDiff, ne_eq, reduceCtorEq, not_false_eq_true, true_and, and_true, and_self, exists_eq_left, exists_eq_right, List.mem_cons, List.not_mem_nil, or_false, AObj.row.injEq, AObj.box.injEq, exists_eq_left', exists_and_left, exists_eq, Nat.zero_lt_one, Nat.lt_add_one, List.map_cons, List.map_nil, AObj.ver, Nat.reduceLT, not_true_eq_false]) trivial ?_
  by_cases hsz0 : (szC2 next out 1048576) < 0
  · simp only [Bz3, Bz2, decide_eq_true hsz0, go_sem, yz0, Int.reduceLT, reduceLE, reduceToNat, reduceNeg, Nat.reduceLT, reduceLeDiff, reduceMul, reduceSub, reduceIte, reduceEqDiff, reduceAdd, reduceCtorEq]
    try simp
  obtain ⟨⟨hqa, hqb, hqc⟩, htot_next, htot_out, hb_next, hb_out, hc_next, hc_out, hd_next, hd_out⟩ := szM_facts hsz0
  simp only [Bz3, Bz2, Bz13, decide_eq_false hsz0, go_sem, yz0, Int.reduceLT, reduceLE, reduceToNat, reduceNeg, Nat.reduceLT, reduceLeDiff, reduceMul, reduceSub, reduceIte, reduceEqDiff, reduceAdd, reduceCtorEq]
  rintro vs4 U4 - vs5 U5 hN5
  refine yz1u (yz1k n o next out hb_next hc_next hb_out hc_out) (by simp only [yzt, rowIs, boxIs, yzd, yz7, yze, yz9, yz6, yzi, yzh, yz14, yz4, yz2, yz17, yz5, yz16, yz3, yzj, yzf, yzc, yz1, yzb, yza, L_hit, yz15, L_nil, reduceEqDiff, ne_eq, reduceCtorEq, not_false_eq_true, true_and, and_true, and_self, exists_eq_left, exists_eq_right, List.mem_cons, List.not_mem_nil, or_false, AObj.row.injEq, AObj.box.injEq, exists_eq_left', exists_and_left, exists_eq, Nat.zero_lt_one, Nat.lt_add_one, List.map_cons, List.map_nil, AObj.ver, Nat.reduceLT, not_true_eq_false]) rfl rfl ?_
  intro v1 v2
  try simp only [List.map_cons, List.map_nil, List.cons_append, List.nil_append, go_sem, yz0, Int.reduceLT, reduceLE, reduceToNat, reduceNeg, Nat.reduceLT, reduceLeDiff, reduceMul, reduceSub, reduceIte, reduceEqDiff, reduceAdd, reduceCtorEq]
  refine call_setC2 (fun x y e => (hN5.inj _ _ _ _ e).2) KS qCS rfl (fun vS pS hS hdS hyS => ?_)
  obtain ⟨Sp0, Sp1, Sp2, Sp3, Sp4, rfl, Se01, Se02, Se03, Se04, Se12, Se13, Se14, Se23, Se24, Se34⟩ := namR5 hS hdS hy1.1 hy2.1 hy3.1 hy4.1 hy5.1
  simp only [Bz12, yzp, yz8, wpD_gh, go_sem, yz0, Int.reduceLT, reduceLE, reduceToNat, reduceNeg, Nat.reduceLT, reduceLeDiff, reduceMul, reduceSub, reduceIte, reduceEqDiff, reduceAdd, reduceCtorEq]
  intro _
  refine ⟨[.thaw 22 0 901, .thaw 22 1 902, .thaw 22 2 903, .thaw 22 3 904, .thaw 22 4 905], ?_⟩
  refine yzo rfl rfl (yz1e hy1.1) rfl fun Sm0 => ?_
  simp only [wo_ne (Ne.symm Se01), wo_ne (Ne.symm Se02), wo_ne (Ne.symm Se03), wo_ne (Ne.symm Se04), go_sem, yz0, Int.reduceLT, reduceLE, reduceToNat, reduceNeg, Nat.reduceLT, reduceLeDiff, reduceMul, reduceSub, reduceIte, reduceEqDiff, reduceAdd, reduceCtorEq]
  refine yzo rfl rfl (yz1e hy2.1) rfl fun Sm1 => ?_
  simp only [wo_ne Se01, wo_ne (Ne.symm Se12), wo_ne (Ne.symm Se13), wo_ne (Ne.symm Se14), go_sem, yz0, Int.reduceLT, reduceLE, reduceToNat, reduceNeg, Nat.reduceLT, reduceLeDiff, reduceMul, reduceSub, reduceIte, reduceEqDiff, reduceAdd, reduceCtorEq]
  refine yzo rfl rfl (yz1e hy3.1) rfl fun Sm2 => ?_
  simp only [wo_ne Se02, wo_ne Se12, wo_ne (Ne.symm Se23), wo_ne (Ne.symm Se24), go_sem, yz0, Int.reduceLT, reduceLE, reduceToNat, reduceNeg, Nat.reduceLT, reduceLeDiff, reduceMul, reduceSub, reduceIte, reduceEqDiff, reduceAdd, reduceCtorEq]
  refine yzo rfl rfl (yz1e hy4.1) rfl fun Sm3 => ?_
  simp only [wo_ne Se03, wo_ne Se13, wo_ne Se23, wo_ne (Ne.symm Se34), go_sem, yz0, Int.reduceLT, reduceLE, reduceToNat, reduceNeg, Nat.reduceLT, reduceLeDiff, reduceMul, reduceSub, reduceIte, reduceEqDiff, reduceAdd, reduceCtorEq]
  refine yzo rfl rfl (yz1e hy5.1) rfl fun Sm4 => ?_
  simp only [wo_ne Se04, wo_ne Se14, wo_ne Se24, wo_ne Se34, go_sem, yz0, Int.reduceLT, reduceLE, reduceToNat, reduceNeg, Nat.reduceLT, reduceLeDiff, reduceMul, reduceSub, reduceIte, reduceEqDiff, reduceAdd, reduceCtorEq]
  simp only [gwp_nil, go_sem, yz0, Int.reduceLT, reduceLE, reduceToNat, reduceNeg, Nat.reduceLT, reduceLeDiff, reduceMul, reduceSub, reduceIte, reduceEqDiff, reduceAdd, reduceCtorEq]
  rintro vs6 U6 hN6
  refine call_machN (fun x y e => (hN6.inj _ _ _ _ e).2) (k_toMachineN n o next out hb_next hc_next hb_out hc_out) (by simp only [yzt, rowIs, boxIs, yzd, yz7, yze, yz9, yz6, yzi, yzh, yz14, yz4, yz2, yz17, yz5, yz16, yz3, yzj, yzf, yzc, yz1, yzb, yza, L_hit, yz15, L_nil, reduceEqDiff, ne_eq, reduceCtorEq, not_false_eq_true, true_and, and_true, and_self, exists_eq_left, exists_eq_right, List.mem_cons, List.not_mem_nil, or_false, AObj.row.injEq, AObj.box.injEq, exists_eq_left', exists_and_left, exists_eq, Nat.zero_lt_one, Nat.lt_add_one, List.map_cons, List.map_nil, AObj.ver, Nat.reduceLT, not_true_eq_false]) rfl rfl ?_
  intro v3 v4 ps_next ps_out hps_next hps_out hdj
  clear hN6
  have htt_next : totL ps_next ≤ 1048576 := by have h := szLL_tot (ps := ps_next) (l := 1048576) (by rw [hps_next]; omega) (by omega); omega
  have htn_next := totL_nn ps_next
  have hdp_next : ∀ p ∈ ps_next, (p.2.length : Int) ≤ 1000000000 := fun p hp => hd_next p.2 (by rw [← hps_next]; exact List.mem_map_of_mem hp)
  have htt_out : totL ps_out ≤ 1048576 := by have h := szLL_tot (ps := ps_out) (l := (szLL next 1048576)) (by rw [hps_out]; omega) (by omega); omega
  have htn_out := totL_nn ps_out
  have hdp_out : ∀ p ∈ ps_out, (p.2.length : Int) ≤ 1000000000 := fun p hp => hd_out p.2 (by rw [← hps_out]; exact List.mem_map_of_mem hp)
  simp only [Bz11, go_sem, yz0, Int.reduceLT, reduceLE, reduceToNat, reduceNeg, Nat.reduceLT, reduceLeDiff, reduceMul, reduceSub, reduceIte, reduceEqDiff, reduceAdd, reduceCtorEq]
  rintro vs7 U7 hN7
  refine call_setR (fun x y e => (hN7.inj _ _ _ _ e).2) KI (by simp only [← hps_next, ← hps_out, coeL_rwp_t, rowIs, boxIs, yzd, yz7, yze, yz9, yz6, yzi, yzh, yz14, yz4, yz2, yz17, yz5, yz16, yz3, yzj, yzf, yzc, yz1, yzb, yza, L_hit, yz15, L_nil, reduceEqDiff, ne_eq, reduceCtorEq, not_false_eq_true, true_and, and_true, and_self, exists_eq_left, exists_eq_right, List.mem_cons, List.not_mem_nil, or_false, AObj.row.injEq, AObj.box.injEq, exists_eq_left', exists_and_left, exists_eq, Nat.zero_lt_one, Nat.lt_add_one, List.map_cons, List.map_nil, AObj.ver, Nat.reduceLT, not_true_eq_false]) rfl (fun _ vG pG hG hdG hyG => ?_) (fun h => by cases h)
  obtain ⟨Gp0, Gp1, Gp2, Gp3, Gp4, rfl, Ge01, Ge02, Ge03, Ge04, Ge12, Ge13, Ge14, Ge23, Ge24, Ge34⟩ := namR5 hG hdG hy1.1 hy2.1 hy3.1 hy4.1 hy5.1
  have hU_next := hN7.hp 26
  simp only [AObj.uses, go_sem, yz0, Int.reduceLT, reduceLE, reduceToNat, reduceNeg, Nat.reduceLT, reduceLeDiff, reduceMul, reduceSub, reduceIte, reduceEqDiff, reduceAdd, reduceCtorEq] at hU_next
  have hold_next := usesL_rwp (rest := []) (by rw [List.append_nil]; exact hU_next.2)
  have hf_next0 := yz1x hold_next hN7.new (hyG (Gp0, y1) (by simp))
  have hf_next1 := yz1x hold_next hN7.new (hyG (Gp1, y2) (by simp))
  have hf_next2 := yz1x hold_next hN7.new (hyG (Gp2, y3) (by simp))
  have hf_next3 := yz1x hold_next hN7.new (hyG (Gp3, y4) (by simp))
  have hf_next4 := yz1x hold_next hN7.new (hyG (Gp4, y5) (by simp))
  have hU_out := hN7.hp 1026
  simp only [AObj.uses, go_sem, yz0, Int.reduceLT, reduceLE, reduceToNat, reduceNeg, Nat.reduceLT, reduceLeDiff, reduceMul, reduceSub, reduceIte, reduceEqDiff, reduceAdd, reduceCtorEq] at hU_out
  have hold_out := usesL_rwp (rest := []) (by rw [List.append_nil]; exact hU_out.2)
  have hf_out0 := yz1x hold_out hN7.new (hyG (Gp0, y1) (by simp))
  have hf_out1 := yz1x hold_out hN7.new (hyG (Gp1, y2) (by simp))
  have hf_out2 := yz1x hold_out hN7.new (hyG (Gp2, y3) (by simp))
  have hf_out3 := yz1x hold_out hN7.new (hyG (Gp3, y4) (by simp))
  have hf_out4 := yz1x hold_out hN7.new (hyG (Gp4, y5) (by simp))
  simp only [Bz10, bne_self_eq_false, yzp, yz8, wpD_gh, go_sem, yz0, Int.reduceLT, reduceLE, reduceToNat, reduceNeg, Nat.reduceLT, reduceLeDiff, reduceMul, reduceSub, reduceIte, reduceEqDiff, reduceAdd, reduceCtorEq]
  intro _
  refine ⟨[.thaw 29 0 911, .thaw 29 1 912, .thaw 29 2 913, .thaw 29 3 914, .thaw 29 4 915], ?_⟩
  refine yzo rfl rfl (yz1e hy1.1) rfl fun Gm0 => ?_
  simp only [wo_ne (Ne.symm Ge01), wo_ne (Ne.symm Ge02), wo_ne (Ne.symm Ge03), wo_ne (Ne.symm Ge04), yz18 hf_next0, yz18 hf_out0, go_sem, yz0, Int.reduceLT, reduceLE, reduceToNat, reduceNeg, Nat.reduceLT, reduceLeDiff, reduceMul, reduceSub, reduceIte, reduceEqDiff, reduceAdd, reduceCtorEq]
  refine yzo rfl rfl (yz1e hy2.1) rfl fun Gm1 => ?_
  simp only [wo_ne Ge01, wo_ne (Ne.symm Ge12), wo_ne (Ne.symm Ge13), wo_ne (Ne.symm Ge14), yz18 hf_next1, yz18 hf_out1, go_sem, yz0, Int.reduceLT, reduceLE, reduceToNat, reduceNeg, Nat.reduceLT, reduceLeDiff, reduceMul, reduceSub, reduceIte, reduceEqDiff, reduceAdd, reduceCtorEq]
  refine yzo rfl rfl (yz1e hy3.1) rfl fun Gm2 => ?_
  simp only [wo_ne Ge02, wo_ne Ge12, wo_ne (Ne.symm Ge23), wo_ne (Ne.symm Ge24), yz18 hf_next2, yz18 hf_out2, go_sem, yz0, Int.reduceLT, reduceLE, reduceToNat, reduceNeg, Nat.reduceLT, reduceLeDiff, reduceMul, reduceSub, reduceIte, reduceEqDiff, reduceAdd, reduceCtorEq]
  refine yzo rfl rfl (yz1e hy4.1) rfl fun Gm3 => ?_
  simp only [wo_ne Ge03, wo_ne Ge13, wo_ne Ge23, wo_ne (Ne.symm Ge34), yz18 hf_next3, yz18 hf_out3, go_sem, yz0, Int.reduceLT, reduceLE, reduceToNat, reduceNeg, Nat.reduceLT, reduceLeDiff, reduceMul, reduceSub, reduceIte, reduceEqDiff, reduceAdd, reduceCtorEq]
  refine yzo rfl rfl (yz1e hy5.1) rfl fun Gm4 => ?_
  simp only [wo_ne Ge04, wo_ne Ge14, wo_ne Ge24, wo_ne Ge34, yz18 hf_next4, yz18 hf_out4, go_sem, yz0, Int.reduceLT, reduceLE, reduceToNat, reduceNeg, Nat.reduceLT, reduceLeDiff, reduceMul, reduceSub, reduceIte, reduceEqDiff, reduceAdd, reduceCtorEq]
  simp only [gwp_nil, go_sem, yz0, Int.reduceLT, reduceLE, reduceToNat, reduceNeg, Nat.reduceLT, reduceLeDiff, reduceMul, reduceSub, reduceIte, reduceEqDiff, reduceAdd, reduceCtorEq]
  rintro vs8 U8 -
  refine yzg (yz1j [y1, y2, y3, y4, y5] [y1, y2, y3, y4, y5]) (by simp only [yz1t, yz1z, yz23, rwp_nil, yzn, rowIs, boxIs, yzd, yz7, yze, yz9, yz6, yzi, yzh, yz14, yz4, yz2, yz17, yz5, yz16, yz3, yzj, yzf, yzc, yz1, yzb, yza, L_hit, yz15, L_nil, reduceEqDiff, ne_eq, reduceCtorEq, not_false_eq_true, true_and, and_true, and_self, exists_eq_left, exists_eq_right, List.mem_cons, List.not_mem_nil, or_false, AObj.row.injEq, AObj.box.injEq, exists_eq_left', exists_and_left, exists_eq, Nat.zero_lt_one, Nat.lt_add_one, List.map_cons, List.map_nil, AObj.ver, Nat.reduceLT, not_true_eq_false]) trivial ?_
  simp only [Bzb, Bzz, decide_true, Bool.and_self, bne_self_eq_false, go_sem, yz0, Int.reduceLT, reduceLE, reduceToNat, reduceNeg, Nat.reduceLT, reduceLeDiff, reduceMul, reduceSub, reduceIte, reduceEqDiff, reduceAdd, reduceCtorEq]
  rintro vs9 U9 -
  refine yz1u (yz1k n o next out hb_next hc_next hb_out hc_out) (by simp only [yzt, rowIs, boxIs, yzd, yz7, yze, yz9, yz6, yzi, yzh, yz14, yz4, yz2, yz17, yz5, yz16, yz3, yzj, yzf, yzc, yz1, yzb, yza, L_hit, yz15, L_nil, reduceEqDiff, ne_eq, reduceCtorEq, not_false_eq_true, true_and, and_true, and_self, exists_eq_left, exists_eq_right, List.mem_cons, List.not_mem_nil, or_false, AObj.row.injEq, AObj.box.injEq, exists_eq_left', exists_and_left, exists_eq, Nat.zero_lt_one, Nat.lt_add_one, List.map_cons, List.map_nil, AObj.ver, Nat.reduceLT, not_true_eq_false]) rfl rfl ?_
  intro v5 v6
  try simp only [List.map_cons, List.map_nil, List.cons_append, List.nil_append, go_sem, yz0, Int.reduceLT, reduceLE, reduceToNat, reduceNeg, Nat.reduceLT, reduceLeDiff, reduceMul, reduceSub, reduceIte, reduceEqDiff, reduceAdd, reduceCtorEq]
  refine yzg (k_eqMachine n n o o next out next out) (by simp only [← hps_next, ← hps_out, coeL_rwp_t, rowIs, boxIs, yzd, yz7, yze, yz9, yz6, yzi, yzh, yz14, yz4, yz2, yz17, yz5, yz16, yz3, yzj, yzf, yzc, yz1, yzb, yza, L_hit, yz15, L_nil, reduceEqDiff, ne_eq, reduceCtorEq, not_false_eq_true, true_and, and_true, and_self, exists_eq_left, exists_eq_right, List.mem_cons, List.not_mem_nil, or_false, AObj.row.injEq, AObj.box.injEq, exists_eq_left', exists_and_left, exists_eq, Nat.zero_lt_one, Nat.lt_add_one, List.map_cons, List.map_nil, AObj.ver, Nat.reduceLT, not_true_eq_false]) trivial ?_
  simp only [Bzc, Bzy, Bzx, decide_true, Bool.and_self, bne_self_eq_false, go_sem, yz0, Int.reduceLT, reduceLE, reduceToNat, reduceNeg, Nat.reduceLT, reduceLeDiff, reduceMul, reduceSub, reduceIte, reduceEqDiff, reduceAdd, reduceCtorEq]
  rintro vs10 U10 - vs11 U11 -
  refine call_hav (k_markMachine n o ps_next ps_out hdj 1 (by omega) hdp_next hdp_out) ?_ ?_
  · simp only [coeHL_cons, coeHL_nil, coeH_val, coeH_st, and_true, true_and]
    refine ⟨?_, ?_⟩ <;> exact coeH_own (nn := true) qWS
  rintro x ⟨k1, rfl, hk1a, hk1b⟩
  have hkn1 : ¬ (k1 < 0) := by omega
  simp only [Bzw, cl_L, clT, clO, clV_any, clV_val, clV_own, clV_ptr, clV_st, clV_o, clL_ints, clL_rwo, clL_cons, clL_nil, clR_row, clR_box, clR_gone, decide_eq_false hkn1, go_sem, yz0, Int.reduceLT, reduceLE, reduceToNat, reduceNeg, Nat.reduceLT, reduceLeDiff, reduceMul, reduceSub, reduceIte, reduceEqDiff, reduceAdd, reduceCtorEq]
  rintro vs12 U12 -
  refine yzg (yz1j [y1, y2, y3, y4, y5] [y1, y2, y3, y4, y5]) (by simp only [yz1t, yz1z, yz23, rwp_nil, yzn, rowIs, boxIs, yzd, yz7, yze, yz9, yz6, yzi, yzh, yz14, yz4, yz2, yz17, yz5, yz16, yz3, yzj, yzf, yzc, yz1, yzb, yza, L_hit, yz15, L_nil, reduceEqDiff, ne_eq, reduceCtorEq, not_false_eq_true, true_and, and_true, and_self, exists_eq_left, exists_eq_right, List.mem_cons, List.not_mem_nil, or_false, AObj.row.injEq, AObj.box.injEq, exists_eq_left', exists_and_left, exists_eq, Nat.zero_lt_one, Nat.lt_add_one, List.map_cons, List.map_nil, AObj.ver, Nat.reduceLT, not_true_eq_false]) trivial ?_
  simp only [Bzd, Bzv, Bzu, decide_true, Bool.and_self, bne_self_eq_false, go_sem, yz0, Int.reduceLT, reduceLE, reduceToNat, reduceNeg, Nat.reduceLT, reduceLeDiff, reduceMul, reduceSub, reduceIte, reduceEqDiff, reduceAdd, reduceCtorEq]
  rintro vs13 U13 - vs14 U14 -
  refine call_mark5 (r := 29) (q1 := 911) (q2 := 912) (q3 := 913) (q4 := 914) (q5 := 915) (k_markSS5 y1 y2 y3 y4 y5 1 (by omega) hy1.2 hy2.2 hy3.2 hy4.2 hy5.2) rfl rfl rfl rfl rfl rfl (by decide) (by simp only [yz6, yz9, yzh, and_true, Coe]; exact ⟨0, _, _, rfl, rfl, rfl, rfl, rfl⟩) ?_
  simp only [Bzt, Bzs, go_sem, yz0, Int.reduceLT, reduceLE, reduceToNat, reduceNeg, Nat.reduceLT, reduceLeDiff, reduceMul, reduceSub, reduceIte, reduceEqDiff, reduceAdd, reduceCtorEq]
  rintro vs15 U15 - vs16 U16 -
  have hneg : ¬ (((1 : Int) + y1.length + y2.length + y3.length + y4.length + y5.length) < 0) := by omega
  have hheld : Fun Try.prog nz9 [.ro none 1 (rwn [seqI (1) y1.length, seqI (1 + y1.length) y2.length, seqI (1 + y1.length + y2.length) y3.length, seqI (1 + y1.length + y2.length + y3.length) y4.length, seqI (1 + y1.length + y2.length + y3.length + y4.length) y5.length]), iv 1] (iv (1 + y1.length + y2.length + y3.length + y4.length + y5.length)) := by
    have h := k_heldSS [seqI (1) y1.length, seqI (1 + y1.length) y2.length, seqI (1 + y1.length + y2.length) y3.length, seqI (1 + y1.length + y2.length + y3.length) y4.length, seqI (1 + y1.length + y2.length + y3.length + y4.length) y5.length] 1 (by simp only [totX, yz1y]; omega) (by intro x hx; simp only [List.mem_cons, List.not_mem_nil, or_false] at hx; rcases hx with rfl | rfl | rfl | rfl | rfl <;> rw [yz1y] <;> omega) (by simp [okRows, yz1y])
    have e : (1 : Int) + totX [seqI (1) y1.length, seqI (1 + y1.length) y2.length, seqI (1 + y1.length + y2.length) y3.length, seqI (1 + y1.length + y2.length + y3.length) y4.length, seqI (1 + y1.length + y2.length + y3.length + y4.length) y5.length] = 1 + y1.length + y2.length + y3.length + y4.length + y5.length := by simp only [totX, yz1y]; omega
    rw [e] at h; exact h
  refine yzg hheld (by simp only [yz1t, yz1z, yzn, rowIs, boxIs, yzd, yz7, yze, yz9, yz6, yzi, yzh, yz14, yz4, yz2, yz17, yz5, yz16, yz3, yzj, yzf, yzc, yz1, yzb, yza, L_hit, yz15, L_nil, reduceEqDiff, ne_eq, reduceCtorEq, not_false_eq_true, true_and, and_true, and_self, exists_eq_left, exists_eq_right, List.mem_cons, List.not_mem_nil, or_false, AObj.row.injEq, AObj.box.injEq, exists_eq_left', exists_and_left, exists_eq, Nat.zero_lt_one, Nat.lt_add_one, List.map_cons, List.map_nil, AObj.ver, Nat.reduceLT, not_true_eq_false]) trivial ?_
  simp only [Bzr, Bze, Bzq, Bzf, Bzp, bne_self_eq_false, decide_eq_false hneg, go_sem, yz0, Int.reduceLT, reduceLE, reduceToNat, reduceNeg, Nat.reduceLT, reduceLeDiff, reduceMul, reduceSub, reduceIte, reduceEqDiff, reduceAdd, reduceCtorEq]
  rintro vs17 U17 - vs18 U18 - vs19 U19 hN19
  refine yz1u (yz1k n o next out hb_next hc_next hb_out hc_out) (by simp only [yzt, rowIs, boxIs, yzd, yz7, yze, yz9, yz6, yzi, yzh, yz14, yz4, yz2, yz17, yz5, yz16, yz3, yzj, yzf, yzc, yz1, yzb, yza, L_hit, yz15, L_nil, reduceEqDiff, ne_eq, reduceCtorEq, not_false_eq_true, true_and, and_true, and_self, exists_eq_left, exists_eq_right, List.mem_cons, List.not_mem_nil, or_false, AObj.row.injEq, AObj.box.injEq, exists_eq_left', exists_and_left, exists_eq, Nat.zero_lt_one, Nat.lt_add_one, List.map_cons, List.map_nil, AObj.ver, Nat.reduceLT, not_true_eq_false]) rfl rfl ?_
  intro v7 v8
  try simp only [List.map_cons, List.map_nil, List.cons_append, List.nil_append, go_sem, yz0, Int.reduceLT, reduceLE, reduceToNat, reduceNeg, Nat.reduceLT, reduceLeDiff, reduceMul, reduceSub, reduceIte, reduceEqDiff, reduceAdd, reduceCtorEq]
  refine call_setR (fun x y e => (hN19.inj _ _ _ _ e).2) KI qCS rfl (fun _ vH pH hH hdH hyH => ?_) (fun h => by cases h)
  obtain ⟨Hp0, Hp1, Hp2, Hp3, Hp4, rfl, He01, He02, He03, He04, He12, He13, He14, He23, He24, He34⟩ := namR5 hH hdH hy1.1 hy2.1 hy3.1 hy4.1 hy5.1
  simp only [Bzo, bne_self_eq_false, go_sem, yz0, Int.reduceLT, reduceLE, reduceToNat, reduceNeg, Nat.reduceLT, reduceLeDiff, reduceMul, reduceSub, reduceIte, reduceEqDiff, reduceAdd, reduceCtorEq]
  rintro vs20 U20 -
  refine yzg (yz1j [y1, y2, y3, y4, y5] [y1, y2, y3, y4, y5]) (by simp only [yz1t, yz1z, yz23, rwp_nil, yzn, rowIs, boxIs, yzd, yz7, yze, yz9, yz6, yzi, yzh, yz14, yz4, yz2, yz17, yz5, yz16, yz3, yzj, yzf, yzc, yz1, yzb, yza, L_hit, yz15, L_nil, reduceEqDiff, ne_eq, reduceCtorEq, not_false_eq_true, true_and, and_true, and_self, exists_eq_left, exists_eq_right, List.mem_cons, List.not_mem_nil, or_false, AObj.row.injEq, AObj.box.injEq, exists_eq_left', exists_and_left, exists_eq, Nat.zero_lt_one, Nat.lt_add_one, List.map_cons, List.map_nil, AObj.ver, Nat.reduceLT, not_true_eq_false]) trivial ?_
  simp only [Bzg, Bzn, Bzm, decide_true, Bool.and_self, bne_self_eq_false, go_sem, yz0, Int.reduceLT, reduceLE, reduceToNat, reduceNeg, Nat.reduceLT, reduceLeDiff, reduceMul, reduceSub, reduceIte, reduceEqDiff, reduceAdd, reduceCtorEq]
  rintro vs21 U21 - vs22 U22 -
  refine yzg hheld (by simp only [yz1t, yz1z, yzn, rowIs, boxIs, yzd, yz7, yze, yz9, yz6, yzi, yzh, yz14, yz4, yz2, yz17, yz5, yz16, yz3, yzj, yzf, yzc, yz1, yzb, yza, L_hit, yz15, L_nil, reduceEqDiff, ne_eq, reduceCtorEq, not_false_eq_true, true_and, and_true, and_self, exists_eq_left, exists_eq_right, List.mem_cons, List.not_mem_nil, or_false, AObj.row.injEq, AObj.box.injEq, exists_eq_left', exists_and_left, exists_eq, Nat.zero_lt_one, Nat.lt_add_one, List.map_cons, List.map_nil, AObj.ver, Nat.reduceLT, not_true_eq_false]) trivial ?_
  simp only [Bzl, Bzh, Bzk, Bzi, Bzj, bne_self_eq_false, decide_eq_false hneg, go_sem, yz0, Int.reduceLT, reduceLE, reduceToNat, reduceNeg, Nat.reduceLT, reduceLeDiff, reduceMul, reduceSub, reduceIte, reduceEqDiff, reduceAdd, reduceCtorEq]
  try simp
end Go.Ab
namespace Go.Ab
open Go.Proofs
attribute [local go_sem] woT woO woL_cons woL_nil woV_val woV_own wo_ptr wo_o woL_ints woL_rwo wo_st woO_row woO_box woO_gone wo_any yz23 rwp_nil yzp yz8
theorem law_TellingSet_6 (n o : Int) (next out : List (List Int)) (y1 y2 y3 y4 y5 y6 : List Int) (cc : Int) (KS : SetC2 Try.prog nz8 [.st [iv n, iv o, .ro none 1 (rwn next), .ro none 1 (rwn out)]] [y1, y2, y3, y4, y5, y6] cc) (KI : SetR Try.prog nz4 [.st [iv n, iv o, .ro none 1 (rwn next), .ro none 1 (rwn out)]] true [y1, y2, y3, y4, y5, y6] cc)
    (hy1 : y1 ≠ [] ∧ (y1.length : Int) ≤ 1000) (hy2 : y2 ≠ [] ∧ (y2.length : Int) ≤ 1000) (hy3 : y3 ≠ [] ∧ (y3.length : Int) ≤ 1000) (hy4 : y4 ≠ [] ∧ (y4.length : Int) ≤ 1000) (hy5 : y5 ≠ [] ∧ (y5.length : Int) ≤ 1000) (hy6 : y6 ≠ [] ∧ (y6.length : Int) ≤ 1000) :
    Fun Try.prog nza [.st [iv n, iv o, .ro (some (some 0)) 1 (rwo next), .ro (some (some 0)) 1 (rwo out)]] (bv true) := by
  refine fun_of mixed cz1b rfl ⟨rfl, trivial⟩ ?_
  simp only [Az16, Bz15, Bz14, go_sem, yz0, Int.reduceLT, reduceLE, reduceToNat, reduceNeg, Nat.reduceLT, reduceLeDiff, reduceMul, reduceSub, reduceIte, reduceEqDiff, reduceAdd, reduceCtorEq]
  rintro vs1 U1 - vs2 U2 - vs3 U3 -
  refine yzg (k_szMachine n o next out 1048576 (by omega)) (by simp only [yzt, rowIs, boxIs, yzd, yz7, yze, yz9, yz6, yzi, yzh, yz14, yz4, yz2, yz17, yz5, yz16, yz3, yzj, yzf, yzc, yz1, yzb, yza, L_hit, yz15, L_nil, reduceEqDiff, ne_eq, reduceCtorEq, not_false_eq_true, true_and, and_true, and_self, exists_eq_left, exists_eq_right, List.mem_cons, List.not_mem_nil, or_false, AObj.row.injEq, AObj.box.injEq, exists_eq_left', exists_and_left, exists_eq, Nat.zero_lt_one, Nat.lt_add_one, List.map_cons, List.map_nil, AObj.ver, Nat.reduceLT, not_true_eq_false]) trivial ?_
  by_cases hsz0 : (szC2 next out 1048576) < 0
  · simp only [Bz3, Bz2, decide_eq_true hsz0, go_sem, yz0, Int.reduceLT, reduceLE, reduceToNat, reduceNeg, Nat.reduceLT, reduceLeDiff, reduceMul, reduceSub, reduceIte, reduceEqDiff, reduceAdd, reduceCtorEq]
    try simp
  obtain ⟨⟨hqa, hqb, hqc⟩, htot_next, htot_out, hb_next, hb_out, hc_next, hc_out, hd_next, hd_out⟩ := szM_facts hsz0
  simp only [Bz3, Bz2, Bz13, decide_eq_false hsz0, go_sem, yz0, Int.reduceLT, reduceLE, reduceToNat, reduceNeg, Nat.reduceLT, reduceLeDiff, reduceMul, reduceSub, reduceIte, reduceEqDiff, reduceAdd, reduceCtorEq]
  rintro vs4 U4 - vs5 U5 hN5
  refine yz1u (yz1k n o next out hb_next hc_next hb_out hc_out) (by simp only [yzt, rowIs, boxIs, yzd, yz7, yze, yz9, yz6, yzi, yzh, yz14, yz4, yz2, yz17, yz5, yz16, yz3, yzj, yzf, yzc, yz1, yzb, yza, L_hit, yz15, L_nil, reduceEqDiff, ne_eq, reduceCtorEq, not_false_eq_true, true_and, and_true, and_self, exists_eq_left, exists_eq_right, List.mem_cons, List.not_mem_nil, or_false, AObj.row.injEq, AObj.box.injEq, exists_eq_left', exists_and_left, exists_eq, Nat.zero_lt_one, Nat.lt_add_one, List.map_cons, List.map_nil, AObj.ver, Nat.reduceLT, not_true_eq_false]) rfl rfl ?_
  intro v1 v2
  try simp only [List.map_cons, List.map_nil, List.cons_append, List.nil_append, go_sem, yz0, Int.reduceLT, reduceLE, reduceToNat, reduceNeg, Nat.reduceLT, reduceLeDiff, reduceMul, reduceSub, reduceIte, reduceEqDiff, reduceAdd, reduceCtorEq]
  refine call_setC2 (fun x y e => (hN5.inj _ _ _ _ e).2) KS qCS rfl (fun vS pS hS hdS hyS => ?_)
  obtain ⟨Sp0, Sp1, Sp2, Sp3, Sp4, Sp5, rfl, Se01, Se02, Se03, Se04, Se05, Se12, Se13, Se14, Se15, Se23, Se24, Se25, Se34, Se35, Se45⟩ := namR6 hS hdS hy1.1 hy2.1 hy3.1 hy4.1 hy5.1 hy6.1
  simp only [Bz12, yzp, yz8, wpD_gh, go_sem, yz0, Int.reduceLT, reduceLE, reduceToNat, reduceNeg, Nat.reduceLT, reduceLeDiff, reduceMul, reduceSub, reduceIte, reduceEqDiff, reduceAdd, reduceCtorEq]
  intro _
  refine ⟨[.thaw 22 0 901, .thaw 22 1 902, .thaw 22 2 903, .thaw 22 3 904, .thaw 22 4 905, .thaw 22 5 906], ?_⟩
  refine yzo rfl rfl (yz1e hy1.1) rfl fun Sm0 => ?_
  simp only [wo_ne (Ne.symm Se01), wo_ne (Ne.symm Se02), wo_ne (Ne.symm Se03), wo_ne (Ne.symm Se04), wo_ne (Ne.symm Se05), go_sem, yz0, Int.reduceLT, reduceLE, reduceToNat, reduceNeg, Nat.reduceLT, reduceLeDiff, reduceMul, reduceSub, reduceIte, reduceEqDiff, reduceAdd, reduceCtorEq]
  refine yzo rfl rfl (yz1e hy2.1) rfl fun Sm1 => ?_
  simp only [wo_ne Se01, wo_ne (Ne.symm Se12), wo_ne (Ne.symm Se13), wo_ne (Ne.symm Se14), wo_ne (Ne.symm Se15), go_sem, yz0, Int.reduceLT, reduceLE, reduceToNat, reduceNeg, Nat.reduceLT, reduceLeDiff, reduceMul, reduceSub, reduceIte, reduceEqDiff, reduceAdd, reduceCtorEq]
  refine yzo rfl rfl (yz1e hy3.1) rfl fun Sm2 => ?_
  simp only [wo_ne Se02, wo_ne Se12, wo_ne (Ne.symm Se23), wo_ne (Ne.symm Se24), wo_ne (Ne.symm Se25), go_sem, yz0, Int.reduceLT, reduceLE, reduceToNat, reduceNeg, Nat.reduceLT, reduceLeDiff, reduceMul, reduceSub, reduceIte, reduceEqDiff, reduceAdd, reduceCtorEq]
  refine yzo rfl rfl (yz1e hy4.1) rfl fun Sm3 => ?_
  simp only [wo_ne Se03, wo_ne Se13, wo_ne Se23, wo_ne (Ne.symm Se34), wo_ne (Ne.symm Se35), go_sem, yz0, Int.reduceLT, reduceLE, reduceToNat, reduceNeg, Nat.reduceLT, reduceLeDiff, reduceMul, reduceSub, reduceIte, reduceEqDiff, reduceAdd, reduceCtorEq]
  refine yzo rfl rfl (yz1e hy5.1) rfl fun Sm4 => ?_
  simp only [wo_ne Se04, wo_ne Se14, wo_ne Se24, wo_ne Se34, wo_ne (Ne.symm Se45), go_sem, yz0, Int.reduceLT, reduceLE, reduceToNat, reduceNeg, Nat.reduceLT, reduceLeDiff, reduceMul, reduceSub, reduceIte, reduceEqDiff, reduceAdd, reduceCtorEq]
  refine yzo rfl rfl (yz1e hy6.1) rfl fun Sm5 => ?_
  simp only [wo_ne Se05, wo_ne Se15, wo_ne Se25, wo_ne Se35, wo_ne Se45, go_sem, yz0, Int.reduceLT, reduceLE, reduceToNat, reduceNeg, Nat.reduceLT, reduceLeDiff, reduceMul, reduceSub, reduceIte, reduceEqDiff, reduceAdd, reduceCtorEq]
  simp only [gwp_nil, go_sem, yz0, Int.reduceLT, reduceLE, reduceToNat, reduceNeg, Nat.reduceLT, reduceLeDiff, reduceMul, reduceSub, reduceIte, reduceEqDiff, reduceAdd, reduceCtorEq]
  rintro vs6 U6 hN6
  refine call_machN (fun x y e => (hN6.inj _ _ _ _ e).2) (k_toMachineN n o next out hb_next hc_next hb_out hc_out) (by simp only [yzt, rowIs, boxIs, yzd, yz7, yze, yz9, yz6, yzi, yzh, yz14, yz4, yz2, yz17, yz5, yz16, yz3, yzj, yzf, yzc, yz1, yzb, yza, L_hit, yz15, L_nil, reduceEqDiff, ne_eq, reduceCtorEq, not_false_eq_true, true_and, and_true, and_self, exists_eq_left, exists_eq_right, List.mem_cons, List.not_mem_nil, or_false, AObj.row.injEq, AObj.box.injEq, exists_eq_left', exists_and_left, exists_eq, Nat.zero_lt_one, Nat.lt_add_one, List.map_cons, List.map_nil, AObj.ver, Nat.reduceLT, not_true_eq_false]) rfl rfl ?_
  intro v3 v4 ps_next ps_out hps_next hps_out hdj
  clear hN6
  have htt_next : totL ps_next ≤ 1048576 := by have h := szLL_tot (ps := ps_next) (l := 1048576) (by rw [hps_next]; omega) (by omega); omega
  have htn_next := totL_nn ps_next
  have hdp_next : ∀ p ∈ ps_next, (p.2.length : Int) ≤ 1000000000 := fun p hp => hd_next p.2 (by rw [← hps_next]; exact List.mem_map_of_mem hp)
  have htt_out : totL ps_out ≤ 1048576 := by have h := szLL_tot (ps := ps_out) (l := (szLL next 1048576)) (by rw [hps_out]; omega) (by omega); omega
  have htn_out := totL_nn ps_out
  have hdp_out : ∀ p ∈ ps_out, (p.2.length : Int) ≤ 1000000000 := fun p hp => hd_out p.2 (by rw [← hps_out]; exact List.mem_map_of_mem hp)
  simp only [Bz11, go_sem, yz0, Int.reduceLT, reduceLE, reduceToNat, reduceNeg, Nat.reduceLT, reduceLeDiff, reduceMul, reduceSub, reduceIte, reduceEqDiff, reduceAdd, reduceCtorEq]
  rintro vs7 U7 hN7
  refine call_setR (fun x y e => (hN7.inj _ _ _ _ e).2) KI (by simp only [← hps_next, ← hps_out, coeL_rwp_t, rowIs, boxIs, yzd, yz7, yze, yz9, yz6, yzi, yzh, yz14, yz4, yz2, yz17, yz5, yz16, yz3, yzj, yzf, yzc, yz1, yzb, yza, L_hit, yz15, L_nil, reduceEqDiff, ne_eq, reduceCtorEq, not_false_eq_true, true_and, and_true, and_self, exists_eq_left, exists_eq_right, List.mem_cons, List.not_mem_nil, or_false, AObj.row.injEq, AObj.box.injEq, exists_eq_left', exists_and_left, exists_eq, Nat.zero_lt_one, Nat.lt_add_one, List.map_cons, List.map_nil, AObj.ver, Nat.reduceLT, not_true_eq_false]) rfl (fun _ vG pG hG hdG hyG => ?_) (fun h => by cases h)
  obtain ⟨Gp0, Gp1, Gp2, Gp3, Gp4, Gp5, rfl, Ge01, Ge02, Ge03, Ge04, Ge05, Ge12, Ge13, Ge14, Ge15, Ge23, Ge24, Ge25, Ge34, Ge35, Ge45⟩ := namR6 hG hdG hy1.1 hy2.1 hy3.1 hy4.1 hy5.1 hy6.1
  have hU_next := hN7.hp 26
  simp only [AObj.uses, go_sem, yz0, Int.reduceLT, reduceLE, reduceToNat, reduceNeg, Nat.reduceLT, reduceLeDiff, reduceMul, reduceSub, reduceIte, reduceEqDiff, reduceAdd, reduceCtorEq] at hU_next
  have hold_next := usesL_rwp (rest := []) (by rw [List.append_nil]; exact hU_next.2)
  have hf_next0 := yz1x hold_next hN7.new (hyG (Gp0, y1) (by simp))
  have hf_next1 := yz1x hold_next hN7.new (hyG (Gp1, y2) (by simp))
  have hf_next2 := yz1x hold_next hN7.new (hyG (Gp2, y3) (by simp))
  have hf_next3 := yz1x hold_next hN7.new (hyG (Gp3, y4) (by simp))
  have hf_next4 := yz1x hold_next hN7.new (hyG (Gp4, y5) (by simp))
  have hf_next5 := yz1x hold_next hN7.new (hyG (Gp5, y6) (by simp))
  have hU_out := hN7.hp 1026
  simp only [AObj.uses, go_sem, yz0, Int.reduceLT, reduceLE, reduceToNat, reduceNeg, Nat.reduceLT, reduceLeDiff, reduceMul, reduceSub, reduceIte, reduceEqDiff, reduceAdd, reduceCtorEq] at hU_out
  have hold_out := usesL_rwp (rest := []) (by rw [List.append_nil]; exact hU_out.2)
  have hf_out0 := yz1x hold_out hN7.new (hyG (Gp0, y1) (by simp))
  have hf_out1 := yz1x hold_out hN7.new (hyG (Gp1, y2) (by simp))
  have hf_out2 := yz1x hold_out hN7.new (hyG (Gp2, y3) (by simp))
  have hf_out3 := yz1x hold_out hN7.new (hyG (Gp3, y4) (by simp))
  have hf_out4 := yz1x hold_out hN7.new (hyG (Gp4, y5) (by simp))
  have hf_out5 := yz1x hold_out hN7.new (hyG (Gp5, y6) (by simp))
  simp only [Bz10, bne_self_eq_false, yzp, yz8, wpD_gh, go_sem, yz0, Int.reduceLT, reduceLE, reduceToNat, reduceNeg, Nat.reduceLT, reduceLeDiff, reduceMul, reduceSub, reduceIte, reduceEqDiff, reduceAdd, reduceCtorEq]
  intro _
  refine ⟨[.thaw 29 0 911, .thaw 29 1 912, .thaw 29 2 913, .thaw 29 3 914, .thaw 29 4 915, .thaw 29 5 916], ?_⟩
  refine yzo rfl rfl (yz1e hy1.1) rfl fun Gm0 => ?_
  simp only [wo_ne (Ne.symm Ge01), wo_ne (Ne.symm Ge02), wo_ne (Ne.symm Ge03), wo_ne (Ne.symm Ge04), wo_ne (Ne.symm Ge05), yz18 hf_next0, yz18 hf_out0, go_sem, yz0, Int.reduceLT, reduceLE, reduceToNat, reduceNeg, Nat.reduceLT, reduceLeDiff, reduceMul, reduceSub, reduceIte, reduceEqDiff, reduceAdd, reduceCtorEq]
  refine yzo rfl rfl (yz1e hy2.1) rfl fun Gm1 => ?_
  simp only [wo_ne Ge01, wo_ne (Ne.symm Ge12), wo_ne (Ne.symm Ge13), wo_ne (Ne.symm Ge14), wo_ne (Ne.symm Ge15), yz18 hf_next1, yz18 hf_out1, go_sem, yz0, Int.reduceLT, reduceLE, reduceToNat, reduceNeg, Nat.reduceLT, reduceLeDiff, reduceMul, reduceSub, reduceIte, reduceEqDiff, reduceAdd, reduceCtorEq]
  refine yzo rfl rfl (yz1e hy3.1) rfl fun Gm2 => ?_
  simp only [wo_ne Ge02, wo_ne Ge12, wo_ne (Ne.symm Ge23), wo_ne (Ne.symm Ge24), wo_ne (Ne.symm Ge25), yz18 hf_next2, yz18 hf_out2, go_sem, yz0, Int.reduceLT, reduceLE, reduceToNat, reduceNeg, Nat.reduceLT, reduceLeDiff, reduceMul, reduceSub, reduceIte, reduceEqDiff, reduceAdd, reduceCtorEq]
  refine yzo rfl rfl (yz1e hy4.1) rfl fun Gm3 => ?_
  simp only [wo_ne Ge03, wo_ne Ge13, wo_ne Ge23, wo_ne (Ne.symm Ge34), wo_ne (Ne.symm Ge35), yz18 hf_next3, yz18 hf_out3, go_sem, yz0, Int.reduceLT, reduceLE, reduceToNat, reduceNeg, Nat.reduceLT, reduceLeDiff, reduceMul, reduceSub, reduceIte, reduceEqDiff, reduceAdd, reduceCtorEq]
  refine yzo rfl rfl (yz1e hy5.1) rfl fun Gm4 => ?_
  simp only [wo_ne Ge04, wo_ne Ge14, wo_ne Ge24, wo_ne Ge34, wo_ne (Ne.symm Ge45), yz18 hf_next4, yz18 hf_out4, go_sem, yz0, Int.reduceLT, reduceLE, reduceToNat, reduceNeg, Nat.reduceLT, reduceLeDiff, reduceMul, reduceSub, reduceIte, reduceEqDiff, reduceAdd, reduceCtorEq]
  refine yzo rfl rfl (yz1e hy6.1) rfl fun Gm5 => ?_
  simp only [wo_ne Ge05, wo_ne Ge15, wo_ne Ge25, wo_ne Ge35, wo_ne Ge45, yz18 hf_next5, yz18 hf_out5, go_sem, yz0, Int.reduceLT, reduceLE, reduceToNat, reduceNeg, Nat.reduceLT, reduceLeDiff, reduceMul, reduceSub, reduceIte, reduceEqDiff, reduceAdd, reduceCtorEq]
  simp only [gwp_nil, go_sem, yz0, Int.reduceLT, reduceLE, reduceToNat, reduceNeg, Nat.reduceLT, reduceLeDiff, reduceMul, reduceSub, reduceIte, reduceEqDiff, reduceAdd, reduceCtorEq]
  rintro vs8 U8 -
  refine yzg (yz1j [y1, y2, y3, y4, y5, y6] [y1, y2, y3, y4, y5, y6]) (by simp only [yz1t, yz1z, yz23, rwp_nil, yzn, rowIs, boxIs, yzd, yz7, yze, yz9, yz6, yzi, yzh, yz14, yz4, yz2, yz17, yz5, yz16, yz3, yzj, yzf, yzc, yz1, yzb, yza, L_hit, yz15, L_nil, reduceEqDiff, ne_eq, reduceCtorEq, not_false_eq_true, true_and, and_true, and_self, exists_eq_left, exists_eq_right, List.mem_cons, List.not_mem_nil, or_false, AObj.row.injEq, AObj.box.injEq, exists_eq_left', exists_and_left, exists_eq, Nat.zero_lt_one, Nat.lt_add_one, List.map_cons, List.map_nil, AObj.ver, Nat.reduceLT, not_true_eq_false]) trivial ?_
  simp only [Bzb, Bzz, decide_true, Bool.and_self, bne_self_eq_false, go_sem, yz0, Int.reduceLT, reduceLE, reduceToNat, reduceNeg, Nat.reduceLT, reduceLeDiff, reduceMul, reduceSub, reduceIte, reduceEqDiff, reduceAdd, reduceCtorEq]
  rintro vs9 U9 -
  refine yz1u (yz1k n o next out hb_next hc_next hb_out hc_out) (by simp only [yzt, rowIs, boxIs, yzd, yz7, yze, yz9, yz6, yzi, yzh, yz14, yz4, yz2, yz17, yz5, yz16, yz3, yzj, yzf, yzc, yz1, yzb, yza, L_hit, yz15, L_nil, reduceEqDiff, ne_eq, reduceCtorEq, not_false_eq_true, true_and, and_true, and_self, exists_eq_left, exists_eq_right, List.mem_cons, List.not_mem_nil, or_false, AObj.row.injEq, AObj.box.injEq, exists_eq_left', exists_and_left, exists_eq, Nat.zero_lt_one, Nat.lt_add_one, List.map_cons, List.map_nil, AObj.ver, Nat.reduceLT, not_true_eq_false]) rfl rfl ?_
  intro v5 v6
  try simp only [List.map_cons, List.map_nil, List.cons_append, List.nil_append, go_sem, yz0, Int.reduceLT, reduceLE, reduceToNat, reduceNeg, Nat.reduceLT, reduceLeDiff, reduceMul, reduceSub, reduceIte, reduceEqDiff, reduceAdd, reduceCtorEq]
  refine yzg (k_eqMachine n n o o next out next out) (by simp only [← hps_next, ← hps_out, coeL_rwp_t, rowIs, boxIs, yzd, yz7, yze, yz9, yz6, yzi, yzh, yz14, yz4, yz2, yz17, yz5, yz16, yz3, yzj, yzf, yzc, yz1, yzb, yza, L_hit, yz15, L_nil, reduceEqDiff, ne_eq, reduceCtorEq, not_false_eq_true, true_and, and_true, and_self, exists_eq_left, exists_eq_right, List.mem_cons, List.not_mem_nil, or_false, AObj.row.injEq, AObj.box.injEq, exists_eq_left', exists_and_left, exists_eq, Nat.zero_lt_one, Nat.lt_add_one, List.map_cons, List.map_nil, AObj.ver, Nat.reduceLT, not_true_eq_false]) trivial ?_
  simp only [Bzc, Bzy, Bzx, decide_true, Bool.and_self, bne_self_eq_false, go_sem, yz0, Int.reduceLT, reduceLE, reduceToNat, reduceNeg, Nat.reduceLT, reduceLeDiff, reduceMul, reduceSub, reduceIte, reduceEqDiff, reduceAdd, reduceCtorEq]
  rintro vs10 U10 - vs11 U11 -
  refine call_hav (k_markMachine n o ps_next ps_out hdj 1 (by omega) hdp_next hdp_out) ?_ ?_
  · simp only [coeHL_cons, coeHL_nil, coeH_val, coeH_st, and_true, true_and]
    refine ⟨?_, ?_⟩ <;> exact coeH_own (nn := true) qWS
  rintro x ⟨k1, rfl, hk1a, hk1b⟩
  have hkn1 : ¬ (k1 < 0) := by omega
  simp only [Bzw, cl_L, clT, clO, clV_any, clV_val, clV_own, clV_ptr, clV_st, clV_o, clL_ints, clL_rwo, clL_cons, clL_nil, clR_row, clR_box, clR_gone, decide_eq_false hkn1, go_sem, yz0, Int.reduceLT, reduceLE, reduceToNat, reduceNeg, Nat.reduceLT, reduceLeDiff, reduceMul, reduceSub, reduceIte, reduceEqDiff, reduceAdd, reduceCtorEq]
  rintro vs12 U12 -
  refine yzg (yz1j [y1, y2, y3, y4, y5, y6] [y1, y2, y3, y4, y5, y6]) (by simp only [yz1t, yz1z, yz23, rwp_nil, yzn, rowIs, boxIs, yzd, yz7, yze, yz9, yz6, yzi, yzh, yz14, yz4, yz2, yz17, yz5, yz16, yz3, yzj, yzf, yzc, yz1, yzb, yza, L_hit, yz15, L_nil, reduceEqDiff, ne_eq, reduceCtorEq, not_false_eq_true, true_and, and_true, and_self, exists_eq_left, exists_eq_right, List.mem_cons, List.not_mem_nil, or_false, AObj.row.injEq, AObj.box.injEq, exists_eq_left', exists_and_left, exists_eq, Nat.zero_lt_one, Nat.lt_add_one, List.map_cons, List.map_nil, AObj.ver, Nat.reduceLT, not_true_eq_false]) trivial ?_
  simp only [Bzd, Bzv, Bzu, decide_true, Bool.and_self, bne_self_eq_false, go_sem, yz0, Int.reduceLT, reduceLE, reduceToNat, reduceNeg, Nat.reduceLT, reduceLeDiff, reduceMul, reduceSub, reduceIte, reduceEqDiff, reduceAdd, reduceCtorEq]
  rintro vs13 U13 - vs14 U14 -
  refine call_mark6 (r := 29) (q1 := 911) (q2 := 912) (q3 := 913) (q4 := 914) (q5 := 915) (q6 := 916) (k_markSS6 y1 y2 y3 y4 y5 y6 1 (by omega) hy1.2 hy2.2 hy3.2 hy4.2 hy5.2 hy6.2) rfl rfl rfl rfl rfl rfl rfl (by decide) (by simp only [yz6, yz9, yzh, and_true, Coe]; exact ⟨0, _, _, rfl, rfl, rfl, rfl, rfl⟩) ?_
  simp only [Bzt, Bzs, go_sem, yz0, Int.reduceLT, reduceLE, reduceToNat, reduceNeg, Nat.reduceLT, reduceLeDiff, reduceMul, reduceSub, reduceIte, reduceEqDiff, reduceAdd, reduceCtorEq]
  rintro vs15 U15 - vs16 U16 -
  have hneg : ¬ (((1 : Int) + y1.length + y2.length + y3.length + y4.length + y5.length + y6.length) < 0) := by omega
  have hheld : Fun Try.prog nz9 [.ro none 1 (rwn [seqI (1) y1.length, seqI (1 + y1.length) y2.length, seqI (1 + y1.length + y2.length) y3.length, seqI (1 + y1.length + y2.length + y3.length) y4.length, seqI (1 + y1.length + y2.length + y3.length + y4.length) y5.length, seqI (1 + y1.length + y2.length + y3.length + y4.length + y5.length) y6.length]), iv 1] (iv (1 + y1.length + y2.length + y3.length + y4.length + y5.length + y6.length)) := by
    have h := k_heldSS [seqI (1) y1.length, seqI (1 + y1.length) y2.length, seqI (1 + y1.length + y2.length) y3.length, seqI (1 + y1.length + y2.length + y3.length) y4.length, seqI (1 + y1.length + y2.length + y3.length + y4.length) y5.length, seqI (1 + y1.length + y2.length + y3.length + y4.length + y5.length) y6.length] 1 (by simp only [totX, yz1y]; omega) (by intro x hx; simp only [List.mem_cons, List.not_mem_nil, or_false] at hx; rcases hx with rfl | rfl | rfl | rfl | rfl | rfl <;> rw [yz1y] <;> omega) (by simp [okRows, yz1y])
    have e : (1 : Int) + totX [seqI (1) y1.length, seqI (1 + y1.length) y2.length, seqI (1 + y1.length + y2.length) y3.length, seqI (1 + y1.length + y2.length + y3.length) y4.length, seqI (1 + y1.length + y2.length + y3.length + y4.length) y5.length, seqI (1 + y1.length + y2.length + y3.length + y4.length + y5.length) y6.length] = 1 + y1.length + y2.length + y3.length + y4.length + y5.length + y6.length := by simp only [totX, yz1y]; omega
    rw [e] at h; exact h
  refine yzg hheld (by simp only [yz1t, yz1z, yzn, rowIs, boxIs, yzd, yz7, yze, yz9, yz6, yzi, yzh, yz14, yz4, yz2, yz17, yz5, yz16, yz3, yzj, yzf, yzc, yz1, yzb, yza, L_hit, yz15, L_nil, reduceEqDiff, ne_eq, reduceCtorEq, not_false_eq_true, true_and, and_true, and_self, exists_eq_left, exists_eq_right, List.mem_cons, List.not_mem_nil, or_false, AObj.row.injEq, AObj.box.injEq, exists_eq_left', exists_and_left, exists_eq, Nat.zero_lt_one, Nat.lt_add_one, List.map_cons, List.map_nil, AObj.ver, Nat.reduceLT, not_true_eq_false]) trivial ?_
  simp only [Bzr, Bze, Bzq, Bzf, Bzp, bne_self_eq_false, decide_eq_false hneg, go_sem, yz0, Int.reduceLT, reduceLE, reduceToNat, reduceNeg, Nat.reduceLT, reduceLeDiff, reduceMul, reduceSub, reduceIte, reduceEqDiff, reduceAdd, reduceCtorEq]
  rintro vs17 U17 - vs18 U18 - vs19 U19 hN19
  refine yz1u (yz1k n o next out hb_next hc_next hb_out hc_out) (by simp only [yzt, rowIs, boxIs, yzd, yz7, yze, yz9, yz6, yzi, yzh, yz14, yz4, yz2, yz17, yz5, yz16, yz3, yzj, yzf, yzc, yz1, yzb, yza, L_hit, yz15, L_nil, reduceEqDiff, ne_eq, reduceCtorEq, not_false_eq_true, true_and, and_true, and_self, exists_eq_left, exists_eq_right, List.mem_cons, List.not_mem_nil, or_false, AObj.row.injEq, AObj.box.injEq, exists_eq_left', exists_and_left, exists_eq, Nat.zero_lt_one, Nat.lt_add_one, List.map_cons, List.map_nil, AObj.ver, Nat.reduceLT, not_true_eq_false]) rfl rfl ?_
  intro v7 v8
  try simp only [List.map_cons, List.map_nil, List.cons_append, List.nil_append, go_sem, yz0, Int.reduceLT, reduceLE, reduceToNat, reduceNeg, Nat.reduceLT, reduceLeDiff, reduceMul, reduceSub, reduceIte, reduceEqDiff, reduceAdd, reduceCtorEq]
  refine call_setR (fun x y e => (hN19.inj _ _ _ _ e).2) KI qCS rfl (fun _ vH pH hH hdH hyH => ?_) (fun h => by cases h)
  obtain ⟨Hp0, Hp1, Hp2, Hp3, Hp4, Hp5, rfl, He01, He02, He03, He04, He05, He12, He13, He14, He15, He23, He24, He25, He34, He35, He45⟩ := namR6 hH hdH hy1.1 hy2.1 hy3.1 hy4.1 hy5.1 hy6.1
  simp only [Bzo, bne_self_eq_false, go_sem, yz0, Int.reduceLT, reduceLE, reduceToNat, reduceNeg, Nat.reduceLT, reduceLeDiff, reduceMul, reduceSub, reduceIte, reduceEqDiff, reduceAdd, reduceCtorEq]
  rintro vs20 U20 -
  refine yzg (yz1j [y1, y2, y3, y4, y5, y6] [y1, y2, y3, y4, y5, y6]) (by simp only [yz1t, yz1z, yz23, rwp_nil, yzn, rowIs, boxIs, yzd, yz7, yze, yz9, yz6, yzi, yzh, yz14, yz4, yz2, yz17, yz5, yz16, yz3, yzj, yzf, yzc, yz1, yzb, yza, L_hit, yz15, L_nil, reduceEqDiff, ne_eq, reduceCtorEq, not_false_eq_true, true_and, and_true, and_self, exists_eq_left, exists_eq_right, List.mem_cons, List.not_mem_nil, or_false, AObj.row.injEq, AObj.box.injEq, exists_eq_left', exists_and_left, exists_eq, Nat.zero_lt_one, Nat.lt_add_one, List.map_cons, List.map_nil, AObj.ver, Nat.reduceLT, not_true_eq_false]) trivial ?_
  simp only [Bzg, Bzn, Bzm, decide_true, Bool.and_self, bne_self_eq_false, go_sem, yz0, Int.reduceLT, reduceLE, reduceToNat, reduceNeg, Nat.reduceLT, reduceLeDiff, reduceMul, reduceSub, reduceIte, reduceEqDiff, reduceAdd, reduceCtorEq]
  rintro vs21 U21 - vs22 U22 -
  refine yzg hheld (by simp only [yz1t, yz1z, yzn, rowIs, boxIs, yzd, yz7, yze, yz9, yz6, yzi, yzh, yz14, yz4, yz2, yz17, yz5, yz16, yz3, yzj, yzf, yzc, yz1, yzb, yza, L_hit, yz15, L_nil, reduceEqDiff, ne_eq, reduceCtorEq, not_false_eq_true, true_and, and_true, and_self, exists_eq_left, exists_eq_right, List.mem_cons, List.not_mem_nil, or_false, AObj.row.injEq, AObj.box.injEq, exists_eq_left', exists_and_left, exists_eq, Nat.zero_lt_one, Nat.lt_add_one, List.map_cons, List.map_nil, AObj.ver, Nat.reduceLT, not_true_eq_false]) trivial ?_
  simp only [Bzl, Bzh, Bzk, Bzi, Bzj, bne_self_eq_false, decide_eq_false hneg, go_sem, yz0, Int.reduceLT, reduceLE, reduceToNat, reduceNeg, Nat.reduceLT, reduceLeDiff, reduceMul, reduceSub, reduceIte, reduceEqDiff, reduceAdd, reduceCtorEq]
  try simp
end Go.Ab
namespace Go.Ab
open Go.Proofs
attribute [local go_sem] woT woO woL_cons woL_nil woV_val woV_own wo_ptr wo_o woL_ints woL_rwo wo_st woO_row woO_box woO_gone wo_any yz23 rwp_nil yzp yz8
theorem law_TellingSet_7 (n o : Int) (next out : List (List Int)) (y1 y2 y3 y4 y5 y6 y7 : List Int) (cc : Int) (KS : SetC2 Try.prog nz8 [.st [iv n, iv o, .ro none 1 (rwn next), .ro none 1 (rwn out)]] [y1, y2, y3, y4, y5, y6, y7] cc) (KI : SetR Try.prog nz4 [.st [iv n, iv o, .ro none 1 (rwn next), .ro none 1 (rwn out)]] true [y1, y2, y3, y4, y5, y6, y7] cc)
    (hy1 : y1 ≠ [] ∧ (y1.length : Int) ≤ 1000) (hy2 : y2 ≠ [] ∧ (y2.length : Int) ≤ 1000) (hy3 : y3 ≠ [] ∧ (y3.length : Int) ≤ 1000) (hy4 : y4 ≠ [] ∧ (y4.length : Int) ≤ 1000) (hy5 : y5 ≠ [] ∧ (y5.length : Int) ≤ 1000) (hy6 : y6 ≠ [] ∧ (y6.length : Int) ≤ 1000) (hy7 : y7 ≠ [] ∧ (y7.length : Int) ≤ 1000) :
    Fun Try.prog nza [.st [iv n, iv o, .ro (some (some 0)) 1 (rwo next), .ro (some (some 0)) 1 (rwo out)]] (bv true) := by
  refine fun_of mixed cz1b rfl ⟨rfl, trivial⟩ ?_
  simp only [Az16, Bz15, Bz14, go_sem, yz0, Int.reduceLT, reduceLE, reduceToNat, reduceNeg, Nat.reduceLT, reduceLeDiff, reduceMul, reduceSub, reduceIte, reduceEqDiff, reduceAdd, reduceCtorEq]
  rintro vs1 U1 - vs2 U2 - vs3 U3 -
  refine yzg (k_szMachine n o next out 1048576 (by omega)) (by simp only [yzt, rowIs, boxIs, yzd, yz7, yze, yz9, yz6, yzi, yzh, yz14, yz4, yz2, yz17, yz5, yz16, yz3, yzj, yzf, yzc, yz1, yzb, yza, L_hit, yz15, L_nil, reduceEqDiff, ne_eq, reduceCtorEq, not_false_eq_true, true_and, and_true, and_self, exists_eq_left, exists_eq_right, List.mem_cons, List.not_mem_nil, or_false, AObj.row.injEq, AObj.box.injEq, exists_eq_left', exists_and_left, exists_eq, Nat.zero_lt_one, Nat.lt_add_one, List.map_cons, List.map_nil, AObj.ver, Nat.reduceLT, not_true_eq_false]) trivial ?_
  by_cases hsz0 : (szC2 next out 1048576) < 0
  · simp only [Bz3, Bz2, decide_eq_true hsz0, go_sem, yz0, Int.reduceLT, reduceLE, reduceToNat, reduceNeg, Nat.reduceLT, reduceLeDiff, reduceMul, reduceSub, reduceIte, reduceEqDiff, reduceAdd, reduceCtorEq]
    try simp
  obtain ⟨⟨hqa, hqb, hqc⟩, htot_next, htot_out, hb_next, hb_out, hc_next, hc_out, hd_next, hd_out⟩ := szM_facts hsz0
  simp only [Bz3, Bz2, Bz13, decide_eq_false hsz0, go_sem, yz0, Int.reduceLT, reduceLE, reduceToNat, reduceNeg, Nat.reduceLT, reduceLeDiff, reduceMul, reduceSub, reduceIte, reduceEqDiff, reduceAdd, reduceCtorEq]
  rintro vs4 U4 - vs5 U5 hN5
  refine yz1u (yz1k n o next out hb_next hc_next hb_out hc_out) (by simp only [yzt, rowIs, boxIs, yzd, yz7, yze, yz9, yz6, yzi, yzh, yz14, yz4, yz2, yz17, yz5, yz16, yz3, yzj, yzf, yzc, yz1, yzb, yza, L_hit, yz15, L_nil, reduceEqDiff, ne_eq, reduceCtorEq, not_false_eq_true, true_and, and_true, and_self, exists_eq_left, exists_eq_right, List.mem_cons, List.not_mem_nil, or_false, AObj.row.injEq, AObj.box.injEq, exists_eq_left', exists_and_left, exists_eq, Nat.zero_lt_one, Nat.lt_add_one, List.map_cons, List.map_nil, AObj.ver, Nat.reduceLT, not_true_eq_false]) rfl rfl ?_
  intro v1 v2
  try simp only [List.map_cons, List.map_nil, List.cons_append, List.nil_append, go_sem, yz0, Int.reduceLT, reduceLE, reduceToNat, reduceNeg, Nat.reduceLT, reduceLeDiff, reduceMul, reduceSub, reduceIte, reduceEqDiff, reduceAdd, reduceCtorEq]
  refine call_setC2 (fun x y e => (hN5.inj _ _ _ _ e).2) KS qCS rfl (fun vS pS hS hdS hyS => ?_)
  obtain ⟨Sp0, Sp1, Sp2, Sp3, Sp4, Sp5, Sp6, rfl, Se01, Se02, Se03, Se04, Se05, Se06, Se12, Se13, Se14, Se15, Se16, Se23, Se24, Se25, Se26, Se34, Se35, Se36, Se45, Se46, Se56⟩ := namR7 hS hdS hy1.1 hy2.1 hy3.1 hy4.1 hy5.1 hy6.1 hy7.1
  simp only [Bz12, yzp, yz8, wpD_gh, go_sem, yz0, Int.reduceLT, reduceLE, reduceToNat, reduceNeg, Nat.reduceLT, reduceLeDiff, reduceMul, reduceSub, reduceIte, reduceEqDiff, reduceAdd, reduceCtorEq]
  intro _
  refine ⟨[.thaw 22 0 901, .thaw 22 1 902, .thaw 22 2 903, .thaw 22 3 904, .thaw 22 4 905, .thaw 22 5 906, .thaw 22 6 907], ?_⟩
  refine yzo rfl rfl (yz1e hy1.1) rfl fun Sm0 => ?_
  simp only [wo_ne (Ne.symm Se01), wo_ne (Ne.symm Se02), wo_ne (Ne.symm Se03), wo_ne (Ne.symm Se04), wo_ne (Ne.symm Se05), wo_ne (Ne.symm Se06), go_sem, yz0, Int.reduceLT, reduceLE, reduceToNat, reduceNeg, Nat.reduceLT, reduceLeDiff, reduceMul, reduceSub, reduceIte, reduceEqDiff, reduceAdd, reduceCtorEq]
  refine yzo rfl rfl (yz1e hy2.1) rfl fun Sm1 => ?_
  simp only [wo_ne Se01, wo_ne (Ne.symm Se12), wo_ne (Ne.symm Se13), wo_ne (Ne.symm Se14), wo_ne (Ne.symm Se15), wo_ne (Ne.symm Se16), go_sem, yz0, Int.reduceLT, reduceLE, reduceToNat, reduceNeg, Nat.reduceLT, reduceLeDiff, reduceMul, reduceSub, reduceIte, reduceEqDiff, reduceAdd, reduceCtorEq]
  refine yzo rfl rfl (yz1e hy3.1) rfl fun Sm2 => ?_
  simp only [wo_ne Se02, wo_ne Se12, wo_ne (Ne.symm Se23), wo_ne (Ne.symm Se24), wo_ne (Ne.symm Se25), wo_ne (Ne.symm Se26), go_sem, yz0, Int.reduceLT, reduceLE, reduceToNat, reduceNeg, Nat.reduceLT, reduceLeDiff, reduceMul, reduceSub, reduceIte, reduceEqDiff, reduceAdd, reduceCtorEq]
  refine yzo rfl rfl (yz1e hy4.1) rfl fun Sm3 => ?_
  simp only [wo_ne Se03, wo_ne Se13, wo_ne Se23, wo_ne (Ne.symm Se34), wo_ne (Ne.symm Se35), wo_ne (Ne.symm Se36), go_sem, yz0, Int.reduceLT, reduceLE, reduceToNat, reduceNeg, Nat.reduceLT, reduceLeDiff, reduceMul, reduceSub, reduceIte, reduceEqDiff, reduceAdd, reduceCtorEq]
  refine yzo rfl rfl (yz1e hy5.1) rfl fun Sm4 => ?_
  simp only [wo_ne Se04, wo_ne Se14, wo_ne Se24, wo_ne Se34, wo_ne (Ne.symm Se45), wo_ne (Ne.symm Se46), go_sem, yz0, Int.reduceLT, reduceLE, reduceToNat, reduceNeg, Nat.reduceLT, reduceLeDiff, reduceMul, reduceSub, reduceIte, reduceEqDiff, reduceAdd, reduceCtorEq]
  refine yzo rfl rfl (yz1e hy6.1) rfl fun Sm5 => ?_
  simp only [wo_ne Se05, wo_ne Se15, wo_ne Se25, wo_ne Se35, wo_ne Se45, wo_ne (Ne.symm Se56), go_sem, yz0, Int.reduceLT, reduceLE, reduceToNat, reduceNeg, Nat.reduceLT, reduceLeDiff, reduceMul, reduceSub, reduceIte, reduceEqDiff, reduceAdd, reduceCtorEq]
  refine yzo rfl rfl (yz1e hy7.1) rfl fun Sm6 => ?_
  simp only [wo_ne Se06, wo_ne Se16, wo_ne Se26, wo_ne Se36, wo_ne Se46, wo_ne Se56, go_sem, yz0, Int.reduceLT, reduceLE, reduceToNat, reduceNeg, Nat.reduceLT, reduceLeDiff, reduceMul, reduceSub, reduceIte, reduceEqDiff, reduceAdd, reduceCtorEq]
  simp only [gwp_nil, go_sem, yz0, Int.reduceLT, reduceLE, reduceToNat, reduceNeg, Nat.reduceLT, reduceLeDiff, reduceMul, reduceSub, reduceIte, reduceEqDiff, reduceAdd, reduceCtorEq]
  rintro vs6 U6 hN6
  refine call_machN (fun x y e => (hN6.inj _ _ _ _ e).2) (k_toMachineN n o next out hb_next hc_next hb_out hc_out) (by simp only [yzt, rowIs, boxIs, yzd, yz7, yze, yz9, yz6, yzi, yzh, yz14, yz4, yz2, yz17, yz5, yz16, yz3, yzj, yzf, yzc, yz1, yzb, yza, L_hit, yz15, L_nil, reduceEqDiff, ne_eq, reduceCtorEq, not_false_eq_true, true_and, and_true, and_self, exists_eq_left, exists_eq_right, List.mem_cons, List.not_mem_nil, or_false, AObj.row.injEq, AObj.box.injEq, exists_eq_left', exists_and_left, exists_eq, Nat.zero_lt_one, Nat.lt_add_one, List.map_cons, List.map_nil, AObj.ver, Nat.reduceLT, not_true_eq_false]) rfl rfl ?_
  intro v3 v4 ps_next ps_out hps_next hps_out hdj
  clear hN6
  have htt_next : totL ps_next ≤ 1048576 := by have h := szLL_tot (ps := ps_next) (l := 1048576) (by rw [hps_next]; omega) (by omega); omega
  have htn_next := totL_nn ps_next
  have hdp_next : ∀ p ∈ ps_next, (p.2.length : Int) ≤ 1000000000 := fun p hp => hd_next p.2 (by rw [← hps_next]; exact List.mem_map_of_mem hp)
  have htt_out : totL ps_out ≤ 1048576 := by have h := szLL_tot (ps := ps_out) (l := (szLL next 1048576)) (by rw [hps_out]; omega) (by omega); omega
  have htn_out := totL_nn ps_out
  have hdp_out : ∀ p ∈ ps_out, (p.2.length : Int) ≤ 1000000000 := fun p hp => hd_out p.2 (by rw [← hps_out]; exact List.mem_map_of_mem hp)
  simp only [Bz11, go_sem, yz0, Int.reduceLT, reduceLE, reduceToNat, reduceNeg, Nat.reduceLT, reduceLeDiff, reduceMul, reduceSub, reduceIte, reduceEqDiff, reduceAdd, reduceCtorEq]
  rintro vs7 U7 hN7
  refine call_setR (fun x y e => (hN7.inj _ _ _ _ e).2) KI (by simp only [← hps_next, ← hps_out, coeL_rwp_t, rowIs, boxIs, yzd, yz7, yze, yz9, yz6, yzi, yzh, yz14, yz4, yz2, yz17, yz5, yz16, yz3, yzj, yzf, yzc, yz1, yzb, yza, L_hit, yz15, L_nil, reduceEqDiff, ne_eq, reduceCtorEq, not_false_eq_true, true_and, and_true, and_self, exists_eq_left, exists_eq_right, List.mem_cons, List.not_mem_nil, or_false, AObj.row.injEq, AObj.box.injEq, exists_eq_left', exists_and_left, exists_eq, Nat.zero_lt_one, Nat.lt_add_one, List.map_cons, List.map_nil, AObj.ver, Nat.reduceLT, not_true_eq_false]) rfl (fun _ vG pG hG hdG hyG => ?_) (fun h => by cases h)
  obtain ⟨Gp0, Gp1, Gp2, Gp3, Gp4, Gp5, Gp6, rfl, Ge01, Ge02, Ge03, Ge04, Ge05, Ge06, Ge12, Ge13, Ge14, Ge15, Ge16, Ge23, Ge24, Ge25, Ge26, Ge34, Ge35, Ge36, Ge45, Ge46, Ge56⟩ := namR7 hG hdG hy1.1 hy2.1 hy3.1 hy4.1 hy5.1 hy6.1 hy7.1
  have hU_next := hN7.hp 26
  simp only [AObj.uses, go_sem, yz0, Int.reduceLT, reduceLE, reduceToNat, reduceNeg, Nat.reduceLT, reduceLeDiff, reduceMul, reduceSub, reduceIte, reduceEqDiff, reduceAdd, reduceCtorEq] at hU_next
  have hold_next := usesL_rwp (rest := []) (by rw [List.append_nil]; exact hU_next.2)
  have hf_next0 := yz1x hold_next hN7.new (hyG (Gp0, y1) (by simp))
  have hf_next1 := yz1x hold_next hN7.new (hyG (Gp1, y2) (by simp))
  have hf_next2 := yz1x hold_next hN7.new (hyG (Gp2, y3) (by simp))
  have hf_next3 := yz1x hold_next hN7.new (hyG (Gp3, y4) (by simp))
  have hf_next4 := yz1x hold_next hN7.new (hyG (Gp4, y5) (by simp))
  have hf_next5 := yz1x hold_next hN7.new (hyG (Gp5, y6) (by simp))
  have hf_next6 := yz1x hold_next hN7.new (hyG (Gp6, y7) (by simp))
  have hU_out := hN7.hp 1026
  simp only [AObj.uses, go_sem, yz0, Int.reduceLT, reduceLE, reduceToNat, reduceNeg, Nat.reduceLT, reduceLeDiff, reduceMul, reduceSub, reduceIte, reduceEqDiff, reduceAdd, reduceCtorEq] at hU_out
  have hold_out := usesL_rwp (rest := []) (by rw [List.append_nil]; exact hU_out.2)
  have hf_out0 := yz1x hold_out hN7.new (hyG (Gp0, y1) (by simp))
  have hf_out1 := yz1x hold_out hN7.new (hyG (Gp1, y2) (by simp))
  have hf_out2 := yz1x hold_out hN7.new (hyG (Gp2, y3) (by simp))
  have hf_out3 := yz1x hold_out hN7.new (hyG (Gp3, y4) (by simp))
  have hf_out4 := yz1x hold_out hN7.new (hyG (Gp4, y5) (by simp))
  have hf_out5 := yz1x hold_out hN7.new (hyG (Gp5, y6) (by simp))
  have hf_out6 := yz1x hold_out hN7.new (hyG (Gp6, y7) (by simp))
  simp only [Bz10, bne_self_eq_false, yzp, yz8, wpD_gh, go_sem, yz0, Int.reduceLT, reduceLE, reduceToNat, reduceNeg, Nat.reduceLT, reduceLeDiff, reduceMul, reduceSub, reduceIte, reduceEqDiff, reduceAdd, reduceCtorEq]
  intro _
  refine ⟨[.thaw 29 0 911, .thaw 29 1 912, .thaw 29 2 913, .thaw 29 3 914, .thaw 29 4 915, .thaw 29 5 916, .thaw 29 6 917], ?_⟩
  refine yzo rfl rfl (yz1e hy1.1) rfl fun Gm0 => ?_
  simp only [wo_ne (Ne.symm Ge01), wo_ne (Ne.symm Ge02), wo_ne (Ne.symm Ge03), wo_ne (Ne.symm Ge04), wo_ne (Ne.symm Ge05), wo_ne (Ne.symm Ge06), yz18 hf_next0, yz18 hf_out0, go_sem, yz0, Int.reduceLT, reduceLE, reduceToNat, reduceNeg, Nat.reduceLT, reduceLeDiff, reduceMul, reduceSub, reduceIte, reduceEqDiff, reduceAdd, reduceCtorEq]
  refine yzo rfl rfl (yz1e hy2.1) rfl fun Gm1 => ?_
  simp only [wo_ne Ge01, wo_ne (Ne.symm Ge12), wo_ne (Ne.symm Ge13), wo_ne (Ne.symm Ge14), wo_ne (Ne.symm Ge15), wo_ne (Ne.symm Ge16), yz18 hf_next1, yz18 hf_out1, go_sem, yz0, Int.reduceLT, reduceLE, reduceToNat, reduceNeg, Nat.reduceLT, reduceLeDiff, reduceMul, reduceSub, reduceIte, reduceEqDiff, reduceAdd, reduceCtorEq]
  refine yzo rfl rfl (yz1e hy3.1) rfl fun Gm2 => ?_
  simp only [wo_ne Ge02, wo_ne Ge12, wo_ne (Ne.symm Ge23), wo_ne (Ne.symm Ge24), wo_ne (Ne.symm Ge25), wo_ne (Ne.symm Ge26), yz18 hf_next2, yz18 hf_out2, go_sem, yz0, Int.reduceLT, reduceLE, reduceToNat, reduceNeg, Nat.reduceLT, reduceLeDiff, reduceMul, reduceSub, reduceIte, reduceEqDiff, reduceAdd, reduceCtorEq]
  refine yzo rfl rfl (yz1e hy4.1) rfl fun Gm3 => ?_
  simp only [wo_ne Ge03, wo_ne Ge13, wo_ne Ge23, wo_ne (Ne.symm Ge34), wo_ne (Ne.symm Ge35), wo_ne (Ne.symm Ge36), yz18 hf_next3, yz18 hf_out3, go_sem, yz0, Int.reduceLT, reduceLE, reduceToNat, reduceNeg, Nat.reduceLT, reduceLeDiff, reduceMul, reduceSub, reduceIte, reduceEqDiff, reduceAdd, reduceCtorEq]
  refine yzo rfl rfl (yz1e hy5.1) rfl fun Gm4 => ?_
  simp only [wo_ne Ge04, wo_ne Ge14, wo_ne Ge24, wo_ne Ge34, wo_ne (Ne.symm Ge45), wo_ne (Ne.symm Ge46), yz18 hf_next4, yz18 hf_out4, go_sem, yz0, Int.reduceLT, reduceLE, reduceToNat, reduceNeg, Nat.reduceLT, reduceLeDiff, reduceMul, reduceSub, reduceIte, reduceEqDiff, reduceAdd, reduceCtorEq]
  refine yzo rfl rfl (yz1e hy6.1) rfl fun Gm5 => ?_
  simp only [wo_ne Ge05, wo_ne Ge15, wo_ne Ge25, wo_ne Ge35, wo_ne Ge45, wo_ne (Ne.symm Ge56), yz18 hf_next5, yz18 hf_out5, go_sem, yz0, Int.reduceLT, reduceLE, reduceToNat, reduceNeg, Nat.reduceLT, reduceLeDiff, reduceMul, reduceSub, reduceIte, reduceEqDiff, reduceAdd, reduceCtorEq]
  refine yzo rfl rfl (yz1e hy7.1) rfl fun Gm6 => ?_
  simp only [wo_ne Ge06, wo_ne Ge16, wo_ne Ge26, wo_ne Ge36, wo_ne Ge46, wo_ne Ge56, yz18 hf_next6, yz18 hf_out6, go_sem, yz0, Int.reduceLT, reduceLE, reduceToNat, reduceNeg, Nat.reduceLT, reduceLeDiff, reduceMul, reduceSub, reduceIte, reduceEqDiff, reduceAdd, reduceCtorEq]
  simp only [gwp_nil, go_sem, yz0, Int.reduceLT, reduceLE, reduceToNat, reduceNeg, Nat.reduceLT, reduceLeDiff, reduceMul, reduceSub, reduceIte, reduceEqDiff, reduceAdd, reduceCtorEq]
  rintro vs8 U8 -
  refine yzg (yz1j [y1, y2, y3, y4, y5, y6, y7] [y1, y2, y3, y4, y5, y6, y7]) (by simp only [yz1t, yz1z, yz23, rwp_nil, yzn, rowIs, boxIs, yzd, yz7, yze, yz9, yz6, yzi, yzh, yz14, yz4, yz2, yz17, yz5, yz16, yz3, yzj, yzf, yzc, yz1, yzb, yza, L_hit, yz15, L_nil, reduceEqDiff, ne_eq, reduceCtorEq, not_false_eq_true, true_and, and_true, and_self, exists_eq_left, exists_eq_right, List.mem_cons, List.not_mem_nil, or_false, AObj.row.injEq, AObj.box.injEq, exists_eq_left', exists_and_left, exists_eq, Nat.zero_lt_one, Nat.lt_add_one, List.map_cons, List.map_nil, AObj.ver, Nat.reduceLT, not_true_eq_false]) trivial ?_
  simp only [Bzb, Bzz, decide_true, Bool.and_self, bne_self_eq_false, go_sem, yz0, Int.reduceLT, reduceLE, reduceToNat, reduceNeg, Nat.reduceLT, reduceLeDiff, reduceMul, reduceSub, reduceIte, reduceEqDiff, reduceAdd, reduceCtorEq]
  rintro vs9 U9 -
  refine yz1u (yz1k n o next out hb_next hc_next hb_out hc_out) (by simp only [yzt, rowIs, boxIs, yzd, yz7, yze, yz9, yz6, yzi, yzh, yz14, yz4, yz2, yz17, yz5, yz16, yz3, yzj, yzf, yzc, yz1, yzb, yza, L_hit, yz15, L_nil, reduceEqDiff, ne_eq, reduceCtorEq, not_false_eq_true, true_and, and_true, and_self, exists_eq_left, exists_eq_right, List.mem_cons, List.not_mem_nil, or_false, AObj.row.injEq, AObj.box.injEq, exists_eq_left', exists_and_left, exists_eq, Nat.zero_lt_one, Nat.lt_add_one, List.map_cons, List.map_nil, AObj.ver, Nat.reduceLT, not_true_eq_false]) rfl rfl ?_
  intro v5 v6
  try simp only [List.map_cons, List.map_nil, List.cons_append, List.nil_append, go_sem, yz0, Int.reduceLT, reduceLE, reduceToNat, reduceNeg, Nat.reduceLT, reduceLeDiff, reduceMul, reduceSub, reduceIte, reduceEqDiff, reduceAdd, reduceCtorEq]
  refine yzg (k_eqMachine n n o o next out next out) (by simp only [← hps_next, ← hps_out, coeL_rwp_t, rowIs, boxIs, yzd, yz7, yze, yz9, yz6, yzi, yzh, yz14, yz4, yz2, yz17, yz5, yz16, yz3, yzj, yzf, yzc, yz1, yzb, yza, L_hit, yz15, L_nil, reduceEqDiff, ne_eq, reduceCtorEq, not_false_eq_true, true_and, and_true, and_self, exists_eq_left, exists_eq_right, List.mem_cons, List.not_mem_nil, or_false, AObj.row.injEq, AObj.box.injEq, exists_eq_left', exists_and_left, exists_eq, Nat.zero_lt_one, Nat.lt_add_one, List.map_cons, List.map_nil, AObj.ver, Nat.reduceLT, not_true_eq_false]) trivial ?_
  simp only [Bzc, Bzy, Bzx, decide_true, Bool.and_self, bne_self_eq_false, go_sem, yz0, Int.reduceLT, reduceLE, reduceToNat, reduceNeg, Nat.reduceLT, reduceLeDiff, reduceMul, reduceSub, reduceIte, reduceEqDiff, reduceAdd, reduceCtorEq]
  rintro vs10 U10 - vs11 U11 -
  refine call_hav (k_markMachine n o ps_next ps_out hdj 1 (by omega) hdp_next hdp_out) ?_ ?_
  · simp only [coeHL_cons, coeHL_nil, coeH_val, coeH_st, and_true, true_and]
    refine ⟨?_, ?_⟩ <;> exact coeH_own (nn := true) qWS
  rintro x ⟨k1, rfl, hk1a, hk1b⟩
  have hkn1 : ¬ (k1 < 0) := by omega
  simp only [Bzw, cl_L, clT, clO, clV_any, clV_val, clV_own, clV_ptr, clV_st, clV_o, clL_ints, clL_rwo, clL_cons, clL_nil, clR_row, clR_box, clR_gone, decide_eq_false hkn1, go_sem, yz0, Int.reduceLT, reduceLE, reduceToNat, reduceNeg, Nat.reduceLT, reduceLeDiff, reduceMul, reduceSub, reduceIte, reduceEqDiff, reduceAdd, reduceCtorEq]
  rintro vs12 U12 -
  refine yzg (yz1j [y1, y2, y3, y4, y5, y6, y7] [y1, y2, y3, y4, y5, y6, y7]) (by simp only [yz1t, yz1z, yz23, rwp_nil, yzn, rowIs, boxIs, yzd, yz7, yze, yz9, yz6, yzi, yzh, yz14, yz4, yz2, yz17, yz5, yz16, yz3, yzj, yzf, yzc, yz1, yzb, yza, L_hit, yz15, L_nil, reduceEqDiff, ne_eq, reduceCtorEq, not_false_eq_true, true_and, and_true, and_self, exists_eq_left, exists_eq_right, List.mem_cons, List.not_mem_nil, or_false, AObj.row.injEq, AObj.box.injEq, exists_eq_left', exists_and_left, exists_eq, Nat.zero_lt_one, Nat.lt_add_one, List.map_cons, List.map_nil, AObj.ver, Nat.reduceLT, not_true_eq_false]) trivial ?_
  simp only [Bzd, Bzv, Bzu, decide_true, Bool.and_self, bne_self_eq_false, go_sem, yz0, Int.reduceLT, reduceLE, reduceToNat, reduceNeg, Nat.reduceLT, reduceLeDiff, reduceMul, reduceSub, reduceIte, reduceEqDiff, reduceAdd, reduceCtorEq]
  rintro vs13 U13 - vs14 U14 -
  refine call_mark7 (r := 29) (q1 := 911) (q2 := 912) (q3 := 913) (q4 := 914) (q5 := 915) (q6 := 916) (q7 := 917) (k_markSS7 y1 y2 y3 y4 y5 y6 y7 1 (by omega) hy1.2 hy2.2 hy3.2 hy4.2 hy5.2 hy6.2 hy7.2) rfl rfl rfl rfl rfl rfl rfl rfl (by decide) (by simp only [yz6, yz9, yzh, and_true, Coe]; exact ⟨0, _, _, rfl, rfl, rfl, rfl, rfl⟩) ?_
  simp only [Bzt, Bzs, go_sem, yz0, Int.reduceLT, reduceLE, reduceToNat, reduceNeg, Nat.reduceLT, reduceLeDiff, reduceMul, reduceSub, reduceIte, reduceEqDiff, reduceAdd, reduceCtorEq]
  rintro vs15 U15 - vs16 U16 -
  have hneg : ¬ (((1 : Int) + y1.length + y2.length + y3.length + y4.length + y5.length + y6.length + y7.length) < 0) := by omega
  have hheld : Fun Try.prog nz9 [.ro none 1 (rwn [seqI (1) y1.length, seqI (1 + y1.length) y2.length, seqI (1 + y1.length + y2.length) y3.length, seqI (1 + y1.length + y2.length + y3.length) y4.length, seqI (1 + y1.length + y2.length + y3.length + y4.length) y5.length, seqI (1 + y1.length + y2.length + y3.length + y4.length + y5.length) y6.length, seqI (1 + y1.length + y2.length + y3.length + y4.length + y5.length + y6.length) y7.length]), iv 1] (iv (1 + y1.length + y2.length + y3.length + y4.length + y5.length + y6.length + y7.length)) := by
    have h := k_heldSS [seqI (1) y1.length, seqI (1 + y1.length) y2.length, seqI (1 + y1.length + y2.length) y3.length, seqI (1 + y1.length + y2.length + y3.length) y4.length, seqI (1 + y1.length + y2.length + y3.length + y4.length) y5.length, seqI (1 + y1.length + y2.length + y3.length + y4.length + y5.length) y6.length, seqI (1 + y1.length + y2.length + y3.length + y4.length + y5.length + y6.length) y7.length] 1 (by simp only [totX, yz1y]; omega) (by intro x hx; simp only [List.mem_cons, List.not_mem_nil, or_false] at hx; rcases hx with rfl | rfl | rfl | rfl | rfl | rfl | rfl <;> rw [yz1y] <;> omega) (by simp [okRows, yz1y])
    have e : (1 : Int) + totX [seqI (1) y1.length, seqI (1 + y1.length) y2.length, seqI (1 + y1.length + y2.length) y3.length, seqI (1 + y1.length + y2.length + y3.length) y4.length, seqI (1 + y1.length + y2.length + y3.length + y4.length) y5.length, seqI (1 + y1.length + y2.length + y3.length + y4.length + y5.length) y6.length, seqI (1 + y1.length + y2.length + y3.length + y4.length + y5.length + y6.length) y7.length] = 1 + y1.length + y2.length + y3.length + y4.length + y5.length + y6.length + y7.length := by simp only [totX, yz1y]; omega
    rw [e] at h; exact h
  refine yzg hheld (by simp only [yz1t, yz1z, yzn, rowIs, boxIs, yzd, yz7, yze, yz9, yz6, yzi, yzh, yz14, yz4, yz2, yz17, yz5, yz16, yz3, yzj, yzf, yzc, yz1, yzb, yza, L_hit, yz15, L_nil, reduceEqDiff, ne_eq, reduceCtorEq, not_false_eq_true, true_and, and_true, and_self, exists_eq_left, exists_eq_right, List.mem_cons, List.not_mem_nil, or_false, AObj.row.injEq, AObj.box.injEq, exists_eq_left', exists_and_left, exists_eq, Nat.zero_lt_one, Nat.lt_add_one, List.map_cons, List.map_nil, AObj.ver, Nat.reduceLT, not_true_eq_false]) trivial ?_
  simp only [Bzr, Bze, Bzq, Bzf, Bzp, bne_self_eq_false, decide_eq_false hneg, go_sem, yz0, Int.reduceLT, reduceLE, reduceToNat, reduceNeg, Nat.reduceLT, reduceLeDiff, reduceMul, reduceSub, reduceIte, reduceEqDiff, reduceAdd, reduceCtorEq]
  rintro vs17 U17 - vs18 U18 - vs19 U19 hN19
  refine yz1u (yz1k n o next out hb_next hc_next hb_out hc_out) (by simp only [yzt, rowIs, boxIs, yzd, yz7, yze, yz9, yz6, yzi, yzh, yz14, yz4, yz2, yz17, yz5, yz16, yz3, yzj, yzf, yzc, yz1, yzb, yza, L_hit, yz15, L_nil, reduceEqDiff, ne_eq, reduceCtorEq, not_false_eq_true, true_and, and_true, and_self, exists_eq_left, exists_eq_right, List.mem_cons, List.not_mem_nil, or_false, AObj.row.injEq, AObj.box.injEq, exists_eq_left', exists_and_left, exists_eq, Nat.zero_lt_one, Nat.lt_add_one, List.map_cons, List.map_nil, AObj.ver, Nat.reduceLT, not_true_eq_false]) rfl rfl ?_
  intro v7 v8
  try simp only [List.map_cons, List.map_nil, List.cons_append, List.nil_append, go_sem, yz0, Int.reduceLT, reduceLE, reduceToNat, reduceNeg, Nat.reduceLT, reduceLeDiff, reduceMul, reduceSub, reduceIte, reduceEqDiff, reduceAdd, reduceCtorEq]
  refine call_setR (fun x y e => (hN19.inj _ _ _ _ e).2) KI qCS rfl (fun _ vH pH hH hdH hyH => ?_) (fun h => by cases h)
  obtain ⟨Hp0, Hp1, Hp2, Hp3, Hp4, Hp5, Hp6, rfl, He01, He02, He03, He04, He05, He06, He12, He13, He14, He15, He16, He23, He24, He25, He26, He34, He35, He36, He45, He46, He56⟩ := namR7 hH hdH hy1.1 hy2.1 hy3.1 hy4.1 hy5.1 hy6.1 hy7.1
  simp only [Bzo, bne_self_eq_false, go_sem, yz0, Int.reduceLT, reduceLE, reduceToNat, reduceNeg, Nat.reduceLT, reduceLeDiff, reduceMul, reduceSub, reduceIte, reduceEqDiff, reduceAdd, reduceCtorEq]
  rintro vs20 U20 -
  refine yzg (yz1j [y1, y2, y3, y4, y5, y6, y7] [y1, y2, y3, y4, y5, y6, y7]) (by simp only [yz1t, yz1z, yz23, rwp_nil, yzn, rowIs, boxIs, yzd, yz7, yze, yz9, yz6, yzi, yzh, yz14, yz4, yz2, yz17, yz5, yz16, yz3, yzj, yzf, yzc, yz1, yzb, yza, L_hit, yz15, L_nil, reduceEqDiff, ne_eq, reduceCtorEq, not_false_eq_true, true_and, and_true, and_self, exists_eq_left, exists_eq_right, List.mem_cons, List.not_mem_nil, or_false, AObj.row.injEq, AObj.box.injEq, exists_eq_left', exists_and_left, exists_eq, Nat.zero_lt_one, Nat.lt_add_one, List.map_cons, List.map_nil, AObj.ver, Nat.reduceLT, not_true_eq_false]) trivial ?_
  simp only [Bzg, Bzn, Bzm, decide_true, Bool.and_self, bne_self_eq_false, go_sem, yz0, Int.reduceLT, reduceLE, reduceToNat, reduceNeg, Nat.reduceLT, reduceLeDiff, reduceMul, reduceSub, reduceIte, reduceEqDiff, reduceAdd, reduceCtorEq]
  rintro vs21 U21 - vs22 U22 -
  refine yzg hheld (by simp only [yz1t, yz1z, yzn, rowIs, boxIs, yzd, yz7, yze, yz9, yz6, yzi, yzh, yz14, yz4, yz2, yz17, yz5, yz16, yz3, yzj, yzf, yzc, yz1, yzb, yza, L_hit, yz15, L_nil, reduceEqDiff, ne_eq, reduceCtorEq, not_false_eq_true, true_and, and_true, and_self, exists_eq_left, exists_eq_right, List.mem_cons, List.not_mem_nil, or_false, AObj.row.injEq, AObj.box.injEq, exists_eq_left', exists_and_left, exists_eq, Nat.zero_lt_one, Nat.lt_add_one, List.map_cons, List.map_nil, AObj.ver, Nat.reduceLT, not_true_eq_false]) trivial ?_
  simp only [Bzl, Bzh, Bzk, Bzi, Bzj, bne_self_eq_false, decide_eq_false hneg, go_sem, yz0, Int.reduceLT, reduceLE, reduceToNat, reduceNeg, Nat.reduceLT, reduceLeDiff, reduceMul, reduceSub, reduceIte, reduceEqDiff, reduceAdd, reduceCtorEq]
  try simp
end Go.Ab
namespace Go.Ab
open Go.Proofs
attribute [local go_sem] woT woO woL_cons woL_nil woV_val woV_own wo_ptr wo_o woL_ints woL_rwo wo_st woO_row woO_box woO_gone wo_any yz23 rwp_nil yzp yz8
theorem law_TellingSet_8 (n o : Int) (next out : List (List Int)) (y1 y2 y3 y4 y5 y6 y7 y8 : List Int) (cc : Int) (KS : SetC2 Try.prog nz8 [.st [iv n, iv o, .ro none 1 (rwn next), .ro none 1 (rwn out)]] [y1, y2, y3, y4, y5, y6, y7, y8] cc) (KI : SetR Try.prog nz4 [.st [iv n, iv o, .ro none 1 (rwn next), .ro none 1 (rwn out)]] true [y1, y2, y3, y4, y5, y6, y7, y8] cc)
    (hy1 : y1 ≠ [] ∧ (y1.length : Int) ≤ 1000) (hy2 : y2 ≠ [] ∧ (y2.length : Int) ≤ 1000) (hy3 : y3 ≠ [] ∧ (y3.length : Int) ≤ 1000) (hy4 : y4 ≠ [] ∧ (y4.length : Int) ≤ 1000) (hy5 : y5 ≠ [] ∧ (y5.length : Int) ≤ 1000) (hy6 : y6 ≠ [] ∧ (y6.length : Int) ≤ 1000) (hy7 : y7 ≠ [] ∧ (y7.length : Int) ≤ 1000) (hy8 : y8 ≠ [] ∧ (y8.length : Int) ≤ 1000) :
    Fun Try.prog nza [.st [iv n, iv o, .ro (some (some 0)) 1 (rwo next), .ro (some (some 0)) 1 (rwo out)]] (bv true) := by
  refine fun_of mixed cz1b rfl ⟨rfl, trivial⟩ ?_
  simp only [Az16, Bz15, Bz14, go_sem, yz0, Int.reduceLT, reduceLE, reduceToNat, reduceNeg, Nat.reduceLT, reduceLeDiff, reduceMul, reduceSub, reduceIte, reduceEqDiff, reduceAdd, reduceCtorEq]
  rintro vs1 U1 - vs2 U2 - vs3 U3 -
  refine yzg (k_szMachine n o next out 1048576 (by omega)) (by simp only [yzt, rowIs, boxIs, yzd, yz7, yze, yz9, yz6, yzi, yzh, yz14, yz4, yz2, yz17, yz5, yz16, yz3, yzj, yzf, yzc, yz1, yzb, yza, L_hit, yz15, L_nil, reduceEqDiff, ne_eq, reduceCtorEq, not_false_eq_true, true_and, and_true, and_self, exists_eq_left, exists_eq_right, List.mem_cons, List.not_mem_nil, or_false, AObj.row.injEq, AObj.box.injEq, exists_eq_left', exists_and_left, exists_eq, Nat.zero_lt_one, Nat.lt_add_one, List.map_cons, List.map_nil, AObj.ver, Nat.reduceLT, not_true_eq_false]) trivial ?_
  by_cases hsz0 : (szC2 next out 1048576) < 0
  · simp only [Bz3, Bz2, decide_eq_true hsz0, go_sem, yz0, Int.reduceLT, reduceLE, reduceToNat, reduceNeg, Nat.reduceLT, reduceLeDiff, reduceMul, reduceSub, reduceIte, reduceEqDiff, reduceAdd, reduceCtorEq]
    try simp
  obtain ⟨⟨hqa, hqb, hqc⟩, htot_next, htot_out, hb_next, hb_out, hc_next, hc_out, hd_next, hd_out⟩ := szM_facts hsz0
  simp only [Bz3, Bz2, Bz13, decide_eq_false hsz0, go_sem, yz0, Int.reduceLT, reduceLE, reduceToNat, reduceNeg, Nat.reduceLT, reduceLeDiff, reduceMul, reduceSub, reduceIte, reduceEqDiff, reduceAdd, reduceCtorEq]
  rintro vs4 U4 - vs5 U5 hN5
  refine yz1u (yz1k n o next out hb_next hc_next hb_out hc_out) (by simp only [yzt, rowIs, boxIs, yzd, yz7, yze, yz9, yz6, yzi, yzh, yz14, yz4, yz2, yz17, yz5, yz16, yz3, yzj, yzf, yzc, yz1, yzb, yza, L_hit, yz15, L_nil, reduceEqDiff, ne_eq, reduceCtorEq, not_false_eq_true, true_and, and_true, and_self, exists_eq_left, exists_eq_right, List.mem_cons, List.not_mem_nil, or_false, AObj.row.injEq, AObj.box.injEq, exists_eq_left', exists_and_left, exists_eq, Nat.zero_lt_one, Nat.lt_add_one, List.map_cons, List.map_nil, AObj.ver, Nat.reduceLT, not_true_eq_false]) rfl rfl ?_
  intro v1 v2
  try simp only [List.map_cons, List.map_nil, List.cons_append, List.nil_append, go_sem, yz0, Int.reduceLT, reduceLE, reduceToNat, reduceNeg, Nat.reduceLT, reduceLeDiff, reduceMul, reduceSub, reduceIte, reduceEqDiff, reduceAdd, reduceCtorEq]
  refine call_setC2 (fun x y e => (hN5.inj _ _ _ _ e).2) KS qCS rfl (fun vS pS hS hdS hyS => ?_)
  obtain ⟨Sp0, Sp1, Sp2, Sp3, Sp4, Sp5, Sp6, Sp7, rfl, Se01, Se02, Se03, Se04, Se05, Se06, Se07, Se12, Se13, Se14, Se15, Se16, Se17, Se23, Se24, Se25, Se26, Se27, Se34, Se35, Se36, Se37, Se45, Se46, Se47, Se56, Se57, Se67⟩ := namR8 hS hdS hy1.1 hy2.1 hy3.1 hy4.1 hy5.1 hy6.1 hy7.1 hy8.1
  simp only [Bz12, yzp, yz8, wpD_gh, go_sem, yz0, Int.reduceLT, reduceLE, reduceToNat, reduceNeg, Nat.reduceLT, reduceLeDiff, reduceMul, reduceSub, reduceIte, reduceEqDiff, reduceAdd, reduceCtorEq]
  intro _
  refine ⟨[.thaw 22 0 901, .thaw 22 1 902, .thaw 22 2 903, .thaw 22 3 904, .thaw 22 4 905, .thaw 22 5 906, .thaw 22 6 907, .thaw 22 7 908], ?_⟩
  refine yzo rfl rfl (yz1e hy1.1) rfl fun Sm0 => ?_
  simp only [wo_ne (Ne.symm Se01), wo_ne (Ne.symm Se02), wo_ne (Ne.symm Se03), wo_ne (Ne.symm Se04), wo_ne (Ne.symm Se05), wo_ne (Ne.symm Se06), wo_ne (Ne.symm Se07), go_sem, yz0, Int.reduceLT, reduceLE, reduceToNat, reduceNeg, Nat.reduceLT, reduceLeDiff, reduceMul, reduceSub, reduceIte, reduceEqDiff, reduceAdd, reduceCtorEq]
  refine yzo rfl rfl (yz1e hy2.1) rfl fun Sm1 => ?_
  simp only [wo_ne Se01, wo_ne (Ne.symm Se12), wo_ne (Ne.symm Se13), wo_ne (Ne.symm Se14), wo_ne (Ne.symm Se15), wo_ne (Ne.symm Se16), wo_ne (Ne.symm Se17), go_sem, yz0, Int.reduceLT, reduceLE, reduceToNat, reduceNeg, Nat.reduceLT, reduceLeDiff, reduceMul, reduceSub, reduceIte, reduceEqDiff, reduceAdd, reduceCtorEq]
  refine yzo rfl rfl (yz1e hy3.1) rfl fun Sm2 => ?_
  simp only [wo_ne Se02, wo_ne Se12, wo_ne (Ne.symm Se23), wo_ne (Ne.symm Se24), wo_ne (Ne.symm Se25), wo_ne (Ne.symm Se26), wo_ne (Ne.symm Se27), go_sem, yz0, Int.reduceLT, reduceLE, reduceToNat, reduceNeg, Nat.reduceLT, reduceLeDiff, reduceMul, reduceSub, reduceIte, reduceEqDiff, reduceAdd, reduceCtorEq]
  refine yzo rfl rfl (yz1e hy4.1) rfl fun Sm3 => ?_
  simp only [wo_ne Se03, wo_ne Se13, wo_ne Se23, wo_ne (Ne.symm Se34), wo_ne (Ne.symm Se35), wo_ne (Ne.symm Se36), wo_ne (Ne.symm Se37), go_sem, yz0, Int.reduceLT, reduceLE, reduceToNat, reduceNeg, Nat.reduceLT, reduceLeDiff, reduceMul, reduceSub, reduceIte, reduceEqDiff, reduceAdd, reduceCtorEq]
  refine yzo rfl rfl (yz1e hy5.1) rfl fun Sm4 => ?_
  simp only [wo_ne Se04, wo_ne Se14, wo_ne Se24, wo_ne Se34, wo_ne (Ne.symm Se45), wo_ne (Ne.symm Se46), wo_ne (Ne.symm Se47), go_sem, yz0, Int.reduceLT, reduceLE, reduceToNat, reduceNeg, Nat.reduceLT, reduceLeDiff, reduceMul, reduceSub, reduceIte, reduceEqDiff, reduceAdd, reduceCtorEq]
  refine yzo rfl rfl (yz1e hy6.1) rfl fun Sm5 => ?_
  simp only [wo_ne Se05, wo_ne Se15, wo_ne Se25, wo_ne Se35, wo_ne Se45, wo_ne (Ne.symm Se56), wo_ne (Ne.symm Se57), go_sem, yz0, Int.reduceLT, reduceLE, reduceToNat, reduceNeg, Nat.reduceLT, reduceLeDiff, reduceMul, reduceSub, reduceIte, reduceEqDiff, reduceAdd, reduceCtorEq]
  refine yzo rfl rfl (yz1e hy7.1) rfl fun Sm6 => ?_
  simp only [wo_ne Se06, wo_ne Se16, wo_ne Se26, wo_ne Se36, wo_ne Se46, wo_ne Se56, wo_ne (Ne.symm Se67), go_sem, yz0, Int.reduceLT, reduceLE, reduceToNat, reduceNeg, Nat.reduceLT, reduceLeDiff, reduceMul, reduceSub, reduceIte, reduceEqDiff, reduceAdd, reduceCtorEq]
  refine yzo rfl rfl (yz1e hy8.1) rfl fun Sm7 => ?_
  simp only [wo_ne Se07, wo_ne Se17, wo_ne Se27, wo_ne Se37, wo_ne Se47, wo_ne Se57, wo_ne Se67, go_sem, yz0, Int.reduceLT, reduceLE, reduceToNat, reduceNeg, Nat.reduceLT, reduceLeDiff, reduceMul, reduceSub, reduceIte, reduceEqDiff, reduceAdd, reduceCtorEq]
  simp only [gwp_nil, go_sem, yz0, Int.reduceLT, reduceLE, reduceToNat, reduceNeg, Nat.reduceLT, reduceLeDiff, reduceMul, reduceSub, reduceIte, reduceEqDiff, reduceAdd, reduceCtorEq]
  rintro vs6 U6 hN6
  refine call_machN (fun x y e => (hN6.inj _ _ _ _ e).2) (k_toMachineN n o next out hb_next hc_next hb_out hc_out) (by simp only [yzt, rowIs, boxIs, yzd, yz7, yze, yz9, yz6, yzi, yzh, yz14, yz4, yz2, yz17, yz5, yz16, yz3, yzj, yzf, yzc, yz1, yzb, yza, L_hit, yz15, L_nil, reduceEqDiff, ne_eq, reduceCtorEq, not_false_eq_true, true_and, and_true, and_self, exists_eq_left, exists_eq_right, List.mem_cons, List.not_mem_nil, or_false, AObj.row.injEq, AObj.box.injEq, exists_eq_left', exists_and_left, exists_eq, Nat.zero_lt_one, Nat.lt_add_one, List.map_cons, List.map_nil, AObj.ver, Nat.reduceLT, not_true_eq_false]) rfl rfl ?_
  intro v3 v4 ps_next ps_out hps_next hps_out hdj
  clear hN6
  have htt_next : totL ps_next ≤ 1048576 := by have h := szLL_tot (ps := ps_next) (l := 1048576) (by rw [hps_next]; omega) (by omega); omega
  have htn_next := totL_nn ps_next
  have hdp_next : ∀ p ∈ ps_next, (p.2.length : Int) ≤ 1000000000 := fun p hp => hd_next p.2 (by rw [← hps_next]; exact List.mem_map_of_mem hp)
  have htt_out : totL ps_out ≤ 1048576 := by have h := szLL_tot (ps := ps_out) (l := (szLL next 1048576)) (by rw [hps_out]; omega) (by omega); omega
  have htn_out := totL_nn ps_out
  have hdp_out : ∀ p ∈ ps_out, (p.2.length : Int) ≤ 1000000000 := fun p hp => hd_out p.2 (by rw [← hps_out]; exact List.mem_map_of_mem hp)
  simp only [Bz11, go_sem, yz0, Int.reduceLT, reduceLE, reduceToNat, reduceNeg, Nat.reduceLT, reduceLeDiff, reduceMul, reduceSub, reduceIte, reduceEqDiff, reduceAdd, reduceCtorEq]
  rintro vs7 U7 hN7
  refine call_setR (fun x y e => (hN7.inj _ _ _ _ e).2) KI (by simp only [← hps_next, ← hps_out, coeL_rwp_t, rowIs, boxIs, yzd, yz7, yze, yz9, yz6, yzi, yzh, yz14, yz4, yz2, yz17, yz5, yz16, yz3, yzj, yzf, yzc, yz1, yzb, yza, L_hit, yz15, L_nil, reduceEqDiff, ne_eq, reduceCtorEq, not_false_eq_true, true_and, and_true, and_self, exists_eq_left, exists_eq_right, List.mem_cons, List.not_mem_nil, or_false, AObj.row.injEq, AObj.box.injEq, exists_eq_left', exists_and_left, exists_eq, Nat.zero_lt_one, Nat.lt_add_one, List.map_cons, List.map_nil, AObj.ver, Nat.reduceLT, not_true_eq_false]) rfl (fun _ vG pG hG hdG hyG => ?_) (fun h => by cases h)
  obtain ⟨Gp0, Gp1, Gp2, Gp3, Gp4, Gp5, Gp6, Gp7, rfl, Ge01, Ge02, Ge03, Ge04, Ge05, Ge06, Ge07, Ge12, Ge13, Ge14, Ge15, Ge16, Ge17, Ge23, Ge24, Ge25, Ge26, Ge27, Ge34, Ge35, Ge36, Ge37, Ge45, Ge46, Ge47, Ge56, Ge57, Ge67⟩ := namR8 hG hdG hy1.1 hy2.1 hy3.1 hy4.1 hy5.1 hy6.1 hy7.1 hy8.1
  have hU_next := hN7.hp 26
  simp only [AObj.uses, go_sem, yz0, Int.reduceLT, reduceLE, reduceToNat, reduceNeg, Nat.reduceLT, reduceLeDiff, reduceMul, reduceSub, reduceIte, reduceEqDiff, reduceAdd, reduceCtorEq] at hU_next
  have hold_next := usesL_rwp (rest := []) (by rw [List.append_nil]; exact hU_next.2)
  have hf_next0 := yz1x hold_next hN7.new (hyG (Gp0, y1) (by simp))
  have hf_next1 := yz1x hold_next hN7.new (hyG (Gp1, y2) (by simp))
  have hf_next2 := yz1x hold_next hN7.new (hyG (Gp2, y3) (by simp))
  have hf_next3 := yz1x hold_next hN7.new (hyG (Gp3, y4) (by simp))
  have hf_next4 := yz1x hold_next hN7.new (hyG (Gp4, y5) (by simp))
  have hf_next5 := yz1x hold_next hN7.new (hyG (Gp5, y6) (by simp))
  have hf_next6 := yz1x hold_next hN7.new (hyG (Gp6, y7) (by simp))
  have hf_next7 := yz1x hold_next hN7.new (hyG (Gp7, y8) (by simp))
  have hU_out := hN7.hp 1026
  simp only [AObj.uses, go_sem, yz0, Int.reduceLT, reduceLE, reduceToNat, reduceNeg, Nat.reduceLT, reduceLeDiff, reduceMul, reduceSub, reduceIte, reduceEqDiff, reduceAdd, reduceCtorEq] at hU_out
  have hold_out := usesL_rwp (rest := []) (by rw [List.append_nil]; exact hU_out.2)
  have hf_out0 := yz1x hold_out hN7.new (hyG (Gp0, y1) (by simp))
  have hf_out1 := yz1x hold_out hN7.new (hyG (Gp1, y2) (by simp))
  have hf_out2 := yz1x hold_out hN7.new (hyG (Gp2, y3) (by simp))
  have hf_out3 := yz1x hold_out hN7.new (hyG (Gp3, y4) (by simp))
  have hf_out4 := yz1x hold_out hN7.new (hyG (Gp4, y5) (by simp))
  have hf_out5 := yz1x hold_out hN7.new (hyG (Gp5, y6) (by simp))
  have hf_out6 := yz1x hold_out hN7.new (hyG (Gp6, y7) (by simp))
  have hf_out7 := yz1x hold_out hN7.new (hyG (Gp7, y8) (by simp))
  simp only [Bz10, bne_self_eq_false, yzp, yz8, wpD_gh, go_sem, yz0, Int.reduceLT, reduceLE, reduceToNat, reduceNeg, Nat.reduceLT, reduceLeDiff, reduceMul, reduceSub, reduceIte, reduceEqDiff, reduceAdd, reduceCtorEq]
  intro _
  refine ⟨[.thaw 29 0 911, .thaw 29 1 912, .thaw 29 2 913, .thaw 29 3 914, .thaw 29 4 915, .thaw 29 5 916, .thaw 29 6 917, .thaw 29 7 918], ?_⟩
  refine yzo rfl rfl (yz1e hy1.1) rfl fun Gm0 => ?_
  simp only [wo_ne (Ne.symm Ge01), wo_ne (Ne.symm Ge02), wo_ne (Ne.symm Ge03), wo_ne (Ne.symm Ge04), wo_ne (Ne.symm Ge05), wo_ne (Ne.symm Ge06), wo_ne (Ne.symm Ge07), yz18 hf_next0, yz18 hf_out0, go_sem, yz0, Int.reduceLT, reduceLE, reduceToNat, reduceNeg, Nat.reduceLT, reduceLeDiff, reduceMul, reduceSub, reduceIte, reduceEqDiff, reduceAdd, reduceCtorEq]
  refine yzo rfl rfl (yz1e hy2.1) rfl fun Gm1 => ?_
  simp only [wo_ne Ge01, wo_ne (Ne.symm Ge12), wo_ne (Ne.symm Ge13), wo_ne (Ne.symm Ge14), wo_ne (Ne.symm Ge15), wo_ne (Ne.symm Ge16), wo_ne (Ne.symm Ge17), yz18 hf_next1, yz18 hf_out1, go_sem, yz0, Int.reduceLT, reduceLE, reduceToNat, reduceNeg, Nat.reduceLT, reduceLeDiff, reduceMul, reduceSub, reduceIte, reduceEqDiff, reduceAdd, reduceCtorEq]
  refine yzo rfl rfl (yz1e hy3.1) rfl fun Gm2 => ?_
  simp only [wo_ne Ge02, wo_ne Ge12, wo_ne (Ne.symm Ge23), wo_ne (Ne.symm Ge24), wo_ne (Ne.symm Ge25), wo_ne (Ne.symm Ge26), wo_ne (Ne.symm Ge27), yz18 hf_next2, yz18 hf_out2, go_sem, yz0, Int.reduceLT, reduceLE, reduceToNat, reduceNeg, Nat.reduceLT, reduceLeDiff, reduceMul, reduceSub, reduceIte, reduceEqDiff, reduceAdd, reduceCtorEq]
  refine yzo rfl rfl (yz1e hy4.1) rfl fun Gm3 => ?_
  simp only [wo_ne Ge03, wo_ne Ge13, wo_ne Ge23, wo_ne (Ne.symm Ge34), wo_ne (Ne.symm Ge35), wo_ne (Ne.symm Ge36), wo_ne (Ne.symm Ge37), yz18 hf_next3, yz18 hf_out3, go_sem, yz0, Int.reduceLT, reduceLE, reduceToNat, reduceNeg, Nat.reduceLT, reduceLeDiff, reduceMul, reduceSub, reduceIte, reduceEqDiff, reduceAdd, reduceCtorEq]
  refine yzo rfl rfl (yz1e hy5.1) rfl fun Gm4 => ?_
  simp only [wo_ne Ge04, wo_ne Ge14, wo_ne Ge24, wo_ne Ge34, wo_ne (Ne.symm Ge45), wo_ne (Ne.symm Ge46), wo_ne (Ne.symm Ge47), yz18 hf_next4, yz18 hf_out4, go_sem, yz0, Int.reduceLT, reduceLE, reduceToNat, reduceNeg, Nat.reduceLT, reduceLeDiff, reduceMul, reduceSub, reduceIte, reduceEqDiff, reduceAdd, reduceCtorEq]
  refine yzo rfl rfl (yz1e hy6.1) rfl fun Gm5 => ?_
  simp only [wo_ne Ge05, wo_ne Ge15, wo_ne Ge25, wo_ne Ge35, wo_ne Ge45, wo_ne (Ne.symm Ge56), wo_ne (Ne.symm Ge57), yz18 hf_next5, yz18 hf_out5, go_sem, yz0, Int.reduceLT, reduceLE, reduceToNat, reduceNeg, Nat.reduceLT, reduceLeDiff, reduceMul, reduceSub, reduceIte, reduceEqDiff, reduceAdd, reduceCtorEq]
  refine yzo rfl rfl (yz1e hy7.1) rfl fun Gm6 => ?_
  simp only [wo_ne Ge06, wo_ne Ge16, wo_ne Ge26, wo_ne Ge36, wo_ne Ge46, wo_ne Ge56, wo_ne (Ne.symm Ge67), yz18 hf_next6, yz18 hf_out6, go_sem, yz0, Int.reduceLT, reduceLE, reduceToNat, reduceNeg, Nat.reduceLT, reduceLeDiff, reduceMul, reduceSub, reduceIte, reduceEqDiff, reduceAdd, reduceCtorEq]
  refine yzo rfl rfl (yz1e hy8.1) rfl fun Gm7 => ?_
  simp only [wo_ne Ge07, wo_ne Ge17, wo_ne Ge27, wo_ne Ge37, wo_ne Ge47, wo_ne Ge57, wo_ne Ge67, yz18 hf_next7, yz18 hf_out7, go_sem, yz0, Int.reduceLT, reduceLE, reduceToNat, reduceNeg, Nat.reduceLT, reduceLeDiff, reduceMul, reduceSub, reduceIte, reduceEqDiff, reduceAdd, reduceCtorEq]
  simp only [gwp_nil, go_sem, yz0, Int.reduceLT, reduceLE, reduceToNat, reduceNeg, Nat.reduceLT, reduceLeDiff, reduceMul, reduceSub, reduceIte, reduceEqDiff, reduceAdd, reduceCtorEq]
  rintro vs8 U8 -
  refine yzg (yz1j [y1, y2, y3, y4, y5, y6, y7, y8] [y1, y2, y3, y4, y5, y6, y7, y8]) (by simp only [yz1t, yz1z, yz23, rwp_nil, yzn, rowIs, boxIs, yzd, yz7, yze, yz9, yz6, yzi, yzh, yz14, yz4, yz2, yz17, yz5, yz16, yz3, yzj, yzf, yzc, yz1, yzb, yza, L_hit, yz15, L_nil, reduceEqDiff, ne_eq, reduceCtorEq, not_false_eq_true, true_and, and_true, and_self, exists_eq_left, exists_eq_right, List.mem_cons, List.not_mem_nil, or_false, AObj.row.injEq, AObj.box.injEq, exists_eq_left', exists_and_left, exists_eq, Nat.zero_lt_one, Nat.lt_add_one, List.map_cons, List.map_nil, AObj.ver, Nat.reduceLT, not_true_eq_false]) trivial ?_
  simp only [Bzb, Bzz, decide_true, Bool.and_self, bne_self_eq_false, go_sem, yz0, Int.reduceLT, reduceLE, reduceToNat, reduceNeg, Nat.reduceLT, reduceLeDiff, reduceMul, reduceSub, reduceIte, reduceEqDiff, reduceAdd, reduceCtorEq]
  rintro vs9 U9 -
  refine yz1u (yz1k n o next out hb_next hc_next hb_out hc_out) (by simp only [yzt, rowIs, boxIs, yzd, yz7, yze, yz9, yz6, yzi, yzh, yz14, yz4, yz2, yz17, yz5, yz16, yz3, yzj, yzf, yzc, yz1, yzb, yza, L_hit, yz15, L_nil, reduceEqDiff, ne_eq, reduceCtorEq, not_false_eq_true, true_and, and_true, and_self, exists_eq_left, exists_eq_right, List.mem_cons, List.not_mem_nil, or_false, AObj.row.injEq, AObj.box.injEq, exists_eq_left', exists_and_left, exists_eq, Nat.zero_lt_one, Nat.lt_add_one, List.map_cons, List.map_nil, AObj.ver, Nat.reduceLT, not_true_eq_false]) rfl rfl ?_
  intro v5 v6
  try simp only [List.map_cons, List.map_nil, List.cons_append, List.nil_append, go_sem, yz0, Int.reduceLT, reduceLE, reduceToNat, reduceNeg, Nat.reduceLT, reduceLeDiff, reduceMul, reduceSub, reduceIte, reduceEqDiff, reduceAdd, reduceCtorEq]
  refine yzg (k_eqMachine n n o o next out next out) (by simp only [← hps_next, ← hps_out, coeL_rwp_t, rowIs, boxIs, yzd, yz7, yze, yz9, yz6, yzi, yzh, yz14, yz4, yz2, yz17, yz5, yz16, yz3, yzj, yzf, yzc, yz1, yzb, yza, L_hit, yz15, L_nil, reduceEqDiff, ne_eq, reduceCtorEq, not_false_eq_true, true_and, and_true, and_self, exists_eq_left, exists_eq_right, List.mem_cons, List.not_mem_nil, or_false, AObj.row.injEq, AObj.box.injEq, exists_eq_left', exists_and_left, exists_eq, Nat.zero_lt_one, Nat.lt_add_one, List.map_cons, List.map_nil, AObj.ver, Nat.reduceLT, not_true_eq_false]) trivial ?_
  simp only [Bzc, Bzy, Bzx, decide_true, Bool.and_self, bne_self_eq_false, go_sem, yz0, Int.reduceLT, reduceLE, reduceToNat, reduceNeg, Nat.reduceLT, reduceLeDiff, reduceMul, reduceSub, reduceIte, reduceEqDiff, reduceAdd, reduceCtorEq]
  rintro vs10 U10 - vs11 U11 -
  refine call_hav (k_markMachine n o ps_next ps_out hdj 1 (by omega) hdp_next hdp_out) ?_ ?_
  · simp only [coeHL_cons, coeHL_nil, coeH_val, coeH_st, and_true, true_and]
    refine ⟨?_, ?_⟩ <;> exact coeH_own (nn := true) qWS
  rintro x ⟨k1, rfl, hk1a, hk1b⟩
  have hkn1 : ¬ (k1 < 0) := by omega
  simp only [Bzw, cl_L, clT, clO, clV_any, clV_val, clV_own, clV_ptr, clV_st, clV_o, clL_ints, clL_rwo, clL_cons, clL_nil, clR_row, clR_box, clR_gone, decide_eq_false hkn1, go_sem, yz0, Int.reduceLT, reduceLE, reduceToNat, reduceNeg, Nat.reduceLT, reduceLeDiff, reduceMul, reduceSub, reduceIte, reduceEqDiff, reduceAdd, reduceCtorEq]
  rintro vs12 U12 -
  refine yzg (yz1j [y1, y2, y3, y4, y5, y6, y7, y8] [y1, y2, y3, y4, y5, y6, y7, y8]) (by simp only [yz1t, yz1z, yz23, rwp_nil, yzn, rowIs, boxIs, yzd, yz7, yze, yz9, yz6, yzi, yzh, yz14, yz4, yz2, yz17, yz5, yz16, yz3, yzj, yzf, yzc, yz1, yzb, yza, L_hit, yz15, L_nil, reduceEqDiff, ne_eq, reduceCtorEq, not_false_eq_true, true_and, and_true, and_self, exists_eq_left, exists_eq_right, List.mem_cons, List.not_mem_nil, or_false, AObj.row.injEq, AObj.box.injEq, exists_eq_left', exists_and_left, exists_eq, Nat.zero_lt_one, Nat.lt_add_one, List.map_cons, List.map_nil, AObj.ver, Nat.reduceLT, not_true_eq_false]) trivial ?_
  simp only [Bzd, Bzv, Bzu, decide_true, Bool.and_self, bne_self_eq_false, go_sem, yz0, Int.reduceLT, reduceLE, reduceToNat, reduceNeg, Nat.reduceLT, reduceLeDiff, reduceMul, reduceSub, reduceIte, reduceEqDiff, reduceAdd, reduceCtorEq]
  rintro vs13 U13 - vs14 U14 -
  refine call_mark8 (r := 29) (q1 := 911) (q2 := 912) (q3 := 913) (q4 := 914) (q5 := 915) (q6 := 916) (q7 := 917) (q8 := 918) (k_markSS8 y1 y2 y3 y4 y5 y6 y7 y8 1 (by omega) hy1.2 hy2.2 hy3.2 hy4.2 hy5.2 hy6.2 hy7.2 hy8.2) rfl rfl rfl rfl rfl rfl rfl rfl rfl (by decide) (by simp only [yz6, yz9, yzh, and_true, Coe]; exact ⟨0, _, _, rfl, rfl, rfl, rfl, rfl⟩) ?_
  simp only [Bzt, Bzs, go_sem, yz0, Int.reduceLT, reduceLE, reduceToNat, reduceNeg, Nat.reduceLT, reduceLeDiff, reduceMul, reduceSub, reduceIte, reduceEqDiff, reduceAdd, reduceCtorEq]
  rintro vs15 U15 - vs16 U16 -
  have hneg : ¬ (((1 : Int) + y1.length + y2.length + y3.length + y4.length + y5.length + y6.length + y7.length + y8.length) < 0) := by omega
  have hheld : Fun Try.prog nz9 [.ro none 1 (rwn [seqI (1) y1.length, seqI (1 + y1.length) y2.length, seqI (1 + y1.length + y2.length) y3.length, seqI (1 + y1.length + y2.length + y3.length) y4.length, seqI (1 + y1.length + y2.length + y3.length + y4.length) y5.length, seqI (1 + y1.length + y2.length + y3.length + y4.length + y5.length) y6.length, seqI (1 + y1.length + y2.length + y3.length + y4.length + y5.length + y6.length) y7.length, seqI (1 + y1.length + y2.length + y3.length + y4.length + y5.length + y6.length + y7.length) y8.length]), iv 1] (iv (1 + y1.length + y2.length + y3.length + y4.length + y5.length + y6.length + y7.length + y8.length)) := by
    have h := k_heldSS [seqI (1) y1.length, seqI (1 + y1.length) y2.length, seqI (1 + y1.length + y2.length) y3.length, seqI (1 + y1.length + y2.length + y3.length) y4.length, seqI (1 + y1.length + y2.length + y3.length + y4.length) y5.length, seqI (1 + y1.length + y2.length + y3.length + y4.length + y5.length) y6.length, seqI (1 + y1.length + y2.length + y3.length + y4.length + y5.length + y6.length) y7.length, seqI (1 + y1.length + y2.length + y3.length + y4.length + y5.length + y6.length + y7.length) y8.length] 1 (by simp only [totX, yz1y]; omega) (by intro x hx; simp only [List.mem_cons, List.not_mem_nil, or_false] at hx; rcases hx with rfl | rfl | rfl | rfl | rfl | rfl | rfl | rfl <;> rw [yz1y] <;> omega) (by simp [okRows, yz1y])
    have e : (1 : Int) + totX [seqI (1) y1.length, seqI (1 + y1.length) y2.length, seqI (1 + y1.length + y2.length) y3.length, seqI (1 + y1.length + y2.length + y3.length) y4.length, seqI (1 + y1.length + y2.length + y3.length + y4.length) y5.length, seqI (1 + y1.length + y2.length + y3.length + y4.length + y5.length) y6.length, seqI (1 + y1.length + y2.length + y3.length + y4.length + y5.length + y6.length) y7.length, seqI (1 + y1.length + y2.length + y3.length + y4.length + y5.length + y6.length + y7.length) y8.length] = 1 + y1.length + y2.length + y3.length + y4.length + y5.length + y6.length + y7.length + y8.length := by simp only [totX, yz1y]; omega
    rw [e] at h; exact h
  refine yzg hheld (by simp only [yz1t, yz1z, yzn, rowIs, boxIs, yzd, yz7, yze, yz9, yz6, yzi, yzh, yz14, yz4, yz2, yz17, yz5, yz16, yz3, yzj, yzf, yzc, yz1, yzb, yza, L_hit, yz15, L_nil, reduceEqDiff, ne_eq, reduceCtorEq, not_false_eq_true, true_and, and_true, and_self, exists_eq_left, exists_eq_right, List.mem_cons, List.not_mem_nil, or_false, AObj.row.injEq, AObj.box.injEq, exists_eq_left', exists_and_left, exists_eq, Nat.zero_lt_one, Nat.lt_add_one, List.map_cons, List.map_nil, AObj.ver, Nat.reduceLT, not_true_eq_false]) trivial ?_
  simp only [Bzr, Bze, Bzq, Bzf, Bzp, bne_self_eq_false, decide_eq_false hneg, go_sem, yz0, Int.reduceLT, reduceLE, reduceToNat, reduceNeg, Nat.reduceLT, reduceLeDiff, reduceMul, reduceSub, reduceIte, reduceEqDiff, reduceAdd, reduceCtorEq]
  rintro vs17 U17 - vs18 U18 - vs19 U19 hN19
  refine yz1u (yz1k n o next out hb_next hc_next hb_out hc_out) (by simp only [yzt, rowIs, boxIs, yzd, yz7, yze, yz9, yz6, yzi, yzh, yz14, yz4, yz2, yz17, yz5, yz16, yz3, yzj, yzf, yzc, yz1, yzb, yza, L_hit, yz15, L_nil, reduceEqDiff, ne_eq, reduceCtorEq, not_false_eq_true, true_and, and_true, and_self, exists_eq_left, exists_eq_right, List.mem_cons, List.not_mem_nil, or_false, AObj.row.injEq, AObj.box.injEq, exists_eq_left', exists_and_left, exists_eq, Nat.zero_lt_one, Nat.lt_add_one, List.map_cons, List.map_nil, AObj.ver, Nat.reduceLT, not_true_eq_false]) rfl rfl ?_
  intro v7 v8
  try simp only [List.map_cons, List.map_nil, List.cons_append, List.nil_append, go_sem, yz0, Int.reduceLT, reduceLE, reduceToNat, reduceNeg, Nat.reduceLT, reduceLeDiff, reduceMul, reduceSub, reduceIte, reduceEqDiff, reduceAdd, reduceCtorEq]
  refine call_setR (fun x y e => (hN19.inj _ _ _ _ e).2) KI qCS rfl (fun _ vH pH hH hdH hyH => ?_) (fun h => by cases h)
  obtain ⟨Hp0, Hp1, Hp2, Hp3, Hp4, Hp5, Hp6, Hp7, rfl, He01, He02, He03, He04, He05, He06, He07, He12, He13, He14, He15, He16, He17, He23, He24, He25, He26, He27, He34, He35, He36, He37, He45, He46, He47, He56, He57, He67⟩ := namR8 hH hdH hy1.1 hy2.1 hy3.1 hy4.1 hy5.1 hy6.1 hy7.1 hy8.1
  simp only [Bzo, bne_self_eq_false, go_sem, yz0, Int.reduceLT, reduceLE, reduceToNat, reduceNeg, Nat.reduceLT, reduceLeDiff, reduceMul, reduceSub, reduceIte, reduceEqDiff, reduceAdd, reduceCtorEq]
  rintro vs20 U20 -
  refine yzg (yz1j [y1, y2, y3, y4, y5, y6, y7, y8] [y1, y2, y3, y4, y5, y6, y7, y8]) (by simp only [yz1t, yz1z, yz23, rwp_nil, yzn, rowIs, boxIs, yzd, yz7, yze, yz9, yz6, yzi, yzh, yz14, yz4, yz2, yz17, yz5, yz16, yz3, yzj, yzf, yzc, yz1, yzb, yza, L_hit, yz15, L_nil, reduceEqDiff, ne_eq, reduceCtorEq, not_false_eq_true, true_and, and_true, and_self, exists_eq_left, exists_eq_right, List.mem_cons, List.not_mem_nil, or_false, AObj.row.injEq, AObj.box.injEq, exists_eq_left', exists_and_left, exists_eq, Nat.zero_lt_one, Nat.lt_add_one, List.map_cons, List.map_nil, AObj.ver, Nat.reduceLT, not_true_eq_false]) trivial ?_
  simp only [Bzg, Bzn, Bzm, decide_true, Bool.and_self, bne_self_eq_false, go_sem, yz0, Int.reduceLT, reduceLE, reduceToNat, reduceNeg, Nat.reduceLT, reduceLeDiff, reduceMul, reduceSub, reduceIte, reduceEqDiff, reduceAdd, reduceCtorEq]
  rintro vs21 U21 - vs22 U22 -
  refine yzg hheld (by simp only [yz1t, yz1z, yzn, rowIs, boxIs, yzd, yz7, yze, yz9, yz6, yzi, yzh, yz14, yz4, yz2, yz17, yz5, yz16, yz3, yzj, yzf, yzc, yz1, yzb, yza, L_hit, yz15, L_nil, reduceEqDiff, ne_eq, reduceCtorEq, not_false_eq_true, true_and, and_true, and_self, exists_eq_left, exists_eq_right, List.mem_cons, List.not_mem_nil, or_false, AObj.row.injEq, AObj.box.injEq, exists_eq_left', exists_and_left, exists_eq, Nat.zero_lt_one, Nat.lt_add_one, List.map_cons, List.map_nil, AObj.ver, Nat.reduceLT, not_true_eq_false]) trivial ?_
  simp only [Bzl, Bzh, Bzk, Bzi, Bzj, bne_self_eq_false, decide_eq_false hneg, go_sem, yz0, Int.reduceLT, reduceLE, reduceToNat, reduceNeg, Nat.reduceLT, reduceLeDiff, reduceMul, reduceSub, reduceIte, reduceEqDiff, reduceAdd, reduceCtorEq]
  try simp
end Go.Ab
