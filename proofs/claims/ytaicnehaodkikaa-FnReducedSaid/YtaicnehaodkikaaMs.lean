/- Contracts: the program's outputs of a word; two machines drawn, for a caller. Conditions: none. -/
import Derived.Test.YtaicnehaodkikaaMr
set_option linter.all false
namespace Go.Ab
open Go.Proofs
set_option maxRecDepth 20000
set_option maxHeartbeats 4000000

theorem k_Machine_isWord (n o : Int) (next out : List (List Int)) (w : List Int) (hl : 1 ≤ next.length ∧ next.length ≤ 3) : Fun Try.prog n_impl_Machine_isWord [machA n o next out, .ro none 1 (ints w)] (bv (wordB next.length w)) := by
  refine fun_of mixed c_impl_Machine_isWord rfl ⟨rfl, trivial⟩ ?_
  simp only [A_impl_Machine_isWord, B_impl_Machine_isWord_1, go_sem, adopt_fun, Int.reduceLT, Int.reduceLE, Int.reduceToNat, Int.reduceNeg, Nat.reduceLT, Nat.reduceLeDiff, Nat.reduceMul, Nat.reduceSub, reduceIte, Nat.reduceEqDiff, Nat.reduceAdd, reduceCtorEq]
  intro vs vs2
  refine call_sh (k_forget n o next out) qCS (fun e => by cases e) ?_
  rintro outs rows res ⟨rfl, rfl, rfl⟩
  refine ⟨rfl, by simp, by simp, ?_⟩
  simp only [Nat.not_lt_zero, range1, ren_val, ren_any, ren_ro, rnNm_n, rnNm_sn, rnNm_o, rnNm_s, ren_st, ren_tup, renL_nil, renL_cons, renL_intsK, renL_rws, renL_rwn, oren_box, oren_row, oren_map, ren_own_e0, ren_own_e1, ren_own_e2, ren_ptr_e0, ren_mp_e0, ren_mp_e1, ren_own_r0, ren_own_r1, ren_own_r2, ren_ptr_r0, ren_mp_r0, ren_mp_r1, List.range_zero, callHp_nil, callHp_one, callHp_two, gone_nil, gone_one, gone_two, AVal.fresh, freshL, fresh_intsK, fresh_rws, AObj.fresh, id, Option.isSome_some, or_true, true_or, go_sem, adopt_fun, Int.reduceLT, Int.reduceLE, Int.reduceToNat, Int.reduceNeg, Nat.reduceLT, Nat.reduceLeDiff, Nat.reduceMul, Nat.reduceSub, reduceIte, Nat.reduceEqDiff, Nat.reduceAdd, reduceCtorEq]
  refine call_fun (k_isWord n next w hl) qCS trivial ?_
  simp only [go_sem, adopt_fun, Int.reduceLT, Int.reduceLE, Int.reduceToNat, Int.reduceNeg, Nat.reduceLT, Nat.reduceLeDiff, Nat.reduceMul, Nat.reduceSub, reduceIte, Nat.reduceEqDiff, Nat.reduceAdd, reduceCtorEq]

theorem k_OutputsOf_1 (n o : Int) (next out : List (List Int)) (s : Int) (w : List Int) (hn : 1 ≤ n ∧ n ≤ 10) (hl : 1 ≤ next.length ∧ next.length ≤ 3) :
    Fun Try.prog n_impl_OutputsOf_1 [machP n o next out, .rp [iv s] 0, .rp [.ro none 1 (ints w)] 0] (bv ((decide (0 ≤ s) && decide (s ≤ n - 1)) && wordB next.length w)) := by
  refine fun_of mixed c_impl_OutputsOf_1 rfl ⟨rfl, trivial⟩ ?_
  simp only [B_impl_OutputsOf_1_1, A_impl_OutputsOf_1, go_sem, adopt_fun, Int.reduceLT, Int.reduceLE, Int.reduceToNat, Int.reduceNeg, Nat.reduceLT, Nat.reduceLeDiff, Nat.reduceMul, Nat.reduceSub, reduceIte, Nat.reduceEqDiff, Nat.reduceAdd, reduceCtorEq]
  intro vs
  refine call_fun (k_Machine_isState n o next out s hn) qCS trivial ?_
  cases hs : (decide (0 ≤ s) && decide (s ≤ n - 1)) with
  | false => simp only [Bool.false_and, go_sem, adopt_fun, Int.reduceLT, Int.reduceLE, Int.reduceToNat, Int.reduceNeg, Nat.reduceLT, Nat.reduceLeDiff, Nat.reduceMul, Nat.reduceSub, reduceIte, Nat.reduceEqDiff, Nat.reduceAdd, reduceCtorEq]
  | true =>
    simp only [Bool.true_and, go_sem, adopt_fun, Int.reduceLT, Int.reduceLE, Int.reduceToNat, Int.reduceNeg, Nat.reduceLT, Nat.reduceLeDiff, Nat.reduceMul, Nat.reduceSub, reduceIte, Nat.reduceEqDiff, Nat.reduceAdd, reduceCtorEq]
    refine call_fun (k_Machine_isWord n o next out w hl) qCS trivial ?_
    simp only [go_sem, adopt_fun, Int.reduceLT, Int.reduceLE, Int.reduceToNat, Int.reduceNeg, Nat.reduceLT, Nat.reduceLeDiff, Nat.reduceMul, Nat.reduceSub, reduceIte, Nat.reduceEqDiff, Nat.reduceAdd, reduceCtorEq]

theorem k_Machine_outputs (n o : Int) (next out : List (List Int)) (M : Mach n o next out) (s : Int) (hs : 0 ≤ s ∧ s < n) (w : List Int) (hw : IsW next.length w) (hwl : w.length ≤ 1000000) :
    Fn Try.prog n_impl_Machine_outputs [machA n o next out, iv s, .ro none 1 (ints w)] fun rows res => ∃ v, rows = [.row v 1 true (ints (outsA next out s w))] ∧ res = .tup [.own 6000 v, iv (atA next s w)] := by
  refine con_of mixed c_impl_Machine_outputs rfl (by simp) ?_
  generalize hQ : finQ _ = Q
  simp only [A_impl_Machine_outputs, B_impl_Machine_outputs_1, go_sem, adopt_fun, Int.reduceLT, Int.reduceLE, Int.reduceToNat, Int.reduceNeg, Nat.reduceLT, Nat.reduceLeDiff, Nat.reduceMul, Nat.reduceSub, reduceIte, Nat.reduceEqDiff, Nat.reduceAdd, reduceCtorEq]
  intro vs vs1
  simp only [B_impl_Machine_outputs_2, B_impl_Machine_outputs_3, go_sem, adopt_fun, Int.reduceLT, Int.reduceLE, Int.reduceToNat, Int.reduceNeg, Nat.reduceLT, Nat.reduceLeDiff, Nat.reduceMul, Nat.reduceSub, reduceIte, Nat.reduceEqDiff, Nat.reduceAdd, reduceCtorEq]
  intro hMw
  refine wpD_lo (fun (_, i, _, _) => w.length - i) (fun (_, i, u, r) => i ≤ w.length ∧ (0 ≤ u ∧ u < n) ∧ r ++ outsA next out u (w.drop i) = outsA next out s w ∧ atA next u (w.drop i) = atA next s w ∧ List.length r = i)
    (fun ((va, i, u, r) : Nat × Nat × Int × List Int) => ⟨L .any [(1, iv u), (3, .ptr 3 (vs 0 0) 0), (8, .own 11 va), (12, .ro none 1 (ints w)), (13, iv w.length), (14, iv i)], L .gone [(3, .box (vs 0 0) [iv n, iv o, .ro none 1 (rwn next), .ro none 1 (rwn out)]), (11, .row va 1 true (ints r))]⟩)
    (_, 0, s, []) ⟨by omega, hs, rfl, rfl, rfl⟩ (by simp only [B_impl_Machine_outputs_4, go_sem, adopt_fun, Int.reduceLT, Int.reduceLE, Int.reduceToNat, Int.reduceNeg, Nat.reduceLT, Nat.reduceLeDiff, Nat.reduceMul, Nat.reduceSub, reduceIte, Nat.reduceEqDiff, Nat.reduceAdd, reduceCtorEq]; try rfl) ?_
  rintro ⟨va, i, u, r⟩ ⟨hi, hu, hr, hat, hrl⟩
  have hi : i ≤ w.length := hi
  have hrl : r.length = i := hrl
  by_cases hlt : (i : Int) < w.length
  · have hlt1 : i < w.length := by omega
    rw [drop_getD hlt1 0] at hr hat
    have hx := hw _ (getD_mem hlt1 0)
    generalize hxe : w.getD i 0 = x at hr hat hx
    have hxl : x.toNat < next.length := by omega
    have hxo : x.toNat < out.length := by rw [M.len]; exact hxl
    have r1 := M.aut.row _ (getD_mem hxl [])
    have r2 := M.row _ (getD_mem hxo [])
    have z1 : u.toNat < (next.getD x.toNat []).length := by omega
    have z2 : u.toNat < (out.getD x.toNat []).length := by omega
    have hst := r1.2 _ (getD_mem z1 0)
    simp only [B_impl_Machine_outputs_4, B_impl_Machine_outputs_5, B_impl_Machine_outputs_6, intsK_getD hlt1, hxe, rwn_getD hxo, intsK_getD z2, decide_eq_true hlt, go_sem, adopt_fun, Int.reduceLT, Int.reduceLE, Int.reduceToNat, Int.reduceNeg, Nat.reduceLT, Nat.reduceLeDiff, Nat.reduceMul, Nat.reduceSub, reduceIte, Nat.reduceEqDiff, Nat.reduceAdd, reduceCtorEq]
    refine ⟨⟨by omega, hlt1⟩, hlt1, ?_⟩
    simp only [B_impl_Machine_outputs_7, B_impl_Machine_outputs_8, B_impl_Machine_outputs_9, intsK_getD hlt1, hxe, rwn_getD hxo, rwn_getD hxl, intsK_getD z2, intsK_getD z1, nat1 i _ hlt1 hMw, go_sem, adopt_fun, Int.reduceLT, Int.reduceLE, Int.reduceToNat, Int.reduceNeg, Nat.reduceLT, Nat.reduceLeDiff, Nat.reduceMul, Nat.reduceSub, reduceIte, Nat.reduceEqDiff, Nat.reduceAdd, reduceCtorEq]
    intro vs2
    refine ⟨⟨hx.1, hxo⟩, hxo, ⟨hu.1, z2⟩, z2, ⟨_, rfl, rfl⟩, by omega, ⟨hx.1, hxl⟩, hxl, ⟨hu.1, z1⟩, z1, ?_⟩
    refine ⟨(vs2 10 0, i + 1, (next.getD x.toNat []).getD u.toNat 0, r ++ [(out.getD x.toNat []).getD u.toNat 0]), by dsimp only; omega, ⟨by dsimp only; omega, hst, ?_, hat, by dsimp only; rw [List.length_append, hrl]; rfl⟩, rfl⟩
    dsimp only
    rw [← hr]
    simp only [outsA, List.append_assoc, List.cons_append, List.nil_append]
    rfl
  · have : i = w.length := by omega
    subst this
    rw [List.drop_length] at hr hat
    simp only [outsA, List.append_nil] at hr
    simp only [B_impl_Machine_outputs_4, B_impl_Machine_outputs_5, B_impl_Machine_outputs_10, decide_eq_false hlt, A_impl_Machine_outputs, ← hQ, go_sem, adopt_fun, Int.reduceLT, Int.reduceLE, Int.reduceToNat, Int.reduceNeg, Nat.reduceLT, Nat.reduceLeDiff, Nat.reduceMul, Nat.reduceSub, reduceIte, Nat.reduceEqDiff, Nat.reduceAdd, reduceCtorEq]
    refine ⟨[11], by simp, by simp, by simp, ?_⟩
    simp only [range1, List.length_singleton, Nat.not_lt_zero, range1, ren_val, ren_any, ren_ro, rnNm_n, rnNm_sn, rnNm_o, rnNm_s, ren_st, ren_tup, renL_nil, renL_cons, renL_intsK, renL_rws, renL_rwn, oren_box, oren_row, oren_map, ren_own_e0, ren_own_e1, ren_own_e2, ren_ptr_e0, ren_mp_e0, ren_mp_e1, ren_own_r0, ren_own_r1, ren_own_r2, ren_ptr_r0, ren_mp_r0, ren_mp_r1, List.range_zero, callHp_nil, callHp_one, callHp_two, gone_nil, gone_one, gone_two, AVal.fresh, freshL, fresh_intsK, fresh_rws, AObj.fresh, id, Option.isSome_some, or_true, true_or, go_sem, adopt_fun, Int.reduceLT, Int.reduceLE, Int.reduceToNat, Int.reduceNeg, Nat.reduceLT, Nat.reduceLeDiff, Nat.reduceMul, Nat.reduceSub, reduceIte, Nat.reduceEqDiff, Nat.reduceAdd, reduceCtorEq]
    exact ⟨va, by rw [hr], by rw [← hat]; rfl⟩

theorem k_implOutputsOf (n o : Int) (next out : List (List Int)) (M : Mach n o next out) (s : Int) (hs : 0 ≤ s ∧ s < n) (w : List Int) (hw : IsW next.length w) (hwl : w.length ≤ 400) :
    Fn Try.prog n_impl_OutputsOf [machA n o next out, iv s, .ro none 1 (ints w)] fun rows res => ∃ v, rows = [.row v 1 true (ints (outsA next out s w))] ∧ res = .tup [.own 6000 v, iv (atA next s w), iv 0] := by
  refine con_of mixed c_impl_OutputsOf rfl (by simp) ?_
  have n1 := M.aut.n1
  have n2 := M.aut.n2
  have l1 := M.aut.l1
  have l2 := M.aut.l2
  have hv : machB n o next out = true := machB_iff.2 M
  have e1 : (decide (0 ≤ s) && decide (s ≤ n - 1)) = true := by rw [decide_eq_true hs.1, decide_eq_true (show s ≤ n - 1 by omega)]; rfl
  have e2 : wordB next.length w = true := by
    simp only [wordB, Bool.and_eq_true, decide_eq_true_eq, allIn_iff]
    exact ⟨by omega, fun x hx => by have := hw x hx; omega⟩
  have h3 : codeI (machB n o next out) ((decide (0 ≤ s) && decide (s ≤ n - 1)) && wordB next.length w) = 0 := by
    rw [hv, e1, e2]; rfl
  simp only [A_impl_OutputsOf, B_impl_OutputsOf_1, go_sem, adopt_fun, Int.reduceLT, Int.reduceLE, Int.reduceToNat, Int.reduceNeg, Nat.reduceLT, Nat.reduceLeDiff, Nat.reduceMul, Nat.reduceSub, reduceIte, Nat.reduceEqDiff, Nat.reduceAdd, reduceCtorEq]
  intro vs vs2
  refine call_fun (k_Machine_code n o next out n_impl_OutputsOf_1 [machP n o next out, .rp [iv s] 0, .rp [.ro none 1 (ints w)] 0] _ ⟨by simp only [go_sem, adopt_fun, Int.reduceLT, Int.reduceLE, Int.reduceToNat, Int.reduceNeg, Nat.reduceLT, Nat.reduceLeDiff, Nat.reduceMul, Nat.reduceSub, reduceIte, Nat.reduceEqDiff, Nat.reduceAdd, reduceCtorEq], by intros; simp only [rowIs, boxIs, coe_argN, coe_argNs, coe_ro_o, coeL_nil, coeL_cons, coe_any, coe_val, coe_ro, coe_ro_nil, coe_ro_own, coe_st, coe_st_agg, coe_rp, coe_rp_ptr, coe_clo, coe_own0, coe_ptr0, coeL_intsK, coeL_rws, coeL_rwn, L_hit, L_miss, L_nil, Nat.reduceEqDiff, ne_eq, reduceCtorEq, not_false_eq_true, true_and, and_true, and_self, exists_eq_left, exists_eq_right, List.mem_cons, List.not_mem_nil, or_false, AObj.row.injEq, AObj.box.injEq, exists_eq_left', exists_and_left, exists_eq, Nat.zero_lt_one, Nat.lt_add_one, List.map_cons, List.map_nil, AObj.ver, Nat.reduceLT, not_true_eq_false]⟩
    (fun _ => k_OutputsOf_1 n o next out s w ⟨n1, n2⟩ ⟨l1, l2⟩)) qCS trivial ?_
  simp only [h3, B_impl_OutputsOf_2, B_impl_OutputsOf_3, B_impl_OutputsOf_4, bne_self_eq_false, go_sem, adopt_fun, Int.reduceLT, Int.reduceLE, Int.reduceToNat, Int.reduceNeg, Nat.reduceLT, Nat.reduceLeDiff, Nat.reduceMul, Nat.reduceSub, reduceIte, Nat.reduceEqDiff, Nat.reduceAdd, reduceCtorEq]
  intro vs5
  refine call_fn (k_Machine_outputs n o next out M s hs w hw (by omega)) qCS (fun e => by cases e) ?_
  rintro rows res ⟨v, rfl, rfl⟩
  refine ⟨by simp, by simp only [Option.getD_some, gone_one]; rfl, ?_⟩
  simp only [Option.getD_some, List.length_singleton, B_impl_OutputsOf_5, Nat.not_lt_zero, range1, ren_val, ren_any, ren_ro, rnNm_n, rnNm_sn, rnNm_o, rnNm_s, ren_st, ren_tup, renL_nil, renL_cons, renL_intsK, renL_rws, renL_rwn, oren_box, oren_row, oren_map, ren_own_e0, ren_own_e1, ren_own_e2, ren_ptr_e0, ren_mp_e0, ren_mp_e1, ren_own_r0, ren_own_r1, ren_own_r2, ren_ptr_r0, ren_mp_r0, ren_mp_r1, List.range_zero, callHp_nil, callHp_one, callHp_two, gone_nil, gone_one, gone_two, AVal.fresh, freshL, fresh_intsK, fresh_rws, AObj.fresh, id, Option.isSome_some, or_true, true_or, go_sem, adopt_fun, Int.reduceLT, Int.reduceLE, Int.reduceToNat, Int.reduceNeg, Nat.reduceLT, Nat.reduceLeDiff, Nat.reduceMul, Nat.reduceSub, reduceIte, Nat.reduceEqDiff, Nat.reduceAdd, reduceCtorEq]
  refine ⟨[22], by simp, by simp, by simp, ?_⟩
  simp only [range1, List.length_singleton, Nat.not_lt_zero, range1, ren_val, ren_any, ren_ro, rnNm_n, rnNm_sn, rnNm_o, rnNm_s, ren_st, ren_tup, renL_nil, renL_cons, renL_intsK, renL_rws, renL_rwn, oren_box, oren_row, oren_map, ren_own_e0, ren_own_e1, ren_own_e2, ren_ptr_e0, ren_mp_e0, ren_mp_e1, ren_own_r0, ren_own_r1, ren_own_r2, ren_ptr_r0, ren_mp_r0, ren_mp_r1, List.range_zero, callHp_nil, callHp_one, callHp_two, gone_nil, gone_one, gone_two, AVal.fresh, freshL, fresh_intsK, fresh_rws, AObj.fresh, id, Option.isSome_some, or_true, true_or, go_sem, adopt_fun, Int.reduceLT, Int.reduceLE, Int.reduceToNat, Int.reduceNeg, Nat.reduceLT, Nat.reduceLeDiff, Nat.reduceMul, Nat.reduceSub, reduceIte, Nat.reduceEqDiff, Nat.reduceAdd, reduceCtorEq]
  exact ⟨_, rfl, rfl⟩

end Go.Ab
