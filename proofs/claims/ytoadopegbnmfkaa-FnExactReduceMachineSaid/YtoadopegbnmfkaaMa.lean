/- Contracts: machines. Conditions: none. -/
import Derived.Test.YtoadopegbnmfkaaKx
import Derived.Test.YtoadopegbnmfkaaQe
set_option linter.all false
namespace Go.Ab
open Go.Proofs
set_option maxRecDepth 20000
set_option maxHeartbeats 1000000

abbrev machA (n o : Int) (next out : List (List Int)) : AVal := .st [iv n, iv o, .ro none 1 (rwn next), .ro none 1 (rwn out)]
abbrev machP (n o : Int) (next out : List (List Int)) : AVal := .rp [iv n, iv o, .ro none 1 (rwn next), .ro none 1 (rwn out)] 0

theorem k_szMachine (n o : Int) (x y : List (List Int)) (left : Int) (h : 0 ≤ left ∧ left ≤ 4611686018427387904) :
    Fun Try.prog n_laws_szMachine [machA n o x y, iv left] (iv (szC2 x y left)) := by
  refine fun_of mixed c_laws_szMachine rfl ⟨rfl, trivial⟩ ?_
  simp only [A_laws_szMachine, B_laws_szMachine_1, go_sem, adopt_fun, Int.reduceLT, Int.reduceLE, Int.reduceToNat, Int.reduceNeg, Nat.reduceLT, Nat.reduceLeDiff, Nat.reduceMul, Nat.reduceSub, reduceIte, Nat.reduceEqDiff, Nat.reduceAdd, reduceCtorEq]
  intro vs vs2
  refine call_fun (k_szInt64SS x left h) qCS trivial ?_
  by_cases h1 : szLL x left < 0
  · have e : szC2 x y left = -1 := by unfold szC2; rw [if_pos h1]
    simp only [B_laws_szMachine_2, B_laws_szMachine_3, decide_eq_true h1, e, go_sem, adopt_fun, Int.reduceLT, Int.reduceLE, Int.reduceToNat, Int.reduceNeg, Nat.reduceLT, Nat.reduceLeDiff, Nat.reduceMul, Nat.reduceSub, reduceIte, Nat.reduceEqDiff, Nat.reduceAdd, reduceCtorEq]
  · have e : szC2 x y left = szLL y (szLL x left) := by unfold szC2; rw [if_neg h1]
    have h2 := (szLL_ge (xss := x) (l := left) (by omega)).2.2
    simp only [B_laws_szMachine_2, B_laws_szMachine_3, B_laws_szMachine_4, decide_eq_false h1, e, go_sem, adopt_fun, Int.reduceLT, Int.reduceLE, Int.reduceToNat, Int.reduceNeg, Nat.reduceLT, Nat.reduceLeDiff, Nat.reduceMul, Nat.reduceSub, reduceIte, Nat.reduceEqDiff, Nat.reduceAdd, reduceCtorEq]
    intro vs3
    refine call_fun (k_szInt64SS y (szLL x left) ⟨by omega, by omega⟩) qCS trivial ?_
    by_cases h3 : szLL y (szLL x left) < 0
    · simp only [B_laws_szMachine_5, B_laws_szMachine_6, decide_eq_true h3, go_sem, adopt_fun, Int.reduceLT, Int.reduceLE, Int.reduceToNat, Int.reduceNeg, Nat.reduceLT, Nat.reduceLeDiff, Nat.reduceMul, Nat.reduceSub, reduceIte, Nat.reduceEqDiff, Nat.reduceAdd, reduceCtorEq]
      rw [szLL_neg h3]
    · simp only [B_laws_szMachine_5, B_laws_szMachine_6, B_laws_szMachine_7, decide_eq_false h3, go_sem, adopt_fun, Int.reduceLT, Int.reduceLE, Int.reduceToNat, Int.reduceNeg, Nat.reduceLT, Nat.reduceLeDiff, Nat.reduceMul, Nat.reduceSub, reduceIte, Nat.reduceEqDiff, Nat.reduceAdd, reduceCtorEq]

theorem k_eqMachine (n n' o o' : Int) (x y x' y' : List (List Int)) : Fun Try.prog n_laws_eqMachine [machA n o x y, machA n' o' x' y'] (bv (decide (n = n') && (decide (o = o') && (decide (x = x') && decide (y = y'))))) := by
  refine fun_of mixed c_laws_eqMachine rfl ⟨rfl, trivial⟩ ?_
  simp only [A_laws_eqMachine, B_laws_eqMachine_1, go_sem, adopt_fun, Int.reduceLT, Int.reduceLE, Int.reduceToNat, Int.reduceNeg, Nat.reduceLT, Nat.reduceLeDiff, Nat.reduceMul, Nat.reduceSub, reduceIte, Nat.reduceEqDiff, Nat.reduceAdd, reduceCtorEq]
  intro vs
  by_cases hn : n = n'
  · subst hn
    by_cases ho : o = o'
    · subst ho
      simp only [B_laws_eqMachine_2, B_laws_eqMachine_3, B_laws_eqMachine_4, B_laws_eqMachine_5, bne_self_eq_false, go_sem, adopt_fun, Int.reduceLT, Int.reduceLE, Int.reduceToNat, Int.reduceNeg, Nat.reduceLT, Nat.reduceLeDiff, Nat.reduceMul, Nat.reduceSub, reduceIte, Nat.reduceEqDiff, Nat.reduceAdd, reduceCtorEq]
      intro vs3
      refine call_fun (k_eqInt64SS x x') qCS (by trivial) ?_
      by_cases h2 : x = x'
      · simp only [B_laws_eqMachine_6, B_laws_eqMachine_7, decide_eq_true h2, decide_true, go_sem, adopt_fun, Int.reduceLT, Int.reduceLE, Int.reduceToNat, Int.reduceNeg, Nat.reduceLT, Nat.reduceLeDiff, Nat.reduceMul, Nat.reduceSub, reduceIte, Nat.reduceEqDiff, Nat.reduceAdd, reduceCtorEq]
        intro vs4
        refine call_fun (k_eqInt64SS y y') qCS (by trivial) ?_
        by_cases h3 : y = y'
        · simp only [B_laws_eqMachine_8, B_laws_eqMachine_9, decide_eq_true h3, decide_true, Bool.and_self, go_sem, adopt_fun, Int.reduceLT, Int.reduceLE, Int.reduceToNat, Int.reduceNeg, Nat.reduceLT, Nat.reduceLeDiff, Nat.reduceMul, Nat.reduceSub, reduceIte, Nat.reduceEqDiff, Nat.reduceAdd, reduceCtorEq]
        · simp only [B_laws_eqMachine_8, decide_eq_false h3, Bool.and_false, go_sem, adopt_fun, Int.reduceLT, Int.reduceLE, Int.reduceToNat, Int.reduceNeg, Nat.reduceLT, Nat.reduceLeDiff, Nat.reduceMul, Nat.reduceSub, reduceIte, Nat.reduceEqDiff, Nat.reduceAdd, reduceCtorEq]
      · simp only [B_laws_eqMachine_6, decide_eq_false h2, Bool.false_and, Bool.and_false, go_sem, adopt_fun, Int.reduceLT, Int.reduceLE, Int.reduceToNat, Int.reduceNeg, Nat.reduceLT, Nat.reduceLeDiff, Nat.reduceMul, Nat.reduceSub, reduceIte, Nat.reduceEqDiff, Nat.reduceAdd, reduceCtorEq]
    · have hne : (o != o') = true := by simpa using ho
      simp only [B_laws_eqMachine_2, B_laws_eqMachine_3, B_laws_eqMachine_4, bne_self_eq_false, hne, decide_eq_false ho, Bool.false_and, Bool.and_false, go_sem, adopt_fun, Int.reduceLT, Int.reduceLE, Int.reduceToNat, Int.reduceNeg, Nat.reduceLT, Nat.reduceLeDiff, Nat.reduceMul, Nat.reduceSub, reduceIte, Nat.reduceEqDiff, Nat.reduceAdd, reduceCtorEq]
  · have hne : (n != n') = true := by simpa using hn
    simp only [B_laws_eqMachine_2, hne, decide_eq_false hn, Bool.false_and, go_sem, adopt_fun, Int.reduceLT, Int.reduceLE, Int.reduceToNat, Int.reduceNeg, Nat.reduceLT, Nat.reduceLeDiff, Nat.reduceMul, Nat.reduceSub, reduceIte, Nat.reduceEqDiff, Nat.reduceAdd, reduceCtorEq]

/-- A machine of the call's own, with names. -/
theorem k_toMachineN (n o : Int) (x y : List (List Int)) (h1 : x.length * 24 ≤ 140737488355328) (h2 : ∀ xs ∈ x, xs.length * 8 ≤ 140737488355328) (h3 : y.length * 24 ≤ 140737488355328) (h4 : ∀ xs ∈ y, xs.length * 8 ≤ 140737488355328) :
    Fn Try.prog n_laws_toMachine [machA n o x y] (fun rows res => ∃ v w ps qs, rows = [.row v 1 true (rwp ps), .row w 1 true (rwp qs)] ∧ ps.map (·.2) = x ∧ qs.map (·.2) = y ∧ DJ (ps ++ qs) ∧ res = .st [iv n, iv o, .own 6000 v, .own 6001 w]) := by
  refine con_of mixed c_laws_toMachine rfl (by simp) ?_
  simp only [A_laws_toMachine, B_laws_toMachine_1, wpD_kp, wpD_regi, go_sem, adopt_fun, Int.reduceLT, Int.reduceLE, Int.reduceToNat, Int.reduceNeg, Nat.reduceLT, Nat.reduceLeDiff, Nat.reduceMul, Nat.reduceSub, reduceIte, Nat.reduceEqDiff, Nat.reduceAdd, reduceCtorEq]
  intro vs0 U0 hN0 vs1 U1 hN1
  simp only [B_laws_toMachine_2, B_laws_toMachine_3, wpD_kp, wpD_regi, go_sem, adopt_fun, Int.reduceLT, Int.reduceLE, Int.reduceToNat, Int.reduceNeg, Nat.reduceLT, Nat.reduceLeDiff, Nat.reduceMul, Nat.reduceSub, reduceIte, Nat.reduceEqDiff, Nat.reduceAdd, reduceCtorEq]
  intro vs2 U2 hN2 vs3 U3 hN3
  simp only [B_laws_toMachine_4, wpD_kp, wpD_regi, go_sem, adopt_fun, Int.reduceLT, Int.reduceLE, Int.reduceToNat, Int.reduceNeg, Nat.reduceLT, Nat.reduceLeDiff, Nat.reduceMul, Nat.reduceSub, reduceIte, Nat.reduceEqDiff, Nat.reduceAdd, reduceCtorEq]
  intro vs4 U4 hN4
  refine call_fn (k_toInt64SSn x h1 h2) qCS (by intro e; cases e) ?_
  rintro rows res ⟨v, ps, rfl, hps, hd, rfl⟩
  refine ⟨by simp, by simp only [Option.getD_some, gone_one]; rfl, ?_⟩
  simp only [Option.getD_some, List.length_singleton, renL_rwp, B_laws_toMachine_5, wpD_kp, wpD_regi, Nat.not_lt_zero, range1, ren_val, ren_any, ren_ro, rnNm_n, rnNm_sn, rnNm_o, rnNm_s, ren_st, ren_tup, renL_nil, renL_cons, renL_intsK, renL_rws, renL_rwn, oren_box, oren_row, oren_map, ren_own_e0, ren_own_e1, ren_own_e2, ren_ptr_e0, ren_mp_e0, ren_mp_e1, ren_own_r0, ren_own_r1, ren_own_r2, ren_ptr_r0, ren_mp_r0, ren_mp_r1, List.range_zero, callHp_nil, callHp_one, callHp_two, gone_nil, gone_one, gone_two, AVal.fresh, freshL, fresh_intsK, fresh_rws, AObj.fresh, id, Option.isSome_some, or_true, true_or, go_sem, adopt_fun, Int.reduceLT, Int.reduceLE, Int.reduceToNat, Int.reduceNeg, Nat.reduceLT, Nat.reduceLeDiff, Nat.reduceMul, Nat.reduceSub, reduceIte, Nat.reduceEqDiff, Nat.reduceAdd, reduceCtorEq]
  intro vs5 U5 hN5
  refine call_fn (k_toInt64SSn y h3 h4) qCS (by intro e; cases e) ?_
  rintro rows res ⟨w, qs, rfl, hqs, hdq, rfl⟩
  refine ⟨by simp, by simp only [Option.getD_some, gone_one]; rfl, ?_⟩
  simp only [Option.getD_some, List.length_singleton, renL_rwp, B_laws_toMachine_6, wpD_kp, wpD_regi, Nat.not_lt_zero, range1, ren_val, ren_any, ren_ro, rnNm_n, rnNm_sn, rnNm_o, rnNm_s, ren_st, ren_tup, renL_nil, renL_cons, renL_intsK, renL_rws, renL_rwn, oren_box, oren_row, oren_map, ren_own_e0, ren_own_e1, ren_own_e2, ren_ptr_e0, ren_mp_e0, ren_mp_e1, ren_own_r0, ren_own_r1, ren_own_r2, ren_ptr_r0, ren_mp_r0, ren_mp_r1, List.range_zero, callHp_nil, callHp_one, callHp_two, gone_nil, gone_one, gone_two, AVal.fresh, freshL, fresh_intsK, fresh_rws, AObj.fresh, id, Option.isSome_some, or_true, true_or, go_sem, adopt_fun, Int.reduceLT, Int.reduceLE, Int.reduceToNat, Int.reduceNeg, Nat.reduceLT, Nat.reduceLeDiff, Nat.reduceMul, Nat.reduceSub, reduceIte, Nat.reduceEqDiff, Nat.reduceAdd, reduceCtorEq]
  intro vs6 U6 hN6
  refine ⟨[12, 16], by simp, by simp, by simp, ?_⟩
  simp only [renL_rwp, Nat.not_lt_zero, range1, ren_val, ren_any, ren_ro, rnNm_n, rnNm_sn, rnNm_o, rnNm_s, ren_st, ren_tup, renL_nil, renL_cons, renL_intsK, renL_rws, renL_rwn, oren_box, oren_row, oren_map, ren_own_e0, ren_own_e1, ren_own_e2, ren_ptr_e0, ren_mp_e0, ren_mp_e1, ren_own_r0, ren_own_r1, ren_own_r2, ren_ptr_r0, ren_mp_r0, ren_mp_r1, List.range_zero, callHp_nil, callHp_one, callHp_two, gone_nil, gone_one, gone_two, AVal.fresh, freshL, fresh_intsK, fresh_rws, AObj.fresh, id, Option.isSome_some, or_true, true_or, go_sem, adopt_fun, Int.reduceLT, Int.reduceLE, Int.reduceToNat, Int.reduceNeg, Nat.reduceLT, Nat.reduceLeDiff, Nat.reduceMul, Nat.reduceSub, reduceIte, Nat.reduceEqDiff, Nat.reduceAdd, reduceCtorEq]
  have hU := hN5.hp 12
  simp only [AObj.uses, go_sem, adopt_fun, Int.reduceLT, Int.reduceLE, Int.reduceToNat, Int.reduceNeg, Nat.reduceLT, Nat.reduceLeDiff, Nat.reduceMul, Nat.reduceSub, reduceIte, Nat.reduceEqDiff, Nat.reduceAdd, reduceCtorEq] at hU
  have hold := usesL_rwp (rest := []) (by rw [List.append_nil]; exact hU.2)
  refine ⟨⟨fresh_rwp, fresh_rwp⟩, _, _, ps.map (fun p => (vs4 2 p.1, p.2)), qs.map (fun p => (vs5 2 p.1, p.2)), ?_, by rw [← hps, List.map_map]; rfl, by rw [← hqs, List.map_map]; rfl, ?_, rfl⟩
  · have e : ∀ l : List (Nat × List Int), l.map (fun p => (p.1, p.2)) = l := fun l => List.map_id l
    rw [e, e]
  · refine List.pairwise_append.2 ⟨hd.ren fun x y e => (hN4.inj _ _ _ _ e).2, hdq.ren fun x y e => (hN5.inj _ _ _ _ e).2, ?_⟩
    intro p hp q hq
    obtain ⟨q0, _, rfl⟩ := List.mem_map.1 hq
    rcases hold p hp with h | h
    · exact .inl h
    · exact .inr (.inr fun e => hN5.new 2 q0.1 (by have e : p.1 = vs5 2 q0.1 := e; rw [← e]; exact h))

theorem k_toMachine (n o : Int) (x y : List (List Int)) (h1 : x.length * 24 ≤ 140737488355328) (h2 : ∀ xs ∈ x, xs.length * 8 ≤ 140737488355328) (h3 : y.length * 24 ≤ 140737488355328) (h4 : ∀ xs ∈ y, xs.length * 8 ≤ 140737488355328) :
    Rows2 Try.prog n_laws_toMachine [machA n o x y] [n, o] x y := by
  refine Con.dnr (k_toMachineN n o x y h1 h2 h3 h4) ?_
  rintro oo r z ⟨rfl, v, w, ps, qs, rfl, hps, hqs, _, rfl⟩
  refine ⟨rfl, v, w, ?_, by simp only [List.map_cons, List.map_nil, List.cons_append, List.nil_append, go_sem, adopt_fun, Int.reduceLT, Int.reduceLE, Int.reduceToNat, Int.reduceNeg, Nat.reduceLT, Nat.reduceLeDiff, Nat.reduceMul, Nat.reduceSub, reduceIte, Nat.reduceEqDiff, Nat.reduceAdd, reduceCtorEq]⟩
  simp only [List.map_cons, List.map_nil, odn_row, dnL_rwp]
  rw [hps, hqs]

theorem call_machN {P : Program} {σ : St} {g : FuncId} {As args : List AVal} {d : Nat} {s : Nat → Nat} {K : St → Prop} {n o : Int} {x y : List (List Int)} (hs : ∀ x y, s x = s y → x = y)
    (h : Fn P g args (fun rows res => ∃ v w ps qs, rows = [.row v 1 true (rwp ps), .row w 1 true (rwp qs)] ∧ ps.map (·.2) = x ∧ qs.map (·.2) = y ∧ DJ (ps ++ qs) ∧ res = .st [iv n, iv o, .own 6000 v, .own 6001 w]))
    (hco : CoeL σ.hp [] true args As) (hg : σ.hp d = .gone) (hg2 : σ.hp (d + 1000) = .gone)
    (hk : ∀ v w ps qs, ps.map (·.2) = x → qs.map (·.2) = y → DJ (ps ++ qs) → K (St.put ⟨σ.tm, upd (upd σ.hp d (.row v 1 true (rwp ps))) (d + 1000) (.row w 1 true (rwp qs))⟩ (some d) (.st [iv n, iv o, .own d v, .own (d + 1000) w]))) : wpCall P false σ g As (some d) s K := by
  refine call_fn h hco (fun e => by cases e) ?_
  rintro rows res ⟨v, w, ps, qs, rfl, hp, hq, hd, rfl⟩
  refine ⟨by simp, ?_, ?_⟩
  · simp only [Option.getD_some, gone_two]; exact ⟨hg, hg2⟩
  · simp only [Option.getD_some, renL_rwp, List.length_cons, List.length_nil, Nat.zero_add, Nat.reduceAdd, Nat.not_lt_zero, range1, ren_val, ren_any, ren_ro, rnNm_n, rnNm_sn, rnNm_o, rnNm_s, ren_st, ren_tup, renL_nil, renL_cons, renL_intsK, renL_rws, renL_rwn, oren_box, oren_row, oren_map, ren_own_e0, ren_own_e1, ren_own_e2, ren_ptr_e0, ren_mp_e0, ren_mp_e1, ren_own_r0, ren_own_r1, ren_own_r2, ren_ptr_r0, ren_mp_r0, ren_mp_r1, List.range_zero, callHp_nil, callHp_one, callHp_two, gone_nil, gone_one, gone_two, AVal.fresh, freshL, fresh_intsK, fresh_rws, AObj.fresh, id, Option.isSome_some, or_true, true_or]
    exact hk _ _ _ _ (by rw [List.map_map]; exact hp) (by rw [List.map_map]; exact hq) (by have := hd.ren hs; rw [List.map_append] at this; exact this)

/-- A number that is not less. -/
theorem k_markMachine (n o : Int) (ps qs : List (Nat × List Int)) (hd : DJ (ps ++ qs)) (k : Int) (h : 0 ≤ k ∧ k + (totL ps + totL qs) ≤ 4611686018427387904) (hx : ∀ p ∈ ps, (p.2.length : Int) ≤ 1000000000) (hy : ∀ p ∈ qs, (p.2.length : Int) ≤ 1000000000) :
    Con Try.prog n_laws_markMachine [] [.st [iv n, iv o, .ro (some (some 0)) 1 (rwp ps), .ro (some (some 0)) 1 (rwp qs)], iv k] true (MarkR k (totL ps + totL qs)) := by
  refine con_sh mixed c_laws_markMachine rfl (by simp) ?_
  have t1 := totL_nn ps
  have t2 := totL_nn qs
  simp only [A_laws_markMachine, B_laws_markMachine_1, wpD_kp, wpD_regi, go_sem, adopt_fun, Int.reduceLT, Int.reduceLE, Int.reduceToNat, Int.reduceNeg, Nat.reduceLT, Nat.reduceLeDiff, Nat.reduceMul, Nat.reduceSub, reduceIte, Nat.reduceEqDiff, Nat.reduceAdd, reduceCtorEq]
  intro vs U hN vs2 U2 hN2
  refine call_havP (pOf ps) (k_markInt64SS ps (List.pairwise_append.1 hd).1 k ⟨h.1, by omega⟩ hx) ?_ ?_
  · rw [coeHL_cons, coeHL_cons, coeHL_nil, coeH_val]; exact ⟨coeH_rwpP pOf_in, rfl, trivial⟩
  rintro v ⟨k', rfl, h1, h2⟩
  simp only [B_laws_markMachine_2, cl_L, clT, clO, clV_any, clV_val, clV_own, clV_ptr, clV_st, clV_o, clL_ints, clL_rwo, clL_cons, clL_nil, clR_row, clR_box, clR_gone, clL_rwpP (pOf_not hd), wpD_kp, wpD_regi, go_sem, adopt_fun, Int.reduceLT, Int.reduceLE, Int.reduceToNat, Int.reduceNeg, Nat.reduceLT, Nat.reduceLeDiff, Nat.reduceMul, Nat.reduceSub, reduceIte, Nat.reduceEqDiff, Nat.reduceAdd, reduceCtorEq]
  intro vs3 U3 hN3
  refine call_hav (k_markInt64SS qs (List.pairwise_append.1 hd).2.1 k' ⟨by omega, by omega⟩ hy) ?_ ?_
  · rw [coeHL_cons, coeHL_cons, coeHL_nil, coeH_val]; exact ⟨coeH_rwp, rfl, trivial⟩
  rintro v ⟨k2, rfl, h3, h4⟩
  simp only [B_laws_markMachine_3, cl_L, clT, clO, wpD_kp, wpD_regi, go_sem, adopt_fun, Int.reduceLT, Int.reduceLE, Int.reduceToNat, Int.reduceNeg, Nat.reduceLT, Nat.reduceLeDiff, Nat.reduceMul, Nat.reduceSub, reduceIte, Nat.reduceEqDiff, Nat.reduceAdd, reduceCtorEq]
  intro vs4 U4 hN4
  refine ⟨[], by simp, by simp, by simp, ?_⟩
  simp only [Nat.not_lt_zero, range1, ren_val, ren_any, ren_ro, rnNm_n, rnNm_sn, rnNm_o, rnNm_s, ren_st, ren_tup, renL_nil, renL_cons, renL_intsK, renL_rws, renL_rwn, oren_box, oren_row, oren_map, ren_own_e0, ren_own_e1, ren_own_e2, ren_ptr_e0, ren_mp_e0, ren_mp_e1, ren_own_r0, ren_own_r1, ren_own_r2, ren_ptr_r0, ren_mp_r0, ren_mp_r1, List.range_zero, callHp_nil, callHp_one, callHp_two, gone_nil, gone_one, gone_two, AVal.fresh, freshL, fresh_intsK, fresh_rws, AObj.fresh, id, Option.isSome_some, or_true, true_or, go_sem, adopt_fun, Int.reduceLT, Int.reduceLE, Int.reduceToNat, Int.reduceNeg, Nat.reduceLT, Nat.reduceLeDiff, Nat.reduceMul, Nat.reduceSub, reduceIte, Nat.reduceEqDiff, Nat.reduceAdd, reduceCtorEq]
  exact ⟨rfl, rfl, _, ⟨k2, rfl, by omega, by omega⟩, rfl⟩
end Go.Ab
