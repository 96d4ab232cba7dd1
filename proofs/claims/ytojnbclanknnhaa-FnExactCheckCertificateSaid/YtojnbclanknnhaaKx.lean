/- Contracts: CheckCertificate, and what its law does with certificates. Conditions: none. -/
import Derived.Test.YtojnbclanknnhaaKw
set_option linter.all false
namespace Go.Ab
open Go.Proofs
set_option maxRecDepth 20000
set_option maxHeartbeats 1000000

theorem k_l02Right (n : Int) (next : List (List Int)) (kind : Int) (pairs words : List (List Int)) (A : Aut n next) :
    Fun Try.prog n_spec_l02Right [autP n next, certP kind pairs words] (bv (rightB n next kind pairs words)) := by
  refine fun_of mixed c_spec_l02Right rfl ⟨rfl, trivial⟩ ?_
  simp only [A_spec_l02Right, B_spec_l02Right_1, B_spec_l02Right_2, go_sem, adopt_fun, Int.reduceLT, Int.reduceLE, Int.reduceToNat, Int.reduceNeg, Nat.reduceLT, Nat.reduceLeDiff, Nat.reduceMul, Nat.reduceSub, reduceIte, Nat.reduceEqDiff, Nat.reduceAdd, reduceCtorEq]
  by_cases hk1 : kind = 1
  · subst hk1
    by_cases hp0 : pairs.length = 0
    · have e0 : ((pairs.length : Int) == 0) = true := beqT (by omega)
      have er : rightB n next 1 pairs words = mwB n next words := by
        by_cases h : mergeW n next words
        · rw [mwB_t h]; exact right1_t ⟨hp0, h.1, h.2⟩
        · rw [mwB_f h]; exact right1_f fun h2 => h ⟨h2.2.1, h2.2.2⟩
      simp only [B_spec_l02Right_3, beq_self_eq_true, e0, go_sem, adopt_fun, Int.reduceLT, Int.reduceLE, Int.reduceToNat, Int.reduceNeg, Nat.reduceLT, Nat.reduceLeDiff, Nat.reduceMul, Nat.reduceSub, reduceIte, Nat.reduceEqDiff, Nat.reduceAdd, reduceCtorEq]
      intro _ vs
      refine call_fun (k_l02Merges n next words A) (by simp only [rowIs, boxIs, coe_argN, coe_argNs, coe_ro_o, coeL_nil, coeL_cons, coe_any, coe_val, coe_ro, coe_ro_nil, coe_ro_own, coe_st, coe_st_agg, coe_rp, coe_rp_ptr, coe_clo, coe_own0, coe_ptr0, coeL_intsK, coeL_rws, coeL_rwn, L_hit, L_miss, L_nil, Nat.reduceEqDiff, ne_eq, reduceCtorEq, not_false_eq_true, true_and, and_true, and_self, exists_eq_left, exists_eq_right, List.mem_cons, List.not_mem_nil, or_false, AObj.row.injEq, AObj.box.injEq, exists_eq_left', exists_and_left, exists_eq, Nat.zero_lt_one, Nat.lt_add_one, List.map_cons, List.map_nil, AObj.ver, Nat.reduceLT, not_true_eq_false]) trivial ?_
      simp only [er, go_sem, adopt_fun, Int.reduceLT, Int.reduceLE, Int.reduceToNat, Int.reduceNeg, Nat.reduceLT, Nat.reduceLeDiff, Nat.reduceMul, Nat.reduceSub, reduceIte, Nat.reduceEqDiff, Nat.reduceAdd, reduceCtorEq]
    · have e0 : ((pairs.length : Int) == 0) = false := beqF (by omega)
      have hf : rightB n next 1 pairs words = false := right1_f fun h => hp0 h.1
      simp only [B_spec_l02Right_3, beq_self_eq_true, e0, hf, go_sem, adopt_fun, Int.reduceLT, Int.reduceLE, Int.reduceToNat, Int.reduceNeg, Nat.reduceLT, Nat.reduceLeDiff, Nat.reduceMul, Nat.reduceSub, reduceIte, Nat.reduceEqDiff, Nat.reduceAdd, reduceCtorEq]
      try (intro _; trivial)
  · have e1 : (kind == 1) = false := beqF hk1
    by_cases hk2 : kind = 2
    · subst hk2
      by_cases hw0 : words.length = 0
      · have e0 : ((words.length : Int) == 0) = true := beqT (by omega)
        have er : rightB n next 2 pairs words = awB n next pairs := by
          by_cases h : apartW n next pairs
          · rw [awB_t h]; exact right2_t ⟨hw0, h.1, h.2⟩
          · rw [awB_f h]; exact right2_f fun h2 => h ⟨h2.2.1, h2.2.2⟩
        simp only [B_spec_l02Right_3, B_spec_l02Right_4, beq_self_eq_true, e1, e0, go_sem, adopt_fun, Int.reduceLT, Int.reduceLE, Int.reduceToNat, Int.reduceNeg, Nat.reduceLT, Nat.reduceLeDiff, Nat.reduceMul, Nat.reduceSub, reduceIte, Nat.reduceEqDiff, Nat.reduceAdd, reduceCtorEq]
        intro _ vs
        refine call_fun (k_l02Apart n next pairs A) (by simp only [rowIs, boxIs, coe_argN, coe_argNs, coe_ro_o, coeL_nil, coeL_cons, coe_any, coe_val, coe_ro, coe_ro_nil, coe_ro_own, coe_st, coe_st_agg, coe_rp, coe_rp_ptr, coe_clo, coe_own0, coe_ptr0, coeL_intsK, coeL_rws, coeL_rwn, L_hit, L_miss, L_nil, Nat.reduceEqDiff, ne_eq, reduceCtorEq, not_false_eq_true, true_and, and_true, and_self, exists_eq_left, exists_eq_right, List.mem_cons, List.not_mem_nil, or_false, AObj.row.injEq, AObj.box.injEq, exists_eq_left', exists_and_left, exists_eq, Nat.zero_lt_one, Nat.lt_add_one, List.map_cons, List.map_nil, AObj.ver, Nat.reduceLT, not_true_eq_false]) trivial ?_
        simp only [er, go_sem, adopt_fun, Int.reduceLT, Int.reduceLE, Int.reduceToNat, Int.reduceNeg, Nat.reduceLT, Nat.reduceLeDiff, Nat.reduceMul, Nat.reduceSub, reduceIte, Nat.reduceEqDiff, Nat.reduceAdd, reduceCtorEq]
      · have e0 : ((words.length : Int) == 0) = false := beqF (by omega)
        have hf : rightB n next 2 pairs words = false := right2_f fun h => hw0 h.1
        simp only [B_spec_l02Right_3, B_spec_l02Right_4, beq_self_eq_true, e1, e0, hf, go_sem, adopt_fun, Int.reduceLT, Int.reduceLE, Int.reduceToNat, Int.reduceNeg, Nat.reduceLT, Nat.reduceLeDiff, Nat.reduceMul, Nat.reduceSub, reduceIte, Nat.reduceEqDiff, Nat.reduceAdd, reduceCtorEq]
        try (intro _; trivial)
    · have e2 : (kind == 2) = false := beqF hk2
      simp only [B_spec_l02Right_3, B_spec_l02Right_4, B_spec_l02Right_5, e1, e2, right_f hk1 hk2, go_sem, adopt_fun, Int.reduceLT, Int.reduceLE, Int.reduceToNat, Int.reduceNeg, Nat.reduceLT, Nat.reduceLeDiff, Nat.reduceMul, Nat.reduceSub, reduceIte, Nat.reduceEqDiff, Nat.reduceAdd, reduceCtorEq]

theorem k_CheckCertificate (n : Int) (next : List (List Int)) (kind : Int) (pairs words : List (List Int)) :
    Fun2 Try.prog n_impl_CheckCertificate [autA n next, certA kind pairs words] (.bool (autB n next && rightB n next kind pairs words)) (.int .i64 (if autB n next = true then 0 else 1)) := by
  refine fun2_of mixed c_impl_CheckCertificate rfl ?_
  simp only [A_impl_CheckCertificate, B_impl_CheckCertificate_1, go_sem, adopt_fun, Int.reduceLT, Int.reduceLE, Int.reduceToNat, Int.reduceNeg, Nat.reduceLT, Nat.reduceLeDiff, Nat.reduceMul, Nat.reduceSub, reduceIte, Nat.reduceEqDiff, Nat.reduceAdd, reduceCtorEq]
  intro vs vs2
  refine call_fun (k_Valid n next) (by simp only [rowIs, boxIs, coe_argN, coe_argNs, coe_ro_o, coeL_nil, coeL_cons, coe_any, coe_val, coe_ro, coe_ro_nil, coe_ro_own, coe_st, coe_st_agg, coe_rp, coe_rp_ptr, coe_clo, coe_own0, coe_ptr0, coeL_intsK, coeL_rws, coeL_rwn, L_hit, L_miss, L_nil, Nat.reduceEqDiff, ne_eq, reduceCtorEq, not_false_eq_true, true_and, and_true, and_self, exists_eq_left, exists_eq_right, List.mem_cons, List.not_mem_nil, or_false, AObj.row.injEq, AObj.box.injEq, exists_eq_left', exists_and_left, exists_eq, Nat.zero_lt_one, Nat.lt_add_one, List.map_cons, List.map_nil, AObj.ver, Nat.reduceLT, not_true_eq_false]) trivial ?_
  cases hv : autB n next with
  | false =>
    simp only [B_impl_CheckCertificate_2, Bool.false_and, Bool.false_eq_true, if_false, go_sem, adopt_fun, Int.reduceLT, Int.reduceLE, Int.reduceToNat, Int.reduceNeg, Nat.reduceLT, Nat.reduceLeDiff, Nat.reduceMul, Nat.reduceSub, reduceIte, Nat.reduceEqDiff, Nat.reduceAdd, reduceCtorEq]
  | true =>
    simp only [B_impl_CheckCertificate_2, B_impl_CheckCertificate_3, Bool.true_and, if_true, go_sem, adopt_fun, Int.reduceLT, Int.reduceLE, Int.reduceToNat, Int.reduceNeg, Nat.reduceLT, Nat.reduceLeDiff, Nat.reduceMul, Nat.reduceSub, reduceIte, Nat.reduceEqDiff, Nat.reduceAdd, reduceCtorEq]
    intro vs3
    refine call_fun (k_isRight n next kind pairs words (autB_iff.1 hv)) (by simp only [rowIs, boxIs, coe_argN, coe_argNs, coe_ro_o, coeL_nil, coeL_cons, coe_any, coe_val, coe_ro, coe_ro_nil, coe_ro_own, coe_st, coe_st_agg, coe_rp, coe_rp_ptr, coe_clo, coe_own0, coe_ptr0, coeL_intsK, coeL_rws, coeL_rwn, L_hit, L_miss, L_nil, Nat.reduceEqDiff, ne_eq, reduceCtorEq, not_false_eq_true, true_and, and_true, and_self, exists_eq_left, exists_eq_right, List.mem_cons, List.not_mem_nil, or_false, AObj.row.injEq, AObj.box.injEq, exists_eq_left', exists_and_left, exists_eq, Nat.zero_lt_one, Nat.lt_add_one, List.map_cons, List.map_nil, AObj.ver, Nat.reduceLT, not_true_eq_false]) trivial ?_
    simp only [go_sem, adopt_fun, Int.reduceLT, Int.reduceLE, Int.reduceToNat, Int.reduceNeg, Nat.reduceLT, Nat.reduceLeDiff, Nat.reduceMul, Nat.reduceSub, reduceIte, Nat.reduceEqDiff, Nat.reduceAdd, reduceCtorEq]

theorem k_specCheckCertificate (n : Int) (next : List (List Int)) (kind : Int) (pairs words : List (List Int)) :
    Fun2 Try.prog n_spec_CheckCertificate [autA n next, certA kind pairs words] (.bool (autB n next && rightB n next kind pairs words)) (.int .i64 (if autB n next = true then 0 else 1)) := by
  refine fun2_of mixed c_spec_CheckCertificate rfl ?_
  simp only [A_spec_CheckCertificate, B_spec_CheckCertificate_1, go_sem, adopt_fun, Int.reduceLT, Int.reduceLE, Int.reduceToNat, Int.reduceNeg, Nat.reduceLT, Nat.reduceLeDiff, Nat.reduceMul, Nat.reduceSub, reduceIte, Nat.reduceEqDiff, Nat.reduceAdd, reduceCtorEq]
  intro vs vs2
  refine call_fun (k_l01Ok n next) (by simp only [rowIs, boxIs, coe_argN, coe_argNs, coe_ro_o, coeL_nil, coeL_cons, coe_any, coe_val, coe_ro, coe_ro_nil, coe_ro_own, coe_st, coe_st_agg, coe_rp, coe_rp_ptr, coe_clo, coe_own0, coe_ptr0, coeL_intsK, coeL_rws, coeL_rwn, L_hit, L_miss, L_nil, Nat.reduceEqDiff, ne_eq, reduceCtorEq, not_false_eq_true, true_and, and_true, and_self, exists_eq_left, exists_eq_right, List.mem_cons, List.not_mem_nil, or_false, AObj.row.injEq, AObj.box.injEq, exists_eq_left', exists_and_left, exists_eq, Nat.zero_lt_one, Nat.lt_add_one, List.map_cons, List.map_nil, AObj.ver, Nat.reduceLT, not_true_eq_false]) trivial ?_
  cases hv : autB n next with
  | false =>
    simp only [B_spec_CheckCertificate_2, Bool.false_and, Bool.false_eq_true, if_false, go_sem, adopt_fun, Int.reduceLT, Int.reduceLE, Int.reduceToNat, Int.reduceNeg, Nat.reduceLT, Nat.reduceLeDiff, Nat.reduceMul, Nat.reduceSub, reduceIte, Nat.reduceEqDiff, Nat.reduceAdd, reduceCtorEq]
  | true =>
    simp only [B_spec_CheckCertificate_2, B_spec_CheckCertificate_3, Bool.true_and, if_true, go_sem, adopt_fun, Int.reduceLT, Int.reduceLE, Int.reduceToNat, Int.reduceNeg, Nat.reduceLT, Nat.reduceLeDiff, Nat.reduceMul, Nat.reduceSub, reduceIte, Nat.reduceEqDiff, Nat.reduceAdd, reduceCtorEq]
    intro vs3
    refine call_fun (k_l02Right n next kind pairs words (autB_iff.1 hv)) (by simp only [rowIs, boxIs, coe_argN, coe_argNs, coe_ro_o, coeL_nil, coeL_cons, coe_any, coe_val, coe_ro, coe_ro_nil, coe_ro_own, coe_st, coe_st_agg, coe_rp, coe_rp_ptr, coe_clo, coe_own0, coe_ptr0, coeL_intsK, coeL_rws, coeL_rwn, L_hit, L_miss, L_nil, Nat.reduceEqDiff, ne_eq, reduceCtorEq, not_false_eq_true, true_and, and_true, and_self, exists_eq_left, exists_eq_right, List.mem_cons, List.not_mem_nil, or_false, AObj.row.injEq, AObj.box.injEq, exists_eq_left', exists_and_left, exists_eq, Nat.zero_lt_one, Nat.lt_add_one, List.map_cons, List.map_nil, AObj.ver, Nat.reduceLT, not_true_eq_false]) trivial ?_
    simp only [go_sem, adopt_fun, Int.reduceLT, Int.reduceLE, Int.reduceToNat, Int.reduceNeg, Nat.reduceLT, Nat.reduceLeDiff, Nat.reduceMul, Nat.reduceSub, reduceIte, Nat.reduceEqDiff, Nat.reduceAdd, reduceCtorEq]

/-- What is left behind two rows of rows. -/
def szC2 (x y : List (List Int)) (l : Int) : Int := if szLL x l < 0 then -1 else szLL y (szLL x l)
theorem szC2_ge {x y : List (List Int)} {l : Int} (h : ¬ szC2 x y l < 0) : 0 ≤ szLL x l ∧ 0 ≤ szLL y (szLL x l) ∧ szC2 x y l = szLL y (szLL x l) := by
  unfold szC2 at h ⊢
  split at h
  · omega
  · rename_i h1
    rw [if_neg h1]
    omega
theorem szLL_neg {x : List (List Int)} {l : Int} (h : szLL x l < 0) : szLL x l = -1 := by
  have gen : ∀ (xss : List (List Int)) (l : Int), 0 ≤ l → szRows xss l < 0 → szRows xss l = -1 := by
    intro xss
    induction xss with
    | nil => intro l h1 h2; simp only [szRows] at h2; omega
    | cons xs r ih =>
      intro l h1 h2
      simp only [szRows] at h2 ⊢
      split at h2
      · rename_i h3; rw [if_pos h3]
      · rename_i h3; rw [if_neg h3]; exact ih _ (by omega) h2
  unfold szLL at h ⊢
  split at h
  · rename_i h1; rw [if_pos h1]
  · rename_i h1; rw [if_neg h1]; exact gen _ _ (by omega) h

theorem k_szCertificate (kind : Int) (x y : List (List Int)) (left : Int) (h : 0 ≤ left ∧ left ≤ 4611686018427387904) :
    Fun Try.prog n_laws_szCertificate [certA kind x y, iv left] (iv (szC2 x y left)) := by
  refine fun_of mixed c_laws_szCertificate rfl ⟨rfl, trivial⟩ ?_
  simp only [A_laws_szCertificate, B_laws_szCertificate_1, go_sem, adopt_fun, Int.reduceLT, Int.reduceLE, Int.reduceToNat, Int.reduceNeg, Nat.reduceLT, Nat.reduceLeDiff, Nat.reduceMul, Nat.reduceSub, reduceIte, Nat.reduceEqDiff, Nat.reduceAdd, reduceCtorEq]
  intro vs vs2
  refine call_fun (k_szInt64SS x left h) (by simp only [rowIs, boxIs, coe_argN, coe_argNs, coe_ro_o, coeL_nil, coeL_cons, coe_any, coe_val, coe_ro, coe_ro_nil, coe_ro_own, coe_st, coe_st_agg, coe_rp, coe_rp_ptr, coe_clo, coe_own0, coe_ptr0, coeL_intsK, coeL_rws, coeL_rwn, L_hit, L_miss, L_nil, Nat.reduceEqDiff, ne_eq, reduceCtorEq, not_false_eq_true, true_and, and_true, and_self, exists_eq_left, exists_eq_right, List.mem_cons, List.not_mem_nil, or_false, AObj.row.injEq, AObj.box.injEq, exists_eq_left', exists_and_left, exists_eq, Nat.zero_lt_one, Nat.lt_add_one, List.map_cons, List.map_nil, AObj.ver, Nat.reduceLT, not_true_eq_false]) trivial ?_
  by_cases h1 : szLL x left < 0
  · have e : szC2 x y left = -1 := by unfold szC2; rw [if_pos h1]
    simp only [B_laws_szCertificate_2, B_laws_szCertificate_3, decide_eq_true h1, e, go_sem, adopt_fun, Int.reduceLT, Int.reduceLE, Int.reduceToNat, Int.reduceNeg, Nat.reduceLT, Nat.reduceLeDiff, Nat.reduceMul, Nat.reduceSub, reduceIte, Nat.reduceEqDiff, Nat.reduceAdd, reduceCtorEq]
  · have e : szC2 x y left = szLL y (szLL x left) := by unfold szC2; rw [if_neg h1]
    have h2 := (szLL_ge (xss := x) (l := left) (by omega)).2.2
    simp only [B_laws_szCertificate_2, B_laws_szCertificate_3, B_laws_szCertificate_4, decide_eq_false h1, e, go_sem, adopt_fun, Int.reduceLT, Int.reduceLE, Int.reduceToNat, Int.reduceNeg, Nat.reduceLT, Nat.reduceLeDiff, Nat.reduceMul, Nat.reduceSub, reduceIte, Nat.reduceEqDiff, Nat.reduceAdd, reduceCtorEq]
    intro vs3
    refine call_fun (k_szInt64SS y (szLL x left) ⟨by omega, by omega⟩) (by simp only [rowIs, boxIs, coe_argN, coe_argNs, coe_ro_o, coeL_nil, coeL_cons, coe_any, coe_val, coe_ro, coe_ro_nil, coe_ro_own, coe_st, coe_st_agg, coe_rp, coe_rp_ptr, coe_clo, coe_own0, coe_ptr0, coeL_intsK, coeL_rws, coeL_rwn, L_hit, L_miss, L_nil, Nat.reduceEqDiff, ne_eq, reduceCtorEq, not_false_eq_true, true_and, and_true, and_self, exists_eq_left, exists_eq_right, List.mem_cons, List.not_mem_nil, or_false, AObj.row.injEq, AObj.box.injEq, exists_eq_left', exists_and_left, exists_eq, Nat.zero_lt_one, Nat.lt_add_one, List.map_cons, List.map_nil, AObj.ver, Nat.reduceLT, not_true_eq_false]) trivial ?_
    by_cases h3 : szLL y (szLL x left) < 0
    · simp only [B_laws_szCertificate_5, B_laws_szCertificate_6, decide_eq_true h3, go_sem, adopt_fun, Int.reduceLT, Int.reduceLE, Int.reduceToNat, Int.reduceNeg, Nat.reduceLT, Nat.reduceLeDiff, Nat.reduceMul, Nat.reduceSub, reduceIte, Nat.reduceEqDiff, Nat.reduceAdd, reduceCtorEq]
      rw [szLL_neg h3]
    · simp only [B_laws_szCertificate_5, B_laws_szCertificate_6, B_laws_szCertificate_7, decide_eq_false h3, go_sem, adopt_fun, Int.reduceLT, Int.reduceLE, Int.reduceToNat, Int.reduceNeg, Nat.reduceLT, Nat.reduceLeDiff, Nat.reduceMul, Nat.reduceSub, reduceIte, Nat.reduceEqDiff, Nat.reduceAdd, reduceCtorEq]

theorem k_eqCertificate (k k' : Int) (x y x' y' : List (List Int)) : Fun Try.prog n_laws_eqCertificate [certA k x y, certA k' x' y'] (bv (decide (k = k') && (decide (x = x') && decide (y = y')))) := by
  refine fun_of mixed c_laws_eqCertificate rfl ⟨rfl, trivial⟩ ?_
  simp only [A_laws_eqCertificate, B_laws_eqCertificate_1, go_sem, adopt_fun, Int.reduceLT, Int.reduceLE, Int.reduceToNat, Int.reduceNeg, Nat.reduceLT, Nat.reduceLeDiff, Nat.reduceMul, Nat.reduceSub, reduceIte, Nat.reduceEqDiff, Nat.reduceAdd, reduceCtorEq]
  intro vs
  by_cases hn : k = k'
  · subst hn
    simp only [B_laws_eqCertificate_2, B_laws_eqCertificate_3, bne_self_eq_false, go_sem, adopt_fun, Int.reduceLT, Int.reduceLE, Int.reduceToNat, Int.reduceNeg, Nat.reduceLT, Nat.reduceLeDiff, Nat.reduceMul, Nat.reduceSub, reduceIte, Nat.reduceEqDiff, Nat.reduceAdd, reduceCtorEq]
    intro vs3
    refine call_fun (k_eqInt64SS x x') (by simp only [rowIs, boxIs, coe_argN, coe_argNs, coe_ro_o, coeL_nil, coeL_cons, coe_any, coe_val, coe_ro, coe_ro_nil, coe_ro_own, coe_st, coe_st_agg, coe_rp, coe_rp_ptr, coe_clo, coe_own0, coe_ptr0, coeL_intsK, coeL_rws, coeL_rwn, L_hit, L_miss, L_nil, Nat.reduceEqDiff, ne_eq, reduceCtorEq, not_false_eq_true, true_and, and_true, and_self, exists_eq_left, exists_eq_right, List.mem_cons, List.not_mem_nil, or_false, AObj.row.injEq, AObj.box.injEq, exists_eq_left', exists_and_left, exists_eq, Nat.zero_lt_one, Nat.lt_add_one, List.map_cons, List.map_nil, AObj.ver, Nat.reduceLT, not_true_eq_false]) (by trivial) ?_
    by_cases h2 : x = x'
    · simp only [B_laws_eqCertificate_4, B_laws_eqCertificate_5, decide_eq_true h2, decide_true, go_sem, adopt_fun, Int.reduceLT, Int.reduceLE, Int.reduceToNat, Int.reduceNeg, Nat.reduceLT, Nat.reduceLeDiff, Nat.reduceMul, Nat.reduceSub, reduceIte, Nat.reduceEqDiff, Nat.reduceAdd, reduceCtorEq]
      intro vs4
      refine call_fun (k_eqInt64SS y y') (by simp only [rowIs, boxIs, coe_argN, coe_argNs, coe_ro_o, coeL_nil, coeL_cons, coe_any, coe_val, coe_ro, coe_ro_nil, coe_ro_own, coe_st, coe_st_agg, coe_rp, coe_rp_ptr, coe_clo, coe_own0, coe_ptr0, coeL_intsK, coeL_rws, coeL_rwn, L_hit, L_miss, L_nil, Nat.reduceEqDiff, ne_eq, reduceCtorEq, not_false_eq_true, true_and, and_true, and_self, exists_eq_left, exists_eq_right, List.mem_cons, List.not_mem_nil, or_false, AObj.row.injEq, AObj.box.injEq, exists_eq_left', exists_and_left, exists_eq, Nat.zero_lt_one, Nat.lt_add_one, List.map_cons, List.map_nil, AObj.ver, Nat.reduceLT, not_true_eq_false]) (by trivial) ?_
      by_cases h3 : y = y'
      · simp only [B_laws_eqCertificate_6, B_laws_eqCertificate_7, decide_eq_true h3, decide_true, Bool.and_self, go_sem, adopt_fun, Int.reduceLT, Int.reduceLE, Int.reduceToNat, Int.reduceNeg, Nat.reduceLT, Nat.reduceLeDiff, Nat.reduceMul, Nat.reduceSub, reduceIte, Nat.reduceEqDiff, Nat.reduceAdd, reduceCtorEq]
      · simp only [B_laws_eqCertificate_6, decide_eq_false h3, Bool.and_false, go_sem, adopt_fun, Int.reduceLT, Int.reduceLE, Int.reduceToNat, Int.reduceNeg, Nat.reduceLT, Nat.reduceLeDiff, Nat.reduceMul, Nat.reduceSub, reduceIte, Nat.reduceEqDiff, Nat.reduceAdd, reduceCtorEq]
    · simp only [B_laws_eqCertificate_4, decide_eq_false h2, Bool.false_and, Bool.and_false, go_sem, adopt_fun, Int.reduceLT, Int.reduceLE, Int.reduceToNat, Int.reduceNeg, Nat.reduceLT, Nat.reduceLeDiff, Nat.reduceMul, Nat.reduceSub, reduceIte, Nat.reduceEqDiff, Nat.reduceAdd, reduceCtorEq]
  · have hne : (k != k') = true := by simpa using hn
    simp only [B_laws_eqCertificate_2, hne, decide_eq_false hn, Bool.false_and, go_sem, adopt_fun, Int.reduceLT, Int.reduceLE, Int.reduceToNat, Int.reduceNeg, Nat.reduceLT, Nat.reduceLeDiff, Nat.reduceMul, Nat.reduceSub, reduceIte, Nat.reduceEqDiff, Nat.reduceAdd, reduceCtorEq]

abbrev Rows2 (P : Program) (g : FuncId) (args : List AVal) (cs : List Int) (x y : List (List Int)) : Prop :=
  Fn P g args fun rows res => ∃ v w, rows = [.row v 1 true (rws x), .row w 1 true (rws y)] ∧ res = .st (cs.map (fun c => iv c) ++ [.own 6000 v, .own 6001 w])

theorem k_toCertificate (kind : Int) (x y : List (List Int)) (h1 : x.length * 24 ≤ 140737488355328) (h2 : ∀ xs ∈ x, xs.length * 8 ≤ 140737488355328) (h3 : y.length * 24 ≤ 140737488355328) (h4 : ∀ xs ∈ y, xs.length * 8 ≤ 140737488355328) :
    Rows2 Try.prog n_laws_toCertificate [certA kind x y] [kind] x y := by
  refine con_of mixed c_laws_toCertificate rfl (by simp) ?_
  simp only [A_laws_toCertificate, B_laws_toCertificate_1, go_sem, adopt_fun, Int.reduceLT, Int.reduceLE, Int.reduceToNat, Int.reduceNeg, Nat.reduceLT, Nat.reduceLeDiff, Nat.reduceMul, Nat.reduceSub, reduceIte, Nat.reduceEqDiff, Nat.reduceAdd, reduceCtorEq]
  intro vs vs2
  simp only [B_laws_toCertificate_2, B_laws_toCertificate_3, go_sem, adopt_fun, Int.reduceLT, Int.reduceLE, Int.reduceToNat, Int.reduceNeg, Nat.reduceLT, Nat.reduceLeDiff, Nat.reduceMul, Nat.reduceSub, reduceIte, Nat.reduceEqDiff, Nat.reduceAdd, reduceCtorEq]
  intro vs3
  refine call_rowR (k_toInt64SS x h1 h2) (by simp only [rowIs, boxIs, coe_argN, coe_argNs, coe_ro_o, coeL_nil, coeL_cons, coe_any, coe_val, coe_ro, coe_ro_nil, coe_ro_own, coe_st, coe_st_agg, coe_rp, coe_rp_ptr, coe_clo, coe_own0, coe_ptr0, coeL_intsK, coeL_rws, coeL_rwn, L_hit, L_miss, L_nil, Nat.reduceEqDiff, ne_eq, reduceCtorEq, not_false_eq_true, true_and, and_true, and_self, exists_eq_left, exists_eq_right, List.mem_cons, List.not_mem_nil, or_false, AObj.row.injEq, AObj.box.injEq, exists_eq_left', exists_and_left, exists_eq, Nat.zero_lt_one, Nat.lt_add_one, List.map_cons, List.map_nil, AObj.ver, Nat.reduceLT, not_true_eq_false]) rfl ⟨_, rfl⟩ ?_
  rintro _ v rfl
  simp only [B_laws_toCertificate_4, go_sem, adopt_fun, Int.reduceLT, Int.reduceLE, Int.reduceToNat, Int.reduceNeg, Nat.reduceLT, Nat.reduceLeDiff, Nat.reduceMul, Nat.reduceSub, reduceIte, Nat.reduceEqDiff, Nat.reduceAdd, reduceCtorEq]
  intro vs4
  refine call_rowR (k_toInt64SS y h3 h4) (by simp only [rowIs, boxIs, coe_argN, coe_argNs, coe_ro_o, coeL_nil, coeL_cons, coe_any, coe_val, coe_ro, coe_ro_nil, coe_ro_own, coe_st, coe_st_agg, coe_rp, coe_rp_ptr, coe_clo, coe_own0, coe_ptr0, coeL_intsK, coeL_rws, coeL_rwn, L_hit, L_miss, L_nil, Nat.reduceEqDiff, ne_eq, reduceCtorEq, not_false_eq_true, true_and, and_true, and_self, exists_eq_left, exists_eq_right, List.mem_cons, List.not_mem_nil, or_false, AObj.row.injEq, AObj.box.injEq, exists_eq_left', exists_and_left, exists_eq, Nat.zero_lt_one, Nat.lt_add_one, List.map_cons, List.map_nil, AObj.ver, Nat.reduceLT, not_true_eq_false]) rfl ⟨_, rfl⟩ ?_
  rintro _ w rfl
  simp only [B_laws_toCertificate_5, go_sem, adopt_fun, Int.reduceLT, Int.reduceLE, Int.reduceToNat, Int.reduceNeg, Nat.reduceLT, Nat.reduceLeDiff, Nat.reduceMul, Nat.reduceSub, reduceIte, Nat.reduceEqDiff, Nat.reduceAdd, reduceCtorEq]
  refine ⟨[9, 13], by simp, by simp, by simp, ?_⟩
  simp only [Nat.not_lt_zero, range1, ren_val, ren_any, ren_ro, rnNm_n, rnNm_sn, rnNm_o, rnNm_s, ren_st, ren_tup, renL_nil, renL_cons, renL_intsK, renL_rws, renL_rwn, oren_box, oren_row, oren_map, ren_own_e0, ren_own_e1, ren_own_e2, ren_ptr_e0, ren_mp_e0, ren_mp_e1, ren_own_r0, ren_own_r1, ren_own_r2, ren_ptr_r0, ren_mp_r0, ren_mp_r1, List.range_zero, callHp_nil, callHp_one, callHp_two, gone_nil, gone_one, gone_two, AVal.fresh, freshL, fresh_intsK, fresh_rws, AObj.fresh, id, Option.isSome_some, or_true, true_or, go_sem, adopt_fun, Int.reduceLT, Int.reduceLE, Int.reduceToNat, Int.reduceNeg, Nat.reduceLT, Nat.reduceLeDiff, Nat.reduceMul, Nat.reduceSub, reduceIte, Nat.reduceEqDiff, Nat.reduceAdd, reduceCtorEq]
  exact ⟨v, w, rfl, rfl⟩

theorem call_rows2 {P : Program} {pu : Bool} {σ : St} {g : FuncId} {As args : List AVal} {d : Nat} {s : Nat → Nat} {K : St → Prop} {cs : List Int} {x y : List (List Int)} (h : Rows2 P g args cs x y) (hco : CoeL σ.hp [] true args As)
    (hg : σ.hp d = .gone) (hg2 : σ.hp (d + 1000) = .gone)
    (hk : ∀ v w, K (St.put ⟨σ.tm, upd (upd σ.hp d (.row v 1 true (rws x))) (d + 1000) (.row w 1 true (rws y))⟩ (some d) (.st (cs.map (fun c => iv c) ++ [.own d v, .own (d + 1000) w])))) : wpCall P pu σ g As (some d) s K := by
  refine call_fn h hco (fun _ => ⟨_, _, 0, 1, rfl, rfl⟩) ?_
  rintro rows res ⟨v, w, rfl, rfl⟩
  refine ⟨by simp, ?_, ?_⟩
  · simp only [Option.getD_some, gone_two]; exact ⟨hg, hg2⟩
  · have e : (AVal.st (cs.map (fun c => iv c) ++ [.own 6000 v, .own 6001 w])).ren (rid [] d 2) s = .st (cs.map (fun c => iv c) ++ [.own d (s v), .own (d + 1000) (s w)]) := by
      rw [ren_st]
      congr 1
      simp only [renL_eq, List.map_append, List.map_map, List.map_cons, List.map_nil]
      have h0 := ren_own_r0 (m := []) (d := d) (n := 1) (v := v) (s := s)
      have h1 := ren_own_r1 (m := []) (d := d) (n := 0) (v := w) (s := s)
      rw [h0, h1]
      congr 1
    simp only [Option.getD_some, Nat.not_lt_zero, range1, ren_val, ren_any, ren_ro, rnNm_n, rnNm_sn, rnNm_o, rnNm_s, ren_st, ren_tup, renL_nil, renL_cons, renL_intsK, renL_rws, renL_rwn, oren_box, oren_row, oren_map, ren_own_e0, ren_own_e1, ren_own_e2, ren_ptr_e0, ren_mp_e0, ren_mp_e1, ren_own_r0, ren_own_r1, ren_own_r2, ren_ptr_r0, ren_mp_r0, ren_mp_r1, List.range_zero, callHp_nil, callHp_one, callHp_two, gone_nil, gone_one, gone_two, AVal.fresh, freshL, fresh_intsK, fresh_rws, AObj.fresh, id, Option.isSome_some, or_true, true_or, List.length_cons, List.length_nil, Nat.zero_add, e]
    exact hk _ _
end Go.Ab
