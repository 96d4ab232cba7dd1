/- Contracts: orders of states, and automata with their states in another order. Conditions: none. -/
import Derived.Test.YtojnbclanknnhaaKt
set_option linter.all false
namespace Go.Ab
open Go.Proofs
set_option maxRecDepth 20000
set_option maxHeartbeats 1000000

theorem k_l01Place (xs : List Int) (x : Int) : Fun Try.prog n_spec_l01Place [.ro none 1 (ints xs), iv x] (iv (fidx (fun y => x == y) xs 0)) := by
  refine fun_of mixed c_spec_l01Place rfl ⟨rfl, trivial⟩ ?_
  simp only [A_spec_l01Place, B_spec_l01Place_1, B_spec_l01Place_2, go_sem, adopt_fun, Int.reduceLT, Int.reduceLE, Int.reduceToNat, Int.reduceNeg, Nat.reduceLT, Nat.reduceLeDiff, Nat.reduceMul, Nat.reduceSub, reduceIte, Nat.reduceEqDiff, Nat.reduceAdd, reduceCtorEq]
  refine wpD_lo (fun i => xs.length - i) (fun i => i ≤ xs.length ∧ fidx (fun y => x == y) (xs.drop i) i = fidx (fun y => x == y) xs 0)
    (fun i : Nat => ⟨L .any [(0, .ro none 1 (ints xs)), (1, iv x), (5, iv i)], L .gone []⟩) 0 (by simp) (by simp only [B_spec_l01Place_3, go_sem, adopt_fun, Int.reduceLT, Int.reduceLE, Int.reduceToNat, Int.reduceNeg, Nat.reduceLT, Nat.reduceLeDiff, Nat.reduceMul, Nat.reduceSub, reduceIte, Nat.reduceEqDiff, Nat.reduceAdd, reduceCtorEq]; try rfl) ?_
  rintro i ⟨hi, he⟩
  by_cases hlt : (i : Int) < xs.length
  · have hlt1 : i < xs.length := by omega
    rw [drop_getD hlt1 0] at he
    simp only [fidx] at he
    simp only [B_spec_l01Place_3, B_spec_l01Place_4, B_spec_l01Place_5, intsK_getD hlt1, decide_eq_true hlt, go_sem, adopt_fun, Int.reduceLT, Int.reduceLE, Int.reduceToNat, Int.reduceNeg, Nat.reduceLT, Nat.reduceLeDiff, Nat.reduceMul, Nat.reduceSub, reduceIte, Nat.reduceEqDiff, Nat.reduceAdd, reduceCtorEq]
    intro hM
    refine ⟨⟨by omega, hlt1⟩, hlt1, ?_⟩
    have hcm : (x == xs.getD i 0) = (xs.getD i 0 == x) := Bool.beq_comm
    cases hx : (xs.getD i 0 == x) with
    | true =>
      rw [hx] at hcm
      simp only [hcm, if_true] at he
      simp only [B_spec_l01Place_6, go_sem, adopt_fun, Int.reduceLT, Int.reduceLE, Int.reduceToNat, Int.reduceNeg, Nat.reduceLT, Nat.reduceLeDiff, Nat.reduceMul, Nat.reduceSub, reduceIte, Nat.reduceEqDiff, Nat.reduceAdd, reduceCtorEq]
      rw [← he]
    | false =>
      rw [hx] at hcm
      simp only [hcm, Bool.false_eq_true, if_false] at he
      simp only [B_spec_l01Place_6, B_spec_l01Place_7, nat1 i _ hlt1 hM, go_sem, adopt_fun, Int.reduceLT, Int.reduceLE, Int.reduceToNat, Int.reduceNeg, Nat.reduceLT, Nat.reduceLeDiff, Nat.reduceMul, Nat.reduceSub, reduceIte, Nat.reduceEqDiff, Nat.reduceAdd, reduceCtorEq]
      exact ⟨i + 1, by omega, ⟨by omega, he⟩, rfl⟩
  · have : i = xs.length := by omega
    subst this
    rw [List.drop_length] at he
    simp only [fidx] at he
    simp only [B_spec_l01Place_3, B_spec_l01Place_4, B_spec_l01Place_5, B_spec_l01Place_8, decide_eq_false hlt, go_sem, adopt_fun, Int.reduceLT, Int.reduceLE, Int.reduceToNat, Int.reduceNeg, Nat.reduceLT, Nat.reduceLeDiff, Nat.reduceMul, Nat.reduceSub, reduceIte, Nat.reduceEqDiff, Nat.reduceAdd, reduceCtorEq]
    intro _
    rw [← he]

/-- Whether a list has each of so many states once. -/
def ordB (n : Int) (order : List Int) : Bool := (List.range n.toNat).all (fun s => order.contains (s : Int)) && decide ((order.length : Int) = n)
theorem ordB_iff {n : Int} {order : List Int} (hn : 1 ≤ n) : ordB n order = true ↔ (∀ s : Int, 0 ≤ s ∧ s < n → s ∈ order) ∧ (order.length : Int) = n := by
  simp only [ordB, Bool.and_eq_true, List.all_eq_true, decide_eq_true_eq, List.contains_iff_mem]
  constructor
  · rintro ⟨h1, h2⟩
    refine ⟨fun s hs => ?_, h2⟩
    have := h1 s.toNat (List.mem_range.2 (by omega))
    rwa [show ((s.toNat : Nat) : Int) = s by omega] at this
  · rintro ⟨h1, h2⟩
    exact ⟨fun s hs => h1 s (by have := List.mem_range.1 hs; omega), h2⟩
theorem fidx_lt0 {xs : List Int} {x : Int} : decide (fidx (fun y => x == y) xs 0 < 0) = !xs.contains x := by
  have h := fidx_ge (fun y => x == y) xs 0
  rw [← List.contains_eq_any_beq] at h
  rw [← h]
  by_cases e : 0 ≤ fidx (fun y => x == y) xs 0
  · rw [decide_eq_true e, decide_eq_false (by omega)]; rfl
  · rw [decide_eq_false e, decide_eq_true (by omega)]; rfl

theorem k_l01Order (n : Int) (order : List Int) (hn : 1 ≤ n ∧ n ≤ 10) : Fun Try.prog n_spec_l01Order [.ro none 1 (ints order), iv n] (bv (ordB n order)) := by
  refine fun_of mixed c_spec_l01Order rfl ⟨rfl, trivial⟩ ?_
  simp only [A_spec_l01Order, B_spec_l01Order_1, B_spec_l01Order_2, go_sem, adopt_fun, Int.reduceLT, Int.reduceLE, Int.reduceToNat, Int.reduceNeg, Nat.reduceLT, Nat.reduceLeDiff, Nat.reduceMul, Nat.reduceSub, reduceIte, Nat.reduceEqDiff, Nat.reduceAdd, reduceCtorEq]
  refine wpD_lo (fun s => n.toNat - s) (fun s => s ≤ n.toNat ∧ (List.range s).all (fun s => order.contains (s : Int)) = true)
    (fun s : Nat => ⟨L .any [(0, .ro none 1 (ints order)), (1, iv n), (5, iv s)], L .gone []⟩) 0 (by simp) (by simp only [B_spec_l01Order_3, go_sem, adopt_fun, Int.reduceLT, Int.reduceLE, Int.reduceToNat, Int.reduceNeg, Nat.reduceLT, Nat.reduceLeDiff, Nat.reduceMul, Nat.reduceSub, reduceIte, Nat.reduceEqDiff, Nat.reduceAdd, reduceCtorEq]; try rfl) ?_
  rintro s ⟨hs, ha⟩
  by_cases hlt : (s : Int) < n
  · simp only [B_spec_l01Order_3, B_spec_l01Order_4, B_spec_l01Order_5, decide_eq_true hlt, go_sem, adopt_fun, Int.reduceLT, Int.reduceLE, Int.reduceToNat, Int.reduceNeg, Nat.reduceLT, Nat.reduceLeDiff, Nat.reduceMul, Nat.reduceSub, reduceIte, Nat.reduceEqDiff, Nat.reduceAdd, reduceCtorEq]
    intro vs
    refine call_fun (k_l01Place order s) (by simp only [rowIs, boxIs, coe_argN, coe_argNs, coe_ro_o, coeL_nil, coeL_cons, coe_any, coe_val, coe_ro, coe_ro_nil, coe_ro_own, coe_st, coe_st_agg, coe_rp, coe_rp_ptr, coe_clo, coe_own0, coe_ptr0, coeL_intsK, coeL_rws, coeL_rwn, L_hit, L_miss, L_nil, Nat.reduceEqDiff, ne_eq, reduceCtorEq, not_false_eq_true, true_and, and_true, and_self, exists_eq_left, exists_eq_right, List.mem_cons, List.not_mem_nil, or_false, AObj.row.injEq, AObj.box.injEq, exists_eq_left', exists_and_left, exists_eq, Nat.zero_lt_one, Nat.lt_add_one, List.map_cons, List.map_nil, AObj.ver, Nat.reduceLT, not_true_eq_false]) trivial ?_
    have w1 : IntKind.i64.wrap ((s : Int) + 1) = ((s + 1 : Nat) : Int) := by rw [w64 (by omega)]; simp
    cases hc : order.contains (s : Int) with
    | true =>
      simp only [fidx_lt0, hc, w1, B_spec_l01Order_6, B_spec_l01Order_7, go_sem, adopt_fun, Int.reduceLT, Int.reduceLE, Int.reduceToNat, Int.reduceNeg, Nat.reduceLT, Nat.reduceLeDiff, Nat.reduceMul, Nat.reduceSub, reduceIte, Nat.reduceEqDiff, Nat.reduceAdd, reduceCtorEq]
      exact ⟨s + 1, by omega, ⟨by omega, by rw [List.range_succ, List.all_append, ha]; simp only [List.all_cons, List.all_nil, hc, Bool.and_self]⟩, rfl⟩
    | false =>
      have hf : ordB n order = false := by
        cases h : ordB n order with
        | false => rfl
        | true =>
          have := ((ordB_iff hn.1).1 h).1 s (by omega)
          rw [← List.contains_iff_mem, hc] at this; cases this
      simp only [fidx_lt0, hc, hf, B_spec_l01Order_6, go_sem, adopt_fun, Int.reduceLT, Int.reduceLE, Int.reduceToNat, Int.reduceNeg, Nat.reduceLT, Nat.reduceLeDiff, Nat.reduceMul, Nat.reduceSub, reduceIte, Nat.reduceEqDiff, Nat.reduceAdd, reduceCtorEq]
  · have : s = n.toNat := by omega
    subst this
    simp only [B_spec_l01Order_3, B_spec_l01Order_4, B_spec_l01Order_5, B_spec_l01Order_8, decide_eq_false hlt, go_sem, adopt_fun, Int.reduceLT, Int.reduceLE, Int.reduceToNat, Int.reduceNeg, Nat.reduceLT, Nat.reduceLeDiff, Nat.reduceMul, Nat.reduceSub, reduceIte, Nat.reduceEqDiff, Nat.reduceAdd, reduceCtorEq]
    intro _
    simp only [ordB, ha, Bool.true_and]
    have e : ((order.length : Int) == n) = decide ((order.length : Int) = n) := by rw [Bool.eq_iff_iff, beq_iff_eq, decide_eq_true_iff]
    rw [e]

theorem sub_len : ∀ {l1 l2 : List Int}, l1.Nodup → (∀ x ∈ l1, x ∈ l2) → l1.length ≤ l2.length
  | [], _, _, _ => by simp
  | x :: l1, l2, hd, h => by
    rw [List.nodup_cons] at hd
    have h1 := List.length_erase_of_mem (h x (by simp))
    have h0 := List.length_pos_of_mem (h x (by simp))
    have := sub_len (l2 := l2.erase x) hd.2 (fun y hy => (List.mem_erase_of_ne (fun e => hd.1 (by rw [← e]; exact hy))).2 (h y (by simp [hy])))
    simp only [List.length_cons]; omega
theorem SI_nd {l : List Int} (h : SI l) : l.Nodup := by
  unfold SI at h
  exact h.imp fun h => by omega

theorem ord_eq {n : Int} (hn : 1 ≤ n) {l : List Int} : (decide ((l.length : Int) = n) && (decide (((nrm l).length : Int) = n) && allIn l 0 (n - 1))) = ordB n l := by
  rw [Bool.eq_iff_iff, Bool.and_eq_true, Bool.and_eq_true, decide_eq_true_iff, decide_eq_true_iff, allIn_iff, ordB_iff hn]
  have nd := SI_nd (nrm_SI l)
  constructor
  · rintro ⟨h1, h2, h3⟩
    refine ⟨fun s hs => ?_, h1⟩
    by_cases hm : s ∈ l
    · exact hm
    · have ho : Once n (s :: nrm l) := ⟨List.nodup_cons.2 ⟨fun h => hm (nrm_mem.1 h), nd⟩, fun x hx => by
        rcases List.mem_cons.1 hx with rfl | hx
        · exact hs
        · have := h3 x (nrm_mem.1 hx); omega⟩
      have := ho.len hn
      simp only [List.length_cons] at this; omega
  · rintro ⟨h1, h2⟩
    have ha : (allS n).Nodup := SI_nd (allS_SI n)
    have h4 := nrm_len l
    have h5 := sub_len ha (l2 := nrm l) (fun x hx => nrm_mem.2 (h1 x (allS_in x hx)))
    rw [allS_len] at h5
    refine ⟨h2, by omega, fun x hx => ?_⟩
    by_cases hr : 0 ≤ x ∧ x < n
    · omega
    · exfalso
      have h6 := sub_len (l1 := x :: allS n) (List.nodup_cons.2 ⟨fun h => hr (allS_in x h), ha⟩) (l2 := nrm l) (fun y hy => by
        rcases List.mem_cons.1 hy with rfl | hy
        · exact nrm_mem.2 hx
        · exact nrm_mem.2 (h1 y (allS_in y hy)))
      rw [List.length_cons, allS_len] at h6
      omega

theorem k_isOrder (list : List Int) (n : Int) (hn : 1 ≤ n ∧ n ≤ 10) : Fun Try.prog n_impl_isOrder [.ro none 1 (ints list), iv n] (bv (ordB n list)) := by
  refine fun_of mixed c_impl_isOrder rfl ⟨rfl, trivial⟩ ?_
  rw [← ord_eq hn.1]
  have w1 : IntKind.i64.wrap (n - 1) = n - 1 := w64 (by omega)
  simp only [A_impl_isOrder, B_impl_isOrder_1, go_sem, adopt_fun, Int.reduceLT, Int.reduceLE, Int.reduceToNat, Int.reduceNeg, Nat.reduceLT, Nat.reduceLeDiff, Nat.reduceMul, Nat.reduceSub, reduceIte, Nat.reduceEqDiff, Nat.reduceAdd, reduceCtorEq]
  intro vs
  refine call_fun (k_size list) (by simp only [rowIs, boxIs, coe_argN, coe_argNs, coe_ro_o, coeL_nil, coeL_cons, coe_any, coe_val, coe_ro, coe_ro_nil, coe_ro_own, coe_st, coe_st_agg, coe_rp, coe_rp_ptr, coe_clo, coe_own0, coe_ptr0, coeL_intsK, coeL_rws, coeL_rwn, L_hit, L_miss, L_nil, Nat.reduceEqDiff, ne_eq, reduceCtorEq, not_false_eq_true, true_and, and_true, and_self, exists_eq_left, exists_eq_right, List.mem_cons, List.not_mem_nil, or_false, AObj.row.injEq, AObj.box.injEq, exists_eq_left', exists_and_left, exists_eq, Nat.zero_lt_one, Nat.lt_add_one, List.map_cons, List.map_nil, AObj.ver, Nat.reduceLT, not_true_eq_false]) trivial ?_
  by_cases h1 : (list.length : Int) = n
  · have e1 : ((list.length : Int) == n) = true := beq_iff_eq.2 h1
    have hne : list ≠ [] := fun e => by subst e; simp at h1; omega
    simp only [e1, go_sem, adopt_fun, Int.reduceLT, Int.reduceLE, Int.reduceToNat, Int.reduceNeg, Nat.reduceLT, Nat.reduceLeDiff, Nat.reduceMul, Nat.reduceSub, reduceIte, Nat.reduceEqDiff, Nat.reduceAdd, reduceCtorEq]
    have hk := k_sorted list (by omega)
    rw [show argN list = none from if_neg (fun e => hne (List.eq_nil_of_length_eq_zero e))] at hk
    refine call_rowI hk (by simp only [rowIs, boxIs, coe_argN, coe_argNs, coe_ro_o, coeL_nil, coeL_cons, coe_any, coe_val, coe_ro, coe_ro_nil, coe_ro_own, coe_st, coe_st_agg, coe_rp, coe_rp_ptr, coe_clo, coe_own0, coe_ptr0, coeL_intsK, coeL_rws, coeL_rwn, L_hit, L_miss, L_nil, Nat.reduceEqDiff, ne_eq, reduceCtorEq, not_false_eq_true, true_and, and_true, and_self, exists_eq_left, exists_eq_right, List.mem_cons, List.not_mem_nil, or_false, AObj.row.injEq, AObj.box.injEq, exists_eq_left', exists_and_left, exists_eq, Nat.zero_lt_one, Nat.lt_add_one, List.map_cons, List.map_nil, AObj.ver, Nat.reduceLT, not_true_eq_false]) rfl ⟨_, rfl⟩ ?_
    rintro ys v rfl
    simp only [go_sem, adopt_fun, Int.reduceLT, Int.reduceLE, Int.reduceToNat, Int.reduceNeg, Nat.reduceLT, Nat.reduceLeDiff, Nat.reduceMul, Nat.reduceSub, reduceIte, Nat.reduceEqDiff, Nat.reduceAdd, reduceCtorEq]
    refine call_fun (k_size (nrm list)) (by simp only [rowIs, boxIs, coe_argN, coe_argNs, coe_ro_o, coeL_nil, coeL_cons, coe_any, coe_val, coe_ro, coe_ro_nil, coe_ro_own, coe_st, coe_st_agg, coe_rp, coe_rp_ptr, coe_clo, coe_own0, coe_ptr0, coeL_intsK, coeL_rws, coeL_rwn, L_hit, L_miss, L_nil, Nat.reduceEqDiff, ne_eq, reduceCtorEq, not_false_eq_true, true_and, and_true, and_self, exists_eq_left, exists_eq_right, List.mem_cons, List.not_mem_nil, or_false, AObj.row.injEq, AObj.box.injEq, exists_eq_left', exists_and_left, exists_eq, Nat.zero_lt_one, Nat.lt_add_one, List.map_cons, List.map_nil, AObj.ver, Nat.reduceLT, not_true_eq_false]) trivial ?_
    by_cases h2 : ((nrm list).length : Int) = n
    · have e2 : (((nrm list).length : Int) == n) = true := beq_iff_eq.2 h2
      simp only [e2, w1, go_sem, adopt_fun, Int.reduceLT, Int.reduceLE, Int.reduceToNat, Int.reduceNeg, Nat.reduceLT, Nat.reduceLeDiff, Nat.reduceMul, Nat.reduceSub, reduceIte, Nat.reduceEqDiff, Nat.reduceAdd, reduceCtorEq]
      refine call_fun (k_areWithin list 0 (n - 1)) (by simp only [rowIs, boxIs, coe_argN, coe_argNs, coe_ro_o, coeL_nil, coeL_cons, coe_any, coe_val, coe_ro, coe_ro_nil, coe_ro_own, coe_st, coe_st_agg, coe_rp, coe_rp_ptr, coe_clo, coe_own0, coe_ptr0, coeL_intsK, coeL_rws, coeL_rwn, L_hit, L_miss, L_nil, Nat.reduceEqDiff, ne_eq, reduceCtorEq, not_false_eq_true, true_and, and_true, and_self, exists_eq_left, exists_eq_right, List.mem_cons, List.not_mem_nil, or_false, AObj.row.injEq, AObj.box.injEq, exists_eq_left', exists_and_left, exists_eq, Nat.zero_lt_one, Nat.lt_add_one, List.map_cons, List.map_nil, AObj.ver, Nat.reduceLT, not_true_eq_false]) trivial ?_
      simp only [decide_eq_true h1, decide_eq_true h2, Bool.true_and, go_sem, adopt_fun, Int.reduceLT, Int.reduceLE, Int.reduceToNat, Int.reduceNeg, Nat.reduceLT, Nat.reduceLeDiff, Nat.reduceMul, Nat.reduceSub, reduceIte, Nat.reduceEqDiff, Nat.reduceAdd, reduceCtorEq]
    · have e2 : (((nrm list).length : Int) == n) = false := beq_false_of_ne h2
      simp only [e2, decide_eq_true h1, decide_eq_false h2, Bool.true_and, Bool.false_and, go_sem, adopt_fun, Int.reduceLT, Int.reduceLE, Int.reduceToNat, Int.reduceNeg, Nat.reduceLT, Nat.reduceLeDiff, Nat.reduceMul, Nat.reduceSub, reduceIte, Nat.reduceEqDiff, Nat.reduceAdd, reduceCtorEq]
  · have e1 : ((list.length : Int) == n) = false := beq_false_of_ne h1
    simp only [e1, decide_eq_false h1, Bool.false_and, go_sem, adopt_fun, Int.reduceLT, Int.reduceLE, Int.reduceToNat, Int.reduceNeg, Nat.reduceLT, Nat.reduceLeDiff, Nat.reduceMul, Nat.reduceSub, reduceIte, Nat.reduceEqDiff, Nat.reduceAdd, reduceCtorEq]
end Go.Ab
