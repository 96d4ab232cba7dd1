/- The pairs of a machine, purely; contracts of small functions for them. Conditions: none. -/
import Derived.Test.YtgcbdccnhkfjoaaMb
set_option linter.all false
namespace Go.Ab
open Go.Proofs
set_option maxRecDepth 20000
set_option maxHeartbeats 1000000

abbrev allP (n : Int) : List (List Int) := pairsL n fun _ _ => true
/-- The number of a pair. -/
def l06I (n x y : Int) : Int := (min x y * (2 * n - min x y - 1)).tdiv 2 + max x y - min x y - 1
/-- Where a letter leads from a pair. -/
def cellM (n e : Int) (nx ou p : List Int) : Int :=
  if ou.getD (p.getD 0 0).toNat 0 = ou.getD (p.getD 1 0).toNat 0 ∧ nx.getD (p.getD 0 0).toNat 0 ≠ nx.getD (p.getD 1 0).toNat 0 then l06I n (nx.getD (p.getD 0 0).toNat 0) (nx.getD (p.getD 1 0).toNat 0) else e
def rowM (n e : Int) (nx ou : List Int) : List Int := (allP n).map (cellM n e nx ou) ++ [e]
def resM (n e : Int) (next out : List (List Int)) (k : Nat) : List (List Int) := (List.range k).map fun i => rowM n e (next.getD i []) (out.getD i [])
theorem resM_succ {n e : Int} {next out : List (List Int)} {k : Nat} : resM n e next out (k + 1) = resM n e next out k ++ [rowM n e (next.getD k []) (out.getD k [])] := by
  simp [resM, List.range_succ]
def endM (n : Int) : Int := (n * (n - 1)).tdiv 2

theorem ten {n : Int} (h : 1 ≤ n ∧ n ≤ 10) : n = 1 ∨ n = 2 ∨ n = 3 ∨ n = 4 ∨ n = 5 ∨ n = 6 ∨ n = 7 ∨ n = 8 ∨ n = 9 ∨ n = 10 := by omega
theorem allP_len {n : Int} (h : 1 ≤ n ∧ n ≤ 10) : ((allP n).length : Int) = endM n := by
  rcases ten h with rfl | rfl | rfl | rfl | rfl | rfl | rfl | rfl | rfl | rfl <;> decide
theorem endM_small {n : Int} (h : 1 ≤ n ∧ n ≤ 10) (he : endM n < 10) : n ≤ 4 := by
  rcases ten h with rfl | rfl | rfl | rfl | rfl | rfl | rfl | rfl | rfl | rfl <;> first | omega | (exfalso; revert he; decide)
theorem endM_nn {n : Int} (h : 1 ≤ n ∧ n ≤ 10) : 0 ≤ endM n ∧ endM n ≤ 45 := by
  rcases ten h with rfl | rfl | rfl | rfl | rfl | rfl | rfl | rfl | rfl | rfl <;> decide
def chkP : Bool := (List.range 5).all fun n => (List.range n).all fun x => (List.range n).all fun y => decide (x = y) || (decide (fidx (fun q => decide (q = nrm [(x : Int), y])) (allP n) 0 = l06I n x y) && decide ((nrm [(x : Int), (y : Int)]).length = 2))
theorem chkP_t : chkP = true := by decide +kernel
theorem idx_pair {n x y : Int} (hn : 1 ≤ n ∧ n ≤ 4) (hx : 0 ≤ x ∧ x < n) (hy : 0 ≤ y ∧ y < n) (hne : x ≠ y) :
    fidx (fun q => decide (q = nrm [x, y])) (allP n) 0 = l06I n x y ∧ (nrm [x, y]).length = 2 := by
  have h := chkP_t
  simp only [chkP, List.all_eq_true, List.mem_range, Bool.or_eq_true, Bool.and_eq_true, decide_eq_true_eq] at h
  have h1 := h n.toNat (by omega) x.toNat (by omega) y.toNat (by omega)
  rw [show ((n.toNat : Nat) : Int) = n by omega, show ((x.toNat : Nat) : Int) = x by omega, show ((y.toNat : Nat) : Int) = y by omega] at h1
  rcases h1 with h1 | h1
  · omega
  · exact h1
theorem nrm_same {x : Int} : (nrm [x, x]).length = 1 := by
  have : nrm [x, x] = [x] := by simp [nrm, put]
  rw [this]; rfl

theorem cellM_t {n e : Int} {nx ou : List Int} {s t : Int} (ho : ou.getD s.toNat 0 = ou.getD t.toNat 0) (hx : nx.getD s.toNat 0 ≠ nx.getD t.toNat 0) : cellM n e nx ou [s, t] = l06I n (nx.getD s.toNat 0) (nx.getD t.toNat 0) := by
  unfold cellM
  exact if_pos ⟨ho, hx⟩
theorem cellM_f {n e : Int} {nx ou : List Int} {s t : Int} (h : ¬ (ou.getD s.toNat 0 = ou.getD t.toNat 0 ∧ nx.getD s.toNat 0 ≠ nx.getD t.toNat 0)) : cellM n e nx ou [s, t] = e := by
  unfold cellM
  exact if_neg h

theorem k_l00Max (a b : Int) : Fun Try.prog n_spec_l00Max [iv a, iv b] (iv (max a b)) := by
  refine fun_of mixed c_spec_l00Max rfl ⟨rfl, trivial⟩ ?_
  by_cases h : a > b
  · have e : max a b = a := by omega
    simp only [B_spec_l00Max_2, B_spec_l00Max_3, B_spec_l00Max_1, A_spec_l00Max, decide_eq_true h, e, go_sem, adopt_fun, Int.reduceLT, Int.reduceLE, Int.reduceToNat, Int.reduceNeg, Nat.reduceLT, Nat.reduceLeDiff, Nat.reduceMul, Nat.reduceSub, reduceIte, Nat.reduceEqDiff, Nat.reduceAdd, reduceCtorEq]
  · have e : max a b = b := by omega
    simp only [B_spec_l00Max_2, B_spec_l00Max_3, B_spec_l00Max_1, A_spec_l00Max, decide_eq_false h, e, go_sem, adopt_fun, Int.reduceLT, Int.reduceLE, Int.reduceToNat, Int.reduceNeg, Nat.reduceLT, Nat.reduceLeDiff, Nat.reduceMul, Nat.reduceSub, reduceIte, Nat.reduceEqDiff, Nat.reduceAdd, reduceCtorEq]

theorem k_l06Pair (n x y : Int) (hn : 1 ≤ n ∧ n ≤ 10) (hx : 0 ≤ x ∧ x < n) (hy : 0 ≤ y ∧ y < n) : Fun Try.prog n_spec_l06Pair [iv n, iv x, iv y] (iv (l06I n x y)) := by
  refine fun_of mixed c_spec_l06Pair rfl ⟨rfl, trivial⟩ ?_
  have hlo : 0 ≤ min x y ∧ min x y < n := by omega
  have hhi : 0 ≤ max x y ∧ max x y < 10 := by omega
  simp only [A_spec_l06Pair, B_spec_l06Pair_1, go_sem, adopt_fun, Int.reduceLT, Int.reduceLE, Int.reduceToNat, Int.reduceNeg, Nat.reduceLT, Nat.reduceLeDiff, Nat.reduceMul, Nat.reduceSub, reduceIte, Nat.reduceEqDiff, Nat.reduceAdd, reduceCtorEq]
  intro vs
  refine call_fun (k_l00Min x y) (by simp only [rowIs, boxIs, coe_argN, coe_argNs, coe_ro_o, coeL_nil, coeL_cons, coe_any, coe_val, coe_ro, coe_ro_nil, coe_ro_own, coe_st, coe_st_agg, coe_rp, coe_rp_ptr, coe_clo, coe_own0, coe_ptr0, coeL_intsK, coeL_rws, coeL_rwn, L_hit, L_miss, L_nil, Nat.reduceEqDiff, ne_eq, reduceCtorEq, not_false_eq_true, true_and, and_true, and_self, exists_eq_left, exists_eq_right, List.mem_cons, List.not_mem_nil, or_false, AObj.row.injEq, AObj.box.injEq, exists_eq_left', exists_and_left, exists_eq, Nat.zero_lt_one, Nat.lt_add_one, List.map_cons, List.map_nil, AObj.ver, Nat.reduceLT, not_true_eq_false]) trivial ?_
  simp only [B_spec_l06Pair_2, go_sem, adopt_fun, Int.reduceLT, Int.reduceLE, Int.reduceToNat, Int.reduceNeg, Nat.reduceLT, Nat.reduceLeDiff, Nat.reduceMul, Nat.reduceSub, reduceIte, Nat.reduceEqDiff, Nat.reduceAdd, reduceCtorEq]
  intro vs2
  refine call_fun (k_l00Max x y) (by simp only [rowIs, boxIs, coe_argN, coe_argNs, coe_ro_o, coeL_nil, coeL_cons, coe_any, coe_val, coe_ro, coe_ro_nil, coe_ro_own, coe_st, coe_st_agg, coe_rp, coe_rp_ptr, coe_clo, coe_own0, coe_ptr0, coeL_intsK, coeL_rws, coeL_rwn, L_hit, L_miss, L_nil, Nat.reduceEqDiff, ne_eq, reduceCtorEq, not_false_eq_true, true_and, and_true, and_self, exists_eq_left, exists_eq_right, List.mem_cons, List.not_mem_nil, or_false, AObj.row.injEq, AObj.box.injEq, exists_eq_left', exists_and_left, exists_eq, Nat.zero_lt_one, Nat.lt_add_one, List.map_cons, List.map_nil, AObj.ver, Nat.reduceLT, not_true_eq_false]) trivial ?_
  unfold l06I
  generalize min x y = lo at hlo ⊢
  generalize max x y = hi at hhi ⊢
  have hp0 : 0 ≤ lo * (2 * n - lo - 1) := Int.mul_nonneg hlo.1 (by omega)
  have hp1 : lo * (2 * n - lo - 1) ≤ 10 * 20 := Int.mul_le_mul (by omega) (by omega) (by omega) (by omega)
  have w1 : IntKind.i64.wrap (2 * n) = 2 * n := w64 (by omega)
  have w2 : IntKind.i64.wrap (2 * n - lo) = 2 * n - lo := w64 (by omega)
  have w3 : IntKind.i64.wrap (2 * n - lo - 1) = 2 * n - lo - 1 := w64 (by omega)
  have w4 : IntKind.i64.wrap (lo * (2 * n - lo - 1)) = lo * (2 * n - lo - 1) := w64 (by omega)
  have hq : 0 ≤ (lo * (2 * n - lo - 1)).tdiv 2 ∧ (lo * (2 * n - lo - 1)).tdiv 2 ≤ 200 := by
    rw [Int.tdiv_eq_ediv_of_nonneg hp0]
    generalize lo * (2 * n - lo - 1) = z at hp0 hp1 ⊢
    omega
  have w5 : IntKind.i64.wrap ((lo * (2 * n - lo - 1)).tdiv 2) = (lo * (2 * n - lo - 1)).tdiv 2 := w64 (by omega)
  have w6 : IntKind.i64.wrap ((lo * (2 * n - lo - 1)).tdiv 2 + hi) = (lo * (2 * n - lo - 1)).tdiv 2 + hi := w64 (by omega)
  have w7 : IntKind.i64.wrap ((lo * (2 * n - lo - 1)).tdiv 2 + hi - lo) = (lo * (2 * n - lo - 1)).tdiv 2 + hi - lo := w64 (by omega)
  have w8 : IntKind.i64.wrap ((lo * (2 * n - lo - 1)).tdiv 2 + hi - lo - 1) = (lo * (2 * n - lo - 1)).tdiv 2 + hi - lo - 1 := w64 (by omega)
  have h20 : ¬ (2 : Int) = 0 := by omega
  simp only [B_spec_l06Pair_3, w1, w2, w3, w4, w5, w6, w7, w8, h20, go_sem, adopt_fun, Int.reduceLT, Int.reduceLE, Int.reduceToNat, Int.reduceNeg, Nat.reduceLT, Nat.reduceLeDiff, Nat.reduceMul, Nat.reduceSub, reduceIte, Nat.reduceEqDiff, Nat.reduceAdd, reduceCtorEq]

theorem k_PairAutomaton_1 (s t : Int) : Fun Try.prog n_impl_PairAutomaton_1 [iv s, iv t] (bv true) := by
  refine fun_of mixed c_impl_PairAutomaton_1 rfl ⟨rfl, trivial⟩ ?_
  simp only [A_impl_PairAutomaton_1, B_impl_PairAutomaton_1_1, go_sem, adopt_fun, Int.reduceLT, Int.reduceLE, Int.reduceToNat, Int.reduceNeg, Nat.reduceLT, Nat.reduceLeDiff, Nat.reduceMul, Nat.reduceSub, reduceIte, Nat.reduceEqDiff, Nat.reduceAdd, reduceCtorEq]
theorem k_PairAutomaton_2 (q to : List Int) : Fun Try.prog n_impl_PairAutomaton_2 [.ro none 1 (ints q), .rp [.ro none 1 (ints to)] 0] (bv (decide (q = to))) := by
  refine fun_of mixed c_impl_PairAutomaton_2 rfl ⟨rfl, trivial⟩ ?_
  simp only [A_impl_PairAutomaton_2, B_impl_PairAutomaton_2_1, go_sem, adopt_fun, Int.reduceLT, Int.reduceLE, Int.reduceToNat, Int.reduceNeg, Nat.reduceLT, Nat.reduceLeDiff, Nat.reduceMul, Nat.reduceSub, reduceIte, Nat.reduceEqDiff, Nat.reduceAdd, reduceCtorEq]
  intro vs
  refine call_fun (k_Equal q to) (by simp only [rowIs, boxIs, coe_argN, coe_argNs, coe_ro_o, coeL_nil, coeL_cons, coe_any, coe_val, coe_ro, coe_ro_nil, coe_ro_own, coe_st, coe_st_agg, coe_rp, coe_rp_ptr, coe_clo, coe_own0, coe_ptr0, coeL_intsK, coeL_rws, coeL_rwn, L_hit, L_miss, L_nil, Nat.reduceEqDiff, ne_eq, reduceCtorEq, not_false_eq_true, true_and, and_true, and_self, exists_eq_left, exists_eq_right, List.mem_cons, List.not_mem_nil, or_false, AObj.row.injEq, AObj.box.injEq, exists_eq_left', exists_and_left, exists_eq, Nat.zero_lt_one, Nat.lt_add_one, List.map_cons, List.map_nil, AObj.ver, Nat.reduceLT, not_true_eq_false]) trivial ?_
  simp only [go_sem, adopt_fun, Int.reduceLT, Int.reduceLE, Int.reduceToNat, Int.reduceNeg, Nat.reduceLT, Nat.reduceLeDiff, Nat.reduceMul, Nat.reduceSub, reduceIte, Nat.reduceEqDiff, Nat.reduceAdd, reduceCtorEq]
end Go.Ab
