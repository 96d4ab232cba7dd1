/- Contracts: products and restrictions of automata. Conditions: none. -/
import Derived.Test.YtmdimjlfgjmchaaNb
import Derived.Test.YtmdimjlfgjmchaaPl
set_option linter.all false
namespace Go.Ab
open Go.Proofs
set_option maxRecDepth 20000
set_option maxHeartbeats 4000000

theorem k_isClosed_1 (s : Int) (set row : List Int) (h : 0 ≤ s ∧ s.toNat < row.length) :
    Fun Try.prog n_impl_Automaton_isClosed_1 [iv s, .rp [.ro none 1 (ints set)] 0, .rp [.ro none 1 (ints row)] 0] (bv !(set.contains (row.getD s.toNat 0))) := by
  refine fun_of mixed c_impl_Automaton_isClosed_1 rfl ⟨rfl, trivial⟩ ?_
  simp only [A_impl_Automaton_isClosed_1, B_impl_Automaton_isClosed_1_1, intsK_getD h.2, go_sem, adopt_fun, Int.reduceLT, Int.reduceLE, Int.reduceToNat, Int.reduceNeg, Nat.reduceLT, Nat.reduceLeDiff, Nat.reduceMul, Nat.reduceSub, reduceIte, Nat.reduceEqDiff, Nat.reduceAdd, reduceCtorEq]
  intro vs
  refine ⟨h, h.2, ?_⟩
  refine call_fun (k_Contains set (row.getD s.toNat 0)) qCS trivial ?_
  simp only [go_sem, adopt_fun, Int.reduceLT, Int.reduceLE, Int.reduceToNat, Int.reduceNeg, Nat.reduceLT, Nat.reduceLeDiff, Nat.reduceMul, Nat.reduceSub, reduceIte, Nat.reduceEqDiff, Nat.reduceAdd, reduceCtorEq]

theorem k_isClosed (n : Int) (next : List (List Int)) (set : List Int) (A : Aut n next) (C : ClS n next set) : Fun Try.prog n_impl_Automaton_isClosed [autA n next, .ro none 1 (ints set)] (bv true) := by
  refine fun_of mixed c_impl_Automaton_isClosed rfl ⟨rfl, trivial⟩ ?_
  simp only [A_impl_Automaton_isClosed, B_impl_Automaton_isClosed_1, go_sem, adopt_fun, Int.reduceLT, Int.reduceLE, Int.reduceToNat, Int.reduceNeg, Nat.reduceLT, Nat.reduceLeDiff, Nat.reduceMul, Nat.reduceSub, reduceIte, Nat.reduceEqDiff, Nat.reduceAdd, reduceCtorEq]
  intro vs hM
  simp only [B_impl_Automaton_isClosed_2, go_sem, adopt_fun, Int.reduceLT, Int.reduceLE, Int.reduceToNat, Int.reduceNeg, Nat.reduceLT, Nat.reduceLeDiff, Nat.reduceMul, Nat.reduceSub, reduceIte, Nat.reduceEqDiff, Nat.reduceAdd, reduceCtorEq]
  refine wpD_lo (fun i => next.length - i) (fun i => i ≤ next.length)
    (fun (i : Nat) => ⟨L .any [(3, .ptr 3 (vs 1 0) 0), (8, .ro none 1 (rwn next)), (9, iv next.length), (10, iv i)], L .gone [(2, .box (vs 0 0) [iv n, .ro none 1 (rwn next)]), (3, .box (vs 1 0) [.ro none 1 (ints set)])]⟩)
    0 (by simp) (by simp only [B_impl_Automaton_isClosed_3, go_sem, adopt_fun, Int.reduceLT, Int.reduceLE, Int.reduceToNat, Int.reduceNeg, Nat.reduceLT, Nat.reduceLeDiff, Nat.reduceMul, Nat.reduceSub, reduceIte, Nat.reduceEqDiff, Nat.reduceAdd, reduceCtorEq]; try rfl) ?_
  intro i hi
  by_cases hlt : (i : Int) < next.length
  · have hlt1 : i < next.length := by omega
    have hrm := getD_mem hlt1 []
    have hrow := A.row _ hrm
    have hcl := fun x hx => C.cl x hx _ hrm
    simp only [B_impl_Automaton_isClosed_3, B_impl_Automaton_isClosed_4, B_impl_Automaton_isClosed_5, rwn_getD hlt1, decide_eq_true hlt, go_sem, adopt_fun, Int.reduceLT, Int.reduceLE, Int.reduceToNat, Int.reduceNeg, Nat.reduceLT, Nat.reduceLeDiff, Nat.reduceMul, Nat.reduceSub, reduceIte, Nat.reduceEqDiff, Nat.reduceAdd, reduceCtorEq]
    intro vs3
    refine ⟨⟨by omega, hlt1⟩, hlt1, ?_⟩
    generalize next.getD i [] = row at hrow hcl ⊢
    simp only [B_impl_Automaton_isClosed_6, go_sem, adopt_fun, Int.reduceLT, Int.reduceLE, Int.reduceToNat, Int.reduceNeg, Nat.reduceLT, Nat.reduceLeDiff, Nat.reduceMul, Nat.reduceSub, reduceIte, Nat.reduceEqDiff, Nat.reduceAdd, reduceCtorEq]
    intro vs4
    refine call_fun (k_ContainsFunc1 set n_impl_Automaton_isClosed_1 [.rp [.ro none 1 (ints set)] 0, .rp [.ro none 1 (ints row)] 0] (fun s => !(set.contains (row.getD s.toNat 0))) ⟨by simp only [go_sem, adopt_fun, Int.reduceLT, Int.reduceLE, Int.reduceToNat, Int.reduceNeg, Nat.reduceLT, Nat.reduceLeDiff, Nat.reduceMul, Nat.reduceSub, reduceIte, Nat.reduceEqDiff, Nat.reduceAdd, reduceCtorEq], by intros; simp only [rowIs, boxIs, coe_argN, coe_argNs, coe_ro_o, coeL_nil, coeL_cons, coe_any, coe_val, coe_ro, coe_ro_nil, coe_ro_own, coe_st, coe_st_agg, coe_rp, coe_rp_ptr, coe_clo, coe_own0, coe_ptr0, coeL_intsK, coeL_rws, coeL_rwn, L_hit, L_miss, L_nil, Nat.reduceEqDiff, ne_eq, reduceCtorEq, not_false_eq_true, true_and, and_true, and_self, exists_eq_left, exists_eq_right, List.mem_cons, List.not_mem_nil, or_false, AObj.row.injEq, AObj.box.injEq, exists_eq_left', exists_and_left, exists_eq, Nat.zero_lt_one, Nat.lt_add_one, List.map_cons, List.map_nil, AObj.ver, Nat.reduceLT, not_true_eq_false]⟩
      (fun s hs => k_isClosed_1 s set row (by have := C.rg s hs; omega))) qCS trivial ?_
    have hno : (set.any fun s => !(set.contains (row.getD s.toNat 0))) = false := by
      rw [List.any_eq_false]
      intro s hs
      have hc : set.contains (row.getD s.toNat 0) = true := List.contains_iff_mem.2 (hcl s hs)
      rw [hc]; simp
    simp only [hno, B_impl_Automaton_isClosed_7, B_impl_Automaton_isClosed_8, nat1 i _ hlt1 hM, go_sem, adopt_fun, Int.reduceLT, Int.reduceLE, Int.reduceToNat, Int.reduceNeg, Nat.reduceLT, Nat.reduceLeDiff, Nat.reduceMul, Nat.reduceSub, reduceIte, Nat.reduceEqDiff, Nat.reduceAdd, reduceCtorEq]
    exact ⟨i + 1, by omega, by omega, rfl⟩
  · simp only [B_impl_Automaton_isClosed_3, B_impl_Automaton_isClosed_4, B_impl_Automaton_isClosed_9, decide_eq_false hlt, go_sem, adopt_fun, Int.reduceLT, Int.reduceLE, Int.reduceToNat, Int.reduceNeg, Nat.reduceLT, Nat.reduceLeDiff, Nat.reduceMul, Nat.reduceSub, reduceIte, Nat.reduceEqDiff, Nat.reduceAdd, reduceCtorEq]

theorem k_RestrictTo_1 (set : List Int) (n : Int) (next : List (List Int)) (hn : 1 ≤ n ∧ n ≤ 10) : Fun Try.prog n_impl_RestrictTo_1 [.rp [.ro none 1 (ints set)] 0, autP n next] (bv (setB n set)) := by
  refine fun_of mixed c_impl_RestrictTo_1 rfl ⟨rfl, trivial⟩ ?_
  simp only [A_impl_RestrictTo_1, B_impl_RestrictTo_1_1, go_sem, adopt_fun, Int.reduceLT, Int.reduceLE, Int.reduceToNat, Int.reduceNeg, Nat.reduceLT, Nat.reduceLeDiff, Nat.reduceMul, Nat.reduceSub, reduceIte, Nat.reduceEqDiff, Nat.reduceAdd, reduceCtorEq]
  intro vs
  refine call_fun (k_isSet set n hn) qCS trivial ?_
  simp only [go_sem, adopt_fun, Int.reduceLT, Int.reduceLE, Int.reduceToNat, Int.reduceNeg, Nat.reduceLT, Nat.reduceLeDiff, Nat.reduceMul, Nat.reduceSub, reduceIte, Nat.reduceEqDiff, Nat.reduceAdd, reduceCtorEq]

theorem k_RestrictTo (n : Int) (next : List (List Int)) (set : List Int) (A : Aut n next) (C : ClS n next set) (hs : setB n set = true) (h1 : 1 ≤ set.length) (h2 : set.length ≤ 10) :
    Fn Try.prog n_impl_RestrictTo [autA n next, .ro none 1 (ints set)] fun rows res => ∃ v ps, rows = [.row v 1 true (rwp ps)] ∧ ps.map (·.2) = next.map (renR set) ∧ res = .tup [.st [iv set.length, .own 6000 v], iv 0] := by
  refine con_of mixed c_impl_RestrictTo rfl (by simp) ?_
  have n1 := A.n1
  have n2 := A.n2
  have hv : autB n next = true := autB_iff.2 A
  simp only [A_impl_RestrictTo, B_impl_RestrictTo_1, wpD_kp, wpD_regi, go_sem, adopt_fun, Int.reduceLT, Int.reduceLE, Int.reduceToNat, Int.reduceNeg, Nat.reduceLT, Nat.reduceLeDiff, Nat.reduceMul, Nat.reduceSub, reduceIte, Nat.reduceEqDiff, Nat.reduceAdd, reduceCtorEq]
  intro vs0 U0 hN0 vs1 U1 hN1
  refine call_fun (k_code n next n_impl_RestrictTo_1 [.rp [.ro none 1 (ints set)] 0, autP n next] _ ⟨by simp only [go_sem, adopt_fun, Int.reduceLT, Int.reduceLE, Int.reduceToNat, Int.reduceNeg, Nat.reduceLT, Nat.reduceLeDiff, Nat.reduceMul, Nat.reduceSub, reduceIte, Nat.reduceEqDiff, Nat.reduceAdd, reduceCtorEq], by intros; simp only [rowIs, boxIs, coe_argN, coe_argNs, coe_ro_o, coeL_nil, coeL_cons, coe_any, coe_val, coe_ro, coe_ro_nil, coe_ro_own, coe_st, coe_st_agg, coe_rp, coe_rp_ptr, coe_clo, coe_own0, coe_ptr0, coeL_intsK, coeL_rws, coeL_rwn, L_hit, L_miss, L_nil, Nat.reduceEqDiff, ne_eq, reduceCtorEq, not_false_eq_true, true_and, and_true, and_self, exists_eq_left, exists_eq_right, List.mem_cons, List.not_mem_nil, or_false, AObj.row.injEq, AObj.box.injEq, exists_eq_left', exists_and_left, exists_eq, Nat.zero_lt_one, Nat.lt_add_one, List.map_cons, List.map_nil, AObj.ver, Nat.reduceLT, not_true_eq_false]⟩
    (fun _ => k_RestrictTo_1 set n next ⟨n1, n2⟩)) qCS trivial ?_
  have h3 : codeI (autB n next) (setB n set) = 0 := by simp [codeI, hv, hs]
  have e0 : ((0 : Int) == 0) = true := rfl
  have e1 : ((set.length : Int) == 0) = false := beq_false_of_ne (by omega)
  have e2 : ((0 : Int) != 0) = false := rfl
  simp only [h3, e0, e1, B_impl_RestrictTo_2, wpD_kp, wpD_regi, go_sem, adopt_fun, Int.reduceLT, Int.reduceLE, Int.reduceToNat, Int.reduceNeg, Nat.reduceLT, Nat.reduceLeDiff, Nat.reduceMul, Nat.reduceSub, reduceIte, Nat.reduceEqDiff, Nat.reduceAdd, reduceCtorEq]
  intro vs2 U2 hN2 hM
  refine call_fun (k_isClosed n next set A C) qCS trivial ?_
  simp only [B_impl_RestrictTo_3, B_impl_RestrictTo_4, B_impl_RestrictTo_5, B_impl_RestrictTo_6, e2, wpD_kp, wpD_regi, go_sem, adopt_fun, Int.reduceLT, Int.reduceLE, Int.reduceToNat, Int.reduceNeg, Nat.reduceLT, Nat.reduceLeDiff, Nat.reduceMul, Nat.reduceSub, reduceIte, Nat.reduceEqDiff, Nat.reduceAdd, reduceCtorEq]
  intro vs3 U3 hN3 vs4 U4 hN4
  refine call_autN (fun x y e => (hN4.inj _ _ _ _ e).2) (k_renumbered n next set A C.rg (by omega)) qCS rfl ?_
  intro v ps hps hdj
  simp only [wpD_kp, wpD_regi, go_sem, adopt_fun, Int.reduceLT, Int.reduceLE, Int.reduceToNat, Int.reduceNeg, Nat.reduceLT, Nat.reduceLeDiff, Nat.reduceMul, Nat.reduceSub, reduceIte, Nat.reduceEqDiff, Nat.reduceAdd, reduceCtorEq]
  refine ⟨[29], by simp, by simp, by simp, ?_⟩
  simp only [range1, List.length_singleton, renL_rwp, Nat.not_lt_zero, range1, ren_val, ren_any, ren_ro, rnNm_n, rnNm_sn, rnNm_o, rnNm_s, ren_st, ren_tup, renL_nil, renL_cons, renL_intsK, renL_rws, renL_rwn, oren_box, oren_row, oren_map, ren_own_e0, ren_own_e1, ren_own_e2, ren_ptr_e0, ren_mp_e0, ren_mp_e1, ren_own_r0, ren_own_r1, ren_own_r2, ren_ptr_r0, ren_mp_r0, ren_mp_r1, List.range_zero, callHp_nil, callHp_one, callHp_two, gone_nil, gone_one, gone_two, AVal.fresh, freshL, fresh_intsK, fresh_rws, AObj.fresh, id, Option.isSome_some, or_true, true_or, go_sem, adopt_fun, Int.reduceLT, Int.reduceLE, Int.reduceToNat, Int.reduceNeg, Nat.reduceLT, Nat.reduceLeDiff, Nat.reduceMul, Nat.reduceSub, reduceIte, Nat.reduceEqDiff, Nat.reduceAdd, reduceCtorEq]
  exact ⟨fresh_rwp, v, ps, by simp, hps, rfl⟩

theorem k_a2Map (xs : List Int) (n : Int) (h : ∀ x ∈ xs, 0 ≤ x ∧ x < n) (hl : (xs.length : Int) = n) : Fun Try.prog n_laws_a2Map [.ro none 1 (ints xs), iv n] (bv true) := by
  refine fun_of mixed c_laws_a2Map rfl ⟨rfl, trivial⟩ ?_
  simp only [A_laws_a2Map, B_laws_a2Map_1, B_laws_a2Map_2, go_sem, adopt_fun, Int.reduceLT, Int.reduceLE, Int.reduceToNat, Int.reduceNeg, Nat.reduceLT, Nat.reduceLeDiff, Nat.reduceMul, Nat.reduceSub, reduceIte, Nat.reduceEqDiff, Nat.reduceAdd, reduceCtorEq]
  refine wpD_lo (fun i => xs.length - i) (fun i => i ≤ xs.length)
    (fun (i : Nat) => ⟨L .any [(0, .ro none 1 (ints xs)), (1, iv n), (5, iv i)], L .gone []⟩)
    0 (by simp) (by simp only [B_laws_a2Map_3, go_sem, adopt_fun, Int.reduceLT, Int.reduceLE, Int.reduceToNat, Int.reduceNeg, Nat.reduceLT, Nat.reduceLeDiff, Nat.reduceMul, Nat.reduceSub, reduceIte, Nat.reduceEqDiff, Nat.reduceAdd, reduceCtorEq]; try rfl) ?_
  intro i hi
  by_cases hlt : (i : Int) < xs.length
  · have hlt1 : i < xs.length := by omega
    have hx := h _ (getD_mem hlt1 0)
    have g1 : ¬ xs.getD i 0 < 0 := by omega
    have g2 : ¬ xs.getD i 0 ≥ n := by omega
    simp only [B_laws_a2Map_3, B_laws_a2Map_4, B_laws_a2Map_5, intsK_getD hlt1, decide_eq_true hlt, decide_eq_false g1, decide_eq_false g2, go_sem, adopt_fun, Int.reduceLT, Int.reduceLE, Int.reduceToNat, Int.reduceNeg, Nat.reduceLT, Nat.reduceLeDiff, Nat.reduceMul, Nat.reduceSub, reduceIte, Nat.reduceEqDiff, Nat.reduceAdd, reduceCtorEq]
    intro hM
    refine ⟨⟨by omega, hlt1⟩, hlt1, ⟨by omega, hlt1⟩, hlt1, ?_⟩
    simp only [B_laws_a2Map_6, B_laws_a2Map_7, nat1 i _ hlt1 hM, go_sem, adopt_fun, Int.reduceLT, Int.reduceLE, Int.reduceToNat, Int.reduceNeg, Nat.reduceLT, Nat.reduceLeDiff, Nat.reduceMul, Nat.reduceSub, reduceIte, Nat.reduceEqDiff, Nat.reduceAdd, reduceCtorEq]
    exact ⟨i + 1, by omega, by omega, rfl⟩
  · have e1 : ((xs.length : Int) == n) = true := by rw [hl]; simp
    simp only [B_laws_a2Map_3, B_laws_a2Map_4, B_laws_a2Map_8, e1, decide_eq_false hlt, go_sem, adopt_fun, Int.reduceLT, Int.reduceLE, Int.reduceToNat, Int.reduceNeg, Nat.reduceLT, Nat.reduceLeDiff, Nat.reduceMul, Nat.reduceSub, reduceIte, Nat.reduceEqDiff, Nat.reduceAdd, reduceCtorEq]
end Go.Ab
