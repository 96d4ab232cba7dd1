/- Contracts: which machines are valid. Conditions: none. -/
import Derived.Test.YtoadopegbnmfkaaMa
set_option linter.all false
namespace Go.Ab
open Go.Proofs
set_option maxRecDepth 20000
set_option maxHeartbeats 1000000

/-- Whether a machine is valid. -/
def outB (n o : Int) (row : List Int) : Bool := decide ((row.length : Int) = n) && allIn row 0 (o - 1)
def machB (n o : Int) (next out : List (List Int)) : Bool := autB n next && ((decide (1 ≤ o) && decide (o ≤ 3)) && (decide (out.length = next.length) && out.all (outB n o)))
structure Mach (n o : Int) (next out : List (List Int)) : Prop where
  aut : Aut n next
  o1 : 1 ≤ o
  o2 : o ≤ 3
  len : out.length = next.length
  row : ∀ row ∈ out, (row.length : Int) = n ∧ ∀ x ∈ row, 0 ≤ x ∧ x < o
theorem machB_iff {n o : Int} {next out : List (List Int)} : machB n o next out = true ↔ Mach n o next out := by
  simp only [machB, outB, Bool.and_eq_true, decide_eq_true_eq, List.all_eq_true, allIn_iff, autB_iff]
  constructor
  · rintro ⟨h1, ⟨h2, h3⟩, h4, h5⟩
    exact ⟨h1, h2, h3, h4, fun row hr => ⟨(h5 row hr).1, fun x hx => by have := (h5 row hr).2 x hx; omega⟩⟩
  · rintro ⟨h1, h2, h3, h4, h5⟩
    exact ⟨h1, ⟨h2, h3⟩, h4, fun row hr => ⟨(h5 row hr).1, fun x hx => by have := (h5 row hr).2 x hx; omega⟩⟩

theorem k_forget (n o : Int) (next out : List (List Int)) : Con Try.prog n_impl_Machine_forget [] [machA n o next out] true fun outs rows res => outs = [] ∧ rows = [] ∧ res = autA n next := by
  refine con_sh mixed c_impl_Machine_forget rfl (by simp) ?_
  simp only [A_impl_Machine_forget, B_impl_Machine_forget_1, go_sem, adopt_fun, Int.reduceLT, Int.reduceLE, Int.reduceToNat, Int.reduceNeg, Nat.reduceLT, Nat.reduceLeDiff, Nat.reduceMul, Nat.reduceSub, reduceIte, Nat.reduceEqDiff, Nat.reduceAdd, reduceCtorEq]
  intro vs
  refine ⟨[], by simp, by simp, by simp, ?_⟩
  simp only [Nat.not_lt_zero, range1, ren_val, ren_any, ren_ro, rnNm_n, rnNm_sn, rnNm_o, rnNm_s, ren_st, ren_tup, renL_nil, renL_cons, renL_intsK, renL_rws, renL_rwn, oren_box, oren_row, oren_map, ren_own_e0, ren_own_e1, ren_own_e2, ren_ptr_e0, ren_mp_e0, ren_mp_e1, ren_own_r0, ren_own_r1, ren_own_r2, ren_ptr_r0, ren_mp_r0, ren_mp_r1, List.range_zero, callHp_nil, callHp_one, callHp_two, gone_nil, gone_one, gone_two, AVal.fresh, freshL, fresh_intsK, fresh_rws, AObj.fresh, id, Option.isSome_some, or_true, true_or, go_sem, adopt_fun, Int.reduceLT, Int.reduceLE, Int.reduceToNat, Int.reduceNeg, Nat.reduceLT, Nat.reduceLeDiff, Nat.reduceMul, Nat.reduceSub, reduceIte, Nat.reduceEqDiff, Nat.reduceAdd, reduceCtorEq]

theorem k_l06Plain (n o : Int) (next out : List (List Int)) : Con Try.prog n_spec_l06Plain [] [machP n o next out] true fun outs rows res => outs = [] ∧ rows = [] ∧ res = autA n next := by
  refine con_sh mixed c_spec_l06Plain rfl (by simp) ?_
  simp only [A_spec_l06Plain, B_spec_l06Plain_1, go_sem, adopt_fun, Int.reduceLT, Int.reduceLE, Int.reduceToNat, Int.reduceNeg, Nat.reduceLT, Nat.reduceLeDiff, Nat.reduceMul, Nat.reduceSub, reduceIte, Nat.reduceEqDiff, Nat.reduceAdd, reduceCtorEq]
  intro vs
  refine ⟨[], by simp, by simp, by simp, ?_⟩
  simp only [Nat.not_lt_zero, range1, ren_val, ren_any, ren_ro, rnNm_n, rnNm_sn, rnNm_o, rnNm_s, ren_st, ren_tup, renL_nil, renL_cons, renL_intsK, renL_rws, renL_rwn, oren_box, oren_row, oren_map, ren_own_e0, ren_own_e1, ren_own_e2, ren_ptr_e0, ren_mp_e0, ren_mp_e1, ren_own_r0, ren_own_r1, ren_own_r2, ren_ptr_r0, ren_mp_r0, ren_mp_r1, List.range_zero, callHp_nil, callHp_one, callHp_two, gone_nil, gone_one, gone_two, AVal.fresh, freshL, fresh_intsK, fresh_rws, AObj.fresh, id, Option.isSome_some, or_true, true_or, go_sem, adopt_fun, Int.reduceLT, Int.reduceLE, Int.reduceToNat, Int.reduceNeg, Nat.reduceLT, Nat.reduceLeDiff, Nat.reduceMul, Nat.reduceSub, reduceIte, Nat.reduceEqDiff, Nat.reduceAdd, reduceCtorEq]

theorem k_ValidMachine_1 (row : List Int) (n o : Int) (next out : List (List Int)) (ho : 1 ≤ o ∧ o ≤ 3) : Fun Try.prog n_impl_ValidMachine_1 [.ro none 1 (ints row), machP n o next out] (bv !(outB n o row)) := by
  refine fun_of mixed c_impl_ValidMachine_1 rfl ⟨rfl, trivial⟩ ?_
  have w : IntKind.i64.wrap (o - 1) = o - 1 := w64 (by omega)
  simp only [A_impl_ValidMachine_1, B_impl_ValidMachine_1_1, w, go_sem, adopt_fun, Int.reduceLT, Int.reduceLE, Int.reduceToNat, Int.reduceNeg, Nat.reduceLT, Nat.reduceLeDiff, Nat.reduceMul, Nat.reduceSub, reduceIte, Nat.reduceEqDiff, Nat.reduceAdd, reduceCtorEq]
  intro vs
  refine call_fun (k_size row) qCS trivial ?_
  by_cases h : (row.length : Int) = n
  · have h2 : ((row.length : Int) != n) = false := by simp [h]
    simp only [h2, w, go_sem, adopt_fun, Int.reduceLT, Int.reduceLE, Int.reduceToNat, Int.reduceNeg, Nat.reduceLT, Nat.reduceLeDiff, Nat.reduceMul, Nat.reduceSub, reduceIte, Nat.reduceEqDiff, Nat.reduceAdd, reduceCtorEq]
    refine call_fun (k_areWithin row 0 (o - 1)) qCS trivial ?_
    simp only [go_sem, adopt_fun, Int.reduceLT, Int.reduceLE, Int.reduceToNat, Int.reduceNeg, Nat.reduceLT, Nat.reduceLeDiff, Nat.reduceMul, Nat.reduceSub, reduceIte, Nat.reduceEqDiff, Nat.reduceAdd, reduceCtorEq]
    simp [outB, h]
  · have h2 : ((row.length : Int) != n) = true := by simp [h]
    simp only [h2, go_sem, adopt_fun, Int.reduceLT, Int.reduceLE, Int.reduceToNat, Int.reduceNeg, Nat.reduceLT, Nat.reduceLeDiff, Nat.reduceMul, Nat.reduceSub, reduceIte, Nat.reduceEqDiff, Nat.reduceAdd, reduceCtorEq]
    simp [outB, h]

theorem and_f {p q : Prop} [Decidable p] [Decidable q] (h : ¬ (p ∧ q)) : (decide p && decide q) = false := by
  rw [Bool.and_eq_false_iff, decide_eq_false_iff_not, decide_eq_false_iff_not]
  by_cases hp : p
  · exact .inr fun hq => h ⟨hp, hq⟩
  · exact .inl hp
theorem and_t {p q : Prop} [Decidable p] [Decidable q] (h : p ∧ q) : (decide p && decide q) = true := by
  rw [decide_eq_true h.1, decide_eq_true h.2]; rfl

theorem k_ValidMachine (n o : Int) (next out : List (List Int)) : Fun Try.prog n_impl_ValidMachine [machA n o next out] (bv (machB n o next out)) := by
  refine fun_of mixed c_impl_ValidMachine rfl ⟨rfl, trivial⟩ ?_
  simp only [A_impl_ValidMachine, B_impl_ValidMachine_1, go_sem, adopt_fun, Int.reduceLT, Int.reduceLE, Int.reduceToNat, Int.reduceNeg, Nat.reduceLT, Nat.reduceLeDiff, Nat.reduceMul, Nat.reduceSub, reduceIte, Nat.reduceEqDiff, Nat.reduceAdd, reduceCtorEq]
  intro vs vs2
  refine call_sh (k_forget n o next out) qCS (fun e => by cases e) ?_
  rintro outs rows res ⟨rfl, rfl, rfl⟩
  refine ⟨rfl, by simp, by simp, ?_⟩
  simp only [Nat.not_lt_zero, range1, ren_val, ren_any, ren_ro, rnNm_n, rnNm_sn, rnNm_o, rnNm_s, ren_st, ren_tup, renL_nil, renL_cons, renL_intsK, renL_rws, renL_rwn, oren_box, oren_row, oren_map, ren_own_e0, ren_own_e1, ren_own_e2, ren_ptr_e0, ren_mp_e0, ren_mp_e1, ren_own_r0, ren_own_r1, ren_own_r2, ren_ptr_r0, ren_mp_r0, ren_mp_r1, List.range_zero, callHp_nil, callHp_one, callHp_two, gone_nil, gone_one, gone_two, AVal.fresh, freshL, fresh_intsK, fresh_rws, AObj.fresh, id, Option.isSome_some, or_true, true_or, go_sem, adopt_fun, Int.reduceLT, Int.reduceLE, Int.reduceToNat, Int.reduceNeg, Nat.reduceLT, Nat.reduceLeDiff, Nat.reduceMul, Nat.reduceSub, reduceIte, Nat.reduceEqDiff, Nat.reduceAdd, reduceCtorEq]
  refine call_fun (k_Valid n next) qCS trivial ?_
  cases hv : autB n next with
  | false => simp only [machB, hv, Bool.false_and, go_sem, adopt_fun, Int.reduceLT, Int.reduceLE, Int.reduceToNat, Int.reduceNeg, Nat.reduceLT, Nat.reduceLeDiff, Nat.reduceMul, Nat.reduceSub, reduceIte, Nat.reduceEqDiff, Nat.reduceAdd, reduceCtorEq]
  | true =>
    simp only [go_sem, adopt_fun, Int.reduceLT, Int.reduceLE, Int.reduceToNat, Int.reduceNeg, Nat.reduceLT, Nat.reduceLeDiff, Nat.reduceMul, Nat.reduceSub, reduceIte, Nat.reduceEqDiff, Nat.reduceAdd, reduceCtorEq]
    refine call_fun (k_within o 1 3) qCS trivial ?_
    by_cases ho : 1 ≤ o ∧ o ≤ 3
    · simp only [and_t ho, go_sem, adopt_fun, Int.reduceLT, Int.reduceLE, Int.reduceToNat, Int.reduceNeg, Nat.reduceLT, Nat.reduceLeDiff, Nat.reduceMul, Nat.reduceSub, reduceIte, Nat.reduceEqDiff, Nat.reduceAdd, reduceCtorEq]
      by_cases hl : out.length = next.length
      · have e : ((out.length : Int) == (next.length : Int)) = true := by simp [hl]
        simp only [e, go_sem, adopt_fun, Int.reduceLT, Int.reduceLE, Int.reduceToNat, Int.reduceNeg, Nat.reduceLT, Nat.reduceLeDiff, Nat.reduceMul, Nat.reduceSub, reduceIte, Nat.reduceEqDiff, Nat.reduceAdd, reduceCtorEq]
        intros
        refine call_fun (k_ContainsFunc out n_impl_ValidMachine_1 [machP n o next out] _ ⟨by simp only [go_sem, adopt_fun, Int.reduceLT, Int.reduceLE, Int.reduceToNat, Int.reduceNeg, Nat.reduceLT, Nat.reduceLeDiff, Nat.reduceMul, Nat.reduceSub, reduceIte, Nat.reduceEqDiff, Nat.reduceAdd, reduceCtorEq], by intros; simp only [rowIs, boxIs, coe_argN, coe_argNs, coe_ro_o, coeL_nil, coeL_cons, coe_any, coe_val, coe_ro, coe_ro_nil, coe_ro_own, coe_st, coe_st_agg, coe_rp, coe_rp_ptr, coe_clo, coe_own0, coe_ptr0, coeL_intsK, coeL_rws, coeL_rwn, L_hit, L_miss, L_nil, Nat.reduceEqDiff, ne_eq, reduceCtorEq, not_false_eq_true, true_and, and_true, and_self, exists_eq_left, exists_eq_right, List.mem_cons, List.not_mem_nil, or_false, AObj.row.injEq, AObj.box.injEq, exists_eq_left', exists_and_left, exists_eq, Nat.zero_lt_one, Nat.lt_add_one, List.map_cons, List.map_nil, AObj.ver, Nat.reduceLT, not_true_eq_false]⟩ (fun x _ => k_ValidMachine_1 x n o next out ho)) qCS trivial ?_
        simp only [machB, hv, and_t ho, decide_eq_true hl, Bool.true_and, go_sem, adopt_fun, Int.reduceLT, Int.reduceLE, Int.reduceToNat, Int.reduceNeg, Nat.reduceLT, Nat.reduceLeDiff, Nat.reduceMul, Nat.reduceSub, reduceIte, Nat.reduceEqDiff, Nat.reduceAdd, reduceCtorEq]
        congr 2
        simp only [List.all_eq_not_any_not]
      · have e : ((out.length : Int) == (next.length : Int)) = false := beq_false_of_ne (by omega)
        simp only [machB, hv, e, and_t ho, decide_eq_false hl, Bool.true_and, Bool.false_and, go_sem, adopt_fun, Int.reduceLT, Int.reduceLE, Int.reduceToNat, Int.reduceNeg, Nat.reduceLT, Nat.reduceLeDiff, Nat.reduceMul, Nat.reduceSub, reduceIte, Nat.reduceEqDiff, Nat.reduceAdd, reduceCtorEq]
        try (intros; trivial)
    · simp only [machB, hv, and_f ho, Bool.true_and, Bool.false_and, go_sem, adopt_fun, Int.reduceLT, Int.reduceLE, Int.reduceToNat, Int.reduceNeg, Nat.reduceLT, Nat.reduceLeDiff, Nat.reduceMul, Nat.reduceSub, reduceIte, Nat.reduceEqDiff, Nat.reduceAdd, reduceCtorEq]

theorem k_l06Ok (n o : Int) (next out : List (List Int)) : Fun Try.prog n_spec_l06Ok [machP n o next out] (bv (machB n o next out)) := by
  refine fun_of mixed c_spec_l06Ok rfl ⟨rfl, trivial⟩ ?_
  simp only [A_spec_l06Ok, B_spec_l06Ok_1, go_sem, adopt_fun, Int.reduceLT, Int.reduceLE, Int.reduceToNat, Int.reduceNeg, Nat.reduceLT, Nat.reduceLeDiff, Nat.reduceMul, Nat.reduceSub, reduceIte, Nat.reduceEqDiff, Nat.reduceAdd, reduceCtorEq]
  intro vs
  refine call_sh (k_l06Plain n o next out) qCS (fun e => by cases e) ?_
  rintro outs rows res ⟨rfl, rfl, rfl⟩
  refine ⟨rfl, by simp, by simp, ?_⟩
  simp only [B_spec_l06Ok_2, Nat.not_lt_zero, range1, ren_val, ren_any, ren_ro, rnNm_n, rnNm_sn, rnNm_o, rnNm_s, ren_st, ren_tup, renL_nil, renL_cons, renL_intsK, renL_rws, renL_rwn, oren_box, oren_row, oren_map, ren_own_e0, ren_own_e1, ren_own_e2, ren_ptr_e0, ren_mp_e0, ren_mp_e1, ren_own_r0, ren_own_r1, ren_own_r2, ren_ptr_r0, ren_mp_r0, ren_mp_r1, List.range_zero, callHp_nil, callHp_one, callHp_two, gone_nil, gone_one, gone_two, AVal.fresh, freshL, fresh_intsK, fresh_rws, AObj.fresh, id, Option.isSome_some, or_true, true_or, go_sem, adopt_fun, Int.reduceLT, Int.reduceLE, Int.reduceToNat, Int.reduceNeg, Nat.reduceLT, Nat.reduceLeDiff, Nat.reduceMul, Nat.reduceSub, reduceIte, Nat.reduceEqDiff, Nat.reduceAdd, reduceCtorEq]
  intro vs2
  refine call_fun (k_l01Ok n next) qCS trivial ?_
  cases hv : autB n next with
  | false => simp only [machB, hv, B_spec_l06Ok_3, Bool.false_and, go_sem, adopt_fun, Int.reduceLT, Int.reduceLE, Int.reduceToNat, Int.reduceNeg, Nat.reduceLT, Nat.reduceLeDiff, Nat.reduceMul, Nat.reduceSub, reduceIte, Nat.reduceEqDiff, Nat.reduceAdd, reduceCtorEq]
  | true =>
    simp only [go_sem, adopt_fun, Int.reduceLT, Int.reduceLE, Int.reduceToNat, Int.reduceNeg, Nat.reduceLT, Nat.reduceLeDiff, Nat.reduceMul, Nat.reduceSub, reduceIte, Nat.reduceEqDiff, Nat.reduceAdd, reduceCtorEq]
    refine call_fun (k_l00In o 1 3) qCS trivial ?_
    by_cases ho : 1 ≤ o ∧ o ≤ 3
    · simp only [and_t ho, go_sem, adopt_fun, Int.reduceLT, Int.reduceLE, Int.reduceToNat, Int.reduceNeg, Nat.reduceLT, Nat.reduceLeDiff, Nat.reduceMul, Nat.reduceSub, reduceIte, Nat.reduceEqDiff, Nat.reduceAdd, reduceCtorEq]
      by_cases hl : out.length = next.length
      · have e : ((out.length : Int) != (next.length : Int)) = false := by simp [hl]
        have hB : machB n o next out = out.all (outB n o) := by simp only [machB, hv, and_t ho, decide_eq_true hl, Bool.true_and]
        simp only [e, B_spec_l06Ok_3, B_spec_l06Ok_4, B_spec_l06Ok_5, go_sem, adopt_fun, Int.reduceLT, Int.reduceLE, Int.reduceToNat, Int.reduceNeg, Nat.reduceLT, Nat.reduceLeDiff, Nat.reduceMul, Nat.reduceSub, reduceIte, Nat.reduceEqDiff, Nat.reduceAdd, reduceCtorEq]
        refine wpD_lo (fun k => out.length - k) (fun k => k ≤ out.length ∧ (out.drop k).all (outB n o) = machB n o next out)
          (fun k : Nat => ⟨L .any [(0, machP n o next out), (4, iv k)], L .gone []⟩) 0 (by simp [hB]) (by simp only [B_spec_l06Ok_6, go_sem, adopt_fun, Int.reduceLT, Int.reduceLE, Int.reduceToNat, Int.reduceNeg, Nat.reduceLT, Nat.reduceLeDiff, Nat.reduceMul, Nat.reduceSub, reduceIte, Nat.reduceEqDiff, Nat.reduceAdd, reduceCtorEq]; try rfl) ?_
        rintro k ⟨hk, he⟩
        by_cases hlt : (k : Int) < out.length
        · have hlt1 : k < out.length := by omega
          rw [drop_getD hlt1 []] at he
          simp only [List.all_cons] at he
          have w0 : IntKind.i64.wrap (o - 1) = o - 1 := w64 (by omega)
          simp only [B_spec_l06Ok_6, B_spec_l06Ok_7, B_spec_l06Ok_8, rwn_getD hlt1, decide_eq_true hlt, go_sem, adopt_fun, Int.reduceLT, Int.reduceLE, Int.reduceToNat, Int.reduceNeg, Nat.reduceLT, Nat.reduceLeDiff, Nat.reduceMul, Nat.reduceSub, reduceIte, Nat.reduceEqDiff, Nat.reduceAdd, reduceCtorEq]
          intro hM
          refine ⟨⟨by omega, hlt1⟩, hlt1, ?_⟩
          generalize hrow : out.getD k [] = row at he ⊢
          by_cases hn : (row.length : Int) = n
          · have e1 : ((row.length : Int) != n) = false := by simp [hn]
            have hob : outB n o row = allIn row 0 (o - 1) := by simp only [outB, decide_eq_true hn, Bool.true_and]
            simp only [e1, B_spec_l06Ok_9, B_spec_l06Ok_10, B_spec_l06Ok_11, go_sem, adopt_fun, Int.reduceLT, Int.reduceLE, Int.reduceToNat, Int.reduceNeg, Nat.reduceLT, Nat.reduceLeDiff, Nat.reduceMul, Nat.reduceSub, reduceIte, Nat.reduceEqDiff, Nat.reduceAdd, reduceCtorEq]
            refine wpD_lo (fun s => row.length - s) (fun s => s ≤ row.length ∧ allIn (row.drop s) 0 (o - 1) = allIn row 0 (o - 1))
              (fun s : Nat => ⟨L .any [(0, machP n o next out), (4, iv k), (5, iv s)], L .gone []⟩) 0 (by simp) (by simp only [B_spec_l06Ok_12, go_sem, adopt_fun, Int.reduceLT, Int.reduceLE, Int.reduceToNat, Int.reduceNeg, Nat.reduceLT, Nat.reduceLeDiff, Nat.reduceMul, Nat.reduceSub, reduceIte, Nat.reduceEqDiff, Nat.reduceAdd, reduceCtorEq]; try rfl) ?_
            rintro s ⟨hs, ha⟩
            by_cases hsl : (s : Int) < row.length
            · have hs1 : s < row.length := by omega
              have hrl : k < (rwn out).length := by rw [rwn_len]; exact hlt1
              rw [drop_getD hs1 0] at ha
              have ha : (decide (0 ≤ row.getD s 0) && decide (row.getD s 0 ≤ o - 1) && allIn (row.drop (s + 1)) 0 (o - 1)) = allIn row 0 (o - 1) := ha
              simp only [B_spec_l06Ok_12, B_spec_l06Ok_13, B_spec_l06Ok_14, rwn_getD hlt1, hrow, intsK_getD hs1, w0, decide_eq_true hsl, go_sem, adopt_fun, Int.reduceLT, Int.reduceLE, Int.reduceToNat, Int.reduceNeg, Nat.reduceLT, Nat.reduceLeDiff, Nat.reduceMul, Nat.reduceSub, reduceIte, Nat.reduceEqDiff, Nat.reduceAdd, reduceCtorEq]
              refine ⟨⟨by omega, hlt1⟩, hlt1, ?_⟩
              intro hM2 vs4
              refine ⟨⟨by omega, hlt1⟩, hlt1, ⟨by omega, hs1⟩, hs1, ?_⟩
              refine call_fun (k_l00In (row.getD s 0) 0 (o - 1)) qCS trivial ?_
              cases hx : (decide (0 ≤ row.getD s 0) && decide (row.getD s 0 ≤ o - 1)) with
              | true =>
                rw [hx, Bool.true_and] at ha
                simp only [B_spec_l06Ok_15, B_spec_l06Ok_16, nat1 s _ hs1 hM2, go_sem, adopt_fun, Int.reduceLT, Int.reduceLE, Int.reduceToNat, Int.reduceNeg, Nat.reduceLT, Nat.reduceLeDiff, Nat.reduceMul, Nat.reduceSub, reduceIte, Nat.reduceEqDiff, Nat.reduceAdd, reduceCtorEq]
                exact ⟨s + 1, by omega, ⟨by omega, ha⟩, rfl⟩
              | false =>
                rw [hx, Bool.false_and] at ha
                have hf : machB n o next out = false := by rw [← he, hob, ← ha]; rfl
                simp only [B_spec_l06Ok_15, hf, go_sem, adopt_fun, Int.reduceLT, Int.reduceLE, Int.reduceToNat, Int.reduceNeg, Nat.reduceLT, Nat.reduceLeDiff, Nat.reduceMul, Nat.reduceSub, reduceIte, Nat.reduceEqDiff, Nat.reduceAdd, reduceCtorEq]
            · have : s = row.length := by omega
              subst this
              rw [List.drop_length] at ha
              have he2 : (out.drop (k + 1)).all (outB n o) = machB n o next out := by rw [← he, hob, ← ha]; rfl
              simp only [B_spec_l06Ok_12, B_spec_l06Ok_13, B_spec_l06Ok_17, rwn_getD hlt1, hrow, nat1 k _ hlt1 hM, decide_eq_false hsl, go_sem, adopt_fun, Int.reduceLT, Int.reduceLE, Int.reduceToNat, Int.reduceNeg, Nat.reduceLT, Nat.reduceLeDiff, Nat.reduceMul, Nat.reduceSub, reduceIte, Nat.reduceEqDiff, Nat.reduceAdd, reduceCtorEq]
              refine ⟨⟨by omega, hlt1⟩, hlt1, ?_⟩
              intro _
              exact ⟨k + 1, by omega, ⟨by omega, he2⟩, rfl⟩
          · have e1 : ((row.length : Int) != n) = true := by simp [hn]
            have hf : machB n o next out = false := by rw [← he]; simp only [outB, decide_eq_false hn, Bool.false_and]
            simp only [e1, B_spec_l06Ok_9, hf, go_sem, adopt_fun, Int.reduceLT, Int.reduceLE, Int.reduceToNat, Int.reduceNeg, Nat.reduceLT, Nat.reduceLeDiff, Nat.reduceMul, Nat.reduceSub, reduceIte, Nat.reduceEqDiff, Nat.reduceAdd, reduceCtorEq]
        · have : k = out.length := by omega
          subst this
          rw [List.drop_length] at he
          simp only [B_spec_l06Ok_6, B_spec_l06Ok_7, B_spec_l06Ok_18, decide_eq_false hlt, go_sem, adopt_fun, Int.reduceLT, Int.reduceLE, Int.reduceToNat, Int.reduceNeg, Nat.reduceLT, Nat.reduceLeDiff, Nat.reduceMul, Nat.reduceSub, reduceIte, Nat.reduceEqDiff, Nat.reduceAdd, reduceCtorEq]
          intro _
          rw [← he]; rfl
      · have e : ((out.length : Int) != (next.length : Int)) = true := by
          rw [bne_iff_ne]; omega
        simp only [machB, hv, e, B_spec_l06Ok_3, and_t ho, decide_eq_false hl, Bool.true_and, Bool.false_and, go_sem, adopt_fun, Int.reduceLT, Int.reduceLE, Int.reduceToNat, Int.reduceNeg, Nat.reduceLT, Nat.reduceLeDiff, Nat.reduceMul, Nat.reduceSub, reduceIte, Nat.reduceEqDiff, Nat.reduceAdd, reduceCtorEq]
    · simp only [machB, hv, B_spec_l06Ok_3, and_f ho, Bool.true_and, Bool.false_and, go_sem, adopt_fun, Int.reduceLT, Int.reduceLE, Int.reduceToNat, Int.reduceNeg, Nat.reduceLT, Nat.reduceLeDiff, Nat.reduceMul, Nat.reduceSub, reduceIte, Nat.reduceEqDiff, Nat.reduceAdd, reduceCtorEq]
end Go.Ab
