/- Contracts: the reference's ImageOf; what the proofs of the exact laws have in common. Conditions: none. -/
import Derived.Test.YtojnbclanknnhaaKq
set_option linter.all false
namespace Go.Ab
open Go.Proofs
set_option maxRecDepth 20000
set_option maxHeartbeats 1000000

theorem k_l00Rises (set : List Int) (lo hi : Int) : Fun Try.prog n_spec_l00Rises [.ro none 1 (ints set), iv lo, iv hi] (bv (decide (SI set) && allIn set lo hi)) := by
  refine fun_of mixed c_spec_l00Rises rfl ⟨rfl, trivial⟩ ?_
  simp only [A_spec_l00Rises, B_spec_l00Rises_1, B_spec_l00Rises_2, go_sem, adopt_fun, Int.reduceLT, Int.reduceLE, Int.reduceToNat, Int.reduceNeg, Nat.reduceLT, Nat.reduceLeDiff, Nat.reduceMul, Nat.reduceSub, reduceIte, Nat.reduceEqDiff, Nat.reduceAdd, reduceCtorEq]
  refine wpD_lo (fun i => set.length - i) (fun i => i ≤ set.length ∧ SI (set.take i) ∧ allIn (set.take i) lo hi = true)
    (fun i : Nat => ⟨L .any [(0, .ro none 1 (ints set)), (1, iv lo), (2, iv hi), (7, iv i)], L .gone []⟩) 0 (by simp [allIn, SI]) (by simp only [B_spec_l00Rises_3, go_sem, adopt_fun, Int.reduceLT, Int.reduceLE, Int.reduceToNat, Int.reduceNeg, Nat.reduceLT, Nat.reduceLeDiff, Nat.reduceMul, Nat.reduceSub, reduceIte, Nat.reduceEqDiff, Nat.reduceAdd, reduceCtorEq]; try rfl) ?_
  rintro i ⟨hi', hs, ha⟩
  by_cases hlt : (i : Int) < set.length
  · have hlt1 : i < set.length := by omega
    have ht : set.take (i + 1) = set.take i ++ [set.getD i 0] := by
      rw [List.take_succ_eq_append_getElem hlt1, List.getD_eq_getElem?_getD, List.getElem?_eq_getElem hlt1]; rfl
    have hmem := getD_mem hlt1 (0 : Int)
    simp only [B_spec_l00Rises_3, B_spec_l00Rises_4, B_spec_l00Rises_5, intsK_getD hlt1, decide_eq_true hlt, go_sem, adopt_fun, Int.reduceLT, Int.reduceLE, Int.reduceToNat, Int.reduceNeg, Nat.reduceLT, Nat.reduceLeDiff, Nat.reduceMul, Nat.reduceSub, reduceIte, Nat.reduceEqDiff, Nat.reduceAdd, reduceCtorEq]
    intro hM vs
    have hM2 := maxLen_le
    refine ⟨⟨by omega, hlt1⟩, hlt1, ?_⟩
    refine call_fun (k_l00In (set.getD i 0) lo hi) (by simp only [rowIs, boxIs, coe_argN, coe_argNs, coe_ro_o, coeL_nil, coeL_cons, coe_any, coe_val, coe_ro, coe_ro_nil, coe_ro_own, coe_st, coe_st_agg, coe_rp, coe_rp_ptr, coe_clo, coe_own0, coe_ptr0, coeL_intsK, coeL_rws, coeL_rwn, L_hit, L_miss, L_nil, Nat.reduceEqDiff, ne_eq, reduceCtorEq, not_false_eq_true, true_and, and_true, and_self, exists_eq_left, exists_eq_right, List.mem_cons, List.not_mem_nil, or_false, AObj.row.injEq, AObj.box.injEq, exists_eq_left', exists_and_left, exists_eq, Nat.zero_lt_one, Nat.lt_add_one, List.map_cons, List.map_nil, AObj.ver, Nat.reduceLT, not_true_eq_false]) trivial ?_
    by_cases hin : lo ≤ set.getD i 0 ∧ set.getD i 0 ≤ hi
    · have e1 : (decide (lo ≤ set.getD i 0) && decide (set.getD i 0 ≤ hi)) = true := by rw [decide_eq_true hin.1, decide_eq_true hin.2]; rfl
      have ha2 : allIn (set.take (i + 1)) lo hi = true := by
        rw [ht, allIn_iff]
        intro x hx
        rcases List.mem_append.1 hx with hx | hx
        · exact allIn_iff.1 ha x hx
        · have hx : x = set.getD i 0 := by simpa using hx
          subst hx; exact hin
      by_cases h0 : (0 : Int) < i
      · have hi1 : i - 1 < set.length := by omega
        have w2 : IntKind.i64.wrap ((i : Int) - 1) = ((i - 1 : Nat) : Int) := by rw [w64 (by omega)]; omega
        simp only [e1, decide_eq_true h0, w2, intsK_getD hi1, intsK_getD hlt1, go_sem, adopt_fun, Int.reduceLT, Int.reduceLE, Int.reduceToNat, Int.reduceNeg, Nat.reduceLT, Nat.reduceLeDiff, Nat.reduceMul, Nat.reduceSub, reduceIte, Nat.reduceEqDiff, Nat.reduceAdd, reduceCtorEq]
        refine ⟨⟨by omega, hi1⟩, hi1, ⟨by omega, hlt1⟩, hlt1, ?_⟩
        have hk := SI_take_succ hlt1 hs
        by_cases hle : set.getD i 0 ≤ set.getD (i - 1) 0
        · have hf : (decide (SI set) && allIn set lo hi) = false := by
            rw [Bool.and_eq_false_iff]; left
            rw [decide_eq_false_iff_not]
            intro hb
            have := hk.1 (SI_of_take hb) (by omega)
            omega
          simp only [B_spec_l00Rises_6, decide_eq_true hle, hf, go_sem, adopt_fun, Int.reduceLT, Int.reduceLE, Int.reduceToNat, Int.reduceNeg, Nat.reduceLT, Nat.reduceLeDiff, Nat.reduceMul, Nat.reduceSub, reduceIte, Nat.reduceEqDiff, Nat.reduceAdd, reduceCtorEq]
        · simp only [B_spec_l00Rises_6, B_spec_l00Rises_7, decide_eq_false hle, nat1 i _ hlt1 hM, go_sem, adopt_fun, Int.reduceLT, Int.reduceLE, Int.reduceToNat, Int.reduceNeg, Nat.reduceLT, Nat.reduceLeDiff, Nat.reduceMul, Nat.reduceSub, reduceIte, Nat.reduceEqDiff, Nat.reduceAdd, reduceCtorEq]
          exact ⟨i + 1, by omega, ⟨by omega, hk.2 fun _ => by omega, ha2⟩, rfl⟩
      · have : i = 0 := by omega
        subst this
        simp only [e1, decide_eq_false h0, go_sem, adopt_fun, Int.reduceLT, Int.reduceLE, Int.reduceToNat, Int.reduceNeg, Nat.reduceLT, Nat.reduceLeDiff, Nat.reduceMul, Nat.reduceSub, reduceIte, Nat.reduceEqDiff, Nat.reduceAdd, reduceCtorEq]
        simp only [B_spec_l00Rises_6, B_spec_l00Rises_7, nat1 0 _ hlt1 hM, go_sem, adopt_fun, Int.reduceLT, Int.reduceLE, Int.reduceToNat, Int.reduceNeg, Nat.reduceLT, Nat.reduceLeDiff, Nat.reduceMul, Nat.reduceSub, reduceIte, Nat.reduceEqDiff, Nat.reduceAdd, reduceCtorEq]
        exact ⟨1, by omega, ⟨by omega, (SI_take_succ hlt1 hs).2 fun h => by omega, ha2⟩, rfl⟩
    · have e1 : (decide (lo ≤ set.getD i 0) && decide (set.getD i 0 ≤ hi)) = false := by
        rw [Bool.and_eq_false_iff, decide_eq_false_iff_not, decide_eq_false_iff_not]; omega
      have hf : (decide (SI set) && allIn set lo hi) = false := by
        rw [Bool.and_eq_false_iff]; right
        cases hb : allIn set lo hi with
        | false => rfl
        | true => exact absurd (allIn_iff.1 hb _ hmem) hin
      simp only [e1, B_spec_l00Rises_6, hf, go_sem, adopt_fun, Int.reduceLT, Int.reduceLE, Int.reduceToNat, Int.reduceNeg, Nat.reduceLT, Nat.reduceLeDiff, Nat.reduceMul, Nat.reduceSub, reduceIte, Nat.reduceEqDiff, Nat.reduceAdd, reduceCtorEq]
  · have : i = set.length := by omega
    subst this
    rw [List.take_length] at hs ha
    simp only [B_spec_l00Rises_3, B_spec_l00Rises_4, B_spec_l00Rises_5, B_spec_l00Rises_8, decide_eq_false hlt, go_sem, adopt_fun, Int.reduceLT, Int.reduceLE, Int.reduceToNat, Int.reduceNeg, Nat.reduceLT, Nat.reduceLeDiff, Nat.reduceMul, Nat.reduceSub, reduceIte, Nat.reduceEqDiff, Nat.reduceAdd, reduceCtorEq]
    intro _
    simp [hs, ha]

theorem k_l01Set (n : Int) (next : List (List Int)) (set : List Int) (hn : 1 ≤ n ∧ n ≤ 10) : Fun Try.prog n_spec_l01Set [autP n next, .ro none 1 (ints set)] (bv (setB n set)) := by
  refine fun_of mixed c_spec_l01Set rfl ⟨rfl, trivial⟩ ?_
  have w1 : IntKind.i64.wrap (n - 1) = n - 1 := w64 (by omega)
  simp only [B_spec_l01Set_1, A_spec_l01Set, w1, go_sem, adopt_fun, Int.reduceLT, Int.reduceLE, Int.reduceToNat, Int.reduceNeg, Nat.reduceLT, Nat.reduceLeDiff, Nat.reduceMul, Nat.reduceSub, reduceIte, Nat.reduceEqDiff, Nat.reduceAdd, reduceCtorEq]
  intro vs
  refine call_fun (k_l00Rises set 0 (n - 1)) (by simp only [rowIs, boxIs, coe_argN, coe_argNs, coe_ro_o, coeL_nil, coeL_cons, coe_any, coe_val, coe_ro, coe_ro_nil, coe_ro_own, coe_st, coe_st_agg, coe_rp, coe_rp_ptr, coe_clo, coe_own0, coe_ptr0, coeL_intsK, coeL_rws, coeL_rwn, L_hit, L_miss, L_nil, Nat.reduceEqDiff, ne_eq, reduceCtorEq, not_false_eq_true, true_and, and_true, and_self, exists_eq_left, exists_eq_right, List.mem_cons, List.not_mem_nil, or_false, AObj.row.injEq, AObj.box.injEq, exists_eq_left', exists_and_left, exists_eq, Nat.zero_lt_one, Nat.lt_add_one, List.map_cons, List.map_nil, AObj.ver, Nat.reduceLT, not_true_eq_false]) trivial ?_
  simp only [setB, go_sem, adopt_fun, Int.reduceLT, Int.reduceLE, Int.reduceToNat, Int.reduceNeg, Nat.reduceLT, Nat.reduceLeDiff, Nat.reduceMul, Nat.reduceSub, reduceIte, Nat.reduceEqDiff, Nat.reduceAdd, reduceCtorEq]

/-- A function that gives a new row and a code. -/
abbrev RowC2 (P : Program) (g : FuncId) (args : List AVal) (xs : List Int) (code : Int) : Prop := Fn P g args fun rows res => ∃ v, rows = [.row v 1 true (ints xs)] ∧ res = .tup [.own 6000 v, iv code]
theorem call_rowC2 {P : Program} {pu : Bool} {σ : St} {g : FuncId} {As args : List AVal} {d : Nat} {s : Nat → Nat} {K : St → Prop} {xs : List Int} {code : Int} (h : RowC2 P g args xs code)
    (hco : CoeL σ.hp [] true args As) (hg : σ.hp d = .gone) (h1 : ∀ v, K (St.put ⟨σ.tm, upd σ.hp d (.row v 1 true (ints xs))⟩ (some d) (.tup [.own d v, iv code]))) : wpCall P pu σ g As (some d) s K := by
  refine call_fn h hco (fun _ => ⟨_, _, 0, rfl, rfl⟩) ?_
  rintro rows res ⟨v, rfl, rfl⟩
  refine ⟨by simp, ?_, ?_⟩
  · simp only [Option.getD_some, gone_one]; exact hg
  · simp only [Option.getD_some, List.length_singleton, Nat.not_lt_zero, range1, ren_val, ren_any, ren_ro, rnNm_n, rnNm_sn, rnNm_o, rnNm_s, ren_st, ren_tup, renL_nil, renL_cons, renL_intsK, renL_rws, renL_rwn, oren_box, oren_row, oren_map, ren_own_e0, ren_own_e1, ren_own_e2, ren_ptr_e0, ren_mp_e0, ren_mp_e1, ren_own_r0, ren_own_r1, ren_own_r2, ren_ptr_r0, ren_mp_r0, ren_mp_r1, List.range_zero, callHp_nil, callHp_one, callHp_two, gone_nil, gone_one, gone_two, AVal.fresh, freshL, fresh_intsK, fresh_rws, AObj.fresh, id, Option.isSome_some, or_true, true_or]
    exact h1 _

/-- What an image is, and where there is none. -/
abbrev imO (n : Int) (next : List (List Int)) (set w : List Int) : List Int := if autB n next && (setB n set && wordB next.length w) then nrm (set.map fun s => atA next s w) else []

theorem k_specImageOf (n : Int) (next : List (List Int)) (set w : List Int) :
    RowC2 Try.prog n_spec_ImageOf [autA n next, .ro none 1 (ints set), .ro none 1 (ints w)] (imO n next set w) (codeI (autB n next) (setB n set && wordB next.length w)) := by
  refine con_of mixed c_spec_ImageOf rfl (by simp) ?_
  simp only [A_spec_ImageOf, B_spec_ImageOf_1, go_sem, adopt_fun, Int.reduceLT, Int.reduceLE, Int.reduceToNat, Int.reduceNeg, Nat.reduceLT, Nat.reduceLeDiff, Nat.reduceMul, Nat.reduceSub, reduceIte, Nat.reduceEqDiff, Nat.reduceAdd, reduceCtorEq]
  intro vs vs2
  refine call_fun (k_l01Ok n next) (by simp only [rowIs, boxIs, coe_argN, coe_argNs, coe_ro_o, coeL_nil, coeL_cons, coe_any, coe_val, coe_ro, coe_ro_nil, coe_ro_own, coe_st, coe_st_agg, coe_rp, coe_rp_ptr, coe_clo, coe_own0, coe_ptr0, coeL_intsK, coeL_rws, coeL_rwn, L_hit, L_miss, L_nil, Nat.reduceEqDiff, ne_eq, reduceCtorEq, not_false_eq_true, true_and, and_true, and_self, exists_eq_left, exists_eq_right, List.mem_cons, List.not_mem_nil, or_false, AObj.row.injEq, AObj.box.injEq, exists_eq_left', exists_and_left, exists_eq, Nat.zero_lt_one, Nat.lt_add_one, List.map_cons, List.map_nil, AObj.ver, Nat.reduceLT, not_true_eq_false]) trivial ?_
  cases hv : autB n next with
  | false =>
    simp only [B_spec_ImageOf_2, codeI, go_sem, adopt_fun, Int.reduceLT, Int.reduceLE, Int.reduceToNat, Int.reduceNeg, Nat.reduceLT, Nat.reduceLeDiff, Nat.reduceMul, Nat.reduceSub, reduceIte, Nat.reduceEqDiff, Nat.reduceAdd, reduceCtorEq]
    intro vs3
    refine ⟨[10], by simp, by simp, by simp, ?_⟩
    simp only [range1, List.length_singleton, Bool.false_and, Bool.false_eq_true, if_false, Nat.not_lt_zero, range1, ren_val, ren_any, ren_ro, rnNm_n, rnNm_sn, rnNm_o, rnNm_s, ren_st, ren_tup, renL_nil, renL_cons, renL_intsK, renL_rws, renL_rwn, oren_box, oren_row, oren_map, ren_own_e0, ren_own_e1, ren_own_e2, ren_ptr_e0, ren_mp_e0, ren_mp_e1, ren_own_r0, ren_own_r1, ren_own_r2, ren_ptr_r0, ren_mp_r0, ren_mp_r1, List.range_zero, callHp_nil, callHp_one, callHp_two, gone_nil, gone_one, gone_two, AVal.fresh, freshL, fresh_intsK, fresh_rws, AObj.fresh, id, Option.isSome_some, or_true, true_or, go_sem, adopt_fun, Int.reduceLT, Int.reduceLE, Int.reduceToNat, Int.reduceNeg, Nat.reduceLT, Nat.reduceLeDiff, Nat.reduceMul, Nat.reduceSub, reduceIte, Nat.reduceEqDiff, Nat.reduceAdd, reduceCtorEq]
    have him : imO n next set w = [] := by simp [imO, hv]
    rw [him]; exact ⟨_, rfl, rfl⟩
  | true =>
    have A := autB_iff.1 hv
    simp only [B_spec_ImageOf_2, B_spec_ImageOf_3, go_sem, adopt_fun, Int.reduceLT, Int.reduceLE, Int.reduceToNat, Int.reduceNeg, Nat.reduceLT, Nat.reduceLeDiff, Nat.reduceMul, Nat.reduceSub, reduceIte, Nat.reduceEqDiff, Nat.reduceAdd, reduceCtorEq]
    intro vs3
    refine call_fun (k_l01Set n next set ⟨A.n1, A.n2⟩) (by simp only [rowIs, boxIs, coe_argN, coe_argNs, coe_ro_o, coeL_nil, coeL_cons, coe_any, coe_val, coe_ro, coe_ro_nil, coe_ro_own, coe_st, coe_st_agg, coe_rp, coe_rp_ptr, coe_clo, coe_own0, coe_ptr0, coeL_intsK, coeL_rws, coeL_rwn, L_hit, L_miss, L_nil, Nat.reduceEqDiff, ne_eq, reduceCtorEq, not_false_eq_true, true_and, and_true, and_self, exists_eq_left, exists_eq_right, List.mem_cons, List.not_mem_nil, or_false, AObj.row.injEq, AObj.box.injEq, exists_eq_left', exists_and_left, exists_eq, Nat.zero_lt_one, Nat.lt_add_one, List.map_cons, List.map_nil, AObj.ver, Nat.reduceLT, not_true_eq_false]) trivial ?_
    cases hs : setB n set with
    | false =>
      simp only [B_spec_ImageOf_4, codeI, Bool.true_and, Bool.false_and, Bool.false_eq_true, if_false, if_true, go_sem, adopt_fun, Int.reduceLT, Int.reduceLE, Int.reduceToNat, Int.reduceNeg, Nat.reduceLT, Nat.reduceLeDiff, Nat.reduceMul, Nat.reduceSub, reduceIte, Nat.reduceEqDiff, Nat.reduceAdd, reduceCtorEq]
      intro vs4
      refine ⟨[19], by simp, by simp, by simp, ?_⟩
      simp only [range1, List.length_singleton, Nat.not_lt_zero, range1, ren_val, ren_any, ren_ro, rnNm_n, rnNm_sn, rnNm_o, rnNm_s, ren_st, ren_tup, renL_nil, renL_cons, renL_intsK, renL_rws, renL_rwn, oren_box, oren_row, oren_map, ren_own_e0, ren_own_e1, ren_own_e2, ren_ptr_e0, ren_mp_e0, ren_mp_e1, ren_own_r0, ren_own_r1, ren_own_r2, ren_ptr_r0, ren_mp_r0, ren_mp_r1, List.range_zero, callHp_nil, callHp_one, callHp_two, gone_nil, gone_one, gone_two, AVal.fresh, freshL, fresh_intsK, fresh_rws, AObj.fresh, id, Option.isSome_some, or_true, true_or, go_sem, adopt_fun, Int.reduceLT, Int.reduceLE, Int.reduceToNat, Int.reduceNeg, Nat.reduceLT, Nat.reduceLeDiff, Nat.reduceMul, Nat.reduceSub, reduceIte, Nat.reduceEqDiff, Nat.reduceAdd, reduceCtorEq]
      have him : imO n next set w = [] := by simp [imO, hs]
      rw [him]; exact ⟨_, rfl, rfl⟩
    | true =>
      simp only [go_sem, adopt_fun, Int.reduceLT, Int.reduceLE, Int.reduceToNat, Int.reduceNeg, Nat.reduceLT, Nat.reduceLeDiff, Nat.reduceMul, Nat.reduceSub, reduceIte, Nat.reduceEqDiff, Nat.reduceAdd, reduceCtorEq]
      refine call_fun (k_l01Word n next w (by have := A.l2; omega)) (by simp only [rowIs, boxIs, coe_argN, coe_argNs, coe_ro_o, coeL_nil, coeL_cons, coe_any, coe_val, coe_ro, coe_ro_nil, coe_ro_own, coe_st, coe_st_agg, coe_rp, coe_rp_ptr, coe_clo, coe_own0, coe_ptr0, coeL_intsK, coeL_rws, coeL_rwn, L_hit, L_miss, L_nil, Nat.reduceEqDiff, ne_eq, reduceCtorEq, not_false_eq_true, true_and, and_true, and_self, exists_eq_left, exists_eq_right, List.mem_cons, List.not_mem_nil, or_false, AObj.row.injEq, AObj.box.injEq, exists_eq_left', exists_and_left, exists_eq, Nat.zero_lt_one, Nat.lt_add_one, List.map_cons, List.map_nil, AObj.ver, Nat.reduceLT, not_true_eq_false]) trivial ?_
      cases hw : wordB next.length w with
      | false =>
        simp only [B_spec_ImageOf_4, codeI, Bool.true_and, Bool.and_false, Bool.false_eq_true, if_false, if_true, go_sem, adopt_fun, Int.reduceLT, Int.reduceLE, Int.reduceToNat, Int.reduceNeg, Nat.reduceLT, Nat.reduceLeDiff, Nat.reduceMul, Nat.reduceSub, reduceIte, Nat.reduceEqDiff, Nat.reduceAdd, reduceCtorEq]
        intro vs4
        refine ⟨[19], by simp, by simp, by simp, ?_⟩
        simp only [range1, List.length_singleton, Nat.not_lt_zero, range1, ren_val, ren_any, ren_ro, rnNm_n, rnNm_sn, rnNm_o, rnNm_s, ren_st, ren_tup, renL_nil, renL_cons, renL_intsK, renL_rws, renL_rwn, oren_box, oren_row, oren_map, ren_own_e0, ren_own_e1, ren_own_e2, ren_ptr_e0, ren_mp_e0, ren_mp_e1, ren_own_r0, ren_own_r1, ren_own_r2, ren_ptr_r0, ren_mp_r0, ren_mp_r1, List.range_zero, callHp_nil, callHp_one, callHp_two, gone_nil, gone_one, gone_two, AVal.fresh, freshL, fresh_intsK, fresh_rws, AObj.fresh, id, Option.isSome_some, or_true, true_or, go_sem, adopt_fun, Int.reduceLT, Int.reduceLE, Int.reduceToNat, Int.reduceNeg, Nat.reduceLT, Nat.reduceLeDiff, Nat.reduceMul, Nat.reduceSub, reduceIte, Nat.reduceEqDiff, Nat.reduceAdd, reduceCtorEq]
        have him : imO n next set w = [] := by simp [imO, hw]
        rw [him]; exact ⟨_, rfl, rfl⟩
      | true =>
        have W := wordB_iff.1 hw
        have Z := setB_iff.1 hs
        simp only [B_spec_ImageOf_4, B_spec_ImageOf_5, codeI, Bool.true_and, if_true, go_sem, adopt_fun, Int.reduceLT, Int.reduceLE, Int.reduceToNat, Int.reduceNeg, Nat.reduceLT, Nat.reduceLeDiff, Nat.reduceMul, Nat.reduceSub, reduceIte, Nat.reduceEqDiff, Nat.reduceAdd, reduceCtorEq]
        intro vs4
        refine call_rowI (k_l01Image n next set w A Z.2 W.2 (by have h9 := A.n2; rcases SI_len Z.1 Z.2 with h8 | h8; omega; rw [h8]; simp)) (by simp only [rowIs, boxIs, coe_argN, coe_argNs, coe_ro_o, coeL_nil, coeL_cons, coe_any, coe_val, coe_ro, coe_ro_nil, coe_ro_own, coe_st, coe_st_agg, coe_rp, coe_rp_ptr, coe_clo, coe_own0, coe_ptr0, coeL_intsK, coeL_rws, coeL_rwn, L_hit, L_miss, L_nil, Nat.reduceEqDiff, ne_eq, reduceCtorEq, not_false_eq_true, true_and, and_true, and_self, exists_eq_left, exists_eq_right, List.mem_cons, List.not_mem_nil, or_false, AObj.row.injEq, AObj.box.injEq, exists_eq_left', exists_and_left, exists_eq, Nat.zero_lt_one, Nat.lt_add_one, List.map_cons, List.map_nil, AObj.ver, Nat.reduceLT, not_true_eq_false]) rfl ⟨_, rfl⟩ ?_
        rintro ys v rfl
        simp only [go_sem, adopt_fun, Int.reduceLT, Int.reduceLE, Int.reduceToNat, Int.reduceNeg, Nat.reduceLT, Nat.reduceLeDiff, Nat.reduceMul, Nat.reduceSub, reduceIte, Nat.reduceEqDiff, Nat.reduceAdd, reduceCtorEq]
        refine ⟨[22], by simp, by simp, by simp, ?_⟩
        simp only [range1, List.length_singleton, Nat.not_lt_zero, range1, ren_val, ren_any, ren_ro, rnNm_n, rnNm_sn, rnNm_o, rnNm_s, ren_st, ren_tup, renL_nil, renL_cons, renL_intsK, renL_rws, renL_rwn, oren_box, oren_row, oren_map, ren_own_e0, ren_own_e1, ren_own_e2, ren_ptr_e0, ren_mp_e0, ren_mp_e1, ren_own_r0, ren_own_r1, ren_own_r2, ren_ptr_r0, ren_mp_r0, ren_mp_r1, List.range_zero, callHp_nil, callHp_one, callHp_two, gone_nil, gone_one, gone_two, AVal.fresh, freshL, fresh_intsK, fresh_rws, AObj.fresh, id, Option.isSome_some, or_true, true_or, go_sem, adopt_fun, Int.reduceLT, Int.reduceLE, Int.reduceToNat, Int.reduceNeg, Nat.reduceLT, Nat.reduceLeDiff, Nat.reduceMul, Nat.reduceSub, reduceIte, Nat.reduceEqDiff, Nat.reduceAdd, reduceCtorEq]
        have him : imO n next set w = nrm (set.map fun s => atA next s w) := by simp [imO, hv, hs, hw]
        rw [him]; exact ⟨v, rfl, rfl⟩

/-- A call that makes an automaton whose rows have names. -/
theorem call_autN {P : Program} {σ : St} {g : FuncId} {As args : List AVal} {d : Nat} {s : Nat → Nat} {K : St → Prop} {n : Int} {next : List (List Int)} (hs : ∀ x y, s x = s y → x = y)
    (h : Fn P g args (fun rows res => ∃ v ps, rows = [.row v 1 true (rwp ps)] ∧ ps.map (·.2) = next ∧ DJ ps ∧ res = .st [iv n, .own 6000 v])) (hco : CoeL σ.hp [] true args As) (hg : σ.hp d = .gone)
    (hk : ∀ v ps, ps.map (·.2) = next → DJ ps → K (St.put ⟨σ.tm, upd σ.hp d (.row v 1 true (rwp ps))⟩ (some d) (.st [iv n, .own d v]))) : wpCall P false σ g As (some d) s K := by
  refine call_fn h hco (fun e => by cases e) ?_
  rintro rows res ⟨v, ps, rfl, hp, hd, rfl⟩
  refine ⟨by simp, ?_, ?_⟩
  · simp only [Option.getD_some, gone_one]; exact hg
  · simp only [Option.getD_some, renL_rwp, List.length_singleton, Nat.not_lt_zero, range1, ren_val, ren_any, ren_ro, rnNm_n, rnNm_sn, rnNm_o, rnNm_s, ren_st, ren_tup, renL_nil, renL_cons, renL_intsK, renL_rws, renL_rwn, oren_box, oren_row, oren_map, ren_own_e0, ren_own_e1, ren_own_e2, ren_ptr_e0, ren_mp_e0, ren_mp_e1, ren_own_r0, ren_own_r1, ren_own_r2, ren_ptr_r0, ren_mp_r0, ren_mp_r1, List.range_zero, callHp_nil, callHp_one, callHp_two, gone_nil, gone_one, gone_two, AVal.fresh, freshL, fresh_intsK, fresh_rws, AObj.fresh, id, Option.isSome_some, or_true, true_or]
    exact hk _ _ (by rw [List.map_map]; exact hp) (hd.ren hs)

theorem szRows_tot : ∀ (ps : List (Nat × List Int)) (l : Int), 0 ≤ szRows (ps.map (·.2)) l → 0 ≤ l → totL ps ≤ l
  | [], l, _, h => by simpa [totL] using h
  | p :: ps, l, h, hl => by
    simp only [List.map_cons, szRows] at h
    split at h
    · omega
    · have := szRows_tot ps _ h (by omega)
      simp only [totL]; omega
theorem szLL_tot {ps : List (Nat × List Int)} {l : Int} (h : 0 ≤ szLL (ps.map (·.2)) l) (hl : 0 ≤ l) : totL ps ≤ l := by
  unfold szLL at h
  split at h
  · omega
  · have := szRows_tot ps _ h (by omega); omega
theorem coeL_rwp_t {hp : Nat → AObj} {m : List Nat} {len : Bool} {ps : List (Nat × List Int)} : CoeL hp m len (rwn (ps.map (·.2))) (rwp ps) = True := eq_true coeL_rwp
theorem coeL_rws_t {hp : Nat → AObj} {m : List Nat} {len : Bool} : ∀ {xss : List (List Int)}, CoeL hp m len (rwn xss) (rws xss) = True
  | [] => by simp [rwn, rws, CoeL]
  | xs :: xss => by
    have h := coeL_rws_t (hp := hp) (m := m) (len := len) (xss := xss)
    simp only [rwn, rws, List.map_cons] at h ⊢
    rw [coeL_cons, coe_ro, h]
    exact eq_true ⟨⟨by omega, coeL_ints⟩, trivial⟩

/-- A call that gives one new row, with what is in it. -/
theorem call_rowE {P : Program} {pu : Bool} {σ : St} {g : FuncId} {As args : List AVal} {d : Nat} {s : Nat → Nat} {K : St → Prop} {xs : List Int} (h : RowI P g args fun ys => ys = xs) (hco : CoeL σ.hp [] true args As) (hg : σ.hp d = .gone)
    (hk : ∀ v, K (St.put ⟨σ.tm, upd σ.hp d (.row v 1 true (ints xs))⟩ (some d) (.own d v))) : wpCall P pu σ g As (some d) s K := by
  refine call_rowI h hco hg ⟨_, rfl⟩ ?_
  rintro ys v rfl
  exact hk v

/-- One row of numbers is handed over and comes back with other numbers. -/
theorem call_mark {P : Program} {σ : St} {g : FuncId} {A : AVal} {x y : Value} {d : Option Nat} {s : Nat → Nat} {K : St → Prop} {r v : Nat} {xs ys : List Int}
    (h : Con P g [.row 0 1 true (ints xs)] [.own 5000 0, .val x] true fun outs rows res => outs = [.row 0 1 true (ints ys)] ∧ rows = [] ∧ res = .val y) (hr : σ.hp r = .row v 1 true (ints xs)) (hA : A = .val x)
    (hk : K (St.put ⟨σ.tm, upd σ.hp r (.row v 1 true (ints ys))⟩ d (.val y))) : wpCall P false σ g [.own r v, A] d s K := by
  subst hA
  refine call_rowM h hr coeL_ints (by simp only [rowIs, boxIs, coe_argN, coe_argNs, coe_ro_o, coeL_nil, coeL_cons, coe_any, coe_val, coe_ro, coe_ro_nil, coe_ro_own, coe_st, coe_st_agg, coe_rp, coe_rp_ptr, coe_clo, coe_own0, coe_ptr0, coeL_intsK, coeL_rws, coeL_rwn, L_hit, L_miss, L_nil, Nat.reduceEqDiff, ne_eq, reduceCtorEq, not_false_eq_true, true_and, and_true, and_self, exists_eq_left, exists_eq_right, List.mem_cons, List.not_mem_nil, or_false, AObj.row.injEq, AObj.box.injEq, exists_eq_left', exists_and_left, exists_eq, Nat.zero_lt_one, Nat.lt_add_one, List.map_cons, List.map_nil, AObj.ver, Nat.reduceLT, not_true_eq_false]) ?_
  rintro outs rows res ⟨rfl, rfl, rfl⟩
  refine ⟨rfl, _, rfl, ?_⟩
  have e : sv σ.hp [r] s 0 = v := by simp [sv, hr, AObj.ver]
  rw [oren_row, e, renL_intsK, ren_val]
  exact hk

theorem k_heldNil : Fun Try.prog n_laws_heldInt64S [.ro none 1 [], iv 1] (iv 1) := by
  have h := k_held [] 1 (by omega) (by simp) (by rfl)
  simpa using h

theorem dec10 : decide ((1 : Int) < 0) = false := by decide
theorem clR_row {v k : Nat} {nn : Bool} {cs : List AVal} : AObj.cl (.row v k nn cs) = .row v k nn (clL cs) := rfl
theorem clR_box {v : Nat} {cs : List AVal} : AObj.cl (.box v cs) = .box v (clL cs) := rfl
theorem clR_gone : AObj.cl .gone = .gone := rfl
end Go.Ab
