/- Contracts: sets, images and ranks of words. Conditions: none. -/
import Derived.Test.YtmdimjlfgjmchaaKn
set_option linter.all false
namespace Go.Ab
open Go.Proofs
set_option maxRecDepth 20000
set_option maxHeartbeats 1000000

instance (l : List Int) : Decidable (SI l) := inferInstanceAs (Decidable (l.Pairwise (· < ·)))

/-- Whether a list is a set of numbers below n. -/
def setB (n : Int) (set : List Int) : Bool := decide (SI set) && allIn set 0 (n - 1)
theorem setB_iff {n : Int} {set : List Int} : setB n set = true ↔ SI set ∧ ∀ x ∈ set, 0 ≤ x ∧ x < n := by
  simp only [setB, Bool.and_eq_true, decide_eq_true_eq, allIn_iff]
  constructor
  · rintro ⟨h1, h2⟩; exact ⟨h1, fun x hx => by have := h2 x hx; omega⟩
  · rintro ⟨h1, h2⟩; exact ⟨h1, fun x hx => by have := h2 x hx; omega⟩

theorem SI_take_succ {set : List Int} {i : Nat} (hi : i < set.length) (h : SI (set.take i)) : SI (set.take (i + 1)) ↔ (0 < i → set.getD (i - 1) 0 < set.getD i 0) := by
  have ht : set.take (i + 1) = set.take i ++ [set.getD i 0] := by
    rw [List.take_succ_eq_append_getElem hi, List.getD_eq_getElem?_getD, List.getElem?_eq_getElem hi]; rfl
  have hg : ∀ j, j < i → (set.take i)[j]? = some (set.getD j 0) := by
    intro j hj
    rw [List.getElem?_take, if_pos hj, List.getD_eq_getElem?_getD, List.getElem?_eq_getElem (by omega)]; rfl
  rw [ht]
  unfold SI at h ⊢
  rw [List.pairwise_append]
  constructor
  · rintro ⟨_, _, h3⟩ h0
    exact h3 _ (List.mem_of_getElem? (hg (i - 1) (by omega))) _ (by simp)
  · intro h3
    refine ⟨h, by simp, fun y hy z hz => ?_⟩
    have hz : z = set.getD i 0 := by simpa using hz
    subst hz
    obtain ⟨j, hj⟩ := List.getElem?_of_mem hy
    have hj2 : j < i := by
      have := (List.getElem?_eq_some_iff.1 hj).1; rw [List.length_take] at this; omega
    rw [hg j hj2] at hj
    have hj : set.getD j 0 = y := by simpa using hj
    have h4 := h3 (by omega)
    by_cases e : j = i - 1
    · rw [← hj, e]; exact h4
    · rw [List.pairwise_iff_getElem] at h
      have h5 := h j (i - 1) (by rw [List.length_take]; omega) (by rw [List.length_take]; omega) (by omega)
      have e1 : (set.take i)[j]'(by rw [List.length_take]; omega) = set.getD j 0 := by
        have := hg j hj2; rw [List.getElem?_eq_getElem (by rw [List.length_take]; omega)] at this; simpa using this
      have e2 : (set.take i)[i - 1]'(by rw [List.length_take]; omega) = set.getD (i - 1) 0 := by
        have := hg (i - 1) (by omega); rw [List.getElem?_eq_getElem (by rw [List.length_take]; omega)] at this; simpa using this
      rw [e1, e2] at h5
      omega

theorem SI_len {n : Int} : ∀ {set : List Int}, SI set → (∀ x ∈ set, 0 ≤ x ∧ x < n) → (set.length : Int) ≤ n ∨ set = []
  | set, h, hx => by
    by_cases h0 : set = []
    · exact .inr h0
    left
    -- the numbers lie one above the other
    have key : ∀ i, i < set.length → (i : Int) ≤ set.getD i 0 := by
      intro i
      induction i with
      | zero =>
        intro hi
        exact (hx _ (getD_mem hi 0)).1
      | succ i ih =>
        intro hi
        have h1 := ih (by omega)
        unfold SI at h
        rw [List.pairwise_iff_getElem] at h
        have h2 := h i (i + 1) (by omega) hi (by omega)
        have e1 : set.getD i 0 = set[i] := by rw [List.getD_eq_getElem?_getD, List.getElem?_eq_getElem (by omega)]; rfl
        have e2 : set.getD (i + 1) 0 = set[i + 1] := by rw [List.getD_eq_getElem?_getD, List.getElem?_eq_getElem hi]; rfl
        rw [e1] at h1; rw [e2]; omega
    have hp : 0 < set.length := List.length_pos_iff.2 h0
    have h1 := key (set.length - 1) (by omega)
    have h2 := (hx _ (getD_mem (show set.length - 1 < set.length by omega) 0)).2
    omega

theorem SI_of_take {set : List Int} {i : Nat} (h : SI set) : SI (set.take i) := List.Pairwise.sublist (List.take_sublist i set) h

theorem k_isSet (set : List Int) (n : Int) (hn : 1 ≤ n ∧ n ≤ 10) : Fun Try.prog n_impl_isSet [.ro none 1 (ints set), iv n] (bv (setB n set)) := by
  refine fun_of mixed c_impl_isSet rfl ⟨rfl, trivial⟩ ?_
  have w1 : IntKind.i64.wrap (n - 1) = n - 1 := w64 (by omega)
  simp only [A_impl_isSet, B_impl_isSet_1, B_impl_isSet_2, go_sem, adopt_fun, Int.reduceLT, Int.reduceLE, Int.reduceToNat, Int.reduceNeg, Nat.reduceLT, Nat.reduceLeDiff, Nat.reduceMul, Nat.reduceSub, reduceIte, Nat.reduceEqDiff, Nat.reduceAdd, reduceCtorEq]
  intro hM
  have hM2 := maxLen_le
  refine wpD_lo (fun i => set.length - i) (fun i => i ≤ set.length ∧ SI (set.take i) ∧ allIn (set.take i) 0 (n - 1) = true)
    (fun i : Nat => ⟨L .any [(0, .ro none 1 (ints set)), (1, iv n), (7, .ro none 1 (ints set)), (8, iv set.length), (9, iv i)], L .gone []⟩) 0 (by simp [allIn, SI]) (by simp only [B_impl_isSet_3, go_sem, adopt_fun, Int.reduceLT, Int.reduceLE, Int.reduceToNat, Int.reduceNeg, Nat.reduceLT, Nat.reduceLeDiff, Nat.reduceMul, Nat.reduceSub, reduceIte, Nat.reduceEqDiff, Nat.reduceAdd, reduceCtorEq]; try rfl) ?_
  rintro i ⟨hi, hs, ha⟩
  by_cases hlt : (i : Int) < set.length
  · have hlt1 : i < set.length := by omega
    have ht : set.take (i + 1) = set.take i ++ [set.getD i 0] := by
      rw [List.take_succ_eq_append_getElem hlt1, List.getD_eq_getElem?_getD, List.getElem?_eq_getElem hlt1]; rfl
    simp only [B_impl_isSet_3, B_impl_isSet_4, B_impl_isSet_5, intsK_getD hlt1, decide_eq_true hlt, go_sem, adopt_fun, Int.reduceLT, Int.reduceLE, Int.reduceToNat, Int.reduceNeg, Nat.reduceLT, Nat.reduceLeDiff, Nat.reduceMul, Nat.reduceSub, reduceIte, Nat.reduceEqDiff, Nat.reduceAdd, reduceCtorEq]
    refine ⟨⟨by omega, hlt1⟩, hlt1, ?_⟩
    simp only [B_impl_isSet_6, w1, go_sem, adopt_fun, Int.reduceLT, Int.reduceLE, Int.reduceToNat, Int.reduceNeg, Nat.reduceLT, Nat.reduceLeDiff, Nat.reduceMul, Nat.reduceSub, reduceIte, Nat.reduceEqDiff, Nat.reduceAdd, reduceCtorEq]
    intro vs
    refine call_fun (k_within (set.getD i 0) 0 (n - 1)) qCS trivial ?_
    have hmem := getD_mem hlt1 (0 : Int)
    by_cases hin : 0 ≤ set.getD i 0 ∧ set.getD i 0 ≤ n - 1
    · have e1 : (decide (0 ≤ set.getD i 0) && decide (set.getD i 0 ≤ n - 1)) = true := by rw [decide_eq_true hin.1, decide_eq_true hin.2]; rfl
      have ha2 : allIn (set.take (i + 1)) 0 (n - 1) = true := by
        rw [ht, allIn_iff]
        intro x hx
        rcases List.mem_append.1 hx with hx | hx
        · exact allIn_iff.1 ha x hx
        · have hx : x = set.getD i 0 := by simpa using hx
          subst hx; exact hin
      by_cases h0 : (0 : Int) < i
      · have hi1 : i - 1 < set.length := by omega
        have w2 : IntKind.i64.wrap ((i : Int) - 1) = ((i - 1 : Nat) : Int) := by rw [w64 (by omega)]; omega
        simp only [e1, decide_eq_true h0, w2, intsK_getD hi1, go_sem, adopt_fun, Int.reduceLT, Int.reduceLE, Int.reduceToNat, Int.reduceNeg, Nat.reduceLT, Nat.reduceLeDiff, Nat.reduceMul, Nat.reduceSub, reduceIte, Nat.reduceEqDiff, Nat.reduceAdd, reduceCtorEq]
        refine ⟨⟨by omega, hi1⟩, hi1, ?_⟩
        have hk := SI_take_succ hlt1 hs
        by_cases hle : set.getD i 0 ≤ set.getD (i - 1) 0
        · have hf : setB n set = false := by
            cases hb : setB n set with
            | false => rfl
            | true =>
              have := hk.1 (SI_of_take (setB_iff.1 hb).1) (by omega)
              omega
          simp only [B_impl_isSet_7, decide_eq_true hle, hf, go_sem, adopt_fun, Int.reduceLT, Int.reduceLE, Int.reduceToNat, Int.reduceNeg, Nat.reduceLT, Nat.reduceLeDiff, Nat.reduceMul, Nat.reduceSub, reduceIte, Nat.reduceEqDiff, Nat.reduceAdd, reduceCtorEq]
        · simp only [B_impl_isSet_7, B_impl_isSet_8, decide_eq_false hle, nat1 i _ hlt1 hM, go_sem, adopt_fun, Int.reduceLT, Int.reduceLE, Int.reduceToNat, Int.reduceNeg, Nat.reduceLT, Nat.reduceLeDiff, Nat.reduceMul, Nat.reduceSub, reduceIte, Nat.reduceEqDiff, Nat.reduceAdd, reduceCtorEq]
          exact ⟨i + 1, by omega, ⟨by omega, hk.2 fun _ => by omega, ha2⟩, rfl⟩
      · have : i = 0 := by omega
        subst this
        simp only [e1, decide_eq_false h0, go_sem, adopt_fun, Int.reduceLT, Int.reduceLE, Int.reduceToNat, Int.reduceNeg, Nat.reduceLT, Nat.reduceLeDiff, Nat.reduceMul, Nat.reduceSub, reduceIte, Nat.reduceEqDiff, Nat.reduceAdd, reduceCtorEq]
        simp only [B_impl_isSet_7, B_impl_isSet_8, nat1 0 _ hlt1 hM, go_sem, adopt_fun, Int.reduceLT, Int.reduceLE, Int.reduceToNat, Int.reduceNeg, Nat.reduceLT, Nat.reduceLeDiff, Nat.reduceMul, Nat.reduceSub, reduceIte, Nat.reduceEqDiff, Nat.reduceAdd, reduceCtorEq]
        exact ⟨1, by omega, ⟨by omega, (SI_take_succ hlt1 hs).2 fun h => by omega, ha2⟩, rfl⟩
    · have e1 : (decide (0 ≤ set.getD i 0) && decide (set.getD i 0 ≤ n - 1)) = false := by
        rw [Bool.and_eq_false_iff, decide_eq_false_iff_not, decide_eq_false_iff_not]; omega
      have hf : setB n set = false := by
        cases hb : setB n set with
        | false => rfl
        | true => have := (setB_iff.1 hb).2 _ hmem; omega
      simp only [e1, B_impl_isSet_7, hf, go_sem, adopt_fun, Int.reduceLT, Int.reduceLE, Int.reduceToNat, Int.reduceNeg, Nat.reduceLT, Nat.reduceLeDiff, Nat.reduceMul, Nat.reduceSub, reduceIte, Nat.reduceEqDiff, Nat.reduceAdd, reduceCtorEq]
  · have : i = set.length := by omega
    subst this
    rw [List.take_length] at hs ha
    simp only [B_impl_isSet_3, B_impl_isSet_4, B_impl_isSet_5, B_impl_isSet_9, decide_eq_false hlt, go_sem, adopt_fun, Int.reduceLT, Int.reduceLE, Int.reduceToNat, Int.reduceNeg, Nat.reduceLT, Nat.reduceLeDiff, Nat.reduceMul, Nat.reduceSub, reduceIte, Nat.reduceEqDiff, Nat.reduceAdd, reduceCtorEq]
    simp [setB, hs, ha]

/-- A function that gives a new row and a code, or nil and a code. -/
abbrev RowT (P : Program) (g : FuncId) (args : List AVal) (ok : Bool) (xs : List Int) (code : Int) : Prop := Fn P g args fun rows res =>
  if ok = true then ∃ v, rows = [.row v 1 true (ints xs)] ∧ res = .tup [.own 6000 v, iv code] else rows = [] ∧ res = .tup [nilS, iv code]

theorem call_rowT {P : Program} {pu : Bool} {σ : St} {g : FuncId} {As args : List AVal} {d : Nat} {s : Nat → Nat} {K : St → Prop} {ok : Bool} {xs : List Int} {code : Int} (h : RowT P g args ok xs code)
    (hco : CoeL σ.hp [] true args As) (hg : σ.hp d = .gone)
    (h1 : ok = true → ∀ v, K (St.put ⟨σ.tm, upd σ.hp d (.row v 1 true (ints xs))⟩ (some d) (.tup [.own d v, iv code])))
    (h2 : ok = false → K (St.put ⟨σ.tm, σ.hp⟩ (some d) (.tup [nilS, iv code]))) : wpCall P pu σ g As (some d) s K := by
  refine call_fn h hco (fun _ => ?_) ?_
  · cases ok with
    | true => exact ⟨[.row 0 1 true (ints xs)], .tup [.own 6000 0, iv code], by rw [if_pos rfl]; exact ⟨0, rfl, rfl⟩⟩
    | false => exact ⟨[], .tup [nilS, iv code], by rw [if_neg (by simp)]; exact ⟨rfl, rfl⟩⟩
  · intro rows res hR
    cases ok with
    | true =>
      simp only [if_true] at hR
      obtain ⟨v, rfl, rfl⟩ := hR
      refine ⟨by simp, ?_, ?_⟩
      · simp only [Option.getD_some, gone_one]; exact hg
      · simp only [Option.getD_some, List.length_singleton, Nat.not_lt_zero, range1, ren_val, ren_any, ren_ro, rnNm_n, rnNm_sn, rnNm_o, rnNm_s, ren_st, ren_tup, renL_nil, renL_cons, renL_intsK, renL_rws, renL_rwn, oren_box, oren_row, oren_map, ren_own_e0, ren_own_e1, ren_own_e2, ren_ptr_e0, ren_mp_e0, ren_mp_e1, ren_own_r0, ren_own_r1, ren_own_r2, ren_ptr_r0, ren_mp_r0, ren_mp_r1, List.range_zero, callHp_nil, callHp_one, callHp_two, gone_nil, gone_one, gone_two, AVal.fresh, freshL, fresh_intsK, fresh_rws, AObj.fresh, id, Option.isSome_some, or_true, true_or]
        exact h1 rfl _
    | false =>
      simp only [Bool.false_eq_true, if_false] at hR
      obtain ⟨rfl, rfl⟩ := hR
      refine ⟨by simp, by simp, ?_⟩
      simp only [Nat.not_lt_zero, range1, ren_val, ren_any, ren_ro, rnNm_n, rnNm_sn, rnNm_o, rnNm_s, ren_st, ren_tup, renL_nil, renL_cons, renL_intsK, renL_rws, renL_rwn, oren_box, oren_row, oren_map, ren_own_e0, ren_own_e1, ren_own_e2, ren_ptr_e0, ren_mp_e0, ren_mp_e1, ren_own_r0, ren_own_r1, ren_own_r2, ren_ptr_r0, ren_mp_r0, ren_mp_r1, List.range_zero, callHp_nil, callHp_one, callHp_two, gone_nil, gone_one, gone_two, AVal.fresh, freshL, fresh_intsK, fresh_rws, AObj.fresh, id, Option.isSome_some, or_true, true_or]
      exact h2 rfl

end Go.Ab
