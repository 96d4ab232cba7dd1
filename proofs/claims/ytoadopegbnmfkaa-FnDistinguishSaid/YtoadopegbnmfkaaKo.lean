/- Contracts: sets, images and ranks of words. Conditions: none. -/
import Derived.Test.YtoadopegbnmfkaaKn
set_option linter.all false
namespace Go.Ab
open Go.Proofs
set_option maxRecDepth 20000
set_option maxHeartbeats 1000000

instance (l : List Int) : Decidable (SI l) := inferInstanceAs (Decidable (l.Pairwise (· < ·)))

/-- Whether a list is a set of numbers below n. -/
def setB (n : Int) (set : List Int) : Bool := decide (SI set) && allIn set 0 (n - 1)
theorem setB_iff {n : Int} {set : List Int} : setB n set = true ↔ SI set ∧ ∀ x ∈ set, 0 ≤ x ∧ x < n := by
  simp only [setB, Bool.and_eq_true, decide_eq_true_eq, allIn_iff]
  constructor
  · rintro ⟨h1, h2⟩; exact ⟨h1, fun x hx => by have := h2 x hx; omega⟩
  · rintro ⟨h1, h2⟩; exact ⟨h1, fun x hx => by have := h2 x hx; omega⟩

theorem SI_take_succ {set : List Int} {i : Nat} (hi : i < set.length) (h : SI (set.take i)) : SI (set.take (i + 1)) ↔ (0 < i → set.getD (i - 1) 0 < set.getD i 0) := by
  have ht : set.take (i + 1) = set.take i ++ [set.getD i 0] := by
    rw [List.take_succ_eq_append_getElem hi, List.getD_eq_getElem?_getD, List.getElem?_eq_getElem hi]; rfl
  have hg : ∀ j, j < i → (set.take i)[j]? = some (set.getD j 0) := by
    intro j hj
    rw [List.getElem?_take, if_pos hj, List.getD_eq_getElem?_getD, List.getElem?_eq_getElem (by omega)]; rfl
  rw [ht]
  unfold SI at h ⊢
  rw [List.pairwise_append]
  constructor
  · rintro ⟨_, _, h3⟩ h0
    exact h3 _ (List.mem_of_getElem? (hg (i - 1) (by omega))) _ (by simp)
  · intro h3
    refine ⟨h, by simp, fun y hy z hz => ?_⟩
    have hz : z = set.getD i 0 := by simpa using hz
    subst hz
    obtain ⟨j, hj⟩ := List.getElem?_of_mem hy
    have hj2 : j < i := by
      have := (List.getElem?_eq_some_iff.1 hj).1; rw [List.length_take] at this; omega
    rw [hg j hj2] at hj
    have hj : set.getD j 0 = y := by simpa using hj
    have h4 := h3 (by omega)
    by_cases e : j = i - 1
    · rw [← hj, e]; exact h4
    · rw [List.pairwise_iff_getElem] at h
      have h5 := h j (i - 1) (by rw [List.length_take]; omega) (by rw [List.length_take]; omega) (by omega)
      have e1 : (set.take i)[j]'(by rw [List.length_take]; omega) = set.getD j 0 := by
        have := hg j hj2; rw [List.getElem?_eq_getElem (by rw [List.length_take]; omega)] at this; simpa using this
      have e2 : (set.take i)[i - 1]'(by rw [List.length_take]; omega) = set.getD (i - 1) 0 := by
        have := hg (i - 1) (by omega); rw [List.getElem?_eq_getElem (by rw [List.length_take]; omega)] at this; simpa using this
      rw [e1, e2] at h5
      omega

theorem SI_len {n : Int} : ∀ {set : List Int}, SI set → (∀ x ∈ set, 0 ≤ x ∧ x < n) → (set.length : Int) ≤ n ∨ set = []
  | set, h, hx => by
    by_cases h0 : set = []
    · exact .inr h0
    left
    -- the numbers lie one above the other
    have key : ∀ i, i < set.length → (i : Int) ≤ set.getD i 0 := by
      intro i
      induction i with
      | zero =>
        intro hi
        exact (hx _ (getD_mem hi 0)).1
      | succ i ih =>
        intro hi
        have h1 := ih (by omega)
        unfold SI at h
        rw [List.pairwise_iff_getElem] at h
        have h2 := h i (i + 1) (by omega) hi (by omega)
        have e1 : set.getD i 0 = set[i] := by rw [List.getD_eq_getElem?_getD, List.getElem?_eq_getElem (by omega)]; rfl
        have e2 : set.getD (i + 1) 0 = set[i + 1] := by rw [List.getD_eq_getElem?_getD, List.getElem?_eq_getElem hi]; rfl
        rw [e1] at h1; rw [e2]; omega
    have hp : 0 < set.length := List.length_pos_iff.2 h0
    have h1 := key (set.length - 1) (by omega)
    have h2 := (hx _ (getD_mem (show set.length - 1 < set.length by omega) 0)).2
    omega

theorem SI_of_take {set : List Int} {i : Nat} (h : SI set) : SI (set.take i) := List.Pairwise.sublist (List.take_sublist i set) h

/-- A function that gives a new row and a code, or nil and a code. -/
abbrev RowT (P : Program) (g : FuncId) (args : List AVal) (ok : Bool) (xs : List Int) (code : Int) : Prop := Fn P g args fun rows res =>
  if ok = true then ∃ v, rows = [.row v 1 true (ints xs)] ∧ res = .tup [.own 6000 v, iv code] else rows = [] ∧ res = .tup [nilS, iv code]

theorem call_rowT {P : Program} {pu : Bool} {σ : St} {g : FuncId} {As args : List AVal} {d : Nat} {s : Nat → Nat} {K : St → Prop} {ok : Bool} {xs : List Int} {code : Int} (h : RowT P g args ok xs code)
    (hco : CoeL σ.hp [] true args As) (hg : σ.hp d = .gone)
    (h1 : ok = true → ∀ v, K (St.put ⟨σ.tm, upd σ.hp d (.row v 1 true (ints xs))⟩ (some d) (.tup [.own d v, iv code])))
    (h2 : ok = false → K (St.put ⟨σ.tm, σ.hp⟩ (some d) (.tup [nilS, iv code]))) : wpCall P pu σ g As (some d) s K := by
  refine call_fn h hco (fun _ => ?_) ?_
  · cases ok with
    | true => exact ⟨[.row 0 1 true (ints xs)], .tup [.own 6000 0, iv code], by rw [if_pos rfl]; exact ⟨0, rfl, rfl⟩⟩
    | false => exact ⟨[], .tup [nilS, iv code], by rw [if_neg (by simp)]; exact ⟨rfl, rfl⟩⟩
  · intro rows res hR
    cases ok with
    | true =>
      simp only [if_true] at hR
      obtain ⟨v, rfl, rfl⟩ := hR
      refine ⟨by simp, ?_, ?_⟩
      · simp only [Option.getD_some, gone_one]; exact hg
      · simp only [Option.getD_some, List.length_singleton, Nat.not_lt_zero, range1, ren_val, ren_any, ren_ro, rnNm_n, rnNm_sn, rnNm_o, rnNm_s, ren_st, ren_tup, renL_nil, renL_cons, renL_intsK, renL_rws, renL_rwn, oren_box, oren_row, oren_map, ren_own_e0, ren_own_e1, ren_own_e2, ren_ptr_e0, ren_mp_e0, ren_mp_e1, ren_own_r0, ren_own_r1, ren_own_r2, ren_ptr_r0, ren_mp_r0, ren_mp_r1, List.range_zero, callHp_nil, callHp_one, callHp_two, gone_nil, gone_one, gone_two, AVal.fresh, freshL, fresh_intsK, fresh_rws, AObj.fresh, id, Option.isSome_some, or_true, true_or]
        exact h1 rfl _
    | false =>
      simp only [Bool.false_eq_true, if_false] at hR
      obtain ⟨rfl, rfl⟩ := hR
      refine ⟨by simp, by simp, ?_⟩
      simp only [Nat.not_lt_zero, range1, ren_val, ren_any, ren_ro, rnNm_n, rnNm_sn, rnNm_o, rnNm_s, ren_st, ren_tup, renL_nil, renL_cons, renL_intsK, renL_rws, renL_rwn, oren_box, oren_row, oren_map, ren_own_e0, ren_own_e1, ren_own_e2, ren_ptr_e0, ren_mp_e0, ren_mp_e1, ren_own_r0, ren_own_r1, ren_own_r2, ren_ptr_r0, ren_mp_r0, ren_mp_r1, List.range_zero, callHp_nil, callHp_one, callHp_two, gone_nil, gone_one, gone_two, AVal.fresh, freshL, fresh_intsK, fresh_rws, AObj.fresh, id, Option.isSome_some, or_true, true_or]
      exact h2 rfl

theorem allS_SI (n : Int) : SI (allS n) := by
  unfold SI allS
  rw [List.pairwise_map]
  exact List.pairwise_lt_range.imp fun h => by omega
theorem allS_set (n : Int) : setB n (allS n) = true := setB_iff.2 ⟨allS_SI n, allS_in⟩

end Go.Ab
