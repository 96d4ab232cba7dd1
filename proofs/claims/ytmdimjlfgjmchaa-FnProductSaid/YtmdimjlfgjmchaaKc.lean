/- Contracts: valid automata, words, states to which words lead. Conditions: none. -/
import Derived.Test.YtmdimjlfgjmchaaKb
set_option linter.all false
namespace Go.Ab
open Go.Proofs
set_option maxRecDepth 20000
set_option linter.unusedSimpArgs false

theorem drop_getD {α : Type} {xs : List α} {i : Nat} (h : i < xs.length) (d : α) : xs.drop i = xs.getD i d :: xs.drop (i + 1) := by
  rw [List.drop_eq_getElem_cons h, List.getD_eq_getElem?_getD, List.getElem?_eq_getElem h]; rfl

theorem getD_mem {α : Type} {xs : List α} {i : Nat} (h : i < xs.length) (d : α) : xs.getD i d ∈ xs := by
  rw [List.getD_eq_getElem?_getD, List.getElem?_eq_getElem h]; exact List.getElem_mem h

/-- The place of the first element of which something is so; -1. -/
def fidx {α : Type} (p : α → Bool) : List α → Nat → Int
  | [], _ => -1
  | x :: xs, i => if p x then i else fidx p xs (i + 1)

theorem fidx_ge {α : Type} (p : α → Bool) : ∀ (xs : List α) (i : Nat), decide (0 ≤ fidx p xs i) = xs.any p
  | [], i => by simp [fidx]
  | x :: xs, i => by
    have h := fidx_ge p xs (i + 1)
    simp only [fidx, List.any_cons]
    by_cases hp : p x = true
    · simp [hp]
    · have h2 : p x = false := by simpa using hp
      simp only [h2, Bool.false_or, ← h]
      simp

/-- Captured values that are handed on as they are. -/
structure Caps (caps : List AVal) : Prop where
  dn : dnL caps = caps
  coe : ∀ hp m len, CoeL hp m len caps caps

theorem k_IndexFunc (xs : List (List Int)) (g : FuncId) (caps : List AVal) (p : List Int → Bool) (hc : Caps caps) (h : ∀ x ∈ xs, Fun Try.prog g (.ro none 1 (ints x) :: caps) (bv (p x))) :
    Fun Try.prog n_slices_IndexFunc_LLI [.ro none 1 (rwn xs), .clo g caps] (iv (fidx p xs 0)) := by
  refine fun_of mixed c_slices_IndexFunc_LLI rfl ⟨rfl, trivial⟩ ?_
  simp only [A_slices_IndexFunc_LLI, B_slices_IndexFunc_LLI_1, hc.dn, go_sem, adopt_fun, Int.reduceLT, Int.reduceLE, Int.reduceToNat, Int.reduceNeg, Nat.reduceLT, Nat.reduceLeDiff, Nat.reduceMul, Nat.reduceSub, reduceIte, Nat.reduceEqDiff, Nat.reduceAdd, reduceCtorEq]
  intro hM
  have hM2 := maxLen_le
  simp only [B_slices_IndexFunc_LLI_2, hc.dn, go_sem, adopt_fun, Int.reduceLT, Int.reduceLE, Int.reduceToNat, Int.reduceNeg, Nat.reduceLT, Nat.reduceLeDiff, Nat.reduceMul, Nat.reduceSub, reduceIte, Nat.reduceEqDiff, Nat.reduceAdd, reduceCtorEq]
  refine wpD_lo (fun i => xs.length - i) (fun i => i ≤ xs.length ∧ fidx p (xs.drop i) i = fidx p xs 0)
    (fun i : Nat => ⟨L .any [(0, .ro none 1 (rwn xs)), (1, .clo g caps), (7, iv xs.length), (8, iv i)], L .gone []⟩) 0 (by simp) (by simp only [B_slices_IndexFunc_LLI_3, hc.dn, go_sem, adopt_fun, Int.reduceLT, Int.reduceLE, Int.reduceToNat, Int.reduceNeg, Nat.reduceLT, Nat.reduceLeDiff, Nat.reduceMul, Nat.reduceSub, reduceIte, Nat.reduceEqDiff, Nat.reduceAdd, reduceCtorEq]; try rfl) ?_
  rintro i ⟨hi, he⟩
  by_cases hlt : (i : Int) < xs.length
  · have hlt' : i < xs.length := by omega
    have w1 : IntKind.i64.wrap ((i : Int) + 1) = ((i + 1 : Nat) : Int) := by rw [w64 (by omega)]; simp
    have w2 : IntKind.i64.wrap (i : Int) = i := w64 (by omega)
    rw [drop_getD hlt' []] at he
    simp only [fidx] at he
    simp only [B_slices_IndexFunc_LLI_3, B_slices_IndexFunc_LLI_4, B_slices_IndexFunc_LLI_5, B_slices_IndexFunc_LLI_6, rwn_getD hlt', decide_eq_true hlt, hc.dn, go_sem, adopt_fun, Int.reduceLT, Int.reduceLE, Int.reduceToNat, Int.reduceNeg, Nat.reduceLT, Nat.reduceLeDiff, Nat.reduceMul, Nat.reduceSub, reduceIte, Nat.reduceEqDiff, Nat.reduceAdd, reduceCtorEq]
    intro vs
    refine ⟨⟨by omega, hlt'⟩, hlt', ?_⟩
    refine call_fun (h _ (getD_mem hlt' [])) (by simp only [rowIs, boxIs, coe_argN, coe_argNs, coe_ro_o, coeL_nil, coeL_cons, coe_any, coe_val, coe_ro, coe_ro_nil, coe_ro_own, coe_st, coe_st_agg, coe_rp, coe_rp_ptr, coe_clo, coe_own0, coe_ptr0, coeL_intsK, coeL_rws, coeL_rwn, L_hit, L_miss, L_nil, Nat.reduceEqDiff, ne_eq, reduceCtorEq, not_false_eq_true, true_and, and_true, and_self, exists_eq_left, exists_eq_right, List.mem_cons, List.not_mem_nil, or_false, AObj.row.injEq, AObj.box.injEq, exists_eq_left', exists_and_left, exists_eq, Nat.zero_lt_one, Nat.lt_add_one, List.map_cons, List.map_nil, AObj.ver, Nat.reduceLT, not_true_eq_false]; exact hc.coe _ _ _) trivial ?_
    simp only [B_slices_IndexFunc_LLI_7, B_slices_IndexFunc_LLI_8, w1, hc.dn, go_sem, adopt_fun, Int.reduceLT, Int.reduceLE, Int.reduceToNat, Int.reduceNeg, Nat.reduceLT, Nat.reduceLeDiff, Nat.reduceMul, Nat.reduceSub, reduceIte, Nat.reduceEqDiff, Nat.reduceAdd, reduceCtorEq]
    refine ⟨fun hp => ?_, fun hp => ⟨i + 1, by omega, ⟨by omega, ?_⟩, rfl⟩⟩
    · rw [hp] at he; simp at he; rw [← he]
    · rw [hp] at he; simpa using he
  · have : i = xs.length := by omega
    subst this
    rw [List.drop_length] at he
    simp only [fidx] at he
    simp only [B_slices_IndexFunc_LLI_3, B_slices_IndexFunc_LLI_4, B_slices_IndexFunc_LLI_5, B_slices_IndexFunc_LLI_9, decide_eq_false hlt, hc.dn, go_sem, adopt_fun, Int.reduceLT, Int.reduceLE, Int.reduceToNat, Int.reduceNeg, Nat.reduceLT, Nat.reduceLeDiff, Nat.reduceMul, Nat.reduceSub, reduceIte, Nat.reduceEqDiff, Nat.reduceAdd, reduceCtorEq]
    rw [← he]

theorem k_ContainsFunc (xs : List (List Int)) (g : FuncId) (caps : List AVal) (p : List Int → Bool) (hc : Caps caps) (h : ∀ x ∈ xs, Fun Try.prog g (.ro none 1 (ints x) :: caps) (bv (p x))) :
    Fun Try.prog n_slices_ContainsFunc_LLI [.ro none 1 (rwn xs), .clo g caps] (bv (xs.any p)) := by
  refine fun_of mixed c_slices_ContainsFunc_LLI rfl ⟨rfl, trivial⟩ ?_
  simp only [B_slices_ContainsFunc_LLI_1, A_slices_ContainsFunc_LLI, hc.dn, go_sem, adopt_fun, Int.reduceLT, Int.reduceLE, Int.reduceToNat, Int.reduceNeg, Nat.reduceLT, Nat.reduceLeDiff, Nat.reduceMul, Nat.reduceSub, reduceIte, Nat.reduceEqDiff, Nat.reduceAdd, reduceCtorEq]
  intro vs
  refine call_fun (k_IndexFunc xs g caps p hc h) (by simp only [rowIs, boxIs, coe_argN, coe_argNs, coe_ro_o, coeL_nil, coeL_cons, coe_any, coe_val, coe_ro, coe_ro_nil, coe_ro_own, coe_st, coe_st_agg, coe_rp, coe_rp_ptr, coe_clo, coe_own0, coe_ptr0, coeL_intsK, coeL_rws, coeL_rwn, L_hit, L_miss, L_nil, Nat.reduceEqDiff, ne_eq, reduceCtorEq, not_false_eq_true, true_and, and_true, and_self, exists_eq_left, exists_eq_right, List.mem_cons, List.not_mem_nil, or_false, AObj.row.injEq, AObj.box.injEq, exists_eq_left', exists_and_left, exists_eq, Nat.zero_lt_one, Nat.lt_add_one, List.map_cons, List.map_nil, AObj.ver, Nat.reduceLT, not_true_eq_false]; exact hc.coe _ _ _) trivial ?_
  simp only [fidx_ge, go_sem, adopt_fun, Int.reduceLT, Int.reduceLE, Int.reduceToNat, Int.reduceNeg, Nat.reduceLT, Nat.reduceLeDiff, Nat.reduceMul, Nat.reduceSub, reduceIte, Nat.reduceEqDiff, Nat.reduceAdd, reduceCtorEq]

theorem k_IndexFunc2 (xs : List Int) (g : FuncId) (caps : List AVal) (p : Int → Bool) (hc : Caps caps) (h : ∀ x ∈ xs, Fun Try.prog g (iv x :: caps) (bv (p x))) :
    Fun Try.prog n_slices_IndexFunc_LI [.ro none 1 (ints xs), .clo g caps] (iv (fidx p xs 0)) := by
  refine fun_of mixed c_slices_IndexFunc_LI rfl ⟨rfl, trivial⟩ ?_
  simp only [A_slices_IndexFunc_LI, B_slices_IndexFunc_LI_1, hc.dn, go_sem, adopt_fun, Int.reduceLT, Int.reduceLE, Int.reduceToNat, Int.reduceNeg, Nat.reduceLT, Nat.reduceLeDiff, Nat.reduceMul, Nat.reduceSub, reduceIte, Nat.reduceEqDiff, Nat.reduceAdd, reduceCtorEq]
  intro hM
  have hM2 := maxLen_le
  simp only [B_slices_IndexFunc_LI_2, hc.dn, go_sem, adopt_fun, Int.reduceLT, Int.reduceLE, Int.reduceToNat, Int.reduceNeg, Nat.reduceLT, Nat.reduceLeDiff, Nat.reduceMul, Nat.reduceSub, reduceIte, Nat.reduceEqDiff, Nat.reduceAdd, reduceCtorEq]
  refine wpD_lo (fun i => xs.length - i) (fun i => i ≤ xs.length ∧ fidx p (xs.drop i) i = fidx p xs 0)
    (fun i : Nat => ⟨L .any [(0, .ro none 1 (ints xs)), (1, .clo g caps), (7, iv xs.length), (8, iv i)], L .gone []⟩) 0 (by simp) (by simp only [B_slices_IndexFunc_LI_3, hc.dn, go_sem, adopt_fun, Int.reduceLT, Int.reduceLE, Int.reduceToNat, Int.reduceNeg, Nat.reduceLT, Nat.reduceLeDiff, Nat.reduceMul, Nat.reduceSub, reduceIte, Nat.reduceEqDiff, Nat.reduceAdd, reduceCtorEq]; try rfl) ?_
  rintro i ⟨hi, he⟩
  by_cases hlt : (i : Int) < xs.length
  · have hlt' : i < xs.length := by omega
    have w1 : IntKind.i64.wrap ((i : Int) + 1) = ((i + 1 : Nat) : Int) := by rw [w64 (by omega)]; simp
    rw [drop_getD hlt' 0] at he
    simp only [fidx] at he
    simp only [B_slices_IndexFunc_LI_3, B_slices_IndexFunc_LI_4, B_slices_IndexFunc_LI_5, B_slices_IndexFunc_LI_6, intsK_getD hlt', decide_eq_true hlt, hc.dn, go_sem, adopt_fun, Int.reduceLT, Int.reduceLE, Int.reduceToNat, Int.reduceNeg, Nat.reduceLT, Nat.reduceLeDiff, Nat.reduceMul, Nat.reduceSub, reduceIte, Nat.reduceEqDiff, Nat.reduceAdd, reduceCtorEq]
    intro vs
    refine ⟨⟨by omega, hlt'⟩, hlt', ?_⟩
    refine call_fun (h _ (getD_mem hlt' 0)) (by simp only [rowIs, boxIs, coe_argN, coe_argNs, coe_ro_o, coeL_nil, coeL_cons, coe_any, coe_val, coe_ro, coe_ro_nil, coe_ro_own, coe_st, coe_st_agg, coe_rp, coe_rp_ptr, coe_clo, coe_own0, coe_ptr0, coeL_intsK, coeL_rws, coeL_rwn, L_hit, L_miss, L_nil, Nat.reduceEqDiff, ne_eq, reduceCtorEq, not_false_eq_true, true_and, and_true, and_self, exists_eq_left, exists_eq_right, List.mem_cons, List.not_mem_nil, or_false, AObj.row.injEq, AObj.box.injEq, exists_eq_left', exists_and_left, exists_eq, Nat.zero_lt_one, Nat.lt_add_one, List.map_cons, List.map_nil, AObj.ver, Nat.reduceLT, not_true_eq_false]; exact hc.coe _ _ _) trivial ?_
    simp only [B_slices_IndexFunc_LI_7, B_slices_IndexFunc_LI_8, w1, hc.dn, go_sem, adopt_fun, Int.reduceLT, Int.reduceLE, Int.reduceToNat, Int.reduceNeg, Nat.reduceLT, Nat.reduceLeDiff, Nat.reduceMul, Nat.reduceSub, reduceIte, Nat.reduceEqDiff, Nat.reduceAdd, reduceCtorEq]
    refine ⟨fun hp => ?_, fun hp => ⟨i + 1, by omega, ⟨by omega, ?_⟩, rfl⟩⟩
    · rw [hp] at he; simp at he; rw [← he]
    · rw [hp] at he; simpa using he
  · have : i = xs.length := by omega
    subst this
    rw [List.drop_length] at he
    simp only [fidx] at he
    simp only [B_slices_IndexFunc_LI_3, B_slices_IndexFunc_LI_4, B_slices_IndexFunc_LI_5, B_slices_IndexFunc_LI_9, decide_eq_false hlt, hc.dn, go_sem, adopt_fun, Int.reduceLT, Int.reduceLE, Int.reduceToNat, Int.reduceNeg, Nat.reduceLT, Nat.reduceLeDiff, Nat.reduceMul, Nat.reduceSub, reduceIte, Nat.reduceEqDiff, Nat.reduceAdd, reduceCtorEq]
    rw [← he]

theorem k_ContainsFunc1 (xs : List Int) (g : FuncId) (caps : List AVal) (p : Int → Bool) (hc : Caps caps) (h : ∀ x ∈ xs, Fun Try.prog g (iv x :: caps) (bv (p x))) :
    Fun Try.prog n_slices_ContainsFunc_LI [.ro none 1 (ints xs), .clo g caps] (bv (xs.any p)) := by
  refine fun_of mixed c_slices_ContainsFunc_LI rfl ⟨rfl, trivial⟩ ?_
  simp only [B_slices_ContainsFunc_LI_1, A_slices_ContainsFunc_LI, hc.dn, go_sem, adopt_fun, Int.reduceLT, Int.reduceLE, Int.reduceToNat, Int.reduceNeg, Nat.reduceLT, Nat.reduceLeDiff, Nat.reduceMul, Nat.reduceSub, reduceIte, Nat.reduceEqDiff, Nat.reduceAdd, reduceCtorEq]
  intro vs
  refine call_fun (k_IndexFunc2 xs g caps p hc h) (by simp only [rowIs, boxIs, coe_argN, coe_argNs, coe_ro_o, coeL_nil, coeL_cons, coe_any, coe_val, coe_ro, coe_ro_nil, coe_ro_own, coe_st, coe_st_agg, coe_rp, coe_rp_ptr, coe_clo, coe_own0, coe_ptr0, coeL_intsK, coeL_rws, coeL_rwn, L_hit, L_miss, L_nil, Nat.reduceEqDiff, ne_eq, reduceCtorEq, not_false_eq_true, true_and, and_true, and_self, exists_eq_left, exists_eq_right, List.mem_cons, List.not_mem_nil, or_false, AObj.row.injEq, AObj.box.injEq, exists_eq_left', exists_and_left, exists_eq, Nat.zero_lt_one, Nat.lt_add_one, List.map_cons, List.map_nil, AObj.ver, Nat.reduceLT, not_true_eq_false]; exact hc.coe _ _ _) trivial ?_
  simp only [fidx_ge, go_sem, adopt_fun, Int.reduceLT, Int.reduceLE, Int.reduceToNat, Int.reduceNeg, Nat.reduceLT, Nat.reduceLeDiff, Nat.reduceMul, Nat.reduceSub, reduceIte, Nat.reduceEqDiff, Nat.reduceAdd, reduceCtorEq]

/-- All numbers are from lo to hi. -/
def allIn (xs : List Int) (lo hi : Int) : Bool := xs.all fun x => decide (lo ≤ x) && decide (x ≤ hi)

theorem allIn_iff {xs : List Int} {lo hi : Int} : allIn xs lo hi = true ↔ ∀ x ∈ xs, lo ≤ x ∧ x ≤ hi := by simp [allIn]

theorem k_areWithin_1 (n lo hi : Int) : Fun Try.prog n_impl_areWithin_1 [iv n, .rp [iv lo] 0, .rp [iv hi] 0] (bv !(decide (lo ≤ n) && decide (n ≤ hi))) := by
  refine fun_of mixed c_impl_areWithin_1 rfl ⟨rfl, trivial⟩ ?_
  simp only [B_impl_areWithin_1_1, A_impl_areWithin_1, go_sem, adopt_fun, Int.reduceLT, Int.reduceLE, Int.reduceToNat, Int.reduceNeg, Nat.reduceLT, Nat.reduceLeDiff, Nat.reduceMul, Nat.reduceSub, reduceIte, Nat.reduceEqDiff, Nat.reduceAdd, reduceCtorEq]
  intro vs
  refine call_fun (k_within n lo hi) qCS trivial ?_
  simp only [go_sem, adopt_fun, Int.reduceLT, Int.reduceLE, Int.reduceToNat, Int.reduceNeg, Nat.reduceLT, Nat.reduceLeDiff, Nat.reduceMul, Nat.reduceSub, reduceIte, Nat.reduceEqDiff, Nat.reduceAdd, reduceCtorEq]

theorem k_areWithin (xs : List Int) (lo hi : Int) : Fun Try.prog n_impl_areWithin [.ro none 1 (ints xs), iv lo, iv hi] (bv (allIn xs lo hi)) := by
  refine fun_of mixed c_impl_areWithin rfl ⟨rfl, trivial⟩ ?_
  simp only [B_impl_areWithin_1, A_impl_areWithin, go_sem, adopt_fun, Int.reduceLT, Int.reduceLE, Int.reduceToNat, Int.reduceNeg, Nat.reduceLT, Nat.reduceLeDiff, Nat.reduceMul, Nat.reduceSub, reduceIte, Nat.reduceEqDiff, Nat.reduceAdd, reduceCtorEq]
  intro vs vs2
  refine call_fun (k_ContainsFunc1 xs n_impl_areWithin_1 [.rp [iv lo] 0, .rp [iv hi] 0] _ ⟨by simp only [go_sem, adopt_fun, Int.reduceLT, Int.reduceLE, Int.reduceToNat, Int.reduceNeg, Nat.reduceLT, Nat.reduceLeDiff, Nat.reduceMul, Nat.reduceSub, reduceIte, Nat.reduceEqDiff, Nat.reduceAdd, reduceCtorEq], by intros; simp only [rowIs, boxIs, coe_argN, coe_argNs, coe_ro_o, coeL_nil, coeL_cons, coe_any, coe_val, coe_ro, coe_ro_nil, coe_ro_own, coe_st, coe_st_agg, coe_rp, coe_rp_ptr, coe_clo, coe_own0, coe_ptr0, coeL_intsK, coeL_rws, coeL_rwn, L_hit, L_miss, L_nil, Nat.reduceEqDiff, ne_eq, reduceCtorEq, not_false_eq_true, true_and, and_true, and_self, exists_eq_left, exists_eq_right, List.mem_cons, List.not_mem_nil, or_false, AObj.row.injEq, AObj.box.injEq, exists_eq_left', exists_and_left, exists_eq, Nat.zero_lt_one, Nat.lt_add_one, List.map_cons, List.map_nil, AObj.ver, Nat.reduceLT, not_true_eq_false]⟩ (fun x _ => k_areWithin_1 x lo hi)) qCS trivial ?_
  simp only [go_sem, adopt_fun, Int.reduceLT, Int.reduceLE, Int.reduceToNat, Int.reduceNeg, Nat.reduceLT, Nat.reduceLeDiff, Nat.reduceMul, Nat.reduceSub, reduceIte, Nat.reduceEqDiff, Nat.reduceAdd, reduceCtorEq]
  congr 2
  simp only [allIn, List.all_eq_not_any_not]

abbrev autA (n : Int) (next : List (List Int)) : AVal := .st [iv n, .ro none 1 (rwn next)]
abbrev autP (n : Int) (next : List (List Int)) : AVal := .rp [iv n, .ro none 1 (rwn next)] 0

/-- Whether an automaton is valid. -/
def autB (n : Int) (next : List (List Int)) : Bool := (decide (1 ≤ n) && decide (n ≤ 10)) && ((decide (1 ≤ (next.length : Int)) && decide ((next.length : Int) ≤ 3)) && next.all fun row => decide ((row.length : Int) = n) && allIn row 0 (n - 1))

theorem autB_iff {n : Int} {next : List (List Int)} : autB n next = true ↔ Aut n next := by
  simp only [autB, Bool.and_eq_true, decide_eq_true_eq, List.all_eq_true, allIn_iff]
  constructor
  · rintro ⟨⟨h1, h2⟩, ⟨h3, h4⟩, h5⟩
    exact ⟨h1, h2, by omega, by omega, fun row hr => ⟨(h5 row hr).1, fun x hx => by have := (h5 row hr).2 x hx; omega⟩⟩
  · rintro ⟨h1, h2, h3, h4, h5⟩
    exact ⟨⟨h1, h2⟩, ⟨by omega, by omega⟩, fun row hr => ⟨(h5 row hr).1, fun x hx => by have := (h5 row hr).2 x hx; omega⟩⟩

theorem k_letters (n : Int) (next : List (List Int)) : Fun Try.prog n_impl_Automaton_letters [autA n next] (iv next.length) := by
  refine fun_of mixed c_impl_Automaton_letters rfl ⟨rfl, trivial⟩ ?_
  simp only [B_impl_Automaton_letters_1, A_impl_Automaton_letters, go_sem, adopt_fun, Int.reduceLT, Int.reduceLE, Int.reduceToNat, Int.reduceNeg, Nat.reduceLT, Nat.reduceLeDiff, Nat.reduceMul, Nat.reduceSub, reduceIte, Nat.reduceEqDiff, Nat.reduceAdd, reduceCtorEq]
  intro vs vs2
  refine call_fun (k_size1 next) qCS trivial ?_
  simp only [go_sem, adopt_fun, Int.reduceLT, Int.reduceLE, Int.reduceToNat, Int.reduceNeg, Nat.reduceLT, Nat.reduceLeDiff, Nat.reduceMul, Nat.reduceSub, reduceIte, Nat.reduceEqDiff, Nat.reduceAdd, reduceCtorEq]

theorem k_Valid_1 (row : List Int) (n : Int) (next : List (List Int)) (hn : 1 ≤ n ∧ n ≤ 10) : Fun Try.prog n_impl_ValidAutomaton_1 [.ro none 1 (ints row), autP n next] (bv !(decide ((row.length : Int) = n) && allIn row 0 (n - 1))) := by
  refine fun_of mixed c_impl_ValidAutomaton_1 rfl ⟨rfl, trivial⟩ ?_
  have w : IntKind.i64.wrap (n - 1) = n - 1 := w64 (by omega)
  simp only [B_impl_ValidAutomaton_1_1, A_impl_ValidAutomaton_1, w, go_sem, adopt_fun, Int.reduceLT, Int.reduceLE, Int.reduceToNat, Int.reduceNeg, Nat.reduceLT, Nat.reduceLeDiff, Nat.reduceMul, Nat.reduceSub, reduceIte, Nat.reduceEqDiff, Nat.reduceAdd, reduceCtorEq]
  intro vs
  refine call_fun (k_size row) qCS trivial ?_
  by_cases h : (row.length : Int) = n
  · have h2 : ((row.length : Int) != n) = false := by simp [h]
    simp only [h2, w, go_sem, adopt_fun, Int.reduceLT, Int.reduceLE, Int.reduceToNat, Int.reduceNeg, Nat.reduceLT, Nat.reduceLeDiff, Nat.reduceMul, Nat.reduceSub, reduceIte, Nat.reduceEqDiff, Nat.reduceAdd, reduceCtorEq]
    refine call_fun (k_areWithin row 0 (n - 1)) qCS trivial ?_
    simp only [go_sem, adopt_fun, Int.reduceLT, Int.reduceLE, Int.reduceToNat, Int.reduceNeg, Nat.reduceLT, Nat.reduceLeDiff, Nat.reduceMul, Nat.reduceSub, reduceIte, Nat.reduceEqDiff, Nat.reduceAdd, reduceCtorEq]
    simp [h]
  · have h2 : ((row.length : Int) != n) = true := by simp [h]
    simp only [h2, go_sem, adopt_fun, Int.reduceLT, Int.reduceLE, Int.reduceToNat, Int.reduceNeg, Nat.reduceLT, Nat.reduceLeDiff, Nat.reduceMul, Nat.reduceSub, reduceIte, Nat.reduceEqDiff, Nat.reduceAdd, reduceCtorEq]
    simp [h]

theorem k_Valid (n : Int) (next : List (List Int)) : Fun Try.prog n_impl_ValidAutomaton [autA n next] (bv (autB n next)) := by
  refine fun_of mixed c_impl_ValidAutomaton rfl ⟨rfl, trivial⟩ ?_
  simp only [B_impl_ValidAutomaton_1, A_impl_ValidAutomaton, go_sem, adopt_fun, Int.reduceLT, Int.reduceLE, Int.reduceToNat, Int.reduceNeg, Nat.reduceLT, Nat.reduceLeDiff, Nat.reduceMul, Nat.reduceSub, reduceIte, Nat.reduceEqDiff, Nat.reduceAdd, reduceCtorEq]
  intro vs vs2
  refine call_fun (k_within n 1 10) qCS trivial ?_
  by_cases hn : 1 ≤ n ∧ n ≤ 10
  · have h1 : (decide (1 ≤ n) && decide (n ≤ 10)) = true := by simp [hn]
    simp only [h1, go_sem, adopt_fun, Int.reduceLT, Int.reduceLE, Int.reduceToNat, Int.reduceNeg, Nat.reduceLT, Nat.reduceLeDiff, Nat.reduceMul, Nat.reduceSub, reduceIte, Nat.reduceEqDiff, Nat.reduceAdd, reduceCtorEq]
    refine call_fun (k_letters n next) qCS trivial ?_
    simp only [go_sem, adopt_fun, Int.reduceLT, Int.reduceLE, Int.reduceToNat, Int.reduceNeg, Nat.reduceLT, Nat.reduceLeDiff, Nat.reduceMul, Nat.reduceSub, reduceIte, Nat.reduceEqDiff, Nat.reduceAdd, reduceCtorEq]
    refine call_fun (k_within next.length 1 3) qCS trivial ?_
    by_cases hl : 1 ≤ (next.length : Int) ∧ (next.length : Int) ≤ 3
    · have h2 : (decide (1 ≤ (next.length : Int)) && decide ((next.length : Int) ≤ 3)) = true := by simp only [decide_eq_true hl.1, decide_eq_true hl.2, Bool.and_self]
      simp only [h2, go_sem, adopt_fun, Int.reduceLT, Int.reduceLE, Int.reduceToNat, Int.reduceNeg, Nat.reduceLT, Nat.reduceLeDiff, Nat.reduceMul, Nat.reduceSub, reduceIte, Nat.reduceEqDiff, Nat.reduceAdd, reduceCtorEq]
      refine call_fun (k_ContainsFunc next n_impl_ValidAutomaton_1 [autP n next] _ ⟨by simp only [go_sem, adopt_fun, Int.reduceLT, Int.reduceLE, Int.reduceToNat, Int.reduceNeg, Nat.reduceLT, Nat.reduceLeDiff, Nat.reduceMul, Nat.reduceSub, reduceIte, Nat.reduceEqDiff, Nat.reduceAdd, reduceCtorEq], by intros; simp only [rowIs, boxIs, coe_argN, coe_argNs, coe_ro_o, coeL_nil, coeL_cons, coe_any, coe_val, coe_ro, coe_ro_nil, coe_ro_own, coe_st, coe_st_agg, coe_rp, coe_rp_ptr, coe_clo, coe_own0, coe_ptr0, coeL_intsK, coeL_rws, coeL_rwn, L_hit, L_miss, L_nil, Nat.reduceEqDiff, ne_eq, reduceCtorEq, not_false_eq_true, true_and, and_true, and_self, exists_eq_left, exists_eq_right, List.mem_cons, List.not_mem_nil, or_false, AObj.row.injEq, AObj.box.injEq, exists_eq_left', exists_and_left, exists_eq, Nat.zero_lt_one, Nat.lt_add_one, List.map_cons, List.map_nil, AObj.ver, Nat.reduceLT, not_true_eq_false]⟩ (fun x _ => k_Valid_1 x n next hn)) qCS trivial ?_
      simp only [go_sem, adopt_fun, Int.reduceLT, Int.reduceLE, Int.reduceToNat, Int.reduceNeg, Nat.reduceLT, Nat.reduceLeDiff, Nat.reduceMul, Nat.reduceSub, reduceIte, Nat.reduceEqDiff, Nat.reduceAdd, reduceCtorEq]
      simp only [autB, h1, h2, Bool.true_and]
      congr 2
      simp only [List.all_eq_not_any_not]
    · have h2 : (decide (1 ≤ (next.length : Int)) && decide ((next.length : Int) ≤ 3)) = false := by
        rw [Bool.and_eq_false_iff]
        by_cases h3 : 1 ≤ (next.length : Int)
        · right; simp; omega
        · left; simp; omega
      simp only [h2, go_sem, adopt_fun, Int.reduceLT, Int.reduceLE, Int.reduceToNat, Int.reduceNeg, Nat.reduceLT, Nat.reduceLeDiff, Nat.reduceMul, Nat.reduceSub, reduceIte, Nat.reduceEqDiff, Nat.reduceAdd, reduceCtorEq]
      simp only [autB, h1, h2, Bool.true_and, Bool.false_and]
  · have h1 : (decide (1 ≤ n) && decide (n ≤ 10)) = false := by
      rw [Bool.and_eq_false_iff]
      by_cases h3 : 1 ≤ n
      · right; simp; omega
      · left; simp; omega
    simp only [h1, go_sem, adopt_fun, Int.reduceLT, Int.reduceLE, Int.reduceToNat, Int.reduceNeg, Nat.reduceLT, Nat.reduceLeDiff, Nat.reduceMul, Nat.reduceSub, reduceIte, Nat.reduceEqDiff, Nat.reduceAdd, reduceCtorEq]
    simp only [autB, h1, Bool.false_and]

/-- Whether a list is a word. -/
def wordB (l : Nat) (w : List Int) : Bool := decide ((w.length : Int) ≤ 400) && allIn w 0 ((l : Int) - 1)

theorem k_isWord (n : Int) (next : List (List Int)) (w : List Int) (hl : 1 ≤ next.length ∧ next.length ≤ 3) : Fun Try.prog n_impl_Automaton_isWord [autA n next, .ro none 1 (ints w)] (bv (wordB next.length w)) := by
  refine fun_of mixed c_impl_Automaton_isWord rfl ⟨rfl, trivial⟩ ?_
  have w1 : IntKind.i64.wrap ((next.length : Int) - 1) = (next.length : Int) - 1 := w64 (by omega)
  simp only [B_impl_Automaton_isWord_1, A_impl_Automaton_isWord, go_sem, adopt_fun, Int.reduceLT, Int.reduceLE, Int.reduceToNat, Int.reduceNeg, Nat.reduceLT, Nat.reduceLeDiff, Nat.reduceMul, Nat.reduceSub, reduceIte, Nat.reduceEqDiff, Nat.reduceAdd, reduceCtorEq]
  intro vs vs2 hM
  by_cases h : (w.length : Int) ≤ 400
  · simp only [decide_eq_true h, go_sem, adopt_fun, Int.reduceLT, Int.reduceLE, Int.reduceToNat, Int.reduceNeg, Nat.reduceLT, Nat.reduceLeDiff, Nat.reduceMul, Nat.reduceSub, reduceIte, Nat.reduceEqDiff, Nat.reduceAdd, reduceCtorEq]
    refine call_fun (k_letters n next) qCS trivial ?_
    simp only [w1, go_sem, adopt_fun, Int.reduceLT, Int.reduceLE, Int.reduceToNat, Int.reduceNeg, Nat.reduceLT, Nat.reduceLeDiff, Nat.reduceMul, Nat.reduceSub, reduceIte, Nat.reduceEqDiff, Nat.reduceAdd, reduceCtorEq]
    refine call_fun (k_areWithin w 0 ((next.length : Int) - 1)) qCS trivial ?_
    simp only [go_sem, adopt_fun, Int.reduceLT, Int.reduceLE, Int.reduceToNat, Int.reduceNeg, Nat.reduceLT, Nat.reduceLeDiff, Nat.reduceMul, Nat.reduceSub, reduceIte, Nat.reduceEqDiff, Nat.reduceAdd, reduceCtorEq]
    simp only [wordB, decide_eq_true h, Bool.true_and]
  · simp only [decide_eq_false h, go_sem, adopt_fun, Int.reduceLT, Int.reduceLE, Int.reduceToNat, Int.reduceNeg, Nat.reduceLT, Nat.reduceLeDiff, Nat.reduceMul, Nat.reduceSub, reduceIte, Nat.reduceEqDiff, Nat.reduceAdd, reduceCtorEq]
    simp only [wordB, decide_eq_false h, Bool.false_and]

/-- The code that a look at an automaton and at what comes with it gives. -/
def codeI (valid right : Bool) : Int := if valid then (if right then 0 else 2) else 1

theorem k_code (n : Int) (next : List (List Int)) (g : FuncId) (caps : List AVal) (r : Bool) (hc : Caps caps) (h : autB n next = true → Fun Try.prog g caps (bv r)) :
    Fun Try.prog n_impl_Automaton_code [autA n next, .clo g caps] (iv (codeI (autB n next) r)) := by
  refine fun_of mixed c_impl_Automaton_code rfl ⟨rfl, trivial⟩ ?_
  simp only [A_impl_Automaton_code, B_impl_Automaton_code_1, hc.dn, go_sem, adopt_fun, Int.reduceLT, Int.reduceLE, Int.reduceToNat, Int.reduceNeg, Nat.reduceLT, Nat.reduceLeDiff, Nat.reduceMul, Nat.reduceSub, reduceIte, Nat.reduceEqDiff, Nat.reduceAdd, reduceCtorEq]
  intro vs vs2
  refine call_fun (k_Valid n next) qCS trivial ?_
  simp only [B_impl_Automaton_code_2, hc.dn, go_sem, adopt_fun, Int.reduceLT, Int.reduceLE, Int.reduceToNat, Int.reduceNeg, Nat.reduceLT, Nat.reduceLeDiff, Nat.reduceMul, Nat.reduceSub, reduceIte, Nat.reduceEqDiff, Nat.reduceAdd, reduceCtorEq]
  cases hv : autB n next with
  | false =>
    simp only [codeI, go_sem, adopt_fun, Int.reduceLT, Int.reduceLE, Int.reduceToNat, Int.reduceNeg, Nat.reduceLT, Nat.reduceLeDiff, Nat.reduceMul, Nat.reduceSub, reduceIte, Nat.reduceEqDiff, Nat.reduceAdd, reduceCtorEq]
  | true =>
    simp only [go_sem, adopt_fun, Int.reduceLT, Int.reduceLE, Int.reduceToNat, Int.reduceNeg, Nat.reduceLT, Nat.reduceLeDiff, Nat.reduceMul, Nat.reduceSub, reduceIte, Nat.reduceEqDiff, Nat.reduceAdd, reduceCtorEq]
    intro vs3
    refine call_fun (h hv) (hc.coe _ _ _) trivial ?_
    simp only [B_impl_Automaton_code_3, B_impl_Automaton_code_4, go_sem, adopt_fun, Int.reduceLT, Int.reduceLE, Int.reduceToNat, Int.reduceNeg, Nat.reduceLT, Nat.reduceLeDiff, Nat.reduceMul, Nat.reduceSub, reduceIte, Nat.reduceEqDiff, Nat.reduceAdd, reduceCtorEq]
    cases r <;> simp [codeI]

theorem k_ActionOf_1 (n : Int) (next : List (List Int)) (w : List Int) (hl : 1 ≤ next.length ∧ next.length ≤ 3) : Fun Try.prog n_impl_ActionOf_1 [autP n next, .rp [.ro none 1 (ints w)] 0] (bv (wordB next.length w)) := by
  refine fun_of mixed c_impl_ActionOf_1 rfl ⟨rfl, trivial⟩ ?_
  simp only [B_impl_ActionOf_1_1, A_impl_ActionOf_1, go_sem, adopt_fun, Int.reduceLT, Int.reduceLE, Int.reduceToNat, Int.reduceNeg, Nat.reduceLT, Nat.reduceLeDiff, Nat.reduceMul, Nat.reduceSub, reduceIte, Nat.reduceEqDiff, Nat.reduceAdd, reduceCtorEq]
  intro vs
  refine call_fun (k_isWord n next w hl) qCS trivial ?_
  simp only [go_sem, adopt_fun, Int.reduceLT, Int.reduceLE, Int.reduceToNat, Int.reduceNeg, Nat.reduceLT, Nat.reduceLeDiff, Nat.reduceMul, Nat.reduceSub, reduceIte, Nat.reduceEqDiff, Nat.reduceAdd, reduceCtorEq]

/-- The state to which a letter leads. -/
def stepA (next : List (List Int)) (s l : Int) : Int := (next.getD l.toNat []).getD s.toNat 0
/-- The state to which a word leads. -/
def atA (next : List (List Int)) (s : Int) (w : List Int) : Int := w.foldl (stepA next) s
/-- The action of a word. -/
def actA (n : Int) (next : List (List Int)) (w : List Int) : List Int := (List.range n.toNat).map fun (s : Nat) => atA next s w

/-- A word. -/
def IsW (l : Nat) (w : List Int) : Prop := ∀ x ∈ w, 0 ≤ x ∧ x < l

theorem Aut.step {n : Int} {next : List (List Int)} (A : Aut n next) {s l : Int} (hs : 0 ≤ s ∧ s < n) (hl : 0 ≤ l ∧ l < next.length) :
    l.toNat < next.length ∧ s.toNat < (next.getD l.toNat []).length ∧ 0 ≤ stepA next s l ∧ stepA next s l < n := by
  have h1 : l.toNat < next.length := by omega
  have h2 := A.row _ (getD_mem h1 [])
  have h3 : s.toNat < (next.getD l.toNat []).length := by omega
  exact ⟨h1, h3, h2.2 _ (getD_mem h3 0)⟩

theorem Aut.at {n : Int} {next : List (List Int)} (A : Aut n next) : ∀ {w : List Int} {s : Int}, 0 ≤ s ∧ s < n → IsW next.length w → 0 ≤ atA next s w ∧ atA next s w < n
  | [], s, hs, _ => hs
  | l :: w, s, hs, hw => A.at (w := w) (A.step hs (hw l (by simp))).2.2 fun x hx => hw x (by simp [hx])

theorem k_at (n : Int) (next : List (List Int)) (s : Int) (w : List Int) (A : Aut n next) (hs : 0 ≤ s ∧ s < n) (hw : IsW next.length w) : Fun Try.prog n_impl_Automaton_at [autA n next, iv s, .ro none 1 (ints w)] (iv (atA next s w)) := by
  refine fun_of mixed c_impl_Automaton_at rfl ⟨rfl, trivial⟩ ?_
  simp only [A_impl_Automaton_at, B_impl_Automaton_at_1, go_sem, adopt_fun, Int.reduceLT, Int.reduceLE, Int.reduceToNat, Int.reduceNeg, Nat.reduceLT, Nat.reduceLeDiff, Nat.reduceMul, Nat.reduceSub, reduceIte, Nat.reduceEqDiff, Nat.reduceAdd, reduceCtorEq]
  intro vs hM
  have hM2 := maxLen_le
  simp only [B_impl_Automaton_at_2, go_sem, adopt_fun, Int.reduceLT, Int.reduceLE, Int.reduceToNat, Int.reduceNeg, Nat.reduceLT, Nat.reduceLeDiff, Nat.reduceMul, Nat.reduceSub, reduceIte, Nat.reduceEqDiff, Nat.reduceAdd, reduceCtorEq]
  refine wpD_lo (fun (i, _) => w.length - i) (fun (i, s') => i ≤ w.length ∧ (0 ≤ s' ∧ s' < n) ∧ atA next s' (w.drop i) = atA next s w)
    (fun ((i, s') : Nat × Int) => ⟨L .any [(1, iv s'), (3, .ptr 3 (vs 0 0) 0), (9, .ro none 1 (ints w)), (10, iv w.length), (11, iv i)], L .gone [(3, .box (vs 0 0) [iv n, .ro none 1 (rwn next)])]⟩) (0, s) (by simp; exact hs) (by simp only [B_impl_Automaton_at_3, go_sem, adopt_fun, Int.reduceLT, Int.reduceLE, Int.reduceToNat, Int.reduceNeg, Nat.reduceLT, Nat.reduceLeDiff, Nat.reduceMul, Nat.reduceSub, reduceIte, Nat.reduceEqDiff, Nat.reduceAdd, reduceCtorEq]; try rfl) ?_
  rintro ⟨i, s'⟩ ⟨hi, hs', he⟩
  by_cases hlt : (i : Int) < w.length
  · have hlt' : i < w.length := by omega
    have w1 : IntKind.i64.wrap ((i : Int) + 1) = ((i + 1 : Nat) : Int) := by rw [w64 (by omega)]; simp
    have hx := hw _ (getD_mem hlt' 0)
    obtain ⟨a1, a2, a3⟩ := A.step hs' hx
    rw [drop_getD hlt' 0] at he
    simp only [B_impl_Automaton_at_3, B_impl_Automaton_at_4, B_impl_Automaton_at_5, B_impl_Automaton_at_6, B_impl_Automaton_at_7, w1, intsK_getD hlt', rwn_getD a1, intsK_getD a2, decide_eq_true hlt, go_sem, adopt_fun, Int.reduceLT, Int.reduceLE, Int.reduceToNat, Int.reduceNeg, Nat.reduceLT, Nat.reduceLeDiff, Nat.reduceMul, Nat.reduceSub, reduceIte, Nat.reduceEqDiff, Nat.reduceAdd, reduceCtorEq]
    refine ⟨⟨by omega, hlt'⟩, hlt', ⟨hx.1, a1⟩, a1, ⟨hs'.1, a2⟩, a2, (_, _), ?_, ⟨?_, ?_, ?_⟩, rfl⟩
    · show w.length - (i + 1) < w.length - i; omega
    · show i + 1 ≤ w.length; omega
    · exact a3
    · exact he
  · have : i = w.length := by omega
    subst this
    rw [List.drop_length] at he
    simp only [B_impl_Automaton_at_3, B_impl_Automaton_at_4, B_impl_Automaton_at_5, B_impl_Automaton_at_8, decide_eq_false hlt, go_sem, adopt_fun, Int.reduceLT, Int.reduceLE, Int.reduceToNat, Int.reduceNeg, Nat.reduceLT, Nat.reduceLeDiff, Nat.reduceMul, Nat.reduceSub, reduceIte, Nat.reduceEqDiff, Nat.reduceAdd, reduceCtorEq]
    rw [← he]; rfl

theorem k_action (n : Int) (next : List (List Int)) (w : List Int) (A : Aut n next) (hw : IsW next.length w) : RowI Try.prog n_impl_Automaton_action [autA n next, .ro none 1 (ints w)] (fun xs => xs = actA n next w) := by
  refine rowI_of mixed c_impl_Automaton_action rfl ?_
  simp only [A_impl_Automaton_action, B_impl_Automaton_action_1, go_sem, adopt_fun, Int.reduceLT, Int.reduceLE, Int.reduceToNat, Int.reduceNeg, Nat.reduceLT, Nat.reduceLeDiff, Nat.reduceMul, Nat.reduceSub, reduceIte, Nat.reduceEqDiff, Nat.reduceAdd, reduceCtorEq]
  intro vs vs2
  have n1 := A.n1
  have n2 := A.n2
  simp only [B_impl_Automaton_action_2, B_impl_Automaton_action_3, go_sem, adopt_fun, Int.reduceLT, Int.reduceLE, Int.reduceToNat, Int.reduceNeg, Nat.reduceLT, Nat.reduceLeDiff, Nat.reduceMul, Nat.reduceSub, reduceIte, Nat.reduceEqDiff, Nat.reduceAdd, reduceCtorEq]
  refine wpD_lo (fun (_, i) => n.toNat - i) (fun (_, i) => (i : Int) ≤ n)
    (fun ((v, i) : Nat × Nat) => ⟨L .any [(1, .ro none 1 (ints w)), (2, .ptr 2 (vs 0 0) 0), (5, .own 7 v), (9, iv n), (10, iv i)], L .gone [(2, .box (vs 0 0) [iv n, .ro none 1 (rwn next)]), (7, .row v 1 true (ints ((List.range i).map fun (s : Nat) => atA next s w)))]⟩) (_, 0) (by simp; omega) (by simp only [B_impl_Automaton_action_4, go_sem, adopt_fun, Int.reduceLT, Int.reduceLE, Int.reduceToNat, Int.reduceNeg, Nat.reduceLT, Nat.reduceLeDiff, Nat.reduceMul, Nat.reduceSub, reduceIte, Nat.reduceEqDiff, Nat.reduceAdd, reduceCtorEq]; try rfl) ?_
  rintro ⟨v, i⟩ hi
  have hi : (i : Int) ≤ n := hi
  by_cases hlt : (i : Int) < n
  · have w1 : IntKind.i64.wrap ((i : Int) + 1) = ((i + 1 : Nat) : Int) := by rw [w64 (by omega)]; simp
    simp only [B_impl_Automaton_action_4, B_impl_Automaton_action_5, B_impl_Automaton_action_6, B_impl_Automaton_action_7, B_impl_Automaton_action_8, decide_eq_true hlt, go_sem, adopt_fun, Int.reduceLT, Int.reduceLE, Int.reduceToNat, Int.reduceNeg, Nat.reduceLT, Nat.reduceLeDiff, Nat.reduceMul, Nat.reduceSub, reduceIte, Nat.reduceEqDiff, Nat.reduceAdd, reduceCtorEq]
    intro vs3
    refine call_fun (k_at n next i w A (by omega) hw) qCS trivial ?_
    have hr : ((List.range i).map fun (s : Nat) => atA next s w) ++ [atA next i w] = (List.range (i + 1)).map fun (s : Nat) => atA next s w := by rw [List.range_succ, List.map_append]; rfl
    simp only [w1, go_sem, adopt_fun, Int.reduceLT, Int.reduceLE, Int.reduceToNat, Int.reduceNeg, Nat.reduceLT, Nat.reduceLeDiff, Nat.reduceMul, Nat.reduceSub, reduceIte, Nat.reduceEqDiff, Nat.reduceAdd, reduceCtorEq]
    rw [hr]
    refine ⟨⟨_, rfl, rfl⟩, by simp; omega, (_, i + 1), ?_, ?_, rfl⟩
    · show n.toNat - (i + 1) < n.toNat - i; omega
    · show ((i + 1 : Nat) : Int) ≤ n; omega
  · have : (i : Int) = n := by omega
    simp only [B_impl_Automaton_action_4, B_impl_Automaton_action_5, B_impl_Automaton_action_6, B_impl_Automaton_action_9, decide_eq_false hlt, go_sem, adopt_fun, Int.reduceLT, Int.reduceLE, Int.reduceToNat, Int.reduceNeg, Nat.reduceLT, Nat.reduceLeDiff, Nat.reduceMul, Nat.reduceSub, reduceIte, Nat.reduceEqDiff, Nat.reduceAdd, reduceCtorEq]
    have he : ((List.range i).map fun (s : Nat) => atA next s w) = actA n next w := by rw [← this]; simp [actA]
    refine ⟨7, v, actA n next w, by omega, rfl, ?_, rfl⟩
    simp only [he, go_sem, adopt_fun, Int.reduceLT, Int.reduceLE, Int.reduceToNat, Int.reduceNeg, Nat.reduceLT, Nat.reduceLeDiff, Nat.reduceMul, Nat.reduceSub, reduceIte, Nat.reduceEqDiff, Nat.reduceAdd, reduceCtorEq]
end Go.Ab
