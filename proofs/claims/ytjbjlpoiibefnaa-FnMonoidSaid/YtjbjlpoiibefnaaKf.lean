/- The actions of all words: what is computed, and the reference's computation. Conditions: none. -/
import Derived.Test.YtjbjlpoiibefnaaKe
set_option linter.all false
namespace Go.Ab
open Go.Proofs
set_option maxRecDepth 20000
set_option maxHeartbeats 4000000
set_option linter.unusedSimpArgs false

abbrev LL := List (List Int)

/-- A letter behind an action. -/
def compA (next : LL) (row : List Int) (x : Nat) : List Int := row.map fun s => stepA next s x

def mstep (next : LL) (i x : Nat) (st : LL × LL) : LL × LL :=
  if compA next (st.1.getD i []) x ∈ st.1 then st else (st.1 ++ [compA next (st.1.getD i []) x], st.2 ++ [st.2.getD i [] ++ [(x : Int)]])

def mrow (next : LL) (i : Nat) (st : LL × LL) (k : Nat) : LL × LL := (List.range k).foldl (fun st x => mstep next i x st) st

theorem mrow_succ (next : LL) (i : Nat) (st : LL × LL) (k : Nat) : mrow next i st (k + 1) = mstep next i k (mrow next i st k) := by
  simp [mrow, List.range_succ, List.foldl_append]

def mrun (next : LL) : Nat → Nat → LL × LL → (LL × LL) × Bool
  | 0, _, st => (st, false)
  | f + 1, i, st => if i < st.1.length then (if 400 < (mrow next i st next.length).1.length then (mrow next i st next.length, false) else mrun next f (i + 1) (mrow next i st next.length)) else (st, true)

/-- What always holds. -/
structure MI (n : Int) (next : LL) (st : LL × LL) : Prop where
  len : st.1.length = st.2.length
  row : ∀ row ∈ st.1, (row.length : Int) = n ∧ ∀ x ∈ row, 0 ≤ x ∧ x < n
  word : ∀ w ∈ st.2, w.length ≤ st.2.length ∧ IsW next.length w

theorem compA_ok {n : Int} {next : LL} (A : Aut n next) {row : List Int} (h : (row.length : Int) = n ∧ ∀ x ∈ row, 0 ≤ x ∧ x < n) {x : Nat} (hx : x < next.length) :
    ((compA next row x).length : Int) = n ∧ ∀ y ∈ compA next row x, 0 ≤ y ∧ y < n := by
  refine ⟨by simp [compA, h.1], fun y hy => ?_⟩
  simp only [compA, List.mem_map] at hy
  obtain ⟨s, hs, rfl⟩ := hy
  exact (A.step (h.2 s hs) (l := x) (by omega)).2.2

theorem MI.step {n : Int} {next : LL} (A : Aut n next) {st : LL × LL} (h : MI n next st) {i x : Nat} (hi : i < st.1.length) (hx : x < next.length) : MI n next (mstep next i x st) := by
  unfold mstep
  split
  · exact h
  · have hi2 : i < st.2.length := by have := h.len; omega
    refine ⟨by simp [h.len], fun row hr => ?_, fun w hw => ?_⟩
    · simp only [List.mem_append, List.mem_singleton] at hr
      rcases hr with hr | rfl
      · exact h.row row hr
      · exact compA_ok A (h.row _ (getD_mem hi [])) hx
    · simp only [List.mem_append, List.mem_singleton] at hw
      simp only [List.length_append, List.length_singleton]
      rcases hw with hw | rfl
      · have := h.word w hw
        exact ⟨by omega, this.2⟩
      · have := h.word _ (getD_mem hi2 [])
        refine ⟨by simp only [List.length_append, List.length_singleton]; omega, fun y hy => ?_⟩
        simp only [List.mem_append, List.mem_singleton] at hy
        rcases hy with hy | rfl
        · exact this.2 y hy
        · omega

theorem mstep_len {next : LL} {i x : Nat} {st : LL × LL} : st.1.length ≤ (mstep next i x st).1.length ∧ (mstep next i x st).1.length ≤ st.1.length + 1 := by
  unfold mstep; split <;> simp

theorem mrow_len {next : LL} {i : Nat} {st : LL × LL} : ∀ k, st.1.length ≤ (mrow next i st k).1.length ∧ (mrow next i st k).1.length ≤ st.1.length + k
  | 0 => by simp [mrow]
  | k + 1 => by
    have h1 := mrow_len (next := next) (i := i) (st := st) k
    have h2 := mstep_len (next := next) (i := i) (x := k) (st := mrow next i st k)
    rw [mrow_succ]; omega

theorem MI.mrow {n : Int} {next : LL} (A : Aut n next) {st : LL × LL} (h : MI n next st) {i : Nat} (hi : i < st.1.length) : ∀ k, k ≤ next.length → MI n next (mrow next i st k)
  | 0, _ => h
  | k + 1, hk => by
    rw [mrow_succ]
    exact MI.step A (MI.mrow A h hi k (by omega)) (by have := (mrow_len (next := next) (i := i) (st := st) k).1; omega) (by omega)

def st0 (n : Int) : LL × LL := ([allS n], [[]])

theorem MI0 {n : Int} {next : LL} (A : Aut n next) : MI n next (st0 n) := by
  refine ⟨rfl, ?_, ?_⟩
  · intro row hr
    simp only [st0, List.mem_singleton] at hr
    subst hr
    have := A.n1
    refine ⟨by simp [allS]; omega, fun x hx => ?_⟩
    simp only [allS, List.mem_map, List.mem_range] at hx
    obtain ⟨s, hs, rfl⟩ := hx
    omega
  · intro w hw
    simp only [st0, List.mem_singleton] at hw
    subst hw
    exact ⟨by simp, by simp [IsW]⟩

/-- Two new rows of rows and a bit. -/
def MonR (r : (LL × LL) × Bool) (rows : List AObj) (res : AVal) : Prop := ∃ v w, rows = [.row v 1 true (rws r.1.1), .row w 1 true (rws r.1.2)] ∧ res = .tup [.own 6000 v, .own 6001 w, bv r.2]

theorem fidx_lt (x : List Int) : ∀ (xs : LL) (i : Nat), decide (fidx (fun y => decide (y = x)) xs i < 0) = decide (x ∉ xs)
  | [], i => by simp [fidx]
  | y :: xs, i => by
    have h := fidx_lt x xs (i + 1)
    simp only [fidx]
    by_cases hy : y = x
    · have : x ∈ y :: xs := by simp [hy]
      simp [hy]
    · have : (x ∉ y :: xs) ↔ (x ∉ xs) := by simp [Ne.symm hy]
      simp only [hy, decide_false, Bool.false_eq_true, if_false, h]
      exact decide_eq_decide.2 this.symm

theorem k_l01Monoid (F : Nat) (hF : 600 ≤ F) (n : Int) (next : LL) (A : Aut n next) : Fn Try.prog n_spec_l01Monoid [autP n next] (MonR (mrun next F 0 (st0 n))) := by
  refine con_of mixed c_spec_l01Monoid rfl (by simp) ?_
  have hn1 := A.n1
  have hn2 := A.n2
  have hl1 := A.l1
  have hl2 := A.l2
  generalize hQ : finQ _ = Q
  simp only [A_spec_l01Monoid, B_spec_l01Monoid_1, go_sem, adopt_fun, Int.reduceLT, Int.reduceLE, Int.reduceToNat, Int.reduceNeg, Nat.reduceLT, Nat.reduceLeDiff, Nat.reduceMul, Nat.reduceSub, reduceIte, Nat.reduceEqDiff, Nat.reduceAdd, reduceCtorEq]
  intro vs
  refine call_rowI (k_l01All n (by omega)) (by simp only [rowIs, boxIs, coe_argN, coeL_nil, coeL_cons, coe_any, coe_val, coe_ro, coe_ro_nil, coe_ro_own, coe_st, coe_st_agg, coe_rp, coe_rp_ptr, coe_clo, coe_own0, coe_ptr0, coeL_intsK, coeL_rws, coeL_rwn, L_hit, L_miss, L_nil, Nat.reduceEqDiff, ne_eq, reduceCtorEq, not_false_eq_true, true_and, and_true, and_self, exists_eq_left, exists_eq_right, List.mem_cons, List.not_mem_nil, or_false, AObj.row.injEq, AObj.box.injEq, exists_eq_left', exists_and_left, exists_eq, Nat.zero_lt_one, Nat.lt_add_one, List.map_cons, List.map_nil, AObj.ver, Nat.reduceLT, not_true_eq_false]) (by simp only [go_sem, adopt_fun, Int.reduceLT, Int.reduceLE, Int.reduceToNat, Int.reduceNeg, Nat.reduceLT, Nat.reduceLeDiff, Nat.reduceMul, Nat.reduceSub, reduceIte, Nat.reduceEqDiff, Nat.reduceAdd, reduceCtorEq]) ⟨_, rfl⟩ ?_
  rintro xs v rfl
  simp only [go_sem, adopt_fun, Int.reduceLT, Int.reduceLE, Int.reduceToNat, Int.reduceNeg, Nat.reduceLT, Nat.reduceLeDiff, Nat.reduceMul, Nat.reduceSub, reduceIte, Nat.reduceEqDiff, Nat.reduceAdd, reduceCtorEq]
  simp only [B_spec_l01Monoid_2, B_spec_l01Monoid_3, B_spec_l01Monoid_4, go_sem, adopt_fun, Int.reduceLT, Int.reduceLE, Int.reduceToNat, Int.reduceNeg, Nat.reduceLT, Nat.reduceLeDiff, Nat.reduceMul, Nat.reduceSub, reduceIte, Nat.reduceEqDiff, Nat.reduceAdd, reduceCtorEq]
  intro vs2
  refine wpD_lo (fun (_, _, i, _) => F - i)
    (fun (_, _, i, st) => MI n next st ∧ i ≤ st.1.length ∧ st.1.length ≤ 400 ∧ mrun next (F - i) i st = mrun next F 0 (st0 n))
    (fun ((va, vw, i, st) : Nat × Nat × Nat × (LL × LL)) => ⟨L .any [(0, autP n next), (5, .own 16 va), (6, .own 18 vw), (7, iv i)], L .gone [(16, .row va 1 true (rws st.1)), (18, .row vw 1 true (rws st.2))]⟩)
    (_, _, 0, st0 n) ⟨MI0 A, by simp [st0], by simp [st0], rfl⟩ (by simp only [B_spec_l01Monoid_5, go_sem, adopt_fun, Int.reduceLT, Int.reduceLE, Int.reduceToNat, Int.reduceNeg, Nat.reduceLT, Nat.reduceLeDiff, Nat.reduceMul, Nat.reduceSub, reduceIte, Nat.reduceEqDiff, Nat.reduceAdd, reduceCtorEq]; try rfl) ?_
  rintro ⟨va, vw, i, st⟩ ⟨hMI, hi, h400, hrun⟩
  by_cases hlt : (i : Int) < st.1.length
  · have hlt1 : i < st.1.length := by omega
    simp only [B_spec_l01Monoid_5, B_spec_l01Monoid_6, B_spec_l01Monoid_7, B_spec_l01Monoid_8, decide_eq_true hlt, go_sem, adopt_fun, Int.reduceLT, Int.reduceLE, Int.reduceToNat, Int.reduceNeg, Nat.reduceLT, Nat.reduceLeDiff, Nat.reduceMul, Nat.reduceSub, reduceIte, Nat.reduceEqDiff, Nat.reduceAdd, reduceCtorEq]
    intro hM
    refine wpD_lo (fun (_, _, x, _) => next.length - x)
      (fun (_, _, x, st') => x ≤ next.length ∧ st' = mrow next i st x)
      (fun ((va, vw, x, st') : Nat × Nat × Nat × (LL × LL)) => ⟨L .any [(0, autP n next), (5, .own 16 va), (6, .own 18 vw), (7, iv i), (8, iv x)], L .gone [(16, .row va 1 true (rws st'.1)), (18, .row vw 1 true (rws st'.2))]⟩)
      (va, vw, 0, st) ⟨by simp, rfl⟩ (by simp only [B_spec_l01Monoid_9, go_sem, adopt_fun, Int.reduceLT, Int.reduceLE, Int.reduceToNat, Int.reduceNeg, Nat.reduceLT, Nat.reduceLeDiff, Nat.reduceMul, Nat.reduceSub, reduceIte, Nat.reduceEqDiff, Nat.reduceAdd, reduceCtorEq]; try rfl) ?_
    rintro ⟨va, vw, x, st'⟩ ⟨hx, rfl⟩
    have hMI' := hMI.mrow A hlt1 x hx
    have hlen := mrow_len (next := next) (i := i) (st := st) x
    generalize hst' : mrow next i st x = st' at hMI' hlen ⊢
    have hi' : i < st'.1.length := by omega
    have hi2 : i < st'.2.length := by have := hMI'.len; omega
    by_cases hxl : (x : Int) < next.length
    · have hxl1 : x < next.length := by omega
      have hrow := hMI'.row _ (getD_mem hi' [])
      have hrx := A.row _ (getD_mem hxl1 [])
      simp only [B_spec_l01Monoid_9, B_spec_l01Monoid_10, B_spec_l01Monoid_11, decide_eq_true hxl, go_sem, adopt_fun, Int.reduceLT, Int.reduceLE, Int.reduceToNat, Int.reduceNeg, Nat.reduceLT, Nat.reduceLeDiff, Nat.reduceMul, Nat.reduceSub, reduceIte, Nat.reduceEqDiff, Nat.reduceAdd, reduceCtorEq]
      intro hM1 vs3
      simp only [B_spec_l01Monoid_12, B_spec_l01Monoid_13, go_sem, adopt_fun, Int.reduceLT, Int.reduceLE, Int.reduceToNat, Int.reduceNeg, Nat.reduceLT, Nat.reduceLeDiff, Nat.reduceMul, Nat.reduceSub, reduceIte, Nat.reduceEqDiff, Nat.reduceAdd, reduceCtorEq]
      -- the action behind the letter
      refine wpD_lo (fun (_, k) => List.length (st'.1.getD i []) - k)
        (fun (_, k) => k ≤ List.length (st'.1.getD i []))
        (fun ((v, k) : Nat × Nat) => ⟨L .any [(0, autP n next), (5, .own 16 va), (6, .own 18 vw), (7, iv i), (8, iv x), (9, .own 34 v), (10, iv k)], L .gone [(16, .row va 1 true (rws st'.1)), (18, .row vw 1 true (rws st'.2)), (34, .row v 1 true (ints (compA next ((st'.1.getD i []).take k) x)))]⟩)
        (_, 0) (by simp) (by simp only [B_spec_l01Monoid_14, go_sem, adopt_fun, Int.reduceLT, Int.reduceLE, Int.reduceToNat, Int.reduceNeg, Nat.reduceLT, Nat.reduceLeDiff, Nat.reduceMul, Nat.reduceSub, reduceIte, Nat.reduceEqDiff, Nat.reduceAdd, reduceCtorEq]; try rfl) ?_
      rintro ⟨v, k⟩ hk
      have hk : k ≤ (st'.1.getD i []).length := hk
      by_cases hkl : (k : Int) < (st'.1.getD i []).length
      · have hkl1 : k < (st'.1.getD i []).length := by omega
        have hs := hrow.2 _ (getD_mem hkl1 0)
        obtain ⟨a1, a2, a3⟩ := A.step hs (l := x) (by omega)
        have hc : compA next ((st'.1.getD i []).take k) x ++ [((next.getD x []).getD ((st'.1.getD i []).getD k 0).toNat 0)] = compA next ((st'.1.getD i []).take (k + 1)) x := by
          rw [List.take_add_one, compA, compA, List.map_append, List.getD_eq_getElem?_getD (l := st'.1.getD i []), List.getElem?_eq_getElem hkl1]; rfl
        simp only [B_spec_l01Monoid_14, B_spec_l01Monoid_15, B_spec_l01Monoid_16, rws_getD hi', rwn_getD hxl1, intsK_getD hkl1, intsK_getD (show ((st'.1.getD i []).getD k 0).toNat < (next.getD x []).length from a2), decide_eq_true hkl, go_sem, adopt_fun, Int.reduceLT, Int.reduceLE, Int.reduceToNat, Int.reduceNeg, Nat.reduceLT, Nat.reduceLeDiff, Nat.reduceMul, Nat.reduceSub, reduceIte, Nat.reduceEqDiff, Nat.reduceAdd, reduceCtorEq]
        refine ⟨⟨by omega, by omega⟩, by omega, fun hM2 vs4 => ?_⟩
        have hM3 := maxLen_le
        have w1 : IntKind.i64.wrap ((k : Int) + 1) = ((k + 1 : Nat) : Int) := by rw [w64 (by omega)]; simp
        refine ⟨⟨by omega, hxl1⟩, hxl1, ⟨by omega, by omega⟩, by omega, ⟨by omega, hkl1⟩, hkl1, ⟨hs.1, a2⟩, a2, ⟨_, rfl, rfl⟩, ?_, ?_⟩
        · simp [compA]; omega
        · simp only [B_spec_l01Monoid_17, w1, hc, go_sem, adopt_fun, Int.reduceLT, Int.reduceLE, Int.reduceToNat, Int.reduceNeg, Nat.reduceLT, Nat.reduceLeDiff, Nat.reduceMul, Nat.reduceSub, reduceIte, Nat.reduceEqDiff, Nat.reduceAdd, reduceCtorEq]
          refine ⟨(_, k + 1), ?_, ?_, rfl⟩
          · show _ - (k + 1) < _ - k; omega
          · show k + 1 ≤ _; omega
      · have : k = (st'.1.getD i []).length := by omega
        subst this
        simp only [B_spec_l01Monoid_14, B_spec_l01Monoid_15, B_spec_l01Monoid_16, rws_getD hi', List.take_length, decide_eq_false hkl, go_sem, adopt_fun, Int.reduceLT, Int.reduceLE, Int.reduceToNat, Int.reduceNeg, Nat.reduceLT, Nat.reduceLeDiff, Nat.reduceMul, Nat.reduceSub, reduceIte, Nat.reduceEqDiff, Nat.reduceAdd, reduceCtorEq]
        refine ⟨⟨by omega, by omega⟩, by omega, fun hM2 => ?_⟩
        simp only [B_spec_l01Monoid_18, go_sem, adopt_fun, Int.reduceLT, Int.reduceLE, Int.reduceToNat, Int.reduceNeg, Nat.reduceLT, Nat.reduceLeDiff, Nat.reduceMul, Nat.reduceSub, reduceIte, Nat.reduceEqDiff, Nat.reduceAdd, reduceCtorEq]
        intro vs4
        refine call_fun (k_l01Find st'.1 (compA next (st'.1.getD i []) x)) (by simp only [rowIs, boxIs, coe_argN, coeL_nil, coeL_cons, coe_any, coe_val, coe_ro, coe_ro_nil, coe_ro_own, coe_st, coe_st_agg, coe_rp, coe_rp_ptr, coe_clo, coe_own0, coe_ptr0, coeL_intsK, coeL_rws, coeL_rwn, L_hit, L_miss, L_nil, Nat.reduceEqDiff, ne_eq, reduceCtorEq, not_false_eq_true, true_and, and_true, and_self, exists_eq_left, exists_eq_right, List.mem_cons, List.not_mem_nil, or_false, AObj.row.injEq, AObj.box.injEq, exists_eq_left', exists_and_left, exists_eq, Nat.zero_lt_one, Nat.lt_add_one, List.map_cons, List.map_nil, AObj.ver, Nat.reduceLT, not_true_eq_false]) trivial ?_
        have w1 : IntKind.i64.wrap ((x : Int) + 1) = ((x + 1 : Nat) : Int) := by rw [w64 (by omega)]; simp
        simp only [fidx_lt, B_spec_l01Monoid_19, go_sem, adopt_fun, Int.reduceLT, Int.reduceLE, Int.reduceToNat, Int.reduceNeg, Nat.reduceLT, Nat.reduceLeDiff, Nat.reduceMul, Nat.reduceSub, reduceIte, Nat.reduceEqDiff, Nat.reduceAdd, reduceCtorEq]
        refine ⟨fun hnin vs5 => ?_, fun hin => ?_⟩
        · have hnin : compA next (st'.1.getD i []) x ∉ st'.1 := by simpa using hnin
          have hstep : mrow next i st (x + 1) = (st'.1 ++ [compA next (st'.1.getD i []) x], st'.2 ++ [st'.2.getD i [] ++ [(x : Int)]]) := by
            rw [mrow_succ, hst', mstep, if_neg hnin]
          have hwl := (hMI'.word _ (getD_mem hi2 [])).1
          have hl' := hMI'.len
          refine ⟨by omega, ?_⟩
          simp only [B_spec_l01Monoid_20, rws_getD hi2, go_sem, adopt_fun, Int.reduceLT, Int.reduceLE, Int.reduceToNat, Int.reduceNeg, Nat.reduceLT, Nat.reduceLeDiff, Nat.reduceMul, Nat.reduceSub, reduceIte, Nat.reduceEqDiff, Nat.reduceAdd, reduceCtorEq]
          intro vs6
          refine ⟨⟨by omega, hi2⟩, hi2, ?_⟩
          refine call_rowI (k_l00Own (st'.2.getD i []) (by omega)) (by simp only [rowIs, boxIs, coe_argN, coeL_nil, coeL_cons, coe_any, coe_val, coe_ro, coe_ro_nil, coe_ro_own, coe_st, coe_st_agg, coe_rp, coe_rp_ptr, coe_clo, coe_own0, coe_ptr0, coeL_intsK, coeL_rws, coeL_rwn, L_hit, L_miss, L_nil, Nat.reduceEqDiff, ne_eq, reduceCtorEq, not_false_eq_true, true_and, and_true, and_self, exists_eq_left, exists_eq_right, List.mem_cons, List.not_mem_nil, or_false, AObj.row.injEq, AObj.box.injEq, exists_eq_left', exists_and_left, exists_eq, Nat.zero_lt_one, Nat.lt_add_one, List.map_cons, List.map_nil, AObj.ver, Nat.reduceLT, not_true_eq_false]) (by first | rfl | simp only [go_sem, adopt_fun, Int.reduceLT, Int.reduceLE, Int.reduceToNat, Int.reduceNeg, Nat.reduceLT, Nat.reduceLeDiff, Nat.reduceMul, Nat.reduceSub, reduceIte, Nat.reduceEqDiff, Nat.reduceAdd, reduceCtorEq]) ⟨_, rfl⟩ ?_
          rintro xs v7 rfl
          simp only [go_sem, adopt_fun, Int.reduceLT, Int.reduceLE, Int.reduceToNat, Int.reduceNeg, Nat.reduceLT, Nat.reduceLeDiff, Nat.reduceMul, Nat.reduceSub, reduceIte, Nat.reduceEqDiff, Nat.reduceAdd, reduceCtorEq]
          refine ⟨⟨_, rfl, rfl⟩, by omega, by omega, ?_⟩
          simp only [B_spec_l01Monoid_21, w1, go_sem, adopt_fun, Int.reduceLT, Int.reduceLE, Int.reduceToNat, Int.reduceNeg, Nat.reduceLT, Nat.reduceLeDiff, Nat.reduceMul, Nat.reduceSub, reduceIte, Nat.reduceEqDiff, Nat.reduceAdd, reduceCtorEq]
          refine ⟨(_, _, x + 1, _), ?_, ⟨?_, hstep.symm⟩, rfl⟩
          · show _ - (x + 1) < _ - x; omega
          · show x + 1 ≤ _; omega
        · have hin : compA next (st'.1.getD i []) x ∈ st'.1 := by simpa using hin
          have hstep : mrow next i st (x + 1) = st' := by rw [mrow_succ, hst', mstep, if_pos hin]
          simp only [B_spec_l01Monoid_21, w1, go_sem, adopt_fun, Int.reduceLT, Int.reduceLE, Int.reduceToNat, Int.reduceNeg, Nat.reduceLT, Nat.reduceLeDiff, Nat.reduceMul, Nat.reduceSub, reduceIte, Nat.reduceEqDiff, Nat.reduceAdd, reduceCtorEq]
          refine ⟨(_, _, x + 1, _), ?_, ⟨?_, hstep.symm⟩, rfl⟩
          · show _ - (x + 1) < _ - x; omega
          · show x + 1 ≤ _; omega
    · have : x = next.length := by omega
      subst this
      simp only [B_spec_l01Monoid_9, B_spec_l01Monoid_10, B_spec_l01Monoid_11, decide_eq_false hxl, go_sem, adopt_fun, Int.reduceLT, Int.reduceLE, Int.reduceToNat, Int.reduceNeg, Nat.reduceLT, Nat.reduceLeDiff, Nat.reduceMul, Nat.reduceSub, reduceIte, Nat.reduceEqDiff, Nat.reduceAdd, reduceCtorEq]
      intro hM1
      obtain ⟨f, hf⟩ : ∃ f, F - i = f + 1 := ⟨F - 1 - i, by omega⟩
      have hf2 : F - (i + 1) = f := by omega
      have w1 : IntKind.i64.wrap ((i : Int) + 1) = ((i + 1 : Nat) : Int) := by rw [w64 (by omega)]; simp
      rw [hf] at hrun
      simp only [mrun] at hrun
      rw [if_pos hlt1, hst'] at hrun
      by_cases hbig : (st'.1.length : Int) > 400
      · rw [if_pos (by omega)] at hrun
        simp only [B_spec_l01Monoid_22, B_spec_l01Monoid_23, B_spec_l01Monoid_24, decide_eq_true hbig, A_spec_l01Monoid, ← hQ, go_sem, adopt_fun, Int.reduceLT, Int.reduceLE, Int.reduceToNat, Int.reduceNeg, Nat.reduceLT, Nat.reduceLeDiff, Nat.reduceMul, Nat.reduceSub, reduceIte, Nat.reduceEqDiff, Nat.reduceAdd, reduceCtorEq]
        intro hM2
        refine ⟨[16, 18], by simp, by simp, by simp, ?_⟩
        simp only [← hrun, Nat.not_lt_zero, range1, ren_val, ren_any, ren_ro, ren_st, ren_tup, renL_nil, renL_cons, renL_intsK, renL_rws, renL_rwn, oren_box, oren_row, oren_map, ren_own_e0, ren_own_e1, ren_own_e2, ren_ptr_e0, ren_mp_e0, ren_mp_e1, ren_own_r0, ren_own_r1, ren_own_r2, ren_ptr_r0, ren_mp_r0, ren_mp_r1, List.range_zero, callHp_nil, callHp_one, callHp_two, gone_nil, gone_one, gone_two, AVal.fresh, freshL, fresh_intsK, fresh_rws, AObj.fresh, id, Option.isSome_some, or_true, true_or, go_sem, adopt_fun, Int.reduceLT, Int.reduceLE, Int.reduceToNat, Int.reduceNeg, Nat.reduceLT, Nat.reduceLeDiff, Nat.reduceMul, Nat.reduceSub, reduceIte, Nat.reduceEqDiff, Nat.reduceAdd, reduceCtorEq]
        exact ⟨va, vw, rfl, rfl⟩
      · rw [if_neg (by omega)] at hrun
        simp only [B_spec_l01Monoid_22, B_spec_l01Monoid_23, B_spec_l01Monoid_24, decide_eq_false hbig, w1, go_sem, adopt_fun, Int.reduceLT, Int.reduceLE, Int.reduceToNat, Int.reduceNeg, Nat.reduceLT, Nat.reduceLeDiff, Nat.reduceMul, Nat.reduceSub, reduceIte, Nat.reduceEqDiff, Nat.reduceAdd, reduceCtorEq]
        intro hM2
        refine ⟨(_, _, i + 1, st'), ?_, ⟨hMI', ?_, ?_, ?_⟩, rfl⟩
        · show F - (i + 1) < F - i; omega
        · show i + 1 ≤ st'.1.length; omega
        · show st'.1.length ≤ 400; omega
        · show mrun next (F - (i + 1)) (i + 1) st' = _
          rw [hf2]; exact hrun
  · have : i = st.1.length := by omega
    have hr : mrun next F 0 (st0 n) = (st, true) := by
      rw [← hrun]
      obtain ⟨f, hf⟩ : ∃ f, F - i = f + 1 := ⟨F - 1 - i, by omega⟩
      rw [hf]; simp only [mrun]; rw [if_neg (by omega)]
    simp only [B_spec_l01Monoid_5, B_spec_l01Monoid_6, B_spec_l01Monoid_7, decide_eq_false hlt, go_sem, adopt_fun, Int.reduceLT, Int.reduceLE, Int.reduceToNat, Int.reduceNeg, Nat.reduceLT, Nat.reduceLeDiff, Nat.reduceMul, Nat.reduceSub, reduceIte, Nat.reduceEqDiff, Nat.reduceAdd, reduceCtorEq]
    intro hM
    simp only [B_spec_l01Monoid_6, B_spec_l01Monoid_10, B_spec_l01Monoid_15, B_spec_l01Monoid_17, B_spec_l01Monoid_16, B_spec_l01Monoid_14, B_spec_l01Monoid_13, B_spec_l01Monoid_20, B_spec_l01Monoid_19, B_spec_l01Monoid_18, B_spec_l01Monoid_12, B_spec_l01Monoid_21, B_spec_l01Monoid_11, B_spec_l01Monoid_9, B_spec_l01Monoid_8, B_spec_l01Monoid_23, B_spec_l01Monoid_22, B_spec_l01Monoid_24, B_spec_l01Monoid_7, B_spec_l01Monoid_5, B_spec_l01Monoid_4, B_spec_l01Monoid_25, B_spec_l01Monoid_3, B_spec_l01Monoid_2, B_spec_l01Monoid_1, A_spec_l01Monoid, ← hQ, go_sem, adopt_fun, Int.reduceLT, Int.reduceLE, Int.reduceToNat, Int.reduceNeg, Nat.reduceLT, Nat.reduceLeDiff, Nat.reduceMul, Nat.reduceSub, reduceIte, Nat.reduceEqDiff, Nat.reduceAdd, reduceCtorEq]
    refine ⟨[16, 18], by simp, by simp, by simp, ?_⟩
    simp only [hr, Nat.not_lt_zero, range1, ren_val, ren_any, ren_ro, ren_st, ren_tup, renL_nil, renL_cons, renL_intsK, renL_rws, renL_rwn, oren_box, oren_row, oren_map, ren_own_e0, ren_own_e1, ren_own_e2, ren_ptr_e0, ren_mp_e0, ren_mp_e1, ren_own_r0, ren_own_r1, ren_own_r2, ren_ptr_r0, ren_mp_r0, ren_mp_r1, List.range_zero, callHp_nil, callHp_one, callHp_two, gone_nil, gone_one, gone_two, AVal.fresh, freshL, fresh_intsK, fresh_rws, AObj.fresh, id, Option.isSome_some, or_true, true_or, go_sem, adopt_fun, Int.reduceLT, Int.reduceLE, Int.reduceToNat, Int.reduceNeg, Nat.reduceLT, Nat.reduceLeDiff, Nat.reduceMul, Nat.reduceSub, reduceIte, Nat.reduceEqDiff, Nat.reduceAdd, reduceCtorEq]
    exact ⟨va, vw, rfl, rfl⟩
end Go.Ab
