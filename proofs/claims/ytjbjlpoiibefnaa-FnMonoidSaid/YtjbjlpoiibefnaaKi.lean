/- The actions of all words: plain laws of what is computed. Conditions: none. -/
import Derived.Test.YtjbjlpoiibefnaaKh
set_option linter.all false
namespace Go.Ab
set_option maxRecDepth 20000

theorem actA_snoc (n : Int) (next : LL) (w : List Int) (x : Nat) : actA n next (w ++ [(x : Int)]) = compA next (actA n next w) x := by
  simp [actA, compA, atA, List.foldl_append]

theorem getD_app_l {α : Type} {xs ys : List α} {k : Nat} {d : α} (h : k < xs.length) : (xs ++ ys).getD k d = xs.getD k d := by
  simp [List.getD_eq_getElem?_getD, List.getElem?_append_left h]

theorem getD_app_new {α : Type} {xs : List α} {y d : α} : (xs ++ [y]).getD xs.length d = y := by
  simp [List.getD_eq_getElem?_getD]

theorem mem_getD {α : Type} {xs : List α} {x d : α} (h : x ∈ xs) : ∃ j, j < xs.length ∧ xs.getD j d = x := by
  obtain ⟨j, hj⟩ := List.getElem?_of_mem h
  obtain ⟨h1, h2⟩ := List.getElem?_eq_some_iff.1 hj
  exact ⟨j, h1, by simp [List.getD_eq_getElem?_getD, hj]⟩

/-- What holds when the first i actions, and of the i-th one the first x letters, have been gone on with. -/
structure JI (n : Int) (next : LL) (i x : Nat) (st : LL × LL) : Prop where
  mi : MI n next st
  zero : st.1.getD 0 [] = allS n ∧ 0 < st.1.length
  act : ∀ k, k < st.1.length → st.1.getD k [] = actA n next (st.2.getD k [])
  wl : ∀ k, k < st.1.length → (st.2.getD k []).length ≤ k
  mono : ∀ j k, j ≤ k → k < st.1.length → (st.2.getD j []).length ≤ (st.2.getD k []).length
  lev : ∀ k, k < st.1.length → i < st.1.length → (st.2.getD k []).length ≤ (st.2.getD i []).length + 1
  clo : ∀ k y, (k < i ∨ (k = i ∧ y < x)) → k < st.1.length → y < next.length → ∃ j, j < st.1.length ∧ st.1.getD j [] = compA next (st.1.getD k []) y ∧ (st.2.getD j []).length ≤ (st.2.getD k []).length + 1

theorem JI.step {n : Int} {next : LL} (A : Aut n next) {i x : Nat} {st : LL × LL} (h : JI n next i x st) (hi : i < st.1.length) (hx : x < next.length) : JI n next i (x + 1) (mstep next i x st) := by
  have hlen := h.mi.len
  by_cases hin : compA next (st.1.getD i []) x ∈ st.1
  · have e : mstep next i x st = st := by rw [mstep, if_pos hin]
    rw [e]
    refine ⟨h.mi, h.zero, h.act, h.wl, h.mono, h.lev, fun k y hk hkl hy => ?_⟩
    by_cases hky : k < i ∨ (k = i ∧ y < x)
    · exact h.clo k y hky hkl hy
    · have h1 : k = i ∧ y = x := by omega
      obtain ⟨rfl, rfl⟩ := h1
      obtain ⟨j, h1, h2⟩ := mem_getD (d := []) hin
      exact ⟨j, h1, h2, h.lev j h1 hi⟩
  · have e : mstep next i x st = (st.1 ++ [compA next (st.1.getD i []) x], st.2 ++ [st.2.getD i [] ++ [(x : Int)]]) := by rw [mstep, if_neg hin]
    have hm := h.mi.step A hi hx
    rw [e] at hm ⊢
    have o1 : ∀ k, k < st.1.length → (st.1 ++ [compA next (st.1.getD i []) x]).getD k [] = st.1.getD k [] := fun k hk => getD_app_l hk
    have o2 : ∀ k, k < st.1.length → (st.2 ++ [st.2.getD i [] ++ [(x : Int)]]).getD k [] = st.2.getD k [] := fun k hk => getD_app_l (by omega)
    have n1 : (st.1 ++ [compA next (st.1.getD i []) x]).getD st.1.length [] = compA next (st.1.getD i []) x := getD_app_new
    have n2 : (st.2 ++ [st.2.getD i [] ++ [(x : Int)]]).getD st.1.length [] = st.2.getD i [] ++ [(x : Int)] := by rw [hlen]; exact getD_app_new
    have hl : (st.1 ++ [compA next (st.1.getD i []) x]).length = st.1.length + 1 := by simp
    refine ⟨hm, ?_, ?_, ?_, ?_, ?_, ?_⟩
    · show (st.1 ++ _).getD 0 [] = _ ∧ 0 < (st.1 ++ _).length
      rw [o1 0 h.zero.2, hl]
      exact ⟨h.zero.1, by omega⟩
    · intro k hk
      have hk : k < (st.1 ++ [compA next (st.1.getD i []) x]).length := hk
      show (st.1 ++ _).getD k [] = actA n next ((st.2 ++ _).getD k [])
      by_cases e1 : k < st.1.length
      · rw [o1 k e1, o2 k e1]; exact h.act k e1
      · have : k = st.1.length := by omega
        subst this
        rw [n1, n2, actA_snoc, ← h.act i hi]
    · intro k hk
      have hk : k < (st.1 ++ [compA next (st.1.getD i []) x]).length := hk
      show ((st.2 ++ _).getD k []).length ≤ k
      by_cases e1 : k < st.1.length
      · rw [o2 k e1]; exact h.wl k e1
      · have : k = st.1.length := by omega
        subst this
        have := h.wl i hi
        rw [n2]; simp only [List.length_append, List.length_singleton]; omega
    · intro j k hjk hk
      have hk : k < (st.1 ++ [compA next (st.1.getD i []) x]).length := hk
      show ((st.2 ++ _).getD j []).length ≤ ((st.2 ++ _).getD k []).length
      by_cases e1 : k < st.1.length
      · rw [o2 k e1, o2 j (by omega)]; exact h.mono j k hjk e1
      · have : k = st.1.length := by omega
        subst this
        by_cases e2 : j < st.1.length
        · rw [o2 j e2, n2]
          have := h.lev j e2 hi
          simp only [List.length_append, List.length_singleton]; omega
        · have : j = st.1.length := by omega
          subst this
          exact Nat.le_refl _
    · intro k hk _
      have hk : k < (st.1 ++ [compA next (st.1.getD i []) x]).length := hk
      show ((st.2 ++ _).getD k []).length ≤ ((st.2 ++ _).getD i []).length + 1
      rw [o2 i hi]
      by_cases e1 : k < st.1.length
      · rw [o2 k e1]; exact h.lev k e1 hi
      · have : k = st.1.length := by omega
        subst this
        rw [n2]; simp
    · intro k y hk hkl hy
      have hkl : k < (st.1 ++ [compA next (st.1.getD i []) x]).length := hkl
      have hkl2 : k < st.1.length := by omega
      show ∃ j, j < (st.1 ++ _).length ∧ (st.1 ++ _).getD j [] = compA next ((st.1 ++ _).getD k []) y ∧ ((st.2 ++ _).getD j []).length ≤ ((st.2 ++ _).getD k []).length + 1
      rw [o1 k hkl2, o2 k hkl2]
      by_cases hky : k < i ∨ (k = i ∧ y < x)
      · obtain ⟨j, h1, h2, h3⟩ := h.clo k y hky hkl2 hy
        exact ⟨j, by omega, by rw [o1 j h1]; exact h2, by rw [o2 j h1]; exact h3⟩
      · have h1 : k = i ∧ y = x := by omega
        obtain ⟨rfl, rfl⟩ := h1
        exact ⟨st.1.length, by omega, n1, by rw [n2]; simp⟩

theorem JI.mrow {n : Int} {next : LL} (A : Aut n next) {i : Nat} {st : LL × LL} (h : JI n next i 0 st) (hi : i < st.1.length) : ∀ x, x ≤ next.length → JI n next i x (mrow next i st x)
  | 0, _ => h
  | x + 1, hx => by
    rw [mrow_succ]
    exact (JI.mrow A h hi x (by omega)).step A (by have := (mrow_len (next := next) (i := i) (st := st) x).1; omega) (by omega)

theorem JI.next {n : Int} {next : LL} {i : Nat} {st : LL × LL} (h : JI n next i next.length st) : JI n next (i + 1) 0 st := by
  refine ⟨h.mi, h.zero, h.act, h.wl, h.mono, fun k hk hi => ?_, fun k y hk hkl hy => ?_⟩
  · have h1 := h.lev k hk (by omega)
    have h2 := h.mono i (i + 1) (by omega) hi
    omega
  · exact h.clo k y (by omega) hkl hy

/-- What holds at the end. -/
theorem JI.run {n : Int} {next : LL} (A : Aut n next) : ∀ (f i : Nat) (st : LL × LL), JI n next i 0 st → (mrun next f i st).2 = true →
    JI n next (mrun next f i st).1.1.length 0 (mrun next f i st).1 ∧ (mrun next f i st).1.1.length ≤ max 400 st.1.length
  | 0, i, st, _, hok => by simp [mrun] at hok
  | f + 1, i, st, h, hok => by
    simp only [mrun] at hok ⊢
    by_cases hi : i < st.1.length
    · rw [if_pos hi] at hok ⊢
      by_cases hb : 400 < (Ab.mrow next i st next.length).1.length
      · rw [if_pos hb] at hok; cases hok
      · rw [if_neg hb] at hok ⊢
        have h2 := JI.run A f (i + 1) _ (h.mrow A hi next.length (Nat.le_refl _)).next hok
        exact ⟨h2.1, by have := h2.2; omega⟩
    · rw [if_neg hi]
      show JI n next st.1.length 0 st ∧ st.1.length ≤ _
      refine ⟨⟨h.mi, h.zero, h.act, h.wl, h.mono, fun k hk hl => absurd hl (Nat.lt_irrefl _), fun k y hk hkl hy => h.clo k y (by omega) hkl hy⟩, by omega⟩

theorem JI0 {n : Int} {next : LL} (A : Aut n next) : JI n next 0 0 (st0 n) := by
  refine ⟨MI0 A, ⟨rfl, by simp [st0]⟩, ?_, ?_, ?_, ?_, ?_⟩
  · intro k hk
    have : k = 0 := by simpa [st0] using hk
    subst this; rfl
  · intro k hk
    have : k = 0 := by simpa [st0] using hk
    subst this; simp [st0]
  · intro j k hj hk
    have : k = 0 := by simpa [st0] using hk
    subst this
    have : j = 0 := by omega
    subst this; exact Nat.le_refl _
  · intro k hk _
    have : k = 0 := by simpa [st0] using hk
    subst this; omega
  · intro k y hk; omega

/-- Each word has its action there, with a word that is not longer. -/
theorem JI.all {n : Int} {next : LL} {st : LL × LL} (h : JI n next st.1.length 0 st) : ∀ (m : Nat) (w : List Int), w.length = m → IsW next.length w → ∃ k, k < st.1.length ∧ st.1.getD k [] = actA n next w ∧ (st.2.getD k []).length ≤ w.length
  | 0, w, hm, _ => by
    have : w = [] := List.eq_nil_of_length_eq_zero hm
    subst this
    exact ⟨0, h.zero.2, h.zero.1, h.wl 0 h.zero.2⟩
  | m + 1, w, hm, hw => by
    rcases List.eq_nil_or_concat w with rfl | ⟨u, x, rfl⟩
    · simp at hm
    · have hx := hw x (by simp)
      obtain ⟨k, h1, h2, h3⟩ := JI.all h m u (by simpa using hm) fun y hy => hw y (by simp [hy])
      obtain ⟨j, h4, h5, h6⟩ := h.clo k x.toNat (.inl h1) h1 (by omega)
      refine ⟨j, h4, ?_, by first | (rw [List.length_concat]; omega) | (rw [List.length_append, List.length_singleton]; omega)⟩
      have : x = (x.toNat : Int) := by omega
      rw [h5, h2, ← actA_snoc, ← this]
      simp

end Go.Ab
