/- Reduced and trimmed machines, purely. Conditions: none. -/
import Derived.Test.YtoadopegbnmfkaaMm
import Derived.Test.YtoadopegbnmfkaaPi
set_option linter.all false
namespace Go.Ab
set_option maxRecDepth 20000

/-! The machine of some states. -/
def selN (to order row : List Int) : List Int := order.map fun s => to.getD (row.getD s.toNat 0).toNat 0
def selO (order row : List Int) : List Int := order.map fun s => row.getD s.toNat 0

theorem memg {α : Type} {xs : List α} {x d : α} (h : x ∈ xs) : ∃ j, j < xs.length ∧ xs.getD j d = x := by
  obtain ⟨j, hj⟩ := List.getElem?_of_mem h
  obtain ⟨h1, h2⟩ := List.getElem?_eq_some_iff.1 hj
  exact ⟨j, h1, by simp [List.getD_eq_getElem?_getD, hj]⟩
theorem appg_new {α : Type} {xs : List α} {y d : α} : (xs ++ [y]).getD xs.length d = y := by
  simp [List.getD_eq_getElem?_getD]
theorem step_rg {n : Int} {next : List (List Int)} (A : Aut n next) {s x : Int} (hs : 0 ≤ s ∧ s < n) (hx : 0 ≤ x ∧ x < next.length) : 0 ≤ stepA next s x ∧ stepA next s x < n := by
  have r := A.row _ (getD_mem (show x.toNat < next.length by omega) [])
  exact r.2 _ (getD_mem (show s.toNat < (next.getD x.toNat []).length by omega) 0)

theorem mach_sel {n o : Int} {next out : List (List Int)} (M : Mach n o next out) {to order : List Int} (ho : ∀ s ∈ order, 0 ≤ s ∧ s < n) (hl : 1 ≤ order.length ∧ order.length ≤ 10) (htl : (to.length : Int) = n)
    (ht : ∀ s ∈ order, ∀ x, 0 ≤ x ∧ x < (next.length : Int) → 0 ≤ to.getD (stepA next s x).toNat 0 ∧ to.getD (stepA next s x).toNat 0 < order.length) : Mach order.length o (next.map (selN to order)) (out.map (selO order)) where
  aut := {
    n1 := by omega
    n2 := by omega
    l1 := by rw [List.length_map]; exact M.aut.l1
    l2 := by rw [List.length_map]; exact M.aut.l2
    row := fun row hr => by
      obtain ⟨r, hr2, rfl⟩ := List.mem_map.1 hr
      obtain ⟨k, hk, hke⟩ := memg (d := []) hr2
      refine ⟨by simp [selN], fun x hx => ?_⟩
      obtain ⟨s, hs, rfl⟩ := List.mem_map.1 hx
      have := ht s hs (k : Int) ⟨by omega, by omega⟩
      simp only [stepA, Int.toNat_natCast, hke] at this
      exact this }
  o1 := M.o1
  o2 := M.o2
  len := by rw [List.length_map, List.length_map]; exact M.len
  row := fun row hr => by
    obtain ⟨r, hr2, rfl⟩ := List.mem_map.1 hr
    have h := M.row r hr2
    refine ⟨by simp [selO], fun x hx => ?_⟩
    obtain ⟨s, hs, rfl⟩ := List.mem_map.1 hx
    have := ho s hs
    exact h.2 _ (getD_mem (show s.toNat < r.length by omega) 0)

/-! Classes, in their order. -/
theorem cls_take (next out : List (List Int)) {k : Nat} : ∀ {m : Nat}, k ≤ m → (clsP next out k).2 = (clsP next out m).2.take k
  | 0, h => by
    have : k = 0 := by omega
    subst this; simp [clsP]
  | m + 1, h => by
    by_cases e : k ≤ m
    · have ih := cls_take next out e
      have hl := (clsP_len next out m).1
      rw [ih]
      simp only [clsP]
      generalize clsP next out m = C at hl ⊢
      obtain ⟨c, r⟩ := C
      dsimp only at hl ⊢
      split <;> dsimp only <;> rw [List.take_append_of_le_length (by omega)]
    · have : k = m + 1 := by omega
      subst this
      rw [List.take_of_length_le]
      have := (clsP_len next out (m + 1)).1
      omega
theorem cls_step (next out : List (List Int)) {k m : Nat} (h : k < m) : ((clsP next out m).2.getD k 0 = ((clsP next out k).1 : Int) ∧ (clsP next out (k + 1)).1 = (clsP next out k).1 + 1) ∨
    ((clsP next out m).2.getD k 0 < ((clsP next out k).1 : Int) ∧ (clsP next out (k + 1)).1 = (clsP next out k).1) := by
  have e := cls_take next out (k := k + 1) (m := m) h
  have hm := (clsP_len next out m).1
  obtain ⟨h1, h2, h3⟩ := clsP_len next out k
  have g : (clsP next out m).2.getD k 0 = (clsP next out (k + 1)).2.getD k 0 := by
    rw [e, List.getD_eq_getElem?_getD, List.getD_eq_getElem?_getD, List.getElem?_take_of_lt (by omega)]
  rw [g]
  simp only [clsP]
  generalize clsP next out k = C at h1 h2 h3 ⊢
  obtain ⟨c, r⟩ := C
  dsimp only at h1 h2 h3 ⊢
  split
  · rename_i t hf
    have ht : t < k := by simpa using List.mem_of_find?_eq_some hf
    right
    refine ⟨?_, rfl⟩
    have e2 : (r ++ [r.getD t 0]).getD k 0 = r.getD t 0 := by rw [← h1]; exact appg_new
    dsimp only
    rw [e2]
    exact (h3 _ (getD_mem (by omega) 0)).2
  · left
    refine ⟨?_, rfl⟩
    dsimp only
    rw [← h1]; exact appg_new
theorem cls_mem (next out : List (List Int)) : ∀ k, ∀ i < (clsP next out k).1, (i : Int) ∈ (clsP next out k).2
  | 0, i, h => by simp [clsP] at h
  | k + 1, i, h => by
    have ih := cls_mem next out k
    have e := cls_take next out (show k ≤ k + 1 by omega)
    have hl := (clsP_len next out (k + 1)).1
    rcases cls_step next out (show k < k + 1 by omega) with ⟨h1, h2⟩ | ⟨h1, h2⟩
    · by_cases e2 : i < (clsP next out k).1
      · exact List.mem_of_mem_take (e ▸ ih i e2)
      · have : i = (clsP next out k).1 := by omega
        rw [this, ← h1]; exact getD_mem (by omega) 0
    · exact List.mem_of_mem_take (e ▸ ih i (by omega))
theorem cls_idx (next out : List (List Int)) {k m : Nat} (h : k < m) (hn : (clsP next out m).2.getD k 0 = ((clsP next out k).1 : Int)) : (clsP next out m).2.idxOf ((clsP next out k).1 : Int) = k := by
  have e := cls_take next out (k := k) (m := m) (by omega)
  have hl := (clsP_len next out m).1
  obtain ⟨h1, _, h3⟩ := clsP_len next out k
  have hs : (clsP next out m).2 = (clsP next out m).2.take k ++ (clsP next out m).2.drop k := (List.take_append_drop _ _).symm
  rw [hs, List.idxOf_append, if_neg, List.length_take, drop_getD (by omega) 0, hn, List.idxOf_cons_self]
  · omega
  · rw [← e]
    intro hm
    have := (h3 _ hm).2
    omega

/-- The first states of the classes. -/
def ordC (next out : List (List Int)) (n k : Nat) : List Int := (List.range (clsP next out k).1).map fun (i : Nat) => ((clsP next out n).2.idxOf (i : Int) : Int)
theorem ordC_succ (next out : List (List Int)) {n k : Nat} (h : k < n) : ordC next out n (k + 1) = if (clsP next out n).2.getD k 0 = ((ordC next out n k).length : Int) then ordC next out n k ++ [(k : Int)] else ordC next out n k := by
  have hl : (ordC next out n k).length = (clsP next out k).1 := by simp [ordC]
  rw [hl]
  rcases cls_step next out h with ⟨h1, h2⟩ | ⟨h1, h2⟩
  · rw [if_pos h1]
    unfold ordC
    rw [h2, List.range_succ, List.map_append, List.map_cons, List.map_nil, cls_idx next out h h1]
  · rw [if_neg (by omega)]
    unfold ordC; rw [h2]
abbrev redO (next out : List (List Int)) (n : Nat) : List Int := ordC next out n n
theorem redO_len (next out : List (List Int)) (n : Nat) : (redO next out n).length = (clsP next out n).1 := by simp [ordC]
theorem redO_at (next out : List (List Int)) {n i : Nat} (h : i < (clsP next out n).1) : 0 ≤ (redO next out n).getD i 0 ∧ (redO next out n).getD i 0 < n ∧ (clsP next out n).2.getD ((redO next out n).getD i 0).toNat 0 = (i : Int) := by
  have hm := cls_mem next out n i h
  have hl := (clsP_len next out n).1
  have hi := List.idxOf_lt_length_of_mem hm
  have e : (redO next out n).getD i 0 = ((clsP next out n).2.idxOf (i : Int) : Int) := by
    unfold redO ordC
    rw [List.getD_eq_getElem?_getD, List.getElem?_map, List.getElem?_range h]; rfl
  rw [e]
  refine ⟨by omega, by omega, ?_⟩
  rw [Int.toNat_natCast, List.getD_eq_getElem?_getD, List.getElem?_eq_getElem hi]
  exact List.getElem_idxOf hi
theorem redO_mem (next out : List (List Int)) {n : Nat} {s : Int} (h : s ∈ redO next out n) : 0 ≤ s ∧ s < n := by
  obtain ⟨i, hi, rfl⟩ := memg (d := 0) h
  rw [redO_len] at hi
  have := redO_at next out hi
  exact ⟨this.1, this.2.1⟩

abbrev redN (next out : List (List Int)) (n : Nat) : List (List Int) := next.map (selN (clsP next out n).2 (redO next out n))
abbrev redU (next out : List (List Int)) (n : Nat) : List (List Int) := out.map (selO (redO next out n))

theorem cls_rg {n : Int} {next out : List (List Int)} {s : Int} (hs : 0 ≤ s ∧ s < n) : 0 ≤ (clsP next out n.toNat).2.getD s.toNat 0 ∧ (clsP next out n.toNat).2.getD s.toNat 0 < ((clsP next out n.toNat).1 : Int) := by
  obtain ⟨h1, _, h3⟩ := clsP_len next out n.toNat
  exact h3 _ (getD_mem (by omega) 0)

theorem cls_cnt {n : Int} {next out : List (List Int)} (hn : 1 ≤ n) : 1 ≤ (clsP next out n.toNat).1 := by
  have := cls_rg (n := n) (next := next) (out := out) (s := 0) ⟨by omega, by omega⟩
  omega

theorem red_mach {n o : Int} {next out : List (List Int)} (M : Mach n o next out) : Mach ((clsP next out n.toNat).1 : Int) o (redN next out n.toNat) (redU next out n.toNat) := by
  have n1 := M.aut.n1
  have n2 := M.aut.n2
  have hl := clsP_len next out n.toNat
  have hc := cls_cnt (next := next) (out := out) n1
  have h := mach_sel M (to := (clsP next out n.toNat).2) (order := redO next out n.toNat) (fun s hs => by have := redO_mem next out hs; omega) (by rw [redO_len]; omega) (by omega) (fun s hs x hx => by
    have hs := redO_mem next out hs
    have := step_rg M.aut (s := s) (x := x) ⟨hs.1, by omega⟩ hx
    rw [redO_len]
    exact cls_rg this)
  rw [redO_len] at h
  exact h

end Go.Ab

namespace Go.Ab
set_option maxRecDepth 20000

structure CI (n : Int) (L : List Int) : Prop where
  nd : L.Nodup
  rg : ∀ s ∈ L, 0 ≤ s ∧ s < n
  hd : L.getD 0 1 = 0

theorem CI.len {n : Int} {L : List Int} (h : CI n L) (hn : n ≤ 10) : 1 ≤ L.length ∧ L.length ≤ 10 := by
  have h1 : L ≠ [] := fun e => by have := h.hd; rw [e] at this; simp at this
  have hm : (L.map Int.toNat).Nodup := by
    refine List.Pairwise.map _ ?_ (List.Pairwise.and_mem.1 h.nd)
    rintro a b ⟨ha, hb, hab⟩ e
    have := h.rg a ha
    have := h.rg b hb
    omega
  have := nodup_lt 10 _ hm fun x hx => by
    obtain ⟨s, hs, rfl⟩ := List.mem_map.1 hx
    have := h.rg s hs
    omega
  rw [List.length_map] at this
  exact ⟨List.length_pos_iff.2 h1, this⟩

/-! Related machines. -/
structure Rel (na oa nb ob : List (List Int)) (R : Int → Int → Prop) : Prop where
  len : na.length = nb.length
  step : ∀ s t, R s t → ∀ x, 0 ≤ x ∧ x < (na.length : Int) → outA oa s x = outA ob t x ∧ R (stepA na s x) (stepA nb t x)
  fn : ∀ s t t', R s t → R s t' → t = t'
  inj : ∀ s s' t, R s t → R s' t → s = s'

def RelL (R : Int → Int → Prop) (L M : List Int) : Prop := L.length = M.length ∧ ∀ i < L.length, R (L.getD i 0) (M.getD i 0)

theorem RelL.snoc {R : Int → Int → Prop} {L M : List Int} (h : RelL R L M) {s t : Int} (hst : R s t) : RelL R (L ++ [s]) (M ++ [t]) := by
  refine ⟨by simp [h.1], fun i hi => ?_⟩
  rw [List.length_append, List.length_singleton] at hi
  by_cases e : i < L.length
  · rw [getD_app e, getD_app (by rw [← h.1]; exact e)]; exact h.2 i e
  · have e1 : i = L.length := by omega
    subst e1
    rw [appg_new]
    rw [h.1, appg_new]; exact hst
end Go.Ab

namespace Go.Ab
set_option maxRecDepth 20000

end Go.Ab
