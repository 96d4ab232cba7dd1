/- Reduced and trimmed machines, purely. Conditions: none. -/
import Derived.Test.YtaicnehaodkikaaMm
import Derived.Test.YtaicnehaodkikaaPi
set_option linter.all false
namespace Go.Ab
set_option maxRecDepth 20000

/-! The machine of some states. -/
def selN (to order row : List Int) : List Int := order.map fun s => to.getD (row.getD s.toNat 0).toNat 0
def selO (order row : List Int) : List Int := order.map fun s => row.getD s.toNat 0

theorem memg {α : Type} {xs : List α} {x d : α} (h : x ∈ xs) : ∃ j, j < xs.length ∧ xs.getD j d = x := by
  obtain ⟨j, hj⟩ := List.getElem?_of_mem h
  obtain ⟨h1, h2⟩ := List.getElem?_eq_some_iff.1 hj
  exact ⟨j, h1, by simp [List.getD_eq_getElem?_getD, hj]⟩
theorem appg_new {α : Type} {xs : List α} {y d : α} : (xs ++ [y]).getD xs.length d = y := by
  simp [List.getD_eq_getElem?_getD]
theorem map_at {α β : Type} {f : α → β} {l : List α} {i : Nat} (d : α) (e : β) (h : i < l.length) : (l.map f).getD i e = f (l.getD i d) := by
  simp [List.getD_eq_getElem?_getD, List.getElem?_eq_getElem h]

theorem step_rg {n : Int} {next : List (List Int)} (A : Aut n next) {s x : Int} (hs : 0 ≤ s ∧ s < n) (hx : 0 ≤ x ∧ x < next.length) : 0 ≤ stepA next s x ∧ stepA next s x < n := by
  have r := A.row _ (getD_mem (show x.toNat < next.length by omega) [])
  exact r.2 _ (getD_mem (show s.toNat < (next.getD x.toNat []).length by omega) 0)

theorem sel_step {next : List (List Int)} {to order : List Int} {i x : Int} (hi : 0 ≤ i ∧ i < order.length) (hx : 0 ≤ x ∧ x < next.length) :
    stepA (next.map (selN to order)) i x = to.getD (stepA next (order.getD i.toNat 0) x).toNat 0 := by
  unfold stepA
  rw [map_at [] [] (show x.toNat < next.length by omega), selN, map_at 0 0 (show i.toNat < order.length by omega)]
theorem sel_out {out : List (List Int)} {order : List Int} {i x : Int} (hi : 0 ≤ i ∧ i < order.length) (hx : 0 ≤ x ∧ x < out.length) :
    outA (out.map (selO order)) i x = outA out (order.getD i.toNat 0) x := by
  unfold outA
  rw [map_at [] [] (show x.toNat < out.length by omega), selO, map_at 0 0 (show i.toNat < order.length by omega)]

theorem mach_sel {n o : Int} {next out : List (List Int)} (M : Mach n o next out) {to order : List Int} (ho : ∀ s ∈ order, 0 ≤ s ∧ s < n) (hl : 1 ≤ order.length ∧ order.length ≤ 10) (htl : (to.length : Int) = n)
    (ht : ∀ s ∈ order, ∀ x, 0 ≤ x ∧ x < (next.length : Int) → 0 ≤ to.getD (stepA next s x).toNat 0 ∧ to.getD (stepA next s x).toNat 0 < order.length) : Mach order.length o (next.map (selN to order)) (out.map (selO order)) where
  aut := {
    n1 := by omega
    n2 := by omega
    l1 := by rw [List.length_map]; exact M.aut.l1
    l2 := by rw [List.length_map]; exact M.aut.l2
    row := fun row hr => by
      obtain ⟨r, hr2, rfl⟩ := List.mem_map.1 hr
      obtain ⟨k, hk, hke⟩ := memg (d := []) hr2
      refine ⟨by simp [selN], fun x hx => ?_⟩
      obtain ⟨s, hs, rfl⟩ := List.mem_map.1 hx
      have := ht s hs (k : Int) ⟨by omega, by omega⟩
      simp only [stepA, Int.toNat_natCast, hke] at this
      exact this }
  o1 := M.o1
  o2 := M.o2
  len := by rw [List.length_map, List.length_map]; exact M.len
  row := fun row hr => by
    obtain ⟨r, hr2, rfl⟩ := List.mem_map.1 hr
    have h := M.row r hr2
    refine ⟨by simp [selO], fun x hx => ?_⟩
    obtain ⟨s, hs, rfl⟩ := List.mem_map.1 hx
    have := ho s hs
    exact h.2 _ (getD_mem (show s.toNat < r.length by omega) 0)

/-- A map of states that keeps outputs and steps keeps outputs of words. -/
theorem sim_outs {next out next' out' : List (List Int)} {f : Int → Int} {D : Int → Prop} {l : Nat}
    (h : ∀ s, D s → ∀ x, 0 ≤ x ∧ x < (l : Int) → outA out' (f s) x = outA out s x ∧ stepA next' (f s) x = f (stepA next s x) ∧ D (stepA next s x)) :
    ∀ (w : List Int) (s : Int), D s → isWd l w → outsA next' out' (f s) w = outsA next out s w ∧ atA next' (f s) w = f (atA next s w) ∧ D (atA next s w)
  | [], s, hs, _ => ⟨rfl, rfl, hs⟩
  | x :: w, s, hs, hw => by
    obtain ⟨h1, h2, h3⟩ := h s hs x (hw x (by simp))
    obtain ⟨k1, k2, k3⟩ := sim_outs h w (stepA next s x) h3 fun y hy => hw y (List.mem_cons_of_mem _ hy)
    refine ⟨?_, ?_, k3⟩
    · simp only [outsA, h1, h2, k1]
    · show atA next' (stepA next' (f s) x) w = f (atA next (stepA next s x) w)
      rw [h2]; exact k2

/-! Classes, in their order. -/
theorem cls_take (next out : List (List Int)) {k : Nat} : ∀ {m : Nat}, k ≤ m → (clsP next out k).2 = (clsP next out m).2.take k
  | 0, h => by
    have : k = 0 := by omega
    subst this; simp [clsP]
  | m + 1, h => by
    by_cases e : k ≤ m
    · have ih := cls_take next out e
      have hl := (clsP_len next out m).1
      rw [ih]
      simp only [clsP]
      generalize clsP next out m = C at hl ⊢
      obtain ⟨c, r⟩ := C
      dsimp only at hl ⊢
      split <;> dsimp only <;> rw [List.take_append_of_le_length (by omega)]
    · have : k = m + 1 := by omega
      subst this
      rw [List.take_of_length_le]
      have := (clsP_len next out (m + 1)).1
      omega
theorem cls_step (next out : List (List Int)) {k m : Nat} (h : k < m) : ((clsP next out m).2.getD k 0 = ((clsP next out k).1 : Int) ∧ (clsP next out (k + 1)).1 = (clsP next out k).1 + 1) ∨
    ((clsP next out m).2.getD k 0 < ((clsP next out k).1 : Int) ∧ (clsP next out (k + 1)).1 = (clsP next out k).1) := by
  have e := cls_take next out (k := k + 1) (m := m) h
  have hm := (clsP_len next out m).1
  obtain ⟨h1, h2, h3⟩ := clsP_len next out k
  have g : (clsP next out m).2.getD k 0 = (clsP next out (k + 1)).2.getD k 0 := by
    rw [e, List.getD_eq_getElem?_getD, List.getD_eq_getElem?_getD, List.getElem?_take_of_lt (by omega)]
  rw [g]
  simp only [clsP]
  generalize clsP next out k = C at h1 h2 h3 ⊢
  obtain ⟨c, r⟩ := C
  dsimp only at h1 h2 h3 ⊢
  split
  · rename_i t hf
    have ht : t < k := by simpa using List.mem_of_find?_eq_some hf
    right
    refine ⟨?_, rfl⟩
    have e2 : (r ++ [r.getD t 0]).getD k 0 = r.getD t 0 := by rw [← h1]; exact appg_new
    dsimp only
    rw [e2]
    exact (h3 _ (getD_mem (by omega) 0)).2
  · left
    refine ⟨?_, rfl⟩
    dsimp only
    rw [← h1]; exact appg_new
theorem cls_mem (next out : List (List Int)) : ∀ k, ∀ i < (clsP next out k).1, (i : Int) ∈ (clsP next out k).2
  | 0, i, h => by simp [clsP] at h
  | k + 1, i, h => by
    have ih := cls_mem next out k
    have e := cls_take next out (show k ≤ k + 1 by omega)
    have hl := (clsP_len next out (k + 1)).1
    rcases cls_step next out (show k < k + 1 by omega) with ⟨h1, h2⟩ | ⟨h1, h2⟩
    · by_cases e2 : i < (clsP next out k).1
      · exact List.mem_of_mem_take (e ▸ ih i e2)
      · have : i = (clsP next out k).1 := by omega
        rw [this, ← h1]; exact getD_mem (by omega) 0
    · exact List.mem_of_mem_take (e ▸ ih i (by omega))
theorem cls_idx (next out : List (List Int)) {k m : Nat} (h : k < m) (hn : (clsP next out m).2.getD k 0 = ((clsP next out k).1 : Int)) : (clsP next out m).2.idxOf ((clsP next out k).1 : Int) = k := by
  have e := cls_take next out (k := k) (m := m) (by omega)
  have hl := (clsP_len next out m).1
  obtain ⟨h1, _, h3⟩ := clsP_len next out k
  have hs : (clsP next out m).2 = (clsP next out m).2.take k ++ (clsP next out m).2.drop k := (List.take_append_drop _ _).symm
  rw [hs, List.idxOf_append, if_neg, List.length_take, drop_getD (by omega) 0, hn, List.idxOf_cons_self]
  · omega
  · rw [← e]
    intro hm
    have := (h3 _ hm).2
    omega

/-- The first states of the classes. -/
def ordC (next out : List (List Int)) (n k : Nat) : List Int := (List.range (clsP next out k).1).map fun (i : Nat) => ((clsP next out n).2.idxOf (i : Int) : Int)
theorem ordC_succ (next out : List (List Int)) {n k : Nat} (h : k < n) : ordC next out n (k + 1) = if (clsP next out n).2.getD k 0 = ((ordC next out n k).length : Int) then ordC next out n k ++ [(k : Int)] else ordC next out n k := by
  have hl : (ordC next out n k).length = (clsP next out k).1 := by simp [ordC]
  rw [hl]
  rcases cls_step next out h with ⟨h1, h2⟩ | ⟨h1, h2⟩
  · rw [if_pos h1]
    unfold ordC
    rw [h2, List.range_succ, List.map_append, List.map_cons, List.map_nil, cls_idx next out h h1]
  · rw [if_neg (by omega)]
    unfold ordC; rw [h2]
abbrev redO (next out : List (List Int)) (n : Nat) : List Int := ordC next out n n
theorem redO_len (next out : List (List Int)) (n : Nat) : (redO next out n).length = (clsP next out n).1 := by simp [ordC]
theorem redO_at (next out : List (List Int)) {n i : Nat} (h : i < (clsP next out n).1) : 0 ≤ (redO next out n).getD i 0 ∧ (redO next out n).getD i 0 < n ∧ (clsP next out n).2.getD ((redO next out n).getD i 0).toNat 0 = (i : Int) := by
  have hm := cls_mem next out n i h
  have hl := (clsP_len next out n).1
  have hi := List.idxOf_lt_length_of_mem hm
  have e : (redO next out n).getD i 0 = ((clsP next out n).2.idxOf (i : Int) : Int) := by
    unfold redO ordC
    rw [List.getD_eq_getElem?_getD, List.getElem?_map, List.getElem?_range h]; rfl
  rw [e]
  refine ⟨by omega, by omega, ?_⟩
  rw [Int.toNat_natCast, List.getD_eq_getElem?_getD, List.getElem?_eq_getElem hi]
  exact List.getElem_idxOf hi
theorem redO_mem (next out : List (List Int)) {n : Nat} {s : Int} (h : s ∈ redO next out n) : 0 ≤ s ∧ s < n := by
  obtain ⟨i, hi, rfl⟩ := memg (d := 0) h
  rw [redO_len] at hi
  have := redO_at next out hi
  exact ⟨this.1, this.2.1⟩

abbrev redN (next out : List (List Int)) (n : Nat) : List (List Int) := next.map (selN (clsP next out n).2 (redO next out n))
abbrev redU (next out : List (List Int)) (n : Nat) : List (List Int) := out.map (selO (redO next out n))

theorem cls_eqv {n : Int} {next out : List (List Int)} (A : Aut n next) {s t : Int} (hs : 0 ≤ s ∧ s < n) (ht : 0 ≤ t ∧ t < n) :
    (clsP next out n.toNat).2.getD s.toNat 0 = (clsP next out n.toNat).2.getD t.toNat 0 ↔ ∀ w, isWd next.length w → outsA next out s w = outsA next out t w := by
  have h := cls_eq (out := out) A (show s.toNat < n.toNat by omega) (show t.toNat < n.toNat by omega)
  rw [(numP_cls (out := out) A n.toNat (Nat.le_refl _)).1, eqvP_outs A (by omega) (by omega)] at h
  rw [h, show ((s.toNat : Nat) : Int) = s by omega, show ((t.toNat : Nat) : Int) = t by omega]

theorem cls_rg {n : Int} {next out : List (List Int)} {s : Int} (hs : 0 ≤ s ∧ s < n) : 0 ≤ (clsP next out n.toNat).2.getD s.toNat 0 ∧ (clsP next out n.toNat).2.getD s.toNat 0 < ((clsP next out n.toNat).1 : Int) := by
  obtain ⟨h1, _, h3⟩ := clsP_len next out n.toNat
  exact h3 _ (getD_mem (by omega) 0)

theorem cls_cnt {n : Int} {next out : List (List Int)} (hn : 1 ≤ n) : 1 ≤ (clsP next out n.toNat).1 := by
  have := cls_rg (n := n) (next := next) (out := out) (s := 0) ⟨by omega, by omega⟩
  omega

theorem red_mach {n o : Int} {next out : List (List Int)} (M : Mach n o next out) : Mach ((clsP next out n.toNat).1 : Int) o (redN next out n.toNat) (redU next out n.toNat) := by
  have n1 := M.aut.n1
  have n2 := M.aut.n2
  have hl := clsP_len next out n.toNat
  have hc := cls_cnt (next := next) (out := out) n1
  have h := mach_sel M (to := (clsP next out n.toNat).2) (order := redO next out n.toNat) (fun s hs => by have := redO_mem next out hs; omega) (by rw [redO_len]; omega) (by omega) (fun s hs x hx => by
    have hs := redO_mem next out hs
    have := step_rg M.aut (s := s) (x := x) ⟨hs.1, by omega⟩ hx
    rw [redO_len]
    exact cls_rg this)
  rw [redO_len] at h
  exact h

/-- From states to their classes. -/
theorem red_sim {n o : Int} {next out : List (List Int)} (M : Mach n o next out) (s : Int) (hs : 0 ≤ s ∧ s < n) (x : Int) (hx : 0 ≤ x ∧ x < (next.length : Int)) :
    outA (redU next out n.toNat) ((clsP next out n.toNat).2.getD s.toNat 0) x = outA out s x ∧
    stepA (redN next out n.toNat) ((clsP next out n.toNat).2.getD s.toNat 0) x = (clsP next out n.toNat).2.getD (stepA next s x).toNat 0 ∧ 0 ≤ stepA next s x ∧ stepA next s x < n := by
  have hc := cls_rg (n := n) (next := next) (out := out) hs
  generalize hC : (clsP next out n.toNat).2.getD s.toNat 0 = c at hc ⊢
  have hr := redO_at next out (n := n.toNat) (i := c.toNat) (by omega)
  have hst := step_rg M.aut hs hx
  have hrn : 0 ≤ (redO next out n.toNat).getD c.toNat 0 ∧ (redO next out n.toNat).getD c.toNat 0 < n := by omega
  have heq := (cls_eqv (out := out) M.aut hrn hs).1 (by rw [hr.2.2, hC]; omega)
  refine ⟨?_, ?_, hst⟩
  · rw [sel_out (by rw [redO_len]; omega) (by rw [M.len]; exact hx)]
    have := heq [x] (by intro y hy; rw [List.mem_singleton.1 hy]; exact hx)
    simpa [outsA] using this
  · rw [sel_step (by rw [redO_len]; omega) hx]
    refine (cls_eqv (out := out) M.aut (step_rg M.aut hrn hx) hst).2 fun w hw => ?_
    have := heq (x :: w) (by
      intro y hy
      rcases List.mem_cons.1 hy with rfl | hy
      · exact hx
      · exact hw y hy)
    simp only [outsA, List.cons.injEq] at this
    exact this.2
theorem red_outs {n o : Int} {next out : List (List Int)} (M : Mach n o next out) {w : List Int} (hw : isWd next.length w) {s : Int} (hs : 0 ≤ s ∧ s < n) :
    outsA (redN next out n.toNat) (redU next out n.toNat) ((clsP next out n.toNat).2.getD s.toNat 0) w = outsA next out s w ∧
    atA (redN next out n.toNat) ((clsP next out n.toNat).2.getD s.toNat 0) w = (clsP next out n.toNat).2.getD (atA next s w).toNat 0 ∧ 0 ≤ atA next s w ∧ atA next s w < n :=
  sim_outs (f := fun s => (clsP next out n.toNat).2.getD s.toNat 0) (D := fun s => 0 ≤ s ∧ s < n) (l := next.length) (fun s hs x hx => red_sim M s hs x hx) w s hs hw

/-- A machine without equivalent states. -/
def Sharp (n : Int) (next out : List (List Int)) : Prop := ∀ s t : Int, (0 ≤ s ∧ s < n) → (0 ≤ t ∧ t < n) → (∀ w, isWd next.length w → outsA next out s w = outsA next out t w) → s = t

theorem red_sharp {n o : Int} {next out : List (List Int)} (M : Mach n o next out) : Sharp ((clsP next out n.toNat).1 : Int) (redN next out n.toNat) (redU next out n.toNat) := by
  intro i j hi hj h
  have ri := redO_at next out (n := n.toNat) (i := i.toNat) (by omega)
  have rj := redO_at next out (n := n.toNat) (i := j.toNat) (by omega)
  have n1 := M.aut.n1
  have ei : (clsP next out n.toNat).2.getD ((redO next out n.toNat).getD i.toNat 0).toNat 0 = i := by rw [ri.2.2]; omega
  have ej : (clsP next out n.toNat).2.getD ((redO next out n.toNat).getD j.toNat 0).toNat 0 = j := by rw [rj.2.2]; omega
  have hri : 0 ≤ (redO next out n.toNat).getD i.toNat 0 ∧ (redO next out n.toNat).getD i.toNat 0 < n := by omega
  have hrj : 0 ≤ (redO next out n.toNat).getD j.toNat 0 ∧ (redO next out n.toNat).getD j.toNat 0 < n := by omega
  rw [← ei, ← ej]
  refine (cls_eqv (out := out) M.aut hri hrj).2 fun w hw => ?_
  have h1 := (red_outs M hw hri).1
  have h2 := (red_outs M hw hrj).1
  rw [ei] at h1
  rw [ej] at h2
  rw [← h1, ← h2]
  exact h w (by intro y hy; rw [List.length_map]; exact hw y hy)

/-- A machine without equivalent states is reduced already. -/
theorem sharp_cls {n o : Int} {next out : List (List Int)} (M : Mach n o next out) (S : Sharp n next out) : ∀ k, k ≤ n.toNat → clsP next out k = (k, (List.range k).map fun (i : Nat) => (i : Int))
  | 0, _ => rfl
  | k + 1, h => by
    have ih := sharp_cls M S k (by omega)
    have hf : (List.range k).find? (eqvP next out k) = none := by
      rw [List.find?_eq_none]
      intro t ht he
      have ht : t < k := by simpa using ht
      have := S (k : Int) (t : Int) (by omega) (by omega) ((eqvP_outs M.aut (by omega) (by omega)).1 he)
      omega
    simp only [clsP, ih, hf]
    rw [List.range_succ, List.map_append]; rfl
theorem idx_range {n i : Nat} (h : i < n) : ((List.range n).map fun (i : Nat) => (i : Int)).idxOf (i : Int) = i := by
  have hm : (i : Int) ∈ (List.range n).map fun (i : Nat) => (i : Int) := List.mem_map.2 ⟨i, List.mem_range.2 h, rfl⟩
  have hl := List.idxOf_lt_length_of_mem hm
  have he := List.getElem_idxOf hl
  rw [List.getElem_map, List.getElem_range] at he
  omega
theorem sel_id {n : Nat} {row : List Int} (hl : row.length = n) (hr : ∀ x ∈ row, 0 ≤ x ∧ x < (n : Int)) : selN ((List.range n).map fun (i : Nat) => (i : Int)) ((List.range n).map fun (i : Nat) => (i : Int)) row = row := by
  refine List.ext_getElem (by simp [selN, hl]) fun i h1 h2 => ?_
  have hx := hr _ (List.getElem_mem h2)
  simp only [selN, List.getElem_map, List.getElem_range, Int.toNat_natCast]
  rw [List.getD_eq_getElem?_getD (l := row), List.getElem?_eq_getElem h2, Option.getD_some, map_at 0 0 (by rw [List.length_range]; omega)]
  rw [List.getD_eq_getElem?_getD, List.getElem?_range (by omega)]
  simp; omega
theorem selO_id {n : Nat} {row : List Int} (hl : row.length = n) : selO ((List.range n).map fun (i : Nat) => (i : Int)) row = row := by
  refine List.ext_getElem (by simp [selO, hl]) fun i h1 h2 => ?_
  simp only [selO, List.getElem_map, List.getElem_range, Int.toNat_natCast]
  rw [List.getD_eq_getElem?_getD (l := row), List.getElem?_eq_getElem h2]; rfl
theorem sharp_red {n o : Int} {next out : List (List Int)} (M : Mach n o next out) (S : Sharp n next out) : (clsP next out n.toNat).1 = n.toNat ∧ redN next out n.toNat = next ∧ redU next out n.toNat = out := by
  have n1 := M.aut.n1
  have hc := sharp_cls M S n.toNat (Nat.le_refl _)
  have ho : redO next out n.toNat = (List.range n.toNat).map fun (i : Nat) => (i : Int) := by
    unfold redO ordC
    rw [hc]
    exact List.map_congr_left fun i hi => by rw [idx_range (List.mem_range.1 hi)]
  refine ⟨by rw [hc], ?_, ?_⟩
  · unfold redN
    rw [ho, hc]
    conv => rhs; rw [← List.map_id next]
    exact List.map_congr_left fun row hr => by
      have := M.aut.row row hr
      exact sel_id (by omega) (fun x hx => by have := this.2 x hx; omega)
  · unfold redU
    rw [ho]
    conv => rhs; rw [← List.map_id out]
    exact List.map_congr_left fun row hr => by
      have := M.row row hr
      exact selO_id (by omega)
end Go.Ab

namespace Go.Ab
set_option maxRecDepth 20000

theorem nd_inj {l : List Int} (h : l.Nodup) {i j : Nat} (hi : i < l.length) (hj : j < l.length) (e : l.getD i 0 = l.getD j 0) : i = j := by
  have hp := List.pairwise_iff_getElem.1 h
  rw [List.getD_eq_getElem?_getD, List.getElem?_eq_getElem hi, List.getD_eq_getElem?_getD, List.getElem?_eq_getElem hj] at e
  simp only [Option.getD_some] at e
  rcases Nat.lt_trichotomy i j with h1 | h1 | h1
  · exact absurd e (hp i j hi hj h1)
  · exact h1
  · exact absurd e.symm (hp j i hj hi h1)
theorem idx_at {l : List Int} {s : Int} (h : s ∈ l) : l.idxOf s < l.length ∧ l.getD (l.idxOf s) 0 = s := by
  have hl := List.idxOf_lt_length_of_mem h
  refine ⟨hl, ?_⟩
  rw [List.getD_eq_getElem?_getD, List.getElem?_eq_getElem hl]
  exact List.getElem_idxOf hl
theorem idx_nd {l : List Int} (h : l.Nodup) {i : Nat} (hi : i < l.length) : l.idxOf (l.getD i 0) = i := by
  obtain ⟨h1, h2⟩ := idx_at (getD_mem hi (0 : Int))
  exact nd_inj h h1 hi h2

/-- The states to which the letters lead from one are put behind, once. -/
def covV (next : List (List Int)) (s : Int) : Nat → List Int → List Int
  | 0, L => L
  | x + 1, L => if (covV next s x L).contains (stepA next s x) then covV next s x L else covV next s x L ++ [stepA next s x]
def covR (next : List (List Int)) : Nat → Nat → List Int → List Int
  | 0, _, L => L
  | F + 1, i, L => if i < L.length then covR next F (i + 1) (covV next (L.getD i 0) next.length L) else L
/-- The states that are reached from the state 0, in their order. -/
def covP (next : List (List Int)) : List Int := covR next 20 0 [0]

structure CI (n : Int) (L : List Int) : Prop where
  nd : L.Nodup
  rg : ∀ s ∈ L, 0 ≤ s ∧ s < n
  hd : L.getD 0 1 = 0

theorem CI.len {n : Int} {L : List Int} (h : CI n L) (hn : n ≤ 10) : 1 ≤ L.length ∧ L.length ≤ 10 := by
  have h1 : L ≠ [] := fun e => by have := h.hd; rw [e] at this; simp at this
  have hm : (L.map Int.toNat).Nodup := by
    refine List.Pairwise.map _ ?_ (List.Pairwise.and_mem.1 h.nd)
    rintro a b ⟨ha, hb, hab⟩ e
    have := h.rg a ha
    have := h.rg b hb
    omega
  have := nodup_lt 10 _ hm fun x hx => by
    obtain ⟨s, hs, rfl⟩ := List.mem_map.1 hx
    have := h.rg s hs
    omega
  rw [List.length_map] at this
  exact ⟨List.length_pos_iff.2 h1, this⟩

theorem covV_ok {n : Int} {next : List (List Int)} (A : Aut n next) {s : Int} (hs : 0 ≤ s ∧ s < n) {L : List Int} (h : CI n L) : ∀ x, x ≤ next.length → CI n (covV next s x L) ∧ (∃ t, covV next s x L = L ++ t) ∧ ∀ y < x, stepA next s y ∈ covV next s x L
  | 0, _ => ⟨h, ⟨[], by simp [covV]⟩, fun y hy => by omega⟩
  | x + 1, hx => by
    obtain ⟨h1, ⟨t, h2⟩, h3⟩ := covV_ok A hs h x (by omega)
    have hst := step_rg A hs (x := (x : Int)) ⟨by omega, by omega⟩
    simp only [covV]
    generalize covV next s x L = L' at h1 h2 h3 ⊢
    cases hc : L'.contains (stepA next s x) with
    | true =>
      rw [if_pos rfl]
      refine ⟨h1, ⟨t, h2⟩, fun y hy => ?_⟩
      by_cases e : y < x
      · exact h3 y e
      · have : y = x := by omega
        subst this; simpa using hc
    | false =>
      rw [if_neg (by simp)]
      have hn : stepA next s x ∉ L' := by simpa using hc
      refine ⟨⟨?_, ?_, ?_⟩, ⟨t ++ [stepA next s x], by rw [h2, List.append_assoc]⟩, fun y hy => ?_⟩
      · rw [List.nodup_append]
        exact ⟨h1.nd, by simp, fun a ha b hb e => hn (by rw [← List.mem_singleton.1 hb, ← e]; exact ha)⟩
      · intro a ha
        rcases List.mem_append.1 ha with ha | ha
        · exact h1.rg a ha
        · rw [List.mem_singleton.1 ha]; exact hst
      · have h4 : L' ≠ [] := fun e => by have := h1.hd; rw [e] at this; simp at this
        rw [getD_app (List.length_pos_iff.2 h4)]; exact h1.hd
      · by_cases e : y < x
        · exact List.mem_append.2 (.inl (h3 y e))
        · have : y = x := by omega
          subst this; simp

theorem covR_ok {n : Int} {next : List (List Int)} (A : Aut n next) : ∀ (F i : Nat) (L : List Int), CI n L → (∀ j < i, ∀ x < next.length, stepA next (L.getD j 0) x ∈ L) → i ≤ L.length → F + i = 20 →
    CI n (covR next F i L) ∧ ∀ s ∈ covR next F i L, ∀ x < next.length, stepA next s x ∈ covR next F i L
  | 0, i, L, h, _, hi, hF => by
    have := (h.len A.n2).2
    omega
  | F + 1, i, L, h, hd, hi, hF => by
    have hl := (h.len A.n2).2
    simp only [covR]
    split
    · rename_i hlt
      have hs := h.rg _ (getD_mem hlt 0)
      obtain ⟨h1, ⟨t, h2⟩, h3⟩ := covV_ok A hs h next.length (Nat.le_refl _)
      refine covR_ok A F (i + 1) _ h1 (fun j hj x hx => ?_) (by rw [h2, List.length_append]; omega) (by omega)
      by_cases e : j < i
      · have := hd j e x hx
        rw [h2, getD_app (by omega)]
        exact List.mem_append.2 (.inl this)
      · have : j = i := by omega
        subst this
        have := h3 x hx
        have e2 : (covV next (L.getD j 0) next.length L).getD j 0 = L.getD j 0 := by rw [h2, getD_app hlt]
        rw [e2]; exact this
    · refine ⟨h, fun s hs x hx => ?_⟩
      obtain ⟨j, hj, rfl⟩ := memg (d := 0) hs
      exact hd j (by omega) x hx

theorem CI0 {n : Int} (h : 1 ≤ n) : CI n [0] := ⟨by simp, by simp; omega, rfl⟩
theorem covP_ok {n : Int} {next : List (List Int)} (A : Aut n next) : CI n (covP next) ∧ ∀ s ∈ covP next, ∀ x < next.length, stepA next s x ∈ covP next :=
  covR_ok A 20 0 [0] (CI0 A.n1) (fun j hj => by omega) (by simp) rfl

/-- The new numbers of the states. -/
def toT (n : Nat) (order : List Int) : List Int := (List.range n).map fun (s : Nat) => if (s : Int) ∈ order then (order.idxOf (s : Int) : Int) else 0
theorem toT_len {n : Nat} {order : List Int} : (toT n order).length = n := by simp [toT]
theorem toT_at {n : Nat} {order : List Int} {s : Int} (h : s ∈ order) (hs : 0 ≤ s ∧ s < n) : (toT n order).getD s.toNat 0 = (order.idxOf s : Int) := by
  unfold toT
  rw [List.getD_eq_getElem?_getD, List.getElem?_map, List.getElem?_range (by omega)]
  simp only [Option.map_some, Option.getD_some]
  have e : ((s.toNat : Nat) : Int) = s := by omega
  rw [e, if_pos h]

abbrev trmN (next : List (List Int)) (n : Nat) : List (List Int) := next.map (selN (toT n (covP next)) (covP next))
abbrev trmU (next out : List (List Int)) : List (List Int) := out.map (selO (covP next))

theorem trm_mach {n o : Int} {next out : List (List Int)} (M : Mach n o next out) : Mach ((covP next).length : Int) o (trmN next n.toNat) (trmU next out) := by
  have n1 := M.aut.n1
  obtain ⟨h1, h2⟩ := covP_ok M.aut
  refine mach_sel M (to := toT n.toNat (covP next)) (order := covP next) h1.rg (h1.len M.aut.n2) (by rw [toT_len]; omega) fun s hs x hx => ?_
  have hm := h2 s hs x.toNat (by omega)
  have e : ((x.toNat : Nat) : Int) = x := by omega
  rw [e] at hm
  have := h1.rg _ hm
  rw [toT_at hm (by omega)]
  have := (idx_at hm).1
  omega

/-- From the states that are reached to their new numbers. -/
theorem trm_sim {n o : Int} {next out : List (List Int)} (M : Mach n o next out) (s : Int) (hs : s ∈ covP next) (x : Int) (hx : 0 ≤ x ∧ x < (next.length : Int)) :
    outA (trmU next out) ((toT n.toNat (covP next)).getD s.toNat 0) x = outA out s x ∧
    stepA (trmN next n.toNat) ((toT n.toNat (covP next)).getD s.toNat 0) x = (toT n.toNat (covP next)).getD (stepA next s x).toNat 0 ∧ stepA next s x ∈ covP next := by
  obtain ⟨h1, h2⟩ := covP_ok M.aut
  have hr := h1.rg s hs
  obtain ⟨i1, i2⟩ := idx_at hs
  rw [toT_at hs (by omega)]
  have hm := h2 s hs x.toNat (by omega)
  have e : ((x.toNat : Nat) : Int) = x := by omega
  rw [e] at hm
  refine ⟨?_, ?_, hm⟩
  · rw [sel_out (by omega) (by rw [M.len]; exact hx), Int.toNat_natCast, i2]
  · rw [sel_step (by omega) hx, Int.toNat_natCast, i2]
theorem cov_zero {n : Int} {next : List (List Int)} (A : Aut n next) : (0 : Int) ∈ covP next ∧ (toT n.toNat (covP next)).getD 0 0 = 0 := by
  have h := (covP_ok A).1
  have hl := h.len A.n2
  have hm : (0 : Int) ∈ covP next := by
    have := getD_mem (show 0 < (covP next).length by omega) (1 : Int)
    rw [h.hd] at this; exact this
  refine ⟨hm, ?_⟩
  have h2 := toT_at (n := n.toNat) hm (by have := A.n1; omega)
  have h3 : (covP next).idxOf 0 = 0 := by
    have e : (covP next).getD 0 0 = 0 := by
      have h4 := h.hd
      rw [List.getD_eq_getElem?_getD, List.getElem?_eq_getElem (show 0 < (covP next).length by omega)] at h4 ⊢
      exact h4
    have := idx_nd h.nd (show 0 < (covP next).length by omega)
    rw [e] at this; exact this
  rw [h3] at h2
  exact h2
theorem trm_outs {n o : Int} {next out : List (List Int)} (M : Mach n o next out) {w : List Int} (hw : isWd next.length w) : outsA (trmN next n.toNat) (trmU next out) 0 w = outsA next out 0 w := by
  obtain ⟨h1, h2⟩ := cov_zero M.aut
  have := (sim_outs (f := fun s => (toT n.toNat (covP next)).getD s.toNat 0) (D := fun s => s ∈ covP next) (l := next.length) (fun s hs x hx => trm_sim M s hs x hx) w 0 h1 hw).1
  simp only [Int.toNat_zero, h2] at this
  exact this

/-! Related machines. -/
structure Rel (na oa nb ob : List (List Int)) (R : Int → Int → Prop) : Prop where
  len : na.length = nb.length
  step : ∀ s t, R s t → ∀ x, 0 ≤ x ∧ x < (na.length : Int) → outA oa s x = outA ob t x ∧ R (stepA na s x) (stepA nb t x)
  fn : ∀ s t t', R s t → R s t' → t = t'
  inj : ∀ s s' t, R s t → R s' t → s = s'

def RelL (R : Int → Int → Prop) (L M : List Int) : Prop := L.length = M.length ∧ ∀ i < L.length, R (L.getD i 0) (M.getD i 0)

theorem RelL.mem {na oa nb ob : List (List Int)} {R : Int → Int → Prop} (hR : Rel na oa nb ob R) {L M : List Int} (h : RelL R L M) {s t : Int} (hst : R s t) : L.contains s = M.contains t := by
  have e : s ∈ L ↔ t ∈ M := by
    constructor
    · intro hm
      obtain ⟨j, hj, rfl⟩ := memg (d := 0) hm
      rw [hR.fn _ _ _ hst (h.2 j hj)]
      exact getD_mem (by rw [← h.1]; exact hj) 0
    · intro hm
      obtain ⟨j, hj, rfl⟩ := memg (d := 0) hm
      have hj' : j < L.length := by rw [h.1]; exact hj
      rw [hR.inj _ _ _ hst (h.2 j hj')]
      exact getD_mem hj' 0
  cases h1 : L.contains s <;> cases h2 : M.contains t <;> simp_all
theorem RelL.snoc {R : Int → Int → Prop} {L M : List Int} (h : RelL R L M) {s t : Int} (hst : R s t) : RelL R (L ++ [s]) (M ++ [t]) := by
  refine ⟨by simp [h.1], fun i hi => ?_⟩
  rw [List.length_append, List.length_singleton] at hi
  by_cases e : i < L.length
  · rw [getD_app e, getD_app (by rw [← h.1]; exact e)]; exact h.2 i e
  · have e1 : i = L.length := by omega
    subst e1
    rw [appg_new]
    rw [h.1, appg_new]; exact hst
theorem covV_rel {na oa nb ob : List (List Int)} {R : Int → Int → Prop} (hR : Rel na oa nb ob R) {L M : List Int} (h : RelL R L M) {s t : Int} (hst : R s t) : ∀ x, x ≤ na.length → RelL R (covV na s x L) (covV nb t x M)
  | 0, _ => h
  | x + 1, hx => by
    have ih := covV_rel hR h hst x (by omega)
    have hs := (hR.step s t hst (x : Int) ⟨by omega, by omega⟩).2
    simp only [covV, ih.mem hR hs]
    split
    · exact ih
    · exact ih.snoc hs
theorem covR_rel {na oa nb ob : List (List Int)} {R : Int → Int → Prop} (hR : Rel na oa nb ob R) : ∀ (F i : Nat) (L M : List Int), RelL R L M → RelL R (covR na F i L) (covR nb F i M)
  | 0, _, _, _, h => h
  | F + 1, i, L, M, h => by
    simp only [covR, ← h.1]
    split
    · rename_i hlt
      rw [← hR.len]
      exact covR_rel hR F (i + 1) _ _ (covV_rel hR h (h.2 i hlt) na.length (Nat.le_refl _))
    · exact h
theorem covP_rel {na oa nb ob : List (List Int)} {R : Int → Int → Prop} (hR : Rel na oa nb ob R) (h0 : R 0 0) : RelL R (covP na) (covP nb) :=
  covR_rel hR 20 0 _ _ ⟨rfl, fun i hi => by
    have : i = 0 := by simpa using hi
    subst this; exact h0⟩

theorem idx_rel {R : Int → Int → Prop} {L M : List Int} (h : RelL R L M) (fn : ∀ s t t', R s t → R s t' → t = t') (nd : M.Nodup) {s t : Int} (hst : R s t) (hs : s ∈ L) : L.idxOf s = M.idxOf t := by
  obtain ⟨h1, h2⟩ := idx_at hs
  have h3 := h.2 _ h1
  rw [h2] at h3
  rw [fn _ _ _ hst h3]
  exact (idx_nd nd (by rw [← h.1]; exact h1)).symm

/-- Related machines have the same trimmed machine. -/
theorem trm_rel {n o n' o' : Int} {na oa nb ob : List (List Int)} (Ma : Mach n o na oa) (Mb : Mach n' o' nb ob) {R : Int → Int → Prop} (hR : Rel na oa nb ob R) (h0 : R 0 0) :
    (covP na).length = (covP nb).length ∧ trmN na n.toNat = trmN nb n'.toNat ∧ trmU na oa = trmU nb ob := by
  have h := covP_rel hR h0
  obtain ⟨a1, a2⟩ := covP_ok Ma.aut
  obtain ⟨b1, b2⟩ := covP_ok Mb.aut
  have a3 := Ma.aut.n1
  have b3 := Mb.aut.n1
  refine ⟨h.1, ?_, ?_⟩
  · refine List.ext_getElem (by simp [hR.len]) fun k h1 h2 => ?_
    rw [List.length_map] at h1 h2
    simp only [List.getElem_map]
    refine List.ext_getElem (by simp [selN, h.1]) fun i h3 h4 => ?_
    simp only [selN, List.length_map] at h3 h4
    simp only [selN, List.getElem_map]
    have hi := h.2 i h3
    have e1 : (covP na)[i] = (covP na).getD i 0 := by rw [List.getD_eq_getElem?_getD, List.getElem?_eq_getElem h3]; rfl
    have e2 : (covP nb)[i] = (covP nb).getD i 0 := by rw [List.getD_eq_getElem?_getD, List.getElem?_eq_getElem h4]; rfl
    have e3 : na[k] = na.getD ((k : Nat) : Int).toNat [] := by rw [Int.toNat_natCast, List.getD_eq_getElem?_getD, List.getElem?_eq_getElem h1]; rfl
    have e4 : nb[k] = nb.getD ((k : Nat) : Int).toNat [] := by rw [Int.toNat_natCast, List.getD_eq_getElem?_getD, List.getElem?_eq_getElem h2]; rfl
    rw [e1, e2, e3, e4]
    have hs := (hR.step _ _ hi (k : Int) ⟨by omega, by omega⟩).2
    have m1 := a2 _ (getD_mem h3 0) k h1
    have m2 := b2 _ (getD_mem h4 0) k h2
    show (toT n.toNat (covP na)).getD (stepA na ((covP na).getD i 0) (k : Int)).toNat 0 = (toT n'.toNat (covP nb)).getD (stepA nb ((covP nb).getD i 0) (k : Int)).toNat 0
    have r1 := a1.rg _ m1
    have r2 := b1.rg _ m2
    rw [toT_at m1 (by omega), toT_at m2 (by omega), idx_rel h hR.fn b1.nd hs m1]
  · refine List.ext_getElem (by simp [Ma.len, Mb.len, hR.len]) fun k h1 h2 => ?_
    rw [List.length_map] at h1 h2
    simp only [List.getElem_map]
    refine List.ext_getElem (by simp [selO, h.1]) fun i h3 h4 => ?_
    simp only [selO, List.length_map] at h3 h4
    simp only [selO, List.getElem_map]
    have hi := h.2 i h3
    have e1 : (covP na)[i] = (covP na).getD i 0 := by rw [List.getD_eq_getElem?_getD, List.getElem?_eq_getElem h3]; rfl
    have e2 : (covP nb)[i] = (covP nb).getD i 0 := by rw [List.getD_eq_getElem?_getD, List.getElem?_eq_getElem h4]; rfl
    have e3 : oa[k] = oa.getD ((k : Nat) : Int).toNat [] := by rw [Int.toNat_natCast, List.getD_eq_getElem?_getD, List.getElem?_eq_getElem h1]; rfl
    have e4 : ob[k] = ob.getD ((k : Nat) : Int).toNat [] := by rw [Int.toNat_natCast, List.getD_eq_getElem?_getD, List.getElem?_eq_getElem h2]; rfl
    rw [e1, e2, e3, e4]
    exact (hR.step _ _ hi (k : Int) ⟨by omega, by have := Ma.len; omega⟩).1

/-- A trimmed machine is trimmed already. -/
theorem trm_twice {n o : Int} {next out : List (List Int)} (M : Mach n o next out) :
    (covP (trmN next n.toNat)).length = (covP next).length ∧ trmN (trmN next n.toNat) (covP next).length = trmN next n.toNat ∧ trmU (trmN next n.toNat) (trmU next out) = trmU next out := by
  obtain ⟨h1, h2⟩ := covP_ok M.aut
  have hR : Rel (trmN next n.toNat) (trmU next out) next out fun i s => s ∈ covP next ∧ (toT n.toNat (covP next)).getD s.toNat 0 = i := {
    len := by rw [List.length_map]
    step := fun i s h x hx => by
      rw [List.length_map] at hx
      obtain ⟨a, rfl⟩ := h
      obtain ⟨k1, k2, k3⟩ := trm_sim M s a x hx
      exact ⟨k1, k3, k2.symm⟩
    fn := fun i s t h h' => by
      obtain ⟨a, a2⟩ := h
      obtain ⟨b, b2⟩ := h'
      have ra := h1.rg s a
      have rb := h1.rg t b
      rw [← b2, toT_at a (by omega), toT_at b (by omega)] at a2
      have e1 := (idx_at a).2
      have e2 := (idx_at b).2
      rw [← e1, ← e2]
      congr 1; omega
    inj := fun i i' s h h' => by rw [← h.2, ← h'.2] }
  have := trm_rel (trm_mach M) M hR (by obtain ⟨a, b⟩ := cov_zero M.aut; exact ⟨a, b⟩)
  rwa [Int.toNat_natCast] at this
end Go.Ab

namespace Go.Ab
set_option maxRecDepth 20000

theorem outs_iff2 {n n' : Int} {na nb oa ob : List (List Int)} (T : Two n n' na nb) : ∀ (w : List Int) (s t : Nat), s < n.toNat → t < n'.toNat → isWd na.length w →
    (outsA na oa (s : Int) w = outsA nb ob (t : Int) w ↔ difW na nb oa ob (s, t) w = false)
  | [], _, _, _, _, _ => by simp [outsA, difW]
  | x :: w, s, t, hs, ht, hw => by
    have hx := hw x (by simp)
    have hxl : x.toNat < na.length := by omega
    have hxb : x.toNat < nb.length := by rw [T.len]; exact hxl
    have ra := T.a.row _ (getD_mem hxl [])
    have rb := T.b.row _ (getD_mem hxb [])
    have zs : s < (na.getD x.toNat []).length := by omega
    have zt : t < (nb.getD x.toNat []).length := by omega
    have hs2 := ra.2 _ (getD_mem zs 0)
    have ht2 := rb.2 _ (getD_mem zt 0)
    have es : stepA na (s : Int) x = ((stepP na nb (s, t) x.toNat).1 : Int) := by
      simp only [stepA, stepP, Int.toNat_natCast]; omega
    have et : stepA nb (t : Int) x = ((stepP na nb (s, t) x.toNat).2 : Int) := by
      simp only [stepA, stepP, Int.toNat_natCast]; omega
    have ih := outs_iff2 (oa := oa) (ob := ob) T w (stepP na nb (s, t) x.toNat).1 (stepP na nb (s, t) x.toNat).2 (by simp only [stepP]; omega) (by simp only [stepP]; omega) fun y hy => hw y (List.mem_cons_of_mem _ hy)
    simp only [outsA, difW, List.cons.injEq, es, et, ih, Bool.or_eq_false_iff]
    simp only [outA, difP, Int.toNat_natCast, bne_eq_false_iff_eq]

theorem apart_some {n n' : Int} {na nb oa ob : List (List Int)} (T : Two n n' na nb) {w : List Int} (h : apartQ na nb oa ob 0 0 = some w) :
    isWd na.length w ∧ w.length ≤ 100 ∧ outsA na oa 0 w ≠ outsA nb ob 0 w ∧ ∀ u, isWd na.length u → befP u w = true → outsA na oa 0 u = outsA nb ob 0 u := by
  have n1 := T.a.n1
  have n1' := T.b.n1
  obtain ⟨h1, h2, h3⟩ := apartQ_first h
  refine ⟨h2, (apartQ_len T ⟨by omega, by omega⟩ h).2, fun e => ?_, fun u hu hb => (outs_iff2 T u 0 0 (by omega) (by omega) hu).2 (h3 u hu hb)⟩
  have := (outs_iff2 T w 0 0 (by omega) (by omega) h2).1 e
  rw [h1] at this; cases this

theorem cls_zero {next out : List (List Int)} {n : Nat} (h : 1 ≤ n) : (clsP next out n).2.getD 0 0 = 0 := by
  have e := cls_take next out (k := 1) (m := n) h
  have h1 : (clsP next out 1).2 = [0] := rfl
  have hl := (clsP_len next out n).1
  rw [h1] at e
  have := congrArg (fun l : List Int => l.getD 0 0) e
  rw [List.getD_eq_getElem?_getD (l := List.take 1 _), List.getElem?_take_of_lt (by omega), ← List.getD_eq_getElem?_getD] at this
  exact this.symm

end Go.Ab
