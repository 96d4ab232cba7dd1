/- Sets as bits, and the sets to which words lead from one, in the order of their first words. Conditions: none. -/
import Derived.Test.YtoadopegbnmfkaaPb
set_option linter.all false
namespace Go.Ab
set_option maxRecDepth 20000

abbrev TS := List (Nat × List Int)
def hasT (L : TS) (f : Nat) : Bool := L.any fun p => Nat.beq p.1 f
theorem hasT_iff {L : TS} {f : Nat} : hasT L f = true ↔ f ∈ L.map (·.1) := by
  simp only [hasT, List.any_eq_true, List.mem_map]
  constructor
  · rintro ⟨p, hp, h⟩; exact ⟨p, hp, Nat.eq_of_beq_eq_true h⟩
  · rintro ⟨p, hp, rfl⟩; exact ⟨p, hp, Nat.beq_refl _⟩

/-- What holds of the list that grows. -/
structure TI (N m : Nat) (L : TS) : Prop where
  nd : (L.map (·.1)).Nodup
  rg : ∀ p ∈ L, p.1 < 2 ^ N
  wd : ∀ p ∈ L, (∀ x ∈ p.2, 0 ≤ x ∧ x < m) ∧ p.2.length < L.length

theorem nodup_lt : ∀ (n : Nat) (l : List Nat), l.Nodup → (∀ x ∈ l, x < n) → l.length ≤ n
  | 0, l, _, h => by
    cases l with
    | nil => simp
    | cons x l => exact absurd (h x (by simp)) (by omega)
  | n + 1, l, hd, h => by
    by_cases hm : n ∈ l
    · have h1 := List.length_erase_of_mem hm
      have h2 := nodup_lt n (l.erase n) (hd.erase n) (fun x hx => by
        rw [hd.mem_erase_iff] at hx
        have := h x hx.2; omega)
      omega
    · have := nodup_lt n l hd (fun x hx => by
        have h1 := h x hx
        have : x ≠ n := fun e => hm (e ▸ hx)
        omega)
      omega
theorem TI.len {N m : Nat} {L : TS} (h : TI N m L) : L.length ≤ 2 ^ N := by
  have := nodup_lt (2 ^ N) (L.map (·.1)) h.nd (fun x hx => by
    obtain ⟨p, hp, rfl⟩ := List.mem_map.1 hx
    exact h.rg p hp)
  simpa using this

theorem TI.add {N m : Nat} {L : TS} (h : TI N m L) {to : Nat} {w : List Int} {x : Int} (ht : to < 2 ^ N) (hn : hasT L to = false) (hw : (∀ x ∈ w, 0 ≤ x ∧ x < m) ∧ w.length < L.length) (hx : 0 ≤ x ∧ x < m) : TI N m (L ++ [(to, w ++ [x])]) := by
  refine ⟨?_, ?_, ?_⟩
  · rw [List.map_append, List.nodup_append]
    refine ⟨h.nd, by simp, ?_⟩
    intro a ha b hb e
    simp at hb
    rw [e, hb, ← hasT_iff, hn] at ha
    cases ha
  · intro p hp
    rcases List.mem_append.1 hp with hp | hp
    · exact h.rg p hp
    · have hp : p = (to, w ++ [x]) := by simpa using hp
      rw [hp]; exact ht
  · intro p hp
    rw [List.length_append, List.length_singleton]
    rcases List.mem_append.1 hp with hp | hp
    · have := h.wd p hp
      exact ⟨this.1, by omega⟩
    · have hp : p = (to, w ++ [x]) := by simpa using hp
      subst hp
      refine ⟨fun y hy => ?_, by rw [List.length_append, List.length_singleton]; omega⟩
      rcases List.mem_append.1 hy with hy | hy
      · exact hw.1 y hy
      · have hy : y = x := by simpa using hy
        rw [hy]; exact hx

theorem getD_app {α : Type} {L t : List α} {i : Nat} (h : i < L.length) (d : α) : (L ++ t).getD i d = L.getD i d := by
  rw [List.getD_eq_getElem?_getD, List.getElem?_append_left h, ← List.getD_eq_getElem?_getD]

end Go.Ab
