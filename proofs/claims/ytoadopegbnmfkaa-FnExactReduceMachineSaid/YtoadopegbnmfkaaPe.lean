/- The pairs of states to which words lead from one, in the order of their first words, and the first word for which outputs differ. Conditions: none. -/
import Derived.Test.YtoadopegbnmfkaaPc
set_option linter.all false
namespace Go.Ab
set_option maxRecDepth 20000

abbrev PS := List ((Nat × Nat) × List Int)
def stepP (na nb : List (List Int)) (p : Nat × Nat) (x : Nat) : Nat × Nat := (((na.getD x []).getD p.1 0).toNat, ((nb.getD x []).getD p.2 0).toNat)
def eqP (p q : Nat × Nat) : Bool := Nat.beq p.1 q.1 && Nat.beq p.2 q.2
def hasP (L : PS) (p : Nat × Nat) : Bool := L.any fun q => eqP q.1 p
def difP (oa ob : List (List Int)) (p : Nat × Nat) (x : Nat) : Bool := (oa.getD x []).getD p.1 0 != (ob.getD x []).getD p.2 0
def fdP (oa ob : List (List Int)) (p : Nat × Nat) (m : Nat) : Option Nat := (List.range m).find? (difP oa ob p)
def visP (na nb : List (List Int)) (p : Nat × Nat) (w : List Int) : Nat → PS → PS
  | 0, L => L
  | x + 1, L => match visP na nb p w x L with
    | L' => if hasP L' (stepP na nb p x) then L' else L' ++ [(stepP na nb p x, w ++ [(x : Int)])]
def runP (na nb oa ob : List (List Int)) : Nat → Nat → PS → Option (List Int)
  | 0, _, _ => none
  | F + 1, i, L => if i < L.length then (match fdP oa ob (L.getD i ((0, 0), [])).1 na.length with
    | some x => some ((L.getD i ((0, 0), [])).2 ++ [(x : Int)])
    | none => runP na nb oa ob F (i + 1) (visP na nb (L.getD i ((0, 0), [])).1 (L.getD i ((0, 0), [])).2 na.length L)) else none
def apartQ (na nb oa ob : List (List Int)) (s t : Nat) : Option (List Int) := runP na nb oa ob 200 0 [((s, t), [])]

theorem eqP_iff {p q : Nat × Nat} : eqP p q = true ↔ p = q := by
  unfold eqP
  rw [Bool.and_eq_true, Nat.beq_eq, Nat.beq_eq]
  constructor
  · rintro ⟨h1, h2⟩; exact Prod.ext h1 h2
  · rintro rfl; exact ⟨rfl, rfl⟩
theorem hasP_iff {L : PS} {p : Nat × Nat} : hasP L p = true ↔ p ∈ L.map (·.1) := by
  simp only [hasP, List.any_eq_true, List.mem_map]
  constructor
  · rintro ⟨q, hq, h⟩; exact ⟨q, hq, eqP_iff.1 h⟩
  · rintro ⟨q, hq, rfl⟩; exact ⟨q, hq, eqP_iff.2 rfl⟩

/-- What holds of the list that grows. -/
structure PI (a b m : Nat) (L : PS) : Prop where
  nd : (L.map (·.1)).Nodup
  rg : ∀ p ∈ L, p.1.1 < a ∧ p.1.2 < b
  wd : ∀ p ∈ L, (∀ x ∈ p.2, 0 ≤ x ∧ x < m) ∧ p.2.length < L.length

theorem PI.len {a b m : Nat} {L : PS} (h : PI a b m L) (ha : a ≤ 10) (hb : b ≤ 10) : L.length ≤ 100 := by
  have hn : ((L.map (·.1)).map fun p : Nat × Nat => 10 * p.1 + p.2).Nodup := by
    refine List.Pairwise.map _ ?_ (List.Pairwise.and_mem.1 h.nd)
    rintro p q ⟨hp, hq, hpq⟩ e
    obtain ⟨x, hx, rfl⟩ := List.mem_map.1 hp
    obtain ⟨y, hy, rfl⟩ := List.mem_map.1 hq
    have h1 := h.rg x hx
    have h2 := h.rg y hy
    exact hpq (Prod.ext (by omega) (by omega))
  have := nodup_lt 100 _ hn (fun x hx => by
    obtain ⟨p, hp, rfl⟩ := List.mem_map.1 hx
    obtain ⟨q, hq, rfl⟩ := List.mem_map.1 hp
    have := h.rg q hq
    omega)
  simpa using this

theorem PI.add {a b m : Nat} {L : PS} (h : PI a b m L) {to : Nat × Nat} {w : List Int} {x : Int} (ht : to.1 < a ∧ to.2 < b) (hn : hasP L to = false) (hw : (∀ x ∈ w, 0 ≤ x ∧ x < m) ∧ w.length < L.length) (hx : 0 ≤ x ∧ x < m) : PI a b m (L ++ [(to, w ++ [x])]) := by
  refine ⟨?_, ?_, ?_⟩
  · rw [List.map_append, List.nodup_append]
    refine ⟨h.nd, by simp, ?_⟩
    intro a ha b hb e
    simp at hb
    rw [e, hb, ← hasP_iff, hn] at ha
    cases ha
  · intro p hp
    rcases List.mem_append.1 hp with hp | hp
    · exact h.rg p hp
    · have hp : p = (to, w ++ [x]) := by simpa using hp
      rw [hp]; exact ht
  · intro p hp
    rw [List.length_append, List.length_singleton]
    rcases List.mem_append.1 hp with hp | hp
    · have := h.wd p hp
      exact ⟨this.1, by omega⟩
    · have hp : p = (to, w ++ [x]) := by simpa using hp
      subst hp
      refine ⟨fun y hy => ?_, by rw [List.length_append, List.length_singleton]; omega⟩
      rcases List.mem_append.1 hy with hy | hy
      · exact hw.1 y hy
      · have hy : y = x := by simpa using hy
        rw [hy]; exact hx

/-- Automata with the same letters. -/
structure Two (n n' : Int) (na nb : List (List Int)) : Prop where
  a : Aut n na
  b : Aut n' nb
  len : nb.length = na.length

theorem Two.step {n n' : Int} {na nb : List (List Int)} (T : Two n n' na nb) {x : Nat} {p : Nat × Nat} (hx : x < na.length) (hp : p.1 < n.toNat ∧ p.2 < n'.toNat) : (stepP na nb p x).1 < n.toNat ∧ (stepP na nb p x).2 < n'.toNat := by
  have h1 := T.a.row _ (getD_mem hx [])
  have h2 := T.b.row _ (getD_mem (show x < nb.length by rw [T.len]; exact hx) [])
  have n1 := T.a.n1
  have n2 := T.b.n1
  have h3 := h1.2 _ (getD_mem (show p.1 < (na.getD x []).length by omega) 0)
  have h4 := h2.2 _ (getD_mem (show p.2 < (nb.getD x []).length by omega) 0)
  unfold stepP
  dsimp only
  omega

theorem visP_succ {na nb : List (List Int)} {p : Nat × Nat} {w : List Int} {x : Nat} {L : PS} : visP na nb p w (x + 1) L = if hasP (visP na nb p w x L) (stepP na nb p x) then visP na nb p w x L else visP na nb p w x L ++ [(stepP na nb p x, w ++ [(x : Int)])] := rfl

theorem visP_ok {n n' : Int} {na nb : List (List Int)} (T : Two n n' na nb) {L : PS} (h : PI n.toNat n'.toNat na.length L) {i : Nat} (hi : i < L.length) :
    ∀ x, x ≤ na.length → PI n.toNat n'.toNat na.length (visP na nb (L.getD i ((0, 0), [])).1 (L.getD i ((0, 0), [])).2 x L) ∧ ∃ t, visP na nb (L.getD i ((0, 0), [])).1 (L.getD i ((0, 0), [])).2 x L = L ++ t
  | 0, _ => ⟨h, [], by simp [visP]⟩
  | x + 1, hx => by
    obtain ⟨h1, t, h2⟩ := visP_ok T h hi x (by omega)
    have hm := getD_mem hi ((0, 0), ([] : List Int))
    rw [visP_succ]
    cases hh : hasP (visP na nb (L.getD i ((0, 0), [])).1 (L.getD i ((0, 0), [])).2 x L) (stepP na nb (L.getD i ((0, 0), [])).1 x) with
    | true => rw [if_pos rfl]; exact ⟨h1, t, h2⟩
    | false =>
      rw [if_neg (by simp)]
      refine ⟨h1.add (T.step (by omega) (h.rg _ hm)) hh ⟨(h.wd _ hm).1, ?_⟩ (by omega), t ++ [(stepP na nb (L.getD i ((0, 0), [])).1 x, (L.getD i ((0, 0), [])).2 ++ [(x : Int)])], ?_⟩
      · have := (h.wd _ hm).2
        rw [h2, List.length_append]; omega
      · rw [← List.append_assoc, ← h2]

theorem PI0 {a b m s t : Nat} (h : s < a ∧ t < b) : PI a b m [((s, t), [])] := ⟨by simp, by simpa using h, by simp⟩

theorem fdP_none {oa ob : List (List Int)} {p : Nat × Nat} {m : Nat} : fdP oa ob p m = none ↔ ∀ y < m, difP oa ob p y = false := by
  simp [fdP, List.find?_eq_none]
theorem fdP_some {oa ob : List (List Int)} {p : Nat × Nat} : ∀ {m x : Nat}, (∀ y < x, difP oa ob p y = false) → difP oa ob p x = true → x < m → fdP oa ob p m = some x
  | 0, _, _, _, h => by omega
  | m + 1, x, h1, h2, h3 => by
    unfold fdP
    rw [List.range_succ, List.find?_append]
    by_cases h : x < m
    · have := fdP_some h1 h2 h
      unfold fdP at this
      rw [this]; rfl
    · have e : x = m := by omega
      subst e
      have : fdP oa ob p x = none := fdP_none.2 h1
      unfold fdP at this
      rw [this]
      simp [h2]

end Go.Ab
