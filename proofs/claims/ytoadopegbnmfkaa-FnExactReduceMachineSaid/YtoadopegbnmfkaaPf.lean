/- Equivalent states, purely: the classes of the program and of the specification. Conditions: none. -/
import Derived.Test.YtoadopegbnmfkaaPe
set_option linter.all false
namespace Go.Ab
set_option maxRecDepth 20000

/-- A relation that letters keep, between states with the same outputs. -/
def Bis (na nb oa ob : List (List Int)) (R : Nat × Nat → Prop) : Prop := ∀ p, R p → ∀ x < na.length, difP oa ob p x = false ∧ R (stepP na nb p x)

theorem visP_in {na nb oa ob : List (List Int)} {R : Nat × Nat → Prop} (B : Bis na nb oa ob R) {p : Nat × Nat} (hp : R p) {w : List Int} {L : PS} (hL : ∀ q ∈ L, R q.1) : ∀ x, x ≤ na.length → ∀ q ∈ visP na nb p w x L, R q.1
  | 0, _, q, h => hL q h
  | x + 1, hx, q, h => by
    have ih := visP_in B hp (w := w) hL x (by omega)
    rw [visP_succ] at h
    split at h
    · exact ih q h
    · rcases List.mem_append.1 h with h | h
      · exact ih q h
      · rw [List.mem_singleton.1 h]
        exact (B p hp x (by omega)).2
theorem runP_bis {na nb oa ob : List (List Int)} {R : Nat × Nat → Prop} (B : Bis na nb oa ob R) : ∀ (F i : Nat) (L : PS), (∀ q ∈ L, R q.1) → runP na nb oa ob F i L = none
  | 0, _, _, _ => rfl
  | F + 1, i, L, hL => by
    simp only [runP]
    split
    · rename_i hi
      have hp := hL _ (getD_mem hi ((0, 0), ([] : List Int)))
      rw [fdP_none.2 fun x hx => (B _ hp x hx).1]
      exact runP_bis B F (i + 1) _ (visP_in B hp hL na.length (Nat.le_refl _))
    · rfl

theorem visP_has {na nb : List (List Int)} {p : Nat × Nat} {w : List Int} {L : PS} : ∀ x y, y < x → stepP na nb p y ∈ (visP na nb p w x L).map (·.1)
  | 0, y, h => by omega
  | x + 1, y, h => by
    rw [visP_succ]
    by_cases e : y < x
    · have ih := visP_has (na := na) (nb := nb) (p := p) (w := w) (L := L) x y e
      split
      · exact ih
      · rw [List.map_append]; exact List.mem_append.2 (.inl ih)
    · have : y = x := by omega
      subst this
      split
      · rename_i h1; exact hasP_iff.1 h1
      · simp
theorem visP_sub {na nb : List (List Int)} {p : Nat × Nat} {w : List Int} {L : PS} : ∀ x, ∃ t, visP na nb p w x L = L ++ t
  | 0 => ⟨[], by simp [visP]⟩
  | x + 1 => by
    obtain ⟨t, h⟩ := visP_sub (na := na) (nb := nb) (p := p) (w := w) (L := L) x
    rw [visP_succ]
    split
    · exact ⟨t, h⟩
    · exact ⟨t ++ [(stepP na nb p x, w ++ [(x : Int)])], by rw [h, List.append_assoc]⟩

/-- Where no word is found, the pairs that were met are such a relation. -/
theorem runP_none {n n' : Int} {na nb oa ob : List (List Int)} (T : Two n n' na nb) : ∀ (F i : Nat) (L : PS), PI n.toNat n'.toNat na.length L → F + i = 200 → i ≤ L.length →
    (∀ k < i, ∀ x < na.length, difP oa ob (L.getD k ((0, 0), [])).1 x = false ∧ stepP na nb (L.getD k ((0, 0), [])).1 x ∈ L.map (·.1)) → runP na nb oa ob F i L = none →
    ∃ R, Bis na nb oa ob R ∧ ∀ q ∈ L, R q.1
  | 0, i, L, hI, hF, hi, _, _ => by
    have := hI.len (by have := T.a.n2; omega) (by have := T.b.n2; omega)
    omega
  | F + 1, i, L, hI, hF, hi, hd, h => by
    have hlen := hI.len (by have := T.a.n2; omega) (by have := T.b.n2; omega)
    simp only [runP] at h
    split at h
    · rename_i hlt
      split at h
      · cases h
      · rename_i hfd
        obtain ⟨t, ht⟩ := visP_sub (na := na) (nb := nb) (p := (L.getD i ((0, 0), [])).1) (w := (L.getD i ((0, 0), [])).2) (L := L) na.length
        have hok := (visP_ok T hI hlt na.length (Nat.le_refl _)).1
        obtain ⟨R, hB, hR⟩ := runP_none T F (i + 1) _ hok (by omega) (by rw [ht, List.length_append]; omega) (fun k hk x hx => by
          by_cases e : k < i
          · have := hd k e x hx
            rw [ht, getD_app (by omega)]
            refine ⟨this.1, ?_⟩
            rw [List.map_append]; exact List.mem_append.2 (.inl this.2)
          · have : k = i := by omega
            subst this
            have h2 : (visP na nb (L.getD k ((0, 0), [])).1 (L.getD k ((0, 0), [])).2 na.length L).getD k ((0, 0), []) = L.getD k ((0, 0), []) := by rw [ht, getD_app hlt]
            rw [h2]
            exact ⟨fdP_none.1 hfd x hx, visP_has na.length x hx⟩) h
        exact ⟨R, hB, fun q hq => hR q (by rw [ht]; exact List.mem_append.2 (.inl hq))⟩
    · rename_i hge
      refine ⟨fun p => p ∈ L.map (·.1), ?_, fun q hq => List.mem_map.2 ⟨q, hq, rfl⟩⟩
      intro p hp x hx
      obtain ⟨q, hq, rfl⟩ := List.mem_map.1 hp
      obtain ⟨k, hk, rfl⟩ := List.getElem_of_mem hq
      have := hd k (by omega) x hx
      rw [show L.getD k ((0, 0), []) = L[k] by rw [List.getD_eq_getElem?_getD, List.getElem?_eq_getElem hk]; rfl] at this
      exact this

theorem apartQ_iff {n n' : Int} {na nb oa ob : List (List Int)} (T : Two n n' na nb) {s t : Nat} (h : s < n.toNat ∧ t < n'.toNat) : apartQ na nb oa ob s t = none ↔ ∃ R, Bis na nb oa ob R ∧ R (s, t) := by
  constructor
  · intro h1
    obtain ⟨R, hB, hR⟩ := runP_none T 200 0 [((s, t), [])] (PI0 h) rfl (by simp) (fun k hk => by omega) h1
    exact ⟨R, hB, hR ((s, t), []) (by simp)⟩
  · rintro ⟨R, hB, hR⟩
    exact runP_bis hB 200 0 _ (fun q hq => by rw [List.mem_singleton.1 hq]; exact hR)

/-- Whether two states of a machine are equivalent. -/
def eqvP (next out : List (List Int)) (s t : Nat) : Bool := (apartQ next next out out s t).isNone
theorem eqvP_iff {n : Int} {next out : List (List Int)} (A : Aut n next) {s t : Nat} (h : s < n.toNat ∧ t < n.toNat) : eqvP next out s t = true ↔ ∃ R, Bis next next out out R ∧ R (s, t) := by
  rw [eqvP, Option.isNone_iff_eq_none]
  exact apartQ_iff ⟨A, A, rfl⟩ h
theorem eqvP_trans {n : Int} {next out : List (List Int)} (A : Aut n next) {s t u : Nat} (hs : s < n.toNat) (ht : t < n.toNat) (hu : u < n.toNat) (h1 : eqvP next out s t = true) (h2 : eqvP next out t u = true) : eqvP next out s u = true := by
  obtain ⟨R, hB, hR⟩ := (eqvP_iff A ⟨hs, ht⟩).1 h1
  obtain ⟨Q, hC, hQ⟩ := (eqvP_iff A ⟨ht, hu⟩).1 h2
  refine (eqvP_iff A ⟨hs, hu⟩).2 ⟨fun p => ∃ b, R (p.1, b) ∧ Q (b, p.2), ?_, t, hR, hQ⟩
  rintro ⟨a, c⟩ ⟨b, hab, hbc⟩ x hx
  have h3 := hB _ hab x hx
  have h4 := hC _ hbc x hx
  refine ⟨?_, (stepP next next (a, b) x).2, h3.2, ?_⟩
  · have e1 := h3.1
    have e2 := h4.1
    simp only [difP, bne_eq_false_iff_eq] at e1 e2 ⊢
    rw [e1, e2]
  · exact h4.2

/-- The first state ahead of a state that is equivalent to it; else the state. -/
def repP (next out : List (List Int)) (s : Nat) : Nat := ((List.range s).find? (eqvP next out s)).getD s
/-- The keys and the numbers behind some states: as the program goes on. -/
def numP (next out : List (List Int)) : Nat → List Nat × List Int
  | 0 => ([], [])
  | k + 1 => match numP next out k with
    | (ks, r) => if repP next out k ∈ ks then (ks, r ++ [(ks.idxOf (repP next out k) : Int)]) else (ks ++ [repP next out k], r ++ [(ks.length : Int)])
/-- The count and the numbers: as the specification goes on. -/
def clsP (next out : List (List Int)) : Nat → Nat × List Int
  | 0 => (0, [])
  | k + 1 => match clsP next out k with
    | (c, r) => match (List.range k).find? (eqvP next out k) with
      | some t => (c, r ++ [r.getD t 0])
      | none => (c + 1, r ++ [(c : Int)])

theorem repP_some {next out : List (List Int)} {k t : Nat} (h : (List.range k).find? (eqvP next out k) = some t) : repP next out k = t := by rw [repP, h]; rfl
theorem repP_none {next out : List (List Int)} {k : Nat} (h : (List.range k).find? (eqvP next out k) = none) : repP next out k = k := by rw [repP, h]; rfl

theorem numP_cls {n : Int} {next out : List (List Int)} (A : Aut n next) : ∀ k, k ≤ n.toNat → (numP next out k).2 = (clsP next out k).2 ∧ (clsP next out k).1 = (numP next out k).1.length ∧ (numP next out k).2.length = k ∧
    (∀ x ∈ (numP next out k).1, x < k) ∧ (numP next out k).1.Nodup ∧ ∀ j < k, repP next out j ∈ (numP next out k).1 ∧ (numP next out k).2.getD j 0 = ((numP next out k).1.idxOf (repP next out j) : Int)
  | 0, _ => ⟨rfl, rfl, rfl, by simp [numP], by simp [numP], fun j h => by omega⟩
  | k + 1, hk => by
    obtain ⟨h1, h2, h3, h4, h5, h6⟩ := numP_cls A k (by omega)
    simp only [numP, clsP]
    generalize numP next out k = N at h1 h2 h3 h4 h5 h6 ⊢
    generalize clsP next out k = C at h1 h2 ⊢
    obtain ⟨ks, r⟩ := N
    obtain ⟨c, r'⟩ := C
    dsimp only at h1 h2 h3 h4 h5 h6
    subst h1 h2
    dsimp only
    cases hf : (List.range k).find? (eqvP next out k) with
    | some t =>
      have hr := repP_some hf
      have ht : t < k := by simpa using List.mem_of_find?_eq_some hf
      have het : eqvP next out k t = true := List.find?_some hf
      have htt : repP next out t = t := by
        refine repP_none (List.find?_eq_none.2 fun u hu he => ?_)
        have hu : u < t := by simpa using hu
        have h7 := eqvP_trans A (show k < n.toNat by omega) (show t < n.toNat by omega) (show u < n.toNat by omega) het he
        have h8 := List.find?_eq_some_iff_append.1 hf
        obtain ⟨_, la, lb, hab, hno⟩ := h8
        have hmem : u ∈ la := by
          have hl : la.length = t := by
            have e1 : (List.range k)[la.length]? = some t := by rw [hab]; simp
            have e2 : la.length < k := by
              have := congrArg List.length hab
              simp at this; omega
            rw [List.getElem?_range e2] at e1
            simpa using e1
          have e3 : la = List.range t := by
            have e4 : (List.range k).take la.length = la := by rw [hab]; simp
            rw [List.take_range, hl, Nat.min_eq_left (by omega)] at e4
            exact e4.symm
          rw [e3]; simpa using hu
        have := hno u hmem
        rw [h7] at this
        simp at this
      obtain ⟨h7, h8⟩ := h6 t ht
      rw [htt] at h7 h8
      rw [hr, if_pos h7]
      dsimp only
      refine ⟨by rw [h8], rfl, by rw [List.length_append, h3]; rfl, fun x hx => by have := h4 x hx; omega, h5, fun j hj => ?_⟩
      by_cases e : j < k
      · rw [getD_app (by omega)]; exact h6 j e
      · have : j = k := by omega
        subst this
        rw [hr]
        refine ⟨h7, ?_⟩
        rw [List.getD_eq_getElem?_getD, List.getElem?_append_right (by omega), h3]; simp
    | none =>
      have hr := repP_none hf
      have hnk : k ∉ ks := fun h => by have := h4 k h; omega
      rw [hr, if_neg hnk]
      dsimp only
      refine ⟨rfl, by rw [List.length_append]; rfl, by rw [List.length_append, h3]; rfl, fun x hx => ?_, ?_, fun j hj => ?_⟩
      · rcases List.mem_append.1 hx with h | h
        · have := h4 x h; omega
        · have : x = k := by simpa using h
          omega
      · rw [List.nodup_append]
        refine ⟨h5, by simp, fun a ha b hb e => ?_⟩
        have : b = k := by simpa using hb
        exact hnk (this ▸ e ▸ ha)
      · by_cases e : j < k
        · obtain ⟨h7, h8⟩ := h6 j e
          refine ⟨List.mem_append.2 (.inl h7), ?_⟩
          rw [getD_app (by omega), h8, List.idxOf_append, if_pos h7]
        · have : j = k := by omega
          subst this
          rw [hr]
          refine ⟨by simp, ?_⟩
          rw [List.idxOf_append, if_neg hnk, List.getD_eq_getElem?_getD, List.getElem?_append_right (by omega), h3]
          simp
end Go.Ab
