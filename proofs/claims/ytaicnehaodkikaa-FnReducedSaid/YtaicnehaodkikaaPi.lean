/- What a distinguishing word says, and what the classes say, purely. Conditions: none. -/
import Derived.Test.YtaicnehaodkikaaPh
set_option linter.all false
namespace Go.Ab
set_option maxRecDepth 20000

theorem eqvP_outs {n : Int} {next out : List (List Int)} (A : Aut n next) {s t : Nat} (hs : s < n.toNat) (ht : t < n.toNat) : eqvP next out s t = true ↔ ∀ w, isWd next.length w → outsA next out (s : Int) w = outsA next out (t : Int) w := by
  constructor
  · intro h w hw
    obtain ⟨R, B, hR⟩ := (eqvP_iff A ⟨hs, ht⟩).1 h
    exact (outs_iff (o := 0) A w s t hs ht hw).2 (difW_bis B w _ hR hw)
  · intro h
    cases ha : apartQ next next out out s t with
    | none => rw [eqvP, ha]; rfl
    | some w =>
      obtain ⟨h1, h2, _⟩ := apartQ_first ha
      have := (outs_iff (o := 0) A w s t hs ht h2).1 (h w h2)
      rw [h1] at this; cases this

theorem repP_spec {n : Int} {next out : List (List Int)} (A : Aut n next) {s : Nat} (hs : s < n.toNat) : repP next out s ≤ s ∧ eqvP next out s (repP next out s) = true ∧ ∀ u < repP next out s, eqvP next out s u = false := by
  cases hf : (List.range s).find? (eqvP next out s) with
  | some t =>
    rw [repP_some hf]
    have ht : t < s := by simpa using List.mem_of_find?_eq_some hf
    refine ⟨by omega, List.find?_some hf, fun u hu => ?_⟩
    obtain ⟨_, la, lb, hab, hno⟩ := List.find?_eq_some_iff_append.1 hf
    have hl : la.length = t := by
      have e1 : (List.range s)[la.length]? = some t := by rw [hab]; simp
      have e2 : la.length < s := by
        have := congrArg List.length hab
        simp at this; omega
      rw [List.getElem?_range e2] at e1
      simpa using e1
    have e3 : la = List.range t := by
      have e4 : (List.range s).take la.length = la := by rw [hab]; simp
      rw [List.take_range, hl, Nat.min_eq_left (by omega)] at e4
      exact e4.symm
    have := hno u (by rw [e3]; simpa using hu)
    simpa using this
  | none =>
    rw [repP_none hf]
    refine ⟨Nat.le_refl _, (eqvP_outs A hs hs).2 fun _ _ => rfl, fun u hu => ?_⟩
    have := List.find?_eq_none.1 hf u (by simpa using hu)
    simpa using this

theorem repP_eq {n : Int} {next out : List (List Int)} (A : Aut n next) {s t : Nat} (hs : s < n.toNat) (ht : t < n.toNat) : repP next out s = repP next out t ↔ eqvP next out s t = true := by
  obtain ⟨a1, a2, a3⟩ := repP_spec (out := out) A hs
  obtain ⟨b1, b2, b3⟩ := repP_spec (out := out) A ht
  rw [eqvP_outs A hs (by omega)] at a2
  rw [eqvP_outs A ht (by omega)] at b2
  constructor
  · intro h
    rw [eqvP_outs A hs ht]
    intro w hw
    rw [a2 w hw, h, b2 w hw]
  · intro h
    rw [eqvP_outs A hs ht] at h
    rcases Nat.lt_trichotomy (repP next out s) (repP next out t) with e | e | e
    · have := b3 _ e
      rw [(eqvP_outs A ht (by omega)).2 fun w hw => by rw [← h w hw, a2 w hw]] at this
      cases this
    · exact e
    · have := a3 _ e
      rw [(eqvP_outs A hs (by omega)).2 fun w hw => by rw [h w hw, b2 w hw]] at this
      cases this

theorem cls_eq {n : Int} {next out : List (List Int)} (A : Aut n next) {s t : Nat} (hs : s < n.toNat) (ht : t < n.toNat) :
    (numP next out n.toNat).2.getD s 0 = (numP next out n.toNat).2.getD t 0 ↔ eqvP next out s t = true := by
  obtain ⟨_, _, _, _, _, h6⟩ := numP_cls (out := out) A n.toNat (Nat.le_refl _)
  obtain ⟨s1, s2⟩ := h6 s hs
  obtain ⟨t1, t2⟩ := h6 t ht
  rw [s2, t2, ← repP_eq A hs ht]
  constructor
  · intro h
    have h : (numP next out n.toNat).1.idxOf (repP next out s) = (numP next out n.toNat).1.idxOf (repP next out t) := by omega
    have e1 := List.getElem_idxOf (List.idxOf_lt_length_of_mem s1)
    have e2 := List.getElem_idxOf (List.idxOf_lt_length_of_mem t1)
    rw [← e1, ← e2]
    exact getElem_congr rfl h _
  · intro h; rw [h]
end Go.Ab
