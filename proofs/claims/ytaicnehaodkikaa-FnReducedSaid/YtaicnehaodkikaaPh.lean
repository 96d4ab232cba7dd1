/- The first word that tells two states apart: that it is the first one, and that it is short, purely. Conditions: none. -/
import Derived.Test.YtaicnehaodkikaaPg
set_option linter.all false
namespace Go.Ab
set_option maxRecDepth 20000

/-! The order of words. -/
theorem lexP_irrefl : ∀ u : List Int, lexP u u = false
  | [] => rfl
  | x :: u => by simp only [lexP, if_pos rfl]; exact lexP_irrefl u
theorem lexP_trans : ∀ {u v w : List Int}, lexP u v = true → lexP v w = true → lexP u w = true
  | [], _, _, h, _ => by simp [lexP] at h
  | _ :: _, [], _, h, _ => by simp [lexP] at h
  | _ :: _, _ :: _, [], _, h => by simp [lexP] at h
  | x :: u, y :: v, z :: w, h1, h2 => by
    simp only [lexP] at h1 h2 ⊢
    by_cases e1 : x = y
    · subst e1
      rw [if_pos rfl] at h1
      by_cases e2 : x = z
      · subst e2
        rw [if_pos rfl] at h2 ⊢
        exact lexP_trans h1 h2
      · rw [if_neg e2] at h2 ⊢; exact h2
    · rw [if_neg e1] at h1
      by_cases e2 : y = z
      · subst e2
        rw [if_neg e1]; exact h1
      · rw [if_neg e2] at h2
        have h1 := of_decide_eq_true h1
        have h2 := of_decide_eq_true h2
        rw [if_neg (by omega)]; exact decide_eq_true (by omega)
theorem lexP_snoc : ∀ {u v : List Int} {x y : Int}, u.length = v.length → lexP u v = true → lexP (u ++ [x]) (v ++ [y]) = true
  | [], _, _, _, _, h => by simp [lexP] at h
  | _ :: _, [], _, _, _, h => by simp [lexP] at h
  | a :: u, b :: v, x, y, hl, h => by
    simp only [lexP, List.cons_append] at h ⊢
    by_cases e : a = b
    · rw [if_pos e] at h ⊢; exact lexP_snoc (by simpa using hl) h
    · rw [if_neg e] at h ⊢; exact h
theorem lexP_last : ∀ {u : List Int} {x y : Int}, x < y → lexP (u ++ [x]) (u ++ [y]) = true
  | [], x, y, h => by
    simp only [List.nil_append, lexP]
    rw [if_neg (by omega)]; exact decide_eq_true h
  | a :: u, x, y, h => by simp only [List.cons_append, lexP, if_pos rfl]; exact lexP_last h

theorem befP_len {u v : List Int} (h : u.length < v.length) : befP u v = true := by
  rw [befP, if_neg (by omega)]; exact decide_eq_true h
theorem befP_le {u v : List Int} (h : befP u v = true) : u.length ≤ v.length := by
  rw [befP] at h
  split at h
  · omega
  · have := of_decide_eq_true h; omega
theorem befP_irrefl (u : List Int) : befP u u = false := by rw [befP, if_pos rfl]; exact lexP_irrefl u
theorem befP_trans {u v w : List Int} (h1 : befP u v = true) (h2 : befP v w = true) : befP u w = true := by
  have l1 := befP_le h1
  have l2 := befP_le h2
  by_cases e : u.length = w.length
  · rw [befP, if_pos (by omega)] at h1 h2 ⊢
    exact lexP_trans h1 h2
  · exact befP_len (by omega)
theorem befP_snoc {u v : List Int} {x y : Int} (h : befP u v = true) : befP (u ++ [x]) (v ++ [y]) = true := by
  have l1 := befP_le h
  by_cases e : u.length = v.length
  · rw [befP, if_pos e] at h
    rw [befP, if_pos (by simp [e])]
    exact lexP_snoc e h
  · exact befP_len (by simp; omega)
theorem befP_last {u : List Int} {x y : Int} (h : x < y) : befP (u ++ [x]) (u ++ [y]) = true := by
  rw [befP, if_pos (by simp)]; exact lexP_last h
def leP (u v : List Int) : Prop := befP u v = true ∨ u = v
theorem leP_trans {u v w : List Int} (h1 : leP u v) (h2 : leP v w) : leP u w := by
  rcases h1 with h1 | rfl
  · rcases h2 with h2 | rfl
    · exact .inl (befP_trans h1 h2)
    · exact .inl h1
  · exact h2
theorem leP_app (u v : List Int) : leP u (u ++ v) := by
  cases v with
  | nil => exact .inr (by simp)
  | cons a v => exact .inl (befP_len (by simp))
theorem leP_not {u v : List Int} (h : leP u v) : befP v u = false := by
  cases hb : befP v u with
  | false => rfl
  | true =>
    rcases h with h | rfl
    · have := befP_trans h hb
      rw [befP_irrefl] at this; cases this
    · rw [befP_irrefl] at hb; cases hb

/-! Words lead from pairs to pairs. -/
def pairW (na nb : List (List Int)) : Nat × Nat → List Int → Nat × Nat
  | p, [] => p
  | p, x :: w => pairW na nb (stepP na nb p x.toNat) w
def difW (na nb oa ob : List (List Int)) : Nat × Nat → List Int → Bool
  | _, [] => false
  | p, x :: w => difP oa ob p x.toNat || difW na nb oa ob (stepP na nb p x.toNat) w
theorem pairW_app {na nb : List (List Int)} : ∀ (u v : List Int) (p : Nat × Nat), pairW na nb p (u ++ v) = pairW na nb (pairW na nb p u) v
  | [], _, _ => rfl
  | x :: u, v, p => by simp only [List.cons_append, pairW, pairW_app u v]
theorem difW_app {na nb oa ob : List (List Int)} : ∀ (u v : List Int) (p : Nat × Nat), difW na nb oa ob p (u ++ v) = (difW na nb oa ob p u || difW na nb oa ob (pairW na nb p u) v)
  | [], _, _ => by simp [difW, pairW]
  | x :: u, v, p => by simp only [List.cons_append, difW, pairW, difW_app u v, Bool.or_assoc]

def isWd (k : Nat) (w : List Int) : Prop := ∀ x ∈ w, 0 ≤ x ∧ x < k

/-- What is so when the list has been followed as far as i. -/
structure BI (na nb oa ob : List (List Int)) (p0 : Nat × Nat) (i : Nat) (L : PS) : Prop where
  ok : ∀ q ∈ L, q.1 = pairW na nb p0 q.2 ∧ difW na nb oa ob p0 q.2 = false ∧ isWd na.length q.2
  so : L.Pairwise fun a b => befP a.2 b.2 = true
  par : ∀ q ∈ L, q.2 = [] ∨ ∃ j < i, ∃ y, q.2 = (L.getD j ((0, 0), [])).2 ++ [y]
  cl : ∀ a < i, ∀ x < na.length, difP oa ob (L.getD a ((0, 0), [])).1 x = false ∧ ∃ q ∈ L, q.1 = stepP na nb (L.getD a ((0, 0), [])).1 x ∧ leP q.2 ((L.getD a ((0, 0), [])).2 ++ [(x : Int)])
  le : i ≤ L.length
  nil : ∃ q ∈ L, q.1 = p0 ∧ q.2 = []

theorem so_lt {L : PS} (h : L.Pairwise fun a b => befP a.2 b.2 = true) {i j : Nat} (hij : i < j) (hj : j < L.length) : befP (L.getD i ((0, 0), [])).2 (L.getD j ((0, 0), [])).2 = true := by
  have := (List.pairwise_iff_getElem.1 h) i j (by omega) hj hij
  rw [List.getD_eq_getElem?_getD, List.getElem?_eq_getElem (show i < L.length by omega), List.getD_eq_getElem?_getD, List.getElem?_eq_getElem hj]
  exact this

theorem BI0 {na nb oa ob : List (List Int)} {p0 : Nat × Nat} : BI na nb oa ob p0 0 [(p0, [])] where
  ok := fun q hq => by rw [List.mem_singleton.1 hq]; exact ⟨rfl, rfl, by simp [isWd]⟩
  so := by simp
  par := fun q hq => by rw [List.mem_singleton.1 hq]; exact .inl rfl
  cl := fun a h => by omega
  le := by simp
  nil := ⟨(p0, []), by simp, rfl, rfl⟩

/-- While the letters of one pair are followed. -/
structure BV (na nb oa ob : List (List Int)) (p0 : Nat × Nat) (i : Nat) (L : PS) (x : Nat) (L' : PS) : Prop where
  sub : ∃ t, L' = L ++ t
  ok : ∀ q ∈ L', q.1 = pairW na nb p0 q.2 ∧ difW na nb oa ob p0 q.2 = false ∧ isWd na.length q.2
  so : L'.Pairwise fun a b => befP a.2 b.2 = true
  par : ∀ q ∈ L', q.2 = [] ∨ (∃ j < i, ∃ y, q.2 = (L.getD j ((0, 0), [])).2 ++ [y]) ∨ ∃ y < x, q.2 = (L.getD i ((0, 0), [])).2 ++ [(y : Int)]
  cl : ∀ y < x, ∃ q ∈ L', q.1 = stepP na nb (L.getD i ((0, 0), [])).1 y ∧ leP q.2 ((L.getD i ((0, 0), [])).2 ++ [(y : Int)])

theorem visP_BV {na nb oa ob : List (List Int)} {p0 : Nat × Nat} {i : Nat} {L : PS} (h : BI na nb oa ob p0 i L) (hi : i < L.length) (hd : ∀ x < na.length, difP oa ob (L.getD i ((0, 0), [])).1 x = false) :
    ∀ x, x ≤ na.length → BV na nb oa ob p0 i L x (visP na nb (L.getD i ((0, 0), [])).1 (L.getD i ((0, 0), [])).2 x L)
  | 0, _ => by
    refine ⟨⟨[], by simp [visP]⟩, h.ok, h.so, fun q hq => ?_, fun y hy => by omega⟩
    rcases h.par q hq with e | ⟨j, hj, y, e⟩
    · exact .inl e
    · exact .inr (.inl ⟨j, hj, y, e⟩)
  | x + 1, hx => by
    have V := visP_BV h hi hd x (by omega)
    have hm := getD_mem hi ((0, 0), ([] : List Int))
    obtain ⟨k1, k2, k3⟩ := h.ok _ hm
    rw [visP_succ]
    generalize visP na nb (L.getD i ((0, 0), [])).1 (L.getD i ((0, 0), [])).2 x L = L' at V ⊢
    generalize hp : L.getD i ((0, 0), []) = p at V hd k1 k2 k3 ⊢
    have hall : ∀ q ∈ L', befP q.2 (p.2 ++ [(x : Int)]) = true := fun q hq => by
      rcases V.par q hq with e | ⟨j, hj, y, e⟩ | ⟨y, hy, e⟩
      · rw [e]; exact befP_len (by simp)
      · rw [e]
        have := so_lt h.so hj hi
        rw [hp] at this
        exact befP_snoc this
      · rw [e, hp]; exact befP_last (by omega)
    split
    · rename_i hh
      obtain ⟨q, hq, e⟩ := List.mem_map.1 (hasP_iff.1 hh)
      refine ⟨V.sub, V.ok, V.so, fun q hq => ?_, fun y hy => ?_⟩
      · rcases V.par q hq with e | e | ⟨y, hy, e⟩
        · exact .inl e
        · exact .inr (.inl e)
        · exact .inr (.inr ⟨y, by omega, e⟩)
      · rw [hp]
        by_cases ey : y < x
        · have := V.cl y ey; rwa [hp] at this
        · have : y = x := by omega
          subst this
          exact ⟨q, hq, e, .inl (hall q hq)⟩
    · obtain ⟨t, ht⟩ := V.sub
      refine ⟨⟨t ++ [(stepP na nb p.1 x, p.2 ++ [(x : Int)])], by rw [ht, List.append_assoc]⟩, fun q hq => ?_, ?_, fun q hq => ?_, fun y hy => ?_⟩
      · rcases List.mem_append.1 hq with hq | hq
        · exact V.ok q hq
        · rw [List.mem_singleton.1 hq]
          dsimp only
          refine ⟨?_, ?_, fun z hz => ?_⟩
          · rw [pairW_app, ← k1]; simp [pairW]
          · rw [difW_app, k2, ← k1]
            have := hd x (by omega)
            simp [difW, this]
          · rcases List.mem_append.1 hz with hz | hz
            · exact k3 z hz
            · rw [List.mem_singleton.1 hz]; omega
      · rw [List.pairwise_append]
        refine ⟨V.so, by simp, fun a ha b hb => ?_⟩
        rw [List.mem_singleton.1 hb]; exact hall a ha
      · rcases List.mem_append.1 hq with hq | hq
        · rcases V.par q hq with e | e | ⟨y, hy, e⟩
          · exact .inl e
          · exact .inr (.inl e)
          · exact .inr (.inr ⟨y, by omega, e⟩)
        · rw [List.mem_singleton.1 hq]
          exact .inr (.inr ⟨x, by omega, by rw [hp]⟩)
      · rw [hp]
        by_cases ey : y < x
        · obtain ⟨q, hq, h1, h2⟩ := V.cl y ey
          rw [hp] at h1 h2
          exact ⟨q, List.mem_append.2 (.inl hq), h1, h2⟩
        · have : y = x := by omega
          subst this
          exact ⟨_, List.mem_append.2 (.inr (List.mem_singleton.2 rfl)), rfl, .inr rfl⟩

theorem BI_succ {na nb oa ob : List (List Int)} {p0 : Nat × Nat} {i : Nat} {L : PS} (h : BI na nb oa ob p0 i L) (hi : i < L.length) (hd : ∀ x < na.length, difP oa ob (L.getD i ((0, 0), [])).1 x = false) :
    BI na nb oa ob p0 (i + 1) (visP na nb (L.getD i ((0, 0), [])).1 (L.getD i ((0, 0), [])).2 na.length L) := by
  have V := visP_BV h hi hd na.length (Nat.le_refl _)
  generalize visP na nb (L.getD i ((0, 0), [])).1 (L.getD i ((0, 0), [])).2 na.length L = L' at V ⊢
  obtain ⟨t, rfl⟩ := V.sub
  have g : ∀ j, j ≤ i → (L ++ t).getD j ((0, 0), []) = L.getD j ((0, 0), []) := fun j hj => getD_app (by omega) _
  refine ⟨V.ok, V.so, fun q hq => ?_, fun a ha x hx => ?_, by rw [List.length_append]; omega, ?_⟩
  · rcases V.par q hq with e | ⟨j, hj, y, e⟩ | ⟨y, hy, e⟩
    · exact .inl e
    · exact .inr ⟨j, by omega, y, by rw [g j (by omega)]; exact e⟩
    · exact .inr ⟨i, by omega, y, by rw [g i (by omega)]; exact e⟩
  · rw [g a (by omega)]
    by_cases e : a < i
    · obtain ⟨h1, q, hq, h2, h3⟩ := h.cl a e x hx
      exact ⟨h1, q, List.mem_append.2 (.inl hq), h2, h3⟩
    · have : a = i := by omega
      subst this
      exact ⟨hd x hx, V.cl x hx⟩
  · obtain ⟨q, hq, h1⟩ := h.nil
    exact ⟨q, List.mem_append.2 (.inl hq), h1⟩

/-- Each word stays among the pairs that were followed, or leaves them. -/
theorem BI_word {na nb oa ob : List (List Int)} {p0 : Nat × Nat} {i : Nat} {L : PS} (h : BI na nb oa ob p0 i L) (m : Nat) (u : List Int) (hl : u.length = m) (hu : isWd na.length u) :
    (difW na nb oa ob p0 u = false ∧ ∃ q ∈ L, q.1 = pairW na nb p0 u ∧ leP q.2 u) ∨
    ∃ u' y r b, u = u' ++ y :: r ∧ i ≤ b ∧ b < L.length ∧ (L.getD b ((0, 0), [])).1 = pairW na nb p0 u' ∧ leP (L.getD b ((0, 0), [])).2 u' := by
  induction m generalizing u with
  | zero =>
    have : u = [] := List.length_eq_zero_iff.1 hl
    subst this
    obtain ⟨q, hq, h1, h2⟩ := h.nil
    exact .inl ⟨rfl, q, hq, h1, .inr h2⟩
  | succ m ih =>
    have hne : u ≠ [] := fun e => by rw [e] at hl; simp at hl
    obtain ⟨v, x, rfl⟩ : ∃ v x, u = v ++ [x] := ⟨u.dropLast, u.getLast hne, (List.dropLast_concat_getLast hne).symm⟩
    have hvl : v.length = m := by simpa using hl
    have hx := hu x (by simp)
    rcases ih v hvl (fun z hz => hu z (List.mem_append.2 (.inl hz))) with ⟨h1, q, hq, h2, h3⟩ | ⟨u', y, r, b, h1, h2, h3, h4, h5⟩
    · obtain ⟨b, hb, rfl⟩ := List.getElem_of_mem hq
      have hg : L.getD b ((0, 0), []) = L[b] := by rw [List.getD_eq_getElem?_getD, List.getElem?_eq_getElem hb]; rfl
      by_cases e : b < i
      · obtain ⟨c1, q2, hq2, c2, c3⟩ := h.cl b e x.toNat (by omega)
        rw [hg] at c1 c2 c3
        have ex : ((x.toNat : Nat) : Int) = x := by omega
        rw [ex] at c3
        refine .inl ⟨?_, q2, hq2, ?_, ?_⟩
        · rw [difW_app, h1, ← h2]; simp [difW, c1]
        · rw [pairW_app, ← h2, c2]; rfl
        · refine leP_trans c3 ?_
          rcases h3 with h3 | h3
          · exact .inl (befP_snoc h3)
          · rw [h3]; exact .inr rfl
      · exact .inr ⟨v, x, [], b, rfl, by omega, hb, by rw [hg]; exact h2, by rw [hg]; exact h3⟩
    · exact .inr ⟨u', y, r ++ [x], b, by rw [h1]; simp, h2, h3, h4, h5⟩

theorem runP_first {na nb oa ob : List (List Int)} {p0 : Nat × Nat} : ∀ (F i : Nat) (L : PS) (w : List Int), BI na nb oa ob p0 i L → runP na nb oa ob F i L = some w →
    difW na nb oa ob p0 w = true ∧ isWd na.length w ∧ ∀ u, isWd na.length u → befP u w = true → difW na nb oa ob p0 u = false
  | 0, _, _, _, _, h => by simp [runP] at h
  | F + 1, i, L, w, hB, h => by
    simp only [runP] at h
    split at h
    · rename_i hi
      have hm := getD_mem hi ((0, 0), ([] : List Int))
      split at h
      · rename_i x hf
        cases h
        have hx : x < na.length := by simpa using List.mem_of_find?_eq_some hf
        have hdx : difP oa ob (L.getD i ((0, 0), [])).1 x = true := List.find?_some hf
        have hbef : ∀ y < x, difP oa ob (L.getD i ((0, 0), [])).1 y = false := fun y hy => by
          obtain ⟨_, la, lb, hab, hno⟩ := List.find?_eq_some_iff_append.1 hf
          have hl : la.length = x := by
            have e1 : (List.range na.length)[la.length]? = some x := by rw [hab]; simp
            have e2 : la.length < na.length := by
              have := congrArg List.length hab
              simp at this; omega
            rw [List.getElem?_range e2] at e1
            simpa using e1
          have e3 : la = List.range x := by
            have e4 : (List.range na.length).take la.length = la := by rw [hab]; simp
            rw [List.take_range, hl, Nat.min_eq_left (by omega)] at e4
            exact e4.symm
          have := hno y (by rw [e3]; simpa using hy)
          simpa using this
        obtain ⟨k1, k2, k3⟩ := hB.ok _ hm
        have hso : ∀ b, i ≤ b → b < L.length → leP (L.getD i ((0, 0), [])).2 (L.getD b ((0, 0), [])).2 := fun b h1 h2 => by
          by_cases e : i = b
          · subst e; exact .inr rfl
          · exact .inl (so_lt hB.so (by omega) h2)
        generalize L.getD i ((0, 0), []) = p at hdx hbef k1 k2 k3 hso ⊢
        refine ⟨?_, fun z hz => ?_, fun u hu hlt => ?_⟩
        · rw [difW_app, k2, ← k1]; simp [difW, hdx]
        · rcases List.mem_append.1 hz with hz | hz
          · exact k3 z hz
          · rw [List.mem_singleton.1 hz]; omega
        · cases hdu : difW na nb oa ob p0 u with
          | false => rfl
          | true =>
            exfalso
            rcases BI_word hB u.length u rfl hu with ⟨h1, _⟩ | ⟨u', y, r, b, rfl, h2, h3, h4, h5⟩
            · rw [hdu] at h1; cases h1
            · have hy := hu y (by simp)
              have hle := leP_trans (hso b h2 h3) h5
              have hua : leP (u' ++ [y]) (u' ++ y :: r) := by
                have : u' ++ y :: r = (u' ++ [y]) ++ r := by simp
                rw [this]; exact leP_app _ _
              rcases hle with hle | hle
              · have := leP_not (leP_trans (.inl (befP_snoc (x := (x : Int)) (y := y) hle)) hua)
                rw [hlt] at this; cases this
              · rw [← hle] at hua hlt hdu
                rcases Int.lt_trichotomy y x with hyx | hyx | hyx
                · have hd0 := hbef y.toNat (by omega)
                  rw [difW_app, k2, ← k1] at hdu
                  simp only [difW, hd0, Bool.false_or] at hdu
                  have hr : r ≠ [] := fun e => by rw [e] at hdu; simp [difW] at hdu
                  have hrl : 0 < r.length := List.length_pos_iff.2 hr
                  have := befP_le hlt
                  rw [List.length_append, List.length_append, List.length_cons, List.length_singleton] at this; omega
                · rw [hyx] at hua
                  have := leP_not hua
                  rw [hyx] at hlt
                  rw [hlt] at this; cases this
                · have := leP_not (leP_trans (.inl (befP_last (u := p.2) hyx)) hua)
                  rw [hlt] at this; cases this
      · rename_i hf
        have hd : ∀ x < na.length, difP oa ob (L.getD i ((0, 0), [])).1 x = false := fdP_none.1 hf
        exact runP_first F (i + 1) _ w (BI_succ hB hi hd) h
    · cases h

theorem apartQ_first {na nb oa ob : List (List Int)} {s t : Nat} {w : List Int} (h : apartQ na nb oa ob s t = some w) :
    difW na nb oa ob (s, t) w = true ∧ isWd na.length w ∧ ∀ u, isWd na.length u → befP u w = true → difW na nb oa ob (s, t) u = false := runP_first 200 0 _ w BI0 h
theorem difW_bis {na nb oa ob : List (List Int)} {R : Nat × Nat → Prop} (B : Bis na nb oa ob R) : ∀ (w : List Int) (p : Nat × Nat), R p → isWd na.length w → difW na nb oa ob p w = false
  | [], _, _, _ => rfl
  | x :: w, p, hp, hw => by
    have hx := hw x (by simp)
    have := B p hp x.toNat (by omega)
    simp only [difW, this.1, Bool.false_or]
    exact difW_bis B w _ this.2 fun y hy => hw y (List.mem_cons_of_mem _ hy)

/-! Words of a single machine: outputs of states. -/
theorem outs_iff {n o : Int} {next out : List (List Int)} (A : Aut n next) : ∀ (w : List Int) (s t : Nat), s < n.toNat → t < n.toNat → isWd next.length w →
    (outsA next out (s : Int) w = outsA next out (t : Int) w ↔ difW next next out out (s, t) w = false)
  | [], _, _, _, _, _ => by simp [outsA, difW]
  | x :: w, s, t, hs, ht, hw => by
    have hx := hw x (by simp)
    have hxl : x.toNat < next.length := by omega
    have r := A.row _ (getD_mem hxl [])
    have zs : s < (next.getD x.toNat []).length := by omega
    have zt : t < (next.getD x.toNat []).length := by omega
    have hs2 := r.2 _ (getD_mem zs 0)
    have ht2 := r.2 _ (getD_mem zt 0)
    have es : stepA next (s : Int) x = ((stepP next next (s, t) x.toNat).1 : Int) := by
      simp only [stepA, stepP, Int.toNat_natCast]; omega
    have et : stepA next (t : Int) x = ((stepP next next (s, t) x.toNat).2 : Int) := by
      simp only [stepA, stepP, Int.toNat_natCast]; omega
    have ih := outs_iff (o := o) (out := out) A w (stepP next next (s, t) x.toNat).1 (stepP next next (s, t) x.toNat).2 (by simp only [stepP]; omega) (by simp only [stepP]; omega) fun y hy => hw y (List.mem_cons_of_mem _ hy)
    simp only [outsA, difW, List.cons.injEq, es, et, ih, Bool.or_eq_false_iff]
    simp only [outA, difP, Int.toNat_natCast, bne_eq_false_iff_eq]

end Go.Ab
