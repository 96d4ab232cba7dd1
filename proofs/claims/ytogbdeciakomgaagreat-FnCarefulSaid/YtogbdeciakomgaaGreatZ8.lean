/- Contracts and what they lean on, part 8. Conditions: none. -/
import Derived.OrdersHeld
import Derived.Test.YtogbdeciakomgaaGreatZ7
set_option maxRecDepth 100000
set_option maxHeartbeats 4000000
set_option linter.all false
open Nat (reduceLeDiff reduceMul reduceSub reduceEqDiff reduceAdd)
open Int (reduceToNat reduceNeg reduceLE)
namespace Go.Ab
open Go.Proofs
theorem bitsTo_eq {f : Nat} : bitsTo f 10 = (bitsN f).map fun (s : Nat) => (s : Int) := rfl
theorem mem_bitsTo {f : Nat} {x : Int} : x ∈ bitsTo f 10 ↔ 0 ≤ x ∧ x < 10 ∧ f.testBit x.toNat = true := by
  rw [bitsTo_eq, List.mem_map]
  constructor
  · rintro ⟨s, hs, rfl⟩
    rw [mem_bits] at hs
    exact ⟨by omega, by omega, by rw [Int.toNat_natCast]; exact hs.2⟩
  · rintro ⟨h1, h2, h3⟩
    exact ⟨x.toNat, mem_bits.2 ⟨by omega, h3⟩, by omega⟩
theorem bitsTo_pos {f : Nat} (hf : f < 1024) : decide ((bitsTo f 10).length > 0) = !(Nat.beq f 0) := by
  have h : ∀ f : Fin 1024, decide ((bitsTo f 10).length > 0) = !(Nat.beq f 0) := by decide +kernel
  exact h ⟨f, hf⟩
theorem bitsTo_one {f : Nat} (hf : f < 1024) : decide ((bitsTo f 10).length = 1) = (!(Nat.beq f 0) && smallN f) := by
  have h : ∀ f : Fin 1024, decide ((bitsTo f 10).length = 1) = (!(Nat.beq f 0) && smallN f) := by decide +kernel
  exact h ⟨f, hf⟩
def pth (next : List (List Int)) : Int → List Int → Option Int
  | s, [] => some s
  | s, l :: w => if (next.getD l.toNat []).getD s.toNat 0 < 0 then none else pth next ((next.getD l.toNat []).getD s.toNat 0) w
theorem stp_bit {n : Int} {next : List (List Int)} (P : Prt n next) {l f g : Nat} (hl : l < next.length) (hf : f < 2 ^ n.toNat) (h : stpP (next.getD l []) f = some g) (t : Int) :
    t ∈ bitsTo g 10 ↔ ∃ s ∈ bitsTo f 10, (next.getD l []).getD s.toNat 0 = t := by
  have n2 := P.n2
  have hn : gapIn (next.getD l []) (bitsTo f 10) = false ∧ g = stepN (next.getD l []) f := by
    unfold stpP at h
    split at h
    · cases h
    · rename_i hng
      exact ⟨Bool.eq_false_iff.2 hng, (Option.some.inj h).symm⟩
  obtain ⟨hn, rfl⟩ := hn
  have hng : ∀ s ∈ bitsTo f 10, 0 ≤ (next.getD l []).getD s.toNat 0 ∧ (next.getD l []).getD s.toNat 0 < n := fun s hs => by
    have h1 := (P.at hl (bits_in2 hf s hs)).2
    refine ⟨?_, h1.2⟩
    by_cases c : (next.getD l []).getD s.toNat 0 < 0
    · unfold gapIn at hn
      rw [List.any_eq_false] at hn
      exact absurd (decide_eq_true c) (hn s hs)
    · omega
  rw [mem_bitsTo, step_bit]
  constructor
  · rintro ⟨h1, h2, s, hs, he⟩
    have hs' : (s : Int) ∈ bitsTo f 10 := by
      rw [mem_bits] at hs
      exact mem_bitsTo.2 ⟨by omega, by omega, by rw [Int.toNat_natCast]; exact hs.2⟩
    refine ⟨(s : Int), hs', ?_⟩
    have := hng _ hs'
    rw [Int.toNat_natCast] at this ⊢
    omega
  · rintro ⟨s, hs, rfl⟩
    have h1 := hng s hs
    rw [mem_bitsTo] at hs
    exact ⟨h1.1, by omega, s.toNat, mem_bits.2 ⟨by omega, hs.2.2⟩, rfl⟩
theorem imP_iff {n : Int} {next : List (List Int)} (P : Prt n next) : ∀ {w : List Int} {f : Nat}, IsW next.length w → f < 2 ^ n.toNat →
    ((∃ s ∈ bitsTo f 10, pth next s w = none) → imP next f w = none) ∧ ((∀ s ∈ bitsTo f 10, pth next s w ≠ none) → ∃ g, imP next f w = some g ∧ ∀ t : Int, t ∈ bitsTo g 10 ↔ ∃ s ∈ bitsTo f 10, pth next s w = some t)
  | [], f, _, _ => by
    refine ⟨?_, fun _ => ⟨f, rfl, fun t => ?_⟩⟩
    · rintro ⟨s, _, h⟩; cases h
    · constructor
      · exact fun h => ⟨t, h, rfl⟩
      · rintro ⟨s, h, e⟩
        rw [← Option.some.inj e]; exact h
  | l :: w, f, hw, hf => by
    have hl := hw l (by simp)
    have hll : l.toNat < next.length := by omega
    cases hst : stpP (next.getD l.toNat []) f with
    | none =>
      have hgp : gapIn (next.getD l.toNat []) (bitsTo f 10) = true := by
        unfold stpP at hst
        split at hst
        · assumption
        · cases hst
      unfold gapIn at hgp
      rw [List.any_eq_true] at hgp
      obtain ⟨s, hs, hn⟩ := hgp
      have hn := of_decide_eq_true hn
      refine ⟨fun _ => by rw [imP, hst], fun h => absurd (show pth next s (l :: w) = none by rw [pth, if_pos hn]) (h s hs)⟩
    | some g =>
      have hgl := stpP_lt P hf hll hst
      have hng : ∀ s ∈ bitsTo f 10, ¬ (next.getD l.toNat []).getD s.toNat 0 < 0 := fun s hs hn => by
        have : gapIn (next.getD l.toNat []) (bitsTo f 10) = true := by
          unfold gapIn
          rw [List.any_eq_true]
          exact ⟨s, hs, decide_eq_true hn⟩
        unfold stpP at hst
        rw [if_pos this] at hst; cases hst
      have hb := stp_bit P hll hf hst
      have hp : ∀ s ∈ bitsTo f 10, pth next s (l :: w) = pth next ((next.getD l.toNat []).getD s.toNat 0) w := fun s hs => by rw [pth, if_neg (hng s hs)]
      have him : imP next f (l :: w) = imP next g w := by rw [imP, hst]
      obtain ⟨i1, i2⟩ := imP_iff P (w := w) (f := g) (fun y hy => hw y (by simp [hy])) hgl
      refine ⟨?_, fun h => ?_⟩
      · rintro ⟨s, hs, hn⟩
        rw [him]
        exact i1 ⟨_, (hb _).2 ⟨s, hs, rfl⟩, by rw [← hp s hs]; exact hn⟩
      · obtain ⟨g', h1, h2⟩ := i2 fun t ht => by
          obtain ⟨s, hs, rfl⟩ := (hb t).1 ht
          rw [← hp s hs]; exact h s hs
        refine ⟨g', by rw [him]; exact h1, fun t => ?_⟩
        rw [h2]
        constructor
        · rintro ⟨t', ht, he⟩
          obtain ⟨s, hs, rfl⟩ := (hb t').1 ht
          exact ⟨s, hs, by rw [hp s hs]; exact he⟩
        · rintro ⟨s, hs, he⟩
          exact ⟨_, (hb _).2 ⟨s, hs, rfl⟩, by rw [← hp s hs]; exact he⟩
theorem pth_rg {n : Int} {next : List (List Int)} (P : Prt n next) : ∀ {w : List Int} {s t : Int}, IsW next.length w → 0 ≤ s ∧ s < n → pth next s w = some t → 0 ≤ t ∧ t < n
  | [], s, t, _, hs, h => by rw [← Option.some.inj h]; exact hs
  | l :: w, s, t, hw, hs, h => by
    have hl := hw l (by simp)
    obtain ⟨h1, h2, h3⟩ := P.at (l := l.toNat) (by omega) hs
    rw [pth] at h
    split at h
    · cases h
    · exact pth_rg P (fun y hy => hw y (by simp [hy])) ⟨by omega, h3⟩ h
theorem car_iff {n : Int} {next : List (List Int)} (P : Prt n next) {w : List Int} (hw : IsW next.length w) :
    carB next n w = true ↔ ∃ t, ∀ s : Int, 0 ≤ s ∧ s < n → pth next s w = some t := by
  have n1 := P.n1
  have n2 := P.n2
  have hp := Nat.two_pow_pos n.toNat
  have hN : 2 ^ n.toNat ≤ 1024 := Nat.pow_le_pow_right (n := 2) (by omega) (show n.toNat ≤ 10 by omega)
  have hall : ∀ s : Int, s ∈ bitsTo (2 ^ n.toNat - 1) 10 ↔ 0 ≤ s ∧ s < n := fun s => by
    rw [mem_bitsTo, Nat.testBit_two_pow_sub_one, decide_eq_true_eq]; omega
  obtain ⟨i1, i2⟩ := imP_iff P (w := w) (f := 2 ^ n.toNat - 1) hw (by omega)
  unfold carB
  by_cases h : ∃ s ∈ bitsTo (2 ^ n.toNat - 1) 10, pth next s w = none
  · rw [i1 h]
    obtain ⟨s, hs, hn⟩ := h
    refine ⟨fun e => (by cases e), fun ⟨t, ht⟩ => ?_⟩
    have := ht s ((hall s).1 hs)
    rw [hn] at this; cases this
  · obtain ⟨g, hg, hb⟩ := i2 fun s hs hn => h ⟨s, hs, hn⟩
    have hgl := imP_lt P (by omega) hw hg
    rw [hg]
    show smallN g = true ↔ _
    rw [small_iff (by omega)]
    have hmem : ∀ t : Nat, t ∈ bitsN g ↔ ∃ s : Int, (0 ≤ s ∧ s < n) ∧ pth next s w = some (t : Int) := fun t => by
      have h1 : (t : Int) ∈ bitsTo g 10 ↔ t ∈ bitsN g := by
        rw [mem_bitsTo, mem_bits, Int.toNat_natCast]
        exact ⟨fun ⟨_, a, b⟩ => ⟨by omega, b⟩, fun ⟨a, b⟩ => ⟨by omega, by omega, b⟩⟩
      rw [← h1, hb]
      constructor
      · rintro ⟨s, hs, he⟩; exact ⟨s, (hall s).1 hs, he⟩
      · rintro ⟨s, hs, he⟩; exact ⟨s, (hall s).2 hs, he⟩
    have hdef : ∀ s : Int, 0 ≤ s ∧ s < n → ∃ t : Nat, pth next s w = some (t : Int) := fun s hs => by
      cases he : pth next s w with
      | none => exact absurd ⟨s, (hall s).2 hs, he⟩ h
      | some t =>
        have := pth_rg P hw hs he
        exact ⟨t.toNat, by rw [Int.toNat_of_nonneg this.1]⟩
    constructor
    · intro hsm
      obtain ⟨t0, ht0⟩ := hdef 0 ⟨by omega, by omega⟩
      refine ⟨t0, fun s hs => ?_⟩
      obtain ⟨t, ht⟩ := hdef s hs
      have := hsm t ((hmem t).2 ⟨s, hs, ht⟩) t0 ((hmem t0).2 ⟨0, ⟨by omega, by omega⟩, ht0⟩)
      rw [ht, this]
    · rintro ⟨t, ht⟩ x hx y hy
      obtain ⟨s, hs, he⟩ := (hmem x).1 hx
      obtain ⟨s', hs', he'⟩ := (hmem y).1 hy
      rw [ht s hs] at he
      rw [ht s' hs'] at he'
      have h1 := Option.some.inj he
      have h2 := Option.some.inj he'
      omega
end Go.Ab
namespace Go.Ab
end Go.Ab
namespace Go.Ab
def outA (out : List (List Int)) (s l : Int) : Int := (out.getD l.toNat []).getD s.toNat 0
def lexP : List Int → List Int → Bool
  | x :: v, y :: w => if x = y then lexP v w else decide (x < y)
  | _, _ => false
def befP (v w : List Int) : Bool := if v.length = w.length then lexP v w else decide (v.length < w.length)
end Go.Ab
namespace Go.Ab
theorem lexP_irrefl : ∀ u : List Int, lexP u u = false
  | [] => rfl
  | x :: u => by simp only [lexP, if_pos rfl]; exact lexP_irrefl u
theorem lexP_trans : ∀ {u v w : List Int}, lexP u v = true → lexP v w = true → lexP u w = true
  | [], _, _, h, _ => by simp [lexP] at h
  | _ :: _, [], _, h, _ => by simp [lexP] at h
  | _ :: _, _ :: _, [], _, h => by simp [lexP] at h
  | x :: u, y :: v, z :: w, h1, h2 => by
    simp only [lexP] at h1 h2 ⊢
    by_cases e1 : x = y
    · subst e1
      rw [if_pos rfl] at h1
      by_cases e2 : x = z
      · subst e2
        rw [if_pos rfl] at h2 ⊢
        exact lexP_trans h1 h2
      · rw [if_neg e2] at h2 ⊢; exact h2
    · rw [if_neg e1] at h1
      by_cases e2 : y = z
      · subst e2
        rw [if_neg e1]; exact h1
      · rw [if_neg e2] at h2
        have h1 := of_decide_eq_true h1
        have h2 := of_decide_eq_true h2
        rw [if_neg (by omega)]; exact decide_eq_true (by omega)
theorem lexP_snoc : ∀ {u v : List Int} {x y : Int}, u.length = v.length → lexP u v = true → lexP (u ++ [x]) (v ++ [y]) = true
  | [], _, _, _, _, h => by simp [lexP] at h
  | _ :: _, [], _, _, _, h => by simp [lexP] at h
  | a :: u, b :: v, x, y, hl, h => by
    simp only [lexP, List.cons_append] at h ⊢
    by_cases e : a = b
    · rw [if_pos e] at h ⊢; exact lexP_snoc (by simpa using hl) h
    · rw [if_neg e] at h ⊢; exact h
theorem lexP_last : ∀ {u : List Int} {x y : Int}, x < y → lexP (u ++ [x]) (u ++ [y]) = true
  | [], x, y, h => by
    simp only [List.nil_append, lexP]
    rw [if_neg (by omega)]; exact decide_eq_true h
  | a :: u, x, y, h => by simp only [List.cons_append, lexP, if_pos rfl]; exact lexP_last h
theorem befP_len {u v : List Int} (h : u.length < v.length) : befP u v = true := by
  rw [befP, if_neg (by omega)]; exact decide_eq_true h
theorem befP_le {u v : List Int} (h : befP u v = true) : u.length ≤ v.length := by
  rw [befP] at h
  split at h
  · omega
  · have := of_decide_eq_true h; omega
theorem befP_irrefl (u : List Int) : befP u u = false := by rw [befP, if_pos rfl]; exact lexP_irrefl u
theorem befP_trans {u v w : List Int} (h1 : befP u v = true) (h2 : befP v w = true) : befP u w = true := by
  have l1 := befP_le h1
  have l2 := befP_le h2
  by_cases e : u.length = w.length
  · rw [befP, if_pos (by omega)] at h1 h2 ⊢
    exact lexP_trans h1 h2
  · exact befP_len (by omega)
theorem befP_snoc {u v : List Int} {x y : Int} (h : befP u v = true) : befP (u ++ [x]) (v ++ [y]) = true := by
  have l1 := befP_le h
  by_cases e : u.length = v.length
  · rw [befP, if_pos e] at h
    rw [befP, if_pos (by simp [e])]
    exact lexP_snoc e h
  · exact befP_len (by simp; omega)
theorem befP_last {u : List Int} {x y : Int} (h : x < y) : befP (u ++ [x]) (u ++ [y]) = true := by
  rw [befP, if_pos (by simp)]; exact lexP_last h
def leP (u v : List Int) : Prop := befP u v = true ∨ u = v
theorem leP_trans {u v w : List Int} (h1 : leP u v) (h2 : leP v w) : leP u w := by
  rcases h1 with h1 | rfl
  · rcases h2 with h2 | rfl
    · exact .inl (befP_trans h1 h2)
    · exact .inl h1
  · exact h2
theorem leP_not {u v : List Int} (h : leP u v) : befP v u = false := by
  cases hb : befP v u with
  | false => rfl
  | true =>
    rcases h with h | rfl
    · have := befP_trans h hb
      rw [befP_irrefl] at this; cases this
    · rw [befP_irrefl] at hb; cases hb
def pairW (na nb : List (List Int)) : Nat × Nat → List Int → Nat × Nat
  | p, [] => p
  | p, x :: w => pairW na nb (stepP na nb p x.toNat) w
def difW (na nb oa ob : List (List Int)) : Nat × Nat → List Int → Bool
  | _, [] => false
  | p, x :: w => difP oa ob p x.toNat || difW na nb oa ob (stepP na nb p x.toNat) w
def isWd (k : Nat) (w : List Int) : Prop := ∀ x ∈ w, 0 ≤ x ∧ x < k
structure BI (na nb oa ob : List (List Int)) (p0 : Nat × Nat) (i : Nat) (L : PS) : Prop where
  ok : ∀ q ∈ L, q.1 = pairW na nb p0 q.2 ∧ difW na nb oa ob p0 q.2 = false ∧ isWd na.length q.2
  so : L.Pairwise fun a b => befP a.2 b.2 = true
  par : ∀ q ∈ L, q.2 = [] ∨ ∃ j < i, ∃ y, q.2 = (L.getD j ((0, 0), [])).2 ++ [y]
  cl : ∀ a < i, ∀ x < na.length, difP oa ob (L.getD a ((0, 0), [])).1 x = false ∧ ∃ q ∈ L, q.1 = stepP na nb (L.getD a ((0, 0), [])).1 x ∧ leP q.2 ((L.getD a ((0, 0), [])).2 ++ [(x : Int)])
  le : i ≤ L.length
  nil : ∃ q ∈ L, q.1 = p0 ∧ q.2 = []
structure BV (na nb oa ob : List (List Int)) (p0 : Nat × Nat) (i : Nat) (L : PS) (x : Nat) (L' : PS) : Prop where
  sub : ∃ t, L' = L ++ t
  ok : ∀ q ∈ L', q.1 = pairW na nb p0 q.2 ∧ difW na nb oa ob p0 q.2 = false ∧ isWd na.length q.2
  so : L'.Pairwise fun a b => befP a.2 b.2 = true
  par : ∀ q ∈ L', q.2 = [] ∨ (∃ j < i, ∃ y, q.2 = (L.getD j ((0, 0), [])).2 ++ [y]) ∨ ∃ y < x, q.2 = (L.getD i ((0, 0), [])).2 ++ [(y : Int)]
  cl : ∀ y < x, ∃ q ∈ L', q.1 = stepP na nb (L.getD i ((0, 0), [])).1 y ∧ leP q.2 ((L.getD i ((0, 0), [])).2 ++ [(y : Int)])
end Go.Ab
namespace Go.Ab
section
variable {σ : Type} [DecidableEq σ] (δ : σ → Nat → Option σ)
def goG (p : σ) : List Int → Option σ
  | [] => some p
  | x :: w => match δ p x.toNat with
    | none => none
    | some q => goG q w
def hasG (L : List (σ × List Int)) (q : σ) : Bool := L.any fun p => decide (p.1 = q)
def visG (p : σ) (w : List Int) : Nat → List (σ × List Int) → List (σ × List Int)
  | 0, L => L
  | x + 1, L => match δ p x with
    | none => visG p w x L
    | some q => if hasG (visG p w x L) q = true then visG p w x L else visG p w x L ++ [(q, w ++ [(x : Int)])]
def runG (m : Nat) (d : σ × List Int) : Nat → Nat → List (σ × List Int) → List (σ × List Int)
  | 0, _, L => L
  | F + 1, i, L => if i < L.length then runG m d F (i + 1) (visG δ (L.getD i d).1 (L.getD i d).2 m L) else L
theorem goG_snoc {w : List Int} {x : Int} : ∀ {p : σ}, goG δ p (w ++ [x]) = (goG δ p w).bind fun q => δ q x.toNat := by
  induction w with
  | nil =>
    intro p
    simp only [List.nil_append, goG, Option.bind_some]
    cases δ p x.toNat <;> rfl
  | cons y w ih =>
    intro p
    simp only [List.cons_append, goG]
    cases δ p y.toNat with
    | none => rfl
    | some q => exact ih
theorem hasG_iff {L : List (σ × List Int)} {q : σ} : hasG L q = true ↔ ∃ p ∈ L, p.1 = q := by
  simp only [hasG, List.any_eq_true, decide_eq_true_eq]
structure GI (D : σ → Prop) (m : Nat) (d : σ × List Int) (p0 : σ) (i x : Nat) (L : List (σ × List Int)) : Prop where
  so : L.Pairwise fun a b => befP a.2 b.2 = true
  up : i < L.length → ∀ p ∈ L, ∀ z : Int, (x : Int) ≤ z → befP p.2 ((L.getD i d).2 ++ [z]) = true
  sd : ∀ p ∈ L, goG δ p0 p.2 = some p.1 ∧ ∀ y ∈ p.2, 0 ≤ y ∧ y < m
  rg : ∀ p ∈ L, D p.1
  nd : (L.map (·.1)).Nodup
  cl : ∀ j y q, (j < i ∧ y < m) ∨ (j = i ∧ y < x) → j < L.length → δ (L.getD j d).1 y = some q → ∃ k, k < L.length ∧ (L.getD k d).1 = q ∧ leP (L.getD k d).2 ((L.getD j d).2 ++ [(y : Int)])
  ze : ∃ p ∈ L, p = (p0, [])
theorem appG_getD {L t : List (σ × List Int)} {i : Nat} {d : σ × List Int} (h : i < L.length) : (L ++ t).getD i d = L.getD i d := by
  rw [List.getD_eq_getElem?_getD, List.getElem?_append_left h, ← List.getD_eq_getElem?_getD]
theorem lastG_getD {L : List (σ × List Int)} {p d : σ × List Int} : (L ++ [p]).getD L.length d = p := by
  rw [List.getD_eq_getElem?_getD, List.getElem?_append_right (Nat.le_refl _), Nat.sub_self]; rfl
variable {δ}
theorem GI0 {D : σ → Prop} {m : Nat} {d : σ × List Int} {p0 : σ} (h : D p0) : GI δ D m d p0 0 0 [(p0, [])] where
  so := by simp
  up := by
    intro _ p hp z _
    have : p = (p0, []) := by simpa using hp
    subst this
    exact befP_len (by simp)
  sd := by
    intro p hp
    have : p = (p0, []) := by simpa using hp
    subst this
    exact ⟨rfl, by simp⟩
  rg := by
    intro p hp
    have : p = (p0, []) := by simpa using hp
    subst this; exact h
  nd := by simp
  cl := by intro j y q h; omega
  ze := ⟨(p0, []), by simp, rfl⟩
theorem GI.next {D : σ → Prop} {m : Nat} {d : σ × List Int} {p0 : σ} {i x : Nat} {L : List (σ × List Int)} (hD : ∀ p y q, D p → y < m → δ p y = some q → D q) (h : GI δ D m d p0 i x L) (hi : i < L.length) (hx : x < m) :
    match δ (L.getD i d).1 x with
    | none => GI δ D m d p0 i (x + 1) L
    | some q => if hasG L q = true then GI δ D m d p0 i (x + 1) L else GI δ D m d p0 i (x + 1) (L ++ [(q, (L.getD i d).2 ++ [(x : Int)])]) := by
  have hm := yzw hi d
  cases hq : δ (L.getD i d).1 x with
  | none =>
    refine ⟨h.so, fun hi p hp z hz => h.up hi p hp z (by omega), h.sd, h.rg, h.nd, fun j y q hj hjl hd => ?_, h.ze⟩
    by_cases e : j = i ∧ y = x
    · obtain ⟨rfl, rfl⟩ := e
      rw [hq] at hd; cases hd
    · exact h.cl j y q (by omega) hjl hd
  | some q =>
    simp only
    split
    · rename_i hh
      refine ⟨h.so, fun hi p hp z hz => h.up hi p hp z (by omega), h.sd, h.rg, h.nd, fun j y q' hj hjl hd => ?_, h.ze⟩
      by_cases e : j = i ∧ y = x
      · obtain ⟨rfl, rfl⟩ := e
        rw [hq] at hd; cases hd
        obtain ⟨p, hp, rfl⟩ := (hasG_iff).1 hh
        obtain ⟨k, hk, hg⟩ := List.getElem_of_mem hp
        have hkd : L.getD k d = p := by rw [List.getD_eq_getElem?_getD, List.getElem?_eq_getElem hk]; exact hg
        exact ⟨k, hk, by rw [hkd], by rw [hkd]; exact .inl (h.up hi p hp _ (Int.le_refl _))⟩
      · exact h.cl j y q' (by omega) hjl hd
    · rename_i hh
      have hgi : (L ++ [(q, (L.getD i d).2 ++ [(x : Int)])]).getD i d = L.getD i d := appG_getD hi
      refine ⟨?_, ?_, ?_, ?_, ?_, ?_, ?_⟩
      · rw [List.pairwise_append]
        refine ⟨h.so, by simp, fun a ha b hb => ?_⟩
        have : b = (q, (L.getD i d).2 ++ [(x : Int)]) := by simpa using hb
        subst this
        exact h.up hi a ha _ (Int.le_refl _)
      · intro _ p hp z hz
        rw [hgi]
        rcases List.mem_append.1 hp with hp | hp
        · exact h.up hi p hp z (by omega)
        · have : p = (q, (L.getD i d).2 ++ [(x : Int)]) := by simpa using hp
          subst this
          exact befP_last (by omega)
      · intro p hp
        rcases List.mem_append.1 hp with hp | hp
        · exact h.sd p hp
        · have : p = (q, (L.getD i d).2 ++ [(x : Int)]) := by simpa using hp
          subst this
          obtain ⟨s1, s2⟩ := h.sd _ hm
          refine ⟨by rw [goG_snoc, s1]; exact hq, fun y hy => ?_⟩
          rcases List.mem_append.1 hy with hy | hy
          · exact s2 y hy
          · have : y = (x : Int) := by simpa using hy
            omega
      · intro p hp
        rcases List.mem_append.1 hp with hp | hp
        · exact h.rg p hp
        · have : p = (q, (L.getD i d).2 ++ [(x : Int)]) := by simpa using hp
          subst this
          exact hD _ _ _ (h.rg _ hm) hx hq
      · rw [List.map_append, List.nodup_append]
        refine ⟨h.nd, by simp, fun a ha b hb e => ?_⟩
        have hb : b = q := by simpa using hb
        obtain ⟨p, hp, rfl⟩ := List.mem_map.1 ha
        exact hh (hasG_iff.2 ⟨p, hp, by rw [e, hb]⟩)
      · intro j y q' hj hjl hd
        rw [List.length_append, List.length_singleton] at hjl
        by_cases e : j = i ∧ y = x
        · obtain ⟨rfl, rfl⟩ := e
          rw [hgi, hq] at hd; cases hd
          exact ⟨L.length, by simp, by rw [lastG_getD], by rw [lastG_getD, hgi]; exact .inr rfl⟩
        · have hjl2 : j < L.length := by omega
          rw [appG_getD hjl2] at hd ⊢
          obtain ⟨k, k1, k2, k3⟩ := h.cl j y q' (by omega) hjl2 hd
          exact ⟨k, by rw [List.length_append]; omega, by rw [appG_getD k1]; exact k2, by rw [appG_getD k1]; exact k3⟩
      · obtain ⟨p, hp, e⟩ := h.ze
        exact ⟨p, List.mem_append.2 (.inl hp), e⟩
theorem visG_pre {p : σ} {w : List Int} : ∀ (x : Nat) (L : List (σ × List Int)), ∃ t, visG δ p w x L = L ++ t
  | 0, L => ⟨[], by simp [visG]⟩
  | x + 1, L => by
    obtain ⟨t, h⟩ := visG_pre (p := p) (w := w) x L
    simp only [visG]
    cases δ p x with
    | none => exact ⟨t, h⟩
    | some q =>
      simp only
      split
      · exact ⟨t, h⟩
      · exact ⟨t ++ [(q, w ++ [(x : Int)])], by rw [← List.append_assoc, ← h]⟩
theorem GI.vis {D : σ → Prop} {m : Nat} {d : σ × List Int} {p0 : σ} {i : Nat} {L : List (σ × List Int)} (hD : ∀ p y q, D p → y < m → δ p y = some q → D q) (h : GI δ D m d p0 i 0 L) (hi : i < L.length) :
    ∀ x, x ≤ m → GI δ D m d p0 i x (visG δ (L.getD i d).1 (L.getD i d).2 x L)
  | 0, _ => h
  | x + 1, hx => by
    have h1 := GI.vis hD h hi x (by omega)
    obtain ⟨t, ht⟩ := visG_pre (δ := δ) (p := (L.getD i d).1) (w := (L.getD i d).2) x L
    have hl : i < (visG δ (L.getD i d).1 (L.getD i d).2 x L).length := by rw [ht, List.length_append]; omega
    have hg : (visG δ (L.getD i d).1 (L.getD i d).2 x L).getD i d = L.getD i d := by rw [ht]; exact appG_getD hi
    have h2 := h1.next hD hl (by omega)
    rw [hg] at h2
    simp only [visG]
    cases hq : δ (L.getD i d).1 x with
    | none => rw [hq] at h2; exact h2
    | some q =>
      rw [hq] at h2
      simp only at h2 ⊢
      split
      · rename_i hh; rw [if_pos hh] at h2; exact h2
      · rename_i hh; rw [if_neg hh] at h2; exact h2
theorem GI.succ {D : σ → Prop} {m : Nat} {d : σ × List Int} {p0 : σ} {i : Nat} {L : List (σ × List Int)} (h : GI δ D m d p0 i m L) : GI δ D m d p0 (i + 1) 0 L := by
  refine ⟨h.so, fun hi p hp z _ => ?_, h.sd, h.rg, h.nd, fun j y q hj hjl hd => h.cl j y q (by omega) hjl hd, h.ze⟩
  have h1 := h.up (by omega) p hp m (Int.le_refl _)
  refine befP_trans h1 (befP_snoc ?_)
  have := List.pairwise_iff_getElem.1 h.so i (i + 1) (by omega) hi (by omega)
  rw [List.getD_eq_getElem?_getD, List.getD_eq_getElem?_getD, List.getElem?_eq_getElem hi, List.getElem?_eq_getElem (show i < L.length by omega)]
  exact this
theorem runG_pre {m : Nat} {d : σ × List Int} : ∀ (F i : Nat) (L : List (σ × List Int)), ∃ t, runG δ m d F i L = L ++ t
  | 0, _, L => ⟨[], by simp [runG]⟩
  | F + 1, i, L => by
    simp only [runG]
    split
    · obtain ⟨t, h⟩ := visG_pre (δ := δ) (p := (L.getD i d).1) (w := (L.getD i d).2) m L
      obtain ⟨t', h'⟩ := runG_pre (m := m) (d := d) F (i + 1) (visG δ (L.getD i d).1 (L.getD i d).2 m L)
      exact ⟨t ++ t', by rw [h', h, List.append_assoc]⟩
    · exact ⟨[], by simp⟩
theorem GI.run {D : σ → Prop} {m N : Nat} {d : σ × List Int} {p0 : σ} (hD : ∀ p y q, D p → y < m → δ p y = some q → D q)
    (hN : ∀ L : List (σ × List Int), (L.map (·.1)).Nodup → (∀ p ∈ L, D p.1) → L.length ≤ N) : ∀ (F i : Nat) (L : List (σ × List Int)), GI δ D m d p0 i 0 L → i ≤ L.length → N < F + i →
    GI δ D m d p0 (runG δ m d F i L).length 0 (runG δ m d F i L)
  | 0, i, L, h, hi, hF => by
    have := hN L h.nd h.rg
    omega
  | F + 1, i, L, h, hi, hF => by
    simp only [runG]
    split
    · rename_i hi1
      have h1 := (GI.vis hD h hi1 m (Nat.le_refl _)).succ
      obtain ⟨t, ht⟩ := visG_pre (δ := δ) (p := (L.getD i d).1) (w := (L.getD i d).2) m L
      exact GI.run hD hN F (i + 1) _ h1 (by rw [ht, List.length_append]; omega) (by omega)
    · have : i = L.length := by omega
      rw [← this]; exact h
theorem GI.word {D : σ → Prop} {m : Nat} {d : σ × List Int} {p0 : σ} {L : List (σ × List Int)} (h : GI δ D m d p0 L.length 0 L) : ∀ (k : Nat) (v : List Int), v.length = k → (∀ y ∈ v, 0 ≤ y ∧ y < m) → ∀ q, goG δ p0 v = some q →
    ∃ j, j < L.length ∧ (L.getD j d).1 = q ∧ leP (L.getD j d).2 v
  | 0, v, hk, _, q, hq => by
    obtain rfl : v = [] := List.eq_nil_of_length_eq_zero hk
    simp only [goG, Option.some.injEq] at hq
    obtain ⟨p, hp, e⟩ := h.ze
    obtain ⟨j, hj, hg⟩ := List.getElem_of_mem hp
    have hgd : L.getD j d = p := by rw [List.getD_eq_getElem?_getD, List.getElem?_eq_getElem hj]; exact hg
    exact ⟨j, hj, by rw [hgd, e]; exact hq, by rw [hgd, e]; exact .inr rfl⟩
  | k + 1, v, hk, hv, q, hq => by
    have hne : v ≠ [] := fun e => by rw [e] at hk; simp at hk
    have e := List.dropLast_concat_getLast hne
    have hl := hv _ (List.getLast_mem hne)
    have hq : goG δ p0 (v.dropLast ++ [v.getLast hne]) = some q := by rw [e]; exact hq
    rw [goG_snoc] at hq
    cases hg : goG δ p0 v.dropLast with
    | none => rw [hg] at hq; cases hq
    | some p =>
      rw [hg] at hq
      simp only [Option.bind_some] at hq
      obtain ⟨j, j1, j2, j3⟩ := GI.word h k v.dropLast (by rw [List.length_dropLast]; omega) (fun y hy => hv y (List.dropLast_subset v hy)) p hg
      obtain ⟨i, i1, i2, i3⟩ := h.cl j (v.getLast hne).toNat q (.inl ⟨j1, by omega⟩) j1 (by rw [j2]; exact hq)
      refine ⟨i, i1, i2, leP_trans i3 ?_⟩
      have e2 : (((v.getLast hne).toNat : Nat) : Int) = v.getLast hne := by omega
      rw [e2]
      have e3 : leP ((L.getD j d).2 ++ [v.getLast hne]) (v.dropLast ++ [v.getLast hne]) := by
        rcases j3 with j3 | j3
        · exact .inl (befP_snoc j3)
        · rw [j3]; exact .inr rfl
      rw [e] at e3; exact e3
theorem GI.first {D : σ → Prop} {m : Nat} {d : σ × List Int} {p0 : σ} {L : List (σ × List Int)} (h : GI δ D m d p0 L.length 0 L) (g : σ → Bool) :
    match L.find? (fun p => g p.1) with
    | some (q, w) => goG δ p0 w = some q ∧ g q = true ∧ (∀ y ∈ w, 0 ≤ y ∧ y < m) ∧ ∀ v : List Int, (∀ y ∈ v, 0 ≤ y ∧ y < m) → ∀ q', goG δ p0 v = some q' → g q' = true → befP v w = false
    | none => ∀ v : List Int, (∀ y ∈ v, 0 ≤ y ∧ y < m) → ∀ q', goG δ p0 v = some q' → g q' = false := by
  cases hf : L.find? (fun p => g p.1) with
  | none =>
    intro v hv q' hq'
    obtain ⟨j, j1, j2, _⟩ := h.word v.length v rfl hv q' hq'
    have := List.find?_eq_none.1 hf _ (yzw j1 d)
    rw [j2] at this; simpa using this
  | some p =>
    obtain ⟨q, w⟩ := p
    have hm := List.mem_of_find?_eq_some hf
    have hg := List.find?_some hf
    obtain ⟨s1, s2⟩ := h.sd _ hm
    refine ⟨s1, hg, s2, fun v hv q' hq' hgq => ?_⟩
    obtain ⟨j, j1, j2, j3⟩ := h.word v.length v rfl hv q' hq'
    refine leP_not ?_
    refine leP_trans ?_ j3
    obtain ⟨_, la, lb, hab, hno⟩ := List.find?_eq_some_iff_append.1 hf
    have hj : la.length ≤ j := by
      rcases Nat.lt_or_ge j la.length with hlt | hge
      · exfalso
        have hjm : L.getD j d ∈ la := by
          rw [hab, List.getD_eq_getElem?_getD, List.getElem?_append_left hlt, List.getElem?_eq_getElem hlt]
          exact List.getElem_mem hlt
        have := hno _ hjm
        rw [j2, hgq] at this; simp at this
      · exact hge
    have hla : la.length < L.length := by omega
    have hgw : L.getD la.length d = (q, w) := by
      rw [hab, List.getD_eq_getElem?_getD, List.getElem?_append_right (Nat.le_refl _), Nat.sub_self]; rfl
    rcases Nat.lt_or_ge la.length j with hlt | hge
    · have := List.pairwise_iff_getElem.1 h.so la.length j hla j1 hlt
      have e1 : L[la.length] = (q, w) := by rw [← hgw, List.getD_eq_getElem?_getD, List.getElem?_eq_getElem hla]; rfl
      have e2 : L[j] = L.getD j d := by rw [List.getD_eq_getElem?_getD, List.getElem?_eq_getElem j1]; rfl
      rw [e1, e2] at this
      exact .inl this
    · have : j = la.length := by omega
      rw [this, hgw]; exact .inr rfl
end
end Go.Ab
namespace Go.Ab
open Go.Proofs
def carD (next : List (List Int)) (f x : Nat) : Option Nat := stpP (next.getD x []) f
theorem hasGT {L : TS} {q : Nat} : hasG L q = hasT L q := by
  unfold hasG hasT
  congr 1
  funext p
  rw [Bool.eq_iff_iff, decide_eq_true_iff, Nat.beq_eq]
abbrev visC (next : List (List Int)) (f : Nat) (w : List Int) (x : Nat) (L : TS) : TS := visG (carD next) f w x L
theorem visC_none {next : List (List Int)} {f : Nat} {w : List Int} {x : Nat} {L : TS} (h : stpP (next.getD x []) f = none) : visC next f w (x + 1) L = visC next f w x L := by
  show visG (carD next) f w (x + 1) L = visG (carD next) f w x L
  rw [visG]
  simp only [show carD next f x = none from h]
theorem visC_some {next : List (List Int)} {f to : Nat} {w : List Int} {x : Nat} {L : TS} (h : stpP (next.getD x []) f = some to) : visC next f w (x + 1) L = if hasT (visC next f w x L) to = true then visC next f w x L else visC next f w x L ++ [(to, w ++ [(x : Int)])] := by
  have e : visG (carD next) f w (x + 1) L = if hasG (visG (carD next) f w x L) to = true then visG (carD next) f w x L else visG (carD next) f w x L ++ [(to, w ++ [(x : Int)])] := by
    rw [visG]
    simp only [show carD next f x = some to from h]
  rw [hasGT] at e
  exact e
def carT (next : List (List Int)) (f : Nat) : TS := runG (carD next) next.length (0, []) 1100 0 [(f, [])]
theorem visC_ok {n : Int} {next : List (List Int)} (P : Prt n next) {L : TS} (h : TI n.toNat next.length L) {i : Nat} (hi : i < L.length) :
    ∀ x, x ≤ next.length → TI n.toNat next.length (visC next (L.getD i (0, [])).1 (L.getD i (0, [])).2 x L) ∧ ∃ t, visC next (L.getD i (0, [])).1 (L.getD i (0, [])).2 x L = L ++ t
  | 0, _ => ⟨h, [], by simp [visC, visG]⟩
  | x + 1, hx => by
    obtain ⟨h1, t, h2⟩ := visC_ok P h hi x (by omega)
    have hm := yzw hi (0, ([] : List Int))
    cases hst : stpP (next.getD x []) (L.getD i (0, [])).1 with
    | none => rw [visC_none hst]; exact ⟨h1, t, h2⟩
    | some to =>
      rw [visC_some hst]
      cases hh : hasT (visC next (L.getD i (0, [])).1 (L.getD i (0, [])).2 x L) to with
      | true => rw [if_pos rfl]; exact ⟨h1, t, h2⟩
      | false =>
        rw [if_neg (by simp)]
        refine ⟨h1.add (stpP_lt P (h.rg _ hm) (by omega) hst) hh ⟨(h.wd _ hm).1, ?_⟩ (by omega), t ++ [(to, (L.getD i (0, [])).2 ++ [(x : Int)])], ?_⟩
        · have := (h.wd _ hm).2
          rw [h2, List.length_append]; omega
        · rw [← List.append_assoc, ← h2]
theorem imP_goG {next : List (List Int)} : ∀ {w : List Int} {f : Nat}, imP next f w = goG (carD next) f w
  | [], _ => rfl
  | l :: w, f => by
    rw [imP, goG]
    unfold carD
    cases stpP (next.getD l.toNat []) f with
    | none => rfl
    | some g => exact imP_goG
theorem carT_GI {n : Int} {next : List (List Int)} (P : Prt n next) {f : Nat} (hf : f < 2 ^ n.toNat) : GI (carD next) (fun q => q < 2 ^ n.toNat) next.length (0, []) f (carT next f).length 0 (carT next f) := by
  have n2 := P.n2
  have hN : 2 ^ n.toNat ≤ 1024 := Nat.pow_le_pow_right (n := 2) (by omega) (show n.toNat ≤ 10 by omega)
  refine GI.run (D := fun q => q < 2 ^ n.toNat) (N := 1024) (fun p y q hp hy h => stpP_lt P hp hy h) (fun L hd hr => ?_) 1100 0 _ (GI0 hf) (by simp) (by omega)
  have := nodup_lt (2 ^ n.toNat) (L.map (·.1)) hd (fun x hx => by
    obtain ⟨p, hp, rfl⟩ := List.mem_map.1 hx
    exact hr p hp)
  rw [List.length_map] at this; omega
def carQ (next : List (List Int)) (n : Int) : Option (Nat × List Int) := firstT (carT next (2 ^ n.toNat - 1))
theorem carB_iff {n : Int} {next : List (List Int)} {w : List Int} : carB next n w = true ↔ ∃ g, goG (carD next) (2 ^ n.toNat - 1) w = some g ∧ smallN g = true := by
  unfold carB
  rw [imP_goG]
  cases goG (carD next) (2 ^ n.toNat - 1) w with
  | none => simp
  | some g => simp
theorem car_first {n : Int} {next : List (List Int)} (P : Prt n next) : match carQ next n with
    | some p => carB next n p.2 = true ∧ IsW next.length p.2 ∧ ∀ v : List Int, IsW next.length v → carB next n v = true → befP v p.2 = false
    | none => ∀ v : List Int, IsW next.length v → carB next n v = false := by
  have hp := Nat.two_pow_pos n.toNat
  have h := (carT_GI P (f := 2 ^ n.toNat - 1) (by omega)).first smallN
  unfold carQ firstT
  cases hf : (carT next (2 ^ n.toNat - 1)).find? (fun p => smallN p.1) with
  | none =>
    rw [hf] at h
    intro v hv
    cases hb : carB next n v with
    | false => rfl
    | true =>
      obtain ⟨g, h1, h2⟩ := carB_iff.1 hb
      rw [h v hv g h1] at h2; cases h2
  | some p =>
    obtain ⟨q, w⟩ := p
    rw [hf] at h
    obtain ⟨h1, h2, h3, h4⟩ := h
    refine ⟨carB_iff.2 ⟨q, h1, h2⟩, h3, fun v hv hb => ?_⟩
    obtain ⟨g, g1, g2⟩ := carB_iff.1 hb
    exact h4 v hv g g1 g2
theorem stp_tot {n : Int} {next : List (List Int)} (A : Aut n next) {f x : Nat} (hf : f < 2 ^ n.toNat) (hx : x < next.length) : stpP (next.getD x []) f = some (stepN (next.getD x []) f) := by
  unfold stpP
  rw [if_neg]
  rw [Bool.not_eq_true]
  unfold gapIn
  rw [List.any_eq_false]
  intro s hs
  have h1 := bits_in2 hf s hs
  have h2 := (A.row _ (yzw hx []))
  have h3 := h2.2 _ (yzw (show s.toNat < (next.getD x []).length by omega) 0)
  simp only [decide_eq_true_eq]; omega
theorem visC_T {n : Int} {next : List (List Int)} (A : Aut n next) {f : Nat} (hf : f < 2 ^ n.toNat) {w : List Int} {L : TS} : ∀ x, x ≤ next.length → visC next f w x L = visT next f w x L
  | 0, _ => rfl
  | x + 1, hx => by rw [visC_some (stp_tot A hf (by omega)), visC_T A hf x (by omega), visT_succ]
theorem runC_T {n : Int} {next : List (List Int)} (A : Aut n next) : ∀ (F i : Nat) (L : TS), TI n.toNat next.length L → runG (carD next) next.length (0, []) F i L = runT next F i L
  | 0, i, L, h => rfl
  | F + 1, i, L, h => by
    simp only [runG, runT]
    split
    · rename_i hi
      have hm := yzw hi (0, ([] : List Int))
      have e := visC_T A (h.rg _ hm) (w := (L.getD i (0, [])).2) (L := L) next.length (Nat.le_refl _)
      have h1 := (visT_ok A h hi next.length (Nat.le_refl _)).1
      show runG (carD next) next.length (0, []) F (i + 1) (visC next _ _ next.length L) = _
      rw [e]
      exact runC_T A F (i + 1) _ h1
    · rfl
theorem carQ_T {n : Int} {next : List (List Int)} (A : Aut n next) : carQ next n = firstT (tourT next (2 ^ n.toNat - 1)) := by
  have hp := Nat.two_pow_pos n.toNat
  unfold carQ carT tourT
  rw [runC_T A 1100 0 _ (TI0 (by omega))]
end Go.Ab
namespace Go.Ab
open Go.Proofs
abbrev keysF (L : TS) : List Value := L.map fun p => Value.int .u64 (p.1 : Int)
abbrev setsI (L : TS) : List Int := L.map fun p => (p.1 : Int)
theorem fkF_not {f : Nat} : ∀ {L : TS} (i : Nat), hasT L f = false → findKeyAt (.int .u64 (f : Int)) (keysF L) i = some none
  | [], _, _ => rfl
  | p :: L, i, h => by
    simp only [hasT, List.any_cons, Bool.or_eq_false_iff] at h
    have h1 : ((f : Int) == (p.1 : Int)) = false := by
      have : p.1 ≠ f := fun e => by rw [e, Nat.beq_refl] at h; cases h.1
      exact beq_false_of_ne fun e => this (by omega)
    have h2 := fkF_not (f := f) (L := L) (i + 1) h.2
    simp only [List.map_cons, findKeyAt, sameKey, h1, if_true]
    exact h2
theorem fkF_mem {f : Nat} : ∀ {L : TS} (i : Nat), hasT L f = true → ∃ j, findKeyAt (.int .u64 (f : Int)) (keysF L) i = some (some (i + j)) ∧ j < L.length
  | [], _, h => by cases h
  | p :: L, i, h => by
    by_cases e : p.1 = f
    · refine ⟨0, ?_, by simp⟩
      have h1 : ((f : Int) == (p.1 : Int)) = true := by rw [e]; exact beq_self_eq_true _
      simp only [List.map_cons, findKeyAt, sameKey, h1, if_true, Nat.add_zero]
    · have h0 : Nat.beq p.1 f = false := by rw [← dec_beqN]; exact decide_eq_false e
      simp only [hasT, List.any_cons, h0, Bool.false_or] at h
      have h1 : ((f : Int) == (p.1 : Int)) = false := beq_false_of_ne fun e' => e (by omega)
      obtain ⟨j, h2, h3⟩ := fkF_mem (f := f) (L := L) (i + 1) h
      refine ⟨j + 1, ?_, by simp; omega⟩
      simp only [List.map_cons, findKeyAt, sameKey, h1, if_true]
      rw [h2]; congr 2; omega
theorem fkF_at : ∀ {L : TS} (i k : Nat), (L.map (·.1)).Nodup → i < L.length → findKeyAt (.int .u64 ((L.getD i (0, [])).1 : Int)) (keysF L) k = some (some (k + i))
  | [], _, _, _, h => by simp at h
  | p :: L, 0, k, _, _ => by
    simp only [List.getD_cons_zero, List.map_cons, findKeyAt, sameKey, beq_self_eq_true, if_true, Nat.add_zero]
  | p :: L, i + 1, k, hd, h => by
    rw [List.map_cons, List.nodup_cons] at hd
    have hi : i < L.length := by simpa using h
    have hm := yzw hi (0, ([] : List Int))
    have h1 : (((L.getD i (0, [])).1 : Int) == (p.1 : Int)) = false := beq_false_of_ne fun e => hd.1 (List.mem_map.2 ⟨_, hm, by omega⟩)
    have h2 := fkF_at (L := L) i (k + 1) hd.2 hi
    simp only [List.getD_cons_succ, List.map_cons, findKeyAt, sameKey, h1, if_true]
    rw [h2]; congr 2; omega
theorem setsI_getD {L : TS} {i : Nat} (h : i < L.length) : (setsI L).getD i 0 = ((L.getD i (0, [])).1 : Int) := by
  rw [List.getD_eq_getElem?_getD, List.getElem?_map, List.getElem?_eq_getElem h, List.getD_eq_getElem?_getD, List.getElem?_eq_getElem h]; rfl
theorem words_getD {L : TS} {i : Nat} (h : i < L.length) : (L.map (·.2)).getD i [] = (L.getD i (0, [])).2 := by
  rw [List.getD_eq_getElem?_getD, List.getElem?_map, List.getElem?_eq_getElem h, List.getD_eq_getElem?_getD, List.getElem?_eq_getElem h]; rfl
theorem k_tour (n : Int) (next : List (List Int)) (A : Aut n next) (f : Nat) (hf : f < 2 ^ n.toNat) :
    Fn Tryz.prog nz4a [autA n next, fv f] (fun rows res => ∃ v w, rows = [.row v 1 true (intsK .u64 (setsI (tourT next f))), .map w (keysF (tourT next f)) (rws ((tourT next f).map (·.2)))] ∧ res = .st [.own 6000 v, .mp 6001 w]) := by
  refine con_of mixed czio rfl (by simp) ?_
  have n1 := A.n1
  have n2 := A.n2
  have l2 := A.l2
  have hN : 2 ^ n.toNat ≤ 1024 := Nat.pow_le_pow_right (n := 2) (by omega) (show n.toNat ≤ 10 by omega)
  have f0 : ∀ k : Value, findKeyAt k [] 0 = some none := fun _ => rfl
  generalize hQ : finQ _ = Q
  simp only [Az6u, Bzep, f0, go_sem, yz0, Int.reduceLT, reduceLE, reduceToNat, reduceNeg, Nat.reduceLT, reduceLeDiff, reduceMul, reduceSub, reduceIte, reduceEqDiff, reduceAdd, reduceCtorEq]
  intro vs vs2
  refine ⟨⟨_, rfl, rfl⟩, ?_⟩
  simp only [Bzeo, Bzem, go_sem, yz0, Int.reduceLT, reduceLE, reduceToNat, reduceNeg, Nat.reduceLT, reduceLeDiff, reduceMul, reduceSub, reduceIte, reduceEqDiff, reduceAdd, reduceCtorEq]
  refine ⟨fun r v' e => by cases e; exact ⟨_, _, _, rfl⟩, ?_⟩
  refine wpD_lo (fun (_, _, _, i, _) => 1100 - i)
    (fun (_, _, _, i, L) => TI n.toNat next.length L ∧ i ≤ List.length L ∧ runT next (1100 - i) i L = tourT next f)
    (fun ((v5, va, vm, i, L) : Nat × Nat × Nat × Nat × TS) => ⟨Go.Ab.L .any [(2, .ptr 2 (vs 0 0) 0), (4, .ptr 4 (vs 1 0) 0), (5, .ptr 5 v5 0), (6, iv i)],
      Go.Ab.L .gone [(2, .box (vs 0 0) [iv n, .ro none 1 (rwn next)]), (4, .box (vs 1 0) [nilS, .val (.map none)]), (5, .box v5 [.own 13 va, .mp 14 vm]), (13, .row va 1 true (intsK .u64 (setsI L))), (14, .map vm (keysF L) (rws (L.map (·.2))))]⟩)
    (_, _, _, 0, [(f, [])]) ⟨TI0 hf, by simp, rfl⟩ (by simp only [Bz3j, go_sem, yz0, Int.reduceLT, reduceLE, reduceToNat, reduceNeg, Nat.reduceLT, reduceLeDiff, reduceMul, reduceSub, reduceIte, reduceEqDiff, reduceAdd, reduceCtorEq]; try rfl) ?_
  rintro ⟨v5, va, vm, i, L⟩ ⟨hI, hi, hR⟩
  have hi : i ≤ L.length := hi
  have hlen := hI.len
  by_cases hlt : (i : Int) < L.length
  · have hlt1 : i < L.length := by omega
    have hls : i < (setsI L).length := by simpa using hlt1
    have hm := yzw hlt1 (0, ([] : List Int))
    have hfi := hI.rg _ hm
    have hwi := hI.wd _ hm
    simp only [Bz3j, Bz6o, Bzel, yz12 hls, setsI_getD hlt1, yz6, decide_eq_true hlt, go_sem, yz0, Int.reduceLT, reduceLE, reduceToNat, reduceNeg, Nat.reduceLT, reduceLeDiff, reduceMul, reduceSub, reduceIte, reduceEqDiff, reduceAdd, reduceCtorEq]
    intro hM
    refine ⟨⟨by omega, hlt1⟩, hlt1, ?_⟩
    simp only [Bzej, go_sem, yz0, Int.reduceLT, reduceLE, reduceToNat, reduceNeg, Nat.reduceLT, reduceLeDiff, reduceMul, reduceSub, reduceIte, reduceEqDiff, reduceAdd, reduceCtorEq]
    intro vs3
    refine yzr (k_letters n next) qCS trivial ?_
    simp only [Bzei, go_sem, yz0, Int.reduceLT, reduceLE, reduceToNat, reduceNeg, Nat.reduceLT, reduceLeDiff, reduceMul, reduceSub, reduceIte, reduceEqDiff, reduceAdd, reduceCtorEq]
    have hM2 := maxLen_le
    generalize hfw : L.getD i (0, []) = fw at hm hfi hwi ⊢
    refine wpD_lo (fun (_, _, _, x, _) => next.length - x)
      (fun (_, _, _, x, L') => x ≤ next.length ∧ L' = visT next fw.1 fw.2 x L)
      (fun ((v5, va, vm, x, L') : Nat × Nat × Nat × Nat × TS) => ⟨Go.Ab.L .any [(2, .ptr 2 (vs 0 0) 0), (4, .ptr 4 (vs 1 0) 0), (5, .ptr 5 v5 0), (6, iv i), (7, fv fw.1), (32, iv next.length), (33, iv x)],
        Go.Ab.L .gone [(2, .box (vs 0 0) [iv n, .ro none 1 (rwn next)]), (4, .box (vs 1 0) [nilS, .val (.map none)]), (5, .box v5 [.own 13 va, .mp 14 vm]), (13, .row va 1 true (intsK .u64 (setsI L'))), (14, .map vm (keysF L') (rws (L'.map (·.2))))]⟩)
      (_, _, _, 0, L) ⟨by simp, rfl⟩ (by simp only [Bz3i, yz6, go_sem, yz0, Int.reduceLT, reduceLE, reduceToNat, reduceNeg, Nat.reduceLT, reduceLeDiff, reduceMul, reduceSub, reduceIte, reduceEqDiff, reduceAdd, reduceCtorEq]; try rfl) ?_
    rintro ⟨v5, va, vm, x, L'⟩ ⟨hx, rfl⟩
    have hx : x ≤ next.length := hx
    obtain ⟨hI', t, hpre⟩ := visT_ok A hI hlt1 x hx
    rw [hfw] at hI' hpre
    generalize hV : visT next fw.1 fw.2 x L = L' at hI' hpre ⊢
    have hlen' := hI'.len
    have hi2 : i < L'.length := by rw [hpre, List.length_append]; omega
    have hat : L'.getD i (0, []) = fw := by rw [hpre, getD_app hlt1, hfw]
    by_cases hxl : (x : Int) < next.length
    · have hxl1 : x < next.length := by omega
      have hto := stepN_lt A hxl1 hfi
      have w1 : IntKind.i64.wrap ((x : Int) + 1) = ((x + 1 : Nat) : Int) := by rw [w64 (by omega)]; simp
      simp only [Bz3i, Bz6t, Bzeh, yz6, decide_eq_true hxl, go_sem, yz0, Int.reduceLT, reduceLE, reduceToNat, reduceNeg, Nat.reduceLT, reduceLeDiff, reduceMul, reduceSub, reduceIte, reduceEqDiff, reduceAdd, reduceCtorEq]
      simp only [Bzeg, yz6, go_sem, yz0, Int.reduceLT, reduceLE, reduceToNat, reduceNeg, Nat.reduceLT, reduceLeDiff, reduceMul, reduceSub, reduceIte, reduceEqDiff, reduceAdd, reduceCtorEq]
      intro vs4
      refine yzr (k_step n next A fw.1 x hfi hxl1) qCS trivial ?_
      have hsucc := visT_succ (next := next) (f := fw.1) (w := fw.2) (x := x) (L := L)
      rw [hV] at hsucc
      generalize stepN (next.getD x []) fw.1 = to at hto hsucc ⊢
      cases hh : hasT L' to with
      | true =>
        rw [hh, if_pos rfl] at hsucc
        obtain ⟨j, hj1, hj2⟩ := fkF_mem 0 hh
        rw [Nat.zero_add] at hj1
        simp only [Bz6r, Bz6q, Bz6p, Bz6s, hj1, w1, yz6, go_sem, yz0, Int.reduceLT, reduceLE, reduceToNat, reduceNeg, Nat.reduceLT, reduceLeDiff, reduceMul, reduceSub, reduceIte, reduceEqDiff, reduceAdd, reduceCtorEq]
        exact ⟨(_, _, _, x + 1, _), by dsimp only; omega, ⟨by dsimp only; omega, hsucc.symm⟩, rfl⟩
      | false =>
        rw [hh, if_neg (by simp)] at hsucc
        have hj1 := fkF_not 0 hh
        have hk := fkF_at i 0 hI'.nd hi2
        rw [hat, Nat.zero_add] at hk
        have hwl : i < (L'.map (·.2)).length := by simpa using hi2
        have hwg := words_getD hi2
        rw [hat] at hwg
        simp only [Bz6r, Bz6q, Bz6p, hj1, hk, rws_getD hwl, hwg, yz6, go_sem, yz0, Int.reduceLT, reduceLE, reduceToNat, reduceNeg, Nat.reduceLT, reduceLeDiff, reduceMul, reduceSub, reduceIte, reduceEqDiff, reduceAdd, reduceCtorEq]
        intro vs5
        refine call_rowI (k_Clone fw.2 (by omega)) qCS qGN ⟨_, rfl⟩ ?_
        rintro xs v7 rfl
        simp only [hj1, yz6, go_sem, yz0, Int.reduceLT, reduceLE, reduceToNat, reduceNeg, Nat.reduceLT, reduceLeDiff, reduceMul, reduceSub, reduceIte, reduceEqDiff, reduceAdd, reduceCtorEq]
        refine ⟨⟨_, rfl, rfl⟩, by omega, ⟨fun r v' e => by cases e; exact ⟨_, _, _, rfl⟩, ?_⟩⟩
        simp only [Bzef, Bz6s, w1, yz6, go_sem, yz0, Int.reduceLT, reduceLE, reduceToNat, reduceNeg, Nat.reduceLT, reduceLeDiff, reduceMul, reduceSub, reduceIte, reduceEqDiff, reduceAdd, reduceCtorEq]
        intro vs6
        exact ⟨⟨_, rfl, rfl⟩, by omega, (v5, vs6 4 0, vm, x + 1, L' ++ [(to, fw.2 ++ [(x : Int)])]), by dsimp only; omega, ⟨by dsimp only; omega, hsucc.symm⟩, by simp only [List.map_append, List.map_cons, List.map_nil]⟩
    · have : x = next.length := by omega
      subst this
      simp only [Bz3i, Bz6t, Bzek, yz6, nat1 i _ hlt1 hM, decide_eq_false hxl, go_sem, yz0, Int.reduceLT, reduceLE, reduceToNat, reduceNeg, Nat.reduceLT, reduceLeDiff, reduceMul, reduceSub, reduceIte, reduceEqDiff, reduceAdd, reduceCtorEq]
      obtain ⟨F, hF⟩ : ∃ F, 1100 - i = F + 1 := ⟨1099 - i, by omega⟩
      have hF2 : 1100 - (i + 1) = F := by omega
      rw [hF] at hR
      simp only [runT, if_pos hlt1, hfw, hV] at hR
      exact ⟨(_, _, _, i + 1, L'), by dsimp only; omega, ⟨hI', by dsimp only; omega, by dsimp only; rw [hF2]; exact hR⟩, rfl⟩
  · have : i = L.length := by omega
    subst this
    have hend : L = tourT next f := by
      obtain ⟨F, hF⟩ : ∃ F, 1100 - L.length = F + 1 := ⟨1099 - L.length, by omega⟩
      rw [← hR, hF]; simp only [runT, Nat.lt_irrefl, if_false]
    simp only [Bz3j, Bz6o, Bzen, decide_eq_false hlt, Az6u, ← hQ, go_sem, yz0, Int.reduceLT, reduceLE, reduceToNat, reduceNeg, Nat.reduceLT, reduceLeDiff, reduceMul, reduceSub, reduceIte, reduceEqDiff, reduceAdd, reduceCtorEq]
    intro hM
    refine ⟨[13, 14], by simp, by simp, by simp, ?_⟩
    simp only [hend, Nat.not_lt_zero, range1, yzx, yz10, yz15, yz14, yz11, yz18, yz17, yz16, yzz, yzp, yzh, yz3, yzv, yzs, yzq, yzn, yzu, yzd, yze, yz8, yzc, yzm, yzj, yz2, yzb, yz9, yz7, yzl, yzk, List.range_zero, yz4, yz5, yza, yzo, yzf, yzt, AVal.fresh, freshL, yz1, yzi, AObj.fresh, id, Option.isSome_some, or_true, true_or, go_sem, yz0, Int.reduceLT, reduceLE, reduceToNat, reduceNeg, Nat.reduceLT, reduceLeDiff, reduceMul, reduceSub, reduceIte, reduceEqDiff, reduceAdd, reduceCtorEq]
    exact ⟨va, vm, rfl, rfl⟩
theorem k_IndexFuncT (T : TS) (h : ∀ p ∈ T, p.1 < 1024) :
    Fun Tryz.prog nz29 [.ro none 1 (intsK .u64 (setsI T)), .clo nz7 []] (iv (fidx smallN (T.map (·.1)) 0)) := by
  have hx := k_IndexFuncF (T.map (·.1)) nz7 [] smallN ⟨by simp only [go_sem, yz0, Int.reduceLT, reduceLE, reduceToNat, reduceNeg, Nat.reduceLT, reduceLeDiff, reduceMul, reduceSub, reduceIte, reduceEqDiff, reduceAdd, reduceCtorEq], by intros; simp only [rowIs, boxIs, coe_argN, coe_argNs, coe_ro_o, coeL_nil, yz13, coe_any, coe_val, coe_ro, coe_ro_nil, coe_ro_own, coe_st, coe_st_agg, coe_rp, coe_rp_ptr, coe_clo, coe_own0, coe_ptr0, yz19, coeL_rws, coeL_rwn, L_hit, L_miss, L_nil, reduceEqDiff, ne_eq, reduceCtorEq, not_false_eq_true, true_and, and_true, and_self, exists_eq_left, exists_eq_right, List.mem_cons, List.not_mem_nil, or_false, AObj.row.injEq, AObj.box.injEq, exists_eq_left', exists_and_left, exists_eq, Nat.zero_lt_one, Nat.lt_add_one, List.map_cons, List.map_nil, AObj.ver, Nat.reduceLT, not_true_eq_false]⟩ (fun x hx => by
    obtain ⟨p, hp, rfl⟩ := List.mem_map.1 hx
    exact k_isSmall p.1 (h p hp))
  rw [List.map_map] at hx
  exact hx
theorem firstT_idx {f : Nat} {w : List Int} : ∀ {T : TS} (k : Nat), firstT T = some (f, w) → ∃ i, fidx smallN (T.map (·.1)) k = ((k + i : Nat) : Int) ∧ i < T.length ∧ T.getD i (0, []) = (f, w)
  | [], _, h => by cases h
  | p :: T, k, h => by
    simp only [firstT, List.find?_cons] at h
    cases hs : smallN p.1 with
    | true =>
      rw [hs] at h
      simp only [Option.some.injEq] at h
      exact ⟨0, by simp only [List.map_cons, fidx, hs, if_true, Nat.add_zero], by simp, by simpa using h⟩
    | false =>
      rw [hs] at h
      obtain ⟨i, h1, h2, h3⟩ := firstT_idx (T := T) (k + 1) h
      refine ⟨i + 1, ?_, by simp; omega, by simpa using h3⟩
      simp only [List.map_cons, fidx, hs, Bool.false_eq_true, if_false, h1]
      congr 1; omega
theorem k_first (N m : Nat) (T : TS) (hI : TI N m T) (hN : 2 ^ N ≤ 1024) (f : Nat) (w : List Int) (hf : firstT T = some (f, w)) :
    Con Tryz.prog nz21 [.row 0 1 true (intsK .u64 (setsI T)), .map 1 (keysF T) (rwn (T.map (·.2)))] [.st [.own 5000 0, .mp 5001 1], .clo nz7 []] true
      fun outs rows res => outs = [.row 0 1 true (intsK .u64 (setsI T)), .map 1 (keysF T) (rwn (T.map (·.2)))] ∧ rows = [] ∧ res = .tup [.ro none 1 (ints w), iv 0] := by
  refine con_sh mixed czer rfl (by simp) ?_
  obtain ⟨i, h1, h2, h3⟩ := firstT_idx 0 hf
  rw [Nat.zero_add] at h1
  have hls : i < (setsI T).length := by simpa using h2
  have hsg := setsI_getD h2
  have hk := fkF_at i 0 hI.nd h2
  rw [h3, Nat.zero_add] at hk
  rw [h3] at hsg
  have hwl : i < (T.map (·.2)).length := by simpa using h2
  have hwg := words_getD h2
  rw [h3] at hwg
  simp only [Az6y, Bz6x, go_sem, yz0, Int.reduceLT, reduceLE, reduceToNat, reduceNeg, Nat.reduceLT, reduceLeDiff, reduceMul, reduceSub, reduceIte, reduceEqDiff, reduceAdd, reduceCtorEq]
  intro vs vs2
  refine yzr (k_IndexFuncT T (fun p hp => by have := hI.rg p hp; omega)) qCS trivial ?_
  have hi0 : ¬ (i : Int) < 0 := by omega
  simp only [h1, Bz6w, Bz6v, Bzeq, decide_eq_false hi0, yz12 hls, hsg, hk, rwn_getD hwl, hwg, go_sem, yz0, Int.reduceLT, reduceLE, reduceToNat, reduceNeg, Nat.reduceLT, reduceLeDiff, reduceMul, reduceSub, reduceIte, reduceEqDiff, reduceAdd, reduceCtorEq]
  refine ⟨⟨by omega, h2⟩, h2, [], by simp, by simp, by simp, ?_⟩
  simp only [List.nil_append, List.cons_append, Nat.add_zero, reduceAdd, Nat.not_lt_zero, range1, yzx, yz10, yz15, yz14, yz11, yz18, yz17, yz16, yzz, yzp, yzh, yz3, yzv, yzs, yzq, yzn, yzu, yzd, yze, yz8, yzc, yzm, yzj, yz2, yzb, yz9, yz7, yzl, yzk, List.range_zero, yz4, yz5, yza, yzo, yzf, yzt, AVal.fresh, freshL, yz1, yzi, AObj.fresh, id, Option.isSome_some, or_true, true_or, go_sem, yz0, Int.reduceLT, reduceLE, reduceToNat, reduceNeg, Nat.reduceLT, reduceLeDiff, reduceMul, reduceSub, reduceIte, reduceEqDiff, reduceAdd, reduceCtorEq]
theorem callHp_m2 {hp : Nat → AObj} {r q d : Nat} {s : Nat → Nat} {o0 o1 : AObj} (hne : r ≠ q) :
    callHp hp [r, q] d s [o0, o1] [] = upd (upd hp r (o0.ren (rid [r, q] d 0) (sv hp [r, q] s))) q (o1.ren (rid [r, q] d 0) (sv hp [r, q] s)) := by
  funext n
  by_cases h : n = q
  · have h1 : rid [r, q] d ([] : List AObj).length 5001 = some n := by rw [h]; exact rid_m (j := 1) (by omega) rfl
    rw [callHp_at (by simp [hne]) (by simp) h1]
    simp [upd, h, outHp]
  · by_cases h' : n = r
    · have h1 : rid [r, q] d ([] : List AObj).length 5000 = some n := by rw [h']; exact rid_m (j := 0) (by omega) rfl
      rw [callHp_at (by simp [hne]) (by simp) h1]
      simp [upd, h, h', outHp, hne]
    · rw [callHp_not]
      · simp [upd, h, h']
      · rintro ⟨x, hx⟩
        rcases rid_cases hx with ⟨j, rfl, _, h3⟩ | ⟨i, rfl, h3, _⟩
        · match j, h3 with
          | 0, h3 => simp at h3; exact h' h3.symm
          | 1, h3 => simp at h3; exact h h3.symm
          | j + 2, h3 => simp at h3
        · simp at h3
theorem call_rm {P : Program} {σ : St} {g : FuncId} {As args : List AVal} {d : Nat} {s : Nat → Nat} {K : St → Prop} {r q v u : Nat} {cs cs' : List AVal} {ks : List Value} {vs vs' : List AVal} {R : AVal}
    (h : Con P g [.row 0 1 true cs, .map 1 ks vs] (.st [.own 5000 0, .mp 5001 1] :: args) true fun outs rows res => outs = [.row 0 1 true cs, .map 1 ks vs] ∧ rows = [] ∧ res = R)
    (hr : σ.hp r = .row v 1 true cs') (hq : σ.hp q = .map u ks vs') (hne : r ≠ q) (hc : CoeL σ.hp [r, q] false cs cs') (hv : CoeL σ.hp [r, q] false vs vs') (ha : CoeL σ.hp [r, q] false args As)
    (hk : K (St.put ⟨σ.tm, upd (upd σ.hp r ((AObj.row 0 1 true cs).ren (rid [r, q] d 0) (sv σ.hp [r, q] s))) q ((AObj.map 1 ks vs).ren (rid [r, q] d 0) (sv σ.hp [r, q] s))⟩ (some d) (R.ren (rid [r, q] d 0) (sv σ.hp [r, q] s)))) : wpCall P false σ g (.st [.own r v, .mp q u] :: As) (some d) s K := by
  refine .inl ⟨[r, q], _, _, true, _, h, ⟨by simp, rfl, by simp [hne], ?_, ?_⟩, ?_, (fun e => by cases e), ?_⟩
  · intro x hx
    simp only [List.mem_cons, List.not_mem_nil, or_false] at hx
    rcases hx with rfl | rfl
    · simp [hr]
    · simp [hq]
  · intro j B r' hB hr'
    match j, hB, hr' with
    | 0, hB, hr' =>
      simp at hB hr'; subst hB; subst hr'
      simp only [ObjCoe, hr]
      exact ⟨trivial, v, cs', rfl, hc⟩
    | 1, hB, hr' =>
      simp at hB hr'; subst hB; subst hr'
      simp only [ObjCoe, hq]
      exact ⟨trivial, u, vs', rfl, hv⟩
    | j + 2, hB, hr' => simp at hB
  · rw [yz13]
    refine ⟨?_, ha⟩
    rw [coe_st, yz13, yz13, coeL_nil]
    simp only [Coe]
    exact ⟨⟨0, r, v, rfl, rfl, rfl, rfl, by rw [hr]; rfl⟩, ⟨1, q, u, rfl, rfl, rfl, rfl, by rw [hq]; rfl⟩, trivial⟩
  · rintro outs rows res ⟨rfl, rfl, rfl⟩
    refine ⟨rfl, by simp, by simp, ?_⟩
    rw [Option.getD_some, callHp_m2 hne]
    exact hk
theorem maskN_all {n : Int} (h : 1 ≤ n ∧ n ≤ 10) : maskN (allS n) = 2 ^ n.toNat - 1 := by
  obtain ⟨k, rfl⟩ : ∃ k : Nat, n = k := ⟨n.toNat, by omega⟩
  have h2 : k = 1 ∨ k = 2 ∨ k = 3 ∨ k = 4 ∨ k = 5 ∨ k = 6 ∨ k = 7 ∨ k = 8 ∨ k = 9 ∨ k = 10 := by omega
  rcases h2 with rfl | rfl | rfl | rfl | rfl | rfl | rfl | rfl | rfl | rfl <;> decide
end Go.Ab
namespace Go.Ab
open Go.Proofs
theorem firstT_no : ∀ {T : TS} (k : Nat), firstT T = none → fidx smallN (T.map (·.1)) k = -1
  | [], _, _ => rfl
  | p :: T, k, h => by
    simp only [firstT, List.find?_cons] at h
    cases hs : smallN p.1 with
    | true => rw [hs] at h; cases h
    | false =>
      rw [hs] at h
      have h1 := firstT_no (T := T) (k + 1) h
      simp only [List.map_cons, fidx, hs, Bool.false_eq_true, if_false, h1]
theorem k_firstN (N m : Nat) (T : TS) (hI : TI N m T) (hN : 2 ^ N ≤ 1024) (hf : firstT T = none) :
    Con Tryz.prog nz21 [.row 0 1 true (intsK .u64 (setsI T)), .map 1 (keysF T) (rwn (T.map (·.2)))] [.st [.own 5000 0, .mp 5001 1], .clo nz7 []] true
      fun outs rows res => outs = [.row 0 1 true (intsK .u64 (setsI T)), .map 1 (keysF T) (rwn (T.map (·.2)))] ∧ rows = [] ∧ res = .tup [.val (.slice none 0 0), iv 6] := by
  refine con_sh mixed czer rfl (by simp) ?_
  have h1 := firstT_no 0 hf
  simp only [Az6y, Bz6x, go_sem, yz0, Int.reduceLT, reduceLE, reduceToNat, reduceNeg, Nat.reduceLT, reduceLeDiff, reduceMul, reduceSub, reduceIte, reduceEqDiff, reduceAdd, reduceCtorEq]
  intro vs vs2
  refine yzr (k_IndexFuncT T (fun p hp => by have := hI.rg p hp; omega)) qCS trivial ?_
  have hi0 : ((-1 : Int) < 0) := by omega
  simp only [h1, Bz6w, Bz6v, decide_eq_true hi0, go_sem, yz0, Int.reduceLT, reduceLE, reduceToNat, reduceNeg, Nat.reduceLT, reduceLeDiff, reduceMul, reduceSub, reduceIte, reduceEqDiff, reduceAdd, reduceCtorEq]
  refine ⟨[], by simp, by simp, by simp, ?_⟩
  simp only [List.nil_append, List.cons_append, Nat.add_zero, reduceAdd, Nat.not_lt_zero, range1, yzx, yz10, yz15, yz14, yz11, yz18, yz17, yz16, yzz, yzp, yzh, yz3, yzv, yzs, yzq, yzn, yzu, yzd, yze, yz8, yzc, yzm, yzj, yz2, yzb, yz9, yz7, yzl, yzk, List.range_zero, yz4, yz5, yza, yzo, yzf, yzt, AVal.fresh, freshL, yz1, yzi, AObj.fresh, id, Option.isSome_some, or_true, true_or, go_sem, yz0, Int.reduceLT, reduceLE, reduceToNat, reduceNeg, Nat.reduceLT, reduceLeDiff, reduceMul, reduceSub, reduceIte, reduceEqDiff, reduceAdd, reduceCtorEq]
def shortR (next : List (List Int)) (n : Int) : AVal := match firstT (tourT next (2 ^ n.toNat - 1)) with
  | some (_, w) => .tup [.ro none 1 (ints w), iv 0]
  | none => .tup [.val (.slice none 0 0), iv 6]
end Go.Ab
namespace Go.Ab
def seenT (N : Nat) (L : TS) : List Bool := (List.range N).map fun f => hasT L f
theorem seenT_len {N : Nat} {L : TS} : (seenT N L).length = N := by simp [seenT]
theorem seenT_getD {N f : Nat} {L : TS} (h : f < N) : (seenT N L).getD f false = hasT L f := by
  rw [seenT, List.getD_eq_getElem?_getD, List.getElem?_map, List.getElem?_range h]; rfl
theorem hasT_add {L : TS} {f g : Nat} {w : List Int} : hasT (L ++ [(f, w)]) g = (hasT L g || Nat.beq f g) := by simp [hasT]
theorem seenT_add {N f : Nat} {L : TS} {w : List Int} (h : f < N) : seenT N (L ++ [(f, w)]) = (seenT N L).take f ++ [true] ++ (seenT N L).drop (f + 1) := by
  apply List.ext_getElem?
  intro i
  by_cases hi : i < N
  · have h1 : (seenT N (L ++ [(f, w)]))[i]? = some (hasT L i || Nat.beq f i) := by rw [seenT, List.getElem?_map, List.getElem?_range hi]; simp [hasT_add]
    rw [h1]
    have hl : (List.take f (seenT N L)).length = f := by rw [List.length_take, seenT_len]; omega
    rw [List.append_assoc]
    by_cases e : i < f
    · rw [List.getElem?_append_left (by omega), List.getElem?_take_of_lt e, seenT, List.getElem?_map, List.getElem?_range hi]
      have : Nat.beq f i = false := by rw [Bool.eq_false_iff]; intro h2; have := Nat.eq_of_beq_eq_true h2; omega
      simp [this]
    · rw [List.getElem?_append_right (by omega), hl]
      by_cases e2 : i = f
      · subst e2
        have : Nat.beq i i = true := Nat.beq_refl i
        simp [this]
      · obtain ⟨d, rfl⟩ : ∃ d, i = f + 1 + d := ⟨i - f - 1, by omega⟩
        have : Nat.beq f (f + 1 + d) = false := by rw [Bool.eq_false_iff]; intro h2; have := Nat.eq_of_beq_eq_true h2; omega
        rw [show f + 1 + d - f = d + 1 by omega, List.singleton_append, List.getElem?_cons_succ, List.getElem?_drop, seenT, List.getElem?_map, List.getElem?_range hi]
        simp [this]
  · rw [List.getElem?_eq_none (by rw [seenT_len]; omega), List.getElem?_eq_none]
    rw [List.length_append, List.length_append, List.length_take, List.length_drop, seenT_len, List.length_singleton]; omega
theorem seenT_one {N f : Nat} (h : f < N) : (List.replicate N false).take f ++ [true] ++ (List.replicate N false).drop (f + 1) = seenT N [(f, [])] := by
  have h1 := seenT_add (L := []) (w := []) h
  have h2 : seenT N [] = List.replicate N false := by
    rw [seenT]
    apply List.ext_getElem?
    intro i
    by_cases hi : i < N
    · rw [List.getElem?_map, List.getElem?_range hi, List.getElem?_replicate, if_pos hi]; rfl
    · rw [List.getElem?_eq_none (by simp; omega), List.getElem?_eq_none (by simp; omega)]
  rw [h2] at h1
  exact h1.symm
structure BT (L : TS) (B C : List Int) : Prop where
  lb : B.length = L.length
  lc : C.length = L.length
  wd : ∀ i, i < L.length → (B.getD i 0 = -1 ∧ (L.getD i (0, [])).2 = []) ∨ (0 ≤ B.getD i 0 ∧ B.getD i 0 < i ∧ (L.getD i (0, [])).2 = (L.getD (B.getD i 0).toNat (0, [])).2 ++ [C.getD i 0])
theorem getD_appL {α : Type} {xs ys : List α} {i : Nat} {d : α} (h : i < xs.length) : (xs ++ ys).getD i d = xs.getD i d := by
  rw [List.getD_eq_getElem?_getD, List.getElem?_append_left h, ← List.getD_eq_getElem?_getD]
theorem getD_last {α : Type} {xs : List α} {y d : α} {i : Nat} (h : i = xs.length) : (xs ++ [y]).getD i d = y := by
  rw [List.getD_eq_getElem?_getD, List.getElem?_append_right (by omega), h]; simp
theorem BT.add {L : TS} {B C : List Int} (h : BT L B C) {i : Nat} (hi : i < L.length) (to x : Nat) :
    BT (L ++ [(to, (L.getD i (0, [])).2 ++ [(x : Int)])]) (B ++ [(i : Int)]) (C ++ [(x : Int)]) := by
  have lb := h.lb
  have lc := h.lc
  refine ⟨by simp [lb], by simp [lc], fun j hj => ?_⟩
  rw [List.length_append, List.length_singleton] at hj
  by_cases e : j < L.length
  · have e1 : (B ++ [(i : Int)]).getD j 0 = B.getD j 0 := getD_appL (by omega)
    have e2 : (C ++ [(x : Int)]).getD j 0 = C.getD j 0 := getD_appL (by omega)
    have e3 : (L ++ [(to, (L.getD i (0, [])).2 ++ [(x : Int)])]).getD j (0, []) = L.getD j (0, []) := getD_appL e
    rw [e1, e2, e3]
    rcases h.wd j e with h1 | ⟨h1, h2, h3⟩
    · exact .inl h1
    · have e4 : (L ++ [(to, (L.getD i (0, [])).2 ++ [(x : Int)])]).getD (B.getD j 0).toNat (0, []) = L.getD (B.getD j 0).toNat (0, []) := getD_appL (by omega)
      rw [e4]
      exact .inr ⟨h1, h2, h3⟩
  · have : j = L.length := by omega
    subst this
    have e1 : (B ++ [(i : Int)]).getD L.length 0 = i := getD_last lb.symm
    have e2 : (C ++ [(x : Int)]).getD L.length 0 = x := getD_last lc.symm
    have e3 : (L ++ [(to, (L.getD i (0, [])).2 ++ [(x : Int)])]).getD L.length (0, []) = (to, (L.getD i (0, [])).2 ++ [(x : Int)]) := getD_last rfl
    have e4 : (L ++ [(to, (L.getD i (0, [])).2 ++ [(x : Int)])]).getD i (0, []) = L.getD i (0, []) := getD_appL hi
    rw [e1, e2, e3, Int.toNat_natCast, e4]
    exact .inr ⟨by omega, by omega, rfl⟩
end Go.Ab
namespace Go.Ab
open Go.Proofs
theorem i_and {x y : Nat} (hx : x < 4611686018427387904) (hy : y < 4611686018427387904) :
    IntKind.i64.wrap ((@HAnd.hAnd (BitVec 64) (BitVec 64) (BitVec 64) (@instHAndOfAndOp (BitVec IntKind.i64.bits) (@BitVec.instAndOp IntKind.i64.bits)) (BitVec.ofInt 64 (x : Int)) (BitVec.ofInt 64 (y : Int))).toNat) = ((x &&& y : Nat) : Int) := by
  have h : (BitVec.ofInt 64 (x : Int) &&& BitVec.ofInt 64 (y : Int)).toNat = x &&& y := by rw [BitVec.toNat_and, bv64 (by omega), bv64 (by omega)]
  show IntKind.i64.wrap ((BitVec.ofInt 64 (x : Int) &&& BitVec.ofInt 64 (y : Int)).toNat : Int) = _
  rw [h]
  have : x &&& y ≤ x := Nat.and_le_left
  exact w64 (by omega)
theorem i_and1 {x : Nat} (hx : x < 4611686018427387904) :
    IntKind.i64.wrap ((@HAnd.hAnd (BitVec 64) (BitVec 64) (BitVec 64) (@instHAndOfAndOp (BitVec IntKind.i64.bits) (@BitVec.instAndOp IntKind.i64.bits)) (BitVec.ofInt 64 (x : Int)) (BitVec.ofInt 64 1)).toNat) = ((x &&& 1 : Nat) : Int) := i_and (y := 1) hx (by omega)
theorem i_or {x y : Nat} (hx : x < 4611686018427387904) (hy : y < 4611686018427387904) :
    IntKind.i64.wrap ((@HOr.hOr (BitVec 64) (BitVec 64) (BitVec 64) (@instHOrOfOrOp (BitVec IntKind.i64.bits) (@BitVec.instOrOp IntKind.i64.bits)) (BitVec.ofInt 64 (x : Int)) (BitVec.ofInt 64 (y : Int))).toNat) = ((x ||| y : Nat) : Int) := by
  have h : (BitVec.ofInt 64 (x : Int) ||| BitVec.ofInt 64 (y : Int)).toNat = x ||| y := by rw [BitVec.toNat_or, bv64 (by omega), bv64 (by omega)]
  show IntKind.i64.wrap ((BitVec.ofInt 64 (x : Int) ||| BitVec.ofInt 64 (y : Int)).toNat : Int) = _
  rw [h]
  have : x ||| y < 2 ^ 62 := Nat.or_lt_two_pow (n := 62) (by omega) (by omega)
  exact w64 (by omega)
theorem i_shl {b : Nat} (h : b < 60) : IntKind.i64.wrap (1 * 2 ^ min b 64) = ((2 ^ b : Nat) : Int) := by
  have h1 : min b 64 = b := by omega
  have h2 : (2 : Int) ^ b = ((2 ^ b : Nat) : Int) := by simp
  rw [h1, Int.one_mul, h2]
  have h3 : 2 ^ b < 1152921504606846976 := Nat.pow_lt_pow_right (a := 2) (n := 60) (by omega) h
  generalize 2 ^ b = q at h3 ⊢
  exact w64 (by omega)
theorem k_l02Single (f : Nat) (h : f < 1024) : Fun Tryz.prog nz4e [iv f] (bv (smallN f)) := by
  refine fun_of mixed cziy rfl ⟨rfl, trivial⟩ ?_
  by_cases h0 : f = 0
  · subst h0
    simp only [Az70, Bz6z, go_sem, yz0, Int.reduceLT, reduceLE, reduceToNat, reduceNeg, Nat.reduceLT, reduceLeDiff, reduceMul, reduceSub, reduceIte, reduceEqDiff, reduceAdd, reduceCtorEq]
    rfl
  · have w1 : IntKind.i64.wrap ((f : Int) - 1) = ((f - 1 : Nat) : Int) := by rw [w64 (by omega)]; omega
    have hand := i_and (x := f) (y := f - 1) (by omega) (by omega)
    have hb : ((((f &&& (f - 1) : Nat)) : Int) == 0) = smallN f := by
      unfold smallN
      rw [← dec_beqN, Bool.eq_iff_iff, beq_iff_eq, decide_eq_true_iff]; omega
    simp only [Az70, Bz6z, w1, hand, hb, go_sem, yz0, Int.reduceLT, reduceLE, reduceToNat, reduceNeg, Nat.reduceLT, reduceLeDiff, reduceMul, reduceSub, reduceIte, reduceEqDiff, reduceAdd, reduceCtorEq]
theorem bitsTo_lt {f s : Nat} {x : Int} (h : x ∈ bitsTo f s) : 0 ≤ x ∧ x < s := by
  simp only [bitsTo, List.mem_map, List.mem_filter, List.mem_range] at h
  obtain ⟨k, ⟨h1, _⟩, rfl⟩ := h
  omega
end Go.Ab
namespace Go.Ab
open Go.Proofs
end Go.Ab
namespace Go.Ab
open Go.Proofs
theorem coeL_rws_t {hp : Nat → AObj} {m : List Nat} {len : Bool} : ∀ {xss : List (List Int)}, CoeL hp m len (rwn xss) (rws xss) = True
  | [] => by simp [rwn, rws, CoeL]
  | xs :: xss => by
    have h := coeL_rws_t (hp := hp) (m := m) (len := len) (xss := xss)
    simp only [rwn, rws, List.map_cons] at h ⊢
    rw [yz13, coe_ro, h]
    exact eq_true ⟨⟨by omega, coeL_ints⟩, trivial⟩
end Go.Ab
namespace Go.Ab
open Go.Proofs
end Go.Ab
namespace Go.Ab
open Go.Proofs
end Go.Ab
namespace Go.Ab
open Go.Proofs
end Go.Ab
namespace Go.Ab
open Go.Proofs
end Go.Ab
namespace Go.Ab
open Go.Proofs
end Go.Ab
namespace Go.Ab
open Go.Proofs
theorem thaw_L {l : List (Nat × AVal)} {h : List (Nat × AObj)} {r i q n m v k k' : Nat} {nn : Bool} {cs cs' : List AVal} (hr : L .gone h r = .row v k nn cs) :
    St.thaw ⟨L .any l, L .gone h⟩ r i q n m k' cs' = ⟨L .any (woT n l), L .gone ((q, .row m k' true (woL n cs')) :: (r, .row v k nn ((woL n cs).set i (.own q m))) :: woO n h)⟩ := by
  unfold St.thaw
  congr 1
  · funext x; exact (woT_eq l x).symm
  · funext x
    simp only [L]
    split
    · rfl
    · split
      · rw [hr]
      · exact (woO_eq h x).symm
theorem gwp_thaw {gs : List GStep} {K : St → Prop} {l : List (Nat × AVal)} {h : List (Nat × AObj)} {r i q n v k k' : Nat} {nn : Bool} {cs cs' : List AVal} (hr : L .gone h r = .row v k nn cs)
    (hi : cs[i]? = some (.ro (some (some (n + 1))) k' cs')) (hne : cs' ≠ []) (hq : L .gone h q = .gone)
    (hk : ∀ m, gwp gs K ⟨L .any (woT n l), L .gone ((q, .row m k' true (woL n cs')) :: (r, .row v k nn ((woL n cs).set i (.own q m))) :: woO n h)⟩) : gwp (.thaw r i q :: gs) K ⟨L .any l, L .gone h⟩ :=
  ⟨v, k, nn, cs, n, k', cs', hr, hi, hne, hq, fun m => by rw [thaw_L hr]; exact hk m⟩
theorem wo_o {n k : Nat} {cs : List AVal} : AVal.wo n (.ro (some (some 0)) k cs) = .ro (some (some 0)) k (woL n cs) := by cases cs <;> simp [AVal.wo, woL]
theorem woL_rwo {n : Nat} {xss : List (List Int)} : woL n (rwo xss) = rwo xss := by
  simp only [woL_eq, rwo, List.map_map]
  refine List.map_congr_left fun xs _ => ?_
  simp only [Function.comp]
  rw [wo_o, woL_ints]
theorem wo_st {n : Nat} {cs : List AVal} : AVal.wo n (.st cs) = .st (woL n cs) := by simp only [AVal.wo]
theorem wo_ptr {n r u o : Nat} : AVal.wo n (.ptr r u o) = .ptr r u o := by simp only [AVal.wo]
theorem woL_nil {n : Nat} : woL n [] = [] := by simp only [woL]
theorem woL_cons {n : Nat} {A : AVal} {cs : List AVal} : woL n (A :: cs) = AVal.wo n A :: woL n cs := by simp only [woL]
theorem woO_row {n v k : Nat} {nn : Bool} {cs : List AVal} : AObj.wo n (.row v k nn cs) = .row v k nn (woL n cs) := rfl
theorem woO_box {n v : Nat} {cs : List AVal} : AObj.wo n (.box v cs) = .box v (woL n cs) := rfl
end Go.Ab
namespace Go.Ab
open Go.Proofs
end Go.Ab
namespace Go.Ab
open Go.Proofs
end Go.Ab
namespace Go.Ab
open Go.Proofs
end Go.Ab
namespace Go.Ab
open Go.Proofs
theorem wo_any {n : Nat} : AVal.wo n .any = .any := by simp only [AVal.wo]
end Go.Ab
namespace Go.Ab
open Go.Proofs
end Go.Ab
namespace Go.Ab
open Go.Proofs
structure Mach (n o : Int) (next out : List (List Int)) : Prop where
  aut : Aut n next
  o1 : 1 ≤ o
  o2 : o ≤ 3
  len : out.length = next.length
  row : ∀ row ∈ out, (row.length : Int) = n ∧ ∀ x ∈ row, 0 ≤ x ∧ x < o
end Go.Ab
namespace Go.Ab
open Go.Proofs
end Go.Ab
namespace Go.Ab
open Go.Proofs
end Go.Ab
namespace Go.Ab
open Go.Proofs
end Go.Ab
namespace Go.Ab
open Go.Proofs
end Go.Ab
namespace Go.Ab
open Go.Proofs
theorem DJ_perm {ps qs : List (Nat × List Int)} (h : ps.Perm qs) (hp : DJ ps) : DJ qs :=
  (h.pairwise_iff fun {x y} e => by
    rcases e with e | e | e
    · exact .inr (.inl e)
    · exact .inl e
    · exact .inr (.inr (Ne.symm e))).1 hp
theorem ints_put {xs : List Int} {i : Nat} {v : Int} : List.take i (ints xs) ++ [iv v] ++ List.drop (i + 1) (ints xs) = ints (xs.take i ++ [v] ++ xs.drop (i + 1)) := by
  simp only [List.map_append, List.map_take, List.map_drop, List.map_cons, List.map_nil]
theorem lput_len {xs : List Int} {i : Nat} {v : Int} (h : i < xs.length) : (xs.take i ++ [v] ++ xs.drop (i + 1)).length = xs.length := by
  simp only [List.length_append, List.length_take, List.length_drop, List.length_cons, List.length_nil]; omega
theorem lput_mem {xs : List Int} {i : Nat} {v : Int} {Q : Int → Prop} (h : ∀ x ∈ xs, Q x) (hv : Q v) : ∀ x ∈ xs.take i ++ [v] ++ xs.drop (i + 1), Q x := by
  intro x hx
  simp only [List.mem_append, List.mem_singleton] at hx
  rcases hx with (hx | rfl) | hx
  · exact h x (List.mem_of_mem_take hx)
  · exact hv
  · exact h x (List.mem_of_mem_drop hx)
end Go.Ab
namespace Go.Ab
open Go.Proofs
theorem rf_L {l : List (Nat × AVal)} {h : List (Nat × AObj)} {r i q v k k' ver : Nat} {nn nn' : Bool} {cs cs' : List AVal} (hr : L .gone h r = .row v k nn cs) (hqr : q ≠ r) :
    St.rf ⟨L .any l, L .gone h⟩ r i q ver k' nn' cs' = ⟨L .any l, L .gone ((r, .row v k nn (cs.set i (.ro (frNm nn' cs'.length ver) k' cs'))) :: (q, .gone) :: h)⟩ := by
  unfold St.rf
  congr 1
  funext x
  simp only [L]
  split
  · rw [hr]
  · split <;> rfl
theorem gwp_rf {gs : List GStep} {K : St → Prop} {l : List (Nat × AVal)} {h : List (Nat × AObj)} {r i q v k k' ver : Nat} {nn nn' : Bool} {cs cs' : List AVal} (hr : L .gone h r = .row v k nn cs)
    (hi : cs[i]? = some (.own q ver)) (hqr : q ≠ r) (hq : L .gone h q = .row ver k' nn' cs')
    (hk : (∀ n k'' cs'', AVal.ro (some (some (n + 1))) k'' cs'' ∈ cs → cs'' ≠ [] → n ≠ ver) → gwp gs K ⟨L .any l, L .gone ((r, .row v k nn (cs.set i (.ro (frNm nn' cs'.length ver) k' cs'))) :: (q, .gone) :: h)⟩) : gwp (.rf r i q :: gs) K ⟨L .any l, L .gone h⟩ :=
  ⟨v, k, nn, cs, ver, k', nn', cs', hr, hi, hqr, hq, fun hd => by rw [rf_L hr hqr]; exact hk hd⟩
theorem usesL_rwp2 {U : Nat → Prop} {X : AVal} {A C : List (Nat × List Int)} (h : usesL U (rwp A ++ X :: rwp C)) : ∀ p ∈ A ++ C, p.2 = [] ∨ U p.1 := by
  intro p hp
  rcases List.mem_append.1 hp with hp | hp
  · exact usesL_rwp h p hp
  · have h2 : ∀ (l : List AVal), usesL U (l ++ X :: rwp C) → usesL U (rwp C) := by
      intro l
      induction l with
      | nil => intro h; simp only [List.nil_append, usesL] at h; exact h.2
      | cons y l ih => intro h; simp only [List.cons_append, usesL] at h; exact ih h.2
    exact usesL_rwp (rest := []) (by rw [List.append_nil]; exact h2 _ h) p hp
theorem woL_set {A C : List (Nat × List Int)} {b : Nat × List Int} {X : AVal} (h : ∀ p ∈ A ++ C, p.2 = [] ∨ p.1 ≠ b.1) : (woL b.1 (rwp (A ++ b :: C))).set A.length X = rwp A ++ X :: rwp C := by
  have e : rwp (A ++ b :: C) = rwp A ++ (.ro (some (some (b.1 + 1))) 1 (ints b.2)) :: rwp C := by simp [rwp]
  have hl : (rwp A).length = A.length := rwp_len
  have hA := woL_rwp (n := b.1) (ps := A) fun p hp => h p (List.mem_append.2 (.inl hp))
  have hC := woL_rwp (n := b.1) (ps := C) fun p hp => h p (List.mem_append.2 (.inr hp))
  have happ : ∀ l l' : List AVal, woL b.1 (l ++ l') = woL b.1 l ++ woL b.1 l' := by
    intro l l'
    simp only [woL_eq, List.map_append]
  rw [e, happ, hA, woL_cons, hC, List.set_append_right _ _ (by omega), hl, Nat.sub_self]
  rfl
theorem own_at {A C : List (Nat × List Int)} {X : AVal} {i : Nat} (h : i = A.length) : (rwp A ++ X :: rwp C).getD i .any = X := by
  subst h
  rw [List.getD_eq_getElem?_getD, List.getElem?_append_right (by rw [rwp_len]; exact Nat.le_refl _), rwp_len]; simp
theorem DJ_out {X Y : List (Nat × List Int)} {b : Nat × List Int} (h : DJ (X ++ b :: Y)) (hb : b.2 ≠ []) : ∀ p ∈ X ++ Y, p.2 = [] ∨ p.1 ≠ b.1 := by
  intro p hp
  rcases (List.pairwise_cons.1 (DJ_perm List.perm_middle h)).1 p hp with e | e | e
  · exact absurd e hb
  · exact .inl e
  · exact .inr (Ne.symm e)
theorem DJ_in {X Y : List (Nat × List Int)} {b : Nat × List Int} {u : Nat} {r : List Int} (h : DJ (X ++ b :: Y)) (hu : ∀ p ∈ X ++ Y, p.2 = [] ∨ p.1 ≠ u) : DJ (X ++ (u, r) :: Y) :=
  DJ_perm List.perm_middle.symm (List.pairwise_cons.2 ⟨fun p hp => by
    rcases hu p hp with e | e
    · exact .inr (.inl e)
    · exact .inr (.inr (Ne.symm e)), (List.pairwise_cons.1 (DJ_perm List.perm_middle h)).2⟩)
theorem rwp_get {A C : List (Nat × List Int)} {b : Nat × List Int} {i : Nat} (h : i = A.length) : (rwp (A ++ b :: C))[i]? = some (.ro (some (some (b.1 + 1))) 1 (ints b.2)) := by
  subst h
  rw [rwp, List.map_append, List.getElem?_append_right (by simp)]
  simp
theorem own_get {A C : List (Nat × List Int)} {X : AVal} {i : Nat} (h : i = A.length) : (rwp A ++ X :: rwp C)[i]? = some X := by
  subst h
  rw [List.getElem?_append_right (by rw [rwp_len]; exact Nat.le_refl _), rwp_len]; simp
theorem rwp_cat {A C : List (Nat × List Int)} {u : Nat} {xs : List Int} : rwp A ++ (.ro (some (some (u + 1))) 1 (ints xs)) :: rwp C = rwp (A ++ (u, xs) :: C) := by simp [rwp]
theorem rwp_split {ps : List (Nat × List Int)} {k : Nat} (h : k < ps.length) : ∃ A b C, ps = A ++ b :: C ∧ A.length = k :=
  ⟨ps.take k, ps[k], ps.drop (k + 1), by rw [← List.drop_eq_getElem_cons h, List.take_append_drop], by rw [List.length_take]; omega⟩
structure TwI (n m : Int) (A B : List (Nat × List Int)) (top : Int) (low : Int) : Prop where
  a : ∀ p ∈ A, (p.2.length : Int) = m ∧ ∀ x ∈ p.2, 0 ≤ x ∧ x < top
  b : ∀ p ∈ B, (p.2.length : Int) = n ∧ ∀ x ∈ p.2, 0 ≤ x ∧ x < low
end Go.Ab
namespace Go.Ab
open Go.Proofs
theorem k_P6Pick (code : List Int) (n : Int) (hb : ∀ x ∈ code, 0 ≤ x ∧ x ≤ 255) :
    FunE Tryz.prog nz3x [.ro (some (some 0)) 1 (intsK .u8 code), iv n] (fun v => ∃ b, v = .int .i64 b ∧ 0 ≤ b ∧ (b < n ∨ b = 0)) := by
  refine funE_of mixed czh8 rfl ?_
  simp only [Bz8s, Az8t, go_sem, yz0, Int.reduceLT, reduceLE, reduceToNat, reduceNeg, Nat.reduceLT, reduceLeDiff, reduceMul, reduceSub, reduceIte, reduceEqDiff, reduceAdd, reduceCtorEq]
  intro vs
  refine call_sh (k_from code) qCS (fun _ => ⟨_, _, _, rfl, 0, rfl, rfl⟩) ?_
  rintro outs rows res ⟨rfl, v, rfl, rfl⟩
  refine ⟨rfl, by simp, by rw [Option.getD_some, yzf]; simp only [go_sem, yz0, Int.reduceLT, reduceLE, reduceToNat, reduceNeg, Nat.reduceLT, reduceLeDiff, reduceMul, reduceSub, reduceIte, reduceEqDiff, reduceAdd, reduceCtorEq], ?_⟩
  simp only [Nat.not_lt_zero, range1, yzx, yz10, yz15, yz14, yz11, yz18, yz17, yz16, yzz, yzp, yzh, yz3, yzv, yzs, yzq, yzn, yzu, yzd, yze, yz8, yzc, yzm, yzj, yz2, yzb, yz9, yz7, yzl, yzk, List.range_zero, yz4, yz5, yza, yzo, yzf, yzt, AVal.fresh, freshL, yz1, yzi, AObj.fresh, id, Option.isSome_some, or_true, true_or, go_sem, yz0, Int.reduceLT, reduceLE, reduceToNat, reduceNeg, Nat.reduceLT, reduceLeDiff, reduceMul, reduceSub, reduceIte, reduceEqDiff, reduceAdd, reduceCtorEq]
  refine call_funB (k_pick code 0 0 n hb (by omega)) rfl qCS qCS ?_
  rintro cs' x ⟨a', s', b, rfl, h1, h2, rfl, h3, h4⟩
  simp only [Nat.not_lt_zero, range1, yzx, yz10, yz15, yz14, yz11, yz18, yz17, yz16, yzz, yzp, yzh, yz3, yzv, yzs, yzq, yzn, yzu, yzd, yze, yz8, yzc, yzm, yzj, yz2, yzb, yz9, yz7, yzl, yzk, List.range_zero, yz4, yz5, yza, yzo, yzf, yzt, AVal.fresh, freshL, yz1, yzi, AObj.fresh, id, Option.isSome_some, or_true, true_or, go_sem, yz0, Int.reduceLT, reduceLE, reduceToNat, reduceNeg, Nat.reduceLT, reduceLeDiff, reduceMul, reduceSub, reduceIte, reduceEqDiff, reduceAdd, reduceCtorEq]
  exact ⟨_, rfl, b, rfl, h3, h4⟩
def IsW6 (l most : Int) (w : List Int) : Prop := (w.length : Int) ≤ most ∧ ∀ x ∈ w, 0 ≤ x ∧ x < l
theorem k_P6Word (code : List Int) (l most : Int) (hb : ∀ x ∈ code, 0 ≤ x ∧ x ≤ 255) (hl : 1 ≤ l) (hm : 0 ≤ most ∧ most ≤ 100) :
    RowI Tryz.prog nz3w [.ro (some (some 0)) 1 (intsK .u8 code), iv l, iv most] (IsW6 l most) := by
  refine rowI_of mixed czh7 rfl ?_
  have wm : IntKind.i64.wrap (most + 1) = most + 1 := w64 (by omega)
  simp only [Bz8i, Bz8j, Bz8k, Bz8l, Bz8m, Bz8n, Bz8o, Bz8p, Bz8q, Az8r, wm, go_sem, yz0, Int.reduceLT, reduceLE, reduceToNat, reduceNeg, Nat.reduceLT, reduceLeDiff, reduceMul, reduceSub, reduceIte, reduceEqDiff, reduceAdd, reduceCtorEq]
  intro vs
  refine call_sh (k_from code) qCS (fun _ => ⟨_, _, _, rfl, 0, rfl, rfl⟩) ?_
  rintro outs rows res ⟨rfl, v, rfl, rfl⟩
  refine ⟨rfl, by simp, by rw [Option.getD_some, yzf]; simp only [go_sem, yz0, Int.reduceLT, reduceLE, reduceToNat, reduceNeg, Nat.reduceLT, reduceLeDiff, reduceMul, reduceSub, reduceIte, reduceEqDiff, reduceAdd, reduceCtorEq], ?_⟩
  simp only [wm, Nat.not_lt_zero, range1, yzx, yz10, yz15, yz14, yz11, yz18, yz17, yz16, yzz, yzp, yzh, yz3, yzv, yzs, yzq, yzn, yzu, yzd, yze, yz8, yzc, yzm, yzj, yz2, yzb, yz9, yz7, yzl, yzk, List.range_zero, yz4, yz5, yza, yzo, yzf, yzt, AVal.fresh, freshL, yz1, yzi, AObj.fresh, id, Option.isSome_some, or_true, true_or, go_sem, yz0, Int.reduceLT, reduceLE, reduceToNat, reduceNeg, Nat.reduceLT, reduceLeDiff, reduceMul, reduceSub, reduceIte, reduceEqDiff, reduceAdd, reduceCtorEq]
  intro vs3 vs4
  refine call_funB (k_pick code 0 0 (most + 1) hb (by omega)) rfl qCS qCS ?_
  rintro cs' x ⟨a', s', b, rfl, h1, h2, rfl, h3, h4⟩
  simp only [Nat.not_lt_zero, range1, yzx, yz10, yz15, yz14, yz11, yz18, yz17, yz16, yzz, yzp, yzh, yz3, yzv, yzs, yzq, yzn, yzu, yzd, yze, yz8, yzc, yzm, yzj, yz2, yzb, yz9, yz7, yzl, yzk, List.range_zero, yz4, yz5, yza, yzo, yzf, yzt, AVal.fresh, freshL, yz1, yzi, AObj.fresh, id, Option.isSome_some, or_true, true_or, go_sem, yz0, Int.reduceLT, reduceLE, reduceToNat, reduceNeg, Nat.reduceLT, reduceLeDiff, reduceMul, reduceSub, reduceIte, reduceEqDiff, reduceAdd, reduceCtorEq]
  refine wpD_lo (fun (_, _, _, _, _, k) => Int.toNat k) (fun (w, _, _, a, _, k) => IsW6 l most w ∧ (w.length : Int) + k ≤ most ∧ 0 ≤ a ∧ a + 2 * k ≤ 1000 ∧ 0 ≤ k)
    (fun ((w, v12, v11, a, s, k) : List Int × Nat × Nat × Int × Int × Int) => ⟨L .any [(1, iv l), (7, .ptr 11 v11 0), (8, .own 12 v12), (9, iv k)], L .gone [(11, .box v11 (srcC code a s)), (12, .row v12 1 true (ints w))]⟩)
    ([], _, _, a', s', b) ?_ (by simp only [go_sem, yz0, Int.reduceLT, reduceLE, reduceToNat, reduceNeg, Nat.reduceLT, reduceLeDiff, reduceMul, reduceSub, reduceIte, reduceEqDiff, reduceAdd, reduceCtorEq]; rfl) ?_
  · simp only [IsW6, List.length_nil, List.not_mem_nil]
    simp
    omega
  · rintro ⟨w, v12, v11, a, s, k⟩ ⟨hw, hk1, ha, ha2, hk⟩
    by_cases hk0 : k > 0
    · simp only [decide_eq_true hk0, go_sem, yz0, Int.reduceLT, reduceLE, reduceToNat, reduceNeg, Nat.reduceLT, reduceLeDiff, reduceMul, reduceSub, reduceIte, reduceEqDiff, reduceAdd, reduceCtorEq]
      intro vs5
      refine call_funB (k_pick code a s l hb (by omega)) rfl qCS qCS ?_
      rintro cs' x ⟨a'', s'', b', rfl, g1, g2, rfl, g3, g4⟩
      have hwk : IntKind.i64.wrap (k - 1) = k - 1 := w64 (by omega)
      simp only [hwk, Nat.not_lt_zero, range1, yzx, yz10, yz15, yz14, yz11, yz18, yz17, yz16, yzz, yzp, yzh, yz3, yzv, yzs, yzq, yzn, yzu, yzd, yze, yz8, yzc, yzm, yzj, yz2, yzb, yz9, yz7, yzl, yzk, List.range_zero, yz4, yz5, yza, yzo, yzf, yzt, AVal.fresh, freshL, yz1, yzi, AObj.fresh, id, Option.isSome_some, or_true, true_or, go_sem, yz0, Int.reduceLT, reduceLE, reduceToNat, reduceNeg, Nat.reduceLT, reduceLeDiff, reduceMul, reduceSub, reduceIte, reduceEqDiff, reduceAdd, reduceCtorEq]
      refine ⟨⟨_, rfl, rfl⟩, ?_, (_, _, _, _, _, _), ?_, ?_, rfl⟩
      · omega
      · show (k - 1).toNat < k.toNat
        omega
      · refine ⟨⟨?_, ?_⟩, ?_, ?_, ?_, ?_⟩
        · simp; omega
        · intro x hx
          simp only [List.mem_append, List.mem_singleton] at hx
          rcases hx with hx | rfl
          · exact hw.2 x hx
          · omega
        · simp; omega
        · show 0 ≤ a''; omega
        · show a'' + 2 * (k - 1) ≤ 1000; omega
        · show 0 ≤ k - 1; omega
    · simp only [decide_eq_false hk0, go_sem, yz0, Int.reduceLT, reduceLE, reduceToNat, reduceNeg, Nat.reduceLT, reduceLeDiff, reduceMul, reduceSub, reduceIte, reduceEqDiff, reduceAdd, reduceCtorEq]
      exact ⟨12, v12, w, by omega, rfl, by simp only [go_sem, yz0, Int.reduceLT, reduceLE, reduceToNat, reduceNeg, Nat.reduceLT, reduceLeDiff, reduceMul, reduceSub, reduceIte, reduceEqDiff, reduceAdd, reduceCtorEq], hw⟩
theorem k_f6big (code : List Int) : Fun Tryz.prog nz1j [.ro (some (some 0)) 1 (intsK .u8 code)] (bv (decide ((code.length : Int) > 4096))) := by
  refine fun_of mixed czh1 rfl ⟨rfl, trivial⟩ ?_
  simp only [Bz7m, Az7n, go_sem, yz0, Int.reduceLT, reduceLE, reduceToNat, reduceNeg, Nat.reduceLT, reduceLeDiff, reduceMul, reduceSub, reduceIte, reduceEqDiff, reduceAdd, reduceCtorEq]
  try (intro _)
  try simp
theorem k_f6ints (xs ys : List Int) : Fun Tryz.prog nzo [.ro none 1 (ints xs), .ro none 1 (ints ys)] (bv (decide (xs = ys))) := by
  refine fun_of mixed czh6 rfl ⟨rfl, trivial⟩ ?_
  simp only [Az8h, Bz8g, go_sem, yz0, Int.reduceLT, reduceLE, reduceToNat, reduceNeg, Nat.reduceLT, reduceLeDiff, reduceMul, reduceSub, reduceIte, reduceEqDiff, reduceAdd, reduceCtorEq]
  intro hx hy
  by_cases hlen : xs.length = ys.length
  · have hne : ((xs.length : Int) != (ys.length : Int)) = false := by rw [hlen]; simp
    simp only [hne, Bz52, Bz8f, Bz8d, go_sem, yz0, Int.reduceLT, reduceLE, reduceToNat, reduceNeg, Nat.reduceLT, reduceLeDiff, reduceMul, reduceSub, reduceIte, reduceEqDiff, reduceAdd, reduceCtorEq]
    refine wpD_lo (fun i => xs.length - i) (fun i => i ≤ xs.length ∧ xs.take i = ys.take i)
      (fun i : Nat => ⟨L .any [(0, .ro none 1 (ints xs)), (1, .ro none 1 (ints ys)), (5, iv i)], L .gone []⟩) 0 (by simp) (by simp only [Bz2f, go_sem, yz0, Int.reduceLT, reduceLE, reduceToNat, reduceNeg, Nat.reduceLT, reduceLeDiff, reduceMul, reduceSub, reduceIte, reduceEqDiff, reduceAdd, reduceCtorEq]; try rfl) ?_
    rintro i ⟨hi, hti⟩
    by_cases hlt : (i : Int) < xs.length
    · have hlt1 : i < xs.length := by omega
      have hlt2 : i < ys.length := by omega
      simp only [Bz2f, Bz53, Bz54, yz12 hlt1, yz12 hlt2, decide_eq_true hlt, go_sem, yz0, Int.reduceLT, reduceLE, reduceToNat, reduceNeg, Nat.reduceLT, reduceLeDiff, reduceMul, reduceSub, reduceIte, reduceEqDiff, reduceAdd, reduceCtorEq]
      intro _
      refine ⟨⟨by omega, hlt1⟩, hlt1, ⟨by omega, hlt2⟩, hlt2, ?_⟩
      simp only [Bz8b, Bz8c, nat1 i _ hlt1 hx, go_sem, yz0, Int.reduceLT, reduceLE, reduceToNat, reduceNeg, Nat.reduceLT, reduceLeDiff, reduceMul, reduceSub, reduceIte, reduceEqDiff, reduceAdd, reduceCtorEq]
      refine ⟨fun h => ?_, fun h => ⟨i + 1, by omega, ⟨by omega, take_eq_step 0 hlt1 hlt2 hti (bne_false_eq h)⟩, rfl⟩⟩
      have : xs ≠ ys := by rintro rfl; simp at h
      simp [this]
    · have : i = xs.length := by omega
      subst this
      simp only [Bz2f, Bz53, Bz54, Bz8e, decide_eq_false hlt, go_sem, yz0, Int.reduceLT, reduceLE, reduceToNat, reduceNeg, Nat.reduceLT, reduceLeDiff, reduceMul, reduceSub, reduceIte, reduceEqDiff, reduceAdd, reduceCtorEq]
      intro _
      have : xs = ys := by rw [List.take_length, hlen, List.take_length] at hti; exact hti
      simp [this]
  · have hne : ((xs.length : Int) != (ys.length : Int)) = true := by simp; omega
    simp only [hne, Bz52, go_sem, yz0, Int.reduceLT, reduceLE, reduceToNat, reduceNeg, Nat.reduceLT, reduceLeDiff, reduceMul, reduceSub, reduceIte, reduceEqDiff, reduceAdd, reduceCtorEq]
    have : xs ≠ ys := by rintro rfl; exact hlen rfl
    simp [this]
end Go.Ab
namespace Go.Ab
open Go.Proofs
theorem k_f6before (xs ys : List Int) : Fun Tryz.prog nz44 [.ro none 1 (ints xs), .ro none 1 (ints ys)] (bv (befP xs ys)) := by
  refine fun_of mixed czhh rfl ⟨rfl, trivial⟩ ?_
  simp only [Aza3, Bza2, go_sem, yz0, Int.reduceLT, reduceLE, reduceToNat, reduceNeg, Nat.reduceLT, reduceLeDiff, reduceMul, reduceSub, reduceIte, reduceEqDiff, reduceAdd, reduceCtorEq]
  intro hx hy
  by_cases hlen : xs.length = ys.length
  · have hne : ((xs.length : Int) != (ys.length : Int)) = false := by rw [hlen]; simp
    have hb : befP xs ys = lexP xs ys := by rw [befP, if_pos hlen]
    simp only [hne, hb, Bz5d, Bza1, Bz9z, go_sem, yz0, Int.reduceLT, reduceLE, reduceToNat, reduceNeg, Nat.reduceLT, reduceLeDiff, reduceMul, reduceSub, reduceIte, reduceEqDiff, reduceAdd, reduceCtorEq]
    refine wpD_lo (fun i => xs.length - i) (fun i => i ≤ xs.length ∧ lexP (xs.drop i) (ys.drop i) = lexP xs ys)
      (fun i : Nat => ⟨L .any [(0, .ro none 1 (ints xs)), (1, .ro none 1 (ints ys)), (5, iv i)], L .gone []⟩) 0 (by simp) (by simp only [Bz2n, go_sem, yz0, Int.reduceLT, reduceLE, reduceToNat, reduceNeg, Nat.reduceLT, reduceLeDiff, reduceMul, reduceSub, reduceIte, reduceEqDiff, reduceAdd, reduceCtorEq]; try rfl) ?_
    rintro i ⟨hi, hti⟩
    by_cases hlt : (i : Int) < xs.length
    · have hlt1 : i < xs.length := by omega
      have hlt2 : i < ys.length := by omega
      rw [drop_getD hlt1 0, drop_getD hlt2 0] at hti
      simp only [lexP] at hti
      simp only [Bz2n, Bz5e, Bz5g, yz12 hlt1, yz12 hlt2, decide_eq_true hlt, go_sem, yz0, Int.reduceLT, reduceLE, reduceToNat, reduceNeg, Nat.reduceLT, reduceLeDiff, reduceMul, reduceSub, reduceIte, reduceEqDiff, reduceAdd, reduceCtorEq]
      intro _
      refine ⟨⟨by omega, hlt1⟩, hlt1, ⟨by omega, hlt2⟩, hlt2, ?_⟩
      by_cases he : xs.getD i 0 = ys.getD i 0
      · rw [if_pos he] at hti
        have hb : (xs.getD i 0 != ys.getD i 0) = false := by rw [he]; simp
        simp only [hb, Bz5f, Bz9y, nat1 i _ hlt1 hx, go_sem, yz0, Int.reduceLT, reduceLE, reduceToNat, reduceNeg, Nat.reduceLT, reduceLeDiff, reduceMul, reduceSub, reduceIte, reduceEqDiff, reduceAdd, reduceCtorEq]
        exact ⟨i + 1, by omega, ⟨by omega, hti⟩, rfl⟩
      · rw [if_neg he] at hti
        have hb : (xs.getD i 0 != ys.getD i 0) = true := by simpa using he
        simp only [hb, Bz5f, yz12 hlt1, yz12 hlt2, go_sem, yz0, Int.reduceLT, reduceLE, reduceToNat, reduceNeg, Nat.reduceLT, reduceLeDiff, reduceMul, reduceSub, reduceIte, reduceEqDiff, reduceAdd, reduceCtorEq]
        refine ⟨⟨by omega, hlt1⟩, hlt1, ⟨by omega, hlt2⟩, hlt2, ?_⟩
        rw [← hti]
    · have : i = xs.length := by omega
      subst this
      rw [List.drop_length] at hti
      simp only [Bz2n, Bz5e, Bz5g, Bza0, decide_eq_false hlt, go_sem, yz0, Int.reduceLT, reduceLE, reduceToNat, reduceNeg, Nat.reduceLT, reduceLeDiff, reduceMul, reduceSub, reduceIte, reduceEqDiff, reduceAdd, reduceCtorEq]
      intro _
      rw [← hti]; rfl
  · have hne : ((xs.length : Int) != (ys.length : Int)) = true := by simp; omega
    have hb : befP xs ys = decide ((xs.length : Int) < ys.length) := by rw [befP, if_neg hlen]; simp
    simp only [hne, hb, Bz5d, go_sem, yz0, Int.reduceLT, reduceLE, reduceToNat, reduceNeg, Nat.reduceLT, reduceLeDiff, reduceMul, reduceSub, reduceIte, reduceEqDiff, reduceAdd, reduceCtorEq]
    try (intro _ _)
    try simp
end Go.Ab
namespace Go.Ab
end Go.Ab
namespace Go.Ab
theorem appg_new {α : Type} {xs : List α} {y d : α} : (xs ++ [y]).getD xs.length d = y := by
  simp [List.getD_eq_getElem?_getD]
end Go.Ab
namespace Go.Ab
structure CI (n : Int) (L : List Int) : Prop where
  nd : L.Nodup
  rg : ∀ s ∈ L, 0 ≤ s ∧ s < n
  hd : L.getD 0 1 = 0
theorem CI.len {n : Int} {L : List Int} (h : CI n L) (hn : n ≤ 10) : 1 ≤ L.length ∧ L.length ≤ 10 := by
  have h1 : L ≠ [] := fun e => by have := h.hd; rw [e] at this; simp at this
  have hm : (L.map Int.toNat).Nodup := by
    refine List.Pairwise.map _ ?_ (List.Pairwise.and_mem.1 h.nd)
    rintro a b ⟨ha, hb, hab⟩ e
    have := h.rg a ha
    have := h.rg b hb
    omega
  have := nodup_lt 10 _ hm fun x hx => by
    obtain ⟨s, hs, rfl⟩ := List.mem_map.1 hx
    have := h.rg s hs
    omega
  rw [List.length_map] at this
  exact ⟨List.length_pos_iff.2 h1, this⟩
structure Rel (na oa nb ob : List (List Int)) (R : Int → Int → Prop) : Prop where
  len : na.length = nb.length
  step : ∀ s t, R s t → ∀ x, 0 ≤ x ∧ x < (na.length : Int) → outA oa s x = outA ob t x ∧ R (stepA na s x) (stepA nb t x)
  fn : ∀ s t t', R s t → R s t' → t = t'
  inj : ∀ s s' t, R s t → R s' t → s = s'
def RelL (R : Int → Int → Prop) (L M : List Int) : Prop := L.length = M.length ∧ ∀ i < L.length, R (L.getD i 0) (M.getD i 0)
theorem RelL.snoc {R : Int → Int → Prop} {L M : List Int} (h : RelL R L M) {s t : Int} (hst : R s t) : RelL R (L ++ [s]) (M ++ [t]) := by
  refine ⟨by simp [h.1], fun i hi => ?_⟩
  rw [List.length_append, List.length_singleton] at hi
  by_cases e : i < L.length
  · rw [getD_app e, getD_app (by rw [← h.1]; exact e)]; exact h.2 i e
  · have e1 : i = L.length := by omega
    subst e1
    rw [appg_new]
    rw [h.1, appg_new]; exact hst
end Go.Ab
namespace Go.Ab
end Go.Ab
namespace Go.Ab
open Go.Proofs
abbrev MachR (n o : Int) (xs ys : List (List Int)) (rows : List AObj) (res : AVal) : Prop :=
  ∃ v w ps qs, rows = [.row v 1 true (rwp ps), .row w 1 true (rwp qs)] ∧ ps.map (·.2) = xs ∧ qs.map (·.2) = ys ∧ DJ (ps ++ qs) ∧ res = .st [iv n, iv o, .own 6000 v, .own 6001 w]
abbrev NamM (P : Program) (g : FuncId) (args : List AVal) (n o : Int) (xs ys : List (List Int)) : Prop := Fn P g args (MachR n o xs ys)
end Go.Ab
namespace Go.Ab
open Go.Proofs
end Go.Ab
namespace Go.Ab
open Go.Proofs
abbrev MachS (n o : Int) (xs ys : List (List Int)) (rows : List AObj) (res : AVal) : Prop :=
  ∃ v w, rows = [.row v 1 true (rws xs), .row w 1 true (rws ys)] ∧ res = .st [iv n, iv o, .own 6000 v, .own 6001 w]
theorem NamM.dn {P : Program} {g : FuncId} {args : List AVal} {n o : Int} {xs ys : List (List Int)} (h : NamM P g args n o xs ys) : Fn P g args (MachS n o xs ys) := by
  refine Con.dnr h ?_
  rintro o' r x ⟨rfl, v, w, ps, qs, rfl, rfl, rfl, _, rfl⟩
  refine ⟨rfl, v, w, ?_, ?_⟩
  · simp only [List.map_cons, List.map_nil, AObj.dn, dnL_rwp]
  · simp only [AVal.dn, dnL]
abbrev MachRC (ok : Bool) (n o : Int) (xs ys : List (List Int)) (code : Int) (rows : List AObj) (res : AVal) : Prop :=
  if ok = true then ∃ v w ps qs, rows = [.row v 1 true (rwp ps), .row w 1 true (rwp qs)] ∧ ps.map (·.2) = xs ∧ qs.map (·.2) = ys ∧ DJ (ps ++ qs) ∧ res = .tup [.st [iv n, iv o, .own 6000 v, .own 6001 w], iv code]
  else rows = [] ∧ res = .tup [.st [iv 0, iv 0, nilS, nilS], iv code]
abbrev NamMR (P : Program) (g : FuncId) (args : List AVal) (ok : Bool) (n o : Int) (xs ys : List (List Int)) (code : Int) : Prop := Fn P g args (MachRC ok n o xs ys code)
abbrev MachSC (n o : Int) (xs ys : List (List Int)) (rows : List AObj) (res : AVal) : Prop :=
  ∃ v w, rows = [.row v 1 true (rws xs), .row w 1 true (rws ys)] ∧ res = .tup [.st [iv n, iv o, .own 6000 v, .own 6001 w], iv 0]
theorem NamMR.dn {P : Program} {g : FuncId} {args : List AVal} {ok : Bool} {n o : Int} {xs ys : List (List Int)} {code : Int} (h : NamMR P g args ok n o xs ys code) (hok : ok = true) (hc : code = 0) : Fn P g args (MachSC n o xs ys) := by
  subst hok hc
  refine Con.dnr h ?_
  rintro o' r x ⟨rfl, hR⟩
  unfold MachRC at hR
  rw [if_pos rfl] at hR
  obtain ⟨v, w, ps, qs, rfl, rfl, rfl, _, rfl⟩ := hR
  refine ⟨rfl, v, w, ?_, ?_⟩
  · simp only [List.map_cons, List.map_nil, AObj.dn, dnL_rwp]
  · simp only [AVal.dn, dnL]
end Go.Ab
namespace Go.Ab
open Go.Proofs
end Go.Ab
namespace Go.Ab
open Go.Proofs
end Go.Ab
namespace Go.Ab
open Go.Proofs
end Go.Ab
namespace Go.Ab
open Go.Proofs
abbrev bls2 (bs : List Bool) : List AVal := bs.map bv
theorem dnL_bls2 {bs : List Bool} : dnL (bls2 bs) = bls2 bs := by simp [dnL_eq, AVal.dn]
theorem bls2_getD {bs : List Bool} {i : Nat} (h : i < bs.length) : (bls2 bs).getD i .any = bv (bs.getD i false) := by
  rw [List.getD_eq_getElem?_getD, List.getElem?_map, List.getElem?_eq_getElem h, List.getD_eq_getElem?_getD, List.getElem?_eq_getElem h]; rfl
theorem bls2_put {bs : List Bool} {i : Nat} {b : Bool} : (bls2 bs).take i ++ [bv b] ++ (bls2 bs).drop (i + 1) = bls2 (bs.take i ++ [b] ++ bs.drop (i + 1)) := by
  simp only [List.map_append, List.map_take, List.map_drop, List.map_cons, List.map_nil]
end Go.Ab
namespace Go.Ab
open Go.Proofs
theorem k_l02Told (xs : List Int) (ok : Bool) : Con Tryz.prog nz1p [.row 0 1 true (ints xs)] [.own 5000 0, bv ok] true fun outs rows res =>
    outs = [.row 0 1 true (ints xs)] ∧ (ok = true ∧ rows = [] ∧ res = .tup [.own 5000 0, iv 0] ∨ ok = false ∧ ∃ w, rows = [.row w 1 true []] ∧ res = .tup [.own 6000 w, iv 6]) := by
  refine con_sh mixed czbl rfl (by simp) ?_
  cases ok with
  | true =>
    simp only [Az2x, Bz2w, Bz2u, Bz2v, Bool.not_true, go_sem, yz0, Int.reduceLT, reduceLE, reduceToNat, reduceNeg, Nat.reduceLT, reduceLeDiff, reduceMul, reduceSub, reduceIte, reduceEqDiff, reduceAdd, reduceCtorEq]
    refine ⟨[], by simp, by simp, by simp, ?_⟩
    have e5 : AVal.ren (expo []) id (AVal.own 5000 0) = .own 5000 0 := ren_own (expo_in (j := 0) (by omega))
    simp only [range1, List.length_singleton, e5, Nat.not_lt_zero, range1, yzx, yz10, yz15, yz14, yz11, yz18, yz17, yz16, yzz, yzp, yzh, yz3, yzv, yzs, yzq, yzn, yzu, yzd, yze, yz8, yzc, yzm, yzj, yz2, yzb, yz9, yz7, yzl, yzk, List.range_zero, yz4, yz5, yza, yzo, yzf, yzt, AVal.fresh, freshL, yz1, yzi, AObj.fresh, id, Option.isSome_some, or_true, true_or, go_sem, yz0, Int.reduceLT, reduceLE, reduceToNat, reduceNeg, Nat.reduceLT, reduceLeDiff, reduceMul, reduceSub, reduceIte, reduceEqDiff, reduceAdd, reduceCtorEq]
  | false =>
    simp only [Az2x, Bz2w, Bz2u, Bz2v, Bool.not_false, go_sem, yz0, Int.reduceLT, reduceLE, reduceToNat, reduceNeg, Nat.reduceLT, reduceLeDiff, reduceMul, reduceSub, reduceIte, reduceEqDiff, reduceAdd, reduceCtorEq]
    intro vs
    refine ⟨[8], by simp, by simp, by simp, ?_⟩
    simp only [range1, List.length_singleton, Nat.not_lt_zero, range1, yzx, yz10, yz15, yz14, yz11, yz18, yz17, yz16, yzz, yzp, yzh, yz3, yzv, yzs, yzq, yzn, yzu, yzd, yze, yz8, yzc, yzm, yzj, yz2, yzb, yz9, yz7, yzl, yzk, List.range_zero, yz4, yz5, yza, yzo, yzf, yzt, AVal.fresh, freshL, yz1, yzi, AObj.fresh, id, Option.isSome_some, or_true, true_or, go_sem, yz0, Int.reduceLT, reduceLE, reduceToNat, reduceNeg, Nat.reduceLT, reduceLeDiff, reduceMul, reduceSub, reduceIte, reduceEqDiff, reduceAdd, reduceCtorEq]
    exact .inr ⟨_, rfl, rfl⟩
theorem call_told {P : Program} {σ : St} {g : FuncId} {xs : List Int} {ok : Bool} {d : Nat} {s : Nat → Nat} {K : St → Prop} {r v : Nat}
    (h : Con P g [.row 0 1 true (ints xs)] [.own 5000 0, bv ok] true fun outs rows res =>
      outs = [.row 0 1 true (ints xs)] ∧ (ok = true ∧ rows = [] ∧ res = .tup [.own 5000 0, iv 0] ∨ ok = false ∧ ∃ w, rows = [.row w 1 true []] ∧ res = .tup [.own 6000 w, iv 6]))
    (hr : σ.hp r = .row v 1 true (ints xs)) (hg : σ.hp d = .gone)
    (h1 : ok = true → K (St.put ⟨σ.tm, upd σ.hp r (.row v 1 true (ints xs))⟩ (some d) (.tup [.own r v, iv 0])))
    (h2 : ok = false → ∀ w, K (St.put ⟨σ.tm, upd (upd σ.hp r (.row v 1 true (ints xs))) d (.row w 1 true [])⟩ (some d) (.tup [.own d w, iv 6]))) : wpCall P false σ g [.own r v, bv ok] (some d) s K := by
  have hne : d ≠ r := fun e => by rw [e, hr] at hg; cases hg
  refine .inl ⟨[r], [.row 0 1 true (ints xs)], [.own 5000 0, bv ok], true, _, h, ⟨by simp, rfl, by simp, by simp [hr], ?_⟩, ?_, (fun e => by cases e), ?_⟩
  · intro j B r' hB hr'
    cases j with
    | succ j => simp at hB
    | zero =>
      simp at hB hr'; subst hB; subst hr'
      simp only [ObjCoe, hr]
      exact ⟨trivial, v, _, rfl, coeL_ints⟩
  · rw [yz13, yz13, coeL_nil]
    simp only [Coe, and_true]
    exact ⟨0, r, v, rfl, rfl, rfl, rfl, by rw [hr]; rfl⟩
  · have e : sv σ.hp [r] s 0 = v := by simp [sv, hr, AObj.ver]
    rintro outs rows res ⟨rfl, ⟨ho, rfl, rfl⟩ | ⟨ho, w, rfl, rfl⟩⟩
    · refine ⟨rfl, by simp, by simp, ?_⟩
      rw [Option.getD_some, callHp_m, yzn, e]
      have h3 := h1 ho
      have e2 : AVal.ren (rid [r] d ([] : List AObj).length) (sv σ.hp [r] s) (.own 5000 0) = .own r v := by rw [← e]; exact ren_own (rid_m (j := 0) (by omega) rfl)
      simp only [Option.getD_some, List.length_nil] at e2
      simp only [Option.getD_some, yz3, yzz, yzh, yzp, yzx, List.length_nil, e2]
      exact h3
    · refine ⟨rfl, by simp, by rw [Option.getD_some, yzf]; exact hg, ?_⟩
      rw [Option.getD_some, callHp_mr hne, yzn, yzn, e]
      have h3 := h2 ho (sv σ.hp [r] s w)
      simp only [Option.getD_some, List.length_singleton, yz3, yzz, yzh, yzp, yzx, yz2]
      exact h3
theorem call_ste {P : Program} {σ : St} {g : FuncId} {x : AVal} {y : Value} {d : Nat} {s : Nat → Nat} {K : St → Prop} {r v : Nat} {cs cs' : List AVal} {R : AVal}
    (h : Con P g [.row 0 1 true cs] [.st [x, .own 5000 0]] true fun outs rows res => outs = [.row 0 1 true cs] ∧ rows = [] ∧ res = R) (hx : x = .val y)
    (hr : σ.hp r = .row v 1 true cs') (hc : CoeL σ.hp [r] false cs cs')
    (hk : K (St.put ⟨σ.tm, upd σ.hp r (.row v 1 true (renL (rid [r] d 0) (sv σ.hp [r] s) cs))⟩ (some d) (R.ren (rid [r] d 0) (sv σ.hp [r] s)))) : wpCall P false σ g [.st [x, .own r v]] (some d) s K := by
  subst hx
  refine .inl ⟨[r], _, _, true, _, h, ⟨by simp, rfl, by simp, by simp [hr], ?_⟩, ?_, (fun e => by cases e), ?_⟩
  · intro j B r' hB hr'
    match j, hB, hr' with
    | 0, hB, hr' =>
      simp at hB hr'; subst hB; subst hr'
      simp only [ObjCoe, hr]
      exact ⟨trivial, v, cs', rfl, hc⟩
    | j + 1, hB, hr' => simp at hB
  · rw [yz13, coe_st, yz13, yz13, coeL_nil]
    refine ⟨?_, by simp only [coeL_nil]⟩
    simp only [Coe]
    exact ⟨trivial, ⟨0, r, v, rfl, rfl, rfl, rfl, by rw [hr]; rfl⟩, trivial⟩
  · rintro outs rows res ⟨rfl, rfl, rfl⟩
    refine ⟨rfl, by simp, by simp, ?_⟩
    have e : sv σ.hp [r] s 0 = v := by simp [sv, hr, AObj.ver]
    rw [Option.getD_some, callHp_m, yzn, e]
    exact hk
theorem k_ShortestH (n : Int) (next : List (List Int)) (A : Aut n next) :
    Con Tryz.prog nz45 [.row 0 1 true (rwn next)] [.st [iv n, .own 5000 0]] true
      fun outs rows res => outs = [.row 0 1 true (rwn next)] ∧ rows = [] ∧ res = shortR next n := by
  refine con_sh mixed czhi rfl (by simp) ?_
  have n1 := A.n1
  have n2 := A.n2
  have hv : autB n next = true := autB_iff.2 A
  have hp := Nat.two_pow_pos n.toNat
  have hN : 2 ^ n.toNat ≤ 1024 := Nat.pow_le_pow_right (n := 2) (by omega) (show n.toNat ≤ 10 by omega)
  simp only [Aza7, Bza6, go_sem, yz0, Int.reduceLT, reduceLE, reduceToNat, reduceNeg, Nat.reduceLT, reduceLeDiff, reduceMul, reduceSub, reduceIte, reduceEqDiff, reduceAdd, reduceCtorEq]
  intro vs vs2
  refine yzr (k_Valid n next) qCS trivial ?_
  simp only [hv, Bza4, Bza5, go_sem, yz0, Int.reduceLT, reduceLE, reduceToNat, reduceNeg, Nat.reduceLT, reduceLeDiff, reduceMul, reduceSub, reduceIte, reduceEqDiff, reduceAdd, reduceCtorEq]
  intro vs3
  refine call_rowI (k_all n next A) qCS rfl ⟨_, rfl⟩ ?_
  rintro xs v rfl
  simp only [go_sem, yz0, Int.reduceLT, reduceLE, reduceToNat, reduceNeg, Nat.reduceLT, reduceLeDiff, reduceMul, reduceSub, reduceIte, reduceEqDiff, reduceAdd, reduceCtorEq]
  refine yzr (k_flockOf (allS n) (fun s hs => by have := allS_in s hs; omega)) qCS trivial ?_
  rw [maskN_all ⟨n1, n2⟩]
  simp only [go_sem, yz0, Int.reduceLT, reduceLE, reduceToNat, reduceNeg, Nat.reduceLT, reduceLeDiff, reduceMul, reduceSub, reduceIte, reduceEqDiff, reduceAdd, reduceCtorEq]
  refine call_fn (k_tour n next A (2 ^ n.toNat - 1) (by omega)) qCS (fun e => by cases e) ?_
  rintro rows res ⟨v1, v2, rfl, rfl⟩
  refine ⟨by simp, by rw [Option.getD_some, yzt]; simp only [go_sem, yz0, Int.reduceLT, reduceLE, reduceToNat, reduceNeg, Nat.reduceLT, reduceLeDiff, reduceMul, reduceSub, reduceIte, reduceEqDiff, reduceAdd, reduceCtorEq], ?_⟩
  have hT := (runT_ok A 1100 0 _ (TI0 (m := next.length) (show 2 ^ n.toNat - 1 < 2 ^ n.toNat by omega))).1
  simp only [Option.getD_some, Nat.not_lt_zero, range1, yzx, yz10, yz15, yz14, yz11, yz18, yz17, yz16, yzz, yzp, yzh, yz3, yzv, yzs, yzq, yzn, yzu, yzd, yze, yz8, yzc, yzm, yzj, yz2, yzb, yz9, yz7, yzl, yzk, List.range_zero, yz4, yz5, yza, yzo, yzf, yzt, AVal.fresh, freshL, yz1, yzi, AObj.fresh, id, Option.isSome_some, or_true, true_or, go_sem, yz0, Int.reduceLT, reduceLE, reduceToNat, reduceNeg, Nat.reduceLT, reduceLeDiff, reduceMul, reduceSub, reduceIte, reduceEqDiff, reduceAdd, reduceCtorEq]
  unfold shortR
  cases hf : firstT (tourT next (2 ^ n.toNat - 1)) with
  | some p =>
    obtain ⟨f, w⟩ := p
    refine call_rm (k_first n.toNat next.length (tourT next (2 ^ n.toNat - 1)) hT hN f w hf) rfl rfl (by omega) qCS qCS qCS ?_
    simp only [Nat.not_lt_zero, range1, yzx, yz10, yz15, yz14, yz11, yz18, yz17, yz16, yzz, yzp, yzh, yz3, yzv, yzs, yzq, yzn, yzu, yzd, yze, yz8, yzc, yzm, yzj, yz2, yzb, yz9, yz7, yzl, yzk, List.range_zero, yz4, yz5, yza, yzo, yzf, yzt, AVal.fresh, freshL, yz1, yzi, AObj.fresh, id, Option.isSome_some, or_true, true_or, go_sem, yz0, Int.reduceLT, reduceLE, reduceToNat, reduceNeg, Nat.reduceLT, reduceLeDiff, reduceMul, reduceSub, reduceIte, reduceEqDiff, reduceAdd, reduceCtorEq]
    exact ⟨[], by simp, by simp, by simp, rfl⟩
  | none =>
    refine call_rm (k_firstN n.toNat next.length (tourT next (2 ^ n.toNat - 1)) hT hN hf) rfl rfl (by omega) qCS qCS qCS ?_
    simp only [Nat.not_lt_zero, range1, yzx, yz10, yz15, yz14, yz11, yz18, yz17, yz16, yzz, yzp, yzh, yz3, yzv, yzs, yzq, yzn, yzu, yzd, yze, yz8, yzc, yzm, yzj, yz2, yzb, yz9, yz7, yzl, yzk, List.range_zero, yz4, yz5, yza, yzo, yzf, yzt, AVal.fresh, freshL, yz1, yzi, AObj.fresh, id, Option.isSome_some, or_true, true_or, go_sem, yz0, Int.reduceLT, reduceLE, reduceToNat, reduceNeg, Nat.reduceLT, reduceLeDiff, reduceMul, reduceSub, reduceIte, reduceEqDiff, reduceAdd, reduceCtorEq]
    exact ⟨[], by simp, by simp, by simp, rfl⟩
end Go.Ab
namespace Go.Ab
open Go.Proofs
theorem firstC {L T : TS} {i : Nat} (hi : i < L.length) (hp : ∃ t, T = L ++ t) (hn : ∀ j < i, smallN (L.getD j (0, [])).1 = false) (hs : smallN (L.getD i (0, [])).1 = true) : firstT T = some (L.getD i (0, [])) := by
  obtain ⟨t, rfl⟩ := hp
  unfold firstT
  rw [List.find?_append]
  have : L.find? (fun p => smallN p.1) = some (L.getD i (0, [])) := by
    rw [List.find?_eq_some_iff_getElem]
    refine ⟨hs, i, hi, ?_, fun j hj => ?_⟩
    · rw [List.getD_eq_getElem?_getD, List.getElem?_eq_getElem hi]; rfl
    · have := hn j hj
      rw [List.getD_eq_getElem?_getD, List.getElem?_eq_getElem (by omega)] at this
      simpa using this
  rw [this]; rfl
theorem firstC_none {L : TS} (hn : ∀ j < L.length, smallN (L.getD j (0, [])).1 = false) : firstT L = none := by
  unfold firstT
  rw [List.find?_eq_none]
  intro p hp
  obtain ⟨j, hj, rfl⟩ := List.getElem_of_mem hp
  have := hn j hj
  rw [List.getD_eq_getElem?_getD, List.getElem?_eq_getElem hj] at this
  simpa using this
theorem k_CarefulWord (n : Int) (next : List (List Int)) (P : Prt n next) :
    Fn Tryz.prog nz3t [autA n next] fun rows res => rows = [] ∧ ((∃ p, carQ next n = some p ∧ p.2.length < 2 ^ n.toNat ∧ res = .tup [.ro (some none) 1 (ints p.2), iv 0]) ∨ (carQ next n = none ∧ res = .tup [nilS, iv 6])) := by
  refine con_of mixed czh3 rfl (by simp) ?_
  have n1 := P.n1
  have n2 := P.n2
  have l2 := P.l2
  have hp := Nat.two_pow_pos n.toNat
  have hN : 2 ^ n.toNat ≤ 1024 := Nat.pow_le_pow_right (n := 2) (by omega) (show n.toNat ≤ 10 by omega)
  have f0 : ∀ k : Value, findKeyAt k [] 0 = some none := fun _ => rfl
  have hf : 2 ^ n.toNat - 1 < 2 ^ n.toNat := by omega
  have hcq : carQ next n = firstT (carT next (2 ^ n.toNat - 1)) := rfl
  generalize hQ : finQ _ = Q
  simp only [Az2e, Bz82, go_sem, yz0, Int.reduceLT, reduceLE, reduceToNat, reduceNeg, Nat.reduceLT, reduceLeDiff, reduceMul, reduceSub, reduceIte, reduceEqDiff, reduceAdd, reduceCtorEq]
  intro vs vs2
  refine yzr (k_ValidPartial n next P) qCS trivial ?_
  simp only [Bz7p, Bz81, Bool.not_true, go_sem, yz0, Int.reduceLT, reduceLE, reduceToNat, reduceNeg, Nat.reduceLT, reduceLeDiff, reduceMul, reduceSub, reduceIte, reduceEqDiff, reduceAdd, reduceCtorEq]
  intro vs3
  refine yzr (k_paAll n next P) qCS trivial ?_
  simp only [go_sem, yz0, Int.reduceLT, reduceLE, reduceToNat, reduceNeg, Nat.reduceLT, reduceLeDiff, reduceMul, reduceSub, reduceIte, reduceEqDiff, reduceAdd, reduceCtorEq]
  refine ⟨⟨_, rfl, rfl⟩, ?_⟩
  refine yzr (k_paAll n next P) qCS trivial ?_
  generalize 2 ^ n.toNat - 1 = f at hf hcq ⊢
  simp only [f0, go_sem, yz0, Int.reduceLT, reduceLE, reduceToNat, reduceNeg, Nat.reduceLT, reduceLeDiff, reduceMul, reduceSub, reduceIte, reduceEqDiff, reduceAdd, reduceCtorEq]
  refine ⟨fun r v' e => by cases e; exact ⟨_, _, _, rfl⟩, ?_⟩
  simp only [Bz80, Bz7y, go_sem, yz0, Int.reduceLT, reduceLE, reduceToNat, reduceNeg, Nat.reduceLT, reduceLeDiff, reduceMul, reduceSub, reduceIte, reduceEqDiff, reduceAdd, reduceCtorEq]
  refine wpD_lo (fun (_, i, _) => 1100 - i)
    (fun (_, i, L) => TI n.toNat next.length L ∧ i ≤ List.length L ∧ runG (carD next) next.length (0, []) (1100 - i) i L = carT next f ∧ ∀ j < i, smallN (L.getD j (0, [])).1 = false)
    (fun ((va, i, L) : Nat × Nat × TS) => ⟨Go.Ab.L .any [(1, .ptr 1 (vs 0 0) 0), (4, .own 18 va), (5, .mp 19 (vs3 3 0)), (6, iv i)],
      Go.Ab.L .gone [(1, .box (vs 0 0) [iv n, .ro none 1 (rwn next)]), (18, .row va 1 true (intsK .u64 (setsI L))), (19, .map (vs3 3 0) (keysF L) (rws (L.map (·.2))))]⟩)
    (_, 0, [(f, [])]) ⟨TI0 hf, by simp, rfl, by simp⟩ (by simp only [Bz2d, go_sem, yz0, Int.reduceLT, reduceLE, reduceToNat, reduceNeg, Nat.reduceLT, reduceLeDiff, reduceMul, reduceSub, reduceIte, reduceEqDiff, reduceAdd, reduceCtorEq]; try rfl) ?_
  rintro ⟨va, i, L⟩ ⟨hI, hi, hR, hsm⟩
  have hi : i ≤ L.length := hi
  have hlen := hI.len
  have hR : runG (carD next) next.length (0, []) (1100 - i) i L = carT next f := hR
  by_cases hlt : (i : Int) < L.length
  · have hlt1 : i < L.length := by omega
    have hls : i < (setsI L).length := by simpa using hlt1
    have hm := yzw hlt1 (0, ([] : List Int))
    have hfi := hI.rg _ hm
    have hwi := hI.wd _ hm
    have wi : IntKind.i64.wrap ((i : Int) + 1) = ((i + 1 : Nat) : Int) := by rw [w64 (by omega)]; simp
    have hpre0 : ∃ t, carT next f = L ++ t := by rw [← hR]; exact runG_pre _ _ _
    simp only [Bz2d, Bz4z, Bz7x, yz12 hls, setsI_getD hlt1, yz6, decide_eq_true hlt, go_sem, yz0, Int.reduceLT, reduceLE, reduceToNat, reduceNeg, Nat.reduceLT, reduceLeDiff, reduceMul, reduceSub, reduceIte, reduceEqDiff, reduceAdd, reduceCtorEq]
    intro hM
    refine ⟨⟨by omega, hlt1⟩, hlt1, ?_⟩
    simp only [Bz7v, yz6, go_sem, yz0, Int.reduceLT, reduceLE, reduceToNat, reduceNeg, Nat.reduceLT, reduceLeDiff, reduceMul, reduceSub, reduceIte, reduceEqDiff, reduceAdd, reduceCtorEq]
    intro vs4
    refine yzr (k_isSmall (L.getD i (0, [])).1 (by omega)) qCS trivial ?_
    cases hs : smallN (L.getD i (0, [])).1 with
    | true =>
      have hF := firstC hlt1 hpre0 hsm hs
      rw [← hcq] at hF
      have hk := fkF_at i 0 hI.nd hlt1
      rw [Nat.zero_add] at hk
      have hwl : i < (L.map (·.2)).length := by simpa using hlt1
      have hwg := words_getD hlt1
      simp only [Bz50, hk, rws_getD hwl, hwg, yz6, Az2e, ← hQ, go_sem, yz0, Int.reduceLT, reduceLE, reduceToNat, reduceNeg, Nat.reduceLT, reduceLeDiff, reduceMul, reduceSub, reduceIte, reduceEqDiff, reduceAdd, reduceCtorEq]
      have hnl := nodup_lt (2 ^ n.toNat) (List.map (fun x => x.1) L) hI.nd (fun x hx => by
        obtain ⟨p, hp, rfl⟩ := List.mem_map.1 hx
        exact hI.rg p hp)
      rw [List.length_map] at hnl
      refine ⟨[], by simp, by simp, by simp, ?_⟩
      simp only [List.map_nil, List.length_nil, Nat.not_lt_zero, range1, yzx, yz10, yz15, yz14, yz11, yz18, yz17, yz16, yzz, yzp, yzh, yz3, yzv, yzs, yzq, yzn, yzu, yzd, yze, yz8, yzc, yzm, yzj, yz2, yzb, yz9, yz7, yzl, yzk, List.range_zero, yz4, yz5, yza, yzo, yzf, yzt, AVal.fresh, freshL, yz1, yzi, AObj.fresh, id, Option.isSome_some, or_true, true_or, go_sem, yz0, Int.reduceLT, reduceLE, reduceToNat, reduceNeg, Nat.reduceLT, reduceLeDiff, reduceMul, reduceSub, reduceIte, reduceEqDiff, reduceAdd, reduceCtorEq]
      exact .inl ⟨_, hF, Nat.lt_of_lt_of_le hwi.2 hnl, rfl⟩
    | false =>
      have hs0 := hs
      simp only [Bz50, Bz7u, yz6, go_sem, yz0, Int.reduceLT, reduceLE, reduceToNat, reduceNeg, Nat.reduceLT, reduceLeDiff, reduceMul, reduceSub, reduceIte, reduceEqDiff, reduceAdd, reduceCtorEq]
      intro vs5
      refine yzr (k_paLetters n next) qCS trivial ?_
      simp only [Bz7t, yz6, go_sem, yz0, Int.reduceLT, reduceLE, reduceToNat, reduceNeg, Nat.reduceLT, reduceLeDiff, reduceMul, reduceSub, reduceIte, reduceEqDiff, reduceAdd, reduceCtorEq]
      generalize hfw : L.getD i (0, []) = fw at hm hfi hwi hs0 ⊢
      refine wpD_lo (fun (_, x, _) => next.length - x)
        (fun (_, x, L') => x ≤ next.length ∧ L' = visC next fw.1 fw.2 x L)
        (fun ((va, x, L') : Nat × Nat × TS) => ⟨Go.Ab.L .any [(1, .ptr 1 (vs 0 0) 0), (4, .own 18 va), (5, .mp 19 (vs3 3 0)), (6, iv i), (7, fv fw.1), (40, iv next.length), (41, iv x)],
          Go.Ab.L .gone [(1, .box (vs 0 0) [iv n, .ro none 1 (rwn next)]), (18, .row va 1 true (intsK .u64 (setsI L'))), (19, .map (vs3 3 0) (keysF L') (rws (L'.map (·.2))))]⟩)
        (_, 0, L) ⟨by simp, rfl⟩ (by simp only [Bz2c, yz6, go_sem, yz0, Int.reduceLT, reduceLE, reduceToNat, reduceNeg, Nat.reduceLT, reduceLeDiff, reduceMul, reduceSub, reduceIte, reduceEqDiff, reduceAdd, reduceCtorEq]; try rfl) ?_
      rintro ⟨va, x, L'⟩ ⟨hx, rfl⟩
      have hx : x ≤ next.length := hx
      obtain ⟨hI', t, hpre⟩ := visC_ok P hI hlt1 x hx
      rw [hfw] at hI' hpre
      have hsuN := @visC_none next fw.1 fw.2 x L
      have hsuS := fun to => @visC_some next fw.1 to fw.2 x L
      generalize hV : visC next fw.1 fw.2 x L = L' at hI' hpre hsuN hsuS ⊢
      have hlen' := hI'.len
      have hi2 : i < L'.length := by rw [hpre, List.length_append]; omega
      have hat : L'.getD i (0, []) = fw := by rw [hpre, getD_app hlt1, hfw]
      by_cases hxl : (x : Int) < next.length
      · have hxl1 : x < next.length := by omega
        have w1 : IntKind.i64.wrap ((x : Int) + 1) = ((x + 1 : Nat) : Int) := by rw [w64 (by omega)]; simp
        have hks := k_paStep n next P fw.1 x hfi hxl1
        simp only [Bz2c, Bz51, Bz7s, Bz7r, yz6, decide_eq_true hxl, go_sem, yz0, Int.reduceLT, reduceLE, reduceToNat, reduceNeg, Nat.reduceLT, reduceLeDiff, reduceMul, reduceSub, reduceIte, reduceEqDiff, reduceAdd, reduceCtorEq]
        intro vs6
        refine call_fun2 hks qCS ?_
        cases hst : stpP (next.getD x []) fw.1 with
        | none =>
          have hsu := hsuN hst
          have hj1 : ∃ o, findKeyAt (Value.int IntKind.u64 ((0 : Nat) : Int)) (keysF L') 0 = some o := by
            cases hh : hasT L' 0 with
            | true => obtain ⟨j, hj1, _⟩ := fkF_mem 0 hh; exact ⟨_, hj1⟩
            | false => exact ⟨_, fkF_not 0 hh⟩
          obtain ⟨o, hj1⟩ := hj1
          cases o with
          | none =>
            simp only [Bz15, Bz14, Bz13, Bz16, Option.isSome_none, Option.getD_none, hj1, w1, yz6, go_sem, yz0, Int.reduceLT, reduceLE, reduceToNat, reduceNeg, Nat.reduceLT, reduceLeDiff, reduceMul, reduceSub, reduceIte, reduceEqDiff, reduceAdd, reduceCtorEq]
            exact ⟨(va, x + 1, L'), by dsimp only; omega, ⟨by dsimp only; omega, hsu.symm⟩, rfl⟩
          | some j =>
            simp only [Bz15, Bz14, Bz13, Bz16, Option.isSome_none, Option.getD_none, hj1, w1, yz6, go_sem, yz0, Int.reduceLT, reduceLE, reduceToNat, reduceNeg, Nat.reduceLT, reduceLeDiff, reduceMul, reduceSub, reduceIte, reduceEqDiff, reduceAdd, reduceCtorEq]
            exact ⟨(va, x + 1, L'), by dsimp only; omega, ⟨by dsimp only; omega, hsu.symm⟩, rfl⟩
        | some to =>
          have hto := stpP_lt P hfi hxl1 hst
          have hsu := hsuS to hst
          cases hh : hasT L' to with
          | true =>
            rw [hh, if_pos rfl] at hsu
            obtain ⟨j, hj1, hj2⟩ := fkF_mem 0 hh
            rw [Nat.zero_add] at hj1
            simp only [Bz15, Bz14, Bz13, Bz16, Option.isSome_some, Option.getD_some, hj1, w1, yz6, go_sem, yz0, Int.reduceLT, reduceLE, reduceToNat, reduceNeg, Nat.reduceLT, reduceLeDiff, reduceMul, reduceSub, reduceIte, reduceEqDiff, reduceAdd, reduceCtorEq]
            exact ⟨(va, x + 1, L'), by dsimp only; omega, ⟨by dsimp only; omega, hsu.symm⟩, rfl⟩
          | false =>
            rw [hh, if_neg (by simp)] at hsu
            have hj1 := fkF_not 0 hh
            have hk := fkF_at i 0 hI'.nd hi2
            rw [hat, Nat.zero_add] at hk
            have hwl : i < (L'.map (·.2)).length := by simpa using hi2
            have hwg := words_getD hi2
            rw [hat] at hwg
            simp only [Bz15, Bz14, Bz13, Option.isSome_some, Option.getD_some, hj1, hk, rws_getD hwl, hwg, yz6, go_sem, yz0, Int.reduceLT, reduceLE, reduceToNat, reduceNeg, Nat.reduceLT, reduceLeDiff, reduceMul, reduceSub, reduceIte, reduceEqDiff, reduceAdd, reduceCtorEq]
            intro vs7
            refine call_rowI (k_Clone fw.2 (by omega)) qCS qGN ⟨_, rfl⟩ ?_
            rintro xs v7 rfl
            simp only [hj1, yz6, go_sem, yz0, Int.reduceLT, reduceLE, reduceToNat, reduceNeg, Nat.reduceLT, reduceLeDiff, reduceMul, reduceSub, reduceIte, reduceEqDiff, reduceAdd, reduceCtorEq]
            refine ⟨⟨_, rfl, rfl⟩, by omega, ⟨fun r v' e => by cases e; exact ⟨_, _, _, rfl⟩, ?_⟩⟩
            simp only [Bz7q, Bz16, w1, yz6, go_sem, yz0, Int.reduceLT, reduceLE, reduceToNat, reduceNeg, Nat.reduceLT, reduceLeDiff, reduceMul, reduceSub, reduceIte, reduceEqDiff, reduceAdd, reduceCtorEq]
            intro vs8
            exact ⟨⟨_, rfl, rfl⟩, by omega, (vs8 3 0, x + 1, L' ++ [(to, fw.2 ++ [(x : Int)])]), by dsimp only; omega, ⟨by dsimp only; omega, hsu.symm⟩, by simp only [List.map_append, List.map_cons, List.map_nil]⟩
      · obtain rfl : x = next.length := by omega
        simp only [Bz2c, Bz51, Bz7w, yz6, wi, decide_eq_false hxl, go_sem, yz0, Int.reduceLT, reduceLE, reduceToNat, reduceNeg, Nat.reduceLT, reduceLeDiff, reduceMul, reduceSub, reduceIte, reduceEqDiff, reduceAdd, reduceCtorEq]
        obtain ⟨F, hF⟩ : ∃ F, 1100 - i = F + 1 := ⟨1099 - i, by omega⟩
        have hF2 : 1100 - (i + 1) = F := by omega
        rw [hF] at hR
        simp only [runG, if_pos hlt1, hfw] at hR
        rw [show visG (carD next) fw.1 fw.2 next.length L = L' from hV] at hR
        refine ⟨(_, i + 1, L'), by dsimp only; omega, ⟨hI', by dsimp only; omega, by dsimp only; rw [hF2]; exact hR, fun j hj => ?_⟩, rfl⟩
        have hj : j < i + 1 := hj
        show smallN (L'.getD j (0, [])).1 = false
        rw [hpre, getD_app (by omega)]
        by_cases e : j = i
        · rw [e, hfw]; exact hs0
        · exact hsm j (by omega)
  · obtain rfl : i = L.length := by omega
    have hend : L = carT next f := by
      obtain ⟨F, hF⟩ : ∃ F, 1100 - L.length = F + 1 := ⟨1099 - L.length, by omega⟩
      rw [← hR, hF]; simp only [runG, Nat.lt_irrefl, if_false]
    have hF := firstC_none hsm
    rw [hend, ← hcq] at hF
    simp only [Bz2d, Bz4z, Bz7z, decide_eq_false hlt, Az2e, ← hQ, go_sem, yz0, Int.reduceLT, reduceLE, reduceToNat, reduceNeg, Nat.reduceLT, reduceLeDiff, reduceMul, reduceSub, reduceIte, reduceEqDiff, reduceAdd, reduceCtorEq]
    intro _
    refine ⟨[], by simp, by simp, by simp, ?_⟩
    simp only [List.map_nil, List.length_nil, Nat.not_lt_zero, range1, yzx, yz10, yz15, yz14, yz11, yz18, yz17, yz16, yzz, yzp, yzh, yz3, yzv, yzs, yzq, yzn, yzu, yzd, yze, yz8, yzc, yzm, yzj, yz2, yzb, yz9, yz7, yzl, yzk, List.range_zero, yz4, yz5, yza, yzo, yzf, yzt, AVal.fresh, freshL, yz1, yzi, AObj.fresh, id, Option.isSome_some, or_true, true_or, go_sem, yz0, Int.reduceLT, reduceLE, reduceToNat, reduceNeg, Nat.reduceLT, reduceLeDiff, reduceMul, reduceSub, reduceIte, reduceEqDiff, reduceAdd, reduceCtorEq]
    exact .inr hF
end Go.Ab
namespace Go.Ab
open Go.Proofs
theorem mvL_rww {a v b m : Nat} {x : List (List (List Int))} : mvL a v b m (rww x) = rww x := by
  simp only [mvL_eq, rww, List.map_map]
  exact List.map_congr_left fun o _ => by simp [AVal.mv, mvL_rws]
attribute [local go_sem] mvL_rww
end Go.Ab
namespace Go.Ab
open Go.Proofs
end Go.Ab
namespace Go.Ab
open Go.Proofs
end Go.Ab
namespace Go.Ab
open Go.Proofs
end Go.Ab
namespace Go.Ab
end Go.Ab
namespace Go.Ab
def spare (c : Cz) (b o : Nat) : Prop := ∃ r ver k nn cs off n cap, c.hp r = .row ver k nn cs ∧ c.loc r = .slice (some ⟨b, off, none⟩) n cap ∧ off + n * k ≤ o ∧ o < off + cap * k
def Held (c : Cz) (w : World) : Prop := ∀ b o v, b < c.w.heap.size → ¬ spare c b o → c.w.cell? ⟨b, o, none⟩ = some v → w.cell? ⟨b, o, none⟩ = some v
structure Fram (c c' : Cz) : Prop where
  held : Held c c'.w
  size : c.w.heap.size ≤ c'.w.heap.size
  spare : ∀ b o, b < c.w.heap.size → spare c' b o → spare c b o
theorem Fram.refl (c : Cz) : Fram c c := ⟨fun _ _ _ _ _ h => h, Nat.le_refl _, fun _ _ _ h => h⟩
theorem Fram.trans {a b c : Cz} (h : Fram a b) (k : Fram b c) : Fram a c :=
  ⟨fun g o v hg hn hv => k.held g o v (Nat.lt_of_lt_of_le hg h.size) (fun hs => hn (h.spare g o hg hs)) (h.held g o v hg hn hv),
    Nat.le_trans h.size k.size, fun g o hg hs => h.spare g o hg (k.spare g o (Nat.lt_of_lt_of_le hg h.size) hs)⟩
section
variable {P : Program} {w0 : World} {outs : Nat → Prop} {N : Nat} {σ : St} {o : Oper} {a : Act} {c : Cz} {ver : Nat}
structure Grew (c : Cz) (k : Nat) (v : Value) (w : World) : Prop where
  held : Held c w
  size : c.w.heap.size ≤ w.heap.size
  lies : ∀ b off n cap, v = .slice (some ⟨b, off, none⟩) n cap → c.w.heap.size ≤ b ∨ ∃ r ver' nn cs n0, c.hp r = .row ver' k nn cs ∧ c.loc r = .slice (some ⟨b, off, none⟩) n0 cap ∧ n0 ≤ n
end
end Go.Ab
namespace Go.Ab
section
variable {P : Program} {w0 : World} {outs : Nat → Prop} {N : Nat} {σ : St} {o : Oper} {a : Act} {c : Cz} {ver : Nat}
end
section
variable {P : Program} {ops : Array Oper} {Q : Exit → Act → World → Prop} {md : Region.Mode} {S : World → Prop}
theorem Closed.step {listed : Array Bool} (hcl : Closed ops listed) {i : Nat} (hi : i ∈ Region.ready .any ops listed) : Closed ops (listed.setIfInBounds i true) := by
  obtain ⟨h1, o, ho, hall⟩ := mem_ready.1 hi
  intro k o' ho' hk' j hj
  refine getD_set_true ?_
  by_cases e : k = i
  · subst e
    rw [ho] at ho'
    simp only [Option.some.injEq] at ho'; subst ho'
    obtain ⟨e, he, hb, rfl⟩ := mem_edges hj
    exact hall e he hb
  · rw [getD_set_ne true (Ne.symm e)] at hk'
    exact hcl k o' ho' hk' j hj
end
end Go.Ab
namespace Go.Ab
section
variable {P : Program} {w0 : World} {outsC : Nat → Prop} {N : Nat} {c0 : Cz}
end
end Go.Ab
namespace Go.Ab
section
variable {P : Program} {w0 : World} {outsC : Nat → Prop} {N : Nat} {c0 : Cz}
end
end Go.Ab
namespace Go.Ab
open Go.Proofs
end Go.Ab
namespace Go.Ab
open Go.Proofs
theorem New.box {vs : Nat → Nat → Nat} {U : Nat → Prop} {σ : St} {r v : Nat} {cs : List AVal} (h : New vs U σ) (hr : σ.hp r = .box v cs) (i y : Nat) : vs i y ≠ v := fun e => by
  have h1 := h.hp r
  rw [hr] at h1
  simp only [AObj.uses] at h1
  exact h.new i y (by rw [e]; exact h1.1)
def FAut (m : Int) (n : Int) (ps : List (Nat × List Int)) : Prop := Aut n (ps.map (·.2)) ∧ DJ ps ∧ n ≤ m
def FLo (n : Int) (ps : List (Nat × List Int)) : Prop := (ps.length ≤ 3 → DJ ps) ∧ ps.length ≤ 10 ∧ -1 ≤ n ∧ n ≤ 11 ∧ ∀ p ∈ ps, p.2.length ≤ 10
theorem map_named {ps : List (Nat × List Int)} {f : Nat → Nat} : (ps.map fun p => (f p.1, p.2)).map (·.2) = ps.map (·.2) := by rw [List.map_map]; rfl
theorem FAut.lo {m n : Int} {ps : List (Nat × List Int)} (h : FAut m n ps) : FLo n ps := by
  obtain ⟨A, hd, hm⟩ := h
  have n1 := A.n1
  have n2 := A.n2
  have l2 := A.l2
  rw [List.length_map] at l2
  exact ⟨fun _ => hd, by omega, by omega, by omega, fun p hp => by have := (A.row p.2 (List.mem_map.2 ⟨p, hp, rfl⟩)).1; omega⟩
theorem DJ_refrozen {A2 C2 : List (Nat × List Int)} {b : Nat × List Int} {m : Nat} {cur : List Int} (hd : DJ (A2 ++ b :: C2))
    (hf : ∀ n k'' cs'', AVal.ro (some (some (n + 1))) k'' cs'' ∈ rwp A2 ++ AVal.own 901 m :: rwp C2 → cs'' ≠ [] → n ≠ m) : DJ (A2 ++ (m, cur) :: C2) := DJ_in hd fun p hp => by
  by_cases e : p.2 = []
  · exact .inl e
  · refine .inr (hf p.1 1 (ints p.2) ?_ (by simpa using e))
    rcases List.mem_append.1 hp with h | h
    · exact List.mem_append.2 (.inl (List.mem_map.2 ⟨p, h, rfl⟩))
    · exact List.mem_append.2 (.inr (List.mem_cons.2 (.inr (List.mem_map.2 ⟨p, h, rfl⟩))))
end Go.Ab
namespace Go.Ab
structure WS1 (n : Int) (set : List Int) : Prop where
  si : SI set
  rg : ∀ x ∈ set, 0 ≤ x ∧ x < n
end Go.Ab
namespace Go.Ab
end Go.Ab
namespace Go.Ab
end Go.Ab
namespace Go.Ab
end Go.Ab
namespace Go.Ab
open Go.Proofs
def optC : Option (List Int) → AVal
  | some w => .ro none 1 (ints w)
  | none => .val (.slice none 0 0)
def optL (os : List (Option (List Int))) : List AVal := os.map optC
def rzs (oss : List (List (Option (List Int)))) : List AVal := oss.map fun os => .ro (some none) 1 (optL os)
def rzn (oss : List (List (Option (List Int)))) : List AVal := oss.map fun os => .ro none 1 (optL os)
theorem dn_optC {o : Option (List Int)} : (optC o).dn = optC o := by cases o <;> simp [optC, AVal.dn, ints, dnL_eq, dnNm]
theorem dnL_opt {os : List (Option (List Int))} : dnL (optL os) = optL os := by
  simp only [dnL_eq, optL, List.map_map]
  exact List.map_congr_left fun o _ => dn_optC
theorem dnL_rzs {oss : List (List (Option (List Int)))} : dnL (rzs oss) = rzs oss := by
  simp only [dnL_eq, rzs, List.map_map]
  exact List.map_congr_left fun o _ => by simp [AVal.dn, dnL_opt, dnNm]
theorem dnL_rzn {oss : List (List (Option (List Int)))} : dnL (rzn oss) = rzn oss := by
  simp only [dnL_eq, rzn, List.map_map]
  exact List.map_congr_left fun o _ => by simp [AVal.dn, dnL_opt, dnNm]
theorem one_optC {hp : Nat → AObj} {o : Option (List Int)} : One hp (optC o) = True := by cases o <;> simp [optC, One, Value.oneCell']
theorem one_opt {hp : Nat → AObj} {os : List (Option (List Int))} : (∀ A ∈ optL os, One hp A) = True := by
  refine eq_true ?_
  intro A hA
  simp only [optL, List.mem_map] at hA
  obtain ⟨x, _, rfl⟩ := hA
  exact of_eq_true one_optC
theorem one_rzs {hp : Nat → AObj} {oss : List (List (Option (List Int)))} : (∀ A ∈ rzs oss, One hp A) = True := by
  refine eq_true ?_
  intro A hA
  simp only [rzs, List.mem_map] at hA
  obtain ⟨x, _, rfl⟩ := hA
  exact trivial
theorem frz_optC {hp : Nat → AObj} {o : Option (List Int)} : frz hp (optC o) = optC o := by cases o <;> simp [optC, frz]
theorem frz_opt {hp : Nat → AObj} {os : List (Option (List Int))} : (optL os).map (frz hp) = optL os := by
  simp only [optL, List.map_map]
  exact List.map_congr_left fun o _ => frz_optC
theorem frz_rzs {hp : Nat → AObj} {oss : List (List (Option (List Int)))} : (rzs oss).map (frz hp) = rzs oss := by simp [rzs, frz]
theorem owned_opt : ∀ {os : List (Option (List Int))}, owned (optL os) = []
  | [] => rfl
  | some _ :: os => owned_opt (os := os)
  | none :: os => owned_opt (os := os)
theorem owned_rzs : ∀ {oss : List (List (Option (List Int)))}, owned (rzs oss) = []
  | [] => rfl
  | _ :: oss => owned_rzs (oss := oss)
theorem opt_some {os : List (Option (List Int))} {w : List Int} : optL os ++ [.ro none 1 (ints w)] = optL (os ++ [some w]) := by simp [optL, optC]
theorem opt_none {os : List (Option (List Int))} : optL os ++ [.val (.slice none 0 0)] = optL (os ++ [none]) := by simp [optL, optC]
theorem rzs_snoc {oss : List (List (Option (List Int)))} {os : List (Option (List Int))} : rzs oss ++ [.ro (some none) 1 (optL os)] = rzs (oss ++ [os]) := by simp [rzs]
theorem opt_len {os : List (Option (List Int))} : (optL os).length = os.length := by simp [optL]
theorem rzs_len {oss : List (List (Option (List Int)))} : (rzs oss).length = oss.length := by simp [rzs]
theorem rzn_len {oss : List (List (Option (List Int)))} : (rzn oss).length = oss.length := by simp [rzn]
attribute [local go_sem] dnL_opt dnL_rzs dnL_rzn one_opt one_rzs frz_opt frz_rzs owned_opt owned_rzs opt_some opt_none rzs_snoc rzs_len rzn_len opt_len
end Go.Ab
namespace Go.Ab
open Go.Proofs
attribute [local go_sem] dnL_opt dnL_rzs dnL_rzn one_opt one_rzs frz_opt frz_rzs owned_opt owned_rzs opt_some opt_none rzs_snoc rzs_len rzn_len opt_len
theorem rwnS {xss : List (List Int)} {xs : List Int} : rwn xss ++ [.ro none 1 (ints xs)] = rwn (xss ++ [xs]) := by simp [rwn]
theorem frz_rwnS {hp : Nat → AObj} {xss : List (List Int)} : (rwn xss).map (frz hp) = rwn xss := by simp [rwn, frz]
theorem owned_rwnS : ∀ {xss : List (List Int)}, owned (rwn xss) = []
  | [] => rfl
  | _ :: xss => owned_rwnS (xss := xss)
attribute [local go_sem] rwnS frz_rwnS owned_rwnS
end Go.Ab
namespace Go.Ab
open Go.Proofs
end Go.Ab
namespace Go.Ab
def divS : Int → List Int → Bool
  | _, [] => true
  | u, c :: cs => (decide (0 ≤ c) && decide (c ≤ u)) && divS (max u (c + 1)) cs
def usedS : Int → List Int → Int
  | u, [] => u
  | u, c :: cs => usedS (max u (c + 1)) cs
def divB (cl : List Int) (n : Int) : Bool := divS 0 cl && decide ((cl.length : Int) = n)
theorem used_ge : ∀ {cs : List Int} {u : Int}, u ≤ usedS u cs
  | [], _ => Int.le_refl _
  | c :: cs, u => by
    have := used_ge (cs := cs) (u := max u (c + 1))
    simp only [usedS]; omega
theorem used_mem : ∀ {cs : List Int} {u c : Int}, c ∈ cs → c + 1 ≤ usedS u cs
  | x :: cs, u, c, h => by
    simp only [usedS]
    rcases List.mem_cons.1 h with rfl | h
    · have := used_ge (cs := cs) (u := max u (c + 1)); omega
    · exact used_mem h
theorem divS_cons {u c : Int} {cs : List Int} : divS u (c :: cs) = true ↔ (0 ≤ c ∧ c ≤ u) ∧ divS (max u (c + 1)) cs = true := by
  simp [divS, Bool.and_eq_true, decide_eq_true_eq]
theorem div_nn : ∀ {cs : List Int} {u c : Int}, divS u cs = true → c ∈ cs → 0 ≤ c
  | x :: cs, u, c, h, hc => by
    obtain ⟨h1, h2⟩ := divS_cons.1 h
    rcases List.mem_cons.1 hc with rfl | hc
    · exact h1.1
    · exact div_nn h2 hc
theorem div_surj : ∀ {cs : List Int} {u c : Int}, divS u cs = true → u ≤ c → c < usedS u cs → c ∈ cs
  | [], u, c, _, h1, h2 => by simp only [usedS] at h2; omega
  | x :: cs, u, c, h, h1, h2 => by
    obtain ⟨g1, g2⟩ := divS_cons.1 h
    simp only [usedS] at h2
    by_cases e : c = x
    · rw [e]; simp
    · exact List.mem_cons_of_mem _ (div_surj g2 (by omega) h2)
theorem used_len : ∀ {cs : List Int} {u : Int}, divS u cs = true → usedS u cs ≤ u + cs.length
  | [], u, _ => by simp [usedS]
  | x :: cs, u, h => by
    obtain ⟨g1, g2⟩ := divS_cons.1 h
    have := used_len g2
    simp only [usedS, List.length_cons]; omega
theorem divS_snoc : ∀ {cs : List Int} {u c : Int}, divS u (cs ++ [c]) = (divS u cs && (decide (0 ≤ c) && decide (c ≤ usedS u cs)))
  | [], u, c => by simp only [List.nil_append, divS, usedS, Bool.and_true, Bool.true_and]; rfl
  | x :: cs, u, c => by simp only [List.cons_append, divS, usedS, divS_snoc (cs := cs), Bool.and_assoc]; rfl
structure Div (cl : List Int) (n k : Int) : Prop where
  ln : (cl.length : Int) = n
  nn : ∀ c ∈ cl, 0 ≤ c ∧ c < k
  on : ∀ c, 0 ≤ c → c < k → c ∈ cl
  le : k ≤ n
theorem Div.of {cl : List Int} {n : Int} (h : divB cl n = true) : Div cl n (usedS 0 cl) := by
  unfold divB at h
  rw [Bool.and_eq_true, decide_eq_true_eq] at h
  exact ⟨h.2, fun c hc => ⟨div_nn h.1 hc, by have := used_mem (u := 0) hc; omega⟩, fun c h1 h2 => div_surj h.1 h1 h2, by have := used_len h.1; omega⟩
theorem Div.at {cl : List Int} {n k : Int} (D : Div cl n k) {s : Nat} (hs : (s : Int) < n) : 0 ≤ cl.getD s 0 ∧ cl.getD s 0 < k := D.nn _ (yzw (by have := D.ln; omega) 0)
end Go.Ab
namespace Go.Ab
open Go.Proofs
end Go.Ab
namespace Go.Ab
open Go.Proofs
end Go.Ab
namespace Go.Ab
def LeC (n : Nat) (cl us : List Int) : Prop := ∀ i j : Nat, i < n → j < n → cl.getD i 0 = cl.getD j 0 → us.getD i 0 = us.getD j 0
def RspC (n : Nat) (next : List (List Int)) (cl us : List Int) : Prop := ∀ row ∈ next, ∀ i j : Nat, i < n → j < n → cl.getD i 0 = cl.getD j 0 → us.getD (row.getD i 0).toNat 0 = us.getD (row.getD j 0).toNat 0
theorem LeC.refl {n : Nat} {cl : List Int} : LeC n cl cl := fun _ _ _ _ h => h
theorem LeC.trans {n : Nat} {a b c : List Int} (h : LeC n a b) (k : LeC n b c) : LeC n a c := fun i j hi hj e => k i j hi hj (h i j hi hj e)
structure JoinP (n : Nat) (next : List (List Int)) (cl : List Int) (s t : Nat) (us : List Int) : Prop where
  ln : us.length = cl.length
  rg : ∀ x ∈ us, x ∈ cl
  co : LeC n cl us
  st : us.getD s 0 = us.getD t 0
  mn : ∀ C : List Int, RspC n next C C → LeC n cl C → C.getD s 0 = C.getD t 0 → LeC n us C
  cg : ∀ F : List Int, LeC n us F → RspC n next cl F → RspC n next us F
theorem JoinP.same {n : Nat} {next : List (List Int)} {cl : List Int} {s t : Nat} (h : cl.getD s 0 = cl.getD t 0) : JoinP n next cl s t cl :=
  ⟨rfl, fun _ h => h, LeC.refl, h, fun _ _ h _ => h, fun _ _ h => h⟩
def repI (a b : Int) (l : List Int) : List Int := l.map fun c => if c = a then b else c
theorem repI_len {a b : Int} {l : List Int} : (repI a b l).length = l.length := by simp [repI]
theorem repI_getD {a b : Int} {l : List Int} {i : Nat} (h : i < l.length) : (repI a b l).getD i 0 = if l.getD i 0 = a then b else l.getD i 0 := by
  unfold repI
  rw [List.getD_eq_getElem?_getD, List.getElem?_map, List.getElem?_eq_getElem h, List.getD_eq_getElem?_getD, List.getElem?_eq_getElem h]; rfl
structure JoinI (n : Nat) (next : List (List Int)) (cl : List Int) (s t : Nat) (l : Nat) (us : List Int) : Prop where
  ln : us.length = cl.length
  rg : ∀ x ∈ us, x ∈ repI (cl.getD s 0) (cl.getD t 0) cl
  co : LeC n (repI (cl.getD s 0) (cl.getD t 0) cl) us
  rw' : ∀ row ∈ next.take l, us.getD (row.getD s 0).toNat 0 = us.getD (row.getD t 0).toNat 0
  mn : ∀ C : List Int, RspC n next C C → LeC n cl C → C.getD s 0 = C.getD t 0 → LeC n us C
  cg : ∀ F : List Int, LeC n us F → RspC n next (repI (cl.getD s 0) (cl.getD t 0) cl) F → RspC n next us F
theorem JoinI.zero {n : Nat} {next : List (List Int)} {cl : List Int} {s t : Nat} (hl : cl.length = n) (hs : s < n) (ht : t < n) : JoinI n next cl s t 0 (repI (cl.getD s 0) (cl.getD t 0) cl) := by
  refine ⟨repI_len, fun _ h => h, LeC.refl, by simp, fun C _ h e i j hi hj he => ?_, fun _ _ h => h⟩
  rw [repI_getD (by omega), repI_getD (by omega)] at he
  split at he
  · rename_i h1
    have e1 := h i s hi hs h1
    split at he
    · rename_i h2
      have e2 := h j s hj hs h2
      rw [e1, e2]
    · have e2 := h j t hj ht he.symm
      rw [e1, e2, e]
  · split at he
    · rename_i h2
      have e2 := h j s hj hs h2
      have e1 := h i t hi ht he
      rw [e1, e2, e]
    · exact h i j hi hj he
theorem JoinI.step {n : Nat} {next : List (List Int)} {cl : List Int} {s t l : Nat} {us vs row : List Int} (I : JoinI n next cl s t l us) (hs : s < n) (ht : t < n)
    (hrow : row ∈ next) (htk : next.take (l + 1) = next.take l ++ [row]) (hin : ∀ r ∈ next, ∀ i < n, (r.getD i 0).toNat < n) (J : JoinP n next us (row.getD s 0).toNat (row.getD t 0).toNat vs) : JoinI n next cl s t (l + 1) vs := by
  refine ⟨J.ln.trans I.ln, fun x h => I.rg x (J.rg x h), I.co.trans J.co, fun r hr => ?_, fun C hC hle he => J.mn C hC (I.mn C hC hle he) (hC row hrow s t hs ht he), fun F hF hR => J.cg F hF (I.cg F (J.co.trans hF) hR)⟩
  rw [htk] at hr
  rcases List.mem_append.1 hr with hr | hr
  · exact J.co _ _ (hin r (List.mem_of_mem_take hr) s hs) (hin r (List.mem_of_mem_take hr) t ht) (I.rw' r hr)
  · rw [List.mem_singleton.1 hr]; exact J.st
theorem JoinI.done {n : Nat} {next : List (List Int)} {cl : List Int} {s t l : Nat} {us : List Int} (I : JoinI n next cl s t l us) (hl : cl.length = n) (hs : s < n) (ht : t < n) (hll : next.length ≤ l)
    (hin : ∀ r ∈ next, ∀ i < n, (r.getD i 0).toNat < n) : JoinP n next cl s t us := by
  have hco : LeC n cl us := by
    intro i j hi hj he
    refine I.co i j hi hj ?_
    rw [repI_getD (by omega), repI_getD (by omega), he]
  refine ⟨I.ln, fun x h => ?_, hco, I.co s t hs ht ?_, I.mn, fun F hF hR => I.cg F hF ?_⟩
  · have h1 := I.rg x h
    simp only [repI, List.mem_map] at h1
    obtain ⟨c, hc, rfl⟩ := h1
    split
    · exact yzw (by omega) 0
    · exact hc
  · rw [repI_getD (by omega), repI_getD (by omega), if_pos rfl]
    split <;> rfl
  · have hst : ∀ row ∈ next, F.getD (row.getD s 0).toNat 0 = F.getD (row.getD t 0).toNat 0 := fun row hrow =>
      hF _ _ (hin row hrow s hs) (hin row hrow t ht) (I.rw' row (by rw [List.take_of_length_le hll]; exact hrow))
    intro row hrow i j hi hj he
    have h := hR row hrow
    rw [repI_getD (by omega), repI_getD (by omega)] at he
    split at he
    · rename_i h1
      have e1 := h i s hi hs h1
      split at he
      · rename_i h2
        have e2 := h j s hj hs h2
        rw [e1, e2]
      · have e2 := h j t hj ht he.symm
        rw [e1, e2, hst row hrow]
    · split at he
      · rename_i h2
        have e2 := h j s hj hs h2
        have e1 := h i t hi ht he
        rw [e1, e2, hst row hrow]
      · exact h i j hi hj he
end Go.Ab
namespace Go.Ab
open Go.Proofs
end Go.Ab
namespace Go.Ab
open Go.Proofs
structure TidP (xs ys : List Int) : Prop where
  ln : ys.length ≤ xs.length
  dv : divS 0 ys = true
  eq : ∀ i j, i < ys.length → j < ys.length → (ys.getD i 0 = ys.getD j 0 ↔ xs.getD i 0 = xs.getD j 0)
theorem TidP.nil {xs : List Int} : TidP xs [] := ⟨by simp, rfl, by simp⟩
theorem getD_snl {ys : List Int} {c : Int} {i : Nat} (h : i < ys.length) : (ys ++ [c]).getD i 0 = ys.getD i 0 := by
  rw [List.getD_eq_getElem?_getD, List.getElem?_append_left h, ← List.getD_eq_getElem?_getD]
theorem getD_snr {ys : List Int} {c : Int} : (ys ++ [c]).getD ys.length 0 = c := by
  rw [List.getD_eq_getElem?_getD, List.getElem?_append_right (Nat.le_refl _)]; simp
theorem TidP.add {xs ys : List Int} {c : Int} (T : TidP xs ys) (hlt : ys.length < xs.length) (hd : 0 ≤ c ∧ c ≤ usedS 0 ys) (he : ∀ i < ys.length, (ys.getD i 0 = c ↔ xs.getD i 0 = xs.getD ys.length 0)) : TidP xs (ys ++ [c]) := by
  refine ⟨by simp; omega, by rw [divS_snoc, T.dv]; simp [hd], fun i j hi hj => ?_⟩
  rw [List.length_append, List.length_singleton] at hi hj
  by_cases h1 : i < ys.length
  · by_cases h2 : j < ys.length
    · rw [getD_snl h1, getD_snl h2]; exact T.eq i j h1 h2
    · obtain rfl : j = ys.length := by omega
      rw [getD_snl h1, getD_snr]; exact he i h1
  · obtain rfl : i = ys.length := by omega
    by_cases h2 : j < ys.length
    · rw [getD_snl h2, getD_snr]
      constructor
      · intro h; exact ((he j h2).1 h.symm).symm
      · intro h; exact ((he j h2).2 h.symm).symm
    · obtain rfl : j = ys.length := by omega
      simp
theorem TidP.new {xs ys : List Int} (T : TidP xs ys) (hlt : ys.length < xs.length) (h : ∀ k < ys.length, xs.getD k 0 ≠ xs.getD ys.length 0) : TidP xs (ys ++ [usedS 0 ys]) := by
  refine T.add hlt ⟨used_ge, Int.le_refl _⟩ fun i hi => ⟨fun e => ?_, fun e => absurd e (h i hi)⟩
  have := used_mem (u := 0) (yzw hi 0)
  omega
theorem TidP.old {xs ys : List Int} (T : TidP xs ys) (hlt : ys.length < xs.length) {k : Nat} (hk : k < ys.length) (h : xs.getD k 0 = xs.getD ys.length 0) : TidP xs (ys ++ [ys.getD k 0]) := by
  have hm := yzw hk 0
  refine T.add hlt ⟨div_nn T.dv hm, by have := used_mem (u := 0) hm; omega⟩ fun i hi => ?_
  rw [T.eq i k hi hk, h]
end Go.Ab
namespace Go.Ab
def MerP (next : List (List Int)) (s t : Int) : Prop := ∃ w, IsW next.length w ∧ atA next s w = atA next t w
def StabP (next : List (List Int)) (s t : Int) : Prop := ∀ w, IsW next.length w → MerP next (atA next s w) (atA next t w)
theorem isw_nil {m : Nat} : IsW m [] := fun x hx => by simp at hx
theorem isw_app {m : Nat} {u v : List Int} (hu : IsW m u) (hv : IsW m v) : IsW m (u ++ v) := fun x hx => by
  rcases List.mem_append.1 hx with h | h
  · exact hu x h
  · exact hv x h
theorem StabP.refl {next : List (List Int)} {s : Int} : StabP next s s := fun _ _ => ⟨[], isw_nil, rfl⟩
theorem StabP.symm {next : List (List Int)} {s t : Int} (h : StabP next s t) : StabP next t s := fun w hw => by
  obtain ⟨v, h1, h2⟩ := h w hw
  exact ⟨v, h1, h2.symm⟩
theorem StabP.trans {next : List (List Int)} {s t u : Int} (h : StabP next s t) (k : StabP next t u) : StabP next s u := fun w hw => by
  obtain ⟨v, h1, h2⟩ := h w hw
  obtain ⟨x, k1, k2⟩ := k (w ++ v) (isw_app hw h1)
  refine ⟨v ++ x, isw_app h1 k1, ?_⟩
  rw [atA_app, atA_app (s := u)] at k2
  rw [atA_app, h2, k2, atA_app]
theorem StabP.step {next : List (List Int)} {s t : Int} (h : StabP next s t) {w : List Int} (hw : IsW next.length w) : StabP next (atA next s w) (atA next t w) := fun v hv => by
  have h1 := h (w ++ v) (isw_app hw hv)
  rw [atA_app, atA_app] at h1
  exact h1
theorem MerP.back {next : List (List Int)} {s t : Int} {w : List Int} (hw : IsW next.length w) (h : MerP next (atA next s w) (atA next t w)) : MerP next s t := by
  obtain ⟨v, h1, h2⟩ := h
  exact ⟨w ++ v, isw_app hw h1, by rw [atA_app, atA_app]; exact h2⟩
structure StD (n : Int) (next : List (List Int)) (us : List Int) : Prop where
  ln : (us.length : Int) = n
  eq : ∀ i j : Nat, (i : Int) < n → (j : Int) < n → (us.getD i 0 = us.getD j 0 ↔ StabP next i j)
structure StI (n : Int) (next : List (List Int)) (pre : List (List Int)) (us : List Int) : Prop where
  ln : (us.length : Int) = n
  rg : ∀ t : Nat, (t : Int) < n → 0 ≤ us.getD t 0 ∧ us.getD t 0 ≤ t
  st : ∀ t : Nat, (t : Int) < n → StabP next (us.getD t 0) t
  dn : ∀ a b : Nat, [(a : Int), (b : Int)] ∈ pre → us.getD b 0 ≤ a
theorem setAt_getD {us : List Int} {b i : Nat} {x : Int} (hb : b < us.length) : (us.set b x).getD i 0 = if i = b then x else us.getD i 0 := by
  rw [List.getD_eq_getElem?_getD, List.getElem?_set]
  by_cases h : b = i
  · rw [if_pos h, if_pos h.symm, if_pos (by omega)]; rfl
  · rw [if_neg h, if_neg (fun e => h e.symm), ← List.getD_eq_getElem?_getD]
theorem StI.step {n : Int} {next pre : List (List Int)} {us : List Int} (I : StI n next pre us) {a b : Nat} (hab : a < b) (hb : (b : Int) < n) (h : StabP next a b) :
    StI n next (pre ++ [[(a : Int), (b : Int)]]) (us.set b (min (us.getD b 0) (us.getD a 0))) := by
  have hln := I.ln
  have hbl : b < us.length := by omega
  have ra := I.rg a (by omega)
  have rb := I.rg b hb
  refine ⟨by rw [List.length_set]; exact hln, fun t ht => ?_, fun t ht => ?_, fun x y hxy => ?_⟩
  · rw [setAt_getD hbl]
    split
    · rename_i e; subst e; omega
    · exact I.rg t ht
  · rw [setAt_getD hbl]
    split
    · rename_i e; subst e
      by_cases hm : us.getD t 0 ≤ us.getD a 0
      · rw [Int.min_eq_left hm]; exact I.st t ht
      · rw [Int.min_eq_right (by omega)]; exact (I.st a (by omega)).trans h
    · exact I.st t ht
  · rw [setAt_getD hbl]
    rcases List.mem_append.1 hxy with hxy | hxy
    · have := I.dn x y hxy
      split
      · rename_i e; subst e; omega
      · exact this
    · rw [List.mem_singleton, List.cons.injEq, List.cons.injEq] at hxy
      have e1 : x = a := by omega
      have e2 : y = b := by omega
      subst e1; subst e2
      rw [if_pos rfl]; omega
theorem StI.done {n : Int} {next pre : List (List Int)} {us : List Int} (I : StI n next pre us) (hp : ∀ a b : Nat, a < b → (b : Int) < n → StabP next a b → [(a : Int), (b : Int)] ∈ pre) : StD n next us := by
  have le : ∀ i j : Nat, (i : Int) < n → (j : Int) < n → StabP next i j → us.getD j 0 ≤ us.getD i 0 := fun i j hi hj h => by
    have ri := I.rg i hi
    have rj := I.rg j hj
    have si := I.st i hi
    have e : (((us.getD i 0).toNat : Nat) : Int) = us.getD i 0 := by omega
    have h1 : StabP next (us.getD i 0) j := si.trans h
    rw [← e] at h1
    by_cases c1 : (us.getD i 0).toNat < j
    · have := I.dn _ _ (hp _ _ c1 hj h1); omega
    · omega
  refine ⟨I.ln, fun i j hi hj => ⟨fun e => ?_, fun h => ?_⟩⟩
  · have h1 := I.st i hi
    rw [e] at h1
    exact h1.symm.trans (I.st j hj)
  · have := le i j hi hj h
    have := le j i hj hi h.symm
    omega
structure StJ (n : Int) (next : List (List Int)) (pre : List (List Int)) (us : List Int) : Prop where
  ln : (us.length : Int) = n
  rg : ∀ x ∈ us, 0 ≤ x ∧ x < n
  st : ∀ i j : Nat, (i : Int) < n → (j : Int) < n → us.getD i 0 = us.getD j 0 → StabP next i j
  dn : ∀ a b : Nat, (a : Int) < n → (b : Int) < n → [(a : Int), (b : Int)] ∈ pre → us.getD b 0 = us.getD a 0
theorem StJ.step {n : Int} {next pre : List (List Int)} {us : List Int} (I : StJ n next pre us) {a b : Nat} (ha : (a : Int) < n) (hb : (b : Int) < n) (h : StabP next a b) :
    StJ n next (pre ++ [[(a : Int), (b : Int)]]) (repI (us.getD b 0) (us.getD a 0) us) := by
  have hln := I.ln
  refine ⟨by rw [repI_len]; exact hln, fun x hx => ?_, fun i j hi hj e => ?_, fun x y hx hy hxy => ?_⟩
  · simp only [repI, List.mem_map] at hx
    obtain ⟨c, hc, rfl⟩ := hx
    split
    · exact I.rg _ (yzw (by omega) 0)
    · exact I.rg c hc
  · rw [repI_getD (by omega), repI_getD (by omega)] at e
    split at e
    · rename_i h1
      have s1 := I.st i b hi hb h1
      split at e
      · rename_i h2
        exact s1.trans (I.st j b hj hb h2).symm
      · exact (s1.trans h.symm).trans (I.st a j ha hj e)
    · split at e
      · rename_i h2
        exact ((I.st i a hi ha e).trans h).trans (I.st j b hj hb h2).symm
      · exact I.st i j hi hj e
  · rw [repI_getD (by omega), repI_getD (by omega)]
    rcases List.mem_append.1 hxy with hxy | hxy
    · rw [I.dn x y hx hy hxy]
    · rw [List.mem_singleton, List.cons.injEq, List.cons.injEq] at hxy
      have e1 : x = a := by omega
      have e2 : y = b := by omega
      subst e1; subst e2
      rw [if_pos rfl]
      split <;> rfl
theorem StJ.done {n : Int} {next pre : List (List Int)} {us : List Int} (I : StJ n next pre us) (hp : ∀ a b : Nat, a < b → (b : Int) < n → StabP next a b → [(a : Int), (b : Int)] ∈ pre) : StD n next us := by
  refine ⟨I.ln, fun i j hi hj => ⟨I.st i j hi hj, fun h => ?_⟩⟩
  by_cases h1 : i < j
  · exact (I.dn i j hi hj (hp i j h1 hj h)).symm
  · by_cases h2 : j < i
    · exact I.dn j i hj hi (hp j i h2 hi h.symm)
    · rw [show i = j by omega]
end Go.Ab
namespace Go.Ab
open Go.Proofs
end Go.Ab
namespace Go.Ab
open Go.Proofs
theorem k_l04Size (n l : Int) (h1 : 1 ≤ n) (h2 : n ≤ 10) (h3 : 1 ≤ l) (h4 : l ≤ 3) : Fun Tryz.prog nz4c [iv n, iv l] (bv true) := by
  refine fun_of mixed cziv rfl ⟨rfl, trivial⟩ ?_
  have e1 : (decide (1 ≤ n) && decide (n ≤ 10)) = true := by simp; omega
  have e2 : (decide (1 ≤ l) && decide (l ≤ 3)) = true := by simp; omega
  simp only [Bzf4, Azf5, go_sem, yz0, Int.reduceLT, reduceLE, reduceToNat, reduceNeg, Nat.reduceLT, reduceLeDiff, reduceMul, reduceSub, reduceIte, reduceEqDiff, reduceAdd, reduceCtorEq]
  intro vs
  refine yzr (k_l00In n 1 10) qCS trivial ?_
  simp only [e1, go_sem, yz0, Int.reduceLT, reduceLE, reduceToNat, reduceNeg, Nat.reduceLT, reduceLeDiff, reduceMul, reduceSub, reduceIte, reduceEqDiff, reduceAdd, reduceCtorEq]
  refine yzr (k_l00In l 1 3) qCS trivial ?_
  simp only [e2, go_sem, yz0, Int.reduceLT, reduceLE, reduceToNat, reduceNeg, Nat.reduceLT, reduceLeDiff, reduceMul, reduceSub, reduceIte, reduceEqDiff, reduceAdd, reduceCtorEq]
end Go.Ab
