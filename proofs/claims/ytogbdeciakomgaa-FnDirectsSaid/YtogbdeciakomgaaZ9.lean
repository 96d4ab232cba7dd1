/- Contracts and what they lean on, part 9. Conditions: none. -/
import Derived.Test.YtogbdeciakomgaaZ8
set_option maxRecDepth 100000
set_option maxHeartbeats 4000000
set_option linter.all false
open Nat (reduceLeDiff reduceMul reduceSub reduceEqDiff reduceAdd)
open Int (reduceToNat reduceNeg reduceLE)
namespace Go.Ab
open Go.Proofs
theorem bitsTo_eq {f : Nat} : bitsTo f 10 = (bitsN f).map fun (s : Nat) => (s : Int) := rfl
theorem mem_bitsTo {f : Nat} {x : Int} : x ∈ bitsTo f 10 ↔ 0 ≤ x ∧ x < 10 ∧ f.testBit x.toNat = true := by
  rw [bitsTo_eq, List.mem_map]
  constructor
  · rintro ⟨s, hs, rfl⟩
    rw [mem_bits] at hs
    exact ⟨by omega, by omega, by rw [Int.toNat_natCast]; exact hs.2⟩
  · rintro ⟨h1, h2, h3⟩
    exact ⟨x.toNat, mem_bits.2 ⟨by omega, h3⟩, by omega⟩
theorem bits_ext {f g : Nat} (hf : f < 1024) (hg : g < 1024) (h : ∀ s < 10, f.testBit s = g.testBit s) : f = g := by
  refine Nat.eq_of_testBit_eq fun i => ?_
  by_cases hi : i < 10
  · exact h i hi
  · have h2 : 1024 ≤ 2 ^ i := Nat.pow_le_pow_right (n := 2) (by omega) (show 10 ≤ i by omega)
    rw [Nat.testBit_lt_two_pow (by omega), Nat.testBit_lt_two_pow (by omega)]
theorem bitsTo_inj {f g : Nat} (hf : f < 1024) (hg : g < 1024) : bitsTo f 10 = bitsTo g 10 ↔ f = g := by
  constructor
  · intro h
    refine bits_ext hf hg fun s hs => ?_
    have h1 : ((s : Int) ∈ bitsTo f 10) ↔ ((s : Int) ∈ bitsTo g 10) := by rw [h]
    rw [mem_bitsTo, mem_bitsTo, Int.toNat_natCast] at h1
    rw [Bool.eq_iff_iff]
    constructor
    · exact fun e => (h1.1 ⟨by omega, by omega, e⟩).2.2
    · exact fun e => (h1.2 ⟨by omega, by omega, e⟩).2.2
  · rintro rfl; rfl
theorem bitsTo_pos {f : Nat} (hf : f < 1024) : decide ((bitsTo f 10).length > 0) = !(Nat.beq f 0) := by
  have h : ∀ f : Fin 1024, decide ((bitsTo f 10).length > 0) = !(Nat.beq f 0) := by decide +kernel
  exact h ⟨f, hf⟩
theorem bitsTo_one {f : Nat} (hf : f < 1024) : decide ((bitsTo f 10).length = 1) = (!(Nat.beq f 0) && smallN f) := by
  have h : ∀ f : Fin 1024, decide ((bitsTo f 10).length = 1) = (!(Nat.beq f 0) && smallN f) := by decide +kernel
  exact h ⟨f, hf⟩
theorem bits_filter {m r : Nat} : (bitsTo m 10).filter (fun x => (bitsTo r 10).any fun y => x == y) = bitsTo (m &&& r) 10 := by
  rw [bitsTo_eq (f := m), List.filter_map, bitsTo_eq (f := m &&& r)]
  congr 1
  unfold bitsN
  rw [List.filter_filter]
  refine List.filter_congr fun s hs => ?_
  have hs := List.mem_range.1 hs
  rw [Nat.testBit_and, Bool.and_comm]
  congr 1
  show ((bitsTo r 10).any fun y => ((s : Nat) : Int) == y) = _
  rw [Bool.eq_iff_iff, List.any_eq_true]
  constructor
  · rintro ⟨y, hy, he⟩
    obtain rfl : (s : Int) = y := by simpa using he
    rw [mem_bitsTo, Int.toNat_natCast] at hy
    exact hy.2.2
  · intro h
    exact ⟨(s : Int), mem_bitsTo.2 ⟨by omega, by omega, by rw [Int.toNat_natCast]; exact h⟩, by simp⟩
theorem sameS_meet {f0 : Nat} : ∀ {fs : List Nat}, sameS f0 fs = true → meetS f0 fs = f0
  | [], _ => rfl
  | f :: fs, h => by
    simp only [sameS, List.all_cons, Bool.and_eq_true] at h
    have e : f = f0 := Nat.eq_of_beq_eq_true h.1
    subst e
    show meetS (f &&& f) fs = f
    rw [Nat.and_self]
    exact sameS_meet (fs := fs) h.2
theorem dir_three {fs : List Nat} (h : dirB fs 1 = true) : dirB fs 2 = true ∧ dirB fs 3 = true := by
  have e1 : dirB fs 1 = (sameS (fs.getD 0 0) fs && (!(Nat.beq (fs.getD 0 0) 0) && smallN (fs.getD 0 0))) := rfl
  have e2 : dirB fs 2 = sameS (fs.getD 0 0) fs := rfl
  have e3 : dirB fs 3 = !(Nat.beq (meetS (fs.getD 0 0) fs) 0) := rfl
  rw [e1, Bool.and_eq_true, Bool.and_eq_true] at h
  rw [e2, e3, sameS_meet h.1]
  exact ⟨h.1, h.2.1⟩
def pth (next : List (List Int)) : Int → List Int → Option Int
  | s, [] => some s
  | s, l :: w => if (next.getD l.toNat []).getD s.toNat 0 < 0 then none else pth next ((next.getD l.toNat []).getD s.toNat 0) w
theorem maskN_one {x : Int} : maskN [x] = 2 ^ x.toNat := by simp [maskN]
theorem bits_pow {s : Nat} (h : s < 10) : bitsTo (2 ^ s) 10 = [(s : Int)] := by
  have h2 : ∀ s : Fin 10, bitsTo (2 ^ s.val) 10 = [(s.val : Int)] := by decide
  exact h2 ⟨s, h⟩
theorem chOf_getD {next : List (List Int)} {l : Nat} : (chOf next).getD l [] = (next.getD l []).map chS := by
  unfold chOf
  rw [List.getD_eq_getElem?_getD, List.getElem?_map, List.getD_eq_getElem?_getD]
  cases next[l]? <;> rfl
theorem map_chS {row : List Int} {s : Nat} (h : s < row.length) : (row.map chS).getD s [] = chS (row.getD s 0) := by
  rw [List.getD_eq_getElem?_getD, List.getElem?_map, List.getD_eq_getElem?_getD, List.getElem?_eq_getElem h]; rfl
theorem goW_zero {nx : List (List (List Int))} : ∀ w, goW nx 0 w = 0
  | [] => rfl
  | l :: w => by
    show goW nx (goN (nx.getD l.toNat []) 0) w = 0
    have : goN (nx.getD l.toNat []) 0 = 0 := rfl
    rw [this]; exact goW_zero w
theorem goW_chOf {n : Int} {next : List (List Int)} (P : Prt n next) : ∀ {w : List Int} {s : Int}, IsW next.length w → 0 ≤ s ∧ s < n → goW (chOf next) (2 ^ s.toNat) w = match pth next s w with
    | none => 0
    | some t => 2 ^ t.toNat
  | [], s, _, _ => rfl
  | l :: w, s, hw, hs => by
    have n2 := P.n2
    have hl := hw l (by simp)
    obtain ⟨h1, h2, h3⟩ := P.at (l := l.toNat) (by omega) hs
    show goW (chOf next) (goN ((chOf next).getD l.toNat []) (2 ^ s.toNat)) w = _
    have hg : goN ((chOf next).getD l.toNat []) (2 ^ s.toNat) = maskN (chS ((next.getD l.toNat []).getD s.toNat 0)) := by
      unfold goN goTo
      rw [bits_pow (by omega), chOf_getD]
      simp only [List.foldl_cons, List.foldl_nil, Nat.zero_or, Int.toNat_natCast]
      rw [map_chS h1]
    rw [hg, pth]
    generalize (next.getD l.toNat []).getD s.toNat 0 = x at h2 h3
    by_cases hx : x < 0
    · rw [if_pos hx]
      have : chS x = [] := by unfold chS; rw [if_neg (by omega)]
      rw [this]; exact goW_zero w
    · rw [if_neg hx]
      have : chS x = [x] := by unfold chS; rw [if_pos (by omega)]
      rw [this, maskN_one]
      exact goW_chOf P (fun y hy => hw y (by simp [hy])) ⟨by omega, h3⟩
theorem stp_bit {n : Int} {next : List (List Int)} (P : Prt n next) {l f g : Nat} (hl : l < next.length) (hf : f < 2 ^ n.toNat) (h : stpP (next.getD l []) f = some g) (t : Int) :
    t ∈ bitsTo g 10 ↔ ∃ s ∈ bitsTo f 10, (next.getD l []).getD s.toNat 0 = t := by
  have n2 := P.n2
  have hn : gapIn (next.getD l []) (bitsTo f 10) = false ∧ g = stepN (next.getD l []) f := by
    unfold stpP at h
    split at h
    · cases h
    · rename_i hng
      exact ⟨Bool.eq_false_iff.2 hng, (Option.some.inj h).symm⟩
  obtain ⟨hn, rfl⟩ := hn
  have hng : ∀ s ∈ bitsTo f 10, 0 ≤ (next.getD l []).getD s.toNat 0 ∧ (next.getD l []).getD s.toNat 0 < n := fun s hs => by
    have h1 := (P.at hl (bits_in2 hf s hs)).2
    refine ⟨?_, h1.2⟩
    by_cases c : (next.getD l []).getD s.toNat 0 < 0
    · unfold gapIn at hn
      rw [List.any_eq_false] at hn
      exact absurd (decide_eq_true c) (hn s hs)
    · omega
  rw [mem_bitsTo, step_bit]
  constructor
  · rintro ⟨h1, h2, s, hs, he⟩
    have hs' : (s : Int) ∈ bitsTo f 10 := by
      rw [mem_bits] at hs
      exact mem_bitsTo.2 ⟨by omega, by omega, by rw [Int.toNat_natCast]; exact hs.2⟩
    refine ⟨(s : Int), hs', ?_⟩
    have := hng _ hs'
    rw [Int.toNat_natCast] at this ⊢
    omega
  · rintro ⟨s, hs, rfl⟩
    have h1 := hng s hs
    rw [mem_bitsTo] at hs
    exact ⟨h1.1, by omega, s.toNat, mem_bits.2 ⟨by omega, hs.2.2⟩, rfl⟩
theorem imP_iff {n : Int} {next : List (List Int)} (P : Prt n next) : ∀ {w : List Int} {f : Nat}, IsW next.length w → f < 2 ^ n.toNat →
    ((∃ s ∈ bitsTo f 10, pth next s w = none) → imP next f w = none) ∧ ((∀ s ∈ bitsTo f 10, pth next s w ≠ none) → ∃ g, imP next f w = some g ∧ ∀ t : Int, t ∈ bitsTo g 10 ↔ ∃ s ∈ bitsTo f 10, pth next s w = some t)
  | [], f, _, _ => by
    refine ⟨?_, fun _ => ⟨f, rfl, fun t => ?_⟩⟩
    · rintro ⟨s, _, h⟩; cases h
    · constructor
      · exact fun h => ⟨t, h, rfl⟩
      · rintro ⟨s, h, e⟩
        rw [← Option.some.inj e]; exact h
  | l :: w, f, hw, hf => by
    have hl := hw l (by simp)
    have hll : l.toNat < next.length := by omega
    cases hst : stpP (next.getD l.toNat []) f with
    | none =>
      have hgp : gapIn (next.getD l.toNat []) (bitsTo f 10) = true := by
        unfold stpP at hst
        split at hst
        · assumption
        · cases hst
      unfold gapIn at hgp
      rw [List.any_eq_true] at hgp
      obtain ⟨s, hs, hn⟩ := hgp
      have hn := of_decide_eq_true hn
      refine ⟨fun _ => by rw [imP, hst], fun h => absurd (show pth next s (l :: w) = none by rw [pth, if_pos hn]) (h s hs)⟩
    | some g =>
      have hgl := stpP_lt P hf hll hst
      have hng : ∀ s ∈ bitsTo f 10, ¬ (next.getD l.toNat []).getD s.toNat 0 < 0 := fun s hs hn => by
        have : gapIn (next.getD l.toNat []) (bitsTo f 10) = true := by
          unfold gapIn
          rw [List.any_eq_true]
          exact ⟨s, hs, decide_eq_true hn⟩
        unfold stpP at hst
        rw [if_pos this] at hst; cases hst
      have hb := stp_bit P hll hf hst
      have hp : ∀ s ∈ bitsTo f 10, pth next s (l :: w) = pth next ((next.getD l.toNat []).getD s.toNat 0) w := fun s hs => by rw [pth, if_neg (hng s hs)]
      have him : imP next f (l :: w) = imP next g w := by rw [imP, hst]
      obtain ⟨i1, i2⟩ := imP_iff P (w := w) (f := g) (fun y hy => hw y (by simp [hy])) hgl
      refine ⟨?_, fun h => ?_⟩
      · rintro ⟨s, hs, hn⟩
        rw [him]
        exact i1 ⟨_, (hb _).2 ⟨s, hs, rfl⟩, by rw [← hp s hs]; exact hn⟩
      · obtain ⟨g', h1, h2⟩ := i2 fun t ht => by
          obtain ⟨s, hs, rfl⟩ := (hb t).1 ht
          rw [← hp s hs]; exact h s hs
        refine ⟨g', by rw [him]; exact h1, fun t => ?_⟩
        rw [h2]
        constructor
        · rintro ⟨t', ht, he⟩
          obtain ⟨s, hs, rfl⟩ := (hb t').1 ht
          exact ⟨s, hs, by rw [hp s hs]; exact he⟩
        · rintro ⟨s, hs, he⟩
          exact ⟨_, (hb _).2 ⟨s, hs, rfl⟩, by rw [← hp s hs]; exact he⟩
theorem pth_rg {n : Int} {next : List (List Int)} (P : Prt n next) : ∀ {w : List Int} {s t : Int}, IsW next.length w → 0 ≤ s ∧ s < n → pth next s w = some t → 0 ≤ t ∧ t < n
  | [], s, t, _, hs, h => by rw [← Option.some.inj h]; exact hs
  | l :: w, s, t, hw, hs, h => by
    have hl := hw l (by simp)
    obtain ⟨h1, h2, h3⟩ := P.at (l := l.toNat) (by omega) hs
    rw [pth] at h
    split at h
    · cases h
    · exact pth_rg P (fun y hy => hw y (by simp [hy])) ⟨by omega, h3⟩ h
theorem car_iff {n : Int} {next : List (List Int)} (P : Prt n next) {w : List Int} (hw : IsW next.length w) :
    carB next n w = true ↔ ∃ t, ∀ s : Int, 0 ≤ s ∧ s < n → pth next s w = some t := by
  have n1 := P.n1
  have n2 := P.n2
  have hp := Nat.two_pow_pos n.toNat
  have hN : 2 ^ n.toNat ≤ 1024 := Nat.pow_le_pow_right (n := 2) (by omega) (show n.toNat ≤ 10 by omega)
  have hall : ∀ s : Int, s ∈ bitsTo (2 ^ n.toNat - 1) 10 ↔ 0 ≤ s ∧ s < n := fun s => by
    rw [mem_bitsTo, Nat.testBit_two_pow_sub_one, decide_eq_true_eq]; omega
  obtain ⟨i1, i2⟩ := imP_iff P (w := w) (f := 2 ^ n.toNat - 1) hw (by omega)
  unfold carB
  by_cases h : ∃ s ∈ bitsTo (2 ^ n.toNat - 1) 10, pth next s w = none
  · rw [i1 h]
    obtain ⟨s, hs, hn⟩ := h
    refine ⟨fun e => (by cases e), fun ⟨t, ht⟩ => ?_⟩
    have := ht s ((hall s).1 hs)
    rw [hn] at this; cases this
  · obtain ⟨g, hg, hb⟩ := i2 fun s hs hn => h ⟨s, hs, hn⟩
    have hgl := imP_lt P (by omega) hw hg
    rw [hg]
    show smallN g = true ↔ _
    rw [small_iff (by omega)]
    have hmem : ∀ t : Nat, t ∈ bitsN g ↔ ∃ s : Int, (0 ≤ s ∧ s < n) ∧ pth next s w = some (t : Int) := fun t => by
      have h1 : (t : Int) ∈ bitsTo g 10 ↔ t ∈ bitsN g := by
        rw [mem_bitsTo, mem_bits, Int.toNat_natCast]
        exact ⟨fun ⟨_, a, b⟩ => ⟨by omega, b⟩, fun ⟨a, b⟩ => ⟨by omega, by omega, b⟩⟩
      rw [← h1, hb]
      constructor
      · rintro ⟨s, hs, he⟩; exact ⟨s, (hall s).1 hs, he⟩
      · rintro ⟨s, hs, he⟩; exact ⟨s, (hall s).2 hs, he⟩
    have hdef : ∀ s : Int, 0 ≤ s ∧ s < n → ∃ t : Nat, pth next s w = some (t : Int) := fun s hs => by
      cases he : pth next s w with
      | none => exact absurd ⟨s, (hall s).2 hs, he⟩ h
      | some t =>
        have := pth_rg P hw hs he
        exact ⟨t.toNat, by rw [Int.toNat_of_nonneg this.1]⟩
    constructor
    · intro hsm
      obtain ⟨t0, ht0⟩ := hdef 0 ⟨by omega, by omega⟩
      refine ⟨t0, fun s hs => ?_⟩
      obtain ⟨t, ht⟩ := hdef s hs
      have := hsm t ((hmem t).2 ⟨s, hs, ht⟩) t0 ((hmem t0).2 ⟨0, ⟨by omega, by omega⟩, ht0⟩)
      rw [ht, this]
    · rintro ⟨t, ht⟩ x hx y hy
      obtain ⟨s, hs, he⟩ := (hmem x).1 hx
      obtain ⟨s', hs', he'⟩ := (hmem y).1 hy
      rw [ht s hs] at he
      rw [ht s' hs'] at he'
      have h1 := Option.some.inj he
      have h2 := Option.some.inj he'
      omega
theorem pow_inj {a b : Nat} (h : 2 ^ a = 2 ^ b) : a = b := by
  rcases Nat.lt_trichotomy a b with h1 | h1 | h1
  · have := Nat.pow_lt_pow_right (a := 2) (by omega) h1; omega
  · exact h1
  · have := Nat.pow_lt_pow_right (a := 2) (by omega) h1; omega
theorem small_pow {s : Nat} (h : s < 10) : smallN (2 ^ s) = true := by
  have h2 : ∀ s : Fin 10, smallN (2 ^ s.val) = true := by decide
  exact h2 ⟨s, h⟩
theorem car_dir {n : Int} {next : List (List Int)} (P : Prt n next) {w : List Int} (hw : IsW next.length w) : carB next n w = dirB (rchL (chOf next) w n.toNat) 1 := by
  have n1 := P.n1
  have n2 := P.n2
  have e1 : dirB (rchL (chOf next) w n.toNat) 1 = (sameS ((rchL (chOf next) w n.toNat).getD 0 0) (rchL (chOf next) w n.toNat) && (!(Nat.beq ((rchL (chOf next) w n.toNat).getD 0 0) 0) && smallN ((rchL (chOf next) w n.toNat).getD 0 0))) := rfl
  rw [e1, rchL_getD (by omega), Bool.eq_iff_iff, car_iff P hw, Bool.and_eq_true, Bool.and_eq_true]
  have hR : ∀ s : Nat, (s : Int) < n → goW (chOf next) (2 ^ s) w = match pth next (s : Int) w with
      | none => 0
      | some t => 2 ^ t.toNat := fun s hs => by
    have := goW_chOf P (w := w) (s := (s : Int)) hw ⟨by omega, hs⟩
    rw [Int.toNat_natCast] at this; exact this
  have hsame : sameS (goW (chOf next) (2 ^ 0) w) (rchL (chOf next) w n.toNat) = true ↔ ∀ s : Nat, (s : Int) < n → goW (chOf next) (2 ^ s) w = goW (chOf next) (2 ^ 0) w := by
    unfold sameS rchL
    rw [List.all_eq_true]
    constructor
    · intro h s hs
      exact Nat.eq_of_beq_eq_true (h _ (List.mem_map.2 ⟨s, List.mem_range.2 (by omega), rfl⟩))
    · rintro h f hf
      obtain ⟨s, hs, rfl⟩ := List.mem_map.1 hf
      rw [h s (by have := List.mem_range.1 hs; omega)]
      exact Nat.beq_refl _
  rw [hsame]
  constructor
  · rintro ⟨t, ht⟩
    have hs0 := ht 0 ⟨by omega, by omega⟩
    have htr := pth_rg P hw ⟨by omega, by omega⟩ hs0
    have hv : ∀ s : Nat, (s : Int) < n → goW (chOf next) (2 ^ s) w = 2 ^ t.toNat := fun s hs => by rw [hR s hs, ht s ⟨by omega, hs⟩]
    refine ⟨fun s hs => by rw [hv s hs, hv 0 (by omega)], ?_, ?_⟩
    · rw [hv 0 (by omega)]
      have := Nat.two_pow_pos t.toNat
      cases hb : Nat.beq (2 ^ t.toNat) 0 with
      | false => rfl
      | true => have := Nat.eq_of_beq_eq_true hb; omega
    · rw [hv 0 (by omega)]; exact small_pow (by omega)
  · rintro ⟨h1, h2, h3⟩
    have h0 := hR 0 (by omega)
    cases he : pth next ((0 : Nat) : Int) w with
    | none =>
      rw [he] at h0
      have h0 : goW (chOf next) (2 ^ 0) w = 0 := h0
      rw [h0] at h2; simp at h2
    | some t =>
      rw [he] at h0
      have h0 : goW (chOf next) (2 ^ 0) w = 2 ^ t.toNat := h0
      have htr := pth_rg P hw ⟨by omega, by omega⟩ he
      refine ⟨t, fun s hs => ?_⟩
      have hs1 := h1 s.toNat (by omega)
      rw [hR s.toNat (by omega), h0, show ((s.toNat : Nat) : Int) = s by omega] at hs1
      cases hes : pth next s w with
      | none =>
        rw [hes] at hs1
        have hs1 : 0 = 2 ^ t.toNat := hs1
        have := Nat.two_pow_pos t.toNat
        omega
      | some t' =>
        rw [hes] at hs1
        have hs1 : 2 ^ t'.toNat = 2 ^ t.toNat := hs1
        have := pow_inj hs1
        have htr' := pth_rg P hw hs hes
        congr 1; omega
theorem tot_gaps {next : List (List Int)} : totB (chOf next) = decide ((gapsF next next.length).length / 2 = 0) := by
  have hc : ∀ x : Int, Nat.beq (chS x).length 0 = decide (x < 0) := fun x => by
    unfold chS
    by_cases h : 0 ≤ x
    · rw [if_pos h, decide_eq_false (by omega)]; rfl
    · rw [if_neg h, decide_eq_true (by omega)]; rfl
  have hr : ∀ (row : List Int) (l k : Nat), (∃ s < k, row.getD s 0 < 0) → 2 ≤ (gapsR row l k).length := by
    intro row l k
    induction k with
    | zero => rintro ⟨s, h, _⟩; omega
    | succ k ih =>
      rintro ⟨s, hs, hn⟩
      rw [gapsR_succ, List.length_append]
      by_cases e : s = k
      · subst e; rw [if_pos hn]; simp
      · have := ih ⟨s, by omega, hn⟩; omega
  have hf : ∀ k : Nat, (∃ l < k, ∃ s < (next.getD l []).length, (next.getD l []).getD s 0 < 0) → 2 ≤ (gapsF next k).length := by
    intro k
    induction k with
    | zero => rintro ⟨l, h, _⟩; omega
    | succ k ih =>
      rintro ⟨l, hl, hx⟩
      rw [gapsF_succ, List.length_append]
      by_cases e : l = k
      · subst e; have := hr _ l _ hx; omega
      · have := ih ⟨l, by omega, hx⟩; omega
  have htot : totB (chOf next) = !(next.any fun row => row.any fun x => decide (x < 0)) := by
    unfold totB chOf
    rw [List.any_map]
    congr 2
    funext row
    show ((row.map chS).any fun s => Nat.beq s.length 0) = _
    rw [List.any_map]
    congr 1
    funext x
    exact hc x
  rw [htot]
  by_cases h : ∃ row ∈ next, ∃ x ∈ row, x < 0
  · have h1 : (next.any fun row => row.any fun x => decide (x < 0)) = true := by
      obtain ⟨row, h1, x, h2, h3⟩ := h
      exact List.any_eq_true.2 ⟨row, h1, List.any_eq_true.2 ⟨x, h2, decide_eq_true h3⟩⟩
    have h2 : 2 ≤ (gapsF next next.length).length := by
      obtain ⟨row, h1, x, h2, h3⟩ := h
      obtain ⟨l, hl, rfl⟩ := List.getElem_of_mem h1
      obtain ⟨s, hs, rfl⟩ := List.getElem_of_mem h2
      have e1 : next.getD l [] = next[l] := by rw [List.getD_eq_getElem?_getD, List.getElem?_eq_getElem hl]; rfl
      refine hf _ ⟨l, hl, s, by rw [e1]; exact hs, ?_⟩
      rw [e1, List.getD_eq_getElem?_getD, List.getElem?_eq_getElem hs]; exact h3
    rw [h1, decide_eq_false (by omega)]; rfl
  · have h1 : (next.any fun row => row.any fun x => decide (x < 0)) = false := by
      rw [List.any_eq_false]
      intro row hrow
      rw [Bool.not_eq_true, List.any_eq_false]
      intro x hx
      simp only [decide_eq_true_eq]
      exact fun hn => h ⟨row, hrow, x, hx, hn⟩
    have hr0 : ∀ (row : List Int) (l k : Nat), row ∈ next → k ≤ row.length → gapsR row l k = [] := by
      intro row l k hrow
      induction k with
      | zero => intro _; rfl
      | succ k ih =>
        intro hk
        rw [gapsR_succ, ih (by omega), if_neg (fun hn => h ⟨row, hrow, _, yzn (show k < row.length by omega) 0, hn⟩)]; rfl
    have hf0 : ∀ k : Nat, k ≤ next.length → gapsF next k = [] := by
      intro k
      induction k with
      | zero => intro _; rfl
      | succ k ih =>
        intro hk
        rw [gapsF_succ, ih (by omega), hr0 _ _ _ (yzn (show k < next.length by omega) []) (Nat.le_refl _)]; rfl
    rw [h1, hf0 _ (Nat.le_refl _)]; rfl
end Go.Ab
namespace Go.Ab
open Go.Proofs
noncomputable def wocF (n : Int) (next words : List (List Int)) : List Int := wocR n next words n.toNat (allS n) []
theorem tf_L {l : List (Nat × AVal)} {h : List (Nat × AObj)} {t q ver k : Nat} {nn : Bool} {cs : List AVal} :
    St.tf ⟨L .any l, L .gone h⟩ t q ver k nn cs = ⟨L .any ((t, .ro (frNm nn cs.length ver) k cs) :: l), L .gone ((q, .gone) :: h)⟩ := by
  have h1 : ∀ x, (if x = t then AVal.ro (frNm nn cs.length ver) k cs else L .any l x) = L .any ((t, .ro (frNm nn cs.length ver) k cs) :: l) x := fun x => by
    by_cases e : x = t <;> simp [L, e, eq_comm]
  have h2 : ∀ x, (if x = q then AObj.gone else L .gone h x) = L .gone ((q, .gone) :: h) x := fun x => by
    by_cases e : x = q <;> simp [L, e, eq_comm]
  exact congr (congrArg St.mk (funext h1)) (funext h2)
theorem gwp_tf {gs : List GStep} {K : St → Prop} {l : List (Nat × AVal)} {h : List (Nat × AObj)} {t q k ver : Nat} {nn : Bool} {cs : List AVal} (ht : L .any l t = .own q ver)
    (hq : L .gone h q = .row ver k nn cs) (hk : gwp gs K ⟨L .any ((t, .ro (frNm nn cs.length ver) k cs) :: l), L .gone ((q, .gone) :: h)⟩) : gwp (.tf t q :: gs) K ⟨L .any l, L .gone h⟩ :=
  ⟨ver, k, nn, cs, ht, hq, by rw [tf_L]; exact hk⟩
structure WocI (n : Int) (next words : List (List Int)) (set out : List Int) : Prop where
  ws : WS1 n set
  ln : out.length + 400 * (set.length - 1) ≤ 4000
  fu : ∃ F, set.length ≤ F ∧ wocR n next words F set out = wocF n next words
end Go.Ab
namespace Go.Ab
open Go.Proofs
theorem k_FnDirects (code more : List Int) (hb : ∀ x ∈ code, 0 ≤ x ∧ x ≤ 255) (hb2 : ∀ x ∈ more, 0 ≤ x ∧ x ≤ 255) :
    Fun Try.prog nz6h [.ro (some (some 0)) 1 (intsK .u8 code), .ro (some (some 0)) 1 (intsK .u8 more)] (bv true) := by
  refine fun_of mixed czfj rfl ⟨rfl, trivial⟩ ?_
  simp only [Az7a, Bz79, go_sem, yz0, Int.reduceLT, reduceLE, reduceToNat, reduceNeg, Nat.reduceLT, reduceLeDiff, reduceMul, reduceSub, reduceIte, reduceEqDiff, reduceAdd, reduceCtorEq]
  intro vs
  refine yz2 (k_f6big code) qCS trivial ?_
  have e00 : ((0 : Int) != 0) = false := rfl
  by_cases hc : (code.length : Int) > 4096
  · simp only [Bz1w, decide_eq_true hc, go_sem, yz0, Int.reduceLT, reduceLE, reduceToNat, reduceNeg, Nat.reduceLT, reduceLeDiff, reduceMul, reduceSub, reduceIte, reduceEqDiff, reduceAdd, reduceCtorEq]
  simp only [decide_eq_false hc, go_sem, yz0, Int.reduceLT, reduceLE, reduceToNat, reduceNeg, Nat.reduceLT, reduceLeDiff, reduceMul, reduceSub, reduceIte, reduceEqDiff, reduceAdd, reduceCtorEq]
  refine yz2 (k_f6big more) qCS trivial ?_
  by_cases hm : (more.length : Int) > 4096
  · simp only [Bz1w, decide_eq_true hm, go_sem, yz0, Int.reduceLT, reduceLE, reduceToNat, reduceNeg, Nat.reduceLT, reduceLeDiff, reduceMul, reduceSub, reduceIte, reduceEqDiff, reduceAdd, reduceCtorEq]
  simp only [Bz1w, Bz78, decide_eq_false hm, go_sem, yz0, Int.reduceLT, reduceLE, reduceToNat, reduceNeg, Nat.reduceLT, reduceLeDiff, reduceMul, reduceSub, reduceIte, reduceEqDiff, reduceAdd, reduceCtorEq]
  intro vs2
  refine call_sh (k_P6Choice code hb) qCS (fun e => by cases e) ?_
  rintro outs rows res ⟨rfl, n, nx, v, C, n4, nl2, rfl, rfl⟩
  refine ⟨rfl, by simp, by rw [Option.getD_some, yzf]; simp only [go_sem, yz0, Int.reduceLT, reduceLE, reduceToNat, reduceNeg, Nat.reduceLT, reduceLeDiff, reduceMul, reduceSub, reduceIte, reduceEqDiff, reduceAdd, reduceCtorEq], ?_⟩
  have n1 := C.n1
  have l1 := C.l1
  simp only [Option.getD_some, renL_rww, Bz77, Nat.not_lt_zero, range1, ren_val, ren_any, ren_ro, rnNm_n, rnNm_sn, rnNm_o, rnNm_s, ren_st, ren_tup, yzu, yzm, yz8, yzq, yzr, yzo, yzp, yzs, yza, yzc, yz9, yze, yzk, yzj, yz3, yzd, yz7, yz6, yzi, yzl, List.range_zero, yz5, yz4, yzb, yzt, yzf, yzv, AVal.fresh, freshL, yz1, yzh, AObj.fresh, id, Option.isSome_some, or_true, true_or, go_sem, yz0, Int.reduceLT, reduceLE, reduceToNat, reduceNeg, Nat.reduceLT, reduceLeDiff, reduceMul, reduceSub, reduceIte, reduceEqDiff, reduceAdd, reduceCtorEq]
  intro vs3
  intro hM
  refine call_rowI (k_P6Word more nx.length 5 hb2 (by omega) (by omega)) qCS qGN ⟨[], by simp [IsW6]⟩ ?_
  rintro w v48 ⟨hw5, hwi⟩
  have hw5 : (w.length : Int) ≤ 5 := hw5
  have hwB : wordB nx.length w = true := wordB_iff.2 ⟨by omega, hwi⟩
  have n2 := C.n2
  have hN : 2 ^ n.toNat ≤ 1024 := Nat.pow_le_pow_right (n := 2) (by omega) (show n.toNat ≤ 10 by omega)
  have hR : ∀ s : Nat, (s : Int) < n → goW nx (2 ^ s) w < 1024 := fun s hs => Nat.lt_of_lt_of_le (C.goW_lt hwi (pow_lt_n hs)) hN
  have hg0 : (rchL nx w n.toNat).getD 0 0 = goW nx (2 ^ 0) w := rchL_getD (by omega)
  have hf0 := hR 0 (by omega)
  have d3 := @dir_three (rchL nx w n.toNat)
  have d1 : dirB (rchL nx w n.toNat) 1 = (sameS (goW nx (2 ^ 0) w) (rchL nx w n.toNat) && decide ((bitsTo (goW nx (2 ^ 0) w) 10).length = 1)) := by
    rw [bitsTo_one hf0, ← hg0]; rfl
  have d2 : dirB (rchL nx w n.toNat) 2 = sameS (goW nx (2 ^ 0) w) (rchL nx w n.toNat) := by rw [← hg0]; rfl
  have hml : meetS (goW nx (2 ^ 0) w) (rchL nx w n.toNat) ≤ goW nx (2 ^ 0) w := meetS_le
  have d4 : dirB (rchL nx w n.toNat) 3 = decide ((bitsTo (meetS (goW nx (2 ^ 0) w) (rchL nx w n.toNat)) 10).length > 0) := by
    rw [bitsTo_pos (by omega), ← hg0]; rfl
  have k1 := k_Directs n nx C w 1 hwB (by omega)
  have k2 := k_Directs n nx C w 2 hwB (by omega)
  have k3 := k_Directs n nx C w 3 hwB (by omega)
  have hss := fun i (h : i < (rchL nx w n.toNat).length) => sameS_snoc (f0 := goW nx (2 ^ 0) w) h
  have hms := fun i (h : i < (rchL nx w n.toNat).length) => meetS_snoc (f0 := goW nx (2 ^ 0) w) h
  have hfg : ∀ i : Nat, (i : Int) < n → (rchL nx w n.toNat).getD i 0 = goW nx (2 ^ i) w := fun i h => rchL_getD (by omega)
  have hfl : (rchL nx w n.toNat).length = n.toNat := rchL_len
  have hmle : ∀ k, meetS (goW nx (2 ^ 0) w) ((rchL nx w n.toNat).take k) ≤ goW nx (2 ^ 0) w := fun k => meetS_le
  generalize rchL nx w n.toNat = fs at hg0 d3 d1 d2 hml d4 k1 k2 k3 hss hms hfg hfl hmle
  generalize dirB fs 1 = sm at d3 d1 k1
  generalize dirB fs 2 = eq at d3 d2 k2
  generalize dirB fs 3 = mt at d3 d4 k3
  have ez1 : ((0 : Nat) : Int) = 0 := rfl
  simp only [Bz76, Nat.not_lt_zero, range1, ren_val, ren_any, ren_ro, rnNm_n, rnNm_sn, rnNm_o, rnNm_s, ren_st, ren_tup, yzu, yzm, yz8, yzq, yzr, yzo, yzp, yzs, yza, yzc, yz9, yze, yzk, yzj, yz3, yzd, yz7, yz6, yzi, yzl, List.range_zero, yz5, yz4, yzb, yzt, yzf, yzv, AVal.fresh, freshL, yz1, yzh, AObj.fresh, id, Option.isSome_some, or_true, true_or, go_sem, yz0, Int.reduceLT, reduceLE, reduceToNat, reduceNeg, Nat.reduceLT, reduceLeDiff, reduceMul, reduceSub, reduceIte, reduceEqDiff, reduceAdd, reduceCtorEq]
  intro vs4
  refine call_fun2 k1 qCW ?_
  simp only [Bz75, Nat.not_lt_zero, range1, ren_val, ren_any, ren_ro, rnNm_n, rnNm_sn, rnNm_o, rnNm_s, ren_st, ren_tup, yzu, yzm, yz8, yzq, yzr, yzo, yzp, yzs, yza, yzc, yz9, yze, yzk, yzj, yz3, yzd, yz7, yz6, yzi, yzl, List.range_zero, yz5, yz4, yzb, yzt, yzf, yzv, AVal.fresh, freshL, yz1, yzh, AObj.fresh, id, Option.isSome_some, or_true, true_or, go_sem, yz0, Int.reduceLT, reduceLE, reduceToNat, reduceNeg, Nat.reduceLT, reduceLeDiff, reduceMul, reduceSub, reduceIte, reduceEqDiff, reduceAdd, reduceCtorEq]
  intro vs5
  refine call_fun2 k2 qCW ?_
  simp only [Bz74, Nat.not_lt_zero, range1, ren_val, ren_any, ren_ro, rnNm_n, rnNm_sn, rnNm_o, rnNm_s, ren_st, ren_tup, yzu, yzm, yz8, yzq, yzr, yzo, yzp, yzs, yza, yzc, yz9, yze, yzk, yzj, yz3, yzd, yz7, yz6, yzi, yzl, List.range_zero, yz5, yz4, yzb, yzt, yzf, yzv, AVal.fresh, freshL, yz1, yzh, AObj.fresh, id, Option.isSome_some, or_true, true_or, go_sem, yz0, Int.reduceLT, reduceLE, reduceToNat, reduceNeg, Nat.reduceLT, reduceLeDiff, reduceMul, reduceSub, reduceIte, reduceEqDiff, reduceAdd, reduceCtorEq]
  intro vs6
  refine call_fun2 k3 qCW ?_
  have hg : ∀ σ : St, σ.kd [0, 1, 5, 6, 7, 9, 11] [5, 43, 48, 5000, 5001] = ⟨L .any [(0, .ro (some (some 0)) 1 (intsK .u8 code)), (1, .ro (some (some 0)) 1 (intsK .u8 more)), (5, .ptr 5 (vs2 2 0) 0), (6, .own 48 v48), (7, bv sm), (9, bv eq), (11, bv mt)],
      L .gone [(5, .box (vs2 2 0) [iv n, .own 43 (vs2 1 v)]), (43, .row (vs2 1 v) 1 true (rww nx)), (48, .row v48 1 true (ints w))]⟩ → wpD Try.prog Bz41 (finQ fun σ => σ.tm 4 = bv true) σ := by
    intro σ hS
    unfold Bz41
    rw [wpD_kpd, hS]
    have hset : ∀ s : Int, 0 ≤ s ∧ s < n → setB n [s] = true := fun s hs => setB_iff.2 ⟨by simp [SI], fun x hx => by rw [List.mem_singleton.1 hx]; exact hs⟩
    have kR0 := k_ReachBy n nx C [0] w (hset 0 (by omega)) hwB
    rw [maskN_one] at kR0
    simp only [go_sem, yz0, Int.reduceLT, reduceLE, reduceToNat, reduceNeg, Nat.reduceLT, reduceLeDiff, reduceMul, reduceSub, reduceIte, reduceEqDiff, reduceAdd, reduceCtorEq]
    intro vs7
    refine ⟨⟨_, rfl, rfl⟩, ?_⟩
    refine call_fn kR0 (by simp only [coeL_rww, coeL_rwwn, rowIs, boxIs, coe_argN, coe_argNs, coe_ro_o, coeL_nil, yzw, coe_any, coe_val, coe_ro, coe_ro_nil, coe_ro_own, coe_st, coe_st_agg, coe_rp, coe_rp_ptr, coe_clo, coe_own0, coe_ptr0, coeL_intsK, coeL_rws, coeL_rwn, L_hit, L_miss, L_nil, reduceEqDiff, ne_eq, reduceCtorEq, not_false_eq_true, true_and, and_true, and_self, exists_eq_left, exists_eq_right, List.mem_cons, List.not_mem_nil, or_false, AObj.row.injEq, AObj.box.injEq, exists_eq_left', exists_and_left, exists_eq, Nat.zero_lt_one, Nat.lt_add_one, List.map_cons, List.map_nil, AObj.ver, Nat.reduceLT, not_true_eq_false]) (fun e => by cases e) ?_
    rintro rows res ⟨v92, rfl, rfl⟩
    refine ⟨by simp, by rw [Option.getD_some, yzf]; simp only [go_sem, yz0, Int.reduceLT, reduceLE, reduceToNat, reduceNeg, Nat.reduceLT, reduceLeDiff, reduceMul, reduceSub, reduceIte, reduceEqDiff, reduceAdd, reduceCtorEq], ?_⟩
    simp only [Option.getD_some, Bz73, Bz72, wpD_gh, Nat.not_lt_zero, range1, ren_val, ren_any, ren_ro, rnNm_n, rnNm_sn, rnNm_o, rnNm_s, ren_st, ren_tup, yzu, yzm, yz8, yzq, yzr, yzo, yzp, yzs, yza, yzc, yz9, yze, yzk, yzj, yz3, yzd, yz7, yz6, yzi, yzl, List.range_zero, yz5, yz4, yzb, yzt, yzf, yzv, AVal.fresh, freshL, yz1, yzh, AObj.fresh, id, Option.isSome_some, or_true, true_or, go_sem, yz0, Int.reduceLT, reduceLE, reduceToNat, reduceNeg, Nat.reduceLT, reduceLeDiff, reduceMul, reduceSub, reduceIte, reduceEqDiff, reduceAdd, reduceCtorEq]
    intro hD
    refine ⟨[.tf 13 92], gwp_tf rfl rfl ?_⟩
    simp only [gwp_nil, frNm_t, Bz71, Bz6t, go_sem, yz0, Int.reduceLT, reduceLE, reduceToNat, reduceNeg, Nat.reduceLT, reduceLeDiff, reduceMul, reduceSub, reduceIte, reduceEqDiff, reduceAdd, reduceCtorEq]
    refine wpD_lo (fun k => n.toNat - k) (fun k => k ≤ n.toNat)
      (fun k : Nat => ⟨L .any [(0, .ro (some (some 0)) 1 (intsK .u8 code)), (1, .ro (some (some 0)) 1 (intsK .u8 more)), (5, .ptr 5 (vs2 2 0) 0), (6, .own 48 v48), (7, bv sm), (9, bv eq), (11, bv mt), (13, .ro (some none) 1 (ints (bitsTo (goW nx (2 ^ 0) w) 10))), (14, iv 0), (15, bv (sameS (goW nx (2 ^ 0) w) (fs.take k))), (16, .ro (some none) 1 (ints (bitsTo (meetS (goW nx (2 ^ 0) w) (fs.take k)) 10))), (17, iv k)],
        L .gone [(5, .box (vs2 2 0) [iv n, .own 43 (vs2 1 v)]), (43, .row (vs2 1 v) 1 true (rww nx)), (48, .row v48 1 true (ints w))]⟩)
      0 (by simp) (by simp only [Bz1y, List.take_zero, go_sem, yz0, Int.reduceLT, reduceLE, reduceToNat, reduceNeg, Nat.reduceLT, reduceLeDiff, reduceMul, reduceSub, reduceIte, reduceEqDiff, reduceAdd, reduceCtorEq]; try rfl) ?_
    rintro k hk
    by_cases hlt : (k : Int) < n
    · have hlt1 : k < fs.length := by omega
      have wk : IntKind.i64.wrap ((k : Int) + 1) = ((k + 1 : Nat) : Int) := by rw [w64 (by omega)]; simp
      have kRk := k_ReachBy n nx C [(k : Int)] w (hset k ⟨by omega, hlt⟩) hwB
      have kSk := k_specReachBy n nx C [(k : Int)] w (hset k ⟨by omega, hlt⟩) hwB
      rw [maskN_one, Int.toNat_natCast] at kRk kSk
      have hRk := hR k hlt
      have hsk := hss k hlt1
      have hmk := hms k hlt1
      have hmb := hmle k
      rw [hfg k hlt] at hsk hmk
      have hbe : Nat.beq (goW nx (2 ^ k) w) (goW nx (2 ^ 0) w) = decide (bitsTo (goW nx (2 ^ k) w) 10 = bitsTo (goW nx (2 ^ 0) w) 10) := by
        rw [Bool.eq_iff_iff, decide_eq_true_iff, Nat.beq_eq]; exact (bitsTo_inj hRk hf0).symm
      rw [hbe] at hsk
      have hbf := bits_filter (m := meetS (goW nx (2 ^ 0) w) (fs.take k)) (r := goW nx (2 ^ k) w)
      rw [← hmk] at hbf
      generalize hX : bitsTo (goW nx (2 ^ k) w) 10 = X at kRk kSk hsk hbf
      generalize bitsTo (goW nx (2 ^ 0) w) 10 = F0 at hsk ⊢
      have hcl : (bitsTo (meetS (goW nx (2 ^ 0) w) (fs.take k)) 10).length ≤ 10 := bitsTo_len
      generalize bitsTo (meetS (goW nx (2 ^ 0) w) (fs.take k)) 10 = cm at hbf hcl ⊢
      have hXl : X.length ≤ 10 := by rw [← hX]; exact bitsTo_len
      simp only [Bz1y, Bz3v, Bz6s, decide_eq_true hlt, go_sem, yz0, Int.reduceLT, reduceLE, reduceToNat, reduceNeg, Nat.reduceLT, reduceLeDiff, reduceMul, reduceSub, reduceIte, reduceEqDiff, reduceAdd, reduceCtorEq]
      intro vs10
      refine ⟨⟨_, rfl, rfl⟩, ?_⟩
      refine call_fn kRk (by simp only [coeL_rww, coeL_rwwn, rowIs, boxIs, coe_argN, coe_argNs, coe_ro_o, coeL_nil, yzw, coe_any, coe_val, coe_ro, coe_ro_nil, coe_ro_own, coe_st, coe_st_agg, coe_rp, coe_rp_ptr, coe_clo, coe_own0, coe_ptr0, coeL_intsK, coeL_rws, coeL_rwn, L_hit, L_miss, L_nil, reduceEqDiff, ne_eq, reduceCtorEq, not_false_eq_true, true_and, and_true, and_self, exists_eq_left, exists_eq_right, List.mem_cons, List.not_mem_nil, or_false, AObj.row.injEq, AObj.box.injEq, exists_eq_left', exists_and_left, exists_eq, Nat.zero_lt_one, Nat.lt_add_one, List.map_cons, List.map_nil, AObj.ver, Nat.reduceLT, not_true_eq_false]) (fun e => by cases e) ?_
      rintro rows res ⟨v107, rfl, rfl⟩
      refine ⟨by simp, by rw [Option.getD_some, yzf]; simp only [go_sem, yz0, Int.reduceLT, reduceLE, reduceToNat, reduceNeg, Nat.reduceLT, reduceLeDiff, reduceMul, reduceSub, reduceIte, reduceEqDiff, reduceAdd, reduceCtorEq], ?_⟩
      simp only [Option.getD_some, Bz6q, Nat.not_lt_zero, range1, ren_val, ren_any, ren_ro, rnNm_n, rnNm_sn, rnNm_o, rnNm_s, ren_st, ren_tup, yzu, yzm, yz8, yzq, yzr, yzo, yzp, yzs, yza, yzc, yz9, yze, yzk, yzj, yz3, yzd, yz7, yz6, yzi, yzl, List.range_zero, yz5, yz4, yzb, yzt, yzf, yzv, AVal.fresh, freshL, yz1, yzh, AObj.fresh, id, Option.isSome_some, or_true, true_or, go_sem, yz0, Int.reduceLT, reduceLE, reduceToNat, reduceNeg, Nat.reduceLT, reduceLeDiff, reduceMul, reduceSub, reduceIte, reduceEqDiff, reduceAdd, reduceCtorEq]
      intro vs11
      refine ⟨⟨_, rfl, rfl⟩, ?_⟩
      refine call_fn kSk (by simp only [coeL_rww, coeL_rwwn, rowIs, boxIs, coe_argN, coe_argNs, coe_ro_o, coeL_nil, yzw, coe_any, coe_val, coe_ro, coe_ro_nil, coe_ro_own, coe_st, coe_st_agg, coe_rp, coe_rp_ptr, coe_clo, coe_own0, coe_ptr0, coeL_intsK, coeL_rws, coeL_rwn, L_hit, L_miss, L_nil, reduceEqDiff, ne_eq, reduceCtorEq, not_false_eq_true, true_and, and_true, and_self, exists_eq_left, exists_eq_right, List.mem_cons, List.not_mem_nil, or_false, AObj.row.injEq, AObj.box.injEq, exists_eq_left', exists_and_left, exists_eq, Nat.zero_lt_one, Nat.lt_add_one, List.map_cons, List.map_nil, AObj.ver, Nat.reduceLT, not_true_eq_false]) (fun e => by cases e) ?_
      rintro rows res ⟨v115, rfl, rfl⟩
      refine ⟨by simp, by rw [Option.getD_some, yzf]; simp only [go_sem, yz0, Int.reduceLT, reduceLE, reduceToNat, reduceNeg, Nat.reduceLT, reduceLeDiff, reduceMul, reduceSub, reduceIte, reduceEqDiff, reduceAdd, reduceCtorEq], ?_⟩
      simp only [Option.getD_some, e00, Bz6p, Nat.not_lt_zero, range1, ren_val, ren_any, ren_ro, rnNm_n, rnNm_sn, rnNm_o, rnNm_s, ren_st, ren_tup, yzu, yzm, yz8, yzq, yzr, yzo, yzp, yzs, yza, yzc, yz9, yze, yzk, yzj, yz3, yzd, yz7, yz6, yzi, yzl, List.range_zero, yz5, yz4, yzb, yzt, yzf, yzv, AVal.fresh, freshL, yz1, yzh, AObj.fresh, id, Option.isSome_some, or_true, true_or, go_sem, yz0, Int.reduceLT, reduceLE, reduceToNat, reduceNeg, Nat.reduceLT, reduceLeDiff, reduceMul, reduceSub, reduceIte, reduceEqDiff, reduceAdd, reduceCtorEq]
      intro vs12
      refine yz2 (k_f6ints X X) qCW trivial ?_
      simp only [decide_true, Bool.not_true, Bz6i, go_sem, yz0, Int.reduceLT, reduceLE, reduceToNat, reduceNeg, Nat.reduceLT, reduceLeDiff, reduceMul, reduceSub, reduceIte, reduceEqDiff, reduceAdd, reduceCtorEq]
      unfold Bz6o
      rw [wpD_kpd]
      refine wpD_cut (α := Unit) (fun _ => True)
        (fun _ => ⟨L .any [(0, .ro (some (some 0)) 1 (intsK .u8 code)), (1, .ro (some (some 0)) 1 (intsK .u8 more)), (5, .ptr 5 (vs2 2 0) 0), (6, .own 48 v48), (7, bv sm), (9, bv eq), (11, bv mt), (13, .ro (some none) 1 (ints F0)), (14, iv 0), (15, bv (sameS (goW nx (2 ^ 0) w) (fs.take (k + 1)))), (16, .ro (some none) 1 (ints cm)), (17, iv k), (20, .own 115 (vs11 4 v115))],
          L .gone [(5, .box (vs2 2 0) [iv n, .own 43 (vs2 1 v)]), (43, .row (vs2 1 v) 1 true (rww nx)), (48, .row v48 1 true (ints w)), (115, .row (vs11 4 v115) 1 true (ints X))]⟩) ?_ ?_
      · cases hS : sameS (goW nx (2 ^ 0) w) (fs.take k) with
        | true =>
          rw [hS, Bool.true_and] at hsk
          simp only [go_sem, yz0, Int.reduceLT, reduceLE, reduceToNat, reduceNeg, Nat.reduceLT, reduceLeDiff, reduceMul, reduceSub, reduceIte, reduceEqDiff, reduceAdd, reduceCtorEq]
          intro vs13
          refine yz2 (k_f6ints X F0) qCW trivial ?_
          simp only [go_sem, yz0, Int.reduceLT, reduceLE, reduceToNat, reduceNeg, Nat.reduceLT, reduceLeDiff, reduceMul, reduceSub, reduceIte, reduceEqDiff, reduceAdd, reduceCtorEq]
          exact ⟨(), by rw [hsk]⟩
        | false =>
          rw [hS, Bool.false_and] at hsk
          simp only [go_sem, yz0, Int.reduceLT, reduceLE, reduceToNat, reduceNeg, Nat.reduceLT, reduceLeDiff, reduceMul, reduceSub, reduceIte, reduceEqDiff, reduceAdd, reduceCtorEq]
          exact ⟨(), by rw [hsk]⟩
      · rintro _ _
        simp only [Bz6n, go_sem, yz0, Int.reduceLT, reduceLE, reduceToNat, reduceNeg, Nat.reduceLT, reduceLeDiff, reduceMul, reduceSub, reduceIte, reduceEqDiff, reduceAdd, reduceCtorEq]
        intro vs13
        simp only [Bz6m, Bz6k, go_sem, yz0, Int.reduceLT, reduceLE, reduceToNat, reduceNeg, Nat.reduceLT, reduceLeDiff, reduceMul, reduceSub, reduceIte, reduceEqDiff, reduceAdd, reduceCtorEq]
        refine wpD_lo (fun (_, j) => cm.length - j) (fun (_, j) => j ≤ cm.length)
          (fun ((u, j) : Nat × Nat) => ⟨L .any [(0, .ro (some (some 0)) 1 (intsK .u8 code)), (1, .ro (some (some 0)) 1 (intsK .u8 more)), (5, .ptr 5 (vs2 2 0) 0), (6, .own 48 v48), (7, bv sm), (9, bv eq), (11, bv mt), (13, .ro (some none) 1 (ints F0)), (14, iv 0), (15, bv (sameS (goW nx (2 ^ 0) w) (fs.take (k + 1)))), (16, .ro (some none) 1 (ints cm)), (17, iv k), (20, .own 115 (vs11 4 v115)), (22, .own 137 u), (23, iv j)],
            L .gone [(5, .box (vs2 2 0) [iv n, .own 43 (vs2 1 v)]), (43, .row (vs2 1 v) 1 true (rww nx)), (48, .row v48 1 true (ints w)), (115, .row (vs11 4 v115) 1 true (ints X)), (137, .row u 1 true (ints ((cm.take j).filter fun x => X.any fun y => x == y)))]⟩)
          (_, 0) (by simp) (by simp only [Bz1x, List.take_zero, List.filter_nil, List.map_nil, go_sem, yz0, Int.reduceLT, reduceLE, reduceToNat, reduceNeg, Nat.reduceLT, reduceLeDiff, reduceMul, reduceSub, reduceIte, reduceEqDiff, reduceAdd, reduceCtorEq]; try rfl) ?_
        rintro ⟨u, j⟩ hj
        have hj : j ≤ cm.length := hj
        by_cases hlj : (j : Int) < cm.length
        · have hlj1 : j < cm.length := by omega
          have wj : IntKind.i64.wrap ((j : Int) + 1) = ((j + 1 : Nat) : Int) := by rw [w64 (by omega)]; simp
          have j0 : (0 : Int) ≤ (j : Int) := by omega
          have j1 : (0 : Int) ≤ ((j + 1 : Nat) : Int) := by omega
          have hsl : List.drop j (List.take (j + 1) (ints cm)) = ints [cm.getD j 0] := by
            rw [intsK_take, intsK_drop, List.take_succ, List.drop_append_of_le_length (by rw [List.length_take]; omega), List.drop_of_length_le (by rw [List.length_take]; omega), List.getD_eq_getElem?_getD, List.getElem?_eq_getElem hlj1]; rfl
          have hpt : partB [cm.getD j 0] X = X.any fun y => cm.getD j 0 == y := by simp [partB]
          have htk : (cm.take (j + 1)).filter (fun x => X.any fun y => x == y) = (cm.take j).filter (fun x => X.any fun y => x == y) ++ if (X.any fun y => cm.getD j 0 == y) = true then [cm.getD j 0] else [] := by
            rw [List.take_succ, List.filter_append, List.getD_eq_getElem?_getD, List.getElem?_eq_getElem hlj1]
            simp [List.filter_cons]
          have hfl2 := List.length_filter_le (fun x => X.any fun y => x == y) (cm.take j)
          rw [List.length_take] at hfl2
          have hle1 : j ≤ j + 1 := by omega
          have hle2 : j + 1 ≤ cm.length := by omega
          simp only [Bz1x, Bz3w, Bz6j, decide_eq_true hlj, wj, St.bound, j0, j1, Int.toNat_natCast, hsl, hle1, hle2, go_sem, yz0, Int.reduceLT, reduceLE, reduceToNat, reduceNeg, Nat.reduceLT, reduceLeDiff, reduceMul, reduceSub, reduceIte, reduceEqDiff, reduceAdd, reduceCtorEq]
          intro _ vs14
          refine yz2 (k_f6part [cm.getD j 0] X) qCW trivial ?_
          rw [hpt]
          cases hp : X.any fun y => cm.getD j 0 == y with
          | true =>
            rw [if_pos hp] at htk
            simp only [Bz3x, Bz3y, yzg hlj1, wj, go_sem, yz0, Int.reduceLT, reduceLE, reduceToNat, reduceNeg, Nat.reduceLT, reduceLeDiff, reduceMul, reduceSub, reduceIte, reduceEqDiff, reduceAdd, reduceCtorEq]
            exact fun vs15 => ⟨⟨by omega, hlj1⟩, hlj1, ⟨_, rfl, rfl⟩, by omega, (vs15 6 0, j + 1), by dsimp only; omega, by dsimp only; omega, by rw [htk]⟩
          | false =>
            rw [if_neg (by rw [hp]; simp), List.append_nil] at htk
            simp only [Bz3x, Bz3y, wj, go_sem, yz0, Int.reduceLT, reduceLE, reduceToNat, reduceNeg, Nat.reduceLT, reduceLeDiff, reduceMul, reduceSub, reduceIte, reduceEqDiff, reduceAdd, reduceCtorEq]
            exact ⟨(u, j + 1), by dsimp only; omega, by dsimp only; omega, by rw [htk]⟩
        · obtain rfl : j = cm.length := by omega
          simp only [Bz1x, Bz3w, Bz6l, decide_eq_false hlj, List.take_length, hbf, wpD_gh, go_sem, yz0, Int.reduceLT, reduceLE, reduceToNat, reduceNeg, Nat.reduceLT, reduceLeDiff, reduceMul, reduceSub, reduceIte, reduceEqDiff, reduceAdd, reduceCtorEq]
          intro _ hD2
          refine ⟨[.tf 22 137], gwp_tf rfl rfl ?_⟩
          simp only [gwp_nil, frNm_t, Bz6r, wk, go_sem, yz0, Int.reduceLT, reduceLE, reduceToNat, reduceNeg, Nat.reduceLT, reduceLeDiff, reduceMul, reduceSub, reduceIte, reduceEqDiff, reduceAdd, reduceCtorEq]
          exact ⟨k + 1, by omega, by omega, rfl⟩
    · obtain rfl : k = n.toNat := by omega
      rw [List.take_of_length_le (by omega)]
      simp only [Bz1y, Bz3v, decide_eq_false hlt, go_sem, yz0, Int.reduceLT, reduceLE, reduceToNat, reduceNeg, Nat.reduceLT, reduceLeDiff, reduceMul, reduceSub, reduceIte, reduceEqDiff, reduceAdd, reduceCtorEq]
      have hl1 : (((bitsTo (goW nx (2 ^ 0) w) 10).length : Int) == 1) = decide ((bitsTo (goW nx (2 ^ 0) w) 10).length = 1) := by
        rw [Bool.eq_iff_iff, beq_iff_eq, decide_eq_true_iff]; omega
      have hl2 : decide (((bitsTo (meetS (goW nx (2 ^ 0) w) fs) 10).length : Int) > 0) = decide ((bitsTo (meetS (goW nx (2 ^ 0) w) fs) 10).length > 0) := by
        rw [Bool.eq_iff_iff, decide_eq_true_iff, decide_eq_true_iff]; omega
      rw [← d4] at hl2
      have key : wpD Try.prog Bzp (finQ fun σ => σ.tm 4 = bv true) ⟨L .any [(0, .ro (some (some 0)) 1 (intsK .u8 code)), (1, .ro (some (some 0)) 1 (intsK .u8 more))], L .gone []⟩ := by
        simp only [Bzp, go_sem, yz0, Int.reduceLT, reduceLE, reduceToNat, reduceNeg, Nat.reduceLT, reduceLeDiff, reduceMul, reduceSub, reduceIte, reduceEqDiff, reduceAdd, reduceCtorEq]
        intro vs20
        refine call_sh (k_P6Partial more 3 hb2 (by omega)) qCS (fun e => by cases e) ?_
        rintro outs rows res ⟨rfl, p, next, vp, P, p4, _, rfl, rfl⟩
        refine ⟨rfl, by simp, by rw [Option.getD_some, yzf]; simp only [go_sem, yz0, Int.reduceLT, reduceLE, reduceToNat, reduceNeg, Nat.reduceLT, reduceLeDiff, reduceMul, reduceSub, reduceIte, reduceEqDiff, reduceAdd, reduceCtorEq], ?_⟩
        have p1 := P.n1
        have q1 := P.l1
        have q2 := P.l2
        simp only [Option.getD_some, Bz70, Nat.not_lt_zero, range1, ren_val, ren_any, ren_ro, rnNm_n, rnNm_sn, rnNm_o, rnNm_s, ren_st, ren_tup, yzu, yzm, yz8, yzq, yzr, yzo, yzp, yzs, yza, yzc, yz9, yze, yzk, yzj, yz3, yzd, yz7, yz6, yzi, yzl, List.range_zero, yz5, yz4, yzb, yzt, yzf, yzv, AVal.fresh, freshL, yz1, yzh, AObj.fresh, id, Option.isSome_some, or_true, true_or, go_sem, yz0, Int.reduceLT, reduceLE, reduceToNat, reduceNeg, Nat.reduceLT, reduceLeDiff, reduceMul, reduceSub, reduceIte, reduceEqDiff, reduceAdd, reduceCtorEq]
        intro vs21
        refine call_fn (k_ChoiceOf p next P) qCS (fun e => by cases e) ?_
        rintro rows res ⟨vc, rfl, rfl⟩
        refine ⟨by simp, by rw [Option.getD_some, yzf]; simp only [go_sem, yz0, Int.reduceLT, reduceLE, reduceToNat, reduceNeg, Nat.reduceLT, reduceLeDiff, reduceMul, reduceSub, reduceIte, reduceEqDiff, reduceAdd, reduceCtorEq], ?_⟩
        simp only [Option.getD_some, renL_rww, Bz6z, Nat.not_lt_zero, range1, ren_val, ren_any, ren_ro, rnNm_n, rnNm_sn, rnNm_o, rnNm_s, ren_st, ren_tup, yzu, yzm, yz8, yzq, yzr, yzo, yzp, yzs, yza, yzc, yz9, yze, yzk, yzj, yz3, yzd, yz7, yz6, yzi, yzl, List.range_zero, yz5, yz4, yzb, yzt, yzf, yzv, AVal.fresh, freshL, yz1, yzh, AObj.fresh, id, Option.isSome_some, or_true, true_or, go_sem, yz0, Int.reduceLT, reduceLE, reduceToNat, reduceNeg, Nat.reduceLT, reduceLeDiff, reduceMul, reduceSub, reduceIte, reduceEqDiff, reduceAdd, reduceCtorEq]
        intro vs22 hMl
        refine call_rowI (k_P6Word code next.length 5 hb (by omega) (by omega)) qCS qGN ⟨[], by simp [IsW6]⟩ ?_
        rintro u v194 ⟨hu5, hui⟩
        have hu5 : (u.length : Int) ≤ 5 := hu5
        have huB : wordB next.length u = true := wordB_iff.2 ⟨by omega, hui⟩
        have huB2 : wordB (chOf next).length u = true := by rw [show (chOf next).length = next.length by simp [chOf]]; exact huB
        have kc := k_IsCareful p next P u huB
        have kd := k_Directs p (chOf next) P.chc u 1 huB2 (by omega)
        have kt := k_IsTotal p (chOf next) P.chc
        rw [car_dir P hui] at kc
        rw [tot_gaps] at kt
        have hgz : ((((gapsF next next.length).length / 2 : Nat) : Int) == 0) = decide ((gapsF next next.length).length / 2 = 0) := by
          rw [Bool.eq_iff_iff, beq_iff_eq, decide_eq_true_iff]; omega
        generalize dirB (rchL (chOf next) u p.toNat) 1 = dd at kc kd
        simp only [Bz6y, Nat.not_lt_zero, range1, ren_val, ren_any, ren_ro, rnNm_n, rnNm_sn, rnNm_o, rnNm_s, ren_st, ren_tup, yzu, yzm, yz8, yzq, yzr, yzo, yzp, yzs, yza, yzc, yz9, yze, yzk, yzj, yz3, yzd, yz7, yz6, yzi, yzl, List.range_zero, yz5, yz4, yzb, yzt, yzf, yzv, AVal.fresh, freshL, yz1, yzh, AObj.fresh, id, Option.isSome_some, or_true, true_or, go_sem, yz0, Int.reduceLT, reduceLE, reduceToNat, reduceNeg, Nat.reduceLT, reduceLeDiff, reduceMul, reduceSub, reduceIte, reduceEqDiff, reduceAdd, reduceCtorEq]
        intro vs23
        refine call_fun2 kc qCW ?_
        simp only [Bz6x, Nat.not_lt_zero, range1, ren_val, ren_any, ren_ro, rnNm_n, rnNm_sn, rnNm_o, rnNm_s, ren_st, ren_tup, yzu, yzm, yz8, yzq, yzr, yzo, yzp, yzs, yza, yzc, yz9, yze, yzk, yzj, yz3, yzd, yz7, yz6, yzi, yzl, List.range_zero, yz5, yz4, yzb, yzt, yzf, yzv, AVal.fresh, freshL, yz1, yzh, AObj.fresh, id, Option.isSome_some, or_true, true_or, go_sem, yz0, Int.reduceLT, reduceLE, reduceToNat, reduceNeg, Nat.reduceLT, reduceLeDiff, reduceMul, reduceSub, reduceIte, reduceEqDiff, reduceAdd, reduceCtorEq]
        intro vs24
        refine call_fun2 kd qCW ?_
        simp only [Bz6w, Nat.not_lt_zero, range1, ren_val, ren_any, ren_ro, rnNm_n, rnNm_sn, rnNm_o, rnNm_s, ren_st, ren_tup, yzu, yzm, yz8, yzq, yzr, yzo, yzp, yzs, yza, yzc, yz9, yze, yzk, yzj, yz3, yzd, yz7, yz6, yzi, yzl, List.range_zero, yz5, yz4, yzb, yzt, yzf, yzv, AVal.fresh, freshL, yz1, yzh, AObj.fresh, id, Option.isSome_some, or_true, true_or, go_sem, yz0, Int.reduceLT, reduceLE, reduceToNat, reduceNeg, Nat.reduceLT, reduceLeDiff, reduceMul, reduceSub, reduceIte, reduceEqDiff, reduceAdd, reduceCtorEq]
        intro vs25
        refine call_fun2 kt qCW ?_
        simp only [Bz6v, Nat.not_lt_zero, range1, ren_val, ren_any, ren_ro, rnNm_n, rnNm_sn, rnNm_o, rnNm_s, ren_st, ren_tup, yzu, yzm, yz8, yzq, yzr, yzo, yzp, yzs, yza, yzc, yz9, yze, yzk, yzj, yz3, yzd, yz7, yz6, yzi, yzl, List.range_zero, yz5, yz4, yzb, yzt, yzf, yzv, AVal.fresh, freshL, yz1, yzh, AObj.fresh, id, Option.isSome_some, or_true, true_or, go_sem, yz0, Int.reduceLT, reduceLE, reduceToNat, reduceNeg, Nat.reduceLT, reduceLeDiff, reduceMul, reduceSub, reduceIte, reduceEqDiff, reduceAdd, reduceCtorEq]
        intro vs26
        refine call_fn (k_GapsOf p next P) qCS (fun e => by cases e) ?_
        rintro rows res ⟨vg, rfl, rfl⟩
        refine ⟨by simp, by rw [Option.getD_some, yzf]; simp only [go_sem, yz0, Int.reduceLT, reduceLE, reduceToNat, reduceNeg, Nat.reduceLT, reduceLeDiff, reduceMul, reduceSub, reduceIte, reduceEqDiff, reduceAdd, reduceCtorEq], ?_⟩
        have ez : ((0 : Int) == 0) = true := rfl
        simp only [Option.getD_some, ez, Bz6u, beq_self_eq_true, Nat.not_lt_zero, range1, ren_val, ren_any, ren_ro, rnNm_n, rnNm_sn, rnNm_o, rnNm_s, ren_st, ren_tup, yzu, yzm, yz8, yzq, yzr, yzo, yzp, yzs, yza, yzc, yz9, yze, yzk, yzj, yz3, yzd, yz7, yz6, yzi, yzl, List.range_zero, yz5, yz4, yzb, yzt, yzf, yzv, AVal.fresh, freshL, yz1, yzh, AObj.fresh, id, Option.isSome_some, or_true, true_or, go_sem, yz0, Int.reduceLT, reduceLE, reduceToNat, reduceNeg, Nat.reduceLT, reduceLeDiff, reduceMul, reduceSub, reduceIte, reduceEqDiff, reduceAdd, reduceCtorEq]
        intro _
        rw [hgz]; simp
      generalize decide ((bitsTo (goW nx (2 ^ 0) w) 10).length = 1) = b1 at d1 hl1
      generalize bitsTo (goW nx (2 ^ 0) w) 10 = F0 at hl1 ⊢
      generalize bitsTo (meetS (goW nx (2 ^ 0) w) fs) 10 = cm at hl2 ⊢
      generalize sameS (goW nx (2 ^ 0) w) fs = S at d1 d2 ⊢
      subst d2
      subst d1
      have hkey : ∀ σ : St, σ.kd [0, 1] [5000, 5001] = ⟨L .any [(0, .ro (some (some 0)) 1 (intsK .u8 code)), (1, .ro (some (some 0)) 1 (intsK .u8 more))], L .gone []⟩ → wpD Try.prog Bzp (finQ fun σ => σ.tm 4 = bv true) σ := fun σ h => by
        unfold Bzp at key ⊢
        rw [wpD_kpd] at key ⊢
        rw [h]
        simpa only [go_sem, yz0, Int.reduceLT, reduceLE, reduceToNat, reduceNeg, Nat.reduceLT, reduceLeDiff, reduceMul, reduceSub, reduceIte, reduceEqDiff, reduceAdd, reduceCtorEq] using key
      cases eq with
      | true =>
        simp only [e00, hl1, hl2, Bz40, Bz3z, Bool.true_and, beq_self_eq_true, Bool.not_true, go_sem, yz0, Int.reduceLT, reduceLE, reduceToNat, reduceNeg, Nat.reduceLT, reduceLeDiff, reduceMul, reduceSub, reduceIte, reduceEqDiff, reduceAdd, reduceCtorEq]
        exact fun _ _ => hkey _ (by simp only [go_sem, yz0, Int.reduceLT, reduceLE, reduceToNat, reduceNeg, Nat.reduceLT, reduceLeDiff, reduceMul, reduceSub, reduceIte, reduceEqDiff, reduceAdd, reduceCtorEq])
      | false =>
        simp only [e00, hl2, Bz40, Bz3z, Bool.false_and, beq_self_eq_true, Bool.not_true, go_sem, yz0, Int.reduceLT, reduceLE, reduceToNat, reduceNeg, Nat.reduceLT, reduceLeDiff, reduceMul, reduceSub, reduceIte, reduceEqDiff, reduceAdd, reduceCtorEq]
        exact fun _ => hkey _ (by simp only [go_sem, yz0, Int.reduceLT, reduceLE, reduceToNat, reduceNeg, Nat.reduceLT, reduceLeDiff, reduceMul, reduceSub, reduceIte, reduceEqDiff, reduceAdd, reduceCtorEq])
  cases sm with
  | false =>
    simp only [e00, Bz42, Bz3u, Nat.not_lt_zero, range1, ren_val, ren_any, ren_ro, rnNm_n, rnNm_sn, rnNm_o, rnNm_s, ren_st, ren_tup, yzu, yzm, yz8, yzq, yzr, yzo, yzp, yzs, yza, yzc, yz9, yze, yzk, yzj, yz3, yzd, yz7, yz6, yzi, yzl, List.range_zero, yz5, yz4, yzb, yzt, yzf, yzv, AVal.fresh, freshL, yz1, yzh, AObj.fresh, id, Option.isSome_some, or_true, true_or, go_sem, yz0, Int.reduceLT, reduceLE, reduceToNat, reduceNeg, Nat.reduceLT, reduceLeDiff, reduceMul, reduceSub, reduceIte, reduceEqDiff, reduceAdd, reduceCtorEq]
    exact hg _ (by simp only [go_sem, yz0, Int.reduceLT, reduceLE, reduceToNat, reduceNeg, Nat.reduceLT, reduceLeDiff, reduceMul, reduceSub, reduceIte, reduceEqDiff, reduceAdd, reduceCtorEq])
  | true =>
    obtain ⟨rfl, rfl⟩ := d3 rfl
    simp only [e00, Bz42, Bz3u, Bool.not_true, Nat.not_lt_zero, range1, ren_val, ren_any, ren_ro, rnNm_n, rnNm_sn, rnNm_o, rnNm_s, ren_st, ren_tup, yzu, yzm, yz8, yzq, yzr, yzo, yzp, yzs, yza, yzc, yz9, yze, yzk, yzj, yz3, yzd, yz7, yz6, yzi, yzl, List.range_zero, yz5, yz4, yzb, yzt, yzf, yzv, AVal.fresh, freshL, yz1, yzh, AObj.fresh, id, Option.isSome_some, or_true, true_or, go_sem, yz0, Int.reduceLT, reduceLE, reduceToNat, reduceNeg, Nat.reduceLT, reduceLeDiff, reduceMul, reduceSub, reduceIte, reduceEqDiff, reduceAdd, reduceCtorEq]
    exact hg _ (by simp only [go_sem, yz0, Int.reduceLT, reduceLE, reduceToNat, reduceNeg, Nat.reduceLT, reduceLeDiff, reduceMul, reduceSub, reduceIte, reduceEqDiff, reduceAdd, reduceCtorEq])
end Go.Ab
