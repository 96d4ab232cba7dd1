/- Plain laws: tours are whole, products, closed sets. Conditions: none. -/
import Derived.Test.YtmdimjlfgjmchaaPc
set_option linter.all false
namespace Go.Ab
set_option maxRecDepth 20000

/-! Tours. -/
theorem fold_bit {α : Type} (g : α → Nat) (t : Nat) : ∀ (l : List α) (o : Nat), (l.foldl (fun o s => o ||| 2 ^ g s) o).testBit t = true ↔ o.testBit t = true ∨ ∃ x ∈ l, g x = t
  | [], o => by simp
  | x :: l, o => by
    rw [List.foldl_cons, fold_bit g t l, Nat.testBit_or, Nat.testBit_two_pow, Bool.or_eq_true, decide_eq_true_eq]
    simp only [List.mem_cons, exists_eq_or_imp, or_assoc]
theorem step_bit {row : List Int} {f t : Nat} : (stepN row f).testBit t = true ↔ ∃ s ∈ bitsN f, (row.getD s 0).toNat = t := by
  unfold stepN
  rw [fold_bit (fun s => (row.getD s 0).toNat)]
  simp

/-- The set to which a word leads. -/
def imN (next : List (List Int)) (f : Nat) (w : List Int) : Nat := w.foldl (fun f l => stepN (next.getD l.toNat []) f) f
theorem imN_snoc {next : List (List Int)} {f : Nat} {w : List Int} {x : Int} : imN next f (w ++ [x]) = stepN (next.getD x.toNat []) (imN next f w) := by simp [imN]

def SndT (next : List (List Int)) (f0 : Nat) (L : TS) : Prop := ∀ p ∈ L, p.1 = imN next f0 p.2
theorem SndT.vis {next : List (List Int)} {f0 f : Nat} {w : List Int} (hf : f = imN next f0 w) : ∀ (x : Nat) {L : TS}, SndT next f0 L → SndT next f0 (visT next f w x L)
  | 0, _, h => h
  | x + 1, L, h => by
    have h1 := SndT.vis hf x h
    rw [visT_succ]
    split
    · exact h1
    · intro p hp
      rcases List.mem_append.1 hp with hp | hp
      · exact h1 p hp
      · have hp : p = (stepN (next.getD x []) f, w ++ [(x : Int)]) := by simpa using hp
        rw [hp, imN_snoc, ← hf]; rfl
theorem SndT.run {next : List (List Int)} {f0 : Nat} : ∀ (F i : Nat) {L : TS}, SndT next f0 L → SndT next f0 (runT next F i L)
  | 0, _, _, h => h
  | F + 1, i, L, h => by
    simp only [runT]
    split
    · rename_i hi
      exact SndT.run F (i + 1) (SndT.vis (h _ (getD_mem hi _)) _ h)
    · exact h

theorem visT_pre {next : List (List Int)} {f : Nat} {w : List Int} : ∀ (x : Nat) (L : TS), ∃ t, visT next f w x L = L ++ t
  | 0, L => ⟨[], by simp [visT]⟩
  | x + 1, L => by
    obtain ⟨t, h⟩ := visT_pre (next := next) (f := f) (w := w) x L
    rw [visT_succ]
    split
    · exact ⟨t, h⟩
    · exact ⟨t ++ [(stepN (next.getD x []) f, w ++ [(x : Int)])], by rw [← List.append_assoc, ← h]⟩
theorem hasT_app {L t : TS} {f : Nat} (h : hasT L f = true) : hasT (L ++ t) f = true := by
  rw [hasT_iff] at h ⊢; rw [List.map_append]; exact List.mem_append.2 (.inl h)
theorem visT_has {next : List (List Int)} {f : Nat} {w : List Int} : ∀ (x : Nat) (L : TS) (y : Nat), y < x → hasT (visT next f w x L) (stepN (next.getD y []) f) = true
  | 0, _, _, h => by omega
  | x + 1, L, y, h => by
    rw [visT_succ]
    by_cases e : y = x
    · subst e
      split
      · assumption
      · rw [hasT_iff]; simp
    · have h1 := visT_has (next := next) (f := f) (w := w) x L y (by omega)
      split
      · exact h1
      · exact hasT_app h1
theorem runT_pre {next : List (List Int)} : ∀ (F i : Nat) (L : TS), ∃ t, runT next F i L = L ++ t
  | 0, _, L => ⟨[], by simp [runT]⟩
  | F + 1, i, L => by
    simp only [runT]
    split
    · obtain ⟨t, h⟩ := visT_pre (next := next) (f := (L.getD i (0, [])).1) (w := (L.getD i (0, [])).2) next.length L
      obtain ⟨t', h'⟩ := runT_pre (next := next) F (i + 1) (visT next (L.getD i (0, [])).1 (L.getD i (0, [])).2 next.length L)
      exact ⟨t ++ t', by rw [h', h, List.append_assoc]⟩
    · exact ⟨[], by simp⟩

def CloT (next : List (List Int)) (L : TS) (k : Nat) : Prop := ∀ j < k, ∀ x < next.length, hasT L (stepN (next.getD x []) (L.getD j (0, [])).1) = true
theorem run_clo {n : Int} {next : List (List Int)} (A : Aut n next) : ∀ (F i : Nat) (L : TS), TI n.toNat next.length L → i ≤ L.length → 1025 ≤ F + i → CloT next L i → CloT next (runT next F i L) (runT next F i L).length
  | 0, i, L, h, hi, hF, hc => by
    have h1 := h.len
    have : 2 ^ n.toNat ≤ 1024 := Nat.pow_le_pow_right (n := 2) (by omega) (show n.toNat ≤ 10 by have := A.n2; omega)
    omega
  | F + 1, i, L, h, hi, hF, hc => by
    simp only [runT]
    split
    · rename_i hi1
      have h1 := (visT_ok A h hi1 next.length (Nat.le_refl _)).1
      obtain ⟨t, ht⟩ := visT_pre (next := next) (f := (L.getD i (0, [])).1) (w := (L.getD i (0, [])).2) next.length L
      refine run_clo A F (i + 1) _ h1 (by rw [ht, List.length_append]; omega) (by omega) ?_
      intro j hj x hx
      have hg : (visT next (L.getD i (0, [])).1 (L.getD i (0, [])).2 next.length L).getD j (0, []) = L.getD j (0, []) := by rw [ht]; exact getD_app (by omega) _
      rw [hg]
      by_cases e : j = i
      · subst e; exact visT_has _ _ _ hx
      · have := hc j (by omega) x hx
        rw [ht]; exact hasT_app this
    · have : i = L.length := by omega
      rw [← this]; exact hc

theorem tour_mem {n : Int} {next : List (List Int)} (A : Aut n next) {f : Nat} (hf : f < 2 ^ n.toNat) : ∀ (k : Nat) (w : List Int), w.length = k → (∀ x ∈ w, 0 ≤ x ∧ x < next.length) → hasT (tourT next f) (imN next f w) = true
  | 0, w, hk, _ => by
    obtain rfl : w = [] := List.eq_nil_of_length_eq_zero hk
    obtain ⟨t, ht⟩ := runT_pre (next := next) 1100 0 [(f, [])]
    unfold tourT; rw [ht]
    rw [hasT_iff]; simp [imN]
  | k + 1, w, hk, hw => by
    have hne : w ≠ [] := fun e => by rw [e] at hk; simp at hk
    have e := List.dropLast_concat_getLast hne
    have hl := hw _ (List.getLast_mem hne)
    have h1 := tour_mem A hf k w.dropLast (by rw [List.length_dropLast]; omega) (fun x hx => hw x (List.dropLast_subset w hx))
    have hc := run_clo A 1100 0 _ (TI0 (m := next.length) hf) (by omega) (by omega) (fun j hj => by omega)
    have hm := hasT_iff.1 h1
    obtain ⟨p, hp, he⟩ := List.mem_map.1 hm
    obtain ⟨j, hj, hg⟩ := List.getElem_of_mem hp
    have h2 : hasT (tourT next f) (stepN (next.getD (w.getLast hne).toNat []) ((tourT next f).getD j (0, [])).1) = true := hc j hj (w.getLast hne).toNat (by omega)
    have hgd : (tourT next f).getD j (0, []) = p := by
      rw [List.getD_eq_getElem?_getD, List.getElem?_eq_getElem hj]; exact hg
    rw [hgd, he] at h2
    rw [← e, imN_snoc]; exact h2

theorem small_bits (f : Nat) (hf : f < 1024) : smallN f = decide ((bitsN f).length ≤ 1) :=
  have h : ∀ f : Fin 1024, smallN f = decide ((bitsN f).length ≤ 1) := by decide +kernel
  h ⟨f, hf⟩
theorem small_iff {f : Nat} (hf : f < 1024) : smallN f = true ↔ ∀ s ∈ bitsN f, ∀ t ∈ bitsN f, s = t := by
  rw [small_bits f hf, decide_eq_true_eq]
  have hn : (bitsN f).Nodup := List.nodup_range.filter _
  constructor
  · intro h s hs t ht
    match hb : bitsN f with
    | [] => rw [hb] at hs; simp at hs
    | [x] => rw [hb] at hs ht; simp at hs ht; rw [hs, ht]
    | x :: y :: l => rw [hb] at h; simp at h
  · intro h
    match hb : bitsN f with
    | [] => simp
    | [x] => simp
    | x :: y :: l =>
      rw [hb] at hn h
      have := h x (by simp) y (by simp)
      rw [this] at hn; simp at hn

theorem stepA_bit {n : Int} {next : List (List Int)} (A : Aut n next) {f : Nat} (hf : f < 2 ^ n.toNat) {l : Int} (hl : 0 ≤ l ∧ l < next.length) {t : Nat} :
    t ∈ bitsN (stepN (next.getD l.toNat []) f) ↔ ∃ s ∈ bitsN f, stepA next (s : Int) l = (t : Int) := by
  have n1 := A.n1
  have n2 := A.n2
  rw [mem_bits, step_bit]
  have key : ∀ s ∈ bitsN f, ((next.getD l.toNat []).getD s 0).toNat = t ↔ stepA next (s : Int) l = (t : Int) := by
    intro s hs
    have h1 := bits_lt hf hs
    have h2 := A.step (s := (s : Int)) (by omega) hl
    unfold stepA at h2 ⊢
    rw [Int.toNat_natCast] at h2 ⊢
    omega
  constructor
  · rintro ⟨_, s, hs, h⟩
    exact ⟨s, hs, (key s hs).1 h⟩
  · rintro ⟨s, hs, h⟩
    have h1 := bits_lt hf hs
    have h2 := A.step (s := (s : Int)) (by omega) hl
    refine ⟨by omega, s, hs, (key s hs).2 h⟩

theorem imN_bit {n : Int} {next : List (List Int)} (A : Aut n next) : ∀ (w : List Int) {f : Nat}, f < 2 ^ n.toNat → (∀ x ∈ w, 0 ≤ x ∧ x < next.length) → imN next f w < 2 ^ n.toNat ∧ ∀ t : Nat, t ∈ bitsN (imN next f w) ↔ ∃ s ∈ bitsN f, atA next (s : Int) w = (t : Int)
  | [], f, hf, _ => by
    refine ⟨hf, fun t => ?_⟩
    simp only [imN, atA, List.foldl_nil]
    constructor
    · intro h; exact ⟨t, h, rfl⟩
    · rintro ⟨s, hs, h⟩
      have : s = t := by omega
      rw [← this]; exact hs
  | l :: w, f, hf, hw => by
    have hl := hw l (by simp)
    have hl1 : l.toNat < next.length := by omega
    obtain ⟨h1, h2⟩ := imN_bit A w (stepN_lt A hl1 hf) (fun x hx => hw x (by simp [hx]))
    refine ⟨h1, fun t => ?_⟩
    have e : imN next f (l :: w) = imN next (stepN (next.getD l.toNat []) f) w := rfl
    rw [e, h2]
    constructor
    · rintro ⟨s, hs, h⟩
      obtain ⟨s', hs', h'⟩ := (stepA_bit A hf hl).1 hs
      refine ⟨s', hs', ?_⟩
      show atA next (stepA next s' l) w = t
      rw [h']; exact h
    · rintro ⟨s', hs', h⟩
      have h3 := bits_lt hf hs'
      have h4 := A.step (s := (s' : Int)) (by omega) hl
      refine ⟨(stepA next (s' : Int) l).toNat, (stepA_bit A hf hl).2 ⟨s', hs', by omega⟩, ?_⟩
      rw [show (((stepA next (s' : Int) l).toNat : Nat) : Int) = stepA next (s' : Int) l by omega]
      exact h

/-- Some word leads from all states to the same one. -/
def CanR (n : Int) (next : List (List Int)) : Prop := ∃ w, IsW next.length w ∧ ∀ s t : Int, 0 ≤ s ∧ s < n → 0 ≤ t ∧ t < n → atA next s w = atA next t w

theorem all_bits {n : Int} (hn : 1 ≤ n ∧ n ≤ 10) {s : Nat} : s ∈ bitsN (2 ^ n.toNat - 1) ↔ (s : Int) < n := by
  rw [mem_bits, Nat.testBit_two_pow_sub_one, decide_eq_true_eq]; omega

theorem small_can {n : Int} {next : List (List Int)} (A : Aut n next) {w : List Int} (hw : IsW next.length w) : smallN (imN next (2 ^ n.toNat - 1) w) = true ↔ ∀ s t : Int, 0 ≤ s ∧ s < n → 0 ≤ t ∧ t < n → atA next s w = atA next t w := by
  have n1 := A.n1
  have n2 := A.n2
  have hp := Nat.two_pow_pos n.toNat
  have hN : 2 ^ n.toNat ≤ 1024 := Nat.pow_le_pow_right (n := 2) (by omega) (show n.toNat ≤ 10 by omega)
  obtain ⟨h1, h2⟩ := imN_bit A w (f := 2 ^ n.toNat - 1) (by omega) hw
  rw [small_iff (by omega)]
  constructor
  · intro h s t hs ht
    have a0 := A.at (w := w) hs hw
    have at' := A.at (w := w) ht hw
    have a1 := (h2 (atA next s w).toNat).2 ⟨s.toNat, (all_bits ⟨n1, n2⟩).2 (by omega), by rw [show ((s.toNat : Nat) : Int) = s by omega]; omega⟩
    have a2 := (h2 (atA next t w).toNat).2 ⟨t.toNat, (all_bits ⟨n1, n2⟩).2 (by omega), by rw [show ((t.toNat : Nat) : Int) = t by omega]; omega⟩
    have := h _ a1 _ a2
    omega
  · intro h s hs t ht
    obtain ⟨s', hs', e1⟩ := (h2 s).1 hs
    obtain ⟨t', ht', e2⟩ := (h2 t).1 ht
    have b1 := (all_bits ⟨n1, n2⟩).1 hs'
    have b2 := (all_bits ⟨n1, n2⟩).1 ht'
    have := h s' t' (by omega) (by omega)
    omega

theorem tour_can {n : Int} {next : List (List Int)} (A : Aut n next) : (firstT (tourT next (2 ^ n.toNat - 1))).isSome = true ↔ CanR n next := by
  have hp := Nat.two_pow_pos n.toNat
  have hf : 2 ^ n.toNat - 1 < 2 ^ n.toNat := by omega
  have hT := (runT_ok A 1100 0 _ (TI0 (m := next.length) hf)).1
  have hS : SndT next (2 ^ n.toNat - 1) (tourT next (2 ^ n.toNat - 1)) := SndT.run 1100 0 (fun p hp => by
    have : p = (2 ^ n.toNat - 1, []) := by simpa using hp
    rw [this]; rfl)
  unfold firstT
  rw [List.find?_isSome]
  constructor
  · rintro ⟨p, hp, hs⟩
    have hw := (hT.wd p hp).1
    rw [hS p hp, small_can A hw] at hs
    exact ⟨p.2, hw, hs⟩
  · rintro ⟨w, hw, h⟩
    have h1 := tour_mem A hf w.length w rfl hw
    obtain ⟨p, hp, he⟩ := List.mem_map.1 (hasT_iff.1 h1)
    refine ⟨p, hp, ?_⟩
    rw [he, small_can A hw]; exact h

/-! Products. -/
def prodR (nb : Int) (ra rb : List Int) : List Int := ra.flatMap fun x => rb.map fun y => x * nb + y
def prodL (nb : Int) (na bn : List (List Int)) : List (List Int) := (List.range na.length).map fun l => prodR nb (na.getD l []) (bn.getD l [])

theorem prodR_len {nb : Int} {rb : List Int} : ∀ {ra : List Int}, (prodR nb ra rb).length = ra.length * rb.length
  | [] => by simp [prodR]
  | x :: ra => by
    have h := prodR_len (nb := nb) (rb := rb) (ra := ra)
    simp only [prodR, List.flatMap_cons, List.length_append, List.length_map, List.length_cons] at h ⊢
    rw [h, Nat.add_mul]; omega
theorem prodR_getD {nb : Int} {rb : List Int} {k : Nat} (hk : k < rb.length) : ∀ {ra : List Int} {i : Nat}, i < ra.length → (prodR nb ra rb).getD (i * rb.length + k) 0 = ra.getD i 0 * nb + rb.getD k 0
  | [], _, h => by simp at h
  | x :: ra, 0, _ => by
    simp only [prodR, List.flatMap_cons, Nat.zero_mul, Nat.zero_add, List.getD_cons_zero]
    rw [List.getD_eq_getElem?_getD, List.getElem?_append_left (by simpa using hk), List.getElem?_map, List.getElem?_eq_getElem hk, List.getD_eq_getElem?_getD, List.getElem?_eq_getElem hk]; rfl
  | x :: ra, i + 1, h => by
    have ih := prodR_getD (nb := nb) (rb := rb) hk (ra := ra) (i := i) (by simpa using h)
    have e : (i + 1) * rb.length + k = (rb.map fun y => x * nb + y).length + (i * rb.length + k) := by rw [List.length_map, Nat.add_mul]; omega
    simp only [prodR, List.flatMap_cons, List.getD_cons_succ] at ih ⊢
    rw [e, List.getD_eq_getElem?_getD, List.getElem?_append_right (by omega), Nat.add_sub_cancel_left, ← List.getD_eq_getElem?_getD]
    exact ih

theorem prod_lt {x y na nb : Int} (hx : 0 ≤ x ∧ x < na) (hy : 0 ≤ y ∧ y < nb) : 0 ≤ x * nb + y ∧ x * nb + y < na * nb := by
  have h1 : 0 ≤ x * nb := Int.mul_nonneg hx.1 (by omega)
  have h2 : (x + 1) * nb ≤ na * nb := Int.mul_le_mul_of_nonneg_right (by omega) (by omega)
  rw [Int.add_mul] at h2
  omega
theorem prodR_mem {nb z : Int} {ra rb : List Int} : z ∈ prodR nb ra rb ↔ ∃ x ∈ ra, ∃ y ∈ rb, x * nb + y = z := by
  simp only [prodR, List.mem_flatMap, List.mem_map]

theorem Aut.prod {na nb : Int} {an bn : List (List Int)} (A : Aut na an) (B : Aut nb bn) (hl : an.length = bn.length) (hm : na * nb ≤ 10) : Aut (na * nb) (prodL nb an bn) := by
  have a1 := A.n1
  have b1 := B.n1
  have l1 := A.l1
  have l2 := A.l2
  have h0 := prod_lt (x := 0) (y := 0) (na := na) (nb := nb) (by omega) (by omega)
  refine ⟨by omega, hm, by simp [prodL]; omega, by simp [prodL]; omega, ?_⟩
  intro row hr
  simp only [prodL, List.mem_map, List.mem_range] at hr
  obtain ⟨l, hl1, rfl⟩ := hr
  have ha := A.row _ (getD_mem hl1 [])
  have hb := B.row _ (getD_mem (show l < bn.length by omega) [])
  refine ⟨?_, ?_⟩
  · rw [prodR_len, Int.natCast_mul, ha.1, hb.1]
  · intro z hz
    obtain ⟨x, hx, y, hy, rfl⟩ := prodR_mem.1 hz
    exact prod_lt (ha.2 x hx) (hb.2 y hy)

theorem prodL_len {nb : Int} {an bn : List (List Int)} : (prodL nb an bn).length = an.length := by simp [prodL]
theorem prodL_getD {nb : Int} {an bn : List (List Int)} {l : Nat} (h : l < an.length) : (prodL nb an bn).getD l [] = prodR nb (an.getD l []) (bn.getD l []) := by
  rw [List.getD_eq_getElem?_getD, prodL, List.getElem?_map, List.getElem?_range h]; rfl

theorem prod_step {na nb : Int} {an bn : List (List Int)} (A : Aut na an) (B : Aut nb bn) (hl : an.length = bn.length) {i k l : Int} (hi : 0 ≤ i ∧ i < na) (hk : 0 ≤ k ∧ k < nb) (hw : 0 ≤ l ∧ l < an.length) :
    stepA (prodL nb an bn) (i * nb + k) l = stepA an i l * nb + stepA bn k l := by
  have h1 := A.step hi hw
  have h2 := B.step hk (show 0 ≤ l ∧ l < bn.length by omega)
  have hb := B.row _ (getD_mem h2.1 [])
  have h3 := prod_lt hi hk
  unfold stepA
  rw [prodL_getD h1.1]
  have e : (i * nb + k).toNat = i.toNat * (bn.getD l.toNat []).length + k.toNat := by
    have e1 : ((i.toNat * (bn.getD l.toNat []).length + k.toNat : Nat) : Int) = i * nb + k := by
      rw [Int.natCast_add, Int.natCast_mul, hb.1, show ((i.toNat : Nat) : Int) = i by omega, show ((k.toNat : Nat) : Int) = k by omega]
    omega
  rw [e, prodR_getD h2.2.1 h1.2.1]

theorem prod_at {na nb : Int} {an bn : List (List Int)} (A : Aut na an) (B : Aut nb bn) (hl : an.length = bn.length) : ∀ (w : List Int) {i k : Int}, 0 ≤ i ∧ i < na → 0 ≤ k ∧ k < nb → IsW an.length w →
    atA (prodL nb an bn) (i * nb + k) w = atA an i w * nb + atA bn k w
  | [], _, _, _, _, _ => rfl
  | l :: w, i, k, hi, hk, hw => by
    have hl0 := hw l (by simp)
    have h1 := A.step hi hl0
    have h2 := B.step hk (show 0 ≤ l ∧ l < bn.length by omega)
    show atA _ (stepA (prodL nb an bn) (i * nb + k) l) w = _
    rw [prod_step A B hl hi hk hl0]
    exact prod_at A B hl w h1.2.2 h2.2.2 (fun x hx => hw x (by simp [hx]))

theorem prod_inj {x y x' y' nb : Int} (hy : 0 ≤ y ∧ y < nb) (hy' : 0 ≤ y' ∧ y' < nb) (h : x * nb + y = x' * nb + y') : x = x' ∧ y = y' := by
  have h0 : nb ≠ 0 := by omega
  have e1 : (x * nb + y) % nb = y := by rw [Int.add_comm, Int.add_mul_emod_self_right]; exact Int.emod_eq_of_lt hy.1 hy.2
  have e2 : (x' * nb + y') % nb = y' := by rw [Int.add_comm, Int.add_mul_emod_self_right]; exact Int.emod_eq_of_lt hy'.1 hy'.2
  have e : y = y' := by rw [← e1, ← e2, h]
  subst e
  refine ⟨?_, rfl⟩
  have : x * nb = x' * nb := by omega
  exact Int.eq_of_mul_eq_mul_right h0 this

theorem atA_app {next : List (List Int)} {s : Int} {u v : List Int} : atA next s (u ++ v) = atA next (atA next s u) v := by simp [atA, List.foldl_append]

theorem can_prod {na nb : Int} {an bn : List (List Int)} (A : Aut na an) (B : Aut nb bn) (hl : an.length = bn.length) (hm : na * nb ≤ 10) : CanR (na * nb) (prodL nb an bn) ↔ CanR na an ∧ CanR nb bn := by
  have P := A.prod B hl hm
  have a1 := A.n1
  have b1 := B.n1
  have hpl := prodL_len (nb := nb) (an := an) (bn := bn)
  constructor
  · rintro ⟨w, hw, h⟩
    rw [hpl] at hw
    have hwb : IsW bn.length w := fun x hx => by have := hw x hx; omega
    have key : ∀ s s' t t' : Int, 0 ≤ s ∧ s < na → 0 ≤ s' ∧ s' < na → 0 ≤ t ∧ t < nb → 0 ≤ t' ∧ t' < nb → atA an s w = atA an s' w ∧ atA bn t w = atA bn t' w := by
      intro s s' t t' hs hs' ht ht'
      have h1 := h (s * nb + t) (s' * nb + t') (prod_lt hs ht) (prod_lt hs' ht')
      rw [prod_at A B hl w hs ht hw, prod_at A B hl w hs' ht' hw] at h1
      exact prod_inj (B.at ht hwb) (B.at ht' hwb) h1
    exact ⟨⟨w, hw, fun s t hs ht => (key s t 0 0 hs ht (by omega) (by omega)).1⟩, ⟨w, hwb, fun s t hs ht => (key 0 0 s t (by omega) (by omega) hs ht).2⟩⟩
  · rintro ⟨⟨u, hu, h1⟩, ⟨v, hv, h2⟩⟩
    have huv : IsW an.length (u ++ v) := fun x hx => by
      rcases List.mem_append.1 hx with hx | hx
      · exact hu x hx
      · have := hv x hx; omega
    have hub : IsW bn.length u := fun x hx => by have := hu x hx; omega
    refine ⟨u ++ v, by rw [hpl]; exact huv, ?_⟩
    intro s t hs ht
    have hdm : ∀ z : Int, 0 ≤ z ∧ z < na * nb → z = z / nb * nb + z % nb ∧ (0 ≤ z / nb ∧ z / nb < na) ∧ (0 ≤ z % nb ∧ z % nb < nb) := by
      intro z hz
      refine ⟨by rw [Int.mul_comm]; exact (Int.mul_ediv_add_emod z nb).symm, ⟨Int.ediv_nonneg hz.1 (by omega), ?_⟩, Int.emod_nonneg _ (by omega), Int.emod_lt_of_pos _ (by omega)⟩
      exact Int.ediv_lt_of_lt_mul (by omega) hz.2
    obtain ⟨e1, p1, q1⟩ := hdm s hs
    obtain ⟨e2, p2, q2⟩ := hdm t ht
    rw [e1, e2, prod_at A B hl _ p1 q1 huv, prod_at A B hl _ p2 q2 huv, atA_app, atA_app, atA_app, atA_app, h1 _ _ p1 p2, h2 _ _ (B.at q1 hub) (B.at q2 hub)]

/-! States that are reached. -/
theorem addL_mem {l : List Int} {x y : Int} : y ∈ addL l x ↔ y ∈ l ∨ y = x := by
  unfold addL
  split
  · rename_i h
    have h : x ∈ l := by simpa using h
    constructor
    · exact .inl
    · rintro (h1 | rfl)
      · exact h1
      · exact h
  · simp
theorem visK_mem {s : Int} : ∀ {rs : List (List Int)} {l : List Int} {y : Int}, y ∈ visK s rs l ↔ y ∈ l ∨ ∃ row ∈ rs, row.getD s.toNat 0 = y
  | [], l, y => by simp [visK]
  | row :: rs, l, y => by
    simp only [visK]
    rw [visK_mem, addL_mem, or_assoc]
    simp only [List.mem_cons, exists_eq_or_imp]
    constructor
    · rintro (h | h | h)
      · exact .inl h
      · exact .inr (.inl h.symm)
      · exact .inr (.inr h)
    · rintro (h | h | h)
      · exact .inl h
      · exact .inr (.inl h.symm)
      · exact .inr (.inr h)
theorem runL_pre {next : List (List Int)} : ∀ (f : Nat) (l : List Int) (i : Nat), ∃ t, runL next f l i = l ++ t
  | 0, l, _ => ⟨[], by simp [runL]⟩
  | f + 1, l, i => by
    simp only [runL]
    split
    · obtain ⟨t, h⟩ := vis_pre (s := l.getD i 0) (rs := next) (l := l)
      obtain ⟨t', h'⟩ := runL_pre (next := next) f (visK (l.getD i 0) next l) (i + 1)
      exact ⟨t ++ t', by rw [h', h, List.append_assoc]⟩
    · exact ⟨[], by simp⟩
theorem run_closed {n : Int} {next : List (List Int)} (A : Aut n next) : ∀ (f : Nat) (l : List Int) (i : Nat), Once n l → i ≤ l.length → n.toNat + 1 ≤ f + i → (∀ j < i, ∀ row ∈ next, row.getD (l.getD j 0).toNat 0 ∈ l) →
    ∀ x ∈ runL next f l i, ∀ row ∈ next, row.getD x.toNat 0 ∈ runL next f l i
  | 0, l, i, ho, hi, hf, hc => by
    have := ho.len A.n1
    omega
  | f + 1, l, i, ho, hi, hf, hc => by
    simp only [runL]
    split
    · rename_i hi1
      obtain ⟨t, ht⟩ := vis_pre (s := l.getD i 0) (rs := next) (l := l)
      refine run_closed A f _ (i + 1) (Once.vis (ho.rg _ (getD_mem hi1 0)) A.row ho) (by rw [ht, List.length_append]; omega) (by omega) ?_
      intro j hj row hr
      have hg : (visK (l.getD i 0) next l).getD j 0 = l.getD j 0 := by
        rw [ht, List.getD_eq_getElem?_getD, List.getElem?_append_left (by omega), ← List.getD_eq_getElem?_getD]
      rw [hg, visK_mem]
      by_cases e : j = i
      · subst e; exact .inr ⟨row, hr, rfl⟩
      · exact .inl (hc j (by omega) row hr)
    · have : i = l.length := by omega
      intro x hx row hr
      obtain ⟨j, hj, hg⟩ := List.getElem_of_mem hx
      have := hc j (by omega) row hr
      rw [List.getD_eq_getElem?_getD (l := l), List.getElem?_eq_getElem hj, Option.getD_some, hg] at this
      exact this
theorem reach_closed {n s : Int} {next : List (List Int)} (A : Aut n next) (hs : 0 ≤ s ∧ s < n) : s ∈ reachL n next s ∧ ∀ x ∈ reachL n next s, ∀ row ∈ next, row.getD x.toNat 0 ∈ reachL n next s := by
  refine ⟨?_, run_closed A _ _ 0 (one_once hs) (by simp) (by omega) (fun j hj => by omega)⟩
  obtain ⟨t, ht⟩ := runL_pre (next := next) (n.toNat + 1) [s] 0
  unfold reachL; rw [ht]; simp

/-! Restrictions to closed sets. -/
theorem fidx_eq {q : Int} : ∀ {xs : List Int} (k : Nat), q ∈ xs → ∃ i : Nat, fidx (fun y => q == y) xs k = ((k + i : Nat) : Int) ∧ i < xs.length ∧ xs.getD i 0 = q
  | [], _, h => by simp at h
  | x :: xs, k, h => by
    by_cases e : q = x
    · exact ⟨0, by simp [fidx, e], by simp, by simpa using e.symm⟩
    · obtain ⟨i, h1, h2, h3⟩ := fidx_eq (xs := xs) (k + 1) (by simpa [e] using h)
      have e1 : (q == x) = false := beq_false_of_ne e
      refine ⟨i + 1, ?_, by simp; omega, by simpa using h3⟩
      simp only [fidx, e1, Bool.false_eq_true, if_false, h1]
      congr 1; omega
end Go.Ab
