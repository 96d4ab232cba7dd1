/- Sets as bits, and the sets to which words lead from one, in the order of their first words. Conditions: none. -/
import Derived.Test.YtmdimjlfgjmchaaPb
set_option linter.all false
namespace Go.Ab
set_option maxRecDepth 20000

/-- The elements of a set that is written as bits. -/
def bitsN (f : Nat) : List Nat := (List.range 10).filter fun s => f.testBit s
/-- The set to which a letter leads. -/
def stepN (row : List Int) (f : Nat) : Nat := (bitsN f).foldl (fun o s => o ||| 2 ^ (row.getD s 0).toNat) 0
/-- A list as bits. -/
def maskN (set : List Int) : Nat := set.foldl (fun o s => o ||| 2 ^ s.toNat) 0
abbrev TS := List (Nat × List Int)
def hasT (L : TS) (f : Nat) : Bool := L.any fun p => Nat.beq p.1 f
def visT (next : List (List Int)) (f : Nat) (w : List Int) : Nat → TS → TS
  | 0, L => L
  | x + 1, L => match visT next f w x L with
    | L' => match stepN (next.getD x []) f with
      | to => if hasT L' to then L' else L' ++ [(to, w ++ [(x : Int)])]
def runT (next : List (List Int)) : Nat → Nat → TS → TS
  | 0, _, L => L
  | F + 1, i, L => if i < L.length then runT next F (i + 1) (visT next (L.getD i (0, [])).1 (L.getD i (0, [])).2 next.length L) else L
def tourT (next : List (List Int)) (f : Nat) : TS := runT next 1100 0 [(f, [])]
def smallN (f : Nat) : Bool := Nat.beq (f &&& (f - 1)) 0
def firstT (L : TS) : Option (Nat × List Int) := L.find? fun p => smallN p.1

theorem hasT_iff {L : TS} {f : Nat} : hasT L f = true ↔ f ∈ L.map (·.1) := by
  simp only [hasT, List.any_eq_true, List.mem_map]
  constructor
  · rintro ⟨p, hp, h⟩; exact ⟨p, hp, Nat.eq_of_beq_eq_true h⟩
  · rintro ⟨p, hp, rfl⟩; exact ⟨p, hp, Nat.beq_refl _⟩

theorem or_lt {a b : Nat} (ha : a < 1024) (hb : b < 1024) : a ||| b < 1024 := Nat.or_lt_two_pow (n := 10) ha hb
theorem pow_lt10 {k : Nat} (h : k < 10) : 2 ^ k < 1024 := Nat.pow_lt_pow_right (a := 2) (by omega) (n := 10) h
theorem fold_lt {α : Type} (g : α → Nat) : ∀ (l : List α) (o : Nat), (∀ x ∈ l, g x < 10) → o < 1024 → l.foldl (fun o s => o ||| 2 ^ g s) o < 1024
  | [], o, _, h => h
  | x :: l, o, hl, h => by
    rw [List.foldl_cons]
    exact fold_lt g l _ (fun y hy => hl y (by simp [hy])) (or_lt h (pow_lt10 (hl x (by simp))))
theorem mem_bits {f s : Nat} : s ∈ bitsN f ↔ s < 10 ∧ f.testBit s = true := by simp [bitsN]
theorem bits_lt {f n s : Nat} (h : f < 2 ^ n) (hs : s ∈ bitsN f) : s < n := by
  rw [mem_bits] at hs
  by_cases hn : s < n
  · exact hn
  · have := Nat.testBit_lt_two_pow (Nat.lt_of_lt_of_le h (Nat.pow_le_pow_right (n := 2) (by omega) (show n ≤ s by omega)))
    rw [this] at hs; simp at hs

/-- What holds of the list that grows. -/
structure TI (N m : Nat) (L : TS) : Prop where
  nd : (L.map (·.1)).Nodup
  rg : ∀ p ∈ L, p.1 < 2 ^ N
  wd : ∀ p ∈ L, (∀ x ∈ p.2, 0 ≤ x ∧ x < m) ∧ p.2.length < L.length

theorem nodup_lt : ∀ (n : Nat) (l : List Nat), l.Nodup → (∀ x ∈ l, x < n) → l.length ≤ n
  | 0, l, _, h => by
    cases l with
    | nil => simp
    | cons x l => exact absurd (h x (by simp)) (by omega)
  | n + 1, l, hd, h => by
    by_cases hm : n ∈ l
    · have h1 := List.length_erase_of_mem hm
      have h2 := nodup_lt n (l.erase n) (hd.erase n) (fun x hx => by
        rw [hd.mem_erase_iff] at hx
        have := h x hx.2; omega)
      omega
    · have := nodup_lt n l hd (fun x hx => by
        have h1 := h x hx
        have : x ≠ n := fun e => hm (e ▸ hx)
        omega)
      omega
theorem TI.len {N m : Nat} {L : TS} (h : TI N m L) : L.length ≤ 2 ^ N := by
  have := nodup_lt (2 ^ N) (L.map (·.1)) h.nd (fun x hx => by
    obtain ⟨p, hp, rfl⟩ := List.mem_map.1 hx
    exact h.rg p hp)
  simpa using this

theorem TI.add {N m : Nat} {L : TS} (h : TI N m L) {to : Nat} {w : List Int} {x : Int} (ht : to < 2 ^ N) (hn : hasT L to = false) (hw : (∀ x ∈ w, 0 ≤ x ∧ x < m) ∧ w.length < L.length) (hx : 0 ≤ x ∧ x < m) : TI N m (L ++ [(to, w ++ [x])]) := by
  refine ⟨?_, ?_, ?_⟩
  · rw [List.map_append, List.nodup_append]
    refine ⟨h.nd, by simp, ?_⟩
    intro a ha b hb e
    simp at hb
    rw [e, hb, ← hasT_iff, hn] at ha
    cases ha
  · intro p hp
    rcases List.mem_append.1 hp with hp | hp
    · exact h.rg p hp
    · have hp : p = (to, w ++ [x]) := by simpa using hp
      rw [hp]; exact ht
  · intro p hp
    rw [List.length_append, List.length_singleton]
    rcases List.mem_append.1 hp with hp | hp
    · have := h.wd p hp
      exact ⟨this.1, by omega⟩
    · have hp : p = (to, w ++ [x]) := by simpa using hp
      subst hp
      refine ⟨fun y hy => ?_, by rw [List.length_append, List.length_singleton]; omega⟩
      rcases List.mem_append.1 hy with hy | hy
      · exact hw.1 y hy
      · have hy : y = x := by simpa using hy
        rw [hy]; exact hx

theorem stepN_lt {n : Int} {next : List (List Int)} (A : Aut n next) {x f : Nat} (hx : x < next.length) (hf : f < 2 ^ n.toNat) : stepN (next.getD x []) f < 2 ^ n.toNat := by
  have n1 := A.n1
  have hr := A.row _ (getD_mem hx [])
  unfold stepN
  have gen : ∀ (l : List Nat) (o : Nat), (∀ s ∈ l, s < n.toNat) → o < 2 ^ n.toNat → l.foldl (fun o s => o ||| 2 ^ ((next.getD x []).getD s 0).toNat) o < 2 ^ n.toNat := by
    intro l
    induction l with
    | nil => intro o _ h; exact h
    | cons s l ih =>
      intro o hl h
      rw [List.foldl_cons]
      refine ih _ (fun y hy => hl y (by simp [hy])) (Nat.or_lt_two_pow h ?_)
      have hs := hl s (by simp)
      have := hr.2 _ (getD_mem (show s < (next.getD x []).length by omega) 0)
      exact Nat.pow_lt_pow_right (by omega) (by omega)
  exact gen _ 0 (fun s hs => bits_lt hf hs) (Nat.two_pow_pos _)

/-- One letter more. -/
theorem visT_succ {next : List (List Int)} {f : Nat} {w : List Int} {x : Nat} {L : TS} : visT next f w (x + 1) L = if hasT (visT next f w x L) (stepN (next.getD x []) f) then visT next f w x L else visT next f w x L ++ [(stepN (next.getD x []) f, w ++ [(x : Int)])] := rfl

theorem visT_ok {n : Int} {next : List (List Int)} (A : Aut n next) {L : TS} (h : TI n.toNat next.length L) {i : Nat} (hi : i < L.length) :
    ∀ x, x ≤ next.length → TI n.toNat next.length (visT next (L.getD i (0, [])).1 (L.getD i (0, [])).2 x L) ∧ ∃ t, visT next (L.getD i (0, [])).1 (L.getD i (0, [])).2 x L = L ++ t
  | 0, _ => ⟨h, [], by simp [visT]⟩
  | x + 1, hx => by
    obtain ⟨h1, t, h2⟩ := visT_ok A h hi x (by omega)
    have hm := getD_mem hi (0, ([] : List Int))
    rw [visT_succ]
    cases hh : hasT (visT next (L.getD i (0, [])).1 (L.getD i (0, [])).2 x L) (stepN (next.getD x []) (L.getD i (0, [])).1) with
    | true => rw [if_pos rfl]; exact ⟨h1, t, h2⟩
    | false =>
      rw [if_neg (by simp)]
      refine ⟨h1.add (stepN_lt A (by omega) (h.rg _ hm)) hh ⟨(h.wd _ hm).1, ?_⟩ (by omega), t ++ [(stepN (next.getD x []) (L.getD i (0, [])).1, (L.getD i (0, [])).2 ++ [(x : Int)])], ?_⟩
      · have := (h.wd _ hm).2
        rw [h2, List.length_append]; omega
      · rw [← List.append_assoc, ← h2]

theorem TI0 {N m f : Nat} (hf : f < 2 ^ N) : TI N m [(f, [])] := ⟨by simp, by simpa using hf, by simp⟩

theorem getD_app {α : Type} {L t : List α} {i : Nat} (h : i < L.length) (d : α) : (L ++ t).getD i d = L.getD i d := by
  rw [List.getD_eq_getElem?_getD, List.getElem?_append_left h, ← List.getD_eq_getElem?_getD]

theorem runT_ok {n : Int} {next : List (List Int)} (A : Aut n next) : ∀ (F i : Nat) (L : TS), TI n.toNat next.length L → TI n.toNat next.length (runT next F i L) ∧ ∃ t, runT next F i L = L ++ t
  | 0, i, L, h => ⟨h, [], by simp [runT]⟩
  | F + 1, i, L, h => by
    simp only [runT]
    split
    · rename_i hi
      obtain ⟨h1, t, h2⟩ := visT_ok A h hi next.length (Nat.le_refl _)
      obtain ⟨h3, t', h4⟩ := runT_ok A F (i + 1) _ h1
      exact ⟨h3, t ++ t', by rw [h4, h2, List.append_assoc]⟩
    · exact ⟨h, [], by simp⟩
end Go.Ab
