/- The slow automata: what their tours are, by computing. Conditions: none. -/
import Derived.Test.YtgcbdccnhkfjoaaPc
set_option linter.all false
namespace Go.Ab
set_option maxRecDepth 100000

theorem dec_beq {a k : Nat} : decide (a = k) = Nat.beq a k := by
  rw [Bool.eq_iff_iff, decide_eq_true_iff, Nat.beq_eq]
def visB (next : List (List Int)) (f : Nat) (w : List Int) : Nat → TS → Nat → TS × Nat
  | 0, L, s => (L, s)
  | x + 1, L, s => match visB next f w x L s with
    | (L', s') => match stepN (next.getD x []) f with
      | to => if s'.testBit to then (L', s') else (L' ++ [(to, w ++ [(x : Int)])], s' ||| 2 ^ to)
def runB (next : List (List Int)) : Nat → Nat → TS → Nat → TS
  | 0, _, L, _ => L
  | F + 1, i, L, s => if i < L.length then match visB next (L.getD i (0, [])).1 (L.getD i (0, [])).2 next.length L s with
      | (L', s') => runB next F (i + 1) L' s' else L

theorem visB_eq (next : List (List Int)) (f : Nat) (w : List Int) : ∀ (x : Nat) (L : TS) (s : Nat), (∀ k, s.testBit k = hasT L k) →
    (visB next f w x L s).1 = visT next f w x L ∧ ∀ k, (visB next f w x L s).2.testBit k = hasT (visB next f w x L s).1 k
  | 0, L, s, h => ⟨rfl, h⟩
  | x + 1, L, s, h => by
    obtain ⟨h1, h2⟩ := visB_eq next f w x L s h
    rw [visT_succ]
    simp only [visB]
    rw [h2, h1]
    cases hh : hasT (visT next f w x L) (stepN (next.getD x []) f) with
    | true =>
      simp only [if_true]
      refine ⟨trivial, fun k => ?_⟩
      rw [h2, h1]
    | false =>
      simp only [Bool.false_eq_true, if_false]
      refine ⟨trivial, fun k => ?_⟩
      rw [Nat.testBit_or, h2, h1, Nat.testBit_two_pow]
      simp only [hasT, List.any_append, List.any_cons, List.any_nil, Bool.or_false]
      rw [dec_beq]
theorem runB_eq (next : List (List Int)) : ∀ (F i : Nat) (L : TS) (s : Nat), (∀ k, s.testBit k = hasT L k) → runB next F i L s = runT next F i L
  | 0, _, _, _, _ => rfl
  | F + 1, i, L, s, h => by
    simp only [runB, runT]
    split
    · obtain ⟨h1, h2⟩ := visB_eq next (L.getD i (0, [])).1 (L.getD i (0, [])).2 next.length L s h
      rw [← h1]
      exact runB_eq next F (i + 1) _ _ h2
    · rfl

def slowL (n : Nat) : List (List Int) := [(List.range n).map fun s => (((s + 1) % n : Nat) : Int), (List.range n).map fun s => if s + 1 = n then 0 else (s : Int)]
def firstT (L : TS) : Option (Nat × List Int) := L.find? fun p => smallN p.1
def slowB (n : Nat) : Bool := match firstT (runB (slowL n) 1100 0 [(2 ^ n - 1, [])] (2 ^ (2 ^ n - 1))) with
  | some (_, w) => Nat.beq w.length ((n - 1) * (n - 1)) && Nat.beq (imgA n (slowL n) w).length 1
  | none => false
/-- What is said of a slow automaton. -/
def SlowP (n : Nat) : Prop := ∃ f w, firstT (tourT (slowL n) (2 ^ n - 1)) = some (f, w) ∧ w.length = (n - 1) * (n - 1) ∧ (imgA n (slowL n) w).length = 1
theorem slow_of {n : Nat} (h : slowB n = true) : SlowP n := by
  unfold slowB at h
  rw [runB_eq _ _ _ _ _ (fun k => by
    rw [Nat.testBit_two_pow]; simp only [hasT, List.any_cons, List.any_nil, Bool.or_false]
    rw [dec_beq])] at h
  unfold SlowP tourT
  revert h
  cases hf : firstT (runT (slowL n) 1100 0 [(2 ^ n - 1, [])]) with
  | none => intro h; cases h
  | some p =>
    obtain ⟨f, w⟩ := p
    intro h
    simp only [Bool.and_eq_true] at h
    exact ⟨f, w, rfl, Nat.eq_of_beq_eq_true h.1, Nat.eq_of_beq_eq_true h.2⟩
theorem slow2 : SlowP 2 := slow_of (by decide +kernel)
theorem slow3 : SlowP 3 := slow_of (by decide +kernel)
theorem slow4 : SlowP 4 := slow_of (by decide +kernel)
theorem slow5 : SlowP 5 := slow_of (by decide +kernel)
theorem slow6 : SlowP 6 := slow_of (by decide +kernel)
theorem slow7 : SlowP 7 := slow_of (by decide +kernel)
theorem slow8 : SlowP 8 := slow_of (by decide +kernel)
theorem slow9 : SlowP 9 := slow_of (by decide +kernel)
end Go.Ab
