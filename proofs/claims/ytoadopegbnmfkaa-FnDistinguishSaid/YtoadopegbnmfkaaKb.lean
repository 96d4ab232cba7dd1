/- Contracts: drawn automata and words. Conditions: none. -/
import Derived.Test.YtoadopegbnmfkaaKa
import Derived.Test.YtoadopegbnmfkaaM7
set_option linter.all false
namespace Go.Ab
open Go.Proofs
set_option maxRecDepth 20000
set_option linter.unusedSimpArgs false

/-- A word of at most 8 letters. -/
def IsW8 (l : Nat) (w : List Int) : Prop := w.length ≤ 8 ∧ ∀ x ∈ w, 0 ≤ x ∧ x < l

theorem tmod_in {a n : Int} (h : 0 ≤ a) (hn : 1 ≤ n) : 0 ≤ a.tmod n ∧ a.tmod n < n := ⟨Int.tmod_nonneg _ h, Int.tmod_lt_of_pos _ (by omega)⟩

/-- What a drawn automaton is. -/
def DrR (code : List Int) (at_ most : Int) (outs rows : List AObj) (res : AVal) : Prop :=
  ∃ n next v a' s', Aut n next ∧ n ≤ most ∧ at_ ≤ a' ∧ a' ≤ at_ + 1000 ∧ outs = [.box 0 (srcC code a' s')] ∧ rows = [.row v 1 true (rws next)] ∧ res = .st [iv n, .own 6000 v]

end Go.Ab
