/- Contracts: drawn automata and words. Conditions: none. -/
import Derived.Test.YtaicnehaodkikaaKa
import Derived.Test.YtaicnehaodkikaaM7
set_option linter.all false
namespace Go.Ab
open Go.Proofs
set_option maxRecDepth 20000
set_option linter.unusedSimpArgs false

theorem tmod_in {a n : Int} (h : 0 ≤ a) (hn : 1 ≤ n) : 0 ≤ a.tmod n ∧ a.tmod n < n := ⟨Int.tmod_nonneg _ h, Int.tmod_lt_of_pos _ (by omega)⟩

end Go.Ab
