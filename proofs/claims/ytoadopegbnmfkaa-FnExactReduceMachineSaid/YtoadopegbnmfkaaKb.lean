/- Contracts: drawn automata and words. Conditions: none. -/
import Derived.Test.YtoadopegbnmfkaaKa
import Derived.Test.YtoadopegbnmfkaaM7
set_option linter.all false
namespace Go.Ab
open Go.Proofs
set_option maxRecDepth 20000
set_option linter.unusedSimpArgs false

end Go.Ab
