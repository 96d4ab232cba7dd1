/- Contracts: automata with their states in another order. Conditions: none. -/
import Derived.Test.YtoadopegbnmfkaaQa
set_option linter.all false
namespace Go.Ab
open Go.Proofs
set_option maxRecDepth 20000
set_option maxHeartbeats 2000000

end Go.Ab
