/- Contracts: orders of states, and automata with their states in another order. Conditions: none. -/
import Derived.Test.YtmdimjlfgjmchaaKt
set_option linter.all false
namespace Go.Ab
open Go.Proofs
set_option maxRecDepth 20000
set_option maxHeartbeats 1000000

end Go.Ab
