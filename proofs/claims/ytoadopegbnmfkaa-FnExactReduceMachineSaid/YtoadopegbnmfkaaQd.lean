/- Contracts: RenumberStates. Conditions: none. -/
import Derived.Test.YtoadopegbnmfkaaQb
set_option linter.all false
namespace Go.Ab
open Go.Proofs
set_option maxRecDepth 20000
set_option maxHeartbeats 2000000

end Go.Ab
