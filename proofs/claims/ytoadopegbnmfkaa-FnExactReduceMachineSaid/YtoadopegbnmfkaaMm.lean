/- Contracts: distinguishing words, outputs. Conditions: none. -/
import Derived.Test.YtoadopegbnmfkaaMl
import Derived.Test.YtoadopegbnmfkaaPg
set_option linter.all false
namespace Go.Ab
open Go.Proofs
set_option maxRecDepth 20000
set_option maxHeartbeats 2000000

end Go.Ab
