/- Contracts of the functions that mark memory, and look at the marks. Conditions: none. -/
import Derived.Test.YtmdimjlfgjmchaaKo
set_option linter.all false
namespace Go.Ab
open Go.Proofs
set_option maxRecDepth 20000
set_option maxHeartbeats 1000000

end Go.Ab
