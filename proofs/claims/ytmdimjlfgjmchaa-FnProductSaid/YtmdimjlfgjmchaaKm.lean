/- Contracts of the functions with which the exact laws measure, copy and compare what comes in. Conditions: none. -/
import Derived.Test.YtmdimjlfgjmchaaKe
import Derived.Test.YtmdimjlfgjmchaaM7
set_option linter.all false
namespace Go.Ab
open Go.Proofs
set_option maxRecDepth 20000
set_option maxHeartbeats 1000000

abbrev nilS : AVal := .val (.slice none 0 0)
end Go.Ab
