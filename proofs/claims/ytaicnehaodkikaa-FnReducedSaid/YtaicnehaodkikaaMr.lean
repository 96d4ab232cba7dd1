/- Contracts: the reference draws two machines. Conditions: none. -/
import Derived.Test.YtaicnehaodkikaaMq
set_option linter.all false
namespace Go.Ab
open Go.Proofs
set_option maxRecDepth 20000
set_option maxHeartbeats 4000000

end Go.Ab
