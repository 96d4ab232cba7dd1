/- Contracts of the functions that make sets, and of images. Conditions: none. -/
import Derived.Test.YtaicnehaodkikaaKm
import Derived.Test.YtaicnehaodkikaaPa
import Derived.Test.YtaicnehaodkikaaM7
import Derived.Test.YtaicnehaodkikaaShelf
set_option linter.all false
namespace Go.Ab
open Go.Proofs
set_option maxRecDepth 20000
set_option maxHeartbeats 1000000

attribute [go_sem] dnL_rwo mvL_rwo rwo_len

end Go.Ab
