/- Nothing of the shelf is needed here. Conditions: none. -/
import Derived.Test.YtaicnehaodkikaaProg
namespace Go.Proofs
end Go.Proofs
