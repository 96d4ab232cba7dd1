/- Nothing of the shelf is needed here. Conditions: none. -/
import Derived.Test.YtoadopegbnmfkaaProg
namespace Go.Proofs
end Go.Proofs
