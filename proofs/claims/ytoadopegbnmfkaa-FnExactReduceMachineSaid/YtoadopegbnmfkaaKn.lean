/- Contracts of the functions that make sets, and of images. Conditions: none. -/
import Derived.Test.YtoadopegbnmfkaaKm
import Derived.Test.YtoadopegbnmfkaaPa
import Derived.Test.YtoadopegbnmfkaaM7
import Derived.Test.YtoadopegbnmfkaaShelf
set_option linter.all false
namespace Go.Ab
open Go.Proofs
set_option maxRecDepth 20000
set_option maxHeartbeats 1000000

attribute [go_sem] dnL_rwo mvL_rwo rwo_len

theorem coeL_ints_t {hp : Nat → AObj} {m : List Nat} {len : Bool} {xs : List Int} : CoeL hp m len (ints xs) (ints xs) = True := eq_true coeL_ints
end Go.Ab
