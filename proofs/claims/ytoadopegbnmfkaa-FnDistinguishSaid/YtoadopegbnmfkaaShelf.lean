import Derived.Shelf.Lay
import Derived.Shelf.LaySoft
import Derived.Shelf.SlGeneric
import Derived.Test.YtoadopegbnmfkaaProg
namespace Go.Proofs
open Go.Shelf

shelf_tried
end Go.Proofs
