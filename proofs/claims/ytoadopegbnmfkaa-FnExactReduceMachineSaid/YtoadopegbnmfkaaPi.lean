/- What a distinguishing word says, and what the classes say, purely. Conditions: none. -/
import Derived.Test.YtoadopegbnmfkaaPh
set_option linter.all false
namespace Go.Ab
set_option maxRecDepth 20000

end Go.Ab
