/- What the proofs of exact laws with an automaton as result have in common. Conditions: none. -/
import Derived.Test.YtaicnehaodkikaaQc
import Derived.Test.YtaicnehaodkikaaQd
set_option linter.all false
namespace Go.Ab
open Go.Proofs
set_option maxRecDepth 20000
set_option maxHeartbeats 2000000

theorem wo_any {n : Nat} : AVal.wo n .any = .any := by simp only [AVal.wo]
end Go.Ab
