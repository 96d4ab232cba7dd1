/- Contracts: the reference draws machines. Conditions: none. -/
import Derived.Test.YtoadopegbnmfkaaMi
set_option linter.all false
namespace Go.Ab
open Go.Proofs
set_option maxRecDepth 20000
set_option maxHeartbeats 2000000

section
variable {P : Program} {a b : AC} {Q : AEx → St → Prop} {σ : St}
end

theorem DJ_perm {ps qs : List (Nat × List Int)} (h : ps.Perm qs) (hp : DJ ps) : DJ qs :=
  (h.pairwise_iff fun {x y} e => by
    rcases e with e | e | e
    · exact .inr (.inl e)
    · exact .inl e
    · exact .inr (.inr (Ne.symm e))).1 hp

end Go.Ab
