/- Outputs of words, and which word comes before which, purely. Conditions: none. -/
import Derived.Test.YtoadopegbnmfkaaPf
import Derived.Test.YtoadopegbnmfkaaKc
set_option linter.all false
namespace Go.Ab
set_option maxRecDepth 20000

/-- The output of a letter. -/
def outA (out : List (List Int)) (s l : Int) : Int := (out.getD l.toNat []).getD s.toNat 0
/-- Which of two words with the same length comes first. -/
def lexP : List Int → List Int → Bool
  | x :: v, y :: w => if x = y then lexP v w else decide (x < y)
  | _, _ => false
/-- Whether a word comes before another one. -/
def befP (v w : List Int) : Bool := if v.length = w.length then lexP v w else decide (v.length < w.length)
end Go.Ab
