/- Outputs of words, and which word comes before which, purely. Conditions: none. -/
import Derived.Test.YtaicnehaodkikaaPf
import Derived.Test.YtaicnehaodkikaaKc
set_option linter.all false
namespace Go.Ab
set_option maxRecDepth 20000

/-- The output of a letter. -/
def outA (out : List (List Int)) (s l : Int) : Int := (out.getD l.toNat []).getD s.toNat 0
/-- The outputs of a word. -/
def outsA (next out : List (List Int)) : Int → List Int → List Int
  | _, [] => []
  | s, x :: w => outA out s x :: outsA next out (stepA next s x) w
/-- Which of two words with the same length comes first. -/
def lexP : List Int → List Int → Bool
  | x :: v, y :: w => if x = y then lexP v w else decide (x < y)
  | _, _ => false
/-- Whether a word comes before another one. -/
def befP (v w : List Int) : Bool := if v.length = w.length then lexP v w else decide (v.length < w.length)
end Go.Ab
