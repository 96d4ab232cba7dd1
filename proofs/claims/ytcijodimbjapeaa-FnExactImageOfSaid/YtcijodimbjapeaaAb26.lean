/- Small things for proofs of functions. Conditions: none. -/
import Derived.Test.YtcijodimbjapeaaAb25
import Derived.IntWalk
set_option linter.all false
namespace Go.Ab

abbrev iv (n : Int) : AVal := .val (.int .i64 n)
abbrev bv (b : Bool) : AVal := .val (.bool b)
abbrev ints (xs : List Int) : List AVal := xs.map fun x => .val (.int .i64 x)

theorem ints_getD {xs : List Int} {i : Nat} (h : i < xs.length) : (ints xs).getD i .any = .val (.int .i64 (xs.getD i 0)) := by
  simp [ints, List.getD_eq_getElem?_getD, h]

theorem w64 {n : Int} (h : -9223372036854775808 ≤ n ∧ n ≤ 9223372036854775807) : IntKind.i64.wrap n = n := IntWalk.i64_in n h

theorem maxLen_le : maxLen ≤ 9223372036854775807 := by decide

theorem i2n (i : Nat) : ((i : Int)).toNat = i := by simp

theorem ints_map (xs : List Int) : (xs.map fun x => AVal.val (.int .i64 x)) = ints xs := rfl

end Go.Ab
