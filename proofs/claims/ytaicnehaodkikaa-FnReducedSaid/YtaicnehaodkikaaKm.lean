/- Contracts of the functions with which the exact laws measure, copy and compare what comes in. Conditions: none. -/
import Derived.Test.YtaicnehaodkikaaKe
import Derived.Test.YtaicnehaodkikaaM7
set_option linter.all false
namespace Go.Ab
open Go.Proofs
set_option maxRecDepth 20000
set_option maxHeartbeats 1000000

theorem take_eq_step' {α : Type} {xs ys : List α} {i : Nat} (d : α) (h : i < xs.length) (h' : i < ys.length) (he : xs.take i = ys.take i) (hx : xs.getD i d = ys.getD i d) : xs.take (i + 1) = ys.take (i + 1) := by
  rw [List.getD_eq_getElem?_getD, List.getD_eq_getElem?_getD, List.getElem?_eq_getElem h, List.getElem?_eq_getElem h'] at hx
  simp only [Option.getD_some] at hx
  rw [List.take_succ_eq_append_getElem h, List.take_succ_eq_append_getElem h', he, hx]

abbrev nilS : AVal := .val (.slice none 0 0)
end Go.Ab
