/- Contracts: small functions, further. Conditions: none. -/
import Derived.Test.YtcijodimbjapeaaKd
set_option linter.all false
namespace Go.Ab
open Go.Proofs
set_option maxRecDepth 20000
set_option linter.unusedSimpArgs false

theorem nat1 (i : Nat) (m : Nat) (h : i < m) (hm : m ≤ maxLen) : IntKind.i64.wrap ((i : Int) + 1) = ((i + 1 : Nat) : Int) := by
  have := maxLen_le
  rw [w64 (by omega)]; simp

theorem take_eq_step {α : Type} [BEq α] {xs ys : List α} {i : Nat} (d : α) (h : i < xs.length) (h' : i < ys.length) (he : xs.take i = ys.take i) (hx : xs.getD i d = ys.getD i d) : xs.take (i + 1) = ys.take (i + 1) := by
  rw [List.getD_eq_getElem?_getD, List.getD_eq_getElem?_getD, List.getElem?_eq_getElem h, List.getElem?_eq_getElem h'] at hx
  simp only [Option.getD_some] at hx
  rw [List.take_add_one, List.take_add_one, he, List.getElem?_eq_getElem h, List.getElem?_eq_getElem h', hx]

theorem bne_false_eq {a b : Int} (h : (a != b) = false) : a = b := by simpa using h

/-- A list of small numbers as a text. -/
def keyS (xs : List Int) : ByteArray := ⟨((xs.map IntKind.u8.wrap).map fun n => UInt8.ofNat n.toNat).toArray⟩

theorem cvbs_ok {ys : List Int} : (∀ A ∈ intsK .u8 ys, (byteOfCell A).isSome = true) = True := by
  refine eq_true fun A hA => ?_
  simp only [List.mem_map] at hA
  obtain ⟨y, _, rfl⟩ := hA
  rfl
theorem cvbs_eq : ∀ {ys : List Int}, (intsK .u8 ys).filterMap byteOfCell = ys.map fun n => UInt8.ofNat n.toNat
  | [] => rfl
  | y :: ys => by
    have h := cvbs_eq (ys := ys)
    simp only [List.map_cons] at h ⊢
    rw [List.filterMap_cons, h]
    simp [byteOfCell]

end Go.Ab
