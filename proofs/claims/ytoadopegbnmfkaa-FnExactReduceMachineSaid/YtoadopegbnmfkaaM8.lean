/- Arguments of more kinds. Conditions: none. -/
import Derived.Test.YtoadopegbnmfkaaM7
set_option linter.all false
namespace Go.Ab
open Go
set_option maxRecDepth 20000
variable {P : Program}

/-- A struct of two numbers and two rows of rows of numbers. -/
theorem arg_mach {t : TypeId} {A : AVal} {fs : Array Field} {f1 f2 f3 f4 : Field} (h : P.underlying t = some (.struct fs)) (hfs : fs.toList = [f1, f2, f3, f4]) (ht1 : P.underlying f1.type = some (.int .i64)) (ht2 : P.underlying f2.type = some (.int .i64))
    {e f : TypeId} (h2 : P.underlying f3.type = some (.slice e)) (h3 : P.underlying f4.type = some (.slice e)) (h1 : P.cellsOf e = 1) (he : P.underlying e = some (.slice f)) (hf1 : P.cellsOf f = 1) (hf : P.underlying f = some (.int .i64))
    (hA : ArgShp P t A) : ∃ n o x y, A = .st [iv n, iv o, .ro (some (some 0)) 1 (rwo x), .ro (some (some 0)) 1 (rwo y)] := by
  obtain ⟨As, rfl, hF⟩ := arg_struct h hA
  rw [hfs] at hF
  cases hF with
  | cons hA1 hF =>
    cases hF with
    | cons hA2 hF =>
      cases hF with
      | cons hA3 hF =>
        cases hF with
        | cons hA4 hF =>
          cases hF
          obtain ⟨n, rfl⟩ := shp_int ht1 hA1
          obtain ⟨o, rfl⟩ := shp_int ht2 hA2
          obtain ⟨x, rfl⟩ := shp_rows h2 h1 he hf1 hf hA3
          obtain ⟨y, rfl⟩ := shp_rows h3 h1 he hf1 hf hA4
          exact ⟨n, o, x, y, rfl⟩
end Go.Ab
