/- Arguments of the exact laws, read by their types. Conditions: none. -/
import Derived.Test.YtcijodimbjapeaaAb29
import Derived.Test.YtcijodimbjapeaaAb32
set_option linter.all false
namespace Go.Ab
set_option maxRecDepth 20000

section
variable {P : Program}

theorem args_cons {t : TypeId} {ts : List TypeId} {As : List AVal} (h : ArgsShp P (t :: ts) As) : ∃ A As', As = A :: As' ∧ ArgShp P t A ∧ ArgsShp P ts As' := by
  cases h with
  | cons h1 h2 => exact ⟨_, _, rfl, h1, h2⟩
theorem args_nil {As : List AVal} (h : ArgsShp P [] As) : As = [] := by cases h; rfl

theorem shp_int {t : TypeId} {xs : List AVal} (h : P.underlying t = some (.int .i64)) (hS : Shp P t xs) : ∃ n, xs = [iv n] := by
  cases hS with
  | int hk _ => rw [h] at hk; cases hk; exact ⟨_, rfl⟩
  | bool hk => rw [h] at hk; cases hk
  | string hk _ => rw [h] at hk; cases hk
  | slice hk _ _ _ => rw [h] at hk; cases hk
  | struct hk _ => rw [h] at hk; cases hk

theorem shp_slice {t e : TypeId} {xs : List AVal} (h : P.underlying t = some (.slice e)) (h1 : P.cellsOf e = 1) (hS : Shp P t xs) : ∃ xss, xs = [.ro (some (some 0)) 1 (List.flatten xss)] ∧ ∀ ys ∈ xss, Shp P e ys := by
  cases hS with
  | int hk _ => rw [h] at hk; cases hk
  | bool hk => rw [h] at hk; cases hk
  | string hk _ => rw [h] at hk; cases hk
  | struct hk _ => rw [h] at hk; cases hk
  | slice hk hx _ _ =>
    rw [h] at hk
    cases hk
    exact ⟨_, by rw [h1], hx⟩

theorem shp_ints {t e : TypeId} {xs : List AVal} (h : P.underlying t = some (.slice e)) (h1 : P.cellsOf e = 1) (he : P.underlying e = some (.int .i64)) (hS : Shp P t xs) : ∃ l, xs = [.ro (some (some 0)) 1 (ints l)] := by
  obtain ⟨xss, rfl, hx⟩ := shp_slice h h1 hS
  have : ∃ l, List.flatten xss = ints l := by
    clear hS
    induction xss with
    | nil => exact ⟨[], rfl⟩
    | cons ys xss ih =>
      obtain ⟨n, rfl⟩ := shp_int he (hx ys (by simp))
      obtain ⟨l, hl⟩ := ih fun zs hz => hx zs (by simp [hz])
      exact ⟨n :: l, by rw [List.flatten_cons, hl]; rfl⟩
  obtain ⟨l, hl⟩ := this
  exact ⟨l, by rw [hl]⟩

theorem shp_rows {t e f : TypeId} {xs : List AVal} (h : P.underlying t = some (.slice e)) (h1 : P.cellsOf e = 1) (he : P.underlying e = some (.slice f)) (hf1 : P.cellsOf f = 1) (hf : P.underlying f = some (.int .i64))
    (hS : Shp P t xs) : ∃ l, xs = [.ro (some (some 0)) 1 (rwo l)] := by
  obtain ⟨xss, rfl, hx⟩ := shp_slice h h1 hS
  have : ∃ l, List.flatten xss = rwo l := by
    clear hS
    induction xss with
    | nil => exact ⟨[], rfl⟩
    | cons ys xss ih =>
      obtain ⟨r, rfl⟩ := shp_ints he hf1 hf (hx ys (by simp))
      obtain ⟨l, hl⟩ := ih fun zs hz => hx zs (by simp [hz])
      exact ⟨r :: l, by rw [List.flatten_cons, hl]; rfl⟩
  obtain ⟨l, hl⟩ := this
  exact ⟨l, by rw [hl]⟩

theorem shp_flds {t : TypeId} {xs : List AVal} {fs : Array Field} (h : P.underlying t = some (.struct fs)) (hS : Shp P t xs) : ShpF P fs.toList xs := by
  cases hS with
  | int hk _ => rw [h] at hk; cases hk
  | bool hk => rw [h] at hk; cases hk
  | string hk _ => rw [h] at hk; cases hk
  | slice hk _ _ _ => rw [h] at hk; cases hk
  | struct hk hf => rw [h] at hk; cases hk; exact hf

theorem arg_one {t : TypeId} {A : AVal} (h : ∀ fs, P.underlying t ≠ some (.struct fs)) (hA : ArgShp P t A) : Shp P t [A] := by
  rcases hA with ⟨h1, _⟩ | ⟨As, fs, h1, _⟩
  · exact h1
  · exact absurd h1 (h fs)
theorem arg_struct {t : TypeId} {A : AVal} {fs : Array Field} (h : P.underlying t = some (.struct fs)) (hA : ArgShp P t A) : ∃ As, A = .st As ∧ ShpF P fs.toList As := by
  rcases hA with ⟨_, h1⟩ | ⟨As, fs', h1, rfl, h2⟩
  · exact absurd h (h1 fs)
  · exact ⟨As, rfl, shp_flds h h2⟩

theorem arg_int {t : TypeId} {A : AVal} (h : P.underlying t = some (.int .i64)) (hA : ArgShp P t A) : ∃ n, A = iv n := by
  obtain ⟨n, hn⟩ := shp_int h (arg_one (by rw [h]; intro fs e; cases e) hA)
  exact ⟨n, by simpa using hn⟩
theorem arg_ints {t e : TypeId} {A : AVal} (h : P.underlying t = some (.slice e)) (h1 : P.cellsOf e = 1) (he : P.underlying e = some (.int .i64)) (hA : ArgShp P t A) : ∃ l, A = .ro (some (some 0)) 1 (ints l) := by
  obtain ⟨l, hl⟩ := shp_ints h h1 he (arg_one (by rw [h]; intro fs e; cases e) hA)
  exact ⟨l, by simpa using hl⟩

/-- A struct of a number and rows of numbers. -/
theorem arg_aut {t : TypeId} {A : AVal} {fs : Array Field} {f1 f2 : Field} (h : P.underlying t = some (.struct fs)) (hfs : fs.toList = [f1, f2]) (ht1 : P.underlying f1.type = some (.int .i64))
    {e f : TypeId} (h2 : P.underlying f2.type = some (.slice e)) (h1 : P.cellsOf e = 1) (he : P.underlying e = some (.slice f)) (hf1 : P.cellsOf f = 1) (hf : P.underlying f = some (.int .i64))
    (hA : ArgShp P t A) : ∃ n next, A = .st [iv n, .ro (some (some 0)) 1 (rwo next)] := by
  obtain ⟨As, rfl, hF⟩ := arg_struct h hA
  rw [hfs] at hF
  cases hF with
  | cons hA1 hF =>
    cases hF with
    | cons hA2 hF =>
      cases hF
      obtain ⟨n, rfl⟩ := shp_int ht1 hA1
      obtain ⟨next, rfl⟩ := shp_rows h2 h1 he hf1 hf hA2
      exact ⟨n, next, rfl⟩
end
end Go.Ab
