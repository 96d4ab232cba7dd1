/- Laws of two lists of bytes: from the contract to the row. Conditions: none. -/
import Derived.Test.YtjbjlpoiibefnaaAb29
import Derived.Test.YtjbjlpoiibefnaaAb30
set_option linter.all false
namespace Go.Ab
set_option maxRecDepth 20000

theorem bytes_arg {P : Program} {t e : TypeId} (h1 : P.underlying t = some (.slice e)) (h2 : P.underlying e = some (.int .u8)) (h3 : P.cellsOf e = 1) {A : AVal} (h : ArgShp P t A) :
    ∃ code, A = .ro none 1 (intsK .u8 code) ∧ ∀ x ∈ code, 0 ≤ x ∧ x ≤ 255 := by
  have one : ∀ xs, Shp P e xs → ∃ n, xs = [.val (.int .u8 n)] ∧ 0 ≤ n ∧ n ≤ 255 := by
    intro xs hx
    cases hx with
    | int hk hw =>
      rw [h2] at hk
      cases hk
      simp only [Lit.wf, Bool.and_eq_true, decide_eq_true_eq, IntKind.min, IntKind.max] at hw
      refine ⟨_, rfl, ?_⟩
      simp [IntKind.signed, IntKind.bits] at hw
      omega
    | bool hk => rw [h2] at hk; cases hk
    | string hk _ => rw [h2] at hk; cases hk
    | slice hk _ _ _ => rw [h2] at hk; cases hk
    | struct hk _ => rw [h2] at hk; cases hk
  rcases h with ⟨hS, _⟩ | ⟨As, fs, hs, _⟩
  · generalize hl : [A] = l at hS
    cases hS with
    | int hk _ => rw [h1] at hk; cases hk
    | bool hk => rw [h1] at hk; cases hk
    | string hk _ => rw [h1] at hk; cases hk
    | struct hk _ => rw [h1] at hk; cases hk
    | slice hk hx hlen hm =>
      rename_i e' xss
      rw [h1] at hk
      cases hk
      simp only [List.cons.injEq, and_true] at hl
      subst hl
      rw [h3]
      clear hm hlen
      have : ∃ code, xss.flatten = intsK .u8 code ∧ ∀ x ∈ code, 0 ≤ x ∧ x ≤ 255 := by
        induction xss with
        | nil => exact ⟨[], rfl, by simp⟩
        | cons xs xss ih =>
          obtain ⟨n, rfl, hn⟩ := one xs (hx xs (by simp))
          obtain ⟨code, hc, hb⟩ := ih fun ys hy => hx ys (by simp [hy])
          refine ⟨n :: code, by rw [List.flatten_cons, hc]; rfl, fun x hx => ?_⟩
          rcases List.mem_cons.1 hx with rfl | hx
          · exact hn
          · exact hb x hx
      obtain ⟨code, hc, hb⟩ := this
      exact ⟨code, by rw [hc], hb⟩
  · rw [h1] at hs; cases hs

theorem two_bytes {P : Program} {t e : TypeId} (h1 : P.underlying t = some (.slice e)) (h2 : P.underlying e = some (.int .u8)) (h3 : P.cellsOf e = 1) {g : FuncId}
    (hlaw : ∀ code more : List Int, (∀ x ∈ code, 0 ≤ x ∧ x ≤ 255) → (∀ x ∈ more, 0 ≤ x ∧ x ≤ 255) → Fun P g [.ro none 1 (intsK .u8 code), .ro none 1 (intsK .u8 more)] (bv true)) :
    ∀ As, ArgsShp P [t, t] As → Fun P g As (bv true) := by
  intro As h
  cases h with
  | cons hA h =>
    cases h with
    | cons hB h =>
      cases h
      obtain ⟨code, rfl, hc⟩ := bytes_arg h1 h2 h3 hA
      obtain ⟨more, rfl, hm⟩ := bytes_arg h1 h2 h3 hB
      exact hlaw code more hc hm

end Go.Ab
