/- Abstract values under other numbers: what a call hands back. Conditions: none. -/
import Derived.Test.YtcijodimbjapeaaAb11
set_option linter.all false
namespace Go.Ab

/-- A name under other numbers. -/
def rnNm (s : Nat → Nat) : Option (Option Nat) → Option (Option Nat)
  | none => none
  | some none => some none
  | some (some 0) => some (some 0)
  | some (some (n + 1)) => some (some (s n + 1))

theorem rnNm_new (s : Nat → Nat) : ∀ nm, isNew (rnNm s nm) = isNew nm
  | none => rfl
  | some none => rfl
  | some (some 0) => rfl
  | some (some (_ + 1)) => rfl

mutual
/-- A value with other numbers of objects (f; none: unknown) and other versions and names (s). -/
def AVal.ren (f : Nat → Option Nat) (s : Nat → Nat) : AVal → AVal
  | .any => .any
  | .val v => .val v
  | .ro nm k cs => .ro (rnNm s nm) k (renL f s cs)
  | .own r v => match f r with | some r' => .own r' (s v) | none => .any
  | .st cs => .st (renL f s cs)
  | .tup cs => .tup (renL f s cs)
  | .ptr r v off => match f r with | some r' => .ptr r' (s v) off | none => .any
  | .rp cs off => .rp (renL f s cs) off
  | .mp r v => match f r with | some r' => .mp r' (s v) | none => .any
  | .clo g caps => .clo g (renL f s caps)
def renL (f : Nat → Option Nat) (s : Nat → Nat) : List AVal → List AVal
  | [] => []
  | A :: cs => AVal.ren f s A :: renL f s cs
end

theorem renL_eq (f : Nat → Option Nat) (s : Nat → Nat) : ∀ cs : List AVal, renL f s cs = cs.map (AVal.ren f s)
  | [] => by simp [renL]
  | A :: cs => by simp [renL, renL_eq f s cs]

def AObj.ren (f : Nat → Option Nat) (s : Nat → Nat) : AObj → AObj
  | .gone => .gone
  | .box v cs => .box (s v) (renL f s cs)
  | .row v k nn cs => .row (s v) k nn (renL f s cs)
  | .map v ks vs => .map (s v) ks (renL f s vs)

theorem AObj.ren_ver (f : Nat → Option Nat) (s : Nat → Nat) (o : AObj) : (o.ren f s).ver = o.ver.map s := by cases o <;> rfl
theorem AObj.ren_gone {f : Nat → Option Nat} {s : Nat → Nat} {o : AObj} : o.ren f s = .gone ↔ o = .gone := by cases o <;> simp [AObj.ren]

mutual
/-- Every slice in it that nobody writes has a name or is empty: it was made by the call. -/
def AVal.fresh : AVal → Prop
  | .any => True
  | .val _ => True
  | .ro nm _ cs => (cs = [] ∨ isNew nm = true) ∧ freshL cs
  | .own _ _ => True
  | .st cs => freshL cs
  | .tup cs => freshL cs
  | .ptr _ _ _ => True
  | .rp _ _ => False
  | .mp _ _ => True
  | .clo _ caps => freshL caps
def freshL : List AVal → Prop
  | [] => True
  | A :: cs => AVal.fresh A ∧ freshL cs
end

theorem freshL_iff : ∀ cs : List AVal, freshL cs ↔ ∀ A ∈ cs, A.fresh
  | [] => by simp [freshL]
  | A :: cs => by simp [freshL, freshL_iff cs]

def AObj.fresh : AObj → Prop
  | .gone => True
  | .box _ cs => freshL cs
  | .row _ _ _ cs => freshL cs
  | .map _ _ vs => freshL vs

/-- From c to c' under other numbers. fm: only what has a name, of what nobody writes. -/
structure Ren (fm : Bool) (f : Nat → Option Nat) (s : Nat → Nat) (c c' : Cz) : Prop where
  imm : ∀ b, c.imm b → (fm = true → ∃ n, c.names n = some b) → c'.imm b ∧ c'.w.heap[b]? = c.w.heap[b]?
  names : ∀ n b, c.names n = some b → c'.names (s n) = some b
  used : ∀ v, c.used v → c'.used (s v)
  loc : ∀ r r' v, f r = some r' → c.used v → (c'.hp r').ver = some (s v) → (c.hp r).ver = some v ∧ c'.loc r' = c.loc r
  old : ∀ b, c.old b → c'.old b

theorem Ren.nmd {fm : Bool} {f : Nat → Option Nat} {s : Nat → Nat} {c c' : Cz} (K : Ren fm f s c c') {n n' : Option Nat} {b m : Nat} (h : c.nmd n b m) (e : c'.w.heap[b]? = c.w.heap[b]?) (hn : rnNm s (some n) = some n') : c'.nmd n' b m := by
  cases n with
  | none =>
    simp only [rnNm, Option.some.injEq] at hn; subst hn
    obtain ⟨⟨n, h⟩, hf⟩ := h; exact ⟨⟨s n, K.names _ _ h⟩, Cz.fit_of hf e⟩
  | some n => cases n with
    | zero =>
      simp only [rnNm, Option.some.injEq] at hn; subst hn
      exact K.old b h
    | succ n =>
      simp only [rnNm, Option.some.injEq] at hn; subst hn
      exact ⟨K.names _ _ h.1, Cz.fit_of h.2 e⟩

mutual
theorem Rep.ren {fm : Bool} {f : Nat → Option Nat} {s : Nat → Nat} {c c' : Cz} (K : Ren fm f s c c') : ∀ (A : AVal) (v : Value), (fm = true → A.fresh) → Rep c A v → Rep c' (A.ren f s) v
  | .any, _, _, _ => by simp [AVal.ren, Rep]
  | .val x, v, _, h => by simpa [AVal.ren, Rep] using h
  | .ro nm k cs, v, hf, h => by
    simp only [AVal.ren, Rep] at h ⊢
    obtain ⟨base, len, cap, hv, hk, hl, hm, hn, hc⟩ := h
    refine ⟨base, len, cap, hv, hk, by rw [renL_eq, List.length_map]; exact hl, hm, ?_, ?_⟩
    · intro n e
      rw [rnNm_new]
      cases hnm0 : nm with
      | none => rw [hnm0] at e; cases e
      | some n0 =>
      rw [hnm0] at e
      have hn0 := hn n0 hnm0
      refine ⟨fun h => hn0.1 (by rw [hnm0]; exact h), ?_⟩
      rcases hn0.2 with h0 | ⟨b, off, hb, hnm⟩
      · left; rw [renL_eq, List.length_map]; exact h0
      · rcases hc with hc | ⟨b', off', hb', hi, _⟩
        · left; rw [renL_eq, List.length_map]; exact hc
        · rw [hb] at hb'
          cases hb'
          by_cases h00 : cs.length = 0
          · left; rw [renL_eq, List.length_map]; exact h00
          refine .inr ⟨b, off, hb, K.nmd hnm (K.imm b hi fun hfm => ?_).2 e⟩
          have := hf hfm
          simp only [AVal.fresh] at this
          rcases this.1 with h1 | h1
          · rw [h1] at h00; exact absurd rfl h00
          · exact (Cz.nmd_ex (by rw [← hnm0]; exact h1) hnm).1
    · rcases hc with hc | ⟨b, off, hb, hi, hr⟩
      · left; rw [renL_eq, List.length_map]; exact hc
      · by_cases h0 : cs.length = 0
        · left; rw [renL_eq, List.length_map]; exact h0
        · have hgood : fm = true → ∃ n, c.names n = some b := by
            intro e
            have := hf e
            simp only [AVal.fresh] at this
            rcases this.1 with h1 | h1
            · rw [h1] at h0; exact absurd rfl h0
            · cases hn1 : nm with
              | none => rw [hn1] at h1; cases h1
              | some n =>
              rcases (hn n hn1).2 with h2 | ⟨b', off', hb', hnm⟩
              · exact absurd h2 h0
              · rw [hb] at hb'; simp only [Option.some.injEq, Addr.mk.injEq] at hb'
                obtain ⟨rfl, _, _⟩ := hb'
                exact (Cz.nmd_ex (by rw [← hn1]; exact h1) hnm).1
          exact .inr ⟨b, off, hb, (K.imm b hi hgood).1, RepAt.ren K (K.imm b hi hgood).2 cs off (fun e => by have := hf e; simp only [AVal.fresh] at this; exact this.2) hr⟩
  | .own r ver, v, _, h => by
    simp only [AVal.ren]
    split
    · rename_i r' hr'
      simp only [Rep] at h ⊢
      refine ⟨K.used _ h.1, fun hr => ?_⟩
      obtain ⟨h1, h2⟩ := K.loc r r' ver hr' h.1 hr
      exact (h.2 h1).trans h2.symm
    · simp [Rep]
  | .st cs, v, hf, h => by
    simp only [AVal.ren, Rep] at h ⊢
    obtain ⟨vs, hv, hl⟩ := h
    exact ⟨vs, hv, RepL.ren K cs vs.toList (fun e => by have := hf e; simpa only [AVal.fresh] using this) hl⟩
  | .tup cs, v, hf, h => by
    simp only [AVal.ren, Rep] at h ⊢
    obtain ⟨vs, hv, hl⟩ := h
    exact ⟨vs, hv, RepL.ren K cs vs.toList (fun e => by have := hf e; simpa only [AVal.fresh] using this) hl⟩
  | .ptr r ver off, v, _, h => by
    simp only [AVal.ren]
    split
    · rename_i r' hr'
      simp only [Rep] at h ⊢
      refine ⟨K.used _ h.1, fun hr => ?_⟩
      obtain ⟨h1, h2⟩ := K.loc r r' ver hr' h.1 hr
      rw [h2]; exact h.2 h1
    · simp [Rep]
  | .rp cs off, v, hf, h => by
    simp only [AVal.ren, Rep] at h ⊢
    obtain ⟨b, o, hv, hi, hr⟩ := h
    have hfm : fm = true → False := fun e => by have := hf e; simp only [AVal.fresh] at this
    have hgood : fm = true → ∃ n, c.names n = some b := fun e => (hfm e).elim
    exact ⟨b, o, hv, (K.imm b hi hgood).1, RepAt.ren K (K.imm b hi hgood).2 cs o (fun e => (hfm e).elim) hr⟩
  | .mp r ver, v, _, h => by
    simp only [AVal.ren]
    split
    · rename_i r' hr'
      simp only [Rep] at h ⊢
      refine ⟨K.used _ h.1, fun hr => ?_⟩
      obtain ⟨h1, h2⟩ := K.loc r r' ver hr' h.1 hr
      exact (h.2 h1).trans h2.symm
    · simp [Rep]
  | .clo g caps, v, hf, h => by
    simp only [AVal.ren, Rep] at h ⊢
    obtain ⟨vs, hv, hl⟩ := h
    exact ⟨vs, hv, RepL.ren K caps vs.toList (fun e => by have := hf e; simpa only [AVal.fresh] using this) hl⟩
theorem RepAt.ren {fm : Bool} {f : Nat → Option Nat} {s : Nat → Nat} {c c' : Cz} (K : Ren fm f s c c') {b : Nat} (hb : c'.w.heap[b]? = c.w.heap[b]?) : ∀ (cs : List AVal) (off : Nat), (fm = true → freshL cs) → RepAt c b off cs → RepAt c' b off (renL f s cs)
  | [], _, _, _ => by simp [renL, RepAt]
  | A :: cs, off, hf, h => by
    simp only [renL, RepAt] at h ⊢
    obtain ⟨⟨v, hv, hr⟩, ht⟩ := h
    refine ⟨⟨v, ?_, Rep.ren K A v (fun e => by have := hf e; simp only [freshL] at this; exact this.1) hr⟩, RepAt.ren K hb cs (off + 1) (fun e => by have := hf e; simp only [freshL] at this; exact this.2) ht⟩
    rw [World.cell?_of_block (w := c.w) hb]; exact hv
theorem RepL.ren {fm : Bool} {f : Nat → Option Nat} {s : Nat → Nat} {c c' : Cz} (K : Ren fm f s c c') : ∀ (cs : List AVal) (vs : List Value), (fm = true → freshL cs) → RepL c cs vs → RepL c' (renL f s cs) vs
  | [], [], _, _ => by simp [renL, RepL]
  | [], _ :: _, _, h => by simp [RepL] at h
  | _ :: _, [], _, h => by simp [RepL] at h
  | A :: cs, v :: vs, hf, h => by
    simp only [renL, RepL] at h ⊢
    exact ⟨Rep.ren K A v (fun e => by have := hf e; simp only [freshL] at this; exact this.1) h.1, RepL.ren K cs vs (fun e => by have := hf e; simp only [freshL] at this; exact this.2) h.2⟩
end

theorem ObjRep.ren {fm : Bool} {f : Nat → Option Nat} {s : Nat → Nat} {c c' : Cz} (K : Ren fm f s c c') {v : Value} {o : AObj} (hf : fm = true → o.fresh) (h : ObjRep c v o) (hb : ∀ b, blockOf v = some b → c'.w.heap[b]? = c.w.heap[b]?) : ObjRep c' v (o.ren f s) := by
  cases o with
  | gone => trivial
  | box ver cs =>
    obtain ⟨g, t, cells, rfl, hg, hr⟩ := h
    exact ⟨g, t, cells, rfl, by rw [hb g rfl]; exact hg, RepL.ren K _ _ hf hr⟩
  | row ver k nn cs =>
    obtain ⟨base, n, cap, rfl, h1, h2, h3, h4, h5, hc⟩ := h
    refine ⟨base, n, cap, rfl, h1, by rw [renL_eq, List.length_map]; exact h2, h3, h4, h5, ?_⟩
    rcases hc with hc | ⟨g, off, t, cells, rfl, hg, h6, h7⟩
    · exact .inl hc
    · by_cases h0 : cap = 0
      · exact .inl h0
      · exact .inr ⟨g, off, t, cells, rfl, by rw [hb g (by simp [blockOf, h0])]; exact hg, h6, RepL.ren K _ _ hf h7⟩
  | map ver ks vs =>
    obtain ⟨g, clock, ents, rfl, hg, h1, h2⟩ := h
    exact ⟨g, clock, ents, rfl, by rw [hb g rfl]; exact hg, h1, RepL.ren K _ _ hf h2⟩

end Go.Ab
