/- Contracts of functions, and how a caller's values come to a callee. Conditions: none. -/
import Derived.Test.YtcijodimbjapeaaAb12
set_option linter.all false
namespace Go.Ab
set_option maxRecDepth 20000

/-- The objects of a call: those that it is handed from number 5000 on, those that it makes from 6000 on. -/
def outHp (outs rows : List AObj) : Nat → AObj := fun n =>
  if n < 5000 then .gone else if n < 6000 then outs.getD (n - 5000) .gone else if n < 7000 then rows.getD (n - 6000) .gone else .gone

/-- A CONTRACT: called with args over the objects ins, function g returns as R says. sh: what it returns may share memory with the arguments. -/
def Con (P : Program) (g : FuncId) (ins : List AObj) (args : List AVal) (sh : Bool) (R : List AObj → List AObj → AVal → Prop) : Prop :=
  (∃ fn, P.funcs[g]? = some fn ∧ fn.body.isSome = true ∧ isNumG fn = false) ∧ ∀ (c0 : Cz) (outsB : Nat → Prop) (vs : List Value), Good c0.w outsB c0 → c0.hp = outHp ins [] → RepL c0 args vs →
    Calls P g vs.toArray c0.w fun e w' => ∃ v c1 outs rows res, R outs rows res ∧ e = .returned v ∧ c1.w = w' ∧ Good c0.w outsB c1 ∧ c1.hp = outHp outs rows ∧ Rep c1 res v ∧
      (∀ b, c1.ext b → (sh = true ∧ c0.ext b) ∨ outsB b) ∧ (∀ b, c1.old b → c0.old b) ∧ (∀ r v, c0.used v → (c1.hp r).ver = some v → (c0.hp r).ver = some v ∧ c1.loc r = c0.loc r) ∧ (∀ v, c0.used v → c1.used v)

mutual
/-- The caller's value (the second) can be handed over as the contract's (the first). m: which objects are handed over; len: others may be lent to be read. -/
def Coe (hp : Nat → AObj) (m : List Nat) (len : Bool) : AVal → AVal → Prop
  | .any, _ => True
  | .val x, A => A = .val x
  | .ro nm k cs, A => (nm = none ∨ (nm = some (some 0) ∧ (cs = [] ∨ ∃ k' cs', A = .ro (some (some 0)) k' cs')) ∨ (nm = some none ∧ cs = [] ∧ ((∃ nm' k' cs', A = .ro nm' k' cs' ∧ isNew nm' = true) ∨ ∃ r v k' cs', A = .own r v ∧ hp r = .row v k' true cs'))) ∧ 0 < k ∧ ((∃ nm' cs', A = .ro nm' k cs' ∧ CoeL hp m len cs cs') ∨ (A = .val (.slice none 0 0) ∧ cs = []) ∨ (len = true ∧ ∃ r v nn cs', A = .own r v ∧ r ∉ m ∧ hp r = .row v k nn cs' ∧ CoeL hp m len cs cs'))
  | .own r v, A => ∃ j r' v', r = 5000 + j ∧ v = j ∧ m[j]? = some r' ∧ A = .own r' v' ∧ (hp r').ver = some v'
  | .st cs, A => (∃ cs', A = .st cs' ∧ CoeL hp m len cs cs') ∨ (∃ vs : Array Value, A = .val (.agg vs) ∧ CoeL hp m len cs (vs.toList.map .val))
  | .tup _, _ => False
  | .ptr r v off, A => ∃ j r' v', r = 5000 + j ∧ v = j ∧ m[j]? = some r' ∧ A = .ptr r' v' off ∧ (hp r').ver = some v'
  | .rp cs off, A => (∃ cs', A = .rp cs' off ∧ CoeL hp m len cs cs') ∨ (len = true ∧ ∃ r v cs', A = .ptr r v off ∧ r ∉ m ∧ hp r = .box v cs' ∧ CoeL hp m len cs cs')
  | .mp r v, A => ∃ j r' v', r = 5000 + j ∧ v = j ∧ m[j]? = some r' ∧ A = .mp r' v' ∧ (hp r').ver = some v'
  | .clo f caps, A => ∃ caps', A = .clo f caps' ∧ CoeL hp m len caps caps'
def CoeL (hp : Nat → AObj) (m : List Nat) (len : Bool) : List AVal → List AVal → Prop
  | [], As => As = []
  | B :: Bs, As => ∃ A As', As = A :: As' ∧ Coe hp m len B A ∧ CoeL hp m len Bs As'
end

theorem CoeL.length {hp : Nat → AObj} {m : List Nat} {len : Bool} : ∀ (Bs As : List AVal), CoeL hp m len Bs As → Bs.length = As.length
  | [], As, h => by simp only [CoeL] at h; subst h; rfl
  | B :: Bs, As, h => by
    simp only [CoeL] at h
    obtain ⟨A, As', rfl, _, h2⟩ := h
    simp [CoeL.length Bs As' h2]

/-- An object that is handed over (the second, the caller's) as the contract has it (the first). -/
def ObjCoe (hp : Nat → AObj) (m : List Nat) (len : Bool) (j : Nat) : AObj → AObj → Prop
  | .box v cs, A => v = j ∧ ∃ v' cs', A = .box v' cs' ∧ CoeL hp m len cs cs'
  | .row v k nn cs, A => v = j ∧ ∃ v' cs', A = .row v' k nn cs' ∧ CoeL hp m len cs cs'
  | .map v ks vs, A => v = j ∧ ∃ v' vs', A = .map v' ks vs' ∧ CoeL hp m len vs vs'
  | .gone, _ => False

def lentB (c : Cz) (m : List Nat) (b : Nat) : Prop := ∃ r, r ∈ m ∧ blockOf (c.loc r) = some b

/-- What the callee begins with. -/
def Cz.entry (c : Cz) (m : List Nat) (ins : List AObj) (len : Bool) : Cz :=
  { w := c.w, base := c.w.heap.size, ext := fun b => c.imm b ∨ (len = true ∧ c.taken b) ∨ lentB c m b, hp := outHp ins [],
    loc := fun n => c.loc (m.getD (n - 5000) 0), names := fun _ => none, used := fun v => v < ins.length, old := c.old }

/-- An object that is there has a number of its kind. -/
theorem outHp_live {outs rows : List AObj} {n : Nat} (h : outHp outs rows n ≠ .gone) : (∃ j, n = 5000 + j ∧ j < 1000 ∧ j < outs.length ∧ outHp outs rows n = outs.getD j .gone) ∨ (∃ i, n = 6000 + i ∧ i < 1000 ∧ i < rows.length ∧ outHp outs rows n = rows.getD i .gone) := by
  have e : outHp outs rows n = if n < 5000 then .gone else if n < 6000 then outs.getD (n - 5000) .gone else if n < 7000 then rows.getD (n - 6000) .gone else .gone := rfl
  have nn : ∀ (l : List AObj) (q : Nat), l.getD q .gone ≠ .gone → q < l.length := by
    intro l q hq
    rcases Nat.lt_or_ge q l.length with h3 | h3
    · exact h3
    · rw [List.getD_eq_getElem?_getD, List.getElem?_eq_none h3] at hq
      exact absurd rfl hq
  by_cases h1 : n < 5000
  · rw [e, if_pos h1] at h; exact absurd rfl h
  · rw [if_neg h1] at e
    by_cases h2 : n < 6000
    · rw [if_pos h2] at e
      rw [e] at h
      have h3 := nn _ _ h
      obtain ⟨j, hj⟩ : ∃ j, j = n - 5000 := ⟨_, rfl⟩
      rw [← hj] at e h3
      exact .inl ⟨j, by omega, by omega, h3, e⟩
    · rw [if_neg h2] at e
      by_cases h3 : n < 7000
      · rw [if_pos h3] at e
        rw [e] at h
        have h4 := nn _ _ h
        obtain ⟨j, hj⟩ : ∃ j, j = n - 6000 := ⟨_, rfl⟩
        rw [← hj] at e h4
        exact .inr ⟨j, by omega, by omega, h4, e⟩
      · rw [if_neg h3] at e; exact absurd e h

section
variable {w0 : World} {outs : Nat → Prop} {c : Cz} {m : List Nat} {ins : List AObj} {len : Bool}

/-- What is asked of the objects that are handed over. -/
structure Handed (hp : Nat → AObj) (m : List Nat) (ins : List AObj) (len : Bool) : Prop where
  short : ins.length ≤ 1000
  length : ins.length = m.length
  nodup : m.Nodup
  live : ∀ r ∈ m, hp r ≠ .gone
  objs : ∀ (j : Nat) (B : AObj) (r : Nat), ins[j]? = some B → m[j]? = some r → ObjCoe hp m len j B (hp r)

theorem entry_live (H : Handed c.hp m ins len) {n : Nat} (h : (c.entry m ins len).hp n ≠ .gone) : ∃ j B r, n = 5000 + j ∧ ins[j]? = some B ∧ m[j]? = some r ∧ (c.entry m ins len).hp n = B ∧ (c.entry m ins len).loc n = c.loc r := by
  rcases outHp_live h with ⟨j, rfl, _, hj, he⟩ | ⟨i, rfl, _, hi, _⟩
  · have hjm : j < m.length := by rw [← H.length]; exact hj
    refine ⟨j, ins[j], m[j], rfl, List.getElem?_eq_getElem hj, List.getElem?_eq_getElem hjm, ?_, ?_⟩
    · show outHp ins [] (5000 + j) = _
      rw [he]; simp [List.getD_eq_getElem?_getD, hj]
    · show c.loc (m.getD (5000 + j - 5000) 0) = _
      have : 5000 + j - 5000 = j := by omega
      rw [this]; simp [List.getD_eq_getElem?_getD, hjm]
  · simp at hi

theorem entry_taken (H : Handed c.hp m ins len) {b : Nat} (h : (c.entry m ins len).taken b) : ∃ r, r ∈ m ∧ c.hp r ≠ .gone ∧ blockOf (c.loc r) = some b := by
  obtain ⟨n, h1, h2⟩ := h
  obtain ⟨j, B, r, rfl, _, hr, _, hl⟩ := entry_live H h1
  rw [hl] at h2
  have hm : r ∈ m := List.mem_of_getElem? hr
  exact ⟨r, hm, H.live r hm, h2⟩

theorem entry_imm (H : Handed c.hp m ins len) {b : Nat} (h : c.imm b) : (c.entry m ins len).imm b := by
  refine ⟨.inl (.inl h), h.2.1, fun ht => ?_⟩
  obtain ⟨r, _, h1, h2⟩ := entry_taken H ht
  exact h.2.2 ⟨r, h1, h2⟩

theorem entry_lent (G : Good w0 outs c) (H : Handed c.hp m ins len) (hl : len = true) {r b : Nat} (hr : c.hp r ≠ .gone) (hm : r ∉ m) (hb : blockOf (c.loc r) = some b) : (c.entry m ins len).imm b := by
  refine ⟨.inl (.inr (.inl ⟨hl, r, hr, hb⟩)), (G.obj r).lt hr hb, fun ht => ?_⟩
  obtain ⟨r', h1, h2, h3⟩ := entry_taken H ht
  exact hm (G.inj r r' b hr h2 hb h3 ▸ h1)

mutual
theorem Coe.rep (G : Good w0 outs c) (H : Handed c.hp m ins len) : ∀ (B A : AVal) (v : Value), Coe c.hp m len B A → Rep c A v → Rep (c.entry m ins len) B v
  | .any, _, _, _, _ => by simp [Rep]
  | .val x, A, v, h, hr => by
    simp only [Coe] at h; subst h; simpa [Rep] using hr
  | .ro nm k cs, A, v, h, hr => by
    simp only [Coe] at h
    obtain ⟨hnm, hk, h⟩ := h
    have key : ∀ (base : Option Addr) (n cap : Nat), v = .slice base n cap → ∀ x, nm = some x → (isNew nm = true → base ≠ none) ∧ (cs.length = 0 ∨ ∃ b off, base = some ⟨b, off, none⟩ ∧ (c.entry m ins len).nmd x b (off + cap * k)) := by
      intro base n cap hv x e
      rcases hnm with h0 | ⟨h0, h2⟩ | ⟨_, h1, h2⟩
      · rw [h0] at e; cases e
      · rw [h0] at e; cases e
        refine ⟨fun h => (by rw [h0] at h; cases h), ?_⟩
        rcases h2 with h2 | ⟨k', cs', rfl⟩
        · left; rw [h2]; rfl
        · rcases h with h | ⟨h, _⟩ | ⟨_, _, _, _, _, h, _⟩
          · obtain ⟨nm', cs'', e2, hc⟩ := h
            simp only [AVal.ro.injEq] at e2
            obtain ⟨_, _, rfl⟩ := e2
            simp only [Rep] at hr
            obtain ⟨base', n', cap', hv', _, _, _, h4, _⟩ := hr
            rw [hv] at hv'
            simp only [Value.slice.injEq] at hv'
            obtain ⟨rfl, _, _⟩ := hv'
            rcases (h4 _ rfl).2 with h5 | ⟨b, off, hb, ho⟩
            · left; rw [CoeL.length cs cs' hc]; exact h5
            · exact .inr ⟨b, off, hb, ho⟩
          · cases h
          · cases h
      · refine ⟨fun _ => ?_, .inl (by rw [h1]; rfl)⟩
        rcases h2 with ⟨nm', k', cs', rfl, h3⟩ | ⟨r, v', k', cs', rfl, h3⟩
        · simp only [Rep] at hr
          obtain ⟨base', n', cap', hv', _, _, _, h4, _⟩ := hr
          rw [hv] at hv'
          simp only [Value.slice.injEq] at hv'
          rw [hv'.1]
          cases hn' : nm' with
          | none => rw [hn'] at h3; cases h3
          | some y => exact (h4 y hn').1 h3
        · simp only [Rep] at hr
          have hO := G.obj r
          rw [h3] at hO hr
          obtain ⟨base', n', cap', hl', _, _, _, _, h4, _⟩ := hO
          have := hr.2 rfl
          rw [hv, hl'] at this
          simp only [Value.slice.injEq] at this
          rw [this.1]; exact h4 rfl
    rcases h with h | ⟨rfl, rfl⟩ | ⟨hl, r, ver, nn, cs', rfl, hm, hrow, hc⟩
    · obtain ⟨nm', cs', rfl, hc⟩ := h
      have hr0 := hr
      simp only [Rep] at hr ⊢
      obtain ⟨base, n, cap, hv, _, hlen, hb, _, hcase⟩ := hr
      refine ⟨base, n, cap, hv, hk, by rw [CoeL.length cs cs' hc]; exact hlen, hb, key base n cap hv, ?_⟩
      rcases hcase with h0 | ⟨b, off, hbase, hi, hat⟩
      · left; rw [CoeL.length cs cs' hc]; exact h0
      · exact .inr ⟨b, off, hbase, entry_imm H hi, CoeL.repAt G H cs cs' off hc hat⟩
    · simp only [Rep] at hr ⊢
      refine ⟨none, 0, 0, hr, hk, by simp, ⟨Nat.le_refl _, by simp⟩, ?_, .inl rfl⟩
      rcases hnm with h0 | ⟨h0, _⟩ | ⟨_, _, ⟨nm', k', cs', e, _⟩ | ⟨r, v', k', cs', e, _⟩⟩
      · intro n e; rw [h0] at e; cases e
      · intro n e; rw [h0]; exact ⟨fun h => (by cases h), .inl rfl⟩
      · cases e
      · cases e
    · have key' := key
      simp only [Rep] at hr ⊢
      have hO := G.obj r
      rw [hrow] at hO hr
      have hv := hr.2 rfl
      obtain ⟨base, n, cap, hloc, _, hlen, hnc, hcm, _, hcase⟩ := hO
      refine ⟨base, n, cap, hv.trans hloc, hk, by rw [CoeL.length cs cs' hc]; exact hlen, ⟨hnc, hcm⟩, key' base n cap (hv.trans hloc), ?_⟩
      rcases hcase with h0 | ⟨g, off, t, cells, rfl, hg, hfit, hrep⟩
      · left
        have : n = 0 := by omega
        rw [CoeL.length cs cs' hc, hlen, this]; simp
      · by_cases h0 : cap = 0
        · left
          have : n = 0 := by omega
          rw [CoeL.length cs cs' hc, hlen, this]; simp
        · have hat : RepAt c g off cs' := RepAt.of_row hg (by rw [hlen]; exact hrep)
          exact .inr ⟨g, off, rfl, entry_lent G H hl (by rw [hrow]; simp) hm (by rw [hloc]; simp [blockOf, h0]), CoeL.repAt G H cs cs' off hc hat⟩
  | .own r ver, A, v, h, hr => by
    simp only [Coe] at h
    obtain ⟨j, r', v', rfl, hj, hm, rfl, hver⟩ := h
    obtain rfl : j = ver := hj.symm
    simp only [Rep] at hr ⊢
    have hjm : j < m.length := (List.getElem?_eq_some_iff.1 hm).1
    refine ⟨show j < ins.length by rw [H.length]; exact hjm, fun _ => ?_⟩
    rw [hr.2 hver]
    show c.loc r' = c.loc (m.getD (5000 + j - 5000) 0)
    have : 5000 + j - 5000 = j := by omega
    rw [this, List.getD_eq_getElem?_getD, hm]; rfl
  | .st cs, A, v, h, hr => by
    simp only [Coe] at h
    rcases h with ⟨cs', rfl, hc⟩ | ⟨vs, rfl, hc⟩
    · simp only [Rep] at hr ⊢
      obtain ⟨vs, hv, hl⟩ := hr
      exact ⟨vs, hv, CoeL.repL G H cs cs' vs.toList hc hl⟩
    · simp only [Rep] at hr ⊢
      exact ⟨vs, hr, CoeL.repL G H cs _ vs.toList hc (repL_vals _)⟩
  | .tup _, _, _, h, _ => by simp [Coe] at h
  | .ptr r ver off, A, v, h, hr => by
    simp only [Coe] at h
    obtain ⟨j, r', v', rfl, hj, hm, rfl, hver⟩ := h
    obtain rfl : j = ver := hj.symm
    simp only [Rep] at hr ⊢
    have hjm : j < m.length := (List.getElem?_eq_some_iff.1 hm).1
    refine ⟨show j < ins.length by rw [H.length]; exact hjm, fun _ => ?_⟩
    have hloc : (c.entry m ins len).loc (5000 + j) = c.loc r' := by
      show c.loc (m.getD (5000 + j - 5000) 0) = c.loc r'
      have : 5000 + j - 5000 = j := by omega
      rw [this, List.getD_eq_getElem?_getD, hm]; rfl
    rw [hloc]; exact hr.2 hver
  | .rp cs off, A, v, h, hr => by
    simp only [Coe] at h
    rcases h with ⟨cs', rfl, hc⟩ | ⟨hl, r, ver, cs', rfl, hm, hbox, hc⟩
    · simp only [Rep] at hr ⊢
      obtain ⟨b, o, hv, hi, hat⟩ := hr
      exact ⟨b, o, hv, entry_imm H hi, CoeL.repAt G H cs cs' o hc hat⟩
    · simp only [Rep] at hr ⊢
      have hO := G.obj r
      rw [hbox] at hO hr
      obtain ⟨b, o, hb, hv⟩ := hr.2 rfl
      obtain ⟨g, t, cells, hloc, hg, hrep⟩ := hO
      rw [hloc] at hb
      simp only [baseOf, Option.some.injEq, Addr.mk.injEq] at hb
      obtain ⟨rfl, rfl, -⟩ := hb
      refine ⟨g, 0, hv, entry_lent G H hl (by rw [hbox]; simp) hm (by rw [hloc]; rfl), CoeL.repAt G H cs cs' 0 hc (RepAt.of_row hg ?_)⟩
      rw [hrep.length, List.drop_zero, List.take_of_length_le (Nat.le_refl _)]; exact hrep
  | .mp r ver, A, v, h, hr => by
    simp only [Coe] at h
    obtain ⟨j, r', v', rfl, hj, hm, rfl, hver⟩ := h
    obtain rfl : j = ver := hj.symm
    simp only [Rep] at hr ⊢
    have hjm : j < m.length := (List.getElem?_eq_some_iff.1 hm).1
    refine ⟨show j < ins.length by rw [H.length]; exact hjm, fun _ => ?_⟩
    rw [hr.2 hver]
    show c.loc r' = c.loc (m.getD (5000 + j - 5000) 0)
    have : 5000 + j - 5000 = j := by omega
    rw [this, List.getD_eq_getElem?_getD, hm]; rfl
  | .clo f caps, A, v, h, hr => by
    simp only [Coe] at h
    obtain ⟨caps', rfl, hc⟩ := h
    simp only [Rep] at hr ⊢
    obtain ⟨vs, hv, hl⟩ := hr
    exact ⟨vs, hv, CoeL.repL G H caps caps' vs.toList hc hl⟩
theorem CoeL.repAt (G : Good w0 outs c) (H : Handed c.hp m ins len) {b : Nat} : ∀ (Bs As : List AVal) (off : Nat), CoeL c.hp m len Bs As → RepAt c b off As → RepAt (c.entry m ins len) b off Bs
  | [], As, off, _, _ => by simp [RepAt]
  | B :: Bs, As, off, h, hr => by
    simp only [CoeL] at h
    obtain ⟨A, As', rfl, h1, h2⟩ := h
    simp only [RepAt] at hr ⊢
    obtain ⟨⟨v, hv, hrep⟩, ht⟩ := hr
    exact ⟨⟨v, hv, Coe.rep G H B A v h1 hrep⟩, CoeL.repAt G H Bs As' (off + 1) h2 ht⟩
theorem CoeL.repL (G : Good w0 outs c) (H : Handed c.hp m ins len) : ∀ (Bs As : List AVal) (vs : List Value), CoeL c.hp m len Bs As → RepL c As vs → RepL (c.entry m ins len) Bs vs
  | [], As, vs, h, hr => by
    simp only [CoeL] at h; subst h
    cases vs <;> simp_all [RepL]
  | B :: Bs, As, vs, h, hr => by
    simp only [CoeL] at h
    obtain ⟨A, As', rfl, h1, h2⟩ := h
    cases vs with
    | nil => simp [RepL] at hr
    | cons v vs =>
      simp only [RepL] at hr ⊢
      exact ⟨Coe.rep G H B A v h1 hr.1, CoeL.repL G H Bs As' vs h2 hr.2⟩
end

/-- The callee's beginning is in order. -/
theorem entry_good (G : Good w0 outs c) (H : Handed c.hp m ins len) : Good (c.entry m ins len).w (fun b => lentB c m b) (c.entry m ins len) := by
  have hobj : ∀ (j : Nat) (B : AObj) (r : Nat), ins[j]? = some B → m[j]? = some r → ObjRep (c.entry m ins len) (c.loc r) B := by
    intro j B r hB hr
    have hO := G.obj r
    have hco := H.objs j B r hB hr
    cases B with
    | gone => exact hco.elim
    | box v cs =>
      obtain ⟨_, v', cs', he, hc⟩ := hco
      rw [he] at hO
      obtain ⟨g, t, cells, hl, hg, hrep⟩ := hO
      exact ⟨g, t, cells, hl, hg, CoeL.repL G H _ _ _ hc hrep⟩
    | row v k nn cs =>
      obtain ⟨_, v', cs', he, hc⟩ := hco
      rw [he] at hO
      obtain ⟨base, n, cap, hl, hk, hlen, hnc, hcm, hnn, hcase⟩ := hO
      refine ⟨base, n, cap, hl, hk, by rw [CoeL.length _ _ hc]; exact hlen, hnc, hcm, hnn, ?_⟩
      rcases hcase with h0 | ⟨g, off, t, cells, hb, hg, hfit, hrep⟩
      · exact .inl h0
      · exact .inr ⟨g, off, t, cells, hb, hg, hfit, CoeL.repL G H _ _ _ hc hrep⟩
    | map v ks vs =>
      obtain ⟨_, v', vs', he, hc⟩ := hco
      rw [he] at hO
      obtain ⟨b, clock, ents, hl, hb, hks, hrep⟩ := hO
      exact ⟨b, clock, ents, hl, hb, hks, CoeL.repL G H _ _ _ hc hrep⟩
  have hver : ∀ (j : Nat) (B : AObj) (r : Nat), ins[j]? = some B → m[j]? = some r → B.ver = some j := by
    intro j B r hB hr
    have hco := H.objs j B r hB hr
    cases B with
    | gone => exact hco.elim
    | box v cs => rw [← hco.1]; rfl
    | row v k nn cs => rw [← hco.1]; rfl
    | map v ks vs => rw [← hco.1]; rfl
  have hold : ∀ b, c.old b → b < c.w.heap.size := fun b h => Nat.lt_of_lt_of_le (G.base.2 b h) (by rw [G.base.1]; exact G.size)
  refine ⟨⟨rfl, hold⟩, ?_, ?_, ?_, ?_, ?_, ?_, ?_, ?_, ?_, rfl, rfl, rfl, Nat.le_refl _, fun _ _ _ => rfl⟩
  · intro n
    by_cases h : (c.entry m ins len).hp n = .gone
    · rw [h]; trivial
    · obtain ⟨j, B, r, rfl, hB, hr, he, hl⟩ := entry_live H h
      rw [he, hl]; exact hobj j B r hB hr
  · intro n1 n2 b h1 h2 h3 h4
    obtain ⟨j1, B1, r1, rfl, hB1, hr1, _, hl1⟩ := entry_live H h1
    obtain ⟨j2, B2, r2, rfl, hB2, hr2, _, hl2⟩ := entry_live H h2
    rw [hl1] at h3; rw [hl2] at h4
    have e := G.inj r1 r2 b (H.live _ (List.mem_of_getElem? hr1)) (H.live _ (List.mem_of_getElem? hr2)) h3 h4
    subst e
    have e2 : j1 = j2 := by
      obtain ⟨p1, q1⟩ := List.getElem?_eq_some_iff.1 hr1
      obtain ⟨p2, q2⟩ := List.getElem?_eq_some_iff.1 hr2
      exact (List.getElem_inj H.nodup).1 (q1.trans q2.symm)
    rw [e2]
  · intro n b h1 h2
    obtain ⟨j, B, r, rfl, hB, hr, _, hl⟩ := entry_live H h1
    rw [hl] at h2
    exact .inr ⟨r, List.mem_of_getElem? hr, h2⟩
  · intro n v h
    obtain ⟨j, B, r, rfl, hB, hr, he, _⟩ := entry_live H (ver_ne_gone h)
    rw [he, hver j B r hB hr] at h
    simp only [Option.some.injEq] at h; subst h
    exact ⟨(List.getElem?_eq_some_iff.1 hB).1, rfl⟩
  · intro n1 n2 v h1 h2
    obtain ⟨j1, B1, r1, rfl, hB1, hr1, he1, _⟩ := entry_live H (ver_ne_gone h1)
    obtain ⟨j2, B2, r2, rfl, hB2, hr2, he2, _⟩ := entry_live H (ver_ne_gone h2)
    rw [he1, hver _ _ _ hB1 hr1] at h1
    rw [he2, hver _ _ _ hB2 hr2] at h2
    simp only [Option.some.injEq] at h1 h2
    rw [h1, h2]
  · intro b h
    refine ⟨.inr (.inr h), fun ho => ?_⟩
    obtain ⟨r, hr1, hr2⟩ := h
    rcases G.own r b (H.live r hr1) hr2 with h | h
    · have := G.base.2 b ho; omega
    · exact (G.outExt b h).2 ho
  · intro n b h; cases h
  · intro n n' b h; cases h
  · exact ⟨ins.length, fun v h => h⟩

end
end Go.Ab
