/- A call that may write into all rows that have names: behind it nothing is known of them. Conditions: none. -/
import Derived.Test.YtcijodimbjapeaaAb14
set_option linter.all false
namespace Go.Ab
set_option maxRecDepth 20000

mutual
/-- A value without all rows but those that were there before. -/
def AVal.cl : AVal → AVal
  | .any => .any
  | .val v => .val v
  | .ro nm k [] => .ro nm k []
  | .ro (some (some 0)) k (A :: cs) => .ro (some (some 0)) k (clL (A :: cs))
  | .ro _ _ (_ :: _) => .any
  | .own r v => .own r v
  | .st cs => .st (clL cs)
  | .tup cs => .tup (clL cs)
  | .ptr r v off => .ptr r v off
  | .rp _ _ => .any
  | .mp r v => .mp r v
  | .clo g caps => .clo g (clL caps)
def clL : List AVal → List AVal
  | [] => []
  | A :: cs => AVal.cl A :: clL cs
end

theorem clL_eq : ∀ cs : List AVal, clL cs = cs.map AVal.cl
  | [] => by simp [clL]
  | A :: cs => by simp [clL, clL_eq cs]

def AObj.cl : AObj → AObj
  | .gone => .gone
  | .box v cs => .box v (clL cs)
  | .row v k nn cs => .row v k nn (clL cs)
  | .map v ks vs => .map v ks (clL vs)

theorem AObj.cl_ver (o : AObj) : o.cl.ver = o.ver := by cases o <;> rfl
theorem AObj.cl_gone {o : AObj} : o.cl = .gone ↔ o = .gone := by cases o <;> simp [AObj.cl]

def St.cl (σ : St) : St := ⟨fun t => (σ.tm t).cl, fun r => (σ.hp r).cl⟩

mutual
/-- The caller's value (the second) as the callee has it (the first): names stay, a row of the caller's own is one that was there before. -/
def CoeH (hp : Nat → AObj) : AVal → AVal → Prop
  | .any, _ => True
  | .val x, A => A = .val x
  | .ro nm k cs, A => 0 < k ∧ ((∃ cs', A = .ro nm k cs' ∧ CoeHL hp cs cs') ∨ (nm = some (some 0) ∧ ∃ r v nn cs', A = .own r v ∧ hp r = .row v k nn cs' ∧ CoeHL hp cs cs'))
  | .st cs, A => ∃ cs', A = .st cs' ∧ CoeHL hp cs cs'
  | _, _ => False
def CoeHL (hp : Nat → AObj) : List AVal → List AVal → Prop
  | [], As => As = []
  | B :: Bs, As => ∃ A As', As = A :: As' ∧ CoeH hp B A ∧ CoeHL hp Bs As'
end

theorem CoeHL.length {hp : Nat → AObj} : ∀ (Bs As : List AVal), CoeHL hp Bs As → Bs.length = As.length
  | [], As, h => by simp only [CoeHL] at h; subst h; rfl
  | B :: Bs, As, h => by
    simp only [CoeHL] at h
    obtain ⟨A, As', rfl, _, h2⟩ := h
    simp [CoeHL.length Bs As' h2]

/-- What the callee begins with. -/
def Cz.enh (c : Cz) : Cz :=
  { w := c.w, base := c.w.heap.size, ext := fun b => c.imm b ∨ c.taken b, hp := fun _ => .gone, loc := c.loc, names := c.names, used := c.used, old := fun b => c.old b ∨ c.taken b }
def Cz.named (c : Cz) (b : Nat) : Prop := ∃ n, c.names n = some b

section
variable {w0 : World} {outs : Nat → Prop} {c : Cz}

theorem enh_taken {b : Nat} : ¬ c.enh.taken b := by rintro ⟨r, h, _⟩; exact h rfl
theorem enh_imm (G : Good w0 outs c) {b : Nat} (h : c.imm b ∨ c.taken b) : c.enh.imm b := by
  refine ⟨.inl h, ?_, enh_taken⟩
  rcases h with h | ⟨r, h1, h2⟩
  · exact h.2.1
  · exact (G.obj r).lt h1 h2

theorem named_imm (G : Good w0 outs c) {b : Nat} (h : c.named b) : c.imm b := by
  obtain ⟨n, hn⟩ := h
  obtain ⟨_, h1, h2, h3⟩ := G.nam n b hn
  refine ⟨?_, h2, h3⟩
  rcases h1 with h1 | h1
  · exact .inr h1
  · exact .inl (G.outExt b h1).1
theorem named_old (G : Good w0 outs c) {b : Nat} (h : c.named b) : ¬ c.old b := by
  obtain ⟨n, hn⟩ := h
  obtain ⟨_, h1, _, _⟩ := G.nam n b hn
  intro ho
  rcases h1 with h1 | h1
  · have := G.base.2 b ho; omega
  · exact (G.outExt b h1).2 ho

theorem enh_good (G : Good w0 outs c) : Good c.enh.w c.named c.enh := by
  refine ⟨⟨rfl, ?_⟩, fun _ => trivial, ?_, ?_, ?_, ?_, ?_, ?_, G.namInj, G.fin, rfl, rfl, rfl, Nat.le_refl _, fun _ _ _ => rfl⟩
  · rintro b (h | ⟨r, h1, h2⟩)
    · exact Nat.lt_of_lt_of_le (G.base.2 b h) (by rw [G.base.1]; exact G.size)
    · exact (G.obj r).lt h1 h2
  · intro r r' b h; exact absurd rfl h
  · intro r b h; exact absurd rfl h
  · intro r v h; cases h
  · intro r r' v h; cases h
  · intro b h
    refine ⟨.inl (named_imm G h), ?_⟩
    rintro (h1 | h1)
    · exact named_old G h h1
    · exact (named_imm G h).2.2 h1
  · intro n b h
    exact ⟨(G.nam n b h).1, .inr ⟨n, h⟩, (G.nam n b h).2.2.1, enh_taken⟩

theorem enh_nmd {n : Option Nat} {b m : Nat} (h : c.nmd n b m) : c.enh.nmd n b m := by
  cases n with
  | none => exact h
  | some n => cases n with
    | zero => exact .inl h
    | succ n => exact h

mutual
theorem CoeH.rep (G : Good w0 outs c) : ∀ (B A : AVal) (v : Value), CoeH c.hp B A → Rep c A v → Rep c.enh B v
  | .any, _, _, _, _ => by simp [Rep]
  | .val x, A, v, h, hr => by simp only [CoeH] at h; subst h; simpa [Rep] using hr
  | .ro nm k cs, A, v, h, hr => by
    simp only [CoeH] at h
    obtain ⟨hk, h⟩ := h
    rcases h with ⟨cs', rfl, hc⟩ | ⟨rfl, r, ver, nn, cs', rfl, hrow, hc⟩
    · simp only [Rep] at hr ⊢
      obtain ⟨base, n, cap, hv, _, hlen, hb, hnm, hcase⟩ := hr
      refine ⟨base, n, cap, hv, hk, by rw [CoeHL.length cs cs' hc]; exact hlen, hb, ?_, ?_⟩
      · intro x e
        refine ⟨(hnm x e).1, ?_⟩
        rcases (hnm x e).2 with h0 | ⟨b, off, h1, h2⟩
        · left; rw [CoeHL.length cs cs' hc]; exact h0
        · exact .inr ⟨b, off, h1, enh_nmd h2⟩
      · rcases hcase with h0 | ⟨b, off, hbase, hi, hat⟩
        · left; rw [CoeHL.length cs cs' hc]; exact h0
        · exact .inr ⟨b, off, hbase, enh_imm G (.inl hi), CoeHL.repAt G cs cs' off hc hat⟩
    · simp only [Rep] at hr ⊢
      have hO := G.obj r
      rw [hrow] at hO hr
      have hv := hr.2 rfl
      obtain ⟨base, n, cap, hloc, _, hlen, hnc, hcm, _, hcase⟩ := hO
      have key : cs.length = 0 ∨ ∃ b off, base = some ⟨b, off, none⟩ ∧ c.taken b ∧ RepAt c.enh b off cs := by
        rcases hcase with h0 | ⟨g, off, t, cells, rfl, hg, hfit, hrep⟩
        · left
          have : n = 0 := by omega
          rw [CoeHL.length cs cs' hc, hlen, this]; simp
        · by_cases h0 : cap = 0
          · left
            have : n = 0 := by omega
            rw [CoeHL.length cs cs' hc, hlen, this]; simp
          · have hat : RepAt c g off cs' := RepAt.of_row hg (by rw [hlen]; exact hrep)
            exact .inr ⟨g, off, rfl, ⟨r, by rw [hrow]; simp, by rw [hloc]; simp [blockOf, h0]⟩, CoeHL.repAt G cs cs' off hc hat⟩
      refine ⟨base, n, cap, hv.trans hloc, hk, by rw [CoeHL.length cs cs' hc]; exact hlen, ⟨hnc, hcm⟩, ?_, ?_⟩
      · intro x e
        simp only [Option.some.injEq] at e; subst e
        refine ⟨(fun h => by cases h), ?_⟩
        rcases key with h0 | ⟨b, off, h1, h2, _⟩
        · exact .inl h0
        · exact .inr ⟨b, off, h1, .inr h2⟩
      · rcases key with h0 | ⟨b, off, h1, h2, h3⟩
        · exact .inl h0
        · exact .inr ⟨b, off, h1, enh_imm G (.inr h2), h3⟩
  | .st cs, A, v, h, hr => by
    simp only [CoeH] at h
    obtain ⟨cs', rfl, hc⟩ := h
    simp only [Rep] at hr ⊢
    obtain ⟨vs, hv, hl⟩ := hr
    exact ⟨vs, hv, CoeHL.repL G cs cs' vs.toList hc hl⟩
  | .own _ _, _, _, h, _ => by simp only [CoeH] at h
  | .tup _, _, _, h, _ => by simp only [CoeH] at h
  | .ptr _ _ _, _, _, h, _ => by simp only [CoeH] at h
  | .rp _ _, _, _, h, _ => by simp only [CoeH] at h
  | .mp _ _, _, _, h, _ => by simp only [CoeH] at h
  | .clo _ _, _, _, h, _ => by simp only [CoeH] at h
theorem CoeHL.repAt (G : Good w0 outs c) {b : Nat} : ∀ (Bs As : List AVal) (off : Nat), CoeHL c.hp Bs As → RepAt c b off As → RepAt c.enh b off Bs
  | [], _, _, _, _ => by simp [RepAt]
  | B :: Bs, As, off, h, hr => by
    simp only [CoeHL] at h
    obtain ⟨A, As', rfl, h1, h2⟩ := h
    simp only [RepAt] at hr ⊢
    obtain ⟨⟨v, hv, hA⟩, ht⟩ := hr
    exact ⟨⟨v, hv, CoeH.rep G B A v h1 hA⟩, CoeHL.repAt G Bs As' (off + 1) h2 ht⟩
theorem CoeHL.repL (G : Good w0 outs c) : ∀ (Bs As : List AVal) (vs : List Value), CoeHL c.hp Bs As → RepL c As vs → RepL c.enh Bs vs
  | [], As, vs, h, hr => by simp only [CoeHL] at h; subst h; cases vs <;> simp_all [RepL]
  | B :: Bs, As, vs, h, hr => by
    simp only [CoeHL] at h
    obtain ⟨A, As', rfl, h1, h2⟩ := h
    cases vs with
    | nil => simp [RepL] at hr
    | cons v vs =>
      simp only [RepL] at hr ⊢
      exact ⟨CoeH.rep G B A v h1 hr.1, CoeHL.repL G Bs As' vs h2 hr.2⟩
end

/-- From c to c' what was there before is as it was. -/
structure Kept (c c' : Cz) : Prop where
  imm : ∀ b, c.imm b → c.old b → c'.imm b ∧ c'.w.heap[b]? = c.w.heap[b]?
  used : ∀ v, c.used v → c'.used v
  loc : ∀ r v, c.used v → (c'.hp r).ver = some v → (c.hp r).ver = some v ∧ c'.loc r = c.loc r
  old : c'.old = c.old

mutual
theorem Rep.cl {c c' : Cz} (K : Kept c c') : ∀ (A : AVal) (v : Value), Rep c A v → Rep c' A.cl v
  | .any, _, _ => by simp [AVal.cl, Rep]
  | .val x, v, h => by simpa [AVal.cl, Rep] using h
  | .ro nm k [], v, h => by
    simp only [AVal.cl, Rep] at h ⊢
    obtain ⟨base, len, cap, hv, hk, hl, hm, hn, _⟩ := h
    exact ⟨base, len, cap, hv, hk, hl, hm, fun n e => ⟨(hn n e).1, .inl rfl⟩, .inl rfl⟩
  | .ro none k (A :: cs), v, h => by simp [AVal.cl, Rep]
  | .ro (some none) k (A :: cs), v, h => by simp [AVal.cl, Rep]
  | .ro (some (some (n + 1))) k (A :: cs), v, h => by simp [AVal.cl, Rep]
  | .ro (some (some 0)) k (A :: cs), v, h => by
    simp only [AVal.cl]
    simp only [Rep] at h ⊢
    obtain ⟨base, len, cap, hv, hk, hl, hm, hn, hc⟩ := h
    refine ⟨base, len, cap, hv, hk, by rw [clL_eq, List.length_map]; exact hl, hm, ?_, ?_⟩
    · intro n0 e
      simp only [Option.some.injEq] at e; subst e
      refine ⟨(hn _ rfl).1, ?_⟩
      rcases (hn _ rfl).2 with h0 | ⟨b, off, hb, hnm⟩
      · simp at h0
      · exact .inr ⟨b, off, hb, by show c'.old b; rw [K.old]; exact hnm⟩
    · rcases hc with hc | ⟨b, off, hb, hi, hr⟩
      · simp at hc
      · rcases (hn _ rfl).2 with h0 | ⟨b', off', hb', hnm⟩
        · simp at h0
        · rw [hb] at hb'
          cases hb'
          exact .inr ⟨b, off, hb, (K.imm b hi hnm).1, RepAt.cl K (K.imm b hi hnm).2 (A :: cs) off hr⟩
  | .own r ver, v, h => by
    simp only [AVal.cl, Rep] at h ⊢
    refine ⟨K.used _ h.1, fun hr => ?_⟩
    obtain ⟨h1, h2⟩ := K.loc r ver h.1 hr
    exact (h.2 h1).trans h2.symm
  | .st cs, v, h => by
    simp only [AVal.cl, Rep] at h ⊢
    obtain ⟨vs, hv, hl⟩ := h
    exact ⟨vs, hv, RepL.cl K cs vs.toList hl⟩
  | .tup cs, v, h => by
    simp only [AVal.cl, Rep] at h ⊢
    obtain ⟨vs, hv, hl⟩ := h
    exact ⟨vs, hv, RepL.cl K cs vs.toList hl⟩
  | .ptr r ver off, v, h => by
    simp only [AVal.cl, Rep] at h ⊢
    refine ⟨K.used _ h.1, fun hr => ?_⟩
    obtain ⟨h1, h2⟩ := K.loc r ver h.1 hr
    rw [h2]; exact h.2 h1
  | .rp cs off, v, h => by simp [AVal.cl, Rep]
  | .mp r ver, v, h => by
    simp only [AVal.cl, Rep] at h ⊢
    refine ⟨K.used _ h.1, fun hr => ?_⟩
    obtain ⟨h1, h2⟩ := K.loc r ver h.1 hr
    exact (h.2 h1).trans h2.symm
  | .clo f caps, v, h => by
    simp only [AVal.cl, Rep] at h ⊢
    obtain ⟨vs, hv, hl⟩ := h
    exact ⟨vs, hv, RepL.cl K caps vs.toList hl⟩
theorem RepAt.cl {c c' : Cz} (K : Kept c c') {b : Nat} (hb : c'.w.heap[b]? = c.w.heap[b]?) : ∀ (cs : List AVal) (off : Nat), RepAt c b off cs → RepAt c' b off (clL cs)
  | [], _, _ => by simp [clL, RepAt]
  | A :: cs, off, h => by
    simp only [clL, RepAt] at h ⊢
    obtain ⟨⟨v, hv, hr⟩, ht⟩ := h
    refine ⟨⟨v, ?_, Rep.cl K A v hr⟩, RepAt.cl K hb cs (off + 1) ht⟩
    rw [World.cell?_of_block (w := c.w) hb]; exact hv
theorem RepL.cl {c c' : Cz} (K : Kept c c') : ∀ (cs : List AVal) (vs : List Value), RepL c cs vs → RepL c' (clL cs) vs
  | [], [], _ => by simp [clL, RepL]
  | [], _ :: _, h => by simp [RepL] at h
  | _ :: _, [], h => by simp [RepL] at h
  | A :: cs, v :: vs, h => by
    simp only [clL, RepL] at h ⊢
    exact ⟨Rep.cl K A v h.1, RepL.cl K cs vs h.2⟩
end

theorem ObjRep.cl {c c' : Cz} (K : Kept c c') {v : Value} {o : AObj} (h : ObjRep c v o) (hb : ∀ b, blockOf v = some b → c'.w.heap[b]? = c.w.heap[b]?) : ObjRep c' v o.cl := by
  cases o with
  | gone => trivial
  | box ver cs =>
    obtain ⟨g, t, cells, rfl, hg, hr⟩ := h
    exact ⟨g, t, cells, rfl, by rw [hb g rfl]; exact hg, RepL.cl K _ _ hr⟩
  | row ver k nn cs =>
    obtain ⟨base, n, cap, rfl, h1, h2, h3, h4, h5, hc⟩ := h
    refine ⟨base, n, cap, rfl, h1, by rw [clL_eq, List.length_map]; exact h2, h3, h4, h5, ?_⟩
    rcases hc with hc | ⟨g, off, t, cells, rfl, hg, h6, h7⟩
    · exact .inl hc
    · by_cases h0 : cap = 0
      · exact .inl h0
      · exact .inr ⟨g, off, t, cells, rfl, by rw [hb g (by simp [blockOf, h0])]; exact hg, h6, RepL.cl K _ _ h7⟩
  | map ver ks vs =>
    obtain ⟨g, clock, ents, rfl, hg, h1, h2⟩ := h
    exact ⟨g, clock, ents, rfl, by rw [hb g rfl]; exact hg, h1, RepL.cl K _ _ h2⟩

/-- Behind such a call. -/
def Cz.beh (c : Cz) (w' : World) : Cz := { c with w := w', hp := fun r => (c.hp r).cl, names := fun _ => none }

theorem beh_good (G : Good w0 outs c) {c1 : Cz} (G1 : Good c.w c.named c1) : Good w0 outs (c.beh c1.w) ∧ Kept c (c.beh c1.w) := by
  have hne : ∀ b, b < c.w.heap.size → ¬ c.named b → c1.w.heap[b]? = c.w.heap[b]? := fun b h1 h2 => G1.frame b h1 h2
  have hgo : ∀ r, (c.beh c1.w).hp r ≠ .gone ↔ c.hp r ≠ .gone := fun r => not_congr AObj.cl_gone
  have hver : ∀ r, ((c.beh c1.w).hp r).ver = (c.hp r).ver := fun r => AObj.cl_ver _
  have htk : ∀ b, (c.beh c1.w).taken b ↔ c.taken b := fun b => ⟨fun ⟨r, h1, h2⟩ => ⟨r, (hgo r).1 h1, h2⟩, fun ⟨r, h1, h2⟩ => ⟨r, (hgo r).2 h1, h2⟩⟩
  have hsz : c.w.heap.size ≤ c1.w.heap.size := G1.size
  have htn : ∀ b, c.taken b → ¬ c.named b := fun b ht hn => (named_imm G hn).2.2 ht
  have K : Kept c (c.beh c1.w) := by
    refine ⟨?_, fun v h => h, ?_, rfl⟩
    · rintro b ⟨h1, h2, h3⟩ ho
      exact ⟨⟨h1, Nat.lt_of_lt_of_le h2 hsz, fun h => h3 ((htk b).1 h)⟩, hne b h2 fun hn => named_old G hn ho⟩
    · intro r v _ h
      rw [hver] at h; exact ⟨h, rfl⟩
  refine ⟨⟨G.base, ?_, ?_, ?_, ?_, ?_, G.outExt, ?_, ?_, G.fin, ?_, ?_, ?_, ?_, ?_⟩, K⟩
  · intro r
    by_cases hg : c.hp r = .gone
    · have : (c.beh c1.w).hp r = .gone := AObj.cl_gone.2 hg
      rw [this]; trivial
    · refine (G.obj r).cl K fun b hb => hne b ((G.obj r).lt hg hb) (htn b ⟨r, hg, hb⟩)
  · intro r r' b h1 h2 h3 h4; exact G.inj r r' b ((hgo r).1 h1) ((hgo r').1 h2) h3 h4
  · intro r b h1 h2; exact G.own r b ((hgo r).1 h1) h2
  · intro r v h
    rw [hver] at h
    exact ⟨(G.verU r v h).1, rfl⟩
  · intro r r' v h1 h2
    rw [hver] at h1 h2
    exact G.verInj r r' v h1 h2
  · intro n b h; cases h
  · intro n n' b h; cases h
  · exact G1.os.trans G.os
  · exact G1.tape.trans G.tape
  · exact G1.output.trans G.output
  · exact Nat.le_trans G.size hsz
  · intro b hb hn
    rw [← G.frame b hb hn]
    refine hne b (Nat.lt_of_lt_of_le hb G.size) ?_
    rintro ⟨n, hnm⟩
    rcases (G.nam n b hnm).2.1 with h | h
    · rw [G.base.1] at h; omega
    · exact hn h
end
end Go.Ab
