/- Rows within rows may be written: a row of a row comes out of it, and goes back. Conditions: none. -/
import Derived.Test.YtcijodimbjapeaaAb15
set_option linter.all false
namespace Go.Ab
set_option maxRecDepth 20000

mutual
/-- A value without all that might lie in the block with the name n. -/
def AVal.wo (n : Nat) : AVal → AVal
  | .any => .any
  | .val v => .val v
  | .ro nm k [] => .ro nm k []
  | .ro (some (some 0)) k (A :: cs) => .ro (some (some 0)) k (woL n (A :: cs))
  | .ro (some (some (n' + 1))) k (A :: cs) => if n' = n then .any else .ro (some (some (n' + 1))) k (woL n (A :: cs))
  | .ro _ _ (_ :: _) => .any
  | .own r v => .own r v
  | .st cs => .st (woL n cs)
  | .tup cs => .tup (woL n cs)
  | .ptr r v off => .ptr r v off
  | .rp _ _ => .any
  | .mp r v => .mp r v
  | .clo g caps => .clo g (woL n caps)
def woL (n : Nat) : List AVal → List AVal
  | [] => []
  | A :: cs => AVal.wo n A :: woL n cs
end

theorem woL_eq (n : Nat) : ∀ cs : List AVal, woL n cs = cs.map (AVal.wo n)
  | [] => by simp [woL]
  | A :: cs => by simp [woL, woL_eq n cs]

def AObj.wo (n : Nat) : AObj → AObj
  | .gone => .gone
  | .box v cs => .box v (woL n cs)
  | .row v k nn cs => .row v k nn (woL n cs)
  | .map v ks vs => .map v ks (woL n vs)

theorem AObj.wo_ver (n : Nat) (o : AObj) : (o.wo n).ver = o.ver := by cases o <;> rfl
theorem AObj.wo_gone {n : Nat} {o : AObj} : o.wo n = .gone ↔ o = .gone := by cases o <;> simp [AObj.wo]

/-- Row i of row r, which has the name n, is object q, with version m. -/
def St.thaw (σ : St) (r i q n m k' : Nat) (cs' : List AVal) : St :=
  ⟨fun t => (σ.tm t).wo n, fun x => if x = q then .row m k' true (woL n cs') else if x = r then (match σ.hp r with | .row v k nn cs => .row v k nn ((woL n cs).set i (.own q m)) | o => o) else (σ.hp x).wo n⟩

/-- Row i of the row in temporary t, which has the name n, is object q, with version m. -/
def St.tt (σ : St) (t i q n m k k' : Nat) (cs cs' : List AVal) : St :=
  ⟨fun x => if x = t then .ro (some (some 0)) k ((woL n cs).set i (.own q m)) else (σ.tm x).wo n, fun x => if x = q then .row m k' true (woL n cs') else (σ.hp x).wo n⟩

/-- Object q goes back to its place in row r. -/
def St.rf (σ : St) (r i q ver k' : Nat) (nn' : Bool) (cs' : List AVal) : St :=
  ⟨σ.tm, fun x => if x = r then (match σ.hp r with | .row v k nn cs => .row v k nn (cs.set i (.ro (frNm nn' cs'.length ver) k' cs')) | o => o) else if x = q then .gone else σ.hp x⟩

/-- Steps that change what is said of a state, not the state. -/
inductive GStep where
  | dn
  | thaw (r i q : Nat)
  | rf (r i q : Nat)
  | tt (t i q : Nat)
  deriving Inhabited

def gwp : List GStep → (St → Prop) → St → Prop
  | [], K, σ => K σ
  | .dn :: gs, K, σ => gwp gs K σ.dn
  | .thaw r i q :: gs, K, σ => ∃ v k nn cs n k' cs', σ.hp r = .row v k nn cs ∧ cs[i]? = some (.ro (some (some (n + 1))) k' cs') ∧ cs' ≠ [] ∧ σ.hp q = .gone ∧ ∀ m, gwp gs K (σ.thaw r i q n m k' cs')
  | .rf r i q :: gs, K, σ => ∃ v k nn cs ver k' nn' cs', σ.hp r = .row v k nn cs ∧ cs[i]? = some (.own q ver) ∧ q ≠ r ∧ σ.hp q = .row ver k' nn' cs' ∧
      ((∀ n k'' cs'', AVal.ro (some (some (n + 1))) k'' cs'' ∈ cs → cs'' ≠ [] → n ≠ ver) → gwp gs K (σ.rf r i q ver k' nn' cs'))
  | .tt t i q :: gs, K, σ => ∃ k cs n k' cs', σ.tm t = .ro (some (some 0)) k cs ∧ cs[i]? = some (.ro (some (some (n + 1))) k' cs') ∧ cs' ≠ [] ∧ σ.hp q = .gone ∧ ∀ m, gwp gs K (σ.tt t i q n m k k' cs cs')

theorem gwp_nil {K : St → Prop} {σ : St} : gwp [] K σ = K σ := rfl
theorem gwp_mono {K K' : St → Prop} (hK : ∀ σ, K σ → K' σ) : ∀ (gs : List GStep) (σ : St), gwp gs K σ → gwp gs K' σ
  | [], σ, h => hK σ h
  | .dn :: gs, σ, h => gwp_mono hK gs _ h
  | .thaw r i q :: gs, σ, ⟨v, k, nn, cs, n, k', cs', h1, h2, h3, h4, h5⟩ => ⟨v, k, nn, cs, n, k', cs', h1, h2, h3, h4, fun m => gwp_mono hK gs _ (h5 m)⟩
  | .rf r i q :: gs, σ, ⟨v, k, nn, cs, ver, k', nn', cs', h1, h2, h3, h4, h5⟩ => ⟨v, k, nn, cs, ver, k', nn', cs', h1, h2, h3, h4, fun hn => gwp_mono hK gs _ (h5 hn)⟩
  | .tt t i q :: gs, σ, ⟨k, cs, n, k', cs', h1, h2, h3, h4, h5⟩ => ⟨k, cs, n, k', cs', h1, h2, h3, h4, fun m => gwp_mono hK gs _ (h5 m)⟩

/-- The names of rows within a row are no versions of objects. -/
def St.Dist (σ : St) : Prop := ∀ r v k nn cs q u, σ.hp r = .row v k nn cs → (σ.hp q).ver = some u → ∀ n k'' cs'', AVal.ro (some (some (n + 1))) k'' cs'' ∈ cs → cs'' ≠ [] → n ≠ u

/-- From c to c' all is kept but the block g, which has the name n. -/
structure Less (n g : Nat) (c c' : Cz) : Prop where
  imm : ∀ b, c.imm b → b ≠ g → c'.imm b ∧ c'.w.heap[b]? = c.w.heap[b]?
  names : ∀ n' b, c.names n' = some b → n' ≠ n → c'.names n' = some b
  used : ∀ v, c.used v → c'.used v
  loc : ∀ r v, c.used v → (c'.hp r).ver = some v → (c.hp r).ver = some v ∧ c'.loc r = c.loc r
  only : ∀ n', c.names n' = some g → n' = n
  old : ∀ b, c.old b → b ≠ g ∧ c'.old b

mutual
theorem Rep.wo {n g : Nat} {c c' : Cz} (K : Less n g c c') : ∀ (A : AVal) (v : Value), Rep c A v → Rep c' (A.wo n) v
  | .any, _, _ => by simp [AVal.wo, Rep]
  | .val x, v, h => by simpa [AVal.wo, Rep] using h
  | .ro nm k [], v, h => by
    simp only [AVal.wo, Rep] at h ⊢
    obtain ⟨base, len, cap, hv, hk, hl, hm, hn, _⟩ := h
    exact ⟨base, len, cap, hv, hk, hl, hm, fun n e => ⟨(hn n e).1, .inl rfl⟩, .inl rfl⟩
  | .ro none k (A :: cs), v, h => by simp [AVal.wo, Rep]
  | .ro (some none) k (A :: cs), v, h => by simp [AVal.wo, Rep]
  | .ro (some (some 0)) k (A :: cs), v, h => by
    simp only [AVal.wo]
    simp only [Rep] at h ⊢
    obtain ⟨base, len, cap, hv, hk, hl, hm, hn, hc⟩ := h
    refine ⟨base, len, cap, hv, hk, by rw [woL_eq, List.length_map]; exact hl, hm, ?_, ?_⟩
    · intro n0 e
      simp only [Option.some.injEq] at e; subst e
      refine ⟨(hn _ rfl).1, ?_⟩
      rcases (hn _ rfl).2 with h0 | ⟨b, off, hb, hnm⟩
      · simp at h0
      · exact .inr ⟨b, off, hb, (K.old b hnm).2⟩
    · rcases hc with hc | ⟨b, off, hb, hi, hr⟩
      · simp at hc
      · rcases (hn _ rfl).2 with h0 | ⟨b', off', hb', hnm⟩
        · simp at h0
        · rw [hb] at hb'
          cases hb'
          have hg : b ≠ g := (K.old b hnm).1
          exact .inr ⟨b, off, hb, (K.imm b hi hg).1, RepAt.wo K (K.imm b hi hg).2 (A :: cs) off hr⟩
  | .ro (some (some (n' + 1))) k (A :: cs), v, h => by
    simp only [AVal.wo]
    split
    · simp [Rep]
    · rename_i hne
      simp only [Rep] at h ⊢
      obtain ⟨base, len, cap, hv, hk, hl, hm, hn, hc⟩ := h
      refine ⟨base, len, cap, hv, hk, by rw [woL_eq, List.length_map]; exact hl, hm, ?_, ?_⟩
      · intro n0 e
        simp only [Option.some.injEq] at e; subst e
        refine ⟨(hn _ rfl).1, ?_⟩
        rcases (hn _ rfl).2 with h0 | ⟨b, off, hb, hnm, hf⟩
        · simp at h0
        · rcases hc with hc | ⟨b', off', hb', hi, _⟩
          · simp at hc
          · rw [hb] at hb'
            cases hb'
            have hg : b ≠ g := fun e => hne (K.only n' (e ▸ hnm))
            exact .inr ⟨b, off, hb, K.names _ _ hnm hne, Cz.fit_of hf (K.imm b hi hg).2⟩
      · rcases hc with hc | ⟨b, off, hb, hi, hr⟩
        · simp at hc
        · rcases (hn _ rfl).2 with h0 | ⟨b', off', hb', hnm, _⟩
          · simp at h0
          · rw [hb] at hb'
            cases hb'
            have hg : b ≠ g := fun e => hne (K.only n' (e ▸ hnm))
            exact .inr ⟨b, off, hb, (K.imm b hi hg).1, RepAt.wo K (K.imm b hi hg).2 (A :: cs) off hr⟩
  | .own r ver, v, h => by
    simp only [AVal.wo, Rep] at h ⊢
    refine ⟨K.used _ h.1, fun hr => ?_⟩
    obtain ⟨h1, h2⟩ := K.loc r ver h.1 hr
    exact (h.2 h1).trans h2.symm
  | .st cs, v, h => by
    simp only [AVal.wo, Rep] at h ⊢
    obtain ⟨vs, hv, hl⟩ := h
    exact ⟨vs, hv, RepL.wo K cs vs.toList hl⟩
  | .tup cs, v, h => by
    simp only [AVal.wo, Rep] at h ⊢
    obtain ⟨vs, hv, hl⟩ := h
    exact ⟨vs, hv, RepL.wo K cs vs.toList hl⟩
  | .ptr r ver off, v, h => by
    simp only [AVal.wo, Rep] at h ⊢
    refine ⟨K.used _ h.1, fun hr => ?_⟩
    obtain ⟨h1, h2⟩ := K.loc r ver h.1 hr
    rw [h2]; exact h.2 h1
  | .rp cs off, v, h => by simp [AVal.wo, Rep]
  | .mp r ver, v, h => by
    simp only [AVal.wo, Rep] at h ⊢
    refine ⟨K.used _ h.1, fun hr => ?_⟩
    obtain ⟨h1, h2⟩ := K.loc r ver h.1 hr
    exact (h.2 h1).trans h2.symm
  | .clo f caps, v, h => by
    simp only [AVal.wo, Rep] at h ⊢
    obtain ⟨vs, hv, hl⟩ := h
    exact ⟨vs, hv, RepL.wo K caps vs.toList hl⟩
theorem RepAt.wo {n g : Nat} {c c' : Cz} (K : Less n g c c') {b : Nat} (hb : c'.w.heap[b]? = c.w.heap[b]?) : ∀ (cs : List AVal) (off : Nat), RepAt c b off cs → RepAt c' b off (woL n cs)
  | [], _, _ => by simp [woL, RepAt]
  | A :: cs, off, h => by
    simp only [woL, RepAt] at h ⊢
    obtain ⟨⟨v, hv, hr⟩, ht⟩ := h
    refine ⟨⟨v, ?_, Rep.wo K A v hr⟩, RepAt.wo K hb cs (off + 1) ht⟩
    rw [World.cell?_of_block (w := c.w) hb]; exact hv
theorem RepL.wo {n g : Nat} {c c' : Cz} (K : Less n g c c') : ∀ (cs : List AVal) (vs : List Value), RepL c cs vs → RepL c' (woL n cs) vs
  | [], [], _ => by simp [woL, RepL]
  | [], _ :: _, h => by simp [RepL] at h
  | _ :: _, [], h => by simp [RepL] at h
  | A :: cs, v :: vs, h => by
    simp only [woL, RepL] at h ⊢
    exact ⟨Rep.wo K A v h.1, RepL.wo K cs vs h.2⟩
end

theorem ObjRep.wo {n g : Nat} {c c' : Cz} (K : Less n g c c') {v : Value} {o : AObj} (h : ObjRep c v o) (hb : ∀ b, blockOf v = some b → c'.w.heap[b]? = c.w.heap[b]?) : ObjRep c' v (o.wo n) := by
  cases o with
  | gone => trivial
  | box ver cs =>
    obtain ⟨g, t, cells, rfl, hg, hr⟩ := h
    exact ⟨g, t, cells, rfl, by rw [hb g rfl]; exact hg, RepL.wo K _ _ hr⟩
  | row ver k nn cs =>
    obtain ⟨base, n, cap, rfl, h1, h2, h3, h4, h5, hc⟩ := h
    refine ⟨base, n, cap, rfl, h1, by rw [woL_eq, List.length_map]; exact h2, h3, h4, h5, ?_⟩
    rcases hc with hc | ⟨g, off, t, cells, rfl, hg, h6, h7⟩
    · exact .inl hc
    · by_cases h0 : cap = 0
      · exact .inl h0
      · exact .inr ⟨g, off, t, cells, rfl, by rw [hb g (by simp [blockOf, h0])]; exact hg, h6, RepL.wo K _ _ h7⟩
  | map ver ks vs =>
    obtain ⟨g, clock, ents, rfl, hg, h1, h2⟩ := h
    exact ⟨g, clock, ents, rfl, by rw [hb g rfl]; exact hg, h1, RepL.wo K _ _ h2⟩

theorem RepL.put {c : Cz} {A : AVal} {x : Value} : ∀ {cs : List AVal} {vs : List Value} {i : Nat}, RepL c cs vs → vs[i]? = some x → Rep c A x → RepL c (cs.set i A) vs
  | [], [], _, _, h, _ => by simp at h
  | [], _ :: _, _, h, _, _ => by simp [RepL] at h
  | _ :: _, [], _, h, _, _ => by simp [RepL] at h
  | C :: cs, v :: vs, 0, h, e, hA => by
    simp only [RepL, List.set_cons_zero] at h ⊢
    simp at e; subst e
    exact ⟨hA, h.2⟩
  | C :: cs, v :: vs, i + 1, h, e, hA => by
    simp only [RepL, List.set_cons_succ] at h ⊢
    exact ⟨h.1, RepL.put h.2 (by simpa using e) hA⟩

/-- A cell of a row, and its value. -/
theorem row_cell {w0 : World} {outs : Nat → Prop} {c : Cz} (G : Good w0 outs c) {r v k : Nat} {nn : Bool} {cs : List AVal} (hr : c.hp r = .row v k nn cs) {i : Nat} {A : AVal} (hi : cs[i]? = some A) :
    ∃ base n cap g off t, ∃ cells : Array Value, ∃ x, c.loc r = .slice base n cap ∧ 0 < k ∧ cs.length = n * k ∧ n ≤ cap ∧ cap ≤ maxLen ∧ (nn = true → base ≠ none) ∧ base = some ⟨g, off, none⟩ ∧ c.w.heap[g]? = some (.cells cells t (0, 0)) ∧
      off + cap * k ≤ cells.size ∧ RepL c cs ((cells.toList.drop off).take (n * k)) ∧ ((cells.toList.drop off).take (n * k))[i]? = some x ∧ Rep c A x := by
  have hO := G.obj r
  rw [hr] at hO
  obtain ⟨base, n, cap, hv, hk, hl, hn, hm, hnn, hc⟩ := hO
  rcases hc with hc | ⟨g, off, t, cells, hb, hheap, hfit, hrep⟩
  · have h0 : n = 0 := by omega
    rw [h0] at hl
    have : cs = [] := List.eq_nil_of_length_eq_zero (by omega)
    subst this
    simp at hi
  · obtain ⟨x, hx, hA⟩ := hrep.get hi
    exact ⟨base, n, cap, g, off, t, cells, x, hv, hk, hl, hn, hm, hnn, hb, hheap, hfit, hrep, hx, hA⟩

section
variable {w0 : World} {outsC : Nat → Prop} {N : Nat} {c0 : Cz}

theorem Sim.dist {σ : St} {a : Act} {c : Cz} (S : Sim w0 outsC N σ a c) : σ.Dist := by
  intro r v k nn cs q u hr hq n k'' cs'' hmem hne e
  have G := S.good
  rw [← S.hp] at hr hq
  obtain ⟨j, hj⟩ := List.getElem?_of_mem hmem
  obtain ⟨_, _, _, _, _, _, _, x, _, _, _, _, _, _, _, _, _, _, _, hA⟩ := row_cell G hr hj
  simp only [Rep] at hA
  obtain ⟨_, _, _, _, _, _, _, hnm, _⟩ := hA
  rcases (hnm _ rfl).2 with h0 | ⟨b, _, _, hb, _⟩
  · exact hne (List.eq_nil_of_length_eq_zero h0)
  · have h1 := (G.verU q u hq).2
    have hb' : c.names n = some b := hb
    rw [e, h1] at hb'; cases hb'

/-- A row comes out of a row. -/
theorem Sim.thaw {σ : St} {a : Act} {c : Cz} (S : Sim w0 outsC N σ a c) (H0 : Hist c0 c) {r i q v k n k' : Nat} {nn : Bool} {cs cs' : List AVal} (hr : σ.hp r = .row v k nn cs)
    (hi : cs[i]? = some (.ro (some (some (n + 1))) k' cs')) (hne : cs' ≠ []) (hq : σ.hp q = .gone) : ∃ m c', Sim w0 outsC N (σ.thaw r i q n m k' cs') a c' ∧ Hist c0 c' ∧ c'.w = c.w := by
  have G := S.good
  obtain ⟨m, hm⟩ := G.fin
  have hnu : ¬ c.used m := fun h => absurd (hm m h) (Nat.lt_irrefl _)
  have hqr : q ≠ r := by rintro rfl; rw [hr] at hq; cases hq
  rw [← S.hp] at hr hq
  obtain ⟨base, nr, cap, gr, off, t, cells, x, hloc, hk, hl, hncap, hcapm, hnn, hbase, hheap, hfit, hrep, hx, hA⟩ := row_cell G hr hi
  simp only [Rep] at hA
  obtain ⟨base', len', cap', hxv, hk', hl', hm', hnm', hc'⟩ := hA
  have hlen0 : cs'.length ≠ 0 := fun e => hne (List.eq_nil_of_length_eq_zero e)
  have hcap0 : cap' ≠ 0 := by
    intro e
    have : len' = 0 := by omega
    rw [this] at hl'; simp at hl'; exact hne hl'
  rcases hc' with h0 | ⟨g, off', hb', himm, hrepA⟩
  · exact absurd h0 hlen0
  obtain ⟨hbn, h1⟩ := hnm' _ rfl
  have hbn := hbn rfl
  rcases h1 with h0 | ⟨g', off'', hb'', hnmd, t', cells', hf1, hf2⟩
  · exact absurd h0 hlen0
  rw [hb'] at hb''
  cases hb''
  have hng : c.names n = some g := hnmd
  obtain ⟨hgu, hgo, hgl, hgt⟩ := G.nam n g hng
  let c' : Cz := { c with hp := (σ.thaw r i q n m k' cs').hp, loc := fun x' => if x' = q then x else c.loc x', names := fun x' => if x' = n then none else c.names x', used := fun x' => c.used x' ∨ x' = m }
  have hpq : c'.hp q = .row m k' true (woL n cs') := by show (if q = q then _ else _) = _; rw [if_pos rfl]
  have hpr : c'.hp r = .row v k nn ((woL n cs).set i (.own q m)) := by
    show (if r = q then _ else if r = r then _ else _) = _
    rw [if_neg (Ne.symm hqr), if_pos rfl, ← S.hp, hr]
  have hpx : ∀ y, y ≠ q → y ≠ r → c'.hp y = (c.hp y).wo n := fun y h1 h2 => by
    show (if y = q then _ else if y = r then _ else _) = _
    rw [if_neg h1, if_neg h2, S.hp]
  have hver : ∀ y, y ≠ q → (c'.hp y).ver = (c.hp y).ver := fun y h1 => by
    by_cases h2 : y = r
    · subst h2; rw [hpr, hr]; rfl
    · rw [hpx y h1 h2, AObj.wo_ver]
  have hgone : ∀ y, y ≠ q → (c'.hp y ≠ .gone ↔ c.hp y ≠ .gone) := fun y h1 => by
    by_cases h2 : y = r
    · subst h2; rw [hpr, hr]; simp
    · rw [hpx y h1 h2, ne_eq, AObj.wo_gone]
  have hlocy : ∀ y, y ≠ q → c'.loc y = c.loc y := fun y h => if_neg h
  have hlocq : c'.loc q = x := if_pos rfl
  have hblkq : blockOf x = some g := by rw [hxv, hb']; simp [blockOf, hcap0]
  have htk : ∀ b, c'.taken b ↔ (c.taken b ∨ b = g) := by
    intro b
    constructor
    · rintro ⟨y, h1, h2⟩
      by_cases e : y = q
      · subst e; rw [hlocq, hblkq] at h2; exact .inr (by simpa using h2.symm)
      · rw [hlocy y e] at h2; exact .inl ⟨y, (hgone y e).1 h1, h2⟩
    · rintro (⟨y, h1, h2⟩ | rfl)
      · have e : y ≠ q := by rintro rfl; exact h1 hq
        exact ⟨y, (hgone y e).2 h1, by rw [hlocy y e]; exact h2⟩
      · exact ⟨q, by rw [hpq]; simp, by rw [hlocq]; exact hblkq⟩
  have K : Less n g c c' := by
    refine ⟨?_, ?_, fun v h => .inl h, ?_, fun n' h => G.namInj n' n g h hng, fun b hb => ⟨fun e => ?_, hb⟩⟩
    rotate_left 3
    · rw [e] at hb
      rcases hgo with h | h
      · have := G.base.2 g hb; omega
      · exact (G.outExt g h).2 hb
    · rintro b ⟨h1, h2, h3⟩ hbg
      exact ⟨⟨h1, h2, fun h => by rcases (htk b).1 h with h | h; exact h3 h; exact hbg h⟩, rfl⟩
    · intro n' b h hn'
      show (if n' = n then none else c.names n') = _
      rw [if_neg hn']; exact h
    · intro y u hu hy
      by_cases e : y = q
      · subst e; rw [hpq] at hy
        have : m = u := by simpa using hy
        subst this; exact absurd hu hnu
      · rw [hver y e] at hy; exact ⟨hy, hlocy y e⟩
  have Gr : ∀ y, y ≠ q → y ≠ r → ObjRep c' (c'.loc y) (c'.hp y) := fun y h1 h2 => by
    rw [hlocy y h1, hpx y h1 h2]
    exact ObjRep.wo K (G.obj y) fun _ _ => rfl
  refine ⟨m, c', ⟨?_, rfl, S.size, fun t => Rep.wo K _ _ (S.tm t), S.defers⟩, ⟨fun u hu => .inl (H0.used u hu), ?_, H0.ext, H0.base, H0.old⟩, rfl⟩
  · refine ⟨G.base, ?_, ?_, ?_, ?_, ?_, G.outExt, ?_, ?_, ?_, G.os, G.tape, G.output, G.size, G.frame⟩
    · intro y
      by_cases e1 : y = q
      · subst e1
        rw [hlocq, hpq]
        refine ⟨base', len', cap', hxv, hk', by rw [woL_eq, List.length_map]; exact hl', hm'.1, hm'.2, fun _ => hbn, .inr ⟨g, off', t', cells', hb', hf1, hf2, ?_⟩⟩
        have h3 : RepL c cs' ((cells'.toList.drop off').take (len' * k')) := by
          refine RepL.of_get ?_ ?_
          · rw [List.length_take, List.length_drop, hl']
            have h9 : cells'.toList.length = cells'.size := by simp
            have : len' * k' ≤ cap' * k' := Nat.mul_le_mul_right _ hm'.1
            rw [h9]; omega
          · intro j B u hB hu
            obtain ⟨u', hu', hr'⟩ := hrepA.get hB
            rw [cell_of_row c.w g (off' + j) cells' t' (0, 0) hf1] at hu'
            rw [List.getElem?_take] at hu
            split at hu
            · rw [List.getElem?_drop, Array.getElem?_toList] at hu
              rw [hu'] at hu
              simp only [Option.some.injEq] at hu
              subst hu; exact hr'
            · cases hu
        exact RepL.wo K _ _ h3
      · by_cases e2 : y = r
        · subst e2
          rw [hlocy y e1, hpr, hloc]
          refine ⟨base, nr, cap, rfl, hk, by rw [List.length_set, woL_eq, List.length_map]; exact hl, hncap, hcapm, hnn, .inr ⟨gr, off, t, cells, hbase, hheap, hfit, ?_⟩⟩
          refine RepL.put (RepL.wo K _ _ hrep) hx ?_
          simp only [Rep]
          exact ⟨.inr rfl, fun _ => hlocq.symm⟩
        · exact Gr y e1 e2
    · intro y y' b h1 h2 h3 h4
      by_cases e1 : y = q <;> by_cases e2 : y' = q
      · rw [e1, e2]
      · subst e1
        rw [hlocq, hblkq] at h3
        have : g = b := by simpa using h3
        subst this
        rw [hlocy y' e2] at h4
        exact absurd ⟨y', (hgone y' e2).1 h2, h4⟩ hgt
      · subst e2
        rw [hlocq, hblkq] at h4
        have : g = b := by simpa using h4
        subst this
        rw [hlocy y e1] at h3
        exact absurd ⟨y, (hgone y e1).1 h1, h3⟩ hgt
      · rw [hlocy y e1] at h3
        rw [hlocy y' e2] at h4
        exact G.inj y y' b ((hgone y e1).1 h1) ((hgone y' e2).1 h2) h3 h4
    · intro y b h1 h2
      by_cases e1 : y = q
      · subst e1
        rw [hlocq, hblkq] at h2
        have : g = b := by simpa using h2
        subst this; exact hgo
      · rw [hlocy y e1] at h2
        exact G.own y b ((hgone y e1).1 h1) h2
    · intro y u h
      by_cases e1 : y = q
      · subst e1
        rw [hpq] at h
        have : m = u := by simpa using h
        subst this
        refine ⟨.inr rfl, ?_⟩
        show (if m = n then none else c.names m) = none
        split
        · rfl
        · cases hcm : c.names m with
          | none => rfl
          | some b => exact absurd (G.nam m b hcm).1 hnu
      · rw [hver y e1] at h
        refine ⟨.inl (G.verU y u h).1, ?_⟩
        show (if u = n then none else c.names u) = none
        split
        · rfl
        · exact (G.verU y u h).2
    · intro y y' u h1 h2
      by_cases e1 : y = q <;> by_cases e2 : y' = q
      · rw [e1, e2]
      · subst e1
        rw [hpq] at h1
        have : m = u := by simpa using h1
        subst this
        rw [hver y' e2] at h2
        exact absurd (G.verU y' m h2).1 hnu
      · subst e2
        rw [hpq] at h2
        have : m = u := by simpa using h2
        subst this
        rw [hver y e1] at h1
        exact absurd (G.verU y m h1).1 hnu
      · rw [hver y e1] at h1
        rw [hver y' e2] at h2
        exact G.verInj y y' u h1 h2
    · intro n' b h
      have h' : (if n' = n then none else c.names n') = some b := h
      split at h'
      · cases h'
      · rename_i hn'
        obtain ⟨h1, h2, h3, h4⟩ := G.nam n' b h'
        refine ⟨.inl h1, h2, h3, fun ht => ?_⟩
        rcases (htk b).1 ht with h | h
        · exact h4 h
        · exact hn' (G.namInj n' n b h' (h ▸ hng))
    · intro n1 n2 b h1 h2
      have h1' : (if n1 = n then none else c.names n1) = some b := h1
      have h2' : (if n2 = n then none else c.names n2) = some b := h2
      split at h1'
      · cases h1'
      · split at h2'
        · cases h2'
        · exact G.namInj n1 n2 b h1' h2'
    · refine ⟨m + 1, ?_⟩
      rintro u (h | rfl)
      · exact Nat.lt_succ_of_lt (hm u h)
      · exact Nat.lt_succ_self _
  · intro y u hu hy
    by_cases e : y = q
    · subst e
      rw [hpq] at hy
      have : m = u := by simpa using hy
      subst this; exact absurd (H0.used m hu) hnu
    · rw [hver y e] at hy
      obtain ⟨h1, h2⟩ := H0.loc y u hu hy
      exact ⟨h1, (hlocy y e).trans h2⟩

theorem RepAt.put {c : Cz} {b : Nat} {A : AVal} {x : Value} : ∀ {cs : List AVal} {off i : Nat}, RepAt c b off cs → c.w.cell? ⟨b, off + i, none⟩ = some x → Rep c A x → RepAt c b off (cs.set i A)
  | [], _, _, _, _, _ => by simp [RepAt]
  | C :: cs, off, 0, h, e, hA => by
    simp only [RepAt, List.set_cons_zero] at h ⊢
    exact ⟨⟨x, by simpa using e, hA⟩, h.2⟩
  | C :: cs, off, i + 1, h, e, hA => by
    simp only [RepAt, List.set_cons_succ] at h ⊢
    exact ⟨h.1, RepAt.put h.2 (by rw [← e]; congr 2; omega) hA⟩

theorem Sim.tt {σ : St} {a : Act} {c : Cz} (S : Sim w0 outsC N σ a c) (H0 : Hist c0 c) {t0 i q n k k' : Nat} {cs cs' : List AVal} (hr : σ.tm t0 = .ro (some (some 0)) k cs) (hi : cs[i]? = some (.ro (some (some (n + 1))) k' cs')) (hne : cs' ≠ []) (hq : σ.hp q = .gone) : ∃ m c', Sim w0 outsC N (σ.tt t0 i q n m k k' cs cs') a c' ∧ Hist c0 c' ∧ c'.w = c.w := by
  have G := S.good
  obtain ⟨m, hm⟩ := G.fin
  have hnu : ¬ c.used m := fun h => absurd (hm m h) (Nat.lt_irrefl _)
  rw [← S.hp] at hq
  have hT := S.tm t0
  rw [hr] at hT
  generalize hx0 : a.tmps.getD t0 undef = x0 at hT
  simp only [Rep] at hT
  obtain ⟨baseT, lenT, capT, hvT, hkT, hlT, hmT, hnT, hcT⟩ := hT
  rcases hcT with h0 | ⟨gT, offT, hbT, hiT, hatT⟩
  · have : cs = [] := List.eq_nil_of_length_eq_zero h0
    rw [this] at hi; simp at hi
  obtain ⟨x, hxT, hA⟩ := hatT.get hi
  have hoT : c.old gT := by
    rcases (hnT _ rfl).2 with h0 | ⟨b, off, h1, h2⟩
    · have : cs = [] := List.eq_nil_of_length_eq_zero h0
      rw [this] at hi; simp at hi
    · rw [hbT] at h1; cases h1; exact h2
  simp only [Rep] at hA
  obtain ⟨base', len', cap', hxv, hk', hl', hm', hnm', hc'⟩ := hA
  have hlen0 : cs'.length ≠ 0 := fun e => hne (List.eq_nil_of_length_eq_zero e)
  have hcap0 : cap' ≠ 0 := by
    intro e
    have : len' = 0 := by omega
    rw [this] at hl'; simp at hl'; exact hne hl'
  rcases hc' with h0 | ⟨g, off', hb', himm, hrepA⟩
  · exact absurd h0 hlen0
  obtain ⟨hbn, h1⟩ := hnm' _ rfl
  have hbn := hbn rfl
  rcases h1 with h0 | ⟨g', off'', hb'', hnmd, t', cells', hf1, hf2⟩
  · exact absurd h0 hlen0
  rw [hb'] at hb''
  cases hb''
  have hng : c.names n = some g := hnmd
  obtain ⟨hgu, hgo, hgl, hgt⟩ := G.nam n g hng
  let c' : Cz := { c with hp := (σ.tt t0 i q n m k k' cs cs').hp, loc := fun x' => if x' = q then x else c.loc x', names := fun x' => if x' = n then none else c.names x', used := fun x' => c.used x' ∨ x' = m }
  have hpq : c'.hp q = .row m k' true (woL n cs') := by show (if q = q then _ else _) = _; rw [if_pos rfl]
  have hpx : ∀ y, y ≠ q → c'.hp y = (c.hp y).wo n := fun y h1 => by
    show (if y = q then _ else _) = _
    rw [if_neg h1, S.hp]
  have hver : ∀ y, y ≠ q → (c'.hp y).ver = (c.hp y).ver := fun y h1 => by
    rw [hpx y h1, AObj.wo_ver]
  have hgone : ∀ y, y ≠ q → (c'.hp y ≠ .gone ↔ c.hp y ≠ .gone) := fun y h1 => by
    rw [hpx y h1, ne_eq, AObj.wo_gone]
  have hlocy : ∀ y, y ≠ q → c'.loc y = c.loc y := fun y h => if_neg h
  have hlocq : c'.loc q = x := if_pos rfl
  have hblkq : blockOf x = some g := by rw [hxv, hb']; simp [blockOf, hcap0]
  have htk : ∀ b, c'.taken b ↔ (c.taken b ∨ b = g) := by
    intro b
    constructor
    · rintro ⟨y, h1, h2⟩
      by_cases e : y = q
      · subst e; rw [hlocq, hblkq] at h2; exact .inr (by simpa using h2.symm)
      · rw [hlocy y e] at h2; exact .inl ⟨y, (hgone y e).1 h1, h2⟩
    · rintro (⟨y, h1, h2⟩ | rfl)
      · have e : y ≠ q := by rintro rfl; exact h1 hq
        exact ⟨y, (hgone y e).2 h1, by rw [hlocy y e]; exact h2⟩
      · exact ⟨q, by rw [hpq]; simp, by rw [hlocq]; exact hblkq⟩
  have K : Less n g c c' := by
    refine ⟨?_, ?_, fun v h => .inl h, ?_, fun n' h => G.namInj n' n g h hng, fun b hb => ⟨fun e => ?_, hb⟩⟩
    rotate_left 3
    · rw [e] at hb
      rcases hgo with h | h
      · have := G.base.2 g hb; omega
      · exact (G.outExt g h).2 hb
    · rintro b ⟨h1, h2, h3⟩ hbg
      exact ⟨⟨h1, h2, fun h => by rcases (htk b).1 h with h | h; exact h3 h; exact hbg h⟩, rfl⟩
    · intro n' b h hn'
      show (if n' = n then none else c.names n') = _
      rw [if_neg hn']; exact h
    · intro y u hu hy
      by_cases e : y = q
      · subst e; rw [hpq] at hy
        have : m = u := by simpa using hy
        subst this; exact absurd hu hnu
      · rw [hver y e] at hy; exact ⟨hy, hlocy y e⟩
  have Gr : ∀ y, y ≠ q → ObjRep c' (c'.loc y) (c'.hp y) := fun y h1 => by
    rw [hlocy y h1, hpx y h1]
    exact ObjRep.wo K (G.obj y) fun _ _ => rfl
  refine ⟨m, c', ⟨?_, rfl, S.size, fun t => ?_, S.defers⟩, ⟨fun u hu => .inl (H0.used u hu), ?_, H0.ext, H0.base, H0.old⟩, rfl⟩
  rotate_left
  · show Rep c' (if t = t0 then .ro (some (some 0)) k ((woL n cs).set i (.own q m)) else (σ.tm t).wo n) _
    split
    · rename_i e; subst e
      rw [hx0]
      simp only [Rep]
      obtain ⟨hgT, hoT'⟩ := K.old gT hoT
      obtain ⟨him, hhp⟩ := K.imm gT hiT hgT
      refine ⟨baseT, lenT, capT, hvT, hkT, by rw [List.length_set, woL_eq, List.length_map]; exact hlT, hmT, ?_, .inr ⟨gT, offT, hbT, him, ?_⟩⟩
      · intro n0 e
        simp only [Option.some.injEq] at e; subst e
        exact ⟨(fun h => by cases h), .inr ⟨gT, offT, hbT, hoT'⟩⟩
      · refine RepAt.put (RepAt.wo K hhp cs offT hatT) (x := x) ?_ ?_
        · exact hxT
        · simp only [Rep]
          exact ⟨.inr rfl, fun _ => hlocq.symm⟩
    · exact Rep.wo K _ _ (S.tm t)
  rotate_right
  · refine ⟨G.base, ?_, ?_, ?_, ?_, ?_, G.outExt, ?_, ?_, ?_, G.os, G.tape, G.output, G.size, G.frame⟩
    · intro y
      by_cases e1 : y = q
      · subst e1
        rw [hlocq, hpq]
        refine ⟨base', len', cap', hxv, hk', by rw [woL_eq, List.length_map]; exact hl', hm'.1, hm'.2, fun _ => hbn, .inr ⟨g, off', t', cells', hb', hf1, hf2, ?_⟩⟩
        have h3 : RepL c cs' ((cells'.toList.drop off').take (len' * k')) := by
          refine RepL.of_get ?_ ?_
          · rw [List.length_take, List.length_drop, hl']
            have h9 : cells'.toList.length = cells'.size := by simp
            have : len' * k' ≤ cap' * k' := Nat.mul_le_mul_right _ hm'.1
            rw [h9]; omega
          · intro j B u hB hu
            obtain ⟨u', hu', hr'⟩ := hrepA.get hB
            rw [cell_of_row c.w g (off' + j) cells' t' (0, 0) hf1] at hu'
            rw [List.getElem?_take] at hu
            split at hu
            · rw [List.getElem?_drop, Array.getElem?_toList] at hu
              rw [hu'] at hu
              simp only [Option.some.injEq] at hu
              subst hu; exact hr'
            · cases hu
        exact RepL.wo K _ _ h3
      · exact Gr y e1
    · intro y y' b h1 h2 h3 h4
      by_cases e1 : y = q <;> by_cases e2 : y' = q
      · rw [e1, e2]
      · subst e1
        rw [hlocq, hblkq] at h3
        have : g = b := by simpa using h3
        subst this
        rw [hlocy y' e2] at h4
        exact absurd ⟨y', (hgone y' e2).1 h2, h4⟩ hgt
      · subst e2
        rw [hlocq, hblkq] at h4
        have : g = b := by simpa using h4
        subst this
        rw [hlocy y e1] at h3
        exact absurd ⟨y, (hgone y e1).1 h1, h3⟩ hgt
      · rw [hlocy y e1] at h3
        rw [hlocy y' e2] at h4
        exact G.inj y y' b ((hgone y e1).1 h1) ((hgone y' e2).1 h2) h3 h4
    · intro y b h1 h2
      by_cases e1 : y = q
      · subst e1
        rw [hlocq, hblkq] at h2
        have : g = b := by simpa using h2
        subst this; exact hgo
      · rw [hlocy y e1] at h2
        exact G.own y b ((hgone y e1).1 h1) h2
    · intro y u h
      by_cases e1 : y = q
      · subst e1
        rw [hpq] at h
        have : m = u := by simpa using h
        subst this
        refine ⟨.inr rfl, ?_⟩
        show (if m = n then none else c.names m) = none
        split
        · rfl
        · cases hcm : c.names m with
          | none => rfl
          | some b => exact absurd (G.nam m b hcm).1 hnu
      · rw [hver y e1] at h
        refine ⟨.inl (G.verU y u h).1, ?_⟩
        show (if u = n then none else c.names u) = none
        split
        · rfl
        · exact (G.verU y u h).2
    · intro y y' u h1 h2
      by_cases e1 : y = q <;> by_cases e2 : y' = q
      · rw [e1, e2]
      · subst e1
        rw [hpq] at h1
        have : m = u := by simpa using h1
        subst this
        rw [hver y' e2] at h2
        exact absurd (G.verU y' m h2).1 hnu
      · subst e2
        rw [hpq] at h2
        have : m = u := by simpa using h2
        subst this
        rw [hver y e1] at h1
        exact absurd (G.verU y m h1).1 hnu
      · rw [hver y e1] at h1
        rw [hver y' e2] at h2
        exact G.verInj y y' u h1 h2
    · intro n' b h
      have h' : (if n' = n then none else c.names n') = some b := h
      split at h'
      · cases h'
      · rename_i hn'
        obtain ⟨h1, h2, h3, h4⟩ := G.nam n' b h'
        refine ⟨.inl h1, h2, h3, fun ht => ?_⟩
        rcases (htk b).1 ht with h | h
        · exact h4 h
        · exact hn' (G.namInj n' n b h' (h ▸ hng))
    · intro n1 n2 b h1 h2
      have h1' : (if n1 = n then none else c.names n1) = some b := h1
      have h2' : (if n2 = n then none else c.names n2) = some b := h2
      split at h1'
      · cases h1'
      · split at h2'
        · cases h2'
        · exact G.namInj n1 n2 b h1' h2'
    · refine ⟨m + 1, ?_⟩
      rintro u (h | rfl)
      · exact Nat.lt_succ_of_lt (hm u h)
      · exact Nat.lt_succ_self _
  · intro y u hu hy
    by_cases e : y = q
    · subst e
      rw [hpq] at hy
      have : m = u := by simpa using hy
      subst this; exact absurd (H0.used m hu) hnu
    · rw [hver y e] at hy
      obtain ⟨h1, h2⟩ := H0.loc y u hu hy
      exact ⟨h1, (hlocy y e).trans h2⟩

/-- A row goes back into its row. -/
theorem Sim.rf {σ : St} {a : Act} {c : Cz} (S : Sim w0 outsC N σ a c) (H0 : Hist c0 c) {r i q v k ver k' : Nat} {nn nn' : Bool} {cs cs' : List AVal} (hr : σ.hp r = .row v k nn cs)
    (hi : cs[i]? = some (.own q ver)) (hqr : q ≠ r) (hq : σ.hp q = .row ver k' nn' cs') :
    (∀ n k'' cs'', AVal.ro (some (some (n + 1))) k'' cs'' ∈ cs → cs'' ≠ [] → n ≠ ver) ∧ ∃ c', Sim w0 outsC N (σ.rf r i q ver k' nn' cs') a c' ∧ Hist c0 c' ∧ c'.w = c.w := by
  have G := S.good
  rw [← S.hp] at hr hq
  obtain ⟨base, nr, cap, gr, off, t, cells, x, hloc, hk, hl, hncap, hcapm, hnn, hbase, hheap, hfit, hrep, hx, hA⟩ := row_cell G hr hi
  refine ⟨?_, ?_⟩
  · intro n k'' cs'' hmem hne e
    obtain ⟨j, hj⟩ := List.getElem?_of_mem hmem
    obtain ⟨u, _, hu⟩ := hrep.get hj
    simp only [Rep] at hu
    obtain ⟨_, _, _, _, _, _, _, hnm, _⟩ := hu
    rcases (hnm _ rfl).2 with h0 | ⟨b, _, _, hb, _⟩
    · exact hne (List.eq_nil_of_length_eq_zero h0)
    · have h1 := (G.verU q ver (by rw [hq]; rfl)).2
      have hb' : c.names n = some b := hb
      rw [e, h1] at hb'; cases hb'
  · obtain ⟨nm, G1, K1, hro⟩ := G.frz hq
    simp only [Rep] at hA
    have hxq : x = c.loc q := hA.2 (by rw [hq]; rfl)
    have hr1 : (c.frz q nm).hp r = .row v k nn cs := by simp only [Cz.frz, if_neg (Ne.symm hqr)]; exact hr
    have hl1 : (c.frz q nm).loc r = c.loc r := rfl
    have hu1 : (c.frz q nm).used v := (G1.verU r v (by rw [hr1]; rfl)).1
    have h2 := G1.upd c.w r (.row v k nn (cs.set i (.ro (frNm nn' cs'.length ver) k' cs'))) (c.loc r) v rfl rfl rfl (Nat.le_refl _) (fun _ _ _ => rfl)
      (by intro b' h; exact ⟨.inl ⟨by rw [hr1]; simp, h⟩, (G1.obj r).lt (by rw [hr1]; simp) h⟩)
      (.inr (.inr ⟨by rw [hr1]; rfl, rfl, hu1⟩)) (fun K => by
        refine ⟨base, nr, cap, hloc, hk, by rw [List.length_set]; exact hl, hncap, hcapm, hnn, .inr ⟨gr, off, t, cells, hbase, hheap, hfit, ?_⟩⟩
        refine RepL.put (RepL.keeps (K1.trans K) _ _ hrep) hx ?_
        rw [hxq]; exact hro.keeps K)
    obtain ⟨G2, K2⟩ := h2
    refine ⟨_, ⟨G2, ?_, S.size, fun t => (S.tm t).keeps (K1.trans K2), S.defers⟩, H0.step (K1.trans K2) rfl rfl, rfl⟩
    funext y
    show (if y = r then _ else if y = q then _ else c.hp y) = (if y = r then _ else if y = q then _ else σ.hp y)
    rw [← S.hp, hr]

end

/-! An object comes to another number. -/

mutual
def AVal.mv (a v b m : Nat) : AVal → AVal
  | .any => .any
  | .val x => .val x
  | .ro nm k cs => .ro nm k (mvL a v b m cs)
  | .own r u => if r = a then (if u = v then .own b m else .any) else if r = b then .any else .own r u
  | .st cs => .st (mvL a v b m cs)
  | .tup cs => .tup (mvL a v b m cs)
  | .ptr r u off => if r = a then (if u = v then .ptr b m off else .any) else if r = b then .any else .ptr r u off
  | .rp cs off => .rp (mvL a v b m cs) off
  | .mp r u => if r = a then (if u = v then .mp b m else .any) else if r = b then .any else .mp r u
  | .clo g caps => .clo g (mvL a v b m caps)
def mvL (a v b m : Nat) : List AVal → List AVal
  | [] => []
  | A :: cs => AVal.mv a v b m A :: mvL a v b m cs
end

theorem mvL_eq (a v b m : Nat) : ∀ cs : List AVal, mvL a v b m cs = cs.map (AVal.mv a v b m)
  | [] => by simp [mvL]
  | A :: cs => by simp [mvL, mvL_eq a v b m cs]

def AObj.mv (a v b m : Nat) : AObj → AObj
  | .gone => .gone
  | .box u cs => .box u (mvL a v b m cs)
  | .row u k nn cs => .row u k nn (mvL a v b m cs)
  | .map u ks vs => .map u ks (mvL a v b m vs)
/-- The same with another version. -/
def AObj.wv (m : Nat) : AObj → AObj
  | .gone => .gone
  | .box _ cs => .box m cs
  | .row _ k nn cs => .row m k nn cs
  | .map _ ks vs => .map m ks vs

theorem AObj.mv_ver (a v b m : Nat) (o : AObj) : (o.mv a v b m).ver = o.ver := by cases o <;> rfl
theorem AObj.mv_gone {a v b m : Nat} {o : AObj} : o.mv a v b m = .gone ↔ o = .gone := by cases o <;> simp [AObj.mv]
theorem AObj.wv_gone {m : Nat} {o : AObj} : o.wv m = .gone ↔ o = .gone := by cases o <;> simp [AObj.wv]
theorem AObj.wv_ver {m : Nat} {o : AObj} (h : o ≠ .gone) : (o.wv m).ver = some m := by cases o <;> simp_all [AObj.wv]

/-- Object a has the number b from now on, and the version m; what had the number b is forgotten. -/
def St.mv (σ : St) (a b m : Nat) : St :=
  match (σ.hp a).ver with
  | none => σ
  | some v => if a = b then σ else ⟨fun t => (σ.tm t).mv a v b m, fun r => if r = a then .gone else if r = b then ((σ.hp a).mv a v b m).wv m else (σ.hp r).mv a v b m⟩

/-- From c to c' object a, of version v, has come to number b, with version m. -/
structure Mv (a v b m : Nat) (c c' : Cz) : Prop where
  imm : ∀ x, c.imm x → c'.imm x ∧ c'.w.heap[x]? = c.w.heap[x]?
  names : ∀ n x, c.names n = some x → c'.names n = some x
  used : ∀ u, c.used u → c'.used u
  new : c'.used m ∧ ¬ c.used m
  ver : (c.hp a).ver = some v
  loc : ∀ r u, r ≠ a → r ≠ b → (c'.hp r).ver = some u → (c.hp r).ver = some u ∧ c'.loc r = c.loc r
  gone : c'.hp a = .gone
  atb : c'.loc b = c.loc a
  old : c'.old = c.old

mutual
theorem Rep.mv {a v b m : Nat} {c c' : Cz} (K : Mv a v b m c c') : ∀ (A : AVal) (x : Value), Rep c A x → Rep c' (A.mv a v b m) x
  | .any, _, _ => by simp [AVal.mv, Rep]
  | .val x, _, h => by simpa [AVal.mv, Rep] using h
  | .ro nm k cs, x, h => by
    simp only [AVal.mv, Rep] at h ⊢
    obtain ⟨base, len, cap, hv, hk, hl, hm, hn, hc⟩ := h
    refine ⟨base, len, cap, hv, hk, by rw [mvL_eq, List.length_map]; exact hl, hm, ?_, ?_⟩
    · intro n e
      refine ⟨(hn n e).1, ?_⟩
      rcases (hn n e).2 with h0 | ⟨y, off, hb, hnm⟩
      · left; rw [mvL_eq, List.length_map]; exact h0
      · rcases hc with hc | ⟨b', off', hb', hi, _⟩
        · left; rw [mvL_eq, List.length_map]; exact hc
        · rw [hb] at hb'
          cases hb'
          refine .inr ⟨y, off, hb, ?_⟩
          have hh := (K.imm y hi).2
          cases n with
          | none => obtain ⟨⟨n, h⟩, hf⟩ := hnm; exact ⟨⟨n, K.names _ _ h⟩, Cz.fit_of hf hh⟩
          | some n => cases n with
            | zero => show c'.old y; rw [K.old]; exact hnm
            | succ n => exact ⟨K.names _ _ hnm.1, Cz.fit_of hnm.2 hh⟩
    · rcases hc with hc | ⟨y, off, hb, hi, hr⟩
      · left; rw [mvL_eq, List.length_map]; exact hc
      · exact .inr ⟨y, off, hb, (K.imm y hi).1, RepAt.mv K (K.imm y hi).2 cs off hr⟩
  | .own r u, x, h => by
    simp only [AVal.mv]
    simp only [Rep] at h
    split
    · rename_i e; subst e
      split
      · rename_i e; subst e
        simp only [Rep]
        exact ⟨K.new.1, fun _ => by rw [K.atb]; exact h.2 K.ver⟩
      · simp [Rep]
    · rename_i e1
      split
      · simp [Rep]
      · rename_i e2
        simp only [Rep]
        refine ⟨K.used _ h.1, fun hr => ?_⟩
        obtain ⟨h1, h2⟩ := K.loc r u e1 e2 hr
        rw [h2]; exact h.2 h1
  | .st cs, x, h => by
    simp only [AVal.mv, Rep] at h ⊢
    obtain ⟨vs, hv, hl⟩ := h
    exact ⟨vs, hv, RepL.mv K cs vs.toList hl⟩
  | .tup cs, x, h => by
    simp only [AVal.mv, Rep] at h ⊢
    obtain ⟨vs, hv, hl⟩ := h
    exact ⟨vs, hv, RepL.mv K cs vs.toList hl⟩
  | .ptr r u off, x, h => by
    simp only [AVal.mv]
    simp only [Rep] at h
    split
    · rename_i e; subst e
      split
      · rename_i e; subst e
        simp only [Rep]
        exact ⟨K.new.1, fun _ => by rw [K.atb]; exact h.2 K.ver⟩
      · simp [Rep]
    · rename_i e1
      split
      · simp [Rep]
      · rename_i e2
        simp only [Rep]
        refine ⟨K.used _ h.1, fun hr => ?_⟩
        obtain ⟨h1, h2⟩ := K.loc r u e1 e2 hr
        rw [h2]; exact h.2 h1
  | .rp cs off, x, h => by
    simp only [AVal.mv, Rep] at h ⊢
    obtain ⟨y, o, hv, hi, hr⟩ := h
    exact ⟨y, o, hv, (K.imm y hi).1, RepAt.mv K (K.imm y hi).2 cs o hr⟩
  | .mp r u, x, h => by
    simp only [AVal.mv]
    simp only [Rep] at h
    split
    · rename_i e; subst e
      split
      · rename_i e; subst e
        simp only [Rep]
        exact ⟨K.new.1, fun _ => by rw [K.atb]; exact h.2 K.ver⟩
      · simp [Rep]
    · rename_i e1
      split
      · simp [Rep]
      · rename_i e2
        simp only [Rep]
        refine ⟨K.used _ h.1, fun hr => ?_⟩
        obtain ⟨h1, h2⟩ := K.loc r u e1 e2 hr
        rw [h2]; exact h.2 h1
  | .clo f caps, x, h => by
    simp only [AVal.mv, Rep] at h ⊢
    obtain ⟨vs, hv, hl⟩ := h
    exact ⟨vs, hv, RepL.mv K caps vs.toList hl⟩
theorem RepAt.mv {a v b m : Nat} {c c' : Cz} (K : Mv a v b m c c') {y : Nat} (hb : c'.w.heap[y]? = c.w.heap[y]?) : ∀ (cs : List AVal) (off : Nat), RepAt c y off cs → RepAt c' y off (mvL a v b m cs)
  | [], _, _ => by simp [mvL, RepAt]
  | A :: cs, off, h => by
    simp only [mvL, RepAt] at h ⊢
    obtain ⟨⟨x, hx, hr⟩, ht⟩ := h
    refine ⟨⟨x, ?_, Rep.mv K A x hr⟩, RepAt.mv K hb cs (off + 1) ht⟩
    rw [World.cell?_of_block (w := c.w) hb]; exact hx
theorem RepL.mv {a v b m : Nat} {c c' : Cz} (K : Mv a v b m c c') : ∀ (cs : List AVal) (vs : List Value), RepL c cs vs → RepL c' (mvL a v b m cs) vs
  | [], [], _ => by simp [mvL, RepL]
  | [], _ :: _, h => by simp [RepL] at h
  | _ :: _, [], h => by simp [RepL] at h
  | A :: cs, x :: vs, h => by
    simp only [mvL, RepL] at h ⊢
    exact ⟨Rep.mv K A x h.1, RepL.mv K cs vs h.2⟩
end

theorem ObjRep.mv {a v b m : Nat} {c c' : Cz} (K : Mv a v b m c c') {x : Value} {o : AObj} (h : ObjRep c x o) (hw : c'.w = c.w) : ObjRep c' x (o.mv a v b m) := by
  cases o with
  | gone => trivial
  | box ver cs =>
    obtain ⟨g, t, cells, rfl, hg, hr⟩ := h
    exact ⟨g, t, cells, rfl, by rw [hw]; exact hg, RepL.mv K _ _ hr⟩
  | row ver k nn cs =>
    obtain ⟨base, n, cap, rfl, h1, h2, h3, h4, h5, hc⟩ := h
    refine ⟨base, n, cap, rfl, h1, by rw [mvL_eq, List.length_map]; exact h2, h3, h4, h5, ?_⟩
    rcases hc with hc | ⟨g, off, t, cells, rfl, hg, h6, h7⟩
    · exact .inl hc
    · exact .inr ⟨g, off, t, cells, rfl, by rw [hw]; exact hg, h6, RepL.mv K _ _ h7⟩
  | map ver ks vs =>
    obtain ⟨g, clock, ents, rfl, hg, h1, h2⟩ := h
    exact ⟨g, clock, ents, rfl, by rw [hw]; exact hg, h1, RepL.mv K _ _ h2⟩
theorem ObjRep.wv {c : Cz} {x : Value} {o : AObj} {m : Nat} (h : ObjRep c x o) : ObjRep c x (o.wv m) := by cases o <;> exact h

section
variable {w0 : World} {outsC : Nat → Prop} {N : Nat} {c0 : Cz}

theorem Sim.mv {σ : St} {t : Act} {c : Cz} (S : Sim w0 outsC N σ t c) (H0 : Hist c0 c) (a b : Nat) : ∃ m c', Sim w0 outsC N (σ.mv a b m) t c' ∧ Hist c0 c' ∧ c'.w = c.w := by
  have G := S.good
  obtain ⟨m, hm⟩ := G.fin
  have hnu : ¬ c.used m := fun h => absurd (hm m h) (Nat.lt_irrefl _)
  refine ⟨m, ?_⟩
  unfold St.mv
  split
  · exact ⟨c, S, H0, rfl⟩
  · rename_i v hv
    rw [← S.hp] at hv
    by_cases hab : a = b
    · rw [if_pos hab]; exact ⟨c, S, H0, rfl⟩
    rw [if_neg hab]
    have hga : c.hp a ≠ .gone := ver_ne_gone hv
    let hp' : Nat → AObj := fun r => if r = a then .gone else if r = b then ((σ.hp a).mv a v b m).wv m else (σ.hp r).mv a v b m
    let c' : Cz := { c with hp := hp', loc := fun r => if r = b then c.loc a else c.loc r, used := fun u => c.used u ∨ u = m }
    have pa : c'.hp a = .gone := if_pos rfl
    have pb : c'.hp b = ((c.hp a).mv a v b m).wv m := by
      show (if b = a then _ else if b = b then _ else _) = _
      rw [if_neg (Ne.symm hab), if_pos rfl, S.hp]
    have pr : ∀ r, r ≠ a → r ≠ b → c'.hp r = (c.hp r).mv a v b m := fun r h1 h2 => by
      show (if r = a then _ else if r = b then _ else _) = _
      rw [if_neg h1, if_neg h2, S.hp]
    have lb : c'.loc b = c.loc a := if_pos rfl
    have lr : ∀ r, r ≠ b → c'.loc r = c.loc r := fun r h => if_neg h
    have hgb : ((c.hp a).mv a v b m).wv m ≠ .gone := by rw [ne_eq, AObj.wv_gone, AObj.mv_gone]; exact hga
    have hvb : (c'.hp b).ver = some m := by rw [pb]; exact AObj.wv_ver (by rw [ne_eq, AObj.mv_gone]; exact hga)
    -- who has a block now had it before
    have back : ∀ r, c'.hp r ≠ .gone → ∃ r', c.hp r' ≠ .gone ∧ c.loc r' = c'.loc r ∧ (r' = if r = b then a else r) := by
      intro r h
      by_cases e2 : r = b
      · subst e2; exact ⟨a, hga, lb.symm, (if_pos rfl).symm⟩
      · by_cases e1 : r = a
        · subst e1; exact absurd pa h
        · rw [pr r e1 e2, ne_eq, AObj.mv_gone] at h
          exact ⟨r, h, (lr r e2).symm, (if_neg e2).symm⟩
    have htk : ∀ x, ¬ c.taken x → ¬ c'.taken x := by
      rintro x hx ⟨r, h1, h2⟩
      obtain ⟨r', h3, h4, _⟩ := back r h1
      exact hx ⟨r', h3, by rw [h4]; exact h2⟩
    have hrv : ∀ r u, r ≠ a → r ≠ b → (c'.hp r).ver = some u → (c.hp r).ver = some u := fun r u h1 h2 h => by
      rw [pr r h1 h2, AObj.mv_ver] at h; exact h
    have K : Mv a v b m c c' := by
      refine ⟨?_, fun n x h => h, fun u h => .inl h, ⟨.inr rfl, hnu⟩, hv, ?_, pa, lb, rfl⟩
      · rintro x ⟨h1, h2, h3⟩; exact ⟨⟨h1, h2, htk x h3⟩, rfl⟩
      · intro r u h1 h2 h; exact ⟨hrv r u h1 h2 h, lr r h2⟩
    refine ⟨c', ⟨?_, rfl, S.size, fun n => Rep.mv K _ _ (S.tm n), S.defers⟩, ⟨fun u hu => .inl (H0.used u hu), ?_, H0.ext, H0.base, H0.old⟩, rfl⟩
    · refine ⟨G.base, ?_, ?_, ?_, ?_, ?_, G.outExt, ?_, G.namInj, ?_, G.os, G.tape, G.output, G.size, G.frame⟩
      · intro r
        by_cases e1 : r = a
        · subst e1; rw [pa]; trivial
        · by_cases e2 : r = b
          · subst e2
            rw [pb, lb]
            exact ((G.obj a).mv K rfl).wv
          · rw [pr r e1 e2, lr r e2]; exact (G.obj r).mv K rfl
      · intro r r' x h1 h2 h3 h4
        obtain ⟨q, g1, g2, g3⟩ := back r h1
        obtain ⟨q', g1', g2', g3'⟩ := back r' h2
        have e := G.inj q q' x g1 g1' (by rw [g2]; exact h3) (by rw [g2']; exact h4)
        have ha1 : r ≠ a := fun e => h1 (e ▸ pa)
        have ha2 : r' ≠ a := fun e => h2 (e ▸ pa)
        rw [g3, g3'] at e
        by_cases e1 : r = b <;> by_cases e2 : r' = b <;> simp only [e1, e2, if_true, if_false] at e ⊢
        · exact absurd e.symm ha2
        · exact absurd e ha1
        · exact e
      · intro r x h1 h2
        obtain ⟨q, g1, g2, _⟩ := back r h1
        exact G.own q x g1 (by rw [g2]; exact h2)
      · intro r u h
        by_cases e2 : r = b
        · subst e2
          rw [hvb] at h
          have : m = u := by simpa using h
          subst this
          refine ⟨.inr rfl, ?_⟩
          show c.names m = none
          cases hcm : c.names m with
          | none => rfl
          | some x => exact absurd (G.nam m x hcm).1 hnu
        · by_cases e1 : r = a
          · subst e1; rw [pa] at h; cases h
          · exact ⟨.inl (G.verU r u (hrv r u e1 e2 h)).1, (G.verU r u (hrv r u e1 e2 h)).2⟩
      · intro r r' u h1 h2
        by_cases e1 : r = b <;> by_cases e2 : r' = b
        · rw [e1, e2]
        · subst e1
          rw [hvb] at h1
          have : m = u := by simpa using h1
          subst this
          have ha2 : r' ≠ a := by rintro rfl; rw [pa] at h2; cases h2
          exact absurd (G.verU r' m (hrv r' m ha2 e2 h2)).1 hnu
        · subst e2
          rw [hvb] at h2
          have : m = u := by simpa using h2
          subst this
          have ha2 : r ≠ a := by rintro rfl; rw [pa] at h1; cases h1
          exact absurd (G.verU r m (hrv r m ha2 e1 h1)).1 hnu
        · have ha1 : r ≠ a := by rintro rfl; rw [pa] at h1; cases h1
          have ha2 : r' ≠ a := by rintro rfl; rw [pa] at h2; cases h2
          exact G.verInj r r' u (hrv r u ha1 e1 h1) (hrv r' u ha2 e2 h2)
      · intro n x h
        obtain ⟨h1, h2, h3, h4⟩ := G.nam n x h
        exact ⟨.inl h1, h2, h3, htk x h4⟩
      · refine ⟨m + 1, ?_⟩
        rintro u (h | rfl)
        · exact Nat.lt_succ_of_lt (hm u h)
        · exact Nat.lt_succ_self _
    · intro r u hu h
      by_cases e2 : r = b
      · subst e2
        rw [hvb] at h
        have : m = u := by simpa using h
        subst this; exact absurd (H0.used m hu) hnu
      · by_cases e1 : r = a
        · subst e1; rw [pa] at h; cases h
        · obtain ⟨h1, h2⟩ := H0.loc r u hu (hrv r u e1 e2 h)
          exact ⟨h1, (lr r e2).trans h2⟩

end
end Go.Ab
