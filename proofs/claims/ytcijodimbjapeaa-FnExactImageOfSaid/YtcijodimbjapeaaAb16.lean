/- The abstract semantics of whole code is right: branches, loops, regions in the order of the text. Conditions: none. -/
import Derived.Test.YtcijodimbjapeaaAbT
set_option linter.all false
namespace Go.Ab
set_option maxRecDepth 20000

mutual
/-- A value uses these versions and names alone. -/
def AVal.uses (U : Nat → Prop) : AVal → Prop
  | .any => True
  | .val _ => True
  | .ro nm _ cs => (∀ n, nm = some (some (n + 1)) → cs.length = 0 ∨ U n) ∧ usesL U cs
  | .own _ v => U v
  | .st cs => usesL U cs
  | .tup cs => usesL U cs
  | .ptr _ v _ => U v
  | .rp cs _ => usesL U cs
  | .mp _ v => U v
  | .clo _ caps => usesL U caps
def usesL (U : Nat → Prop) : List AVal → Prop
  | [] => True
  | A :: cs => AVal.uses U A ∧ usesL U cs
end

def AObj.uses (U : Nat → Prop) : AObj → Prop
  | .gone => True
  | .box v cs => U v ∧ usesL U cs
  | .row v _ _ cs => U v ∧ usesL U cs
  | .map v _ vs => U v ∧ usesL U vs

mutual
theorem Rep.uses {w0 : World} {outs : Nat → Prop} {c : Cz} (G : Good w0 outs c) : ∀ (A : AVal) (v : Value), Rep c A v → A.uses c.used
  | .any, _, _ => by simp [AVal.uses]
  | .val _, _, _ => by simp [AVal.uses]
  | .ro nm k cs, v, h => by
    simp only [Rep] at h
    obtain ⟨base, len, cap, _, _, _, _, hn, hc⟩ := h
    simp only [AVal.uses]
    refine ⟨?_, ?_⟩
    · intro n e
      rcases (hn _ e).2 with h0 | ⟨b, off, _, hb⟩
      · exact .inl h0
      · exact .inr (G.nam n b hb.1).1
    · rcases hc with h0 | ⟨b, off, _, _, hr⟩
      · have : cs = [] := List.eq_nil_of_length_eq_zero h0
        subst this; simp [usesL]
      · exact RepAt.uses G cs b off hr
  | .own _ _, _, h => by simp only [Rep] at h; simp only [AVal.uses]; exact h.1
  | .st cs, v, h => by
    simp only [Rep] at h; obtain ⟨vs, _, hl⟩ := h
    simp only [AVal.uses]; exact RepL.uses G cs vs.toList hl
  | .tup cs, v, h => by
    simp only [Rep] at h; obtain ⟨vs, _, hl⟩ := h
    simp only [AVal.uses]; exact RepL.uses G cs vs.toList hl
  | .ptr _ _ _, _, h => by simp only [Rep] at h; simp only [AVal.uses]; exact h.1
  | .rp cs off, v, h => by
    simp only [Rep] at h; obtain ⟨b, o, _, _, hr⟩ := h
    simp only [AVal.uses]; exact RepAt.uses G cs b o hr
  | .mp _ _, _, h => by simp only [Rep] at h; simp only [AVal.uses]; exact h.1
  | .clo _ caps, v, h => by
    simp only [Rep] at h; obtain ⟨vs, _, hl⟩ := h
    simp only [AVal.uses]; exact RepL.uses G caps vs.toList hl
theorem RepAt.uses {w0 : World} {outs : Nat → Prop} {c : Cz} (G : Good w0 outs c) : ∀ (cs : List AVal) (b off : Nat), RepAt c b off cs → usesL c.used cs
  | [], _, _, _ => by simp [usesL]
  | A :: cs, b, off, h => by
    simp only [RepAt] at h
    obtain ⟨⟨v, _, hr⟩, ht⟩ := h
    simp only [usesL]; exact ⟨Rep.uses G A v hr, RepAt.uses G cs b (off + 1) ht⟩
theorem RepL.uses {w0 : World} {outs : Nat → Prop} {c : Cz} (G : Good w0 outs c) : ∀ (cs : List AVal) (vs : List Value), RepL c cs vs → usesL c.used cs
  | [], _, _ => by simp [usesL]
  | _ :: _, [], h => by simp [RepL] at h
  | A :: cs, v :: vs, h => by
    simp only [RepL] at h
    simp only [usesL]; exact ⟨Rep.uses G A v h.1, RepL.uses G cs vs h.2⟩
end

theorem ObjRep.uses {w0 : World} {outs : Nat → Prop} {c : Cz} (G : Good w0 outs c) (r : Nat) : (c.hp r).uses c.used := by
  have hO := G.obj r
  have hv := G.verU r
  cases ho : c.hp r with
  | gone => trivial
  | box v cs =>
    rw [ho] at hO hv
    obtain ⟨_, _, _, _, _, hl⟩ := hO
    exact ⟨(hv v rfl).1, RepL.uses G _ _ hl⟩
  | row v k nn cs =>
    rw [ho] at hO hv
    obtain ⟨base, n, cap, _, hk, hlen, hnc, _, _, hc⟩ := hO
    refine ⟨(hv v rfl).1, ?_⟩
    rcases hc with h0 | ⟨_, _, _, _, _, _, _, hl⟩
    · have : n = 0 := by omega
      subst this
      have : cs = [] := List.eq_nil_of_length_eq_zero (by omega)
      subst this; simp [usesL]
    · exact RepL.uses G _ _ hl
  | map v ks vs =>
    rw [ho] at hO hv
    obtain ⟨_, _, _, _, _, _, hl⟩ := hO
    exact ⟨(hv v rfl).1, RepL.uses G _ _ hl⟩

/-- New versions for a region. -/
structure New (vs : Nat → Nat → Nat) (U : Nat → Prop) (σ : St) : Prop where
  inj : ∀ i j i' j', vs i j = vs i' j' → i = i' ∧ j = j'
  new : ∀ i j, ¬ U (vs i j)
  tm : ∀ t, (σ.tm t).uses U
  hp : ∀ r, (σ.hp r).uses U

def wpC (P : Program) : AC → (AEx → St → Prop) → St → Prop
  | .skip, Q, σ => Q .normal σ
  | .reg draw ops, Q, σ => ∀ vs U, New vs U σ → wpOps (!draw) (wpCall P draw) vs 0 ops σ (Q .normal)
  | .kp ts hs a, Q, σ => wpC P a Q (σ.keep ts hs)
  | .regi draw ops, Q, σ => ∀ vs U, New vs U σ → wpOps (!draw) (wpCall P draw) vs 0 ops σ (Q .normal)
  | .gh a, Q, σ => σ.Dist → ∃ gs, gwp gs (fun σ' => wpC P a Q σ') σ
  | .mv x y a, Q, σ => ∀ m, wpC P a Q (σ.mv x y m)
  | .dn a, Q, σ => wpC P a Q σ.dn
  | .ad b off r k a, Q, σ => ∀ ver, wpC P a Q (σ.adopt b off r k ver)
  | .seq a b, Q, σ => wpC P a (fun e σ' => match e with | .normal => wpC P b Q σ' | e => Q e σ') σ
  | .cond c a b, Q, σ => match σ.ev c with
    | .val (.bool t) => (t = true → wpC P a Q σ) ∧ (t = false → wpC P b Q σ)
    | _ => False
  | .block id a, Q, σ => wpC P a (fun e σ' => match e with | .exit i => if i = id then Q .normal σ' else Q (.exit i) σ' | e => Q e σ') σ
  | .loop a, Q, σ => ∃ I : Nat → St → Prop, (∃ n, I n σ) ∧ ∀ n σ', I n σ' → wpC P a (fun e σ'' => match e with | .normal => ∃ k, k < n ∧ I k σ'' | e => Q e σ'') σ'
  | .exit id, Q, σ => Q (.exit id) σ
  | .ret, Q, σ => Q .ret σ
  | .stuck, _, _ => False

/-- Without the marks of what is kept. -/
def AC.erase : AC → AC
  | .kp _ _ a => a.erase
  | .dn a => a.erase
  | .gh a => a.erase
  | .mv _ _ a => a.erase
  | .regi draw ops => .reg draw ops
  | .ad _ _ _ _ a => a.erase
  | .seq a b => .seq a.erase b.erase
  | .cond c a b => .cond c a.erase b.erase
  | .block id a => .block id a.erase
  | .loop a => .loop a.erase
  | a => a

def cRegion (P : Program) (N : Nat) (ops : Array Oper) : List Oper → Option (List AOp)
  | [] => some []
  | o :: os => match cOper P N ops o, cRegion P N ops os with
    | some x, some xs => some (x :: xs)
    | _, _ => none

/-- A region, translated; where it is not: a place that is not to be reached. -/
def cReg (dr : Array Oper → List AOp → Option (List AOp)) (P : Program) (N : Nat) (ops : Array Oper) (draw : Bool) : AC := match cRegion P N ops ops.toList with
  | some xs => if draw = true then (match dr ops xs with | some ys => .reg true ys | none => .stuck) else .reg false xs
  | none => .stuck

theorem cReg_or (dr : Array Oper → List AOp → Option (List AOp)) (P : Program) (N : Nat) (ops : Array Oper) (draw : Bool) :
    cReg dr P N ops draw = .stuck ∨ ∃ xs ys, cReg dr P N ops draw = .reg draw ys ∧ cRegion P N ops ops.toList = some xs ∧ (draw = true → dr ops xs = some ys) ∧ (draw = false → ys = xs) := by
  unfold cReg
  cases h : cRegion P N ops ops.toList with
  | none => exact .inl rfl
  | some xs =>
    cases draw with
    | false => exact .inr ⟨xs, xs, rfl, rfl, (fun e => by cases e), fun _ => rfl⟩
    | true =>
      cases hd : dr ops xs with
      | none => exact .inl (by simp [hd])
      | some ys => exact .inr ⟨xs, ys, by simp [hd], rfl, fun _ => hd, (fun e => by cases e)⟩

/-- The code of a function, translated; dr: which regions with open order are taken. -/
def cCode (dr : Array Oper → List AOp → Option (List AOp)) (P : Program) (N : Nat) : Code → Option AC
  | .skip => some .skip
  | .region _ ops draw => some (cReg dr P N ops draw)
  | .seq a b => match cCode dr P N a, cCode dr P N b with
    | some x, some y => some (.seq x y)
    | _, _ => none
  | .cond c a b => match cOpd c, cCode dr P N a, cCode dr P N b with
    | some c, some x, some y => some (.cond c x y)
    | _, _, _ => some .stuck
  | .block id a => (cCode dr P N a).map (.block id)
  | .loop a => (cCode dr P N a).map .loop
  | .exit id => some (.exit id)
  | .ret => some .ret
  | _ => some .stuck

theorem cRegion_get {P : Program} {N : Nat} {ops : Array Oper} : ∀ {os : List Oper} {xs : List AOp}, cRegion P N ops os = some xs → os.length = xs.length ∧ ∀ (i : Nat) o x, os[i]? = some o → xs[i]? = some x → cOper P N ops o = some x
  | [], xs, h => by simp [cRegion] at h; subst h; simp
  | o :: os, xs, h => by
    simp only [cRegion] at h
    split at h
    · rename_i x xs' h1 h2
      simp only [Option.some.injEq] at h; subst h
      obtain ⟨h3, h4⟩ := cRegion_get h2
      refine ⟨by simp [h3], fun i o' x' ho hx => ?_⟩
      cases i with
      | zero => simp at ho hx; subst ho hx; exact h1
      | succ i => exact h4 i o' x' (by simpa using ho) (by simpa using hx)
    · cases h

/-- As the model names the ways out. -/
def AEx.conc : AEx → Exit
  | .normal => .normal
  | .exit id => .exit id
  | .ret => .ret

/-- A loop whose measure stands in no slot. -/
theorem wp_loop_ix {P : Program} {Q : Exit → Act → World → Prop} {a : Act} {w : World} {c : Code} (I : Nat → Act → World → Prop) (h₀ : ∃ n, I n a w)
    (round : ∀ n a w, I n a w → c.wp P (Exit.then (fun a' w' => ∃ k, k < n ∧ I k a' w') Q) a w) : (Code.loop c).wp P Q a w := by
  intro b k cs
  have key : ∀ n a w, I n a w → ∃ e a' w', Q e a' w' ∧ Arrives P (lone (b.at a (.code c :: .inLoop c :: k)) cs w) b k cs e a' w' := by
    intro n
    induction n using Nat.strongRecOn with
    | _ n ih =>
      intro a w hI
      obtain ⟨e, a₁, w₁, hq, harr⟩ := round n a w hI b (.inLoop c :: k) cs
      cases e with
      | normal =>
        obtain ⟨m, hlt, hI₁⟩ := hq
        obtain ⟨e₂, a₂, w₂, hq₂, harr₂⟩ := ih m hlt a₁ w₁ hI₁
        exact ⟨e₂, a₂, w₂, hq₂, .of_steps (Steps.trans harr (.one step_inLoop)) harr₂⟩
      | exit id => exact ⟨_, a₁, w₁, hq, .pass (x := .inLoop c) rfl (fun _ _ => .inl (by simp)) harr⟩
      | goto l => exact ⟨_, a₁, w₁, hq, .pass (x := .inLoop c) rfl (fun _ _ => .inl (by simp)) harr⟩
      | ret => exact ⟨_, a₁, w₁, hq, .pass (x := .inLoop c) rfl (fun _ _ => .inl (by simp)) harr⟩
      | panic ch => exact ⟨_, a₁, w₁, hq, .pass (x := .inLoop c) rfl (fun _ _ => .inl (by simp)) harr⟩
      | outgrown => exact ⟨_, a₁, w₁, hq, .pass (x := .inLoop c) rfl (fun _ _ => .inl (by simp)) harr⟩
  obtain ⟨n, hn⟩ := h₀
  obtain ⟨e, a', w', hq, harr⟩ := key n a w hn
  exact ⟨e, a', w', hq, .of_steps (.one step_loop) harr⟩

section
variable {P : Program} {w0 : World} {outsC : Nat → Prop} {N : Nat} {c0 : Cz}

/-- Objects may be forgotten. -/
theorem Sim.drop {σ : St} {a : Act} {c : Cz} (S : Sim w0 outsC N σ a c) (H0 : Hist c0 c) (σ' : St) (ht : ∀ n, σ'.tm n = .any ∨ σ'.tm n = σ.tm n) (hh : ∀ r, σ'.hp r = .gone ∨ σ'.hp r = σ.hp r) :
    ∃ c', Sim w0 outsC N σ' a c' ∧ Hist c0 c' ∧ c'.w = c.w := by
  have G := S.good
  have hg : ∀ r, σ'.hp r ≠ .gone → σ'.hp r = c.hp r := by
    intro r h; rcases hh r with h1 | h1
    · exact absurd h1 h
    · rw [h1, S.hp]
  have hg' : ∀ r, σ'.hp r ≠ .gone → c.hp r ≠ .gone := fun r h => hg r h ▸ h
  have htk : ∀ b, ¬ c.taken b → ¬ ({ c with hp := σ'.hp } : Cz).taken b := fun b h ⟨r, h1, h2⟩ => h ⟨r, hg' r h1, h2⟩
  have K : Keeps c { c with hp := σ'.hp } := by
    refine ⟨fun b ⟨h1, h2, h3⟩ => ⟨⟨h1, h2, htk b h3⟩, rfl⟩, fun _ _ h => h, fun _ h => h, ?_, rfl⟩
    intro r v _ h
    have h' : (σ'.hp r).ver = some v := h
    rw [hg r (ver_ne_gone h')] at h'
    exact ⟨h', rfl⟩
  refine ⟨{ c with hp := σ'.hp }, ⟨?_, rfl, S.size, ?_, S.defers⟩, H0.step K rfl rfl, rfl⟩
  · refine ⟨G.base, ?_, ?_, ?_, ?_, ?_, G.outExt, ?_, G.namInj, G.fin, G.os, G.tape, G.output, G.size, G.frame⟩
    · intro r
      show ObjRep _ (c.loc r) (σ'.hp r)
      by_cases h : σ'.hp r = .gone
      · rw [h]; trivial
      · rw [hg r h]; exact (G.obj r).keeps K fun _ _ => rfl
    · intro r r' b h1 h2 h3 h4; exact G.inj r r' b (hg' r h1) (hg' r' h2) h3 h4
    · intro r b h1 h2; exact G.own r b (hg' r h1) h2
    · intro r v h
      have h' : (σ'.hp r).ver = some v := h
      rw [hg r (ver_ne_gone h')] at h'
      exact G.verU r v h'
    · intro r r' v h1 h2
      have h1' : (σ'.hp r).ver = some v := h1
      have h2' : (σ'.hp r').ver = some v := h2
      rw [hg r (ver_ne_gone h1')] at h1'
      rw [hg r' (ver_ne_gone h2')] at h2'
      exact G.verInj r r' v h1' h2'
    · intro n b h
      obtain ⟨h1, h2, h3, h4⟩ := G.nam n b h
      exact ⟨h1, h2, h3, htk b h4⟩
  · intro n
    rcases ht n with h | h
    · rw [h]; simp [Rep]
    · rw [h]; exact (S.tm n).keeps K

/-- Names may be forgotten. -/
theorem Sim.dn {σ : St} {a : Act} {c : Cz} (S : Sim w0 outsC N σ a c) (H0 : Hist c0 c) : ∃ c', Sim w0 outsC N σ.dn a c' ∧ Hist c0 c' ∧ c'.w = c.w := by
  have G := S.good
  have hv : ∀ r, (σ.dn.hp r).ver = (c.hp r).ver := fun r => by rw [S.hp]; exact AObj.dn_ver _
  have hg : ∀ r, σ.dn.hp r ≠ .gone ↔ c.hp r ≠ .gone := fun r => by rw [S.hp]; exact not_congr AObj.dn_gone
  have htk : ∀ b, ¬ c.taken b → ¬ ({ c with hp := σ.dn.hp } : Cz).taken b := fun b h ⟨r, h1, h2⟩ => h ⟨r, (hg r).1 h1, h2⟩
  have K : Keeps c { c with hp := σ.dn.hp } := by
    refine ⟨fun b ⟨h1, h2, h3⟩ => ⟨⟨h1, h2, htk b h3⟩, rfl⟩, fun _ _ h => h, fun _ h => h, ?_, rfl⟩
    intro r v _ h
    have h' : (σ.dn.hp r).ver = some v := h
    rw [hv] at h'
    exact ⟨h', rfl⟩
  refine ⟨{ c with hp := σ.dn.hp }, ⟨?_, rfl, S.size, fun n => (Rep.dn _ _ (S.tm n)).keeps K, S.defers⟩, H0.step K rfl rfl, rfl⟩
  refine ⟨G.base, ?_, ?_, ?_, ?_, ?_, G.outExt, ?_, G.namInj, G.fin, G.os, G.tape, G.output, G.size, G.frame⟩
  · intro r
    have h1 := (G.obj r).dn
    rw [S.hp] at h1
    exact h1.keeps K fun _ _ => rfl
  · intro r r' b h1 h2 h3 h4; exact G.inj r r' b ((hg r).1 h1) ((hg r').1 h2) h3 h4
  · intro r b h1 h2; exact G.own r b ((hg r).1 h1) h2
  · intro r v h
    have h' : (σ.dn.hp r).ver = some v := h
    rw [hv] at h'
    exact G.verU r v h'
  · intro r r' v h1 h2
    have h1' : (σ.dn.hp r).ver = some v := h1
    have h2' : (σ.dn.hp r').ver = some v := h2
    rw [hv] at h1' h2'
    exact G.verInj r r' v h1' h2'
  · intro n b h
    obtain ⟨h1, h2, h3, h4⟩ := G.nam n b h
    exact ⟨h1, h2, h3, htk b h4⟩

theorem gwp_sound {a : Act} {K : St → Prop} : ∀ (gs : List GStep) (σ : St) (c : Cz), Sim w0 outsC N σ a c → Hist c0 c → gwp gs K σ → ∃ σ' c', K σ' ∧ Sim w0 outsC N σ' a c' ∧ Hist c0 c' ∧ c'.w = c.w
  | [], σ, c, S, H0, h => ⟨σ, c, h, S, H0, rfl⟩
  | .dn :: gs, σ, c, S, H0, h => by
    obtain ⟨c1, S1, H1, e1⟩ := S.dn H0
    obtain ⟨σ', c', h1, h2, h3, h4⟩ := gwp_sound gs _ c1 S1 H1 h
    exact ⟨σ', c', h1, h2, h3, h4.trans e1⟩
  | .thaw r i q :: gs, σ, c, S, H0, ⟨v, k, nn, cs, n, k', cs', hr, hi, hne, hq, h⟩ => by
    obtain ⟨m, c1, S1, H1, e1⟩ := S.thaw H0 hr hi hne hq
    obtain ⟨σ', c', h1, h2, h3, h4⟩ := gwp_sound gs _ c1 S1 H1 (h m)
    exact ⟨σ', c', h1, h2, h3, h4.trans e1⟩
  | .tt t i q :: gs, σ, c, S, H0, ⟨k, cs, n, k', cs', hr, hi, hne, hq, h⟩ => by
    obtain ⟨m, c1, S1, H1, e1⟩ := S.tt H0 hr hi hne hq
    obtain ⟨σ', c', h1, h2, h3, h4⟩ := gwp_sound gs _ c1 S1 H1 (h m)
    exact ⟨σ', c', h1, h2, h3, h4.trans e1⟩
  | .rf r i q :: gs, σ, c, S, H0, ⟨v, k, nn, cs, ver, k', nn', cs', hr, hi, hne, hq, h⟩ => by
    obtain ⟨hd, c1, S1, H1, e1⟩ := S.rf H0 hr hi hne hq
    obtain ⟨σ', c', h1, h2, h3, h4⟩ := gwp_sound gs _ c1 S1 H1 (h hd)
    exact ⟨σ', c', h1, h2, h3, h4.trans e1⟩

theorem RepL.set' {c : Cz} {A : AVal} : ∀ {cs : List AVal} {vs : List Value} {i : Nat} {B : AVal}, RepL c cs vs → cs[i]? = some B → (∀ v, Rep c B v → Rep c A v) → RepL c (cs.set i A) vs
  | [], [], _, _, _, h, _ => by simp at h
  | [], _ :: _, _, _, h, _, _ => by simp [RepL] at h
  | _ :: _, [], _, _, h, _, _ => by simp [RepL] at h
  | C :: cs, v :: vs, 0, B, h, e, hB => by
    simp only [RepL, List.set_cons_zero] at h ⊢
    simp at e; subst e
    exact ⟨hB v h.1, h.2⟩
  | C :: cs, v :: vs, i + 1, B, h, e, hB => by
    simp only [RepL, List.set_cons_succ] at h ⊢
    exact ⟨h.1, RepL.set' h.2 (by simpa using e) hB⟩

/-- A nil slice may be seen as a row. -/
theorem Sim.adopt {σ : St} {a : Act} {c : Cz} (S : Sim w0 outsC N σ a c) (H0 : Hist c0 c) (b off r k : Nat) : ∃ ver c', Sim w0 outsC N (σ.adopt b off r k ver) a c' ∧ Hist c0 c' ∧ c'.w = c.w := by
  have G := S.good
  obtain ⟨m, hm⟩ := G.fin
  have hnu : ¬ c.used m := fun h => absurd (hm m h) (Nat.lt_irrefl _)
  refine ⟨m, ?_⟩
  unfold St.adopt
  split
  · rename_i v cs hb
    split
    · rename_i hoff
      split
      · rename_i hr
        by_cases hk : k = 0
        · rw [if_pos hk]; exact ⟨c, S, H0, rfl⟩
        · rw [if_neg hk]
          have hne : b ≠ r := by intro e; subst e; rw [hb] at hr; cases hr
          have hr' : c.hp r = .gone := by rw [S.hp]; exact hr
          have hb' : c.hp b = .box v cs := by rw [S.hp]; exact hb
          have h1 := G.upd c.w r (.row m k false []) (.slice none 0 0) m rfl rfl rfl (Nat.le_refl _) (fun _ _ _ => rfl) (by intro b' h; simp [blockOf] at h) (.inr (.inl ⟨rfl, hnu⟩))
            (fun _ => ⟨none, 0, 0, rfl, by omega, by simp, Nat.le_refl _, Nat.zero_le _, (by intro e; cases e), .inl rfl⟩)
          obtain ⟨G1, K1⟩ := h1
          have hb1 : (c.upd c.w r (.row m k false []) (.slice none 0 0) m).hp b = .box v cs := by simp only [Cz.upd, if_neg hne]; exact hb'
          have hl1 : (c.upd c.w r (.row m k false []) (.slice none 0 0) m).loc b = c.loc b := by simp only [Cz.upd, if_neg hne]
          have hu1 : (c.upd c.w r (.row m k false []) (.slice none 0 0) m).used v := (G1.verU b v (by rw [hb1]; rfl)).1
          have h2 := G1.upd c.w b (.box v (cs.set off (.own r m))) (c.loc b) v rfl rfl rfl (Nat.le_refl _) (fun _ _ _ => rfl)
            (by intro b' h; exact ⟨.inl ⟨by rw [hb1]; simp, by rw [hl1]; exact h⟩, (G1.obj b).lt (by rw [hb1]; simp) (by rw [hl1]; exact h)⟩)
            (.inr (.inr ⟨by rw [hb1]; rfl, hl1.symm, hu1⟩)) (fun K => by
              have hO := G1.obj b
              rw [hb1, hl1] at hO
              obtain ⟨g, t, cells, hg, hh, hrep⟩ := hO
              refine ⟨g, t, cells, hg, hh, ?_⟩
              refine RepL.set' (RepL.keeps K _ _ hrep) hoff fun x hx => ?_
              simp only [Rep] at hx ⊢
              refine ⟨.inl (.inr rfl), fun _ => ?_⟩
              rw [hx]
              simp only [Cz.upd, if_neg (Ne.symm hne), if_true])
          obtain ⟨G2, K2⟩ := h2
          refine ⟨_, ⟨G2, ?_, S.size, fun t => (S.tm t).keeps (K1.trans K2), S.defers⟩, H0.step (K1.trans K2) rfl rfl, rfl⟩
          show (fun n => if n = b then _ else (fun n => if n = r then _ else c.hp n) n) = _
          rw [S.hp]
      · exact ⟨c, S, H0, rfl⟩
    · exact ⟨c, S, H0, rfl⟩
  · exact ⟨c, S, H0, rfl⟩

theorem keep_tm {σ : St} (ts hs : List Nat) : (∀ n, (σ.keep ts hs).tm n = .any ∨ (σ.keep ts hs).tm n = σ.tm n) ∧ (∀ r, (σ.keep ts hs).hp r = .gone ∨ (σ.keep ts hs).hp r = σ.hp r) := by
  have gen : ∀ {α : Type} (z : α) (f : Nat → α) (l : List Nat) (n : Nat), L z (pickL z f l) n = z ∨ L z (pickL z f l) n = f n := by
    intro α z f l n
    induction l with
    | nil => left; rfl
    | cons k l ih =>
      simp only [pickL, L]
      by_cases h : n = k
      · rw [if_pos h, h]; right; rfl
      · rw [if_neg h]; exact ih
  exact ⟨fun n => gen _ _ _ n, fun n => gen _ _ _ n⟩

/-- What is known where code is left. -/
def Out (w0 : World) (outsC : Nat → Prop) (N : Nat) (c0 : Cz) (Q : AEx → St → Prop) : Exit → Act → World → Prop := fun e a' w' =>
  ∃ ae σ' c', e = ae.conc ∧ Q ae σ' ∧ Sim w0 outsC N σ' a' c' ∧ Hist c0 c' ∧ c'.w = w'

/-- New versions for a region are always there. -/
theorem new_vs {σ : St} {a : Act} {c : Cz} (S : Sim w0 outsC N σ a c) : ∃ vs, New vs c.used σ ∧ ∀ i j, ¬ c.used (vs i j) := by
  obtain ⟨m, hm⟩ := S.good.fin
  have hinj : ∀ i j i' j' : Nat, m + ((i + j) * (i + j) + i) = m + ((i' + j') * (i' + j') + i') → i = i' ∧ j = j' := by
    intro i j i' j' h
    have h1 : (i + j) * (i + j) + i = (i' + j') * (i' + j') + i' := by omega
    have h2 : i + j = i' + j' := by
      rcases Nat.lt_trichotomy (i + j) (i' + j') with h3 | h3 | h3
      · exfalso
        have h4 : (i + j + 1) * (i + j + 1) ≤ (i' + j') * (i' + j') := Nat.mul_le_mul h3 h3
        have h5 : (i + j + 1) * (i + j + 1) = (i + j) * (i + j) + 2 * (i + j) + 1 := by
          rw [Nat.add_mul, Nat.mul_add]; omega
        omega
      · exact h3
      · exfalso
        have h4 : (i' + j' + 1) * (i' + j' + 1) ≤ (i + j) * (i + j) := Nat.mul_le_mul h3 h3
        have h5 : (i' + j' + 1) * (i' + j' + 1) = (i' + j') * (i' + j') + 2 * (i' + j') + 1 := by
          rw [Nat.add_mul, Nat.mul_add]; omega
        omega
    rw [h2] at h1
    omega
  have hnew : ∀ i j : Nat, ¬ c.used (m + ((i + j) * (i + j) + i)) := by
    intro i j hu
    have := hm _ hu
    omega
  refine ⟨fun i j => m + ((i + j) * (i + j) + i), ⟨hinj, hnew, fun t => Rep.uses S.good _ _ (S.tm t), fun r => by rw [← S.hp]; exact ObjRep.uses S.good r⟩, hnew⟩

/-- A region in the order of the text. -/
theorem ops_sound {fa pu : Bool} {ops : Array Oper} {vs : Nat → Nat → Nat} (hinj : ∀ i j i' j', vs i j = vs i' j' → i = i' ∧ j = j') {K : St → Prop} {Q : Exit → Act → World → Prop}
    (hQ : ∀ σ a c, Sim w0 outsC N σ a c → Hist c0 c → K σ → Q .normal a c.w) :
    ∀ (xs : List AOp) (i : Nat) (σ : St) (a : Act) (c : Cz), i + xs.length = ops.size → (∀ (j : Nat) o x, ops[i + j]? = some o → xs[j]? = some x → cOper P N ops o = some x) →
      Sim w0 outsC N σ a c → Hist c0 c → (∀ i' j, i ≤ i' → ¬ c.used (vs i' j)) → wpOps fa (wpCall P pu) vs i xs σ K → Go.wpOps P ops Q (List.range' i xs.length) a c.w
  | [], i, σ, a, c, _, _, S, H0, _, h => by
    simp only [List.length_nil, List.range'_zero, Go.wpOps]
    exact hQ σ a c S H0 h
  | x :: xs, i, σ, a, c, hlen, hc, S, H0, hnew, h => by
    have hi : i < ops.size := by simp at hlen; omega
    have ho : ops[i]? = some ops[i] := Array.getElem?_eq_getElem hi
    simp only [List.length_cons, List.range'_succ]
    rw [Go.wpOps_cons]
    have h1 := op_sound (Q := Q) (i := i) ho (hc 0 _ _ (by simpa using ho) rfl) S H0 (fun y => hnew i y (Nat.le_refl _)) (fun y y' e => (hinj i y i y' e).2) h
    refine Go.wpOp_mono ?_ h1
    rintro a' w' ⟨σ', c', hk, S', rfl, H', hu⟩
    refine ops_sound hinj hQ xs (i + 1) σ' a' c' (by simp at hlen; omega) (fun j o x' ho' hx => hc (j + 1) o x' (by rw [← ho']; congr 1; omega) (by simpa using hx)) S' H' ?_ hk
    intro i' j hle hused
    rcases hu _ hused with h2 | ⟨y, h2⟩
    · exact hnew i' j (by omega) h2
    · have := (hinj _ _ _ _ h2).1; omega

end
end Go.Ab
