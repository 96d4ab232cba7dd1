/- States of the abstract semantics, and how a state is kept while memory is written. Conditions: none. -/
import Derived.Test.YtcijodimbjapeaaAb0
set_option linter.all false
namespace Go.Ab

/-- The concrete handle v is that of the abstract object. -/
def ObjRep (c : Cz) (v : Value) : AObj → Prop
  | .gone => True
  | .box _ cs => ∃ b t, ∃ cells : Array Value, v = .pointer (some ⟨b, 0, none⟩) ∧ c.w.heap[b]? = some (.cells cells t (0, 0)) ∧ RepL c cs cells.toList
  | .row _ k nn cs => ∃ base n cap, v = .slice base n cap ∧ 0 < k ∧ cs.length = n * k ∧ n ≤ cap ∧ cap ≤ maxLen ∧ (nn = true → base ≠ none) ∧
      (cap = 0 ∨ ∃ g off t, ∃ cells : Array Value, base = some ⟨g, off, none⟩ ∧ c.w.heap[g]? = some (.cells cells t (0, 0)) ∧ off + cap * k ≤ cells.size ∧ RepL c cs ((cells.toList.drop off).take (n * k)))
  | .map _ ks vs => ∃ b clock, ∃ ents : Array MapEntry, v = .map (some b) ∧ c.w.heap[b]? = some (.map ents clock) ∧ ents.toList.map (·.key) = ks ∧ RepL c vs (ents.toList.map (·.val))

theorem block_lt_of_some {w : World} {b : Nat} {o : Obj} (h : w.heap[b]? = some o) : b < w.heap.size := (Array.getElem?_eq_some_iff.1 h).1

theorem ObjRep.lt {c : Cz} {v : Value} {o : AObj} (ho : o ≠ .gone) (h : ObjRep c v o) {b : Nat} (hb : blockOf v = some b) : b < c.w.heap.size := by
  cases o with
  | gone => exact absurd rfl ho
  | box ver cs =>
    obtain ⟨g, t, cells, rfl, hg, _⟩ := h
    simp only [blockOf, Option.some.injEq] at hb
    subst hb; exact block_lt_of_some hg
  | row ver k nn cs =>
    obtain ⟨base, n, cap, rfl, _, _, _, _, _, hc⟩ := h
    rcases hc with hc | ⟨g, off, t, cells, rfl, hg, _⟩
    · subst hc; cases base <;> simp [blockOf] at hb
    · simp only [blockOf] at hb
      split at hb
      · simp at hb
      · simp only [Option.some.injEq] at hb; subst hb; exact block_lt_of_some hg
  | map ver ks vs =>
    obtain ⟨g, clock, ents, rfl, hg, _⟩ := h
    simp only [blockOf, Option.some.injEq] at hb
    subst hb; exact block_lt_of_some hg

theorem ObjRep.keeps {c c' : Cz} (K : Keeps c c') {v : Value} {o : AObj} (h : ObjRep c v o) (hb : ∀ b, blockOf v = some b → c'.w.heap[b]? = c.w.heap[b]?) : ObjRep c' v o := by
  cases o with
  | gone => trivial
  | box ver cs =>
    obtain ⟨g, t, cells, rfl, hg, hr⟩ := h
    exact ⟨g, t, cells, rfl, by rw [hb g rfl]; exact hg, RepL.keeps K _ _ hr⟩
  | row ver k nn cs =>
    obtain ⟨base, n, cap, rfl, h1, h2, h3, h4, h5, hc⟩ := h
    refine ⟨base, n, cap, rfl, h1, h2, h3, h4, h5, ?_⟩
    rcases hc with hc | ⟨g, off, t, cells, rfl, hg, h6, h7⟩
    · exact .inl hc
    · by_cases h0 : cap = 0
      · exact .inl h0
      · exact .inr ⟨g, off, t, cells, rfl, by rw [hb g (by simp [blockOf, h0])]; exact hg, h6, RepL.keeps K _ _ h7⟩
  | map ver ks vs =>
    obtain ⟨g, clock, ents, rfl, hg, h1, h2⟩ := h
    exact ⟨g, clock, ents, rfl, by rw [hb g rfl]; exact hg, h1, RepL.keeps K _ _ h2⟩

/-- What always holds of what a state stands for; w0: the world when the call began. -/
structure Good (w0 : World) (outs : Nat → Prop) (c : Cz) : Prop where
  base : c.base = w0.heap.size ∧ ∀ b, c.old b → b < c.base
  obj : ∀ r, ObjRep c (c.loc r) (c.hp r)
  inj : ∀ r r' b, c.hp r ≠ .gone → c.hp r' ≠ .gone → blockOf (c.loc r) = some b → blockOf (c.loc r') = some b → r = r'
  own : ∀ r b, c.hp r ≠ .gone → blockOf (c.loc r) = some b → c.base ≤ b ∨ outs b
  verU : ∀ r v, (c.hp r).ver = some v → c.used v ∧ c.names v = none
  verInj : ∀ r r' v, (c.hp r).ver = some v → (c.hp r').ver = some v → r = r'
  outExt : ∀ b, outs b → c.ext b ∧ ¬ c.old b
  nam : ∀ n b, c.names n = some b → c.used n ∧ (c.base ≤ b ∨ outs b) ∧ b < c.w.heap.size ∧ ¬ c.taken b
  namInj : ∀ n n' b, c.names n = some b → c.names n' = some b → n = n'
  fin : ∃ m, ∀ v, c.used v → v < m
  os : c.w.os = w0.os
  tape : c.w.tape = w0.tape
  output : c.w.output = w0.output
  size : w0.heap.size ≤ c.w.heap.size
  frame : ∀ b, b < w0.heap.size → ¬ outs b → c.w.heap[b]? = w0.heap[b]?

theorem ver_ne_gone {o : AObj} {v : Nat} (h : o.ver = some v) : o ≠ .gone := by rintro rfl; simp at h

/-- The state behind a change of one object: number r is now 'ao' at v', version 'ver' has been used. -/
def Cz.upd (c : Cz) (w' : World) (r : Nat) (ao : AObj) (v' : Value) (ver : Nat) : Cz :=
  { c with w := w', hp := fun n => if n = r then ao else c.hp n, loc := fun n => if n = r then v' else c.loc n, used := fun v => c.used v ∨ v = ver }

/-- One object is made, or written, or comes to another place: nothing else is lost. -/
theorem Good.upd {w0 : World} {outs : Nat → Prop} {c : Cz} (G : Good w0 outs c) (w' : World) (r : Nat) (ao : AObj) (v' : Value) (ver : Nat)
    (hos : w'.os = c.w.os) (htape : w'.tape = c.w.tape) (hout : w'.output = c.w.output) (hsz : c.w.heap.size ≤ w'.heap.size)
    (hw : ∀ b, b < c.w.heap.size → ¬ (c.hp r ≠ .gone ∧ blockOf (c.loc r) = some b) → w'.heap[b]? = c.w.heap[b]?)
    (hb : ∀ b, blockOf v' = some b → ((c.hp r ≠ .gone ∧ blockOf (c.loc r) = some b) ∨ c.w.heap.size ≤ b) ∧ b < w'.heap.size)
    (hver : ao = .gone ∨ (ao.ver = some ver ∧ ¬ c.used ver) ∨ (ao.ver = (c.hp r).ver ∧ v' = c.loc r ∧ c.used ver))
    (hobj : Keeps c (c.upd w' r ao v' ver) → ObjRep (c.upd w' r ao v' ver) v' ao) :
    Good w0 outs (c.upd w' r ao v' ver) ∧ Keeps c (c.upd w' r ao v' ver) := by
  have htk : ∀ b, b < c.w.heap.size → ¬ c.taken b → ¬ (c.upd w' r ao v' ver).taken b := by
    rintro b hlt hnt ⟨r', hr', hbl⟩
    by_cases e : r' = r
    · subst e
      simp only [Cz.upd, if_true] at hr' hbl
      rcases (hb b hbl).1 with ⟨h1, h2⟩ | h1
      · exact hnt ⟨r', h1, h2⟩
      · omega
    · simp only [Cz.upd, if_neg e] at hr' hbl
      exact hnt ⟨r', hr', hbl⟩
  have K : Keeps c (c.upd w' r ao v' ver) := by
    refine ⟨?_, fun n b h => h, fun v h => .inl h, ?_, rfl⟩
    · rintro b ⟨h1, h2, h3⟩
      refine ⟨⟨h1, Nat.lt_of_lt_of_le h2 hsz, htk b h2 h3⟩, hw b h2 fun h => h3 ⟨r, h.1, h.2⟩⟩
    · intro r' v hu hr'
      by_cases e : r' = r
      · subst e
        simp only [Cz.upd, if_true] at hr' ⊢
        rcases hver with h | ⟨h, hn⟩ | ⟨h, hl, _⟩
        · subst h; simp at hr'
        · rw [h] at hr'; simp only [Option.some.injEq] at hr'; subst hr'; exact absurd hu hn
        · exact ⟨h ▸ hr', hl⟩
      · simp only [Cz.upd, if_neg e] at hr' ⊢
        exact ⟨hr', trivial⟩
  refine ⟨?_, K⟩
  have hlt : ∀ r', c.hp r' ≠ .gone → ∀ b, blockOf (c.loc r') = some b → b < c.w.heap.size := fun r' h b hb' => (G.obj r').lt h hb'
  refine ⟨G.base, ?_, ?_, ?_, ?_, ?_, G.outExt, ?_, G.namInj, ?_, hos.trans G.os, htape.trans G.tape, hout.trans G.output, Nat.le_trans G.size hsz, ?_⟩
  · intro r'
    by_cases e : r' = r
    · subst e; simpa only [Cz.upd, if_true] using hobj K
    · have h1 : (c.upd w' r ao v' ver).loc r' = c.loc r' := by simp only [Cz.upd, if_neg e]
      have h2 : (c.upd w' r ao v' ver).hp r' = c.hp r' := by simp only [Cz.upd, if_neg e]
      rw [h1, h2]
      by_cases hg : c.hp r' = .gone
      · rw [hg]; trivial
      · refine (G.obj r').keeps K fun b hb' => hw b (hlt r' hg b hb') ?_
        rintro ⟨h3, h4⟩
        exact e (G.inj r' r b hg h3 hb' h4)
  · intro r1 r2 b h1 h2 h3 h4
    by_cases e1 : r1 = r <;> by_cases e2 : r2 = r
    · rw [e1, e2]
    · subst e1
      simp only [Cz.upd, if_true, if_neg e2] at h1 h2 h3 h4
      rcases (hb b h3).1 with ⟨h5, h6⟩ | h5
      · exact G.inj _ _ b h5 h2 h6 h4
      · have := hlt r2 h2 b h4; omega
    · subst e2
      simp only [Cz.upd, if_true, if_neg e1] at h1 h2 h3 h4
      rcases (hb b h4).1 with ⟨h5, h6⟩ | h5
      · exact G.inj _ _ b h1 h5 h3 h6
      · have := hlt r1 h1 b h3; omega
    · simp only [Cz.upd, if_neg e1, if_neg e2] at h1 h2 h3 h4
      exact G.inj _ _ b h1 h2 h3 h4
  · intro r' b h1 h2
    by_cases e : r' = r
    · subst e
      simp only [Cz.upd, if_true] at h1 h2
      rcases (hb b h2).1 with ⟨h5, h6⟩ | h5
      · exact G.own _ b h5 h6
      · left; show c.base ≤ b; rw [G.base.1]; exact Nat.le_trans G.size h5
    · simp only [Cz.upd, if_neg e] at h1 h2
      exact G.own r' b h1 h2
  · intro r' v h
    by_cases e : r' = r
    · subst e
      simp only [Cz.upd, if_true] at h
      rcases hver with h' | ⟨h', hn⟩ | ⟨h', _, _⟩
      · subst h'; simp at h
      · rw [h'] at h; simp only [Option.some.injEq] at h; subst h
        refine ⟨.inr rfl, ?_⟩
        cases hnm : c.names ver with
        | none => exact hnm
        | some b => exact absurd (G.nam _ _ hnm).1 hn
      · rw [h'] at h; exact ⟨.inl (G.verU _ _ h).1, (G.verU _ _ h).2⟩
    · simp only [Cz.upd, if_neg e] at h
      exact ⟨.inl (G.verU _ _ h).1, (G.verU _ _ h).2⟩
  · intro r1 r2 v h1 h2
    by_cases e1 : r1 = r <;> by_cases e2 : r2 = r
    · rw [e1, e2]
    · subst e1
      simp only [Cz.upd, if_true, if_neg e2] at h1 h2
      rcases hver with h | ⟨h, hn⟩ | ⟨h, _, _⟩
      · subst h; simp at h1
      · rw [h] at h1; simp only [Option.some.injEq] at h1; subst h1
        exact absurd (G.verU _ _ h2).1 hn
      · rw [h] at h1; exact G.verInj _ _ v h1 h2
    · subst e2
      simp only [Cz.upd, if_true, if_neg e1] at h1 h2
      rcases hver with h | ⟨h, hn⟩ | ⟨h, _, _⟩
      · subst h; simp at h2
      · rw [h] at h2; simp only [Option.some.injEq] at h2; subst h2
        exact absurd (G.verU _ _ h1).1 hn
      · rw [h] at h2; exact G.verInj _ _ v h1 h2
    · simp only [Cz.upd, if_neg e1, if_neg e2] at h1 h2
      exact G.verInj _ _ v h1 h2
  · intro n b h
    obtain ⟨h1, h2, h3, h4⟩ := G.nam n b h
    exact ⟨.inl h1, h2, Nat.lt_of_lt_of_le h3 hsz, htk b h3 h4⟩
  · obtain ⟨m, hm⟩ := G.fin
    refine ⟨max m (ver + 1), ?_⟩
    rintro v (h | rfl)
    · exact Nat.lt_of_lt_of_le (hm v h) (Nat.le_max_left _ _)
    · exact Nat.lt_of_lt_of_le (Nat.lt_succ_self _) (Nat.le_max_right _ _)
  · intro b hb1 hb2
    rw [← G.frame b hb1 hb2]
    refine hw b (Nat.lt_of_lt_of_le hb1 G.size) ?_
    rintro ⟨h1, h2⟩
    rcases G.own r b h1 h2 with h | h
    · rw [G.base.1] at h; omega
    · exact hb2 h

/-- The name of a frozen row: none if it may be nil. -/
def frNm (nn : Bool) (n ver : Nat) : Option (Option Nat) := if nn = true ∨ n ≠ 0 then some (some (ver + 1)) else none

theorem frNm_t (n ver : Nat) : frNm true n ver = some (some (ver + 1)) := by simp [frNm]
theorem frNm_pos {nn : Bool} {n ver : Nat} (h : n ≠ 0) : frNm nn n ver = some (some (ver + 1)) := by simp [frNm, h]
theorem frNm_f {ver : Nat} : frNm false 0 ver = none := by simp [frNm]

/-- The state behind a freeze: object r is gone; its block, if it has cells, has the version's name. -/
def Cz.frz (c : Cz) (r : Nat) (nm : Nat → Option Nat) : Cz :=
  { c with hp := fun n => if n = r then .gone else c.hp n, names := nm }

theorem Good.frz {w0 : World} {outs : Nat → Prop} {c : Cz} (G : Good w0 outs c) {r ver k : Nat} {nn : Bool} {cs : List AVal} (hr : c.hp r = .row ver k nn cs) :
    ∃ nm, Good w0 outs (c.frz r nm) ∧ Keeps c (c.frz r nm) ∧ Rep (c.frz r nm) (.ro (frNm nn cs.length ver) k cs) (c.loc r) := by
  have hu := G.verU r ver (by rw [hr]; rfl)
  have hg : c.hp r ≠ .gone := by rw [hr]; simp
  have hO := G.obj r
  rw [hr] at hO
  obtain ⟨base, n, cap, hv, hk, hl, hn, hm, hnn, hc⟩ := hO
  by_cases h0 : cs.length = 0
  · have K : Keeps c (c.frz r c.names) := by
      refine ⟨?_, fun n b h => h, fun v h => h, ?_, rfl⟩
      · rintro b ⟨h1, h2, h3⟩
        refine ⟨⟨h1, h2, ?_⟩, rfl⟩
        rintro ⟨r', h4, h5⟩
        by_cases e : r' = r
        · simp [Cz.frz, e] at h4
        · simp only [Cz.frz, if_neg e] at h4 h5; exact h3 ⟨r', h4, h5⟩
      · intro r' v _ h
        by_cases e : r' = r
        · simp [Cz.frz, e] at h
        · simp only [Cz.frz, if_neg e] at h ⊢; exact ⟨h, trivial⟩
    refine ⟨c.names, ?_, K, ?_⟩
    · refine ⟨G.base, ?_, ?_, ?_, ?_, ?_, G.outExt, ?_, G.namInj, G.fin, G.os, G.tape, G.output, G.size, G.frame⟩
      · intro r'
        by_cases e : r' = r
        · simp [Cz.frz, e, ObjRep]
        · have := (G.obj r').keeps K fun b _ => rfl
          simpa only [Cz.frz, if_neg e] using this
      · intro r1 r2 b h1 h2 h3 h4
        by_cases e1 : r1 = r <;> by_cases e2 : r2 = r <;> simp only [Cz.frz, e1, e2, if_true, if_false] at h1 h2 h3 h4 <;> first | exact absurd rfl h1 | exact absurd rfl h2 | exact G.inj _ _ b h1 h2 h3 h4
      · intro r' b h1 h2
        by_cases e : r' = r
        · simp [Cz.frz, e] at h1
        · simp only [Cz.frz, if_neg e] at h1 h2; exact G.own _ _ h1 h2
      · intro r' v h
        by_cases e : r' = r
        · simp [Cz.frz, e] at h
        · simp only [Cz.frz, if_neg e] at h; exact G.verU _ _ h
      · intro r1 r2 v h1 h2
        by_cases e1 : r1 = r
        · simp [Cz.frz, e1] at h1
        · by_cases e2 : r2 = r
          · simp [Cz.frz, e2] at h2
          · simp only [Cz.frz, if_neg e1, if_neg e2] at h1 h2; exact G.verInj _ _ v h1 h2
      · intro n' b h
        obtain ⟨h1, h2, h3, h4⟩ := G.nam n' b h
        refine ⟨h1, h2, h3, ?_⟩
        rintro ⟨r', h5, h6⟩
        by_cases e : r' = r
        · simp [Cz.frz, e] at h5
        · simp only [Cz.frz, if_neg e] at h5 h6; exact h4 ⟨r', h5, h6⟩
    · simp only [Rep]
      refine ⟨base, n, cap, hv, hk, hl, ⟨hn, hm⟩, fun _ e => ⟨fun _ => ?_, .inl h0⟩, .inl h0⟩
      cases nn with
      | true => exact hnn rfl
      | false => rw [h0] at e; simp [frNm] at e
  · have hnpos : 0 < n := by
      rcases Nat.eq_zero_or_pos n with h | h
      · rw [h] at hl; simp at hl; exact absurd hl (by intro e; exact h0 (by simp [e]))
      · exact h
    have hcap : cap ≠ 0 := by omega
    rcases hc with hc | ⟨g, off, t, cells, rfl, hheap, hfit, hrep⟩
    · exact absurd hc hcap
    have hblk : blockOf (c.loc r) = some g := by rw [hv]; simp [blockOf, hcap]
    have hgl : g < c.w.heap.size := block_lt_of_some hheap
    have hnt : ∀ r', r' ≠ r → c.hp r' ≠ .gone → blockOf (c.loc r') ≠ some g := fun r' e h1 h2 => e (G.inj r' r g h1 hg h2 hblk)
    have hnm : ∀ n' b, c.names n' = some b → n' ≠ ver := by
      intro n' b h e; subst e; rw [hu.2] at h; cases h
    have K : Keeps c (c.frz r fun x => if x = ver then some g else c.names x) := by
      refine ⟨?_, ?_, fun v h => h, ?_, rfl⟩
      · rintro b ⟨h1, h2, h3⟩
        refine ⟨⟨h1, h2, ?_⟩, rfl⟩
        rintro ⟨r', h4, h5⟩
        by_cases e : r' = r
        · simp [Cz.frz, e] at h4
        · simp only [Cz.frz, if_neg e] at h4 h5; exact h3 ⟨r', h4, h5⟩
      · intro n' b h
        simp only [Cz.frz, if_neg (hnm n' b h)]; exact h
      · intro r' v _ h
        by_cases e : r' = r
        · simp [Cz.frz, e] at h
        · simp only [Cz.frz, if_neg e] at h ⊢; exact ⟨h, trivial⟩
    refine ⟨_, ?_, K, ?_⟩
    · refine ⟨G.base, ?_, ?_, ?_, ?_, ?_, G.outExt, ?_, ?_, G.fin, G.os, G.tape, G.output, G.size, G.frame⟩
      · intro r'
        by_cases e : r' = r
        · simp [Cz.frz, e, ObjRep]
        · have := (G.obj r').keeps K fun b _ => rfl
          simpa only [Cz.frz, if_neg e] using this
      · intro r1 r2 b h1 h2 h3 h4
        by_cases e1 : r1 = r <;> by_cases e2 : r2 = r <;> simp only [Cz.frz, e1, e2, if_true, if_false] at h1 h2 h3 h4 <;> first | exact absurd rfl h1 | exact absurd rfl h2 | exact G.inj _ _ b h1 h2 h3 h4
      · intro r' b h1 h2
        by_cases e : r' = r
        · simp [Cz.frz, e] at h1
        · simp only [Cz.frz, if_neg e] at h1 h2; exact G.own _ _ h1 h2
      · intro r' v h
        by_cases e : r' = r
        · simp [Cz.frz, e] at h
        · simp only [Cz.frz, if_neg e] at h
          refine ⟨(G.verU _ _ h).1, ?_⟩
          have hne : v ≠ ver := fun e2 => e (G.verInj r' r v h (by rw [hr, e2]; rfl))
          simp only [Cz.frz, if_neg hne]; exact (G.verU _ _ h).2
      · intro r1 r2 v h1 h2
        by_cases e1 : r1 = r
        · simp [Cz.frz, e1] at h1
        · by_cases e2 : r2 = r
          · simp [Cz.frz, e2] at h2
          · simp only [Cz.frz, if_neg e1, if_neg e2] at h1 h2; exact G.verInj _ _ v h1 h2
      · intro n' b h
        by_cases e : n' = ver
        · subst e
          simp only [Cz.frz, if_true, Option.some.injEq] at h; subst h
          refine ⟨hu.1, G.own r g hg hblk, hgl, ?_⟩
          rintro ⟨r', h5, h6⟩
          by_cases e : r' = r
          · simp [Cz.frz, e] at h5
          · simp only [Cz.frz, if_neg e] at h5 h6; exact hnt r' e h5 h6
        · simp only [Cz.frz, if_neg e] at h
          obtain ⟨h1, h2, h3, h4⟩ := G.nam n' b h
          refine ⟨h1, h2, h3, ?_⟩
          rintro ⟨r', h5, h6⟩
          by_cases e : r' = r
          · simp [Cz.frz, e] at h5
          · simp only [Cz.frz, if_neg e] at h5 h6; exact h4 ⟨r', h5, h6⟩
      · intro n1 n2 b h1 h2
        by_cases e1 : n1 = ver <;> by_cases e2 : n2 = ver <;> simp only [Cz.frz, e1, e2, if_true, if_false, Option.some.injEq] at h1 h2
        · rw [e1, e2]
        · subst h1; exact absurd ⟨r, hg, hblk⟩ (G.nam _ _ h2).2.2.2
        · subst h2; exact absurd ⟨r, hg, hblk⟩ (G.nam _ _ h1).2.2.2
        · exact G.namInj _ _ b h1 h2
    · simp only [Rep]
      refine ⟨some ⟨g, off, none⟩, n, cap, hv, hk, hl, ⟨hn, hm⟩, ?_, ?_⟩
      · intro n' e
        rw [frNm_pos h0] at e
        simp only [Option.some.injEq] at e; subst e
        refine ⟨fun _ => by simp, ?_⟩
        exact .inr ⟨g, off, rfl, by simp [Cz.frz], t, cells, hheap, hfit⟩
      · refine .inr ⟨g, off, rfl, ⟨?_, hgl, ?_⟩, ?_⟩
        · rcases G.own r g hg hblk with h | h
          · exact .inr h
          · exact .inl (G.outExt g h).1
        · rintro ⟨r', h5, h6⟩
          by_cases e : r' = r
          · simp [Cz.frz, e] at h5
          · simp only [Cz.frz, if_neg e] at h5 h6; exact hnt r' e h5 h6
        · refine RepAt.of_row (c := c.frz r fun x => if x = ver then some g else c.names x) (t := t) (cells := cells) (fr := (0, 0)) hheap ?_
          rw [hl]; exact RepL.keeps K _ _ hrep

end Go.Ab
