/- The abstract semantics of code, and that it is right. Conditions: none. -/
import Derived.Test.YtcijodimbjapeaaAbH
import Derived.Orders
set_option linter.all false
namespace Go.Ab
set_option maxRecDepth 20000

/-- A call, by a contract. pure: nothing may be handed over to be written. -/
def wpCall0 (P : Program) (pu : Bool) (σ : St) (g : FuncId) (As : List AVal) (d : Option Nat) (s : Nat → Nat) (K : St → Prop) : Prop :=
  ∃ (m : List Nat) (ins : List AObj) (args : List AVal) (sh : Bool) (R : List AObj → List AObj → AVal → Prop), Con P g ins args sh R ∧ Handed σ.hp m ins (!sh) ∧ CoeL σ.hp m (!sh) args As ∧ (pu = true → m = [] ∧ ∃ outs rows res, R outs rows res) ∧
    ∀ outs rows res, R outs rows res → outs.length = m.length ∧ rows.length ≤ 1000 ∧ (∀ i, i < rows.length → σ.hp (newId (d.getD 0) i) = .gone) ∧
      K (St.put { tm := σ.tm, hp := callHp σ.hp m (d.getD 0) s outs rows } d (res.ren (rid m (d.getD 0) rows.length) (sv σ.hp m s)))

/-- A call that may write into all rows that have names. -/
def wpCallH (P : Program) (σ : St) (g : FuncId) (As : List AVal) (d : Option Nat) (K : St → Prop) : Prop :=
  ∃ (args : List AVal) (Q : Value → Prop), Con P g [] args true (fun outs rows res => outs = [] ∧ rows = [] ∧ ∃ v, Q v ∧ res = .val v) ∧ CoeHL σ.hp args As ∧ ∀ v, Q v → K (St.put σ.cl d (.val v))

def wpCall (P : Program) (pu : Bool) (σ : St) (g : FuncId) (As : List AVal) (d : Option Nat) (s : Nat → Nat) (K : St → Prop) : Prop :=
  wpCall0 P pu σ g As d s K ∨ (pu = false ∧ wpCallH P σ g As d K)

/-- How far a state has come since the call began. -/
structure Hist (c0 c : Cz) : Prop where
  used : ∀ v, c0.used v → c.used v
  loc : ∀ r v, c0.used v → (c.hp r).ver = some v → (c0.hp r).ver = some v ∧ c.loc r = c0.loc r
  ext : c.ext = c0.ext
  base : c.base = c0.base
  old : c.old = c0.old

theorem Hist.step {c0 c c' : Cz} (h : Hist c0 c) (K : Keeps c c') (he : c'.ext = c.ext) (hb : c'.base = c.base) : Hist c0 c' := by
  refine ⟨fun v hv => K.used v (h.used v hv), fun r v hv hr => ?_, he.trans h.ext, hb.trans h.base, K.old.trans h.old⟩
  obtain ⟨h1, h2⟩ := K.loc r v (h.used v hv) hr
  obtain ⟨h3, h4⟩ := h.loc r v hv h1
  exact ⟨h3, h2.trans h4⟩

def cGuard (ops : Array Oper) : Option (Nat × Bool) → Option (Option (Nat × Bool))
  | none => some none
  | some (j, w) => ((ops[j]?).bind (·.dst)).map fun t => some (t, w)

def cOper (P : Program) (N : Nat) (ops : Array Oper) (o : Oper) : Option AOp :=
  match cGuard ops o.guard, cOp P N o with
  | some g, some x => some ⟨o.dst, g, x⟩
  | _, _ => none

section
variable {P : Program} {w0 : World} {outsC : Nat → Prop} {N : Nat} {σ : St} {o : Oper} {a : Act} {c c0 : Cz} {s : Nat → Nat}

theorem calls_sound {pu : Bool} {g : FuncId} {As : List AVal} {K : St → Prop} {vs : List Value} (S : Sim w0 outsC N σ a c) (H0 : Hist c0 c) (hs : ∀ y, ¬ c.used (s y)) (hsi : ∀ y y', s y = s y' → y = y')
    (hd : ∀ d, o.dst = some d → d < N) (hv : RepL c As vs) (h : wpCall P pu σ g As o.dst s K) :
    (∃ fn, P.funcs[g]? = some fn ∧ fn.body.isSome = true ∧ isNumG fn = false) ∧ Calls P g vs.toArray c.w fun e w' => ∃ v, e = .returned v ∧ ∃ σ' c', K σ' ∧ Sim w0 outsC N σ' (a.put o.dst v) c' ∧ c'.w = w' ∧ Hist c0 c' ∧ (∀ u, c'.used u → c.used u ∨ ∃ y, u = s y) := by
  rcases h with h | ⟨_, h⟩
  rotate_left
  · obtain ⟨args, Q, hcon, hco, hK⟩ := h
    refine ⟨hcon.1, ?_⟩
    have G := S.good
    rw [← S.hp] at hco
    have hargs := CoeHL.repL G _ _ _ hco hv
    refine (hcon.2 c.enh c.named vs (enh_good G) (by funext n; show AObj.gone = outHp [] [] n; simp [outHp]) hargs).mono ?_
    rintro e w' ⟨v, c1, outs, rows, res, ⟨rfl, rfl, x, hQ, rfl⟩, he, hw, G1, _, hrep, _⟩
    have hvx : v = x := by simpa [Rep] using hrep
    subst hvx
    obtain ⟨G2, K2⟩ := beh_good G G1
    have S2 : Sim w0 outsC N σ.cl a (c.beh c1.w) := ⟨G2, by show (fun r => (c.hp r).cl) = _; rw [S.hp]; rfl, S.size, fun n => Rep.cl K2 _ _ (S.tm n), S.defers⟩
    refine ⟨v, he, _, c.beh c1.w, hK v hQ, S2.put (Keeps.refl _) G2 S2.hp (by simp [Rep]) hd, hw, ⟨H0.used, ?_, H0.ext, H0.base, H0.old⟩, fun u hu => .inl hu⟩
    intro r u hu h
    have h' : ((c.hp r).cl).ver = some u := h
    rw [AObj.cl_ver] at h'
    exact H0.loc r u hu h'
  obtain ⟨m, ins, args, sh, R, hcon, hH, hco, _, hK⟩ := h
  refine ⟨hcon.1, ?_⟩
  rw [← S.hp] at hH hco
  have hG0 := entry_good S.good hH
  have hargs := CoeL.repL S.good hH _ _ _ hco hv
  refine (hcon.2 (c.entry m ins (!sh)) (fun b => lentB c m b) vs hG0 rfl hargs).mono ?_
  rintro e w' ⟨v, c1, outs, rows, res, hR, he, hw, G1, hhp, hrep, hext, hold, hkeep, _⟩
  obtain ⟨hl, hr, hnew, hk⟩ := hK outs rows res hR
  rw [← S.hp] at hnew hk
  obtain ⟨G2, K2, R2⟩ := back_good S.good hH hs hsi G1 hhp hext hkeep hold hl hr hnew
  refine ⟨v, he, _, _, hk, S.put K2 G2 rfl (Rep.ren R2 _ _ (fun h => by cases h) hrep) hd, hw, H0.step K2 rfl rfl, ?_⟩
  rintro u (hu | ⟨y, hy, rfl⟩)
  · exact .inl hu
  · unfold sv
    by_cases hyl : y < m.length
    · rw [if_pos hyl]
      left
      have hmem : m.getD y 0 ∈ m := by
        rw [List.getD_eq_getElem?_getD, List.getElem?_eq_getElem hyl]; exact List.getElem_mem hyl
      have hlive := hH.live _ hmem
      cases ho : c.hp (m.getD y 0) with
      | gone => exact absurd ho hlive
      | box v' cs => exact (S.good.verU _ _ (by rw [ho]; rfl)).1
      | row v' k nn cs => exact (S.good.verU _ _ (by rw [ho]; rfl)).1
      | map v' ks vs' => exact (S.good.verU _ _ (by rw [ho]; rfl)).1
    · rw [if_neg hyl]; exact .inr ⟨y, rfl⟩

theorem numG_name {fn : Func} (h : isNumG fn = false) : (fn.name == "runtime.NumGoroutine") = false := by
  cases hn : fn.name == "runtime.NumGoroutine" with
  | false => rfl
  | true =>
    have : fn.name = "runtime.NumGoroutine" := by simpa using hn
    unfold isNumG at h
    rw [this] at h
    exact absurd h (by decide)

theorem run_callFunc {g : FuncId} {w : World} {args : Array Value} (h : ∃ fn, P.funcs[g]? = some fn ∧ fn.body.isSome = true ∧ isNumG fn = false) : (callFunc g args).run P w = .ok (.enter g args) w := by
  obtain ⟨fn, h1, h2, h3⟩ := h
  have h4 := numG_name h3
  obtain ⟨b, hb⟩ := Option.isSome_iff_exists.1 h2
  simp [callFunc, h1, hb]
  intro h5
  simp [h5] at h4

/-- What is known behind an operation. -/
def Post (w0 : World) (outsC : Nat → Prop) (N : Nat) (c0 c : Cz) (s : Nat → Nat) (K : St → Prop) : Act → World → Prop := fun a' w' =>
  ∃ σ' c', K σ' ∧ Sim w0 outsC N σ' a' c' ∧ c'.w = w' ∧ Hist c0 c' ∧ (∀ u, c'.used u → c.used u ∨ ∃ y, u = s y)

/-- ONE OPERATION IS RIGHT. -/
theorem op_sound {fa pu : Bool} {ops : Array Oper} {i : Nat} {x : AOp} {K : St → Prop} {Q : Exit → Act → World → Prop} (ho : ops[i]? = some o) (hc : cOper P N ops o = some x) (S : Sim w0 outsC N σ a c) (H0 : Hist c0 c)
    (hs : ∀ y, ¬ c.used (s y)) (hsi : ∀ y y', s y = s y' → y = y') (h : wpOp fa (wpCall P pu) s x σ K) : Go.wpOp P ops Q i (Post w0 outsC N c0 c s K) a c.w := by
  unfold cOper at hc
  split at hc
  · rename_i g ins hg hins
    simp only [Option.some.injEq] at hc; subst hc
    have hd : ∀ d, o.dst = some d → d < N := by
      intro d e
      unfold cOp at hins
      by_cases hb : dstBad N o.dst = true
      · rw [if_pos hb] at hins; cases hins
      · rw [e] at hb; simp [dstBad] at hb; exact hb
    -- the operation itself
    have go : wpIns fa (wpCall P pu) s o.dst σ K ins → o.wp P a c.w (Post w0 outsC N c0 c s K) Q := by
      intro hgo
      cases ins with
      | i y =>
        obtain ⟨hpre, hk⟩ := hgo
        obtain ⟨⟨v, c', hrun, G', K', hhp, hrep, hu, hx, hb⟩, hfact, _⟩ := sound_i hins S (hs 0) hpre
        have hS := S.put K' G' hhp hrep hd
        have hpost : ∀ w', c'.w = w' → Post w0 outsC N c0 c s K (a.put o.dst v) w' := fun w' e =>
          ⟨_, c', hk (fun _ => hfact), hS, e, H0.step K' hx hb, fun u hu' => by rcases hu u hu' with h | h; exact .inl h; exact .inr ⟨0, h⟩⟩
        unfold Oper.wp
        rcases hrun with hrun | ⟨rfl, hrun⟩
        · rw [hrun]; exact hpost _ rfl
        · rw [hrun]; exact hpost _ rfl
      | call g xs =>
        have hop : ∃ args ts, o.op = .call { callee := .value (.func g), args := args, argTypes := ts } ∧ cOpds args.toList = some xs := by
          unfold cOp at hins
          by_cases hb : dstBad N o.dst = true
          · rw [if_pos hb] at hins; cases hins
          · rw [if_neg hb] at hins
            unfold cOp1 at hins
            split at hins <;> first
              | (rename_i ho' _; simp only [Option.map_eq_some_iff] at hins; obtain ⟨b, hb', e⟩ := hins; cases e; exact ⟨_, _, ho', hb'⟩)
              | (rename_i ho'; simp only [Option.map_eq_some_iff] at hins; obtain ⟨b, hb', e⟩ := hins; cases e; exact ⟨_, _, ho', hb'⟩)
              | (exfalso; simp only [Option.map_eq_some_iff] at hins; obtain ⟨b, hb', e⟩ := hins; cases e; done)
              | (exfalso; repeat' split at hins) <;> first | (cases hins; done) | (simp at hins; done)
        obtain ⟨args, ts, hop, hxs⟩ := hop
        obtain ⟨hfn, hcalls⟩ := calls_sound (o := o) S H0 hs hsi hd (S.evs hxs) hgo
        have hrun : (execOp a.eval o).run P c.w = .ok (.enter g (args.toList.map a.eval).toArray) c.w := by
          have h1 := run_callFunc (w := c.w) (args := (args.toList.map a.eval).toArray) hfn
          have h2 : args.map a.eval = (args.toList.map a.eval).toArray := by apply Array.ext'; simp
          simp only [execOp, hop, resolve, Sem.run_bind]
          have h3 : a.eval (.func g) = .func (.func g) #[] #[] := rfl
          simp [h3, Deferred.ofValue, invoke, h2, h1]
        unfold Oper.wp
        rw [hrun]
        simp only [Oper.upon]
        refine hcalls.mono ?_
        rintro e w' ⟨v, rfl, σ', c', h1, h2, h3, h4, h5⟩
        exact ⟨σ', c', h1, h2, h3, h4, h5⟩
      | calv f xs =>
        simp only [wpIns] at hgo
        split at hgo
        · rename_i g caps hf
          have hop : ∃ t args ts, f = .t t ∧ o.op = .call { callee := .value (.tmp t), args := args, argTypes := ts } ∧ cOpds args.toList = some xs := by
            unfold cOp at hins
            by_cases hb : dstBad N o.dst = true
            · rw [if_pos hb] at hins; cases hins
            · rw [if_neg hb] at hins
              unfold cOp1 at hins
              split at hins <;> first
                | (rename_i ho' _; simp only [Option.map_eq_some_iff] at hins; obtain ⟨b, hb', e⟩ := hins; cases e; exact ⟨_, _, _, rfl, ho', hb'⟩)
                | (rename_i ho'; simp only [Option.map_eq_some_iff] at hins; obtain ⟨b, hb', e⟩ := hins; cases e; exact ⟨_, _, _, rfl, ho', hb'⟩)
                | (exfalso; simp only [Option.map_eq_some_iff] at hins; obtain ⟨b, hb', e⟩ := hins; cases e; done)
                | (exfalso; repeat' split at hins) <;> first | (cases hins; done) | (simp at hins; done)
          obtain ⟨t, args, ts, rfl, hop, hxs⟩ := hop
          have hfr := S.tm t
          have hf' : σ.tm t = .clo g caps := hf
          rw [hf'] at hfr
          simp only [Rep] at hfr
          obtain ⟨vs, hvs, hcl⟩ := hfr
          obtain ⟨hfn, hcalls⟩ := calls_sound (o := o) S H0 hs hsi hd ((S.evs hxs).append hcl) hgo
          have hrun : (execOp a.eval o).run P c.w = .ok (.enter g (args.toList.map a.eval ++ vs.toList).toArray) c.w := by
            have h1 := run_callFunc (w := c.w) (args := (args.toList.map a.eval ++ vs.toList).toArray) hfn
            have h2 : args.map a.eval ++ vs = (args.toList.map a.eval ++ vs.toList).toArray := by apply Array.ext'; simp
            have h3 : a.eval (.tmp t) = .func (.func g) #[] vs := hvs
            simp only [execOp, hop, resolve, Sem.run_bind]
            simp [h3, Deferred.ofValue, invoke, h2, h1]
          unfold Oper.wp
          rw [hrun]
          simp only [Oper.upon]
          refine hcalls.mono ?_
          rintro e w' ⟨v, rfl, σ', c', h1, h2, h3, h4, h5⟩
          exact ⟨σ', c', h1, h2, h3, h4, h5⟩
        · exact hgo.elim
    unfold Go.wpOp
    simp only [ho]
    cases hgd : o.guard with
    | none =>
      have hg' : g = none := by rw [hgd] at hg; simpa [cGuard] using hg.symm
      subst hg'
      have hw : Region.wanted o (yielded ops a.tmps) = true := by simp [Region.wanted, hgd]
      rw [if_pos hw]
      exact .inl (go h)
    | some jw =>
      obtain ⟨j, want⟩ := jw
      rw [hgd] at hg
      simp only [cGuard, Option.map_eq_some_iff] at hg
      obtain ⟨t, ht, rfl⟩ := hg
      simp only [wpOp] at h
      split at h
      · rename_i b hb
        have hr := S.tm t
        rw [hb] at hr
        have hr' := rep_val hr
        have hy : yielded ops a.tmps j = some b := by
          have htn : a.tmps[t]? = some (.bool b) := by
            rw [Array.getD_eq_getD_getElem?] at hr'
            cases hq : a.tmps[t]? with
            | none => rw [hq] at hr'; simp [undef] at hr'
            | some u => rw [hq] at hr'; simpa using hr'
          simp [yielded, ht, htn]
        by_cases hbw : b = want
        · have hw : Region.wanted o (yielded ops a.tmps) = true := by simp [Region.wanted, hgd, hy, hbw]
          rw [if_pos hw]
          exact .inl (go (h.1 hbw))
        · have hw : ¬ Region.wanted o (yielded ops a.tmps) = true := by simp [Region.wanted, hgd, hy, hbw]
          rw [if_neg hw]
          have hS := S.put (d := o.dst) (A := .val (.tuple #[])) (v := undef) (Keeps.refl c) S.good S.hp (by simp [Rep, undef]) hd
          exact ⟨_, c, h.2 hbw, hS, rfl, H0, fun u hu => .inl hu⟩
      · rename_i ts hb
        have hr := S.tm t
        rw [hb] at hr
        have hr' := rep_val hr
        have hy : yielded ops a.tmps j = none := by
          rw [Array.getD_eq_getD_getElem?] at hr'
          cases hq : a.tmps[t]? with
          | none => simp [yielded, ht, hq]
          | some u =>
            rw [hq] at hr'
            have hu : u = .tuple ts := by simpa using hr'
            simp [yielded, ht, hq, hu]
        have hw : ¬ Region.wanted o (yielded ops a.tmps) = true := by simp [Region.wanted, hgd, hy]
        rw [if_neg hw]
        have hS := S.put (d := o.dst) (A := .val (.tuple #[])) (v := undef) (Keeps.refl c) S.good S.hp (by simp [Rep, undef]) hd
        exact ⟨_, c, h, hS, rfl, H0, fun u hu => .inl hu⟩
      · exact h.elim
  · cases hc

end
end Go.Ab
