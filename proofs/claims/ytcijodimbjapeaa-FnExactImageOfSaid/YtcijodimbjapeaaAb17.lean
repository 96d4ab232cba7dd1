/- The abstract semantics of whole code is right; and from a function's body to its contract. Conditions: none. -/
import Derived.Test.YtcijodimbjapeaaAb16
set_option linter.all false
namespace Go.Ab
set_option maxRecDepth 20000

/-- What is asked of regions with open order. -/
def DrawOK (P : Program) (N : Nat) (dr : Array Oper → List AOp → Option (List AOp)) : Prop :=
  ∀ (w0 : World) (outsC : Nat → Prop) (c0 : Cz) (id : Nat) (ops : Array Oper) (xs ys : List AOp), cRegion P N ops ops.toList = some xs → dr ops xs = some ys →
    ∀ (σ : St) (a : Act) (c : Cz) (Q : Exit → Act → World → Prop) (K : St → Prop), (∀ σ a c, Sim w0 outsC N σ a c → Hist c0 c → K σ → Q .normal a c.w) → Sim w0 outsC N σ a c → Hist c0 c →
      (∀ vs U, New vs U σ → wpOps false (wpCall P true) vs 0 ys σ K) → (Code.region id ops true).wp P Q a c.w

section
variable {P : Program} {w0 : World} {outsC : Nat → Prop} {N : Nat} {c0 : Cz} {dr : Array Oper → List AOp → Option (List AOp)}

theorem erase_erase : ∀ a : AC, (match a with | .kp _ _ _ => False | _ => True) → True := fun _ _ => trivial

theorem reg_sound (hdr : DrawOK P N dr) {draw : Bool} {xs : List AOp} {code : Code} (hc : cCode dr P N code = some (.reg draw xs)) {Q : AEx → St → Prop} {σ : St} {a : Act} {c : Cz} (S : Sim w0 outsC N σ a c) (H0 : Hist c0 c)
    (h : ∀ vs U, New vs U σ → wpOps (!draw) (wpCall P draw) vs 0 xs σ (Q .normal)) : code.wp P (Out w0 outsC N c0 Q) a c.w := by
  cases code with
  | region id ops draw' =>
    rcases cReg_or dr P N ops draw' with e | ⟨xs0, xs', e, hxs, hok, hsame⟩
    · simp [cCode, AC.erase, e] at hc
    · simp only [cCode, AC.erase, e, Option.some.injEq, AC.reg.injEq] at hc
      obtain ⟨rfl, rfl⟩ := hc
      by_cases hd : draw' = true
      · subst hd
        exact hdr w0 outsC c0 id ops _ _ hxs (hok rfl) σ a c _ (Q .normal) (fun σ' a' c' S' H' hk => ⟨.normal, σ', c', rfl, hk, S', H', rfl⟩) S H0 h
      · have : draw' = false := by simpa using hd
        subst this
        have := hsame rfl
        subst this
        obtain ⟨vs, hnew, hfree⟩ := new_vs S
        obtain ⟨hl, hg⟩ := cRegion_get hxs
        have hsz : xs'.length = ops.size := by simpa using hl.symm
        have h1 := ops_sound (Q := Out w0 outsC N c0 Q) (ops := ops) hnew.inj (fun σ' a' c' S' H' hk => ⟨.normal, σ', c', rfl, hk, S', H', rfl⟩) xs' 0 σ a c (by omega)
          (fun j o x ho hx => hg j o x (by simpa using ho) hx) S H0 (fun i' j _ => hfree i' j) (h vs _ hnew)
        refine wp_region ?_
        rw [hsz] at h1
        rw [List.range_eq_range']
        exact h1
  | seq x y => simp only [cCode, AC.erase] at hc; split at hc <;> simp at hc
  | cond q x y => simp only [cCode, AC.erase] at hc; split at hc <;> simp at hc
  | block id x => simp [cCode, AC.erase] at hc
  | loop x => simp [cCode, AC.erase] at hc
  | _ => simp [cCode, AC.erase] at hc

/-- WHOLE CODE IS RIGHT. -/
theorem code_sound (hdr : DrawOK P N dr) : ∀ (ac : AC) (code : Code), cCode dr P N code = some ac.erase → ∀ (Q : AEx → St → Prop) (σ : St) (a : Act) (c : Cz), Sim w0 outsC N σ a c → Hist c0 c → wpC P ac Q σ →
    code.wp P (Out w0 outsC N c0 Q) a c.w
  | .kp ts hs x, code, hc, Q, σ, a, c, S, H0, h => by
    obtain ⟨h1, h2⟩ := keep_tm (σ := σ) ts hs
    obtain ⟨c', S', H', hw⟩ := S.drop H0 (σ.keep ts hs) h1 h2
    rw [← hw]
    exact code_sound hdr x code hc Q _ a c' S' H' h
  | .stuck, _, _, _, _, _, _, _, _, h => h.elim
  | .ad b off r k x, code, hc, Q, σ, a, c, S, H0, h => by
    obtain ⟨ver, c', S', H', hw⟩ := S.adopt H0 b off r k
    rw [← hw]
    exact code_sound hdr x code hc Q _ a c' S' H' (h ver)
  | .dn x, code, hc, Q, σ, a, c, S, H0, h => by
    obtain ⟨c', S', H', hw⟩ := S.dn H0
    rw [← hw]
    exact code_sound hdr x code hc Q _ a c' S' H' h
  | .skip, code, hc, Q, σ, a, c, S, H0, h => by
    cases code with
    | skip => exact wp_skip ⟨.normal, σ, c, rfl, h, S, H0, rfl⟩
    | region id ops draw => rcases cReg_or dr P N ops draw with e | ⟨_, _, e, _⟩ <;> simp [cCode, AC.erase, e] at hc
    | seq x y => simp only [cCode, AC.erase] at hc; split at hc <;> simp at hc
    | cond q x y => simp only [cCode, AC.erase] at hc; split at hc <;> simp at hc
    | block id x => simp [cCode, AC.erase] at hc
    | loop x => simp [cCode, AC.erase] at hc
    | _ => simp [cCode, AC.erase] at hc
  | .reg draw xs, code, hc, Q, σ, a, c, S, H0, h => reg_sound hdr hc S H0 h
  | .regi draw xs, code, hc, Q, σ, a, c, S, H0, h => reg_sound hdr hc S H0 h
  | .mv p q x, code, hc, Q, σ, a, c, S, H0, h => by
    obtain ⟨m, c', S', H', hw⟩ := S.mv H0 p q
    rw [← hw]
    exact code_sound hdr x code hc Q _ a c' S' H' (h m)
  | .gh x, code, hc, Q, σ, a, c, S, H0, h => by
    obtain ⟨gs, h1⟩ := h S.dist
    obtain ⟨σ', c', h2, S', H', hw⟩ := gwp_sound gs σ c S H0 h1
    rw [← hw]
    exact code_sound hdr x code hc Q _ a c' S' H' h2
  | .seq x y, code, hc, Q, σ, a, c, S, H0, h => by
    cases code with
    | seq p q =>
      simp only [cCode, AC.erase] at hc
      split at hc
      · rename_i x' y' hx hy
        simp only [Option.some.injEq, AC.seq.injEq] at hc
        obtain ⟨rfl, rfl⟩ := hc
        refine wp_seq ?_
        refine wp_mono (code_sound hdr x p hx _ σ a c S H0 h) ?_
        rintro e a' w' ⟨ae, σ', c', rfl, hq, S', H', rfl⟩
        cases ae with
        | normal => exact code_sound hdr y q hy Q σ' a' c' S' H' hq
        | exit id => exact ⟨.exit id, σ', c', rfl, hq, S', H', rfl⟩
        | ret => exact ⟨.ret, σ', c', rfl, hq, S', H', rfl⟩
      · cases hc
    | region id ops draw => rcases cReg_or dr P N ops draw with e | ⟨_, _, e, _⟩ <;> simp [cCode, AC.erase, e] at hc
    | cond q x y => simp only [cCode, AC.erase] at hc; split at hc <;> simp at hc
    | block id x => simp [cCode, AC.erase] at hc
    | loop x => simp [cCode, AC.erase] at hc
    | _ => simp [cCode, AC.erase] at hc
  | .cond q x y, code, hc, Q, σ, a, c, S, H0, h => by
    cases code with
    | cond q' p1 p2 =>
      simp only [cCode, AC.erase] at hc
      split at hc
      · rename_i q'' x' y' hq hx hy
        simp only [Option.some.injEq, AC.cond.injEq] at hc
        obtain ⟨rfl, rfl, rfl⟩ := hc
        have e1 := S.ev hq
        simp only [wpC] at h
        split at h
        · rename_i t ht
          rw [ht] at e1
          refine wp_cond_split (rep_val e1) (fun e => ?_) (fun e => ?_)
          · exact code_sound hdr x p1 hx Q σ a c S H0 (h.1 e)
          · exact code_sound hdr y p2 hy Q σ a c S H0 (h.2 e)
        · exact h.elim
      · cases hc
    | region id ops draw => rcases cReg_or dr P N ops draw with e | ⟨_, _, e, _⟩ <;> simp [cCode, AC.erase, e] at hc
    | seq x y => simp only [cCode, AC.erase] at hc; split at hc <;> simp at hc
    | block id x => simp [cCode, AC.erase] at hc
    | loop x => simp [cCode, AC.erase] at hc
    | _ => simp [cCode, AC.erase] at hc
  | .block id x, code, hc, Q, σ, a, c, S, H0, h => by
    cases code with
    | block id' p =>
      simp only [cCode, AC.erase, Option.map_eq_some_iff] at hc
      obtain ⟨x', hx, e⟩ := hc
      simp only [AC.block.injEq] at e
      obtain ⟨rfl, rfl⟩ := e
      refine wp_block ?_
      refine wp_mono (code_sound hdr x p hx _ σ a c S H0 h) ?_
      rintro e a' w' ⟨ae, σ', c', rfl, hq, S', H', rfl⟩
      cases ae with
      | normal => exact ⟨.normal, σ', c', rfl, hq, S', H', rfl⟩
      | exit i =>
        simp only [AEx.conc, Exit.inBlock]
        by_cases hi : i = id'
        · rw [if_pos hi]; simp only [if_pos hi] at hq; exact ⟨.normal, σ', c', rfl, hq, S', H', rfl⟩
        · rw [if_neg hi]; simp only [if_neg hi] at hq; exact ⟨.exit i, σ', c', rfl, hq, S', H', rfl⟩
      | ret => exact ⟨.ret, σ', c', rfl, hq, S', H', rfl⟩
    | region id ops draw => rcases cReg_or dr P N ops draw with e | ⟨_, _, e, _⟩ <;> simp [cCode, AC.erase, e] at hc
    | seq x y => simp only [cCode, AC.erase] at hc; split at hc <;> simp at hc
    | cond q x y => simp only [cCode, AC.erase] at hc; split at hc <;> simp at hc
    | loop x => simp [cCode, AC.erase] at hc
    | _ => simp [cCode, AC.erase] at hc
  | .loop x, code, hc, Q, σ, a, c, S, H0, h => by
    cases code with
    | loop p =>
      simp only [cCode, AC.erase, Option.map_eq_some_iff] at hc
      obtain ⟨x', hx, e⟩ := hc
      simp only [AC.loop.injEq] at e
      subst e
      simp only [wpC] at h
      obtain ⟨I, ⟨n, hn⟩, hround⟩ := h
      refine wp_loop_ix (fun n a' w' => ∃ σ' c', I n σ' ∧ Sim w0 outsC N σ' a' c' ∧ Hist c0 c' ∧ c'.w = w') ⟨n, σ, c, hn, S, H0, rfl⟩ ?_
      rintro n a' w' ⟨σ', c', hI, S', H', rfl⟩
      refine wp_mono (code_sound hdr x p hx _ σ' a' c' S' H' (hround n σ' hI)) ?_
      rintro e a'' w'' ⟨ae, σ'', c'', rfl, hq, S'', H'', rfl⟩
      cases ae with
      | normal =>
        obtain ⟨k, hk, hI'⟩ := hq
        exact ⟨k, hk, σ'', c'', hI', S'', H'', rfl⟩
      | exit i => exact ⟨.exit i, σ'', c'', rfl, hq, S'', H'', rfl⟩
      | ret => exact ⟨.ret, σ'', c'', rfl, hq, S'', H'', rfl⟩
    | region id ops draw => rcases cReg_or dr P N ops draw with e | ⟨_, _, e, _⟩ <;> simp [cCode, AC.erase, e] at hc
    | seq x y => simp only [cCode, AC.erase] at hc; split at hc <;> simp at hc
    | cond q x y => simp only [cCode, AC.erase] at hc; split at hc <;> simp at hc
    | block id x => simp [cCode, AC.erase] at hc
    | _ => simp [cCode, AC.erase] at hc
  | .exit id, code, hc, Q, σ, a, c, S, H0, h => by
    cases code with
    | exit id' =>
      simp only [cCode, AC.erase, Option.some.injEq, AC.exit.injEq] at hc
      subst hc
      exact wp_exit ⟨.exit id', σ, c, rfl, h, S, H0, rfl⟩
    | region id ops draw => rcases cReg_or dr P N ops draw with e | ⟨_, _, e, _⟩ <;> simp [cCode, AC.erase, e] at hc
    | seq x y => simp only [cCode, AC.erase] at hc; split at hc <;> simp at hc
    | cond q x y => simp only [cCode, AC.erase] at hc; split at hc <;> simp at hc
    | block id x => simp [cCode, AC.erase] at hc
    | loop x => simp [cCode, AC.erase] at hc
    | _ => simp [cCode, AC.erase] at hc
  | .ret, code, hc, Q, σ, a, c, S, H0, h => by
    cases code with
    | ret => exact wp_ret ⟨.ret, σ, c, rfl, h, S, H0, rfl⟩
    | region id ops draw => rcases cReg_or dr P N ops draw with e | ⟨_, _, e, _⟩ <;> simp [cCode, AC.erase, e] at hc
    | seq x y => simp only [cCode, AC.erase] at hc; split at hc <;> simp at hc
    | cond q x y => simp only [cCode, AC.erase] at hc; split at hc <;> simp at hc
    | block id x => simp [cCode, AC.erase] at hc
    | loop x => simp [cCode, AC.erase] at hc
    | _ => simp [cCode, AC.erase] at hc

end

/-- Where a result stands: a temporary, or a variable of one cell (none) or more. -/
inductive ARes where
  | tmp (t : Nat)
  | cell (n : Option Nat) (t : Nat)
  deriving Inhabited

def cRes1 (P : Program) : ResultVar → Option ARes
  | .tmp t => some (.tmp t)
  | .cell a t => match cSize P t with
    | some none => some (.cell none a)
    | some (some n) => if n = 0 then none else some (.cell (some n) a)
    | none => none

/-- The results. -/
def cRes (P : Program) : List ResultVar → Option (List ARes)
  | [] => some []
  | r :: rs => match cRes1 P r, cRes P rs with
    | some x, some xs => some (x :: xs)
    | _, _ => none

/-- A function, translated. -/
structure AFn where
  ntmps : Nat
  nparams : Nat
  code : AC
  res : List ARes

def cFn (dr : Array Oper → List AOp → Option (List AOp)) (P : Program) (g : FuncId) (F : AFn) : Prop :=
  ∃ fn code, P.funcs[g]? = some fn ∧ fn.body = some code ∧ isNumG fn = false ∧ F.nparams ≤ F.ntmps ∧ fn.ntmps = F.ntmps ∧ cRes P fn.results.toList = some F.res ∧ cCode dr P F.ntmps code = some F.code.erase

def St.value1 (σ : St) : ARes → AVal
  | .tmp t => σ.tm t
  | .cell none t => match σ.at (σ.tm t) with
    | some (cs, off) => cs.getD off .any
    | none => .any
  | .cell (some n) t => match σ.at (σ.tm t) with
    | some (cs, off) => .st ((cs.drop off).take n)
    | none => .any

def St.there (σ : St) : ARes → Prop
  | .tmp _ => True
  | .cell none t => match σ.at (σ.tm t) with
    | some (cs, off) => off < cs.length
    | none => False
  | .cell (some n) t => match σ.at (σ.tm t) with
    | some (cs, off) => off + n ≤ cs.length
    | none => False

/-- What a function hands back, in its own numbers. -/
def St.value (σ : St) : List ARes → AVal
  | [t] => σ.value1 t
  | ts => .tup (ts.map σ.value1)

/-- From the callee's own numbers to those of its contract: what it was handed, and the objects ids that it hands back. -/
def expo (ids : List Nat) : Nat → Option Nat := fun n =>
  if 5000 ≤ n then (if n < 6000 then some n else none) else match ids.idxOf? n with
    | some i => some (6000 + i)
    | none => none

/-- What is asked at a return: ids are the objects that are handed back. -/
def Ret (nin : Nat) (sh : Bool) (ids : List Nat) (R : List AObj → List AObj → AVal → Prop) (res : List ARes) (σ : St) : Prop :=
  (∀ x ∈ res, σ.there x) ∧
  R ((List.range nin).map fun j => (σ.hp (5000 + j)).ren (expo ids) id) (ids.map fun n => (σ.hp n).ren (expo ids) id) ((σ.value res).ren (expo ids) id) ∧
  nin ≤ 1000 ∧ ids.length ≤ 1000 ∧ ids.Nodup ∧ (∀ n ∈ ids, n < 5000) ∧
  (sh = false → (σ.value res).fresh ∧ (∀ n ∈ ids, (σ.hp n).fresh) ∧ ∀ j, j < nin → (σ.hp (5000 + j)).fresh)

section
variable {P : Program} {w0 : World} {outs : Nat → Prop} {N : Nat} {σ : St} {a : Act} {c : Cz}

theorem load1_sound (S : Sim w0 outs N σ a c) {t : TypeId} {A : AVal} {pv : Value} (hr : Rep c A pv) (ht : cSize P t = some none) {cs : List AVal} {off : Nat} (hat : σ.at A = some (cs, off)) (hlt : off < cs.length) :
    ∃ ad u, pv = .pointer (some ad) ∧ (loadVar t ad).run P c.w = .ok u c.w ∧ Rep c (cs.getD off .any) u := by
  obtain ⟨b, p, hv, hr⟩ := at_cells S.good S.hp hr hat
  have hv : pv = .pointer (some ⟨b, p + off, none⟩) := by
    rcases hv with hv | hv
    · exact hv
    · subst hv; simp at hlt
  obtain ⟨v, hcell, hrep⟩ := hr.get (List.getElem?_eq_getElem hlt)
  refine ⟨_, v, hv, ?_, ?_⟩
  · simp [loadVar, run_isAgg_false ht, hcell]
  · simp only [List.getD_eq_getElem?_getD, List.getElem?_eq_getElem hlt, Option.getD_some]; exact hrep

theorem loadn_sound (S : Sim w0 outs N σ a c) {t : TypeId} {n : Nat} {A : AVal} {pv : Value} (hr : Rep c A pv) (ht : cSize P t = some (some n)) (hn : 0 < n) {cs : List AVal} {off : Nat} (hat : σ.at A = some (cs, off)) (hlt : off + n ≤ cs.length) :
    ∃ ad u, pv = .pointer (some ad) ∧ (loadVar t ad).run P c.w = .ok u c.w ∧ Rep c (.st ((cs.drop off).take n)) u := by
  obtain ⟨b, p, hv, hr⟩ := at_cells S.good S.hp hr hat
  have hv : pv = .pointer (some ⟨b, p + off, none⟩) := by
    rcases hv with hv | hv
    · exact hv
    · subst hv; simp at hlt; omega
  obtain ⟨vs, h5, h6, h7⟩ := ((hr.drop off).take n).vals
  have hlen : vs.length = n := by rw [h6, List.length_take, List.length_drop]; omega
  have hrun := run_loadCells_list (P := P) (w := c.w) ⟨b, p + off, none⟩ vs (fun j v hj => by rw [addr_add]; exact h7 j v hj)
  rw [hlen] at hrun
  refine ⟨_, .agg vs.toArray, hv, ?_, ?_⟩
  · simp [loadVar, run_isAgg_true ht, hrun]
  · simp only [Rep]; exact ⟨_, rfl, by simpa using h5⟩

end
end Go.Ab
