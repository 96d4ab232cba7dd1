/- Each instruction does what it says: maps, greatest and least; and all of them. Conditions: none. -/
import Derived.Test.YtcijodimbjapeaaAb10
set_option linter.all false
namespace Go.Ab
section
variable {P : Program} {w0 : World} {outs : Nat → Prop} {N : Nat} {σ : St} {o : Oper} {a : Act} {c : Cz} {ver : Nat}

/-- The kinds of key that are compared at once. -/
def keyDesc (kd : Nat) (d : TypeDesc) : Prop := (kd = 0 ∧ ∃ q, d = .int q) ∨ (kd = 1 ∧ d = .string) ∨ (kd = 2 ∧ d = .bool)

theorem sameNow_eq {kd : Nat} {d : TypeDesc} (h : keyDesc kd d) {k x : Value} (hk : keyIs kd k = true) {r : Bool} (hs : sameKey k x = some r) : Instr.sameNow d k x = some r := by
  rcases h with ⟨rfl, q, rfl⟩ | ⟨rfl, rfl⟩ | ⟨rfl, rfl⟩
  · cases k <;> simp [keyIs] at hk
    cases x <;> simp [sameKey] at hs
    simp [Instr.sameNow, hs]
  · cases k <;> simp [keyIs] at hk
    cases x <;> simp [sameKey] at hs
    simp [Instr.sameNow, hs]
  · cases k <;> simp [keyIs] at hk
    cases x <;> simp [sameKey] at hs
    simp [Instr.sameNow, hs]

theorem findNow_eq {kd : Nat} {d : TypeDesc} (h : keyDesc kd d) {k : Value} (hk : keyIs kd k = true) : ∀ (es : List MapEntry) (i : Nat) (r : Option Nat), findKeyAt k (es.map (·.key)) i = some r →
    (r = none ∧ Instr.findNow d k es i = some none) ∨ ∃ j e, r = some j ∧ i ≤ j ∧ es[j - i]? = some e ∧ sameKey k e.key = some true ∧ Instr.findNow d k es i = some (some (j, e.val))
  | [], i, r, hr => by simp [findKeyAt] at hr; subst hr; exact .inl ⟨rfl, rfl⟩
  | e :: es, i, r, hr => by
    simp only [List.map_cons, findKeyAt] at hr
    split at hr
    · rename_i hs
      simp only [Option.some.injEq] at hr; subst hr
      exact .inr ⟨i, e, rfl, Nat.le_refl _, by simp, hs, by simp [Instr.findNow, sameNow_eq h hk hs]⟩
    · rename_i hs
      rcases findNow_eq h hk es (i + 1) r hr with ⟨h1, h2⟩ | ⟨j, e', h1, h2, h3, h4, h5⟩
      · exact .inl ⟨h1, by simp [Instr.findNow, sameNow_eq h hk hs, h2]⟩
      · refine .inr ⟨j, e', h1, by omega, ?_, h4, by simp [Instr.findNow, sameNow_eq h hk hs, h5]⟩
        have : j - i = (j - (i + 1)) + 1 := by omega
        rw [this]; simpa using h3
    · cases hr

theorem run_checkKey {kd : Nat} {kt : TypeId} {d : TypeDesc} (hd : P.underlying kt = some d) (h : keyDesc kd d) {k : Value} (hk : keyIs kd k = true) (b : Bool) (n : Nat) (w : World) : (Instr.checkKey b (n + 1) kt k).run P w = .ok () w := by
  rcases h with ⟨rfl, q, rfl⟩ | ⟨rfl, rfl⟩ | ⟨rfl, rfl⟩ <;> cases k <;> simp [keyIs] at hk <;> simp [Instr.checkKey, underlying, hd]

theorem run_getObj_map {w : World} {b clock : Nat} {ents : Array MapEntry} (hb : w.heap[b]? = some (.map ents clock)) : (getObj b).run P w = .ok (.map ents clock) w := by
  simp [getObj, Sem.run, hb]

theorem ba_eq {a b : ByteArray} (h : (a == b) = true) : a = b := by
  cases a with | mk x => cases b with | mk y =>
    have : (x == y) = true := h
    rw [eq_of_beq this]

theorem ba_self (a : ByteArray) : (a == a) = true := by
  cases a with | mk x =>
    show (x == x) = true
    exact beq_self_eq_true x

theorem sameKey_eq {k x : Value} (h : sameKey k x = some true) : k = x := by
  unfold sameKey at h
  split at h
  · split at h
    · simp at h; simp [*]
    · cases h
  · simp only [Option.some.injEq] at h; rw [ba_eq h]
  · simp at h; simp [h]
  · cases h

theorem run_keyStays {kd : Nat} {k : Value} (hk : keyIs kd k = true) (w : World) : (Instr.keyThatStays k k).run P w = .ok k w := by
  have : Instr.sameBits 10000 k k = true := by
    cases k with
    | int q n => unfold Instr.sameBits; simp
    | string s => unfold Instr.sameBits; exact ba_self s
    | bool b => unfold Instr.sameBits; simp
    | _ => exfalso; unfold keyIs at hk; split at hk <;> simp_all
  simp [Instr.keyThatStays, this]

theorem kindOf_spec {kt : TypeId} (h : isInt P kt = true ∨ isStr P kt = true ∨ isBool P kt = true) : ∃ d, P.underlying kt = some d ∧ keyDesc (kindOf P kt) d := by
  unfold kindOf
  by_cases h1 : isInt P kt = true
  · rw [if_pos h1]
    unfold isInt at h1
    split at h1
    · rename_i q hq; exact ⟨_, hq, .inl ⟨rfl, q, rfl⟩⟩
    · cases h1
  · rw [if_neg h1]
    by_cases h2 : isStr P kt = true
    · rw [if_pos h2]
      unfold isStr at h2
      split at h2
      · rename_i hq; exact ⟨_, hq, .inr (.inl ⟨rfl, rfl⟩)⟩
      · cases h2
    · rw [if_neg h2]
      have h3 : isBool P kt = true := by
        rcases h with h | h | h
        · exact absurd h h1
        · exact absurd h h2
        · exact h
      unfold isBool at h3
      split at h3
      · rename_i hq; exact ⟨_, hq, .inr (.inr ⟨rfl, rfl⟩)⟩
      · cases h3

theorem ex_lkp {t kt e : TypeId} {i : TypeInfo} {z : Value} {Z : AVal} {x1 x2 : Operand} {y1 y2 : AOpd} {ok : Bool} (S : Sim w0 outs N σ a c) (ho : o.op = .lookup t x1 x2 ok) (ht : P.underlying t = some (.map kt e)) (hkt : isInt P kt = true ∨ isStr P kt = true ∨ isBool P kt = true)
    (hi : P.info? e = some i) (hz : i.zero = some z) (hZ : Rep c Z z) (h1 : cOpd x1 = some y1) (h2 : cOpd x2 = some y2)
    (hp : AI.pre σ (o.dst.getD 0) (.lkp (kindOf P kt) ok Z y1 y2)) : Ex1 P w0 outs o a c σ.hp (AI.out σ ver (o.dst.getD 0) (.lkp (kindOf P kt) ok Z y1 y2)) ver := by
  obtain ⟨d, hd, hkd⟩ := kindOf_spec hkt
  have e1 := S.ev h1; have e2 := S.ev h2
  simp only [AI.pre] at hp
  split at hp
  · rename_i k ks vs hk hat
    obtain ⟨hki, hfs⟩ := hp
    rw [hk] at e2
    have e2' := rep_val e2
    obtain ⟨b, clock, ents, hv, hb, hks, hvs⟩ := map_cells S.good S.hp e1 hat
    obtain ⟨r, hr⟩ := Option.isSome_iff_exists.1 hfs
    have hck := run_checkKey hd hkd hki ents.isEmpty 9999 c.w
    have hzr : (zeroValue e).run P c.w = .ok z c.w := by simp [zeroValue, typeInfo, hi, hz]
    subst hks
    rcases findNow_eq hkd hki ents.toList 0 r hr with ⟨rfl, hf⟩ | ⟨j, en, rfl, _, hj, hsk, hf⟩
    · have hfk : (Instr.findKey kt k ents.toList).run P c.w = .ok none c.w := by simp [Instr.findKey, underlying, hd, hf]
      have run : (execOp a.eval o).run P c.w = .ok (.value (if ok then .tuple #[z, .bool false] else z)) c.w := by
        simp only [execOp, ho, hv, e2']
        cases ok <;> simp [Instr.lookup, underlying, ht, run_getObj_map hb, hck, hfk, hzr]
      refine Ex1.still S run ?_
      simp only [AI.out, hk, hat, hr]
      cases ok
      · simpa using hZ
      · simp only [if_true, Rep]
        exact ⟨#[z, .bool false], rfl, by simp only [RepL]; exact ⟨hZ, rep_of_val, trivial⟩⟩
    · have hfk : (Instr.findKey kt k ents.toList).run P c.w = .ok (some (j, en.val)) c.w := by simp [Instr.findKey, underlying, hd, hf]
      have run : (execOp a.eval o).run P c.w = .ok (.value (if ok then .tuple #[en.val, .bool true] else en.val)) c.w := by
        simp only [execOp, ho, hv, e2']
        cases ok <;> simp [Instr.lookup, underlying, ht, run_getObj_map hb, hck, hfk]
      refine Ex1.still S run ?_
      simp only [AI.out, hk, hat, hr]
      have hlen := hvs.length
      have hjl : j < vs.length := by
        have := (List.getElem?_eq_some_iff.1 hj).1
        simp at hlen this; omega
      obtain ⟨u, hu, hrep⟩ := hvs.get (List.getElem?_eq_getElem hjl)
      have hu' : u = en.val := by
        simp only [Nat.sub_zero] at hj
        rw [List.getElem?_map, hj] at hu
        simpa using hu.symm
      have hrep' : Rep c (vs.getD j .any) en.val := by
        rw [← hu']
        simp only [List.getD_eq_getElem?_getD, List.getElem?_eq_getElem hjl, Option.getD_some]
        exact hrep
      cases ok
      · simpa using hrep'
      · simp only [if_true, Rep]
        exact ⟨#[en.val, .bool true], rfl, by simp only [RepL]; exact ⟨hrep', rep_of_val, trivial⟩⟩
  · exact hp.elim

theorem heap_setObj (w : World) (b k : Nat) (o : Obj) (h : k ≠ b) : ({ w with heap := w.heap.setIfInBounds b o } : World).heap[k]? = w.heap[k]? := by
  simp only [Array.getElem?_setIfInBounds]
  rw [if_neg (fun e => h e.symm)]

theorem RepL.set {c : Cz} {cs : List AVal} {vs : List Value} (h : RepL c cs vs) {A : AVal} {v : Value} (hA : Rep c A v) (j : Nat) : RepL c (cs.set j A) (vs.set j v) := by
  induction j generalizing cs vs with
  | zero => cases cs <;> cases vs <;> simp_all [RepL]
  | succ j ih => cases cs <;> cases vs <;> simp_all [RepL]

theorem ex_mup {t kt e : TypeId} {x1 x2 x3 : Operand} {y1 y2 y3 : AOpd} (S : Sim w0 outs N σ a c) (ho : o.op = .mapUpdate t x1 x2 x3 ∨ o.op = .insert t x1 x2 x3) (ht : P.underlying t = some (.map kt e)) (hkt : isInt P kt = true ∨ isStr P kt = true ∨ isBool P kt = true)
    (h1 : cOpd x1 = some y1) (h2 : cOpd x2 = some y2) (h3 : cOpd x3 = some y3)
    (hp : AI.pre σ (o.dst.getD 0) (.mup (kindOf P kt) y1 y2 y3)) : Ex1 P w0 outs o a c (AI.hpw σ ver (o.dst.getD 0) (.mup (kindOf P kt) y1 y2 y3)) (AI.out σ ver (o.dst.getD 0) (.mup (kindOf P kt) y1 y2 y3)) ver := by
  obtain ⟨d, hd, hkd⟩ := kindOf_spec hkt
  have e1 := S.ev h1; have e2 := S.ev h2; have e3 := S.ev h3
  simp only [AI.pre] at hp
  split at hp
  · rename_i r v0 k hA hk
    obtain ⟨hm, hown⟩ := hp
    split at hm
    · rename_i ver' ks vs hrr
      obtain ⟨rfl, hfs, hki⟩ := hm
      rw [hk] at e2
      have e2' := rep_val e2
      rw [hA] at e1
      simp only [Rep] at e1
      have hrc : c.hp r = .map ver' ks vs := by rw [S.hp]; exact hrr
      -- the value is frozen
      have hown' : ∀ q v, AVal.own q v ∈ [σ.ev y3] → ∃ k nn l, c.hp q = .row v k nn l := by
        intro q v hq
        simp only [List.mem_singleton] at hq
        rw [S.hp]
        exact hown q v hq.symm
      have hnd : (owned [σ.ev y3]).Nodup := by cases σ.ev y3 <;> simp [owned]
      obtain ⟨c1, G1, K1, hw1, hu1, hx1, hb1, hloc1, hh1, hl1⟩ := frzL [σ.ev y3] [a.eval x3] c S.good (by simp only [RepL]; exact ⟨e3, trivial⟩) hown' hnd
      have hrn : r ∉ owned [σ.ev y3] := by
        intro h
        obtain ⟨v, hv⟩ := owned_mem.1 h
        obtain ⟨k', nn, l, h5⟩ := hown' r v hv
        rw [hrc] at h5; cases h5
      have hr1 : c1.hp r = .map ver' ks vs := by rw [hh1]; simp only [if_neg hrn]; exact hrc
      have hO := G1.obj r
      rw [hr1] at hO
      obtain ⟨b, clock, ents, hloc, hb, hks, hvs⟩ := hO
      rw [hloc1] at hloc
      rw [hw1] at hb
      have hv1 : a.eval x1 = .map (some b) := by rw [← hloc]; exact e1.2 (by rw [hrc]; rfl)
      have hval : Rep c1 (frz c.hp (σ.ev y3)) (a.eval x3) := by
        simp only [List.map_cons, List.map_nil, RepL] at hl1; exact hl1.1
      obtain ⟨res, hres⟩ := Option.isSome_iff_exists.1 hfs
      have hck := run_checkKey hd hkd hki false 9999 c.w
      have hgone : c1.hp r ≠ .gone := by rw [hr1]; simp
      have hblk : blockOf (c1.loc r) = some b := by rw [hloc1, hloc]; rfl
      have hset : ∀ o : Obj, (setObj b o).run P c.w = .ok () { c.w with heap := c.w.heap.setIfInBounds b o } := by
        intro o; simp [setObj, Sem.run, hb]
      have fin : ∀ (o' : Obj) (ks' : List Value) (vs' : List AVal), (execOp a.eval o).run P c.w = .ok .skip { c.w with heap := c.w.heap.setIfInBounds b o' } →
          (∀ c2 : Cz, Keeps c1 c2 → ∃ clock' ents', o' = .map ents' clock' ∧ ents'.toList.map (·.key) = ks' ∧ RepL c2 vs' (ents'.toList.map (·.val))) →
          AI.hpw σ ver (o.dst.getD 0) (.mup (kindOf P kt) y1 y2 y3) = (fun n => if n = r then AObj.map ver' ks' vs' else if n ∈ owned [σ.ev y3] then AObj.gone else σ.hp n) →
          Ex1 P w0 outs o a c (AI.hpw σ ver (o.dst.getD 0) (.mup (kindOf P kt) y1 y2 y3)) (AI.out σ ver (o.dst.getD 0) (.mup (kindOf P kt) y1 y2 y3)) ver := by
        intro o' ks' vs' hrun hobj hhp
        have hbl : b < c.w.heap.size := block_lt_of_some hb
        have hG := G1.upd { c.w with heap := c.w.heap.setIfInBounds b o' } r (.map ver' ks' vs') (c1.loc r) ver' (by rw [hw1]) (by rw [hw1]) (by rw [hw1]) (by rw [hw1]; simp)
          (fun q _ hq => by rw [hw1]; exact heap_setObj c.w b q o' fun e => hq ⟨hgone, by rw [e]; exact hblk⟩)
          (fun q hq => ⟨.inl ⟨hgone, hq⟩, by rw [hblk] at hq; simp at hq; subst hq; simpa using hbl⟩)
          (.inr (.inr ⟨by rw [hr1]; rfl, rfl, (G1.verU r ver' (by rw [hr1]; rfl)).1⟩))
          (fun K => by
            obtain ⟨clock', ents', h5, h6, h7⟩ := hobj _ K
            refine ⟨b, clock', ents', by rw [hloc1]; exact hloc, ?_, h6, h7⟩
            show (c.w.heap.setIfInBounds b o')[b]? = _
            rw [Array.getElem?_setIfInBounds_self_of_lt hbl, h5])
        refine ⟨undef, _, .inr ⟨rfl, hrun⟩, hG.1, K1.trans hG.2, ?_, by simp [AI.out, Rep], ?_, hx1, hb1⟩
        · rw [hhp]; simp only [Cz.upd, hh1, S.hp]
        · rintro u (h | rfl)
          · rw [hu1] at h; exact .inl h
          · exact .inl e1.1
      rw [← hks] at hres
      rcases findNow_eq hkd hki ents.toList 0 res hres with ⟨rfl, hf⟩ | ⟨j, en, rfl, _, hj, hsk, hf⟩
      · have hfk : (Instr.findKey kt k ents.toList).run P c.w = .ok none c.w := by simp [Instr.findKey, underlying, hd, hf]
        refine fin (.map (ents.push { key := k, val := a.eval x3, born := clock }) (clock + 1)) (ks ++ [k]) (vs ++ [frz c.hp (σ.ev y3)]) ?_ ?_ ?_
        · rcases ho with ho | ho <;> simp [execOp, ho, hv1, e2', Instr.mapUpdate, underlying, ht, run_getObj_map hb, hck, hfk, hset]
        · intro c2 K
          refine ⟨_, _, rfl, by simp [hks], ?_⟩
          have h6 := (RepL.keeps K _ _ hvs).append (ds := [frz c.hp (σ.ev y3)]) (us := [a.eval x3]) (by simp only [RepL]; exact ⟨Rep.keeps K _ _ hval, trivial⟩)
          simpa using h6
        · rw [hks] at hres
          simp only [AI.hpw, hA, hk, hrr, hres, S.hp]
      · simp only [Nat.sub_zero] at hj
        have hkey := sameKey_eq hsk
        have hfk : (Instr.findKey kt k ents.toList).run P c.w = .ok (some (j, en.val)) c.w := by simp [Instr.findKey, underlying, hd, hf]
        have hst := run_keyStays (P := P) hki c.w
        have hej : ents[j]? = some en := by simpa using hj
        refine fin (.map (ents.modify j fun e => { e with key := k, val := a.eval x3 }) clock) ks (vs.set j (frz c.hp (σ.ev y3))) ?_ ?_ ?_
        · rcases ho with ho | ho <;> simp [execOp, ho, hv1, e2', Instr.mapUpdate, underlying, ht, run_getObj_map hb, hck, hfk, hset, hej, ← hkey, hst]
        · intro c2 K
          have hml : (ents.modify j fun e => { e with key := k, val := a.eval x3 }).toList = ents.toList.set j { en with key := k, val := a.eval x3 } := by
            apply List.ext_getElem?
            intro n
            rw [Array.getElem?_toList, Array.getElem?_modify, List.getElem?_set]
            by_cases hn : j = n
            · subst hn
              have := (List.getElem?_eq_some_iff.1 hj).1
              rw [if_pos rfl, if_pos rfl, if_pos this, hej]; rfl
            · rw [if_neg hn, if_neg hn]; simp
          refine ⟨_, _, rfl, ?_, ?_⟩
          · rw [hml, ← hks]
            apply List.ext_getElem?
            intro n
            simp only [List.getElem?_map, List.getElem?_set]
            by_cases hn : j = n
            · subst hn
              have := (List.getElem?_eq_some_iff.1 hj).1
              rw [if_pos rfl, if_pos this, hj]; simp [hkey]
            · rw [if_neg hn]
          · rw [hml, List.map_set]
            exact RepL.set (RepL.keeps K _ _ hvs) (Rep.keeps K _ _ hval) j
        · rw [hks] at hres
          simp only [AI.hpw, hA, hk, hrr, hres, S.hp]
    · exact hm.elim
  · exact hp.elim

theorem ex_mx {x1 x2 : Operand} {y1 y2 : AOpd} {args : Array Operand} {ts : Array TypeId} (big : Bool) (S : Sim w0 outs N σ a c)
    (ho : o.op = .call { callee := .builtin (if big then .max else .min), args := args, argTypes := ts }) (ha : args.toList = [x1, x2]) (h1 : cOpd x1 = some y1) (h2 : cOpd x2 = some y2)
    (hp : AI.pre σ (o.dst.getD 0) (.mx big y1 y2)) : Ex1 P w0 outs o a c σ.hp (AI.out σ ver (o.dst.getD 0) (.mx big y1 y2)) ver := by
  have e1 := S.ev h1; have e2 := S.ev h2
  have ha' : args = #[x1, x2] := by cases args; simp at ha; simp [ha]
  subst ha'
  simp only [AI.pre] at hp
  split at hp
  · rename_i k1 n1 k2 n2 hu hv
    rw [hu] at e1; rw [hv] at e2
    have e1' := rep_val e1; have e2' := rep_val e2
    refine Ex1.still S (v := .int k1 (if big then (if n2 > n1 then n2 else n1) else (if n2 < n1 then n2 else n1))) ?_ ?_
    · cases big <;> simp [execOp, ho, resolve, invoke, builtin, Builtin.max_, Builtin.min_, Builtin.max2, Builtin.min2, e1', e2']
    · simp only [AI.out, hu, hv]; exact rep_of_val
  · exact hp.elim

/-- EVERY INSTRUCTION DOES WHAT IT SAYS. -/
theorem sound_i {x : AI} (hc : cOp P N o = some (.i x)) (S : Sim w0 outs N σ a c) (hv : ¬ c.used ver) (hp : x.pre σ (o.dst.getD 0)) :
    Ex1 P w0 outs o a c (x.hpw σ ver (o.dst.getD 0)) (x.out σ ver (o.dst.getD 0)) ver ∧ x.fact σ ∧ ∀ d, o.dst = some d → d < N := by
  unfold cOp at hc
  by_cases hd : dstBad N o.dst = true
  · rw [if_pos hd] at hc; cases hc
  · rw [if_neg hd] at hc
    have hd' : ∀ d, o.dst = some d → d < N := by
      intro d e
      rw [e] at hd
      simp [dstBad] at hd; exact hd
    suffices h : Ex1 P w0 outs o a c (x.hpw σ ver (o.dst.getD 0)) (x.out σ ver (o.dst.getD 0)) ver ∧ x.fact σ from ⟨h.1, h.2, hd'⟩
    unfold cOp1 at hc
    split at hc
    · rename_i y _ ho hdst
      simp only [Option.map_eq_some_iff] at hc; obtain ⟨b, hb, e⟩ := hc; cases e
      exact ⟨ex_mov S (.inl ho) hb, trivial⟩
    · rename_i y _ ho hdst
      simp only [Option.map_eq_some_iff] at hc; obtain ⟨b, hb, e⟩ := hc; cases e
      exact ⟨ex_mov S (.inr ho) hb, trivial⟩
    · rename_i ho hdst
      split at hc
      · rename_i h1 h2 h3; cases hc; exact ⟨ex_pick S ho h1 h2 h3 hp, trivial⟩
      · cases hc
    · rename_i op t x1 x2 t' _ ho hdst
      split at hc
      · rename_i y1 y2 h1 h2
        by_cases hsl : isSlice P t = true
        · rw [if_pos hsl] at hc
          unfold isSlice at hsl
          split at hsl
          · rename_i e he
            by_cases hnil : isNilSl x2 = true
            · rw [if_pos hnil] at hc
              have hx2 : x2 = .const (.slice none 0 0) := by
                unfold isNilSl at hnil; split at hnil <;> simp_all
              split at hc
              · cases hc; exact ⟨ex_isnil false S ho rfl he h1 hx2 hp, trivial⟩
              · cases hc; exact ⟨ex_isnil true S ho rfl he h1 hx2 hp, trivial⟩
              · cases hc
            · rw [if_neg hnil] at hc; cases hc
          · cases hsl
        · rw [if_neg hsl] at hc
          by_cases hpt : isPtr P t = true
          · rw [if_pos hpt] at hc
            unfold isPtr at hpt
            split at hpt
            · rename_i e he
              by_cases hnil : isNilPtr x2 = true
              · rw [if_pos hnil] at hc
                have hx2 : x2 = .const (.pointer none) := by
                  unfold isNilPtr at hnil; split at hnil <;> simp_all
                split at hc
                · cases hc; exact ⟨ex_isnilp false S ho rfl he h1 hx2 hp, trivial⟩
                · cases hc; exact ⟨ex_isnilp true S ho rfl he h1 hx2 hp, trivial⟩
                · cases hc
              · rw [if_neg hnil] at hc; cases hc
            · cases hpt
          · rw [if_neg hpt] at hc
            by_cases hb : isBool P t = true
            · rw [if_pos hb] at hc
              unfold isBool at hb
              split at hb
              · rename_i he
                split at hc
                · cases hc; exact ⟨ex_beq false S ho rfl he h1 h2 hp, trivial⟩
                · cases hc; exact ⟨ex_beq true S ho rfl he h1 h2 hp, trivial⟩
                · cases hc
              · cases hb
            · rw [if_neg hb] at hc
              cases hc; exact ⟨ex_bin S ho h1 h2 hp, trivial⟩
      · cases hc
    · rename_i ho hdst
      simp only [Option.map_eq_some_iff] at hc; obtain ⟨b, hb, e⟩ := hc; cases e
      exact ⟨ex_un S ho hb hp, trivial⟩
    · rename_i ho hdst
      split at hc
      · rename_i h1 h2 h3; cases hc; exact ⟨ex_cvi S ho h1 h2 h3 hp, trivial⟩
      · rename_i h1 h2 h3
        split at hc
        · rename_i he; cases hc; exact ⟨ex_cvbs S ho h1 h2 he h3 hp, trivial⟩
        · cases hc
      · cases hc
    · rename_i ho hdst
      simp only [Option.map_eq_some_iff] at hc; obtain ⟨b, hb, e⟩ := hc; cases e
      exact ⟨ex_box S hv ho hb hp, trivial⟩
    · rename_i ho hdst
      split at hc
      · rename_i hi
        split at hc
        · rename_i hz; cases hc; exact ⟨ex_new S hv ho hi hz hp, trivial⟩
        · cases hc
      · cases hc
    · rename_i ho hdst
      split at hc
      · rename_i ht hps
        split at hc
        · rename_i hcond; cases hc; exact ⟨ex_bsl S hv ho ht hps hcond.1 hcond.2 hp, trivial⟩
        · cases hc
      · cases hc
    · rename_i ho hdst
      split at hc
      · rename_i ht hi
        split at hc
        · rename_i hz
          split at hc
          · rename_i hf hpl
            split at hc
            · rename_i hb; cases hc; exact ⟨ex_bst S ho ht hi hz hf hpl hb hp, trivial⟩
            · cases hc
          · cases hc
        · cases hc
      · cases hc
    · rename_i ho hdst
      split at hc
      · rename_i h1 h2; cases hc; exact ⟨ex_ld S ho h1 h2 hp, trivial⟩
      · rename_i h1 h2
        split at hc
        · cases hc
        · rename_i hn; cases hc; exact ⟨ex_lda S ho h1 h2 (by omega) hp, trivial⟩
      · cases hc
    · rename_i ho hdst
      split at hc
      · rename_i h1 h2 h3; cases hc; exact ⟨ex_sto S ho (.inl ⟨h1, rfl⟩) h2 h3 (by omega) hp, trivial⟩
      · rename_i h1 h2 h3
        split at hc
        · cases hc
        · rename_i hn; cases hc; exact ⟨ex_sto S ho (.inr h1) h2 h3 (by omega) hp, trivial⟩
      · cases hc
    · rename_i ho hdst
      simp only [Option.map_eq_some_iff] at hc; obtain ⟨b, hb, e⟩ := hc; cases e
      exact ⟨ex_nilck S ho hb hp, trivial⟩
    · rename_i ho hdst
      split at hc
      · rename_i ht h1
        split at hc
        · rename_i hf
          split at hc
          · rename_i hi
            split at hc
            · cases hc
            · rename_i h0; cases hc; exact ⟨ex_fad S ho ht hf hi h0 h1 hp, trivial⟩
          · cases hc
        · cases hc
      · cases hc
    · rename_i ho hdst
      split at hc
      · rename_i ht h1
        split at hc
        · rename_i hf
          split at hc
          · rename_i hsz; cases hc; exact ⟨ex_fld S ho ht hf hsz h1 hp, trivial⟩
          · rename_i hsz; cases hc; exact ⟨ex_flda S ho ht hf hsz h1 hp, trivial⟩
          · cases hc
        · cases hc
      · cases hc
    · rename_i ho hdst
      split at hc
      · rename_i ht h1 h2; cases hc; exact ⟨ex_iad S ho ht h1 h2 hp, trivial⟩
      · cases hc
    · rename_i ho hdst
      split at hc
      · rename_i h1 h2
        split at hc
        · rename_i hs
          unfold isStr at hs
          split at hs
          · rename_i he; cases hc; exact ⟨ex_idx S ho he h1 h2 hp, trivial⟩
          · cases hs
        · cases hc
      · cases hc
    · rename_i t x1 lo hi mx _ ho hdst
      split at hc
      · rename_i h1 h2 h3
        by_cases hs : isStr P t = true
        · rw [if_pos hs] at hc
          unfold isStr at hs
          split at hs
          · rename_i he
            split at hc
            · cases hc; exact ⟨ex_sls S ho he h1 h2 h3 hp, trivial⟩
            · cases hc
          · cases hs
        · rw [if_neg hs] at hc
          split at hc
          · rename_i ht; cases hc; exact ⟨ex_slc S hv ho ht h1 h2 h3 hp, trivial⟩
          · rename_i ht
            split at hc
            · rename_i hz; cases hc; exact ⟨ex_slc0 S hv ho ht h1 hz.1 hz.2.1 hz.2.2 hp, trivial⟩
            · cases hc
          · cases hc
      · cases hc
    · rename_i ho hdst
      split at hc
      · rename_i ht h1 h2; cases hc; exact ⟨ex_mks S hv ho ht h1 h2 hp, trivial⟩
      · cases hc
    · rename_i ho hdst
      cases hc; exact ⟨ex_mkm S hv ho hp, trivial⟩
    · rename_i ho hdst
      split at hc
      · rename_i ht h1 h2
        split at hc
        · rename_i hk
          split at hc
          · rename_i hi
            split at hc
            · rename_i vs hz; cases hc
              exact ⟨ex_lkp S ho ht hk hi hz (by simp only [Rep]; exact ⟨vs, rfl, repL_vals _⟩) h1 h2 hp, trivial⟩
            · rename_i z _ hz; cases hc
              exact ⟨ex_lkp S ho ht hk hi hz rep_of_val h1 h2 hp, trivial⟩
            · cases hc
          · cases hc
        · cases hc
      · cases hc
    · rename_i ho hdst
      split at hc
      · rename_i ht h1 h2 h3
        split at hc
        · rename_i hk; cases hc; exact ⟨ex_mup S (.inl ho) ht hk h1 h2 h3 hp, trivial⟩
        · cases hc
      · cases hc
    · rename_i ho hdst
      split at hc
      · rename_i ht h1 h2 h3
        split at hc
        · rename_i hk; cases hc; exact ⟨ex_mup S (.inr ho) ht hk h1 h2 h3 hp, trivial⟩
        · cases hc
      · cases hc
    · rename_i ho hdst
      split at hc
      · rename_i hf
        simp only [Option.map_eq_some_iff] at hc; obtain ⟨b, hb, e⟩ := hc; cases e
        exact ⟨ex_mkf S ho hf hb, trivial⟩
      · cases hc
    · rename_i ho hdst
      simp only [Option.map_eq_some_iff] at hc; obtain ⟨b, hb, e⟩ := hc; cases e
      exact ⟨ex_ext S ho hb hp, trivial⟩
    · rename_i ho hdst
      split at hc
      · rename_i ha hts
        split at hc
        · rename_i ht h1; cases hc; exact ex_len S ho ha hts ht h1 hp
        · rename_i ht h1; cases hc; exact ⟨ex_lens S ho ha hts ht h1 hp, trivial⟩
        · rename_i ht h1; cases hc; exact ⟨ex_lenm S ho ha hts ht h1 hp, trivial⟩
        · cases hc
      · cases hc
    · rename_i ho hdst
      split at hc
      · rename_i ha hts
        split at hc
        · rename_i ht h1 h2
          split at hc
          · rename_i e; subst e; cases hc; exact ⟨ex_app S hv ho ha hts ht h1 h2 hp, trivial⟩
          · cases hc
        · cases hc
      · cases hc
    · rename_i ho hdst
      split at hc
      · rename_i ha
        split at hc
        · rename_i h1 h2; cases hc; exact ⟨ex_mx true S ho ha h1 h2 hp, trivial⟩
        · cases hc
      · cases hc
    · rename_i ho hdst
      split at hc
      · rename_i ha
        split at hc
        · rename_i h1 h2; cases hc; exact ⟨ex_mx false S ho ha h1 h2 hp, trivial⟩
        · cases hc
      · cases hc
    · rename_i ho
      simp only [Option.map_eq_some_iff] at hc; obtain ⟨b, hb, e⟩ := hc; cases e
    · rename_i ho
      simp only [Option.map_eq_some_iff] at hc; obtain ⟨b, hb, e⟩ := hc; cases e
    · cases hc

end
end Go.Ab
