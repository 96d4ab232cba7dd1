/- Each instruction does what it says: those that read memory. Conditions: none. -/
import Derived.Test.YtcijodimbjapeaaAb5
set_option linter.all false
namespace Go.Ab
section
variable {P : Program} {w0 : World} {outs : Nat → Prop} {N : Nat} {σ : St} {o : Oper} {a : Act} {c : Cz} {ver : Nat}

theorem addr_add (b o n : Nat) : (⟨b, o, none⟩ : Addr).add n = ⟨b, o + n, none⟩ := by
  unfold Addr.add; split <;> simp_all

/-- A pointer's value, and the cells to which it leads. -/
theorem at_cells (G : Good w0 outs c) (hc : c.hp = σ.hp) {A : AVal} {v : Value} (h : Rep c A v) {cs : List AVal} {off : Nat} (hat : σ.at A = some (cs, off)) :
    ∃ b o, (v = .pointer (some ⟨b, o + off, none⟩) ∨ cs = []) ∧ RepAt c b o cs := by
  cases A with
  | ptr r v' off' =>
    simp only [St.at] at hat
    simp only [Rep] at h
    rw [← hc] at hat
    have hO := G.obj r
    split at hat
    · rename_i ver' cs' hr
      split at hat
      · rename_i e
        simp only [Option.some.injEq, Prod.mk.injEq] at hat
        obtain ⟨rfl, rfl⟩ := hat
        subst e
        rw [hr] at hO h
        obtain ⟨b, o, hb, hv⟩ := h.2 rfl
        obtain ⟨g, t, cells, hl, hg, hrep⟩ := hO
        rw [hl] at hb
        simp only [baseOf, Option.some.injEq, Addr.mk.injEq] at hb
        obtain ⟨rfl, rfl, -⟩ := hb
        refine ⟨g, 0, .inl hv, RepAt.of_row hg ?_⟩
        rw [hrep.length, List.drop_zero, List.take_of_length_le (Nat.le_refl _)]; exact hrep
      · cases hat
    · rename_i ver' k nn cs' hr
      split at hat
      · rename_i e
        simp only [Option.some.injEq, Prod.mk.injEq] at hat
        obtain ⟨rfl, rfl⟩ := hat
        subst e
        rw [hr] at hO h
        obtain ⟨b, o, hb, hv⟩ := h.2 rfl
        obtain ⟨base, n, cap, hl, hk, hlen, hn, hm, hnn, hcase⟩ := hO
        rcases hcase with h0 | ⟨g, off2, t, cells, rfl, hg, hfit, hrep⟩
        · refine ⟨b, o, .inr ?_, ?_⟩
          · have : n = 0 := by omega
            subst this; simp at hlen; exact hlen
          · have : n = 0 := by omega
            subst this; simp at hlen; subst hlen; simp [RepAt]
        · rw [hl] at hb
          simp only [baseOf, Option.some.injEq, Addr.mk.injEq] at hb
          obtain ⟨rfl, rfl, -⟩ := hb
          refine ⟨g, off2, .inl hv, RepAt.of_row hg ?_⟩
          rw [hlen]; exact hrep
      · cases hat
    · cases hat
  | rp cs' off' =>
    simp only [St.at, Option.some.injEq, Prod.mk.injEq] at hat
    obtain ⟨rfl, rfl⟩ := hat
    simp only [Rep] at h
    obtain ⟨b, o, hv, hi, hr⟩ := h
    exact ⟨b, o, .inl hv, hr⟩
  | _ => simp [St.at] at hat

theorem run_isAgg_false {t : TypeId} (h : cSize P t = some none) (w : World) : (isAgg t).run P w = .ok false w := by
  unfold cSize at h
  split at h
  · simp at h
  · simp at h
  · rename_i d i h1 h2 hd hi
    simp only [isAgg, underlying]
    cases d <;> simp_all
  · cases h

theorem run_isAgg_true {t : TypeId} {n : Nat} (h : cSize P t = some (some n)) (w : World) : (isAgg t).run P w = .ok true w ∧ (sizeOf t).run P w = .ok n w := by
  unfold cSize at h
  split at h
  · rename_i fs i h1 h2
    simp only [Option.some.injEq] at h; subst h
    simp [isAgg, underlying, h1, sizeOf, typeInfo, h2]
  · rename_i fs i h1 h2 h3
    simp only [Option.some.injEq] at h; subst h
    simp [isAgg, underlying, h2, sizeOf, typeInfo, h3]
  · split at h <;> simp at h
  · cases h

theorem run_load_cell {w : World} {ad : Addr} {v : Value} (h : w.cell? ad = some v) : (load ad).run P w = .ok v w := by simp [h]

theorem ex_ld {t : TypeId} {x1 : Operand} {y1 : AOpd} (S : Sim w0 outs N σ a c) (ho : o.op = .load t x1) (ht : cSize P t = some none) (h1 : cOpd x1 = some y1)
    (hp : AI.pre σ (o.dst.getD 0) (.ld y1)) : Ex1 P w0 outs o a c σ.hp (AI.out σ ver (o.dst.getD 0) (.ld y1)) ver := by
  have e1 := S.ev h1
  simp only [AI.pre] at hp
  split at hp
  · rename_i cs off hat
    obtain ⟨b, p, hv, hr⟩ := at_cells S.good S.hp e1 hat
    have hv : a.eval x1 = .pointer (some ⟨b, p + off, none⟩) := by
      rcases hv with hv | hv
      · exact hv
      · subst hv; simp at hp
    obtain ⟨v, hcell, hrep⟩ := hr.get (List.getElem?_eq_getElem hp)
    refine Ex1.still S (v := v) ?_ ?_
    · simp [execOp, ho, hv, Instr.loadAt, Instr.sureAddr, loadVar, run_isAgg_false ht, hcell]
    · simp only [AI.out, hat, List.getD_eq_getElem?_getD, List.getElem?_eq_getElem hp, Option.getD_some]; exact hrep
  · exact hp.elim

theorem ex_lda {t : TypeId} {n : Nat} {x1 : Operand} {y1 : AOpd} (S : Sim w0 outs N σ a c) (ho : o.op = .load t x1) (ht : cSize P t = some (some n)) (h1 : cOpd x1 = some y1) (hn : 0 < n)
    (hp : AI.pre σ (o.dst.getD 0) (.lda n y1)) : Ex1 P w0 outs o a c σ.hp (AI.out σ ver (o.dst.getD 0) (.lda n y1)) ver := by
  have e1 := S.ev h1
  simp only [AI.pre] at hp
  split at hp
  · rename_i cs off hat
    obtain ⟨b, p, hv, hr⟩ := at_cells S.good S.hp e1 hat
    have hv : a.eval x1 = .pointer (some ⟨b, p + off, none⟩) := by
      rcases hv with hv | hv
      · exact hv
      · subst hv; simp at hp; omega
    have hc : ∀ j, j < n → ∃ v, c.w.cell? ((⟨b, p + off, none⟩ : Addr).add j) = some v ∧ Rep c ((cs.drop off).getD j .any) v := by
      intro j hj
      have hlt : off + j < cs.length := by omega
      obtain ⟨v, hcell, hrep⟩ := hr.get (List.getElem?_eq_getElem hlt)
      refine ⟨v, ?_, ?_⟩
      · rw [addr_add, Nat.add_assoc]; exact hcell
      · simp only [List.getD_eq_getElem?_getD, List.getElem?_drop, List.getElem?_eq_getElem hlt, Option.getD_some]; exact hrep
    let f : Nat → Value := fun j => (c.w.cell? ((⟨b, p + off, none⟩ : Addr).add j)).getD undef
    have hf : ∀ j, j < n → c.w.cell? ((⟨b, p + off, none⟩ : Addr).add j) = some (f j) := by
      intro j hj; obtain ⟨v, hv, _⟩ := hc j hj; simp [f, hv]
    have hrun := run_loadCells (P := P) (w := c.w) ⟨b, p + off, none⟩ n f hf
    refine Ex1.still S (v := .agg ((List.range n).map f).toArray) ?_ ?_
    · simp [execOp, ho, hv, Instr.loadAt, Instr.sureAddr, loadVar, run_isAgg_true ht, hrun]
    · simp only [AI.out, hat, Rep]
      refine ⟨_, rfl, RepL.of_get ?_ ?_⟩
      · simp; omega
      · intro i A v hA hv'
        have hi : i < n := by
          have := (List.getElem?_eq_some_iff.1 hA).1; simp at this; omega
        obtain ⟨u, hu, hrep⟩ := hc i hi
        have e2 : v = u := by
          have h5 := hf i hi
          rw [hu] at h5
          have h6 : u = f i := by simpa using h5
          have h7 : v = f i := by simpa [hi] using hv'.symm
          rw [h6, h7]
        rw [e2]
        have e3 : A = (cs.drop off).getD i .any := by
          rw [List.getElem?_take] at hA
          rw [if_pos hi] at hA
          simp only [List.getD_eq_getElem?_getD, hA, Option.getD_some]
        rw [e3]; exact hrep
  · exact hp.elim

theorem ex_nilck {x1 : Operand} {y1 : AOpd} (S : Sim w0 outs N σ a c) (ho : o.op = .nilCheck x1) (h1 : cOpd x1 = some y1)
    (hp : AI.pre σ (o.dst.getD 0) (.nilck y1)) : Ex1 P w0 outs o a c σ.hp (AI.out σ ver (o.dst.getD 0) (.nilck y1)) ver := by
  have e1 := S.ev h1
  have hv : ∃ b p, a.eval x1 = .pointer (some ⟨b, p, none⟩) := by
    simp only [AI.pre] at hp
    split at hp
    · rename_i r v off hu
      rw [hu] at e1
      simp only [Rep] at e1
      rw [← S.hp] at hp
      obtain ⟨b, p, _, hv⟩ := e1.2 hp.1
      exact ⟨b, _, hv⟩
    · rename_i cs off hu
      rw [hu] at e1
      simp only [Rep] at e1
      obtain ⟨b, p, hv, _⟩ := e1
      exact ⟨b, _, hv⟩
    · exact hp.elim
  obtain ⟨b, p, hv⟩ := hv
  refine Ex1.still S (v := a.eval x1) ?_ (by simpa only [AI.out] using e1)
  simp [execOp, ho, hv]

theorem ex_fad {s : TypeId} {f : Nat} {fs : Array Field} {fl : Field} {i : TypeInfo} {x1 : Operand} {y1 : AOpd} (S : Sim w0 outs N σ a c) (ho : o.op = .fieldAddr s x1 f) (ht : P.underlying s = some (.struct fs)) (hf : fs[f]? = some fl)
    (hi : P.info? fl.type = some i) (h0 : i.size ≠ 0) (h1 : cOpd x1 = some y1)
    (hp : AI.pre σ (o.dst.getD 0) (.fad fl.offset y1)) : Ex1 P w0 outs o a c σ.hp (AI.out σ ver (o.dst.getD 0) (.fad fl.offset y1)) ver := by
  have e1 := S.ev h1
  have hv : ∃ b p, a.eval x1 = .pointer (some ⟨b, p, none⟩) ∧ Rep c (AI.out σ ver (o.dst.getD 0) (.fad fl.offset y1)) (.pointer (some ⟨b, p + fl.offset, none⟩)) := by
    simp only [AI.pre] at hp
    split at hp
    · rename_i r v off hu
      rw [hu] at e1
      simp only [Rep] at e1
      rw [← S.hp] at hp
      obtain ⟨b, p, hb, hv⟩ := e1.2 hp
      refine ⟨b, _, hv, ?_⟩
      simp only [AI.out, hu, Rep]
      exact ⟨e1.1, fun _ => ⟨b, p, hb, by rw [Nat.add_assoc]⟩⟩
    · rename_i cs off hu
      rw [hu] at e1
      simp only [Rep] at e1
      obtain ⟨b, p, hv, hr⟩ := e1
      refine ⟨b, _, hv, ?_⟩
      simp only [AI.out, hu, Rep]
      exact ⟨b, p, by rw [Nat.add_assoc], hr⟩
    · exact hp.elim
  obtain ⟨b, p, hv, hr⟩ := hv
  refine Ex1.still S (v := .pointer (some ⟨b, p + fl.offset, none⟩)) ?_ hr
  simp [execOp, ho, hv, Instr.fieldAt, underlying, ht, hf, Instr.sureAddr, fieldPlace, sizeOf, typeInfo, hi, h0, addr_add]

theorem ex_fld {s : TypeId} {f : Nat} {fs : Array Field} {fl : Field} {x1 : Operand} {y1 : AOpd} (S : Sim w0 outs N σ a c) (ho : o.op = .field s x1 f) (ht : P.underlying s = some (.struct fs)) (hf : fs[f]? = some fl)
    (hsz : cSize P fl.type = some none) (h1 : cOpd x1 = some y1)
    (hp : AI.pre σ (o.dst.getD 0) (.fld fl.offset y1)) : Ex1 P w0 outs o a c σ.hp (AI.out σ ver (o.dst.getD 0) (.fld fl.offset y1)) ver := by
  have e1 := S.ev h1
  simp only [AI.pre] at hp
  split at hp
  · rename_i cs hu
    rw [hu] at e1
    simp only [Rep] at e1
    obtain ⟨vs, hv, hl⟩ := e1
    obtain ⟨v, hv', hr⟩ := hl.get (List.getElem?_eq_getElem hp)
    have hv'' : vs[fl.offset]? = some v := by simpa using hv'
    refine Ex1.still S (v := v) ?_ ?_
    · simp [execOp, ho, hv, Instr.field, underlying, ht, hf, asAgg, part, run_isAgg_false hsz, hv'']
    · simp only [AI.out, hu, List.getD_eq_getElem?_getD, List.getElem?_eq_getElem hp, Option.getD_some]; exact hr
  · rename_i vs hu
    rw [hu] at e1
    have e1' := rep_val e1
    have hv'' : vs[fl.offset]? = some (vs[fl.offset]'hp) := Array.getElem?_eq_getElem hp
    refine Ex1.still S (v := vs[fl.offset]'hp) ?_ ?_
    · simp [execOp, ho, e1', Instr.field, underlying, ht, hf, asAgg, part, run_isAgg_false hsz, hv'']
    · simp only [AI.out, hu, Array.getD_eq_getD_getElem?, hv'', Option.getD_some]; exact rep_of_val
  · exact hp.elim

theorem ex_flda {s : TypeId} {f n : Nat} {fs : Array Field} {fl : Field} {x1 : Operand} {y1 : AOpd} (S : Sim w0 outs N σ a c) (ho : o.op = .field s x1 f) (ht : P.underlying s = some (.struct fs)) (hf : fs[f]? = some fl)
    (hsz : cSize P fl.type = some (some n)) (h1 : cOpd x1 = some y1)
    (hp : AI.pre σ (o.dst.getD 0) (.flda fl.offset n y1)) : Ex1 P w0 outs o a c σ.hp (AI.out σ ver (o.dst.getD 0) (.flda fl.offset n y1)) ver := by
  have e1 := S.ev h1
  simp only [AI.pre] at hp
  split at hp
  · rename_i cs hu
    rw [hu] at e1
    simp only [Rep] at e1
    obtain ⟨vs, hv, hl⟩ := e1
    refine Ex1.still S (v := .agg (vs.extract fl.offset (fl.offset + n))) ?_ ?_
    · simp [execOp, ho, hv, Instr.field, underlying, ht, hf, asAgg, part, run_isAgg_true hsz]
    · simp only [AI.out, hu, Rep]
      refine ⟨_, rfl, ?_⟩
      have h2 := (hl.drop fl.offset).take n
      simpa [List.extract_eq_take_drop] using h2
  · exact hp.elim

theorem cElem_spec {t : TypeId} {k by_ : Nat} {z : Value} (h : cElem P t = some (k, by_, z)) :
    ∃ e i, P.underlying t = some (.slice e) ∧ P.info? e = some i ∧ i.zero = some z ∧ i.size = k ∧ i.bytes = by_ ∧ 0 < k ∧ z.cells.size = k ∧ 0 < by_ := by
  unfold cElem at h
  split at h
  · rename_i e ht
    split at h
    · rename_i i hi
      split at h
      · rename_i z' hz
        split at h
        · rename_i hk
          simp only [Option.some.injEq, Prod.mk.injEq] at h
          obtain ⟨rfl, rfl, rfl⟩ := h
          exact ⟨e, i, ht, hi, hz, rfl, rfl, hk.1, hk.2.1, hk.2.2⟩
        · cases h
      · cases h
    · cases h
  · cases h

/-- A slice's value, and its cells. -/
theorem sl_cells (G : Good w0 outs c) (hc : c.hp = σ.hp) {A : AVal} {v : Value} (h : Rep c A v) {k : Nat} {cs : List AVal} (hsl : σ.sl A = some (k, cs)) :
    ∃ base len cap, v = .slice base len cap ∧ 0 < k ∧ cs.length = len * k ∧ (len ≤ cap ∧ cap ≤ maxLen) ∧
      (cs.length = 0 ∨ ∃ b off, base = some ⟨b, off, none⟩ ∧ RepAt c b off cs ∧ b < c.w.heap.size) := by
  cases A with
  | ro nm k' cs' =>
    simp only [St.sl, Option.some.injEq, Prod.mk.injEq] at hsl
    obtain ⟨rfl, rfl⟩ := hsl
    simp only [Rep] at h
    obtain ⟨base, len, cap, hv, hk, hl, hm, _, hcase⟩ := h
    refine ⟨base, len, cap, hv, hk, hl, hm, ?_⟩
    rcases hcase with h0 | ⟨b, off, hb, hi, hr⟩
    · exact .inl h0
    · exact .inr ⟨b, off, hb, hr, hi.2.1⟩
  | own r v' =>
    simp only [St.sl] at hsl
    simp only [Rep] at h
    rw [← hc] at hsl
    have hO := G.obj r
    split at hsl
    · rename_i ver' k' nn cs' hr
      split at hsl
      · rename_i e
        simp only [Option.some.injEq, Prod.mk.injEq] at hsl
        obtain ⟨rfl, rfl⟩ := hsl
        subst e
        rw [hr] at hO h
        have hv := h.2 rfl
        obtain ⟨base, n, cap, hl, hk, hlen, hn, hm, hnn, hcase⟩ := hO
        refine ⟨base, n, cap, hv.trans hl, hk, hlen, ⟨hn, hm⟩, ?_⟩
        rcases hcase with h0 | ⟨g, off2, t, cells, rfl, hg, hfit, hrep⟩
        · left
          have : n = 0 := by omega
          subst this; simpa using hlen
        · refine .inr ⟨g, off2, rfl, RepAt.of_row hg ?_, block_lt_of_some hg⟩
          rw [hlen]; exact hrep
      · cases hsl
    · cases hsl
  | _ => simp [St.sl] at hsl

theorem ex_iad {t : TypeId} {k by_ : Nat} {z : Value} {x1 x2 : Operand} {y1 y2 : AOpd} (S : Sim w0 outs N σ a c) (ho : o.op = .indexAddr t x1 x2) (ht : cElem P t = some (k, by_, z)) (h1 : cOpd x1 = some y1) (h2 : cOpd x2 = some y2)
    (hp : AI.pre σ (o.dst.getD 0) (.iad k y1 y2)) : Ex1 P w0 outs o a c σ.hp (AI.out σ ver (o.dst.getD 0) (.iad k y1 y2)) ver := by
  obtain ⟨e, i, hu, hi, _, hsz, _, hk0, _, _⟩ := cElem_spec ht
  have e1 := S.ev h1; have e2 := S.ev h2
  simp only [AI.pre] at hp
  split at hp
  · rename_i kk n hn
    rw [hn] at e2
    have e2' := rep_val e2
    split at hp
    · rename_i k' cs hsl
      obtain ⟨rfl, h0, hlt⟩ := hp
      obtain ⟨base, len, cap, hv, _, hl, hm, hcase⟩ := sl_cells S.good S.hp e1 hsl
      rcases hcase with h00 | ⟨b, off, rfl, hr, hbl⟩
      · omega
      · have hn' : n < (len : Int) := by
          have : n.toNat < len := by
            rw [hl] at hlt; exact Nat.lt_of_mul_lt_mul_right hlt
          omega
        refine Ex1.still S (v := .pointer (some ⟨b, off + n.toNat * k', none⟩)) ?_ ?_
        · simp [execOp, ho, hv, e2', Instr.indexAt, asIntOf, underlying, hu, h0, hn', sizeOf, typeInfo, hi, hsz, addr_add]
        · simp only [AI.out, hn]
          cases hA : σ.ev y1 with
          | ro nm k2 cs2 =>
            rw [hA] at hsl e1
            simp only [St.sl, Option.some.injEq, Prod.mk.injEq] at hsl
            obtain ⟨rfl, rfl⟩ := hsl
            simp only [Rep] at e1 ⊢
            obtain ⟨base', len', cap', hv', _, _, _, _, hcase'⟩ := e1
            rw [hv] at hv'
            simp only [Value.slice.injEq] at hv'
            obtain ⟨rfl, rfl, rfl⟩ := hv'
            rcases hcase' with h00 | ⟨b', off', hb', hi', hr'⟩
            · omega
            · simp only [Option.some.injEq, Addr.mk.injEq] at hb'
              obtain ⟨rfl, rfl, -⟩ := hb'
              exact ⟨_, _, rfl, hi', hr'⟩
          | own r v' =>
            rw [hA] at e1
            simp only [Rep] at e1 ⊢
            refine ⟨e1.1, fun hver => ?_⟩
            rw [e1.2 hver] at hv
            exact ⟨b, off, by rw [hv]; rfl, rfl⟩
          | _ => rw [hA] at hsl; simp [St.sl] at hsl
    · exact hp.elim
  · exact hp.elim

theorem div_len {n k : Nat} {l : Nat} (h : l = n * k) (hk : 0 < k) : l / k = n := by subst h; exact Nat.mul_div_cancel _ hk

theorem ex_len {t e : TypeId} {x1 : Operand} {y1 : AOpd} {args : Array Operand} {ts : Array TypeId} (S : Sim w0 outs N σ a c) (ho : o.op = .call { callee := .builtin .len, args := args, argTypes := ts }) (ha : args.toList = [x1]) (hts : ts.toList = [t])
    (ht : P.underlying t = some (.slice e)) (h1 : cOpd x1 = some y1) (hp : AI.pre σ (o.dst.getD 0) (.len y1)) :
    Ex1 P w0 outs o a c σ.hp (AI.out σ ver (o.dst.getD 0) (.len y1)) ver ∧ AI.fact σ (.len y1) := by
  have e1 := S.ev h1
  have ha' : args = #[x1] := by cases args; simp at ha; simp [ha]
  have hts' : ts = #[t] := by cases ts; simp at hts; simp [hts]
  subst ha' hts'
  have run : ∀ (b : Option Addr) (n m : Nat), a.eval x1 = .slice b n m → (execOp a.eval o).run P c.w = .ok (.value (.int .i64 n)) c.w := by
    intro b n m hv
    simp [execOp, ho, resolve, invoke, builtin, Builtin.len_, underlying, ht, hv, goInt]
  by_cases hnil : σ.ev y1 = .val (.slice none 0 0)
  · rw [hnil] at e1
    have e1' := rep_val e1
    refine ⟨Ex1.still S (run _ _ _ e1') ?_, ?_⟩
    · simp only [AI.out, hnil]; exact rep_of_val
    · simp [AI.fact, hnil, St.sl]
  · have hsl : (σ.sl (σ.ev y1)).isSome = true := by
      simp only [AI.pre] at hp
      exact hp
    obtain ⟨⟨k, cs⟩, hsl⟩ := Option.isSome_iff_exists.1 hsl
    obtain ⟨base, len, cap, hv, hk, hl, hm, _⟩ := sl_cells S.good S.hp e1 hsl
    have hout : AI.out σ ver (o.dst.getD 0) (.len y1) = .val (.int .i64 (len : Int)) := by
      simp only [AI.out, hsl, div_len hl hk]
    refine ⟨Ex1.still S (run _ _ _ hv) ?_, ?_⟩
    · rw [hout]; exact rep_of_val
    · simp only [AI.fact, hsl, div_len hl hk]; exact Nat.le_trans hm.1 hm.2

theorem ex_lens {t : TypeId} {x1 : Operand} {y1 : AOpd} {args : Array Operand} {ts : Array TypeId} (S : Sim w0 outs N σ a c) (ho : o.op = .call { callee := .builtin .len, args := args, argTypes := ts }) (ha : args.toList = [x1]) (hts : ts.toList = [t])
    (ht : P.underlying t = some .string) (h1 : cOpd x1 = some y1) (hp : AI.pre σ (o.dst.getD 0) (.lens y1)) :
    Ex1 P w0 outs o a c σ.hp (AI.out σ ver (o.dst.getD 0) (.lens y1)) ver := by
  have e1 := S.ev h1
  have ha' : args = #[x1] := by cases args; simp at ha; simp [ha]
  have hts' : ts = #[t] := by cases ts; simp at hts; simp [hts]
  subst ha' hts'
  simp only [AI.pre] at hp
  split at hp
  · rename_i s hu
    rw [hu] at e1
    have e1' := rep_val e1
    refine Ex1.still S (v := .int .i64 s.size) ?_ ?_
    · simp [execOp, ho, resolve, invoke, builtin, Builtin.len_, underlying, ht, e1', goInt]
    · simp only [AI.out, hu]; exact rep_of_val
  · exact hp.elim

/-- A map's value. -/
theorem map_cells (G : Good w0 outs c) (hc : c.hp = σ.hp) {A : AVal} {v : Value} (h : Rep c A v) {ks : List Value} {vs : List AVal} (hat : σ.mapAt A = some (ks, vs)) :
    ∃ b clock, ∃ ents : Array MapEntry, v = .map (some b) ∧ c.w.heap[b]? = some (.map ents clock) ∧ ents.toList.map (·.key) = ks ∧ RepL c vs (ents.toList.map (·.val)) := by
  cases A with
  | mp r v' =>
    simp only [St.mapAt] at hat
    simp only [Rep] at h
    rw [← hc] at hat
    have hO := G.obj r
    split at hat
    · rename_i ver' ks' vs' hr
      split at hat
      · rename_i e
        simp only [Option.some.injEq, Prod.mk.injEq] at hat
        obtain ⟨rfl, rfl⟩ := hat
        subst e
        rw [hr] at hO h
        obtain ⟨b, clock, ents, hl, hb, hk, hv⟩ := hO
        exact ⟨b, clock, ents, (h.2 rfl).trans hl, hb, hk, hv⟩
      · cases hat
    · cases hat
  | _ => simp [St.mapAt] at hat

theorem ex_lenm {t k e : TypeId} {x1 : Operand} {y1 : AOpd} {args : Array Operand} {ts : Array TypeId} (S : Sim w0 outs N σ a c) (ho : o.op = .call { callee := .builtin .len, args := args, argTypes := ts }) (ha : args.toList = [x1]) (hts : ts.toList = [t])
    (ht : P.underlying t = some (.map k e)) (h1 : cOpd x1 = some y1) (hp : AI.pre σ (o.dst.getD 0) (.lenm y1)) :
    Ex1 P w0 outs o a c σ.hp (AI.out σ ver (o.dst.getD 0) (.lenm y1)) ver := by
  have e1 := S.ev h1
  have ha' : args = #[x1] := by cases args; simp at ha; simp [ha]
  have hts' : ts = #[t] := by cases ts; simp at hts; simp [hts]
  subst ha' hts'
  obtain ⟨⟨ks, vs⟩, hat⟩ := Option.isSome_iff_exists.1 hp
  obtain ⟨b, clock, ents, hv, hb, hk, _⟩ := map_cells S.good S.hp e1 hat
  refine Ex1.still S (v := .int .i64 ks.length) ?_ ?_
  · have : (getObj b).run P c.w = .ok (.map ents clock) c.w := by simp [getObj, Sem.run, hb]
    simp [execOp, ho, resolve, invoke, builtin, Builtin.len_, underlying, ht, hv, goInt, this, ← hk]
  · simp only [AI.out, hat]; exact rep_of_val

theorem run_equalIn_sl {t e : TypeId} (ht : P.underlying t = some (.slice e)) (d : Nat) (b : Option Addr) (n m : Nat) (w : World) :
    (Op.equalIn (d + 1) t (.slice b n m) (.slice none 0 0)).run P w = .ok b.isNone w := by
  cases b <;> simp [Op.equalIn, underlying, ht]

theorem ex_isnil {op : BinOp} {t t' e : TypeId} {x1 x2 : Operand} {y1 : AOpd} (neg : Bool) (S : Sim w0 outs N σ a c) (ho : o.op = .binOp op t x1 x2 t') (hop : op = if neg then .neq else .eql)
    (ht : P.underlying t = some (.slice e)) (h1 : cOpd x1 = some y1) (h2 : x2 = .const (.slice none 0 0))
    (hp : AI.pre σ (o.dst.getD 0) (.isnil neg y1)) : Ex1 P w0 outs o a c σ.hp (AI.out σ ver (o.dst.getD 0) (.isnil neg y1)) ver := by
  have e1 := S.ev h1
  subst h2
  have run : ∀ (b : Option Addr) (n m : Nat), a.eval x1 = .slice b n m → (execOp a.eval o).run P c.w = .ok (.value (.bool (if neg then !b.isNone else b.isNone))) c.w := by
    intro b n m hv
    have he : (Op.equal t (.slice b n m) (.slice none 0 0)).run P c.w = .ok b.isNone c.w := run_equalIn_sl ht 9999 b n m c.w
    have hn : a.eval (.const (.slice none 0 0)) = .slice none 0 0 := rfl
    cases neg <;> subst hop <;> simp [execOp, ho, hv, hn, eqGuard, binOp, he]
  simp only [AI.pre] at hp
  split at hp
  · rename_i hu
    rw [hu] at e1
    have e1' := rep_val e1
    refine Ex1.still S (run _ _ _ e1') ?_
    simp only [AI.out, hu]; cases neg <;> exact rep_of_val
  · rename_i nm k cs hu
    rw [hu] at e1
    simp only [Rep] at e1
    obtain ⟨base, len, cap, hv, _, _, _, hnm, hcase⟩ := e1
    have hb : base ≠ none := by
      rcases hp with h | h
      · cases hn : nm with
        | none => rw [hn] at h; cases h
        | some n => exact (hnm n hn).1 h
      · rcases hcase with h0 | ⟨b, off, rfl, _⟩
        · omega
        · simp
    obtain ⟨b, rfl⟩ := Option.ne_none_iff_exists'.1 hb
    refine Ex1.still S (run _ _ _ hv) ?_
    simp only [AI.out, hu]; cases neg <;> exact rep_of_val
  · rename_i r v hu
    rw [hu] at e1
    simp only [Rep] at e1
    obtain ⟨k, cs, hr⟩ := hp
    rw [← S.hp] at hr
    have hO := S.good.obj r
    rw [hr] at hO e1
    obtain ⟨base, n, cap, hl, _, _, _, _, hnn, _⟩ := hO
    obtain ⟨b, rfl⟩ := Option.ne_none_iff_exists'.1 (hnn rfl)
    refine Ex1.still S (run _ _ _ ((e1.2 rfl).trans hl)) ?_
    simp only [AI.out, hu]; cases neg <;> exact rep_of_val
  · exact hp.elim

theorem run_equalIn_ptr {t e : TypeId} (ht : P.underlying t = some (.pointer e)) (d : Nat) (b : Option Addr) (w : World) :
    (Op.equalIn (d + 1) t (.pointer b) (.pointer none)).run P w = .ok b.isNone w := by
  cases b <;> simp [Op.equalIn, underlying, ht]

theorem ex_isnilp {op : BinOp} {t t' e : TypeId} {x1 x2 : Operand} {y1 : AOpd} (neg : Bool) (S : Sim w0 outs N σ a c) (ho : o.op = .binOp op t x1 x2 t') (hop : op = if neg then .neq else .eql)
    (ht : P.underlying t = some (.pointer e)) (h1 : cOpd x1 = some y1) (h2 : x2 = .const (.pointer none))
    (hp : AI.pre σ (o.dst.getD 0) (.isnilp neg y1)) : Ex1 P w0 outs o a c σ.hp (AI.out σ ver (o.dst.getD 0) (.isnilp neg y1)) ver := by
  have e1 := S.ev h1
  subst h2
  have run : ∀ (b : Option Addr), a.eval x1 = .pointer b → (execOp a.eval o).run P c.w = .ok (.value (.bool (if neg then !b.isNone else b.isNone))) c.w := by
    intro b hv
    have he : (Op.equal t (.pointer b) (.pointer none)).run P c.w = .ok b.isNone c.w := run_equalIn_ptr ht 9999 b c.w
    have hn : a.eval (.const (.pointer none)) = .pointer none := rfl
    cases neg <;> subst hop <;> simp [execOp, ho, hv, hn, eqGuard, binOp, he]
  simp only [AI.pre] at hp
  split at hp
  · rename_i hu
    rw [hu] at e1
    have e1' := rep_val e1
    refine Ex1.still S (run _ e1') ?_
    simp only [AI.out, hu]; cases neg <;> exact rep_of_val
  · rename_i r v off hu
    rw [hu] at e1
    simp only [Rep] at e1
    rw [← S.hp] at hp
    obtain ⟨b, p, _, hv⟩ := e1.2 hp
    refine Ex1.still S (run _ hv) ?_
    simp only [AI.out, hu]; cases neg <;> exact rep_of_val
  · rename_i cs off hu
    rw [hu] at e1
    simp only [Rep] at e1
    obtain ⟨b, p, hv, _⟩ := e1
    refine Ex1.still S (run _ hv) ?_
    simp only [AI.out, hu]; cases neg <;> exact rep_of_val
  · exact hp.elim

theorem bound_spec (S : Sim w0 outs N σ a c) {n : Nat} {x : Option Operand} {y : Option AOpd} (hx : cBound x = some y) {l : Nat} (hl : σ.bound n y = some l) :
    (x = none ∧ l = n) ∨ ∃ x' kk, x = some x' ∧ a.eval x' = .int kk (l : Int) := by
  cases x with
  | none => simp only [cBound, Option.some.injEq] at hx; subst hx; simp only [St.bound, Option.some.injEq] at hl; exact .inl ⟨rfl, hl.symm⟩
  | some x' =>
    simp only [cBound, Option.map_eq_some_iff] at hx
    obtain ⟨y', hy, rfl⟩ := hx
    have e1 := S.ev hy
    simp only [St.bound] at hl
    split at hl
    · rename_i kk i hu
      rw [hu] at e1
      have e1' := rep_val e1
      split at hl
      · rename_i h0
        simp only [Option.some.injEq] at hl
        subst hl
        exact .inr ⟨x', kk, rfl, by rw [e1', Int.toNat_of_nonneg h0]⟩
      · cases hl
    · cases hl

theorem run_bounds {isSl : Bool} {len cap l h : Nat} {lo hi : Option Operand} (hlo : (lo = none ∧ l = 0) ∨ ∃ x' kk, lo = some x' ∧ a.eval x' = .int kk (l : Int))
    (hhi : (hi = none ∧ h = len) ∨ ∃ x' kk, hi = some x' ∧ a.eval x' = .int kk (h : Int)) (h1 : l ≤ h) (h2 : h ≤ cap) (w : World) :
    (Instr.sliceBounds isSl len cap (lo.map a.eval) (hi.map a.eval) none).run P w = .ok (l, h, cap) w := by
  have sb : ∀ (kk : IntKind) (m y : Nat) (code : BoundsCode), m ≤ y → (Instr.sliceBound (.int kk (m : Int)) y code).run P w = .ok m w := by
    intro kk m y code hm
    have : (0 : Int) ≤ (m : Int) ∧ (m : Int) ≤ (y : Int) := ⟨by omega, by omega⟩
    simp [Instr.sliceBound, asIntOf, hm]
  rcases hlo with ⟨rfl, rfl⟩ | ⟨x1, k1, rfl, e1⟩ <;> rcases hhi with ⟨rfl, rfl⟩ | ⟨x2, k2, rfl, e2⟩ <;> simp [Instr.sliceBounds, *]

theorem ex_sls {t : TypeId} {x1 : Operand} {lo hi : Option Operand} {y1 : AOpd} {l h : Option AOpd} (S : Sim w0 outs N σ a c) (ho : o.op = .slice t x1 lo hi none) (ht : P.underlying t = some .string)
    (h1 : cOpd x1 = some y1) (h2 : cBound lo = some l) (h3 : cBound hi = some h)
    (hp : AI.pre σ (o.dst.getD 0) (.sls y1 l h)) : Ex1 P w0 outs o a c σ.hp (AI.out σ ver (o.dst.getD 0) (.sls y1 l h)) ver := by
  have e1 := S.ev h1
  simp only [AI.pre] at hp
  split at hp
  · rename_i s hu
    rw [hu] at e1
    have e1' := rep_val e1
    split at hp
    · rename_i l' h' hl hh
      have b1 := bound_spec S h2 hl
      have b2 := bound_spec S h3 hh
      have hr := run_bounds (P := P) (isSl := false) (cap := s.size) b1 b2 hp.1 hp.2 c.w
      refine Ex1.still S (v := .string (s.extract l' h')) ?_ ?_
      · simp only [execOp, ho, Option.map_none]
        simp [Instr.sliceAt, underlying, ht, e1', Instr.slice, hr]
      · simp only [AI.out, hu, hl, hh]; exact rep_of_val
    · exact hp.elim
  · exact hp.elim

end
end Go.Ab
