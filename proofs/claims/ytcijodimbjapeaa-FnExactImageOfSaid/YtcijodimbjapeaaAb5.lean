/- Each instruction does what it says: those that leave memory alone. Conditions: none. -/
import Derived.Test.YtcijodimbjapeaaAb4
set_option linter.all false
namespace Go.Ab

/-- A frame and a world are what a state says. -/
structure Sim (w0 : World) (outs : Nat → Prop) (N : Nat) (σ : St) (a : Act) (c : Cz) : Prop where
  good : Good w0 outs c
  hp : c.hp = σ.hp
  size : a.tmps.size = N
  tm : ∀ n, Rep c (σ.tm n) (a.tmps.getD n undef)
  defers : a.defers = []

theorem Sim.put {w0 : World} {outs : Nat → Prop} {N : Nat} {σ : St} {a : Act} {c c' : Cz} {hp' : Nat → AObj} {A : AVal} {v : Value} {d : Option Nat}
    (S : Sim w0 outs N σ a c) (K : Keeps c c') (G : Good w0 outs c') (hh : c'.hp = hp') (hr : Rep c' A v) (hd : ∀ n, d = some n → n < N) :
    Sim w0 outs N (St.put { tm := σ.tm, hp := hp' } d A) (a.put d v) c' := by
  cases d with
  | none => exact ⟨G, hh, S.size, fun n => (S.tm n).keeps K, S.defers⟩
  | some d =>
    refine ⟨G, hh, by simpa [Act.put] using S.size, fun n => ?_, S.defers⟩
    have hlt := hd d rfl
    rw [← S.size] at hlt
    by_cases e : n = d
    · subst e
      simp only [St.put, if_true, Act.put, Array.getD_eq_getD_getElem?, Array.getElem?_setIfInBounds_self_of_lt hlt, Option.getD_some]
      exact hr
    · have e' : d ≠ n := fun h => e h.symm
      simp only [St.put, if_neg e, Act.put, Array.getD_eq_getD_getElem?, Array.getElem?_setIfInBounds_ne e']
      have := (S.tm n).keeps K
      rwa [Array.getD_eq_getD_getElem?] at this

theorem Sim.ev {w0 : World} {outs : Nat → Prop} {N : Nat} {σ : St} {a : Act} {c : Cz} (S : Sim w0 outs N σ a c) {x : Operand} {y : AOpd} (h : cOpd x = some y) :
    Rep c (σ.ev y) (a.eval x) := by
  cases x with
  | tmp t => simp only [cOpd, Option.some.injEq] at h; subst h; exact S.tm t
  | const v => simp only [cOpd, Option.some.injEq] at h; subst h; simp [St.ev, Rep, Act.eval]
  | func f => simp only [cOpd, Option.some.injEq] at h; subst h; exact ⟨#[], rfl, by simp [RepL]⟩
  | global g => simp [cOpd] at h

theorem Sim.evs {w0 : World} {outs : Nat → Prop} {N : Nat} {σ : St} {a : Act} {c : Cz} (S : Sim w0 outs N σ a c) : ∀ {xs : List Operand} {ys : List AOpd}, cOpds xs = some ys →
    RepL c (ys.map σ.ev) (xs.map a.eval)
  | [], ys, h => by simp [cOpds] at h; subst h; simp [RepL]
  | x :: xs, ys, h => by
    simp only [cOpds, List.mapM_cons, Option.bind_eq_bind, Option.bind_eq_some_iff, Option.pure_def, Option.some.injEq] at h
    obtain ⟨y, hy, ys', hys, rfl⟩ := h
    simp only [List.map_cons, RepL]
    exact ⟨S.ev hy, S.evs hys⟩

/-- What an operation does: a value, and a state of things. -/
def Ex1 (P : Program) (w0 : World) (outs : Nat → Prop) (o : Oper) (a : Act) (c : Cz) (hp' : Nat → AObj) (A : AVal) (ver : Nat) : Prop :=
  ∃ v c', ((execOp a.eval o).run P c.w = .ok (.value v) c'.w ∨ (v = undef ∧ (execOp a.eval o).run P c.w = .ok .skip c'.w)) ∧ Good w0 outs c' ∧ Keeps c c' ∧ c'.hp = hp' ∧ Rep c' A v ∧
    (∀ u, c'.used u → c.used u ∨ u = ver) ∧ c'.ext = c.ext ∧ c'.base = c.base

theorem Ex1.still {P : Program} {w0 : World} {outs : Nat → Prop} {N : Nat} {σ : St} {o : Oper} {a : Act} {c : Cz} {A : AVal} {ver : Nat} (S : Sim w0 outs N σ a c) {v : Value}
    (h : (execOp a.eval o).run P c.w = .ok (.value v) c.w) (hr : Rep c A v) : Ex1 P w0 outs o a c σ.hp A ver :=
  ⟨v, c, .inl h, S.good, Keeps.refl c, S.hp, hr, fun _ h => .inl h, rfl, rfl⟩

section
variable {P : Program} {w0 : World} {outs : Nat → Prop} {N : Nat} {σ : St} {o : Oper} {a : Act} {c : Cz} {ver : Nat}

theorem rep_val {c : Cz} {x v : Value} (h : Rep c (.val x) v) : v = x := by simpa [Rep] using h
theorem rep_of_val {c : Cz} {x : Value} : Rep c (.val x) x := by simp [Rep]

theorem ex_mov {x : Operand} {y : AOpd} (S : Sim w0 outs N σ a c) (ho : o.op = .move x ∨ o.op = .assign x) (hx : cOpd x = some y) :
    Ex1 P w0 outs o a c σ.hp (AI.out σ ver (o.dst.getD 0) (.mov y)) ver := by
  refine Ex1.still S (v := a.eval x) ?_ (S.ev hx)
  rcases ho with ho | ho <;> simp [execOp, ho]

theorem ex_pick {x1 x2 x3 : Operand} {y1 y2 y3 : AOpd} (S : Sim w0 outs N σ a c) (ho : o.op = .pick x1 x2 x3) (h1 : cOpd x1 = some y1) (h2 : cOpd x2 = some y2) (h3 : cOpd x3 = some y3)
    (hp : AI.pre σ (o.dst.getD 0) (.pick y1 y2 y3)) : Ex1 P w0 outs o a c σ.hp (AI.out σ ver (o.dst.getD 0) (.pick y1 y2 y3)) ver := by
  have e1 := S.ev h1; have e2 := S.ev h2; have e3 := S.ev h3
  simp only [AI.pre] at hp
  split at hp
  · rename_i b hb
    rw [hb] at e1
    have e1' := rep_val e1
    refine Ex1.still S (v := if b then a.eval x2 else a.eval x3) ?_ ?_
    · cases b <;> simp [execOp, ho, e1', asBool]
    · simp only [AI.out, hb]
      cases b <;> simp <;> assumption
  · exact hp.elim

theorem ex_bin {op : BinOp} {t t' : TypeId} {x1 x2 : Operand} {y1 y2 : AOpd} (S : Sim w0 outs N σ a c) (ho : o.op = .binOp op t x1 x2 t') (h1 : cOpd x1 = some y1) (h2 : cOpd x2 = some y2)
    (hp : AI.pre σ (o.dst.getD 0) (.bin op y1 y2)) : Ex1 P w0 outs o a c σ.hp (AI.out σ ver (o.dst.getD 0) (.bin op y1 y2)) ver := by
  have e1 := S.ev h1; have e2 := S.ev h2
  simp only [AI.pre] at hp
  split at hp
  · rename_i u v hu hv
    rw [hu] at e1; rw [hv] at e2
    have e1' := rep_val e1; have e2' := rep_val e2
    obtain ⟨r, hr⟩ := Option.isSome_iff_exists.1 hp
    refine Ex1.still S (v := r) ?_ ?_
    · simp only [execOp, ho, e1', e2']
      unfold binV at hr
      split at hr
      · rename_i k p k' q
        have hg : (eqGuard op t x1 x2 (.int k p) (.int k' q)).run P c.w = .ok () c.w := by
          unfold eqGuard; cases op <;> simp
        simp only [Sem.run_bind, hg, Result.andThen_ok]
        by_cases hk : k = k'
        · subst hk
          cases op <;> simp [binOp, Op.shift, Op.intArith, Op.intDiv, Op.intBits, Op.intCmp] at hr ⊢ <;>
            (first
              | (rw [← hr]; done)
              | (rw [← hr.2]; intro h7; exact absurd h7 (by omega))
              | (rw [← hr.2, if_neg (by omega)]; done)
              | (rw [← hr.2]; simp [hr.1]; done))
        · cases op <;> simp [binOp, Op.shift, hk] at hr ⊢ <;>
            (first
              | (rw [← hr.2]; intro h7; exact absurd h7 (by omega))
              | (rw [← hr.2, if_neg (by omega)]; done))
      · rename_i p q
        have hg : (eqGuard op t x1 x2 (.string p) (.string q)).run P c.w = .ok () c.w := by
          unfold eqGuard; cases op <;> simp
        simp only [Sem.run_bind, hg, Result.andThen_ok]
        cases op <;> simp [binOp, Op.stringOp] at hr ⊢ <;>
          (first
            | (rw [← hr]; done)
            | (obtain ⟨h5, h6⟩ := hr
               simp only [maxLen] at h5
               rw [← h6, if_neg (by omega)]))
      · cases hr
    · simp only [AI.out, hu, hv, hr]; exact rep_of_val
  · exact hp.elim

theorem run_equalIn_bool {t : TypeId} (ht : P.underlying t = some .bool) (d : Nat) (u v : Bool) (w : World) : (Op.equalIn (d + 1) t (.bool u) (.bool v)).run P w = .ok (u == v) w := by
  simp [Op.equalIn, underlying, ht]

theorem ex_beq {op : BinOp} {t t' : TypeId} {x1 x2 : Operand} {y1 y2 : AOpd} (neg : Bool) (S : Sim w0 outs N σ a c) (ho : o.op = .binOp op t x1 x2 t') (hop : op = if neg then .neq else .eql)
    (ht : P.underlying t = some .bool) (h1 : cOpd x1 = some y1) (h2 : cOpd x2 = some y2)
    (hp : AI.pre σ (o.dst.getD 0) (.beq neg y1 y2)) : Ex1 P w0 outs o a c σ.hp (AI.out σ ver (o.dst.getD 0) (.beq neg y1 y2)) ver := by
  have e1 := S.ev h1; have e2 := S.ev h2
  simp only [AI.pre] at hp
  split at hp
  · rename_i u v hu hv
    rw [hu] at e1; rw [hv] at e2
    have e1' := rep_val e1; have e2' := rep_val e2
    refine Ex1.still S (v := .bool (if neg then !(u == v) else u == v)) ?_ ?_
    · simp only [execOp, ho, e1', e2']
      have he : (Op.equal t (.bool u) (.bool v)).run P c.w = .ok (u == v) c.w := run_equalIn_bool ht 9999 u v c.w
      cases neg
      · subst hop
        simp [eqGuard, binOp, he]
      · subst hop
        simp [eqGuard, binOp, he]
    · simp only [AI.out, hu, hv]; exact rep_of_val
  · exact hp.elim

theorem ex_un {op : UnOp} {t : TypeId} {x1 : Operand} {y1 : AOpd} (S : Sim w0 outs N σ a c) (ho : o.op = .unOp op t x1) (h1 : cOpd x1 = some y1)
    (hp : AI.pre σ (o.dst.getD 0) (.un op y1)) : Ex1 P w0 outs o a c σ.hp (AI.out σ ver (o.dst.getD 0) (.un op y1)) ver := by
  have e1 := S.ev h1
  simp only [AI.pre] at hp
  split at hp
  · rename_i u hu
    rw [hu] at e1
    have e1' := rep_val e1
    obtain ⟨r, hr⟩ := Option.isSome_iff_exists.1 hp
    refine Ex1.still S (v := r) ?_ ?_
    · simp only [execOp, ho, e1']
      unfold unV at hr
      split at hr
      · cases op <;> simp [Op.unary, Op.intArith] at hr ⊢; exact hr
      · cases op <;> simp [Op.unary] at hr ⊢; exact hr
      · cases hr
    · simp only [AI.out, hu, hr]; exact rep_of_val
  · exact hp.elim

theorem ex_cvi {t1 t2 : TypeId} {k k' : IntKind} {x1 : Operand} {y1 : AOpd} (S : Sim w0 outs N σ a c) (ho : o.op = .convert t1 t2 x1) (ht1 : P.underlying t1 = some (.int k')) (ht2 : P.underlying t2 = some (.int k)) (h1 : cOpd x1 = some y1)
    (hp : AI.pre σ (o.dst.getD 0) (.cvi k y1)) : Ex1 P w0 outs o a c σ.hp (AI.out σ ver (o.dst.getD 0) (.cvi k y1)) ver := by
  have e1 := S.ev h1
  simp only [AI.pre] at hp
  split at hp
  · rename_i k2 n hu
    rw [hu] at e1
    have e1' := rep_val e1
    refine Ex1.still S (v := .int k (k.wrap n)) ?_ ?_
    · simp [execOp, ho, e1', convert, underlying, ht1, ht2, Conv.intToInt]
    · simp only [AI.out, hu]; exact rep_of_val
  · exact hp.elim

theorem ex_mkf {g : FuncId} {first caps : Array Operand} {ys : List AOpd} (S : Sim w0 outs N σ a c) (ho : o.op = .makeFunc (.func g) first caps) (hf : first.size = 0) (h1 : cOpds caps.toList = some ys) :
    Ex1 P w0 outs o a c σ.hp (AI.out σ ver (o.dst.getD 0) (.mkf g ys)) ver := by
  have e1 := S.evs h1
  have hf' : first = #[] := Array.eq_empty_of_size_eq_zero hf
  refine Ex1.still S (v := .func (.func g) #[] (caps.map a.eval)) ?_ ?_
  · simp [execOp, ho, hf', Instr.makeFunc]
  · simp only [AI.out, Rep]; exact ⟨_, rfl, by simpa using e1⟩

theorem ex_ext {i : Nat} {x1 : Operand} {y1 : AOpd} (S : Sim w0 outs N σ a c) (ho : o.op = .extract x1 i) (h1 : cOpd x1 = some y1)
    (hp : AI.pre σ (o.dst.getD 0) (.ext i y1)) : Ex1 P w0 outs o a c σ.hp (AI.out σ ver (o.dst.getD 0) (.ext i y1)) ver := by
  have e1 := S.ev h1
  simp only [AI.pre] at hp
  split at hp
  · rename_i cs hu
    rw [hu] at e1
    simp only [Rep] at e1
    obtain ⟨vs, hv, hl⟩ := e1
    obtain ⟨v, hv', hr⟩ := hl.get (List.getElem?_eq_getElem hp)
    refine Ex1.still S (v := v) ?_ ?_
    · simp only [execOp, ho, hv, Instr.extract]
      have : vs[i]? = some v := by simpa using hv'
      simp [this]
    · simp only [AI.out, hu, List.getD_eq_getElem?_getD, List.getElem?_eq_getElem hp, Option.getD_some]; exact hr
  · exact hp.elim

theorem ex_idx {t : TypeId} {x1 x2 : Operand} {y1 y2 : AOpd} (S : Sim w0 outs N σ a c) (ho : o.op = .index t x1 x2) (ht : P.underlying t = some .string) (h1 : cOpd x1 = some y1) (h2 : cOpd x2 = some y2)
    (hp : AI.pre σ (o.dst.getD 0) (.idx y1 y2)) : Ex1 P w0 outs o a c σ.hp (AI.out σ ver (o.dst.getD 0) (.idx y1 y2)) ver := by
  have e1 := S.ev h1; have e2 := S.ev h2
  simp only [AI.pre] at hp
  split at hp
  · rename_i s k n hu hv
    rw [hu] at e1; rw [hv] at e2
    have e1' := rep_val e1; have e2' := rep_val e2
    obtain ⟨h0, hlt⟩ := hp
    have hs : s[n.toNat]? = some (s.data.getD n.toNat 0) := by
      rw [getElem?_pos s n.toNat hlt]
      show some (s.data[n.toNat]'hlt) = _
      have hlt' : n.toNat < s.data.size := hlt
      simp [hlt', Array.getElem?_eq_getElem hlt']
    refine Ex1.still S (v := .int .u8 (s.data.getD n.toNat 0).toNat) ?_ ?_
    · simp [execOp, ho, e1', e2', Instr.index, asIntOf, underlying, ht, h0, hs]
    · simp only [AI.out, hu, hv]; exact rep_of_val
  · exact hp.elim

end
end Go.Ab
