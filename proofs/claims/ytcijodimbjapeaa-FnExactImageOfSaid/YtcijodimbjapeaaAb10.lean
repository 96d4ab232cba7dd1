/- Each instruction does what it says: slices of slices, maps, structs, texts. Conditions: none. -/
import Derived.Test.YtcijodimbjapeaaAb9
import Derived.Laws.BytesString
import Derived.Laws.Tables
import Derived.Great.FillDense
set_option linter.all false
namespace Go.Ab
section
variable {P : Program} {w0 : World} {outs : Nat → Prop} {N : Nat} {σ : St} {o : Oper} {a : Act} {c : Cz} {ver : Nat}

theorem ex_slc {t : TypeId} {k by_ : Nat} {z : Value} {x1 : Operand} {lo hi : Option Operand} {y1 : AOpd} {l h : Option AOpd} (S : Sim w0 outs N σ a c) (hv : ¬ c.used ver) (ho : o.op = .slice t x1 lo hi none) (ht : cElem P t = some (k, by_, z))
    (h1 : cOpd x1 = some y1) (h2 : cBound lo = some l) (h3 : cBound hi = some h)
    (hp : AI.pre σ (o.dst.getD 0) (.slc k y1 l h)) : Ex1 P w0 outs o a c (AI.hpw σ ver (o.dst.getD 0) (.slc k y1 l h)) (AI.out σ ver (o.dst.getD 0) (.slc k y1 l h)) ver := by
  obtain ⟨e, i, hu, hi', hz, hsz, hby, hk0, hzs, hb0⟩ := cElem_spec ht
  have e1 := S.ev h1
  simp only [AI.pre] at hp
  split at hp
  · rename_i k' cs hsl
    obtain ⟨rfl, hp⟩ := hp
    split at hp
    · rename_i l' h' hl hh
      obtain ⟨hlh, hhk⟩ := hp
      obtain ⟨base, n, cap, hv1, _, hcl, hnm, hcase⟩ := sl_cells S.good S.hp e1 hsl
      have hdiv := div_len hcl hk0
      rw [hdiv] at hh
      have b1 := bound_spec S h2 hl
      have b2 := bound_spec S h3 hh
      have hhn : h' ≤ n := by
        rw [hcl] at hhk; exact Nat.le_of_mul_le_mul_right hhk hk0
      have run : (execOp a.eval o).run P c.w = .ok (.value (.slice (if cap = l' then base else base.map (·.add (l' * k'))) (h' - l') (cap - l'))) c.w := by
        have hr := run_bounds (P := P) (isSl := true) (cap := cap) b1 b2 hlh (by omega) c.w
        simp only [execOp, ho, Option.map_none]
        simp [Instr.sliceAt, underlying, hu, hv1, Instr.slice, hr, sizeOf, typeInfo, hi', hsz]
      have hbl : σ.bound (cs.length / k') h = some h' := by rw [hdiv]; exact hh
      have hml : l' * k' ≤ h' * k' := Nat.mul_le_mul_right _ hlh
      have hlen2 : ((cs.take (h' * k')).drop (l' * k')).length = (h' - l') * k' := by
        rw [List.length_drop, List.length_take, Nat.sub_mul]; omega
      cases hA : σ.ev y1 with
      | ro nm k2 cs2 =>
        have hhp : AI.hpw σ ver (o.dst.getD 0) (.slc k' y1 l h) = σ.hp := by simp only [AI.hpw, hA]
        rw [hhp]
        rw [hA] at e1 hsl
        simp only [St.sl, Option.some.injEq, Prod.mk.injEq] at hsl
        obtain ⟨rfl, rfl⟩ := hsl
        have hout : AI.out σ ver (o.dst.getD 0) (.slc k2 y1 l h) = .ro nm k2 ((cs2.take (h' * k2)).drop (l' * k2)) := by simp only [AI.out, hA, hl, hbl]
        rw [hout]
        refine Ex1.still S run ?_
        simp only [Rep] at e1 ⊢
        obtain ⟨base', n', cap', hv2, _, hcl', hm', hnmc, hcase'⟩ := e1
        rw [hv1] at hv2
        simp only [Value.slice.injEq] at hv2
        obtain ⟨rfl, rfl, rfl⟩ := hv2
        refine ⟨_, _, _, rfl, hk0, hlen2, ⟨by omega, by omega⟩, ?_, ?_⟩
        · intro nm' e'
          refine ⟨fun hnew => ?_, ?_⟩
          · have := (hnmc nm' e').1 hnew
            obtain ⟨b0, rfl⟩ := Option.ne_none_iff_exists'.1 this
            first | (simp; done) | (split <;> simp)
          rcases (hnmc nm' e').2 with h0 | ⟨b, off, rfl, hnam⟩
          · left
            have : n = 0 := nil_of_mul hk0 hcl h0
            rw [hlen2]
            have : h' - l' = 0 := by omega
            simp [this]
          · right
            have hfit : c.fit b (off + cap * k2) → c.fit b ((if cap = l' then off else off + l' * k2) + (cap - l') * k2) := by
              rintro ⟨t0, cells0, hf1, hf2⟩
              refine ⟨t0, cells0, hf1, ?_⟩
              split
              · rename_i e0; rw [e0, Nat.sub_self]; omega
              · have hcl2 : l' ≤ cap := by omega
                have : l' * k2 ≤ cap * k2 := Nat.mul_le_mul_right _ hcl2
                rw [Nat.sub_mul]; omega
            refine ⟨b, if cap = l' then off else off + l' * k2, ?_, ?_⟩
            · split
              · rfl
              · simp [addr_add]
            · match nm', hnam with
              | none, h => exact ⟨h.1, hfit h.2⟩
              | some 0, h => exact h
              | some (n0 + 1), h => exact ⟨h.1, hfit h.2⟩
        · rcases hcase' with h0 | ⟨b, off, rfl, hi2, hr2⟩
          · left
            have : n = 0 := nil_of_mul hk0 hcl h0
            rw [hlen2]
            have : h' - l' = 0 := by omega
            simp [this]
          · by_cases hc0 : cap = l'
            · left
              rw [hlen2]
              have : h' - l' = 0 := by omega
              simp [this]
            · right
              refine ⟨b, off + l' * k2, by rw [if_neg hc0]; simp [addr_add], hi2, ?_⟩
              exact (hr2.take _).drop _
      | own r v0 =>
        rw [hA] at e1
        have hsl' := hsl
        rw [hA] at hsl
        simp only [St.sl] at hsl
        split at hsl
        · rename_i ver' k2 nn cs2 hrr
          split at hsl
          · rename_i ev
            simp only [Option.some.injEq, Prod.mk.injEq] at hsl
            obtain ⟨rfl, rfl⟩ := hsl
            subst ev
            have hrc : c.hp r = .row ver' k2 nn cs2 := by rw [S.hp]; exact hrr
            have hg0 : c.hp r ≠ .gone := by rw [hrc]; simp
            have hO := S.good.obj r
            simp only [Rep] at e1
            rw [hrc] at hO e1
            have hv2 := e1.2 rfl
            obtain ⟨base', n', cap', hloc, _, hcl', hnc, hcm, hnn, hcase'⟩ := hO
            rw [hloc, hv1] at hv2
            simp only [Value.slice.injEq] at hv2
            obtain ⟨rfl, rfl, rfl⟩ := hv2
            have hhp : AI.hpw σ ver (o.dst.getD 0) (.slc k2 y1 l h) = fun q => if q = r then AObj.row ver k2 nn ((cs2.take (h' * k2)).drop (l' * k2)) else c.hp q := by
              simp only [AI.hpw, hA, hrr, hl, hbl, S.hp]
            have hout : AI.out σ ver (o.dst.getD 0) (.slc k2 y1 l h) = .own r ver := by simp only [AI.out, hA]
            have hG := S.good.upd c.w r (.row ver k2 nn ((cs2.take (h' * k2)).drop (l' * k2))) (.slice (if cap = l' then base else base.map (·.add (l' * k2))) (h' - l') (cap - l')) ver rfl rfl rfl (Nat.le_refl _) (fun _ _ _ => rfl)
              (fun b hb => by
                have hb' : blockOf (c.loc r) = some b := by
                  rw [hloc]
                  cases base with
                  | none => split at hb <;> simp [blockOf] at hb
                  | some ad =>
                    by_cases hc0 : cap = l'
                    · simp [hc0, blockOf] at hb
                    · have : cap ≠ 0 := by omega
                      have h9 : ¬ cap - l' = 0 := by omega
                      simp only [if_neg hc0, Option.map_some, blockOf, if_neg h9, Option.some.injEq] at hb
                      simp only [blockOf, if_neg this, Option.some.injEq]
                      rw [← hb]
                      unfold Addr.add; split <;> rfl
                exact ⟨.inl ⟨hg0, hb'⟩, (S.good.obj r).lt hg0 hb'⟩)
              (.inr (.inl ⟨rfl, hv⟩))
              (fun K => by
                refine ⟨_, _, _, rfl, hk0, hlen2, by omega, by omega, ?_, ?_⟩
                · intro hn1
                  have := hnn hn1
                  split
                  · exact this
                  · cases base <;> simp_all
                · by_cases hc0 : cap = l'
                  · left; omega
                  · rcases hcase' with h0 | ⟨g, off, te, cells, rfl, hg, hcf, hrep⟩
                    · omega
                    · right
                      refine ⟨g, off + l' * k2, te, cells, by rw [if_neg hc0]; simp [addr_add], hg, ?_, ?_⟩
                      · have : l' * k2 ≤ cap * k2 := Nat.mul_le_mul_right _ (by omega)
                        rw [Nat.sub_mul]; omega
                      · have h5 := (hrep.take (h' * k2)).drop (l' * k2)
                        have h6 : h' * k2 ≤ n * k2 := Nat.mul_le_mul_right _ hhn
                        have h7 : List.drop (l' * k2) (List.take (h' * k2) (List.take (n * k2) (List.drop off cells.toList))) = List.take ((h' - l') * k2) (List.drop (off + l' * k2) cells.toList) := by
                          rw [List.take_take, Nat.min_eq_left h6, List.drop_take, List.drop_drop, Nat.sub_mul]
                        rw [h7] at h5
                        exact RepL.keeps K _ _ h5)
            refine ⟨_, c.upd c.w r (.row ver k2 nn ((cs2.take (h' * k2)).drop (l' * k2))) (.slice (if cap = l' then base else base.map (·.add (l' * k2))) (h' - l') (cap - l')) ver, .inl run, hG.1, hG.2, ?_, ?_, used_upd, rfl, rfl⟩
            · rw [hhp]; rfl
            · rw [hout]; simp only [Rep]
              exact ⟨.inr rfl, fun _ => by simp [Cz.upd]⟩
          · cases hsl
        · cases hsl
      | _ => rw [hA] at hsl; simp [St.sl] at hsl
    · exact hp.elim
  · exact hp.elim

theorem zero_opd {x : Option Operand} (h : isZero x = true) : ∃ kk, x = some (.const (.int kk 0)) := by
  unfold isZero at h
  split at h
  · exact ⟨_, rfl⟩
  · cases h

theorem ex_slc0 {t : TypeId} {k by_ : Nat} {z : Value} {x1 : Operand} {lo hi mx : Option Operand} {y1 : AOpd} (S : Sim w0 outs N σ a c) (hv : ¬ c.used ver) (ho : o.op = .slice t x1 lo hi mx) (ht : cElem P t = some (k, by_, z))
    (h1 : cOpd x1 = some y1) (h2 : lo.isNone ∨ isZero lo = true) (h3 : isZero hi = true) (h4 : isZero mx = true)
    (hp : AI.pre σ (o.dst.getD 0) (.slc0 k y1)) : Ex1 P w0 outs o a c (AI.hpw σ ver (o.dst.getD 0) (.slc0 k y1)) (AI.out σ ver (o.dst.getD 0) (.slc0 k y1)) ver := by
  obtain ⟨e, i, hu, hi', hz, hsz, hby, hk0, hzs, hb0⟩ := cElem_spec ht
  have e1 := S.ev h1
  obtain ⟨k3, rfl⟩ := zero_opd h3
  obtain ⟨k4, rfl⟩ := zero_opd h4
  simp only [AI.pre] at hp
  split at hp
  · rename_i k' cs hsl
    obtain ⟨rfl, hd⟩ := hp
    have hd' : c.hp (o.dst.getD 0) = .gone := by rw [S.hp]; exact hd
    obtain ⟨base, n, cap, hv1, _, hcl, hnm, hcase⟩ := sl_cells S.good S.hp e1 hsl
    have run : (execOp a.eval o).run P c.w = .ok (.value (.slice base 0 0)) c.w := by
      have hlo : lo = none ∨ ∃ kk, lo = some (.const (.int kk 0)) := by
        rcases h2 with h | h
        · left; simpa using h
        · right; exact zero_opd h
      have hc0 : ∀ q : IntKind, a.eval (.const (.int q 0)) = .int q 0 := fun _ => rfl
      rcases hlo with rfl | ⟨kk, rfl⟩ <;>
        simp [execOp, ho, Instr.sliceAt, underlying, hu, hv1, Instr.slice, Instr.sliceBounds, Instr.sliceBound, asIntOf, hc0, sizeOf, typeInfo, hi']
    have hnn : (σ.nn (σ.ev y1)) = true → base ≠ none := by
      intro hm
      cases hA : σ.ev y1 with
      | own r v =>
        rw [hA] at e1 hsl hm
        simp only [Rep] at e1
        simp only [St.sl] at hsl
        have hO := S.good.obj r
        rw [S.hp] at hO e1
        split at hsl
        · rename_i ver' k2 nn2 cs2 hrr
          simp only [St.nn, hrr] at hm
          rw [hrr] at hO e1
          split at hsl
          · rename_i ev
            subst ev
            obtain ⟨base', n', cap', hloc, _, _, _, _, hnn, _⟩ := hO
            have hv2 := e1.2 rfl
            rw [hloc, hv1] at hv2
            simp only [Value.slice.injEq] at hv2
            obtain ⟨rfl, rfl, rfl⟩ := hv2
            exact hnn hm
          · cases hsl
        · cases hsl
      | _ => rw [hA] at hm; simp [St.nn] at hm
    have hG := S.good.upd c.w (o.dst.getD 0) (.row ver k' (σ.nn (σ.ev y1)) []) (.slice base 0 0) ver rfl rfl rfl (Nat.le_refl _) (fun _ _ _ => rfl)
      (fun b hb => by cases base <;> simp [blockOf] at hb) (.inr (.inl ⟨rfl, hv⟩))
      (fun K => ⟨base, 0, 0, rfl, hk0, by simp, Nat.le_refl _, by simp, hnn, .inl rfl⟩)
    refine ⟨.slice base 0 0, c.upd c.w (o.dst.getD 0) (.row ver k' (σ.nn (σ.ev y1)) []) (.slice base 0 0) ver, .inl run, hG.1, hG.2, ?_, ?_, used_upd, rfl, rfl⟩
    · simp only [Cz.upd, AI.hpw, S.hp]
    · simp only [AI.out, Rep]
      exact ⟨.inr rfl, fun _ => by simp [Cz.upd]⟩
  · exact hp.elim

theorem ex_cvbs {t1 t2 e : TypeId} {x1 : Operand} {y1 : AOpd} (S : Sim w0 outs N σ a c) (ho : o.op = .convert t1 t2 x1) (ht1 : P.underlying t1 = some (.slice e)) (ht2 : P.underlying t2 = some .string) (he : P.underlying e = some (.int .u8)) (h1 : cOpd x1 = some y1)
    (hp : AI.pre σ (o.dst.getD 0) (.cvbs y1)) : Ex1 P w0 outs o a c σ.hp (AI.out σ ver (o.dst.getD 0) (.cvbs y1)) ver := by
  have e1 := S.ev h1
  simp only [AI.pre] at hp
  split at hp
  · rename_i k cs hsl
    obtain ⟨rfl, hb⟩ := hp
    obtain ⟨base, n, cap, hv, _, hl, hm, hcase⟩ := sl_cells S.good S.hp e1 hsl
    have hout : AI.out σ ver (o.dst.getD 0) (.cvbs y1) = .val (.string ⟨(cs.filterMap byteOfCell).toArray⟩) := by simp only [AI.out, hsl]
    rw [hout]
    have conv : (execOp a.eval o).run P c.w = .ok (.value (.string ⟨(cs.filterMap byteOfCell).toArray⟩)) c.w := by
      have hcv : (convert t1 t2 (.slice base n cap)).run P c.w = (Conv.bytesToString (.slice base n cap)).run P c.w := by
        simp [convert, underlying, ht1, ht2, he]
      have : (Conv.bytesToString (.slice base n cap)).run P c.w = .ok (.string ⟨(cs.filterMap byteOfCell).toArray⟩) c.w := by
        rcases hcase with h0 | ⟨b, off, rfl, hr, _⟩
        · have hcs : cs = [] := List.eq_nil_of_length_eq_zero h0
          have hn : n = 0 := by omega
          subst hcs hn
          cases base with
          | none => simp [Conv.bytesToString]; rfl
          | some ad => simp [Conv.bytesToString, loadCells, loadCellsFrom]; rfl
        · obtain ⟨vs, h5, h6, h7⟩ := hr.vals
          have hrun := run_loadCells_list (P := P) (w := c.w) ⟨b, off, none⟩ vs (fun j v hj => by rw [addr_add]; exact h7 j v hj)
          have hn : vs.length = n := by omega
          rw [hn] at hrun
          have hvals : ∀ (cs : List AVal) (vs : List Value), RepL c cs vs → (∀ A ∈ cs, (byteOfCell A).isSome = true) → ∃ ns : List Int, vs = ns.map (Value.int .u8) ∧ cs.filterMap byteOfCell = ns.map fun q => UInt8.ofNat q.toNat := by
            intro cs
            induction cs with
            | nil =>
              intro vs h _
              cases vs with
              | nil => exact ⟨[], rfl, rfl⟩
              | cons v vs => simp [RepL] at h
            | cons A cs ih =>
              intro vs h hA
              cases vs with
              | nil => simp [RepL] at h
              | cons v vs =>
                simp only [RepL] at h
                obtain ⟨u, hu⟩ := Option.isSome_iff_exists.1 (hA A (by simp))
                unfold byteOfCell at hu
                split at hu
                · rename_i m
                  have hv := rep_val h.1
                  subst hv
                  obtain ⟨ns, h8, h9⟩ := ih vs h.2 (fun B hB => hA B (by simp [hB]))
                  exact ⟨m :: ns, by simp [h8], by simp [byteOfCell, h9]⟩
                · cases hu
          obtain ⟨ns, h8, h9⟩ := hvals cs vs h5 hb
          have hfin := run_bytesToString (P := P) c.w ⟨b, off, none⟩ n cap ns (by rw [hrun, h8])
          rw [hfin, h9]
          congr 2
          have hfold : ∀ (ns : List Int) (s : ByteArray), ns.foldl (fun r q => r.push (UInt8.ofNat q.toNat)) s = ⟨(s.data.toList ++ ns.map fun q => UInt8.ofNat q.toNat).toArray⟩ := by
            intro ns
            induction ns with
            | nil => intro s; simp
            | cons q ns ih => intro s; rw [List.foldl_cons, ih]; simp [ByteArray.push]
          rw [hfold]; rfl
      simp only [execOp, ho, hv, Sem.run_bind, hcv, this, Result.andThen_ok]; rfl
    exact Ex1.still S conv rep_of_val
  · exact hp.elim

theorem overlay (cells vs : Array Value) (off : Nat) (h : off + vs.size ≤ cells.size) :
    (vs.zipIdx.foldl (fun cs (x : Value × Nat) => cs.setIfInBounds (off + x.2) x.1) cells).toList = cells.toList.take off ++ vs.toList ++ cells.toList.drop (off + vs.size) := by
  have h1 := Great.foldl_set off vs.toList 0 cells
  have h2 : vs.zipIdx.foldl (fun cs (x : Value × Nat) => cs.setIfInBounds (off + x.2) x.1) cells = (vs.toList.zipIdx 0).foldl (fun cs (x : Value × Nat) => cs.setIfInBounds (off + x.2) x.1) cells := by
    rw [← Array.foldl_toList]
    simp [Array.toList_zipIdx]
  rw [h2]
  apply List.ext_getElem?
  intro i
  rw [Array.getElem?_toList, h1.2 i]
  simp only [Nat.add_zero, Array.length_toList, List.getElem?_append, List.length_append, List.length_take, List.getElem?_take, List.getElem?_drop]
  have e1 : min off cells.size = off := by omega
  rw [e1]
  by_cases ha : i < off
  · rw [if_neg (by omega), if_pos (by omega), if_pos ha, if_pos ha]; simp
  · by_cases hb : i < off + vs.size
    · rw [if_pos ⟨by omega, hb, by omega⟩, if_pos hb, if_neg ha]
    · rw [if_neg (by omega), if_neg hb]
      have : off + vs.size + (i - (off + vs.size)) = i := by omega
      rw [this]; simp

theorem fill_spec (place : Nat → Option (Nat × Nat)) : ∀ (ps : List (Nat × Operand)) (as : List (Nat × Nat × AOpd)) (ins : List (Nat × Value)) (cells : Array Value) (cs : List AVal),
    (∀ p ∈ as, (σ.ev p.2.2).cells.length = p.2.1 ∧ ∀ A ∈ (σ.ev p.2.2).cells, One c.hp A) → Good w0 outs c → RepL c cs cells.toList →
    (∀ p ∈ as, p.1 + p.2.1 ≤ cells.size) →
    as.length = ins.length → (∀ (i : Nat) p q, as[i]? = some p → ins[i]? = some q → place q.1 = some (p.1, p.2.1) ∧ Rep c (σ.ev p.2.2) q.2) →
    ∃ r, Instr.fill place cells ins = some r ∧ RepL c (as.foldl (fun cs p => putAt cs p.1 (σ.ev p.2.2).cells) cs) r.toList
  | _, [], [], cells, cs, _, _, h, _, _, _ => ⟨cells, rfl, h⟩
  | _, [], _ :: _, _, _, _, _, _, _, hl, _ => by simp at hl
  | _, _ :: _, [], _, _, _, _, _, _, hl, _ => by simp at hl
  | ps, p :: as, q :: ins, cells, cs, hone, G, h, hb, hl, hq => by
    obtain ⟨h1, h2⟩ := hq 0 p q rfl rfl
    obtain ⟨h3, h4⟩ := hone p (by simp)
    obtain ⟨h5, _⟩ := cells_rep G h2 h4
    have hsz : q.2.cells.size = p.2.1 := by
      have := h5.length; rw [h3] at this; simpa using this.symm
    have hfit := hb p (by simp)
    obtain ⟨i, v⟩ := q
    simp only at h1 h2 hsz h5
    have hov := overlay cells v.cells p.1 (by rw [hsz]; exact hfit)
    have hlen : (v.cells.zipIdx.foldl (fun cs (x : Value × Nat) => cs.setIfInBounds (p.1 + x.2) x.1) cells).size = cells.size := by
      have := congrArg List.length hov
      simp only [Array.length_toList, List.length_append, List.length_take, List.length_drop] at this
      omega
    obtain ⟨r, hr, hrep⟩ := fill_spec place ps as ins (v.cells.zipIdx.foldl (fun cs (x : Value × Nat) => cs.setIfInBounds (p.1 + x.2) x.1) cells) (putAt cs p.1 (σ.ev p.2.2).cells)
      (fun p' hp' => hone p' (by simp [hp'])) G
      (by rw [hov]; have := RepL.putAt h h5 p.1; simpa using this)
      (fun p' hp' => by rw [hlen]; exact hb p' (by simp [hp'])) (by simpa using hl)
      (fun j p' q' hp' hq' => hq (j + 1) p' q' (by simpa using hp') (by simpa using hq'))
    refine ⟨r, ?_, by simpa using hrep⟩
    unfold Instr.fill
    rw [h1]
    simp only [hsz]
    rw [if_neg (by simp; omega)]
    exact hr

theorem cFields_spec {fs : Array Field} : ∀ {ps : List (Nat × Operand)} {as : List (Nat × Nat × AOpd)}, cFields P fs ps = some as →
    as.length = ps.length ∧ ∀ (i : Nat) p q, as[i]? = some p → ps[i]? = some q → ∃ f inf, fs[q.1]? = some f ∧ P.info? f.type = some inf ∧ p.1 = f.offset ∧ p.2.1 = inf.size ∧ cOpd q.2 = some p.2.2
  | [], as, h => by simp [cFields] at h; subst h; simp
  | (j, x) :: ps, as, h => by
    simp only [cFields] at h
    split at h
    · rename_i f hf
      split at h
      · rename_i i a as' hi ha has
        simp only [Option.some.injEq] at h; subst h
        obtain ⟨h1, h2⟩ := cFields_spec has
        refine ⟨by simp [h1], ?_⟩
        intro n p q hp hq
        cases n with
        | zero =>
          simp at hp hq; subst hp hq
          exact ⟨f, i, hf, hi, rfl, rfl, ha⟩
        | succ n => exact h2 n p q (by simpa using hp) (by simpa using hq)
      · cases h
    · cases h

theorem ex_bst {t : TypeId} {i : TypeInfo} {z : Value} {fs : Array Field} {places : List (Nat × Nat)} {ps : Array (Nat × Operand)} {as : List (Nat × Nat × AOpd)} (S : Sim w0 outs N σ a c) (ho : o.op = .build t ps) (ht : P.underlying t = some (.struct fs))
    (hi : P.info? t = some i) (hz : i.zero = some z) (hf : cFields P fs ps.toList = some as) (hpl : fs.toList.mapM (fun f => (P.info? f.type).map fun i => (f.offset, i.size)) = some places)
    (hb : as.all (fun p => decide (p.1 + p.2.1 ≤ z.cells.size)) = true)
    (hp : AI.pre σ (o.dst.getD 0) (.bst z.cells.toList as)) : Ex1 P w0 outs o a c σ.hp (AI.out σ ver (o.dst.getD 0) (.bst z.cells.toList as)) ver := by
  obtain ⟨hlen, hsp⟩ := cFields_spec hf
  have hplace : ∀ (q : Nat) f inf, fs[q]? = some f → P.info? f.type = some inf → places.toArray[q]? = some (f.offset, inf.size) := by
    have gen : ∀ (l : List Field) (pl : List (Nat × Nat)), l.mapM (fun f => (P.info? f.type).map fun i => (f.offset, i.size)) = some pl → ∀ (q : Nat) f inf, l[q]? = some f → P.info? f.type = some inf → pl[q]? = some (f.offset, inf.size) := by
      intro l
      induction l with
      | nil => intro pl _ q f inf hq; simp at hq
      | cons x l ih =>
        intro pl h q f inf hq hinf
        simp only [List.mapM_cons, Option.bind_eq_bind, Option.bind_eq_some_iff, Option.pure_def, Option.some.injEq] at h
        obtain ⟨y, hy, pl', hpl', rfl⟩ := h
        cases q with
        | zero =>
          simp at hq; subst hq
          rw [hinf] at hy; simp at hy; subst hy; rfl
        | succ q => simpa using ih pl' hpl' q f inf (by simpa using hq) hinf
    intro q f inf hq hinf
    have := gen fs.toList places hpl q f inf (by simpa using hq) hinf
    simpa using this
  obtain ⟨r, hr, hrep⟩ := fill_spec (c := c) (σ := σ) (w0 := w0) (outs := outs) (places.toArray[·]?) ps.toList as (ps.map fun (i, x) => (i, a.eval x)).toList z.cells (z.cells.toList.map .val)
    (by rw [S.hp]; exact hp) S.good (repL_vals _) (by intro p hp'; have := List.all_eq_true.1 hb p hp'; simpa using this) (by simp [hlen])
    (by
      intro n p q hp' hq'
      simp only [Array.toList_map, List.getElem?_map, Option.map_eq_some_iff] at hq'
      obtain ⟨q0, hq0, rfl⟩ := hq'
      obtain ⟨f, inf, h1, h2, h3, h4, h5⟩ := hsp n p q0 hp' hq0
      refine ⟨?_, S.ev h5⟩
      simp only []
      rw [hplace _ f inf h1 h2, h3, h4])
  have hbuilt : P.built t (ps.map fun (i, x) => (i, a.eval x)).toList = some r := by
    simp only [Program.built, hi, ht, hz, hpl]; exact hr
  refine Ex1.still S (v := .agg r) ?_ ?_
  · have := run_build (P := P) c.w t (ps.map fun (i, x) => (i, a.eval x)) r hbuilt
    simp only [execOp, ho, Sem.run_bind, this, Result.andThen_ok]; rfl
  · simp only [AI.out, Rep]
    exact ⟨r, rfl, hrep⟩

end
end Go.Ab
