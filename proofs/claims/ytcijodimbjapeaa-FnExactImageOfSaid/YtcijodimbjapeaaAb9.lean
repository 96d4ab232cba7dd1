/- Each instruction does what it says: append, slices of slices, maps. Conditions: none. -/
import Derived.Test.YtcijodimbjapeaaAb8
set_option linter.all false
namespace Go.Ab
section
variable {P : Program} {w0 : World} {outs : Nat → Prop} {N : Nat} {σ : St} {o : Oper} {a : Act} {c : Cz} {ver : Nat}

theorem run_app_zero {t ty e : TypeId} {i : TypeInfo} (ht : P.underlying t = some (.slice e)) (hi : P.info? e = some i) (b1 b2 : Option Addr) (n cap cap2 : Nat) (h : n ≤ cap) (w : World) :
    (Builtin.append_ #[t, t] ty #[.slice b1 n cap, .slice b2 0 cap2]).run P w = .ok (.slice b1 n cap) w := by
  cases b1 <;> cases b2 <;> simp [Builtin.append_, run_underlying ht, sizeOf, typeInfo, hi, Builtin.lenOf, h, Builtin.firstCells, loadCells, loadCellsFrom, storeCells]

theorem run_app_room {t ty e : TypeId} {i : TypeInfo} (ht : P.underlying t = some (.slice e)) (hi : P.info? e = some i) {g off n cap m cap2 : Nat} {cells : Array Value} {te : TypeId} {w : World}
    (hg : w.heap[g]? = some (.cells cells te (0, 0))) (ad : Addr) (news : List Value) (hl : news.length = m * i.size) (hnews : ∀ (j : Nat) v, news[j]? = some v → w.cell? (ad.add j) = some v) (h1 : ∀ u ∈ news, u.oneCell' = true)
    (hroom : n + m ≤ cap) (hfit : off + n * i.size + news.length ≤ cells.size) :
    (Builtin.append_ #[t, t] ty #[.slice (some ⟨g, off, none⟩) n cap, .slice (some ad) m cap2]).run P w =
      .ok (.slice (some ⟨g, off, none⟩) (n + m) cap) (w.setRow g (cells.toList.take (off + n * i.size) ++ news ++ cells.toList.drop (off + n * i.size + news.length)).toArray) := by
  have hf := run_firstCells_some (P := P) w i.size m ad m cap2 news hl hnews
  have hst := run_storeCells_at P g (off + n * i.size) te news 0 cells w hg (by simpa using hfit) h1
  simp only [Nat.add_zero] at hst
  have had : (⟨g, off, none⟩ : Addr).add (n * i.size) = ⟨g, off + n * i.size, none⟩ := addr_add _ _ _
  simp [Builtin.append_, run_underlying ht, sizeOf, typeInfo, hi, Builtin.lenOf, hroom, hf, had, hst]

theorem nil_of_mul {n k : Nat} (hk : 0 < k) {cs : List AVal} (h : cs.length = n * k) (h0 : cs.length = 0) : n = 0 := by
  rw [h] at h0
  rcases Nat.mul_eq_zero.1 h0 with h | h <;> omega

theorem ex_app {t : TypeId} {k by_ : Nat} {z : Value} {x1 x2 : Operand} {y1 y2 : AOpd} {args : Array Operand} {ts : Array TypeId} (S : Sim w0 outs N σ a c) (hv : ¬ c.used ver)
    (ho : o.op = .call { callee := .builtin .append, args := args, argTypes := ts }) (ha : args.toList = [x1, x2]) (hts : ts.toList = [t, t]) (ht : cElem P t = some (k, by_, z)) (h1 : cOpd x1 = some y1) (h2 : cOpd x2 = some y2)
    (hp : AI.pre σ (o.dst.getD 0) (.app k by_ y1 y2)) : Ex1 P w0 outs o a c (AI.hpw σ ver (o.dst.getD 0) (.app k by_ y1 y2)) (AI.out σ ver (o.dst.getD 0) (.app k by_ y1 y2)) ver := by
  obtain ⟨e, i, hu, hi, hz, hsz, hby, hk0, hzs, hb0⟩ := cElem_spec ht
  have e1 := S.ev h1; have e2 := S.ev h2
  have ha' : args = #[x1, x2] := by cases args; simp at ha; simp [ha]
  have hts' : ts = #[t, t] := by cases ts; simp at hts; simp [hts]
  subst ha' hts'
  have run : ∀ {u v r : Value} {w' : World}, a.eval x1 = u → a.eval x2 = v → (Builtin.append_ #[t, t] o.type #[u, v]).run P c.w = .ok r w' → (execOp a.eval o).run P c.w = .ok (.value r) w' := by
    intro u v r w' h3 h4 h5
    simp [execOp, ho, resolve, invoke, builtin, h3, h4, h5]
  obtain ⟨hx, hs⟩ := hp
  -- what is appended
  obtain ⟨bx, m, capx, hvx, hxl, news, hnr, hnl, hnews⟩ : ∃ bx m capx, a.eval x2 = .slice bx m capx ∧ (σ.slc (σ.ev y2)).length = m * k ∧ ∃ news, RepL c (σ.slc (σ.ev y2)) news ∧ news.length = (σ.slc (σ.ev y2)).length ∧
      ((σ.slc (σ.ev y2)).length ≠ 0 → ∃ ad, bx = some ad ∧ ∀ (j : Nat) v, news[j]? = some v → c.w.cell? (ad.add j) = some v) := by
    by_cases hnil : σ.ev y2 = .val (.slice none 0 0)
    · rw [hnil] at e2
      refine ⟨none, 0, 0, rep_val e2, by simp [hnil, St.slc, St.sl], [], by simp [hnil, St.slc, St.sl, RepL], by simp [hnil, St.slc, St.sl], by simp [hnil, St.slc, St.sl]⟩
    · split at hx
      · rename_i h; exact absurd h hnil
      · split at hx
        · rename_i k' xs hsl
          obtain ⟨rfl, _⟩ := hx
          obtain ⟨base, len, cap, hv2, _, hl, hm, hcase⟩ := sl_cells S.good S.hp e2 hsl
          have hslc : σ.slc (σ.ev y2) = xs := by simp [St.slc, hsl]
          rcases hcase with h0 | ⟨b, off, rfl, hr, _⟩
          · have hxs : xs = [] := List.eq_nil_of_length_eq_zero h0
            refine ⟨base, len, cap, hv2, by rw [hslc]; exact hl, [], by rw [hslc, hxs]; simp [RepL], by rw [hslc, hxs]; rfl, by rw [hslc]; intro h; exact absurd h0 h⟩
          · obtain ⟨vs, h5, h6, h7⟩ := hr.vals
            refine ⟨_, len, cap, hv2, by rw [hslc]; exact hl, vs, by rw [hslc]; exact h5, by rw [hslc]; exact h6, fun _ => ⟨_, rfl, fun j v hj => by rw [addr_add]; exact h7 j v hj⟩⟩
        · exact hx.elim
  have hone : ∀ u ∈ news, u.oneCell' = true := by
    refine hnr.one S.good ?_
    rw [S.hp]
    intro A hA
    split at hx
    · rename_i h; rw [h] at hA; simp [St.slc, St.sl] at hA
    · split at hx
      · rename_i k' xs hsl
        have hslc : σ.slc (σ.ev y2) = xs := by simp [St.slc, hsl]
        rw [hslc] at hA
        exact hx.2 A hA
      · exact hx.elim
  have hnm : news.length = m * k := hnl.trans hxl
  have hm0 : (σ.slc (σ.ev y2)).length = 0 ↔ m = 0 := by
    rw [hxl]; constructor
    · intro h; rcases Nat.mul_eq_zero.1 h with h | h <;> omega
    · intro h; simp [h]
  have hmem : ∀ q : Nat, q * by_ ≤ 140737488355328 → q ≤ maxLen := by
    intro q hq
    have : q ≤ q * by_ := Nat.le_mul_of_pos_right _ hb0
    simp only [maxLen]; omega
  -- a new block
  have grown : ∀ (d : Nat) (olds : List Value) (cs : List AVal) (n cap : Nat) (nn : Bool) (c1hp : Nat → AObj), c1hp = (fun q => if q = d then AObj.row ver k nn (cs ++ σ.slc (σ.ev y2)) else c.hp q) → RepL c cs olds → olds.length = n * k → cap < n + m → (n + m) * by_ ≤ 140737488355328 →
      Good w0 outs (c.upd (c.w.drew.alloc (.cells (olds.toArray ++ news.toArray ++ Builtin.zeroCells z.cells (grownCap c.w (n + m) cap e - (n + m))) e)) d (.row ver k nn (cs ++ σ.slc (σ.ev y2))) (.slice (some ⟨c.w.heap.size, 0, none⟩) (n + m) (grownCap c.w (n + m) cap e)) ver) ∧
      Keeps c (c.upd (c.w.drew.alloc (.cells (olds.toArray ++ news.toArray ++ Builtin.zeroCells z.cells (grownCap c.w (n + m) cap e - (n + m))) e)) d (.row ver k nn (cs ++ σ.slc (σ.ev y2))) (.slice (some ⟨c.w.heap.size, 0, none⟩) (n + m) (grownCap c.w (n + m) cap e)) ver) := by
    intro d olds cs n cap nn c1hp _ hol hon hlt hbytes
    have hge := grownCap_ge c.w (n + m) cap e
    have hcm : grownCap c.w (n + m) cap e ≤ maxLen := grownCap_le_maxLen c.w (n + m) cap e (hmem _ hbytes)
    refine S.good.upd _ d _ _ ver rfl rfl rfl (by simp) ?_ ?_ (.inr (.inl ⟨rfl, hv⟩)) ?_
    · intro b hb _; exact heap_alloc_old c.w.drew _ b hb
    · intro b hb
      simp only [blockOf] at hb
      split at hb <;> simp at hb
      subst hb
      exact ⟨.inr (Nat.le_refl _), by simp⟩
    · intro K
      have hlen : (olds ++ news).length = (n + m) * k := by rw [List.length_append, hon, hnm, Nat.add_mul]
      refine ⟨_, _, _, rfl, hk0, ?_, hge, hcm, by simp, .inr ⟨c.w.heap.size, 0, e, _, rfl, heap_alloc_new c.w.drew _, ?_, ?_⟩⟩
      · rw [List.length_append, hol.length, hon, hxl, Nat.add_mul]
      · simp only [Array.size_append, List.size_toArray, size_zeroCells, hzs, hon, hnm, ← Nat.add_mul, Nat.zero_add]
        exact Nat.le_of_eq (by congr 1; omega)
      · simp only [Array.toList_append, List.drop_zero, List.toList_toArray]
        rw [← hlen, List.take_left']
        · exact RepL.keeps K _ _ (hol.append hnr)
        · rfl
  cases hA : σ.ev y1 with
  | own r v0 =>
    simp only [hA] at hs
    rw [hA] at e1
    simp only [Rep] at e1
    split at hs
    · rename_i ver' k' nn cs hrr
      obtain ⟨rfl, rfl, hbytes⟩ := hs
      have hrc : c.hp r = .row ver' k' nn cs := by rw [S.hp]; exact hrr
      have hg0 : c.hp r ≠ .gone := by rw [hrc]; simp
      have hO := S.good.obj r
      rw [hrc] at hO e1
      have hv1 := e1.2 rfl
      obtain ⟨base, n, cap, hloc, hk, hcl, hnc, hcm, hnn, hcase⟩ := hO
      rw [hloc] at hv1
      have hdiv : (cs.length + (σ.slc (σ.ev y2)).length) / k' = n + m := by
        rw [hcl, hxl, ← Nat.add_mul]; exact Nat.mul_div_cancel _ hk
      rw [hdiv] at hbytes
      have hhp : AI.hpw σ ver (o.dst.getD 0) (.app k' by_ y1 y2) = fun q => if q = r then AObj.row ver k' (nn || decide ((σ.slc (σ.ev y2)).length ≠ 0)) (cs ++ σ.slc (σ.ev y2)) else c.hp q := by
        simp only [AI.hpw, hA, hrr, S.hp]
      have hout : AI.out σ ver (o.dst.getD 0) (.app k' by_ y1 y2) = .own r ver := by simp only [AI.out, hA]
      by_cases hm : m = 0
      · -- nothing is appended
        subst hm
        have hx0 : σ.slc (σ.ev y2) = [] := List.eq_nil_of_length_eq_zero (by omega)
        have hr := run_app_zero (P := P) (ty := o.type) hu hi base bx n cap capx hnc c.w
        have hG := S.good.upd c.w r (.row ver k' nn cs) (c.loc r) ver rfl rfl rfl (Nat.le_refl _) (fun _ _ _ => rfl)
          (fun b hb => ⟨.inl ⟨hg0, hb⟩, (S.good.obj r).lt hg0 hb⟩) (.inr (.inl ⟨rfl, hv⟩))
          (fun K => by
            have h5 := (S.good.obj r).keeps K fun b _ => rfl
            rw [hrc] at h5
            exact h5)
        refine ⟨_, c.upd c.w r (.row ver k' nn cs) (c.loc r) ver, .inl (run hv1 hvx hr), hG.1, hG.2, ?_, ?_, used_upd, rfl, rfl⟩
        · rw [hhp, hx0]; simp [Cz.upd]
        · rw [hout]; simp only [Rep]
          exact ⟨.inr rfl, fun _ => by simp [Cz.upd, hloc]⟩
      · obtain ⟨ad, rfl, hcellx⟩ := hnews (by rw [ne_eq, hm0]; exact hm)
        have hnn' : (nn || decide ((σ.slc (σ.ev y2)).length ≠ 0)) = true := by
          have : (σ.slc (σ.ev y2)).length ≠ 0 := by rw [ne_eq, hm0]; exact hm
          simp [this]
        rw [hnn'] at hhp
        by_cases hroom : n + m ≤ cap
        · -- it fits
          rcases hcase with h0 | ⟨g, off, te, cells, rfl, hg, hcf, hrep⟩
          · omega
          · have hcap : cap ≠ 0 := by omega
            have hmul : (n + m) * k' ≤ cap * k' := Nat.mul_le_mul_right _ hroom
            rw [Nat.add_mul] at hmul
            have hr := run_app_room (P := P) (ty := o.type) hu hi (off := off) (n := n) (cap := cap) (cap2 := capx) hg ad news (by rw [hsz]; exact hnm) hcellx hone hroom (by rw [hsz, hnm]; omega)
            rw [hsz] at hr
            have hG := S.good.upd (c.w.setRow g (cells.toList.take (off + n * k') ++ news ++ cells.toList.drop (off + n * k' + news.length)).toArray) r (.row ver k' true (cs ++ σ.slc (σ.ev y2)))
              (.slice (some ⟨g, off, none⟩) (n + m) cap) ver rfl rfl rfl (by simp)
              (fun b _ hnb => setRow_other c.w g b _ fun e => hnb ⟨hg0, by rw [hloc, e]; simp [blockOf, hcap]⟩)
              (fun b hb => by
                simp only [blockOf, if_neg hcap, Option.some.injEq] at hb
                subst hb
                exact ⟨.inl ⟨hg0, by rw [hloc]; simp [blockOf, hcap]⟩, by simpa using block_lt_of_some hg⟩)
              (.inr (.inl ⟨rfl, hv⟩))
              (fun K => by
                refine ⟨_, n + m, cap, rfl, hk, by rw [List.length_append, hcl, hxl, Nat.add_mul], hroom, hcm, by simp, .inr ⟨g, off, te, _, rfl, setRow_heap c.w g cells _ te _ hg, ?_, ?_⟩⟩
                · simp only [List.size_toArray, List.length_append, List.length_take, List.length_drop, Array.length_toList]; omega
                · simp only [List.toList_toArray]
                  have h6 := list_put_mid cells.toList news off (off + n * k') ((n + m) * k') (by omega) (by rw [Nat.add_mul, hnm]; omega) (by rw [Nat.add_mul, Array.length_toList]; omega)
                  rw [h6]
                  have h7 : ((cells.toList.drop off).take ((n + m) * k')).take (off + n * k' - off) = (cells.toList.drop off).take (n * k') := by
                    rw [List.take_take, Nat.add_sub_cancel_left, Nat.add_mul]
                    congr 1; omega
                  have h8 : ((cells.toList.drop off).take ((n + m) * k')).drop (off + n * k' - off + news.length) = [] := by
                    apply List.drop_eq_nil_of_le
                    rw [List.length_take, Nat.add_mul, hnm]; omega
                  rw [h7, h8, List.append_nil]
                  exact RepL.keeps K _ _ (hrep.append hnr))
            refine ⟨_, _, .inl (run hv1 hvx hr), hG.1, hG.2, ?_, ?_, used_upd, rfl, rfl⟩
            · rw [hhp]; rfl
            · rw [hout]; simp only [Rep]
              exact ⟨.inr rfl, fun _ => by simp [Cz.upd]⟩
        · -- it grows
          have holds : ∃ olds, RepL c cs olds ∧ olds.length = n * k' ∧ (base = none → n = 0 ∧ cap = 0) ∧ ∀ b, base = some b → ∀ (j : Nat) v, olds[j]? = some v → c.w.cell? (b.add j) = some v := by
            rcases hcase with h0 | ⟨g, off, te, cells, rfl, hg, hcf, hrep⟩
            · have hn0 : n = 0 := by omega
              subst hn0
              have : cs = [] := List.eq_nil_of_length_eq_zero (by omega)
              subst this
              exact ⟨[], by simp [RepL], by simp, fun _ => ⟨rfl, h0⟩, by simp⟩
            · refine ⟨(cells.toList.drop off).take (n * k'), hrep, by rw [← hrep.length, hcl], by simp, ?_⟩
              intro b hb j v hj
              simp only [Option.some.injEq] at hb
              subst hb
              rw [addr_add, cell_of_row c.w g _ cells te (0, 0) hg]
              rw [List.getElem?_take] at hj
              split at hj
              · simpa using hj
              · cases hj
          obtain ⟨olds, hor, hol, hbn, hoc⟩ := holds
          have hlt : cap < n + m := by omega
          have hG := grown r olds cs n cap true _ rfl hor hol hlt hbytes
          cases base with
          | none =>
            obtain ⟨rfl, rfl⟩ := hbn rfl
            have : olds = [] := List.eq_nil_of_length_eq_zero (by omega)
            subst this
            have hr := run_append_nil (P := P) c.w t o.type e i z hu hi hz ad m capx news (by rw [hsz]; exact hnm) hcellx (by omega) (by have := hmem _ hbytes; simp only [maxLen] at this; omega) (by rw [hby]; simp at hbytes; omega)
            simp only [Nat.zero_add, Array.empty_append] at hG
            refine ⟨_, _, .inl (run hv1 hvx hr), hG.1, hG.2, ?_, ?_, used_upd, rfl, rfl⟩
            · rw [hhp]; rfl
            · rw [hout]; simp only [Rep]
              exact ⟨.inr rfl, fun _ => by simp [Cz.upd]⟩
          | some b =>
            have hr := run_append_grow (P := P) c.w t o.type e i z hu hi hz b n cap olds (by rw [hsz]; exact hol) (hoc b rfl) ad m capx news (by rw [hsz]; exact hnm) hcellx hlt (by have := hmem _ hbytes; simp only [maxLen] at this; omega)
              (by rw [hby]; exact growslice_fits hlt hbytes)
            refine ⟨_, _, .inl (run hv1 hvx hr), hG.1, hG.2, ?_, ?_, used_upd, rfl, rfl⟩
            · rw [hhp]; rfl
            · rw [hout]; simp only [Rep]
              exact ⟨.inr rfl, fun _ => by simp [Cz.upd]⟩
    · exact hs.elim
  | val u =>
    simp only [hA] at hs
    rw [hA] at e1
    have e1' := rep_val e1
    split at hs
    · rename_i heq
      simp only [AVal.val.injEq] at heq
      subst heq
      obtain ⟨hd, hbytes⟩ := hs
      by_cases hm : m = 0
      · subst hm
        have hx0 : (σ.slc (σ.ev y2)).length = 0 := by omega
        have hr := run_app_zero (P := P) (ty := o.type) hu hi none bx 0 0 capx (Nat.le_refl _) c.w
        have : AI.hpw σ ver (o.dst.getD 0) (.app k by_ y1 y2) = σ.hp := by simp only [AI.hpw, hA, hx0, if_true]
        rw [this]
        refine Ex1.still S (run e1' hvx hr) ?_
        simp only [AI.out, hA, hx0, if_true]; exact rep_of_val
      · have hx0 : ¬ (σ.slc (σ.ev y2)).length = 0 := by rw [hm0]; exact hm
        obtain ⟨ad, rfl, hcellx⟩ := hnews hx0
        rw [div_len hxl hk0] at hbytes
        have hr := run_append_nil (P := P) c.w t o.type e i z hu hi hz ad m capx news (by rw [hsz]; exact hnm) hcellx (by omega) (by have := hmem _ hbytes; simp only [maxLen] at this; omega) (by rw [hby]; omega)
        have hG := grown (o.dst.getD 0) [] [] 0 0 true _ rfl (by simp [RepL]) (by simp) (by omega) (by simpa using hbytes)
        simp only [Nat.zero_add, Array.empty_append, List.nil_append] at hG
        refine ⟨_, _, .inl (run e1' hvx hr), hG.1, hG.2, ?_, ?_, used_upd, rfl, rfl⟩
        · simp only [AI.hpw, hA, hx0, if_false, Cz.upd, S.hp]
        · simp only [AI.out, hA, hx0, if_false, Rep]
          exact ⟨.inr rfl, fun _ => by simp [Cz.upd]⟩
    · rename_i heq; simp at heq
    · exact hs.elim
  | _ => simp [hA] at hs

end
end Go.Ab
