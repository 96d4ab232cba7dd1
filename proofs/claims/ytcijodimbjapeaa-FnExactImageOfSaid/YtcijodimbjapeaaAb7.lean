/- Each instruction does what it says: those that make memory. Conditions: none. -/
import Derived.Test.YtcijodimbjapeaaAb6
import Derived.Great.FillDense
import Derived.Laws.MakeOwn
set_option linter.all false
namespace Go.Ab
section
variable {P : Program} {w0 : World} {outs : Nat → Prop} {N : Nat} {σ : St} {o : Oper} {a : Act} {c : Cz} {ver : Nat}

theorem one_cell (G : Good w0 outs c) {A : AVal} {v : Value} (h : Rep c A v) (h1 : One c.hp A) : v.oneCell' = true := by
  cases A with
  | val x => rw [rep_val h]; exact h1
  | ro nm k cs => simp only [Rep] at h; obtain ⟨base, len, cap, rfl, _⟩ := h; rfl
  | rp cs off => simp only [Rep] at h; obtain ⟨b, p, rfl, _⟩ := h; rfl
  | clo f caps => simp only [Rep] at h; obtain ⟨vs, rfl, _⟩ := h; rfl
  | own r v' =>
    obtain ⟨k, nn, cs, hr⟩ := h1
    simp only [Rep] at h
    have hO := G.obj r
    rw [hr] at hO h
    obtain ⟨base, n, cap, hl, _⟩ := hO
    rw [h.2 rfl, hl]; rfl
  | ptr r v' off =>
    simp only [Rep] at h
    obtain ⟨b, p, _, hv⟩ := h.2 h1
    rw [hv]; rfl
  | mp r v' =>
    obtain ⟨ks, vs, hr⟩ := h1
    simp only [Rep] at h
    have hO := G.obj r
    rw [hr] at hO h
    obtain ⟨b, clock, ents, hl, _⟩ := hO
    rw [h.2 rfl, hl]; rfl
  | _ => exact h1.elim

theorem cells_one {v : Value} (h : v.oneCell' = true) : v.cells = #[v] := by cases v <;> simp_all [Value.oneCell', Value.cells]

theorem repL_vals : ∀ (vs : List Value), RepL c (vs.map .val) vs
  | [] => by simp [RepL]
  | v :: vs => by simp only [List.map_cons, RepL]; exact ⟨rep_of_val, repL_vals vs⟩

theorem RepL.one (G : Good w0 outs c) : ∀ {cs : List AVal} {vs : List Value}, RepL c cs vs → (∀ A ∈ cs, One c.hp A) → ∀ u ∈ vs, u.oneCell' = true
  | [], [], _, _ => by simp
  | [], _ :: _, h, _ => by simp [RepL] at h
  | _ :: _, [], h, _ => by simp [RepL] at h
  | A :: cs, v :: vs, h, h1 => by
    simp only [RepL] at h
    intro u hu
    rcases List.mem_cons.1 hu with rfl | hu
    · exact one_cell G h.1 (h1 A (by simp))
    · exact RepL.one G h.2 (fun B hB => h1 B (by simp [hB])) u hu

theorem cells_rep (G : Good w0 outs c) {A : AVal} {v : Value} (h : Rep c A v) (h1 : ∀ B ∈ A.cells, One c.hp B) : RepL c A.cells v.cells.toList ∧ ∀ u ∈ v.cells.toList, u.oneCell' = true := by
  have plain : A.cells = [A] → RepL c A.cells v.cells.toList ∧ ∀ u ∈ v.cells.toList, u.oneCell' = true := by
    intro e
    have h1' := one_cell G h (h1 A (by rw [e]; simp))
    rw [cells_one h1', e]
    exact ⟨by simp only [RepL]; exact ⟨h, trivial⟩, by simpa using h1'⟩
  cases A with
  | st cs =>
    simp only [Rep] at h
    obtain ⟨vs, rfl, hl⟩ := h
    exact ⟨hl, hl.one G h1⟩
  | val x =>
    cases x with
    | agg vs =>
      have := rep_val h
      subst this
      have hl : RepL c (vs.toList.map .val) vs.toList := repL_vals vs.toList
      exact ⟨hl, hl.one G h1⟩
    | _ => exact plain rfl
  | _ => exact plain rfl

theorem keeps_upd_rep {c c' : Cz} (K : Keeps c c') {cs : List AVal} {vs : List Value} (h : RepL c cs vs) : RepL c' cs vs := RepL.keeps K cs vs h

/-- A new block: an object at a number that was free. -/
theorem Good.new (G : Good w0 outs c) {d : Nat} (hd : c.hp d = .gone) (hver : ¬ c.used ver) (o : Obj) (ao : AObj) (v : Value) (h1 : ao.ver = some ver) (w' : World)
    (hos : w'.os = c.w.os) (htape : w'.tape = c.w.tape) (hout : w'.output = c.w.output) (hheap : w'.heap = c.w.heap.push o)
    (hb : ∀ b, blockOf v = some b → b = c.w.heap.size) (hobj : Keeps c (c.upd w' d ao v ver) → ObjRep (c.upd w' d ao v ver) v ao) :
    Good w0 outs (c.upd w' d ao v ver) ∧ Keeps c (c.upd w' d ao v ver) := by
  refine G.upd w' d ao v ver hos htape hout (by rw [hheap]; simp) ?_ ?_ (.inr (.inl ⟨h1, hver⟩)) hobj
  · intro b hlt _
    rw [hheap, Array.getElem?_push, if_neg (by omega)]
  · intro b hb'
    have := hb b hb'
    refine ⟨.inr (by omega), ?_⟩
    rw [hheap]; simp; omega

theorem hp_upd {w' : World} {d : Nat} {ao : AObj} {v : Value} (hc : c.hp = σ.hp) : (c.upd w' d ao v ver).hp = fun n => if n = d then ao else σ.hp n := by
  simp only [Cz.upd, hc]

theorem used_upd {w' : World} {d : Nat} {ao : AObj} {v : Value} : ∀ u, (c.upd w' d ao v ver).used u → c.used u ∨ u = ver := fun _ h => h

theorem ex_box {t : TypeId} {x1 : Operand} {y1 : AOpd} (S : Sim w0 outs N σ a c) (hv : ¬ c.used ver) (ho : o.op = .box t x1) (h1 : cOpd x1 = some y1)
    (hp : AI.pre σ (o.dst.getD 0) (.box y1)) : Ex1 P w0 outs o a c (AI.hpw σ ver (o.dst.getD 0) (.box y1)) (AI.out σ ver (o.dst.getD 0) (.box y1)) ver := by
  have e1 := S.ev h1
  obtain ⟨hd, hone⟩ := hp
  rw [← S.hp] at hd hone
  obtain ⟨hl, h1c⟩ := cells_rep S.good e1 hone
  have hG := S.good.new hd hv (.cells (a.eval x1).cells t) (.box ver (σ.ev y1).cells) (.pointer (some ⟨c.w.heap.size, 0, none⟩)) rfl (c.w.alloc (.cells (a.eval x1).cells t)) rfl rfl rfl rfl
    (by intro b h; simpa [blockOf] using h.symm) (fun K => ⟨c.w.heap.size, t, (a.eval x1).cells, rfl, heap_alloc_new c.w _, RepL.keeps K _ _ hl⟩)
  refine ⟨.pointer (some ⟨c.w.heap.size, 0, none⟩), _, .inl ?_, hG.1, hG.2, hp_upd S.hp, ?_, used_upd, rfl, rfl⟩
  · simp [execOp, ho, Instr.box, newVar, newRow, Cz.upd]
  · simp only [AI.out, Rep]
    exact ⟨.inr rfl, fun _ => ⟨c.w.heap.size, 0, by simp [Cz.upd, baseOf], rfl⟩⟩

theorem ex_new {t : TypeId} {i : TypeInfo} {z : Value} (S : Sim w0 outs N σ a c) (hv : ¬ c.used ver) (ho : o.op = .alloc t) (hi : P.info? t = some i) (hz : i.zero = some z)
    (hp : AI.pre σ (o.dst.getD 0) (.new z.cells.toList)) : Ex1 P w0 outs o a c (AI.hpw σ ver (o.dst.getD 0) (.new z.cells.toList)) (AI.out σ ver (o.dst.getD 0) (.new z.cells.toList)) ver := by
  have hd : c.hp (o.dst.getD 0) = .gone := by rw [S.hp]; exact hp
  have hG := S.good.new hd hv (.cells z.cells t) (.box ver (z.cells.toList.map .val)) (.pointer (some ⟨c.w.heap.size, 0, none⟩)) rfl (c.w.alloc (.cells z.cells t)) rfl rfl rfl rfl
    (by intro b h; simpa [blockOf] using h.symm) (fun K => ⟨c.w.heap.size, t, z.cells, rfl, heap_alloc_new c.w _, repL_vals _⟩)
  refine ⟨.pointer (some ⟨c.w.heap.size, 0, none⟩), _, .inl ?_, hG.1, hG.2, hp_upd S.hp, ?_, used_upd, rfl, rfl⟩
  · simp [execOp, ho, Instr.alloc, zeroValue, typeInfo, hi, hz, newVar, newRow, Cz.upd]
  · simp only [AI.out, Rep]
    exact ⟨.inr rfl, fun _ => ⟨c.w.heap.size, 0, by simp [Cz.upd, baseOf], rfl⟩⟩

theorem ex_mkm {t : TypeId} (S : Sim w0 outs N σ a c) (hv : ¬ c.used ver) (ho : o.op = .makeMap t none)
    (hp : AI.pre σ (o.dst.getD 0) .mkm) : Ex1 P w0 outs o a c (AI.hpw σ ver (o.dst.getD 0) .mkm) (AI.out σ ver (o.dst.getD 0) .mkm) ver := by
  have hd : c.hp (o.dst.getD 0) = .gone := by rw [S.hp]; exact hp
  have hG := S.good.new hd hv (.map #[] 0) (.map ver [] []) (.map (some c.w.heap.size)) rfl (c.w.alloc (.map #[] 0)) rfl rfl rfl rfl
    (by intro b h; simpa [blockOf] using h.symm) (fun K => ⟨c.w.heap.size, 0, #[], rfl, heap_alloc_new c.w _, rfl, by simp [RepL]⟩)
  refine ⟨.map (some c.w.heap.size), _, .inl ?_, hG.1, hG.2, hp_upd S.hp, ?_, used_upd, rfl, rfl⟩
  · simp [execOp, ho, Instr.makeMap, Cz.upd]
  · simp only [AI.out, Rep]
    exact ⟨.inr rfl, fun _ => by simp [Cz.upd]⟩

theorem madeCells_list (z : List Value) (n k : Nat) (hk : 0 < k) (hz : z.length = k) : (madeCells z.toArray (n * k)).toList = (List.replicate n z).flatten := by
  apply List.ext_getElem?
  intro i
  have hlen : (madeCells z.toArray (n * k)).toList.length = n * k := by simp [madeCells]
  have hlen2 : (List.replicate n z).flatten.length = n * k := by simp [hz]
  by_cases hi : i < n * k
  · have h1 : i % k < z.length := by rw [hz]; exact Nat.mod_lt _ hk
    have hL : (madeCells z.toArray (n * k)).toList[i]? = some (z[i % k]'h1) := by
      simp only [madeCells, Array.toList_map, Array.toList_range, List.getElem?_map, List.getElem?_range hi, Option.map_some, List.size_toArray, hz]
      rw [getElem!_pos z.toArray (i % k) (by simpa using h1)]
      simp
    rw [hL]
    clear hL hlen hlen2
    induction n generalizing i with
    | zero => simp at hi
    | succ n ih =>
      simp only [List.replicate_succ, List.flatten_cons]
      by_cases hik : i < k
      · rw [List.getElem?_append_left (by omega)]
        have : i % k = i := Nat.mod_eq_of_lt hik
        simp [this, List.getElem?_eq_getElem (show i < z.length by omega)]
      · rw [List.getElem?_append_right (by omega), hz]
        have h2 : (i - k) % k = i % k := by
          rw [← Nat.mod_eq_sub_mod (by omega)]
        have h3 : i - k < n * k := by rw [Nat.succ_mul] at hi; omega
        have := ih (i := i - k) h3 (by rw [hz]; exact Nat.mod_lt _ hk)
        rw [← this]
        simp [h2]
  · rw [List.getElem?_eq_none (by omega), List.getElem?_eq_none (by omega)]

theorem ex_mks {t : TypeId} {k by_ : Nat} {z : Value} {x1 x2 : Operand} {y1 y2 : AOpd} (S : Sim w0 outs N σ a c) (hv : ¬ c.used ver) (ho : o.op = .makeSlice t x1 x2) (ht : cElem P t = some (k, by_, z)) (h1 : cOpd x1 = some y1) (h2 : cOpd x2 = some y2)
    (hp : AI.pre σ (o.dst.getD 0) (.mks k by_ z.cells.toList y1 y2)) : Ex1 P w0 outs o a c (AI.hpw σ ver (o.dst.getD 0) (.mks k by_ z.cells.toList y1 y2)) (AI.out σ ver (o.dst.getD 0) (.mks k by_ z.cells.toList y1 y2)) ver := by
  obtain ⟨e, i, hu, hi, hz, hsz, hby, hk0, hzs, hb0⟩ := cElem_spec ht
  have e1 := S.ev h1; have e2 := S.ev h2
  simp only [AI.pre] at hp
  split at hp
  · rename_i n m hn hm
    obtain ⟨hd, h0, hnm, hbytes, h63⟩ := hp
    rw [hn] at e1; rw [hm] at e2
    have e1' := rep_val e1; have e2' := rep_val e2
    have hd' : c.hp (o.dst.getD 0) = .gone := by rw [S.hp]; exact hd
    have hb2 : (i.bytes : Int) * m ≤ 281474976710656 := by
      rw [hby, Int.mul_comm]; omega
    have hr := run_make (P := P) c.w t e i z hu hi hz .i64 .i64 n m h0 hnm hb2 h63
    have hcells : (madeCells z.cells (m.toNat * i.size)).toList = (List.replicate m.toNat z.cells.toList).flatten := by
      rw [hsz]; exact madeCells_list z.cells.toList m.toNat k hk0 (by simpa using hzs)
    have hflat : ∀ q : Nat, q ≤ m.toNat → ((List.replicate m.toNat z.cells.toList).flatten).take (q * k) = (List.replicate q z.cells.toList).flatten := by
      intro q hq
      obtain ⟨r, hr⟩ := Nat.exists_eq_add_of_le hq
      rw [hr, ← List.replicate_append_replicate, List.flatten_append, List.take_left' (by simp [hzs])]
    have hG := S.good.new hd' hv (.cells (madeCells z.cells (m.toNat * i.size)) e) (.row ver k true (List.replicate n.toNat (z.cells.toList.map .val)).flatten)
      (.slice (some ⟨c.w.heap.size, 0, none⟩) n.toNat m.toNat) rfl (c.w.alloc (.cells (madeCells z.cells (m.toNat * i.size)) e)) rfl rfl rfl rfl
      (by intro b h; simp only [blockOf] at h; split at h <;> simp at h; exact h.symm)
      (fun K => by
        refine ⟨_, _, _, rfl, hk0, ?_, by omega, by simp only [maxLen]; omega, by simp, ?_⟩
        · simp [hzs]
        · right
          refine ⟨c.w.heap.size, 0, e, _, rfl, heap_alloc_new c.w _, ?_, ?_⟩
          · simp [madeCells, hsz]
          · rw [hcells, List.drop_zero, hflat n.toNat (by omega)]
            have : (List.replicate n.toNat (z.cells.toList.map AVal.val)).flatten = ((List.replicate n.toNat z.cells.toList).flatten).map AVal.val := by
              simp [List.map_flatten]
            rw [this]; exact repL_vals _)
    refine ⟨.slice (some ⟨c.w.heap.size, 0, none⟩) n.toNat m.toNat, _, .inl ?_, hG.1, hG.2, ?_, ?_, used_upd, rfl, rfl⟩
    · simp only [execOp, ho, e1', e2', Sem.run_bind, hr, Result.andThen_ok]; rfl
    · simp only [AI.hpw, hn]; exact hp_upd S.hp
    · simp only [AI.out, Rep]
      exact ⟨.inr rfl, fun _ => by simp [Cz.upd]⟩
  · exact hp.elim

theorem owned_mem : ∀ {cs : List AVal} {r : Nat}, r ∈ owned cs ↔ ∃ v, AVal.own r v ∈ cs
  | [], r => by simp [owned]
  | A :: cs, r => by
    have ih := owned_mem (cs := cs) (r := r)
    cases A <;> simp [owned, ih, List.mem_cons, eq_comm]
    constructor
    · rintro (h | ⟨v, h⟩)
      · subst h; exact ⟨_, .inl ⟨rfl, rfl⟩⟩
      · exact ⟨v, .inr h⟩
    · rintro ⟨v, ⟨h, _⟩ | h⟩
      · exact .inl h
      · exact .inr ⟨v, h⟩

theorem frz_other {hp hp' : Nat → AObj} {A : AVal} (h : ∀ r v, A = .own r v → hp' r = hp r) : frz hp' A = frz hp A := by
  cases A with
  | own r v => simp only [frz, h r v rfl]
  | _ => rfl

/-- The rows among some cells are frozen. -/
theorem frzL : ∀ (cs : List AVal) (vs : List Value) (c : Cz), Good w0 outs c → RepL c cs vs → (∀ r v, AVal.own r v ∈ cs → ∃ k nn l, c.hp r = .row v k nn l) → (owned cs).Nodup →
    ∃ c1, Good w0 outs c1 ∧ Keeps c c1 ∧ c1.w = c.w ∧ c1.used = c.used ∧ c1.ext = c.ext ∧ c1.base = c.base ∧ c1.loc = c.loc ∧ (c1.hp = fun n => if n ∈ owned cs then .gone else c.hp n) ∧ RepL c1 (cs.map (frz c.hp)) vs
  | [], vs, c, G, h, _, _ => ⟨c, G, Keeps.refl c, rfl, rfl, rfl, rfl, rfl, by simp [owned], h⟩
  | _ :: _, [], _, _, h, _, _ => by simp [RepL] at h
  | A :: cs, v :: vs, c, G, h, hown, hnd => by
    simp only [RepL] at h
    by_cases hA : ∃ r ver, A = .own r ver
    · obtain ⟨r, ver, rfl⟩ := hA
      obtain ⟨k, nn, l, hr⟩ := hown r ver (by simp)
      obtain ⟨nm, G1, K1, hrep⟩ := G.frz hr
      simp only [owned, List.nodup_cons] at hnd
      have hne : ∀ r' v', AVal.own r' v' ∈ cs → r' ≠ r := fun r' v' hm e => hnd.1 (owned_mem.2 ⟨v', e ▸ hm⟩)
      have hhp : ∀ r', r' ≠ r → (c.frz r nm).hp r' = c.hp r' := fun r' e => by simp only [Cz.frz, if_neg e]
      obtain ⟨c2, G2, K2, hw, hu, hx, hb, hloc, hh, hl⟩ := frzL cs vs (c.frz r nm) G1 (RepL.keeps K1 _ _ h.2)
        (fun r' v' hm => by rw [hhp r' (hne r' v' hm)]; exact hown r' v' (by simp [hm])) hnd.2
      refine ⟨c2, G2, K1.trans K2, hw, hu, hx, hb, hloc, ?_, ?_⟩
      · rw [hh]
        funext n
        simp only [owned, List.mem_cons]
        by_cases e : n = r
        · subst e; simp [Cz.frz]
        · simp [e, hhp n e]
      · simp only [List.map_cons, RepL]
        constructor
        · have hv : v = c.loc r := by
            have := h.1
            simp only [Rep] at this
            exact this.2 (by rw [hr]; rfl)
          simp only [frz, hr]
          rw [hv]
          exact Rep.keeps K2 _ _ hrep
        · have : cs.map (frz c.hp) = cs.map (frz (c.frz r nm).hp) := by
            apply List.map_congr_left
            intro B hB
            exact (frz_other fun r' v' e => hhp r' (hne r' v' (e ▸ hB))).symm
          rw [this]; exact hl
    · have hA' : owned (A :: cs) = owned cs := by
        cases A with
        | own r ver => exact absurd ⟨r, ver, rfl⟩ hA
        | _ => rfl
      have hf : frz c.hp A = A := by
        cases A with
        | own r ver => exact absurd ⟨r, ver, rfl⟩ hA
        | _ => rfl
      rw [hA'] at hnd
      obtain ⟨c2, G2, K2, hw, hu, hx, hb, hloc, hh, hl⟩ := frzL cs vs c G h.2 (fun r' v' hm => hown r' v' (by simp [hm])) hnd
      refine ⟨c2, G2, K2, hw, hu, hx, hb, hloc, by rw [hA']; exact hh, ?_⟩
      simp only [List.map_cons, RepL, hf]
      exact ⟨Rep.keeps K2 _ _ h.1, hl⟩

theorem own_of_one {hp : Nat → AObj} {cs : List AVal} (h : ∀ A ∈ cs, One hp A) : ∀ r v, AVal.own r v ∈ cs → ∃ k nn l, hp r = .row v k nn l := fun r v hm => h _ hm

theorem cParts_spec : ∀ {ps : List (Nat × Operand)} {i : Nat} {ys : List AOpd}, cParts i ps = some ys → ∃ xs, cOpds xs = some ys ∧ ps = (xs.zipIdx i).map fun x => (x.2, x.1)
  | [], i, ys, h => by simp [cParts] at h; subst h; exact ⟨[], by simp [cOpds], by simp⟩
  | (j, x) :: ps, i, ys, h => by
    simp only [cParts] at h
    split at h
    · rename_i e
      subst e
      split at h
      · rename_i y ys' hy hys
        simp only [Option.some.injEq] at h; subst h
        obtain ⟨xs, hxs, hps⟩ := cParts_spec hys
        refine ⟨x :: xs, ?_, ?_⟩
        · simp only [cOpds, List.mapM_cons] at hxs ⊢
          simp [hy, hxs]
        · simp [hps]
      · cases h
    · cases h

theorem RepL.flat (G : Good w0 outs c) {k : Nat} : ∀ {ys : List AOpd} {vs : List Value}, RepL c (ys.map σ.ev) vs → (∀ y ∈ ys, (σ.ev y).cells.length = k ∧ ∀ A ∈ (σ.ev y).cells, One c.hp A) →
    RepL c (ys.flatMap fun y => (σ.ev y).cells) (vs.flatMap fun v => v.cells.toList) ∧ (∀ v ∈ vs, v.cells.size = k)
  | [], [], _, _ => by simp [RepL]
  | [], _ :: _, h, _ => by simp [RepL] at h
  | _ :: _, [], h, _ => by simp [RepL] at h
  | y :: ys, v :: vs, h, h1 => by
    simp only [List.map_cons, RepL] at h
    obtain ⟨h3, h4⟩ := h1 y (by simp)
    obtain ⟨h5, _⟩ := cells_rep G h.1 h4
    obtain ⟨h6, h7⟩ := RepL.flat G h.2 fun z hz => h1 z (by simp [hz])
    refine ⟨?_, ?_⟩
    · simp only [List.flatMap_cons]; exact h5.append h6
    · intro u hu
      rcases List.mem_cons.1 hu with rfl | hu
      · have := h5.length; rw [h3] at this; simpa using this.symm
      · exact h7 u hu

theorem run_bsl {t e : TypeId} {i : TypeInfo} {z : Value} {vs : List Value} (hu : P.underlying t = some (.slice e)) (hi : P.info? e = some i) (hz : i.zero = some z) (hk : 0 < i.size) (hzs : z.cells.size = i.size)
    (h1 : ∀ v ∈ vs, v.cells.size = i.size) (hsmall : vs.length * i.size ≤ 2 ^ 24) (w : World) :
    (Instr.buildSlice t vs.length ((vs.zipIdx 0).map fun x => (x.2, x.1)).toArray).run P w =
      .ok (.slice (some ⟨w.heap.size, 0, none⟩) vs.length vs.length) (w.alloc (.cells (vs.flatMap fun v => v.cells.toList).toArray e)) := by
  have h2 : ¬ vs.length * i.size > 2 ^ 24 := by omega
  by_cases h0 : vs.length * i.size = 0
  · have hvs : vs = [] := by
      rcases Nat.mul_eq_zero.1 h0 with h | h
      · exact List.eq_nil_of_length_eq_zero h
      · omega
    subst hvs
    simp [Instr.buildSlice, run_underlying hu, sizeOf, typeInfo, hi, Instr.fill, newRow, Array.range_zero']
  · have hfill := Great.fill_whole hk vs ((Array.range (vs.length * i.size)).map (z.cells[· % z.cells.size]!)) h1 (by simp)
    simp [Instr.buildSlice, run_underlying hu, sizeOf, typeInfo, zeroValue, hi, hz, h0, hfill, newRow] at hsmall ⊢
    omega

theorem ex_bsl {t : TypeId} {k by_ len : Nat} {fz : Bool} {z : Value} {ps : Array (Nat × Operand)} {ys : List AOpd} (S : Sim w0 outs N σ a c) (hv : ¬ c.used ver) (ho : o.op = .buildSlice t len ps) (ht : cElem P t = some (k, by_, z))
    (h1 : cParts 0 ps.toList = some ys) (hlen : ys.length = len) (hsmall : len * k ≤ 2 ^ 24)
    (hp : AI.pre σ (o.dst.getD 0) (.bsl k fz ys)) : Ex1 P w0 outs o a c (AI.hpw σ ver (o.dst.getD 0) (.bsl k fz ys)) (AI.out σ ver (o.dst.getD 0) (.bsl k fz ys)) ver := by
  obtain ⟨e, i, hu, hi, hz, hsz, hby, hk0, hzs, hb0⟩ := cElem_spec ht
  obtain ⟨xs, hxs, hps⟩ := cParts_spec h1
  have e1 := S.evs hxs
  obtain ⟨_, hd, hone, hnd⟩ := hp
  have hd' : c.hp (o.dst.getD 0) = .gone := by rw [S.hp]; exact hd
  have hone' : ∀ y ∈ ys, (σ.ev y).cells.length = k ∧ ∀ A ∈ (σ.ev y).cells, One c.hp A := by rw [S.hp]; exact hone
  obtain ⟨hl, hsize⟩ := e1.flat S.good hone'
  have hlx : xs.length = ys.length := by
    have := e1.length; simpa using this.symm
  have hown : ∀ r v, AVal.own r v ∈ (ys.flatMap fun y => (σ.ev y).cells) → ∃ k nn l, c.hp r = .row v k nn l := by
    intro r v hm
    obtain ⟨y, hy, hA⟩ := List.mem_flatMap.1 hm
    exact (hone' y hy).2 _ hA
  obtain ⟨c1, G1, K1, hw1, hu1, hx1, hb1, hloc1, hh1, hl1⟩ := frzL _ _ c S.good hl hown hnd
  have hd1 : c1.hp (o.dst.getD 0) = .gone := by
    rw [hh1]; simp only []; split <;> first | rfl | exact hd'
  have hv1 : ¬ c1.used ver := by rw [hu1]; exact hv
  have hlen2 : (ys.flatMap fun y => (σ.ev y).cells).length = len * k := by
    have h5 : ∀ zs : List AOpd, (∀ z ∈ zs, (σ.ev z).cells.length = k) → (zs.flatMap fun y => (σ.ev y).cells).length = zs.length * k := by
      intro zs
      induction zs with
      | nil => simp
      | cons z zs ih =>
        intro hz
        simp only [List.flatMap_cons, List.length_append, List.length_cons, ih fun u hu => hz u (by simp [hu]), hz z (by simp), Nat.succ_mul]
        omega
    rw [h5 ys fun z hz => (hone' z hz).1, hlen]
  have hG := G1.new hd1 hv1 (.cells ((xs.map a.eval).flatMap fun v => v.cells.toList).toArray e) (.row ver k true ((ys.flatMap fun y => (σ.ev y).cells).map (frz c.hp)))
    (.slice (some ⟨c.w.heap.size, 0, none⟩) len len) rfl (c.w.alloc (.cells ((xs.map a.eval).flatMap fun v => v.cells.toList).toArray e)) (by rw [hw1]; rfl) (by rw [hw1]; rfl) (by rw [hw1]; rfl) (by rw [hw1]; rfl)
    (by intro b h; simp only [blockOf] at h; split at h <;> simp at h; rw [hw1]; exact h.symm)
    (fun K => by
      refine ⟨_, _, _, rfl, hk0, by simpa using hlen2, Nat.le_refl _, ?_, by simp, ?_⟩
      · simp only [maxLen]
        have : len ≤ len * k := Nat.le_mul_of_pos_right _ hk0
        omega
      · right
        have hL := hl1.length
        refine ⟨c.w.heap.size, 0, e, _, rfl, heap_alloc_new c.w _, ?_, ?_⟩
        · rw [List.length_map, hlen2] at hL
          simp only [List.size_toArray, Nat.zero_add]; omega
        · rw [List.length_map, hlen2] at hL
          rw [List.drop_zero, List.take_of_length_le (by simp only [List.toList_toArray]; omega)]
          simp only [List.toList_toArray]
          exact RepL.keeps K _ _ hl1)
  refine ⟨.slice (some ⟨c.w.heap.size, 0, none⟩) len len, _, .inl ?_, hG.1, K1.trans hG.2, ?_, ?_, ?_, hx1, hb1⟩
  · have hlv : (xs.map a.eval).length = len := by simp [hlx, hlen]
    have hr := run_bsl (P := P) (vs := xs.map a.eval) hu hi hz (by omega) (by omega) (by rw [hsz]; exact hsize) (by rw [hlv, hsz]; exact hsmall) c.w
    have hparts : (ps.map fun (i, x) => (i, a.eval x)) = (((xs.map a.eval).zipIdx 0).map fun x => (x.2, x.1)).toArray := by
      apply Array.ext'
      rw [Array.toList_map, hps]
      simp [List.zipIdx_map, List.map_map, Function.comp_def]
    simp only [execOp, ho, hparts]
    rw [hlv] at hr
    simp [hr, Cz.upd]
  · simp only [Cz.upd, AI.hpw, hh1, S.hp]
  · simp only [AI.out, Rep]
    exact ⟨.inr rfl, fun _ => by simp [Cz.upd]⟩
  · intro u h
    rcases h with h | h
    · rw [hu1] at h; exact .inl h
    · exact .inr h

end
end Go.Ab
