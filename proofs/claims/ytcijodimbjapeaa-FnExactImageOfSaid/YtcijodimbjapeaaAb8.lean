/- Each instruction does what it says: those that write memory. Conditions: none. -/
import Derived.Test.YtcijodimbjapeaaAb7
set_option linter.all false
namespace Go.Ab
section
variable {P : Program} {w0 : World} {outs : Nat → Prop} {N : Nat} {σ : St} {o : Oper} {a : Act} {c : Cz} {ver : Nat}

theorem RepAt.vals {c : Cz} {b : Nat} : ∀ {cs : List AVal} {off : Nat}, RepAt c b off cs → ∃ vs, RepL c cs vs ∧ vs.length = cs.length ∧ ∀ (j : Nat) v, vs[j]? = some v → c.w.cell? ⟨b, off + j, none⟩ = some v
  | [], _, _ => ⟨[], by simp [RepL], rfl, by simp⟩
  | A :: cs, off, h => by
    simp only [RepAt] at h
    obtain ⟨⟨v, hv, hr⟩, ht⟩ := h
    obtain ⟨vs, h1, h2, h3⟩ := RepAt.vals ht
    refine ⟨v :: vs, by simp only [RepL]; exact ⟨hr, h1⟩, by simp [h2], ?_⟩
    intro j u hj
    cases j with
    | zero => simp at hj; subst hj; simpa using hv
    | succ j =>
      have := h3 j u (by simpa using hj)
      simpa [Nat.add_assoc, Nat.add_comm 1 j] using this

/-- A write into an object's own block, at the same place and of the same version. -/
theorem Good.write (G : Good w0 outs c) {r v g : Nat} {ao : AObj} {cells : Array Value} (hr : (c.hp r).ver = some v) (hao : ao.ver = some v) (hblk : blockOf (c.loc r) = some g) (cells' : Array Value)
    (hobj : Keeps c (c.upd (c.w.setRow g cells') r ao (c.loc r) v) → ObjRep (c.upd (c.w.setRow g cells') r ao (c.loc r) v) (c.loc r) ao) :
    Good w0 outs (c.upd (c.w.setRow g cells') r ao (c.loc r) v) ∧ Keeps c (c.upd (c.w.setRow g cells') r ao (c.loc r) v) := by
  have hg : c.hp r ≠ .gone := ver_ne_gone hr
  refine G.upd _ r ao _ v rfl rfl rfl (by simp) ?_ ?_ (.inr (.inr ⟨hao.trans hr.symm, rfl, (G.verU _ _ hr).1⟩)) hobj
  · intro b _ hn
    exact setRow_other c.w g b _ fun e => hn ⟨hg, by rw [e]; exact hblk⟩
  · intro b hb
    exact ⟨.inl ⟨hg, hb⟩, by simpa using (G.obj r).lt hg hb⟩

theorem list_put_mid (l new : List Value) (p q : Nat) (n : Nat) (h1 : p ≤ q) (h2 : q + new.length ≤ p + n) (h3 : p + n ≤ l.length) :
    ((l.take q ++ new ++ l.drop (q + new.length)).drop p).take n = ((l.drop p).take n).take (q - p) ++ new ++ ((l.drop p).take n).drop (q - p + new.length) := by
  apply List.ext_getElem?
  intro i
  simp only [List.getElem?_take, List.getElem?_drop, List.getElem?_append, List.length_take, List.length_append, List.length_drop]
  have e1 : min q l.length = q := by omega
  have e2 : min n (l.length - p) = n := by omega
  have e3 : min (q - p) n = q - p := by omega
  rw [e1, e2, e3]
  by_cases hi : i < n
  · rw [if_pos hi]
    by_cases ha : p + i < q
    · rw [if_pos (by omega), if_pos ha, if_pos (by omega), if_pos (by omega), if_pos (by omega), if_pos hi]
      simp [ha]
      intro h; omega
    · by_cases hb : p + i < q + new.length
      · rw [if_pos (by omega), if_neg ha, if_pos (by omega), if_neg (by omega)]
        congr 1; omega
      · rw [if_neg (by omega), if_neg (by omega), if_pos (by omega)]
        congr 1; omega
  · rw [if_neg hi]
    symm
    rw [if_neg (by omega), if_neg (by omega)]

theorem RepL.putAt {c : Cz} {cs new : List AVal} {vs us : List Value} (h : RepL c cs vs) (k : RepL c new us) (off : Nat) : RepL c (Go.Ab.putAt cs off new) (vs.take off ++ us ++ vs.drop (off + us.length)) := by
  unfold Go.Ab.putAt
  rw [k.length]
  exact ((h.take off).append k).append (h.drop _)

theorem run_storeVar {t : TypeId} {g p : Nat} {v : Value} {cells : Array Value} {ty : TypeId} {n : Nat} (hsz : cSize P t = some none ∧ n = 1 ∨ cSize P t = some (some n)) (hv : v.cells.size = n) (h1 : ∀ u ∈ v.cells.toList, u.oneCell' = true)
    {w : World} (hg : w.heap[g]? = some (.cells cells ty (0, 0))) (hfit : p + n ≤ cells.size) :
    (storeVar t ⟨g, p, none⟩ v).run P w = .ok () (w.setRow g (cells.toList.take p ++ v.cells.toList ++ cells.toList.drop (p + n)).toArray) := by
  have hs : (sizeOf t).run P w = .ok n w := by
    rcases hsz with ⟨h, rfl⟩ | h
    · unfold cSize at h
      split at h
      · simp at h
      · simp at h
      · rename_i d i _ _ hd hi
        split at h
        · rename_i e; simp [sizeOf, typeInfo, hi, e]
        · cases h
      · cases h
    · exact (run_isAgg_true h w).2
  have hst := run_storeCells_at P g p ty v.cells.toList 0 cells w hg (by simp only [Nat.add_zero, Array.length_toList]; omega) h1
  simp only [Nat.add_zero, Array.length_toList, hv] at hst
  simp [storeVar, hs, hv, hst]

theorem ex_sto {t : TypeId} {n : Nat} {x1 x2 : Operand} {y1 y2 : AOpd} (S : Sim w0 outs N σ a c) (ho : o.op = .store t x1 x2) (hsz : cSize P t = some none ∧ n = 1 ∨ cSize P t = some (some n)) (h1 : cOpd x1 = some y1) (h2 : cOpd x2 = some y2) (hn : 0 < n)
    (hp : AI.pre σ (o.dst.getD 0) (.sto n y1 y2)) : Ex1 P w0 outs o a c (AI.hpw σ ver (o.dst.getD 0) (.sto n y1 y2)) (AI.out σ ver (o.dst.getD 0) (.sto n y1 y2)) ver := by
  have e1 := S.ev h1; have e2 := S.ev h2
  simp only [AI.pre] at hp
  split at hp
  · rename_i r ver' off hu
    obtain ⟨hr, hlen, hone⟩ := hp
    rw [hu] at e1
    simp only [Rep] at e1
    rw [← S.hp] at hr hone
    obtain ⟨hl, h1c⟩ := cells_rep S.good e2 hone
    have hvsz : (a.eval x2).cells.size = n := by
      have := hl.length; rw [hlen] at this; simpa using this.symm
    have hO := S.good.obj r
    split at hr
    · rename_i ver2 cs hrr
      obtain ⟨rfl, hfit⟩ := hr
      rw [hrr] at hO e1
      obtain ⟨g, ty, cells, hloc, hg, hrep⟩ := hO
      obtain ⟨b, p, hb, hv⟩ := e1.2 rfl
      rw [hloc] at hb
      simp only [baseOf, Option.some.injEq, Addr.mk.injEq] at hb
      obtain ⟨rfl, rfl, -⟩ := hb
      have hcl := hrep.length
      have hcs : cs.length = cells.size := by simpa using hcl
      have hrun := run_storeVar (P := P) (t := t) (p := 0 + off) hsz hvsz h1c hg (by omega)
      have hG := S.good.write (cells := cells) (ao := .box ver2 (putAt cs off (σ.ev y2).cells)) (by rw [hrr]; rfl) rfl (by rw [hloc]; rfl) (cells.toList.take (0 + off) ++ (a.eval x2).cells.toList ++ cells.toList.drop (0 + off + n)).toArray
        (fun K => by
          refine ⟨g, ty, _, hloc, setRow_heap c.w g cells _ ty _ hg, ?_⟩
          have := RepL.keeps K _ _ (RepL.putAt hrep hl off)
          simpa [hvsz] using this)
      refine ⟨undef, _, .inr ⟨rfl, ?_⟩, hG.1, hG.2, ?_, by simp [AI.out, Rep], ?_, rfl, rfl⟩
      · simp only [execOp, ho, hv, Instr.storeAt, Instr.sureAddr, Sem.run_bind, Sem.run_pure, Result.andThen_ok, hrun]; rfl
      · have hrr' : σ.hp r = .box ver2 cs := by rw [← S.hp]; exact hrr
        simp only [AI.hpw, hu, hrr', Cz.upd, S.hp]
      · rintro u (h | rfl)
        · exact .inl h
        · exact .inl e1.1
    · rename_i ver2 k nn cs hrr
      obtain ⟨rfl, hfit, hnd, hnr⟩ := hr
      obtain ⟨c1, G1, K1, hw1, hu1, hx1, hb1, hloc1, hh1, hl1⟩ := frzL _ _ c S.good hl (own_of_one hone) hnd
      have hr1 : c1.hp r = .row ver2 k nn cs := by rw [hh1]; simp only [if_neg hnr]; exact hrr
      have hO1 := G1.obj r
      rw [hr1] at hO1
      rw [hrr] at hO e1
      obtain ⟨base, m, cap, hloc, hk, hcl, hmc, hcm, hnn, hcase⟩ := hO1
      rw [hloc1] at hloc
      rcases hcase with h0 | ⟨g, off2, ty, cells, rfl, hg, hcfit, hrep⟩
      · have : m = 0 := by omega
        subst this
        simp at hcl
        subst hcl
        simp at hfit
        omega
      · obtain ⟨b, p, hb, hv⟩ := e1.2 rfl
        rw [hloc] at hb
        simp only [baseOf, Option.some.injEq, Addr.mk.injEq] at hb
        obtain ⟨rfl, rfl, -⟩ := hb
        rw [hw1] at hg
        have hcap : cap ≠ 0 := by
          intro e; subst e
          have : m = 0 := by omega
          subst this; simp at hcl; subst hcl; simp at hfit; omega
        have hmk : m * k ≤ cap * k := Nat.mul_le_mul_right _ hmc
        have hrun := run_storeVar (P := P) (t := t) (p := off2 + off) hsz hvsz h1c hg (by omega)
        have hG := G1.write (cells := cells) (g := g) (ao := .row ver2 k nn (putAt cs off ((σ.ev y2).cells.map (frz c.hp)))) (by rw [hr1]; rfl) rfl (by rw [hloc1, hloc]; simp [blockOf, hcap]) (cells.toList.take (off2 + off) ++ (a.eval x2).cells.toList ++ cells.toList.drop (off2 + off + n)).toArray
          (fun K => by
            have hpl : (putAt cs off ((σ.ev y2).cells.map (frz c.hp))).length = cs.length := by
              simp only [putAt, List.length_append, List.length_take, List.length_drop, List.length_map, hlen]; omega
            refine ⟨_, m, cap, by rw [hloc1]; exact hloc, hk, by rw [hpl]; exact hcl, hmc, hcm, hnn, .inr ⟨g, off2, ty, _, rfl, setRow_heap c1.w g cells _ ty _ (by rw [hw1]; exact hg), ?_, ?_⟩⟩
            · simp only [List.size_toArray, List.length_append, List.length_take, List.length_drop, Array.length_toList, hvsz]; omega
            · have h5 := RepL.keeps K _ _ (RepL.putAt hrep hl1 off)
              have h6 := list_put_mid cells.toList (a.eval x2).cells.toList off2 (off2 + off) (m * k) (by omega) (by simp only [Array.length_toList, hvsz]; omega) (by simp only [Array.length_toList]; omega)
              simp only [Array.length_toList, hvsz, Nat.add_sub_cancel_left] at h5 h6
              simp only [List.toList_toArray]
              rw [h6]
              exact h5)
        refine ⟨undef, _, .inr ⟨rfl, ?_⟩, hG.1, K1.trans hG.2, ?_, by simp [AI.out, Rep], ?_, hx1, hb1⟩
        · simp only [execOp, ho, hv, Instr.storeAt, Instr.sureAddr, Sem.run_bind, Sem.run_pure, Result.andThen_ok, hrun, Cz.upd, hw1]
        · have hrr' : σ.hp r = .row ver2 k nn cs := by rw [← S.hp]; exact hrr
          simp only [AI.hpw, hu, hrr', Cz.upd, hh1, S.hp]
        · rintro u (h | rfl)
          · rw [hu1] at h; exact .inl h
          · exact .inl e1.1
    · exact hr.elim
  · exact hp.elim

end
end Go.Ab
