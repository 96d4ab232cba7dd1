/- Contracts without names, out of contracts with names; rows with names. Conditions: none. -/
import Derived.Test.YtcijodimbjapeaaAb32
set_option linter.all false
namespace Go.Ab
set_option maxRecDepth 20000

/-- Names may be forgotten. -/
theorem Good.dn {w0 : World} {outs : Nat → Prop} {c : Cz} (G : Good w0 outs c) : Good w0 outs { c with hp := fun r => (c.hp r).dn } ∧ Keeps c { c with hp := fun r => (c.hp r).dn } := by
  have hv : ∀ r, ((c.hp r).dn).ver = (c.hp r).ver := fun r => AObj.dn_ver _
  have hg : ∀ r, (c.hp r).dn ≠ .gone ↔ c.hp r ≠ .gone := fun r => not_congr AObj.dn_gone
  have htk : ∀ b, ¬ c.taken b → ¬ ({ c with hp := fun r => (c.hp r).dn } : Cz).taken b := fun b h ⟨r, h1, h2⟩ => h ⟨r, (hg r).1 h1, h2⟩
  have K : Keeps c { c with hp := fun r => (c.hp r).dn } := by
    refine ⟨fun b ⟨h1, h2, h3⟩ => ⟨⟨h1, h2, htk b h3⟩, rfl⟩, fun _ _ h => h, fun _ h => h, ?_, rfl⟩
    intro r v _ h
    have h' : ((c.hp r).dn).ver = some v := h
    rw [hv] at h'
    exact ⟨h', rfl⟩
  refine ⟨⟨G.base, ?_, ?_, ?_, ?_, ?_, G.outExt, ?_, G.namInj, G.fin, G.os, G.tape, G.output, G.size, G.frame⟩, K⟩
  · intro r
    exact (G.obj r).dn.keeps K fun _ _ => rfl
  · intro r r' b h1 h2 h3 h4; exact G.inj r r' b ((hg r).1 h1) ((hg r').1 h2) h3 h4
  · intro r b h1 h2; exact G.own r b ((hg r).1 h1) h2
  · intro r v h
    have h' : ((c.hp r).dn).ver = some v := h
    rw [hv] at h'
    exact G.verU r v h'
  · intro r r' v h1 h2
    have h1' : ((c.hp r).dn).ver = some v := h1
    have h2' : ((c.hp r').dn).ver = some v := h2
    rw [hv] at h1' h2'
    exact G.verInj r r' v h1' h2'
  · intro n b h
    obtain ⟨h1, h2, h3, h4⟩ := G.nam n b h
    exact ⟨h1, h2, h3, htk b h4⟩

theorem outHp_dn (o r : List AObj) : (fun n => (outHp o r n).dn) = outHp (o.map AObj.dn) (r.map AObj.dn) := by
  funext n
  have e : ∀ (l : List AObj) (i : Nat), (l.getD i .gone).dn = (l.map AObj.dn).getD i .gone := by
    intro l i
    rw [List.getD_eq_getElem?_getD, List.getD_eq_getElem?_getD, List.getElem?_map]
    cases l[i]? <;> rfl
  unfold outHp
  split
  · rfl
  · split
    · exact e _ _
    · split
      · exact e _ _
      · rfl

theorem Con.dnr {P : Program} {g : FuncId} {ins : List AObj} {args : List AVal} {sh : Bool} {R R' : List AObj → List AObj → AVal → Prop} (h : Con P g ins args sh R)
    (hR : ∀ o r x, R o r x → R' (o.map AObj.dn) (r.map AObj.dn) x.dn) : Con P g ins args sh R' := by
  refine ⟨h.1, fun c0 outsB vs h1 h2 h3 => (h.2 c0 outsB vs h1 h2 h3).mono ?_⟩
  rintro e w' ⟨v, c1, outs, rows, res, hr, he, hw, G1, hhp, hrep, hext, hold, hkeep, hused⟩
  obtain ⟨G2, K2⟩ := G1.dn
  refine ⟨v, { c1 with hp := fun r => (c1.hp r).dn }, _, _, _, hR _ _ _ hr, he, hw, G2, ?_, (Rep.dn _ _ hrep).keeps K2, hext, hold, ?_, hused⟩
  · show (fun r => (c1.hp r).dn) = _
    rw [hhp]; exact outHp_dn _ _
  · intro r u hu hv
    have hv' : ((c1.hp r).dn).ver = some u := hv
    rw [AObj.dn_ver] at hv'
    exact hkeep r u hu hv'

/-- Rows of numbers with their names. -/
def rwp (ps : List (Nat × List Int)) : List AVal := ps.map fun p => .ro (some (some (p.1 + 1))) 1 (ints p.2)
/-- Rows that are not empty have different names. -/
def DJ (ps : List (Nat × List Int)) : Prop := ps.Pairwise fun p q => p.2 = [] ∨ q.2 = [] ∨ p.1 ≠ q.1

theorem rwp_len {ps : List (Nat × List Int)} : (rwp ps).length = ps.length := by simp [rwp]
theorem rwp_nil : rwp [] = [] := rfl
theorem rwp_snoc {ps : List (Nat × List Int)} {n : Nat} {xs : List Int} : rwp ps ++ [.ro (some (some (n + 1))) 1 (ints xs)] = rwp (ps ++ [(n, xs)]) := by simp [rwp]
theorem dnL_rwp {ps : List (Nat × List Int)} : dnL (rwp ps) = rws (ps.map (·.2)) := by
  simp only [dnL_eq, rwp, rws, List.map_map]
  exact List.map_congr_left fun p _ => by simp [AVal.dn, ints, dnL_eq, dnNm]
theorem renL_rwp {f : Nat → Option Nat} {s : Nat → Nat} {ps : List (Nat × List Int)} : renL f s (rwp ps) = rwp (ps.map fun p => (s p.1, p.2)) := by
  simp only [renL_eq, rwp, List.map_map]
  exact List.map_congr_left fun p _ => by simp [AVal.ren, ints, renL_eq, rnNm]
theorem DJ.ren {s : Nat → Nat} (hs : ∀ x y, s x = s y → x = y) {ps : List (Nat × List Int)} (h : DJ ps) : DJ (ps.map fun p => (s p.1, p.2)) := by
  unfold DJ at h ⊢
  rw [List.pairwise_map]
  refine h.imp fun {p q} hpq => ?_
  rcases hpq with h | h | h
  · exact .inl h
  · exact .inr (.inl h)
  · exact .inr (.inr fun e => h (hs _ _ e))
theorem DJ.snoc {ps : List (Nat × List Int)} (h : DJ ps) {n : Nat} {xs : List Int} (hn : ∀ p ∈ ps, p.2 = [] ∨ p.1 ≠ n) : DJ (ps ++ [(n, xs)]) := by
  unfold DJ at h ⊢
  rw [List.pairwise_append]
  refine ⟨h, by simp, fun p hp q hq => ?_⟩
  have hq : q = (n, xs) := by simpa using hq
  subst hq
  rcases hn p hp with h | h
  · exact .inl h
  · exact .inr (.inr h)
theorem coeL_rwp {hp : Nat → AObj} {m : List Nat} {len : Bool} : ∀ {ps : List (Nat × List Int)}, CoeL hp m len (rwn (ps.map (·.2))) (rwp ps)
  | [] => by simp [rwn, rwp, CoeL]
  | p :: ps => by
    have h := coeL_rwp (hp := hp) (m := m) (len := len) (ps := ps)
    simp only [rwn, rwp, List.map_cons] at h ⊢
    rw [coeL_cons, coe_ro]
    exact ⟨⟨by omega, coeL_ints⟩, h⟩
theorem woL_ints {n : Nat} {k : IntKind} {xs : List Int} : woL n (intsK k xs) = intsK k xs := by simp [woL_eq, intsK, AVal.wo]
/-- Rows with other names stay. -/
theorem woL_rwp {n : Nat} : ∀ {ps : List (Nat × List Int)}, (∀ p ∈ ps, p.2 = [] ∨ p.1 ≠ n) → woL n (rwp ps) = rwp ps
  | [], _ => by simp [rwp, woL]
  | (m, []) :: ps, h => by
    have h1 := woL_rwp (n := n) (ps := ps) fun p hp => h p (by simp [hp])
    simp only [rwp, List.map_cons] at h1 ⊢
    simp only [woL, h1]
    simp [AVal.wo]
  | (m, x :: xs) :: ps, h => by
    have h1 := woL_rwp (n := n) (ps := ps) fun p hp => h p (by simp [hp])
    have hm : m ≠ n := by
      rcases h (m, x :: xs) (by simp) with h | h
      · cases h
      · exact h
    simp only [rwp, List.map_cons] at h1 ⊢
    simp only [woL, h1]
    simp only [AVal.wo, if_neg hm]
    have h2 := woL_ints (n := n) (k := .i64) (xs := x :: xs)
    simp only [intsK, List.map_cons] at h2
    rw [h2]
theorem usesL_rwp {U : Nat → Prop} {ps : List (Nat × List Int)} {rest : List AVal} (h : usesL U (rwp ps ++ rest)) : ∀ p ∈ ps, p.2 = [] ∨ U p.1 := by
  induction ps with
  | nil => simp
  | cons q ps ih =>
    simp only [rwp, List.map_cons, List.cons_append, usesL, AVal.uses] at h ih
    intro p hp
    rcases List.mem_cons.1 hp with rfl | hp
    · rcases h.1.1 p.1 rfl with h1 | h1
      · left; simpa using h1
      · exact .inr h1
    · exact ih h.2 p hp
theorem fresh_rwp : ∀ {ps : List (Nat × List Int)}, freshL (rwp ps)
  | [] => by simp [rwp, freshL]
  | p :: ps => by
    have h := fresh_rwp (ps := ps)
    simp only [rwp, List.map_cons] at h ⊢
    simp only [freshL]
    refine ⟨?_, h⟩
    simp only [AVal.fresh, isNew]
    exact ⟨.inr trivial, of_eq_true fresh_intsK⟩

/-! Calls that may write into all rows with names. -/
theorem coeH_val {hp : Nat → AObj} {x y : Value} : CoeH hp (.val x) (.val y) = (y = x) := by simp [CoeH]
theorem coeH_st {hp : Nat → AObj} {cs cs' : List AVal} : CoeH hp (.st cs) (.st cs') = CoeHL hp cs cs' := by simp [CoeH]
theorem coeHL_nil {hp : Nat → AObj} : CoeHL hp [] [] = True := by simp [CoeHL]
theorem coeHL_cons {hp : Nat → AObj} {A B : AVal} {As Bs : List AVal} : CoeHL hp (B :: Bs) (A :: As) = (CoeH hp B A ∧ CoeHL hp Bs As) := by
  simp only [CoeHL]
  refine propext ⟨?_, fun h => ⟨A, As, rfl, h.1, h.2⟩⟩
  rintro ⟨A', As', e, h1, h2⟩
  cases e
  exact ⟨h1, h2⟩
theorem coeHL_ints {hp : Nat → AObj} : ∀ {xs : List Int}, CoeHL hp (ints xs) (ints xs)
  | [] => by simp [CoeHL]
  | x :: xs => by
    have h := coeHL_ints (hp := hp) (xs := xs)
    simp only [List.map_cons]
    rw [coeHL_cons]
    exact ⟨by simp [CoeH], h⟩
theorem coeHL_rwp {hp : Nat → AObj} : ∀ {ps : List (Nat × List Int)}, CoeHL hp (rwp ps) (rwp ps)
  | [] => by simp [rwp, CoeHL]
  | p :: ps => by
    have h := coeHL_rwp (hp := hp) (ps := ps)
    simp only [rwp, List.map_cons] at h ⊢
    rw [coeHL_cons]
    refine ⟨?_, h⟩
    simp only [CoeH]
    exact ⟨by omega, .inl ⟨_, rfl, coeHL_ints⟩⟩
theorem coeH_rwp {hp : Nat → AObj} {ps : List (Nat × List Int)} : CoeH hp (.ro (some (some 0)) 1 (rwp ps)) (.ro (some (some 0)) 1 (rwp ps)) := by
  simp only [CoeH]
  exact ⟨by omega, .inl ⟨_, rfl, coeHL_rwp⟩⟩
theorem coeH_own {hp : Nat → AObj} {ps : List (Nat × List Int)} {r v : Nat} {nn : Bool} (h : hp r = .row v 1 nn (rwp ps)) : CoeH hp (.ro (some (some 0)) 1 (rwp ps)) (.own r v) := by
  simp only [CoeH]
  exact ⟨by omega, .inr ⟨trivial, r, v, nn, _, rfl, h, coeHL_rwp⟩⟩

def clT : List (Nat × AVal) → List (Nat × AVal)
  | [] => []
  | (k, A) :: l => (k, A.cl) :: clT l
def clO : List (Nat × AObj) → List (Nat × AObj)
  | [] => []
  | (k, o) :: l => (k, o.cl) :: clO l
theorem clT_eq : ∀ (l : List (Nat × AVal)) (n : Nat), L .any (clT l) n = (L .any l n).cl
  | [], n => by simp [clT, L, AVal.cl]
  | (k, A) :: l, n => by
    simp only [clT, L]
    split
    · rfl
    · exact clT_eq l n
theorem clO_eq : ∀ (l : List (Nat × AObj)) (n : Nat), L .gone (clO l) n = (L .gone l n).cl
  | [], n => by simp [clO, L, AObj.cl]
  | (k, A) :: l, n => by
    simp only [clO, L]
    split
    · rfl
    · exact clO_eq l n
theorem cl_L {l : List (Nat × AVal)} {h : List (Nat × AObj)} : St.cl ⟨L .any l, L .gone h⟩ = ⟨L .any (clT l), L .gone (clO h)⟩ := by
  unfold St.cl
  congr 1
  · funext n; exact (clT_eq l n).symm
  · funext n; exact (clO_eq h n).symm
theorem clV_any : AVal.cl .any = .any := by simp only [AVal.cl]
theorem clV_val {x : Value} : AVal.cl (.val x) = .val x := by simp only [AVal.cl]
theorem clV_own {r u : Nat} : AVal.cl (.own r u) = .own r u := by simp only [AVal.cl]
theorem clV_ptr {r u o : Nat} : AVal.cl (.ptr r u o) = .ptr r u o := by simp only [AVal.cl]
theorem clV_st {cs : List AVal} : AVal.cl (.st cs) = .st (clL cs) := by simp only [AVal.cl]
theorem clV_tup {cs : List AVal} : AVal.cl (.tup cs) = .tup (clL cs) := by simp only [AVal.cl]
theorem clV_rp {cs : List AVal} {o : Nat} : AVal.cl (.rp cs o) = .any := by simp only [AVal.cl]
theorem clL_nil : clL [] = [] := by simp only [clL]
theorem clL_cons {A : AVal} {cs : List AVal} : clL (A :: cs) = A.cl :: clL cs := by simp only [clL]
theorem clL_ints {k : IntKind} {xs : List Int} : clL (intsK k xs) = intsK k xs := by simp [clL_eq, intsK, AVal.cl]
theorem clV_o {k : Nat} {cs : List AVal} : AVal.cl (.ro (some (some 0)) k cs) = .ro (some (some 0)) k (clL cs) := by cases cs <;> simp [AVal.cl, clL]
theorem clL_rwo {xss : List (List Int)} : clL (rwo xss) = rwo xss := by
  simp only [clL_eq, rwo, List.map_map]
  refine List.map_congr_left fun xs _ => ?_
  simp only [Function.comp]
  rw [clV_o, clL_ints]

theorem call_hav {P : Program} {σ : St} {g : FuncId} {As args : List AVal} {d : Option Nat} {s : Nat → Nat} {K : St → Prop} {Q : Value → Prop}
    (h : Con P g [] args true (fun outs rows res => outs = [] ∧ rows = [] ∧ ∃ v, Q v ∧ res = .val v)) (hco : CoeHL σ.hp args As) (hk : ∀ v, Q v → K (St.put σ.cl d (.val v))) : wpCall P false σ g As d s K :=
  .inr ⟨rfl, args, Q, h, hco, hk⟩

def woT (n : Nat) : List (Nat × AVal) → List (Nat × AVal)
  | [] => []
  | (k, A) :: l => (k, A.wo n) :: woT n l
def woO (n : Nat) : List (Nat × AObj) → List (Nat × AObj)
  | [] => []
  | (k, o) :: l => (k, o.wo n) :: woO n l
theorem woT_eq {m : Nat} : ∀ (l : List (Nat × AVal)) (n : Nat), L .any (woT m l) n = (L .any l n).wo m
  | [], n => by simp [woT, L, AVal.wo]
  | (k, A) :: l, n => by
    simp only [woT, L]
    split
    · rfl
    · exact woT_eq l n
theorem woO_eq {m : Nat} : ∀ (l : List (Nat × AObj)) (n : Nat), L .gone (woO m l) n = (L .gone l n).wo m
  | [], n => by simp [woO, L, AObj.wo]
  | (k, o) :: l, n => by
    simp only [woO, L]
    split
    · rfl
    · exact woO_eq l n
theorem tt_L {l : List (Nat × AVal)} {h : List (Nat × AObj)} {t i q n m k k' : Nat} {cs cs' : List AVal} :
    St.tt ⟨L .any l, L .gone h⟩ t i q n m k k' cs cs' = ⟨L .any ((t, .ro (some (some 0)) k ((woL n cs).set i (.own q m))) :: woT n l), L .gone ((q, .row m k' true (woL n cs')) :: woO n h)⟩ := by
  unfold St.tt
  congr 1
  · funext x
    simp only [L]
    split
    · rfl
    · exact (woT_eq l x).symm
  · funext x
    simp only [L]
    split
    · rfl
    · exact (woO_eq h x).symm
theorem woV_val {n : Nat} {x : Value} : AVal.wo n (.val x) = .val x := by simp only [AVal.wo]
theorem woV_own {n r u : Nat} : AVal.wo n (.own r u) = .own r u := by simp only [AVal.wo]
theorem woL_app {n : Nat} {cs ds : List AVal} : woL n (cs ++ ds) = woL n cs ++ woL n ds := by simp [woL_eq]
theorem woL_len {n : Nat} {cs : List AVal} : (woL n cs).length = cs.length := by simp [woL_eq]
theorem woO_gone {n : Nat} : AObj.wo n .gone = .gone := rfl
end Go.Ab
