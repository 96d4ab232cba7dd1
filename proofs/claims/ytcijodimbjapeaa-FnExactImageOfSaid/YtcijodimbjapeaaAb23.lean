/- Regions with open order: the order of the text tells enough. Conditions: none. -/
import Derived.Test.YtcijodimbjapeaaAb22
set_option linter.all false
namespace Go.Ab
set_option maxRecDepth 20000

def AOp.rds (o : AOp) : List Nat := (o.ins.opds.filterMap fun | .t n => some n | _ => none) ++ (match o.grd with | some (t, _) => [t] | none => [])

/-- One operation: k: what is asked of what it gives and of the objects behind it. -/
def To (P : Program) (s : Nat → Nat) (d : Nat) (tm : Nat → AVal) (hp : Nat → AObj) (k : AVal → (Nat → AObj) → Prop) (o : AOp) : Prop :=
  match o.grd with
  | none => Si P s d tm hp k o.ins
  | some (t, want) => match tm t with
    | .val (.bool b) => (b = want → Si P s d tm hp k o.ins) ∧ (b ≠ want → k (.val (.tuple #[])) hp)
    | .val (.tuple _) => k (.val (.tuple #[])) hp
    | _ => False

def isLN : Cl → Bool
  | .l | .n => true
  | _ => false

def notX : Cl → Bool
  | .x => false
  | _ => true

def isBx : AIns → Bool
  | .i x => x.bx
  | _ => false

def isWB : Cl → Bool
  | .w | .b => true
  | _ => false

def isBn : AIns → AOp → Bool
  | .i (.bsln nos _ _), y => y.ins.cl == .a && (match y.dst with | some d => nos.contains d | none => false)
  | _, _ => false

/-- x stands ahead of y in the text, and y may go first. -/
def comm (x y : AOp) : Bool :=
  (commC x.ins.cl y.ins.cl || (isBx x.ins && isWB y.ins.cl) || isBn x.ins y) && notX x.ins.cl && (match x.dst with | some d => !y.rds.contains d && y.dst != some d | none => true) && (match y.dst with | some d => !x.rds.contains d | none => true) &&
  (isLN x.ins.cl || isLN y.ins.cl || (match x.dst, y.dst with | some a, some b => decide (a < 1000) && decide (b < 1000) | _, _ => false))

section
variable {P : Program} {U : Nat → Prop} {hp hp' : Nat → AObj} {tm : Nat → AVal}

theorem wpOp_iff {σ : St} {s : Nat → Nat} {K : St → Prop} {o : AOp} :
    Ab.wpOp false (wpCall P true) s o σ K ↔ To P s (o.dst.getD 0) σ.tm σ.hp (fun A q => K (St.put ⟨σ.tm, q⟩ o.dst A)) o := by
  unfold Ab.wpOp To
  cases o.grd with
  | none => exact wpIns_iff
  | some g =>
    obtain ⟨t, want⟩ := g
    simp only []
    cases h : σ.tm t with
    | val v =>
      cases v with
      | bool b => simp only [wpIns_iff]
      | tuple _ => exact Iff.rfl
      | _ => simp
    | _ => simp

theorem to_mono {s : Nat → Nat} {d : Nat} {k k' : AVal → (Nat → AObj) → Prop} {o : AOp} (h : ∀ A q, k A q → k' A q) (hh : To P s d tm hp k o) : To P s d tm hp k' o := by
  unfold To at hh ⊢
  split
  · rename_i hg; simp only [hg] at hh; exact si_mono h hh
  · rename_i t w hg
    simp only [hg] at hh
    split at hh
    · rename_i b hb
      exact ⟨fun e => si_mono h (hh.1 e), fun e => h _ _ (hh.2 e)⟩
    · exact h _ _ hh
    · exact hh.elim

theorem si_tm {tm' : Nat → AVal} {s : Nat → Nat} {d : Nat} {k : AVal → (Nat → AObj) → Prop} {y : AIns} (h : ∀ o ∈ y.opds, St.ev ⟨tm, hp⟩ o = St.ev ⟨tm', hp⟩ o) : Si P s d tm hp k y ↔ Si P s d tm' hp k y := by
  cases y with
  | i x =>
    obtain ⟨h1, h2, h3⟩ := i_tm (ver := s 0) (d := d) h
    simp only [Si, h1, h2, h3]
  | call g xs =>
    have : xs.map (St.ev ⟨tm, hp⟩) = xs.map (St.ev ⟨tm', hp⟩) := List.map_congr_left h
    simp only [Si, this]; exact Iff.rfl
  | calv f xs =>
    have h1 : xs.map (St.ev ⟨tm, hp⟩) = xs.map (St.ev ⟨tm', hp⟩) := List.map_congr_left fun o ho => h o (by simp [AIns.opds, ho])
    have h2 := h f (by simp [AIns.opds])
    simp only [Si, h1, h2]; exact Iff.rfl

theorem rds_ev {o : AOp} {tm' : Nat → AVal} (h : ∀ t ∈ o.rds, tm t = tm' t) : ∀ x ∈ o.ins.opds, St.ev ⟨tm, hp⟩ x = St.ev ⟨tm', hp⟩ x := by
  intro x hx
  cases x with
  | t n =>
    refine h n ?_
    simp only [AOp.rds, List.mem_append, List.mem_filterMap]
    exact .inl ⟨.t n, hx, rfl⟩
  | _ => rfl

theorem rds_grd {o : AOp} {t : Nat} {w : Bool} (hg : o.grd = some (t, w)) : t ∈ o.rds := by
  simp [AOp.rds, hg]

theorem to_tm {tm' : Nat → AVal} {s : Nat → Nat} {d : Nat} {k : AVal → (Nat → AObj) → Prop} {o : AOp} (h : ∀ t ∈ o.rds, tm t = tm' t) : To P s d tm hp k o ↔ To P s d tm' hp k o := by
  have h1 := si_tm (P := P) (s := s) (d := d) (k := k) (rds_ev (hp := hp) h)
  unfold To
  cases hg : o.grd with
  | none => exact h1
  | some g =>
    obtain ⟨t, w⟩ := g
    simp only [h t (rds_grd hg), h1]

theorem to_old {s : Nat → Nat} {d : Nat} {k : AVal → (Nat → AObj) → Prop} {o : AOp} (hs : ∀ j, ¬ U (s j)) (hy : o.ins.cl ≠ .x) (h : To P s d tm hp k o) : To P s d tm hp (fun A q => k A q ∧ Old U hp q) o := by
  unfold To at h ⊢
  cases hg : o.grd with
  | none => simp only [hg] at h ⊢; exact si_old hs hy h
  | some g =>
    obtain ⟨t, w⟩ := g
    simp only [hg] at h ⊢
    split at h
    · rename_i b hb
      exact ⟨fun e => si_old hs hy (h.1 e), fun e => ⟨h.2 e, fun _ _ _ _ => rfl⟩⟩
    · exact ⟨h, fun _ _ _ _ => rfl⟩
    · exact h.elim

/-- What a state must know of what an operation reads. -/
structure Inv (U : Nat → Prop) (tm : Nat → AVal) (hp : Nat → AObj) (y : AOp) : Prop where
  tm : ∀ t ∈ y.rds, (tm t).uses U
  hp : ∀ r v, U v → (hp r).ver = some v → (hp r).uses U

theorem Inv.ev {y : AOp} (h : Inv U tm hp y) : ∀ o ∈ y.ins.opds, (St.ev ⟨tm, hp⟩ o).uses U := by
  intro o ho
  cases o with
  | t n =>
    refine h.tm n ?_
    simp only [AOp.rds, List.mem_append, List.mem_filterMap]
    exact .inl ⟨.t n, ho, rfl⟩
  | c v => simp [St.ev, AVal.uses]
  | f g => simp [St.ev, AVal.uses, usesL]

theorem to_some {s : Nat → Nat} {d : Nat} {k : AVal → (Nat → AObj) → Prop} {o : AOp} (h : To P s d tm hp k o) : ∃ A q, k A q := by
  unfold To at h
  cases hg : o.grd with
  | none => simp only [hg] at h; exact si_some h
  | some g =>
    obtain ⟨t, w⟩ := g
    simp only [hg] at h
    split at h
    · rename_i b hb
      by_cases e : b = w
      · exact si_some (h.1 e)
      · exact ⟨_, _, h.2 e⟩
    · exact ⟨_, _, h⟩
    · exact h.elim

theorem to_swap {x y : AOp} {sx sy : Nat → Nat} {k : AVal → AVal → (Nat → AObj) → Prop} (hc : comm x y = true) (hI : Inv U tm hp y) (hsx : ∀ j, ¬ U (sx j))
    (h : To P sx (x.dst.getD 0) tm hp (fun A q => To P sy (y.dst.getD 0) tm q (k A) y) x) : To P sy (y.dst.getD 0) tm hp (fun B q => To P sx (x.dst.getD 0) tm q (fun A q' => k A B q') x) y := by
  have hcc : (commC x.ins.cl y.ins.cl = true ∨ (isBx x.ins = true ∧ isWB y.ins.cl = true)) ∨ isBn x.ins y = true := by
    simp only [comm, Bool.and_eq_true, Bool.or_eq_true] at hc; exact hc.1.1.1.1
  have hd : (x.dst.getD 0 ≠ y.dst.getD 0 ∧ x.dst.getD 0 < 1000 ∧ y.dst.getD 0 < 1000) ∨ x.ins.cl = .n ∨ y.ins.cl = .n ∨ x.ins.cl = .l ∨ y.ins.cl = .l := by
    simp only [comm, Bool.and_eq_true, Bool.or_eq_true] at hc
    obtain ⟨⟨⟨_, h1⟩, _⟩, h2⟩ := hc
    rcases h2 with (h2 | h2) | h2
    · cases hx : x.ins.cl <;> simp [hx, isLN] at h2 ⊢
    · cases hx : y.ins.cl <;> simp [hx, isLN] at h2 ⊢
    · left
      split at h2
      · rename_i a b ha hb
        rw [ha, hb] at h1
        simp only [Bool.and_eq_true, decide_eq_true_eq, bne_iff_ne, ne_eq, Option.some.injEq] at h1 h2
        rw [ha, hb]
        exact ⟨fun e => h1.2 e.symm, h2⟩
      · cases h2
  have hss : ∀ {k : AVal → AVal → (Nat → AObj) → Prop}, Si P sx (x.dst.getD 0) tm hp (fun A q => Si P sy (y.dst.getD 0) tm q (k A) y.ins) x.ins →
      Si P sy (y.dst.getD 0) tm hp (fun B q => Si P sx (x.dst.getD 0) tm q (fun A q' => k A B q') x.ins) y.ins := by
    intro k h
    rcases hcc with (hcc | ⟨hb, hw⟩) | hbn
    · exact si_swap hcc hI.ev hI.hp hsx hd h
    · cases hxi : x.ins with
      | i x' =>
        rw [hxi] at hb h
        exact si_bx hb (by cases hy : y.ins.cl <;> simp [isWB, hy] at hw <;> simp) h
      | _ => rw [hxi] at hb; simp [isBx] at hb
    · cases hxi : x.ins with
      | i x' =>
        cases x' with
        | bsln nos kk xs =>
          rw [hxi] at hbn h hd
          simp only [isBn, Bool.and_eq_true] at hbn
          obtain ⟨h1, h2⟩ := hbn
          have hya : y.ins.cl = .a := by simpa using h1
          have hne : x.dst.getD 0 ≠ y.dst.getD 0 := by
            rcases hd with h | h | h | h | h
            · exact h.1
            · cases h
            · rw [hya] at h; cases h
            · cases h
            · rw [hya] at h; cases h
          refine si_bn hya ?_ hne h
          split at h2
          · rename_i d e; rw [e]; simpa using h2
          · cases h2
        | _ => rw [hxi] at hbn; simp [isBn] at hbn
      | _ => rw [hxi] at hbn; simp [isBn] at hbn
  -- the guard of the second
  have hy : (y.grd = none) ∨ ∃ t w b, y.grd = some (t, w) ∧ tm t = .val b ∧ ((∃ u, b = .bool u) ∨ ∃ u, b = .tuple u) := by
    cases hg : y.grd with
    | none => exact .inl rfl
    | some g =>
      obtain ⟨t, w⟩ := g
      obtain ⟨A, q, h1⟩ := to_some h
      unfold To at h1
      simp only [hg] at h1
      split at h1
      · rename_i b hb; exact .inr ⟨t, w, .bool b, rfl, hb, .inl ⟨b, rfl⟩⟩
      · rename_i b hb; exact .inr ⟨t, w, .tuple b, rfl, hb, .inr ⟨b, rfl⟩⟩
      · exact h1.elim
  have hx : (x.grd = none) ∨ ∃ t w b, x.grd = some (t, w) ∧ tm t = .val b ∧ ((∃ u, b = .bool u) ∨ ∃ u, b = .tuple u) := by
    cases hg : x.grd with
    | none => exact .inl rfl
    | some g =>
      obtain ⟨t, w⟩ := g
      have h1 := h
      unfold To at h1
      simp only [hg] at h1
      split at h1
      · rename_i b hb; exact .inr ⟨t, w, .bool b, rfl, hb, .inl ⟨b, rfl⟩⟩
      · rename_i b hb; exact .inr ⟨t, w, .tuple b, rfl, hb, .inr ⟨b, rfl⟩⟩
      · exact h1.elim
  -- each runs or not
  have run : ∀ (o : AOp), ((o.grd = none) ∨ ∃ t w b, o.grd = some (t, w) ∧ tm t = .val b ∧ ((∃ u, b = .bool u) ∨ ∃ u, b = .tuple u)) →
      (∀ s d q k, To P s d tm q k o ↔ Si P s d tm q k o.ins) ∨ (∀ s d q k, To P s d tm q k o ↔ k (.val (.tuple #[])) q) := by
    intro o ho
    rcases ho with ho | ⟨t, w, b, ho, hb, ⟨b, rfl⟩ | ⟨b, rfl⟩⟩
    · left; intro s d q k; unfold To; rw [ho]
    · by_cases e : b = w
      · left; intro s d q k; unfold To; rw [ho]; simp [hb, e]
      · right; intro s d q k; unfold To; rw [ho]; simp [hb, e]
    · right; intro s d q k; unfold To; rw [ho]; simp [hb]
  rcases run x hx with rx | rx <;> rcases run y hy with ry | ry
  · rw [ry]
    refine si_mono (fun B q hq => (rx _ _ _ _).2 hq) (hss (k := k) ?_)
    exact si_mono (fun A q hq => (ry _ _ _ _).1 hq) ((rx _ _ _ _).1 h)
  · rw [ry, rx]
    exact si_mono (fun A q hq => (ry _ _ _ _).1 hq) ((rx _ _ _ _).1 h)
  · rw [rx] at h
    exact to_mono (fun B q hq => (rx _ _ _ _).2 hq) h
  · rw [ry, rx]
    rw [rx, ry] at h
    exact h

def wpL (P : Program) (vs : Nat → Nat → Nat) : List (Nat × AOp) → St → (St → Prop) → Prop
  | [], σ, K => K σ
  | (i, o) :: os, σ, K => To P (vs i) (o.dst.getD 0) σ.tm σ.hp (fun A q => wpL P vs os (St.put ⟨σ.tm, q⟩ o.dst A) K) o

theorem wpL_of {vs : Nat → Nat → Nat} {K : St → Prop} : ∀ (xs : List AOp) (i : Nat) (σ : St), Ab.wpOps false (wpCall P true) vs i xs σ K → wpL P vs (enum i xs) σ K
  | [], _, _, h => h
  | x :: xs, i, σ, h => to_mono (fun A q hq => wpL_of xs (i + 1) _ hq) (wpOp_iff.1 h)

theorem put_tm {σ : St} {dst : Option Nat} {A : AVal} {t : Nat} (h : ∀ d, dst = some d → t ≠ d) : (St.put σ dst A).tm t = σ.tm t := by
  cases dst with
  | none => rfl
  | some d => simp only [St.put]; rw [if_neg (h d rfl)]

theorem put_hp {σ : St} {dst : Option Nat} {A : AVal} : (St.put σ dst A).hp = σ.hp := by cases dst <;> rfl

theorem put_comm {q1 q2 q' : Nat → AObj} {dx dy : Option Nat} {A B : AVal} (h : ∀ d, dx = some d → dy ≠ some d) :
    St.put ⟨(St.put ⟨tm, q1⟩ dx A).tm, q'⟩ dy B = St.put ⟨(St.put ⟨tm, q2⟩ dy B).tm, q'⟩ dx A := by
  cases dx with
  | none => cases dy <;> rfl
  | some a =>
    cases dy with
    | none => rfl
    | some b =>
      have hne : a ≠ b := fun e => h a rfl (by rw [e])
      simp only [St.put]
      congr 1
      funext n
      by_cases e1 : n = b
      · subst e1
        rw [if_pos rfl, if_neg (Ne.symm hne), if_pos rfl]
      · rw [if_neg e1]
        by_cases e2 : n = a
        · rw [if_pos e2, if_pos e2]
        · rw [if_neg e2, if_neg e2, if_neg e1]

/-- An operation is pulled ahead. -/
theorem pull {vs : Nat → Nat → Nat} {y : AOp} {j : Nat} {post : List (Nat × AOp)} {K : St → Prop} : ∀ (pre : List (Nat × AOp)) (σ : St), (∀ p ∈ pre, comm p.2 y = true ∧ ∀ i, ¬ U (vs p.1 i)) → Inv U σ.tm σ.hp y →
    wpL P vs (pre ++ (j, y) :: post) σ K → wpL P vs ((j, y) :: (pre ++ post)) σ K
  | [], _, _, _, h => h
  | (i, x) :: pre, σ, hpre, hI, h => by
    obtain ⟨hc, hn⟩ := hpre (i, x) (by simp)
    simp only [] at hc hn
    have hc' := hc
    simp only [comm, Bool.and_eq_true] at hc'
    obtain ⟨⟨⟨⟨_, hx⟩, h1⟩, h2⟩, _⟩ := hc'
    have hxx : x.ins.cl ≠ .x := by intro e; rw [e] at hx; simp [notX] at hx
    have hd1 : ∀ d, x.dst = some d → d ∉ y.rds ∧ y.dst ≠ some d := by
      intro d e
      rw [e] at h1
      simpa using h1
    have hd2 : ∀ d, y.dst = some d → d ∉ x.rds := by
      intro d e
      rw [e] at h2
      simpa using h2
    have h3 := to_old hn hxx h
    -- the rest, with y first
    have h4 : To P (vs i) (x.dst.getD 0) σ.tm σ.hp (fun A q => To P (vs j) (y.dst.getD 0) σ.tm q (fun B q' => wpL P vs (pre ++ post) (St.put ⟨(St.put ⟨σ.tm, q⟩ x.dst A).tm, q'⟩ y.dst B) K) y) x := by
      refine to_mono (fun A q hq => ?_) h3
      obtain ⟨hq, ho⟩ := hq
      have htm : ∀ t ∈ y.rds, (St.put ⟨σ.tm, q⟩ x.dst A).tm t = σ.tm t := fun t ht => put_tm fun d e he => (hd1 d e).1 (he ▸ ht)
      have hI' : Inv U (St.put ⟨σ.tm, q⟩ x.dst A).tm (St.put ⟨σ.tm, q⟩ x.dst A).hp y := by
        refine ⟨fun t ht => by rw [htm t ht]; exact hI.tm t ht, fun r v hu hv => ?_⟩
        rw [put_hp] at hv ⊢
        have hv : (q r).ver = some v := hv
        show (q r).uses U
        have h5 := ho r v hu hv
        rw [← h5] at hv
        have h6 := hI.hp r v hu hv
        rw [h5] at h6; exact h6
      have h7 := pull pre _ (fun p hp => hpre p (by simp [hp])) hI' hq
      simp only [wpL] at h7
      rw [put_hp] at h7
      exact (to_tm htm).1 h7
    have h5 := to_swap (k := fun A B q' => wpL P vs (pre ++ post) (St.put ⟨(St.put ⟨σ.tm, σ.hp⟩ x.dst A).tm, q'⟩ y.dst B) K) hc hI hn (to_mono (fun A q hq => to_mono (fun B q' hq' => by
      have e : St.put ⟨(St.put ⟨σ.tm, q⟩ x.dst A).tm, q'⟩ y.dst B = St.put ⟨(St.put ⟨σ.tm, σ.hp⟩ x.dst A).tm, q'⟩ y.dst B := by
        congr 2
        cases x.dst <;> rfl
      rw [← e]; exact hq') hq) h4)
    refine to_mono (fun B q hq => ?_) h5
    show wpL P vs ((i, x) :: (pre ++ post)) _ K
    simp only [wpL]
    rw [put_hp]
    have htm : ∀ t ∈ x.rds, σ.tm t = (St.put ⟨σ.tm, q⟩ y.dst B).tm t := fun t ht => (put_tm (σ := ⟨σ.tm, q⟩) fun d e he => hd2 d e (he ▸ ht)).symm
    refine (to_tm htm).1 (to_mono (fun A q' hq' => ?_) hq)
    rw [put_comm (q2 := q) (fun d e => (hd1 d e).2)] at hq'
    exact hq'

end

def edges (o : Oper) : List Nat := (o.after.toList.filter (Region.binds .any)).map (·.on)

/-- What must come ahead of each operation. -/
def ancs : List Oper → List (List Nat) → List (List Nat)
  | [], acc => acc
  | o :: os, acc => ancs os (acc ++ [((edges o).flatMap fun j => j :: acc.getD j []).eraseDups])

/-- Regions with open order that are taken. -/
def drB (ops : Array Oper) (xs : List AOp) : Bool :=
  let an := ancs ops.toList []
  (List.range ops.size).all fun i =>
    (match ops[i]? with | some o => (edges o).all (fun j => decide (j < i)) | none => true) &&
    (match xs[i]? with
      | some y => (List.range i).all fun k => (an.getD i []).contains k || (match xs[k]? with | some x => comm x y | none => true)
      | none => true)

def AIns.mb (wb : Bool) (nos : List Nat) : AIns → AIns
  | .i x => .i (x.mb wb nos)
  | y => y

def AOp.mb (wb : Bool) (nos : List Nat) (o : AOp) : AOp := { o with ins := o.ins.mb wb nos }

theorem mb_wp {P : Program} {fa pu wb : Bool} {nos : List Nat} {s : Nat → Nat} {o : AOp} {σ : St} {K : St → Prop} (h : Ab.wpOp fa (wpCall P pu) s (o.mb wb nos) σ K) : Ab.wpOp fa (wpCall P pu) s o σ K := by
  have key : ∀ d y, Ab.wpIns fa (wpCall P pu) s d σ K (AIns.mb wb nos y) → Ab.wpIns fa (wpCall P pu) s d σ K y := by
    intro d y h
    cases y with
    | i x =>
      refine ⟨mb_pre h.1, fun hf => ?_⟩
      have h2 := h.2 (by rw [mb_fact]; exact hf)
      simp only [AI.eff, mb_out, mb_hpw] at h2 ⊢
      exact h2
    | _ => exact h
  unfold Ab.wpOp at h ⊢
  have hg : (o.mb wb nos).grd = o.grd := rfl
  rw [hg] at h
  cases hgd : o.grd with
  | none => rw [hgd] at h; exact key _ _ h
  | some g =>
    obtain ⟨t, w⟩ := g
    rw [hgd] at h
    simp only [] at h ⊢
    split at h
    · exact ⟨fun e => key _ _ (h.1 e), h.2⟩
    · exact h
    · exact h.elim

/-- Reads of variables and rows of rows, marked as such, that stand ahead of an operation that may come first. -/
def vary (ops : Array Oper) (xs : List AOp) : List AOp :=
  let an := ancs ops.toList []
  xs.mapIdx fun k x =>
    let ys := (List.range ops.size).filterMap fun i => if decide (k < i) && !(an.getD i []).contains k then xs[i]? else none
    x.mb (ys.any fun y => isWB y.ins.cl) (ys.filterMap fun y => if y.ins.cl == .a then y.dst else none)

def drV (ops : Array Oper) (xs : List AOp) : Option (List AOp) := if drB ops xs = true then some xs else if drB ops (vary ops xs) = true then some (vary ops xs) else none

end Go.Ab
