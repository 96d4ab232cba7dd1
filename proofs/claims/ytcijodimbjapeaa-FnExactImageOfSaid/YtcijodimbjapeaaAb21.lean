/- Instructions that may change places: two of them. Conditions: none. -/
import Derived.Test.YtcijodimbjapeaaAb20
set_option linter.all false
namespace Go.Ab
set_option maxRecDepth 20000

section
variable {U : Nat → Prop} {hp hp' : Nat → AObj} {tm : Nat → AVal}

def upd (hp : Nat → AObj) (d : Nat) (o : AObj) : Nat → AObj := fun n => if n = d then o else hp n

theorem upd_comm {r d : Nat} {A o : AObj} (h : r ≠ d) : (fun n => if n = r then A else upd hp d o n) = upd (fun n => if n = r then A else hp n) d o := by
  funext n
  by_cases e1 : n = r
  · subst e1; simp [upd, h]
  · by_cases e2 : n = d
    · subst e2; simp [upd, e1]
    · simp [upd, e1, e2]

theorem any_uses : ∀ A : AVal, A.uses fun _ => True := by
  intro A
  have h : ∀ A : AVal, A.uses (fun _ => True) := by
    intro A
    induction A using AVal.rec (motive_2 := fun cs => usesL (fun _ => True) cs) with
    | any => simp [AVal.uses]
    | val _ => simp [AVal.uses]
    | ro nm k cs ih => simp only [AVal.uses]; exact ⟨fun _ _ => .inr trivial, ih⟩
    | own r v => simp [AVal.uses]
    | st cs ih => simpa only [AVal.uses] using ih
    | tup cs ih => simpa only [AVal.uses] using ih
    | ptr _ _ _ => simp [AVal.uses]
    | rp cs off ih => simpa only [AVal.uses] using ih
    | mp _ _ => simp [AVal.uses]
    | clo f cs ih => simpa only [AVal.uses] using ih
    | nil => simp [usesL]
    | cons A cs ih1 ih2 => simp only [usesL]; exact ⟨ih1, ih2⟩
  exact h A

theorem n_hp {x : AI} (hx : x.cl = .n) {ver d : Nat} : x.pre ⟨tm, hp⟩ d = x.pre ⟨tm, hp'⟩ d ∧ x.out ⟨tm, hp⟩ ver d = x.out ⟨tm, hp'⟩ ver d := by
  have e0 : ∀ o, St.ev ⟨tm, hp⟩ o = St.ev ⟨tm, hp'⟩ o := fun o => ev_hp _ _ o
  have e1 : ∀ n o, St.bound ⟨tm, hp⟩ n o = St.bound ⟨tm, hp'⟩ n o := by intro n o; cases o <;> simp only [St.bound, e0]
  cases x with
  | bsl k fz xs => cases fz <;> simp [AI.cl] at hx
  | mkf g xs => exact ⟨rfl, by simp only [AI.out]; congr 1⟩
  | _ => first
    | (simp [AI.cl] at hx; done)
    | exact ⟨by simp only [AI.pre, e0, e1], by simp only [AI.out, e0, e1]⟩

/-- Growth: what is there stays. -/
theorem old_of_grow (h : ∀ r, hp r ≠ .gone → hp' r = hp r) : Old (fun _ => True) hp' hp := by
  intro r v _ hv
  exact h r (ver_ne_gone hv)

theorem upd_grow {d : Nat} {o : AObj} (hd : hp d = .gone) : ∀ r, hp r ≠ .gone → upd hp d o r = hp r := by
  intro r hr
  unfold upd
  rw [if_neg]
  intro e; subst e; exact hr hd

theorem upd_old {d ver : Nat} {o : AObj} (ho : o.ver = some ver) (hn : ¬ U ver) : Old U hp (upd hp d o) := by
  intro r v hu hv
  unfold upd at hv ⊢
  by_cases e : r = d
  · rw [if_pos e, ho] at hv
    simp only [Option.some.injEq] at hv; subst hv; exact absurd hu hn
  · rw [if_neg e]

/-- An instruction that puts cells behind a row: what it does. -/
theorem w_made {x : AI} (hx : x.cl = .w) {ver d : Nat} (h : x.pre ⟨tm, hp⟩ d) :
    (¬ U ver → Old U hp (x.hpw ⟨tm, hp⟩ ver d)) ∧ (∀ r, x.hpw ⟨tm, hp⟩ ver d r = .gone → hp r = .gone) ∧
    ∀ d' o, hp d' = .gone → d' ≠ d → x.pre ⟨tm, upd hp d' o⟩ d ∧ x.out ⟨tm, upd hp d' o⟩ ver d = x.out ⟨tm, hp⟩ ver d ∧ x.hpw ⟨tm, upd hp d' o⟩ ver d = upd (x.hpw ⟨tm, hp⟩ ver d) d' o := by
  cases x with
  | app k by' s y =>
    have e0 : ∀ d' o a, St.ev ⟨tm, upd hp d' o⟩ a = St.ev ⟨tm, hp⟩ a := fun _ _ a => ev_hp _ _ a
    simp only [AI.pre] at h
    obtain ⟨h1, h2⟩ := h
    -- the cells that are put behind
    have hsl : ∀ d' o, hp d' = .gone → St.slc ⟨tm, upd hp d' o⟩ (St.ev ⟨tm, hp⟩ y) = St.slc ⟨tm, hp⟩ (St.ev ⟨tm, hp⟩ y) ∧
        (match St.ev ⟨tm, hp⟩ y with
        | .val (.slice none 0 0) => True
        | A => match St.sl ⟨tm, upd hp d' o⟩ A with | some (k', xs) => k' = k ∧ ∀ A ∈ xs, One (upd hp d' o) A | none => False) := by
      intro d' o hd
      have hg := old_of_grow (upd_grow (o := o) hd)
      by_cases hnil : St.ev ⟨tm, hp⟩ y = .val (.slice none 0 0)
      · rw [hnil]; exact ⟨rfl, trivial⟩
      · have h1' : match St.sl ⟨tm, hp⟩ (St.ev ⟨tm, hp⟩ y) with | some (k', xs) => k' = k ∧ ∀ A ∈ xs, One hp A | none => False := by
          split at h1
          · rename_i h3; exact absurd h3 hnil
          · exact h1
        split at h1'
        · rename_i k' xs h3
          have h4 := sl_old (tm := tm) hg (any_uses _) h3
          refine ⟨by unfold St.slc; rw [h3, h4], ?_⟩
          split
          · trivial
          · rw [h4]; exact ⟨h1'.1, fun A hA => one_old hg (any_uses _) (h1'.2 A hA)⟩
        · exact h1'.elim
    split at h2
    · rename_i hs
      by_cases hz : (St.slc ⟨tm, hp⟩ (St.ev ⟨tm, hp⟩ y)).length = 0
      · refine ⟨fun _ => ?_, fun r hr => ?_, fun d' o hd hne => ?_⟩
        · simp only [AI.hpw, hs, hz, if_true]; exact fun _ _ _ _ => rfl
        · simp only [AI.hpw, hs, hz, if_true] at hr; exact hr
        · obtain ⟨h5, h6⟩ := hsl d' o hd
          refine ⟨?_, ?_, ?_⟩
          · simp only [AI.pre, e0, hs, h5]
            refine ⟨h6, ?_, h2.2⟩
            unfold upd; rw [if_neg (Ne.symm hne)]; exact h2.1
          · simp only [AI.out, e0, hs, h5]
          · simp only [AI.hpw, e0, hs, h5, hz, if_true]
      · refine ⟨fun hn => ?_, fun r hr => ?_, fun d' o hd hne => ?_⟩
        · simp only [AI.hpw, hs, hz, if_false]
          exact upd_old (o := .row ver k true _) rfl hn
        · simp only [AI.hpw, hs, hz, if_false] at hr
          split at hr
          · cases hr
          · exact hr
        · obtain ⟨h5, h6⟩ := hsl d' o hd
          refine ⟨?_, ?_, ?_⟩
          · simp only [AI.pre, e0, hs, h5]
            refine ⟨h6, ?_, h2.2⟩
            unfold upd; rw [if_neg (Ne.symm hne)]; exact h2.1
          · simp only [AI.out, e0, hs, h5]
          · simp only [AI.hpw, e0, hs, h5, hz, if_false]
            exact upd_comm (by omega)
    · rename_i r v hs
      split at h2
      · rename_i ver' k' nn cs hr
        obtain ⟨rfl, rfl, h7⟩ := h2
        refine ⟨fun hn => ?_, fun q hq => ?_, fun d' o hd hne => ?_⟩
        · simp only [AI.hpw, hs, hr]
          exact upd_old (o := .row ver k' _ _) rfl hn
        · simp only [AI.hpw, hs, hr] at hq
          split at hq
          · cases hq
          · exact hq
        · obtain ⟨h5, h6⟩ := hsl d' o hd
          have hrd : r ≠ d' := by intro e; subst e; rw [hr] at hd; cases hd
          have hr' : upd hp d' o r = .row ver' k' nn cs := by unfold upd; rw [if_neg hrd]; exact hr
          refine ⟨?_, ?_, ?_⟩
          · simp only [AI.pre, e0, hs, h5, hr']
            exact ⟨h6, trivial, trivial, h7⟩
          · simp only [AI.out, e0, hs]
          · simp only [AI.hpw, e0, hs, h5, hr, hr']
            exact upd_comm (by omega)
      · exact h2.elim
    · exact h2.elim
  | bsl k fz xs => cases fz <;> simp [AI.cl] at hx
  | _ => simp [AI.cl] at hx

theorem b_old {x : AI} (hx : x.cl = .b) {ver d : Nat} (hn : ¬ U ver) : Old U hp (x.hpw ⟨tm, hp⟩ ver d) := by
  cases x with
  | bsl k fz xs =>
    intro r v hu hv
    simp only [AI.hpw] at hv ⊢
    by_cases e : r = d
    · rw [if_pos e] at hv
      simp only [AObj.ver, Option.some.injEq] at hv; subst hv; exact absurd hu hn
    · rw [if_neg e] at hv ⊢
      split at hv
      · cases hv
      · rename_i h; rw [if_neg h]
  | bsln nos k xs =>
    intro r v hu hv
    simp only [AI.hpw] at hv ⊢
    by_cases e : r = d
    · rw [if_pos e] at hv
      simp only [AObj.ver, Option.some.injEq] at hv; subst hv; exact absurd hu hn
    · rw [if_neg e] at hv ⊢
      split at hv
      · cases hv
      · rename_i h; rw [if_neg h]
  | _ => simp [AI.cl] at hx

theorem owned_mem' {r : Nat} : ∀ {cs : List AVal}, r ∈ owned cs → ∃ v, AVal.own r v ∈ cs
  | [], h => by simp [owned] at h
  | A :: cs, h => by
    have key : r ∈ owned cs → ∃ v, AVal.own r v ∈ A :: cs := fun h => by
      obtain ⟨v, hv⟩ := owned_mem' h
      exact ⟨v, List.mem_cons_of_mem _ hv⟩
    cases A with
    | own r' v' =>
      simp only [owned, List.mem_cons] at h
      rcases h with rfl | h
      · exact ⟨v', by simp⟩
      · exact key h
    | _ => exact key (by simpa only [owned] using h)

/-- A variable stays as it is where a row is made or grows. -/
theorem keep_box {y : AI} (hy : y.cl = .w ∨ y.cl = .b) {ver d r v : Nat} {cs : List AVal} (h : y.pre ⟨tm, hp⟩ d) (hr : hp r = .box v cs) : y.hpw ⟨tm, hp⟩ ver d r = hp r := by
  cases y with
  | app k by' s y =>
    simp only [AI.pre] at h
    obtain ⟨_, h2⟩ := h
    split at h2
    · rename_i hs
      simp only [AI.hpw, hs]
      split
      · rfl
      · show (if r = d then _ else hp r) = hp r
        rw [if_neg]
        intro e; subst e
        have h2' : hp r = .gone := h2.1
        rw [hr] at h2'; cases h2'
    · rename_i r' v' hs
      simp only [AI.hpw, hs]
      split at h2
      · rename_i ver' k' nn cs' hr'
        simp only [hr']
        rw [if_neg]
        intro e; subst e
        rw [hr] at hr'; cases hr'
      · exact h2.elim
    · exact h2.elim
  | bsl k fz xs =>
    obtain ⟨h1, h2, h3, h4⟩ := h
    simp only [AI.hpw]
    rw [if_neg, if_neg]
    · intro hm
      obtain ⟨v', hv'⟩ := owned_mem' hm
      obtain ⟨x, hx, hxc⟩ := List.mem_flatMap.1 hv'
      obtain ⟨k', nn, cs', hr'⟩ := (h3 x hx).2 _ hxc
      have hr'' : hp r = .row v' k' nn cs' := hr'
      rw [hr] at hr''; cases hr''
    · intro e; subst e
      have h2' : hp r = .gone := h2
      rw [hr] at h2'; cases h2'
  | bsln nos k xs =>
    obtain ⟨h1, h2, h3, h4⟩ := h
    simp only [AI.hpw]
    rw [if_neg, if_neg]
    · intro hm
      obtain ⟨v', hv'⟩ := owned_mem' hm
      obtain ⟨x, hx, hxc⟩ := List.mem_flatMap.1 hv'
      obtain ⟨k', nn, cs', hr'⟩ := (h3 x hx).2 _ hxc
      have hr'' : hp r = .row v' k' nn cs' := hr'
      rw [hr] at hr''; cases hr''
    · intro e; subst e
      have h2' : hp r = .gone := h2
      rw [hr] at h2'; cases h2'
  | _ => rcases hy with h | h <;> simp [AI.cl] at h

/-- A row of rows that is made, and an object that is made behind it. -/
theorem bn_made {nos : List Nat} {k : Nat} {xs : List AOpd} {d ver d' : Nat} {o : AObj} (h : AI.pre ⟨tm, hp⟩ d (.bsln nos k xs)) (hd : hp d' = .gone) (hne : d' ≠ d) :
    AI.pre ⟨tm, upd hp d' o⟩ d (.bsln nos k xs) ∧ AI.hpw ⟨tm, upd hp d' o⟩ ver d (.bsln nos k xs) = upd (AI.hpw ⟨tm, hp⟩ ver d (.bsln nos k xs)) d' o := by
  have e0 : ∀ a, St.ev ⟨tm, upd hp d' o⟩ a = St.ev ⟨tm, hp⟩ a := fun a => ev_hp _ _ a
  have ef : (xs.flatMap fun y => (St.ev ⟨tm, upd hp d' o⟩ y).cells) = xs.flatMap fun y => (St.ev ⟨tm, hp⟩ y).cells := by
    rw [List.flatMap_def, List.flatMap_def]
    exact congrArg List.flatten (List.map_congr_left fun y _ => by rw [e0])
  obtain ⟨h1, h2, h3, h4⟩ := h
  have hrow : ∀ r v, AVal.own r v ∈ (xs.flatMap fun y => (St.ev ⟨tm, hp⟩ y).cells) → r ≠ d' := by
    intro r v hm e
    obtain ⟨x, hx, hxc⟩ := List.mem_flatMap.1 hm
    obtain ⟨k', nn, cs', hr'⟩ := (h3 x hx).2 _ hxc
    have hr'' : hp r = .row v k' nn cs' := hr'
    rw [e, hd] at hr''; cases hr''
  have hno : d' ∉ owned (xs.flatMap fun y => (St.ev ⟨tm, hp⟩ y).cells) := fun hm => by
    obtain ⟨v, hv⟩ := owned_mem' hm
    exact hrow _ _ hv rfl
  refine ⟨⟨by rw [ef]; exact h1, ?_, fun y hy => ?_, by rw [ef]; exact h4⟩, ?_⟩
  · show upd hp d' o d = .gone
    unfold upd; rw [if_neg (Ne.symm hne)]; exact h2
  · rw [e0]
    refine ⟨(h3 y hy).1, fun A hA => ?_⟩
    exact one_old (U := fun _ => True) (old_of_grow (upd_grow (o := o) hd)) (any_uses A) ((h3 y hy).2 A hA)
  · have efr : (xs.flatMap fun y => (St.ev ⟨tm, hp⟩ y).cells).map (frz (upd hp d' o)) = (xs.flatMap fun y => (St.ev ⟨tm, hp⟩ y).cells).map (frz hp) := by
      refine List.map_congr_left fun B hB => ?_
      cases B with
      | own r v =>
        have : upd hp d' o r = hp r := by unfold upd; rw [if_neg (hrow r v hB)]
        simp only [frz, this]
      | _ => rfl
    simp only [AI.hpw, ef, efr]
    funext n
    unfold upd
    by_cases e1 : n = d
    · subst e1; simp [Ne.symm hne]
    · by_cases e2 : n = d'
      · subst e2; simp [e1, hno]
      · simp [e1, e2]

theorem bx_pre {x : AI} (hx : x.bx = true) {d ver : Nat} {hp' : Nat → AObj} (hk : ∀ r v cs, hp r = .box v cs → hp' r = hp r) (h : x.pre ⟨tm, hp⟩ d) :
    x.pre ⟨tm, hp'⟩ d ∧ x.out ⟨tm, hp'⟩ ver d = x.out ⟨tm, hp⟩ ver d := by
  have e0 : ∀ o, St.ev ⟨tm, hp'⟩ o = St.ev ⟨tm, hp⟩ o := fun o => ev_hp _ _ o
  cases x with
  | ldb a =>
    simp only [AI.pre, AI.out, e0] at h ⊢
    split at h
    · rename_i r v off he
      split at h
      · rename_i v' cs hr
        have h2 := (hk r v' cs hr).trans hr
        simp only [he, St.at, h2, hr]; exact ⟨h, trivial⟩
      · exact h.elim
    · rename_i cs off he
      simp only [he, St.at]; exact ⟨h, trivial⟩
    · exact h.elim
  | fadb off a =>
    simp only [AI.pre, AI.out, e0] at h ⊢
    split at h
    · rename_i r v off he
      split at h
      · rename_i v' cs hr
        have h2 := (hk r v' cs hr).trans hr
        simp only [he, h2]; exact ⟨h, trivial⟩
      · exact h.elim
    · rename_i cs off he
      exact ⟨trivial, trivial⟩
    · exact h.elim
  | _ => simp [AI.bx] at hx

theorem bx_l {x : AI} (hx : x.bx = true) : x.cl = .l := by cases x <;> simp [AI.bx] at hx <;> rfl

theorem cl_ne_c (x : AI) : x.cl ≠ .c := by
  cases x with
  | bsl k fz xs => cases fz <;> simp [AI.cl]
  | _ => simp [AI.cl]

/-- Which classes may change places: the first stands first in the text. -/
def commC : Cl → Cl → Bool
  | .n, _ | _, .n => true
  | .l, .l | .l, .a | .l, .c | .a, .l | .a, .a | .a, .c | .w, .l | .w, .a | .b, .l | .c, .l | .c, .a => true
  | _, _ => false

theorem det_swap {x y : AI} {vx vy dx dy : Nat} (hc : commC x.cl y.cl = true) (hu : ∀ o ∈ y.opds, (St.ev ⟨tm, hp⟩ o).uses U) (hvx : ¬ U vx) (hd : dx ≠ dy ∨ x.cl = .n ∨ y.cl = .n ∨ x.cl = .l ∨ y.cl = .l)
    (h1 : x.pre ⟨tm, hp⟩ dx) (h2 : y.pre ⟨tm, x.hpw ⟨tm, hp⟩ vx dx⟩ dy) :
    y.pre ⟨tm, hp⟩ dy ∧ x.pre ⟨tm, y.hpw ⟨tm, hp⟩ vy dy⟩ dx ∧ x.out ⟨tm, y.hpw ⟨tm, hp⟩ vy dy⟩ vx dx = x.out ⟨tm, hp⟩ vx dx ∧
    y.out ⟨tm, hp⟩ vy dy = y.out ⟨tm, x.hpw ⟨tm, hp⟩ vx dx⟩ vy dy ∧ x.hpw ⟨tm, y.hpw ⟨tm, hp⟩ vy dy⟩ vx dx = y.hpw ⟨tm, x.hpw ⟨tm, hp⟩ vx dx⟩ vy dy := by
  have hold : x.cl = .l ∨ x.cl = .a ∨ x.cl = .w ∨ x.cl = .b → Old U hp (x.hpw ⟨tm, hp⟩ vx dx) := by
    rintro (h | h | h | h)
    · rw [l_hpw (.inl h)]; exact fun _ _ _ _ => rfl
    · obtain ⟨_, o, ho, hh⟩ := a_made h (ver := vx) h1
      rw [(hh hp).1]; exact upd_old ho hvx
    · exact (w_made h h1).1 hvx
    · exact b_old h hvx
  by_cases hxn : x.cl = .n
  · have e1 : ∀ q, x.hpw ⟨tm, q⟩ vx dx = q := fun q => l_hpw (.inr hxn)
    rw [e1] at h2 ⊢
    refine ⟨h2, ?_, ?_, rfl, ?_⟩
    · rw [(n_hp (ver := vx) hxn).1]; exact h1
    · exact (n_hp (ver := vx) (d := dx) hxn).2
    · rw [e1]
  by_cases hyl : y.cl = .l ∨ y.cl = .n
  · have e1 : ∀ q, y.hpw ⟨tm, q⟩ vy dy = q := fun q => l_hpw hyl
    rw [e1, e1]
    have hh : y.pre ⟨tm, hp⟩ dy ∧ y.out ⟨tm, hp⟩ vy dy = y.out ⟨tm, x.hpw ⟨tm, hp⟩ vx dx⟩ vy dy := by
      rcases hyl with h | h
      · refine l_old (.inl h) (hold ?_) (fun o ho => hu o ho) h2
        cases hx : x.cl <;> simp [hx, h, commC] at hc ⊢
        · exact hxn hx
        · exact cl_ne_c x hx
      · have h3 := n_hp (tm := tm) (hp := hp) (hp' := x.hpw ⟨tm, hp⟩ vx dx) (ver := vy) (d := dy) h
        exact ⟨by rw [h3.1]; exact h2, h3.2⟩
    exact ⟨hh.1, h1, rfl, hh.2, rfl⟩
  have hya : y.cl = .a := by
    cases hx : x.cl <;> cases hy : y.cl <;> simp [hx, hy, commC] at hc hxn hyl ⊢
    all_goals (exfalso; cases y <;> simp [AI.cl] at hy; try (rename_i q _; cases q <;> simp [AI.cl] at hy))
  obtain ⟨hg1, o, ho, hh⟩ := a_made hya (ver := vy) h2
  have hxk : x.cl = .l ∨ x.cl = .a ∨ x.cl = .w := by
    cases hx : x.cl <;> simp [hx, hya, commC] at hc hxn ⊢
    exfalso; cases x <;> simp [AI.cl] at hx; rename_i q _; cases q <;> simp [AI.cl] at hx
  have key : hp dy = .gone ∧ ∀ o, x.pre ⟨tm, upd hp dy o⟩ dx ∧ x.out ⟨tm, upd hp dy o⟩ vx dx = x.out ⟨tm, hp⟩ vx dx ∧ x.hpw ⟨tm, upd hp dy o⟩ vx dx = upd (x.hpw ⟨tm, hp⟩ vx dx) dy o := by
    rcases hxk with h | h | h
    · rw [l_hpw (.inl h)] at hg1 ⊢
      refine ⟨hg1, fun o => ?_⟩
      have h3 := l_old (U := fun _ => True) (tm := tm) (ver := vx) (.inl h) (old_of_grow (upd_grow (o := o) hg1)) (fun _ _ => any_uses _) h1
      exact ⟨h3.1, h3.2, l_hpw (.inl h)⟩
    · have hne : dx ≠ dy := by
        rcases hd with h5 | h5 | h5 | h5 | h5
        · exact h5
        · rw [h] at h5; cases h5
        · rw [hya] at h5; cases h5
        · rw [h] at h5; cases h5
        · rw [hya] at h5; cases h5
      obtain ⟨hgx, ox, hox, hhx⟩ := a_made h (ver := vx) h1
      have hgy : hp dy = .gone := by
        rw [(hhx hp).1] at hg1
        simp only [if_neg (Ne.symm hne)] at hg1; exact hg1
      refine ⟨hgy, fun o => ⟨(hhx _).2.2 ?_, (hhx _).2.1, ?_⟩⟩
      · unfold upd; rw [if_neg hne]; exact hgx
      · rw [(hhx _).1, (hhx hp).1]
        exact upd_comm (by omega)
    · have hne : dx ≠ dy := by
        rcases hd with h5 | h5 | h5 | h5 | h5
        · exact h5
        · rw [h] at h5; cases h5
        · rw [hya] at h5; cases h5
        · rw [h] at h5; cases h5
        · rw [hya] at h5; cases h5
      obtain ⟨_, h6, h7⟩ := w_made (U := U) h (ver := vx) h1
      have hgy := h6 _ hg1
      exact ⟨hgy, fun o => h7 dy o hgy (Ne.symm hne)⟩
  obtain ⟨hgy, hk⟩ := key
  have e2 : ∀ q, y.hpw ⟨tm, q⟩ vy dy = upd q dy o := fun q => (hh q).1
  rw [e2, e2]
  obtain ⟨k1, k2, k3⟩ := hk o
  exact ⟨(hh hp).2.2 hgy, k1, k2, (hh hp).2.1, k3⟩

end
end Go.Ab
