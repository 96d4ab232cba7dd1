/- Operations that may change places: calls, guards. Conditions: none. -/
import Derived.Test.YtcijodimbjapeaaAb21
set_option linter.all false
namespace Go.Ab
set_option maxRecDepth 20000

section
variable {P : Program} {U : Nat → Prop} {hp hp' : Nat → AObj} {tm : Nat → AVal}

mutual
theorem coe_old (hO : Old U hp hp') (hU : ∀ r v, U v → (hp r).ver = some v → (hp r).uses U) {len : Bool} : ∀ (B A : AVal), A.uses U → Coe hp' [] len B A → Coe hp [] len B A
  | .any, _, _, _ => by simp only [Coe]
  | .val x, A, _, h => by simpa only [Coe] using h
  | .ro nm k cs, A, hu, h => by
    simp only [Coe] at h ⊢
    obtain ⟨h1, h2, h3⟩ := h
    refine ⟨?_, h2, ?_⟩
    · rcases h1 with h1 | h1 | ⟨h1, h1', h5 | ⟨r, v, k', cs', rfl, h5⟩⟩
      · exact .inl h1
      · exact .inr (.inl h1)
      · exact .inr (.inr ⟨h1, h1', .inl h5⟩)
      · refine .inr (.inr ⟨h1, h1', .inr ⟨r, v, k', cs', rfl, ?_⟩⟩)
        simp only [AVal.uses] at hu
        rw [hO r v hu (by rw [h5]; rfl)]; exact h5
    rcases h3 with ⟨nm', cs', rfl, h4⟩ | h3 | ⟨hl, r, v, nn, cs', rfl, h5, h6, h7⟩
    · refine .inl ⟨nm', cs', rfl, coeL_old hO hU cs cs' ?_ h4⟩
      simp only [AVal.uses] at hu; exact hu.2
    · exact .inr (.inl h3)
    · simp only [AVal.uses] at hu
      have h8 := hO r v hu (by rw [h6]; rfl)
      refine .inr (.inr ⟨hl, r, v, nn, cs', rfl, h5, h8.trans h6, coeL_old hO hU cs cs' ?_ h7⟩)
      have h9 := hU r v hu (by rw [h8, h6]; rfl)
      rw [h8, h6] at h9
      exact h9.2
  | .own r v, A, _, h => by
    simp only [Coe] at h
    obtain ⟨j, r', v', _, _, h3, _⟩ := h
    simp at h3
  | .st cs, A, hu, h => by
    simp only [Coe] at h ⊢
    rcases h with ⟨cs', rfl, h4⟩ | ⟨vs, rfl, h4⟩
    · exact .inl ⟨cs', rfl, coeL_old hO hU cs cs' (by simpa only [AVal.uses] using hu) h4⟩
    · refine .inr ⟨vs, rfl, coeL_old hO hU cs _ ?_ h4⟩
      exact usesL_of_mem fun A hA => by simp only [List.mem_map] at hA; obtain ⟨v, _, rfl⟩ := hA; simp [AVal.uses]
  | .tup _, _, _, h => by simp only [Coe] at h
  | .ptr r v off, A, _, h => by
    simp only [Coe] at h
    obtain ⟨j, r', v', _, _, h3, _⟩ := h
    simp at h3
  | .rp cs off, A, hu, h => by
    simp only [Coe] at h ⊢
    rcases h with ⟨cs', rfl, h4⟩ | ⟨hl, r, v, cs', rfl, h5, h6, h7⟩
    · exact .inl ⟨cs', rfl, coeL_old hO hU cs cs' (by simpa only [AVal.uses] using hu) h4⟩
    · simp only [AVal.uses] at hu
      have h8 := hO r v hu (by rw [h6]; rfl)
      refine .inr ⟨hl, r, v, cs', rfl, h5, h8.trans h6, coeL_old hO hU cs cs' ?_ h7⟩
      have h9 := hU r v hu (by rw [h8, h6]; rfl)
      rw [h8, h6] at h9
      exact h9.2
  | .mp r v, A, _, h => by
    simp only [Coe] at h
    obtain ⟨j, r', v', _, _, h3, _⟩ := h
    simp at h3
  | .clo f caps, A, hu, h => by
    simp only [Coe] at h ⊢
    obtain ⟨cs', rfl, h4⟩ := h
    exact ⟨cs', rfl, coeL_old hO hU caps cs' (by simpa only [AVal.uses] using hu) h4⟩
theorem coeL_old (hO : Old U hp hp') (hU : ∀ r v, U v → (hp r).ver = some v → (hp r).uses U) {len : Bool} : ∀ (Bs As : List AVal), usesL U As → CoeL hp' [] len Bs As → CoeL hp [] len Bs As
  | [], _, _, h => by simpa only [CoeL] using h
  | B :: Bs, As, hu, h => by
    simp only [CoeL] at h ⊢
    obtain ⟨A, As', rfl, h1, h2⟩ := h
    simp only [usesL] at hu
    exact ⟨A, As', rfl, coe_old hO hU B A hu.1 h1, coeL_old hO hU Bs As' hu.2 h2⟩
end

theorem anyObj_uses (o : AObj) : o.uses fun _ => True := by
  cases o with
  | gone => trivial
  | box v cs => exact ⟨trivial, usesL_of_mem fun A _ => any_uses A⟩
  | row v k nn cs => exact ⟨trivial, usesL_of_mem fun A _ => any_uses A⟩
  | map v ks vs => exact ⟨trivial, usesL_of_mem fun A _ => any_uses A⟩

theorem coeL_grow (h : ∀ r, hp r ≠ .gone → hp' r = hp r) {len : Bool} {Bs As : List AVal} (hc : CoeL hp [] len Bs As) : CoeL hp' [] len Bs As :=
  coeL_old (old_of_grow h) (fun r _ _ _ => anyObj_uses _) Bs As (usesL_of_mem fun A _ => any_uses A) hc

section
variable {d : Nat} {s : Nat → Nat} {outs rows : List AObj}

theorem rid_nil {q n : Nat} (h : rid [] d rows.length q = some n) : ∃ i, i < rows.length ∧ n = newId d i := by
  rcases rid_cases h with ⟨j, _, _, h1⟩ | ⟨i, _, h1, h2⟩
  · simp at h1
  · exact ⟨i, h1, h2⟩

theorem call_grow (hi : ∀ i, i < rows.length → hp (newId d i) = .gone) : ∀ r, hp r ≠ .gone → callHp hp [] d s outs rows r = hp r := by
  intro r hr
  refine callHp_not ?_
  rintro ⟨q, hq⟩
  obtain ⟨i, h1, rfl⟩ := rid_nil hq
  exact hr (hi i h1)

theorem call_old (hs : ∀ j, ¬ U (s j)) : Old U hp (callHp hp [] d s outs rows) := by
  intro r v hu hv
  by_cases h : ∃ q, rid [] d rows.length q = some r
  · unfold callHp at hv
    rw [dif_pos h, AObj.ren_ver, sv_nil, Option.map_eq_some_iff] at hv
    obtain ⟨y, _, rfl⟩ := hv
    exact absurd hu (hs y)
  · exact (callHp_not h).symm

theorem call_gone (hi : ∀ i, i < rows.length → hp (newId d i) = .gone) {r : Nat} (h : callHp hp [] d s outs rows r = .gone) : hp r = .gone := by
  by_cases h1 : hp r = .gone
  · exact h1
  · rw [call_grow hi r h1] at h; exact absurd h h1

theorem call_upd {d' : Nat} {o : AObj} (hn : ∀ i, i < rows.length → newId d i ≠ d') : callHp (upd hp d' o) [] d s outs rows = upd (callHp hp [] d s outs rows) d' o := by
  funext n
  by_cases h : ∃ q, rid [] d rows.length q = some n
  · obtain ⟨q, hq⟩ := h
    obtain ⟨i, h1, h2⟩ := rid_nil hq
    have hne : n ≠ d' := by rw [h2]; exact hn i h1
    unfold upd
    rw [if_neg hne]
    unfold callHp
    rw [dif_pos ⟨q, hq⟩, dif_pos ⟨q, hq⟩, sv_nil, sv_nil]
  · rw [callHp_not h]
    unfold upd
    by_cases e : n = d'
    · rw [if_pos e, if_pos e]
    · rw [if_neg e, if_neg e, callHp_not h]
end

theorem sp_mono {s : Nat → Nat} {d : Nat} {k k' : AVal → (Nat → AObj) → Prop} {g : FuncId} {As : List AVal} (h : ∀ A q, k A q → k' A q) (hh : Sp P s d tm hp k g As) : Sp P s d tm hp k' g As := by
  obtain ⟨ins, args, sh, R, h1, h2, h3, h4, h5⟩ := hh
  exact ⟨ins, args, sh, R, h1, h2, h3, h4, fun outs rows res hR => ⟨(h5 outs rows res hR).1, (h5 outs rows res hR).2.1, (h5 outs rows res hR).2.2.1, h _ _ (h5 outs rows res hR).2.2.2⟩⟩

theorem si_mono {s : Nat → Nat} {d : Nat} {k k' : AVal → (Nat → AObj) → Prop} {y : AIns} (h : ∀ A q, k A q → k' A q) (hh : Si P s d tm hp k y) : Si P s d tm hp k' y := by
  cases y with
  | i x => exact ⟨hh.1, h _ _ hh.2⟩
  | call g xs => exact sp_mono (tm := tm) h hh
  | calv f xs =>
    simp only [Si] at hh ⊢
    split at hh
    · exact sp_mono (tm := tm) h hh
    · exact hh.elim

/-- A call, whichever way it is written. -/
theorem si_call {y : AIns} (hy : y.cl = .c) : (∃ g As, ((∀ o ∈ y.opds, (St.ev ⟨tm, hp⟩ o).uses U) → usesL U As) ∧ ∀ s d q k, Si P s d tm q k y ↔ Sp P s d tm q k g As) ∨ ∀ s d q k, ¬ Si P s d tm q k y := by
  cases y with
  | i x => exact absurd hy (cl_ne_c x)
  | call g xs =>
    refine .inl ⟨g, xs.map (St.ev ⟨tm, hp⟩), ?_, ?_⟩
    · intro h
      refine usesL_of_mem fun A hA => ?_
      simp only [List.mem_map] at hA
      obtain ⟨o, ho, rfl⟩ := hA
      exact h o ho
    · intro s d q k
      have : xs.map (St.ev ⟨tm, q⟩) = xs.map (St.ev ⟨tm, hp⟩) := List.map_congr_left fun o _ => ev_hp _ _ o
      simp only [Si, this]
  | calv f xs =>
    cases hf : St.ev ⟨tm, hp⟩ f with
    | clo g caps =>
      refine .inl ⟨g, xs.map (St.ev ⟨tm, hp⟩) ++ caps, ?_, ?_⟩
      · intro h
        refine usesL_of_mem fun A hA => ?_
        simp only [List.mem_append, List.mem_map] at hA
        rcases hA with ⟨o, ho, rfl⟩ | hA
        · exact h o (by simp [AIns.opds, ho])
        · have h1 := h f (by simp [AIns.opds])
          rw [hf] at h1
          simp only [AVal.uses] at h1
          exact usesL_mem h1 A hA
      · intro s d q k
        have : xs.map (St.ev ⟨tm, q⟩) = xs.map (St.ev ⟨tm, hp⟩) := List.map_congr_left fun o _ => ev_hp _ _ o
        have h2 : St.ev ⟨tm, q⟩ f = .clo g caps := (ev_hp _ _ f).trans hf
        simp only [Si, this, h2]
    | _ =>
      refine .inr fun s d q k h => ?_
      have h2 := (ev_hp q hp f).trans hf
      simp [Si, h2] at h

/-- It leaves old objects alone. -/
theorem si_old {s : Nat → Nat} {d : Nat} {k : AVal → (Nat → AObj) → Prop} {y : AIns} (hs : ∀ j, ¬ U (s j)) (hy : y.cl ≠ .x) (h : Si P s d tm hp k y) : Si P s d tm hp (fun A q => k A q ∧ Old U hp q) y := by
  by_cases hc : y.cl = .c
  · rcases si_call (P := P) (U := U) (tm := tm) (hp := hp) hc with ⟨g, As, _, hiff⟩ | hno
    · rw [hiff] at h ⊢
      obtain ⟨ins, args, sh, R, h1, h2, h3, h4, h5⟩ := h
      refine ⟨ins, args, sh, R, h1, h2, h3, h4, fun outs rows res hR => ?_⟩
      obtain ⟨h6, h7, h8, h9⟩ := h5 outs rows res hR
      exact ⟨h6, h7, h8, h9, call_old hs⟩
    · exact absurd h (hno _ _ _ _)
  · cases y with
    | i x =>
      obtain ⟨h1, h2⟩ := h
      refine ⟨h1, h2, ?_⟩
      cases hx : x.cl with
      | n => rw [l_hpw (.inr hx)]; exact fun _ _ _ _ => rfl
      | l => rw [l_hpw (.inl hx)]; exact fun _ _ _ _ => rfl
      | a =>
        obtain ⟨_, o, ho, hh⟩ := a_made hx (ver := s 0) h1
        rw [(hh hp).1]; exact upd_old ho (hs 0)
      | w => exact (w_made hx h1).1 (hs 0)
      | b => exact b_old hx (hs 0)
      | c => exact absurd hx (cl_ne_c x)
      | x => exact absurd hx hy
    | call g xs => exact absurd rfl hc
    | calv f xs => exact absurd rfl hc

theorem si_some {s : Nat → Nat} {d : Nat} {k : AVal → (Nat → AObj) → Prop} {y : AIns} (h : Si P s d tm hp k y) : ∃ A q, k A q := by
  by_cases hc : y.cl = .c
  · rcases si_call (P := P) (U := fun _ => True) (tm := tm) (hp := hp) hc with ⟨g, As, _, hiff⟩ | hno
    · rw [hiff] at h
      obtain ⟨ins, args, sh, R, h1, h2, h3, ⟨outs, rows, res, hR⟩, h5⟩ := h
      exact ⟨_, _, (h5 outs rows res hR).2.2.2⟩
    · exact absurd h (hno _ _ _ _)
  · cases y with
    | i x => exact ⟨_, _, h.2⟩
    | call g xs => exact absurd rfl hc
    | calv f xs => exact absurd rfl hc

/-- One that reads a variable, and one that makes a row or puts cells behind one. -/
theorem si_bx {x : AI} {y : AIns} {sx sy : Nat → Nat} {dx dy : Nat} {k : AVal → AVal → (Nat → AObj) → Prop} (hx : x.bx = true) (hy : y.cl = .w ∨ y.cl = .b)
    (h : Si P sx dx tm hp (fun A q => Si P sy dy tm q (k A) y) (.i x)) : Si P sy dy tm hp (fun B q => Si P sx dx tm q (fun A q' => k A B q') (.i x)) y := by
  cases y with
  | call g xs => rcases hy with h | h <;> cases h
  | calv f xs => rcases hy with h | h <;> cases h
  | i y =>
    have e1 : ∀ q, x.hpw ⟨tm, q⟩ (sx 0) dx = q := fun q => l_hpw (.inl (bx_l hx))
    obtain ⟨h1, h2, h3⟩ := h
    rw [e1] at h2 h3
    have hb := bx_pre (tm := tm) (ver := sx 0) hx (hp' := y.hpw ⟨tm, hp⟩ (sy 0) dy) (fun r v cs hr => keep_box hy h2 hr) h1
    refine ⟨h2, hb.1, ?_⟩
    rw [e1, hb.2]; exact h3

/-- A row of rows, and an object made behind it at a number that is not one of those rows'. -/
theorem si_bn {nos : List Nat} {kk : Nat} {xs : List AOpd} {y : AIns} {sx sy : Nat → Nat} {dx dy : Nat} {k : AVal → AVal → (Nat → AObj) → Prop} (hy : y.cl = .a) (hm : dy ∈ nos) (hne : dx ≠ dy)
    (h : Si P sx dx tm hp (fun A q => Si P sy dy tm q (k A) y) (.i (.bsln nos kk xs))) : Si P sy dy tm hp (fun B q => Si P sx dx tm q (fun A q' => k A B q') (.i (.bsln nos kk xs))) y := by
  cases y with
  | call g xs => cases hy
  | calv f xs => cases hy
  | i y =>
    obtain ⟨h1, h2, h3⟩ := h
    obtain ⟨hg1, o, ho, hh⟩ := a_made (x := y) hy (ver := sy 0) h2
    have hgy : hp dy = .gone := by
      simp only [AI.hpw] at hg1
      rw [if_neg (Ne.symm hne), if_neg (h1.1 dy hm)] at hg1
      exact hg1
    have e2 : ∀ q, y.hpw ⟨tm, q⟩ (sy 0) dy = upd q dy o := fun q => (hh q).1
    obtain ⟨b1, b2⟩ := bn_made (ver := sx 0) (o := o) h1 hgy (Ne.symm hne)
    refine ⟨(hh hp).2.2 hgy, ?_, ?_⟩
    · rw [e2]; exact b1
    · rw [e2, b2, (hh hp).2.1]
      rw [e2] at h3
      exact h3

/-- TWO THAT MAY CHANGE PLACES. -/
theorem si_swap {x y : AIns} {sx sy : Nat → Nat} {dx dy : Nat} {k : AVal → AVal → (Nat → AObj) → Prop} (hc : commC x.cl y.cl = true) (hu : ∀ o ∈ y.opds, (St.ev ⟨tm, hp⟩ o).uses U)
    (hU : ∀ r v, U v → (hp r).ver = some v → (hp r).uses U) (hsx : ∀ j, ¬ U (sx j)) (hd : (dx ≠ dy ∧ dx < 1000 ∧ dy < 1000) ∨ x.cl = .n ∨ y.cl = .n ∨ x.cl = .l ∨ y.cl = .l)
    (h : Si P sx dx tm hp (fun A q => Si P sy dy tm q (k A) y) x) : Si P sy dy tm hp (fun B q => Si P sx dx tm q (fun A q' => k A B q') x) y := by
  by_cases hyc : y.cl = .c
  · rcases si_call (P := P) (U := U) (tm := tm) (hp := hp) hyc with ⟨g, As, hAs, hiff⟩ | hno
    · rw [hiff]
      cases x with
      | i x =>
        obtain ⟨h1, h2⟩ := h
        rw [hiff] at h2
        have hxk : x.cl = .n ∨ x.cl = .l ∨ x.cl = .a := by
          have e : (AIns.i x).cl = x.cl := rfl
          cases hx : x.cl <;> simp [e, hx, hyc, commC] at hc ⊢
        by_cases hxa : x.cl = .a
        · obtain ⟨hg, o, ho, hh⟩ := a_made hxa (ver := sx 0) h1
          have e1 : ∀ q, x.hpw ⟨tm, q⟩ (sx 0) dx = upd q dx o := fun q => (hh q).1
          rw [e1] at h2
          have hoo : o ≠ .gone := ver_ne_gone ho
          obtain ⟨ins, args, sh, R, k1, k2, k3, k4, k5⟩ := h2
          refine ⟨ins, args, sh, R, k1, k2, coeL_old (upd_old ho (hsx 0)) hU _ _ (hAs hu) k3, k4, fun outs rows res hR => ?_⟩
          obtain ⟨h6, h7, h8, h9⟩ := k5 outs rows res hR
          have hne : ∀ i, i < rows.length → newId dy i ≠ dx := by
            intro i hi e
            have := h8 i hi
            rw [e] at this
            unfold upd at this
            rw [if_pos rfl] at this; exact hoo this
          have hi : ∀ i, i < rows.length → hp (newId dy i) = .gone := by
            intro i hi
            have := h8 i hi
            unfold upd at this
            rw [if_neg (hne i hi)] at this; exact this
          refine ⟨h6, h7, hi, ?_⟩
          have hgx : callHp hp [] dy sy outs rows dx = .gone := by
            rw [callHp_not]
            · exact hg
            · rintro ⟨q, hq⟩
              obtain ⟨i, h10, h11⟩ := rid_nil hq
              exact hne i h10 h11.symm
          refine ⟨(hh _).2.2 hgx, ?_⟩
          rw [e1, (hh _).2.1, ← call_upd hne]
          exact h9
        · have hxl : x.cl = .l ∨ x.cl = .n := by
            rcases hxk with h3 | h3 | h3
            · exact .inr h3
            · exact .inl h3
            · exact absurd h3 hxa
          have e1 : ∀ q, x.hpw ⟨tm, q⟩ (sx 0) dx = q := fun q => l_hpw hxl
          rw [e1] at h2
          obtain ⟨ins, args, sh, R, k1, k2, k3, k4, k5⟩ := h2
          refine ⟨ins, args, sh, R, k1, k2, k3, k4, fun outs rows res hR => ?_⟩
          obtain ⟨h6, h7, h8, h9⟩ := k5 outs rows res hR
          have h10 := l_old (U := fun _ => True) (tm := tm) (ver := sx 0) hxl (old_of_grow (call_grow (s := sy) (outs := outs) h8)) (fun _ _ => any_uses _) h1
          refine ⟨h6, h7, h8, h10.1, ?_⟩
          rw [e1, h10.2]; exact h9
      | call g' xs => rw [hyc] at hc; exact absurd hc (by simp [AIns.cl, commC])
      | calv f xs => rw [hyc] at hc; exact absurd hc (by simp [AIns.cl, commC])
    · obtain ⟨A, q, h1⟩ := si_some h
      exact absurd h1 (hno _ _ _ _)
  cases y with
  | call g xs => exact absurd rfl hyc
  | calv f xs => exact absurd rfl hyc
  | i y =>
    by_cases hxc : x.cl = .c
    · rcases si_call (P := P) (U := U) (tm := tm) (hp := hp) hxc with ⟨g, As, hAs, hiff⟩ | hno
      · rw [hiff] at h
        obtain ⟨ins, args, sh, R, k1, k2, k3, k4, k5⟩ := h
        obtain ⟨o0, r0, z0, hR0⟩ := k4
        have hyk : y.cl = .n ∨ y.cl = .l ∨ y.cl = .a := by
          have e : (AIns.i y).cl = y.cl := rfl
          cases hx : y.cl <;> simp [e, hx, hxc, commC] at hc ⊢
        by_cases hya : y.cl = .a
        · have hdd : dx ≠ dy ∧ dx < 1000 ∧ dy < 1000 := by
            have e : (AIns.i y).cl = y.cl := rfl
            rcases hd with h3 | h3 | h3 | h3 | h3
            · exact h3
            · rw [hxc] at h3; cases h3
            · rw [e, hya] at h3; cases h3
            · rw [hxc] at h3; cases h3
            · rw [e, hya] at h3; cases h3
          have hne : ∀ i, newId dx i ≠ dy := by intro i; unfold newId; omega
          obtain ⟨_, _, h8, h9, _⟩ := k5 o0 r0 z0 hR0
          have hgy : hp dy = .gone := call_gone h8 (a_made hya (ver := sy 0) h9).1
          obtain ⟨_, o, ho, hh0⟩ := a_made hya (ver := sy 0) h9
          have hpre : y.pre ⟨tm, hp⟩ dy := (hh0 hp).2.2 hgy
          obtain ⟨_, o, ho, hh⟩ := a_made hya (ver := sy 0) hpre
          have e1 : ∀ q, y.hpw ⟨tm, q⟩ (sy 0) dy = upd q dy o := fun q => (hh q).1
          refine ⟨hpre, ?_⟩
          show Si P sx dx tm (y.hpw ⟨tm, hp⟩ (sy 0) dy) _ x
          rw [e1, hiff]
          refine ⟨ins, args, sh, R, k1, k2, coeL_grow (upd_grow hgy) k3, ⟨o0, r0, z0, hR0⟩, fun outs rows res hR => ?_⟩
          obtain ⟨h6, h7, h8, h9, h10⟩ := k5 outs rows res hR
          refine ⟨h6, h7, fun i hi => ?_, ?_⟩
          · unfold upd; rw [if_neg (hne i)]; exact h8 i hi
          · rw [call_upd fun i _ => hne i]
            rw [e1, (hh _).2.1] at h10
            exact h10
        · have hyl : y.cl = .l ∨ y.cl = .n := by
            rcases hyk with h3 | h3 | h3
            · exact .inr h3
            · exact .inl h3
            · exact absurd h3 hya
          have e1 : ∀ q, y.hpw ⟨tm, q⟩ (sy 0) dy = q := fun q => l_hpw hyl
          have hrd : ∀ outs rows, y.pre ⟨tm, callHp hp [] dx sx outs rows⟩ dy → y.pre ⟨tm, hp⟩ dy ∧ y.out ⟨tm, hp⟩ (sy 0) dy = y.out ⟨tm, callHp hp [] dx sx outs rows⟩ (sy 0) dy :=
            fun outs rows h9 => l_old (tm := tm) hyl (call_old hsx) hu h9
          obtain ⟨_, _, h8, h9, _⟩ := k5 o0 r0 z0 hR0
          refine ⟨(hrd _ _ h9).1, ?_⟩
          show Si P sx dx tm (y.hpw ⟨tm, hp⟩ (sy 0) dy) _ x
          rw [e1, hiff]
          refine ⟨ins, args, sh, R, k1, k2, k3, ⟨o0, r0, z0, hR0⟩, fun outs rows res hR => ?_⟩
          obtain ⟨h6, h7, h8, h9, h10⟩ := k5 outs rows res hR
          rw [e1, ← (hrd _ _ h9).2] at h10
          exact ⟨h6, h7, h8, h10⟩
      · exact absurd h (hno _ _ _ _)
    · cases x with
      | call g xs => exact absurd rfl hxc
      | calv f xs => exact absurd rfl hxc
      | i x =>
        obtain ⟨h1, h2, h3⟩ := h
        obtain ⟨k1, k2, k3, k4, k5⟩ := det_swap (vy := sy 0) (dy := dy) hc hu (hsx 0) (hd.imp (fun h => h.1) id) h1 h2
        refine ⟨k1, k2, ?_⟩
        rw [k3, k4, k5]; exact h3

end
end Go.Ab
