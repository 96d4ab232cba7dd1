/- What a caller has behind a call. Conditions: none. -/
import Derived.Test.YtcijodimbjapeaaAb13
set_option linter.all false
namespace Go.Ab
set_option maxRecDepth 20000

/-- The number of the i-th object that the call for slot d has made. -/
def newId (d i : Nat) : Nat := d + 1000 * i

/-- From the callee's numbers to the caller's. -/
def rid (m : List Nat) (d nr : Nat) : Nat → Option Nat := fun n =>
  if n < 5000 then none else if n < 6000 then m[n - 5000]? else if n < 6000 + nr then some (newId d (n - 6000)) else none

/-- From the callee's versions to the caller's. -/
def sv (hp : Nat → AObj) (m : List Nat) (s : Nat → Nat) : Nat → Nat := fun v => if v < m.length then ((hp (m.getD v 0)).ver).getD 0 else s v

open Classical in
/-- The objects behind a call. -/
noncomputable def callHp (hp : Nat → AObj) (m : List Nat) (d : Nat) (s : Nat → Nat) (outs rows : List AObj) : Nat → AObj := fun n =>
  if h : ∃ q, rid m d rows.length q = some n then (outHp outs rows (Classical.choose h)).ren (rid m d rows.length) (sv hp m s) else hp n

theorem rid_cases {m : List Nat} {d nr q n : Nat} (h : rid m d nr q = some n) : (∃ j, q = 5000 + j ∧ j < 1000 ∧ m[j]? = some n) ∨ (∃ i, q = 6000 + i ∧ i < nr ∧ n = newId d i) := by
  unfold rid at h
  by_cases h1 : q < 5000
  · rw [if_pos h1] at h; cases h
  · rw [if_neg h1] at h
    by_cases h2 : q < 6000
    · rw [if_pos h2] at h
      obtain ⟨j, hj⟩ : ∃ j, j = q - 5000 := ⟨_, rfl⟩
      rw [← hj] at h
      exact .inl ⟨j, by omega, by omega, h⟩
    · rw [if_neg h2] at h
      by_cases h3 : q < 6000 + nr
      · rw [if_pos h3] at h
        obtain ⟨j, hj⟩ : ∃ j, j = q - 6000 := ⟨_, rfl⟩
        rw [← hj] at h
        simp only [Option.some.injEq] at h
        exact .inr ⟨j, by omega, by omega, h.symm⟩
      · rw [if_neg h3] at h; cases h

theorem rid_m {m : List Nat} {d nr j n : Nat} (hj : j < 1000) (h : m[j]? = some n) : rid m d nr (5000 + j) = some n := by
  unfold rid
  rw [if_neg (by omega), if_pos (by omega)]
  have : 5000 + j - 5000 = j := by omega
  rw [this]; exact h

theorem rid_new {m : List Nat} {d nr i : Nat} (h : i < nr) : rid m d nr (6000 + i) = some (newId d i) := by
  unfold rid
  rw [if_neg (by omega), if_neg (by omega), if_pos (by omega)]
  have : 6000 + i - 6000 = i := by omega
  rw [this]

section
variable {P : Program} {w0 : World} {outsC : Nat → Prop} {c : Cz} {m : List Nat} {ins : List AObj} {sh : Bool} {d : Nat} {s : Nat → Nat} {outs rows : List AObj}

/-- The numbers are apart. -/
theorem rid_inj (hm : m.Nodup) (hnew : ∀ i, i < rows.length → newId d i ∉ m) {q q' n : Nat} (h : rid m d rows.length q = some n) (h' : rid m d rows.length q' = some n) : q = q' := by
  rcases rid_cases h with ⟨j, rfl, hj, h1⟩ | ⟨i, rfl, hi, h1⟩ <;> rcases rid_cases h' with ⟨j', rfl, hj', h2⟩ | ⟨i', rfl, hi', h2⟩
  · obtain ⟨p1, q1⟩ := List.getElem?_eq_some_iff.1 h1
    obtain ⟨p2, q2⟩ := List.getElem?_eq_some_iff.1 h2
    have := (List.getElem_inj hm).1 (q1.trans q2.symm)
    rw [this]
  · exact absurd (List.mem_of_getElem? h1) (h2 ▸ hnew i' hi')
  · exact absurd (List.mem_of_getElem? h2) (h1 ▸ hnew i hi)
  · have : newId d i = newId d i' := h1.symm.trans h2
    unfold newId at this
    have : i = i' := by omega
    rw [this]

theorem callHp_at (hm : m.Nodup) (hnew : ∀ i, i < rows.length → newId d i ∉ m) {hp : Nat → AObj} {q n : Nat} (h : rid m d rows.length q = some n) :
    callHp hp m d s outs rows n = (outHp outs rows q).ren (rid m d rows.length) (sv hp m s) := by
  have hex : ∃ q, rid m d rows.length q = some n := ⟨q, h⟩
  unfold callHp
  rw [dif_pos hex, rid_inj hm hnew (Classical.choose_spec hex) h]

theorem callHp_not {hp : Nat → AObj} {n : Nat} (h : ¬ ∃ q, rid m d rows.length q = some n) : callHp hp m d s outs rows n = hp n := by
  unfold callHp; rw [dif_neg h]

open Classical in
/-- The caller's state of things behind a call. -/
noncomputable def Cz.back (c c1 : Cz) (m : List Nat) (d : Nat) (s : Nat → Nat) (outs rows : List AObj) : Cz :=
  { w := c1.w, base := c.base, ext := c.ext, hp := callHp c.hp m d s outs rows,
    loc := fun n => if h : ∃ q, rid m d rows.length q = some n then c1.loc (Classical.choose h) else c.loc n,
    names := fun x => if h : ∃ y, c1.names y ≠ none ∧ x = sv c.hp m s y then c1.names (Classical.choose h) else c.names x, old := c.old,
    used := fun x => c.used x ∨ ∃ y, c1.used y ∧ x = sv c.hp m s y }

open Classical in
theorem back_good {c1 : Cz} (G : Good w0 outsC c) (H : Handed c.hp m ins (!sh)) (hs : ∀ y, ¬ c.used (s y)) (hsi : ∀ y y', s y = s y' → y = y')
    (G1 : Good (c.entry m ins (!sh)).w (fun b => lentB c m b) c1) (h1 : c1.hp = outHp outs rows) (hext : ∀ b, c1.ext b → (sh = true ∧ (c.entry m ins (!sh)).ext b) ∨ lentB c m b)
    (hkeep : ∀ r v, (c.entry m ins (!sh)).used v → (c1.hp r).ver = some v → ((c.entry m ins (!sh)).hp r).ver = some v ∧ c1.loc r = (c.entry m ins (!sh)).loc r)
    (hold : ∀ b, c1.old b → (c.entry m ins (!sh)).old b) (hlen : outs.length = m.length) (hr : rows.length ≤ 1000) (hnew : ∀ i, i < rows.length → c.hp (newId d i) = .gone) :
    Good w0 outsC (c.back c1 m d s outs rows) ∧ Keeps c (c.back c1 m d s outs rows) ∧ Ren false (rid m d rows.length) (sv c.hp m s) c1 (c.back c1 m d s outs rows) := by
  have hml : m.length ≤ 1000 := by rw [← H.length]; exact H.short
  have hnm : ∀ i, i < rows.length → newId d i ∉ m := fun i hi hmem => H.live _ hmem (hnew i hi)
  have hbase : c1.base = c.w.heap.size := G1.base.1
  have hsize : c.w.heap.size ≤ c1.w.heap.size := G1.size
  -- versions
  have hver : ∀ v, v < m.length → (c.hp (m.getD v 0)).ver = some (sv c.hp m s v) := by
    intro v hv
    have hmem : m.getD v 0 ∈ m := by
      rw [List.getD_eq_getElem?_getD, List.getElem?_eq_getElem hv]; exact List.getElem_mem hv
    have hl := H.live _ hmem
    unfold sv
    rw [if_pos hv]
    cases ho : c.hp (m.getD v 0) with
    | gone => exact absurd ho hl
    | _ => rfl
  have hsv : ∀ v, ¬ v < m.length → sv c.hp m s v = s v := by intro v hv; unfold sv; rw [if_neg hv]
  have hsvi : ∀ v v', sv c.hp m s v = sv c.hp m s v' → v = v' := by
    intro v v' e
    by_cases hv : v < m.length <;> by_cases hv' : v' < m.length
    · have e1 := hver v hv
      have e2 := hver v' hv'
      rw [e] at e1
      have e3 := G.verInj _ _ _ e1 e2
      rw [List.getD_eq_getElem?_getD, List.getElem?_eq_getElem hv, List.getD_eq_getElem?_getD, List.getElem?_eq_getElem hv'] at e3
      exact (List.getElem_inj H.nodup).1 e3
    · rw [hsv v' hv'] at e
      exact absurd (e ▸ (G.verU _ _ (hver v hv)).1) (hs v')
    · rw [hsv v hv] at e
      exact absurd (e.symm ▸ (G.verU _ _ (hver v' hv')).1) (hs v)
    · rw [hsv v hv, hsv v' hv'] at e; exact hsi _ _ e
  have hloc : ∀ q n, rid m d rows.length q = some n → (c.back c1 m d s outs rows).loc n = c1.loc q := by
    intro q n h
    have hex : ∃ q, rid m d rows.length q = some n := ⟨q, h⟩
    show (if h : ∃ q, rid m d rows.length q = some n then c1.loc (Classical.choose h) else c.loc n) = _
    rw [dif_pos hex, rid_inj H.nodup hnm (Classical.choose_spec hex) h]
  have hlocn : ∀ n, (¬ ∃ q, rid m d rows.length q = some n) → (c.back c1 m d s outs rows).loc n = c.loc n := by
    intro n h
    show (if h : ∃ q, rid m d rows.length q = some n then c1.loc (Classical.choose h) else c.loc n) = _
    rw [dif_neg h]
  have hhp : ∀ q n, rid m d rows.length q = some n → (c.back c1 m d s outs rows).hp n = (c1.hp q).ren (rid m d rows.length) (sv c.hp m s) := by
    intro q n h; rw [h1]; exact callHp_at H.nodup hnm h
  have hhpn : ∀ n, (¬ ∃ q, rid m d rows.length q = some n) → (c.back c1 m d s outs rows).hp n = c.hp n := fun n h => callHp_not h
  have hnames : ∀ y b, c1.names y = some b → (c.back c1 m d s outs rows).names (sv c.hp m s y) = some b := by
    intro y b h
    have hex : ∃ y', c1.names y' ≠ none ∧ sv c.hp m s y = sv c.hp m s y' := ⟨y, by rw [h]; simp, rfl⟩
    show (if h : ∃ y', c1.names y' ≠ none ∧ sv c.hp m s y = sv c.hp m s y' then c1.names (Classical.choose h) else c.names (sv c.hp m s y)) = _
    rw [dif_pos hex]
    have := hsvi _ _ (Classical.choose_spec hex).2
    rw [← this]; exact h
  have hnames' : ∀ x b, (c.back c1 m d s outs rows).names x = some b → (∃ y, x = sv c.hp m s y ∧ c1.names y = some b) ∨ c.names x = some b := by
    intro x b h
    by_cases hex : ∃ y', c1.names y' ≠ none ∧ x = sv c.hp m s y'
    · left
      obtain ⟨y, hy, rfl⟩ := hex
      obtain ⟨b', hb'⟩ := Option.ne_none_iff_exists'.1 hy
      rw [hnames y b' hb'] at h
      exact ⟨y, rfl, hb'.trans h⟩
    · right
      have : (c.back c1 m d s outs rows).names x = c.names x := by
        show (if h : ∃ y', c1.names y' ≠ none ∧ x = sv c.hp m s y' then c1.names (Classical.choose h) else c.names x) = _
        rw [dif_neg hex]
      rw [this] at h; exact h
  -- a block of the caller's that is not handed over stays as it is
  have hframe : ∀ b, b < c.w.heap.size → ¬ lentB c m b → c1.w.heap[b]? = c.w.heap[b]? := fun b h1 h2 => G1.frame b h1 h2
  have hlentT : ∀ b, lentB c m b → c.taken b := fun b ⟨r, hr1, hr2⟩ => ⟨r, H.live r hr1, hr2⟩
  -- where an object of the callee's lies
  have hown1 : ∀ q b, c1.hp q ≠ .gone → blockOf (c1.loc q) = some b → c.w.heap.size ≤ b ∨ lentB c m b := by
    intro q b h2 h3
    rcases G1.own q b h2 h3 with h | h
    · rw [hbase] at h; exact .inl h
    · exact .inr h
  -- an object that the call does not touch
  have hunt : ∀ n b, (¬ ∃ q, rid m d rows.length q = some n) → c.hp n ≠ .gone → blockOf (c.loc n) = some b → b < c.w.heap.size ∧ ¬ lentB c m b := by
    intro n b h2 h3 h4
    refine ⟨(G.obj n).lt h3 h4, ?_⟩
    rintro ⟨r, hr1, hr2⟩
    have := G.inj n r b h3 (H.live r hr1) h4 hr2
    subst this
    obtain ⟨j, hj⟩ := List.getElem?_of_mem hr1
    exact h2 ⟨5000 + j, rid_m (by have := (List.getElem?_eq_some_iff.1 hj).1; omega) hj⟩
  have htaken : ∀ b, (c.back c1 m d s outs rows).taken b → (∃ q, c1.hp q ≠ .gone ∧ blockOf (c1.loc q) = some b) ∨ (∃ n, (¬ ∃ q, rid m d rows.length q = some n) ∧ c.hp n ≠ .gone ∧ blockOf (c.loc n) = some b) := by
    rintro b ⟨n, h2, h3⟩
    by_cases hex : ∃ q, rid m d rows.length q = some n
    · obtain ⟨q, hq⟩ := hex
      rw [hhp q n hq, ne_eq, AObj.ren_gone] at h2
      rw [hloc q n hq] at h3
      exact .inl ⟨q, h2, h3⟩
    · rw [hhpn n hex] at h2
      rw [hlocn n hex] at h3
      exact .inr ⟨n, hex, h2, h3⟩
  have htk1 : ∀ b, b < c.w.heap.size → ¬ c.taken b → ¬ (c.back c1 m d s outs rows).taken b := by
    intro b hb hnt ht
    rcases htaken b ht with ⟨q, h2, h3⟩ | ⟨n, _, h2, h3⟩
    · rcases hown1 q b h2 h3 with h | h
      · omega
      · exact hnt (hlentT b h)
    · exact hnt ⟨n, h2, h3⟩
  have htk2 : ∀ b, ¬ c1.taken b → (c.w.heap.size ≤ b ∨ lentB c m b ∨ ¬ c.taken b) → ¬ (c.back c1 m d s outs rows).taken b := by
    intro b hnt hcase ht
    rcases htaken b ht with ⟨q, h2, h3⟩ | ⟨n, hn, h2, h3⟩
    · exact hnt ⟨q, h2, h3⟩
    · obtain ⟨h4, h5⟩ := hunt n b hn h2 h3
      rcases hcase with h | h | h
      · omega
      · exact h5 h
      · exact h ⟨n, h2, h3⟩
  have hside : ∀ b, lentB c m b → c.base ≤ b ∨ outsC b := by
    rintro b ⟨r, hr1, hr2⟩
    exact G.own r b (H.live r hr1) hr2
  have K : Keeps c (c.back c1 m d s outs rows) := by
    refine ⟨?_, ?_, fun v h => .inl h, ?_, rfl⟩
    · rintro b ⟨h2, h3, h4⟩
      exact ⟨⟨h2, Nat.lt_of_lt_of_le h3 hsize, htk1 b h3 h4⟩, hframe b h3 fun h => h4 (hlentT b h)⟩
    · intro n b h
      by_cases hex : ∃ y', c1.names y' ≠ none ∧ n = sv c.hp m s y'
      · obtain ⟨y, hy, rfl⟩ := hex
        by_cases hv : y < m.length
        · rw [(G.verU _ _ (hver y hv)).2] at h; cases h
        · rw [hsv y hv] at h
          exact absurd (G.nam _ _ h).1 (hs y)
      · show (if h : ∃ y', c1.names y' ≠ none ∧ n = sv c.hp m s y' then c1.names (Classical.choose h) else c.names n) = _
        rw [dif_neg hex]; exact h
    · intro r v hu hv
      by_cases hex : ∃ q, rid m d rows.length q = some r
      · obtain ⟨q, hq⟩ := hex
        rw [hhp q r hq, AObj.ren_ver, Option.map_eq_some_iff] at hv
        obtain ⟨y, hy, rfl⟩ := hv
        by_cases hyl : y < m.length
        · obtain ⟨h5, h6⟩ := hkeep q y (show y < ins.length by rw [H.length]; exact hyl) hy
          obtain ⟨j, B, r', rfl, hB, hr', he, hl⟩ := entry_live H (ver_ne_gone h5)
          have hco := H.objs j B r' hB hr'
          have hBv : B.ver = some j := by
            cases B with
            | gone => exact hco.elim
            | box v cs => rw [← hco.1]; rfl
            | row v k nn cs => rw [← hco.1]; rfl
            | map v ks vs => rw [← hco.1]; rfl
          rw [he, hBv] at h5
          simp only [Option.some.injEq] at h5; subst h5
          have hrr : r' = r := by
            have h7 := rid_m (d := d) (nr := rows.length) (by omega) hr'
            rw [h7] at hq; simpa using hq
          subst hrr
          have hg : m.getD j 0 = r' := by rw [List.getD_eq_getElem?_getD, hr']; rfl
          have h8 := hver j hyl
          rw [hg] at h8
          refine ⟨h8, ?_⟩
          rw [hloc _ _ hq, h6, hl]
        · rw [hsv y hyl] at hu
          exact absurd hu (hs y)
      · rw [hhpn r hex] at hv
        exact ⟨hv, hlocn r hex⟩
  have R : Ren false (rid m d rows.length) (sv c.hp m s) c1 (c.back c1 m d s outs rows) := by
    refine ⟨?_, hnames, fun v h => .inr ⟨v, h, rfl⟩, ?_, hold⟩
    · rintro b ⟨h2, h3, h4⟩ _
      refine ⟨⟨?_, h3, ?_⟩, rfl⟩
      · rcases h2 with h | h
        · rcases hext b h with ⟨hsh, h5⟩ | h5
          · rcases h5 with h5 | ⟨h5, _⟩ | h5
            · exact h5.1
            · rw [hsh] at h5; cases h5
            · rcases hside b h5 with h | h
              · exact .inr h
              · exact .inl (G.outExt b h).1
          · rcases hside b h5 with h | h
            · exact .inr h
            · exact .inl (G.outExt b h).1
        · rw [hbase] at h
          right
          show c.base ≤ b
          rw [G.base.1]; exact Nat.le_trans G.size h
      · refine htk2 b h4 ?_
        rcases h2 with h | h
        · rcases hext b h with ⟨hsh, h5⟩ | h5
          · rcases h5 with h5 | ⟨h5, _⟩ | h5
            · exact .inr (.inr h5.2.2)
            · rw [hsh] at h5; cases h5
            · exact .inr (.inl h5)
          · exact .inr (.inl h5)
        · rw [hbase] at h; exact .inl h
    · intro r r' v hf hu hv
      rw [hhp r r' hf, AObj.ren_ver, Option.map_eq_some_iff] at hv
      obtain ⟨u, hu', e⟩ := hv
      rw [← hsvi _ _ e]
      exact ⟨hu', hloc r r' hf⟩
  refine ⟨?_, K, R⟩
  refine ⟨G.base, ?_, ?_, ?_, ?_, ?_, G.outExt, ?_, ?_, ?_, G1.os.trans G.os, G1.tape.trans G.tape, G1.output.trans G.output, Nat.le_trans G.size hsize, ?_⟩
  · intro n
    by_cases hex : ∃ q, rid m d rows.length q = some n
    · obtain ⟨q, hq⟩ := hex
      rw [hhp q n hq, hloc q n hq]
      exact (G1.obj q).ren R (fun h => by cases h) fun b _ => rfl
    · rw [hhpn n hex, hlocn n hex]
      by_cases hg : c.hp n = .gone
      · rw [hg]; trivial
      · refine (G.obj n).keeps K fun b hb => ?_
        obtain ⟨h4, h5⟩ := hunt n b hex hg hb
        exact hframe b h4 h5
  · intro n1 n2 b h2 h3 h4 h5
    by_cases e1 : ∃ q, rid m d rows.length q = some n1 <;> by_cases e2 : ∃ q, rid m d rows.length q = some n2
    · obtain ⟨q1, hq1⟩ := e1
      obtain ⟨q2, hq2⟩ := e2
      rw [hhp _ _ hq1, ne_eq, AObj.ren_gone] at h2
      rw [hhp _ _ hq2, ne_eq, AObj.ren_gone] at h3
      rw [hloc _ _ hq1] at h4
      rw [hloc _ _ hq2] at h5
      have := G1.inj q1 q2 b h2 h3 h4 h5
      subst this
      rw [hq1] at hq2; simpa using hq2
    · obtain ⟨q1, hq1⟩ := e1
      rw [hhp _ _ hq1, ne_eq, AObj.ren_gone] at h2
      rw [hhpn _ e2] at h3
      rw [hloc _ _ hq1] at h4
      rw [hlocn _ e2] at h5
      obtain ⟨h6, h7⟩ := hunt n2 b e2 h3 h5
      rcases hown1 q1 b h2 h4 with h | h
      · omega
      · exact absurd h h7
    · obtain ⟨q2, hq2⟩ := e2
      rw [hhp _ _ hq2, ne_eq, AObj.ren_gone] at h3
      rw [hhpn _ e1] at h2
      rw [hloc _ _ hq2] at h5
      rw [hlocn _ e1] at h4
      obtain ⟨h6, h7⟩ := hunt n1 b e1 h2 h4
      rcases hown1 q2 b h3 h5 with h | h
      · omega
      · exact absurd h h7
    · rw [hhpn _ e1] at h2
      rw [hhpn _ e2] at h3
      rw [hlocn _ e1] at h4
      rw [hlocn _ e2] at h5
      exact G.inj n1 n2 b h2 h3 h4 h5
  · intro n b h2 h3
    by_cases e1 : ∃ q, rid m d rows.length q = some n
    · obtain ⟨q1, hq1⟩ := e1
      rw [hhp _ _ hq1, ne_eq, AObj.ren_gone] at h2
      rw [hloc _ _ hq1] at h3
      rcases hown1 q1 b h2 h3 with h | h
      · left; show c.base ≤ b; rw [G.base.1]; exact Nat.le_trans G.size h
      · exact hside b h
    · rw [hhpn _ e1] at h2
      rw [hlocn _ e1] at h3
      exact G.own n b h2 h3
  · intro n v h
    by_cases e1 : ∃ q, rid m d rows.length q = some n
    · obtain ⟨q1, hq1⟩ := e1
      rw [hhp _ _ hq1, AObj.ren_ver, Option.map_eq_some_iff] at h
      obtain ⟨u, hu, rfl⟩ := h
      obtain ⟨h2, h3⟩ := G1.verU _ _ hu
      refine ⟨.inr ⟨u, h2, rfl⟩, ?_⟩
      cases hn : (c.back c1 m d s outs rows).names (sv c.hp m s u) with
      | none => rfl
      | some b =>
        exfalso
        rcases hnames' _ b hn with ⟨y, e, h4⟩ | h4
        · rw [← hsvi _ _ e, h3] at h4; cases h4
        · by_cases hv : u < m.length
          · rw [(G.verU _ _ (hver u hv)).2] at h4; cases h4
          · rw [hsv u hv] at h4
            exact hs u (G.nam _ _ h4).1
    · rw [hhpn _ e1] at h
      obtain ⟨h2, h3⟩ := G.verU _ _ h
      refine ⟨.inl h2, ?_⟩
      cases hn : (c.back c1 m d s outs rows).names v with
      | none => rfl
      | some b =>
        exfalso
        rcases hnames' _ b hn with ⟨y, rfl, h4⟩ | h4
        · by_cases hv : y < m.length
          · have e := G.verInj _ _ _ h (hver y hv)
            refine e1 ⟨5000 + y, rid_m (by omega) ?_⟩
            rw [e, List.getD_eq_getElem?_getD, List.getElem?_eq_getElem hv]; rfl
          · rw [hsv y hv] at h2
            exact hs y h2
        · rw [h3] at h4; cases h4
  · intro n1 n2 v h2 h3
    by_cases e1 : ∃ q, rid m d rows.length q = some n1 <;> by_cases e2 : ∃ q, rid m d rows.length q = some n2
    · obtain ⟨q1, hq1⟩ := e1
      obtain ⟨q2, hq2⟩ := e2
      rw [hhp _ _ hq1, AObj.ren_ver, Option.map_eq_some_iff] at h2
      rw [hhp _ _ hq2, AObj.ren_ver, Option.map_eq_some_iff] at h3
      obtain ⟨u1, hu1, r1⟩ := h2
      obtain ⟨u2, hu2, r2⟩ := h3
      have := hsvi _ _ (r1.trans r2.symm)
      subst this
      have := G1.verInj _ _ _ hu1 hu2
      subst this
      rw [hq1] at hq2; simpa using hq2
    · obtain ⟨q1, hq1⟩ := e1
      rw [hhp _ _ hq1, AObj.ren_ver, Option.map_eq_some_iff] at h2
      obtain ⟨u1, hu1, r1⟩ := h2
      rw [hhpn _ e2] at h3
      exfalso
      by_cases hv : u1 < m.length
      · have e := G.verInj _ _ _ h3 (r1 ▸ hver u1 hv)
        refine e2 ⟨5000 + u1, rid_m (by omega) ?_⟩
        rw [e, List.getD_eq_getElem?_getD, List.getElem?_eq_getElem hv]; rfl
      · rw [hsv u1 hv] at r1
        exact hs u1 (r1.symm ▸ (G.verU _ _ h3).1)
    · obtain ⟨q2, hq2⟩ := e2
      rw [hhp _ _ hq2, AObj.ren_ver, Option.map_eq_some_iff] at h3
      obtain ⟨u1, hu1, r1⟩ := h3
      rw [hhpn _ e1] at h2
      exfalso
      by_cases hv : u1 < m.length
      · have e := G.verInj _ _ _ h2 (r1 ▸ hver u1 hv)
        refine e1 ⟨5000 + u1, rid_m (by omega) ?_⟩
        rw [e, List.getD_eq_getElem?_getD, List.getElem?_eq_getElem hv]; rfl
      · rw [hsv u1 hv] at r1
        exact hs u1 (r1.symm ▸ (G.verU _ _ h2).1)
    · rw [hhpn _ e1] at h2
      rw [hhpn _ e2] at h3
      exact G.verInj _ _ _ h2 h3
  · intro x b h
    rcases hnames' x b h with ⟨y, rfl, h2⟩ | h2
    · obtain ⟨h3, h4, h5, h6⟩ := G1.nam y b h2
      refine ⟨.inr ⟨y, h3, rfl⟩, ?_, h5, ?_⟩
      · rcases h4 with h4 | h4
        · rw [hbase] at h4; left; show c.base ≤ b; rw [G.base.1]; exact Nat.le_trans G.size h4
        · exact hside b h4
      · refine htk2 b h6 ?_
        rcases h4 with h4 | h4
        · rw [hbase] at h4; exact .inl h4
        · exact .inr (.inl h4)
    · obtain ⟨h3, h4, h5, h6⟩ := G.nam x b h2
      exact ⟨.inl h3, h4, Nat.lt_of_lt_of_le h5 hsize, htk1 b h5 h6⟩
  · intro x x' b h h'
    have hcross : ∀ y x b, c1.names y = some b → c.names x = some b → False := by
      intro y x b h2 h3
      obtain ⟨_, h4, _, _⟩ := G1.nam y b h2
      obtain ⟨_, _, h5, h6⟩ := G.nam x b h3
      rcases h4 with h4 | h4
      · rw [hbase] at h4; omega
      · exact h6 (hlentT b h4)
    rcases hnames' x b h with ⟨y, rfl, h2⟩ | h2 <;> rcases hnames' x' b h' with ⟨y', rfl, h3⟩ | h3
    · rw [G1.namInj _ _ b h2 h3]
    · exact (hcross _ _ _ h2 h3).elim
    · exact (hcross _ _ _ h3 h2).elim
    · exact G.namInj _ _ b h2 h3
  · obtain ⟨m1, hm1⟩ := G.fin
    obtain ⟨m2, hm2⟩ := G1.fin
    have hbd : ∀ k, ∃ M, ∀ y, y < k → sv c.hp m s y < M := by
      intro k
      induction k with
      | zero => exact ⟨0, fun y hy => by omega⟩
      | succ k ih =>
        obtain ⟨M, hM⟩ := ih
        refine ⟨max M (sv c.hp m s k + 1), fun y hy => ?_⟩
        rcases Nat.lt_or_ge y k with h | h
        · exact Nat.lt_of_lt_of_le (hM y h) (Nat.le_max_left _ _)
        · have : y = k := by omega
          subst this
          exact Nat.lt_of_lt_of_le (Nat.lt_succ_self _) (Nat.le_max_right _ _)
    obtain ⟨M, hM⟩ := hbd m2
    refine ⟨max m1 M, ?_⟩
    rintro v (h | ⟨y, hy, rfl⟩)
    · exact Nat.lt_of_lt_of_le (hm1 v h) (Nat.le_max_left _ _)
    · exact Nat.lt_of_lt_of_le (hM y (hm2 y hy)) (Nat.le_max_right _ _)
  · intro b hb hn
    rw [← G.frame b hb hn]
    refine hframe b (Nat.lt_of_lt_of_le hb G.size) fun h => ?_
    rcases hside b h with h | h
    · rw [G.base.1] at h; omega
    · exact hn h

end
end Go.Ab
