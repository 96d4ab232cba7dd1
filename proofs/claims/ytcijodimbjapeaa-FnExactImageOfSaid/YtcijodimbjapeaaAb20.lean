/- Instructions that may change places: what each class keeps. Conditions: none. -/
import Derived.Test.YtcijodimbjapeaaAb19
set_option linter.all false
namespace Go.Ab
set_option maxRecDepth 20000

/-- Objects of hp' with old versions are those of hp. -/
def Old (U : Nat → Prop) (hp hp' : Nat → AObj) : Prop := ∀ r v, U v → (hp' r).ver = some v → hp r = hp' r

section
variable {U : Nat → Prop} {hp hp' : Nat → AObj} {tm : Nat → AVal}

theorem usesL_mem : ∀ {cs : List AVal}, usesL U cs → ∀ A ∈ cs, A.uses U
  | [], _, A, h => by simp at h
  | B :: cs, h, A, hA => by
    simp only [usesL] at h
    rcases List.mem_cons.1 hA with rfl | hA
    · exact h.1
    · exact usesL_mem h.2 A hA

theorem usesL_of_mem : ∀ {cs : List AVal}, (∀ A ∈ cs, A.uses U) → usesL U cs
  | [], _ => by simp [usesL]
  | B :: cs, h => by simp only [usesL]; exact ⟨h B (by simp), usesL_of_mem fun A hA => h A (by simp [hA])⟩

theorem uses_cells {A : AVal} (h : A.uses U) : ∀ B ∈ A.cells, B.uses U := by
  cases A with
  | st cs => exact usesL_mem (cs := cs) (by simpa only [AVal.uses] using h)
  | val x =>
    cases x with
    | agg vs => intro B hB; simp only [AVal.cells, List.mem_map] at hB; obtain ⟨v, _, rfl⟩ := hB; simp [AVal.uses]
    | _ => intro B hB; simp only [AVal.cells, List.mem_singleton] at hB; subst hB; exact h
  | _ => intro B hB; simp only [AVal.cells, List.mem_singleton] at hB; subst hB; exact h

theorem sl_old (hO : Old U hp hp') {A : AVal} (hA : A.uses U) {x : Nat × List AVal} (h : St.sl ⟨tm, hp'⟩ A = some x) : St.sl ⟨tm, hp⟩ A = some x := by
  cases A with
  | own r v =>
    simp only [AVal.uses] at hA
    simp only [St.sl] at h ⊢
    split at h
    · rename_i ver' k nn cs hr
      split at h
      · rename_i e
        subst e
        rw [hO r _ hA (by rw [hr]; rfl), hr]
        simpa using h
      · cases h
    · cases h
  | _ => exact h

theorem at_old (hO : Old U hp hp') {A : AVal} (hA : A.uses U) {x : List AVal × Nat} (h : St.at ⟨tm, hp'⟩ A = some x) : St.at ⟨tm, hp⟩ A = some x := by
  cases A with
  | ptr r v off =>
    simp only [AVal.uses] at hA
    simp only [St.at] at h ⊢
    split at h
    · rename_i ver' cs hr
      split at h
      · rename_i e
        subst e
        rw [hO r _ hA (by rw [hr]; rfl), hr]
        simpa using h
      · cases h
    · rename_i ver' k nn cs hr
      split at h
      · rename_i e
        subst e
        rw [hO r _ hA (by rw [hr]; rfl), hr]
        simpa using h
      · cases h
    · cases h
  | _ => exact h

theorem mapAt_old (hO : Old U hp hp') {A : AVal} (hA : A.uses U) {x : List Value × List AVal} (h : St.mapAt ⟨tm, hp'⟩ A = some x) : St.mapAt ⟨tm, hp⟩ A = some x := by
  cases A with
  | mp r v =>
    simp only [AVal.uses] at hA
    simp only [St.mapAt] at h ⊢
    split at h
    · rename_i ver' ks vs hr
      split at h
      · rename_i e
        subst e
        rw [hO r _ hA (by rw [hr]; rfl), hr]
        simpa using h
      · cases h
    · cases h
  | _ => exact h

theorem one_old (hO : Old U hp hp') {A : AVal} (hA : A.uses U) (h : One hp' A) : One hp A := by
  cases A with
  | own r v =>
    simp only [AVal.uses] at hA
    obtain ⟨k, nn, cs, hr⟩ := h
    exact ⟨k, nn, cs, by rw [hO r v hA (by rw [hr]; rfl)]; exact hr⟩
  | ptr r v off =>
    simp only [AVal.uses] at hA
    simp only [One] at h ⊢
    rw [hO r v hA h]; exact h
  | mp r v =>
    simp only [AVal.uses] at hA
    obtain ⟨ks, vs, hr⟩ := h
    exact ⟨ks, vs, by rw [hO r v hA (by rw [hr]; rfl)]; exact hr⟩
  | _ => exact h

theorem frz_old (hO : Old U hp hp') {A : AVal} (hA : A.uses U) (h : One hp' A) : frz hp A = frz hp' A := by
  cases A with
  | own r v =>
    simp only [AVal.uses] at hA
    obtain ⟨k, nn, cs, hr⟩ := h
    simp only [frz, hO r v hA (by rw [hr]; rfl)]
  | _ => rfl

/-- An instruction that reads gives the same where old objects are the same. -/
theorem l_old {x : AI} (hx : x.cl = .l ∨ x.cl = .n) {ver d : Nat} (hO : Old U hp hp') (hu : ∀ o ∈ x.opds, (St.ev ⟨tm, hp'⟩ o).uses U) (hpre : x.pre ⟨tm, hp'⟩ d) :
    x.pre ⟨tm, hp⟩ d ∧ x.out ⟨tm, hp⟩ ver d = x.out ⟨tm, hp'⟩ ver d := by
  have e0 : ∀ o, St.ev ⟨tm, hp⟩ o = St.ev ⟨tm, hp'⟩ o := fun o => ev_hp _ _ o
  cases x with
  | mov a => exact ⟨trivial, rfl⟩
  | pick a b c => exact ⟨by simpa only [AI.pre, e0] using hpre, by simp only [AI.out, e0]⟩
  | bin op a b => exact ⟨by simpa only [AI.pre, e0] using hpre, by simp only [AI.out, e0]⟩
  | beq n a b => exact ⟨by simpa only [AI.pre, e0] using hpre, by simp only [AI.out, e0]⟩
  | un op a => exact ⟨by simpa only [AI.pre, e0] using hpre, by simp only [AI.out, e0]⟩
  | cvi k a => exact ⟨by simpa only [AI.pre, e0] using hpre, by simp only [AI.out, e0]⟩
  | mkf g xs => exact ⟨trivial, by simp only [AI.out]; congr 1⟩
  | ext i a => exact ⟨by simpa only [AI.pre, e0] using hpre, by simp only [AI.out, e0]⟩
  | idx a b => exact ⟨by simpa only [AI.pre, e0] using hpre, by simp only [AI.out, e0]⟩
  | sls a lo hi =>
    have e1 : ∀ n o, St.bound ⟨tm, hp⟩ n o = St.bound ⟨tm, hp'⟩ n o := by intro n o; cases o <;> simp only [St.bound, e0]
    exact ⟨by simpa only [AI.pre, e0, e1] using hpre, by simp only [AI.out, e0, e1]⟩
  | fld off a => exact ⟨by simpa only [AI.pre, e0] using hpre, by simp only [AI.out, e0]⟩
  | flda off n a => exact ⟨by simpa only [AI.pre, e0] using hpre, by simp only [AI.out, e0]⟩
  | mx b a c => exact ⟨by simpa only [AI.pre, e0] using hpre, by simp only [AI.out, e0]⟩
  | lens a => exact ⟨by simpa only [AI.pre, e0] using hpre, by simp only [AI.out, e0]⟩
  | isnil n a =>
    have hua := hu a (by simp [AI.opds])
    refine ⟨?_, by simp only [AI.out, e0]⟩
    simp only [AI.pre, e0] at hpre ⊢
    split at hpre
    · trivial
    · exact hpre
    · rename_i r v h
      rw [h] at hua
      simp only [AVal.uses] at hua
      obtain ⟨k, cs, hr⟩ := hpre
      exact ⟨k, cs, by rw [hO r v hua (by rw [hr]; rfl)]; exact hr⟩
    · exact hpre.elim
  | isnilp n a =>
    have hua := hu a (by simp [AI.opds])
    refine ⟨?_, by simp only [AI.out, e0]⟩
    simp only [AI.pre, e0] at hpre ⊢
    split at hpre
    · trivial
    · rename_i r v off h
      rw [h] at hua
      simp only [AVal.uses] at hua
      rw [hO r v hua hpre]; exact hpre
    · trivial
    · exact hpre.elim
  | nilck a =>
    have hua := hu a (by simp [AI.opds])
    refine ⟨?_, by simp only [AI.out, e0]⟩
    simp only [AI.pre, e0] at hpre ⊢
    split at hpre
    · rename_i r v off h
      rw [h] at hua
      simp only [AVal.uses] at hua
      rw [hO r v hua hpre.1]; exact hpre
    · trivial
    · exact hpre.elim
  | fad off a =>
    have hua := hu a (by simp [AI.opds])
    refine ⟨?_, by simp only [AI.out, e0]⟩
    simp only [AI.pre, e0] at hpre ⊢
    split at hpre
    · rename_i r v off h
      rw [h] at hua
      simp only [AVal.uses] at hua
      rw [hO r v hua hpre]; exact hpre
    · trivial
    · exact hpre.elim
  | ld a =>
    have hua := hu a (by simp [AI.opds])
    simp only [AI.pre, AI.out, e0] at hpre ⊢
    split at hpre
    · rename_i cs off h
      have h2 := at_old hO hua h
      rw [h2]; exact ⟨hpre, rfl⟩
    · exact hpre.elim
  | lda n a =>
    have hua := hu a (by simp [AI.opds])
    simp only [AI.pre, AI.out, e0] at hpre ⊢
    split at hpre
    · rename_i cs off h
      have h2 := at_old hO hua h
      rw [h2]; exact ⟨hpre, rfl⟩
    · exact hpre.elim
  | iad k a i =>
    have hua := hu a (by simp [AI.opds])
    refine ⟨?_, by simp only [AI.out, e0]⟩
    simp only [AI.pre, e0] at hpre ⊢
    split at hpre
    · rename_i h1
      split at hpre
      · rename_i k' cs h
        simp only [sl_old hO hua h]; exact hpre
      · exact hpre.elim
    · exact hpre.elim
  | len a =>
    have hua := hu a (by simp [AI.opds])
    by_cases hnil : St.ev ⟨tm, hp'⟩ a = .val (.slice none 0 0)
    · simp only [AI.pre, AI.out, e0, hnil]; exact ⟨trivial, trivial⟩
    · simp only [AI.pre, AI.out, e0] at hpre ⊢
      obtain ⟨x, hx2⟩ := Option.isSome_iff_exists.1 hpre
      have h2 := sl_old hO hua hx2
      rw [h2, hx2]; exact ⟨rfl, rfl⟩
  | lenm a =>
    have hua := hu a (by simp [AI.opds])
    simp only [AI.pre, AI.out, e0] at hpre ⊢
    obtain ⟨x, hx2⟩ := Option.isSome_iff_exists.1 hpre
    have h2 := mapAt_old hO hua hx2
    rw [h2, hx2]; exact ⟨rfl, rfl⟩
  | lkp kd ok z a i =>
    have hua := hu a (by simp [AI.opds])
    simp only [AI.pre, AI.out, e0] at hpre ⊢
    split at hpre
    · rename_i k ks vs h1 h
      have h2 := mapAt_old hO hua h
      simp only [h1, h2, h]; exact ⟨hpre, trivial⟩
    · exact hpre.elim
  | cvbs a =>
    have hua := hu a (by simp [AI.opds])
    simp only [AI.pre, AI.out, e0] at hpre ⊢
    split at hpre
    · rename_i k cs h
      have h2 := sl_old hO hua h
      simp only [h2, h]; exact ⟨hpre, trivial⟩
    · exact hpre.elim
  | ldb a =>
    have hua := hu a (by simp [AI.opds])
    simp only [AI.pre, AI.out, e0] at hpre ⊢
    split at hpre
    · rename_i r v off h
      rw [h] at hua
      simp only [AVal.uses] at hua
      split at hpre
      · rename_i v' cs hr
        have h2 : hp r = hp' r := hO r v hua (by rw [hr]; simp [AObj.ver, hpre.1])
        simp only [h, St.at, h2, hr]; exact ⟨hpre, trivial⟩
      · exact hpre.elim
    · rename_i cs off h
      simp only [h, St.at]; exact ⟨hpre, trivial⟩
    · exact hpre.elim
  | fadb off a =>
    have hua := hu a (by simp [AI.opds])
    simp only [AI.pre, AI.out, e0] at hpre ⊢
    split at hpre
    · rename_i r v off h
      rw [h] at hua
      simp only [AVal.uses] at hua
      split at hpre
      · rename_i v' cs hr
        have h2 : hp r = hp' r := hO r v hua (by rw [hr]; simp [AObj.ver, hpre])
        simp only [h, h2, hr]; exact ⟨hpre, trivial⟩
      · exact hpre.elim
    · rename_i cs off h
      exact ⟨trivial, trivial⟩
    · exact hpre.elim
  | bst z ps =>
    refine ⟨?_, ?_⟩
    · simp only [AI.pre, e0] at hpre ⊢
      intro p hm
      refine ⟨(hpre p hm).1, fun A hA => one_old hO ?_ ((hpre p hm).2 A hA)⟩
      exact uses_cells (hu p.2.2 (by simp only [AI.opds, List.mem_map]; exact ⟨p, hm, rfl⟩)) A hA
    · simp only [AI.out, e0]
  | bsl k fz xs => cases fz <;> rcases hx with h | h <;> simp [AI.cl] at h
  | _ => rcases hx with h | h <;> simp [AI.cl] at h

/-- It leaves objects alone. -/
theorem l_hpw {x : AI} (hx : x.cl = .l ∨ x.cl = .n) {ver d : Nat} : x.hpw ⟨tm, hp⟩ ver d = hp := by
  cases x with
  | bsl k fz xs => cases fz <;> rcases hx with h | h <;> simp [AI.cl] at h
  | _ => first | rfl | (rcases hx with h | h <;> simp [AI.cl] at h)

/-- An instruction that makes an object, out of nothing that is read. -/
theorem a_made {x : AI} (hx : x.cl = .a) {ver d : Nat} (h : x.pre ⟨tm, hp⟩ d) : hp d = .gone ∧ ∃ o : AObj, o.ver = some ver ∧
    (∀ q : Nat → AObj, (x.hpw ⟨tm, q⟩ ver d = fun n => if n = d then o else q n) ∧ x.out ⟨tm, q⟩ ver d = x.out ⟨tm, hp⟩ ver d ∧ (q d = .gone → x.pre ⟨tm, q⟩ d)) := by
  cases x with
  | new z => exact ⟨h, .box ver (z.map .val), rfl, fun q => ⟨rfl, rfl, fun h => h⟩⟩
  | mkm => exact ⟨h, .map ver [] [], rfl, fun q => ⟨rfl, rfl, fun h => h⟩⟩
  | mks k b z l c =>
    simp only [AI.pre] at h
    split at h
    · rename_i n m hn hm
      refine ⟨h.1, .row ver k true (List.replicate n.toNat (z.map .val)).flatten, rfl, fun q => ⟨?_, rfl, fun hq => ?_⟩⟩
      · have : St.ev ⟨tm, q⟩ l = .val (.int .i64 n) := by rw [ev_hp q hp]; exact hn
        simp only [AI.hpw, this]
      · have h1 : St.ev ⟨tm, q⟩ l = .val (.int .i64 n) := by rw [ev_hp q hp]; exact hn
        have h2 : St.ev ⟨tm, q⟩ c = .val (.int .i64 m) := by rw [ev_hp q hp]; exact hm
        simp only [AI.pre, h1, h2]
        exact ⟨hq, h.2⟩
    · exact h.elim
  | bsl k fz xs =>
    cases fz with
    | true => simp [AI.cl] at hx
    | false =>
      obtain ⟨h1, h2, h3, h4⟩ := h
      have h1 := h1 rfl
      have hcells : ∀ y ∈ xs, ∃ v, (St.ev ⟨tm, hp⟩ y).cells = [.val v] ∧ v.oneCell' = true := by
        intro y hy
        obtain ⟨v, hv, ho⟩ := h1 y hy
        rw [hv]
        refine ⟨v, ?_, ho⟩
        cases v <;> first | rfl | simp [Value.oneCell'] at ho
      have hown : ∀ l : List AOpd, (∀ y ∈ l, y ∈ xs) → owned (l.flatMap fun y => (St.ev ⟨tm, hp⟩ y).cells) = [] ∧ ∀ q : Nat → AObj, (l.flatMap fun y => (St.ev ⟨tm, hp⟩ y).cells).map (frz q) = l.flatMap fun y => (St.ev ⟨tm, hp⟩ y).cells := by
        intro l
        induction l with
        | nil => intro _; exact ⟨rfl, fun _ => rfl⟩
        | cons y l ih =>
          intro hl
          obtain ⟨v, hv, _⟩ := hcells y (hl y (by simp))
          obtain ⟨h5, h6⟩ := ih fun z hz => hl z (by simp [hz])
          refine ⟨?_, fun q => ?_⟩
          · simp only [List.flatMap_cons, hv, List.cons_append, List.nil_append, owned]; exact h5
          · simp only [List.flatMap_cons, hv, List.cons_append, List.nil_append, List.map_cons, h6 q]; rfl
      obtain ⟨h5, h6⟩ := hown xs fun _ h => h
      have e0 : ∀ q : Nat → AObj, (xs.flatMap fun y => (St.ev ⟨tm, q⟩ y).cells) = xs.flatMap fun y => (St.ev ⟨tm, hp⟩ y).cells := by
        intro q
        first | rfl | (congr 1; done) | (congr 1; funext y; rw [ev_hp q hp])
      refine ⟨h2, .row ver k true (xs.flatMap fun y => (St.ev ⟨tm, hp⟩ y).cells), rfl, fun q => ⟨?_, rfl, fun hq => ?_⟩⟩
      · simp only [AI.hpw, e0, h5, h6, List.not_mem_nil, if_false]
      · refine ⟨fun _ y hy => by rw [ev_hp q hp]; exact h1 y hy, hq, fun y hy => ?_, by rw [e0]; exact h4⟩
        rw [ev_hp q hp]
        refine ⟨(h3 y hy).1, fun A hA => ?_⟩
        obtain ⟨v, hv, ho⟩ := hcells y hy
        rw [hv, List.mem_singleton] at hA
        subst hA; exact ho
  | _ => simp [AI.cl] at hx

end
end Go.Ab
