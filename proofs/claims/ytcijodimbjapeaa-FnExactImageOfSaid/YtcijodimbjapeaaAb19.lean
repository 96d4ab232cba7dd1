/- Instructions that may change places. Conditions: none. -/
import Derived.Test.YtcijodimbjapeaaAb18
set_option linter.all false
namespace Go.Ab
set_option maxRecDepth 20000

inductive Cl where
  | n | l | a | w | b | c | x
  deriving DecidableEq

def AI.cl : AI → Cl
  | .mov _ | .pick _ _ _ | .bin _ _ _ | .beq _ _ _ | .un _ _ | .cvi _ _ | .mkf _ _ | .ext _ _ | .idx _ _ | .sls _ _ _ | .fld _ _ | .flda _ _ _ | .mx _ _ _ | .lens _ => .n
  | .isnil _ _ | .isnilp _ _ | .ld _ | .lda _ _ | .nilck _ | .fad _ _ | .iad _ _ _ | .len _ | .lenm _ | .lkp _ _ _ _ _ | .cvbs _ | .bst _ _ | .ldb _ | .fadb _ _ => .l
  | .new _ | .mkm | .mks _ _ _ _ _ | .bsl _ false _ => .a
  | .app _ _ _ _ => .w
  | .bsl _ true _ | .bsln _ _ _ => .b
  | .box _ | .sto _ _ _ | .slc _ _ _ _ | .slc0 _ _ | .mup _ _ _ _ => .x

def AIns.cl : AIns → Cl
  | .i x => x.cl
  | _ => .c

def AI.opds : AI → List AOpd
  | .mov x | .isnil _ x | .isnilp _ x | .un _ x | .cvi _ x | .cvbs x | .box x | .ld x | .lda _ x | .nilck x | .fad _ x | .fld _ x | .flda _ _ x | .len x | .lens x | .lenm x | .slc0 _ x | .ext _ x | .ldb x | .fadb _ x => [x]
  | .pick c a b => [c, a, b]
  | .bin _ x y | .beq _ x y | .iad _ x y | .idx x y | .app _ _ x y | .mks _ _ _ x y | .lkp _ _ _ x y | .mx _ x y | .sto _ x y => [x, y]
  | .new _ | .mkm => []
  | .bsl _ _ xs | .bsln _ _ xs | .mkf _ xs => xs
  | .bst _ ps => ps.map (·.2.2)
  | .slc _ x lo hi | .sls x lo hi => [x] ++ lo.toList ++ hi.toList
  | .mup _ x i v => [x, i, v]

def AIns.opds : AIns → List AOpd
  | .i x => x.opds
  | .call _ xs => xs
  | .calv f xs => f :: xs

/-- One operation without its guard: k: what is asked of what it gives and of the objects behind it. -/
def Sp (P : Program) (s : Nat → Nat) (d : Nat) (tm : Nat → AVal) (hp : Nat → AObj) (k : AVal → (Nat → AObj) → Prop) (g : FuncId) (As : List AVal) : Prop :=
  ∃ (ins : List AObj) (args : List AVal) (sh : Bool) (R : List AObj → List AObj → AVal → Prop), Con P g ins args sh R ∧ ins = [] ∧ CoeL hp [] (!sh) args As ∧ (∃ outs rows res, R outs rows res) ∧
    ∀ outs rows res, R outs rows res → outs.length = 0 ∧ rows.length ≤ 1000 ∧ (∀ i, i < rows.length → hp (newId d i) = .gone) ∧ k (res.ren (rid [] d rows.length) s) (callHp hp [] d s outs rows)

def Si (P : Program) (s : Nat → Nat) (d : Nat) (tm : Nat → AVal) (hp : Nat → AObj) (k : AVal → (Nat → AObj) → Prop) : AIns → Prop
  | .i x => x.pre ⟨tm, hp⟩ d ∧ k (x.out ⟨tm, hp⟩ (s 0) d) (x.hpw ⟨tm, hp⟩ (s 0) d)
  | .call g xs => Sp P s d tm hp k g (xs.map (St.ev ⟨tm, hp⟩))
  | .calv f xs => match St.ev ⟨tm, hp⟩ f with
    | .clo g caps => Sp P s d tm hp k g (xs.map (St.ev ⟨tm, hp⟩) ++ caps)
    | _ => False

theorem sv_nil (hp : Nat → AObj) (s : Nat → Nat) : sv hp [] s = s := by funext v; simp [sv]

theorem wpCall_iff {P : Program} {σ : St} {g : FuncId} {As : List AVal} {d : Option Nat} {s : Nat → Nat} {K : St → Prop} :
    wpCall P true σ g As d s K ↔ Sp P s (d.getD 0) σ.tm σ.hp (fun A hp' => K (St.put ⟨σ.tm, hp'⟩ d A)) g As := by
  constructor
  · rintro (⟨m, ins, args, sh, R, h1, h2, h3, h4, h5⟩ | ⟨hf, _⟩)
    rotate_left
    · cases hf
    obtain ⟨hm, hex⟩ := h4 rfl
    subst hm
    have hi : ins = [] := List.eq_nil_of_length_eq_zero (by have := h2.length; simpa using this)
    refine ⟨ins, args, sh, R, h1, hi, h3, hex, ?_⟩
    intro outs rows res hR
    obtain ⟨h6, h7, h8, h9⟩ := h5 outs rows res hR
    rw [sv_nil] at h9
    exact ⟨by simpa using h6, h7, h8, h9⟩
  · rintro ⟨ins, args, sh, R, h1, rfl, h3, hex, h5⟩
    refine .inl ⟨[], [], args, sh, R, h1, ⟨by simp, rfl, by simp, by simp, by simp⟩, h3, fun _ => ⟨rfl, hex⟩, ?_⟩
    intro outs rows res hR
    obtain ⟨h6, h7, h8, h9⟩ := h5 outs rows res hR
    rw [sv_nil]
    exact ⟨by simpa using h6, h7, h8, h9⟩

theorem wpIns_iff {P : Program} {σ : St} {d : Option Nat} {s : Nat → Nat} {K : St → Prop} {ins : AIns} :
    wpIns false (wpCall P true) s d σ K ins ↔ Si P s (d.getD 0) σ.tm σ.hp (fun A hp' => K (St.put ⟨σ.tm, hp'⟩ d A)) ins := by
  cases ins with
  | i x => simp only [wpIns, Si, AI.wp, AI.eff]; constructor
           · rintro ⟨h1, h2⟩; exact ⟨h1, h2 (by simp)⟩
           · rintro ⟨h1, h2⟩; exact ⟨h1, fun _ => h2⟩
  | call g xs => exact wpCall_iff
  | calv f xs =>
    simp only [wpIns, Si]
    cases h : σ.ev f with
    | clo g caps =>
      have h' : St.ev ⟨σ.tm, σ.hp⟩ f = .clo g caps := h
      simp only [h']; exact wpCall_iff
    | _ =>
      have h' := h
      simp [show St.ev ⟨σ.tm, σ.hp⟩ f = _ from h']

/-- Only the operands of the temporaries count. -/
theorem ev_hp {tm : Nat → AVal} (hp hp' : Nat → AObj) (o : AOpd) : St.ev ⟨tm, hp⟩ o = St.ev ⟨tm, hp'⟩ o := by cases o <;> rfl

theorem i_tm {tm tm' : Nat → AVal} {hp : Nat → AObj} {ver d : Nat} {x : AI} (h : ∀ o ∈ x.opds, St.ev ⟨tm, hp⟩ o = St.ev ⟨tm', hp⟩ o) :
    x.pre ⟨tm, hp⟩ d = x.pre ⟨tm', hp⟩ d ∧ x.out ⟨tm, hp⟩ ver d = x.out ⟨tm', hp⟩ ver d ∧ x.hpw ⟨tm, hp⟩ ver d = x.hpw ⟨tm', hp⟩ ver d := by
  have e1 : ∀ A, St.sl ⟨tm, hp⟩ A = St.sl ⟨tm', hp⟩ A := fun _ => rfl
  have e2 : ∀ A, St.at ⟨tm, hp⟩ A = St.at ⟨tm', hp⟩ A := fun _ => rfl
  have e3 : ∀ A, St.mapAt ⟨tm, hp⟩ A = St.mapAt ⟨tm', hp⟩ A := fun _ => rfl
  have e4 : ∀ A, St.nn ⟨tm, hp⟩ A = St.nn ⟨tm', hp⟩ A := fun _ => rfl
  have e5 : ∀ A, St.slc ⟨tm, hp⟩ A = St.slc ⟨tm', hp⟩ A := fun _ => rfl
  have e6 : ∀ (n : Nat) (o : Option AOpd), (∀ y, o = some y → St.ev ⟨tm, hp⟩ y = St.ev ⟨tm', hp⟩ y) → St.bound ⟨tm, hp⟩ n o = St.bound ⟨tm', hp⟩ n o := by
    intro n o ho
    cases o with
    | none => rfl
    | some y => simp only [St.bound, ho y rfl]
  cases x with
  | bsl k fz xs =>
    simp only [AI.opds] at h
    have h1 : (xs.flatMap fun y => (St.ev ⟨tm, hp⟩ y).cells) = xs.flatMap fun y => (St.ev ⟨tm', hp⟩ y).cells := by
      rw [List.flatMap_def, List.flatMap_def]
      congr 1
      exact List.map_congr_left fun y hy => by rw [h y hy]
    have h2 : (∀ y ∈ xs, ∃ v, St.ev ⟨tm, hp⟩ y = .val v ∧ v.oneCell' = true) = ∀ y ∈ xs, ∃ v, St.ev ⟨tm', hp⟩ y = .val v ∧ v.oneCell' = true := by
      apply propext; constructor
      · intro hh y hy; rw [← h y hy]; exact hh y hy
      · intro hh y hy; rw [h y hy]; exact hh y hy
    have h3 : (∀ y ∈ xs, (St.ev ⟨tm, hp⟩ y).cells.length = k ∧ ∀ A ∈ (St.ev ⟨tm, hp⟩ y).cells, One hp A) = ∀ y ∈ xs, (St.ev ⟨tm', hp⟩ y).cells.length = k ∧ ∀ A ∈ (St.ev ⟨tm', hp⟩ y).cells, One hp A := by
      apply propext; constructor
      · intro hh y hy; rw [← h y hy]; exact hh y hy
      · intro hh y hy; rw [h y hy]; exact hh y hy
    refine ⟨?_, rfl, ?_⟩
    · simp only [AI.pre, h1, h2, h3]
    · simp only [AI.hpw, h1]
  | bsln nos k xs =>
    simp only [AI.opds] at h
    have h1 : (xs.flatMap fun y => (St.ev ⟨tm, hp⟩ y).cells) = xs.flatMap fun y => (St.ev ⟨tm', hp⟩ y).cells := by
      rw [List.flatMap_def, List.flatMap_def]
      congr 1
      exact List.map_congr_left fun y hy => by rw [h y hy]
    have h3 : (∀ y ∈ xs, (St.ev ⟨tm, hp⟩ y).cells.length = k ∧ ∀ A ∈ (St.ev ⟨tm, hp⟩ y).cells, One hp A) = ∀ y ∈ xs, (St.ev ⟨tm', hp⟩ y).cells.length = k ∧ ∀ A ∈ (St.ev ⟨tm', hp⟩ y).cells, One hp A := by
      apply propext; constructor
      · intro hh y hy; rw [← h y hy]; exact hh y hy
      · intro hh y hy; rw [h y hy]; exact hh y hy
    refine ⟨?_, rfl, ?_⟩
    · simp only [AI.pre, h1, h3]
    · simp only [AI.hpw, h1]
  | bst z ps =>
    simp only [AI.opds, List.mem_map, forall_exists_index, and_imp, forall_apply_eq_imp_iff₂] at h
    refine ⟨?_, ?_, rfl⟩
    · simp only [AI.pre]
      apply propext; constructor
      · intro hh p hp'; rw [← h p hp']; exact hh p hp'
      · intro hh p hp'; rw [h p hp']; exact hh p hp'
    · simp only [AI.out]
      congr 1
      generalize z.map AVal.val = cs
      induction ps generalizing cs with
      | nil => rfl
      | cons p ps ih =>
        simp only [List.foldl_cons, h p (by simp)]
        exact ih (fun q hq => h q (by simp [hq])) _
  | mkf g xs =>
    simp only [AI.opds] at h
    refine ⟨rfl, ?_, rfl⟩
    simp only [AI.out]
    congr 1
    exact List.map_congr_left h
  | slc k x lo hi =>
    simp only [AI.opds, List.mem_append, Option.mem_toList, List.mem_singleton] at h
    have hx := h x (.inl (.inl rfl))
    have hlo : ∀ n, St.bound ⟨tm, hp⟩ n lo = St.bound ⟨tm', hp⟩ n lo := fun n => e6 n lo fun y e => h y (.inl (.inr (by simp [e])))
    have hhi : ∀ n, St.bound ⟨tm, hp⟩ n hi = St.bound ⟨tm', hp⟩ n hi := fun n => e6 n hi fun y e => h y (.inr (by simp [e]))
    refine ⟨?_, ?_, ?_⟩
    · simp only [AI.pre, hx, hlo, hhi, e1]
    · simp only [AI.out, hx, hlo, hhi]
    · simp only [AI.hpw, hx, hlo, hhi]
  | sls x lo hi =>
    simp only [AI.opds, List.mem_append, Option.mem_toList, List.mem_singleton] at h
    have hx := h x (.inl (.inl rfl))
    have hlo : ∀ n, St.bound ⟨tm, hp⟩ n lo = St.bound ⟨tm', hp⟩ n lo := fun n => e6 n lo fun y e => h y (.inl (.inr (by simp [e])))
    have hhi : ∀ n, St.bound ⟨tm, hp⟩ n hi = St.bound ⟨tm', hp⟩ n hi := fun n => e6 n hi fun y e => h y (.inr (by simp [e]))
    refine ⟨?_, ?_, rfl⟩
    · simp only [AI.pre, hx, hlo, hhi]
    · simp only [AI.out, hx, hlo, hhi]
  | _ =>
    simp only [AI.opds, List.mem_cons, List.not_mem_nil, or_false, forall_eq_or_imp, forall_eq] at h
    first
      | exact ⟨rfl, rfl, rfl⟩
      | (refine ⟨?_, ?_, ?_⟩ <;> simp only [AI.pre, AI.out, AI.hpw, h, e1, e2, e3, e4, e5])

end Go.Ab
