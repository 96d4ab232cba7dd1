/- Abstract values and what they stand for in a world: the plain part of an abstract semantics. Conditions: none. -/
import Derived.Below
import Derived.Calls
set_option linter.all false
namespace Go.Ab

/-- Abstract values. 'own', 'ptr', 'mp' name an abstract object by number and version. -/
inductive AVal where
  | any
  | val (v : Value)
  | ro (nm : Option (Option Nat)) (k : Nat) (cs : List AVal)
  | own (r ver : Nat)
  | st (cs : List AVal)
  | tup (cs : List AVal)
  | ptr (r ver off : Nat)
  | rp (cs : List AVal) (off : Nat)
  | mp (r ver : Nat)
  | clo (f : FuncId) (caps : List AVal)
  deriving Inhabited

inductive AObj where
  | gone
  | box (ver : Nat) (cs : List AVal)
  | row (ver k : Nat) (nn : Bool) (cs : List AVal)
  | map (ver : Nat) (ks : List Value) (vs : List AVal)
  deriving Inhabited

def AObj.ver : AObj → Option Nat
  | .gone => none
  | .box v _ => some v
  | .row v _ _ _ => some v
  | .map v _ _ => some v

@[simp] theorem AObj.ver_gone : AObj.gone.ver = none := rfl
@[simp] theorem AObj.ver_box (v cs) : (AObj.box v cs).ver = some v := rfl
@[simp] theorem AObj.ver_row (v k nn cs) : (AObj.row v k nn cs).ver = some v := rfl
@[simp] theorem AObj.ver_map (v ks vs) : (AObj.map v ks vs).ver = some v := rfl

/-- What a state of the abstract semantics stands for. -/
structure Cz where
  w : World
  base : Nat
  ext : Nat → Prop
  hp : Nat → AObj
  loc : Nat → Value
  names : Nat → Option Nat
  used : Nat → Prop
  old : Nat → Prop

/-- The address at which an object's cells begin. -/
def baseOf : Value → Option Addr
  | .slice a _ _ => a
  | .pointer a => a
  | _ => none

/-- The block that an object has for itself. -/
def blockOf : Value → Option Nat
  | .slice (some a) _ cap => if cap = 0 then none else some a.block
  | .pointer (some a) => some a.block
  | .map r => r
  | _ => none

/-- Block b has at least m cells. -/
def Cz.fit (c : Cz) (b m : Nat) : Prop := ∃ t, ∃ cells : Array Value, c.w.heap[b]? = some (.cells cells t (0, 0)) ∧ m ≤ cells.size

/-- What a name says of block b, of which m cells are at hand. none: it has some name; 0: it was there before, and is not written; n + 1: its name is n. -/
def Cz.nmd (c : Cz) : Option Nat → Nat → Nat → Prop
  | none, b, m => (∃ n, c.names n = some b) ∧ c.fit b m
  | some 0, b, _ => c.old b
  | some (n + 1), b, m => c.names n = some b ∧ c.fit b m

/-- It is new since the call began. -/
def isNew : Option (Option Nat) → Bool
  | none => false
  | some (some 0) => false
  | _ => true

/-- The name is forgotten. -/
def dnNm : Option (Option Nat) → Option (Option Nat)
  | none => none
  | some (some 0) => some (some 0)
  | some _ => some none

theorem Cz.nmd_ex {c : Cz} {n : Option Nat} {b m : Nat} (h0 : isNew (some n) = true) (h : c.nmd n b m) : (∃ n, c.names n = some b) ∧ c.fit b m := by
  cases n with
  | none => exact h
  | some n => cases n with
    | zero => cases h0
    | succ n => exact ⟨⟨n, h.1⟩, h.2⟩

def Cz.taken (c : Cz) (b : Nat) : Prop := ∃ r, c.hp r ≠ .gone ∧ blockOf (c.loc r) = some b
def Cz.imm (c : Cz) (b : Nat) : Prop := (c.ext b ∨ c.base ≤ b) ∧ b < c.w.heap.size ∧ ¬ c.taken b

mutual
/-- The concrete value v is what the abstract value says. -/
def Rep (c : Cz) : AVal → Value → Prop
  | .any, _ => True
  | .val x, v => v = x
  | .ro nm k cs, v => ∃ base len cap, v = .slice base len cap ∧ 0 < k ∧ cs.length = len * k ∧ (len ≤ cap ∧ cap ≤ maxLen) ∧
      (∀ n, nm = some n → (isNew nm = true → base ≠ none) ∧ (cs.length = 0 ∨ ∃ b off, base = some ⟨b, off, none⟩ ∧ c.nmd n b (off + cap * k))) ∧
      (cs.length = 0 ∨ ∃ b off, base = some ⟨b, off, none⟩ ∧ c.imm b ∧ RepAt c b off cs)
  | .own r ver, v => c.used ver ∧ ((c.hp r).ver = some ver → v = c.loc r)
  | .st cs, v => ∃ vs : Array Value, v = .agg vs ∧ RepL c cs vs.toList
  | .tup cs, v => ∃ vs : Array Value, v = .tuple vs ∧ RepL c cs vs.toList
  | .ptr r ver off, v => c.used ver ∧ ((c.hp r).ver = some ver → ∃ b o, baseOf (c.loc r) = some ⟨b, o, none⟩ ∧ v = .pointer (some ⟨b, o + off, none⟩))
  | .rp cs off, v => ∃ b o, v = .pointer (some ⟨b, o + off, none⟩) ∧ c.imm b ∧ RepAt c b o cs
  | .mp r ver, v => c.used ver ∧ ((c.hp r).ver = some ver → v = c.loc r)
  | .clo f caps, v => ∃ vs : Array Value, v = .func (.func f) #[] vs ∧ RepL c caps vs.toList
/-- The cells of block b from off on are what the list says. -/
def RepAt (c : Cz) (b : Nat) : Nat → List AVal → Prop
  | _, [] => True
  | off, A :: cs => (∃ v, c.w.cell? ⟨b, off, none⟩ = some v ∧ Rep c A v) ∧ RepAt c b (off + 1) cs
def RepL (c : Cz) : List AVal → List Value → Prop
  | [], [] => True
  | A :: cs, v :: vs => Rep c A v ∧ RepL c cs vs
  | _, _ => False
end

/-- From c to c' nothing is lost: what was unchangeable stays as it is, names stay, and a version that is still there is at the same place. -/
structure Keeps (c c' : Cz) : Prop where
  imm : ∀ b, c.imm b → c'.imm b ∧ c'.w.heap[b]? = c.w.heap[b]?
  names : ∀ n b, c.names n = some b → c'.names n = some b
  used : ∀ v, c.used v → c'.used v
  loc : ∀ r v, c.used v → (c'.hp r).ver = some v → (c.hp r).ver = some v ∧ (c'.loc r = c.loc r)
  old : c'.old = c.old

theorem Cz.fit_of {c c' : Cz} {b m : Nat} (h : c.fit b m) (e : c'.w.heap[b]? = c.w.heap[b]?) : c'.fit b m := by
  obtain ⟨t, cells, h1, h2⟩ := h
  exact ⟨t, cells, e.trans h1, h2⟩

theorem Keeps.nmd {c c' : Cz} (K : Keeps c c') {n : Option Nat} {b m : Nat} (h : c.nmd n b m) (e : c'.w.heap[b]? = c.w.heap[b]?) : c'.nmd n b m := by
  cases n with
  | none => obtain ⟨⟨n, h⟩, hf⟩ := h; exact ⟨⟨n, K.names _ _ h⟩, Cz.fit_of hf e⟩
  | some n => cases n with
    | zero => show c'.old b; rw [K.old]; exact h
    | succ n => exact ⟨K.names _ _ h.1, Cz.fit_of h.2 e⟩

theorem Keeps.refl (c : Cz) : Keeps c c := ⟨fun _ h => ⟨h, rfl⟩, fun _ _ h => h, fun _ h => h, fun _ _ _ h => ⟨h, rfl⟩, rfl⟩
theorem Keeps.trans {a b c : Cz} (h : Keeps a b) (k : Keeps b c) : Keeps a c where
  imm b' hb := ⟨(k.imm _ (h.imm _ hb).1).1, ((k.imm _ (h.imm _ hb).1).2).trans (h.imm _ hb).2⟩
  names n b' hn := k.names _ _ (h.names _ _ hn)
  used v hv := k.used _ (h.used _ hv)
  loc r v hv hr := by
    obtain ⟨h1, h2⟩ := k.loc r v (h.used _ hv) hr
    obtain ⟨h3, h4⟩ := h.loc r v hv h1
    exact ⟨h3, h2.trans h4⟩
  old := k.old.trans h.old

mutual
theorem Rep.keeps {c c' : Cz} (K : Keeps c c') : ∀ (A : AVal) (v : Value), Rep c A v → Rep c' A v
  | .any, _, _ => by simp [Rep]
  | .val x, v, h => by simpa [Rep] using h
  | .ro nm k cs, v, h => by
    simp only [Rep] at h ⊢
    obtain ⟨base, len, cap, hv, hk, hl, hm, hn, hc⟩ := h
    refine ⟨base, len, cap, hv, hk, hl, hm, ?_, ?_⟩
    · intro n e
      refine ⟨(hn n e).1, ?_⟩
      rcases (hn n e).2 with h0 | ⟨b, off, hb, hnm⟩
      · exact .inl h0
      · rcases hc with hc | ⟨b', off', hb', hi, _⟩
        · exact .inl hc
        · rw [hb] at hb'
          cases hb'
          exact .inr ⟨b, off, hb, K.nmd hnm (K.imm b hi).2⟩
    · rcases hc with hc | ⟨b, off, hb, hi, hr⟩
      · exact .inl hc
      · exact .inr ⟨b, off, hb, (K.imm b hi).1, RepAt.keeps K hi cs off hr⟩
  | .own r ver, v, h => by
    simp only [Rep] at h ⊢
    refine ⟨K.used _ h.1, fun hr => ?_⟩
    obtain ⟨h1, h2⟩ := K.loc r ver h.1 hr
    exact (h.2 h1).trans h2.symm
  | .st cs, v, h => by
    simp only [Rep] at h ⊢
    obtain ⟨vs, hv, hl⟩ := h
    exact ⟨vs, hv, RepL.keeps K cs vs.toList hl⟩
  | .tup cs, v, h => by
    simp only [Rep] at h ⊢
    obtain ⟨vs, hv, hl⟩ := h
    exact ⟨vs, hv, RepL.keeps K cs vs.toList hl⟩
  | .ptr r ver off, v, h => by
    simp only [Rep] at h ⊢
    refine ⟨K.used _ h.1, fun hr => ?_⟩
    obtain ⟨h1, h2⟩ := K.loc r ver h.1 hr
    rw [h2]; exact h.2 h1
  | .rp cs off, v, h => by
    simp only [Rep] at h ⊢
    obtain ⟨b, o, hv, hi, hr⟩ := h
    exact ⟨b, o, hv, (K.imm b hi).1, RepAt.keeps K hi cs o hr⟩
  | .mp r ver, v, h => by
    simp only [Rep] at h ⊢
    refine ⟨K.used _ h.1, fun hr => ?_⟩
    obtain ⟨h1, h2⟩ := K.loc r ver h.1 hr
    exact (h.2 h1).trans h2.symm
  | .clo f caps, v, h => by
    simp only [Rep] at h ⊢
    obtain ⟨vs, hv, hl⟩ := h
    exact ⟨vs, hv, RepL.keeps K caps vs.toList hl⟩
theorem RepAt.keeps {c c' : Cz} (K : Keeps c c') {b : Nat} (hb : c.imm b) : ∀ (cs : List AVal) (off : Nat), RepAt c b off cs → RepAt c' b off cs
  | [], _, _ => by simp [RepAt]
  | A :: cs, off, h => by
    simp only [RepAt] at h ⊢
    obtain ⟨⟨v, hv, hr⟩, ht⟩ := h
    refine ⟨⟨v, ?_, Rep.keeps K A v hr⟩, RepAt.keeps K hb cs (off + 1) ht⟩
    rw [World.cell?_of_block (w := c.w) (K.imm b hb).2]; exact hv
theorem RepL.keeps {c c' : Cz} (K : Keeps c c') : ∀ (cs : List AVal) (vs : List Value), RepL c cs vs → RepL c' cs vs
  | [], [], _ => by simp [RepL]
  | [], _ :: _, h => by simp [RepL] at h
  | _ :: _, [], h => by simp [RepL] at h
  | A :: cs, v :: vs, h => by
    simp only [RepL] at h ⊢
    exact ⟨Rep.keeps K A v h.1, RepL.keeps K cs vs h.2⟩
end

theorem RepL.length {c : Cz} : ∀ {cs : List AVal} {vs : List Value}, RepL c cs vs → cs.length = vs.length
  | [], [], _ => rfl
  | [], _ :: _, h => by simp [RepL] at h
  | _ :: _, [], h => by simp [RepL] at h
  | A :: cs, v :: vs, h => by simp only [RepL] at h; simp [RepL.length h.2]

theorem RepL.get {c : Cz} : ∀ {cs : List AVal} {vs : List Value}, RepL c cs vs → ∀ {i : Nat} {A : AVal}, cs[i]? = some A → ∃ v, vs[i]? = some v ∧ Rep c A v
  | [], [], _, i, A, h => by simp at h
  | [], _ :: _, h, _, _, _ => by simp [RepL] at h
  | _ :: _, [], h, _, _, _ => by simp [RepL] at h
  | B :: cs, v :: vs, h, 0, A, e => by simp only [RepL] at h; simp at e; subst e; exact ⟨v, rfl, h.1⟩
  | B :: cs, v :: vs, h, i + 1, A, e => by simp only [RepL] at h; simp at e ⊢; exact RepL.get h.2 e

theorem RepL.of_get {c : Cz} : ∀ {cs : List AVal} {vs : List Value}, cs.length = vs.length → (∀ (i : Nat) (A : AVal) (v : Value), cs[i]? = some A → vs[i]? = some v → Rep c A v) → RepL c cs vs
  | [], [], _, _ => by simp [RepL]
  | [], _ :: _, h, _ => by simp at h
  | _ :: _, [], h, _ => by simp at h
  | A :: cs, v :: vs, h, f => by
    simp only [RepL]
    exact ⟨f 0 A v rfl rfl, RepL.of_get (by simpa using h) fun i B u hB hu => f (i + 1) B u (by simpa using hB) (by simpa using hu)⟩

theorem RepL.append {c : Cz} {cs ds : List AVal} {vs us : List Value} (h : RepL c cs vs) (k : RepL c ds us) : RepL c (cs ++ ds) (vs ++ us) := by
  induction cs generalizing vs with
  | nil => cases vs <;> simp_all [RepL]
  | cons A cs ih =>
    cases vs with
    | nil => simp [RepL] at h
    | cons v vs => simp only [RepL] at h; simp only [List.cons_append, RepL]; exact ⟨h.1, ih h.2⟩

theorem RepL.take {c : Cz} {cs : List AVal} {vs : List Value} (h : RepL c cs vs) (n : Nat) : RepL c (cs.take n) (vs.take n) := by
  induction n generalizing cs vs with
  | zero => simp [RepL]
  | succ n ih => cases cs <;> cases vs <;> simp_all [RepL]

theorem RepL.drop {c : Cz} {cs : List AVal} {vs : List Value} (h : RepL c cs vs) (n : Nat) : RepL c (cs.drop n) (vs.drop n) := by
  induction n generalizing cs vs with
  | zero => simpa using h
  | succ n ih => cases cs <;> cases vs <;> simp_all [RepL]

theorem RepAt.get {c : Cz} {b : Nat} : ∀ {cs : List AVal} {off : Nat}, RepAt c b off cs → ∀ {i : Nat} {A : AVal}, cs[i]? = some A → ∃ v, c.w.cell? ⟨b, off + i, none⟩ = some v ∧ Rep c A v
  | [], _, _, i, A, h => by simp at h
  | B :: cs, off, h, 0, A, e => by simp only [RepAt] at h; simp at e; subst e; simpa using h.1
  | B :: cs, off, h, i + 1, A, e => by
    simp only [RepAt] at h; simp at e
    have := RepAt.get h.2 e
    simpa [Nat.add_assoc, Nat.add_comm 1 i] using this

theorem RepAt.of_get {c : Cz} {b : Nat} : ∀ {cs : List AVal} {off : Nat}, (∀ i A, cs[i]? = some A → ∃ v, c.w.cell? ⟨b, off + i, none⟩ = some v ∧ Rep c A v) → RepAt c b off cs
  | [], _, _ => by simp [RepAt]
  | A :: cs, off, f => by
    simp only [RepAt]
    refine ⟨by simpa using f 0 A rfl, RepAt.of_get fun i B hB => ?_⟩
    have := f (i + 1) B (by simpa using hB)
    simpa [Nat.add_assoc, Nat.add_comm 1 i] using this

/-- A row of a block, read as a list. -/
theorem RepAt.of_row {c : Cz} {b : Nat} {cells : Array Value} {t : TypeId} {fr : Nat × Nat} (hb : c.w.heap[b]? = some (.cells cells t fr)) {off : Nat} {cs : List AVal}
    (h : RepL c cs ((cells.toList.drop off).take cs.length)) : RepAt c b off cs := by
  refine RepAt.of_get fun i A hA => ?_
  obtain ⟨v, hv, hr⟩ := h.get hA
  refine ⟨v, ?_, hr⟩
  rw [cell_of_row c.w b (off + i) cells t fr hb]
  rw [List.getElem?_take] at hv
  split at hv
  · simpa using hv
  · simp at hv

theorem RepAt.drop {c : Cz} {b : Nat} {cs : List AVal} {off : Nat} (h : RepAt c b off cs) (n : Nat) : RepAt c b (off + n) (cs.drop n) := by
  refine RepAt.of_get fun i A hA => ?_
  obtain ⟨v, hv, hr⟩ := h.get (i := n + i) (by simpa using hA)
  exact ⟨v, by rw [Nat.add_assoc]; exact hv, hr⟩

theorem RepAt.take {c : Cz} {b : Nat} {cs : List AVal} {off : Nat} (h : RepAt c b off cs) (n : Nat) : RepAt c b off (cs.take n) := by
  refine RepAt.of_get fun i A hA => ?_
  rw [List.getElem?_take] at hA
  split at hA
  · exact h.get hA
  · simp at hA

end Go.Ab
