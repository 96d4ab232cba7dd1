/- The abstract semantics of code: weakest preconditions. Conditions: none. -/
import Derived.Test.YtcijodimbjapeaaAb2
set_option linter.all false
namespace Go.Ab

inductive AIns where
  | i (x : AI)
  | call (g : FuncId) (xs : List AOpd)
  | calv (f : AOpd) (xs : List AOpd)
  deriving Inhabited

structure AOp where
  dst : Option Nat
  grd : Option (Nat × Bool)
  ins : AIns
  deriving Inhabited

inductive AC where
  | skip
  | reg (draw : Bool) (ops : List AOp)
  | kp (ts hs : List Nat) (a : AC)
  | dn (a : AC)
  | gh (a : AC)
  | mv (x y : Nat) (a : AC)
  | regi (draw : Bool) (ops : List AOp)
  | ad (b off r k : Nat) (a : AC)
  | seq (a b : AC)
  | cond (c : AOpd) (a b : AC)
  | block (id : Nat) (a : AC)
  | loop (a : AC)
  | exit (id : Nat)
  | ret
  | stuck
  deriving Inhabited

inductive AEx where
  | normal
  | exit (id : Nat)
  | ret

/-- The temporaries and objects that lists give. -/
def L {α : Type} (z : α) : List (Nat × α) → Nat → α
  | [], _ => z
  | (k, a) :: l, n => if n = k then a else L z l n

theorem L_cons {α : Type} (z : α) (l : List (Nat × α)) (d : Nat) (a : α) : (fun n => if n = d then a else L z l n) = L z ((d, a) :: l) := rfl

def pickL {α : Type} (z : α) (f : Nat → α) : List Nat → List (Nat × α)
  | [] => []
  | k :: ks => (k, f k) :: pickL z f ks

/-- The state with these temporaries and objects alone. -/
def St.keep (σ : St) (ts hs : List Nat) : St := { tm := L .any (pickL .any σ.tm ts), hp := L .gone (pickL .gone σ.hp hs) }

mutual
/-- A value without the names of rows that nobody writes: that they have one stays known. -/
def AVal.dn : AVal → AVal
  | .any => .any
  | .val v => .val v
  | .ro nm k cs => .ro (dnNm nm) k (dnL cs)
  | .own r v => .own r v
  | .st cs => .st (dnL cs)
  | .tup cs => .tup (dnL cs)
  | .ptr r v off => .ptr r v off
  | .rp cs off => .rp (dnL cs) off
  | .mp r v => .mp r v
  | .clo g caps => .clo g (dnL caps)
def dnL : List AVal → List AVal
  | [] => []
  | A :: cs => A.dn :: dnL cs
end

theorem dnL_eq : ∀ cs : List AVal, dnL cs = cs.map AVal.dn
  | [] => by simp [dnL]
  | A :: cs => by simp [dnL, dnL_eq cs]

def AObj.dn : AObj → AObj
  | .gone => .gone
  | .box v cs => .box v (dnL cs)
  | .row v k nn cs => .row v k nn (dnL cs)
  | .map v ks vs => .map v ks (dnL vs)

def St.dn (σ : St) : St := { tm := fun n => (σ.tm n).dn, hp := fun r => (σ.hp r).dn }

theorem AObj.dn_ver (o : AObj) : o.dn.ver = o.ver := by cases o <;> rfl
theorem AObj.dn_gone {o : AObj} : o.dn = .gone ↔ o = .gone := by cases o <;> simp [AObj.dn]

mutual
theorem Rep.dn {c : Cz} : ∀ (A : AVal) (v : Value), Rep c A v → Rep c A.dn v
  | .any, _, _ => by simp [AVal.dn, Rep]
  | .val x, v, h => by simpa [AVal.dn, Rep] using h
  | .ro nm k cs, v, h => by
    simp only [AVal.dn, Rep] at h ⊢
    obtain ⟨base, len, cap, hv, hk, hl, hm, hn, hc⟩ := h
    refine ⟨base, len, cap, hv, hk, by rw [dnL_eq, List.length_map]; exact hl, hm, ?_, ?_⟩
    · intro n e
      rw [dnL_eq, List.length_map]
      match nm, hn, e with
      | some (some 0), hn, e =>
        simp only [dnNm, Option.some.injEq] at e; subst e
        exact hn _ rfl
      | some none, hn, e =>
        simp only [dnNm, Option.some.injEq] at e; subst e
        exact hn _ rfl
      | some (some (n0 + 1)), hn, e =>
        simp only [dnNm, Option.some.injEq] at e; subst e
        obtain ⟨h1, h2⟩ := hn _ rfl
        refine ⟨fun _ => h1 rfl, ?_⟩
        rcases h2 with h0 | ⟨b, off, hb, hnm⟩
        · exact .inl h0
        · exact .inr ⟨b, off, hb, ⟨n0, hnm.1⟩, hnm.2⟩
    · rcases hc with hc | ⟨b, off, hb, hi, hr⟩
      · left; rw [dnL_eq, List.length_map]; exact hc
      · exact .inr ⟨b, off, hb, hi, RepAt.dn cs off hr⟩
  | .own r ver, v, h => by simpa only [AVal.dn] using h
  | .st cs, v, h => by
    simp only [AVal.dn, Rep] at h ⊢
    obtain ⟨vs, hv, hl⟩ := h
    exact ⟨vs, hv, RepL.dn cs vs.toList hl⟩
  | .tup cs, v, h => by
    simp only [AVal.dn, Rep] at h ⊢
    obtain ⟨vs, hv, hl⟩ := h
    exact ⟨vs, hv, RepL.dn cs vs.toList hl⟩
  | .ptr r ver off, v, h => by simpa only [AVal.dn] using h
  | .rp cs off, v, h => by
    simp only [AVal.dn, Rep] at h ⊢
    obtain ⟨b, o, hv, hi, hr⟩ := h
    exact ⟨b, o, hv, hi, RepAt.dn cs o hr⟩
  | .mp r ver, v, h => by simpa only [AVal.dn] using h
  | .clo g caps, v, h => by
    simp only [AVal.dn, Rep] at h ⊢
    obtain ⟨vs, hv, hl⟩ := h
    exact ⟨vs, hv, RepL.dn caps vs.toList hl⟩
theorem RepAt.dn {c : Cz} {b : Nat} : ∀ (cs : List AVal) (off : Nat), RepAt c b off cs → RepAt c b off (dnL cs)
  | [], _, _ => by simp [dnL, RepAt]
  | A :: cs, off, h => by
    simp only [dnL, RepAt] at h ⊢
    obtain ⟨⟨v, hv, hr⟩, ht⟩ := h
    exact ⟨⟨v, hv, Rep.dn A v hr⟩, RepAt.dn cs (off + 1) ht⟩
theorem RepL.dn {c : Cz} : ∀ (cs : List AVal) (vs : List Value), RepL c cs vs → RepL c (dnL cs) vs
  | [], [], _ => by simp [dnL, RepL]
  | [], _ :: _, h => by simp [RepL] at h
  | _ :: _, [], h => by simp [RepL] at h
  | A :: cs, v :: vs, h => by
    simp only [dnL, RepL] at h ⊢
    exact ⟨Rep.dn A v h.1, RepL.dn cs vs h.2⟩
end

theorem ObjRep.dn {c : Cz} {v : Value} {o : AObj} (h : ObjRep c v o) : ObjRep c v o.dn := by
  cases o with
  | gone => trivial
  | box ver cs =>
    obtain ⟨g, t, cells, rfl, hg, hr⟩ := h
    exact ⟨g, t, cells, rfl, hg, RepL.dn _ _ hr⟩
  | row ver k nn cs =>
    obtain ⟨base, n, cap, rfl, h1, h2, h3, h4, h5, hc⟩ := h
    refine ⟨base, n, cap, rfl, h1, by rw [dnL_eq, List.length_map]; exact h2, h3, h4, h5, ?_⟩
    rcases hc with hc | ⟨g, off, t, cells, rfl, hg, h6, h7⟩
    · exact .inl hc
    · exact .inr ⟨g, off, t, cells, rfl, hg, h6, RepL.dn _ _ h7⟩
  | map ver ks vs =>
    obtain ⟨g, clock, ents, rfl, hg, h1, h2⟩ := h
    exact ⟨g, clock, ents, rfl, hg, h1, RepL.dn _ _ h2⟩

/-- A nil slice in a variable, seen as a row of its own without cells. -/
def St.adopt (σ : St) (b off r k ver : Nat) : St := match σ.hp b with
  | .box v cs => (match cs[off]? with
    | some (.val (.slice none 0 0)) => (match σ.hp r with
      | .gone => if k = 0 then σ else { tm := σ.tm, hp := fun n => if n = b then .box v (cs.set off (.own r ver)) else if n = r then .row ver k false [] else σ.hp n }
      | _ => σ)
    | _ => σ)
  | _ => σ

/-- fa: what is known besides is offered. -/
def AI.wp (fa : Bool) (σ : St) (ver : Nat) (d : Option Nat) (x : AI) (K : St → Prop) : Prop := x.pre σ (d.getD 0) ∧ ((fa = true → x.fact σ) → K (x.eff σ ver d))

/-- One operation; CK: what a call asks. -/
def wpIns (fa : Bool) (CK : St → FuncId → List AVal → Option Nat → (Nat → Nat) → (St → Prop) → Prop) (s : Nat → Nat) (d : Option Nat) (σ : St) (K : St → Prop) : AIns → Prop
  | .i x => x.wp fa σ (s 0) d K
  | .call g xs => CK σ g (xs.map σ.ev) d s K
  | .calv f xs => match σ.ev f with
    | .clo g caps => CK σ g (xs.map σ.ev ++ caps) d s K
    | _ => False

def wpOp (fa : Bool) (CK : St → FuncId → List AVal → Option Nat → (Nat → Nat) → (St → Prop) → Prop) (s : Nat → Nat) (o : AOp) (σ : St) (K : St → Prop) : Prop :=
  match o.grd with
  | none => wpIns fa CK s o.dst σ K o.ins
  | some (t, want) => match σ.tm t with
    | .val (.bool b) => (b = want → wpIns fa CK s o.dst σ K o.ins) ∧ (b ≠ want → K (σ.put o.dst (.val (.tuple #[]))))
    | .val (.tuple _) => K (σ.put o.dst (.val (.tuple #[])))
    | _ => False

def wpOps (fa : Bool) (CK : St → FuncId → List AVal → Option Nat → (Nat → Nat) → (St → Prop) → Prop) (vs : Nat → Nat → Nat) : Nat → List AOp → St → (St → Prop) → Prop
  | _, [], σ, K => K σ
  | i, o :: os, σ, K => wpOp fa CK (vs i) o σ fun σ' => wpOps fa CK vs (i + 1) os σ' K

end Go.Ab
