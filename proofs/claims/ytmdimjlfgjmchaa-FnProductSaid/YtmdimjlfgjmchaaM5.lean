/- Walking through code. Conditions: none. -/
import Derived.Test.YtmdimjlfgjmchaaM4
import Derived.IntWalk
set_option linter.all false

/-! Proofs of functions: rules without versions, and the forms in which states stand. -/
namespace Go.Ab
set_option maxRecDepth 20000

/-- wpC with any versions. -/
def wpD (P : Program) : AC → (AEx → St → Prop) → St → Prop
  | .skip, Q, σ => Q .normal σ
  | .reg draw ops, Q, σ => ∀ vs, Ab.wpOps (!draw) (wpCk P draw) vs 0 ops σ (Q .normal)
  | .kp ts hs a, Q, σ => wpD P a Q (σ.keep ts hs)
  | .regi draw ops, Q, σ => ∀ vs U, New vs U σ → Ab.wpOps (!draw) (wpCk P draw) vs 0 ops σ (Q .normal)
  | .gh a, Q, σ => σ.Dist → ∃ gs, gwp gs (fun σ' => wpD P a Q σ') σ
  | .mv x y a, Q, σ => ∀ m, wpD P a Q (σ.mv x y m)
  | .dn a, Q, σ => wpD P a Q σ.dn
  | .ad b off r k a, Q, σ => ∀ ver, wpD P a Q (σ.adopt b off r k ver)
  | .seq a b, Q, σ => wpD P a (fun e σ' => match e with | .normal => wpD P b Q σ' | e => Q e σ') σ
  | .cond c a b, Q, σ => match σ.ev c with
    | .val (.bool t) => (t = true → wpD P a Q σ) ∧ (t = false → wpD P b Q σ)
    | _ => False
  | .block id a, Q, σ => wpD P a (fun e σ' => match e with | .exit i => if i = id then Q .normal σ' else Q (.exit i) σ' | e => Q e σ') σ
  | .loop a, Q, σ => ∃ I : Nat → St → Prop, (∃ n, I n σ) ∧ ∀ n σ', I n σ' → wpD P a (fun e σ'' => match e with | .normal => ∃ k, k < n ∧ I k σ'' | e => Q e σ'') σ'
  | .exit id, Q, σ => Q (.exit id) σ
  | .ret, Q, σ => Q .ret σ
  | .stuck, _, _ => False

theorem wpOps_mono {P : Program} {fa pu : Bool} {vs : Nat → Nat → Nat} {K K' : St → Prop} (h : ∀ σ, K σ → K' σ) : ∀ (ops : List AOp) (i : Nat) (σ : St), Ab.wpOps fa (wpCk P pu) vs i ops σ K → Ab.wpOps fa (wpCk P pu) vs i ops σ K'
  | [], _, _, hh => h _ hh
  | _ :: ops, i, _, hh => wpOp_monoX (fun σ' => wpOps_mono h ops (i + 1) σ') hh

theorem wpC_of_wpD {P : Program} : ∀ (a : AC) (Q Q' : AEx → St → Prop) (σ : St), (∀ e σ, Q e σ → Q' e σ) → wpD P a Q σ → wpC P a Q' σ
  | .skip, _, _, _, hq, h => hq _ _ h
  | .reg draw ops, _, _, _, hq, h => fun vs _ _ => wpOps_mono (hq _) ops 0 _ (h vs)
  | .kp ts hs a, Q, Q', σ, hq, h => wpC_of_wpD a Q Q' _ hq h
  | .regi draw ops, _, _, _, hq, h => fun vs U hN => wpOps_mono (hq _) ops 0 _ (h vs U hN)
  | .gh a, Q, Q', σ, hq, h => fun hd => by
    obtain ⟨gs, hg⟩ := h hd
    exact ⟨gs, gwp_mono (fun σ' h' => wpC_of_wpD a Q Q' σ' hq h') gs σ hg⟩
  | .mv x y a, Q, Q', σ, hq, h => fun m => wpC_of_wpD a Q Q' _ hq (h m)
  | .dn a, Q, Q', σ, hq, h => wpC_of_wpD a Q Q' _ hq h
  | .ad b off r k a, Q, Q', σ, hq, h => fun ver => wpC_of_wpD a Q Q' _ hq (h ver)
  | .seq a b, Q, Q', σ, hq, h => by
    refine wpC_of_wpD a _ _ σ (fun e σ' he => ?_) h
    cases e with
    | normal => exact wpC_of_wpD b Q Q' σ' hq he
    | _ => exact hq _ _ he
  | .cond c a b, Q, Q', σ, hq, h => by
    simp only [wpD, wpC] at h ⊢
    split at h
    · rename_i t ht
      simp only [ht]
      exact ⟨fun e => wpC_of_wpD a Q Q' σ hq (h.1 e), fun e => wpC_of_wpD b Q Q' σ hq (h.2 e)⟩
    · exact h.elim
  | .block id a, Q, Q', σ, hq, h => by
    refine wpC_of_wpD a _ _ σ (fun e σ' he => ?_) h
    cases e with
    | exit i =>
      simp only [] at he ⊢
      split
      · rename_i hi; rw [if_pos hi] at he; exact hq _ _ he
      · rename_i hi; rw [if_neg hi] at he; exact hq _ _ he
    | _ => exact hq _ _ he
  | .loop a, Q, Q', σ, hq, h => by
    simp only [wpD, wpC] at h ⊢
    obtain ⟨I, h0, h1⟩ := h
    refine ⟨I, h0, fun n σ' hI => wpC_of_wpD a _ _ σ' (fun e σ'' he => ?_) (h1 n σ' hI)⟩
    cases e with
    | normal => exact he
    | _ => exact hq _ _ he
  | .exit id, _, _, _, hq, h => hq _ _ h
  | .ret, _, _, _, hq, h => hq _ _ h
  | .stuck, _, _, _, _, h => h.elim

theorem wpD_mono {P : Program} : ∀ (a : AC) (Q Q' : AEx → St → Prop) (σ : St), (∀ e σ, Q e σ → Q' e σ) → wpD P a Q σ → wpD P a Q' σ
  | .skip, _, _, _, hq, h => hq _ _ h
  | .reg draw ops, _, _, _, hq, h => fun vs => wpOps_mono (hq _) ops 0 _ (h vs)
  | .kp ts hs a, Q, Q', σ, hq, h => wpD_mono a Q Q' _ hq h
  | .regi draw ops, _, _, _, hq, h => fun vs U hN => wpOps_mono (hq _) ops 0 _ (h vs U hN)
  | .gh a, Q, Q', σ, hq, h => fun hd => by
    obtain ⟨gs, hg⟩ := h hd
    exact ⟨gs, gwp_mono (fun σ' h' => wpD_mono a Q Q' σ' hq h') gs σ hg⟩
  | .mv x y a, Q, Q', σ, hq, h => fun m => wpD_mono a Q Q' _ hq (h m)
  | .dn a, Q, Q', σ, hq, h => wpD_mono a Q Q' _ hq h
  | .ad b off r k a, Q, Q', σ, hq, h => fun ver => wpD_mono a Q Q' _ hq (h ver)
  | .seq a b, Q, Q', σ, hq, h => by
    refine wpD_mono a _ _ σ (fun e σ' he => ?_) h
    cases e with
    | normal => exact wpD_mono b Q Q' σ' hq he
    | _ => exact hq _ _ he
  | .cond c a b, Q, Q', σ, hq, h => by
    simp only [wpD] at h ⊢
    split at h
    · rename_i t ht
      try simp only [ht]
      exact ⟨fun e => wpD_mono a Q Q' σ hq (h.1 e), fun e => wpD_mono b Q Q' σ hq (h.2 e)⟩
    · exact h.elim
  | .block id a, Q, Q', σ, hq, h => by
    refine wpD_mono a _ _ σ (fun e σ' he => ?_) h
    cases e with
    | exit i =>
      simp only [] at he ⊢
      split
      · rename_i hi; rw [if_pos hi] at he; exact hq _ _ he
      · rename_i hi; rw [if_neg hi] at he; exact hq _ _ he
    | _ => exact hq _ _ he
  | .loop a, Q, Q', σ, hq, h => by
    simp only [wpD] at h ⊢
    obtain ⟨I, h0, h1⟩ := h
    refine ⟨I, h0, fun n σ' hI => wpD_mono a _ _ σ' (fun e σ'' he => ?_) (h1 n σ' hI)⟩
    cases e with
    | normal => exact he
    | _ => exact hq _ _ he
  | .exit id, _, _, _, hq, h => hq _ _ h
  | .ret, _, _, _, hq, h => hq _ _ h
  | .stuck, _, _, _, _, h => h.elim

/-- A value without slices of its own. -/
def AVal.plain : AVal → Prop
  | .val _ => True
  | .tup cs => ∀ A ∈ cs, ∃ v, A = .val v
  | _ => False

/-- A contract of a function that changes nothing and gives one value. -/
def Fun (P : Program) (g : FuncId) (args : List AVal) (v : AVal) : Prop := Con P g [] args false fun outs rows res => outs = [] ∧ rows = [] ∧ res = v

/-- What is asked of the end of a function that changes nothing. -/
theorem fun_of_wp {P : Program} {g : FuncId} {F : AFn} (hm : P.follows .mixedOrders = true) {no : Option (List Nat × List FuncId)} (hF : cFn (drV no) P g F) {args : List AVal} {v : AVal} (hargs : args.length = F.nparams)
    (hv : v.ren (expo []) id = v ∧ v.fresh)
    (h : wpD P F.code (fun e σ => match e with | .exit _ => False | _ => (∀ x ∈ F.res, σ.there x) ∧ σ.value F.res = v) (St.init args [])) : Fun P g args v := by
  refine con_of_wp (draw_ok hm) hF hargs (by simp) (wpC_of_wpD _ _ _ _ (fun e σ he => ?_) h)
  have : (∀ x ∈ F.res, σ.there x) ∧ σ.value F.res = v → ∃ ids, Ret 0 false ids (fun outs rows res => outs = [] ∧ rows = [] ∧ res = v) F.res σ := by
    rintro ⟨h1, h2⟩
    refine ⟨[], h1, ⟨rfl, rfl, by rw [h2]; exact hv.1⟩, by omega, by simp, by simp, by simp, fun _ => ⟨by rw [h2]; exact hv.2, by simp, fun j hj => by omega⟩⟩
  cases e with
  | exit _ => exact he
  | normal => exact this he
  | ret => exact this he

theorem callHp_nil {hp : Nat → AObj} {d : Nat} {s : Nat → Nat} : callHp hp [] d s [] [] = hp := by
  funext n
  refine callHp_not ?_
  rintro ⟨q, hq⟩
  obtain ⟨i, hi, _⟩ := rid_nil hq
  simp at hi

/-- A call of a function that changes nothing. -/
theorem call_fun {P : Program} {pu : Bool} {σ : St} {g : FuncId} {As args : List AVal} {v : AVal} {d : Option Nat} {s : Nat → Nat} {K : St → Prop} (h : Fun P g args v) (hco : CoeL σ.hp [] true args As)
    (hv : v.plain) (hk : K (St.put σ d v)) : wpCall P pu σ g As d s K := by
  refine .inl ⟨[], [], args, false, _, h, ⟨by simp, rfl, by simp, by simp, by simp⟩, hco, fun _ => ⟨rfl, [], [], v, rfl, rfl, rfl⟩, ?_⟩
  rintro outs rows res ⟨rfl, rfl, rfl⟩
  refine ⟨rfl, by simp, by simp, ?_⟩
  rw [callHp_nil]
  have : res.ren (rid [] (d.getD 0) 0) (sv σ.hp [] s) = res := by
    cases res with
    | val x => rfl
    | tup cs =>
      simp only [AVal.ren]
      congr 1
      have hv' : ∀ A ∈ cs, ∃ v, A = .val v := hv
      clear hv
      clear hk h
      induction cs with
      | nil => simp [renL]
      | cons A cs ih =>
        obtain ⟨x, rfl⟩ := hv' A (by simp)
        simp only [renL, AVal.ren]
        rw [ih fun A hA => hv' A (List.mem_cons_of_mem _ hA)]
    | _ => exact hv.elim
  exact (congrArg (fun z => K (St.put σ d z)) this).mpr hk

/-- A loop. -/
theorem wpD_loop {P : Program} {α : Type} {ts hs : List Nat} {a : AC} {Q : AEx → St → Prop} {σ : St} (m : α → Nat) (inv : α → Prop) (S : α → St) (x0 : α) (h0 : inv x0) (hS : σ.keep ts hs = S x0)
    (h : ∀ x, inv x → wpD P a (fun e σ' => match e with | .normal => ∃ y, m y < m x ∧ inv y ∧ σ'.keep ts hs = S y | e => Q e σ') (S x)) : wpD P (.loop (.kp ts hs a)) Q σ := by
  refine ⟨fun n σ => ∃ x, m x = n ∧ inv x ∧ σ.keep ts hs = S x, ⟨m x0, x0, rfl, h0, hS⟩, ?_⟩
  rintro n σ' ⟨x, rfl, hx, hS⟩
  show wpD P a _ (σ'.keep ts hs)
  rw [hS]
  refine wpD_mono _ _ _ _ (fun e σ'' he => ?_) (h x hx)
  cases e with
  | normal =>
    obtain ⟨y, h1, h2, h3⟩ := he
    exact ⟨m y, h1, y, rfl, h2, h3⟩
  | exit i => exact he
  | ret => exact he

/-- What comes behind, by name: so that a step of simp does not go into it. -/
def seqQ (W : (AEx → St → Prop) → St → Prop) (Q : AEx → St → Prop) : AEx → St → Prop
  | .normal, σ => W Q σ
  | .exit i, σ => Q (.exit i) σ
  | .ret, σ => Q .ret σ

def blockQ (id : Nat) (Q : AEx → St → Prop) : AEx → St → Prop
  | .normal, σ => Q .normal σ
  | .exit i, σ => if i = id then Q .normal σ else Q (.exit i) σ
  | .ret, σ => Q .ret σ

def loopQ (N : St → Prop) (Q : AEx → St → Prop) : AEx → St → Prop
  | .normal, σ => N σ
  | .exit i, σ => Q (.exit i) σ
  | .ret, σ => Q .ret σ

def finQ (N : St → Prop) : AEx → St → Prop
  | .exit _, _ => False
  | .normal, σ => N σ
  | .ret, σ => N σ

section
variable {P : Program} {Q : AEx → St → Prop} {σ : St} {W : (AEx → St → Prop) → St → Prop} {N : St → Prop} {a b : AC}
theorem seqQ_n : seqQ W Q .normal σ = W Q σ := rfl
theorem seqQ_e {i : Nat} : seqQ W Q (.exit i) σ = Q (.exit i) σ := rfl
theorem seqQ_r : seqQ W Q .ret σ = Q .ret σ := rfl
theorem blockQ_n {id : Nat} : blockQ id Q .normal σ = Q .normal σ := rfl
theorem blockQ_e {id i : Nat} : blockQ id Q (.exit i) σ = if i = id then Q .normal σ else Q (.exit i) σ := rfl
theorem blockQ_r {id : Nat} : blockQ id Q .ret σ = Q .ret σ := rfl
theorem loopQ_n : loopQ N Q .normal σ = N σ := rfl
theorem loopQ_e {i : Nat} : loopQ N Q (.exit i) σ = Q (.exit i) σ := rfl
theorem loopQ_r : loopQ N Q .ret σ = Q .ret σ := rfl
theorem finQ_n : finQ N .normal σ = N σ := rfl
theorem finQ_e {i : Nat} : finQ N (.exit i) σ = False := rfl
theorem finQ_r : finQ N .ret σ = N σ := rfl

theorem wpD_skip : wpD P .skip Q σ = Q .normal σ := rfl
theorem wpD_reg {draw : Bool} {ops : List AOp} : wpD P (.reg draw ops) Q σ = ∀ vs, Ab.wpOps (!draw) (wpCk P draw) vs 0 ops σ (Q .normal) := rfl
theorem wpD_kp {ts hs : List Nat} : wpD P (.kp ts hs a) Q σ = wpD P a Q (σ.keep ts hs) := rfl
theorem wpD_regi {draw : Bool} {ops : List AOp} : wpD P (.regi draw ops) Q σ = ∀ vs U, New vs U σ → Ab.wpOps (!draw) (wpCk P draw) vs 0 ops σ (Q .normal) := rfl
theorem wpD_ad {x off r k : Nat} : wpD P (.ad x off r k a) Q σ = ∀ ver, wpD P a Q (σ.adopt x off r k ver) := rfl
theorem wpD_seq : wpD P (.seq a b) Q σ = wpD P a (seqQ (wpD P b) Q) σ := by
  show wpD P a _ σ = _
  congr 1
  funext e σ'
  cases e <;> rfl
theorem wpD_block {id : Nat} : wpD P (.block id a) Q σ = wpD P a (blockQ id Q) σ := by
  show wpD P a _ σ = _
  congr 1
  funext e σ'
  cases e <;> rfl
theorem wpD_exit {i : Nat} : wpD P (.exit i) Q σ = Q (.exit i) σ := rfl
theorem wpD_ret : wpD P .ret Q σ = Q .ret σ := rfl
theorem wpD_stuck : wpD P .stuck Q σ = False := rfl

theorem wpD_lp {α : Type} {ts hs : List Nat} (m : α → Nat) (inv : α → Prop) (S : α → St) (x0 : α) (h0 : inv x0) (hS : σ.keep ts hs = S x0)
    (h : ∀ x, inv x → wpD P a (loopQ (fun σ' => ∃ y, m y < m x ∧ inv y ∧ σ'.keep ts hs = S y) Q) (S x)) : wpD P (.loop (.kp ts hs a)) Q σ := by
  refine wpD_loop m inv S x0 h0 hS fun x hx => wpD_mono _ _ _ _ (fun e σ' he => ?_) (h x hx)
  cases e <;> exact he

theorem fun_of {g : FuncId} {F : AFn} (hm : P.follows .mixedOrders = true) {no : Option (List Nat × List FuncId)} (hF : cFn (drV no) P g F) {args : List AVal} {v : AVal} (hargs : args.length = F.nparams)
    (hv : v.ren (expo []) id = v ∧ v.fresh) (h : wpD P F.code (finQ fun σ => (∀ x ∈ F.res, σ.there x) ∧ σ.value F.res = v) (St.init args [])) : Fun P g args v := by
  refine fun_of_wp hm hF hargs hv (wpD_mono _ _ _ _ (fun e σ he => ?_) h)
  cases e <;> exact he
end

theorem put_L {l : List (Nat × AVal)} {hp : Nat → AObj} {d : Nat} {A : AVal} : St.put ⟨L .any l, hp⟩ (some d) A = ⟨L .any ((d, A) :: l), hp⟩ := rfl
theorem L_hit {α : Type} {z a : α} {k : Nat} {l : List (Nat × α)} : L z ((k, a) :: l) k = a := by simp [L]
theorem L_miss {α : Type} {z a : α} {k n : Nat} {l : List (Nat × α)} (h : n ≠ k) : L z ((k, a) :: l) n = L z l n := by simp [L, h]
theorem L_nil {α : Type} {z : α} {n : Nat} : L z ([] : List (Nat × α)) n = z := rfl
theorem put_none {σ : St} {A : AVal} : St.put σ none A = σ := rfl

end Go.Ab

/-! Small things for proofs of functions. -/
namespace Go.Ab

abbrev iv (n : Int) : AVal := .val (.int .i64 n)
abbrev bv (b : Bool) : AVal := .val (.bool b)
abbrev ints (xs : List Int) : List AVal := xs.map fun x => .val (.int .i64 x)

theorem w64 {n : Int} (h : -9223372036854775808 ≤ n ∧ n ≤ 9223372036854775807) : IntKind.i64.wrap n = n := IntWalk.i64_in n h

theorem maxLen_le : maxLen ≤ 9223372036854775807 := by decide

theorem i2n (i : Nat) : ((i : Int)).toNat = i := by simp

end Go.Ab

/-! Proofs of functions: objects in lists, calls that make a row. -/
namespace Go.Ab
set_option maxRecDepth 20000

theorem upd_L {l : List (Nat × AObj)} {d : Nat} {o : AObj} : upd (L .gone l) d o = L .gone ((d, o) :: l) := rfl

def goneL (hp : Nat → AObj) : List Nat → Nat → AObj
  | [] => hp
  | r :: rs => upd (goneL hp rs) r .gone

theorem goneL_nil {hp : Nat → AObj} : goneL hp [] = hp := rfl
theorem goneL_cons {hp : Nat → AObj} {r : Nat} {rs : List Nat} : goneL hp (r :: rs) = upd (goneL hp rs) r .gone := rfl

theorem goneL_eq {hp : Nat → AObj} : ∀ (rs : List Nat), (fun n => if n ∈ rs then .gone else hp n) = goneL hp rs
  | [] => by funext n; simp [goneL]
  | r :: rs => by
    rw [goneL_cons, ← goneL_eq rs]
    funext n
    unfold upd
    by_cases h : n = r
    · subst h; simp
    · simp [h]

/-- The objects behind an instruction, in the form of updates. -/
def AI.hq (σ : St) (ver : Nat) (d : Nat) : AI → Nat → AObj
  | .box x => upd σ.hp d (.box ver (σ.ev x).cells)
  | .new z => upd σ.hp d (.box ver (z.map .val))
  | .bsl k _ xs => upd (goneL σ.hp (owned (xs.flatMap fun x => (σ.ev x).cells))) d (.row ver k true ((xs.flatMap fun x => (σ.ev x).cells).map (frz σ.hp)))
  | .bsln _ k xs => upd (goneL σ.hp (owned (xs.flatMap fun x => (σ.ev x).cells))) d (.row ver k true ((xs.flatMap fun x => (σ.ev x).cells).map (frz σ.hp)))
  | .bslm _ k xs => upd (goneL σ.hp (owned (xs.flatMap fun x => (σ.ev x).cells))) d (.row ver k true ((xs.flatMap fun x => (σ.ev x).cells).map (frz σ.hp)))
  | .ston _ _ x v => match σ.ev x with
    | .ptr r _ off => (match σ.hp r with
      | .box ver' cs => upd σ.hp r (.box ver' (putAt cs off (σ.ev v).cells))
      | _ => σ.hp)
    | _ => σ.hp
  | .appn _ k _ s x => match σ.ev s with
    | .own r _ => (match σ.hp r with
      | .row _ _ nn cs => upd σ.hp r (.row ver k (nn || decide ((σ.slc (σ.ev x)).length ≠ 0)) (cs ++ σ.slc (σ.ev x)))
      | _ => σ.hp)
    | _ => σ.hp
  | .sto _ x v => match σ.ev x with
    | .ptr r _ off => (match σ.hp r with
      | .box ver' cs => upd σ.hp r (.box ver' (putAt cs off (σ.ev v).cells))
      | .row ver' k nn cs => upd (goneL σ.hp (owned (σ.ev v).cells)) r (.row ver' k nn (putAt cs off ((σ.ev v).cells.map (frz σ.hp))))
      | _ => σ.hp)
    | _ => σ.hp
  | .app k _ s x => match σ.ev s with
    | .own r _ => (match σ.hp r with
      | .row _ _ nn cs => upd σ.hp r (.row ver k (nn || decide ((σ.slc (σ.ev x)).length ≠ 0)) (cs ++ σ.slc (σ.ev x)))
      | _ => σ.hp)
    | _ => if (σ.slc (σ.ev x)).length = 0 then σ.hp else upd σ.hp d (.row ver k true (σ.slc (σ.ev x)))
  | .mks k _ z l _ => match σ.ev l with
    | .val (.int _ n) => upd σ.hp d (.row ver k true (List.replicate n.toNat (z.map .val)).flatten)
    | _ => σ.hp
  | .slc k x lo hi => match σ.ev x with
    | .own r _ => (match σ.hp r with
      | .row _ _ nn cs => (match σ.bound 0 lo, σ.bound (cs.length / k) hi with | some l, some h => upd σ.hp r (.row ver k nn ((cs.take (h * k)).drop (l * k))) | _, _ => σ.hp)
      | _ => σ.hp)
    | _ => σ.hp
  | .slc0 k x => upd σ.hp d (.row ver k (σ.nn (σ.ev x)) [])
  | .mkm => upd σ.hp d (.map ver [] [])
  | .mup _ x i v => match σ.ev x, (σ.ev i).keyV with
    | .mp r _, .val k => (match σ.hp r with
      | .map ver' ks vs => (match findKeyAt k ks 0 with
        | some (some j) => upd (goneL σ.hp (owned [σ.ev v])) r (.map ver' ks (vs.set j (frz σ.hp (σ.ev v))))
        | _ => upd (goneL σ.hp (owned [σ.ev v])) r (.map ver' (ks ++ [k]) (vs ++ [frz σ.hp (σ.ev v)])))
      | _ => σ.hp)
    | _, _ => σ.hp
  | _ => σ.hp

theorem upd_gone {hp : Nat → AObj} {r : Nat} {o : AObj} {rs : List Nat} : (fun n => if n = r then o else if n ∈ rs then .gone else hp n) = upd (goneL hp rs) r o := by
  rw [← goneL_eq]; rfl

theorem hpw_eq (σ : St) (ver d : Nat) (x : AI) : x.hpw σ ver d = x.hq σ ver d := by
  cases x with
  | bsl k fz xs => exact upd_gone
  | bsln nos k xs => exact upd_gone
  | bslm nos k xs => exact upd_gone
  | sto n x v =>
    simp only [AI.hpw, AI.hq]
    cases hx : σ.ev x with
    | ptr r v' off =>
      simp only []
      cases hr : σ.hp r with
      | row v k nn cs => exact upd_gone
      | _ => rfl
    | _ => rfl
  | mup kd x i v =>
    simp only [AI.hpw, AI.hq]
    cases hx : σ.ev x with
    | mp r v' =>
      cases hi : (σ.ev i).keyV with
      | val k =>
        simp only []
        cases hr : σ.hp r with
        | map v ks vs =>
          simp only []
          cases hk : findKeyAt k ks 0 with
          | none => exact upd_gone
          | some q => cases q <;> exact upd_gone
        | _ => rfl
      | _ => rfl
    | _ => rfl
  | _ => rfl

mutual
/-- A value that leads to no object and has no name. -/
def AVal.flat : AVal → Prop
  | .any => True
  | .val _ => True
  | .ro nm _ cs => (nm = none ∨ nm = some none ∨ nm = some (some 0)) ∧ flatL cs
  | .own _ _ => False
  | .st cs => flatL cs
  | .tup cs => flatL cs
  | .ptr _ _ _ => False
  | .rp cs _ => flatL cs
  | .mp _ _ => False
  | .clo _ cs => flatL cs
def flatL : List AVal → Prop
  | [] => True
  | A :: cs => A.flat ∧ flatL cs
end

mutual
theorem ren_flat {f : Nat → Option Nat} {s : Nat → Nat} : ∀ (A : AVal), A.flat → A.ren f s = A
  | .any, _ => by simp only [AVal.ren]
  | .val _, _ => by simp only [AVal.ren]
  | .ro nm k cs, h => by
    simp only [AVal.flat] at h
    obtain ⟨rfl | rfl | rfl, h⟩ := h <;> simp only [AVal.ren, renL_flat cs h, rnNm]
  | .own _ _, h => by simp only [AVal.flat] at h
  | .st cs, h => by simp only [AVal.flat] at h; simp only [AVal.ren, renL_flat cs h]
  | .tup cs, h => by simp only [AVal.flat] at h; simp only [AVal.ren, renL_flat cs h]
  | .ptr _ _ _, h => by simp only [AVal.flat] at h
  | .rp cs _, h => by simp only [AVal.flat] at h; simp only [AVal.ren, renL_flat cs h]
  | .mp _ _, h => by simp only [AVal.flat] at h
  | .clo _ cs, h => by simp only [AVal.flat] at h; simp only [AVal.ren, renL_flat cs h]
theorem renL_flat {f : Nat → Option Nat} {s : Nat → Nat} : ∀ (cs : List AVal), flatL cs → renL f s cs = cs
  | [], _ => by simp only [renL]
  | A :: cs, h => by
    simp only [flatL] at h
    simp only [renL, ren_flat A h.1, renL_flat cs h.2]
end

theorem fresh_vals {cs : List AVal} (h : ∀ A ∈ cs, ∃ x, A = .val x) : freshL cs := (freshL_iff cs).2 fun A hA => by obtain ⟨x, rfl⟩ := h A hA; simp [AVal.fresh]

theorem flat_vals : ∀ {cs : List AVal}, (∀ A ∈ cs, ∃ x, A = .val x) → flatL cs
  | [], _ => by simp [flatL]
  | A :: cs, h => by
    obtain ⟨x, hx⟩ := h A (by simp)
    subst hx
    simp only [flatL, AVal.flat, true_and]
    exact flat_vals fun B hB => h B (by simp [hB])

theorem ev_t {σ : St} {n : Nat} : St.ev σ (.t n) = σ.tm n := rfl
theorem ev_c {σ : St} {v : Value} : St.ev σ (.c v) = .val v := rfl
theorem ev_f {σ : St} {g : FuncId} : St.ev σ (.f g) = .clo g [] := rfl
theorem frz_ints {hp : Nat → AObj} {xs : List Int} : (ints xs).map (frz hp) = ints xs := by simp [ints, frz]
theorem one_ints {hp : Nat → AObj} {xs : List Int} : (∀ A ∈ ints xs, One hp A) = True := by
  refine eq_true ?_
  intro A hA
  simp only [ints, List.mem_map] at hA
  obtain ⟨x, _, rfl⟩ := hA
  rfl
theorem owned_ints {xs : List Int} : owned (ints xs) = [] := by
  induction xs with
  | nil => rfl
  | cons x xs ih => exact ih
theorem upd_hit {hp : Nat → AObj} {d : Nat} {o : AObj} : upd hp d o d = o := by simp [upd]
theorem one_iv {hp : Nat → AObj} {k : IntKind} {n : Int} : One hp (.val (.int k n)) = True := by simp [One, Value.oneCell']
theorem one_bv {hp : Nat → AObj} {b : Bool} : One hp (.val (.bool b)) = True := by simp [One, Value.oneCell']
theorem one_str {hp : Nat → AObj} {b : ByteArray} : One hp (.val (.string b)) = True := by simp [One, Value.oneCell']
theorem one_nil {hp : Nat → AObj} : One hp (.val (.slice none 0 0)) = True := by simp [One, Value.oneCell']
theorem one_ro {hp : Nat → AObj} {nm : Option (Option Nat)} {k : Nat} {cs : List AVal} : One hp (.ro nm k cs) = True := by simp [One]
theorem ints_app {xs ys : List Int} : ints xs ++ ints ys = ints (xs ++ ys) := by simp [ints]

theorem ints_rep {n : Nat} {x : Int} : (List.replicate n [AVal.val (.int .i64 x)]).flatten = ints (List.replicate n x) := by
  induction n with
  | zero => rfl
  | succ n ih => rw [List.replicate_succ, List.replicate_succ, List.flatten_cons, ih]; rfl
theorem callHp_one {hp : Nat → AObj} {d : Nat} {s : Nat → Nat} {o : AObj} : callHp hp [] d s [] [o] = upd hp d (o.ren (rid [] d 1) s) := by
  funext n
  by_cases h : n = d
  · have h1 : rid [] d [o].length 6000 = some n := by
      have := rid_new (m := []) (d := d) (nr := 1) (i := 0) (by omega)
      simpa [newId, h] using this
    rw [callHp_at (by simp) (by simp) h1, sv_nil]
    simp [upd, h, outHp]
  · rw [callHp_not]
    · simp [upd, h]
    · rintro ⟨q, hq⟩
      obtain ⟨i, hi, e⟩ := rid_nil hq
      simp at hi
      subst hi
      exact h (by simpa [newId] using e)

end Go.Ab

/-! Proofs of functions: rules in which names are forgotten, contracts of every form, and what is handed over. -/
namespace Go.Ab
set_option maxRecDepth 20000

abbrev intsK (k : IntKind) (xs : List Int) : List AVal := xs.map fun x => .val (.int k x)
/-- Rows of numbers, as new ones and as lent ones. -/
def rws (xss : List (List Int)) : List AVal := xss.map fun xs => .ro (some none) 1 (ints xs)
def rwn (xss : List (List Int)) : List AVal := xss.map fun xs => .ro none 1 (ints xs)

def pickT (f : Nat → AVal) : List Nat → List (Nat × AVal)
  | [] => []
  | k :: ks => (k, (f k).dn) :: pickT f ks

def pickO (f : Nat → AObj) : List Nat → List (Nat × AObj)
  | [] => []
  | k :: ks => match f k with
    | .gone => pickO f ks
    | o => (k, o.dn) :: pickO f ks

def St.kd (σ : St) (ts hs : List Nat) : St := ⟨L .any (pickT σ.tm ts), L .gone (pickO σ.hp hs)⟩

theorem adopt_fun {h : List (Nat × AObj)} {b r : Nat} {o o' : AObj} : (fun n => if n = b then o else if n = r then o' else L .gone h n) = L .gone ((b, o) :: (r, o') :: h) := rfl

theorem kd_L {l : List (Nat × AVal)} {h : List (Nat × AObj)} {ts hs : List Nat} : St.kd ⟨L .any l, L .gone h⟩ ts hs = ⟨L .any (pickT (L .any l) ts), L .gone (pickO (L .gone h) hs)⟩ := rfl

theorem wpOps_nil {fa : Bool} {CK : CM → St → FuncId → List AVal → Option Nat → (Nat → Nat) → (St → Prop) → Prop} {vs : Nat → Nat → Nat} {i : Nat} {σ : St} {K : St → Prop} : Ab.wpOps fa CK vs i [] σ K = K σ := rfl
theorem wpOps_L {fa : Bool} {CK : CM → St → FuncId → List AVal → Option Nat → (Nat → Nat) → (St → Prop) → Prop} {vs : Nat → Nat → Nat} {i : Nat} {o : AOp} {os : List AOp} {l : List (Nat × AVal)} {h : List (Nat × AObj)} {K : St → Prop} :
    Ab.wpOps fa CK vs i (o :: os) ⟨L .any l, L .gone h⟩ K = Ab.wpOp fa CK (vs i) o ⟨L .any l, L .gone h⟩ (fun σ' => Ab.wpOps fa CK vs (i + 1) os σ' K) := rfl

/-- What a guard lets by; the ways are looked at when it is known which. -/
def grdP (A : AVal) (w : Bool) (f g : Unit → Prop) : Prop :=
  match A with
  | .val (.bool b) => (b = w → f ()) ∧ (b ≠ w → g ())
  | .val (.tuple _) => g ()
  | _ => False
def cndP (A : AVal) (f g : Unit → Prop) : Prop :=
  match A with
  | .val (.bool t) => (t = true → f ()) ∧ (t = false → g ())
  | _ => False
@[congr] theorem grdP_congr {A A' : AVal} {w : Bool} {f g : Unit → Prop} (h : A = A') : grdP A w f g = grdP A' w f g := by rw [h]
@[congr] theorem cndP_congr {A A' : AVal} {f g : Unit → Prop} (h : A = A') : cndP A f g = cndP A' f g := by rw [h]
theorem wpOp_n {fa : Bool} {CK : CM → St → FuncId → List AVal → Option Nat → (Nat → Nat) → (St → Prop) → Prop} {s : Nat → Nat} {d : Option Nat} {y : AIns} {σ : St} {K : St → Prop} : Ab.wpOp fa CK s ⟨d, none, y⟩ σ K = Ab.wpIns fa CK s d σ K y := rfl
theorem wpOp_g {fa : Bool} {CK : CM → St → FuncId → List AVal → Option Nat → (Nat → Nat) → (St → Prop) → Prop} {s : Nat → Nat} {d : Option Nat} {y : AIns} {σ : St} {K : St → Prop} {t : Nat} {w : Bool} :
    Ab.wpOp fa CK s ⟨d, some (t, w), y⟩ σ K = grdP (σ.tm t) w (fun _ => Ab.wpIns fa CK s d σ K y) (fun _ => K (σ.put d (.val (.tuple #[])))) := rfl
theorem grd_tt {f g : Unit → Prop} : grdP (.val (.bool true)) true f g = f () := by simp [grdP]
theorem grd_ff {f g : Unit → Prop} : grdP (.val (.bool false)) false f g = f () := by simp [grdP]
theorem grd_tf {f g : Unit → Prop} : grdP (.val (.bool true)) false f g = g () := by simp [grdP]
theorem grd_ft {f g : Unit → Prop} : grdP (.val (.bool false)) true f g = g () := by simp [grdP]
theorem grd_u {f g : Unit → Prop} {w : Bool} {x : Array Value} : grdP (.val (.tuple x)) w f g = g () := rfl
theorem grd_b {f g : Unit → Prop} {w b : Bool} : grdP (.val (.bool b)) w f g = ((b = w → f ()) ∧ (b ≠ w → g ())) := rfl
theorem cnd_t {f g : Unit → Prop} : cndP (.val (.bool true)) f g = f () := by simp [cndP]
theorem cnd_f {f g : Unit → Prop} : cndP (.val (.bool false)) f g = g () := by simp [cndP]
theorem cnd_b {f g : Unit → Prop} {b : Bool} : cndP (.val (.bool b)) f g = ((b = true → f ()) ∧ (b = false → g ())) := rfl
theorem wpD_condL {P : Program} {Q : AEx → St → Prop} {σ : St} {a b : AC} {c : AOpd} : wpD P (.cond c a b) Q σ = cndP (σ.ev c) (fun _ => wpD P a Q σ) (fun _ => wpD P b Q σ) := rfl

theorem pickT_eq {f : Nat → AVal} : ∀ (ks : List Nat) (n : Nat), (L .any (pickL .any f ks) n).dn = L .any (pickT f ks) n
  | [], n => by simp [pickL, pickT, L, AVal.dn]
  | k :: ks, n => by
    simp only [pickL, pickT, L]
    by_cases h : n = k
    · simp [h]
    · simp only [h, if_false]; exact pickT_eq ks n

theorem pickO_miss {f : Nat → AObj} : ∀ (ks : List Nat) (n : Nat), f n = .gone → L .gone (pickO f ks) n = .gone
  | [], n, _ => rfl
  | k :: ks, n, h => by
    simp only [pickO]
    split
    · exact pickO_miss ks n h
    · rename_i hk
      simp only [L]
      by_cases e : n = k
      · subst e; exact absurd h hk
      · rw [if_neg e]; exact pickO_miss ks n h

theorem pickO_eq {f : Nat → AObj} : ∀ (ks : List Nat) (n : Nat), (L .gone (pickL .gone f ks) n).dn = L .gone (pickO f ks) n
  | [], n => by simp [pickL, pickO, L, AObj.dn]
  | k :: ks, n => by
    simp only [pickL, pickO, L]
    by_cases h : n = k
    · subst h
      simp only [if_true]
      split
      · rename_i e; rw [pickO_miss ks n e, e]; rfl
      · simp only [L, if_true]
    · simp only [h, if_false]
      split
      · exact pickO_eq ks n
      · simp only [L, h, if_false]; exact pickO_eq ks n

theorem kd_eq (σ : St) (ts hs : List Nat) : (σ.keep ts hs).dn = σ.kd ts hs := by
  unfold St.keep St.dn St.kd
  congr 1
  · funext n; exact pickT_eq ts n
  · funext n; exact pickO_eq hs n

section
variable {P : Program} {Q : AEx → St → Prop} {σ : St} {a b : AC}

theorem wpD_kpd {ts hs : List Nat} : wpD P (.kp ts hs (.dn a)) Q σ = wpD P a Q (σ.kd ts hs) := by rw [← kd_eq]; rfl

theorem wpD_dnret : wpD P (.dn .ret) Q σ = Q .ret σ.dn := rfl

/-- A loop. -/
theorem wpD_lo {α : Type} {ts hs : List Nat} (m : α → Nat) (inv : α → Prop) (S : α → St) (x0 : α) (h0 : inv x0) (hS : σ.kd ts hs = S x0)
    (h : ∀ x, inv x → wpD P a (loopQ (fun σ' => ∃ y, m y < m x ∧ inv y ∧ σ'.kd ts hs = S y) Q) (S x)) : wpD P (.loop (.kp ts hs (.dn a))) Q σ := by
  refine ⟨fun n σ => ∃ x, m x = n ∧ inv x ∧ σ.kd ts hs = S x, ⟨m x0, x0, rfl, h0, hS⟩, ?_⟩
  rintro n σ' ⟨x, rfl, hx, hS⟩
  show wpD P a _ (σ'.keep ts hs).dn
  rw [kd_eq, hS]
  refine wpD_mono _ _ _ _ (fun e σ'' he => ?_) (h x hx)
  cases e with
  | normal =>
    obtain ⟨y, h1, h2, h3⟩ := he
    exact ⟨m y, h1, y, rfl, h2, h3⟩
  | exit i => exact he
  | ret => exact he

/-- A place where the ways meet again. -/
theorem wpD_cut {α : Type} {ts hs : List Nat} (inv : α → Prop) (S : α → St)
    (h1 : wpD P a (seqQ (fun _ σ' => ∃ x, inv x ∧ σ'.kd ts hs = S x) Q) σ) (h2 : ∀ x, inv x → wpD P b Q (S x)) : wpD P (.seq a (.kp ts hs (.dn b))) Q σ := by
  rw [wpD_seq]
  refine wpD_mono _ _ _ _ (fun e σ' he => ?_) h1
  cases e with
  | normal =>
    obtain ⟨x, hx, hS⟩ := he
    show wpD P (.kp ts hs (.dn b)) Q σ'
    rw [wpD_kpd, hS]
    exact h2 x hx
  | exit i => exact he
  | ret => exact he
end

def mvT (a v b m : Nat) : List (Nat × AVal) → List (Nat × AVal)
  | [] => []
  | (k, A) :: l => (k, A.mv a v b m) :: mvT a v b m l
def mvO (a v b m : Nat) : List (Nat × AObj) → List (Nat × AObj)
  | [] => []
  | (k, o) :: l => (k, o.mv a v b m) :: mvO a v b m l
theorem mvT_eq {a v b m : Nat} : ∀ (l : List (Nat × AVal)) (n : Nat), L .any (mvT a v b m l) n = (L .any l n).mv a v b m
  | [], n => by simp [mvT, L, AVal.mv]
  | (k, A) :: l, n => by
    simp only [mvT, L]
    split
    · rfl
    · exact mvT_eq l n
theorem mvO_eq {a v b m : Nat} : ∀ (l : List (Nat × AObj)) (n : Nat), L .gone (mvO a v b m l) n = (L .gone l n).mv a v b m
  | [], n => by simp [mvO, L, AObj.mv]
  | (k, A) :: l, n => by
    simp only [mvO, L]
    split
    · rfl
    · exact mvO_eq l n
theorem mv_L {l : List (Nat × AVal)} {h : List (Nat × AObj)} {a b m : Nat} : St.mv ⟨L .any l, L .gone h⟩ a b m = match (L .gone h a).ver with
    | none => ⟨L .any l, L .gone h⟩
    | some v => if a = b then ⟨L .any l, L .gone h⟩ else ⟨L .any (mvT a v b m l), L .gone ((a, .gone) :: (b, ((L .gone h a).mv a v b m).wv m) :: mvO a v b m h)⟩ := by
  unfold St.mv
  show (match (L .gone h a).ver with | none => _ | some v => _) = _
  cases (L .gone h a).ver with
  | none => rfl
  | some v =>
    simp only []
    split
    · rfl
    · congr 1
      · funext n; exact (mvT_eq l n).symm
      · funext n
        simp only [L]
        split
        · rfl
        · split
          · rfl
          · exact (mvO_eq h n).symm
theorem mvV_any {a v b m : Nat} : AVal.mv a v b m .any = .any := by simp only [AVal.mv]
theorem mvV_val {a v b m : Nat} {x : Value} : AVal.mv a v b m (.val x) = .val x := by simp only [AVal.mv]
theorem mvV_ro {a v b m : Nat} {nm : Option (Option Nat)} {k : Nat} {cs : List AVal} : AVal.mv a v b m (.ro nm k cs) = .ro nm k (mvL a v b m cs) := by simp only [AVal.mv]
theorem mvV_own {a v b m r u : Nat} : AVal.mv a v b m (.own r u) = if r = a then (if u = v then .own b m else .any) else if r = b then .any else .own r u := by simp only [AVal.mv]
theorem mvV_ptr {a v b m r u off : Nat} : AVal.mv a v b m (.ptr r u off) = if r = a then (if u = v then .ptr b m off else .any) else if r = b then .any else .ptr r u off := by simp only [AVal.mv]
theorem mvV_mp {a v b m r u : Nat} : AVal.mv a v b m (.mp r u) = if r = a then (if u = v then .mp b m else .any) else if r = b then .any else .mp r u := by simp only [AVal.mv]
theorem mvV_st {a v b m : Nat} {cs : List AVal} : AVal.mv a v b m (.st cs) = .st (mvL a v b m cs) := by simp only [AVal.mv]
theorem mvV_tup {a v b m : Nat} {cs : List AVal} : AVal.mv a v b m (.tup cs) = .tup (mvL a v b m cs) := by simp only [AVal.mv]
theorem mvV_rp {a v b m o : Nat} {cs : List AVal} : AVal.mv a v b m (.rp cs o) = .rp (mvL a v b m cs) o := by simp only [AVal.mv]
theorem mvV_clo {a v b m : Nat} {g : FuncId} {cs : List AVal} : AVal.mv a v b m (.clo g cs) = .clo g (mvL a v b m cs) := by simp only [AVal.mv]
theorem mvL_nil {a v b m : Nat} : mvL a v b m [] = [] := by simp only [mvL]
theorem mvL_cons {a v b m : Nat} {A : AVal} {cs : List AVal} : mvL a v b m (A :: cs) = A.mv a v b m :: mvL a v b m cs := by simp only [mvL]
theorem mvL_ints {a v b m : Nat} {k : IntKind} {xs : List Int} : mvL a v b m (intsK k xs) = intsK k xs := by simp [mvL_eq, intsK, AVal.mv]
theorem mvL_rws {a v b m : Nat} {xss : List (List Int)} : mvL a v b m (rws xss) = rws xss := by
  simp only [mvL_eq, rws, List.map_map]
  exact List.map_congr_left fun xs _ => by simp [AVal.mv, ints, mvL_eq]
theorem mvL_rwn {a v b m : Nat} {xss : List (List Int)} : mvL a v b m (rwn xss) = rwn xss := by
  simp only [mvL_eq, rwn, List.map_map]
  exact List.map_congr_left fun xs _ => by simp [AVal.mv, ints, mvL_eq]
theorem dn_tm {σ : St} {n : Nat} : σ.dn.tm n = (σ.tm n).dn := rfl
theorem dn_hp {σ : St} {n : Nat} : σ.dn.hp n = (σ.hp n).dn := rfl
theorem dn_any : AVal.dn .any = .any := by simp only [AVal.dn]
theorem dn_val {v : Value} : AVal.dn (.val v) = .val v := by simp only [AVal.dn]
theorem dn_ro {nm : Option (Option Nat)} {k : Nat} {cs : List AVal} : AVal.dn (.ro nm k cs) = .ro (dnNm nm) k (dnL cs) := by simp only [AVal.dn]
theorem dn_own {r v : Nat} : AVal.dn (.own r v) = .own r v := by simp only [AVal.dn]
theorem dn_st {cs : List AVal} : AVal.dn (.st cs) = .st (dnL cs) := by simp only [AVal.dn]
theorem dn_tup {cs : List AVal} : AVal.dn (.tup cs) = .tup (dnL cs) := by simp only [AVal.dn]
theorem dn_ptr {r v o : Nat} : AVal.dn (.ptr r v o) = .ptr r v o := by simp only [AVal.dn]
theorem dn_rp {cs : List AVal} {o : Nat} : AVal.dn (.rp cs o) = .rp (dnL cs) o := by simp only [AVal.dn]
theorem dn_mp {r v : Nat} : AVal.dn (.mp r v) = .mp r v := by simp only [AVal.dn]
theorem dn_clo {g : FuncId} {cs : List AVal} : AVal.dn (.clo g cs) = .clo g (dnL cs) := by simp only [AVal.dn]
theorem dnL_nil : dnL [] = [] := by simp only [dnL]
theorem dnL_cons {A : AVal} {cs : List AVal} : dnL (A :: cs) = A.dn :: dnL cs := by simp only [dnL]
theorem dnL_app {cs ds : List AVal} : dnL (cs ++ ds) = dnL cs ++ dnL ds := by simp [dnL_eq]
theorem dnL_ints {k : IntKind} {xs : List Int} : dnL (intsK k xs) = intsK k xs := by simp [dnL_eq, intsK, AVal.dn]
theorem dnNm_n : dnNm none = none := rfl
theorem dnNm_sn : dnNm (some none) = some none := rfl
theorem dnNm_o : dnNm (some (some 0)) = some (some 0) := rfl
theorem dnNm_s {n : Nat} : dnNm (some (some (n + 1))) = some none := rfl
theorem isNew_sn : isNew (some none) = true := rfl
theorem isNew_s {n : Nat} : isNew (some (some (n + 1))) = true := rfl
theorem rnNm_n {s : Nat → Nat} : rnNm s none = none := rfl
theorem rnNm_sn {s : Nat → Nat} : rnNm s (some none) = some none := rfl
theorem rnNm_o {s : Nat → Nat} : rnNm s (some (some 0)) = some (some 0) := rfl
theorem rnNm_s {s : Nat → Nat} {n : Nat} : rnNm s (some (some (n + 1))) = some (some (s n + 1)) := rfl
theorem dnL_rws {xss : List (List Int)} : dnL (rws xss) = rws xss := by
  simp only [dnL_eq, rws, List.map_map]
  exact List.map_congr_left fun xs _ => by simp [AVal.dn, ints, dnL_eq, dnNm]
theorem dnL_rwn {xss : List (List Int)} : dnL (rwn xss) = rwn xss := by
  simp only [dnL_eq, rwn, List.map_map]
  exact List.map_congr_left fun xs _ => by simp [AVal.dn, ints, dnL_eq, dnNm]
theorem odn_box {v : Nat} {cs : List AVal} : AObj.dn (.box v cs) = .box v (dnL cs) := rfl
theorem odn_row {v k : Nat} {nn : Bool} {cs : List AVal} : AObj.dn (.row v k nn cs) = .row v k nn (dnL cs) := rfl
theorem odn_map {v : Nat} {ks : List Value} {vs : List AVal} : AObj.dn (.map v ks vs) = .map v ks (dnL vs) := rfl

theorem rws_snoc {xss : List (List Int)} {xs : List Int} : rws xss ++ [.ro (some none) 1 (ints xs)] = rws (xss ++ [xs]) := by simp [rws]
theorem rws_nil : rws [] = [] := rfl
theorem rws_app {xss yss : List (List Int)} : rws xss ++ rws yss = rws (xss ++ yss) := by simp [rws]
theorem rws_len {xss : List (List Int)} : (rws xss).length = xss.length := by simp [rws]
theorem rwn_len {xss : List (List Int)} : (rwn xss).length = xss.length := by simp [rwn]
theorem rws_getD {xss : List (List Int)} {i : Nat} (h : i < xss.length) : (rws xss).getD i .any = .ro (some none) 1 (ints (xss.getD i [])) := by
  simp [rws, List.getD_eq_getElem?_getD, h]
theorem rwn_getD {xss : List (List Int)} {i : Nat} (h : i < xss.length) : (rwn xss).getD i .any = .ro none 1 (ints (xss.getD i [])) := by
  simp [rwn, List.getD_eq_getElem?_getD, h]
theorem intsK_getD {k : IntKind} {xs : List Int} {i : Nat} (h : i < xs.length) : (intsK k xs).getD i .any = .val (.int k (xs.getD i 0)) := by
  simp [List.getD_eq_getElem?_getD, h]
theorem intsK_snoc {k : IntKind} {xs : List Int} {x : Int} : intsK k xs ++ [AVal.val (.int k x)] = intsK k (xs ++ [x]) := by simp
theorem one_intsK {hp : Nat → AObj} {k : IntKind} {xs : List Int} : (∀ A ∈ intsK k xs, One hp A) = True := by
  refine eq_true ?_
  intro A hA
  simp only [List.mem_map] at hA
  obtain ⟨x, _, rfl⟩ := hA
  rfl
theorem one_rws {hp : Nat → AObj} {xss : List (List Int)} : (∀ A ∈ rws xss, One hp A) = True := by
  refine eq_true ?_
  intro A hA
  simp only [rws, List.mem_map] at hA
  obtain ⟨x, _, rfl⟩ := hA
  exact trivial
theorem one_rwn {hp : Nat → AObj} {xss : List (List Int)} : (∀ A ∈ rwn xss, One hp A) = True := by
  refine eq_true ?_
  intro A hA
  simp only [rwn, List.mem_map] at hA
  obtain ⟨x, _, rfl⟩ := hA
  exact trivial
theorem frz_intsK {hp : Nat → AObj} {k : IntKind} {xs : List Int} : (intsK k xs).map (frz hp) = intsK k xs := by simp [frz]
theorem frz_rws {hp : Nat → AObj} {xss : List (List Int)} : (rws xss).map (frz hp) = rws xss := by simp [rws, frz]
theorem owned_intsK {k : IntKind} {xs : List Int} : owned (intsK k xs) = [] := by
  induction xs with
  | nil => rfl
  | cons x xs ih => exact ih
theorem owned_rws {xss : List (List Int)} : owned (rws xss) = [] := by
  induction xss with
  | nil => rfl
  | cons x xs ih => exact ih

theorem range1 : List.range 1 = [0] := rfl
theorem nodup_one {a : Nat} : [a].Nodup = True := by simp
def isRow : AObj → Nat → Prop
  | .row v' _ _ _, v => v' = v
  | _, _ => False
def isMap : AObj → Nat → Prop
  | .map v' _ _, v => v' = v
  | _, _ => False
theorem one_own {hp : Nat → AObj} {r v : Nat} : One hp (.own r v) = isRow (hp r) v := by
  simp only [One]
  cases hp r with
  | row v' k nn cs =>
    simp only [isRow, AObj.row.injEq]
    exact propext ⟨fun ⟨_, _, _, h⟩ => h.1, fun h => ⟨k, nn, cs, h, rfl, rfl, rfl⟩⟩
  | _ => simp [isRow]
theorem one_mp {hp : Nat → AObj} {r v : Nat} : One hp (.mp r v) = isMap (hp r) v := by
  simp only [One]
  cases hp r with
  | map v' ks vs =>
    simp only [isMap, AObj.map.injEq]
    exact propext ⟨fun ⟨_, _, h⟩ => h.1, fun h => ⟨ks, vs, h, rfl, rfl⟩⟩
  | _ => simp [isMap]
theorem one_ptr {hp : Nat → AObj} {r v o : Nat} : One hp (.ptr r v o) = ((hp r).ver = some v) := rfl
theorem one_rp {hp : Nat → AObj} {cs : List AVal} {o : Nat} : One hp (.rp cs o) = True := by simp [One]
theorem one_clo {hp : Nat → AObj} {g : FuncId} {cs : List AVal} : One hp (.clo g cs) = True := by simp [One]

/-! What is handed over. -/
section
variable {hp : Nat → AObj} {m : List Nat} {len : Bool}
theorem coeL_nil : CoeL hp m len [] [] = True := by simp [CoeL]
theorem coeL_cons {B A : AVal} {Bs As : List AVal} : CoeL hp m len (B :: Bs) (A :: As) = (Coe hp m len B A ∧ CoeL hp m len Bs As) := by
  simp only [CoeL]
  refine propext ⟨?_, fun h => ⟨A, As, rfl, h.1, h.2⟩⟩
  rintro ⟨A', As', e, h1, h2⟩
  simp only [List.cons.injEq] at e
  obtain ⟨rfl, rfl⟩ := e
  exact ⟨h1, h2⟩
theorem coe_any {A : AVal} : Coe hp m len .any A = True := by simp [Coe]
theorem coe_val {x y : Value} : Coe hp m len (.val x) (.val y) = (y = x) := by simp [Coe]
theorem coe_ro {k : Nat} {nm : Option (Option Nat)} {cs cs' : List AVal} : Coe hp m len (.ro none k cs) (.ro nm k cs') = (0 < k ∧ CoeL hp m len cs cs') := by
  simp only [Coe]
  refine propext ⟨?_, fun h => ⟨.inl trivial, h.1, .inl ⟨nm, cs', rfl, h.2⟩⟩⟩
  rintro ⟨_, hk, ⟨nm', cs'', e, h⟩ | ⟨e, _⟩ | ⟨_, r, v, nn, cs'', e, _⟩⟩
  · cases e; exact ⟨hk, h⟩
  · cases e
  · cases e
theorem coe_ro_nil {k : Nat} {cs : List AVal} : Coe hp m len (.ro none k cs) (.val (.slice none 0 0)) = (0 < k ∧ cs = []) := by
  simp [Coe]
/-- An object is a row with this version and size of its elements, and something is so of its cells. -/
def rowIs : AObj → Nat → Nat → (List AVal → Prop) → Prop
  | .row v' k' _ cs, v, k, p => v' = v ∧ k' = k ∧ p cs
  | _, _, _, _ => False
def boxIs : AObj → Nat → (List AVal → Prop) → Prop
  | .box v' cs, v, p => v' = v ∧ p cs
  | _, _, _ => False
theorem rowIs_ex {o : AObj} {v k : Nat} {p : List AVal → Prop} : rowIs o v k p ↔ ∃ nn cs, o = .row v k nn cs ∧ p cs := by
  cases o with
  | row v' k' nn cs =>
    simp only [rowIs, AObj.row.injEq]
    exact ⟨fun ⟨h1, h2, h3⟩ => ⟨nn, cs, ⟨h1, h2, rfl, rfl⟩, h3⟩, fun ⟨_, _, ⟨h1, h2, _, h4⟩, h5⟩ => ⟨h1, h2, h4 ▸ h5⟩⟩
  | _ => simp [rowIs]
theorem boxIs_ex {o : AObj} {v : Nat} {p : List AVal → Prop} : boxIs o v p ↔ ∃ cs, o = .box v cs ∧ p cs := by
  cases o with
  | box v' cs =>
    simp only [boxIs, AObj.box.injEq]
    exact ⟨fun ⟨h1, h3⟩ => ⟨cs, ⟨h1, rfl⟩, h3⟩, fun ⟨_, ⟨h1, h4⟩, h5⟩ => ⟨h1, h4 ▸ h5⟩⟩
  | _ => simp [boxIs]
theorem coe_ro_own {k r v : Nat} {cs : List AVal} : Coe hp m true (.ro none k cs) (.own r v) = (0 < k ∧ r ∉ m ∧ rowIs (hp r) v k (CoeL hp m true cs)) := by
  rw [propext rowIs_ex]
  simp only [Coe]
  refine propext ⟨?_, fun ⟨hk, hr, nn, cs', h1, h2⟩ => ⟨.inl trivial, hk, .inr (.inr ⟨trivial, r, v, nn, cs', rfl, hr, h1, h2⟩)⟩⟩
  rintro ⟨_, hk, ⟨nm', cs'', e, h⟩ | ⟨e, _⟩ | ⟨_, r', v', nn, cs'', e, h1, h2, h3⟩⟩
  · cases e
  · cases e
  · cases e; exact ⟨hk, h1, nn, cs'', h2, h3⟩
theorem coeL_self : ∀ {cs : List AVal}, (∀ A ∈ cs, ∃ x, A = .val x) → CoeL hp m len cs cs
  | [], _ => by simp [CoeL]
  | A :: cs, h => by
    rw [coeL_cons]
    obtain ⟨x, rfl⟩ := h A (by simp)
    exact ⟨by simp [Coe], coeL_self fun B hB => h B (by simp [hB])⟩
/-- What may be nil is not, if it is empty. -/
def argN {α : Type} (xs : List α) : Option (Option Nat) := if xs.length = 0 then some none else none
theorem dn_argN {α : Type} {xs : List α} : dnNm (argN xs) = argN xs := by unfold argN; split <;> rfl
theorem argN_nn {α : Type} {xs : List α} : (isNew (argN xs) = true ∨ 0 < xs.length) = True := by
  refine eq_true ?_
  unfold argN
  by_cases h : xs.length = 0
  · left; rw [if_pos h]; rfl
  · right; omega
theorem coe_argN' {xs : List Int} {x : Option Nat} (hx : isNew (some x) = true) : Coe hp m len (.ro (argN xs) 1 (ints xs)) (.ro (some x) 1 (ints xs)) = True := by
  refine eq_true ?_
  simp only [Coe]
  refine ⟨?_, by omega, .inl ⟨some x, ints xs, rfl, coeL_self fun A hA => ?_⟩⟩
  · unfold argN
    by_cases h : xs.length = 0
    · rw [if_pos h]
      have : xs = [] := List.eq_nil_of_length_eq_zero h
      subst this
      exact .inr (.inr ⟨rfl, rfl, .inl ⟨some x, 1, ints [], rfl, hx⟩⟩)
    · rw [if_neg h]; exact .inl rfl
  · simp only [List.mem_map] at hA
    obtain ⟨x, _, rfl⟩ := hA
    exact ⟨_, rfl⟩
theorem coe_argN {xs : List Int} : Coe hp m len (.ro (argN xs) 1 (ints xs)) (.ro (some none) 1 (ints xs)) = True := coe_argN' rfl
theorem coe_argNs {xs : List Int} {x : Nat} : Coe hp m len (.ro (argN xs) 1 (ints xs)) (.ro (some (some (x + 1))) 1 (ints xs)) = True := coe_argN' rfl
theorem coe_ro_o {k : Nat} {cs cs' : List AVal} : Coe hp m len (.ro (some (some 0)) k cs) (.ro (some (some 0)) k cs') = (0 < k ∧ CoeL hp m len cs cs') := by
  simp only [Coe]
  refine propext ⟨?_, fun h => ⟨.inr (.inl ⟨trivial, .inr ⟨k, cs', rfl⟩⟩), h.1, .inl ⟨some (some 0), cs', rfl, h.2⟩⟩⟩
  rintro ⟨_, hk, ⟨nm', cs'', e, h⟩ | ⟨e, _⟩ | ⟨_, r, v, nn, cs'', e, _⟩⟩
  · cases e; exact ⟨hk, h⟩
  · cases e
  · cases e
theorem coe_st {cs cs' : List AVal} : Coe hp m len (.st cs) (.st cs') = CoeL hp m len cs cs' := by
  simp only [Coe]
  refine propext ⟨?_, fun h => .inl ⟨cs', rfl, h⟩⟩
  rintro (⟨cs'', e, h⟩ | ⟨vs, e, _⟩)
  · cases e; exact h
  · cases e
theorem coe_st_agg {cs : List AVal} {vs : Array Value} : Coe hp m len (.st cs) (.val (.agg vs)) = CoeL hp m len cs (vs.toList.map .val) := by
  simp only [Coe]
  refine propext ⟨?_, fun h => .inr ⟨vs, rfl, h⟩⟩
  rintro (⟨cs'', e, h⟩ | ⟨vs', e, h⟩)
  · cases e
  · cases e; exact h
theorem coe_rp {cs cs' : List AVal} {off : Nat} : Coe hp m len (.rp cs off) (.rp cs' off) = CoeL hp m len cs cs' := by
  simp only [Coe]
  refine propext ⟨?_, fun h => .inl ⟨cs', rfl, h⟩⟩
  rintro (⟨cs'', e, h⟩ | ⟨_, r, v, cs'', e, _⟩)
  · cases e; exact h
  · cases e
theorem coe_rp_ptr {cs : List AVal} {r v off : Nat} : Coe hp m true (.rp cs off) (.ptr r v off) = (r ∉ m ∧ boxIs (hp r) v (CoeL hp m true cs)) := by
  rw [propext boxIs_ex]
  simp only [Coe]
  refine propext ⟨?_, fun ⟨h1, cs', h2, h3⟩ => .inr ⟨trivial, r, v, cs', rfl, h1, h2, h3⟩⟩
  rintro (⟨cs'', e, h⟩ | ⟨_, r', v', cs'', e, h1, h2, h3⟩)
  · cases e
  · cases e; exact ⟨h1, cs'', h2, h3⟩
theorem coe_clo {g : FuncId} {cs cs' : List AVal} : Coe hp m len (.clo g cs) (.clo g cs') = CoeL hp m len cs cs' := by
  simp only [Coe]
  refine propext ⟨?_, fun h => ⟨cs', rfl, h⟩⟩
  rintro ⟨cs'', e, h⟩
  cases e; exact h
theorem coe_own0 {r v : Nat} : Coe hp [r] len (.own 5000 0) (.own r v) = ((hp r).ver = some v) := by
  simp only [Coe]
  refine propext ⟨?_, fun h => ⟨0, r, v, rfl, rfl, rfl, rfl, h⟩⟩
  rintro ⟨j, r', v', h1, h2, h3, e, h4⟩
  cases e; exact h4
theorem coe_ptr0 {r v off : Nat} : Coe hp [r] len (.ptr 5000 0 off) (.ptr r v off) = ((hp r).ver = some v) := by
  simp only [Coe]
  refine propext ⟨?_, fun h => ⟨0, r, v, rfl, rfl, rfl, rfl, h⟩⟩
  rintro ⟨j, r', v', h1, h2, h3, e, h4⟩
  cases e; exact h4
theorem coeL_intsK {k : IntKind} {xs : List Int} : CoeL hp m len (intsK k xs) (intsK k xs) = True := by
  refine eq_true (coeL_self fun A hA => ?_)
  simp only [List.mem_map] at hA
  obtain ⟨x, _, rfl⟩ := hA
  exact ⟨_, rfl⟩
theorem coeL_rws : ∀ {xss : List (List Int)}, CoeL hp m len (rwn xss) (rws xss) = True
  | [] => coeL_nil
  | xs :: xss => by
    have h := coeL_rws (xss := xss)
    simp only [rws, rwn, List.map_cons] at h ⊢
    rw [coeL_cons, h, coe_ro]
    simp [coeL_intsK (k := .i64)]
theorem coeL_rwn : ∀ {xss : List (List Int)}, CoeL hp m len (rwn xss) (rwn xss) = True
  | [] => coeL_nil
  | xs :: xss => by
    have h := coeL_rwn (xss := xss)
    simp only [rwn, List.map_cons] at h ⊢
    rw [coeL_cons, h, coe_ro]
    simp [coeL_intsK (k := .i64)]
end

/-! What is new. -/
theorem fresh_intsK {k : IntKind} {xs : List Int} : freshL (intsK k xs) = True := by
  refine eq_true (fresh_vals fun A hA => ?_)
  simp only [List.mem_map] at hA
  obtain ⟨x, _, rfl⟩ := hA
  exact ⟨_, rfl⟩
theorem fresh_rws {xss : List (List Int)} : freshL (rws xss) = True := by
  refine eq_true ((freshL_iff _).2 fun A hA => ?_)
  simp only [rws, List.mem_map] at hA
  obtain ⟨x, _, rfl⟩ := hA
  simp only [AVal.fresh]
  exact ⟨.inr rfl, of_eq_true (fresh_intsK (k := .i64) (xs := x))⟩

/-! Under other numbers. -/
theorem ren_val {f : Nat → Option Nat} {s : Nat → Nat} {v : Value} : AVal.ren f s (.val v) = .val v := by simp only [AVal.ren]
theorem ren_any {f : Nat → Option Nat} {s : Nat → Nat} : AVal.ren f s .any = .any := by simp only [AVal.ren]
theorem ren_ro {f : Nat → Option Nat} {s : Nat → Nat} {nm : Option (Option Nat)} {k : Nat} {cs : List AVal} : AVal.ren f s (.ro nm k cs) = .ro (rnNm s nm) k (renL f s cs) := by simp only [AVal.ren]
theorem ren_st {f : Nat → Option Nat} {s : Nat → Nat} {cs : List AVal} : AVal.ren f s (.st cs) = .st (renL f s cs) := by simp only [AVal.ren]
theorem ren_tup {f : Nat → Option Nat} {s : Nat → Nat} {cs : List AVal} : AVal.ren f s (.tup cs) = .tup (renL f s cs) := by simp only [AVal.ren]
theorem ren_own {f : Nat → Option Nat} {s : Nat → Nat} {r v r' : Nat} (h : f r = some r') : AVal.ren f s (.own r v) = .own r' (s v) := by simp only [AVal.ren, h]
theorem ren_ptr {f : Nat → Option Nat} {s : Nat → Nat} {r v r' o : Nat} (h : f r = some r') : AVal.ren f s (.ptr r v o) = .ptr r' (s v) o := by simp only [AVal.ren, h]
theorem ren_mp {f : Nat → Option Nat} {s : Nat → Nat} {r v r' : Nat} (h : f r = some r') : AVal.ren f s (.mp r v) = .mp r' (s v) := by simp only [AVal.ren, h]
theorem renL_nil {f : Nat → Option Nat} {s : Nat → Nat} : renL f s [] = [] := by simp only [renL]
theorem renL_cons {f : Nat → Option Nat} {s : Nat → Nat} {A : AVal} {cs : List AVal} : renL f s (A :: cs) = A.ren f s :: renL f s cs := by simp only [renL]
theorem renL_intsK {f : Nat → Option Nat} {s : Nat → Nat} {k : IntKind} {xs : List Int} : renL f s (intsK k xs) = intsK k xs := by simp [renL_eq, AVal.ren]
theorem renL_rws {f : Nat → Option Nat} {s : Nat → Nat} {xss : List (List Int)} : renL f s (rws xss) = rws xss := by
  simp only [renL_eq, rws, List.map_map]
  exact List.map_congr_left fun xs _ => by simp [AVal.ren, ints, renL_eq, rnNm]
theorem renL_rwn {f : Nat → Option Nat} {s : Nat → Nat} {xss : List (List Int)} : renL f s (rwn xss) = rwn xss := by
  simp only [renL_eq, rwn, List.map_map]
  exact List.map_congr_left fun xs _ => by simp [AVal.ren, ints, renL_eq, rnNm]
theorem oren_box {f : Nat → Option Nat} {s : Nat → Nat} {v : Nat} {cs : List AVal} : AObj.ren f s (.box v cs) = .box (s v) (renL f s cs) := rfl
theorem oren_row {f : Nat → Option Nat} {s : Nat → Nat} {v k : Nat} {nn : Bool} {cs : List AVal} : AObj.ren f s (.row v k nn cs) = .row (s v) k nn (renL f s cs) := rfl
theorem oren_map {f : Nat → Option Nat} {s : Nat → Nat} {v : Nat} {ks : List Value} {vs : List AVal} : AObj.ren f s (.map v ks vs) = .map (s v) ks (renL f s vs) := rfl

theorem rid0 {m : List Nat} {d n : Nat} : rid m d (n + 1) 6000 = some d := by
  have := rid_new (m := m) (d := d) (nr := n + 1) (i := 0) (by omega)
  simpa [newId] using this
theorem rid1 {m : List Nat} {d n : Nat} : rid m d (n + 2) 6001 = some (d + 1000) := by
  have := rid_new (m := m) (d := d) (nr := n + 2) (i := 1) (by omega)
  simpa [newId] using this
theorem rid2 {m : List Nat} {d n : Nat} : rid m d (n + 3) 6002 = some (d + 2000) := by
  have := rid_new (m := m) (d := d) (nr := n + 3) (i := 2) (by omega)
  simpa [newId] using this

theorem expo0 {r : Nat} {l : List Nat} (h : r < 5000) : expo (r :: l) r = some 6000 := by
  unfold expo
  rw [if_neg (by omega)]
  simp [List.idxOf?, List.findIdx?, List.findIdx?.go]
theorem expo1 {r r0 : Nat} {l : List Nat} (h : r < 5000) (h0 : r0 ≠ r) : expo (r0 :: r :: l) r = some 6001 := by
  unfold expo
  rw [if_neg (by omega)]
  simp [List.idxOf?, List.findIdx?, List.findIdx?.go, h0]
theorem expo2 {r r0 r1 : Nat} {l : List Nat} (h : r < 5000) (h0 : r0 ≠ r) (h1 : r1 ≠ r) : expo (r0 :: r1 :: r :: l) r = some 6002 := by
  unfold expo
  rw [if_neg (by omega)]
  simp [List.idxOf?, List.findIdx?, List.findIdx?.go, h0, h1]
theorem ren_own_e0 {r v : Nat} {l : List Nat} {s : Nat → Nat} (h : r < 5000) : AVal.ren (expo (r :: l)) s (.own r v) = .own 6000 (s v) := ren_own (expo0 h)
theorem ren_own_e1 {r r0 v : Nat} {l : List Nat} {s : Nat → Nat} (h : r < 5000) (h0 : r0 ≠ r) : AVal.ren (expo (r0 :: r :: l)) s (.own r v) = .own 6001 (s v) := ren_own (expo1 h h0)
theorem ren_own_e2 {r r0 r1 v : Nat} {l : List Nat} {s : Nat → Nat} (h : r < 5000) (h0 : r0 ≠ r) (h1 : r1 ≠ r) : AVal.ren (expo (r0 :: r1 :: r :: l)) s (.own r v) = .own 6002 (s v) := ren_own (expo2 h h0 h1)
theorem ren_ptr_e0 {r v o : Nat} {l : List Nat} {s : Nat → Nat} (h : r < 5000) : AVal.ren (expo (r :: l)) s (.ptr r v o) = .ptr 6000 (s v) o := ren_ptr (expo0 h)
theorem ren_mp_e0 {r v : Nat} {l : List Nat} {s : Nat → Nat} (h : r < 5000) : AVal.ren (expo (r :: l)) s (.mp r v) = .mp 6000 (s v) := ren_mp (expo0 h)
theorem ren_mp_e1 {r r0 v : Nat} {l : List Nat} {s : Nat → Nat} (h : r < 5000) (h0 : r0 ≠ r) : AVal.ren (expo (r0 :: r :: l)) s (.mp r v) = .mp 6001 (s v) := ren_mp (expo1 h h0)
theorem ren_own_r0 {m : List Nat} {d n v : Nat} {s : Nat → Nat} : AVal.ren (rid m d (n + 1)) s (.own 6000 v) = .own d (s v) := ren_own rid0
theorem ren_own_r1 {m : List Nat} {d n v : Nat} {s : Nat → Nat} : AVal.ren (rid m d (n + 2)) s (.own 6001 v) = .own (d + 1000) (s v) := ren_own rid1
theorem ren_own_r2 {m : List Nat} {d n v : Nat} {s : Nat → Nat} : AVal.ren (rid m d (n + 3)) s (.own 6002 v) = .own (d + 2000) (s v) := ren_own rid2
theorem ren_ptr_r0 {m : List Nat} {d n v o : Nat} {s : Nat → Nat} : AVal.ren (rid m d (n + 1)) s (.ptr 6000 v o) = .ptr d (s v) o := ren_ptr rid0
theorem ren_mp_r0 {m : List Nat} {d n v : Nat} {s : Nat → Nat} : AVal.ren (rid m d (n + 1)) s (.mp 6000 v) = .mp d (s v) := ren_mp rid0
theorem ren_mp_r1 {m : List Nat} {d n v : Nat} {s : Nat → Nat} : AVal.ren (rid m d (n + 2)) s (.mp 6001 v) = .mp (d + 1000) (s v) := ren_mp rid1

/-- What is asked of slots for what a call makes. -/
theorem gone_one {hp : Nat → AObj} {d : Nat} {o : AObj} : (∀ i, i < [o].length → hp (newId d i) = .gone) = (hp d = .gone) := by
  refine propext ⟨fun h => by simpa [newId] using h 0 (by simp), fun h i hi => ?_⟩
  have : i = 0 := by simpa using hi
  subst this; simpa [newId] using h
theorem gone_two {hp : Nat → AObj} {d : Nat} {o o' : AObj} : (∀ i, i < [o, o'].length → hp (newId d i) = .gone) = (hp d = .gone ∧ hp (d + 1000) = .gone) := by
  refine propext ⟨fun h => ⟨by simpa [newId] using h 0 (by simp), by simpa [newId] using h 1 (by simp)⟩, fun h i hi => ?_⟩
  have hi' : i < 2 := by simpa using hi
  have : i = 0 ∨ i = 1 := by omega
  rcases this with rfl | rfl
  · simpa [newId] using h.1
  · simpa [newId] using h.2
theorem gone_nil {hp : Nat → AObj} {d : Nat} : (∀ i, i < ([] : List AObj).length → hp (newId d i) = .gone) = True := by simp

end Go.Ab

/-! Proofs of functions: what is asked of a function's end, and calls, for contracts of every form. -/
namespace Go.Ab
set_option maxRecDepth 20000

/-- What is asked of the end of a function. -/
theorem con_of {P : Program} {g : FuncId} {F : AFn} (hm : P.follows .mixedOrders = true) {no : Option (List Nat × List FuncId)} (hF : cFn (drV no) P g F) {ins : List AObj} {args : List AVal} (hargs : args.length = F.nparams) (hins : ins.length ≤ 1000)
    {R : List AObj → List AObj → AVal → Prop}
    (h : wpD P F.code (finQ fun σ => (∀ x ∈ F.res, σ.there x) ∧ ∃ ids : List Nat, ids.length ≤ 1000 ∧ ids.Nodup ∧ (∀ n ∈ ids, n < 5000) ∧ (σ.value F.res).fresh ∧ (∀ n ∈ ids, (σ.hp n).fresh) ∧ (∀ j, j < ins.length → (σ.hp (5000 + j)).fresh) ∧
      R ((List.range ins.length).map fun j => (σ.hp (5000 + j)).ren (expo ids) id) (ids.map fun n => (σ.hp n).ren (expo ids) id) ((σ.value F.res).ren (expo ids) id)) (St.init args ins)) : Con P g ins args false R := by
  refine con_of_wp (draw_ok hm) hF hargs hins (wpC_of_wpD _ _ _ _ (fun e σ he => ?_) h)
  have : (∀ x ∈ F.res, σ.there x) ∧ (∃ ids : List Nat, ids.length ≤ 1000 ∧ ids.Nodup ∧ (∀ n ∈ ids, n < 5000) ∧ (σ.value F.res).fresh ∧ (∀ n ∈ ids, (σ.hp n).fresh) ∧ (∀ j, j < ins.length → (σ.hp (5000 + j)).fresh) ∧
      R ((List.range ins.length).map fun j => (σ.hp (5000 + j)).ren (expo ids) id) (ids.map fun n => (σ.hp n).ren (expo ids) id) ((σ.value F.res).ren (expo ids) id)) → ∃ ids, Ret ins.length false ids R F.res σ := by
    rintro ⟨h1, ids, h2, h3, h4, h5, h6, h7, h8⟩
    exact ⟨ids, h1, h8, hins, h2, h3, h4, fun _ => ⟨h5, h6, h7⟩⟩
  cases e with
  | exit _ => exact he
  | normal => exact this he
  | ret => exact this he

/-- The same, where what is given may share memory with what came in. -/
theorem con_sh {P : Program} {g : FuncId} {F : AFn} (hm : P.follows .mixedOrders = true) {no : Option (List Nat × List FuncId)} (hF : cFn (drV no) P g F) {ins : List AObj} {args : List AVal} (hargs : args.length = F.nparams) (hins : ins.length ≤ 1000)
    {R : List AObj → List AObj → AVal → Prop}
    (h : wpD P F.code (finQ fun σ => (∀ x ∈ F.res, σ.there x) ∧ ∃ ids : List Nat, ids.length ≤ 1000 ∧ ids.Nodup ∧ (∀ n ∈ ids, n < 5000) ∧
      R ((List.range ins.length).map fun j => (σ.hp (5000 + j)).ren (expo ids) id) (ids.map fun n => (σ.hp n).ren (expo ids) id) ((σ.value F.res).ren (expo ids) id)) (St.init args ins)) : Con P g ins args true R := by
  refine con_of_wp (draw_ok hm) hF hargs hins (wpC_of_wpD _ _ _ _ (fun e σ he => ?_) h)
  have : (∀ x ∈ F.res, σ.there x) ∧ (∃ ids : List Nat, ids.length ≤ 1000 ∧ ids.Nodup ∧ (∀ n ∈ ids, n < 5000) ∧
      R ((List.range ins.length).map fun j => (σ.hp (5000 + j)).ren (expo ids) id) (ids.map fun n => (σ.hp n).ren (expo ids) id) ((σ.value F.res).ren (expo ids) id)) → ∃ ids, Ret ins.length true ids R F.res σ := by
    rintro ⟨h1, ids, h2, h3, h4, h8⟩
    exact ⟨ids, h1, h8, hins, h2, h3, h4, fun e => by cases e⟩
  cases e with
  | exit _ => exact he
  | normal => exact this he
  | ret => exact this he

/-- The parts of a marked piece of code. -/
def AC.kts : AC → List Nat
  | .kp ts _ _ => ts
  | _ => []
def AC.khs : AC → List Nat
  | .kp _ hs _ => hs
  | _ => []
def AC.kin : AC → AC
  | .kp _ _ (.dn a) => a
  | a => a

theorem wpD_lab {P : Program} {b : AC} {Q : AEx → St → Prop} {σ : St} (hb : b = .kp b.kts b.khs (.dn b.kin)) : wpD P b Q σ = wpD P b.kin Q (σ.kd b.kts b.khs) := by
  have h : wpD P (.kp b.kts b.khs (.dn b.kin)) Q σ = wpD P b.kin Q (σ.kd b.kts b.khs) := wpD_kpd
  rw [← hb] at h; exact h

/-- A contract may say less. -/
theorem Con.mono {P : Program} {g : FuncId} {ins : List AObj} {args : List AVal} {sh : Bool} {R R' : List AObj → List AObj → AVal → Prop} (h : Con P g ins args sh R) (hR : ∀ o r x, R o r x → R' o r x) : Con P g ins args sh R' := by
  refine ⟨h.1, fun c0 outsB vs h1 h2 h3 => (h.2 c0 outsB vs h1 h2 h3).mono ?_⟩
  rintro e w' ⟨v, c1, outs, rows, res, hr, h⟩
  exact ⟨v, c1, outs, rows, res, hR _ _ _ hr, h⟩

/-- A function that changes nothing: it makes rows and gives res, as Q says. -/
abbrev Fn (P : Program) (g : FuncId) (args : List AVal) (Q : List AObj → AVal → Prop) : Prop := Con P g [] args false fun outs rows res => outs = [] ∧ Q rows res

/-- A function that changes nothing and gives a plain value. -/
abbrev FunE (P : Program) (g : FuncId) (args : List AVal) (Q : Value → Prop) : Prop := Con P g [] args false fun outs rows res => outs = [] ∧ rows = [] ∧ ∃ v, Q v ∧ res = .val v

/-- A function that changes one variable (its first argument points to it) and gives a plain value. -/
abbrev FunB (P : Program) (g : FuncId) (cs : List AVal) (args : List AVal) (Q : List AVal → Value → Prop) : Prop :=
  Con P g [.box 0 cs] (.ptr 5000 0 0 :: args) true fun outs rows res => ∃ cs' v, Q cs' v ∧ flatL cs' ∧ outs = [.box 0 cs'] ∧ rows = [] ∧ res = .val v

section
variable {P : Program} {pu : Bool} {σ : St} {g : FuncId} {As args : List AVal} {d : Option Nat} {s : Nat → Nat} {K : St → Prop}

/-- A call of a function that changes nothing. -/
theorem call_fn {Q : List AObj → AVal → Prop} (h : Fn P g args Q) (hco : CoeL σ.hp [] true args As) (hex : pu = true → ∃ rows res, Q rows res)
    (hk : ∀ rows res, Q rows res → rows.length ≤ 1000 ∧ (∀ i, i < rows.length → σ.hp (newId (d.getD 0) i) = .gone) ∧ K (St.put ⟨σ.tm, callHp σ.hp [] (d.getD 0) s [] rows⟩ d (res.ren (rid [] (d.getD 0) rows.length) s))) :
    wpCall P pu σ g As d s K := by
  refine .inl ⟨[], [], args, false, _, h, ⟨by simp, rfl, by simp, by simp, by simp⟩, hco, fun e => ⟨rfl, ?_⟩, ?_⟩
  · obtain ⟨rows, res, hq⟩ := hex e
    exact ⟨[], rows, res, rfl, hq⟩
  · rintro outs rows res ⟨rfl, hq⟩
    obtain ⟨h1, h2, h3⟩ := hk rows res hq
    refine ⟨rfl, h1, h2, ?_⟩
    rw [sv_nil]; exact h3

theorem call_funE {Q : Value → Prop} (h : FunE P g args Q) (hco : CoeL σ.hp [] true args As) (hex : ∃ v, Q v) (hk : ∀ v, Q v → K (St.put σ d (.val v))) : wpCall P pu σ g As d s K := by
  refine .inl ⟨[], [], args, false, _, h, ⟨by simp, rfl, by simp, by simp, by simp⟩, hco, fun e => ⟨rfl, ?_⟩, ?_⟩
  · obtain ⟨v, hq⟩ := hex
    exact ⟨[], [], _, rfl, rfl, v, hq, rfl⟩
  · rintro outs rows res ⟨rfl, rfl, v, hq, rfl⟩
    refine ⟨rfl, by simp, by simp, ?_⟩
    rw [callHp_nil, ren_val]
    exact hk v hq

/-- One object that is handed over, and what the call makes. -/
theorem callHp_m {hp : Nat → AObj} {r d : Nat} {s : Nat → Nat} {o : AObj} : callHp hp [r] d s [o] [] = upd hp r (o.ren (rid [r] d 0) (sv hp [r] s)) := by
  funext n
  by_cases h : n = r
  · subst h
    have h1 : rid [n] d ([] : List AObj).length 5000 = some n := rid_m (j := 0) (by omega) rfl
    rw [callHp_at (by simp) (by simp) h1]
    simp [upd, outHp]
  · rw [callHp_not]
    · simp [upd, h]
    · rintro ⟨q, hq⟩
      rcases rid_cases hq with ⟨j, rfl, _, h1⟩ | ⟨i, rfl, h1, _⟩
      · cases j with
        | zero => simp at h1; exact h h1.symm
        | succ j => simp at h1
      · simp at h1

theorem callHp_two {hp : Nat → AObj} {d : Nat} {s : Nat → Nat} {o0 o1 : AObj} : callHp hp [] d s [] [o0, o1] = upd (upd hp d (o0.ren (rid [] d 2) s)) (d + 1000) (o1.ren (rid [] d 2) s) := by
  funext n
  by_cases h : n = d + 1000
  · have h1 : rid [] d [o0, o1].length 6001 = some n := by rw [h]; exact rid1
    rw [callHp_at (by simp) (by simp) h1, sv_nil]
    simp [upd, h, outHp]
  · by_cases h' : n = d
    · have h1 : rid [] d [o0, o1].length 6000 = some n := by rw [h']; exact rid0
      rw [callHp_at (by simp) (by simp) h1, sv_nil]
      have hne : d ≠ d + 1000 := by omega
      simp [upd, h', outHp, hne]
    · rw [callHp_not]
      · simp [upd, h, h']
      · rintro ⟨q, hq⟩
        obtain ⟨i, hi, e⟩ := rid_nil hq
        simp at hi
        unfold newId at e
        have : i = 0 ∨ i = 1 := by omega
        rcases this with rfl | rfl
        · exact h' (by simpa using e)
        · exact h (by simpa using e)

theorem callHp_mr {hp : Nat → AObj} {r d : Nat} {s : Nat → Nat} {o o1 : AObj} (hne : d ≠ r) : callHp hp [r] d s [o] [o1] = upd (upd hp r (o.ren (rid [r] d 1) (sv hp [r] s))) d (o1.ren (rid [r] d 1) (sv hp [r] s)) := by
  have hnew : ∀ i, i < [o1].length → newId d i ∉ [r] := by
    intro i hi
    have : i = 0 := by simpa using hi
    subst this; simpa [newId] using hne
  funext n
  by_cases h : n = d
  · have h1 : rid [r] d [o1].length 6000 = some n := by rw [h]; exact rid0
    rw [callHp_at (by simp) hnew h1]
    simp [upd, h, outHp]
  · by_cases h' : n = r
    · have h1 : rid [r] d [o1].length 5000 = some n := by rw [h']; exact rid_m (j := 0) (by omega) rfl
      rw [callHp_at (by simp) hnew h1]
      simp [upd, h', outHp, Ne.symm hne]
    · rw [callHp_not]
      · simp [upd, h, h']
      · rintro ⟨q, hq⟩
        rcases rid_cases hq with ⟨j, rfl, _, h1⟩ | ⟨i, rfl, h1, h2⟩
        · cases j with
          | zero => simp at h1; exact h' h1.symm
          | succ j => simp at h1
        · have : i = 0 := by simpa using h1
          subst this
          exact h (by simpa [newId] using h2)

/-- A call of a function that changes a variable. -/
theorem call_funB {cs cs0 : List AVal} {Q : List AVal → Value → Prop} {r v : Nat} (h : FunB P g cs args Q) (hr : σ.hp r = .box v cs0) (hcs : CoeL σ.hp [r] false cs cs0) (hco : CoeL σ.hp [r] false args As)
    (hk : ∀ cs' x, Q cs' x → K (St.put ⟨σ.tm, upd σ.hp r (.box v cs')⟩ d (.val x))) : wpCall P false σ g (.ptr r v 0 :: As) d s K := by
  refine .inl ⟨[r], [.box 0 cs], .ptr 5000 0 0 :: args, true, _, h, ⟨by simp, rfl, by simp, ?_, ?_⟩, ?_, (fun e => by cases e), ?_⟩
  · intro r' hr'
    simp only [List.mem_singleton] at hr'
    subst hr'; rw [hr]; simp
  · intro j B r' hB hr'
    cases j with
    | zero =>
      simp at hB hr'
      subst hB hr'
      rw [hr]
      exact ⟨rfl, v, cs0, rfl, hcs⟩
    | succ j => simp at hB
  · rw [coeL_cons, coe_ptr0, hr]
    exact ⟨rfl, hco⟩
  · rintro outs rows res ⟨cs', x, hq, hf, rfl, rfl, rfl⟩
    refine ⟨rfl, by simp, by simp, ?_⟩
    rw [callHp_m, ren_val, oren_box, renL_flat cs' hf]
    have : sv σ.hp [r] s 0 = v := by simp [sv, hr, AObj.ver]
    rw [this]
    exact hk cs' x hq
end

/-- A call. -/
theorem call_con {P : Program} {σ : St} {g : FuncId} {As args : List AVal} {d : Option Nat} {s : Nat → Nat} {K : St → Prop} {sh : Bool} {r v : Nat} {cs cs0 : List AVal} {R : List AObj → List AObj → AVal → Prop} (h : Con P g [.box 0 cs] args sh R)
    (hr : σ.hp r = .box v cs0) (hcs : CoeL σ.hp [r] (!sh) cs cs0) (hco : CoeL σ.hp [r] (!sh) args As)
    (hk : ∀ outs rows res, R outs rows res → outs.length = 1 ∧ rows.length ≤ 1000 ∧ (∀ i, i < rows.length → σ.hp (newId (d.getD 0) i) = .gone) ∧
      K (St.put ⟨σ.tm, callHp σ.hp [r] (d.getD 0) s outs rows⟩ d (res.ren (rid [r] (d.getD 0) rows.length) (sv σ.hp [r] s)))) : wpCall P false σ g As d s K := by
  refine .inl ⟨[r], [.box 0 cs], args, sh, R, h, ⟨by simp, rfl, by simp, ?_, ?_⟩, hco, (fun e => by cases e), ?_⟩
  · intro r' hr'
    simp only [List.mem_singleton] at hr'
    subst hr'; rw [hr]; simp
  · intro j B r' hB hr'
    cases j with
    | zero =>
      simp at hB hr'
      subst hB hr'
      rw [hr]
      exact ⟨rfl, v, cs0, rfl, hcs⟩
    | succ j => simp at hB
  · intro outs rows res hR
    obtain ⟨h1, h2, h3, h4⟩ := hk outs rows res hR
    exact ⟨by simpa using h1, h2, h3, h4⟩

/-- A call that is handed no object, of a function whose results may share memory with its arguments. -/
theorem call_sh {P : Program} {pu : Bool} {σ : St} {g : FuncId} {As args : List AVal} {d : Option Nat} {s : Nat → Nat} {K : St → Prop} {R : List AObj → List AObj → AVal → Prop} (h : Con P g [] args true R)
    (hco : CoeL σ.hp [] false args As) (hex : pu = true → ∃ outs rows res, R outs rows res)
    (hk : ∀ outs rows res, R outs rows res → outs = [] ∧ rows.length ≤ 1000 ∧ (∀ i, i < rows.length → σ.hp (newId (d.getD 0) i) = .gone) ∧
      K (St.put ⟨σ.tm, callHp σ.hp [] (d.getD 0) s [] rows⟩ d (res.ren (rid [] (d.getD 0) rows.length) s))) : wpCall P pu σ g As d s K := by
  refine .inl ⟨[], [], args, true, R, h, ⟨by simp, rfl, by simp, by simp, by simp⟩, hco, fun e => ⟨rfl, hex e⟩, ?_⟩
  intro outs rows res hR
  obtain ⟨h1, h2, h3, h4⟩ := hk outs rows res hR
  subst h1
  refine ⟨rfl, h2, h3, ?_⟩
  rw [sv_nil]; exact h4

/-- What is asked of the end of a function that changes nothing and gives a plain value. -/
theorem funE_of {P : Program} {g : FuncId} {F : AFn} (hm : P.follows .mixedOrders = true) {no : Option (List Nat × List FuncId)} (hF : cFn (drV no) P g F) {args : List AVal} (hargs : args.length = F.nparams) {Q : Value → Prop}
    (h : wpD P F.code (finQ fun σ => (∀ x ∈ F.res, σ.there x) ∧ ∃ v, σ.value F.res = .val v ∧ Q v) (St.init args [])) : FunE P g args Q := by
  refine con_of hm hF hargs (by simp) (wpD_mono _ _ _ _ (fun e σ he => ?_) h)
  have : ((∀ x ∈ F.res, σ.there x) ∧ ∃ v, σ.value F.res = .val v ∧ Q v) → _ := fun ⟨h1, v, h2, h3⟩ =>
    (show (∀ x ∈ F.res, σ.there x) ∧ ∃ ids : List Nat, ids.length ≤ 1000 ∧ ids.Nodup ∧ (∀ n ∈ ids, n < 5000) ∧ (σ.value F.res).fresh ∧ (∀ n ∈ ids, (σ.hp n).fresh) ∧ (∀ j, j < ([] : List AObj).length → (σ.hp (5000 + j)).fresh) ∧
      (fun outs rows res => outs = [] ∧ rows = [] ∧ ∃ v, Q v ∧ res = AVal.val v) ((List.range ([] : List AObj).length).map fun j => (σ.hp (5000 + j)).ren (expo ids) id) (ids.map fun n => (σ.hp n).ren (expo ids) id) ((σ.value F.res).ren (expo ids) id) from
    ⟨h1, [], by simp, by simp, by simp, by rw [h2]; simp [AVal.fresh], by simp, by simp, rfl, rfl, v, h3, by rw [h2]; exact ren_val⟩)
  cases e with
  | exit _ => exact he
  | normal => exact this he
  | ret => exact this he

/-- What is asked of the end of a function that changes a variable and gives a plain value. -/
theorem funB_of {P : Program} {g : FuncId} {F : AFn} (hm : P.follows .mixedOrders = true) {no : Option (List Nat × List FuncId)} (hF : cFn (drV no) P g F) {cs args : List AVal} (hargs : (AVal.ptr 5000 0 0 :: args).length = F.nparams) {Q : List AVal → Value → Prop}
    (h : wpD P F.code (finQ fun σ => (∀ x ∈ F.res, σ.there x) ∧ ∃ cs' v, σ.hp 5000 = .box 0 cs' ∧ σ.value F.res = .val v ∧ flatL cs' ∧ Q cs' v) (St.init (.ptr 5000 0 0 :: args) [.box 0 cs])) : FunB P g cs args Q := by
  refine con_sh hm hF hargs (by simp) (wpD_mono _ _ _ _ (fun e σ he => ?_) h)
  have : ((∀ x ∈ F.res, σ.there x) ∧ ∃ cs' v, σ.hp 5000 = .box 0 cs' ∧ σ.value F.res = .val v ∧ flatL cs' ∧ Q cs' v) → _ := fun ⟨h1, cs', v, h2, h3, h4, h6⟩ =>
    (show (∀ x ∈ F.res, σ.there x) ∧ ∃ ids : List Nat, ids.length ≤ 1000 ∧ ids.Nodup ∧ (∀ n ∈ ids, n < 5000) ∧
      (fun outs rows res => ∃ cs' v, Q cs' v ∧ flatL cs' ∧ outs = [AObj.box 0 cs'] ∧ rows = [] ∧ res = AVal.val v) ((List.range [AObj.box 0 cs].length).map fun j => (σ.hp (5000 + j)).ren (expo ids) id) (ids.map fun n => (σ.hp n).ren (expo ids) id) ((σ.value F.res).ren (expo ids) id) from
    ⟨h1, [], by simp, by simp, by simp, cs', v, h6, h4, (by
        have e1 : List.range [AObj.box 0 cs].length = [0] := rfl
        rw [e1, List.map_singleton, h2, oren_box, renL_flat cs' h4]; rfl), rfl, by rw [h3]; exact ren_val⟩)
  cases e with
  | exit _ => exact he
  | normal => exact this he
  | ret => exact this he

end Go.Ab
