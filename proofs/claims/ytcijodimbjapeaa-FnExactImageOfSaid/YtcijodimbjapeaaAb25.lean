/- Proofs of functions: rules without versions, and the forms in which states stand. Conditions: none. -/
import Derived.Test.YtcijodimbjapeaaAb24
set_option linter.all false
namespace Go.Ab
set_option maxRecDepth 20000

/-- wpC with any versions. -/
def wpD (P : Program) : AC → (AEx → St → Prop) → St → Prop
  | .skip, Q, σ => Q .normal σ
  | .reg draw ops, Q, σ => ∀ vs, Ab.wpOps (!draw) (wpCall P draw) vs 0 ops σ (Q .normal)
  | .kp ts hs a, Q, σ => wpD P a Q (σ.keep ts hs)
  | .regi draw ops, Q, σ => ∀ vs U, New vs U σ → Ab.wpOps (!draw) (wpCall P draw) vs 0 ops σ (Q .normal)
  | .gh a, Q, σ => σ.Dist → ∃ gs, gwp gs (fun σ' => wpD P a Q σ') σ
  | .mv x y a, Q, σ => ∀ m, wpD P a Q (σ.mv x y m)
  | .dn a, Q, σ => wpD P a Q σ.dn
  | .ad b off r k a, Q, σ => ∀ ver, wpD P a Q (σ.adopt b off r k ver)
  | .seq a b, Q, σ => wpD P a (fun e σ' => match e with | .normal => wpD P b Q σ' | e => Q e σ') σ
  | .cond c a b, Q, σ => match σ.ev c with
    | .val (.bool t) => (t = true → wpD P a Q σ) ∧ (t = false → wpD P b Q σ)
    | _ => False
  | .block id a, Q, σ => wpD P a (fun e σ' => match e with | .exit i => if i = id then Q .normal σ' else Q (.exit i) σ' | e => Q e σ') σ
  | .loop a, Q, σ => ∃ I : Nat → St → Prop, (∃ n, I n σ) ∧ ∀ n σ', I n σ' → wpD P a (fun e σ'' => match e with | .normal => ∃ k, k < n ∧ I k σ'' | e => Q e σ'') σ'
  | .exit id, Q, σ => Q (.exit id) σ
  | .ret, Q, σ => Q .ret σ
  | .stuck, _, _ => False

theorem wpIns_mono {P : Program} {fa pu : Bool} {s : Nat → Nat} {d : Option Nat} {σ : St} {K K' : St → Prop} {y : AIns} (h : ∀ σ, K σ → K' σ) (hh : Ab.wpIns fa (wpCall P pu) s d σ K y) : Ab.wpIns fa (wpCall P pu) s d σ K' y := by
  have hc : ∀ g As, wpCall P pu σ g As d s K → wpCall P pu σ g As d s K' := by
    rintro g As (⟨m, ins, args, sh, R, h1, h2, h3, h4, h5⟩ | ⟨hp, args, Q, h1, h2, h3⟩)
    · exact .inl ⟨m, ins, args, sh, R, h1, h2, h3, h4, fun outs rows res hR => ⟨(h5 outs rows res hR).1, (h5 outs rows res hR).2.1, (h5 outs rows res hR).2.2.1, h _ (h5 outs rows res hR).2.2.2⟩⟩
    · exact .inr ⟨hp, args, Q, h1, h2, fun v hv => h _ (h3 v hv)⟩
  cases y with
  | i x => exact ⟨hh.1, fun hf => h _ (hh.2 hf)⟩
  | call g xs => exact hc _ _ hh
  | calv f xs =>
    simp only [Ab.wpIns] at hh ⊢
    split at hh
    · exact hc _ _ hh
    · exact hh.elim

theorem wpOp_mono {P : Program} {fa pu : Bool} {s : Nat → Nat} {o : AOp} {σ : St} {K K' : St → Prop} (h : ∀ σ, K σ → K' σ) (hh : Ab.wpOp fa (wpCall P pu) s o σ K) : Ab.wpOp fa (wpCall P pu) s o σ K' := by
  unfold Ab.wpOp at hh ⊢
  split
  · rename_i hg; simp only [hg] at hh; exact wpIns_mono h hh
  · rename_i t w hg
    simp only [hg] at hh
    split at hh
    · exact ⟨fun e => wpIns_mono h (hh.1 e), fun e => h _ (hh.2 e)⟩
    · exact h _ hh
    · exact hh.elim

theorem wpOps_mono {P : Program} {fa pu : Bool} {vs : Nat → Nat → Nat} {K K' : St → Prop} (h : ∀ σ, K σ → K' σ) : ∀ (ops : List AOp) (i : Nat) (σ : St), Ab.wpOps fa (wpCall P pu) vs i ops σ K → Ab.wpOps fa (wpCall P pu) vs i ops σ K'
  | [], _, _, hh => h _ hh
  | _ :: ops, i, _, hh => wpOp_mono (fun σ' => wpOps_mono h ops (i + 1) σ') hh

theorem wpC_of_wpD {P : Program} : ∀ (a : AC) (Q Q' : AEx → St → Prop) (σ : St), (∀ e σ, Q e σ → Q' e σ) → wpD P a Q σ → wpC P a Q' σ
  | .skip, _, _, _, hq, h => hq _ _ h
  | .reg draw ops, _, _, _, hq, h => fun vs _ _ => wpOps_mono (hq _) ops 0 _ (h vs)
  | .kp ts hs a, Q, Q', σ, hq, h => wpC_of_wpD a Q Q' _ hq h
  | .regi draw ops, _, _, _, hq, h => fun vs U hN => wpOps_mono (hq _) ops 0 _ (h vs U hN)
  | .gh a, Q, Q', σ, hq, h => fun hd => by
    obtain ⟨gs, hg⟩ := h hd
    exact ⟨gs, gwp_mono (fun σ' h' => wpC_of_wpD a Q Q' σ' hq h') gs σ hg⟩
  | .mv x y a, Q, Q', σ, hq, h => fun m => wpC_of_wpD a Q Q' _ hq (h m)
  | .dn a, Q, Q', σ, hq, h => wpC_of_wpD a Q Q' _ hq h
  | .ad b off r k a, Q, Q', σ, hq, h => fun ver => wpC_of_wpD a Q Q' _ hq (h ver)
  | .seq a b, Q, Q', σ, hq, h => by
    refine wpC_of_wpD a _ _ σ (fun e σ' he => ?_) h
    cases e with
    | normal => exact wpC_of_wpD b Q Q' σ' hq he
    | _ => exact hq _ _ he
  | .cond c a b, Q, Q', σ, hq, h => by
    simp only [wpD, wpC] at h ⊢
    split at h
    · rename_i t ht
      simp only [ht]
      exact ⟨fun e => wpC_of_wpD a Q Q' σ hq (h.1 e), fun e => wpC_of_wpD b Q Q' σ hq (h.2 e)⟩
    · exact h.elim
  | .block id a, Q, Q', σ, hq, h => by
    refine wpC_of_wpD a _ _ σ (fun e σ' he => ?_) h
    cases e with
    | exit i =>
      simp only [] at he ⊢
      split
      · rename_i hi; rw [if_pos hi] at he; exact hq _ _ he
      · rename_i hi; rw [if_neg hi] at he; exact hq _ _ he
    | _ => exact hq _ _ he
  | .loop a, Q, Q', σ, hq, h => by
    simp only [wpD, wpC] at h ⊢
    obtain ⟨I, h0, h1⟩ := h
    refine ⟨I, h0, fun n σ' hI => wpC_of_wpD a _ _ σ' (fun e σ'' he => ?_) (h1 n σ' hI)⟩
    cases e with
    | normal => exact he
    | _ => exact hq _ _ he
  | .exit id, _, _, _, hq, h => hq _ _ h
  | .ret, _, _, _, hq, h => hq _ _ h
  | .stuck, _, _, _, _, h => h.elim

theorem wpD_mono {P : Program} : ∀ (a : AC) (Q Q' : AEx → St → Prop) (σ : St), (∀ e σ, Q e σ → Q' e σ) → wpD P a Q σ → wpD P a Q' σ
  | .skip, _, _, _, hq, h => hq _ _ h
  | .reg draw ops, _, _, _, hq, h => fun vs => wpOps_mono (hq _) ops 0 _ (h vs)
  | .kp ts hs a, Q, Q', σ, hq, h => wpD_mono a Q Q' _ hq h
  | .regi draw ops, _, _, _, hq, h => fun vs U hN => wpOps_mono (hq _) ops 0 _ (h vs U hN)
  | .gh a, Q, Q', σ, hq, h => fun hd => by
    obtain ⟨gs, hg⟩ := h hd
    exact ⟨gs, gwp_mono (fun σ' h' => wpD_mono a Q Q' σ' hq h') gs σ hg⟩
  | .mv x y a, Q, Q', σ, hq, h => fun m => wpD_mono a Q Q' _ hq (h m)
  | .dn a, Q, Q', σ, hq, h => wpD_mono a Q Q' _ hq h
  | .ad b off r k a, Q, Q', σ, hq, h => fun ver => wpD_mono a Q Q' _ hq (h ver)
  | .seq a b, Q, Q', σ, hq, h => by
    refine wpD_mono a _ _ σ (fun e σ' he => ?_) h
    cases e with
    | normal => exact wpD_mono b Q Q' σ' hq he
    | _ => exact hq _ _ he
  | .cond c a b, Q, Q', σ, hq, h => by
    simp only [wpD] at h ⊢
    split at h
    · rename_i t ht
      try simp only [ht]
      exact ⟨fun e => wpD_mono a Q Q' σ hq (h.1 e), fun e => wpD_mono b Q Q' σ hq (h.2 e)⟩
    · exact h.elim
  | .block id a, Q, Q', σ, hq, h => by
    refine wpD_mono a _ _ σ (fun e σ' he => ?_) h
    cases e with
    | exit i =>
      simp only [] at he ⊢
      split
      · rename_i hi; rw [if_pos hi] at he; exact hq _ _ he
      · rename_i hi; rw [if_neg hi] at he; exact hq _ _ he
    | _ => exact hq _ _ he
  | .loop a, Q, Q', σ, hq, h => by
    simp only [wpD] at h ⊢
    obtain ⟨I, h0, h1⟩ := h
    refine ⟨I, h0, fun n σ' hI => wpD_mono a _ _ σ' (fun e σ'' he => ?_) (h1 n σ' hI)⟩
    cases e with
    | normal => exact he
    | _ => exact hq _ _ he
  | .exit id, _, _, _, hq, h => hq _ _ h
  | .ret, _, _, _, hq, h => hq _ _ h
  | .stuck, _, _, _, _, h => h.elim

/-- A value without slices of its own. -/
def AVal.plain : AVal → Prop
  | .val _ => True
  | .tup cs => ∀ A ∈ cs, ∃ v, A = .val v
  | _ => False

/-- A contract of a function that changes nothing and gives one value. -/
def Fun (P : Program) (g : FuncId) (args : List AVal) (v : AVal) : Prop := Con P g [] args false fun outs rows res => outs = [] ∧ rows = [] ∧ res = v

/-- What is asked of the end of a function that changes nothing. -/
theorem fun_of_wp {P : Program} {g : FuncId} {F : AFn} (hm : P.follows .mixedOrders = true) (hF : cFn drV P g F) {args : List AVal} {v : AVal} (hargs : args.length = F.nparams)
    (hv : v.ren (expo []) id = v ∧ v.fresh)
    (h : wpD P F.code (fun e σ => match e with | .exit _ => False | _ => (∀ x ∈ F.res, σ.there x) ∧ σ.value F.res = v) (St.init args [])) : Fun P g args v := by
  refine con_of_wp (draw_ok hm) hF hargs (by simp) (wpC_of_wpD _ _ _ _ (fun e σ he => ?_) h)
  have : (∀ x ∈ F.res, σ.there x) ∧ σ.value F.res = v → ∃ ids, Ret 0 false ids (fun outs rows res => outs = [] ∧ rows = [] ∧ res = v) F.res σ := by
    rintro ⟨h1, h2⟩
    refine ⟨[], h1, ⟨rfl, rfl, by rw [h2]; exact hv.1⟩, by omega, by simp, by simp, by simp, fun _ => ⟨by rw [h2]; exact hv.2, by simp, fun j hj => by omega⟩⟩
  cases e with
  | exit _ => exact he
  | normal => exact this he
  | ret => exact this he

theorem callHp_nil {hp : Nat → AObj} {d : Nat} {s : Nat → Nat} : callHp hp [] d s [] [] = hp := by
  funext n
  refine callHp_not ?_
  rintro ⟨q, hq⟩
  obtain ⟨i, hi, _⟩ := rid_nil hq
  simp at hi

/-- A call of a function that changes nothing. -/
theorem call_fun {P : Program} {pu : Bool} {σ : St} {g : FuncId} {As args : List AVal} {v : AVal} {d : Option Nat} {s : Nat → Nat} {K : St → Prop} (h : Fun P g args v) (hco : CoeL σ.hp [] true args As)
    (hv : v.plain) (hk : K (St.put σ d v)) : wpCall P pu σ g As d s K := by
  refine .inl ⟨[], [], args, false, _, h, ⟨by simp, rfl, by simp, by simp, by simp⟩, hco, fun _ => ⟨rfl, [], [], v, rfl, rfl, rfl⟩, ?_⟩
  rintro outs rows res ⟨rfl, rfl, rfl⟩
  refine ⟨rfl, by simp, by simp, ?_⟩
  rw [callHp_nil]
  have : res.ren (rid [] (d.getD 0) 0) (sv σ.hp [] s) = res := by
    cases res with
    | val x => rfl
    | tup cs =>
      simp only [AVal.ren]
      congr 1
      have hv' : ∀ A ∈ cs, ∃ v, A = .val v := hv
      clear hv
      clear hk h
      induction cs with
      | nil => simp [renL]
      | cons A cs ih =>
        obtain ⟨x, rfl⟩ := hv' A (by simp)
        simp only [renL, AVal.ren]
        rw [ih fun A hA => hv' A (List.mem_cons_of_mem _ hA)]
    | _ => exact hv.elim
  exact (congrArg (fun z => K (St.put σ d z)) this).mpr hk

/-- A loop. -/
theorem wpD_loop {P : Program} {α : Type} {ts hs : List Nat} {a : AC} {Q : AEx → St → Prop} {σ : St} (m : α → Nat) (inv : α → Prop) (S : α → St) (x0 : α) (h0 : inv x0) (hS : σ.keep ts hs = S x0)
    (h : ∀ x, inv x → wpD P a (fun e σ' => match e with | .normal => ∃ y, m y < m x ∧ inv y ∧ σ'.keep ts hs = S y | e => Q e σ') (S x)) : wpD P (.loop (.kp ts hs a)) Q σ := by
  refine ⟨fun n σ => ∃ x, m x = n ∧ inv x ∧ σ.keep ts hs = S x, ⟨m x0, x0, rfl, h0, hS⟩, ?_⟩
  rintro n σ' ⟨x, rfl, hx, hS⟩
  show wpD P a _ (σ'.keep ts hs)
  rw [hS]
  refine wpD_mono _ _ _ _ (fun e σ'' he => ?_) (h x hx)
  cases e with
  | normal =>
    obtain ⟨y, h1, h2, h3⟩ := he
    exact ⟨m y, h1, y, rfl, h2, h3⟩
  | exit i => exact he
  | ret => exact he

/-- What comes behind, by name: so that a step of simp does not go into it. -/
def seqQ (W : (AEx → St → Prop) → St → Prop) (Q : AEx → St → Prop) : AEx → St → Prop
  | .normal, σ => W Q σ
  | .exit i, σ => Q (.exit i) σ
  | .ret, σ => Q .ret σ

def blockQ (id : Nat) (Q : AEx → St → Prop) : AEx → St → Prop
  | .normal, σ => Q .normal σ
  | .exit i, σ => if i = id then Q .normal σ else Q (.exit i) σ
  | .ret, σ => Q .ret σ

def loopQ (N : St → Prop) (Q : AEx → St → Prop) : AEx → St → Prop
  | .normal, σ => N σ
  | .exit i, σ => Q (.exit i) σ
  | .ret, σ => Q .ret σ

def finQ (N : St → Prop) : AEx → St → Prop
  | .exit _, _ => False
  | .normal, σ => N σ
  | .ret, σ => N σ

section
variable {P : Program} {Q : AEx → St → Prop} {σ : St} {W : (AEx → St → Prop) → St → Prop} {N : St → Prop} {a b : AC}
theorem seqQ_n : seqQ W Q .normal σ = W Q σ := rfl
theorem seqQ_e {i : Nat} : seqQ W Q (.exit i) σ = Q (.exit i) σ := rfl
theorem seqQ_r : seqQ W Q .ret σ = Q .ret σ := rfl
theorem blockQ_n {id : Nat} : blockQ id Q .normal σ = Q .normal σ := rfl
theorem blockQ_e {id i : Nat} : blockQ id Q (.exit i) σ = if i = id then Q .normal σ else Q (.exit i) σ := rfl
theorem blockQ_r {id : Nat} : blockQ id Q .ret σ = Q .ret σ := rfl
theorem loopQ_n : loopQ N Q .normal σ = N σ := rfl
theorem loopQ_e {i : Nat} : loopQ N Q (.exit i) σ = Q (.exit i) σ := rfl
theorem loopQ_r : loopQ N Q .ret σ = Q .ret σ := rfl
theorem finQ_n : finQ N .normal σ = N σ := rfl
theorem finQ_e {i : Nat} : finQ N (.exit i) σ = False := rfl
theorem finQ_r : finQ N .ret σ = N σ := rfl

theorem wpD_skip : wpD P .skip Q σ = Q .normal σ := rfl
theorem wpD_reg {draw : Bool} {ops : List AOp} : wpD P (.reg draw ops) Q σ = ∀ vs, Ab.wpOps (!draw) (wpCall P draw) vs 0 ops σ (Q .normal) := rfl
theorem wpD_kp {ts hs : List Nat} : wpD P (.kp ts hs a) Q σ = wpD P a Q (σ.keep ts hs) := rfl
theorem wpD_gh : wpD P (.gh a) Q σ = (σ.Dist → ∃ gs, gwp gs (fun σ' => wpD P a Q σ') σ) := rfl
theorem wpD_regi {draw : Bool} {ops : List AOp} : wpD P (.regi draw ops) Q σ = ∀ vs U, New vs U σ → Ab.wpOps (!draw) (wpCall P draw) vs 0 ops σ (Q .normal) := rfl
theorem wpD_dn : wpD P (.dn a) Q σ = wpD P a Q σ.dn := rfl
theorem wpD_ad {x off r k : Nat} : wpD P (.ad x off r k a) Q σ = ∀ ver, wpD P a Q (σ.adopt x off r k ver) := rfl
theorem wpD_seq : wpD P (.seq a b) Q σ = wpD P a (seqQ (wpD P b) Q) σ := by
  show wpD P a _ σ = _
  congr 1
  funext e σ'
  cases e <;> rfl
theorem wpD_cond {c : AOpd} : wpD P (.cond c a b) Q σ = match σ.ev c with
    | .val (.bool t) => (t = true → wpD P a Q σ) ∧ (t = false → wpD P b Q σ)
    | _ => False := rfl
theorem wpD_block {id : Nat} : wpD P (.block id a) Q σ = wpD P a (blockQ id Q) σ := by
  show wpD P a _ σ = _
  congr 1
  funext e σ'
  cases e <;> rfl
theorem wpD_exit {i : Nat} : wpD P (.exit i) Q σ = Q (.exit i) σ := rfl
theorem wpD_ret : wpD P .ret Q σ = Q .ret σ := rfl
theorem wpD_stuck : wpD P .stuck Q σ = False := rfl

theorem wpD_lp {α : Type} {ts hs : List Nat} (m : α → Nat) (inv : α → Prop) (S : α → St) (x0 : α) (h0 : inv x0) (hS : σ.keep ts hs = S x0)
    (h : ∀ x, inv x → wpD P a (loopQ (fun σ' => ∃ y, m y < m x ∧ inv y ∧ σ'.keep ts hs = S y) Q) (S x)) : wpD P (.loop (.kp ts hs a)) Q σ := by
  refine wpD_loop m inv S x0 h0 hS fun x hx => wpD_mono _ _ _ _ (fun e σ' he => ?_) (h x hx)
  cases e <;> exact he

theorem fun_of {g : FuncId} {F : AFn} (hm : P.follows .mixedOrders = true) (hF : cFn drV P g F) {args : List AVal} {v : AVal} (hargs : args.length = F.nparams)
    (hv : v.ren (expo []) id = v ∧ v.fresh) (h : wpD P F.code (finQ fun σ => (∀ x ∈ F.res, σ.there x) ∧ σ.value F.res = v) (St.init args [])) : Fun P g args v := by
  refine fun_of_wp hm hF hargs hv (wpD_mono _ _ _ _ (fun e σ he => ?_) h)
  cases e <;> exact he
end

theorem put_L {l : List (Nat × AVal)} {hp : Nat → AObj} {d : Nat} {A : AVal} : St.put ⟨L .any l, hp⟩ (some d) A = ⟨L .any ((d, A) :: l), hp⟩ := rfl
theorem L_hit {α : Type} {z a : α} {k : Nat} {l : List (Nat × α)} : L z ((k, a) :: l) k = a := by simp [L]
theorem L_miss {α : Type} {z a : α} {k n : Nat} {l : List (Nat × α)} (h : n ≠ k) : L z ((k, a) :: l) n = L z l n := by simp [L, h]
theorem L_nil {α : Type} {z : α} {n : Nat} : L z ([] : List (Nat × α)) n = z := rfl
theorem put_none {σ : St} {A : AVal} : St.put σ none A = σ := rfl

end Go.Ab
