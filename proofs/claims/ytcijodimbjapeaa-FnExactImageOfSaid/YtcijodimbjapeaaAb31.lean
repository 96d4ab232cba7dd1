/- Proofs of functions: what is asked of a function's end, and calls, for contracts of every form. Conditions: none. -/
import Derived.Test.YtcijodimbjapeaaAb30
set_option linter.all false
namespace Go.Ab
set_option maxRecDepth 20000

/-- What is asked of the end of a function. -/
theorem con_of {P : Program} {g : FuncId} {F : AFn} (hm : P.follows .mixedOrders = true) (hF : cFn drV P g F) {ins : List AObj} {args : List AVal} (hargs : args.length = F.nparams) (hins : ins.length ≤ 1000)
    {R : List AObj → List AObj → AVal → Prop}
    (h : wpD P F.code (finQ fun σ => (∀ x ∈ F.res, σ.there x) ∧ ∃ ids : List Nat, ids.length ≤ 1000 ∧ ids.Nodup ∧ (∀ n ∈ ids, n < 5000) ∧ (σ.value F.res).fresh ∧ (∀ n ∈ ids, (σ.hp n).fresh) ∧ (∀ j, j < ins.length → (σ.hp (5000 + j)).fresh) ∧
      R ((List.range ins.length).map fun j => (σ.hp (5000 + j)).ren (expo ids) id) (ids.map fun n => (σ.hp n).ren (expo ids) id) ((σ.value F.res).ren (expo ids) id)) (St.init args ins)) : Con P g ins args false R := by
  refine con_of_wp (draw_ok hm) hF hargs hins (wpC_of_wpD _ _ _ _ (fun e σ he => ?_) h)
  have : (∀ x ∈ F.res, σ.there x) ∧ (∃ ids : List Nat, ids.length ≤ 1000 ∧ ids.Nodup ∧ (∀ n ∈ ids, n < 5000) ∧ (σ.value F.res).fresh ∧ (∀ n ∈ ids, (σ.hp n).fresh) ∧ (∀ j, j < ins.length → (σ.hp (5000 + j)).fresh) ∧
      R ((List.range ins.length).map fun j => (σ.hp (5000 + j)).ren (expo ids) id) (ids.map fun n => (σ.hp n).ren (expo ids) id) ((σ.value F.res).ren (expo ids) id)) → ∃ ids, Ret ins.length false ids R F.res σ := by
    rintro ⟨h1, ids, h2, h3, h4, h5, h6, h7, h8⟩
    exact ⟨ids, h1, h8, hins, h2, h3, h4, fun _ => ⟨h5, h6, h7⟩⟩
  cases e with
  | exit _ => exact he
  | normal => exact this he
  | ret => exact this he

/-- The same, where what is given may share memory with what came in. -/
theorem con_sh {P : Program} {g : FuncId} {F : AFn} (hm : P.follows .mixedOrders = true) (hF : cFn drV P g F) {ins : List AObj} {args : List AVal} (hargs : args.length = F.nparams) (hins : ins.length ≤ 1000)
    {R : List AObj → List AObj → AVal → Prop}
    (h : wpD P F.code (finQ fun σ => (∀ x ∈ F.res, σ.there x) ∧ ∃ ids : List Nat, ids.length ≤ 1000 ∧ ids.Nodup ∧ (∀ n ∈ ids, n < 5000) ∧
      R ((List.range ins.length).map fun j => (σ.hp (5000 + j)).ren (expo ids) id) (ids.map fun n => (σ.hp n).ren (expo ids) id) ((σ.value F.res).ren (expo ids) id)) (St.init args ins)) : Con P g ins args true R := by
  refine con_of_wp (draw_ok hm) hF hargs hins (wpC_of_wpD _ _ _ _ (fun e σ he => ?_) h)
  have : (∀ x ∈ F.res, σ.there x) ∧ (∃ ids : List Nat, ids.length ≤ 1000 ∧ ids.Nodup ∧ (∀ n ∈ ids, n < 5000) ∧
      R ((List.range ins.length).map fun j => (σ.hp (5000 + j)).ren (expo ids) id) (ids.map fun n => (σ.hp n).ren (expo ids) id) ((σ.value F.res).ren (expo ids) id)) → ∃ ids, Ret ins.length true ids R F.res σ := by
    rintro ⟨h1, ids, h2, h3, h4, h8⟩
    exact ⟨ids, h1, h8, hins, h2, h3, h4, fun e => by cases e⟩
  cases e with
  | exit _ => exact he
  | normal => exact this he
  | ret => exact this he

/-- The parts of a marked piece of code. -/
def AC.kts : AC → List Nat
  | .kp ts _ _ => ts
  | _ => []
def AC.khs : AC → List Nat
  | .kp _ hs _ => hs
  | _ => []
def AC.kin : AC → AC
  | .kp _ _ (.dn a) => a
  | a => a

theorem wpD_lab {P : Program} {b : AC} {Q : AEx → St → Prop} {σ : St} (hb : b = .kp b.kts b.khs (.dn b.kin)) : wpD P b Q σ = wpD P b.kin Q (σ.kd b.kts b.khs) := by
  have h : wpD P (.kp b.kts b.khs (.dn b.kin)) Q σ = wpD P b.kin Q (σ.kd b.kts b.khs) := wpD_kpd
  rw [← hb] at h; exact h

/-- A contract may say less. -/
theorem Con.mono {P : Program} {g : FuncId} {ins : List AObj} {args : List AVal} {sh : Bool} {R R' : List AObj → List AObj → AVal → Prop} (h : Con P g ins args sh R) (hR : ∀ o r x, R o r x → R' o r x) : Con P g ins args sh R' := by
  refine ⟨h.1, fun c0 outsB vs h1 h2 h3 => (h.2 c0 outsB vs h1 h2 h3).mono ?_⟩
  rintro e w' ⟨v, c1, outs, rows, res, hr, h⟩
  exact ⟨v, c1, outs, rows, res, hR _ _ _ hr, h⟩

/-- A function that changes nothing: it makes rows and gives res, as Q says. -/
abbrev Fn (P : Program) (g : FuncId) (args : List AVal) (Q : List AObj → AVal → Prop) : Prop := Con P g [] args false fun outs rows res => outs = [] ∧ Q rows res

/-- A function that changes nothing and gives a plain value. -/
abbrev FunE (P : Program) (g : FuncId) (args : List AVal) (Q : Value → Prop) : Prop := Con P g [] args false fun outs rows res => outs = [] ∧ rows = [] ∧ ∃ v, Q v ∧ res = .val v

/-- A function that changes one variable (its first argument points to it) and gives a plain value. -/
abbrev FunB (P : Program) (g : FuncId) (cs : List AVal) (args : List AVal) (Q : List AVal → Value → Prop) : Prop :=
  Con P g [.box 0 cs] (.ptr 5000 0 0 :: args) true fun outs rows res => ∃ cs' v, Q cs' v ∧ flatL cs' ∧ outs = [.box 0 cs'] ∧ rows = [] ∧ res = .val v

section
variable {P : Program} {pu : Bool} {σ : St} {g : FuncId} {As args : List AVal} {d : Option Nat} {s : Nat → Nat} {K : St → Prop}

/-- A call of a function that changes nothing. -/
theorem call_fn {Q : List AObj → AVal → Prop} (h : Fn P g args Q) (hco : CoeL σ.hp [] true args As) (hex : pu = true → ∃ rows res, Q rows res)
    (hk : ∀ rows res, Q rows res → rows.length ≤ 1000 ∧ (∀ i, i < rows.length → σ.hp (newId (d.getD 0) i) = .gone) ∧ K (St.put ⟨σ.tm, callHp σ.hp [] (d.getD 0) s [] rows⟩ d (res.ren (rid [] (d.getD 0) rows.length) s))) :
    wpCall P pu σ g As d s K := by
  refine .inl ⟨[], [], args, false, _, h, ⟨by simp, rfl, by simp, by simp, by simp⟩, hco, fun e => ⟨rfl, ?_⟩, ?_⟩
  · obtain ⟨rows, res, hq⟩ := hex e
    exact ⟨[], rows, res, rfl, hq⟩
  · rintro outs rows res ⟨rfl, hq⟩
    obtain ⟨h1, h2, h3⟩ := hk rows res hq
    refine ⟨rfl, h1, h2, ?_⟩
    rw [sv_nil]; exact h3

theorem call_funE {Q : Value → Prop} (h : FunE P g args Q) (hco : CoeL σ.hp [] true args As) (hex : ∃ v, Q v) (hk : ∀ v, Q v → K (St.put σ d (.val v))) : wpCall P pu σ g As d s K := by
  refine .inl ⟨[], [], args, false, _, h, ⟨by simp, rfl, by simp, by simp, by simp⟩, hco, fun e => ⟨rfl, ?_⟩, ?_⟩
  · obtain ⟨v, hq⟩ := hex
    exact ⟨[], [], _, rfl, rfl, v, hq, rfl⟩
  · rintro outs rows res ⟨rfl, rfl, v, hq, rfl⟩
    refine ⟨rfl, by simp, by simp, ?_⟩
    rw [callHp_nil, ren_val]
    exact hk v hq

/-- One object that is handed over, and what the call makes. -/
theorem callHp_m {hp : Nat → AObj} {r d : Nat} {s : Nat → Nat} {o : AObj} : callHp hp [r] d s [o] [] = upd hp r (o.ren (rid [r] d 0) (sv hp [r] s)) := by
  funext n
  by_cases h : n = r
  · subst h
    have h1 : rid [n] d ([] : List AObj).length 5000 = some n := rid_m (j := 0) (by omega) rfl
    rw [callHp_at (by simp) (by simp) h1]
    simp [upd, outHp]
  · rw [callHp_not]
    · simp [upd, h]
    · rintro ⟨q, hq⟩
      rcases rid_cases hq with ⟨j, rfl, _, h1⟩ | ⟨i, rfl, h1, _⟩
      · cases j with
        | zero => simp at h1; exact h h1.symm
        | succ j => simp at h1
      · simp at h1

theorem callHp_two {hp : Nat → AObj} {d : Nat} {s : Nat → Nat} {o0 o1 : AObj} : callHp hp [] d s [] [o0, o1] = upd (upd hp d (o0.ren (rid [] d 2) s)) (d + 1000) (o1.ren (rid [] d 2) s) := by
  funext n
  by_cases h : n = d + 1000
  · have h1 : rid [] d [o0, o1].length 6001 = some n := by rw [h]; exact rid1
    rw [callHp_at (by simp) (by simp) h1, sv_nil]
    simp [upd, h, outHp]
  · by_cases h' : n = d
    · have h1 : rid [] d [o0, o1].length 6000 = some n := by rw [h']; exact rid0
      rw [callHp_at (by simp) (by simp) h1, sv_nil]
      have hne : d ≠ d + 1000 := by omega
      simp [upd, h', outHp, hne]
    · rw [callHp_not]
      · simp [upd, h, h']
      · rintro ⟨q, hq⟩
        obtain ⟨i, hi, e⟩ := rid_nil hq
        simp at hi
        unfold newId at e
        have : i = 0 ∨ i = 1 := by omega
        rcases this with rfl | rfl
        · exact h' (by simpa using e)
        · exact h (by simpa using e)

theorem callHp_mr {hp : Nat → AObj} {r d : Nat} {s : Nat → Nat} {o o1 : AObj} (hne : d ≠ r) : callHp hp [r] d s [o] [o1] = upd (upd hp r (o.ren (rid [r] d 1) (sv hp [r] s))) d (o1.ren (rid [r] d 1) (sv hp [r] s)) := by
  have hnew : ∀ i, i < [o1].length → newId d i ∉ [r] := by
    intro i hi
    have : i = 0 := by simpa using hi
    subst this; simpa [newId] using hne
  funext n
  by_cases h : n = d
  · have h1 : rid [r] d [o1].length 6000 = some n := by rw [h]; exact rid0
    rw [callHp_at (by simp) hnew h1]
    simp [upd, h, outHp]
  · by_cases h' : n = r
    · have h1 : rid [r] d [o1].length 5000 = some n := by rw [h']; exact rid_m (j := 0) (by omega) rfl
      rw [callHp_at (by simp) hnew h1]
      simp [upd, h', outHp, Ne.symm hne]
    · rw [callHp_not]
      · simp [upd, h, h']
      · rintro ⟨q, hq⟩
        rcases rid_cases hq with ⟨j, rfl, _, h1⟩ | ⟨i, rfl, h1, h2⟩
        · cases j with
          | zero => simp at h1; exact h' h1.symm
          | succ j => simp at h1
        · have : i = 0 := by simpa using h1
          subst this
          exact h (by simpa [newId] using h2)

theorem sv_m {hp : Nat → AObj} {r v : Nat} {s : Nat → Nat} {cs : List AVal} (h : hp r = .box v cs) : sv hp [r] s 0 = v := by simp [sv, h, AObj.ver]
theorem sv_new {hp : Nat → AObj} {r y : Nat} {s : Nat → Nat} (h : 0 < y) : sv hp [r] s y = s y := by
  unfold sv
  rw [if_neg (by simp; omega)]

theorem upd_upd {hp : Nat → AObj} {r : Nat} {o o' : AObj} : upd (upd hp r o) r o' = upd hp r o' := by
  funext n; unfold upd; by_cases h : n = r <;> simp [h]

/-- A call of a function that changes a variable. -/
theorem call_funB {cs cs0 : List AVal} {Q : List AVal → Value → Prop} {r v : Nat} (h : FunB P g cs args Q) (hr : σ.hp r = .box v cs0) (hcs : CoeL σ.hp [r] false cs cs0) (hco : CoeL σ.hp [r] false args As)
    (hk : ∀ cs' x, Q cs' x → K (St.put ⟨σ.tm, upd σ.hp r (.box v cs')⟩ d (.val x))) : wpCall P false σ g (.ptr r v 0 :: As) d s K := by
  refine .inl ⟨[r], [.box 0 cs], .ptr 5000 0 0 :: args, true, _, h, ⟨by simp, rfl, by simp, ?_, ?_⟩, ?_, (fun e => by cases e), ?_⟩
  · intro r' hr'
    simp only [List.mem_singleton] at hr'
    subst hr'; rw [hr]; simp
  · intro j B r' hB hr'
    cases j with
    | zero =>
      simp at hB hr'
      subst hB hr'
      rw [hr]
      exact ⟨rfl, v, cs0, rfl, hcs⟩
    | succ j => simp at hB
  · rw [coeL_cons, coe_ptr0, hr]
    exact ⟨rfl, hco⟩
  · rintro outs rows res ⟨cs', x, hq, hf, rfl, rfl, rfl⟩
    refine ⟨rfl, by simp, by simp, ?_⟩
    rw [callHp_m, ren_val, oren_box, renL_flat cs' hf]
    have : sv σ.hp [r] s 0 = v := by simp [sv, hr, AObj.ver]
    rw [this]
    exact hk cs' x hq
end

/-- A call. -/
theorem call_con {P : Program} {σ : St} {g : FuncId} {As args : List AVal} {d : Option Nat} {s : Nat → Nat} {K : St → Prop} {sh : Bool} {r v : Nat} {cs cs0 : List AVal} {R : List AObj → List AObj → AVal → Prop} (h : Con P g [.box 0 cs] args sh R)
    (hr : σ.hp r = .box v cs0) (hcs : CoeL σ.hp [r] (!sh) cs cs0) (hco : CoeL σ.hp [r] (!sh) args As)
    (hk : ∀ outs rows res, R outs rows res → outs.length = 1 ∧ rows.length ≤ 1000 ∧ (∀ i, i < rows.length → σ.hp (newId (d.getD 0) i) = .gone) ∧
      K (St.put ⟨σ.tm, callHp σ.hp [r] (d.getD 0) s outs rows⟩ d (res.ren (rid [r] (d.getD 0) rows.length) (sv σ.hp [r] s)))) : wpCall P false σ g As d s K := by
  refine .inl ⟨[r], [.box 0 cs], args, sh, R, h, ⟨by simp, rfl, by simp, ?_, ?_⟩, hco, (fun e => by cases e), ?_⟩
  · intro r' hr'
    simp only [List.mem_singleton] at hr'
    subst hr'; rw [hr]; simp
  · intro j B r' hB hr'
    cases j with
    | zero =>
      simp at hB hr'
      subst hB hr'
      rw [hr]
      exact ⟨rfl, v, cs0, rfl, hcs⟩
    | succ j => simp at hB
  · intro outs rows res hR
    obtain ⟨h1, h2, h3, h4⟩ := hk outs rows res hR
    exact ⟨by simpa using h1, h2, h3, h4⟩

/-- A call that is handed no object, of a function whose results may share memory with its arguments. -/
theorem call_sh {P : Program} {pu : Bool} {σ : St} {g : FuncId} {As args : List AVal} {d : Option Nat} {s : Nat → Nat} {K : St → Prop} {R : List AObj → List AObj → AVal → Prop} (h : Con P g [] args true R)
    (hco : CoeL σ.hp [] false args As) (hex : pu = true → ∃ outs rows res, R outs rows res)
    (hk : ∀ outs rows res, R outs rows res → outs = [] ∧ rows.length ≤ 1000 ∧ (∀ i, i < rows.length → σ.hp (newId (d.getD 0) i) = .gone) ∧
      K (St.put ⟨σ.tm, callHp σ.hp [] (d.getD 0) s [] rows⟩ d (res.ren (rid [] (d.getD 0) rows.length) s))) : wpCall P pu σ g As d s K := by
  refine .inl ⟨[], [], args, true, R, h, ⟨by simp, rfl, by simp, by simp, by simp⟩, hco, fun e => ⟨rfl, hex e⟩, ?_⟩
  intro outs rows res hR
  obtain ⟨h1, h2, h3, h4⟩ := hk outs rows res hR
  subst h1
  refine ⟨rfl, h2, h3, ?_⟩
  rw [sv_nil]; exact h4

theorem expo_nil {n : Nat} (h : n < 5000) : expo [] n = none := by
  unfold expo
  rw [if_neg (by omega)]
  rfl

/-- From a contract with one plain value to one that says less of it. -/
theorem Fun.toE {P : Program} {g : FuncId} {args : List AVal} {v : Value} (h : Fun P g args (.val v)) : FunE P g args (fun x => x = v) := by
  refine Con.mono h ?_
  rintro o r x ⟨rfl, rfl, rfl⟩
  exact ⟨rfl, rfl, v, rfl, rfl⟩

/-- What is asked of the end of a function that changes nothing and gives a plain value. -/
theorem funE_of {P : Program} {g : FuncId} {F : AFn} (hm : P.follows .mixedOrders = true) (hF : cFn drV P g F) {args : List AVal} (hargs : args.length = F.nparams) {Q : Value → Prop}
    (h : wpD P F.code (finQ fun σ => (∀ x ∈ F.res, σ.there x) ∧ ∃ v, σ.value F.res = .val v ∧ Q v) (St.init args [])) : FunE P g args Q := by
  refine con_of hm hF hargs (by simp) (wpD_mono _ _ _ _ (fun e σ he => ?_) h)
  have : ((∀ x ∈ F.res, σ.there x) ∧ ∃ v, σ.value F.res = .val v ∧ Q v) → _ := fun ⟨h1, v, h2, h3⟩ =>
    (show (∀ x ∈ F.res, σ.there x) ∧ ∃ ids : List Nat, ids.length ≤ 1000 ∧ ids.Nodup ∧ (∀ n ∈ ids, n < 5000) ∧ (σ.value F.res).fresh ∧ (∀ n ∈ ids, (σ.hp n).fresh) ∧ (∀ j, j < ([] : List AObj).length → (σ.hp (5000 + j)).fresh) ∧
      (fun outs rows res => outs = [] ∧ rows = [] ∧ ∃ v, Q v ∧ res = AVal.val v) ((List.range ([] : List AObj).length).map fun j => (σ.hp (5000 + j)).ren (expo ids) id) (ids.map fun n => (σ.hp n).ren (expo ids) id) ((σ.value F.res).ren (expo ids) id) from
    ⟨h1, [], by simp, by simp, by simp, by rw [h2]; simp [AVal.fresh], by simp, by simp, rfl, rfl, v, h3, by rw [h2]; exact ren_val⟩)
  cases e with
  | exit _ => exact he
  | normal => exact this he
  | ret => exact this he

/-- What is asked of the end of a function that changes a variable and gives a plain value. -/
theorem funB_of {P : Program} {g : FuncId} {F : AFn} (hm : P.follows .mixedOrders = true) (hF : cFn drV P g F) {cs args : List AVal} (hargs : (AVal.ptr 5000 0 0 :: args).length = F.nparams) {Q : List AVal → Value → Prop}
    (h : wpD P F.code (finQ fun σ => (∀ x ∈ F.res, σ.there x) ∧ ∃ cs' v, σ.hp 5000 = .box 0 cs' ∧ σ.value F.res = .val v ∧ flatL cs' ∧ Q cs' v) (St.init (.ptr 5000 0 0 :: args) [.box 0 cs])) : FunB P g cs args Q := by
  refine con_sh hm hF hargs (by simp) (wpD_mono _ _ _ _ (fun e σ he => ?_) h)
  have : ((∀ x ∈ F.res, σ.there x) ∧ ∃ cs' v, σ.hp 5000 = .box 0 cs' ∧ σ.value F.res = .val v ∧ flatL cs' ∧ Q cs' v) → _ := fun ⟨h1, cs', v, h2, h3, h4, h6⟩ =>
    (show (∀ x ∈ F.res, σ.there x) ∧ ∃ ids : List Nat, ids.length ≤ 1000 ∧ ids.Nodup ∧ (∀ n ∈ ids, n < 5000) ∧
      (fun outs rows res => ∃ cs' v, Q cs' v ∧ flatL cs' ∧ outs = [AObj.box 0 cs'] ∧ rows = [] ∧ res = AVal.val v) ((List.range [AObj.box 0 cs].length).map fun j => (σ.hp (5000 + j)).ren (expo ids) id) (ids.map fun n => (σ.hp n).ren (expo ids) id) ((σ.value F.res).ren (expo ids) id) from
    ⟨h1, [], by simp, by simp, by simp, cs', v, h6, h4, (by
        have e1 : List.range [AObj.box 0 cs].length = [0] := rfl
        rw [e1, List.map_singleton, h2, oren_box, renL_flat cs' h4]; rfl), rfl, by rw [h3]; exact ren_val⟩)
  cases e with
  | exit _ => exact he
  | normal => exact this he
  | ret => exact this he

end Go.Ab
