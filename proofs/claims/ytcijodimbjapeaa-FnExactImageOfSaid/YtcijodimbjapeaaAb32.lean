/- Proofs of functions: contracts whose results are new rows, structs and tuples of them. Conditions: none. -/
import Derived.Test.YtcijodimbjapeaaAb31
set_option linter.all false
namespace Go.Ab
set_option maxRecDepth 20000

/-- One new row with these cells. -/
abbrev RowC (P : Program) (g : FuncId) (args : List AVal) (Q : List AVal → Prop) : Prop := Fn P g args fun rows res => ∃ cs v, Q cs ∧ flatL cs ∧ rows = [.row v 1 true cs] ∧ res = .own 6000 v

theorem rowC_of {P : Program} {g : FuncId} {F : AFn} (hm : P.follows .mixedOrders = true) (hF : cFn drV P g F) {args : List AVal} (hargs : args.length = F.nparams) {Q : List AVal → Prop}
    (h : wpD P F.code (finQ fun σ => (∀ x ∈ F.res, σ.there x) ∧ ∃ r v cs, r < 5000 ∧ σ.value F.res = AVal.own r v ∧ σ.hp r = AObj.row v 1 true cs ∧ flatL cs ∧ freshL cs ∧ Q cs) (St.init args [])) : RowC P g args Q := by
  refine con_of hm hF hargs (by simp) (wpD_mono _ _ _ _ (fun e σ he => ?_) h)
  have : ((∀ x ∈ F.res, σ.there x) ∧ ∃ r v cs, r < 5000 ∧ σ.value F.res = AVal.own r v ∧ σ.hp r = AObj.row v 1 true cs ∧ flatL cs ∧ freshL cs ∧ Q cs) → _ := fun ⟨h1, r, v, cs, hr, h2, h3, h4, h5, h6⟩ =>
    (show (∀ x ∈ F.res, σ.there x) ∧ ∃ ids : List Nat, ids.length ≤ 1000 ∧ ids.Nodup ∧ (∀ n ∈ ids, n < 5000) ∧ (σ.value F.res).fresh ∧ (∀ n ∈ ids, (σ.hp n).fresh) ∧ (∀ j, j < ([] : List AObj).length → (σ.hp (5000 + j)).fresh) ∧
      (fun outs rows res => outs = [] ∧ ∃ cs v, Q cs ∧ flatL cs ∧ rows = [AObj.row v 1 true cs] ∧ res = AVal.own 6000 v) ((List.range ([] : List AObj).length).map fun j => (σ.hp (5000 + j)).ren (expo ids) id) (ids.map fun n => (σ.hp n).ren (expo ids) id) ((σ.value F.res).ren (expo ids) id) from
    ⟨h1, [r], by simp, by simp, by simpa using hr, by rw [h2]; simp [AVal.fresh], by simp only [List.mem_singleton, forall_eq, h3]; exact h5, by simp, rfl, cs, v, h6, h4,
      by simp only [List.map_cons, List.map_nil, h3, oren_row, renL_flat cs h4, id], by rw [h2, ren_own (expo0 hr)]; rfl⟩)
  cases e with
  | exit _ => exact he
  | normal => exact this he
  | ret => exact this he

theorem flat_intsK {k : IntKind} {xs : List Int} : flatL (intsK k xs) := flat_vals fun A hA => by
  simp only [List.mem_map] at hA
  obtain ⟨x, _, rfl⟩ := hA
  exact ⟨_, rfl⟩
theorem flat_rws : ∀ {xss : List (List Int)}, flatL (rws xss)
  | [] => by simp [rws, flatL]
  | xs :: xss => by
    have h := flat_rws (xss := xss)
    simp only [rws, List.map_cons, flatL, AVal.flat] at h ⊢
    exact ⟨⟨.inr (.inl trivial), flat_intsK⟩, h⟩

section
variable {P : Program} {pu : Bool} {σ : St} {g : FuncId} {As args : List AVal} {d : Nat} {s : Nat → Nat} {K : St → Prop}

theorem call_rowC {Q : List AVal → Prop} (h : RowC P g args Q) (hco : CoeL σ.hp [] true args As) (hg : σ.hp d = .gone) (hex : ∃ cs, Q cs ∧ flatL cs)
    (hk : ∀ cs v, Q cs → K (St.put ⟨σ.tm, upd σ.hp d (.row v 1 true cs)⟩ (some d) (.own d v))) : wpCall P pu σ g As (some d) s K := by
  refine call_fn h hco (fun _ => ?_) ?_
  · obtain ⟨cs, h1, h2⟩ := hex
    exact ⟨_, _, cs, 0, h1, h2, rfl, rfl⟩
  · rintro rows res ⟨cs, v, hq, hf, rfl, rfl⟩
    refine ⟨by simp, ?_, ?_⟩
    · rw [Option.getD_some, gone_one]; exact hg
    · rw [Option.getD_some, callHp_one, oren_row, renL_flat cs hf, List.length_singleton, ren_own_r0]
      exact hk cs (s v) hq

/-- Numbers in one new row. -/
abbrev RowI (P : Program) (g : FuncId) (args : List AVal) (Q : List Int → Prop) : Prop := RowC P g args fun cs => ∃ xs, cs = ints xs ∧ Q xs
/-- Rows of numbers in one new row. -/
abbrev RowR (P : Program) (g : FuncId) (args : List AVal) (Q : List (List Int) → Prop) : Prop := RowC P g args fun cs => ∃ xss, cs = rws xss ∧ Q xss

theorem rowI_of {P : Program} {g : FuncId} {args : List AVal} {F : AFn} (hm : P.follows .mixedOrders = true) (hF : cFn drV P g F) (hargs : args.length = F.nparams) {Q : List Int → Prop}
    (h : wpD P F.code (finQ fun σ => (∀ x ∈ F.res, σ.there x) ∧ ∃ r v xs, r < 5000 ∧ σ.value F.res = AVal.own r v ∧ σ.hp r = AObj.row v 1 true (ints xs) ∧ Q xs) (St.init args [])) : RowI P g args Q := by
  refine rowC_of hm hF hargs (wpD_mono _ _ _ _ (fun e σ he => ?_) h)
  have : ((∀ x ∈ F.res, σ.there x) ∧ ∃ r v xs, r < 5000 ∧ σ.value F.res = AVal.own r v ∧ σ.hp r = AObj.row v 1 true (ints xs) ∧ Q xs) → _ := fun ⟨h1, r, v, xs, h2, h3, h4, h5⟩ =>
    (show (∀ x ∈ F.res, σ.there x) ∧ ∃ r v cs, r < 5000 ∧ σ.value F.res = AVal.own r v ∧ σ.hp r = AObj.row v 1 true cs ∧ flatL cs ∧ freshL cs ∧ ∃ xs, cs = ints xs ∧ Q xs from
      ⟨h1, r, v, ints xs, h2, h3, h4, flat_intsK, of_eq_true (fresh_intsK (k := .i64)), xs, rfl, h5⟩)
  cases e with
  | exit _ => exact he
  | normal => exact this he
  | ret => exact this he

theorem rowR_of {P : Program} {g : FuncId} {args : List AVal} {F : AFn} (hm : P.follows .mixedOrders = true) (hF : cFn drV P g F) (hargs : args.length = F.nparams) {Q : List (List Int) → Prop}
    (h : wpD P F.code (finQ fun σ => (∀ x ∈ F.res, σ.there x) ∧ ∃ r v xss, r < 5000 ∧ σ.value F.res = AVal.own r v ∧ σ.hp r = AObj.row v 1 true (rws xss) ∧ Q xss) (St.init args [])) : RowR P g args Q := by
  refine rowC_of hm hF hargs (wpD_mono _ _ _ _ (fun e σ he => ?_) h)
  have : ((∀ x ∈ F.res, σ.there x) ∧ ∃ r v xss, r < 5000 ∧ σ.value F.res = AVal.own r v ∧ σ.hp r = AObj.row v 1 true (rws xss) ∧ Q xss) → _ := fun ⟨h1, r, v, xs, h2, h3, h4, h5⟩ =>
    (show (∀ x ∈ F.res, σ.there x) ∧ ∃ r v cs, r < 5000 ∧ σ.value F.res = AVal.own r v ∧ σ.hp r = AObj.row v 1 true cs ∧ flatL cs ∧ freshL cs ∧ ∃ xs, cs = rws xs ∧ Q xs from
      ⟨h1, r, v, rws xs, h2, h3, h4, flat_rws, of_eq_true fresh_rws, xs, rfl, h5⟩)
  cases e with
  | exit _ => exact he
  | normal => exact this he
  | ret => exact this he

theorem call_rowI {Q : List Int → Prop} (h : RowI P g args Q) (hco : CoeL σ.hp [] true args As) (hg : σ.hp d = .gone) (hex : ∃ xs, Q xs)
    (hk : ∀ xs v, Q xs → K (St.put ⟨σ.tm, upd σ.hp d (.row v 1 true (ints xs))⟩ (some d) (.own d v))) : wpCall P pu σ g As (some d) s K := by
  refine call_rowC h hco hg ?_ ?_
  · obtain ⟨xs, hx⟩ := hex
    exact ⟨ints xs, ⟨xs, rfl, hx⟩, flat_intsK⟩
  · rintro cs v ⟨xs, rfl, hx⟩
    exact hk xs v hx

theorem call_rowR {Q : List (List Int) → Prop} (h : RowR P g args Q) (hco : CoeL σ.hp [] true args As) (hg : σ.hp d = .gone) (hex : ∃ xs, Q xs)
    (hk : ∀ xs v, Q xs → K (St.put ⟨σ.tm, upd σ.hp d (.row v 1 true (rws xs))⟩ (some d) (.own d v))) : wpCall P pu σ g As (some d) s K := by
  refine call_rowC h hco hg ?_ ?_
  · obtain ⟨xs, hx⟩ := hex
    exact ⟨rws xs, ⟨xs, rfl, hx⟩, flat_rws⟩
  · rintro cs v ⟨xs, rfl, hx⟩
    exact hk xs v hx
end

/-- One new row and the code 0. -/
abbrev TupC (P : Program) (g : FuncId) (args : List AVal) (Q : List AVal → Prop) : Prop := Fn P g args fun rows res => ∃ cs v, Q cs ∧ flatL cs ∧ rows = [.row v 1 true cs] ∧ res = .tup [.own 6000 v, iv 0]

theorem tupC_of {P : Program} {g : FuncId} {F : AFn} (hm : P.follows .mixedOrders = true) (hF : cFn drV P g F) {args : List AVal} (hargs : args.length = F.nparams) {Q : List AVal → Prop}
    (h : wpD P F.code (finQ fun σ => (∀ x ∈ F.res, σ.there x) ∧ ∃ r v cs, r < 5000 ∧ σ.value F.res = .tup [.own r v, iv 0] ∧ σ.hp r = .row v 1 true cs ∧ flatL cs ∧ freshL cs ∧ Q cs) (St.init args [])) : TupC P g args Q := by
  refine con_of hm hF hargs (by simp) (wpD_mono _ _ _ _ (fun e σ he => ?_) h)
  have : ((∀ x ∈ F.res, σ.there x) ∧ ∃ r v cs, r < 5000 ∧ σ.value F.res = .tup [.own r v, iv 0] ∧ σ.hp r = .row v 1 true cs ∧ flatL cs ∧ freshL cs ∧ Q cs) → _ := fun ⟨h1, r, v, cs, hr, h2, h3, h4, h5, h6⟩ =>
    (show (∀ x ∈ F.res, σ.there x) ∧ ∃ ids : List Nat, ids.length ≤ 1000 ∧ ids.Nodup ∧ (∀ n ∈ ids, n < 5000) ∧ (σ.value F.res).fresh ∧ (∀ n ∈ ids, (σ.hp n).fresh) ∧ (∀ j, j < ([] : List AObj).length → (σ.hp (5000 + j)).fresh) ∧
      (fun outs rows res => outs = [] ∧ ∃ cs v, Q cs ∧ flatL cs ∧ rows = [AObj.row v 1 true cs] ∧ res = AVal.tup [.own 6000 v, iv 0]) ((List.range ([] : List AObj).length).map fun j => (σ.hp (5000 + j)).ren (expo ids) id) (ids.map fun n => (σ.hp n).ren (expo ids) id) ((σ.value F.res).ren (expo ids) id) from
    ⟨h1, [r], by simp, by simp, by simpa using hr, by rw [h2]; simp [AVal.fresh, freshL], by simp only [List.mem_singleton, forall_eq, h3]; exact h5, by simp, rfl, cs, v, h6, h4,
      by simp only [List.map_cons, List.map_nil, h3, oren_row, renL_flat cs h4, id], by rw [h2, ren_tup, renL_cons, renL_cons, renL_nil, ren_own (expo0 hr), ren_val]; rfl⟩)
  cases e with
  | exit _ => exact he
  | normal => exact this he
  | ret => exact this he

theorem call_tupC {P : Program} {pu : Bool} {σ : St} {g : FuncId} {As args : List AVal} {d : Nat} {s : Nat → Nat} {K : St → Prop} {Q : List AVal → Prop} (h : TupC P g args Q) (hco : CoeL σ.hp [] true args As) (hg : σ.hp d = .gone) (hex : ∃ cs, Q cs ∧ flatL cs)
    (hk : ∀ cs v, Q cs → K (St.put ⟨σ.tm, upd σ.hp d (.row v 1 true cs)⟩ (some d) (.tup [.own d v, iv 0]))) : wpCall P pu σ g As (some d) s K := by
  refine call_fn h hco (fun _ => ?_) ?_
  · obtain ⟨cs, h1, h2⟩ := hex
    exact ⟨_, _, cs, 0, h1, h2, rfl, rfl⟩
  · rintro rows res ⟨cs, v, hq, hf, rfl, rfl⟩
    refine ⟨by simp, ?_, ?_⟩
    · rw [Option.getD_some, gone_one]; exact hg
    · rw [Option.getD_some, callHp_one, oren_row, renL_flat cs hf, List.length_singleton, ren_tup, renL_cons, renL_cons, renL_nil, ren_own_r0, ren_val]
      exact hk cs (s v) hq

abbrev TupI (P : Program) (g : FuncId) (args : List AVal) (Q : List Int → Prop) : Prop := TupC P g args fun cs => ∃ xs, cs = ints xs ∧ Q xs
abbrev TupR (P : Program) (g : FuncId) (args : List AVal) (Q : List (List Int) → Prop) : Prop := TupC P g args fun cs => ∃ xss, cs = rws xss ∧ Q xss

theorem tupI_of {P : Program} {g : FuncId} {args : List AVal} {F : AFn} (hm : P.follows .mixedOrders = true) (hF : cFn drV P g F) (hargs : args.length = F.nparams) {Q : List Int → Prop}
    (h : wpD P F.code (finQ fun σ => (∀ x ∈ F.res, σ.there x) ∧ ∃ r v xs, r < 5000 ∧ σ.value F.res = AVal.tup [.own r v, iv 0] ∧ σ.hp r = AObj.row v 1 true (ints xs) ∧ Q xs) (St.init args [])) : TupI P g args Q := by
  refine tupC_of hm hF hargs (wpD_mono _ _ _ _ (fun e σ he => ?_) h)
  have : ((∀ x ∈ F.res, σ.there x) ∧ ∃ r v xs, r < 5000 ∧ σ.value F.res = AVal.tup [.own r v, iv 0] ∧ σ.hp r = AObj.row v 1 true (ints xs) ∧ Q xs) → _ := fun ⟨h1, r, v, xs, h2, h3, h4, h5⟩ =>
    (show (∀ x ∈ F.res, σ.there x) ∧ ∃ r v cs, r < 5000 ∧ σ.value F.res = AVal.tup [.own r v, iv 0] ∧ σ.hp r = AObj.row v 1 true cs ∧ flatL cs ∧ freshL cs ∧ ∃ xs, cs = ints xs ∧ Q xs from
      ⟨h1, r, v, ints xs, h2, h3, h4, flat_intsK, of_eq_true (fresh_intsK (k := .i64)), xs, rfl, h5⟩)
  cases e with
  | exit _ => exact he
  | normal => exact this he
  | ret => exact this he

theorem tupR_of {P : Program} {g : FuncId} {args : List AVal} {F : AFn} (hm : P.follows .mixedOrders = true) (hF : cFn drV P g F) (hargs : args.length = F.nparams) {Q : List (List Int) → Prop}
    (h : wpD P F.code (finQ fun σ => (∀ x ∈ F.res, σ.there x) ∧ ∃ r v xss, r < 5000 ∧ σ.value F.res = AVal.tup [.own r v, iv 0] ∧ σ.hp r = AObj.row v 1 true (rws xss) ∧ Q xss) (St.init args [])) : TupR P g args Q := by
  refine tupC_of hm hF hargs (wpD_mono _ _ _ _ (fun e σ he => ?_) h)
  have : ((∀ x ∈ F.res, σ.there x) ∧ ∃ r v xss, r < 5000 ∧ σ.value F.res = AVal.tup [.own r v, iv 0] ∧ σ.hp r = AObj.row v 1 true (rws xss) ∧ Q xss) → _ := fun ⟨h1, r, v, xs, h2, h3, h4, h5⟩ =>
    (show (∀ x ∈ F.res, σ.there x) ∧ ∃ r v cs, r < 5000 ∧ σ.value F.res = AVal.tup [.own r v, iv 0] ∧ σ.hp r = AObj.row v 1 true cs ∧ flatL cs ∧ freshL cs ∧ ∃ xss, cs = rws xss ∧ Q xss from
      ⟨h1, r, v, rws xs, h2, h3, h4, flat_rws, of_eq_true fresh_rws, xs, rfl, h5⟩)
  cases e with
  | exit _ => exact he
  | normal => exact this he
  | ret => exact this he

theorem call_tupI {P : Program} {pu : Bool} {σ : St} {g : FuncId} {As args : List AVal} {d : Nat} {s : Nat → Nat} {K : St → Prop} {Q : List Int → Prop} (h : TupI P g args Q) (hco : CoeL σ.hp [] true args As) (hg : σ.hp d = .gone) (hex : ∃ xs, Q xs)
    (hk : ∀ xs v, Q xs → K (St.put ⟨σ.tm, upd σ.hp d (.row v 1 true (ints xs))⟩ (some d) (.tup [.own d v, iv 0]))) : wpCall P pu σ g As (some d) s K := by
  refine call_tupC h hco hg ?_ ?_
  · obtain ⟨xs, hx⟩ := hex
    exact ⟨ints xs, ⟨xs, rfl, hx⟩, flat_intsK⟩
  · rintro cs v ⟨xs, rfl, hx⟩
    exact hk xs v hx

theorem call_tupR {P : Program} {pu : Bool} {σ : St} {g : FuncId} {As args : List AVal} {d : Nat} {s : Nat → Nat} {K : St → Prop} {Q : List (List Int) → Prop} (h : TupR P g args Q) (hco : CoeL σ.hp [] true args As) (hg : σ.hp d = .gone) (hex : ∃ xs, Q xs)
    (hk : ∀ xs v, Q xs → K (St.put ⟨σ.tm, upd σ.hp d (.row v 1 true (rws xs))⟩ (some d) (.tup [.own d v, iv 0]))) : wpCall P pu σ g As (some d) s K := by
  refine call_tupC h hco hg ?_ ?_
  · obtain ⟨xs, hx⟩ := hex
    exact ⟨rws xs, ⟨xs, rfl, hx⟩, flat_rws⟩
  · rintro cs v ⟨xs, rfl, hx⟩
    exact hk xs v hx

/-- A function that gives up: nil and a code. -/
abbrev FailT (P : Program) (g : FuncId) (args : List AVal) (c : Int) : Prop := Fun P g args (.tup [.val (.slice none 0 0), iv c])

/-- A valid automaton. -/
structure Aut (n : Int) (next : List (List Int)) : Prop where
  n1 : 1 ≤ n
  n2 : n ≤ 10
  l1 : 1 ≤ next.length
  l2 : next.length ≤ 3
  row : ∀ row ∈ next, (row.length : Int) = n ∧ ∀ x ∈ row, 0 ≤ x ∧ x < n

theorem coeL_ints {hp : Nat → AObj} {m : List Nat} {len : Bool} {xs : List Int} : CoeL hp m len (ints xs) (ints xs) := coeL_self fun A hA => by simp only [List.mem_map] at hA; obtain ⟨x, _, rfl⟩ := hA; exact ⟨_, rfl⟩
/-- Rows of numbers that were there before. -/
def rwo (xss : List (List Int)) : List AVal := xss.map fun xs => .ro (some (some 0)) 1 (ints xs)
theorem dnL_rwo {xss : List (List Int)} : dnL (rwo xss) = rwo xss := by
  simp only [dnL_eq, rwo, List.map_map]
  exact List.map_congr_left fun xs _ => by simp [AVal.dn, ints, dnL_eq, dnNm]
theorem mvL_rwo {a v b m : Nat} {xss : List (List Int)} : mvL a v b m (rwo xss) = rwo xss := by
  simp only [mvL_eq, rwo, List.map_map]
  exact List.map_congr_left fun xs _ => by simp [AVal.mv, ints, mvL_eq]
theorem rwo_len {xss : List (List Int)} : (rwo xss).length = xss.length := by simp [rwo]
theorem coeL_rwo {hp : Nat → AObj} {m : List Nat} {len : Bool} : ∀ {xss : List (List Int)}, CoeL hp m len (rwn xss) (rwo xss)
  | [] => by simp [rwn, rwo, CoeL]
  | xs :: xss => by
    have h := coeL_rwo (hp := hp) (m := m) (len := len) (xss := xss)
    simp only [rwn, rwo, List.map_cons] at h ⊢
    rw [coeL_cons, coe_ro]
    exact ⟨⟨by omega, coeL_ints⟩, h⟩
theorem coeL_rwo_t {hp : Nat → AObj} {m : List Nat} {len : Bool} {xss : List (List Int)} : CoeL hp m len (rwn xss) (rwo xss) = True := eq_true coeL_rwo

end Go.Ab
