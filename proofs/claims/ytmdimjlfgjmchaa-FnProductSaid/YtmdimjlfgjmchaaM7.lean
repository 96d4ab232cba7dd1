/- Forms of contracts. Conditions: none. -/
import Derived.Test.YtmdimjlfgjmchaaM5
import Derived.Test.YtmdimjlfgjmchaaM6
import Derived.Sort.Grow
set_option linter.all false

/-! Proofs of functions: contracts whose results are new rows, structs and tuples of them. -/
namespace Go.Ab
set_option maxRecDepth 20000

/-- One new row with these cells. -/
abbrev RowC (P : Program) (g : FuncId) (args : List AVal) (Q : List AVal → Prop) : Prop := Fn P g args fun rows res => ∃ cs v, Q cs ∧ flatL cs ∧ rows = [.row v 1 true cs] ∧ res = .own 6000 v

theorem rowC_of {P : Program} {g : FuncId} {F : AFn} (hm : P.follows .mixedOrders = true) {no : Option (List Nat × List FuncId)} (hF : cFn (drV no) P g F) {args : List AVal} (hargs : args.length = F.nparams) {Q : List AVal → Prop}
    (h : wpD P F.code (finQ fun σ => (∀ x ∈ F.res, σ.there x) ∧ ∃ r v cs, r < 5000 ∧ σ.value F.res = AVal.own r v ∧ σ.hp r = AObj.row v 1 true cs ∧ flatL cs ∧ freshL cs ∧ Q cs) (St.init args [])) : RowC P g args Q := by
  refine con_of hm hF hargs (by simp) (wpD_mono _ _ _ _ (fun e σ he => ?_) h)
  have : ((∀ x ∈ F.res, σ.there x) ∧ ∃ r v cs, r < 5000 ∧ σ.value F.res = AVal.own r v ∧ σ.hp r = AObj.row v 1 true cs ∧ flatL cs ∧ freshL cs ∧ Q cs) → _ := fun ⟨h1, r, v, cs, hr, h2, h3, h4, h5, h6⟩ =>
    (show (∀ x ∈ F.res, σ.there x) ∧ ∃ ids : List Nat, ids.length ≤ 1000 ∧ ids.Nodup ∧ (∀ n ∈ ids, n < 5000) ∧ (σ.value F.res).fresh ∧ (∀ n ∈ ids, (σ.hp n).fresh) ∧ (∀ j, j < ([] : List AObj).length → (σ.hp (5000 + j)).fresh) ∧
      (fun outs rows res => outs = [] ∧ ∃ cs v, Q cs ∧ flatL cs ∧ rows = [AObj.row v 1 true cs] ∧ res = AVal.own 6000 v) ((List.range ([] : List AObj).length).map fun j => (σ.hp (5000 + j)).ren (expo ids) id) (ids.map fun n => (σ.hp n).ren (expo ids) id) ((σ.value F.res).ren (expo ids) id) from
    ⟨h1, [r], by simp, by simp, by simpa using hr, by rw [h2]; simp [AVal.fresh], by simp only [List.mem_singleton, forall_eq, h3]; exact h5, by simp, rfl, cs, v, h6, h4,
      by simp only [List.map_cons, List.map_nil, h3, oren_row, renL_flat cs h4, id], by rw [h2, ren_own (expo0 hr)]; rfl⟩)
  cases e with
  | exit _ => exact he
  | normal => exact this he
  | ret => exact this he

theorem flat_intsK {k : IntKind} {xs : List Int} : flatL (intsK k xs) := flat_vals fun A hA => by
  simp only [List.mem_map] at hA
  obtain ⟨x, _, rfl⟩ := hA
  exact ⟨_, rfl⟩
section
variable {P : Program} {pu : Bool} {σ : St} {g : FuncId} {As args : List AVal} {d : Nat} {s : Nat → Nat} {K : St → Prop}

theorem call_rowC {Q : List AVal → Prop} (h : RowC P g args Q) (hco : CoeL σ.hp [] true args As) (hg : σ.hp d = .gone) (hex : ∃ cs, Q cs ∧ flatL cs)
    (hk : ∀ cs v, Q cs → K (St.put ⟨σ.tm, upd σ.hp d (.row v 1 true cs)⟩ (some d) (.own d v))) : wpCall P pu σ g As (some d) s K := by
  refine call_fn h hco (fun _ => ?_) ?_
  · obtain ⟨cs, h1, h2⟩ := hex
    exact ⟨_, _, cs, 0, h1, h2, rfl, rfl⟩
  · rintro rows res ⟨cs, v, hq, hf, rfl, rfl⟩
    refine ⟨by simp, ?_, ?_⟩
    · rw [Option.getD_some, gone_one]; exact hg
    · rw [Option.getD_some, callHp_one, oren_row, renL_flat cs hf, List.length_singleton, ren_own_r0]
      exact hk cs (s v) hq

/-- Numbers in one new row. -/
abbrev RowI (P : Program) (g : FuncId) (args : List AVal) (Q : List Int → Prop) : Prop := RowC P g args fun cs => ∃ xs, cs = ints xs ∧ Q xs
theorem rowI_of {P : Program} {g : FuncId} {args : List AVal} {F : AFn} (hm : P.follows .mixedOrders = true) {no : Option (List Nat × List FuncId)} (hF : cFn (drV no) P g F) (hargs : args.length = F.nparams) {Q : List Int → Prop}
    (h : wpD P F.code (finQ fun σ => (∀ x ∈ F.res, σ.there x) ∧ ∃ r v xs, r < 5000 ∧ σ.value F.res = AVal.own r v ∧ σ.hp r = AObj.row v 1 true (ints xs) ∧ Q xs) (St.init args [])) : RowI P g args Q := by
  refine rowC_of hm hF hargs (wpD_mono _ _ _ _ (fun e σ he => ?_) h)
  have : ((∀ x ∈ F.res, σ.there x) ∧ ∃ r v xs, r < 5000 ∧ σ.value F.res = AVal.own r v ∧ σ.hp r = AObj.row v 1 true (ints xs) ∧ Q xs) → _ := fun ⟨h1, r, v, xs, h2, h3, h4, h5⟩ =>
    (show (∀ x ∈ F.res, σ.there x) ∧ ∃ r v cs, r < 5000 ∧ σ.value F.res = AVal.own r v ∧ σ.hp r = AObj.row v 1 true cs ∧ flatL cs ∧ freshL cs ∧ ∃ xs, cs = ints xs ∧ Q xs from
      ⟨h1, r, v, ints xs, h2, h3, h4, flat_intsK, of_eq_true (fresh_intsK (k := .i64)), xs, rfl, h5⟩)
  cases e with
  | exit _ => exact he
  | normal => exact this he
  | ret => exact this he

theorem call_rowI {Q : List Int → Prop} (h : RowI P g args Q) (hco : CoeL σ.hp [] true args As) (hg : σ.hp d = .gone) (hex : ∃ xs, Q xs)
    (hk : ∀ xs v, Q xs → K (St.put ⟨σ.tm, upd σ.hp d (.row v 1 true (ints xs))⟩ (some d) (.own d v))) : wpCall P pu σ g As (some d) s K := by
  refine call_rowC h hco hg ?_ ?_
  · obtain ⟨xs, hx⟩ := hex
    exact ⟨ints xs, ⟨xs, rfl, hx⟩, flat_intsK⟩
  · rintro cs v ⟨xs, rfl, hx⟩
    exact hk xs v hx

end

/-- One new row and the code 0. -/
abbrev TupC (P : Program) (g : FuncId) (args : List AVal) (Q : List AVal → Prop) : Prop := Fn P g args fun rows res => ∃ cs v, Q cs ∧ flatL cs ∧ rows = [.row v 1 true cs] ∧ res = .tup [.own 6000 v, iv 0]

theorem tupC_of {P : Program} {g : FuncId} {F : AFn} (hm : P.follows .mixedOrders = true) {no : Option (List Nat × List FuncId)} (hF : cFn (drV no) P g F) {args : List AVal} (hargs : args.length = F.nparams) {Q : List AVal → Prop}
    (h : wpD P F.code (finQ fun σ => (∀ x ∈ F.res, σ.there x) ∧ ∃ r v cs, r < 5000 ∧ σ.value F.res = .tup [.own r v, iv 0] ∧ σ.hp r = .row v 1 true cs ∧ flatL cs ∧ freshL cs ∧ Q cs) (St.init args [])) : TupC P g args Q := by
  refine con_of hm hF hargs (by simp) (wpD_mono _ _ _ _ (fun e σ he => ?_) h)
  have : ((∀ x ∈ F.res, σ.there x) ∧ ∃ r v cs, r < 5000 ∧ σ.value F.res = .tup [.own r v, iv 0] ∧ σ.hp r = .row v 1 true cs ∧ flatL cs ∧ freshL cs ∧ Q cs) → _ := fun ⟨h1, r, v, cs, hr, h2, h3, h4, h5, h6⟩ =>
    (show (∀ x ∈ F.res, σ.there x) ∧ ∃ ids : List Nat, ids.length ≤ 1000 ∧ ids.Nodup ∧ (∀ n ∈ ids, n < 5000) ∧ (σ.value F.res).fresh ∧ (∀ n ∈ ids, (σ.hp n).fresh) ∧ (∀ j, j < ([] : List AObj).length → (σ.hp (5000 + j)).fresh) ∧
      (fun outs rows res => outs = [] ∧ ∃ cs v, Q cs ∧ flatL cs ∧ rows = [AObj.row v 1 true cs] ∧ res = AVal.tup [.own 6000 v, iv 0]) ((List.range ([] : List AObj).length).map fun j => (σ.hp (5000 + j)).ren (expo ids) id) (ids.map fun n => (σ.hp n).ren (expo ids) id) ((σ.value F.res).ren (expo ids) id) from
    ⟨h1, [r], by simp, by simp, by simpa using hr, by rw [h2]; simp [AVal.fresh, freshL], by simp only [List.mem_singleton, forall_eq, h3]; exact h5, by simp, rfl, cs, v, h6, h4,
      by simp only [List.map_cons, List.map_nil, h3, oren_row, renL_flat cs h4, id], by rw [h2, ren_tup, renL_cons, renL_cons, renL_nil, ren_own (expo0 hr), ren_val]; rfl⟩)
  cases e with
  | exit _ => exact he
  | normal => exact this he
  | ret => exact this he

theorem call_tupC {P : Program} {pu : Bool} {σ : St} {g : FuncId} {As args : List AVal} {d : Nat} {s : Nat → Nat} {K : St → Prop} {Q : List AVal → Prop} (h : TupC P g args Q) (hco : CoeL σ.hp [] true args As) (hg : σ.hp d = .gone) (hex : ∃ cs, Q cs ∧ flatL cs)
    (hk : ∀ cs v, Q cs → K (St.put ⟨σ.tm, upd σ.hp d (.row v 1 true cs)⟩ (some d) (.tup [.own d v, iv 0]))) : wpCall P pu σ g As (some d) s K := by
  refine call_fn h hco (fun _ => ?_) ?_
  · obtain ⟨cs, h1, h2⟩ := hex
    exact ⟨_, _, cs, 0, h1, h2, rfl, rfl⟩
  · rintro rows res ⟨cs, v, hq, hf, rfl, rfl⟩
    refine ⟨by simp, ?_, ?_⟩
    · rw [Option.getD_some, gone_one]; exact hg
    · rw [Option.getD_some, callHp_one, oren_row, renL_flat cs hf, List.length_singleton, ren_tup, renL_cons, renL_cons, renL_nil, ren_own_r0, ren_val]
      exact hk cs (s v) hq

abbrev TupI (P : Program) (g : FuncId) (args : List AVal) (Q : List Int → Prop) : Prop := TupC P g args fun cs => ∃ xs, cs = ints xs ∧ Q xs
theorem tupI_of {P : Program} {g : FuncId} {args : List AVal} {F : AFn} (hm : P.follows .mixedOrders = true) {no : Option (List Nat × List FuncId)} (hF : cFn (drV no) P g F) (hargs : args.length = F.nparams) {Q : List Int → Prop}
    (h : wpD P F.code (finQ fun σ => (∀ x ∈ F.res, σ.there x) ∧ ∃ r v xs, r < 5000 ∧ σ.value F.res = AVal.tup [.own r v, iv 0] ∧ σ.hp r = AObj.row v 1 true (ints xs) ∧ Q xs) (St.init args [])) : TupI P g args Q := by
  refine tupC_of hm hF hargs (wpD_mono _ _ _ _ (fun e σ he => ?_) h)
  have : ((∀ x ∈ F.res, σ.there x) ∧ ∃ r v xs, r < 5000 ∧ σ.value F.res = AVal.tup [.own r v, iv 0] ∧ σ.hp r = AObj.row v 1 true (ints xs) ∧ Q xs) → _ := fun ⟨h1, r, v, xs, h2, h3, h4, h5⟩ =>
    (show (∀ x ∈ F.res, σ.there x) ∧ ∃ r v cs, r < 5000 ∧ σ.value F.res = AVal.tup [.own r v, iv 0] ∧ σ.hp r = AObj.row v 1 true cs ∧ flatL cs ∧ freshL cs ∧ ∃ xs, cs = ints xs ∧ Q xs from
      ⟨h1, r, v, ints xs, h2, h3, h4, flat_intsK, of_eq_true (fresh_intsK (k := .i64)), xs, rfl, h5⟩)
  cases e with
  | exit _ => exact he
  | normal => exact this he
  | ret => exact this he

theorem call_tupI {P : Program} {pu : Bool} {σ : St} {g : FuncId} {As args : List AVal} {d : Nat} {s : Nat → Nat} {K : St → Prop} {Q : List Int → Prop} (h : TupI P g args Q) (hco : CoeL σ.hp [] true args As) (hg : σ.hp d = .gone) (hex : ∃ xs, Q xs)
    (hk : ∀ xs v, Q xs → K (St.put ⟨σ.tm, upd σ.hp d (.row v 1 true (ints xs))⟩ (some d) (.tup [.own d v, iv 0]))) : wpCall P pu σ g As (some d) s K := by
  refine call_tupC h hco hg ?_ ?_
  · obtain ⟨xs, hx⟩ := hex
    exact ⟨ints xs, ⟨xs, rfl, hx⟩, flat_intsK⟩
  · rintro cs v ⟨xs, rfl, hx⟩
    exact hk xs v hx

/-- A valid automaton. -/
structure Aut (n : Int) (next : List (List Int)) : Prop where
  n1 : 1 ≤ n
  n2 : n ≤ 10
  l1 : 1 ≤ next.length
  l2 : next.length ≤ 3
  row : ∀ row ∈ next, (row.length : Int) = n ∧ ∀ x ∈ row, 0 ≤ x ∧ x < n

theorem coeL_ints {hp : Nat → AObj} {m : List Nat} {len : Bool} {xs : List Int} : CoeL hp m len (ints xs) (ints xs) := coeL_self fun A hA => by simp only [List.mem_map] at hA; obtain ⟨x, _, rfl⟩ := hA; exact ⟨_, rfl⟩
/-- Rows of numbers that were there before. -/
def rwo (xss : List (List Int)) : List AVal := xss.map fun xs => .ro (some (some 0)) 1 (ints xs)
theorem dnL_rwo {xss : List (List Int)} : dnL (rwo xss) = rwo xss := by
  simp only [dnL_eq, rwo, List.map_map]
  exact List.map_congr_left fun xs _ => by simp [AVal.dn, ints, dnL_eq, dnNm]
theorem mvL_rwo {a v b m : Nat} {xss : List (List Int)} : mvL a v b m (rwo xss) = rwo xss := by
  simp only [mvL_eq, rwo, List.map_map]
  exact List.map_congr_left fun xs _ => by simp [AVal.mv, ints, mvL_eq]
theorem rwo_len {xss : List (List Int)} : (rwo xss).length = xss.length := by simp [rwo]
end Go.Ab

/-! Laws of two lists of bytes: from the contract to the row. -/
namespace Go.Ab
set_option maxRecDepth 20000

theorem bytes_arg {P : Program} {t e : TypeId} (h1 : P.underlying t = some (.slice e)) (h2 : P.underlying e = some (.int .u8)) (h3 : P.cellsOf e = 1) {A : AVal} (h : ArgShp P t A) :
    ∃ code, A = .ro (some (some 0)) 1 (intsK .u8 code) ∧ ∀ x ∈ code, 0 ≤ x ∧ x ≤ 255 := by
  have one : ∀ xs, Shp P e xs → ∃ n, xs = [.val (.int .u8 n)] ∧ 0 ≤ n ∧ n ≤ 255 := by
    intro xs hx
    cases hx with
    | int hk hw =>
      rw [h2] at hk
      cases hk
      simp only [Lit.wf, Bool.and_eq_true, decide_eq_true_eq, IntKind.min, IntKind.max] at hw
      refine ⟨_, rfl, ?_⟩
      simp [IntKind.signed, IntKind.bits] at hw
      omega
    | bool hk => rw [h2] at hk; cases hk
    | string hk _ => rw [h2] at hk; cases hk
    | slice hk _ _ _ => rw [h2] at hk; cases hk
    | struct hk _ => rw [h2] at hk; cases hk
  rcases h with ⟨hS, _⟩ | ⟨As, fs, hs, _⟩
  · generalize hl : [A] = l at hS
    cases hS with
    | int hk _ => rw [h1] at hk; cases hk
    | bool hk => rw [h1] at hk; cases hk
    | string hk _ => rw [h1] at hk; cases hk
    | struct hk _ => rw [h1] at hk; cases hk
    | slice hk hx hlen hm =>
      rename_i e' xss
      rw [h1] at hk
      cases hk
      simp only [List.cons.injEq, and_true] at hl
      subst hl
      rw [h3]
      clear hm hlen
      have : ∃ code, xss.flatten = intsK .u8 code ∧ ∀ x ∈ code, 0 ≤ x ∧ x ≤ 255 := by
        induction xss with
        | nil => exact ⟨[], rfl, by simp⟩
        | cons xs xss ih =>
          obtain ⟨n, rfl, hn⟩ := one xs (hx xs (by simp))
          obtain ⟨code, hc, hb⟩ := ih fun ys hy => hx ys (by simp [hy])
          refine ⟨n :: code, by rw [List.flatten_cons, hc]; rfl, fun x hx => ?_⟩
          rcases List.mem_cons.1 hx with rfl | hx
          · exact hn
          · exact hb x hx
      obtain ⟨code, hc, hb⟩ := this
      exact ⟨code, by rw [hc], hb⟩
  · rw [h1] at hs; cases hs

theorem two_bytes {P : Program} {t e : TypeId} (h1 : P.underlying t = some (.slice e)) (h2 : P.underlying e = some (.int .u8)) (h3 : P.cellsOf e = 1) {g : FuncId}
    (hlaw : ∀ code more : List Int, (∀ x ∈ code, 0 ≤ x ∧ x ≤ 255) → (∀ x ∈ more, 0 ≤ x ∧ x ≤ 255) → Fun P g [.ro (some (some 0)) 1 (intsK .u8 code), .ro (some (some 0)) 1 (intsK .u8 more)] (bv true)) :
    ∀ As, ArgsShp P [t, t] As → Fun P g As (bv true) := by
  intro As h
  cases h with
  | cons hA h =>
    cases h with
    | cons hB h =>
      cases h
      obtain ⟨code, rfl, hc⟩ := bytes_arg h1 h2 h3 hA
      obtain ⟨more, rfl, hm⟩ := bytes_arg h1 h2 h3 hB
      exact hlaw code more hc hm

end Go.Ab

/-! The rewriting rules of the walk, gathered in one set. -/
namespace Go.Ab

attribute [go_sem]
  noObj noPtr St.mapAt keyIs keyV_val keyV_st dn_argN argN_nn Bool.or_true nodup_one beq_self_eq_true decide_true decide_false AC.kts AC.khs AC.kin Bool.true_or intsK_snoc
  List.foldl_cons List.foldl_nil forall_eq_or_imp List.toList_toArray List.getD_cons_zero List.getD_cons_succ List.length_cons List.length_nil
  List.take_succ_cons List.take_zero List.drop_succ_cons List.drop_zero Nat.zero_add Nat.add_zero Nat.lt_add_one Nat.zero_lt_succ wpD_skip dn_tm dn_hp
  wpD_reg wpD_kpd wpD_ad St.adopt List.getElem?_cons_zero List.getElem?_cons_succ List.set_cons_zero List.set_cons_succ Nat.one_ne_zero kd_L
  pickT pickO dn_any dn_val dn_ro dn_own dn_st dn_tup dn_ptr dn_rp dn_mp dn_clo dnL_nil dnL_cons dnL_app dnL_ints dnL_rws dnL_rwn odn_box odn_row
  odn_map mv_L mvT mvO mvV_any mvV_val mvV_ro mvV_own mvV_ptr mvV_mp mvV_st mvV_tup mvV_rp mvV_clo mvL_nil mvL_cons mvL_ints mvL_rws mvL_rwn AObj.mv AObj.wv dnNm_n dnNm_sn dnNm_o dnNm_s isNew_sn isNew_s Option.map_none Option.map_some wpD_dnret wpD_stuck frNm_t rws_snoc rws_len rwn_len rws_nil rws_app one_own one_mp one_ptr one_rp one_clo
  isRow isMap one_intsK one_rws one_rwn frz_intsK frz_rws owned_intsK owned_rws upd_hit wpD_seq wpD_condL wpD_block wpD_exit wpD_ret seqQ_n seqQ_e seqQ_r
  blockQ_n blockQ_e blockQ_r loopQ_n loopQ_e loopQ_r finQ_n finQ_e finQ_r wpOps_nil wpOps_L wpOp_n wpOp_g wpIns wpCk_f wpCk_t wpCk_h wpCk_m free AI.opds AI.wp AI.pre AI.eff AI.out hpw_eq AI.hq upd_L
  goneL_nil goneL_cons owned AVal.cells frz putAt St.slc St.nn AI.fact put_L put_none ev_t ev_c ev_f frz_ints ints_rep i2n one_ints owned_ints one_iv
  one_bv one_str one_nil one_ro ints_app List.flatMap_nil List.flatMap_cons List.nodup_nil List.nil_append List.append_nil List.singleton_append
  List.cons_append AObj.ver St.keep pickL L_hit L_miss L_nil St.init enum binV unV St.sl St.at ne_eq not_true_eq_false not_false_eq_true true_and
  and_true implies_true forall_const forall_eq St.value St.value1 St.there List.mem_cons List.not_mem_nil or_false Option.isSome_some Option.getD_some
  Bool.not_false Bool.not_true Nat.div_one List.map_cons List.map_nil List.length_map Nat.mul_one false_implies

attribute [go_sem high] grd_tt grd_ff grd_tf grd_ft grd_u cnd_t cnd_f
attribute [go_sem low] grd_b cnd_b

end Go.Ab

/-! Library functions that write one row of numbers where it lies: from a law of the call to a contract. -/
namespace Go.Ab
open Go Go.Sort
set_option maxRecDepth 20000

/-- The world behind such a call. -/
def Left1 (w w' : World) (g off : Nat) (ys : List Int) : Prop := ∃ n os, w' = grow (putRow (Value.int .i64) (Sort.ahead w n) g off ys.toArray) os

section
variable {w w' : World} {g off : Nat} {ys : List Int}

theorem Left1.ne (h : Left1 w w' g off ys) {b : Nat} (hb : b < w.heap.size) (hne : b ≠ g) : w'.heap[b]? = w.heap[b]? := by
  obtain ⟨n, os, rfl⟩ := h
  have h1 : b < (w.heap.modify g (onCells (putCells (Value.int .i64) off ys.toArray))).size := by rw [Array.size_modify]; exact hb
  show (w.heap.modify g (onCells (putCells (Value.int .i64) off ys.toArray)) ++ os)[b]? = _
  rw [Array.getElem?_append_left h1, Array.getElem?_modify, if_neg (Ne.symm hne)]

theorem Left1.at (h : Left1 w w' g off ys) {cells : Array Value} {t : TypeId} (hb : w.heap[g]? = some (.cells cells t (0, 0))) : w'.heap[g]? = some (.cells (putCells (Value.int .i64) off ys.toArray cells) t (0, 0)) := by
  obtain ⟨n, os, rfl⟩ := h
  have hlt : g < w.heap.size := block_lt_of_some hb
  have h1 : g < (w.heap.modify g (onCells (putCells (Value.int .i64) off ys.toArray))).size := by rw [Array.size_modify]; exact hlt
  show (w.heap.modify g (onCells (putCells (Value.int .i64) off ys.toArray)) ++ os)[g]? = _
  rw [Array.getElem?_append_left h1, Array.getElem?_modify, if_pos rfl, hb]; rfl

theorem Left1.size (h : Left1 w w' g off ys) : w.heap.size ≤ w'.heap.size := by
  obtain ⟨n, os, rfl⟩ := h
  show w.heap.size ≤ (w.heap.modify g (onCells (putCells (Value.int .i64) off ys.toArray)) ++ os).size
  rw [Array.size_append, Array.size_modify]; omega
theorem Left1.os (h : Left1 w w' g off ys) : w'.os = w.os := by obtain ⟨n, os, rfl⟩ := h; rfl
theorem Left1.tape (h : Left1 w w' g off ys) : w'.tape = w.tape := by obtain ⟨n, os, rfl⟩ := h; rfl
theorem Left1.output (h : Left1 w w' g off ys) : w'.output = w.output := by obtain ⟨n, os, rfl⟩ := h; rfl

theorem putCells_row {cells : Array Value} (hfit : off + ys.length ≤ cells.size) {m : Nat} (hm : m ≤ ys.length) :
    (((putCells (Value.int .i64) off ys.toArray cells).toList.drop off).take m) = (ys.take m).map fun x => Value.int .i64 x := by
  apply List.ext_getElem?
  intro j
  rw [List.getElem?_take, List.getElem?_map, List.getElem?_take]
  by_cases hj : j < m
  · rw [if_pos hj, if_pos hj, List.getElem?_drop, Array.getElem?_toList]
    have h1 : off + j < cells.size := by omega
    simp only [putCells, Array.getElem?_mapIdx, Array.getElem?_eq_getElem h1, Option.map_some, List.size_toArray]
    have h2 : off ≤ off + j ∧ off + j < off + ys.length := by omega
    have h3 : off + j - off = j := by omega
    rw [if_pos h2, h3, List.getElem?_eq_getElem (show j < ys.length by omega)]
    simp only [Option.map_some]
    have h4 : ys.toArray[j]! = ys[j] := by rw [getElem!_pos _ j (by simp; omega)]; simp
    rw [h4]
  · rw [if_neg hj, if_neg hj]; rfl

theorem repL_ints {c : Cz} : ∀ {xs : List Int}, RepL c (ints xs) (xs.map fun x => Value.int .i64 x)
  | [] => by simp [RepL]
  | x :: xs => by
    simp only [List.map_cons, RepL, Rep]
    exact ⟨trivial, repL_ints⟩

theorem repL_ints_eq {c : Cz} : ∀ {xs : List Int} {vs : List Value}, RepL c (ints xs) vs → vs = xs.map fun x => Value.int .i64 x
  | [], [], _ => rfl
  | [], _ :: _, h => by simp [RepL] at h
  | _ :: _, [], h => by simp [RepL] at h
  | x :: xs, v :: vs, h => by
    simp only [List.map_cons, RepL, Rep] at h ⊢
    rw [h.1, repL_ints_eq h.2]

theorem holds_row {c : Cz} {zs : List Int} {cells : Array Value} {t : TypeId} (hb : c.w.heap[g]? = some (.cells cells t (0, 0))) (hr : RepL c (ints zs) ((cells.toList.drop off).take zs.length)) :
    Holds (Value.int .i64) c.w g off zs.toArray := by
  have he := repL_ints_eq hr
  intro j hj
  have hj' : j < zs.length := by simpa using hj
  have h1 : ((cells.toList.drop off).take zs.length)[j]? = some (Value.int .i64 zs[j]) := by
    rw [he, List.getElem?_map, List.getElem?_eq_getElem hj']; rfl
  rw [List.getElem?_take, if_pos hj', List.getElem?_drop, Array.getElem?_toList] at h1
  have h4 : zs.toArray[j]! = zs[j] := by rw [getElem!_pos _ j hj]; simp
  refine ⟨?_, ?_⟩
  · rw [cell_of_row c.w g (off + j) cells t (0, 0) hb, h1, h4]
  · unfold World.frozen?
    simp [hb]
end

section
variable {P : Program} {f : FuncId}

theorem inrow_core {w0 : World} {outsB : Nat → Prop} {c : Cz} (G : Good w0 outsB c) {zs ys : List Int} {nn : Bool} {n cap g off m ver : Nat} {cells : Array Value} {t : TypeId} {w' : World}
    (hr : c.hp 5000 = .row 0 1 nn (ints zs)) (hloc : c.loc 5000 = .slice (some ⟨g, off, none⟩) n cap) (hn : zs.length = n) (hcap : n ≤ cap) (hcm : cap ≤ maxLen) (hc0 : cap ≠ 0)
    (hheap : c.w.heap[g]? = some (.cells cells t (0, 0))) (hfit : off + cap * 1 ≤ cells.size) (hL : Left1 c.w w' g off ys) (hys : ys.length = zs.length) (hm : m ≤ ys.length)
    (hver : (m = n ∧ ver = 0) ∨ ¬ c.used ver) :
    Good w0 outsB (c.upd w' 5000 (.row ver 1 nn (ints (ys.take m))) (.slice (some ⟨g, off, none⟩) m cap) ver) ∧ Keeps c (c.upd w' 5000 (.row ver 1 nn (ints (ys.take m))) (.slice (some ⟨g, off, none⟩) m cap) ver) := by
  have hblk : blockOf (c.loc 5000) = some g := by rw [hloc]; simp [blockOf, hc0]
  refine G.upd w' 5000 _ _ ver hL.os hL.tape hL.output hL.size ?_ ?_ ?_ ?_
  · intro b hb hne
    refine hL.ne hb fun e => hne ⟨by rw [hr]; simp, by rw [hblk, e]⟩
  · intro b hb
    simp only [blockOf, hc0, if_false, Option.some.injEq] at hb
    subst hb
    exact ⟨.inl ⟨by rw [hr]; simp, hblk⟩, Nat.lt_of_lt_of_le (block_lt_of_some hheap) hL.size⟩
  · rcases hver with ⟨h1, h2⟩ | h
    · refine .inr (.inr ⟨by rw [hr, h2]; rfl, by rw [hloc, h1], ?_⟩)
      rw [h2]; exact (G.verU 5000 0 (by rw [hr]; rfl)).1
    · exact .inr (.inl ⟨rfl, h⟩)
  · intro K
    refine ⟨some ⟨g, off, none⟩, m, cap, rfl, by omega, ?_, by omega, hcm, fun _ => by simp, .inr ⟨g, off, t, _, rfl, hL.at hheap, ?_, ?_⟩⟩
    · simp; omega
    · simp only [putCells, Array.size_mapIdx]; exact hfit
    · rw [Nat.mul_one, putCells_row (by omega) hm]
      exact repL_ints

/-- It gives nothing: the row holds other numbers. -/
theorem con_inrow (hfn : ∃ fn, P.funcs[f]? = some fn ∧ fn.body.isSome = true ∧ isNumG fn = false) (zs ys : List Int) (hF : ys.length = zs.length)
    (H : ∀ g off cap w, Holds (Value.int .i64) w g off zs.toArray → g < w.heap.size → zs.length ≤ maxLen → zs.length ≤ cap →
      Calls P f #[.slice (some ⟨g, off, none⟩) zs.length cap] w fun e w' => e = .returned (.tuple #[]) ∧ Left1 w w' g off ys)
    (H0 : ∀ p cap w, Calls P f #[.slice p 0 cap] w fun e w' => e = .returned (.tuple #[]) ∧ w' = w) (nn : Bool) :
    Con P f [.row 0 1 nn (ints zs)] [.own 5000 0] true fun outs rows res => outs = [.row 0 1 nn (ints ys)] ∧ rows = [] ∧ res = .tup [] := by
  refine ⟨hfn, fun c0 outsB vs G hhp hrep => ?_⟩
  have hr : c0.hp 5000 = .row 0 1 nn (ints zs) := by rw [hhp]; rfl
  have hne : ∀ r, r ≠ 5000 → c0.hp r = .gone := by
    intro r h
    rw [hhp]
    by_cases hg : outHp [.row 0 1 nn (ints zs)] [] r = .gone
    · exact hg
    · rcases outHp_live hg with ⟨j, rfl, _, hj, _⟩ | ⟨i, _, _, hi, _⟩
      · simp at hj; subst hj; exact absurd rfl h
      · simp at hi
  match vs, hrep with
  | [v], hrep =>
  simp only [RepL, Rep, and_true] at hrep
  have hv : v = c0.loc 5000 := hrep.2 (by rw [hr]; rfl)
  have hO := G.obj 5000
  rw [hr] at hO
  obtain ⟨base, n, cap, hloc, _, hl, hnc, hcm, hnn, hcase⟩ := hO
  have hlen : zs.length = n := by simpa using hl
  have hupd : ∀ (c1 : Cz) (xs : List Int), (∀ r, c1.hp r = if r = 5000 then .row 0 1 nn (ints xs) else c0.hp r) → c1.hp = outHp [.row 0 1 nn (ints xs)] [] := by
    intro c1 xs h
    funext r
    rw [h r]
    by_cases e : r = 5000
    · subst e; rfl
    · rw [if_neg e, hne r e]
      by_cases hg : outHp [AObj.row 0 1 nn (ints xs)] [] r = .gone
      · exact hg.symm
      · rcases outHp_live hg with ⟨j, rfl, _, hj, _⟩ | ⟨i, _, _, hi, _⟩
        · simp at hj; subst hj; exact absurd rfl e
        · simp at hi
  have hold : ∀ c1 : Cz, c1.ext = c0.ext → ∀ b, c1.ext b → (true = true ∧ c0.ext b) ∨ outsB b := fun c1 h b hb => .inl ⟨rfl, h ▸ hb⟩
  by_cases h0 : zs = []
  · have hn0 : n = 0 := by rw [← hlen, h0]; rfl
    subst hn0
    rw [hv, hloc]
    refine (H0 base cap c0.w).mono ?_
    rintro e w' ⟨rfl, rfl⟩
    have hF0 : ys = [] := List.eq_nil_of_length_eq_zero (by rw [hF, h0]; rfl)
    refine ⟨_, c0, _, _, _, ⟨rfl, rfl, rfl⟩, rfl, rfl, G, ?_, ?_, hold c0 rfl, fun _ h => h, fun _ _ _ h => ⟨h, rfl⟩, fun _ h => h⟩
    · rw [hhp, hF0, h0]
    · simp [Rep, RepL]
  · have hn0 : n ≠ 0 := by rw [← hlen]; exact fun e => h0 (List.eq_nil_of_length_eq_zero e)
    have hc0 : cap ≠ 0 := by omega
    rcases hcase with h | ⟨g, off, t, cells, rfl, hheap, hfit, hrepr⟩
    · exact absurd h hc0
    rw [hv, hloc, ← hlen]
    refine (H g off cap c0.w (holds_row hheap (by rw [hlen]; simpa using hrepr)) (block_lt_of_some hheap) (by omega) (by omega)).mono ?_
    rintro e w' ⟨rfl, hL⟩
    obtain ⟨G1, K1⟩ := inrow_core G hr hloc hlen hnc hcm hc0 hheap hfit hL (hF) (m := n) (ver := 0) (by rw [hF]; omega) (.inl ⟨rfl, rfl⟩)
    have htake : ys.take n = ys := List.take_of_length_le (by rw [hF]; omega)
    rw [htake] at G1 K1
    refine ⟨_, _, _, _, _, ⟨rfl, rfl, rfl⟩, rfl, rfl, G1, hupd _ _ fun r => rfl, ?_, hold _ rfl, fun _ h => h, ?_, fun _ h => .inl h⟩
    · simp [Rep, RepL]
    · intro r u hu h
      have := K1.loc r u hu h
      exact this

/-- It gives a first part of the row, which holds other numbers. -/
theorem con_inrowS (hfn : ∃ fn, P.funcs[f]? = some fn ∧ fn.body.isSome = true ∧ isNumG fn = false) (zs ys : List Int) (k : Nat) (hF : ys.length = zs.length) (hk : k ≤ zs.length)
    (H : ∀ g off cap w, Holds (Value.int .i64) w g off zs.toArray → g < w.heap.size → zs.length ≤ maxLen → zs.length ≤ cap →
      Calls P f #[.slice (some ⟨g, off, none⟩) zs.length cap] w fun e w' => e = .returned (.slice (some ⟨g, off, none⟩) k cap) ∧ Left1 w w' g off ys)
    (H0 : ∀ p cap w, Calls P f #[.slice p 0 cap] w fun e w' => e = .returned (.slice p 0 cap) ∧ w' = w) (nn : Bool) :
    Con P f [.row 0 1 nn (ints zs)] [.own 5000 0] true fun outs rows res => ∃ v, outs = [.row v 1 nn (ints (ys.take k))] ∧ rows = [] ∧ res = .own 5000 v := by
  refine ⟨hfn, fun c0 outsB vs G hhp hrep => ?_⟩
  have hr : c0.hp 5000 = .row 0 1 nn (ints zs) := by rw [hhp]; rfl
  have hne : ∀ r, r ≠ 5000 → c0.hp r = .gone := by
    intro r h
    rw [hhp]
    by_cases hg : outHp [.row 0 1 nn (ints zs)] [] r = .gone
    · exact hg
    · rcases outHp_live hg with ⟨j, rfl, _, hj, _⟩ | ⟨i, _, _, hi, _⟩
      · simp at hj; subst hj; exact absurd rfl h
      · simp at hi
  match vs, hrep with
  | [v], hrep =>
  simp only [RepL, Rep, and_true] at hrep
  have hv : v = c0.loc 5000 := hrep.2 (by rw [hr]; rfl)
  have hO := G.obj 5000
  rw [hr] at hO
  obtain ⟨base, n, cap, hloc, _, hl, hnc, hcm, hnn, hcase⟩ := hO
  have hlen : zs.length = n := by simpa using hl
  have hupd : ∀ (c1 : Cz) (u : Nat) (xs : List Int), (∀ r, c1.hp r = if r = 5000 then .row u 1 nn (ints xs) else c0.hp r) → c1.hp = outHp [.row u 1 nn (ints xs)] [] := by
    intro c1 u xs h
    funext r
    rw [h r]
    by_cases e : r = 5000
    · subst e; rfl
    · rw [if_neg e, hne r e]
      by_cases hg : outHp [AObj.row u 1 nn (ints xs)] [] r = .gone
      · exact hg.symm
      · rcases outHp_live hg with ⟨j, rfl, _, hj, _⟩ | ⟨i, _, _, hi, _⟩
        · simp at hj; subst hj; exact absurd rfl e
        · simp at hi
  have hold : ∀ c1 : Cz, c1.ext = c0.ext → ∀ b, c1.ext b → (true = true ∧ c0.ext b) ∨ outsB b := fun c1 h b hb => .inl ⟨rfl, h ▸ hb⟩
  by_cases h0 : zs = []
  · have hn0 : n = 0 := by rw [← hlen, h0]; rfl
    subst hn0
    rw [hv, hloc]
    refine (H0 base cap c0.w).mono ?_
    rintro e w' ⟨rfl, rfl⟩
    have hF0 : ys = [] := List.eq_nil_of_length_eq_zero (by rw [hF, h0]; rfl)
    refine ⟨_, c0, _, _, _, ⟨0, rfl, rfl, rfl⟩, rfl, rfl, G, ?_, ?_, hold c0 rfl, fun _ h => h, fun _ _ _ h => ⟨h, rfl⟩, fun _ h => h⟩
    · rw [hhp, hF0, h0, List.take_nil]
    · simp only [Rep]; rw [hr]; exact ⟨(G.verU 5000 0 (by rw [hr]; rfl)).1, fun _ => hloc.symm⟩
  · have hn0 : n ≠ 0 := by rw [← hlen]; exact fun e => h0 (List.eq_nil_of_length_eq_zero e)
    have hc0 : cap ≠ 0 := by omega
    rcases hcase with h | ⟨g, off, t, cells, rfl, hheap, hfit, hrepr⟩
    · exact absurd h hc0
    rw [hv, hloc, ← hlen]
    refine (H g off cap c0.w (holds_row hheap (by rw [hlen]; simpa using hrepr)) (block_lt_of_some hheap) (by omega) (by omega)).mono ?_
    rintro e w' ⟨rfl, hL⟩
    obtain ⟨u, hu⟩ := G.fin
    have hnu : ¬ c0.used u := fun h => absurd (hu u h) (Nat.lt_irrefl _)
    obtain ⟨G1, K1⟩ := inrow_core G hr hloc hlen hnc hcm hc0 hheap hfit hL (hF) (m := k) (ver := u) (by rw [hF]; exact hk) (.inr hnu)
    refine ⟨_, _, _, _, _, ⟨u, rfl, rfl, rfl⟩, rfl, rfl, G1, hupd _ _ _ fun r => rfl, ?_, hold _ rfl, fun _ h => h, ?_, fun _ h => .inl h⟩
    · simp only [Rep]
      refine ⟨.inr rfl, fun _ => ?_⟩
      simp only [Cz.upd, if_true]
    · intro r u' hu' h
      exact K1.loc r u' hu' h
end
end Go.Ab

/-! Arguments of the exact laws, read by their types. -/
namespace Go.Ab
set_option maxRecDepth 20000

section
variable {P : Program}

end
end Go.Ab

/-! Contracts without names, out of contracts with names; rows with names. -/
namespace Go.Ab
set_option maxRecDepth 20000

/-- Names may be forgotten. -/
theorem Good.dn {w0 : World} {outs : Nat → Prop} {c : Cz} (G : Good w0 outs c) : Good w0 outs { c with hp := fun r => (c.hp r).dn } ∧ Keeps c { c with hp := fun r => (c.hp r).dn } := by
  have hv : ∀ r, ((c.hp r).dn).ver = (c.hp r).ver := fun r => AObj.dn_ver _
  have hg : ∀ r, (c.hp r).dn ≠ .gone ↔ c.hp r ≠ .gone := fun r => not_congr AObj.dn_gone
  have htk : ∀ b, ¬ c.taken b → ¬ ({ c with hp := fun r => (c.hp r).dn } : Cz).taken b := fun b h ⟨r, h1, h2⟩ => h ⟨r, (hg r).1 h1, h2⟩
  have K : Keeps c { c with hp := fun r => (c.hp r).dn } := by
    refine ⟨fun b ⟨h1, h2, h3⟩ => ⟨⟨h1, h2, htk b h3⟩, rfl⟩, fun _ _ h => h, fun _ h => h, ?_, rfl⟩
    intro r v _ h
    have h' : ((c.hp r).dn).ver = some v := h
    rw [hv] at h'
    exact ⟨h', rfl⟩
  refine ⟨⟨G.base, ?_, ?_, ?_, ?_, ?_, G.outExt, ?_, G.namInj, G.fin, G.os, G.tape, G.output, G.size, G.frame⟩, K⟩
  · intro r
    exact (G.obj r).dn.keeps K fun _ _ => rfl
  · intro r r' b h1 h2 h3 h4; exact G.inj r r' b ((hg r).1 h1) ((hg r').1 h2) h3 h4
  · intro r b h1 h2; exact G.own r b ((hg r).1 h1) h2
  · intro r v h
    have h' : ((c.hp r).dn).ver = some v := h
    rw [hv] at h'
    exact G.verU r v h'
  · intro r r' v h1 h2
    have h1' : ((c.hp r).dn).ver = some v := h1
    have h2' : ((c.hp r').dn).ver = some v := h2
    rw [hv] at h1' h2'
    exact G.verInj r r' v h1' h2'
  · intro n b h
    obtain ⟨h1, h2, h3, h4⟩ := G.nam n b h
    exact ⟨h1, h2, h3, htk b h4⟩

/-- Rows of numbers with their names. -/
def rwp (ps : List (Nat × List Int)) : List AVal := ps.map fun p => .ro (some (some (p.1 + 1))) 1 (ints p.2)
/-- Rows that are not empty have different names. -/
def DJ (ps : List (Nat × List Int)) : Prop := ps.Pairwise fun p q => p.2 = [] ∨ q.2 = [] ∨ p.1 ≠ q.1

theorem rwp_len {ps : List (Nat × List Int)} : (rwp ps).length = ps.length := by simp [rwp]
theorem rwp_nil : rwp [] = [] := rfl
theorem rwp_snoc {ps : List (Nat × List Int)} {n : Nat} {xs : List Int} : rwp ps ++ [.ro (some (some (n + 1))) 1 (ints xs)] = rwp (ps ++ [(n, xs)]) := by simp [rwp]
theorem dnL_rwp {ps : List (Nat × List Int)} : dnL (rwp ps) = rws (ps.map (·.2)) := by
  simp only [dnL_eq, rwp, rws, List.map_map]
  exact List.map_congr_left fun p _ => by simp [AVal.dn, ints, dnL_eq, dnNm]
theorem renL_rwp {f : Nat → Option Nat} {s : Nat → Nat} {ps : List (Nat × List Int)} : renL f s (rwp ps) = rwp (ps.map fun p => (s p.1, p.2)) := by
  simp only [renL_eq, rwp, List.map_map]
  exact List.map_congr_left fun p _ => by simp [AVal.ren, ints, renL_eq, rnNm]
theorem DJ.ren {s : Nat → Nat} (hs : ∀ x y, s x = s y → x = y) {ps : List (Nat × List Int)} (h : DJ ps) : DJ (ps.map fun p => (s p.1, p.2)) := by
  unfold DJ at h ⊢
  rw [List.pairwise_map]
  refine h.imp fun {p q} hpq => ?_
  rcases hpq with h | h | h
  · exact .inl h
  · exact .inr (.inl h)
  · exact .inr (.inr fun e => h (hs _ _ e))
theorem DJ.snoc {ps : List (Nat × List Int)} (h : DJ ps) {n : Nat} {xs : List Int} (hn : ∀ p ∈ ps, p.2 = [] ∨ p.1 ≠ n) : DJ (ps ++ [(n, xs)]) := by
  unfold DJ at h ⊢
  rw [List.pairwise_append]
  refine ⟨h, by simp, fun p hp q hq => ?_⟩
  have hq : q = (n, xs) := by simpa using hq
  subst hq
  rcases hn p hp with h | h
  · exact .inl h
  · exact .inr (.inr h)
theorem usesL_rwp {U : Nat → Prop} {ps : List (Nat × List Int)} {rest : List AVal} (h : usesL U (rwp ps ++ rest)) : ∀ p ∈ ps, p.2 = [] ∨ U p.1 := by
  induction ps with
  | nil => simp
  | cons q ps ih =>
    simp only [rwp, List.map_cons, List.cons_append, usesL, AVal.uses] at h ih
    intro p hp
    rcases List.mem_cons.1 hp with rfl | hp
    · rcases h.1.1 p.1 rfl with h1 | h1
      · left; simpa using h1
      · exact .inr h1
    · exact ih h.2 p hp
theorem fresh_rwp : ∀ {ps : List (Nat × List Int)}, freshL (rwp ps)
  | [] => by simp [rwp, freshL]
  | p :: ps => by
    have h := fresh_rwp (ps := ps)
    simp only [rwp, List.map_cons] at h ⊢
    simp only [freshL]
    refine ⟨?_, h⟩
    simp only [AVal.fresh, isNew]
    exact ⟨.inr trivial, of_eq_true fresh_intsK⟩

/-! Calls that may write into all rows with names. -/
/-- The usual side conditions: their proofs are written down once, here. -/
theorem qCS {p : Prop} (h : p := by simp only [rowIs, boxIs, coe_argN, coe_argNs, coe_ro_o, coeL_nil, coeL_cons, coe_any, coe_val, coe_ro, coe_ro_nil, coe_ro_own, coe_st, coe_st_agg, coe_rp, coe_rp_ptr, coe_clo, coe_own0, coe_ptr0, coeL_intsK, coeL_rws, coeL_rwn, L_hit, L_miss, L_nil, Nat.reduceEqDiff, ne_eq, reduceCtorEq, not_false_eq_true, true_and, and_true, and_self, exists_eq_left, exists_eq_right, List.mem_cons, List.not_mem_nil, or_false, AObj.row.injEq, AObj.box.injEq, exists_eq_left', exists_and_left, exists_eq, Nat.zero_lt_one, Nat.lt_add_one, List.map_cons, List.map_nil, AObj.ver, Nat.reduceLT, not_true_eq_false]) : p := h
theorem qWS {p : Prop} (h : p := by simp only [go_sem, adopt_fun, Int.reduceLT, Int.reduceLE, Int.reduceToNat, Int.reduceNeg, Nat.reduceLT, Nat.reduceLeDiff, Nat.reduceMul, Nat.reduceSub, reduceIte, Nat.reduceEqDiff, Nat.reduceAdd, reduceCtorEq]) : p := h
theorem qGN {p : Prop} (h : p := by first | rfl | simp only [go_sem, adopt_fun, Int.reduceLT, Int.reduceLE, Int.reduceToNat, Int.reduceNeg, Nat.reduceLT, Nat.reduceLeDiff, Nat.reduceMul, Nat.reduceSub, reduceIte, Nat.reduceEqDiff, Nat.reduceAdd, reduceCtorEq]) : p := h
end Go.Ab
