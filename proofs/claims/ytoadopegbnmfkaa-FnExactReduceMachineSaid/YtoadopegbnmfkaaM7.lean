/- Forms of contracts. Conditions: none. -/
import Derived.Test.YtoadopegbnmfkaaM5
import Derived.Test.YtoadopegbnmfkaaM6
import Derived.Sort.Grow
set_option linter.all false

/-! Proofs of functions: contracts whose results are new rows, structs and tuples of them. -/
namespace Go.Ab
set_option maxRecDepth 20000

/-- One new row with these cells. -/
abbrev RowC (P : Program) (g : FuncId) (args : List AVal) (Q : List AVal → Prop) : Prop := Fn P g args fun rows res => ∃ cs v, Q cs ∧ flatL cs ∧ rows = [.row v 1 true cs] ∧ res = .own 6000 v

theorem rowC_of {P : Program} {g : FuncId} {F : AFn} (hm : P.follows .mixedOrders = true) {no : Option (List Nat × List FuncId)} (hF : cFn (drV no) P g F) {args : List AVal} (hargs : args.length = F.nparams) {Q : List AVal → Prop}
    (h : wpD P F.code (finQ fun σ => (∀ x ∈ F.res, σ.there x) ∧ ∃ r v cs, r < 5000 ∧ σ.value F.res = AVal.own r v ∧ σ.hp r = AObj.row v 1 true cs ∧ flatL cs ∧ freshL cs ∧ Q cs) (St.init args [])) : RowC P g args Q := by
  refine con_of hm hF hargs (by simp) (wpD_mono _ _ _ _ (fun e σ he => ?_) h)
  have : ((∀ x ∈ F.res, σ.there x) ∧ ∃ r v cs, r < 5000 ∧ σ.value F.res = AVal.own r v ∧ σ.hp r = AObj.row v 1 true cs ∧ flatL cs ∧ freshL cs ∧ Q cs) → _ := fun ⟨h1, r, v, cs, hr, h2, h3, h4, h5, h6⟩ =>
    (show (∀ x ∈ F.res, σ.there x) ∧ ∃ ids : List Nat, ids.length ≤ 1000 ∧ ids.Nodup ∧ (∀ n ∈ ids, n < 5000) ∧ (σ.value F.res).fresh ∧ (∀ n ∈ ids, (σ.hp n).fresh) ∧ (∀ j, j < ([] : List AObj).length → (σ.hp (5000 + j)).fresh) ∧
      (fun outs rows res => outs = [] ∧ ∃ cs v, Q cs ∧ flatL cs ∧ rows = [AObj.row v 1 true cs] ∧ res = AVal.own 6000 v) ((List.range ([] : List AObj).length).map fun j => (σ.hp (5000 + j)).ren (expo ids) id) (ids.map fun n => (σ.hp n).ren (expo ids) id) ((σ.value F.res).ren (expo ids) id) from
    ⟨h1, [r], by simp, by simp, by simpa using hr, by rw [h2]; simp [AVal.fresh], by simp only [List.mem_singleton, forall_eq, h3]; exact h5, by simp, rfl, cs, v, h6, h4,
      by simp only [List.map_cons, List.map_nil, h3, oren_row, renL_flat cs h4, id], by rw [h2, ren_own (expo0 hr)]; rfl⟩)
  cases e with
  | exit _ => exact he
  | normal => exact this he
  | ret => exact this he

theorem flat_intsK {k : IntKind} {xs : List Int} : flatL (intsK k xs) := flat_vals fun A hA => by
  simp only [List.mem_map] at hA
  obtain ⟨x, _, rfl⟩ := hA
  exact ⟨_, rfl⟩
section
variable {P : Program} {pu : Bool} {σ : St} {g : FuncId} {As args : List AVal} {d : Nat} {s : Nat → Nat} {K : St → Prop}

theorem call_rowC {Q : List AVal → Prop} (h : RowC P g args Q) (hco : CoeL σ.hp [] true args As) (hg : σ.hp d = .gone) (hex : ∃ cs, Q cs ∧ flatL cs)
    (hk : ∀ cs v, Q cs → K (St.put ⟨σ.tm, upd σ.hp d (.row v 1 true cs)⟩ (some d) (.own d v))) : wpCall P pu σ g As (some d) s K := by
  refine call_fn h hco (fun _ => ?_) ?_
  · obtain ⟨cs, h1, h2⟩ := hex
    exact ⟨_, _, cs, 0, h1, h2, rfl, rfl⟩
  · rintro rows res ⟨cs, v, hq, hf, rfl, rfl⟩
    refine ⟨by simp, ?_, ?_⟩
    · rw [Option.getD_some, gone_one]; exact hg
    · rw [Option.getD_some, callHp_one, oren_row, renL_flat cs hf, List.length_singleton, ren_own_r0]
      exact hk cs (s v) hq

/-- Numbers in one new row. -/
abbrev RowI (P : Program) (g : FuncId) (args : List AVal) (Q : List Int → Prop) : Prop := RowC P g args fun cs => ∃ xs, cs = ints xs ∧ Q xs
theorem rowI_of {P : Program} {g : FuncId} {args : List AVal} {F : AFn} (hm : P.follows .mixedOrders = true) {no : Option (List Nat × List FuncId)} (hF : cFn (drV no) P g F) (hargs : args.length = F.nparams) {Q : List Int → Prop}
    (h : wpD P F.code (finQ fun σ => (∀ x ∈ F.res, σ.there x) ∧ ∃ r v xs, r < 5000 ∧ σ.value F.res = AVal.own r v ∧ σ.hp r = AObj.row v 1 true (ints xs) ∧ Q xs) (St.init args [])) : RowI P g args Q := by
  refine rowC_of hm hF hargs (wpD_mono _ _ _ _ (fun e σ he => ?_) h)
  have : ((∀ x ∈ F.res, σ.there x) ∧ ∃ r v xs, r < 5000 ∧ σ.value F.res = AVal.own r v ∧ σ.hp r = AObj.row v 1 true (ints xs) ∧ Q xs) → _ := fun ⟨h1, r, v, xs, h2, h3, h4, h5⟩ =>
    (show (∀ x ∈ F.res, σ.there x) ∧ ∃ r v cs, r < 5000 ∧ σ.value F.res = AVal.own r v ∧ σ.hp r = AObj.row v 1 true cs ∧ flatL cs ∧ freshL cs ∧ ∃ xs, cs = ints xs ∧ Q xs from
      ⟨h1, r, v, ints xs, h2, h3, h4, flat_intsK, of_eq_true (fresh_intsK (k := .i64)), xs, rfl, h5⟩)
  cases e with
  | exit _ => exact he
  | normal => exact this he
  | ret => exact this he

theorem call_rowI {Q : List Int → Prop} (h : RowI P g args Q) (hco : CoeL σ.hp [] true args As) (hg : σ.hp d = .gone) (hex : ∃ xs, Q xs)
    (hk : ∀ xs v, Q xs → K (St.put ⟨σ.tm, upd σ.hp d (.row v 1 true (ints xs))⟩ (some d) (.own d v))) : wpCall P pu σ g As (some d) s K := by
  refine call_rowC h hco hg ?_ ?_
  · obtain ⟨xs, hx⟩ := hex
    exact ⟨ints xs, ⟨xs, rfl, hx⟩, flat_intsK⟩
  · rintro cs v ⟨xs, rfl, hx⟩
    exact hk xs v hx

end

/-- A valid automaton. -/
structure Aut (n : Int) (next : List (List Int)) : Prop where
  n1 : 1 ≤ n
  n2 : n ≤ 10
  l1 : 1 ≤ next.length
  l2 : next.length ≤ 3
  row : ∀ row ∈ next, (row.length : Int) = n ∧ ∀ x ∈ row, 0 ≤ x ∧ x < n

theorem coeL_ints {hp : Nat → AObj} {m : List Nat} {len : Bool} {xs : List Int} : CoeL hp m len (ints xs) (ints xs) := coeL_self fun A hA => by simp only [List.mem_map] at hA; obtain ⟨x, _, rfl⟩ := hA; exact ⟨_, rfl⟩
/-- Rows of numbers that were there before. -/
def rwo (xss : List (List Int)) : List AVal := xss.map fun xs => .ro (some (some 0)) 1 (ints xs)
theorem dnL_rwo {xss : List (List Int)} : dnL (rwo xss) = rwo xss := by
  simp only [dnL_eq, rwo, List.map_map]
  exact List.map_congr_left fun xs _ => by simp [AVal.dn, ints, dnL_eq, dnNm]
theorem mvL_rwo {a v b m : Nat} {xss : List (List Int)} : mvL a v b m (rwo xss) = rwo xss := by
  simp only [mvL_eq, rwo, List.map_map]
  exact List.map_congr_left fun xs _ => by simp [AVal.mv, ints, mvL_eq]
theorem rwo_len {xss : List (List Int)} : (rwo xss).length = xss.length := by simp [rwo]
theorem coeL_rwo {hp : Nat → AObj} {m : List Nat} {len : Bool} : ∀ {xss : List (List Int)}, CoeL hp m len (rwn xss) (rwo xss)
  | [] => by simp [rwn, rwo, CoeL]
  | xs :: xss => by
    have h := coeL_rwo (hp := hp) (m := m) (len := len) (xss := xss)
    simp only [rwn, rwo, List.map_cons] at h ⊢
    rw [coeL_cons, coe_ro]
    exact ⟨⟨by omega, coeL_ints⟩, h⟩
theorem coeL_rwo_t {hp : Nat → AObj} {m : List Nat} {len : Bool} {xss : List (List Int)} : CoeL hp m len (rwn xss) (rwo xss) = True := eq_true coeL_rwo

end Go.Ab

/-! Laws of two lists of bytes: from the contract to the row. -/
namespace Go.Ab
set_option maxRecDepth 20000

end Go.Ab

/-! The rewriting rules of the walk, gathered in one set. -/
namespace Go.Ab

attribute [go_sem]
  noObj noPtr St.mapAt keyIs keyV_val keyV_st dn_argN argN_nn Bool.or_true nodup_one beq_self_eq_true decide_true decide_false AC.kts AC.khs AC.kin Bool.true_or intsK_snoc
  List.foldl_cons List.foldl_nil forall_eq_or_imp List.toList_toArray List.getD_cons_zero List.getD_cons_succ List.length_cons List.length_nil
  List.take_succ_cons List.take_zero List.drop_succ_cons List.drop_zero Nat.zero_add Nat.add_zero Nat.lt_add_one Nat.zero_lt_succ wpD_skip dn_tm dn_hp
  wpD_reg wpD_kpd wpD_ad St.adopt List.getElem?_cons_zero List.getElem?_cons_succ List.set_cons_zero List.set_cons_succ Nat.one_ne_zero kd_L
  pickT pickO dn_any dn_val dn_ro dn_own dn_st dn_tup dn_ptr dn_rp dn_mp dn_clo dnL_nil dnL_cons dnL_app dnL_ints dnL_rws dnL_rwn odn_box odn_row
  odn_map mv_L mvT mvO mvV_any mvV_val mvV_ro mvV_own mvV_ptr mvV_mp mvV_st mvV_tup mvV_rp mvV_clo mvL_nil mvL_cons mvL_ints mvL_rws mvL_rwn AObj.mv AObj.wv dnNm_n dnNm_sn dnNm_o dnNm_s isNew_sn isNew_s Option.map_none Option.map_some wpD_dnret wpD_stuck frNm_t rws_snoc rws_len rwn_len rws_nil rws_app one_own one_mp one_ptr one_rp one_clo
  isRow isMap one_intsK one_rws one_rwn frz_intsK frz_rws owned_intsK owned_rws upd_hit wpD_seq wpD_condL wpD_block wpD_exit wpD_ret seqQ_n seqQ_e seqQ_r
  blockQ_n blockQ_e blockQ_r loopQ_n loopQ_e loopQ_r finQ_n finQ_e finQ_r wpOps_nil wpOps_L wpOp_n wpOp_g wpIns wpCk_f wpCk_t wpCk_h wpCk_m free AI.opds AI.wp AI.pre AI.eff AI.out hpw_eq AI.hq upd_L
  goneL_nil goneL_cons owned AVal.cells frz putAt St.slc St.nn AI.fact put_L put_none ev_t ev_c ev_f frz_ints ints_rep i2n one_ints owned_ints one_iv
  one_bv one_str one_nil one_ro ints_app List.flatMap_nil List.flatMap_cons List.nodup_nil List.nil_append List.append_nil List.singleton_append
  List.cons_append AObj.ver St.keep pickL L_hit L_miss L_nil St.init enum binV unV St.sl St.at ne_eq not_true_eq_false not_false_eq_true true_and
  and_true implies_true forall_const forall_eq St.value St.value1 St.there List.mem_cons List.not_mem_nil or_false Option.isSome_some Option.getD_some
  Bool.not_false Bool.not_true Nat.div_one List.map_cons List.map_nil List.length_map Nat.mul_one false_implies

attribute [go_sem high] grd_tt grd_ff grd_tf grd_ft grd_u cnd_t cnd_f
attribute [go_sem low] grd_b cnd_b

end Go.Ab

/-! Library functions that write one row of numbers where it lies: from a law of the call to a contract. -/
namespace Go.Ab
open Go Go.Sort
set_option maxRecDepth 20000

/-- The world behind such a call. -/
def Left1 (w w' : World) (g off : Nat) (ys : List Int) : Prop := ∃ n os, w' = grow (putRow (Value.int .i64) (Sort.ahead w n) g off ys.toArray) os

section
variable {w w' : World} {g off : Nat} {ys : List Int}

theorem Left1.at (h : Left1 w w' g off ys) {cells : Array Value} {t : TypeId} (hb : w.heap[g]? = some (.cells cells t (0, 0))) : w'.heap[g]? = some (.cells (putCells (Value.int .i64) off ys.toArray cells) t (0, 0)) := by
  obtain ⟨n, os, rfl⟩ := h
  have hlt : g < w.heap.size := block_lt_of_some hb
  have h1 : g < (w.heap.modify g (onCells (putCells (Value.int .i64) off ys.toArray))).size := by rw [Array.size_modify]; exact hlt
  show (w.heap.modify g (onCells (putCells (Value.int .i64) off ys.toArray)) ++ os)[g]? = _
  rw [Array.getElem?_append_left h1, Array.getElem?_modify, if_pos rfl, hb]; rfl

theorem Left1.size (h : Left1 w w' g off ys) : w.heap.size ≤ w'.heap.size := by
  obtain ⟨n, os, rfl⟩ := h
  show w.heap.size ≤ (w.heap.modify g (onCells (putCells (Value.int .i64) off ys.toArray)) ++ os).size
  rw [Array.size_append, Array.size_modify]; omega
theorem Left1.os (h : Left1 w w' g off ys) : w'.os = w.os := by obtain ⟨n, os, rfl⟩ := h; rfl
theorem Left1.tape (h : Left1 w w' g off ys) : w'.tape = w.tape := by obtain ⟨n, os, rfl⟩ := h; rfl
theorem Left1.output (h : Left1 w w' g off ys) : w'.output = w.output := by obtain ⟨n, os, rfl⟩ := h; rfl

end

section
variable {P : Program} {f : FuncId}

end
end Go.Ab

/-! Arguments of the exact laws, read by their types. -/
namespace Go.Ab
set_option maxRecDepth 20000

section
variable {P : Program}

theorem args_cons {t : TypeId} {ts : List TypeId} {As : List AVal} (h : ArgsShp P (t :: ts) As) : ∃ A As', As = A :: As' ∧ ArgShp P t A ∧ ArgsShp P ts As' := by
  cases h with
  | cons h1 h2 => exact ⟨_, _, rfl, h1, h2⟩
theorem args_nil {As : List AVal} (h : ArgsShp P [] As) : As = [] := by cases h; rfl

theorem shp_int {t : TypeId} {xs : List AVal} (h : P.underlying t = some (.int .i64)) (hS : Shp P t xs) : ∃ n, xs = [iv n] := by
  cases hS with
  | int hk _ => rw [h] at hk; cases hk; exact ⟨_, rfl⟩
  | bool hk => rw [h] at hk; cases hk
  | string hk _ => rw [h] at hk; cases hk
  | slice hk _ _ _ => rw [h] at hk; cases hk
  | struct hk _ => rw [h] at hk; cases hk

theorem shp_slice {t e : TypeId} {xs : List AVal} (h : P.underlying t = some (.slice e)) (h1 : P.cellsOf e = 1) (hS : Shp P t xs) : ∃ xss, xs = [.ro (some (some 0)) 1 (List.flatten xss)] ∧ ∀ ys ∈ xss, Shp P e ys := by
  cases hS with
  | int hk _ => rw [h] at hk; cases hk
  | bool hk => rw [h] at hk; cases hk
  | string hk _ => rw [h] at hk; cases hk
  | struct hk _ => rw [h] at hk; cases hk
  | slice hk hx _ _ =>
    rw [h] at hk
    cases hk
    exact ⟨_, by rw [h1], hx⟩

theorem shp_ints {t e : TypeId} {xs : List AVal} (h : P.underlying t = some (.slice e)) (h1 : P.cellsOf e = 1) (he : P.underlying e = some (.int .i64)) (hS : Shp P t xs) : ∃ l, xs = [.ro (some (some 0)) 1 (ints l)] := by
  obtain ⟨xss, rfl, hx⟩ := shp_slice h h1 hS
  have : ∃ l, List.flatten xss = ints l := by
    clear hS
    induction xss with
    | nil => exact ⟨[], rfl⟩
    | cons ys xss ih =>
      obtain ⟨n, rfl⟩ := shp_int he (hx ys (by simp))
      obtain ⟨l, hl⟩ := ih fun zs hz => hx zs (by simp [hz])
      exact ⟨n :: l, by rw [List.flatten_cons, hl]; rfl⟩
  obtain ⟨l, hl⟩ := this
  exact ⟨l, by rw [hl]⟩

theorem shp_rows {t e f : TypeId} {xs : List AVal} (h : P.underlying t = some (.slice e)) (h1 : P.cellsOf e = 1) (he : P.underlying e = some (.slice f)) (hf1 : P.cellsOf f = 1) (hf : P.underlying f = some (.int .i64))
    (hS : Shp P t xs) : ∃ l, xs = [.ro (some (some 0)) 1 (rwo l)] := by
  obtain ⟨xss, rfl, hx⟩ := shp_slice h h1 hS
  have : ∃ l, List.flatten xss = rwo l := by
    clear hS
    induction xss with
    | nil => exact ⟨[], rfl⟩
    | cons ys xss ih =>
      obtain ⟨r, rfl⟩ := shp_ints he hf1 hf (hx ys (by simp))
      obtain ⟨l, hl⟩ := ih fun zs hz => hx zs (by simp [hz])
      exact ⟨r :: l, by rw [List.flatten_cons, hl]; rfl⟩
  obtain ⟨l, hl⟩ := this
  exact ⟨l, by rw [hl]⟩

theorem shp_flds {t : TypeId} {xs : List AVal} {fs : Array Field} (h : P.underlying t = some (.struct fs)) (hS : Shp P t xs) : ShpF P fs.toList xs := by
  cases hS with
  | int hk _ => rw [h] at hk; cases hk
  | bool hk => rw [h] at hk; cases hk
  | string hk _ => rw [h] at hk; cases hk
  | slice hk _ _ _ => rw [h] at hk; cases hk
  | struct hk hf => rw [h] at hk; cases hk; exact hf

theorem arg_struct {t : TypeId} {A : AVal} {fs : Array Field} (h : P.underlying t = some (.struct fs)) (hA : ArgShp P t A) : ∃ As, A = .st As ∧ ShpF P fs.toList As := by
  rcases hA with ⟨_, h1⟩ | ⟨As, fs', h1, rfl, h2⟩
  · exact absurd h (h1 fs)
  · exact ⟨As, rfl, shp_flds h h2⟩

end
end Go.Ab

/-! Contracts without names, out of contracts with names; rows with names. -/
namespace Go.Ab
set_option maxRecDepth 20000

/-- Names may be forgotten. -/
theorem Good.dn {w0 : World} {outs : Nat → Prop} {c : Cz} (G : Good w0 outs c) : Good w0 outs { c with hp := fun r => (c.hp r).dn } ∧ Keeps c { c with hp := fun r => (c.hp r).dn } := by
  have hv : ∀ r, ((c.hp r).dn).ver = (c.hp r).ver := fun r => AObj.dn_ver _
  have hg : ∀ r, (c.hp r).dn ≠ .gone ↔ c.hp r ≠ .gone := fun r => not_congr AObj.dn_gone
  have htk : ∀ b, ¬ c.taken b → ¬ ({ c with hp := fun r => (c.hp r).dn } : Cz).taken b := fun b h ⟨r, h1, h2⟩ => h ⟨r, (hg r).1 h1, h2⟩
  have K : Keeps c { c with hp := fun r => (c.hp r).dn } := by
    refine ⟨fun b ⟨h1, h2, h3⟩ => ⟨⟨h1, h2, htk b h3⟩, rfl⟩, fun _ _ h => h, fun _ h => h, ?_, rfl⟩
    intro r v _ h
    have h' : ((c.hp r).dn).ver = some v := h
    rw [hv] at h'
    exact ⟨h', rfl⟩
  refine ⟨⟨G.base, ?_, ?_, ?_, ?_, ?_, G.outExt, ?_, G.namInj, G.fin, G.os, G.tape, G.output, G.size, G.frame⟩, K⟩
  · intro r
    exact (G.obj r).dn.keeps K fun _ _ => rfl
  · intro r r' b h1 h2 h3 h4; exact G.inj r r' b ((hg r).1 h1) ((hg r').1 h2) h3 h4
  · intro r b h1 h2; exact G.own r b ((hg r).1 h1) h2
  · intro r v h
    have h' : ((c.hp r).dn).ver = some v := h
    rw [hv] at h'
    exact G.verU r v h'
  · intro r r' v h1 h2
    have h1' : ((c.hp r).dn).ver = some v := h1
    have h2' : ((c.hp r').dn).ver = some v := h2
    rw [hv] at h1' h2'
    exact G.verInj r r' v h1' h2'
  · intro n b h
    obtain ⟨h1, h2, h3, h4⟩ := G.nam n b h
    exact ⟨h1, h2, h3, htk b h4⟩

theorem outHp_dn (o r : List AObj) : (fun n => (outHp o r n).dn) = outHp (o.map AObj.dn) (r.map AObj.dn) := by
  funext n
  have e : ∀ (l : List AObj) (i : Nat), (l.getD i .gone).dn = (l.map AObj.dn).getD i .gone := by
    intro l i
    rw [List.getD_eq_getElem?_getD, List.getD_eq_getElem?_getD, List.getElem?_map]
    cases l[i]? <;> rfl
  unfold outHp
  split
  · rfl
  · split
    · exact e _ _
    · split
      · exact e _ _
      · rfl

theorem Con.dnr {P : Program} {g : FuncId} {ins : List AObj} {args : List AVal} {sh : Bool} {R R' : List AObj → List AObj → AVal → Prop} (h : Con P g ins args sh R)
    (hR : ∀ o r x, R o r x → R' (o.map AObj.dn) (r.map AObj.dn) x.dn) : Con P g ins args sh R' := by
  refine ⟨h.1, fun c0 outsB vs h1 h2 h3 => (h.2 c0 outsB vs h1 h2 h3).mono ?_⟩
  rintro e w' ⟨v, c1, outs, rows, res, hr, he, hw, G1, hhp, hrep, hext, hold, hkeep, hused⟩
  obtain ⟨G2, K2⟩ := G1.dn
  refine ⟨v, { c1 with hp := fun r => (c1.hp r).dn }, _, _, _, hR _ _ _ hr, he, hw, G2, ?_, (Rep.dn _ _ hrep).keeps K2, hext, hold, ?_, hused⟩
  · show (fun r => (c1.hp r).dn) = _
    rw [hhp]; exact outHp_dn _ _
  · intro r u hu hv
    have hv' : ((c1.hp r).dn).ver = some u := hv
    rw [AObj.dn_ver] at hv'
    exact hkeep r u hu hv'

/-- Rows of numbers with their names. -/
def rwp (ps : List (Nat × List Int)) : List AVal := ps.map fun p => .ro (some (some (p.1 + 1))) 1 (ints p.2)
/-- Rows that are not empty have different names. -/
def DJ (ps : List (Nat × List Int)) : Prop := ps.Pairwise fun p q => p.2 = [] ∨ q.2 = [] ∨ p.1 ≠ q.1

theorem rwp_len {ps : List (Nat × List Int)} : (rwp ps).length = ps.length := by simp [rwp]
theorem rwp_nil : rwp [] = [] := rfl
theorem rwp_snoc {ps : List (Nat × List Int)} {n : Nat} {xs : List Int} : rwp ps ++ [.ro (some (some (n + 1))) 1 (ints xs)] = rwp (ps ++ [(n, xs)]) := by simp [rwp]
theorem dnL_rwp {ps : List (Nat × List Int)} : dnL (rwp ps) = rws (ps.map (·.2)) := by
  simp only [dnL_eq, rwp, rws, List.map_map]
  exact List.map_congr_left fun p _ => by simp [AVal.dn, ints, dnL_eq, dnNm]
theorem renL_rwp {f : Nat → Option Nat} {s : Nat → Nat} {ps : List (Nat × List Int)} : renL f s (rwp ps) = rwp (ps.map fun p => (s p.1, p.2)) := by
  simp only [renL_eq, rwp, List.map_map]
  exact List.map_congr_left fun p _ => by simp [AVal.ren, ints, renL_eq, rnNm]
theorem DJ.ren {s : Nat → Nat} (hs : ∀ x y, s x = s y → x = y) {ps : List (Nat × List Int)} (h : DJ ps) : DJ (ps.map fun p => (s p.1, p.2)) := by
  unfold DJ at h ⊢
  rw [List.pairwise_map]
  refine h.imp fun {p q} hpq => ?_
  rcases hpq with h | h | h
  · exact .inl h
  · exact .inr (.inl h)
  · exact .inr (.inr fun e => h (hs _ _ e))
theorem DJ.snoc {ps : List (Nat × List Int)} (h : DJ ps) {n : Nat} {xs : List Int} (hn : ∀ p ∈ ps, p.2 = [] ∨ p.1 ≠ n) : DJ (ps ++ [(n, xs)]) := by
  unfold DJ at h ⊢
  rw [List.pairwise_append]
  refine ⟨h, by simp, fun p hp q hq => ?_⟩
  have hq : q = (n, xs) := by simpa using hq
  subst hq
  rcases hn p hp with h | h
  · exact .inl h
  · exact .inr (.inr h)
theorem coeL_rwp {hp : Nat → AObj} {m : List Nat} {len : Bool} : ∀ {ps : List (Nat × List Int)}, CoeL hp m len (rwn (ps.map (·.2))) (rwp ps)
  | [] => by simp [rwn, rwp, CoeL]
  | p :: ps => by
    have h := coeL_rwp (hp := hp) (m := m) (len := len) (ps := ps)
    simp only [rwn, rwp, List.map_cons] at h ⊢
    rw [coeL_cons, coe_ro]
    exact ⟨⟨by omega, coeL_ints⟩, h⟩
theorem woL_ints {n : Nat} {k : IntKind} {xs : List Int} : woL n (intsK k xs) = intsK k xs := by simp [woL_eq, intsK, AVal.wo]
/-- Rows with other names stay. -/
theorem woL_rwp {n : Nat} : ∀ {ps : List (Nat × List Int)}, (∀ p ∈ ps, p.2 = [] ∨ p.1 ≠ n) → woL n (rwp ps) = rwp ps
  | [], _ => by simp [rwp, woL]
  | (m, []) :: ps, h => by
    have h1 := woL_rwp (n := n) (ps := ps) fun p hp => h p (by simp [hp])
    simp only [rwp, List.map_cons] at h1 ⊢
    simp only [woL, h1]
    simp [AVal.wo]
  | (m, x :: xs) :: ps, h => by
    have h1 := woL_rwp (n := n) (ps := ps) fun p hp => h p (by simp [hp])
    have hm : m ≠ n := by
      rcases h (m, x :: xs) (by simp) with h | h
      · cases h
      · exact h
    simp only [rwp, List.map_cons] at h1 ⊢
    simp only [woL, h1]
    simp only [AVal.wo, if_neg hm]
    have h2 := woL_ints (n := n) (k := .i64) (xs := x :: xs)
    simp only [intsK, List.map_cons] at h2
    rw [h2]
theorem usesL_rwp {U : Nat → Prop} {ps : List (Nat × List Int)} {rest : List AVal} (h : usesL U (rwp ps ++ rest)) : ∀ p ∈ ps, p.2 = [] ∨ U p.1 := by
  induction ps with
  | nil => simp
  | cons q ps ih =>
    simp only [rwp, List.map_cons, List.cons_append, usesL, AVal.uses] at h ih
    intro p hp
    rcases List.mem_cons.1 hp with rfl | hp
    · rcases h.1.1 p.1 rfl with h1 | h1
      · left; simpa using h1
      · exact .inr h1
    · exact ih h.2 p hp
theorem fresh_rwp : ∀ {ps : List (Nat × List Int)}, freshL (rwp ps)
  | [] => by simp [rwp, freshL]
  | p :: ps => by
    have h := fresh_rwp (ps := ps)
    simp only [rwp, List.map_cons] at h ⊢
    simp only [freshL]
    refine ⟨?_, h⟩
    simp only [AVal.fresh, isNew]
    exact ⟨.inr trivial, of_eq_true fresh_intsK⟩

/-! Calls that may write into all rows with names. -/
theorem coeH_val {p : Nat → Bool} {hp : Nat → AObj} {x y : Value} : CoeH p hp (.val x) (.val y) = (y = x) := by simp [CoeH]
theorem coeH_st {p : Nat → Bool} {hp : Nat → AObj} {cs cs' : List AVal} : CoeH p hp (.st cs) (.st cs') = CoeHL p hp cs cs' := by simp [CoeH]
theorem coeHL_nil {p : Nat → Bool} {hp : Nat → AObj} : CoeHL p hp [] [] = True := by simp [CoeHL]
theorem coeHL_cons {p : Nat → Bool} {hp : Nat → AObj} {A B : AVal} {As Bs : List AVal} : CoeHL p hp (B :: Bs) (A :: As) = (CoeH p hp B A ∧ CoeHL p hp Bs As) := by
  simp only [CoeHL]
  refine propext ⟨?_, fun h => ⟨A, As, rfl, h.1, h.2⟩⟩
  rintro ⟨A', As', e, h1, h2⟩
  cases e
  exact ⟨h1, h2⟩
theorem coeHL_ints {p : Nat → Bool} {hp : Nat → AObj} : ∀ {xs : List Int}, CoeHL p hp (ints xs) (ints xs)
  | [] => by simp [CoeHL]
  | x :: xs => by
    have h := coeHL_ints (p := p) (hp := hp) (xs := xs)
    simp only [List.map_cons]
    rw [coeHL_cons]
    exact ⟨by simp [CoeH], h⟩
theorem coeHL_rwpP {p : Nat → Bool} {hp : Nat → AObj} : ∀ {ps : List (Nat × List Int)}, (∀ q ∈ ps, q.2 = [] ∨ p q.1 = true) → CoeHL p hp (rwp ps) (rwp ps)
  | [], _ => by simp [rwp, CoeHL]
  | q :: ps, hp' => by
    have h := coeHL_rwpP (p := p) (hp := hp) (ps := ps) (fun x hx => hp' x (by simp [hx]))
    simp only [rwp, List.map_cons] at h ⊢
    rw [coeHL_cons]
    refine ⟨?_, h⟩
    simp only [CoeH]
    refine ⟨by omega, .inl ⟨_, rfl, ?_, coeHL_ints⟩⟩
    rcases hp' q (by simp) with h0 | h0
    · left; rw [h0]; rfl
    · right
      intro x e
      simp only [Option.some.injEq] at e
      subst e; exact h0
theorem coeH_rwpP {p : Nat → Bool} {hp : Nat → AObj} {ps : List (Nat × List Int)} (hq : ∀ q ∈ ps, q.2 = [] ∨ p q.1 = true) : CoeH p hp (.ro (some (some 0)) 1 (rwp ps)) (.ro (some (some 0)) 1 (rwp ps)) := by
  simp only [CoeH]
  exact ⟨by omega, .inl ⟨_, rfl, .inr (fun x e => by simp only [Option.some.injEq] at e; subst e; trivial), coeHL_rwpP hq⟩⟩
theorem coeH_ownP {p : Nat → Bool} {hp : Nat → AObj} {ps : List (Nat × List Int)} {r v : Nat} {nn : Bool} (hq : ∀ q ∈ ps, q.2 = [] ∨ p q.1 = true) (h : hp r = .row v 1 nn (rwp ps)) : CoeH p hp (.ro (some (some 0)) 1 (rwp ps)) (.own r v) := by
  simp only [CoeH]
  exact ⟨by omega, .inr ⟨trivial, r, v, nn, _, rfl, h, coeHL_rwpP hq⟩⟩
/-- All names. -/
def pAll : Nat → Bool := fun _ => true
theorem coeH_rwp {hp : Nat → AObj} {ps : List (Nat × List Int)} : CoeH pAll hp (.ro (some (some 0)) 1 (rwp ps)) (.ro (some (some 0)) 1 (rwp ps)) := coeH_rwpP fun _ _ => .inr rfl
theorem coeH_own {hp : Nat → AObj} {ps : List (Nat × List Int)} {r v : Nat} {nn : Bool} (h : hp r = .row v 1 nn (rwp ps)) : CoeH pAll hp (.ro (some (some 0)) 1 (rwp ps)) (.own r v) := coeH_ownP (fun _ _ => .inr rfl) h

def clT (p : Nat → Bool) : List (Nat × AVal) → List (Nat × AVal)
  | [] => []
  | (k, A) :: l => (k, A.cl p) :: clT p l
def clO (p : Nat → Bool) : List (Nat × AObj) → List (Nat × AObj)
  | [] => []
  | (k, o) :: l => (k, o.cl p) :: clO p l
theorem clT_eq {p : Nat → Bool} : ∀ (l : List (Nat × AVal)) (n : Nat), L .any (clT p l) n = (L .any l n).cl p
  | [], n => by simp [clT, L, AVal.cl]
  | (k, A) :: l, n => by
    simp only [clT, L]
    split
    · rfl
    · exact clT_eq l n
theorem clO_eq {p : Nat → Bool} : ∀ (l : List (Nat × AObj)) (n : Nat), L .gone (clO p l) n = (L .gone l n).cl p
  | [], n => by simp [clO, L, AObj.cl]
  | (k, A) :: l, n => by
    simp only [clO, L]
    split
    · rfl
    · exact clO_eq l n
theorem cl_L {p : Nat → Bool} {l : List (Nat × AVal)} {h : List (Nat × AObj)} : St.cl p ⟨L .any l, L .gone h⟩ = ⟨L .any (clT p l), L .gone (clO p h)⟩ := by
  unfold St.cl
  congr 1
  · funext n; exact (clT_eq l n).symm
  · funext n; exact (clO_eq h n).symm
theorem clV_any {p : Nat → Bool} : AVal.cl p .any = .any := by simp only [AVal.cl]
theorem clV_val {p : Nat → Bool} {x : Value} : AVal.cl p (.val x) = .val x := by simp only [AVal.cl]
theorem clV_own {p : Nat → Bool} {r u : Nat} : AVal.cl p (.own r u) = .own r u := by simp only [AVal.cl]
theorem clV_ptr {p : Nat → Bool} {r u o : Nat} : AVal.cl p (.ptr r u o) = .ptr r u o := by simp only [AVal.cl]
theorem clV_st {p : Nat → Bool} {cs : List AVal} : AVal.cl p (.st cs) = .st (clL p cs) := by simp only [AVal.cl]
theorem clL_nil {p : Nat → Bool} : clL p [] = [] := by simp only [clL]
theorem clL_cons {p : Nat → Bool} {A : AVal} {cs : List AVal} : clL p (A :: cs) = A.cl p :: clL p cs := by simp only [clL]
theorem clL_ints {p : Nat → Bool} {k : IntKind} {xs : List Int} : clL p (intsK k xs) = intsK k xs := by simp [clL_eq, intsK, AVal.cl]
theorem clV_o {p : Nat → Bool} {k : Nat} {cs : List AVal} : AVal.cl p (.ro (some (some 0)) k cs) = .ro (some (some 0)) k (clL p cs) := by cases cs <;> simp [AVal.cl, clL]
theorem clL_rwo {p : Nat → Bool} {xss : List (List Int)} : clL p (rwo xss) = rwo xss := by
  simp only [clL_eq, rwo, List.map_map]
  refine List.map_congr_left fun xs _ => ?_
  simp only [Function.comp]
  rw [clV_o, clL_ints]

theorem call_hav {P : Program} {σ : St} {g : FuncId} {As args : List AVal} {d : Option Nat} {s : Nat → Nat} {K : St → Prop} {Q : Value → Prop}
    (h : Con P g [] args true (fun outs rows res => outs = [] ∧ rows = [] ∧ ∃ v, Q v ∧ res = .val v)) (hco : CoeHL pAll σ.hp args As) (hk : ∀ v, Q v → K (St.put (σ.cl pAll) d (.val v))) : wpCall P false σ g As d s K :=
  .inr ⟨rfl, pAll, args, Q, h, hco, hk⟩

/-- A call that may write into the rows with these names. -/
theorem call_havP {P : Program} {σ : St} {g : FuncId} {As args : List AVal} {d : Option Nat} {s : Nat → Nat} {K : St → Prop} {Q : Value → Prop} (p : Nat → Bool)
    (h : Con P g [] args true (fun outs rows res => outs = [] ∧ rows = [] ∧ ∃ v, Q v ∧ res = .val v)) (hco : CoeHL p σ.hp args As) (hk : ∀ v, Q v → K (St.put (σ.cl p) d (.val v))) : wpCall P false σ g As d s K :=
  .inr ⟨rfl, p, args, Q, h, hco, hk⟩
/-- The names of some rows. -/
def pOf (ps : List (Nat × List Int)) : Nat → Bool := fun n => ps.any fun q => decide (q.2 ≠ []) && Nat.beq q.1 n
theorem pOf_in {ps : List (Nat × List Int)} : ∀ q ∈ ps, q.2 = [] ∨ pOf ps q.1 = true := fun q hq => by
  by_cases h : q.2 = []
  · exact .inl h
  · right
    simp only [pOf, List.any_eq_true]
    exact ⟨q, hq, by simp [h]⟩
theorem clL_rwpP {p : Nat → Bool} : ∀ {ps : List (Nat × List Int)}, (∀ q ∈ ps, q.2 = [] ∨ p q.1 = false) → clL p (rwp ps) = rwp ps
  | [], _ => by simp [rwp, clL]
  | q :: ps, h => by
    have h1 := clL_rwpP (p := p) (ps := ps) (fun x hx => h x (by simp [hx]))
    simp only [rwp, List.map_cons] at h1 ⊢
    rw [clL_cons, h1]
    congr 1
    rcases h q (by simp) with h0 | h0
    · rw [h0]; simp [AVal.cl]
    · cases hx : q.2 with
      | nil => simp [AVal.cl]
      | cons a xs =>
        simp only [List.map_cons, AVal.cl, h0, Bool.false_eq_true, if_false]
        rw [show (AVal.val (.int .i64 a) :: List.map (fun x => AVal.val (.int .i64 x)) xs) = ints (a :: xs) from rfl, clL_ints]
theorem pOf_not {ps qs : List (Nat × List Int)} (h : DJ (ps ++ qs)) : ∀ q ∈ qs, q.2 = [] ∨ pOf ps q.1 = false := fun q hq => by
  by_cases h0 : q.2 = []
  · exact .inl h0
  · right
    cases hp : pOf ps q.1 with
    | false => rfl
    | true =>
      simp only [pOf, List.any_eq_true, Bool.and_eq_true, decide_eq_true_eq] at hp
      obtain ⟨x, hx, h1, h2⟩ := hp
      have := (List.pairwise_append.1 h).2.2 x hx q hq
      have e := Nat.eq_of_beq_eq_true h2
      rcases this with h3 | h3 | h3
      · exact absurd h3 h1
      · exact absurd h3 h0
      · exact absurd e h3

def woT (n : Nat) : List (Nat × AVal) → List (Nat × AVal)
  | [] => []
  | (k, A) :: l => (k, A.wo n) :: woT n l
def woO (n : Nat) : List (Nat × AObj) → List (Nat × AObj)
  | [] => []
  | (k, o) :: l => (k, o.wo n) :: woO n l
theorem woT_eq {m : Nat} : ∀ (l : List (Nat × AVal)) (n : Nat), L .any (woT m l) n = (L .any l n).wo m
  | [], n => by simp [woT, L, AVal.wo]
  | (k, A) :: l, n => by
    simp only [woT, L]
    split
    · rfl
    · exact woT_eq l n
theorem woO_eq {m : Nat} : ∀ (l : List (Nat × AObj)) (n : Nat), L .gone (woO m l) n = (L .gone l n).wo m
  | [], n => by simp [woO, L, AObj.wo]
  | (k, o) :: l, n => by
    simp only [woO, L]
    split
    · rfl
    · exact woO_eq l n
theorem tt_L {l : List (Nat × AVal)} {h : List (Nat × AObj)} {t i q n m k k' : Nat} {cs cs' : List AVal} :
    St.tt ⟨L .any l, L .gone h⟩ t i q n m k k' cs cs' = ⟨L .any ((t, .ro (some (some 0)) k ((woL n cs).set i (.own q m))) :: woT n l), L .gone ((q, .row m k' true (woL n cs')) :: woO n h)⟩ := by
  unfold St.tt
  congr 1
  · funext x
    simp only [L]
    split
    · rfl
    · exact (woT_eq l x).symm
  · funext x
    simp only [L]
    split
    · rfl
    · exact (woO_eq h x).symm
theorem woV_val {n : Nat} {x : Value} : AVal.wo n (.val x) = .val x := by simp only [AVal.wo]
theorem woV_own {n r u : Nat} : AVal.wo n (.own r u) = .own r u := by simp only [AVal.wo]
theorem woL_app {n : Nat} {cs ds : List AVal} : woL n (cs ++ ds) = woL n cs ++ woL n ds := by simp [woL_eq]
theorem woL_len {n : Nat} {cs : List AVal} : (woL n cs).length = cs.length := by simp [woL_eq]
theorem woO_gone {n : Nat} : AObj.wo n .gone = .gone := rfl

/-- The usual side conditions: their proofs are written down once, here. -/
theorem qCS {p : Prop} (h : p := by simp only [rowIs, boxIs, coe_argN, coe_argNs, coe_ro_o, coeL_nil, coeL_cons, coe_any, coe_val, coe_ro, coe_ro_nil, coe_ro_own, coe_st, coe_st_agg, coe_rp, coe_rp_ptr, coe_clo, coe_own0, coe_ptr0, coeL_intsK, coeL_rws, coeL_rwn, L_hit, L_miss, L_nil, Nat.reduceEqDiff, ne_eq, reduceCtorEq, not_false_eq_true, true_and, and_true, and_self, exists_eq_left, exists_eq_right, List.mem_cons, List.not_mem_nil, or_false, AObj.row.injEq, AObj.box.injEq, exists_eq_left', exists_and_left, exists_eq, Nat.zero_lt_one, Nat.lt_add_one, List.map_cons, List.map_nil, AObj.ver, Nat.reduceLT, not_true_eq_false]) : p := h
theorem qCO {p : Prop} (h : p := by simp only [coeL_rwo_t, rowIs, boxIs, coe_argN, coe_argNs, coe_ro_o, coeL_nil, coeL_cons, coe_any, coe_val, coe_ro, coe_ro_nil, coe_ro_own, coe_st, coe_st_agg, coe_rp, coe_rp_ptr, coe_clo, coe_own0, coe_ptr0, coeL_intsK, coeL_rws, coeL_rwn, L_hit, L_miss, L_nil, Nat.reduceEqDiff, ne_eq, reduceCtorEq, not_false_eq_true, true_and, and_true, and_self, exists_eq_left, exists_eq_right, List.mem_cons, List.not_mem_nil, or_false, AObj.row.injEq, AObj.box.injEq, exists_eq_left', exists_and_left, exists_eq, Nat.zero_lt_one, Nat.lt_add_one, List.map_cons, List.map_nil, AObj.ver, Nat.reduceLT, not_true_eq_false]) : p := h
theorem qWS {p : Prop} (h : p := by simp only [go_sem, adopt_fun, Int.reduceLT, Int.reduceLE, Int.reduceToNat, Int.reduceNeg, Nat.reduceLT, Nat.reduceLeDiff, Nat.reduceMul, Nat.reduceSub, reduceIte, Nat.reduceEqDiff, Nat.reduceAdd, reduceCtorEq]) : p := h
theorem qGN {p : Prop} (h : p := by first | rfl | simp only [go_sem, adopt_fun, Int.reduceLT, Int.reduceLE, Int.reduceToNat, Int.reduceNeg, Nat.reduceLT, Nat.reduceLeDiff, Nat.reduceMul, Nat.reduceSub, reduceIte, Nat.reduceEqDiff, Nat.reduceAdd, reduceCtorEq]) : p := h
end Go.Ab
