/- Contracts of the functions that make sets, and of images. Conditions: none. -/
import Derived.Test.YtoadopegbnmfkaaKm
import Derived.Test.YtoadopegbnmfkaaPa
import Derived.Test.YtoadopegbnmfkaaM7
import Derived.Test.YtoadopegbnmfkaaShelf
set_option linter.all false
namespace Go.Ab
open Go.Proofs
set_option maxRecDepth 20000
set_option maxHeartbeats 1000000

/-- One row is handed over; nothing is made. -/
theorem call_row1 {P : Program} {σ : St} {g : FuncId} {As : List AVal} {d : Option Nat} {s : Nat → Nat} {K : St → Prop} {r v : Nat} {cs cs' : List AVal} {nn : Bool} {R : List AObj → List AObj → AVal → Prop}
    (h : Con P g [.row 0 1 nn cs'] [.own 5000 0] true R) (hr : σ.hp r = .row v 1 nn cs) (hco : CoeL σ.hp [r] false cs' cs) (hA : As = [.own r v])
    (hk : ∀ outs rows res, R outs rows res → rows = [] ∧ ∃ o, outs = [o] ∧ K (St.put ⟨σ.tm, upd σ.hp r (o.ren (rid [r] (d.getD 0) 0) (sv σ.hp [r] s))⟩ d (res.ren (rid [r] (d.getD 0) 0) (sv σ.hp [r] s)))) :
    wpCall P false σ g As d s K := by
  subst hA
  refine .inl ⟨[r], [.row 0 1 nn cs'], [.own 5000 0], true, R, h, ⟨by simp, rfl, by simp, by simp [hr], ?_⟩, ?_, (fun e => by cases e), ?_⟩
  · intro j B r' hB hr'
    cases j with
    | succ j => simp at hB
    | zero =>
      simp at hB hr'; subst hB; subst hr'
      simp only [ObjCoe, hr]
      exact ⟨trivial, v, cs, rfl, hco⟩
  · rw [coeL_cons]
    simp only [Coe, coeL_nil, and_true]
    exact ⟨0, r, v, rfl, rfl, rfl, rfl, by rw [hr]; rfl⟩
  · intro outs rows res hR
    obtain ⟨rfl, o, rfl, hK⟩ := hk outs rows res hR
    refine ⟨rfl, by simp, by simp, ?_⟩
    rw [callHp_m]
    exact hK

theorem coe_argN_self {hp : Nat → AObj} {m : List Nat} {len : Bool} {xs : List Int} : Coe hp m len (.ro (argN xs) 1 (ints xs)) (.ro (argN xs) 1 (ints xs)) = True := by
  by_cases h : xs.length = 0
  · have e : argN xs = some none := by unfold argN; rw [if_pos h]
    have := coe_argN (hp := hp) (m := m) (len := len) (xs := xs)
    rw [e] at this ⊢; exact this
  · have e : argN xs = none := by unfold argN; rw [if_neg h]
    rw [e, coe_ro]
    exact eq_true ⟨by omega, coeL_self fun A hA => by simp only [List.mem_map] at hA; obtain ⟨x, _, rfl⟩ := hA; exact ⟨_, rfl⟩⟩
theorem coe_argN_own {hp : Nat → AObj} {r v : Nat} {xs : List Int} (h : hp r = .row v 1 true (ints xs)) : Coe hp [] true (.ro (argN xs) 1 (ints xs)) (.own r v) := by
  simp only [Coe]
  refine ⟨?_, by omega, .inr (.inr ⟨trivial, r, v, true, ints xs, rfl, by simp, h, coeL_ints⟩)⟩
  by_cases e : xs.length = 0
  · have h0 : xs = [] := List.eq_nil_of_length_eq_zero e
    subst h0
    exact .inr (.inr ⟨rfl, rfl, .inr ⟨r, v, 1, _, rfl, h⟩⟩)
  · left; unfold argN; rw [if_neg e]
theorem sv_0 {hp : Nat → AObj} {r v : Nat} {s : Nat → Nat} (h : (hp r).ver = some v) : sv hp [r] s 0 = v := by
  unfold sv; simp [h]

theorem ren_own_h {r d n u : Nat} {s : Nat → Nat} : AVal.ren (rid [r] d n) s (.own 5000 u) = .own r (s u) := by
  have h1 : rid [r] d n 5000 = some r := rid_m (j := 0) (by omega) rfl
  simp only [AVal.ren, h1]

theorem actA_nil' (n : Int) (next : List (List Int)) : actA n next [] = allS n := rfl

/-- A function that changes nothing and gives two plain values. -/
abbrev Fun2 (P : Program) (g : FuncId) (args : List AVal) (x y : Value) : Prop := Fn P g args fun rows res => rows = [] ∧ res = .tup [.val x, .val y]

theorem fun2_of {P : Program} {g : FuncId} {F : AFn} (hm : P.follows .mixedOrders = true) (hF : cFn drV P g F) {args : List AVal} (hargs : args.length = F.nparams) {x y : Value}
    (h : wpD P F.code (finQ fun σ => (∀ x ∈ F.res, σ.there x) ∧ σ.value F.res = .tup [.val x, .val y]) (St.init args [])) : Fun2 P g args x y := by
  refine con_of hm hF hargs (by simp) (wpD_mono _ _ _ _ (fun e σ he => ?_) h)
  have : ((∀ x ∈ F.res, σ.there x) ∧ σ.value F.res = .tup [.val x, .val y]) → _ := fun ⟨h1, h2⟩ =>
    (show (∀ x ∈ F.res, σ.there x) ∧ ∃ ids : List Nat, ids.length ≤ 1000 ∧ ids.Nodup ∧ (∀ n ∈ ids, n < 5000) ∧ (σ.value F.res).fresh ∧ (∀ n ∈ ids, (σ.hp n).fresh) ∧ (∀ j, j < ([] : List AObj).length → (σ.hp (5000 + j)).fresh) ∧
      (fun outs rows res => outs = [] ∧ rows = [] ∧ res = AVal.tup [.val x, .val y]) ((List.range ([] : List AObj).length).map fun j => (σ.hp (5000 + j)).ren (expo ids) id) (ids.map fun n => (σ.hp n).ren (expo ids) id) ((σ.value F.res).ren (expo ids) id) from
    ⟨h1, [], by simp, by simp, by simp, by rw [h2]; simp [AVal.fresh, freshL], by simp, by simp, rfl, rfl, by rw [h2]; simp only [Nat.not_lt_zero, range1, ren_val, ren_any, ren_ro, rnNm_n, rnNm_sn, rnNm_o, rnNm_s, ren_st, ren_tup, renL_nil, renL_cons, renL_intsK, renL_rws, renL_rwn, oren_box, oren_row, oren_map, ren_own_e0, ren_own_e1, ren_own_e2, ren_ptr_e0, ren_mp_e0, ren_mp_e1, ren_own_r0, ren_own_r1, ren_own_r2, ren_ptr_r0, ren_mp_r0, ren_mp_r1, List.range_zero, callHp_nil, callHp_one, callHp_two, gone_nil, gone_one, gone_two, AVal.fresh, freshL, fresh_intsK, fresh_rws, AObj.fresh, id, Option.isSome_some, or_true, true_or]⟩)
  cases e with
  | exit _ => exact he
  | normal => exact this he
  | ret => exact this he

theorem call_fun2 {P : Program} {pu : Bool} {σ : St} {g : FuncId} {As args : List AVal} {d : Option Nat} {s : Nat → Nat} {K : St → Prop} {x y : Value} (h : Fun2 P g args x y) (hco : CoeL σ.hp [] true args As)
    (hk : K (St.put σ d (.tup [.val x, .val y]))) : wpCall P pu σ g As d s K := by
  refine call_fn h hco (fun _ => ⟨_, _, rfl, rfl⟩) ?_
  rintro rows res ⟨rfl, rfl⟩
  refine ⟨by simp, by simp, ?_⟩
  simp only [Nat.not_lt_zero, range1, ren_val, ren_any, ren_ro, rnNm_n, rnNm_sn, rnNm_o, rnNm_s, ren_st, ren_tup, renL_nil, renL_cons, renL_intsK, renL_rws, renL_rwn, oren_box, oren_row, oren_map, ren_own_e0, ren_own_e1, ren_own_e2, ren_ptr_e0, ren_mp_e0, ren_mp_e1, ren_own_r0, ren_own_r1, ren_own_r2, ren_ptr_r0, ren_mp_r0, ren_mp_r1, List.range_zero, callHp_nil, callHp_one, callHp_two, gone_nil, gone_one, gone_two, AVal.fresh, freshL, fresh_intsK, fresh_rws, AObj.fresh, id, Option.isSome_some, or_true, true_or]
  exact hk

/-- The states to which a word leads from all states. -/
def imgA (n : Int) (next : List (List Int)) (w : List Int) : List Int := nrm ((allS n).map fun s => atA next s w)

theorem allS_in {n : Int} : ∀ s ∈ allS n, 0 ≤ s ∧ s < n := by
  intro s hs
  simp only [allS, List.mem_map, List.mem_range] at hs
  obtain ⟨i, hi, rfl⟩ := hs
  omega
theorem allS_len {n : Int} : (allS n).length = n.toNat := by simp [allS]
theorem wordB_iff {l : Nat} {w : List Int} : wordB l w = true ↔ (w.length : Int) ≤ 400 ∧ IsW l w := by
  simp only [wordB, Bool.and_eq_true, decide_eq_true_eq, allIn_iff]
  constructor
  · rintro ⟨h1, h2⟩; exact ⟨h1, fun x hx => by have := h2 x hx; omega⟩
  · rintro ⟨h1, h2⟩; exact ⟨h1, fun x hx => by have := h2 x hx; omega⟩

theorem ne10 : ((1 : Int) != 0) = true := rfl
theorem ne20 : ((2 : Int) != 0) = true := rfl
theorem eq1_dec {k : Nat} : ((k : Int) == 1) = decide (k = 1) := by
  by_cases h : k = 1
  · subst h; rfl
  · rw [decide_eq_false h, beq_eq_false_iff_ne]; omega

attribute [go_sem] dnL_rwo mvL_rwo rwo_len

/-! The reference's side. -/
theorem k_l01Word (n : Int) (next : List (List Int)) (w : List Int) (hl : next.length ≤ 1000000) : Fun Try.prog n_spec_l01Word [autP n next, .ro none 1 (ints w)] (bv (wordB next.length w)) := by
  refine fun_of mixed c_spec_l01Word rfl ⟨rfl, trivial⟩ ?_
  simp only [A_spec_l01Word, B_spec_l01Word_1, B_spec_l01Word_2, go_sem, adopt_fun, Int.reduceLT, Int.reduceLE, Int.reduceToNat, Int.reduceNeg, Nat.reduceLT, Nat.reduceLeDiff, Nat.reduceMul, Nat.reduceSub, reduceIte, Nat.reduceEqDiff, Nat.reduceAdd, reduceCtorEq]
  refine wpD_lo (fun i => w.length - i) (fun i => i ≤ w.length ∧ allIn (w.take i) 0 ((next.length : Int) - 1) = true)
    (fun i : Nat => ⟨L .any [(0, autP n next), (1, .ro none 1 (ints w)), (5, iv i)], L .gone []⟩) 0 (by simp [allIn]) (by simp only [B_spec_l01Word_3, go_sem, adopt_fun, Int.reduceLT, Int.reduceLE, Int.reduceToNat, Int.reduceNeg, Nat.reduceLT, Nat.reduceLeDiff, Nat.reduceMul, Nat.reduceSub, reduceIte, Nat.reduceEqDiff, Nat.reduceAdd, reduceCtorEq]; try rfl) ?_
  rintro i ⟨hi, he⟩
  have w1 : IntKind.i64.wrap ((next.length : Int) - 1) = (next.length : Int) - 1 := w64 (by omega)
  by_cases hlt : (i : Int) < w.length
  · have hlt1 : i < w.length := by omega
    simp only [B_spec_l01Word_3, B_spec_l01Word_4, B_spec_l01Word_5, intsK_getD hlt1, decide_eq_true hlt, go_sem, adopt_fun, Int.reduceLT, Int.reduceLE, Int.reduceToNat, Int.reduceNeg, Nat.reduceLT, Nat.reduceLeDiff, Nat.reduceMul, Nat.reduceSub, reduceIte, Nat.reduceEqDiff, Nat.reduceAdd, reduceCtorEq]
    intro hM vs
    refine ⟨⟨by omega, hlt1⟩, hlt1, ?_⟩
    rw [w1]
    refine call_fun (k_l00In (w.getD i 0) 0 ((next.length : Int) - 1)) (by simp only [rowIs, boxIs, coe_argN, coe_argNs, coe_ro_o, coeL_nil, coeL_cons, coe_any, coe_val, coe_ro, coe_ro_nil, coe_ro_own, coe_st, coe_st_agg, coe_rp, coe_rp_ptr, coe_clo, coe_own0, coe_ptr0, coeL_intsK, coeL_rws, coeL_rwn, L_hit, L_miss, L_nil, Nat.reduceEqDiff, ne_eq, reduceCtorEq, not_false_eq_true, true_and, and_true, and_self, exists_eq_left, exists_eq_right, List.mem_cons, List.not_mem_nil, or_false, AObj.row.injEq, AObj.box.injEq, exists_eq_left', exists_and_left, exists_eq, Nat.zero_lt_one, Nat.lt_add_one, List.map_cons, List.map_nil, AObj.ver, Nat.reduceLT, not_true_eq_false]) trivial ?_
    have ht : w.take (i + 1) = w.take i ++ [w.getD i 0] := by
      rw [List.take_succ_eq_append_getElem hlt1, List.getD_eq_getElem?_getD, List.getElem?_eq_getElem hlt1]; rfl
    simp only [B_spec_l01Word_6, B_spec_l01Word_7, nat1 i _ hlt1 hM, go_sem, adopt_fun, Int.reduceLT, Int.reduceLE, Int.reduceToNat, Int.reduceNeg, Nat.reduceLT, Nat.reduceLeDiff, Nat.reduceMul, Nat.reduceSub, reduceIte, Nat.reduceEqDiff, Nat.reduceAdd, reduceCtorEq]
    refine ⟨fun h => ?_, fun h => ⟨i + 1, by omega, ⟨by omega, ?_⟩, rfl⟩⟩
    · have : wordB next.length w = false := by
        cases hb : wordB next.length w with
        | false => rfl
        | true =>
          have := (wordB_iff.1 hb).2 (w.getD i 0) (getD_mem hlt1 _)
          simp only [w1, Bool.not_eq_true', Bool.and_eq_false_iff, decide_eq_false_iff_not] at h; omega
      rw [this]
    · rw [ht, allIn_iff]
      intro x hx
      rcases List.mem_append.1 hx with hx | hx
      · exact allIn_iff.1 he x hx
      · have hx : x = w.getD i 0 := by simpa using hx
        subst hx
        simp only [w1, Bool.not_eq_false', Bool.and_eq_true, decide_eq_true_eq] at h; omega
  · have : i = w.length := by omega
    subst this
    rw [List.take_length] at he
    simp only [B_spec_l01Word_3, B_spec_l01Word_4, B_spec_l01Word_5, B_spec_l01Word_8, decide_eq_false hlt, go_sem, adopt_fun, Int.reduceLT, Int.reduceLE, Int.reduceToNat, Int.reduceNeg, Nat.reduceLT, Nat.reduceLeDiff, Nat.reduceMul, Nat.reduceSub, reduceIte, Nat.reduceEqDiff, Nat.reduceAdd, reduceCtorEq]
    intro _ _
    simp only [wordB, he, Bool.and_true]

theorem coeL_ints_t {hp : Nat → AObj} {m : List Nat} {len : Bool} {xs : List Int} : CoeL hp m len (ints xs) (ints xs) = True := eq_true coeL_ints
/-- A call that makes an automaton. -/
theorem call_aut {P : Program} {pu : Bool} {σ : St} {g : FuncId} {As args : List AVal} {d : Nat} {s : Nat → Nat} {K : St → Prop} {n : Int} {next : List (List Int)}
    (h : Fn P g args (fun rows res => ∃ v, rows = [.row v 1 true (rws next)] ∧ res = .st [iv n, .own 6000 v])) (hco : CoeL σ.hp [] true args As) (hg : σ.hp d = .gone)
    (hk : ∀ v, K (St.put ⟨σ.tm, upd σ.hp d (.row v 1 true (rws next))⟩ (some d) (.st [iv n, .own d v]))) : wpCall P pu σ g As (some d) s K := by
  refine call_fn h hco (fun _ => ⟨_, _, 0, rfl, rfl⟩) ?_
  rintro rows res ⟨v, rfl, rfl⟩
  refine ⟨by simp, ?_, ?_⟩
  · simp only [Option.getD_some, gone_one]; exact hg
  · simp only [Option.getD_some, Nat.not_lt_zero, range1, ren_val, ren_any, ren_ro, rnNm_n, rnNm_sn, rnNm_o, rnNm_s, ren_st, ren_tup, renL_nil, renL_cons, renL_intsK, renL_rws, renL_rwn, oren_box, oren_row, oren_map, ren_own_e0, ren_own_e1, ren_own_e2, ren_ptr_e0, ren_mp_e0, ren_mp_e1, ren_own_r0, ren_own_r1, ren_own_r2, ren_ptr_r0, ren_mp_r0, ren_mp_r1, List.range_zero, callHp_nil, callHp_one, callHp_two, gone_nil, gone_one, gone_two, AVal.fresh, freshL, fresh_intsK, fresh_rws, AObj.fresh, id, Option.isSome_some, or_true, true_or, List.length_singleton]
    exact hk _

end Go.Ab
