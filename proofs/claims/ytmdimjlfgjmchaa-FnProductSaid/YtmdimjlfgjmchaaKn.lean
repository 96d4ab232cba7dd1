/- Contracts of the functions that make sets, and of images. Conditions: none. -/
import Derived.Test.YtmdimjlfgjmchaaKm
import Derived.Test.YtmdimjlfgjmchaaPa
import Derived.Test.YtmdimjlfgjmchaaM7
import Derived.Test.YtmdimjlfgjmchaaShelf
set_option linter.all false
namespace Go.Ab
open Go.Proofs
set_option maxRecDepth 20000
set_option maxHeartbeats 1000000

theorem k_Sort (zs : List Int) (nn : Bool) (hz : zs.length < 4611686018427387904) : Con Try.prog n_slices_Sort_LI [.row 0 1 nn (ints zs)] [.own 5000 0] true
    fun outs rows res => outs = [.row 0 1 nn (ints (zs.mergeSort fun x y => decide (x ≤ y)))] ∧ rows = [] ∧ res = .tup [] := by
  refine con_inrow x_slices_Sort_LI zs _ (by simp) (fun g off cap w hH hb _ _ => ?_) (fun p cap w => ?_) nn
  · refine (AnyG.slices_Sort_int Try.lsort g off cap zs w hH hb hz).mono ?_
    rintro e w' ⟨he, n, os, hw⟩
    exact ⟨he, n, os, hw⟩
  · exact AnyG.slices_Sort_int_none Try.lsort p cap w

theorem k_Compact (zs : List Int) (nn : Bool) : Con Try.prog n_slices_Compact_LI [.row 0 1 nn (ints zs)] [.own 5000 0] true
    fun outs rows res => ∃ v, outs = [.row v 1 nn (ints (Lib.compact zs))] ∧ rows = [] ∧ res = .own 5000 v := by
  have hl := compact_len zs
  have h := con_inrowS x_slices_Compact_LI zs (Lib.compact zs ++ List.replicate (zs.length - (Lib.compact zs).length) 0) (Lib.compact zs).length (by simp; omega) hl
    (fun g off cap w hH hb hm hc => by
      refine (AnyG.slices_Compact_int Try.lcompact g off cap zs w hH (by have := maxLen_le; omega) hc).mono ?_
      rintro e w' ⟨he, q, hw⟩
      exact ⟨he, q, #[], by rw [Sort.grow_empty]; exact hw⟩)
    (fun p cap w => AnyG.slices_Compact_int_empty Try.lcompact p cap w) nn
  rw [List.take_left] at h
  exact h

/-- One row is handed over; nothing is made. -/
theorem call_row1 {P : Program} {σ : St} {g : FuncId} {As : List AVal} {d : Option Nat} {s : Nat → Nat} {K : St → Prop} {r v : Nat} {cs cs' : List AVal} {nn : Bool} {R : List AObj → List AObj → AVal → Prop}
    (h : Con P g [.row 0 1 nn cs'] [.own 5000 0] true R) (hr : σ.hp r = .row v 1 nn cs) (hco : CoeL σ.hp [r] false cs' cs) (hA : As = [.own r v])
    (hk : ∀ outs rows res, R outs rows res → rows = [] ∧ ∃ o, outs = [o] ∧ K (St.put ⟨σ.tm, upd σ.hp r (o.ren (rid [r] (d.getD 0) 0) (sv σ.hp [r] s))⟩ d (res.ren (rid [r] (d.getD 0) 0) (sv σ.hp [r] s)))) :
    wpCall P false σ g As d s K := by
  subst hA
  refine .inl ⟨[r], [.row 0 1 nn cs'], [.own 5000 0], true, R, h, ⟨by simp, rfl, by simp, by simp [hr], ?_⟩, ?_, (fun e => by cases e), ?_⟩
  · intro j B r' hB hr'
    cases j with
    | succ j => simp at hB
    | zero =>
      simp at hB hr'; subst hB; subst hr'
      simp only [ObjCoe, hr]
      exact ⟨trivial, v, cs, rfl, hco⟩
  · rw [coeL_cons]
    simp only [Coe, coeL_nil, and_true]
    exact ⟨0, r, v, rfl, rfl, rfl, rfl, by rw [hr]; rfl⟩
  · intro outs rows res hR
    obtain ⟨rfl, o, rfl, hK⟩ := hk outs rows res hR
    refine ⟨rfl, by simp, by simp, ?_⟩
    rw [callHp_m]
    exact hK

theorem coe_argN_self {hp : Nat → AObj} {m : List Nat} {len : Bool} {xs : List Int} : Coe hp m len (.ro (argN xs) 1 (ints xs)) (.ro (argN xs) 1 (ints xs)) = True := by
  by_cases h : xs.length = 0
  · have e : argN xs = some none := by unfold argN; rw [if_pos h]
    have := coe_argN (hp := hp) (m := m) (len := len) (xs := xs)
    rw [e] at this ⊢; exact this
  · have e : argN xs = none := by unfold argN; rw [if_neg h]
    rw [e, coe_ro]
    exact eq_true ⟨by omega, coeL_self fun A hA => by simp only [List.mem_map] at hA; obtain ⟨x, _, rfl⟩ := hA; exact ⟨_, rfl⟩⟩
theorem coe_argN_own {hp : Nat → AObj} {r v : Nat} {xs : List Int} (h : hp r = .row v 1 true (ints xs)) : Coe hp [] true (.ro (argN xs) 1 (ints xs)) (.own r v) := by
  simp only [Coe]
  refine ⟨?_, by omega, .inr (.inr ⟨trivial, r, v, true, ints xs, rfl, by simp, h, coeL_ints⟩)⟩
  by_cases e : xs.length = 0
  · have h0 : xs = [] := List.eq_nil_of_length_eq_zero e
    subst h0
    exact .inr (.inr ⟨rfl, rfl, .inr ⟨r, v, 1, _, rfl, h⟩⟩)
  · left; unfold argN; rw [if_neg e]
theorem sv_0 {hp : Nat → AObj} {r v : Nat} {s : Nat → Nat} (h : (hp r).ver = some v) : sv hp [r] s 0 = v := by
  unfold sv; simp [h]

theorem ren_own_h {r d n u : Nat} {s : Nat → Nat} : AVal.ren (rid [r] d n) s (.own 5000 u) = .own r (s u) := by
  have h1 : rid [r] d n 5000 = some r := rid_m (j := 0) (by omega) rfl
  simp only [AVal.ren, h1]

theorem k_sorted (xs : List Int) (h : xs.length * 8 ≤ 140737488355328) : RowI Try.prog n_impl_sorted [.ro (argN xs) 1 (ints xs)] (fun ys => ys = nrm xs) := by
  refine rowI_of mixed c_impl_sorted rfl ?_
  simp only [A_impl_sorted, B_impl_sorted_1, go_sem, adopt_fun, Int.reduceLT, Int.reduceLE, Int.reduceToNat, Int.reduceNeg, Nat.reduceLT, Nat.reduceLeDiff, Nat.reduceMul, Nat.reduceSub, reduceIte, Nat.reduceEqDiff, Nat.reduceAdd, reduceCtorEq]
  intro vs
  refine call_rowI (k_Clone xs h) (by simp only [coe_argN_self, rowIs, boxIs, coe_argN, coe_argNs, coe_ro_o, coeL_nil, coeL_cons, coe_any, coe_val, coe_ro, coe_ro_nil, coe_ro_own, coe_st, coe_st_agg, coe_rp, coe_rp_ptr, coe_clo, coe_own0, coe_ptr0, coeL_intsK, coeL_rws, coeL_rwn, L_hit, L_miss, L_nil, Nat.reduceEqDiff, ne_eq, reduceCtorEq, not_false_eq_true, true_and, and_true, and_self, exists_eq_left, exists_eq_right, List.mem_cons, List.not_mem_nil, or_false, AObj.row.injEq, AObj.box.injEq, exists_eq_left', exists_and_left, exists_eq, Nat.zero_lt_one, Nat.lt_add_one, List.map_cons, List.map_nil, AObj.ver, Nat.reduceLT, not_true_eq_false]) rfl ⟨_, rfl⟩ ?_
  rintro ys v rfl
  simp only [B_impl_sorted_2, go_sem, adopt_fun, Int.reduceLT, Int.reduceLE, Int.reduceToNat, Int.reduceNeg, Nat.reduceLT, Nat.reduceLeDiff, Nat.reduceMul, Nat.reduceSub, reduceIte, Nat.reduceEqDiff, Nat.reduceAdd, reduceCtorEq]
  intro vs2
  refine call_row1 (k_Sort ys true (by omega)) (r := 5) (v := v) qWS coeL_ints qWS ?_
  rintro outs rows res ⟨rfl, rfl, rfl⟩
  refine ⟨rfl, _, rfl, ?_⟩
  have e0 := sv_0 (hp := L AObj.gone [(5, AObj.row v 1 true (ints ys))]) (r := 5) (v := v) (s := vs2 1) rfl
  simp only [e0, Nat.not_lt_zero, range1, ren_val, ren_any, ren_ro, rnNm_n, rnNm_sn, rnNm_o, rnNm_s, ren_st, ren_tup, renL_nil, renL_cons, renL_intsK, renL_rws, renL_rwn, oren_box, oren_row, oren_map, ren_own_e0, ren_own_e1, ren_own_e2, ren_ptr_e0, ren_mp_e0, ren_mp_e1, ren_own_r0, ren_own_r1, ren_own_r2, ren_ptr_r0, ren_mp_r0, ren_mp_r1, List.range_zero, callHp_nil, callHp_one, callHp_two, gone_nil, gone_one, gone_two, AVal.fresh, freshL, fresh_intsK, fresh_rws, AObj.fresh, id, Option.isSome_some, or_true, true_or, go_sem, adopt_fun, Int.reduceLT, Int.reduceLE, Int.reduceToNat, Int.reduceNeg, Nat.reduceLT, Nat.reduceLeDiff, Nat.reduceMul, Nat.reduceSub, reduceIte, Nat.reduceEqDiff, Nat.reduceAdd, reduceCtorEq]
  simp only [B_impl_sorted_3, go_sem, adopt_fun, Int.reduceLT, Int.reduceLE, Int.reduceToNat, Int.reduceNeg, Nat.reduceLT, Nat.reduceLeDiff, Nat.reduceMul, Nat.reduceSub, reduceIte, Nat.reduceEqDiff, Nat.reduceAdd, reduceCtorEq]
  intro vs3
  refine call_row1 (k_Compact _ true) (r := 5) (v := v) (by simp only [go_sem, adopt_fun, Int.reduceLT, Int.reduceLE, Int.reduceToNat, Int.reduceNeg, Nat.reduceLT, Nat.reduceLeDiff, Nat.reduceMul, Nat.reduceSub, reduceIte, Nat.reduceEqDiff, Nat.reduceAdd, reduceCtorEq]; rfl) coeL_ints qWS ?_
  rintro outs rows res ⟨u, rfl, rfl, rfl⟩
  refine ⟨rfl, _, rfl, ?_⟩
  simp only [compact_nrm, ren_own_h, Nat.not_lt_zero, range1, ren_val, ren_any, ren_ro, rnNm_n, rnNm_sn, rnNm_o, rnNm_s, ren_st, ren_tup, renL_nil, renL_cons, renL_intsK, renL_rws, renL_rwn, oren_box, oren_row, oren_map, ren_own_e0, ren_own_e1, ren_own_e2, ren_ptr_e0, ren_mp_e0, ren_mp_e1, ren_own_r0, ren_own_r1, ren_own_r2, ren_ptr_r0, ren_mp_r0, ren_mp_r1, List.range_zero, callHp_nil, callHp_one, callHp_two, gone_nil, gone_one, gone_two, AVal.fresh, freshL, fresh_intsK, fresh_rws, AObj.fresh, id, Option.isSome_some, or_true, true_or, go_sem, adopt_fun, Int.reduceLT, Int.reduceLE, Int.reduceToNat, Int.reduceNeg, Nat.reduceLT, Nat.reduceLeDiff, Nat.reduceMul, Nat.reduceSub, reduceIte, Nat.reduceEqDiff, Nat.reduceAdd, reduceCtorEq]
  exact ⟨5, _, nrm ys, by omega, rfl, by simp only [go_sem, adopt_fun, Int.reduceLT, Int.reduceLE, Int.reduceToNat, Int.reduceNeg, Nat.reduceLT, Nat.reduceLeDiff, Nat.reduceMul, Nat.reduceSub, reduceIte, Nat.reduceEqDiff, Nat.reduceAdd, reduceCtorEq], rfl⟩

theorem actA_nil' (n : Int) (next : List (List Int)) : actA n next [] = allS n := rfl

theorem k_all (n : Int) (next : List (List Int)) (A : Aut n next) : RowI Try.prog n_impl_Automaton_all [autA n next] (fun xs => xs = allS n) := by
  refine rowI_of mixed c_impl_Automaton_all rfl ?_
  simp only [A_impl_Automaton_all, B_impl_Automaton_all_1, go_sem, adopt_fun, Int.reduceLT, Int.reduceLE, Int.reduceToNat, Int.reduceNeg, Nat.reduceLT, Nat.reduceLeDiff, Nat.reduceMul, Nat.reduceSub, reduceIte, Nat.reduceEqDiff, Nat.reduceAdd, reduceCtorEq]
  intro vs vs2
  refine call_rowI (k_action n next [] A (by intro x hx; simp at hx)) (by simp only [List.map_nil, rowIs, boxIs, coe_argN, coe_argNs, coe_ro_o, coeL_nil, coeL_cons, coe_any, coe_val, coe_ro, coe_ro_nil, coe_ro_own, coe_st, coe_st_agg, coe_rp, coe_rp_ptr, coe_clo, coe_own0, coe_ptr0, coeL_intsK, coeL_rws, coeL_rwn, L_hit, L_miss, L_nil, Nat.reduceEqDiff, ne_eq, reduceCtorEq, not_false_eq_true, true_and, and_true, and_self, exists_eq_left, exists_eq_right, List.mem_cons, List.not_mem_nil, or_false, AObj.row.injEq, AObj.box.injEq, exists_eq_left', exists_and_left, exists_eq, Nat.zero_lt_one, Nat.lt_add_one, List.map_cons, List.map_nil, AObj.ver, Nat.reduceLT, not_true_eq_false]) rfl ⟨_, rfl⟩ ?_
  rintro xs v rfl
  simp only [go_sem, adopt_fun, Int.reduceLT, Int.reduceLE, Int.reduceToNat, Int.reduceNeg, Nat.reduceLT, Nat.reduceLeDiff, Nat.reduceMul, Nat.reduceSub, reduceIte, Nat.reduceEqDiff, Nat.reduceAdd, reduceCtorEq]
  exact ⟨4, v, allS n, by omega, rfl, by simp only [actA_nil', go_sem, adopt_fun, Int.reduceLT, Int.reduceLE, Int.reduceToNat, Int.reduceNeg, Nat.reduceLT, Nat.reduceLeDiff, Nat.reduceMul, Nat.reduceSub, reduceIte, Nat.reduceEqDiff, Nat.reduceAdd, reduceCtorEq], rfl⟩

/-- A function that changes nothing and gives two plain values. -/
abbrev Fun2 (P : Program) (g : FuncId) (args : List AVal) (x y : Value) : Prop := Fn P g args fun rows res => rows = [] ∧ res = .tup [.val x, .val y]

theorem call_fun2 {P : Program} {pu : Bool} {σ : St} {g : FuncId} {As args : List AVal} {d : Option Nat} {s : Nat → Nat} {K : St → Prop} {x y : Value} (h : Fun2 P g args x y) (hco : CoeL σ.hp [] true args As)
    (hk : K (St.put σ d (.tup [.val x, .val y]))) : wpCall P pu σ g As d s K := by
  refine call_fn h hco (fun _ => ⟨_, _, rfl, rfl⟩) ?_
  rintro rows res ⟨rfl, rfl⟩
  refine ⟨by simp, by simp, ?_⟩
  simp only [Nat.not_lt_zero, range1, ren_val, ren_any, ren_ro, rnNm_n, rnNm_sn, rnNm_o, rnNm_s, ren_st, ren_tup, renL_nil, renL_cons, renL_intsK, renL_rws, renL_rwn, oren_box, oren_row, oren_map, ren_own_e0, ren_own_e1, ren_own_e2, ren_ptr_e0, ren_mp_e0, ren_mp_e1, ren_own_r0, ren_own_r1, ren_own_r2, ren_ptr_r0, ren_mp_r0, ren_mp_r1, List.range_zero, callHp_nil, callHp_one, callHp_two, gone_nil, gone_one, gone_two, AVal.fresh, freshL, fresh_intsK, fresh_rws, AObj.fresh, id, Option.isSome_some, or_true, true_or]
  exact hk

theorem allS_in {n : Int} : ∀ s ∈ allS n, 0 ≤ s ∧ s < n := by
  intro s hs
  simp only [allS, List.mem_map, List.mem_range] at hs
  obtain ⟨i, hi, rfl⟩ := hs
  omega
theorem ne10 : ((1 : Int) != 0) = true := rfl
theorem ne20 : ((2 : Int) != 0) = true := rfl
attribute [go_sem] dnL_rwo mvL_rwo rwo_len

end Go.Ab
