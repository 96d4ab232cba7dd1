/- The law FnSlow: its contract. Conditions: none. -/
import Derived.Test.YtgcbdccnhkfjoaaKz
set_option linter.all false
namespace Go.Ab
open Go.Proofs
set_option maxRecDepth 20000
set_option maxHeartbeats 2000000

def oneL (n k : Nat) : List Int := (List.range k).map fun s => (((s + 1) % n : Nat) : Int)
def twoL (k : Nat) : List Int := (List.range k).map fun (s : Nat) => (s : Int)
theorem oneL_succ {n k : Nat} : oneL n k ++ [(((k + 1) % n : Nat) : Int)] = oneL n (k + 1) := by simp [oneL, List.range_succ]
theorem twoL_succ {k : Nat} : twoL k ++ [(k : Int)] = twoL (k + 1) := by simp [twoL, List.range_succ]
theorem oneL_len {n k : Nat} : (oneL n k).length = k := by simp [oneL]
theorem twoL_len {k : Nat} : (twoL k).length = k := by simp [twoL]

theorem slow_two {n : Nat} (h : 2 ≤ n) : (twoL n).take (n - 1) ++ [0] ++ (twoL n).drop (n - 1 + 1) = (List.range n).map fun s => if s + 1 = n then 0 else (s : Int) := by
  obtain ⟨m, rfl⟩ : ∃ m, n = m + 1 := ⟨n - 1, by omega⟩
  rw [Nat.add_sub_cancel, ← twoL_succ, List.take_append_of_le_length (by rw [twoL_len]; exact Nat.le_refl _), List.take_of_length_le (by rw [twoL_len]; exact Nat.le_refl _), List.drop_eq_nil_of_le (by simp [twoL_len]), List.append_nil, List.range_succ, List.map_append]
  congr 1
  · refine List.map_congr_left fun s hs => ?_
    have := List.mem_range.1 hs
    rw [if_neg (by omega)]
  · simp

theorem k_SlowAutomaton (n : Nat) (hn : 2 ≤ n ∧ n ≤ 10) : Fn Try.prog n_impl_SlowAutomaton [iv n] (fun rows res => ∃ v, rows = [.row v 1 true (rws (slowL n))] ∧ res = .tup [.st [iv n, .own 6000 v], iv 0]) := by
  refine con_of mixed c_impl_SlowAutomaton rfl (by simp) ?_
  generalize hQ : finQ _ = Q
  simp only [A_impl_SlowAutomaton, B_impl_SlowAutomaton_1, go_sem, adopt_fun, Int.reduceLT, Int.reduceLE, Int.reduceToNat, Int.reduceNeg, Nat.reduceLT, Nat.reduceLeDiff, Nat.reduceMul, Nat.reduceSub, reduceIte, Nat.reduceEqDiff, Nat.reduceAdd, reduceCtorEq]
  intro vs vs2
  refine call_fun (k_within n 2 10) (by simp only [rowIs, boxIs, coe_argN, coe_argNs, coe_ro_o, coeL_nil, coeL_cons, coe_any, coe_val, coe_ro, coe_ro_nil, coe_ro_own, coe_st, coe_st_agg, coe_rp, coe_rp_ptr, coe_clo, coe_own0, coe_ptr0, coeL_intsK, coeL_rws, coeL_rwn, L_hit, L_miss, L_nil, Nat.reduceEqDiff, ne_eq, reduceCtorEq, not_false_eq_true, true_and, and_true, and_self, exists_eq_left, exists_eq_right, List.mem_cons, List.not_mem_nil, or_false, AObj.row.injEq, AObj.box.injEq, exists_eq_left', exists_and_left, exists_eq, Nat.zero_lt_one, Nat.lt_add_one, List.map_cons, List.map_nil, AObj.ver, Nat.reduceLT, not_true_eq_false]) trivial ?_
  have e1 : (decide ((2 : Int) ≤ n) && decide ((n : Int) ≤ 10)) = true := by rw [decide_eq_true (by omega), decide_eq_true (by omega)]; rfl
  simp only [e1, B_impl_SlowAutomaton_2, B_impl_SlowAutomaton_3, go_sem, adopt_fun, Int.reduceLT, Int.reduceLE, Int.reduceToNat, Int.reduceNeg, Nat.reduceLT, Nat.reduceLeDiff, Nat.reduceMul, Nat.reduceSub, reduceIte, Nat.reduceEqDiff, Nat.reduceAdd, reduceCtorEq]
  intro vs3
  simp only [B_impl_SlowAutomaton_4, B_impl_SlowAutomaton_5, go_sem, adopt_fun, Int.reduceLT, Int.reduceLE, Int.reduceToNat, Int.reduceNeg, Nat.reduceLT, Nat.reduceLeDiff, Nat.reduceMul, Nat.reduceSub, reduceIte, Nat.reduceEqDiff, Nat.reduceAdd, reduceCtorEq]
  refine wpD_lo (fun (_, _, k) => n - k) (fun (_, _, k) => k ≤ n)
    (fun ((va, vb, k) : Nat × Nat × Nat) => ⟨L .any [(0, iv n), (2, .ptr 2 (vs 0 0) 0), (4, .own 11 va), (5, .own 12 vb), (13, iv n), (14, iv k)],
      L .gone [(2, .box (vs 0 0) [iv 0, nilS]), (11, .row va 1 true (ints (oneL n k))), (12, .row vb 1 true (ints (twoL k)))]⟩)
    (_, _, 0) (by simp) (by simp only [B_impl_SlowAutomaton_6, go_sem, adopt_fun, Int.reduceLT, Int.reduceLE, Int.reduceToNat, Int.reduceNeg, Nat.reduceLT, Nat.reduceLeDiff, Nat.reduceMul, Nat.reduceSub, reduceIte, Nat.reduceEqDiff, Nat.reduceAdd, reduceCtorEq]; try rfl) ?_
  rintro ⟨va, vb, k⟩ hk
  have hk : k ≤ n := hk
  have l1 := oneL_len (n := n) (k := k)
  have l2 := twoL_len (k := k)
  by_cases hlt : (k : Int) < n
  · have w1 : IntKind.i64.wrap ((k : Int) + 1) = ((k + 1 : Nat) : Int) := by rw [w64 (by omega)]; simp
    have hn0 : ¬ ((n : Nat) : Int) = 0 := by omega
    have ht : (((k + 1 : Nat) : Int)).tmod n = (((k + 1) % n : Nat) : Int) := by
      rw [Int.tmod_eq_emod_of_nonneg (by omega)]; rfl
    simp only [B_impl_SlowAutomaton_6, B_impl_SlowAutomaton_7, B_impl_SlowAutomaton_8, B_impl_SlowAutomaton_9, B_impl_SlowAutomaton_10, w1, hn0, ht, oneL_succ, twoL_succ, decide_eq_true hlt, go_sem, adopt_fun, Int.reduceLT, Int.reduceLE, Int.reduceToNat, Int.reduceNeg, Nat.reduceLT, Nat.reduceLeDiff, Nat.reduceMul, Nat.reduceSub, reduceIte, Nat.reduceEqDiff, Nat.reduceAdd, reduceCtorEq]
    intro vs4
    exact ⟨⟨_, rfl, rfl⟩, by omega, ⟨_, rfl, rfl⟩, by omega, (_, _, k + 1), by dsimp only; omega, by dsimp only; omega, rfl⟩
  · have : k = n := by omega
    subst this
    have w2 : IntKind.i64.wrap ((k : Int) - 1) = ((k - 1 : Nat) : Int) := by rw [w64 (by omega)]; omega
    simp only [B_impl_SlowAutomaton_6, B_impl_SlowAutomaton_7, B_impl_SlowAutomaton_11, w2, decide_eq_false hlt, go_sem, adopt_fun, Int.reduceLT, Int.reduceLE, Int.reduceToNat, Int.reduceNeg, Nat.reduceLT, Nat.reduceLeDiff, Nat.reduceMul, Nat.reduceSub, reduceIte, Nat.reduceEqDiff, Nat.reduceAdd, reduceCtorEq]
    refine ⟨⟨by omega, by omega⟩, by omega, ?_⟩
    simp only [intsK_take, intsK_drop, intsK_snoc, intsK_cat, slow_two hn.1, B_impl_SlowAutomaton_12, A_impl_SlowAutomaton, ← hQ, go_sem, adopt_fun, Int.reduceLT, Int.reduceLE, Int.reduceToNat, Int.reduceNeg, Nat.reduceLT, Nat.reduceLeDiff, Nat.reduceMul, Nat.reduceSub, reduceIte, Nat.reduceEqDiff, Nat.reduceAdd, reduceCtorEq]
    intro vs4
    refine ⟨by simp, [36], by simp, by simp, by simp, ?_⟩
    simp only [range1, List.length_singleton, Nat.not_lt_zero, range1, ren_val, ren_any, ren_ro, rnNm_n, rnNm_sn, rnNm_o, rnNm_s, ren_st, ren_tup, renL_nil, renL_cons, renL_intsK, renL_rws, renL_rwn, oren_box, oren_row, oren_map, ren_own_e0, ren_own_e1, ren_own_e2, ren_ptr_e0, ren_mp_e0, ren_mp_e1, ren_own_r0, ren_own_r1, ren_own_r2, ren_ptr_r0, ren_mp_r0, ren_mp_r1, List.range_zero, callHp_nil, callHp_one, callHp_two, gone_nil, gone_one, gone_two, AVal.fresh, freshL, fresh_intsK, fresh_rws, AObj.fresh, id, Option.isSome_some, or_true, true_or, go_sem, adopt_fun, Int.reduceLT, Int.reduceLE, Int.reduceToNat, Int.reduceNeg, Nat.reduceLT, Nat.reduceLeDiff, Nat.reduceMul, Nat.reduceSub, reduceIte, Nat.reduceEqDiff, Nat.reduceAdd, reduceCtorEq]
    exact ⟨vs4 3 0, rfl, rfl⟩

theorem slow_aut {n : Nat} (hn : 2 ≤ n ∧ n ≤ 10) : Aut n (slowL n) := by
  refine ⟨by omega, by omega, by simp [slowL], by simp [slowL], ?_⟩
  intro row hr
  simp only [slowL, List.mem_cons, List.not_mem_nil, or_false] at hr
  rcases hr with rfl | rfl
  · refine ⟨by simp, fun x hx => ?_⟩
    obtain ⟨s, hs, rfl⟩ := List.mem_map.1 hx
    have := Nat.mod_lt (s + 1) (show 0 < n by omega)
    omega
  · refine ⟨by simp, fun x hx => ?_⟩
    obtain ⟨s, hs, rfl⟩ := List.mem_map.1 hx
    have := List.mem_range.1 hs
    split <;> omega

theorem firstT_mem {f : Nat} {w : List Int} {T : TS} (h : firstT T = some (f, w)) : (f, w) ∈ T := List.mem_of_find?_eq_some h

/-- A row within a value is handed over. -/
theorem call_st {P : Program} {σ : St} {g : FuncId} {x : AVal} {y : Value} {d : Nat} {s : Nat → Nat} {K : St → Prop} {r v : Nat} {cs cs' : List AVal} {R : AVal}
    (h : Con P g [.row 0 1 true cs] [.st [x, .own 5000 0]] true fun outs rows res => outs = [.row 0 1 true cs] ∧ rows = [] ∧ res = R) (hx : x = .val y)
    (hr : σ.hp r = .row v 1 true cs') (hc : CoeL σ.hp [r] false cs cs')
    (hk : K (St.put ⟨σ.tm, upd σ.hp r (.row v 1 true (renL (rid [r] d 0) (sv σ.hp [r] s) cs))⟩ (some d) (R.ren (rid [r] d 0) (sv σ.hp [r] s)))) : wpCall P false σ g [.st [x, .own r v]] (some d) s K := by
  subst hx
  refine .inl ⟨[r], _, _, true, _, h, ⟨by simp, rfl, by simp, by simp [hr], ?_⟩, ?_, (fun e => by cases e), ?_⟩
  · intro j B r' hB hr'
    match j, hB, hr' with
    | 0, hB, hr' =>
      simp at hB hr'; subst hB; subst hr'
      simp only [ObjCoe, hr]
      exact ⟨trivial, v, cs', rfl, hc⟩
    | j + 1, hB, hr' => simp at hB
  · rw [coeL_cons, coe_st, coeL_cons, coeL_cons, coeL_nil]
    refine ⟨?_, by simp only [coeL_nil]⟩
    simp only [Coe]
    exact ⟨trivial, ⟨0, r, v, rfl, rfl, rfl, rfl, by rw [hr]; rfl⟩, trivial⟩
  · rintro outs rows res ⟨rfl, rfl, rfl⟩
    refine ⟨rfl, by simp, by simp, ?_⟩
    have e : sv σ.hp [r] s 0 = v := by simp [sv, hr, AObj.ver]
    rw [Option.getD_some, callHp_m, oren_row, e]
    exact hk

theorem k_FnSlow (code more : List Int) (hb : ∀ x ∈ code, 0 ≤ x ∧ x ≤ 255) (hb2 : ∀ x ∈ more, 0 ≤ x ∧ x ≤ 255) : Fun Try.prog n_laws_FnSlow [.ro (some (some 0)) 1 (intsK .u8 code), .ro (some (some 0)) 1 (intsK .u8 more)] (bv true) := by
  refine fun_of mixed c_laws_FnSlow rfl ⟨rfl, trivial⟩ ?_
  simp only [A_laws_FnSlow, B_laws_FnSlow_1, go_sem, adopt_fun, Int.reduceLT, Int.reduceLE, Int.reduceToNat, Int.reduceNeg, Nat.reduceLT, Nat.reduceLeDiff, Nat.reduceMul, Nat.reduceSub, reduceIte, Nat.reduceEqDiff, Nat.reduceAdd, reduceCtorEq]
  intro vs
  refine call_fun (k_a2Long code more) (by simp only [rowIs, boxIs, coe_argN, coe_argNs, coe_ro_o, coeL_nil, coeL_cons, coe_any, coe_val, coe_ro, coe_ro_nil, coe_ro_own, coe_st, coe_st_agg, coe_rp, coe_rp_ptr, coe_clo, coe_own0, coe_ptr0, coeL_intsK, coeL_rws, coeL_rwn, L_hit, L_miss, L_nil, Nat.reduceEqDiff, ne_eq, reduceCtorEq, not_false_eq_true, true_and, and_true, and_self, exists_eq_left, exists_eq_right, List.mem_cons, List.not_mem_nil, or_false, AObj.row.injEq, AObj.box.injEq, exists_eq_left', exists_and_left, exists_eq, Nat.zero_lt_one, Nat.lt_add_one, List.map_cons, List.map_nil, AObj.ver, Nat.reduceLT, not_true_eq_false]) trivial ?_
  simp only [B_laws_FnSlow_2, B_laws_FnSlow_3, go_sem, adopt_fun, Int.reduceLT, Int.reduceLE, Int.reduceToNat, Int.reduceNeg, Nat.reduceLT, Nat.reduceLeDiff, Nat.reduceMul, Nat.reduceSub, reduceIte, Nat.reduceEqDiff, Nat.reduceAdd, reduceCtorEq]
  intro _ vs2
  refine call_funE (k_a2At code 0 8 hb (by omega)) (by simp only [rowIs, boxIs, coe_argN, coe_argNs, coe_ro_o, coeL_nil, coeL_cons, coe_any, coe_val, coe_ro, coe_ro_nil, coe_ro_own, coe_st, coe_st_agg, coe_rp, coe_rp_ptr, coe_clo, coe_own0, coe_ptr0, coeL_intsK, coeL_rws, coeL_rwn, L_hit, L_miss, L_nil, Nat.reduceEqDiff, ne_eq, reduceCtorEq, not_false_eq_true, true_and, and_true, and_self, exists_eq_left, exists_eq_right, List.mem_cons, List.not_mem_nil, or_false, AObj.row.injEq, AObj.box.injEq, exists_eq_left', exists_and_left, exists_eq, Nat.zero_lt_one, Nat.lt_add_one, List.map_cons, List.map_nil, AObj.ver, Nat.reduceLT, not_true_eq_false]) ⟨_, 0, rfl, by omega, .inr rfl⟩ ?_
  rintro _ ⟨b, rfl, hb1, hb2⟩
  obtain ⟨n, hn, rfl⟩ : ∃ n : Nat, (2 ≤ n ∧ n ≤ 9) ∧ b = (n : Int) - 2 := ⟨b.toNat + 2, by omega, by omega⟩
  have w1 : IntKind.i64.wrap (2 + ((n : Int) - 2)) = n := by rw [w64 (by omega)]; omega
  have A := slow_aut (n := n) (by omega)
  have hP : SlowP n := by
    have h2 : n = 2 ∨ n = 3 ∨ n = 4 ∨ n = 5 ∨ n = 6 ∨ n = 7 ∨ n = 8 ∨ n = 9 := by omega
    rcases h2 with rfl | rfl | rfl | rfl | rfl | rfl | rfl | rfl
    · exact slow2
    · exact slow3
    · exact slow4
    · exact slow5
    · exact slow6
    · exact slow7
    · exact slow8
    · exact slow9
  obtain ⟨f, w, hf, hw, him⟩ := hP
  have hnt : ((n : Int)).toNat = n := by simp
  have hT := (runT_ok A 1100 0 _ (TI0 (m := (slowL n).length) (show 2 ^ ((n : Int)).toNat - 1 < 2 ^ ((n : Int)).toNat by have := Nat.two_pow_pos ((n : Int)).toNat; omega))).1
  rw [hnt] at hT
  have hwd := hT.wd _ (firstT_mem hf)
  have hsq : (n - 1) * (n - 1) ≤ 64 := Nat.mul_le_mul (show n - 1 ≤ 8 by omega) (show n - 1 ≤ 8 by omega)
  have hwb : wordB (slowL n).length w = true := wordB_iff.2 ⟨by omega, hwd.1⟩
  have hab : autB n (slowL n) = true := autB_iff.2 A
  simp only [w1, B_laws_FnSlow_4, go_sem, adopt_fun, Int.reduceLT, Int.reduceLE, Int.reduceToNat, Int.reduceNeg, Nat.reduceLT, Nat.reduceLeDiff, Nat.reduceMul, Nat.reduceSub, reduceIte, Nat.reduceEqDiff, Nat.reduceAdd, reduceCtorEq]
  intro vs3
  refine call_fn (k_SlowAutomaton n (by omega)) (by simp only [rowIs, boxIs, coe_argN, coe_argNs, coe_ro_o, coeL_nil, coeL_cons, coe_any, coe_val, coe_ro, coe_ro_nil, coe_ro_own, coe_st, coe_st_agg, coe_rp, coe_rp_ptr, coe_clo, coe_own0, coe_ptr0, coeL_intsK, coeL_rws, coeL_rwn, L_hit, L_miss, L_nil, Nat.reduceEqDiff, ne_eq, reduceCtorEq, not_false_eq_true, true_and, and_true, and_self, exists_eq_left, exists_eq_right, List.mem_cons, List.not_mem_nil, or_false, AObj.row.injEq, AObj.box.injEq, exists_eq_left', exists_and_left, exists_eq, Nat.zero_lt_one, Nat.lt_add_one, List.map_cons, List.map_nil, AObj.ver, Nat.reduceLT, not_true_eq_false]) (fun e => by cases e) ?_
  rintro rows res ⟨v, rfl, rfl⟩
  refine ⟨by simp, by simp only [Option.getD_some, gone_one]; rfl, ?_⟩
  simp only [Option.getD_some, List.length_singleton, B_laws_FnSlow_5, Nat.not_lt_zero, range1, ren_val, ren_any, ren_ro, rnNm_n, rnNm_sn, rnNm_o, rnNm_s, ren_st, ren_tup, renL_nil, renL_cons, renL_intsK, renL_rws, renL_rwn, oren_box, oren_row, oren_map, ren_own_e0, ren_own_e1, ren_own_e2, ren_ptr_e0, ren_mp_e0, ren_mp_e1, ren_own_r0, ren_own_r1, ren_own_r2, ren_ptr_r0, ren_mp_r0, ren_mp_r1, List.range_zero, callHp_nil, callHp_one, callHp_two, gone_nil, gone_one, gone_two, AVal.fresh, freshL, fresh_intsK, fresh_rws, AObj.fresh, id, Option.isSome_some, or_true, true_or, go_sem, adopt_fun, Int.reduceLT, Int.reduceLE, Int.reduceToNat, Int.reduceNeg, Nat.reduceLT, Nat.reduceLeDiff, Nat.reduceMul, Nat.reduceSub, reduceIte, Nat.reduceEqDiff, Nat.reduceAdd, reduceCtorEq]
  intro vs4
  refine call_st (k_ShortestReset n (slowL n) A f w (by rw [hnt]; exact hf)) rfl rfl (by simp only [rowIs, boxIs, coe_argN, coe_argNs, coe_ro_o, coeL_nil, coeL_cons, coe_any, coe_val, coe_ro, coe_ro_nil, coe_ro_own, coe_st, coe_st_agg, coe_rp, coe_rp_ptr, coe_clo, coe_own0, coe_ptr0, coeL_intsK, coeL_rws, coeL_rwn, L_hit, L_miss, L_nil, Nat.reduceEqDiff, ne_eq, reduceCtorEq, not_false_eq_true, true_and, and_true, and_self, exists_eq_left, exists_eq_right, List.mem_cons, List.not_mem_nil, or_false, AObj.row.injEq, AObj.box.injEq, exists_eq_left', exists_and_left, exists_eq, Nat.zero_lt_one, Nat.lt_add_one, List.map_cons, List.map_nil, AObj.ver, Nat.reduceLT, not_true_eq_false]) ?_
  simp only [B_laws_FnSlow_6, Nat.not_lt_zero, range1, ren_val, ren_any, ren_ro, rnNm_n, rnNm_sn, rnNm_o, rnNm_s, ren_st, ren_tup, renL_nil, renL_cons, renL_intsK, renL_rws, renL_rwn, oren_box, oren_row, oren_map, ren_own_e0, ren_own_e1, ren_own_e2, ren_ptr_e0, ren_mp_e0, ren_mp_e1, ren_own_r0, ren_own_r1, ren_own_r2, ren_ptr_r0, ren_mp_r0, ren_mp_r1, List.range_zero, callHp_nil, callHp_one, callHp_two, gone_nil, gone_one, gone_two, AVal.fresh, freshL, fresh_intsK, fresh_rws, AObj.fresh, id, Option.isSome_some, or_true, true_or, go_sem, adopt_fun, Int.reduceLT, Int.reduceLE, Int.reduceToNat, Int.reduceNeg, Nat.reduceLT, Nat.reduceLeDiff, Nat.reduceMul, Nat.reduceSub, reduceIte, Nat.reduceEqDiff, Nat.reduceAdd, reduceCtorEq]
  intro vs5
  refine call_fun2 (k_IsReset n (slowL n) w) (by simp only [rowIs, boxIs, coe_argN, coe_argNs, coe_ro_o, coeL_nil, coeL_cons, coe_any, coe_val, coe_ro, coe_ro_nil, coe_ro_own, coe_st, coe_st_agg, coe_rp, coe_rp_ptr, coe_clo, coe_own0, coe_ptr0, coeL_intsK, coeL_rws, coeL_rwn, L_hit, L_miss, L_nil, Nat.reduceEqDiff, ne_eq, reduceCtorEq, not_false_eq_true, true_and, and_true, and_self, exists_eq_left, exists_eq_right, List.mem_cons, List.not_mem_nil, or_false, AObj.row.injEq, AObj.box.injEq, exists_eq_left', exists_and_left, exists_eq, Nat.zero_lt_one, Nat.lt_add_one, List.map_cons, List.map_nil, AObj.ver, Nat.reduceLT, not_true_eq_false]) ?_
  have hc : codeI true true = 0 := rfl
  have hm1 : IntKind.i64.wrap ((n : Int) - 1) = ((n - 1 : Nat) : Int) := by rw [w64 (by omega)]; omega
  have hm2 : IntKind.i64.wrap (((n - 1 : Nat) : Int) * ((n - 1 : Nat) : Int)) = (((n - 1) * (n - 1) : Nat) : Int) := by
    rw [← Int.natCast_mul, w64 (by omega)]
  simp only [hab, hwb, him, hc, hm1, hm2, hw, B_laws_FnSlow_7, decide_true, Bool.and_self, go_sem, adopt_fun, Int.reduceLT, Int.reduceLE, Int.reduceToNat, Int.reduceNeg, Nat.reduceLT, Nat.reduceLeDiff, Nat.reduceMul, Nat.reduceSub, reduceIte, Nat.reduceEqDiff, Nat.reduceAdd, reduceCtorEq]
end Go.Ab
