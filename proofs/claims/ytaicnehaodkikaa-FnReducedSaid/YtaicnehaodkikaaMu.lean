/- Contracts: the program's first words of states, its trimmed machine. Conditions: none. -/
import Derived.Test.YtaicnehaodkikaaMt
set_option linter.all false
namespace Go.Ab
open Go.Proofs
set_option maxRecDepth 20000
set_option maxHeartbeats 4000000

theorem k_firstWords (n o : Int) (next out : List (List Int)) (M : Mach n o next out) :
    Fn Try.prog n_impl_Machine_firstWords [machA n o next out] fun rows res => ∃ v w ks vs, rows = [.row v 1 true (ints (covP next)), .map w ks vs] ∧ res = .tup [.own 6000 v, .mp 6001 w] := by
  refine con_of mixed c_impl_Machine_firstWords rfl (by simp) ?_
  have n1 := M.aut.n1
  have n2 := M.aut.n2
  have l2 := M.aut.l2
  have hM2 := maxLen_le
  generalize hQ : finQ _ = Q
  simp only [A_impl_Machine_firstWords, B_impl_Machine_firstWords_1, go_sem, adopt_fun, Int.reduceLT, Int.reduceLE, Int.reduceToNat, Int.reduceNeg, Nat.reduceLT, Nat.reduceLeDiff, Nat.reduceMul, Nat.reduceSub, reduceIte, Nat.reduceEqDiff, Nat.reduceAdd, reduceCtorEq]
  intro vs vs2
  have hf0 : findKeyAt (.int .i64 0) [] 0 = some none := rfl
  simp only [hf0, B_impl_Machine_firstWords_2, B_impl_Machine_firstWords_3, go_sem, adopt_fun, Int.reduceLT, Int.reduceLE, Int.reduceToNat, Int.reduceNeg, Nat.reduceLT, Nat.reduceLeDiff, Nat.reduceMul, Nat.reduceSub, reduceIte, Nat.reduceEqDiff, Nat.reduceAdd, reduceCtorEq]
  refine ⟨⟨_, rfl, rfl⟩, ?_, ?_⟩
  · intro r v' h; simp only [AVal.own.injEq] at h; obtain ⟨rfl, rfl⟩ := h; exact ⟨_, _, _, rfl⟩
  refine wpD_lo (fun (_, i, _, _) => 20 - i)
    (fun (_, i, L, ws) => CI n L ∧ i ≤ List.length L ∧ covR next (20 - i) i L = covP next ∧ List.length ws = List.length L ∧ ∀ w ∈ ws, List.length w < List.length L)
    (fun ((va, i, L, ws) : Nat × Nat × List Int × List (List Int)) => ⟨Go.Ab.L .any [(1, .ptr 1 (vs 0 0) 0), (4, .own 12 va), (5, .mp 13 (vs2 1 0)), (6, iv i)],
      Go.Ab.L .gone [(1, .box (vs 0 0) [iv n, iv o, .ro none 1 (rwn next), .ro none 1 (rwn out)]), (12, .row va 1 true (ints L)), (13, .map (vs2 1 0) (keyI L) (rws ws))]⟩)
    (_, 0, [0], [[]]) ⟨CI0 n1, by simp, rfl, rfl, by simp⟩ (by simp only [B_impl_Machine_firstWords_4, go_sem, adopt_fun, Int.reduceLT, Int.reduceLE, Int.reduceToNat, Int.reduceNeg, Nat.reduceLT, Nat.reduceLeDiff, Nat.reduceMul, Nat.reduceSub, reduceIte, Nat.reduceEqDiff, Nat.reduceAdd, reduceCtorEq]; try rfl) ?_
  rintro ⟨va, i, Ls, ws⟩ ⟨hI, hi, hR, hwl, hwb⟩
  have hi : i ≤ Ls.length := hi
  have hwl : ws.length = Ls.length := hwl
  have hlen := (hI.len n2).2
  by_cases hlt : (i : Int) < Ls.length
  · have hlt1 : i < Ls.length := by omega
    have hs := hI.rg _ (getD_mem hlt1 0)
    simp only [B_impl_Machine_firstWords_4, B_impl_Machine_firstWords_5, B_impl_Machine_firstWords_6, decide_eq_true hlt, intsK_getD hlt1, go_sem, adopt_fun, Int.reduceLT, Int.reduceLE, Int.reduceToNat, Int.reduceNeg, Nat.reduceLT, Nat.reduceLeDiff, Nat.reduceMul, Nat.reduceSub, reduceIte, Nat.reduceEqDiff, Nat.reduceAdd, reduceCtorEq]
    intro hM
    refine ⟨⟨by omega, hlt1⟩, hlt1, ?_⟩
    simp only [B_impl_Machine_firstWords_7, B_impl_Machine_firstWords_8, go_sem, adopt_fun, Int.reduceLT, Int.reduceLE, Int.reduceToNat, Int.reduceNeg, Nat.reduceLT, Nat.reduceLeDiff, Nat.reduceMul, Nat.reduceSub, reduceIte, Nat.reduceEqDiff, Nat.reduceAdd, reduceCtorEq]
    intro hMn
    refine wpD_lo (fun (_, x, _) => next.length - x)
      (fun (_, x, ws') => x ≤ next.length ∧ List.length ws' = (covV next (Ls.getD i 0) x Ls).length ∧ ∀ w ∈ ws', List.length w < (covV next (Ls.getD i 0) x Ls).length)
      (fun ((va, x, ws') : Nat × Nat × List (List Int)) => ⟨Go.Ab.L .any [(1, .ptr 1 (vs 0 0) 0), (4, .own 12 va), (5, .mp 13 (vs2 1 0)), (6, iv i), (7, iv (Ls.getD i 0)), (27, .ro none 1 (rwn next)), (28, iv next.length), (29, iv x)],
        Go.Ab.L .gone [(1, .box (vs 0 0) [iv n, iv o, .ro none 1 (rwn next), .ro none 1 (rwn out)]), (12, .row va 1 true (ints (covV next (Ls.getD i 0) x Ls))), (13, .map (vs2 1 0) (keyI (covV next (Ls.getD i 0) x Ls)) (rws ws'))]⟩)
      (va, 0, ws) ⟨by simp, hwl, hwb⟩ (by simp only [B_impl_Machine_firstWords_9, go_sem, adopt_fun, Int.reduceLT, Int.reduceLE, Int.reduceToNat, Int.reduceNeg, Nat.reduceLT, Nat.reduceLeDiff, Nat.reduceMul, Nat.reduceSub, reduceIte, Nat.reduceEqDiff, Nat.reduceAdd, reduceCtorEq]; try rfl) ?_
    rintro ⟨va, x, ws'⟩ ⟨hx, hwl', hwb'⟩
    have hx : x ≤ next.length := hx
    obtain ⟨hI', ⟨t, ht⟩, _⟩ := covV_ok M.aut hs hI x hx
    have hlen' := (hI'.len n2).2
    have hsu : covV next (Ls.getD i 0) (x + 1) Ls = if (covV next (Ls.getD i 0) x Ls).contains (stepA next (Ls.getD i 0) x) then covV next (Ls.getD i 0) x Ls else covV next (Ls.getD i 0) x Ls ++ [stepA next (Ls.getD i 0) x] := rfl
    by_cases hxl : (x : Int) < next.length
    · have hxl1 : x < next.length := by omega
      have hrow := M.aut.row _ (getD_mem hxl1 [])
      have hat : (covV next (Ls.getD i 0) x Ls).getD i 0 = Ls.getD i 0 := by rw [ht, getD_app hlt1]
      have hil : i < (covV next (Ls.getD i 0) x Ls).length := by rw [ht, List.length_append]; omega
      have hsz : (Ls.getD i 0).toNat < (next.getD x []).length := by omega
      have hst : (next.getD x []).getD (Ls.getD i 0).toNat 0 = stepA next (Ls.getD i 0) x := by simp [stepA]
      have w1 : IntKind.i64.wrap ((x : Int) + 1) = ((x + 1 : Nat) : Int) := by rw [w64 (by omega)]; simp
      have hsV : Ls.getD i 0 ∈ covV next (Ls.getD i 0) x Ls := by rw [ht]; exact List.mem_append_left _ (getD_mem hlt1 0)
      dsimp only
      generalize hV : covV next (Ls.getD i 0) x Ls = V at hI' hlen' hsu hat hil hwl' hwb' hsV ⊢
      have hwl' : ws'.length = V.length := hwl'
      simp only [B_impl_Machine_firstWords_9, B_impl_Machine_firstWords_10, B_impl_Machine_firstWords_11, decide_eq_true hxl, rwn_getD hxl1, intsK_getD hsz, hst, go_sem, adopt_fun, Int.reduceLT, Int.reduceLE, Int.reduceToNat, Int.reduceNeg, Nat.reduceLT, Nat.reduceLeDiff, Nat.reduceMul, Nat.reduceSub, reduceIte, Nat.reduceEqDiff, Nat.reduceAdd, reduceCtorEq]
      refine ⟨⟨by omega, hxl1⟩, hxl1, ?_⟩
      cases hc : V.contains (stepA next (Ls.getD i 0) x) with
      | true =>
        rw [hc, if_pos rfl] at hsu
        have hm : stepA next (Ls.getD i 0) x ∈ V := by simpa using hc
        have hf := fkI_mem 0 hm
        simp only [B_impl_Machine_firstWords_12, B_impl_Machine_firstWords_13, B_impl_Machine_firstWords_14, B_impl_Machine_firstWords_16, hf, intsK_getD hsz, hst, w1, go_sem, adopt_fun, Int.reduceLT, Int.reduceLE, Int.reduceToNat, Int.reduceNeg, Nat.reduceLT, Nat.reduceLeDiff, Nat.reduceMul, Nat.reduceSub, reduceIte, Nat.reduceEqDiff, Nat.reduceAdd, reduceCtorEq]
        refine ⟨⟨hs.1, hsz⟩, hsz, ?_⟩
        exact ⟨(va, x + 1, ws'), by dsimp only; omega, ⟨by dsimp only; omega, by dsimp only; rw [hsu]; exact hwl', by dsimp only; rw [hsu]; exact hwb'⟩, by dsimp only; rw [hsu]⟩
      | false =>
        rw [hc, if_neg (by simp)] at hsu
        have hm : stepA next (Ls.getD i 0) x ∉ V := by simpa using hc
        have hf := fkI_not 0 hm
        have hf2 := fkI_mem 0 hsV
        have hix : V.idxOf (Ls.getD i 0) < ws'.length := by rw [hwl']; exact List.idxOf_lt_length_of_mem hsV
        have hwi := hwb' _ (getD_mem hix [])
        rw [Nat.zero_add] at hf2
        have hk2 : keyI V ++ [.int .i64 (stepA next (Ls.getD i 0) x)] = keyI (V ++ [stepA next (Ls.getD i 0) x]) := by simp
        simp only [B_impl_Machine_firstWords_12, B_impl_Machine_firstWords_13, B_impl_Machine_firstWords_14, hf, hf2, rws_getD hix, intsK_getD hsz, hst, go_sem, adopt_fun, Int.reduceLT, Int.reduceLE, Int.reduceToNat, Int.reduceNeg, Nat.reduceLT, Nat.reduceLeDiff, Nat.reduceMul, Nat.reduceSub, reduceIte, Nat.reduceEqDiff, Nat.reduceAdd, reduceCtorEq]
        refine ⟨⟨hs.1, hsz⟩, hsz, ?_⟩
        intro vs5
        refine ⟨⟨hs.1, hsz⟩, hsz, ?_⟩
        refine call_rowI (k_Clone (ws'.getD (V.idxOf (Ls.getD i 0)) []) (by omega)) qCS qGN ⟨_, rfl⟩ ?_
        rintro xs v8 rfl
        simp only [B_impl_Machine_firstWords_15, B_impl_Machine_firstWords_16, hf, hk2, rws_snoc, intsK_getD hsz, hst, w1, go_sem, adopt_fun, Int.reduceLT, Int.reduceLE, Int.reduceToNat, Int.reduceNeg, Nat.reduceLT, Nat.reduceLeDiff, Nat.reduceMul, Nat.reduceSub, reduceIte, Nat.reduceEqDiff, Nat.reduceAdd, reduceCtorEq]
        refine ⟨⟨_, rfl, rfl⟩, by omega, ?_, ?_⟩
        · intro r v' h; simp only [AVal.own.injEq] at h; obtain ⟨rfl, rfl⟩ := h; exact ⟨_, _, _, rfl⟩
        intro vs6
        refine ⟨⟨hs.1, hsz⟩, hsz, ⟨_, rfl, rfl⟩, by omega, ?_⟩
        refine ⟨(vs6 6 0, x + 1, ws' ++ [ws'.getD (V.idxOf (Ls.getD i 0)) [] ++ [(x : Int)]]), by dsimp only; omega, ⟨by dsimp only; omega, ?_, ?_⟩, by dsimp only; rw [hsu]⟩
        · dsimp only; rw [hsu, List.length_append, List.length_append, hwl']; rfl
        · dsimp only; rw [hsu, List.length_append, List.length_singleton]
          intro w hw
          rcases List.mem_append.1 hw with hw | hw
          · have := hwb' w hw; omega
          · rw [List.mem_singleton.1 hw, List.length_append, List.length_singleton]; omega
    · have : x = next.length := by omega
      subst this
      have w1 : IntKind.i64.wrap ((i : Int) + 1) = ((i + 1 : Nat) : Int) := by rw [w64 (by omega)]; simp
      simp only [B_impl_Machine_firstWords_9, B_impl_Machine_firstWords_10, B_impl_Machine_firstWords_17, w1, decide_eq_false hxl, go_sem, adopt_fun, Int.reduceLT, Int.reduceLE, Int.reduceToNat, Int.reduceNeg, Nat.reduceLT, Nat.reduceLeDiff, Nat.reduceMul, Nat.reduceSub, reduceIte, Nat.reduceEqDiff, Nat.reduceAdd, reduceCtorEq]
      obtain ⟨F, hF⟩ : ∃ F, 20 - i = F + 1 := ⟨19 - i, by omega⟩
      have hF2 : 20 - (i + 1) = F := by omega
      rw [hF] at hR
      simp only [covR, if_pos hlt1] at hR
      refine ⟨(va, i + 1, covV next (Ls.getD i 0) next.length Ls, ws'), by dsimp only; omega, ⟨hI', by dsimp only; rw [ht, List.length_append]; omega, by dsimp only; rw [hF2]; exact hR, hwl', hwb'⟩, rfl⟩
  · have : i = Ls.length := by omega
    subst this
    have hend : Ls = covP next := by
      obtain ⟨F, hF⟩ : ∃ F, 20 - Ls.length = F + 1 := ⟨19 - Ls.length, by omega⟩
      rw [hF] at hR
      simpa only [covR, Nat.lt_irrefl, if_false] using hR
    simp only [B_impl_Machine_firstWords_4, B_impl_Machine_firstWords_5, B_impl_Machine_firstWords_18, decide_eq_false hlt, A_impl_Machine_firstWords, ← hQ, go_sem, adopt_fun, Int.reduceLT, Int.reduceLE, Int.reduceToNat, Int.reduceNeg, Nat.reduceLT, Nat.reduceLeDiff, Nat.reduceMul, Nat.reduceSub, reduceIte, Nat.reduceEqDiff, Nat.reduceAdd, reduceCtorEq]
    intro hM
    refine ⟨[12, 13], by simp, by simp, by simp, ?_⟩
    simp only [range1, List.length_singleton, Nat.not_lt_zero, range1, ren_val, ren_any, ren_ro, rnNm_n, rnNm_sn, rnNm_o, rnNm_s, ren_st, ren_tup, renL_nil, renL_cons, renL_intsK, renL_rws, renL_rwn, oren_box, oren_row, oren_map, ren_own_e0, ren_own_e1, ren_own_e2, ren_ptr_e0, ren_mp_e0, ren_mp_e1, ren_own_r0, ren_own_r1, ren_own_r2, ren_ptr_r0, ren_mp_r0, ren_mp_r1, List.range_zero, callHp_nil, callHp_one, callHp_two, gone_nil, gone_one, gone_two, AVal.fresh, freshL, fresh_intsK, fresh_rws, AObj.fresh, id, Option.isSome_some, or_true, true_or, go_sem, adopt_fun, Int.reduceLT, Int.reduceLE, Int.reduceToNat, Int.reduceNeg, Nat.reduceLT, Nat.reduceLeDiff, Nat.reduceMul, Nat.reduceSub, reduceIte, Nat.reduceEqDiff, Nat.reduceAdd, reduceCtorEq]
    exact ⟨va, _, _, _, by rw [hend], rfl⟩

theorem k_implTrimMachine (n o : Int) (next out : List (List Int)) :
    NamMR Try.prog n_impl_TrimMachine [machA n o next out] (machB n o next out) ((covP next).length : Int) o (trmN next n.toNat) (trmU next out) (if machB n o next out = true then 0 else 1) := by
  refine con_of mixed c_impl_TrimMachine rfl (by simp) ?_
  generalize hQ : finQ _ = Q
  simp only [A_impl_TrimMachine, B_impl_TrimMachine_1, wpD_kp, wpD_regi, go_sem, adopt_fun, Int.reduceLT, Int.reduceLE, Int.reduceToNat, Int.reduceNeg, Nat.reduceLT, Nat.reduceLeDiff, Nat.reduceMul, Nat.reduceSub, reduceIte, Nat.reduceEqDiff, Nat.reduceAdd, reduceCtorEq]
  intro vs0 U0 hN0 vs1 U1 hN1
  refine call_fun (k_ValidMachine n o next out) qCS trivial ?_
  cases hv : machB n o next out with
  | false =>
    simp only [B_impl_TrimMachine_2, Bool.false_eq_true, if_false, A_impl_TrimMachine, ← hQ, wpD_kp, wpD_regi, go_sem, adopt_fun, Int.reduceLT, Int.reduceLE, Int.reduceToNat, Int.reduceNeg, Nat.reduceLT, Nat.reduceLeDiff, Nat.reduceMul, Nat.reduceSub, reduceIte, Nat.reduceEqDiff, Nat.reduceAdd, reduceCtorEq]
    intro vs3 U3 hN3
    refine ⟨[], by simp, by simp, by simp, ?_⟩
    simp only [Nat.not_lt_zero, range1, ren_val, ren_any, ren_ro, rnNm_n, rnNm_sn, rnNm_o, rnNm_s, ren_st, ren_tup, renL_nil, renL_cons, renL_intsK, renL_rws, renL_rwn, oren_box, oren_row, oren_map, ren_own_e0, ren_own_e1, ren_own_e2, ren_ptr_e0, ren_mp_e0, ren_mp_e1, ren_own_r0, ren_own_r1, ren_own_r2, ren_ptr_r0, ren_mp_r0, ren_mp_r1, List.range_zero, callHp_nil, callHp_one, callHp_two, gone_nil, gone_one, gone_two, AVal.fresh, freshL, fresh_intsK, fresh_rws, AObj.fresh, id, Option.isSome_some, or_true, true_or, go_sem, adopt_fun, Int.reduceLT, Int.reduceLE, Int.reduceToNat, Int.reduceNeg, Nat.reduceLT, Nat.reduceLeDiff, Nat.reduceMul, Nat.reduceSub, reduceIte, Nat.reduceEqDiff, Nat.reduceAdd, reduceCtorEq]
    unfold MachRC; rw [if_neg (by rw [hv]; simp)]; rw [hv, if_neg (by simp)]; exact ⟨rfl, rfl⟩
  | true =>
    have M := machB_iff.1 hv
    have n1 := M.aut.n1
    have n2 := M.aut.n2
    obtain ⟨hI, hcl⟩ := covP_ok M.aut
    have hlen := (hI.len n2).2
    simp only [B_impl_TrimMachine_2, B_impl_TrimMachine_3, if_true, wpD_kp, wpD_regi, go_sem, adopt_fun, Int.reduceLT, Int.reduceLE, Int.reduceToNat, Int.reduceNeg, Nat.reduceLT, Nat.reduceLeDiff, Nat.reduceMul, Nat.reduceSub, reduceIte, Nat.reduceEqDiff, Nat.reduceAdd, reduceCtorEq]
    intro vs3 U3 hN3
    refine call_fn (k_firstWords n o next out M) qCS (fun e => by cases e) ?_
    rintro rows res ⟨v, w, ks, vs, rfl, rfl⟩
    refine ⟨by simp, by rw [Option.getD_some, gone_two]; exact ⟨rfl, rfl⟩, ?_⟩
    simp only [Option.getD_some, List.length_cons, List.length_nil, Nat.zero_add, Nat.reduceAdd, B_impl_TrimMachine_4, wpD_kp, wpD_regi, Nat.not_lt_zero, range1, ren_val, ren_any, ren_ro, rnNm_n, rnNm_sn, rnNm_o, rnNm_s, ren_st, ren_tup, renL_nil, renL_cons, renL_intsK, renL_rws, renL_rwn, oren_box, oren_row, oren_map, ren_own_e0, ren_own_e1, ren_own_e2, ren_ptr_e0, ren_mp_e0, ren_mp_e1, ren_own_r0, ren_own_r1, ren_own_r2, ren_ptr_r0, ren_mp_r0, ren_mp_r1, List.range_zero, callHp_nil, callHp_one, callHp_two, gone_nil, gone_one, gone_two, AVal.fresh, freshL, fresh_intsK, fresh_rws, AObj.fresh, id, Option.isSome_some, or_true, true_or, go_sem, adopt_fun, Int.reduceLT, Int.reduceLE, Int.reduceToNat, Int.reduceNeg, Nat.reduceLT, Nat.reduceLeDiff, Nat.reduceMul, Nat.reduceSub, reduceIte, Nat.reduceEqDiff, Nat.reduceAdd, reduceCtorEq]
    intro vs4 U4 hN4
    have hP := k_picked n o next out M (covP next) (toT n.toNat (covP next)) n_impl_TrimMachine_1 [.rp [.ro none 1 (ints (covP next))] 0] ⟨by simp only [go_sem, adopt_fun, Int.reduceLT, Int.reduceLE, Int.reduceToNat, Int.reduceNeg, Nat.reduceLT, Nat.reduceLeDiff, Nat.reduceMul, Nat.reduceSub, reduceIte, Nat.reduceEqDiff, Nat.reduceAdd, reduceCtorEq], by intros; simp only [rowIs, boxIs, coe_argN, coe_argNs, coe_ro_o, coeL_nil, coeL_cons, coe_any, coe_val, coe_ro, coe_ro_nil, coe_ro_own, coe_st, coe_st_agg, coe_rp, coe_rp_ptr, coe_clo, coe_own0, coe_ptr0, coeL_intsK, coeL_rws, coeL_rwn, L_hit, L_miss, L_nil, Nat.reduceEqDiff, ne_eq, reduceCtorEq, not_false_eq_true, true_and, and_true, and_self, exists_eq_left, exists_eq_right, List.mem_cons, List.not_mem_nil, or_false, AObj.row.injEq, AObj.box.injEq, exists_eq_left', exists_and_left, exists_eq, Nat.zero_lt_one, Nat.lt_add_one, List.map_cons, List.map_nil, AObj.ver, Nat.reduceLT, not_true_eq_false]⟩
      (fun s hs => hI.rg s hs) (by omega) (fun s hs x hx => by
        have h1 := hI.rg s hs
        have h2 := step_rg M.aut (s := s) (x := (x : Int)) h1 ⟨by omega, by omega⟩
        have h3 := hcl s hs x hx
        rw [toT_at h3 ⟨h2.1, by omega⟩]
        exact k_TrimMachine_1 _ (covP next) h3)
    refine call_machN (fun x y e => (hN4.inj _ _ _ _ e).2) hP (by simp only [rowIs, boxIs, coe_argN, coe_argNs, coe_ro_o, coeL_nil, coeL_cons, coe_any, coe_val, coe_ro, coe_ro_nil, coe_ro_own, coe_st, coe_st_agg, coe_rp, coe_rp_ptr, coe_clo, coe_own0, coe_ptr0, coeL_intsK, coeL_rws, coeL_rwn, L_hit, L_miss, L_nil, Nat.reduceEqDiff, ne_eq, reduceCtorEq, not_false_eq_true, true_and, and_true, and_self, exists_eq_left, exists_eq_right, List.mem_cons, List.not_mem_nil, or_false, AObj.row.injEq, AObj.box.injEq, exists_eq_left', exists_and_left, exists_eq, Nat.zero_lt_one, Nat.lt_add_one, List.map_cons, List.map_nil, AObj.ver, Nat.reduceLT, not_true_eq_false]) rfl rfl ?_
    intro v w ps qs h1 h2 hdj
    simp only [A_impl_TrimMachine, ← hQ, wpD_kp, wpD_regi, go_sem, adopt_fun, Int.reduceLT, Int.reduceLE, Int.reduceToNat, Int.reduceNeg, Nat.reduceLT, Nat.reduceLeDiff, Nat.reduceMul, Nat.reduceSub, reduceIte, Nat.reduceEqDiff, Nat.reduceAdd, reduceCtorEq]
    refine ⟨[18, 1018], by simp, by simp, by simp, ?_⟩
    simp only [range1, List.length_singleton, renL_rwp, Nat.not_lt_zero, range1, ren_val, ren_any, ren_ro, rnNm_n, rnNm_sn, rnNm_o, rnNm_s, ren_st, ren_tup, renL_nil, renL_cons, renL_intsK, renL_rws, renL_rwn, oren_box, oren_row, oren_map, ren_own_e0, ren_own_e1, ren_own_e2, ren_ptr_e0, ren_mp_e0, ren_mp_e1, ren_own_r0, ren_own_r1, ren_own_r2, ren_ptr_r0, ren_mp_r0, ren_mp_r1, List.range_zero, callHp_nil, callHp_one, callHp_two, gone_nil, gone_one, gone_two, AVal.fresh, freshL, fresh_intsK, fresh_rws, AObj.fresh, id, Option.isSome_some, or_true, true_or, go_sem, adopt_fun, Int.reduceLT, Int.reduceLE, Int.reduceToNat, Int.reduceNeg, Nat.reduceLT, Nat.reduceLeDiff, Nat.reduceMul, Nat.reduceSub, reduceIte, Nat.reduceEqDiff, Nat.reduceAdd, reduceCtorEq]
    refine ⟨⟨fresh_rwp, fresh_rwp⟩, ?_⟩
    unfold MachRC
    rw [if_pos hv, if_pos hv]
    exact ⟨v, w, ps, qs, by simp, h1, h2, hdj, rfl⟩
end Go.Ab
