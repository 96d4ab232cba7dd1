/- Contracts: the program's machine of some states. Conditions: none. -/
import Derived.Test.YtoadopegbnmfkaaMn
set_option linter.all false
namespace Go.Ab
open Go.Proofs
set_option maxRecDepth 20000
set_option maxHeartbeats 4000000

theorem k_Max (xs : List Int) (v : Int) (hv : v ∈ xs) (hb : ∀ x ∈ xs, x ≤ v) (hl : xs.length ≤ 1000000) : Fun Try.prog n_slices_Max_LI [.ro none 1 (ints xs)] (iv v) := by
  refine fun_of mixed c_slices_Max_LI rfl ⟨rfl, trivial⟩ ?_
  obtain ⟨j, hj, hjv⟩ := memg (d := 0) hv
  have h1 : ¬ (xs.length : Int) < 1 := by omega
  have h0 : 0 < xs.length := by omega
  have h00 : xs.getD 0 0 ∈ xs := getD_mem h0 0
  simp only [A_slices_Max_LI, B_slices_Max_LI_1, B_slices_Max_LI_2, B_slices_Max_LI_3, B_slices_Max_LI_4, B_slices_Max_LI_5, decide_eq_false h1, intsK_getD h0, go_sem, adopt_fun, Int.reduceLT, Int.reduceLE, Int.reduceToNat, Int.reduceNeg, Nat.reduceLT, Nat.reduceLeDiff, Nat.reduceMul, Nat.reduceSub, reduceIte, Nat.reduceEqDiff, Nat.reduceAdd, reduceCtorEq]
  intro hM
  refine ⟨h0, h0, ?_⟩
  refine wpD_lo (fun (i, _) => xs.length - i) (fun (i, m) => 1 ≤ i ∧ i ≤ xs.length ∧ m ∈ xs ∧ ∀ k, k < i → xs.getD k 0 ≤ m)
    (fun ((i, m) : Nat × Int) => ⟨L .any [(0, .ro none 1 (ints xs)), (3, iv m), (4, iv i)], L .gone []⟩)
    (1, xs.getD 0 0) ⟨Nat.le_refl _, h0, h00, fun k hk => by rw [show k = 0 by omega]; exact Int.le_refl _⟩ (by simp only [B_slices_Max_LI_6, go_sem, adopt_fun, Int.reduceLT, Int.reduceLE, Int.reduceToNat, Int.reduceNeg, Nat.reduceLT, Nat.reduceLeDiff, Nat.reduceMul, Nat.reduceSub, reduceIte, Nat.reduceEqDiff, Nat.reduceAdd, reduceCtorEq]; try rfl) ?_
  rintro ⟨i, m⟩ ⟨hi1, hi, hm, hk⟩
  have hi : i ≤ xs.length := hi
  have hm : m ∈ xs := hm
  by_cases hlt : (i : Int) < xs.length
  · have hlt1 : i < xs.length := by omega
    simp only [B_slices_Max_LI_6, B_slices_Max_LI_7, B_slices_Max_LI_8, B_slices_Max_LI_9, decide_eq_true hlt, intsK_getD hlt1, nat1 i _ hlt1 hM, go_sem, adopt_fun, Int.reduceLT, Int.reduceLE, Int.reduceToNat, Int.reduceNeg, Nat.reduceLT, Nat.reduceLeDiff, Nat.reduceMul, Nat.reduceSub, reduceIte, Nat.reduceEqDiff, Nat.reduceAdd, reduceCtorEq]
    intro _
    refine ⟨⟨by omega, hlt1⟩, hlt1, ?_⟩
    have hx := getD_mem hlt1 (0 : Int)
    refine ⟨(i + 1, if xs.getD i 0 > m then xs.getD i 0 else m), by dsimp only; omega, ⟨by dsimp only; omega, by dsimp only; omega, ?_, fun k hk' => ?_⟩, ?_⟩
    · dsimp only; split <;> assumption
    · dsimp only
      rcases Nat.lt_succ_iff_lt_or_eq.1 hk' with h | h
      · have := hk k h; split <;> omega
      · subst h; split <;> omega
    · rfl
  · have : i = xs.length := by omega
    subst this
    have hmv : m = v := by
      have h1 := hb m hm
      have h2 := hk j hj
      omega
    subst hmv
    simp only [B_slices_Max_LI_6, B_slices_Max_LI_7, B_slices_Max_LI_10, decide_eq_false hlt, go_sem, adopt_fun, Int.reduceLT, Int.reduceLE, Int.reduceToNat, Int.reduceNeg, Nat.reduceLT, Nat.reduceLeDiff, Nat.reduceMul, Nat.reduceSub, reduceIte, Nat.reduceEqDiff, Nat.reduceAdd, reduceCtorEq]
    try (intro _)

theorem fidx_idxOf (c : Int) : ∀ (xs : List Int) (i : Nat), c ∈ xs → fidx (fun y => c == y) xs i = ((i + xs.idxOf c : Nat) : Int)
  | [], _, h => by simp at h
  | x :: xs, i, h => by
    unfold fidx
    by_cases e : c = x
    · subst e; simp
    · have e2 : (c == x) = false := by simpa using e
      have h' : c ∈ xs := by rcases List.mem_cons.1 h with h | h; exact absurd h e; exact h
      rw [e2, if_neg (by simp), fidx_idxOf c xs (i + 1) h', List.idxOf_cons]
      have e3 : (x == c) = false := by simpa using fun h => e h.symm
      rw [e3]
      simp; omega

theorem k_ReduceMachine_1 (s : Int) (cs : List Int) (h : 0 ≤ s ∧ s < cs.length) : Fun Try.prog n_impl_ReduceMachine_1 [iv s, .rp [.ro none 1 (ints cs)] 0] (iv (cs.getD s.toNat 0)) := by
  refine fun_of mixed c_impl_ReduceMachine_1 rfl ⟨rfl, trivial⟩ ?_
  have h2 : s.toNat < cs.length := by omega
  simp only [A_impl_ReduceMachine_1, B_impl_ReduceMachine_1_1, intsK_getD h2, go_sem, adopt_fun, Int.reduceLT, Int.reduceLE, Int.reduceToNat, Int.reduceNeg, Nat.reduceLT, Nat.reduceLeDiff, Nat.reduceMul, Nat.reduceSub, reduceIte, Nat.reduceEqDiff, Nat.reduceAdd, reduceCtorEq]
  exact ⟨⟨h.1, h2⟩, h2⟩

theorem k_picked (n o : Int) (next out : List (List Int)) (M : Mach n o next out) (order to : List Int) (g : FuncId) (caps : List AVal) (hcap : Caps caps)
    (ho : ∀ s ∈ order, 0 ≤ s ∧ s < n) (hl : order.length ≤ 1000) (hg : ∀ s ∈ order, ∀ x < next.length, Fun Try.prog g (iv (stepA next s x) :: caps) (iv (to.getD (stepA next s x).toNat 0))) :
    NamM Try.prog n_impl_Machine_picked [machA n o next out, .ro none 1 (ints order), .clo g caps] order.length o (next.map (selN to order)) (out.map (selO order)) := by
  refine con_of mixed c_impl_Machine_picked rfl (by simp) ?_
  generalize hQ : finQ _ = Q
  have n2 := M.aut.n2
  have l1 := M.aut.l1
  have l2 := M.aut.l2
  have hml := M.len
  have hM2 := maxLen_le
  simp only [A_impl_Machine_picked, B_impl_Machine_picked_1, hcap.dn, wpD_kp, wpD_regi, go_sem, adopt_fun, Int.reduceLT, Int.reduceLE, Int.reduceToNat, Int.reduceNeg, Nat.reduceLT, Nat.reduceLeDiff, Nat.reduceMul, Nat.reduceSub, reduceIte, Nat.reduceEqDiff, Nat.reduceAdd, reduceCtorEq]
  intro vs0 U0 hN0 vs1 U1 hN1
  refine call_fun (k_size order) qCS trivial ?_
  simp only [B_impl_Machine_picked_2, B_impl_Machine_picked_3, wpD_kp, wpD_regi, go_sem, adopt_fun, Int.reduceLT, Int.reduceLE, Int.reduceToNat, Int.reduceNeg, Nat.reduceLT, Nat.reduceLeDiff, Nat.reduceMul, Nat.reduceSub, reduceIte, Nat.reduceEqDiff, Nat.reduceAdd, reduceCtorEq]
  intro vs2 U2 hN2 hMn ver1 ver2
  refine wpD_lp (fun (_, _, _, _, ps, _) => next.length - List.length ps)
    (fun (n1, n2, _, _, ps, qs) => List.map (·.2) ps = (next.take (List.length ps)).map (selN to order) ∧ List.map (·.2) qs = (out.take (List.length ps)).map (selO order) ∧ List.length ps ≤ next.length ∧ List.length qs = List.length ps ∧ DJ (ps ++ qs) ∧ (ps ≠ [] → n1 = true ∧ n2 = true))
    (fun ((n1, n2, va, vb, ps, qs) : Bool × Bool × Nat × Nat × List (Nat × List Int) × List (Nat × List Int)) =>
      ⟨L .any [(1, .ro none 1 (ints order)), (2, .clo g caps), (3, .ptr 3 (vs0 0 0) 0), (6, .ptr 6 (vs0 1 0) 0), (7, .ptr 7 (vs1 5 0) 0), (20, iv next.length), (21, iv ps.length)],
       L .gone [(3, .box (vs0 0 0) [iv n, iv o, .ro none 1 (rwn next), .ro none 1 (rwn out)]), (6, .box (vs0 1 0) [iv 0, iv 0, nilS, nilS]), (7, .box (vs1 5 0) [iv order.length, iv o, .own 61 va, .own 66 vb]), (61, .row va 1 n1 (rwp ps)), (66, .row vb 1 n2 (rwp qs)), (5000, .gone), (5001, .gone), (5002, .gone)]⟩)
    (_, _, _, _, [], []) ⟨rfl, rfl, by simp, rfl, by simp [DJ], by simp⟩ (by simp only [B_impl_Machine_picked_4, List.length_nil, rwp_nil, go_sem, adopt_fun, Int.reduceLT, Int.reduceLE, Int.reduceToNat, Int.reduceNeg, Nat.reduceLT, Nat.reduceLeDiff, Nat.reduceMul, Nat.reduceSub, reduceIte, Nat.reduceEqDiff, Nat.reduceAdd, reduceCtorEq]; try rfl) ?_
  rintro ⟨nn1, nn2, va, vb, ps, qs⟩ ⟨hp1, hp2, hp3, hp4, hp5, hp6⟩
  have hp1 : ps.map (·.2) = (next.take ps.length).map (selN to order) := hp1
  have hp2 : qs.map (·.2) = (out.take ps.length).map (selO order) := hp2
  have hp3 : ps.length ≤ next.length := hp3
  have hp4 : qs.length = ps.length := hp4
  have hp5 : DJ (ps ++ qs) := hp5
  have hp6 : ps ≠ [] → nn1 = true ∧ nn2 = true := hp6
  by_cases hlt : (ps.length : Int) < next.length
  · have hlt1 : ps.length < next.length := by omega
    have hlo : ps.length < out.length := by omega
    have hrow := M.aut.row _ (getD_mem hlt1 [])
    have hrou := M.row _ (getD_mem hlo [])
    simp only [B_impl_Machine_picked_4, B_impl_Machine_picked_5, B_impl_Machine_picked_6, decide_eq_true hlt, wpD_kp, wpD_regi, go_sem, adopt_fun, Int.reduceLT, Int.reduceLE, Int.reduceToNat, Int.reduceNeg, Nat.reduceLT, Nat.reduceLeDiff, Nat.reduceMul, Nat.reduceSub, reduceIte, Nat.reduceEqDiff, Nat.reduceAdd, reduceCtorEq]
    intro vs4 U4 hN4 vs5 U5 hN5
    simp only [B_impl_Machine_picked_7, B_impl_Machine_picked_8, B_impl_Machine_picked_9, wpD_kp, wpD_regi, go_sem, adopt_fun, Int.reduceLT, Int.reduceLE, Int.reduceToNat, Int.reduceNeg, Nat.reduceLT, Nat.reduceLeDiff, Nat.reduceMul, Nat.reduceSub, reduceIte, Nat.reduceEqDiff, Nat.reduceAdd, reduceCtorEq]
    intro vs6 U6 hN6
    intro vs7 U7 hN7 hMo
    refine wpD_lp (fun (_, _, j) => order.length - j) (fun (vc, vd, j) => j ≤ order.length ∧ vc ≠ vd)
      (fun ((vc, vd, j) : Nat × Nat × Nat) => ⟨L .any [(1, .ro none 1 (ints order)), (2, .clo g caps), (3, .ptr 3 (vs0 0 0) 0), (6, .ptr 6 (vs0 1 0) 0), (7, .ptr 7 (vs1 5 0) 0), (8, iv ps.length), (9, .own 24 vc), (10, .own 25 vd), (20, iv next.length), (21, iv ps.length), (26, .ro none 1 (ints order)), (27, iv order.length), (28, iv j)],
       L .gone [(3, .box (vs0 0 0) [iv n, iv o, .ro none 1 (rwn next), .ro none 1 (rwn out)]), (6, .box (vs0 1 0) [iv 0, iv 0, nilS, nilS]), (7, .box (vs1 5 0) [iv order.length, iv o, .own 61 va, .own 66 vb]), (24, .row vc 1 true (ints ((order.take j).map fun s => to.getD ((next.getD ps.length []).getD s.toNat 0).toNat 0))), (25, .row vd 1 true (ints ((order.take j).map fun s => (out.getD ps.length []).getD s.toNat 0))), (44, .gone), (55, .gone), (61, .row va 1 nn1 (rwp ps)), (66, .row vb 1 nn2 (rwp qs)), (5000, .gone), (5001, .gone), (5002, .gone)]⟩)
      (vs6 0 0, vs6 1 0, 0) ⟨by simp, fun e => by have := (hN6.inj _ _ _ _ e).1; omega⟩ (by simp only [B_impl_Machine_picked_10, go_sem, adopt_fun, Int.reduceLT, Int.reduceLE, Int.reduceToNat, Int.reduceNeg, Nat.reduceLT, Nat.reduceLeDiff, Nat.reduceMul, Nat.reduceSub, reduceIte, Nat.reduceEqDiff, Nat.reduceAdd, reduceCtorEq]; try rfl) ?_
    rintro ⟨vc, vd, j⟩ ⟨hj, hne⟩
    have hne : vc ≠ vd := hne
    have hj : j ≤ order.length := hj
    by_cases hjl : (j : Int) < order.length
    · have hj1 : j < order.length := by omega
      have hs := ho _ (getD_mem hj1 0)
      have hc : (order.getD j 0).toNat < (next.getD ps.length []).length := by omega
      have hc2 : (order.getD j 0).toNat < (out.getD ps.length []).length := by omega
      have hx := hrow.2 _ (getD_mem hc 0)
      have e1 := take_map_snoc (f := fun s : Int => to.getD ((next.getD ps.length []).getD s.toNat 0).toNat 0) 0 hj1
      have e2 := take_map_snoc (f := fun s : Int => (out.getD ps.length []).getD s.toNat 0) 0 hj1
      have hgs := hg _ (getD_mem hj1 0) ps.length hlt1
      have hst : stepA next (order.getD j 0) (ps.length : Int) = (next.getD ps.length []).getD (order.getD j 0).toNat 0 := by simp [stepA]
      rw [hst] at hgs
      simp only [B_impl_Machine_picked_10, B_impl_Machine_picked_11, B_impl_Machine_picked_12, B_impl_Machine_picked_13, rwn_getD hlt1, rwn_getD hlo, intsK_getD hj1, intsK_getD hc, intsK_getD hc2, decide_eq_true hjl, wpD_kp, wpD_regi, go_sem, adopt_fun, Int.reduceLT, Int.reduceLE, Int.reduceToNat, Int.reduceNeg, Nat.reduceLT, Nat.reduceLeDiff, Nat.reduceMul, Nat.reduceSub, reduceIte, Nat.reduceEqDiff, Nat.reduceAdd, reduceCtorEq]
      intro vs7 U7 hN7 vs8 U8 hN8
      refine ⟨⟨by omega, hj1⟩, hj1, ?_⟩
      intro vs9 U9 hN9
      refine ⟨⟨by omega, hlt1⟩, hlt1, ⟨hs.1, hc⟩, hc, ?_⟩
      refine call_fun hgs (by simp only [rowIs, boxIs, coe_argN, coe_argNs, coe_ro_o, coeL_nil, coeL_cons, coe_any, coe_val, coe_ro, coe_ro_nil, coe_ro_own, coe_st, coe_st_agg, coe_rp, coe_rp_ptr, coe_clo, coe_own0, coe_ptr0, coeL_intsK, coeL_rws, coeL_rwn, L_hit, L_miss, L_nil, Nat.reduceEqDiff, ne_eq, reduceCtorEq, not_false_eq_true, true_and, and_true, and_self, exists_eq_left, exists_eq_right, List.mem_cons, List.not_mem_nil, or_false, AObj.row.injEq, AObj.box.injEq, exists_eq_left', exists_and_left, exists_eq, Nat.zero_lt_one, Nat.lt_add_one, List.map_cons, List.map_nil, AObj.ver, Nat.reduceLT, not_true_eq_false]; exact hcap.coe _ _ _) trivial ?_
      simp only [B_impl_Machine_picked_14, rwn_getD hlt1, rwn_getD hlo, intsK_getD hj1, intsK_getD hc, intsK_getD hc2, e1, e2, nat1 j _ hj1 hMo, wpD_kp, wpD_regi, go_sem, adopt_fun, Int.reduceLT, Int.reduceLE, Int.reduceToNat, Int.reduceNeg, Nat.reduceLT, Nat.reduceLeDiff, Nat.reduceMul, Nat.reduceSub, reduceIte, Nat.reduceEqDiff, Nat.reduceAdd, reduceCtorEq]
      refine ⟨⟨_, rfl, rfl⟩, by rw [List.length_take]; omega, ⟨by omega, hlo⟩, hlo, ⟨hs.1, hc2⟩, hc2, ⟨_, rfl, rfl⟩, by rw [List.length_take]; omega, ?_⟩
      intro vs11 U11 hN11
      exact ⟨(vs9 12 0, vs9 23 0, j + 1), by dsimp only; omega, ⟨by dsimp only; omega, fun e => by have := (hN9.inj _ _ _ _ e).1; omega⟩, rfl⟩
    · have : j = order.length := by omega
      subst this
      simp only [B_impl_Machine_picked_10, B_impl_Machine_picked_11, B_impl_Machine_picked_15, List.take_length, decide_eq_false hjl, wpD_kp, wpD_regi, wpD_gh, go_sem, adopt_fun, Int.reduceLT, Int.reduceLE, Int.reduceToNat, Int.reduceNeg, Nat.reduceLT, Nat.reduceLeDiff, Nat.reduceMul, Nat.reduceSub, reduceIte, Nat.reduceEqDiff, Nat.reduceAdd, reduceCtorEq]
      intro vs8 U8 hN8
      intro hD
      refine ⟨[], ?_⟩
      generalize hr1 : (order.map fun s => to.getD ((next.getD ps.length []).getD s.toNat 0).toNat 0) = r1 at hD ⊢
      generalize hr2 : (order.map fun s => (out.getD ps.length []).getD s.toNat 0) = r2 at hD ⊢
      have hf1 : ∀ p ∈ ps ++ qs, p.2 = [] ∨ p.1 ≠ vc := fun p hp => by
        by_cases e : p.2 = []
        · exact .inl e
        · refine .inr ?_
          rcases List.mem_append.1 hp with hp | hp
          · exact hD 61 va 1 nn1 (rwp ps) 24 vc rfl rfl p.1 1 (ints p.2) (List.mem_map.2 ⟨p, hp, rfl⟩) (by simpa using e)
          · exact hD 66 vb 1 nn2 (rwp qs) 24 vc rfl rfl p.1 1 (ints p.2) (List.mem_map.2 ⟨p, hp, rfl⟩) (by simpa using e)
      have hf2 : ∀ p ∈ ps ++ qs, p.2 = [] ∨ p.1 ≠ vd := fun p hp => by
        by_cases e : p.2 = []
        · exact .inl e
        · refine .inr ?_
          rcases List.mem_append.1 hp with hp | hp
          · exact hD 61 va 1 nn1 (rwp ps) 25 vd rfl rfl p.1 1 (ints p.2) (List.mem_map.2 ⟨p, hp, rfl⟩) (by simpa using e)
          · exact hD 66 vb 1 nn2 (rwp qs) 25 vd rfl rfl p.1 1 (ints p.2) (List.mem_map.2 ⟨p, hp, rfl⟩) (by simpa using e)
      simp only [gwp_nil, wpD_kp, wpD_regi, go_sem, adopt_fun, Int.reduceLT, Int.reduceLE, Int.reduceToNat, Int.reduceNeg, Nat.reduceLT, Nat.reduceLeDiff, Nat.reduceMul, Nat.reduceSub, reduceIte, Nat.reduceEqDiff, Nat.reduceAdd, reduceCtorEq]
      intro vs10 U10 hN10
      rw [rwp_len, rwp_len]
      refine ⟨by omega, by omega, ?_⟩
      simp only [B_impl_Machine_picked_16, nat1 _ _ hlt1 hMn, rwp_snoc, wpD_kp, wpD_regi, go_sem, adopt_fun, Int.reduceLT, Int.reduceLE, Int.reduceToNat, Int.reduceNeg, Nat.reduceLT, Nat.reduceLeDiff, Nat.reduceMul, Nat.reduceSub, reduceIte, Nat.reduceEqDiff, Nat.reduceAdd, reduceCtorEq]
      intro vs12 U12 hN12
      refine ⟨(true, true, vs10 4 0, vs10 9 0, ps ++ [(vc, r1)], qs ++ [(vd, r2)]), by dsimp only; rw [List.length_append, List.length_singleton]; omega,
        ⟨?_, ?_, by dsimp only; rw [List.length_append, List.length_singleton]; omega, by dsimp only; rw [List.length_append, List.length_append, hp4]; rfl, DJ_two hp5 hf1 hf2 (.inr hne), by simp⟩, ?_⟩
      · dsimp only
        rw [List.map_append, hp1, List.length_append, List.length_singleton, ← take_map_snoc [] hlt1, ← hr1]; rfl
      · dsimp only
        rw [List.map_append, hp2, List.length_append, List.length_singleton, ← take_map_snoc [] hlo, ← hr2]; rfl
      · dsimp only
        rw [List.length_append, List.length_singleton]
  · have hlen : ps.length = next.length := by omega
    rw [hlen, List.take_length] at hp1
    rw [hlen, ← hml, List.take_length] at hp2
    obtain ⟨rfl, rfl⟩ := hp6 (fun e => by rw [e] at hlen; simp at hlen; omega)
    simp only [B_impl_Machine_picked_4, B_impl_Machine_picked_5, B_impl_Machine_picked_17, decide_eq_false hlt, A_impl_Machine_picked, ← hQ, wpD_kp, wpD_regi, go_sem, adopt_fun, Int.reduceLT, Int.reduceLE, Int.reduceToNat, Int.reduceNeg, Nat.reduceLT, Nat.reduceLeDiff, Nat.reduceMul, Nat.reduceSub, reduceIte, Nat.reduceEqDiff, Nat.reduceAdd, reduceCtorEq]
    intro vs3 U3 hN3 vs4 U4 hN4
    refine ⟨[61, 66], by simp, by simp, by simp, ?_⟩
    simp only [range1, List.length_singleton, renL_rwp, Nat.not_lt_zero, range1, ren_val, ren_any, ren_ro, rnNm_n, rnNm_sn, rnNm_o, rnNm_s, ren_st, ren_tup, renL_nil, renL_cons, renL_intsK, renL_rws, renL_rwn, oren_box, oren_row, oren_map, ren_own_e0, ren_own_e1, ren_own_e2, ren_ptr_e0, ren_mp_e0, ren_mp_e1, ren_own_r0, ren_own_r1, ren_own_r2, ren_ptr_r0, ren_mp_r0, ren_mp_r1, List.range_zero, callHp_nil, callHp_one, callHp_two, gone_nil, gone_one, gone_two, AVal.fresh, freshL, fresh_intsK, fresh_rws, AObj.fresh, id, Option.isSome_some, or_true, true_or, go_sem, adopt_fun, Int.reduceLT, Int.reduceLE, Int.reduceToNat, Int.reduceNeg, Nat.reduceLT, Nat.reduceLeDiff, Nat.reduceMul, Nat.reduceSub, reduceIte, Nat.reduceEqDiff, Nat.reduceAdd, reduceCtorEq]
    exact ⟨⟨fresh_rwp, fresh_rwp⟩, va, vb, ps, qs, by simp, hp1, hp2, hp5, rfl⟩

theorem k_implReduceMachine (n o : Int) (next out : List (List Int)) :
    NamMR Try.prog n_impl_ReduceMachine [machA n o next out] (machB n o next out) ((clsP next out n.toNat).1 : Int) o (redN next out n.toNat) (redU next out n.toNat) (if machB n o next out = true then 0 else 1) := by
  refine con_of mixed c_impl_ReduceMachine rfl (by simp) ?_
  generalize hQ : finQ _ = Q
  simp only [A_impl_ReduceMachine, B_impl_ReduceMachine_1, wpD_kp, wpD_regi, go_sem, adopt_fun, Int.reduceLT, Int.reduceLE, Int.reduceToNat, Int.reduceNeg, Nat.reduceLT, Nat.reduceLeDiff, Nat.reduceMul, Nat.reduceSub, reduceIte, Nat.reduceEqDiff, Nat.reduceAdd, reduceCtorEq]
  intro vs0 U0 hN0 vs1 U1 hN1
  refine call_fun (k_ValidMachine n o next out) qCS trivial ?_
  cases hv : machB n o next out with
  | false =>
    simp only [B_impl_ReduceMachine_2, Bool.false_eq_true, if_false, A_impl_ReduceMachine, ← hQ, wpD_kp, wpD_regi, go_sem, adopt_fun, Int.reduceLT, Int.reduceLE, Int.reduceToNat, Int.reduceNeg, Nat.reduceLT, Nat.reduceLeDiff, Nat.reduceMul, Nat.reduceSub, reduceIte, Nat.reduceEqDiff, Nat.reduceAdd, reduceCtorEq]
    intro vs3 U3 hN3
    refine ⟨[], by simp, by simp, by simp, ?_⟩
    simp only [Nat.not_lt_zero, range1, ren_val, ren_any, ren_ro, rnNm_n, rnNm_sn, rnNm_o, rnNm_s, ren_st, ren_tup, renL_nil, renL_cons, renL_intsK, renL_rws, renL_rwn, oren_box, oren_row, oren_map, ren_own_e0, ren_own_e1, ren_own_e2, ren_ptr_e0, ren_mp_e0, ren_mp_e1, ren_own_r0, ren_own_r1, ren_own_r2, ren_ptr_r0, ren_mp_r0, ren_mp_r1, List.range_zero, callHp_nil, callHp_one, callHp_two, gone_nil, gone_one, gone_two, AVal.fresh, freshL, fresh_intsK, fresh_rws, AObj.fresh, id, Option.isSome_some, or_true, true_or, go_sem, adopt_fun, Int.reduceLT, Int.reduceLE, Int.reduceToNat, Int.reduceNeg, Nat.reduceLT, Nat.reduceLeDiff, Nat.reduceMul, Nat.reduceSub, reduceIte, Nat.reduceEqDiff, Nat.reduceAdd, reduceCtorEq]
    unfold MachRC; rw [if_neg (by rw [hv]; simp)]; rw [hv, if_neg (by simp)]; exact ⟨rfl, rfl⟩
  | true =>
    have M := machB_iff.1 hv
    have n1 := M.aut.n1
    have n2 := M.aut.n2
    have hM2 := maxLen_le
    obtain ⟨c1, c2, c3⟩ := clsP_len next out n.toNat
    have hcn := cls_mem next out n.toNat
    have hE : (numP next out n.toNat).2 = (clsP next out n.toNat).2 := (numP_cls (out := out) M.aut n.toNat (Nat.le_refl _)).1
    simp only [B_impl_ReduceMachine_2, B_impl_ReduceMachine_3, if_true, wpD_kp, wpD_regi, go_sem, adopt_fun, Int.reduceLT, Int.reduceLE, Int.reduceToNat, Int.reduceNeg, Nat.reduceLT, Nat.reduceLeDiff, Nat.reduceMul, Nat.reduceSub, reduceIte, Nat.reduceEqDiff, Nat.reduceAdd, reduceCtorEq]
    intro vs3 U3 hN3
    refine call_rowI (k_classes n o next out M) qCS qGN ⟨_, rfl⟩ ?_
    rintro ys v7 rfl
    rw [hE]
    generalize hcl : (clsP next out n.toNat).2 = cl at c1 c3 hcn
    generalize hck : (clsP next out n.toNat).1 = ck at c2 c3 hcn
    have h00 : 0 < cl.length := by omega
    have hck1 : 1 ≤ ck := by have := c3 _ (getD_mem h00 0); omega
    have hlast : ((ck : Int) - 1) ∈ cl := by
      have := hcn (ck - 1) (by omega)
      rwa [show (((ck - 1 : Nat)) : Int) = (ck : Int) - 1 by omega] at this
    have w1 : IntKind.i64.wrap ((ck : Int) - 1 + 1) = (ck : Int) := by rw [w64 (by omega)]; omega
    simp only [B_impl_ReduceMachine_4, wpD_kp, wpD_regi, go_sem, adopt_fun, Int.reduceLT, Int.reduceLE, Int.reduceToNat, Int.reduceNeg, Nat.reduceLT, Nat.reduceLeDiff, Nat.reduceMul, Nat.reduceSub, reduceIte, Nat.reduceEqDiff, Nat.reduceAdd, reduceCtorEq]
    intro vs4 U4 hN4
    refine call_fun (k_Max cl ((ck : Int) - 1) hlast (fun x hx => by have := c3 x hx; omega) (by omega)) qCS trivial ?_
    simp only [w1, B_impl_ReduceMachine_5, wpD_kp, wpD_regi, go_sem, adopt_fun, Int.reduceLT, Int.reduceLE, Int.reduceToNat, Int.reduceNeg, Nat.reduceLT, Nat.reduceLeDiff, Nat.reduceMul, Nat.reduceSub, reduceIte, Nat.reduceEqDiff, Nat.reduceAdd, reduceCtorEq]
    refine wpD_lp (fun (_, k) => ck - k) (fun (_, k) => k ≤ ck)
      (fun ((va, k) : Nat × Nat) => ⟨L .any [(1, .ptr 1 (vs0 0 0) 0), (2, .ptr 2 (vs0 1 0) 0), (4, .ptr 4 (vs3 3 0) 0), (5, .own 13 va), (16, iv ck), (17, iv k)],
       L .gone [(1, .box (vs0 0 0) [iv n, iv o, .ro none 1 (rwn next), .ro none 1 (rwn out)]), (2, .box (vs0 1 0) [iv 0, iv 0, nilS, nilS]), (4, .box (vs3 3 0) [.own 12 v7]), (12, .row v7 1 true (ints cl)), (13, .row va 1 true (ints ((List.range k).map fun (i : Nat) => (cl.idxOf (i : Int) : Int)))), (25, .gone), (30, .gone), (1030, .gone), (5000, .gone)]⟩)
      (_, 0) (by simp) (by simp only [B_impl_ReduceMachine_6, go_sem, adopt_fun, Int.reduceLT, Int.reduceLE, Int.reduceToNat, Int.reduceNeg, Nat.reduceLT, Nat.reduceLeDiff, Nat.reduceMul, Nat.reduceSub, reduceIte, Nat.reduceEqDiff, Nat.reduceAdd, reduceCtorEq]; try rfl) ?_
    rintro ⟨va, k⟩ hk
    have hk : k ≤ ck := hk
    by_cases hlt : (k : Int) < ck
    · have hlt1 : k < ck := by omega
      have w2 : IntKind.i64.wrap ((k : Int) + 1) = ((k + 1 : Nat) : Int) := by rw [w64 (by omega)]; simp
      have hki := k_Index cl (k : Int)
      rw [fidx_idxOf _ cl 0 (hcn k hlt1), Nat.zero_add] at hki
      have e1 : ((List.range k).map fun (i : Nat) => (cl.idxOf (i : Int) : Int)) ++ [(cl.idxOf (k : Int) : Int)] = (List.range (k + 1)).map fun (i : Nat) => (cl.idxOf (i : Int) : Int) := by
        rw [List.range_succ, List.map_append]; rfl
      simp only [B_impl_ReduceMachine_6, B_impl_ReduceMachine_7, B_impl_ReduceMachine_8, decide_eq_true hlt, wpD_kp, wpD_regi, go_sem, adopt_fun, Int.reduceLT, Int.reduceLE, Int.reduceToNat, Int.reduceNeg, Nat.reduceLT, Nat.reduceLeDiff, Nat.reduceMul, Nat.reduceSub, reduceIte, Nat.reduceEqDiff, Nat.reduceAdd, reduceCtorEq]
      intro vs5 U5 hN5 vs6 U6 hN6
      simp only [B_impl_ReduceMachine_9, wpD_kp, wpD_regi, go_sem, adopt_fun, Int.reduceLT, Int.reduceLE, Int.reduceToNat, Int.reduceNeg, Nat.reduceLT, Nat.reduceLeDiff, Nat.reduceMul, Nat.reduceSub, reduceIte, Nat.reduceEqDiff, Nat.reduceAdd, reduceCtorEq]
      intro vs7 U7 hN7
      refine call_fun hki qCS trivial ?_
      simp only [B_impl_ReduceMachine_10, w2, e1, wpD_kp, wpD_regi, go_sem, adopt_fun, Int.reduceLT, Int.reduceLE, Int.reduceToNat, Int.reduceNeg, Nat.reduceLT, Nat.reduceLeDiff, Nat.reduceMul, Nat.reduceSub, reduceIte, Nat.reduceEqDiff, Nat.reduceAdd, reduceCtorEq]
      refine ⟨⟨_, rfl, rfl⟩, by rw [List.length_range]; omega, ?_⟩
      intro vs8 U8 hN8
      exact ⟨(_, k + 1), by dsimp only; omega, by dsimp only; omega, by dsimp only; rw [List.range_succ]⟩
    · have : k = ck := by omega
      subst this
      simp only [B_impl_ReduceMachine_6, B_impl_ReduceMachine_7, B_impl_ReduceMachine_11, decide_eq_false hlt, wpD_kp, wpD_regi, go_sem, adopt_fun, Int.reduceLT, Int.reduceLE, Int.reduceToNat, Int.reduceNeg, Nat.reduceLT, Nat.reduceLeDiff, Nat.reduceMul, Nat.reduceSub, reduceIte, Nat.reduceEqDiff, Nat.reduceAdd, reduceCtorEq]
      intro vs5 U5 hN5 vs6 U6 hN6
      have hred : redO next out n.toNat = (List.range k).map fun (i : Nat) => (cl.idxOf (i : Int) : Int) := by simp only [ordC, hcl, hck]
      have hlen : (redO next out n.toNat).length = k := by rw [hred]; simp
      have hP := k_picked n o next out M (redO next out n.toNat) cl n_impl_ReduceMachine_1 [.rp [.ro none 1 (ints cl)] 0] ⟨by simp only [go_sem, adopt_fun, Int.reduceLT, Int.reduceLE, Int.reduceToNat, Int.reduceNeg, Nat.reduceLT, Nat.reduceLeDiff, Nat.reduceMul, Nat.reduceSub, reduceIte, Nat.reduceEqDiff, Nat.reduceAdd, reduceCtorEq], by intros; simp only [rowIs, boxIs, coe_argN, coe_argNs, coe_ro_o, coeL_nil, coeL_cons, coe_any, coe_val, coe_ro, coe_ro_nil, coe_ro_own, coe_st, coe_st_agg, coe_rp, coe_rp_ptr, coe_clo, coe_own0, coe_ptr0, coeL_intsK, coeL_rws, coeL_rwn, L_hit, L_miss, L_nil, Nat.reduceEqDiff, ne_eq, reduceCtorEq, not_false_eq_true, true_and, and_true, and_self, exists_eq_left, exists_eq_right, List.mem_cons, List.not_mem_nil, or_false, AObj.row.injEq, AObj.box.injEq, exists_eq_left', exists_and_left, exists_eq, Nat.zero_lt_one, Nat.lt_add_one, List.map_cons, List.map_nil, AObj.ver, Nat.reduceLT, not_true_eq_false]⟩
        (fun s hs => by have := redO_mem next out hs; omega) (by rw [hlen]; omega) (fun s hs x hx => by
          have h1 := redO_mem next out hs
          have h2 := step_rg M.aut (s := s) (x := (x : Int)) ⟨h1.1, by omega⟩ ⟨by omega, by omega⟩
          exact k_ReduceMachine_1 _ cl ⟨h2.1, by omega⟩)
      rw [hlen] at hP
      have e2 : next.map (selN cl (redO next out n.toNat)) = redN next out n.toNat := by rw [← hcl]
      rw [e2] at hP
      simp only [← hred]
      refine call_machN (fun x y e => (hN6.inj _ _ _ _ e).2) hP (by simp only [rowIs, boxIs, coe_argN, coe_argNs, coe_ro_o, coeL_nil, coeL_cons, coe_any, coe_val, coe_ro, coe_ro_nil, coe_ro_own, coe_st, coe_st_agg, coe_rp, coe_rp_ptr, coe_clo, coe_own0, coe_ptr0, coeL_intsK, coeL_rws, coeL_rwn, L_hit, L_miss, L_nil, Nat.reduceEqDiff, ne_eq, reduceCtorEq, not_false_eq_true, true_and, and_true, and_self, exists_eq_left, exists_eq_right, List.mem_cons, List.not_mem_nil, or_false, AObj.row.injEq, AObj.box.injEq, exists_eq_left', exists_and_left, exists_eq, Nat.zero_lt_one, Nat.lt_add_one, List.map_cons, List.map_nil, AObj.ver, Nat.reduceLT, not_true_eq_false]) rfl rfl ?_
      intro v w ps qs h1 h2 hdj
      simp only [A_impl_ReduceMachine, ← hQ, wpD_kp, wpD_regi, go_sem, adopt_fun, Int.reduceLT, Int.reduceLE, Int.reduceToNat, Int.reduceNeg, Nat.reduceLT, Nat.reduceLeDiff, Nat.reduceMul, Nat.reduceSub, reduceIte, Nat.reduceEqDiff, Nat.reduceAdd, reduceCtorEq]
      refine ⟨[30, 1030], by simp, by simp, by simp, ?_⟩
      simp only [range1, List.length_singleton, renL_rwp, Nat.not_lt_zero, range1, ren_val, ren_any, ren_ro, rnNm_n, rnNm_sn, rnNm_o, rnNm_s, ren_st, ren_tup, renL_nil, renL_cons, renL_intsK, renL_rws, renL_rwn, oren_box, oren_row, oren_map, ren_own_e0, ren_own_e1, ren_own_e2, ren_ptr_e0, ren_mp_e0, ren_mp_e1, ren_own_r0, ren_own_r1, ren_own_r2, ren_ptr_r0, ren_mp_r0, ren_mp_r1, List.range_zero, callHp_nil, callHp_one, callHp_two, gone_nil, gone_one, gone_two, AVal.fresh, freshL, fresh_intsK, fresh_rws, AObj.fresh, id, Option.isSome_some, or_true, true_or, go_sem, adopt_fun, Int.reduceLT, Int.reduceLE, Int.reduceToNat, Int.reduceNeg, Nat.reduceLT, Nat.reduceLeDiff, Nat.reduceMul, Nat.reduceSub, reduceIte, Nat.reduceEqDiff, Nat.reduceAdd, reduceCtorEq]
      refine ⟨⟨fresh_rwp, fresh_rwp⟩, ?_⟩
      unfold MachRC
      rw [if_pos hv, if_pos hv]
      exact ⟨v, w, ps, qs, by simp, h1, h2, hdj, by rw [hck]⟩
end Go.Ab
