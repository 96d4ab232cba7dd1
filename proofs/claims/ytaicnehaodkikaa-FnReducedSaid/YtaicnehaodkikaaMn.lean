/- Contracts: the reference's machines of some states. Conditions: none. -/
import Derived.Test.YtaicnehaodkikaaPj
set_option linter.all false
namespace Go.Ab
open Go.Proofs
set_option maxRecDepth 20000
set_option maxHeartbeats 4000000

/-- A machine of the call's own, whose rows have names. -/
abbrev MachR (n o : Int) (xs ys : List (List Int)) (rows : List AObj) (res : AVal) : Prop :=
  ∃ v w ps qs, rows = [.row v 1 true (rwp ps), .row w 1 true (rwp qs)] ∧ ps.map (·.2) = xs ∧ qs.map (·.2) = ys ∧ DJ (ps ++ qs) ∧ res = .st [iv n, iv o, .own 6000 v, .own 6001 w]
abbrev NamM (P : Program) (g : FuncId) (args : List AVal) (n o : Int) (xs ys : List (List Int)) : Prop := Fn P g args (MachR n o xs ys)

theorem DJ_two {ps qs : List (Nat × List Int)} {u v : Nat} {r s : List Int} (h : DJ (ps ++ qs)) (h1 : ∀ p ∈ ps ++ qs, p.2 = [] ∨ p.1 ≠ u) (h2 : ∀ p ∈ ps ++ qs, p.2 = [] ∨ p.1 ≠ v) (h3 : r = [] ∨ u ≠ v) : DJ ((ps ++ [(u, r)]) ++ (qs ++ [(v, s)])) := by
  refine DJ_perm ?_ ((h.snoc (n := u) (xs := r) h1).snoc (n := v) (xs := s) fun p hp => ?_)
  · simp only [List.append_assoc]
    refine List.Perm.append_left _ ?_
    exact (List.perm_append_comm_assoc qs [(u, r)] [(v, s)])
  · rcases List.mem_append.1 hp with h | h
    · exact h2 p h
    · rw [List.mem_singleton.1 h]; exact h3

theorem take_map_snoc {α β : Type} {f : α → β} {l : List α} {i : Nat} (d : α) (h : i < l.length) : (l.take i).map f ++ [f (l.getD i d)] = (l.take (i + 1)).map f := by
  rw [List.take_succ_eq_append_getElem h, List.map_append, show l.getD i d = l[i] by rw [List.getD_eq_getElem?_getD, List.getElem?_eq_getElem h]; rfl]; rfl

theorem k_l06Pick (n o : Int) (next out : List (List Int)) (M : Mach n o next out) (order to : List Int) (ho : ∀ s ∈ order, 0 ≤ s ∧ s < n) (hl : order.length ≤ 1000) (ht : (to.length : Int) = n) :
    NamM Try.prog n_spec_l06Pick [machP n o next out, .ro none 1 (ints order), .ro none 1 (ints to)] order.length o (next.map (selN to order)) (out.map (selO order)) := by
  refine con_of mixed c_spec_l06Pick rfl (by simp) ?_
  generalize hQ : finQ _ = Q
  have n2 := M.aut.n2
  have l1 := M.aut.l1
  have l2 := M.aut.l2
  have hml := M.len
  simp only [A_spec_l06Pick, B_spec_l06Pick_1, wpD_kp, wpD_regi, go_sem, adopt_fun, Int.reduceLT, Int.reduceLE, Int.reduceToNat, Int.reduceNeg, Nat.reduceLT, Nat.reduceLeDiff, Nat.reduceMul, Nat.reduceSub, reduceIte, Nat.reduceEqDiff, Nat.reduceAdd, reduceCtorEq]
  intro vs0 U0 hN0 vs1 U1 hN1 hMo
  simp only [B_spec_l06Pick_2, B_spec_l06Pick_3, wpD_kp, wpD_regi, go_sem, adopt_fun, Int.reduceLT, Int.reduceLE, Int.reduceToNat, Int.reduceNeg, Nat.reduceLT, Nat.reduceLeDiff, Nat.reduceMul, Nat.reduceSub, reduceIte, Nat.reduceEqDiff, Nat.reduceAdd, reduceCtorEq]
  intro vs2 U2 hN2 ver1 ver2
  have hM2 := maxLen_le
  refine wpD_lp (fun (_, _, _, _, _, ps, _) => next.length - List.length ps)
    (fun (n1, n2, _, _, _, ps, qs) => List.map (·.2) ps = (next.take (List.length ps)).map (selN to order) ∧ List.map (·.2) qs = (out.take (List.length ps)).map (selO order) ∧ List.length ps ≤ next.length ∧ List.length qs = List.length ps ∧ DJ (ps ++ qs) ∧ (ps ≠ [] → n1 = true ∧ n2 = true))
    (fun ((n1, n2, v7, va, vb, ps, qs) : Bool × Bool × Nat × Nat × Nat × List (Nat × List Int) × List (Nat × List Int)) =>
      ⟨L .any [(0, machP n o next out), (1, .ro none 1 (ints order)), (2, .ro none 1 (ints to)), (6, .ptr 6 (vs0 0 0) 0), (7, .ptr 7 v7 0), (8, iv ps.length)],
       L .gone [(6, .box (vs0 0 0) [iv 0, iv 0, nilS, nilS]), (7, .box v7 [iv order.length, iv o, .own 75 va, .own 81 vb]), (75, .row va 1 n1 (rwp ps)), (81, .row vb 1 n2 (rwp qs)), (5000, .gone), (5001, .gone), (5002, .gone)]⟩)
    (_, _, _, _, _, [], []) ⟨rfl, rfl, by simp, rfl, by simp [DJ], by simp⟩ (by simp only [B_spec_l06Pick_4, List.length_nil, rwp_nil, go_sem, adopt_fun, Int.reduceLT, Int.reduceLE, Int.reduceToNat, Int.reduceNeg, Nat.reduceLT, Nat.reduceLeDiff, Nat.reduceMul, Nat.reduceSub, reduceIte, Nat.reduceEqDiff, Nat.reduceAdd, reduceCtorEq]; try rfl) ?_
  rintro ⟨nn1, nn2, v7, va, vb, ps, qs⟩ ⟨hp1, hp2, hp3, hp4, hp5, hp6⟩
  have hp1 : ps.map (·.2) = (next.take ps.length).map (selN to order) := hp1
  have hp2 : qs.map (·.2) = (out.take ps.length).map (selO order) := hp2
  have hp3 : ps.length ≤ next.length := hp3
  have hp4 : qs.length = ps.length := hp4
  have hp5 : DJ (ps ++ qs) := hp5
  have hp6 : ps ≠ [] → nn1 = true ∧ nn2 = true := hp6
  by_cases hlt : (ps.length : Int) < next.length
  · have hlt1 : ps.length < next.length := by omega
    have hlo : ps.length < out.length := by omega
    have hrow := M.aut.row _ (getD_mem hlt1 [])
    have hrou := M.row _ (getD_mem hlo [])
    simp only [B_spec_l06Pick_4, B_spec_l06Pick_5, B_spec_l06Pick_6, decide_eq_true hlt, wpD_kp, wpD_regi, go_sem, adopt_fun, Int.reduceLT, Int.reduceLE, Int.reduceToNat, Int.reduceNeg, Nat.reduceLT, Nat.reduceLeDiff, Nat.reduceMul, Nat.reduceSub, reduceIte, Nat.reduceEqDiff, Nat.reduceAdd, reduceCtorEq]
    intro vs4 U4 hN4 hM vs5 U5 hN5
    simp only [B_spec_l06Pick_7, B_spec_l06Pick_8, wpD_kp, wpD_regi, go_sem, adopt_fun, Int.reduceLT, Int.reduceLE, Int.reduceToNat, Int.reduceNeg, Nat.reduceLT, Nat.reduceLeDiff, Nat.reduceMul, Nat.reduceSub, reduceIte, Nat.reduceEqDiff, Nat.reduceAdd, reduceCtorEq]
    intro vs6 U6 hN6
    simp only [B_spec_l06Pick_9, wpD_kp, wpD_regi, go_sem, adopt_fun, Int.reduceLT, Int.reduceLE, Int.reduceToNat, Int.reduceNeg, Nat.reduceLT, Nat.reduceLeDiff, Nat.reduceMul, Nat.reduceSub, reduceIte, Nat.reduceEqDiff, Nat.reduceAdd, reduceCtorEq]
    intro vs7 U7 hN7
    refine wpD_lp (fun (_, _, j) => order.length - j) (fun (_, _, j) => j ≤ order.length)
      (fun ((vc, vd, j) : Nat × Nat × Nat) => ⟨L .any [(0, machP n o next out), (1, .ro none 1 (ints order)), (2, .ro none 1 (ints to)), (6, .ptr 6 (vs0 0 0) 0), (7, .ptr 7 v7 0), (8, iv ps.length), (9, .own 28 vc), (10, .own 29 vd), (11, iv j)],
       L .gone [(6, .box (vs0 0 0) [iv 0, iv 0, nilS, nilS]), (7, .box v7 [iv order.length, iv o, .own 75 va, .own 81 vb]), (28, .row vc 1 true (ints ((order.take j).map fun s => to.getD ((next.getD ps.length []).getD s.toNat 0).toNat 0))), (29, .row vd 1 true (ints ((order.take j).map fun s => (out.getD ps.length []).getD s.toNat 0))), (54, .gone), (70, .gone), (75, .row va 1 nn1 (rwp ps)), (81, .row vb 1 nn2 (rwp qs)), (5000, .gone), (5001, .gone), (5002, .gone)]⟩)
      (_, _, 0) (by simp) (by simp only [B_spec_l06Pick_10, go_sem, adopt_fun, Int.reduceLT, Int.reduceLE, Int.reduceToNat, Int.reduceNeg, Nat.reduceLT, Nat.reduceLeDiff, Nat.reduceMul, Nat.reduceSub, reduceIte, Nat.reduceEqDiff, Nat.reduceAdd, reduceCtorEq]; try rfl) ?_
    rintro ⟨vc, vd, j⟩ hj
    have hj : j ≤ order.length := hj
    by_cases hjl : (j : Int) < order.length
    · have hj1 : j < order.length := by omega
      have hs := ho _ (getD_mem hj1 0)
      have hc : (order.getD j 0).toNat < (next.getD ps.length []).length := by omega
      have hc2 : (order.getD j 0).toNat < (out.getD ps.length []).length := by omega
      have hx := hrow.2 _ (getD_mem hc 0)
      have hxt : ((next.getD ps.length []).getD (order.getD j 0).toNat 0).toNat < to.length := by omega
      have e1 := take_map_snoc (f := fun s : Int => to.getD ((next.getD ps.length []).getD s.toNat 0).toNat 0) 0 hj1
      have e2 := take_map_snoc (f := fun s : Int => (out.getD ps.length []).getD s.toNat 0) 0 hj1
      simp only [B_spec_l06Pick_10, B_spec_l06Pick_11, B_spec_l06Pick_12, rwn_getD hlt1, intsK_getD hj1, intsK_getD hc, intsK_getD hxt, e1, decide_eq_true hjl, wpD_kp, wpD_regi, go_sem, adopt_fun, Int.reduceLT, Int.reduceLE, Int.reduceToNat, Int.reduceNeg, Nat.reduceLT, Nat.reduceLeDiff, Nat.reduceMul, Nat.reduceSub, reduceIte, Nat.reduceEqDiff, Nat.reduceAdd, reduceCtorEq]
      intro vs8 U8 hN8 hMj vs9 U9 hN9
      refine ⟨⟨by omega, hlt1⟩, hlt1, ⟨by omega, hj1⟩, hj1, ⟨hs.1, hc⟩, hc, ⟨hx.1, hxt⟩, hxt, ⟨_, rfl, rfl⟩, by rw [List.length_take]; omega, ?_⟩
      simp only [B_spec_l06Pick_13, rwn_getD hlo, intsK_getD hj1, intsK_getD hc2, e2, wpD_kp, wpD_regi, go_sem, adopt_fun, Int.reduceLT, Int.reduceLE, Int.reduceToNat, Int.reduceNeg, Nat.reduceLT, Nat.reduceLeDiff, Nat.reduceMul, Nat.reduceSub, reduceIte, Nat.reduceEqDiff, Nat.reduceAdd, reduceCtorEq]
      intro vs10 U10 hN10
      refine ⟨⟨by omega, hlo⟩, hlo, ⟨by omega, hj1⟩, hj1, ⟨hs.1, hc2⟩, hc2, ⟨_, rfl, rfl⟩, by rw [List.length_take]; omega, ?_⟩
      simp only [B_spec_l06Pick_14, nat1 j _ hj1 hMo, wpD_kp, wpD_regi, go_sem, adopt_fun, Int.reduceLT, Int.reduceLE, Int.reduceToNat, Int.reduceNeg, Nat.reduceLT, Nat.reduceLeDiff, Nat.reduceMul, Nat.reduceSub, reduceIte, Nat.reduceEqDiff, Nat.reduceAdd, reduceCtorEq]
      intro vs11 U11 hN11
      exact ⟨(_, _, j + 1), by dsimp only; omega, by dsimp only; omega, rfl⟩
    · have : j = order.length := by omega
      subst this
      simp only [B_spec_l06Pick_10, B_spec_l06Pick_11, B_spec_l06Pick_15, List.take_length, decide_eq_false hjl, wpD_kp, wpD_regi, wpD_gh, go_sem, adopt_fun, Int.reduceLT, Int.reduceLE, Int.reduceToNat, Int.reduceNeg, Nat.reduceLT, Nat.reduceLeDiff, Nat.reduceMul, Nat.reduceSub, reduceIte, Nat.reduceEqDiff, Nat.reduceAdd, reduceCtorEq]
      intro vs8 U8 hN8 hMj hD
      refine ⟨[], ?_⟩
      generalize hr1 : (order.map fun s => to.getD ((next.getD ps.length []).getD s.toNat 0).toNat 0) = r1 at hD ⊢
      generalize hr2 : (order.map fun s => (out.getD ps.length []).getD s.toNat 0) = r2 at hD ⊢
      have hf1 : ∀ p ∈ ps ++ qs, p.2 = [] ∨ p.1 ≠ vc := fun p hp => by
        by_cases e : p.2 = []
        · exact .inl e
        · refine .inr ?_
          rcases List.mem_append.1 hp with hp | hp
          · exact hD 75 va 1 nn1 (rwp ps) 28 vc rfl rfl p.1 1 (ints p.2) (List.mem_map.2 ⟨p, hp, rfl⟩) (by simpa using e)
          · exact hD 81 vb 1 nn2 (rwp qs) 28 vc rfl rfl p.1 1 (ints p.2) (List.mem_map.2 ⟨p, hp, rfl⟩) (by simpa using e)
      have hf2 : ∀ p ∈ ps ++ qs, p.2 = [] ∨ p.1 ≠ vd := fun p hp => by
        by_cases e : p.2 = []
        · exact .inl e
        · refine .inr ?_
          rcases List.mem_append.1 hp with hp | hp
          · exact hD 75 va 1 nn1 (rwp ps) 29 vd rfl rfl p.1 1 (ints p.2) (List.mem_map.2 ⟨p, hp, rfl⟩) (by simpa using e)
          · exact hD 81 vb 1 nn2 (rwp qs) 29 vd rfl rfl p.1 1 (ints p.2) (List.mem_map.2 ⟨p, hp, rfl⟩) (by simpa using e)
      simp only [gwp_nil, wpD_kp, wpD_regi, go_sem, adopt_fun, Int.reduceLT, Int.reduceLE, Int.reduceToNat, Int.reduceNeg, Nat.reduceLT, Nat.reduceLeDiff, Nat.reduceMul, Nat.reduceSub, reduceIte, Nat.reduceEqDiff, Nat.reduceAdd, reduceCtorEq]
      intro vs10 U10 hN10
      rw [rwp_len]
      refine ⟨by omega, ?_⟩
      simp only [B_spec_l06Pick_16, rwp_snoc, wpD_kp, wpD_gh, go_sem, adopt_fun, Int.reduceLT, Int.reduceLE, Int.reduceToNat, Int.reduceNeg, Nat.reduceLT, Nat.reduceLeDiff, Nat.reduceMul, Nat.reduceSub, reduceIte, Nat.reduceEqDiff, Nat.reduceAdd, reduceCtorEq]
      intro hD2
      refine ⟨[], ?_⟩
      have hf3 : r1 = [] ∨ vc ≠ vd := by
        by_cases e : r1 = []
        · exact .inl e
        · exact .inr (hD2 75 (vs10 4 0) 1 true (rwp (ps ++ [(vc, r1)])) 29 vd rfl rfl vc 1 (ints r1) (List.mem_map.2 ⟨(vc, r1), by simp, rfl⟩) (by simpa using e))
      simp only [gwp_nil, wpD_kp, wpD_regi, go_sem, adopt_fun, Int.reduceLT, Int.reduceLE, Int.reduceToNat, Int.reduceNeg, Nat.reduceLT, Nat.reduceLeDiff, Nat.reduceMul, Nat.reduceSub, reduceIte, Nat.reduceEqDiff, Nat.reduceAdd, reduceCtorEq]
      intro vs11 U11 hN11
      rw [rwp_len]
      refine ⟨by omega, ?_⟩
      simp only [B_spec_l06Pick_17, nat1 _ _ hlt1 hM, rwp_snoc, wpD_kp, wpD_regi, go_sem, adopt_fun, Int.reduceLT, Int.reduceLE, Int.reduceToNat, Int.reduceNeg, Nat.reduceLT, Nat.reduceLeDiff, Nat.reduceMul, Nat.reduceSub, reduceIte, Nat.reduceEqDiff, Nat.reduceAdd, reduceCtorEq]
      intro vs12 U12 hN12
      refine ⟨(true, true, v7, vs10 4 0, vs11 4 0, ps ++ [(vc, r1)], qs ++ [(vd, r2)]), by dsimp only; rw [List.length_append, List.length_singleton]; omega,
        ⟨?_, ?_, by dsimp only; rw [List.length_append, List.length_singleton]; omega, by dsimp only; rw [List.length_append, List.length_append, hp4]; rfl, DJ_two hp5 hf1 hf2 hf3, by simp⟩, ?_⟩
      · dsimp only
        rw [List.map_append, hp1, List.length_append, List.length_singleton, ← take_map_snoc [] hlt1, ← hr1]; rfl
      · dsimp only
        rw [List.map_append, hp2, List.length_append, List.length_singleton, ← take_map_snoc [] hlo, ← hr2]; rfl
      · dsimp only
        rw [List.length_append, List.length_singleton]
  · have hlen : ps.length = next.length := by omega
    rw [hlen, List.take_length] at hp1
    rw [hlen, ← hml, List.take_length] at hp2
    obtain ⟨rfl, rfl⟩ := hp6 (fun e => by rw [e] at hlen; simp at hlen; omega)
    simp only [B_spec_l06Pick_4, B_spec_l06Pick_5, B_spec_l06Pick_18, decide_eq_false hlt, A_spec_l06Pick, ← hQ, wpD_kp, wpD_regi, go_sem, adopt_fun, Int.reduceLT, Int.reduceLE, Int.reduceToNat, Int.reduceNeg, Nat.reduceLT, Nat.reduceLeDiff, Nat.reduceMul, Nat.reduceSub, reduceIte, Nat.reduceEqDiff, Nat.reduceAdd, reduceCtorEq]
    intro vs3 U3 hN3 hM vs4 U4 hN4
    refine ⟨[75, 81], by simp, by simp, by simp, ?_⟩
    simp only [range1, List.length_singleton, renL_rwp, Nat.not_lt_zero, range1, ren_val, ren_any, ren_ro, rnNm_n, rnNm_sn, rnNm_o, rnNm_s, ren_st, ren_tup, renL_nil, renL_cons, renL_intsK, renL_rws, renL_rwn, oren_box, oren_row, oren_map, ren_own_e0, ren_own_e1, ren_own_e2, ren_ptr_e0, ren_mp_e0, ren_mp_e1, ren_own_r0, ren_own_r1, ren_own_r2, ren_ptr_r0, ren_mp_r0, ren_mp_r1, List.range_zero, callHp_nil, callHp_one, callHp_two, gone_nil, gone_one, gone_two, AVal.fresh, freshL, fresh_intsK, fresh_rws, AObj.fresh, id, Option.isSome_some, or_true, true_or, go_sem, adopt_fun, Int.reduceLT, Int.reduceLE, Int.reduceToNat, Int.reduceNeg, Nat.reduceLT, Nat.reduceLeDiff, Nat.reduceMul, Nat.reduceSub, reduceIte, Nat.reduceEqDiff, Nat.reduceAdd, reduceCtorEq]
    exact ⟨⟨fresh_rwp, fresh_rwp⟩, va, vb, ps, qs, by simp, hp1, hp2, hp5, rfl⟩
end Go.Ab

namespace Go.Ab
open Go.Proofs
set_option maxRecDepth 20000
set_option maxHeartbeats 4000000

theorem k_l06Cover (n o : Int) (next out : List (List Int)) (M : Mach n o next out) :
    Fn Try.prog n_spec_l06Cover [machP n o next out] fun rows res => ∃ v w ws, rows = [.row v 1 true (ints (covP next)), .row w 1 true (rws ws)] ∧ res = .tup [.own 6000 v, .own 6001 w] := by
  refine con_of mixed c_spec_l06Cover rfl (by simp) ?_
  have n1 := M.aut.n1
  have n2 := M.aut.n2
  have l2 := M.aut.l2
  have hM2 := maxLen_le
  generalize hQ : finQ _ = Q
  simp only [A_spec_l06Cover, B_spec_l06Cover_1, go_sem, adopt_fun, Int.reduceLT, Int.reduceLE, Int.reduceToNat, Int.reduceNeg, Nat.reduceLT, Nat.reduceLeDiff, Nat.reduceMul, Nat.reduceSub, reduceIte, Nat.reduceEqDiff, Nat.reduceAdd, reduceCtorEq]
  intro vs
  simp only [B_spec_l06Cover_2, B_spec_l06Cover_3, B_spec_l06Cover_4, go_sem, adopt_fun, Int.reduceLT, Int.reduceLE, Int.reduceToNat, Int.reduceNeg, Nat.reduceLT, Nat.reduceLeDiff, Nat.reduceMul, Nat.reduceSub, reduceIte, Nat.reduceEqDiff, Nat.reduceAdd, reduceCtorEq]
  refine ⟨⟨_, rfl, rfl⟩, fun vs2 => ?_⟩
  refine wpD_lo (fun (_, _, i, _, _) => 20 - i)
    (fun (_, _, i, L, ws) => CI n L ∧ i ≤ List.length L ∧ covR next (20 - i) i L = covP next ∧ List.length ws = List.length L ∧ ∀ w ∈ ws, List.length w < List.length L)
    (fun ((va, vb, i, L, ws) : Nat × Nat × Nat × List Int × List (List Int)) => ⟨Go.Ab.L .any [(0, machP n o next out), (4, .own 9 va), (5, .own 11 vb), (6, iv i)], Go.Ab.L .gone [(9, .row va 1 true (ints L)), (11, .row vb 1 true (rws ws))]⟩)
    (_, _, 0, [0], [[]]) ⟨CI0 n1, by simp, rfl, rfl, by simp⟩ (by simp only [B_spec_l06Cover_5, go_sem, adopt_fun, Int.reduceLT, Int.reduceLE, Int.reduceToNat, Int.reduceNeg, Nat.reduceLT, Nat.reduceLeDiff, Nat.reduceMul, Nat.reduceSub, reduceIte, Nat.reduceEqDiff, Nat.reduceAdd, reduceCtorEq]; try rfl) ?_
  rintro ⟨va, vb, i, Ls, ws⟩ ⟨hI, hi, hR, hwl, hwb⟩
  have hi : i ≤ Ls.length := hi
  have hwl : ws.length = Ls.length := hwl
  have hlen := (hI.len n2).2
  by_cases hlt : (i : Int) < Ls.length
  · have hlt1 : i < Ls.length := by omega
    have hs := hI.rg _ (getD_mem hlt1 0)
    simp only [B_spec_l06Cover_5, B_spec_l06Cover_6, B_spec_l06Cover_7, B_spec_l06Cover_8, decide_eq_true hlt, go_sem, adopt_fun, Int.reduceLT, Int.reduceLE, Int.reduceToNat, Int.reduceNeg, Nat.reduceLT, Nat.reduceLeDiff, Nat.reduceMul, Nat.reduceSub, reduceIte, Nat.reduceEqDiff, Nat.reduceAdd, reduceCtorEq]
    intro hM
    refine wpD_lo (fun (_, _, x, _) => next.length - x)
      (fun (_, _, x, ws') => x ≤ next.length ∧ List.length ws' = (covV next (Ls.getD i 0) x Ls).length ∧ ∀ w ∈ ws', List.length w < (covV next (Ls.getD i 0) x Ls).length)
      (fun ((va, vb, x, ws') : Nat × Nat × Nat × List (List Int)) => ⟨Go.Ab.L .any [(0, machP n o next out), (4, .own 9 va), (5, .own 11 vb), (6, iv i), (7, iv x)], Go.Ab.L .gone [(9, .row va 1 true (ints (covV next (Ls.getD i 0) x Ls))), (11, .row vb 1 true (rws ws'))]⟩)
      (va, vb, 0, ws) ⟨by simp, hwl, hwb⟩ (by simp only [B_spec_l06Cover_9, go_sem, adopt_fun, Int.reduceLT, Int.reduceLE, Int.reduceToNat, Int.reduceNeg, Nat.reduceLT, Nat.reduceLeDiff, Nat.reduceMul, Nat.reduceSub, reduceIte, Nat.reduceEqDiff, Nat.reduceAdd, reduceCtorEq]; try rfl) ?_
    rintro ⟨va, vb, x, ws'⟩ ⟨hx, hwl', hwb'⟩
    have hx : x ≤ next.length := hx
    obtain ⟨hI', ⟨t, ht⟩, _⟩ := covV_ok M.aut hs hI x hx
    have hlen' := (hI'.len n2).2
    have hsu : covV next (Ls.getD i 0) (x + 1) Ls = if (covV next (Ls.getD i 0) x Ls).contains (stepA next (Ls.getD i 0) x) then covV next (Ls.getD i 0) x Ls else covV next (Ls.getD i 0) x Ls ++ [stepA next (Ls.getD i 0) x] := rfl
    by_cases hxl : (x : Int) < next.length
    · have hxl1 : x < next.length := by omega
      have hrow := M.aut.row _ (getD_mem hxl1 [])
      have hat : (covV next (Ls.getD i 0) x Ls).getD i 0 = Ls.getD i 0 := by rw [ht, getD_app hlt1]
      have hil : i < (covV next (Ls.getD i 0) x Ls).length := by rw [ht, List.length_append]; omega
      have hsz : (Ls.getD i 0).toNat < (next.getD x []).length := by omega
      have hst : (next.getD x []).getD (Ls.getD i 0).toNat 0 = stepA next (Ls.getD i 0) x := by simp [stepA]
      have w1 : IntKind.i64.wrap ((x : Int) + 1) = ((x + 1 : Nat) : Int) := by rw [w64 (by omega)]; simp
      dsimp only
      generalize hV : covV next (Ls.getD i 0) x Ls = V at hI' hlen' hsu hat hil hwl' hwb' ⊢
      have hwl' : ws'.length = V.length := hwl'
      have hiw : i < ws'.length := by omega
      simp only [B_spec_l06Cover_9, B_spec_l06Cover_10, B_spec_l06Cover_11, decide_eq_true hxl, rwn_getD hxl1, intsK_getD hil, hat, intsK_getD hsz, hst, go_sem, adopt_fun, Int.reduceLT, Int.reduceLE, Int.reduceToNat, Int.reduceNeg, Nat.reduceLT, Nat.reduceLeDiff, Nat.reduceMul, Nat.reduceSub, reduceIte, Nat.reduceEqDiff, Nat.reduceAdd, reduceCtorEq]
      intro hM3
      refine ⟨⟨by omega, hxl1⟩, hxl1, ⟨by omega, hil⟩, hil, ⟨hs.1, hsz⟩, hsz, ?_⟩
      simp only [B_spec_l06Cover_12, go_sem, adopt_fun, Int.reduceLT, Int.reduceLE, Int.reduceToNat, Int.reduceNeg, Nat.reduceLT, Nat.reduceLeDiff, Nat.reduceMul, Nat.reduceSub, reduceIte, Nat.reduceEqDiff, Nat.reduceAdd, reduceCtorEq]
      intro vs4
      refine call_fun (k_l00Has V (stepA next (Ls.getD i 0) x)) qCS trivial ?_
      cases hc : V.contains (stepA next (Ls.getD i 0) x) with
      | true =>
        rw [hc, if_pos rfl] at hsu
        simp only [B_spec_l06Cover_13, B_spec_l06Cover_15, w1, go_sem, adopt_fun, Int.reduceLT, Int.reduceLE, Int.reduceToNat, Int.reduceNeg, Nat.reduceLT, Nat.reduceLeDiff, Nat.reduceMul, Nat.reduceSub, reduceIte, Nat.reduceEqDiff, Nat.reduceAdd, reduceCtorEq]
        exact ⟨(va, vb, x + 1, ws'), by dsimp only; omega, ⟨by dsimp only; omega, by dsimp only; rw [hsu]; exact hwl', by dsimp only; rw [hsu]; exact hwb'⟩, by dsimp only; rw [hsu]⟩
      | false =>
        rw [hc, if_neg (by simp)] at hsu
        have hwi := hwb' _ (getD_mem hiw [])
        simp only [B_spec_l06Cover_13, B_spec_l06Cover_14, go_sem, adopt_fun, Int.reduceLT, Int.reduceLE, Int.reduceToNat, Int.reduceNeg, Nat.reduceLT, Nat.reduceLeDiff, Nat.reduceMul, Nat.reduceSub, reduceIte, Nat.reduceEqDiff, Nat.reduceAdd, reduceCtorEq]
        intro vs5
        refine ⟨⟨_, rfl, rfl⟩, by omega, ?_⟩
        intro vs6
        simp only [rws_getD hiw, go_sem, adopt_fun, Int.reduceLT, Int.reduceLE, Int.reduceToNat, Int.reduceNeg, Nat.reduceLT, Nat.reduceLeDiff, Nat.reduceMul, Nat.reduceSub, reduceIte, Nat.reduceEqDiff, Nat.reduceAdd, reduceCtorEq]
        refine ⟨⟨by omega, hiw⟩, hiw, ?_⟩
        refine call_rowI (k_l00Own (ws'.getD i []) (by omega)) qCS qGN ⟨_, rfl⟩ ?_
        rintro xs v8 rfl
        simp only [B_spec_l06Cover_15, w1, go_sem, adopt_fun, Int.reduceLT, Int.reduceLE, Int.reduceToNat, Int.reduceNeg, Nat.reduceLT, Nat.reduceLeDiff, Nat.reduceMul, Nat.reduceSub, reduceIte, Nat.reduceEqDiff, Nat.reduceAdd, reduceCtorEq]
        refine ⟨⟨_, rfl, rfl⟩, by omega, by omega, ?_⟩
        refine ⟨(_, _, x + 1, ws' ++ [ws'.getD i [] ++ [(x : Int)]]), by dsimp only; omega, ⟨by dsimp only; omega, ?_, ?_⟩, by dsimp only; rw [hsu]⟩
        · dsimp only; rw [hsu, List.length_append, List.length_append, hwl']; rfl
        · dsimp only; rw [hsu, List.length_append, List.length_singleton]
          intro w hw
          rcases List.mem_append.1 hw with hw | hw
          · have := hwb' w hw; omega
          · rw [List.mem_singleton.1 hw, List.length_append, List.length_singleton]; omega
    · have : x = next.length := by omega
      subst this
      have w1 : IntKind.i64.wrap ((i : Int) + 1) = ((i + 1 : Nat) : Int) := by rw [w64 (by omega)]; simp
      simp only [B_spec_l06Cover_9, B_spec_l06Cover_10, B_spec_l06Cover_16, w1, decide_eq_false hxl, go_sem, adopt_fun, Int.reduceLT, Int.reduceLE, Int.reduceToNat, Int.reduceNeg, Nat.reduceLT, Nat.reduceLeDiff, Nat.reduceMul, Nat.reduceSub, reduceIte, Nat.reduceEqDiff, Nat.reduceAdd, reduceCtorEq]
      intro hM3
      obtain ⟨F, hF⟩ : ∃ F, 20 - i = F + 1 := ⟨19 - i, by omega⟩
      have hF2 : 20 - (i + 1) = F := by omega
      rw [hF] at hR
      simp only [covR, if_pos hlt1] at hR
      refine ⟨(va, vb, i + 1, covV next (Ls.getD i 0) next.length Ls, ws'), by dsimp only; omega, ⟨hI', by dsimp only; rw [ht, List.length_append]; omega, by dsimp only; rw [hF2]; exact hR, hwl', hwb'⟩, rfl⟩
  · have : i = Ls.length := by omega
    subst this
    have hend : Ls = covP next := by
      obtain ⟨F, hF⟩ : ∃ F, 20 - Ls.length = F + 1 := ⟨19 - Ls.length, by omega⟩
      rw [hF] at hR
      simpa only [covR, Nat.lt_irrefl, if_false] using hR
    simp only [B_spec_l06Cover_5, B_spec_l06Cover_6, B_spec_l06Cover_17, decide_eq_false hlt, A_spec_l06Cover, ← hQ, go_sem, adopt_fun, Int.reduceLT, Int.reduceLE, Int.reduceToNat, Int.reduceNeg, Nat.reduceLT, Nat.reduceLeDiff, Nat.reduceMul, Nat.reduceSub, reduceIte, Nat.reduceEqDiff, Nat.reduceAdd, reduceCtorEq]
    intro hM
    refine ⟨[9, 11], by simp, by simp, by simp, ?_⟩
    simp only [range1, List.length_singleton, Nat.not_lt_zero, range1, ren_val, ren_any, ren_ro, rnNm_n, rnNm_sn, rnNm_o, rnNm_s, ren_st, ren_tup, renL_nil, renL_cons, renL_intsK, renL_rws, renL_rwn, oren_box, oren_row, oren_map, ren_own_e0, ren_own_e1, ren_own_e2, ren_ptr_e0, ren_mp_e0, ren_mp_e1, ren_own_r0, ren_own_r1, ren_own_r2, ren_ptr_r0, ren_mp_r0, ren_mp_r1, List.range_zero, callHp_nil, callHp_one, callHp_two, gone_nil, gone_one, gone_two, AVal.fresh, freshL, fresh_intsK, fresh_rws, AObj.fresh, id, Option.isSome_some, or_true, true_or, go_sem, adopt_fun, Int.reduceLT, Int.reduceLE, Int.reduceToNat, Int.reduceNeg, Nat.reduceLT, Nat.reduceLeDiff, Nat.reduceMul, Nat.reduceSub, reduceIte, Nat.reduceEqDiff, Nat.reduceAdd, reduceCtorEq]
    exact ⟨va, vb, ws, by rw [hend], rfl⟩
end Go.Ab

namespace Go.Ab
open Go.Proofs
set_option maxRecDepth 20000
set_option maxHeartbeats 4000000

/-- The same without names. -/
abbrev MachS (n o : Int) (xs ys : List (List Int)) (rows : List AObj) (res : AVal) : Prop :=
  ∃ v w, rows = [.row v 1 true (rws xs), .row w 1 true (rws ys)] ∧ res = .st [iv n, iv o, .own 6000 v, .own 6001 w]
theorem NamM.dn {P : Program} {g : FuncId} {args : List AVal} {n o : Int} {xs ys : List (List Int)} (h : NamM P g args n o xs ys) : Fn P g args (MachS n o xs ys) := by
  refine Con.dnr h ?_
  rintro o' r x ⟨rfl, v, w, ps, qs, rfl, rfl, rfl, _, rfl⟩
  refine ⟨rfl, v, w, ?_, ?_⟩
  · simp only [List.map_cons, List.map_nil, AObj.dn, dnL_rwp]
  · simp only [AVal.dn, dnL]
/-- A machine whose rows have names, and a code, or an empty one. -/
abbrev MachRC (ok : Bool) (n o : Int) (xs ys : List (List Int)) (code : Int) (rows : List AObj) (res : AVal) : Prop :=
  if ok = true then ∃ v w ps qs, rows = [.row v 1 true (rwp ps), .row w 1 true (rwp qs)] ∧ ps.map (·.2) = xs ∧ qs.map (·.2) = ys ∧ DJ (ps ++ qs) ∧ res = .tup [.st [iv n, iv o, .own 6000 v, .own 6001 w], iv code]
  else rows = [] ∧ res = .tup [.st [iv 0, iv 0, nilS, nilS], iv code]
abbrev NamMR (P : Program) (g : FuncId) (args : List AVal) (ok : Bool) (n o : Int) (xs ys : List (List Int)) (code : Int) : Prop := Fn P g args (MachRC ok n o xs ys code)
abbrev MachSC (n o : Int) (xs ys : List (List Int)) (rows : List AObj) (res : AVal) : Prop :=
  ∃ v w, rows = [.row v 1 true (rws xs), .row w 1 true (rws ys)] ∧ res = .tup [.st [iv n, iv o, .own 6000 v, .own 6001 w], iv 0]
theorem NamMR.dn {P : Program} {g : FuncId} {args : List AVal} {ok : Bool} {n o : Int} {xs ys : List (List Int)} {code : Int} (h : NamMR P g args ok n o xs ys code) (hok : ok = true) (hc : code = 0) : Fn P g args (MachSC n o xs ys) := by
  subst hok hc
  refine Con.dnr h ?_
  rintro o' r x ⟨rfl, hR⟩
  unfold MachRC at hR
  rw [if_pos rfl] at hR
  obtain ⟨v, w, ps, qs, rfl, rfl, rfl, _, rfl⟩ := hR
  refine ⟨rfl, v, w, ?_, ?_⟩
  · simp only [List.map_cons, List.map_nil, AObj.dn, dnL_rwp]
  · simp only [AVal.dn, dnL]
theorem call_machC {P : Program} {pu : Bool} {σ : St} {g : FuncId} {As args : List AVal} {d : Nat} {s : Nat → Nat} {K : St → Prop} {n o : Int} {x y : List (List Int)}
    (h : Fn P g args (MachSC n o x y)) (hco : CoeL σ.hp [] true args As) (hg : σ.hp d = .gone) (hg2 : σ.hp (d + 1000) = .gone)
    (hk : ∀ v w, K (St.put ⟨σ.tm, upd (upd σ.hp d (.row v 1 true (rws x))) (d + 1000) (.row w 1 true (rws y))⟩ (some d) (.tup [.st [iv n, iv o, .own d v, .own (d + 1000) w], iv 0]))) : wpCall P pu σ g As (some d) s K := by
  refine call_fn h hco (fun _ => ⟨_, _, 0, 0, rfl, rfl⟩) ?_
  rintro rows res ⟨v, w, rfl, rfl⟩
  refine ⟨by simp, ?_, ?_⟩
  · simp only [Option.getD_some, gone_two]; exact ⟨hg, hg2⟩
  · simp only [Option.getD_some, List.length_cons, List.length_nil, Nat.zero_add, Nat.reduceAdd, Nat.not_lt_zero, range1, ren_val, ren_any, ren_ro, rnNm_n, rnNm_sn, rnNm_o, rnNm_s, ren_st, ren_tup, renL_nil, renL_cons, renL_intsK, renL_rws, renL_rwn, oren_box, oren_row, oren_map, ren_own_e0, ren_own_e1, ren_own_e2, ren_ptr_e0, ren_mp_e0, ren_mp_e1, ren_own_r0, ren_own_r1, ren_own_r2, ren_ptr_r0, ren_mp_r0, ren_mp_r1, List.range_zero, callHp_nil, callHp_one, callHp_two, gone_nil, gone_one, gone_two, AVal.fresh, freshL, fresh_intsK, fresh_rws, AObj.fresh, id, Option.isSome_some, or_true, true_or]
    exact hk _ _

theorem k_l06Reduce (n o : Int) (next out : List (List Int)) (M : Mach n o next out) :
    NamM Try.prog n_spec_l06Reduce [machP n o next out] ((clsP next out n.toNat).1 : Int) o (redN next out n.toNat) (redU next out n.toNat) := by
  refine con_of mixed c_spec_l06Reduce rfl (by simp) ?_
  have n1 := M.aut.n1
  have n2 := M.aut.n2
  have hM2 := maxLen_le
  obtain ⟨c1, c2, c3⟩ := clsP_len next out n.toNat
  generalize hQ : finQ _ = Q
  simp only [A_spec_l06Reduce, B_spec_l06Reduce_1, wpD_kp, wpD_regi, go_sem, adopt_fun, Int.reduceLT, Int.reduceLE, Int.reduceToNat, Int.reduceNeg, Nat.reduceLT, Nat.reduceLeDiff, Nat.reduceMul, Nat.reduceSub, reduceIte, Nat.reduceEqDiff, Nat.reduceAdd, reduceCtorEq]
  intro vs0 U0 hN0 vs1 U1 hN1
  refine call_rowI (k_l06Classes n o next out M) qCS qGN ⟨_, rfl⟩ ?_
  rintro ys v7 rfl
  simp only [B_spec_l06Reduce_2, B_spec_l06Reduce_3, wpD_kp, wpD_regi, go_sem, adopt_fun, Int.reduceLT, Int.reduceLE, Int.reduceToNat, Int.reduceNeg, Nat.reduceLT, Nat.reduceLeDiff, Nat.reduceMul, Nat.reduceSub, reduceIte, Nat.reduceEqDiff, Nat.reduceAdd, reduceCtorEq]
  intro vs2 U2 hN2
  simp only [B_spec_l06Reduce_4, wpD_kp, wpD_regi, go_sem, adopt_fun, Int.reduceLT, Int.reduceLE, Int.reduceToNat, Int.reduceNeg, Nat.reduceLT, Nat.reduceLeDiff, Nat.reduceMul, Nat.reduceSub, reduceIte, Nat.reduceEqDiff, Nat.reduceAdd, reduceCtorEq]
  intro vs3 U3 hN3
  refine wpD_lp (fun (_, s) => n.toNat - s) (fun (_, s) => s ≤ n.toNat)
    (fun ((va, s) : Nat × Nat) => ⟨Go.Ab.L .any [(0, machP n o next out), (2, .ptr 2 (vs0 0 0) 0), (3, .own 7 v7), (4, .own 8 va), (5, iv s)],
      Go.Ab.L .gone [(2, .box (vs0 0 0) [iv 0, iv 0, nilS, nilS]), (7, .row v7 1 true (ints (clsP next out n.toNat).2)), (8, .row va 1 true (ints (ordC next out n.toNat s))), (27, .gone), (31, .gone), (1031, .gone), (5000, .gone)]⟩)
    (_, 0) (by simp) (by simp only [B_spec_l06Reduce_5, go_sem, adopt_fun, Int.reduceLT, Int.reduceLE, Int.reduceToNat, Int.reduceNeg, Nat.reduceLT, Nat.reduceLeDiff, Nat.reduceMul, Nat.reduceSub, reduceIte, Nat.reduceEqDiff, Nat.reduceAdd, reduceCtorEq]; try rfl) ?_
  rintro ⟨va, s⟩ hs
  have hs : s ≤ n.toNat := hs
  by_cases hlt : (s : Int) < n
  · have hlt1 : s < n.toNat := by omega
    have hc : s < (clsP next out n.toNat).2.length := by omega
    have w1 : IntKind.i64.wrap ((s : Int) + 1) = ((s + 1 : Nat) : Int) := by rw [w64 (by omega)]; simp
    have hsu := ordC_succ next out hlt1
    have hol : (ordC next out n.toNat s).length ≤ s := by
      unfold ordC; rw [List.length_map, List.length_range]; exact (clsP_len next out s).2.1
    simp only [B_spec_l06Reduce_5, B_spec_l06Reduce_6, B_spec_l06Reduce_7, decide_eq_true hlt, intsK_getD hc, wpD_kp, wpD_regi, go_sem, adopt_fun, Int.reduceLT, Int.reduceLE, Int.reduceToNat, Int.reduceNeg, Nat.reduceLT, Nat.reduceLeDiff, Nat.reduceMul, Nat.reduceSub, reduceIte, Nat.reduceEqDiff, Nat.reduceAdd, reduceCtorEq]
    intro vs4 U4 hN4 vs5 U5 hN5
    refine ⟨⟨by omega, hc⟩, hc, ?_⟩
    intro hMo
    by_cases he : (clsP next out n.toNat).2.getD s 0 = ((ordC next out n.toNat s).length : Int)
    · rw [if_pos he] at hsu
      have hb : ((clsP next out n.toNat).2.getD s 0 == ((ordC next out n.toNat s).length : Int)) = true := by simpa using he
      simp only [hb, B_spec_l06Reduce_8, B_spec_l06Reduce_9, w1, wpD_kp, wpD_regi, go_sem, adopt_fun, Int.reduceLT, Int.reduceLE, Int.reduceToNat, Int.reduceNeg, Nat.reduceLT, Nat.reduceLeDiff, Nat.reduceMul, Nat.reduceSub, reduceIte, Nat.reduceEqDiff, Nat.reduceAdd, reduceCtorEq]
      intro vs6 U6 hN6
      refine ⟨⟨_, rfl, rfl⟩, by omega, ?_⟩
      intro vs7 U7 hN7
      exact ⟨(vs6 3 0, s + 1), by dsimp only; omega, by dsimp only; omega, by dsimp only; rw [hsu]⟩
    · rw [if_neg he] at hsu
      have hb : ((clsP next out n.toNat).2.getD s 0 == ((ordC next out n.toNat s).length : Int)) = false := by simpa using he
      simp only [hb, B_spec_l06Reduce_8, B_spec_l06Reduce_9, w1, wpD_kp, wpD_regi, go_sem, adopt_fun, Int.reduceLT, Int.reduceLE, Int.reduceToNat, Int.reduceNeg, Nat.reduceLT, Nat.reduceLeDiff, Nat.reduceMul, Nat.reduceSub, reduceIte, Nat.reduceEqDiff, Nat.reduceAdd, reduceCtorEq]
      intro vs7 U7 hN7
      exact ⟨(va, s + 1), by dsimp only; omega, by dsimp only; omega, by dsimp only; rw [hsu]⟩
  · have : s = n.toNat := by omega
    subst this
    simp only [B_spec_l06Reduce_5, B_spec_l06Reduce_6, B_spec_l06Reduce_10, decide_eq_false hlt, wpD_kp, wpD_regi, go_sem, adopt_fun, Int.reduceLT, Int.reduceLE, Int.reduceToNat, Int.reduceNeg, Nat.reduceLT, Nat.reduceLeDiff, Nat.reduceMul, Nat.reduceSub, reduceIte, Nat.reduceEqDiff, Nat.reduceAdd, reduceCtorEq]
    intro vs4 U4 hN4 vs5 U5 hN5
    refine call_machN (fun x y e => (hN5.inj _ _ _ _ e).2) (k_l06Pick n o next out M (redO next out n.toNat) (clsP next out n.toNat).2 (fun s hs => by have := redO_mem next out hs; omega) (by rw [redO_len]; omega) (by omega)) qCS rfl rfl ?_
    intro v w ps qs h1 h2 hdj
    simp only [redO_len, A_spec_l06Reduce, ← hQ, wpD_kp, wpD_regi, go_sem, adopt_fun, Int.reduceLT, Int.reduceLE, Int.reduceToNat, Int.reduceNeg, Nat.reduceLT, Nat.reduceLeDiff, Nat.reduceMul, Nat.reduceSub, reduceIte, Nat.reduceEqDiff, Nat.reduceAdd, reduceCtorEq]
    refine ⟨[31, 1031], by simp, by simp, by simp, ?_⟩
    simp only [range1, List.length_singleton, renL_rwp, Nat.not_lt_zero, range1, ren_val, ren_any, ren_ro, rnNm_n, rnNm_sn, rnNm_o, rnNm_s, ren_st, ren_tup, renL_nil, renL_cons, renL_intsK, renL_rws, renL_rwn, oren_box, oren_row, oren_map, ren_own_e0, ren_own_e1, ren_own_e2, ren_ptr_e0, ren_mp_e0, ren_mp_e1, ren_own_r0, ren_own_r1, ren_own_r2, ren_ptr_r0, ren_mp_r0, ren_mp_r1, List.range_zero, callHp_nil, callHp_one, callHp_two, gone_nil, gone_one, gone_two, AVal.fresh, freshL, fresh_intsK, fresh_rws, AObj.fresh, id, Option.isSome_some, or_true, true_or, go_sem, adopt_fun, Int.reduceLT, Int.reduceLE, Int.reduceToNat, Int.reduceNeg, Nat.reduceLT, Nat.reduceLeDiff, Nat.reduceMul, Nat.reduceSub, reduceIte, Nat.reduceEqDiff, Nat.reduceAdd, reduceCtorEq]
    exact ⟨⟨fresh_rwp, fresh_rwp⟩, v, w, ps, qs, by simp, h1, h2, hdj, rfl⟩

def toK (n : Nat) (L : List Int) (i : Nat) : List Int := (List.range n).map fun (s : Nat) => if (s : Int) ∈ L.take i then (L.idxOf (s : Int) : Int) else 0
theorem toK_zero {n : Nat} {L : List Int} : toK n L 0 = List.replicate n 0 := by
  refine List.ext_getElem (by simp [toK]) fun j h1 h2 => by simp [toK]
theorem toK_all {n : Nat} {L : List Int} : toK n L L.length = toT n L := by simp [toK, toT]
theorem toK_put {n : Int} {L : List Int} (C : CI n L) {i : Nat} (hi : i < L.length) :
    (toK n.toNat L i).take (L.getD i 0).toNat ++ [(i : Int)] ++ (toK n.toNat L i).drop ((L.getD i 0).toNat + 1) = toK n.toNat L (i + 1) := by
  have hs := C.rg _ (getD_mem hi 0)
  have hl : ∀ k, (toK n.toNat L k).length = n.toNat := fun k => by simp [toK]
  have hix := idx_nd C.nd hi
  have htk : L.take (i + 1) = L.take i ++ [L.getD i 0] := by
    rw [List.take_succ_eq_append_getElem hi, List.getD_eq_getElem?_getD, List.getElem?_eq_getElem hi]; rfl
  generalize hp : L.getD i 0 = p at hs hix htk ⊢
  have e := List.set_eq_take_append_cons_drop (l := toK n.toNat L i) (i := p.toNat) (a := (i : Int))
  rw [if_pos (by rw [hl]; omega)] at e
  rw [List.append_assoc, List.singleton_append, ← e]
  refine List.ext_getElem (by rw [List.length_set, hl, hl]) fun j h1 h2 => ?_
  rw [hl] at h2
  rw [List.getElem_set]
  simp only [toK, List.getElem_map, List.getElem_range, htk, List.mem_append, List.mem_singleton]
  by_cases ej : p.toNat = j
  · rw [if_pos ej]
    have : ((j : Nat) : Int) = p := by omega
    rw [this, if_pos (.inr rfl), hix]
  · rw [if_neg ej]
    have : ¬ ((j : Nat) : Int) = p := by omega
    simp [this]

theorem k_l06Trim (n o : Int) (next out : List (List Int)) (M : Mach n o next out) :
    NamM Try.prog n_spec_l06Trim [machP n o next out] ((covP next).length : Int) o (trmN next n.toNat) (trmU next out) := by
  refine con_of mixed c_spec_l06Trim rfl (by simp) ?_
  have n1 := M.aut.n1
  have n2 := M.aut.n2
  have hM2 := maxLen_le
  obtain ⟨C1, _⟩ := covP_ok M.aut
  have hcl := C1.len n2
  generalize hQ : finQ _ = Q
  simp only [A_spec_l06Trim, B_spec_l06Trim_1, wpD_kp, wpD_regi, go_sem, adopt_fun, Int.reduceLT, Int.reduceLE, Int.reduceToNat, Int.reduceNeg, Nat.reduceLT, Nat.reduceLeDiff, Nat.reduceMul, Nat.reduceSub, reduceIte, Nat.reduceEqDiff, Nat.reduceAdd, reduceCtorEq]
  intro vs0 U0 hN0 vs1 U1 hN1
  refine call_fn (k_l06Cover n o next out M) qCS (fun e => by cases e) ?_
  rintro rows res ⟨v9, v1009, ws, rfl, rfl⟩
  refine ⟨by simp, by simp only [Option.getD_some, gone_two]; exact ⟨rfl, rfl⟩, ?_⟩
  simp only [Option.getD_some, List.length_cons, List.length_nil, B_spec_l06Trim_2, wpD_kp, wpD_regi, Nat.not_lt_zero, range1, ren_val, ren_any, ren_ro, rnNm_n, rnNm_sn, rnNm_o, rnNm_s, ren_st, ren_tup, renL_nil, renL_cons, renL_intsK, renL_rws, renL_rwn, oren_box, oren_row, oren_map, ren_own_e0, ren_own_e1, ren_own_e2, ren_ptr_e0, ren_mp_e0, ren_mp_e1, ren_own_r0, ren_own_r1, ren_own_r2, ren_ptr_r0, ren_mp_r0, ren_mp_r1, List.range_zero, callHp_nil, callHp_one, callHp_two, gone_nil, gone_one, gone_two, AVal.fresh, freshL, fresh_intsK, fresh_rws, AObj.fresh, id, Option.isSome_some, or_true, true_or, go_sem, adopt_fun, Int.reduceLT, Int.reduceLE, Int.reduceToNat, Int.reduceNeg, Nat.reduceLT, Nat.reduceLeDiff, Nat.reduceMul, Nat.reduceSub, reduceIte, Nat.reduceEqDiff, Nat.reduceAdd, reduceCtorEq]
  intro vs2 U2 hN2
  simp only [B_spec_l06Trim_3, B_spec_l06Trim_4, wpD_kp, wpD_regi, go_sem, adopt_fun, Int.reduceLT, Int.reduceLE, Int.reduceToNat, Int.reduceNeg, Nat.reduceLT, Nat.reduceLeDiff, Nat.reduceMul, Nat.reduceSub, reduceIte, Nat.reduceEqDiff, Nat.reduceAdd, reduceCtorEq]
  refine ⟨⟨by omega, by omega, by omega, by omega⟩, ?_⟩
  intro vs3 U3 hN3
  have hMc : (covP next).length ≤ maxLen := by have : 10 ≤ maxLen := by decide
                                               omega
  refine wpD_lp (fun i => (covP next).length - i) (fun i => i ≤ (covP next).length)
    (fun i : Nat => ⟨Go.Ab.L .any [(0, machP n o next out), (2, .ptr 2 (vs0 0 0) 0), (3, .own 9 (vs1 1 v9)), (5, .own 16 (vs2 4 0)), (6, iv i)],
      Go.Ab.L .gone [(2, .box (vs0 0 0) [iv 0, iv 0, nilS, nilS]), (9, .row (vs1 1 v9) 1 true (ints (covP next))), (16, .row (vs2 4 0) 1 true (ints (toK n.toNat (covP next) i))), (33, .gone), (1009, .row (vs1 1 v1009) 1 true (rws ws)), (1033, .gone), (5000, .gone)]⟩)
    0 (by simp) (by simp only [B_spec_l06Trim_5, toK_zero, go_sem, adopt_fun, Int.reduceLT, Int.reduceLE, Int.reduceToNat, Int.reduceNeg, Nat.reduceLT, Nat.reduceLeDiff, Nat.reduceMul, Nat.reduceSub, reduceIte, Nat.reduceEqDiff, Nat.reduceAdd, reduceCtorEq]; try rfl) ?_
  rintro i hi
  by_cases hlt : (i : Int) < (covP next).length
  · have hlt1 : i < (covP next).length := by omega
    have hs := C1.rg _ (getD_mem hlt1 0)
    have hpu := toK_put C1 hlt1
    have hln : (toK n.toNat (covP next) i).length = n.toNat := by simp [toK]
    have hps : ((covP next).getD i 0).toNat < (toK n.toNat (covP next) i).length := by omega
    have w1 : IntKind.i64.wrap ((i : Int) + 1) = ((i + 1 : Nat) : Int) := by rw [w64 (by omega)]; simp
    simp only [B_spec_l06Trim_5, B_spec_l06Trim_6, B_spec_l06Trim_7, decide_eq_true hlt, intsK_getD hlt1, wpD_kp, wpD_regi, go_sem, adopt_fun, Int.reduceLT, Int.reduceLE, Int.reduceToNat, Int.reduceNeg, Nat.reduceLT, Nat.reduceLeDiff, Nat.reduceMul, Nat.reduceSub, reduceIte, Nat.reduceEqDiff, Nat.reduceAdd, reduceCtorEq]
    intro vs4 U4 hN4 hM vs5 U5 hN5
    refine ⟨⟨by omega, hlt1⟩, hlt1, ⟨hs.1, hps⟩, by omega, ?_⟩
    simp only [B_spec_l06Trim_8, w1, wpD_kp, wpD_regi, go_sem, adopt_fun, Int.reduceLT, Int.reduceLE, Int.reduceToNat, Int.reduceNeg, Nat.reduceLT, Nat.reduceLeDiff, Nat.reduceMul, Nat.reduceSub, reduceIte, Nat.reduceEqDiff, Nat.reduceAdd, reduceCtorEq]
    intro vs6 U6 hN6
    refine ⟨i + 1, by omega, by omega, ?_⟩
    simp only [← hpu, ← ints_put]
  · have : i = (covP next).length := by omega
    subst this
    simp only [B_spec_l06Trim_5, B_spec_l06Trim_6, B_spec_l06Trim_9, toK_all, decide_eq_false hlt, wpD_kp, wpD_regi, go_sem, adopt_fun, Int.reduceLT, Int.reduceLE, Int.reduceToNat, Int.reduceNeg, Nat.reduceLT, Nat.reduceLeDiff, Nat.reduceMul, Nat.reduceSub, reduceIte, Nat.reduceEqDiff, Nat.reduceAdd, reduceCtorEq]
    intro vs4 U4 hN4 hM vs5 U5 hN5
    refine call_machN (fun x y e => (hN5.inj _ _ _ _ e).2) (k_l06Pick n o next out M (covP next) (toT n.toNat (covP next)) C1.rg (by omega) (by rw [toT_len]; omega)) qCS rfl rfl ?_
    intro v w ps qs h1 h2 hdj
    simp only [A_spec_l06Trim, ← hQ, wpD_kp, wpD_regi, go_sem, adopt_fun, Int.reduceLT, Int.reduceLE, Int.reduceToNat, Int.reduceNeg, Nat.reduceLT, Nat.reduceLeDiff, Nat.reduceMul, Nat.reduceSub, reduceIte, Nat.reduceEqDiff, Nat.reduceAdd, reduceCtorEq]
    refine ⟨[33, 1033], by simp, by simp, by simp, ?_⟩
    simp only [range1, List.length_singleton, renL_rwp, Nat.not_lt_zero, range1, ren_val, ren_any, ren_ro, rnNm_n, rnNm_sn, rnNm_o, rnNm_s, ren_st, ren_tup, renL_nil, renL_cons, renL_intsK, renL_rws, renL_rwn, oren_box, oren_row, oren_map, ren_own_e0, ren_own_e1, ren_own_e2, ren_ptr_e0, ren_mp_e0, ren_mp_e1, ren_own_r0, ren_own_r1, ren_own_r2, ren_ptr_r0, ren_mp_r0, ren_mp_r1, List.range_zero, callHp_nil, callHp_one, callHp_two, gone_nil, gone_one, gone_two, AVal.fresh, freshL, fresh_intsK, fresh_rws, AObj.fresh, id, Option.isSome_some, or_true, true_or, go_sem, adopt_fun, Int.reduceLT, Int.reduceLE, Int.reduceToNat, Int.reduceNeg, Nat.reduceLT, Nat.reduceLeDiff, Nat.reduceMul, Nat.reduceSub, reduceIte, Nat.reduceEqDiff, Nat.reduceAdd, reduceCtorEq]
    exact ⟨⟨fresh_rwp, fresh_rwp⟩, v, w, ps, qs, by simp, h1, h2, hdj, rfl⟩

theorem k_specReduceMachine (n o : Int) (next out : List (List Int)) :
    NamMR Try.prog n_spec_ReduceMachine [machA n o next out] (machB n o next out) ((clsP next out n.toNat).1 : Int) o (redN next out n.toNat) (redU next out n.toNat) (if machB n o next out = true then 0 else 1) := by
  refine con_of mixed c_spec_ReduceMachine rfl (by simp) ?_
  simp only [A_spec_ReduceMachine, B_spec_ReduceMachine_1, wpD_kp, wpD_regi, go_sem, adopt_fun, Int.reduceLT, Int.reduceLE, Int.reduceToNat, Int.reduceNeg, Nat.reduceLT, Nat.reduceLeDiff, Nat.reduceMul, Nat.reduceSub, reduceIte, Nat.reduceEqDiff, Nat.reduceAdd, reduceCtorEq]
  intro vs0 U0 hN0 vs1 U1 hN1
  refine call_fun (k_l06Ok n o next out) qCS trivial ?_
  cases hv : machB n o next out with
  | false =>
    simp only [B_spec_ReduceMachine_2, Bool.false_eq_true, if_false, wpD_kp, wpD_regi, go_sem, adopt_fun, Int.reduceLT, Int.reduceLE, Int.reduceToNat, Int.reduceNeg, Nat.reduceLT, Nat.reduceLeDiff, Nat.reduceMul, Nat.reduceSub, reduceIte, Nat.reduceEqDiff, Nat.reduceAdd, reduceCtorEq]
    intro vs3 U3 hN3
    refine ⟨[], by simp, by simp, by simp, ?_⟩
    simp only [Nat.not_lt_zero, range1, ren_val, ren_any, ren_ro, rnNm_n, rnNm_sn, rnNm_o, rnNm_s, ren_st, ren_tup, renL_nil, renL_cons, renL_intsK, renL_rws, renL_rwn, oren_box, oren_row, oren_map, ren_own_e0, ren_own_e1, ren_own_e2, ren_ptr_e0, ren_mp_e0, ren_mp_e1, ren_own_r0, ren_own_r1, ren_own_r2, ren_ptr_r0, ren_mp_r0, ren_mp_r1, List.range_zero, callHp_nil, callHp_one, callHp_two, gone_nil, gone_one, gone_two, AVal.fresh, freshL, fresh_intsK, fresh_rws, AObj.fresh, id, Option.isSome_some, or_true, true_or, go_sem, adopt_fun, Int.reduceLT, Int.reduceLE, Int.reduceToNat, Int.reduceNeg, Nat.reduceLT, Nat.reduceLeDiff, Nat.reduceMul, Nat.reduceSub, reduceIte, Nat.reduceEqDiff, Nat.reduceAdd, reduceCtorEq]
    unfold MachRC; rw [if_neg (by simp)]; exact ⟨rfl, rfl⟩
  | true =>
    have M := machB_iff.1 hv
    simp only [B_spec_ReduceMachine_2, B_spec_ReduceMachine_3, if_true, wpD_kp, wpD_regi, go_sem, adopt_fun, Int.reduceLT, Int.reduceLE, Int.reduceToNat, Int.reduceNeg, Nat.reduceLT, Nat.reduceLeDiff, Nat.reduceMul, Nat.reduceSub, reduceIte, Nat.reduceEqDiff, Nat.reduceAdd, reduceCtorEq]
    intro vs3 U3 hN3
    refine call_machN (fun x y e => (hN3.inj _ _ _ _ e).2) (k_l06Reduce n o next out M) qCS rfl rfl ?_
    intro v w ps qs h1 h2 hdj
    simp only [wpD_kp, wpD_regi, go_sem, adopt_fun, Int.reduceLT, Int.reduceLE, Int.reduceToNat, Int.reduceNeg, Nat.reduceLT, Nat.reduceLeDiff, Nat.reduceMul, Nat.reduceSub, reduceIte, Nat.reduceEqDiff, Nat.reduceAdd, reduceCtorEq]
    refine ⟨[7, 1007], by simp, by simp, by simp, ?_⟩
    simp only [range1, List.length_singleton, renL_rwp, Nat.not_lt_zero, range1, ren_val, ren_any, ren_ro, rnNm_n, rnNm_sn, rnNm_o, rnNm_s, ren_st, ren_tup, renL_nil, renL_cons, renL_intsK, renL_rws, renL_rwn, oren_box, oren_row, oren_map, ren_own_e0, ren_own_e1, ren_own_e2, ren_ptr_e0, ren_mp_e0, ren_mp_e1, ren_own_r0, ren_own_r1, ren_own_r2, ren_ptr_r0, ren_mp_r0, ren_mp_r1, List.range_zero, callHp_nil, callHp_one, callHp_two, gone_nil, gone_one, gone_two, AVal.fresh, freshL, fresh_intsK, fresh_rws, AObj.fresh, id, Option.isSome_some, or_true, true_or, go_sem, adopt_fun, Int.reduceLT, Int.reduceLE, Int.reduceToNat, Int.reduceNeg, Nat.reduceLT, Nat.reduceLeDiff, Nat.reduceMul, Nat.reduceSub, reduceIte, Nat.reduceEqDiff, Nat.reduceAdd, reduceCtorEq]
    exact ⟨⟨fresh_rwp, fresh_rwp⟩, v, w, ps, qs, by simp, h1, h2, hdj, rfl⟩

theorem k_specTrimMachine (n o : Int) (next out : List (List Int)) :
    NamMR Try.prog n_spec_TrimMachine [machA n o next out] (machB n o next out) ((covP next).length : Int) o (trmN next n.toNat) (trmU next out) (if machB n o next out = true then 0 else 1) := by
  refine con_of mixed c_spec_TrimMachine rfl (by simp) ?_
  simp only [A_spec_TrimMachine, B_spec_TrimMachine_1, wpD_kp, wpD_regi, go_sem, adopt_fun, Int.reduceLT, Int.reduceLE, Int.reduceToNat, Int.reduceNeg, Nat.reduceLT, Nat.reduceLeDiff, Nat.reduceMul, Nat.reduceSub, reduceIte, Nat.reduceEqDiff, Nat.reduceAdd, reduceCtorEq]
  intro vs0 U0 hN0 vs1 U1 hN1
  refine call_fun (k_l06Ok n o next out) qCS trivial ?_
  cases hv : machB n o next out with
  | false =>
    simp only [B_spec_TrimMachine_2, Bool.false_eq_true, if_false, wpD_kp, wpD_regi, go_sem, adopt_fun, Int.reduceLT, Int.reduceLE, Int.reduceToNat, Int.reduceNeg, Nat.reduceLT, Nat.reduceLeDiff, Nat.reduceMul, Nat.reduceSub, reduceIte, Nat.reduceEqDiff, Nat.reduceAdd, reduceCtorEq]
    intro vs3 U3 hN3
    refine ⟨[], by simp, by simp, by simp, ?_⟩
    simp only [Nat.not_lt_zero, range1, ren_val, ren_any, ren_ro, rnNm_n, rnNm_sn, rnNm_o, rnNm_s, ren_st, ren_tup, renL_nil, renL_cons, renL_intsK, renL_rws, renL_rwn, oren_box, oren_row, oren_map, ren_own_e0, ren_own_e1, ren_own_e2, ren_ptr_e0, ren_mp_e0, ren_mp_e1, ren_own_r0, ren_own_r1, ren_own_r2, ren_ptr_r0, ren_mp_r0, ren_mp_r1, List.range_zero, callHp_nil, callHp_one, callHp_two, gone_nil, gone_one, gone_two, AVal.fresh, freshL, fresh_intsK, fresh_rws, AObj.fresh, id, Option.isSome_some, or_true, true_or, go_sem, adopt_fun, Int.reduceLT, Int.reduceLE, Int.reduceToNat, Int.reduceNeg, Nat.reduceLT, Nat.reduceLeDiff, Nat.reduceMul, Nat.reduceSub, reduceIte, Nat.reduceEqDiff, Nat.reduceAdd, reduceCtorEq]
    unfold MachRC; rw [if_neg (by simp)]; exact ⟨rfl, rfl⟩
  | true =>
    have M := machB_iff.1 hv
    simp only [B_spec_TrimMachine_2, B_spec_TrimMachine_3, if_true, wpD_kp, wpD_regi, go_sem, adopt_fun, Int.reduceLT, Int.reduceLE, Int.reduceToNat, Int.reduceNeg, Nat.reduceLT, Nat.reduceLeDiff, Nat.reduceMul, Nat.reduceSub, reduceIte, Nat.reduceEqDiff, Nat.reduceAdd, reduceCtorEq]
    intro vs3 U3 hN3
    refine call_machN (fun x y e => (hN3.inj _ _ _ _ e).2) (k_l06Trim n o next out M) qCS rfl rfl ?_
    intro v w ps qs h1 h2 hdj
    simp only [wpD_kp, wpD_regi, go_sem, adopt_fun, Int.reduceLT, Int.reduceLE, Int.reduceToNat, Int.reduceNeg, Nat.reduceLT, Nat.reduceLeDiff, Nat.reduceMul, Nat.reduceSub, reduceIte, Nat.reduceEqDiff, Nat.reduceAdd, reduceCtorEq]
    refine ⟨[7, 1007], by simp, by simp, by simp, ?_⟩
    simp only [range1, List.length_singleton, renL_rwp, Nat.not_lt_zero, range1, ren_val, ren_any, ren_ro, rnNm_n, rnNm_sn, rnNm_o, rnNm_s, ren_st, ren_tup, renL_nil, renL_cons, renL_intsK, renL_rws, renL_rwn, oren_box, oren_row, oren_map, ren_own_e0, ren_own_e1, ren_own_e2, ren_ptr_e0, ren_mp_e0, ren_mp_e1, ren_own_r0, ren_own_r1, ren_own_r2, ren_ptr_r0, ren_mp_r0, ren_mp_r1, List.range_zero, callHp_nil, callHp_one, callHp_two, gone_nil, gone_one, gone_two, AVal.fresh, freshL, fresh_intsK, fresh_rws, AObj.fresh, id, Option.isSome_some, or_true, true_or, go_sem, adopt_fun, Int.reduceLT, Int.reduceLE, Int.reduceToNat, Int.reduceNeg, Nat.reduceLT, Nat.reduceLeDiff, Nat.reduceMul, Nat.reduceSub, reduceIte, Nat.reduceEqDiff, Nat.reduceAdd, reduceCtorEq]
    exact ⟨⟨fresh_rwp, fresh_rwp⟩, v, w, ps, qs, by simp, h1, h2, hdj, rfl⟩
end Go.Ab
