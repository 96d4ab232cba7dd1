/- Contracts: the reference's machines of some states. Conditions: none. -/
import Derived.Test.YtoadopegbnmfkaaPj
set_option linter.all false
namespace Go.Ab
open Go.Proofs
set_option maxRecDepth 20000
set_option maxHeartbeats 4000000

/-- A machine of the call's own, whose rows have names. -/
abbrev MachR (n o : Int) (xs ys : List (List Int)) (rows : List AObj) (res : AVal) : Prop :=
  ∃ v w ps qs, rows = [.row v 1 true (rwp ps), .row w 1 true (rwp qs)] ∧ ps.map (·.2) = xs ∧ qs.map (·.2) = ys ∧ DJ (ps ++ qs) ∧ res = .st [iv n, iv o, .own 6000 v, .own 6001 w]
abbrev NamM (P : Program) (g : FuncId) (args : List AVal) (n o : Int) (xs ys : List (List Int)) : Prop := Fn P g args (MachR n o xs ys)

theorem DJ_two {ps qs : List (Nat × List Int)} {u v : Nat} {r s : List Int} (h : DJ (ps ++ qs)) (h1 : ∀ p ∈ ps ++ qs, p.2 = [] ∨ p.1 ≠ u) (h2 : ∀ p ∈ ps ++ qs, p.2 = [] ∨ p.1 ≠ v) (h3 : r = [] ∨ u ≠ v) : DJ ((ps ++ [(u, r)]) ++ (qs ++ [(v, s)])) := by
  refine DJ_perm ?_ ((h.snoc (n := u) (xs := r) h1).snoc (n := v) (xs := s) fun p hp => ?_)
  · simp only [List.append_assoc]
    refine List.Perm.append_left _ ?_
    exact (List.perm_append_comm_assoc qs [(u, r)] [(v, s)])
  · rcases List.mem_append.1 hp with h | h
    · exact h2 p h
    · rw [List.mem_singleton.1 h]; exact h3

theorem take_map_snoc {α β : Type} {f : α → β} {l : List α} {i : Nat} (d : α) (h : i < l.length) : (l.take i).map f ++ [f (l.getD i d)] = (l.take (i + 1)).map f := by
  rw [List.take_succ_eq_append_getElem h, List.map_append, show l.getD i d = l[i] by rw [List.getD_eq_getElem?_getD, List.getElem?_eq_getElem h]; rfl]; rfl

theorem k_l06Pick (n o : Int) (next out : List (List Int)) (M : Mach n o next out) (order to : List Int) (ho : ∀ s ∈ order, 0 ≤ s ∧ s < n) (hl : order.length ≤ 1000) (ht : (to.length : Int) = n) :
    NamM Try.prog n_spec_l06Pick [machP n o next out, .ro none 1 (ints order), .ro none 1 (ints to)] order.length o (next.map (selN to order)) (out.map (selO order)) := by
  refine con_of mixed c_spec_l06Pick rfl (by simp) ?_
  generalize hQ : finQ _ = Q
  have n2 := M.aut.n2
  have l1 := M.aut.l1
  have l2 := M.aut.l2
  have hml := M.len
  simp only [A_spec_l06Pick, B_spec_l06Pick_1, wpD_kp, wpD_regi, go_sem, adopt_fun, Int.reduceLT, Int.reduceLE, Int.reduceToNat, Int.reduceNeg, Nat.reduceLT, Nat.reduceLeDiff, Nat.reduceMul, Nat.reduceSub, reduceIte, Nat.reduceEqDiff, Nat.reduceAdd, reduceCtorEq]
  intro vs0 U0 hN0 vs1 U1 hN1 hMo
  simp only [B_spec_l06Pick_2, B_spec_l06Pick_3, wpD_kp, wpD_regi, go_sem, adopt_fun, Int.reduceLT, Int.reduceLE, Int.reduceToNat, Int.reduceNeg, Nat.reduceLT, Nat.reduceLeDiff, Nat.reduceMul, Nat.reduceSub, reduceIte, Nat.reduceEqDiff, Nat.reduceAdd, reduceCtorEq]
  intro vs2 U2 hN2 ver1 ver2
  have hM2 := maxLen_le
  refine wpD_lp (fun (_, _, _, _, _, ps, _) => next.length - List.length ps)
    (fun (n1, n2, _, _, _, ps, qs) => List.map (·.2) ps = (next.take (List.length ps)).map (selN to order) ∧ List.map (·.2) qs = (out.take (List.length ps)).map (selO order) ∧ List.length ps ≤ next.length ∧ List.length qs = List.length ps ∧ DJ (ps ++ qs) ∧ (ps ≠ [] → n1 = true ∧ n2 = true))
    (fun ((n1, n2, v7, va, vb, ps, qs) : Bool × Bool × Nat × Nat × Nat × List (Nat × List Int) × List (Nat × List Int)) =>
      ⟨L .any [(0, machP n o next out), (1, .ro none 1 (ints order)), (2, .ro none 1 (ints to)), (6, .ptr 6 (vs0 0 0) 0), (7, .ptr 7 v7 0), (8, iv ps.length)],
       L .gone [(6, .box (vs0 0 0) [iv 0, iv 0, nilS, nilS]), (7, .box v7 [iv order.length, iv o, .own 75 va, .own 81 vb]), (75, .row va 1 n1 (rwp ps)), (81, .row vb 1 n2 (rwp qs)), (5000, .gone), (5001, .gone), (5002, .gone)]⟩)
    (_, _, _, _, _, [], []) ⟨rfl, rfl, by simp, rfl, by simp [DJ], by simp⟩ (by simp only [B_spec_l06Pick_4, List.length_nil, rwp_nil, go_sem, adopt_fun, Int.reduceLT, Int.reduceLE, Int.reduceToNat, Int.reduceNeg, Nat.reduceLT, Nat.reduceLeDiff, Nat.reduceMul, Nat.reduceSub, reduceIte, Nat.reduceEqDiff, Nat.reduceAdd, reduceCtorEq]; try rfl) ?_
  rintro ⟨nn1, nn2, v7, va, vb, ps, qs⟩ ⟨hp1, hp2, hp3, hp4, hp5, hp6⟩
  have hp1 : ps.map (·.2) = (next.take ps.length).map (selN to order) := hp1
  have hp2 : qs.map (·.2) = (out.take ps.length).map (selO order) := hp2
  have hp3 : ps.length ≤ next.length := hp3
  have hp4 : qs.length = ps.length := hp4
  have hp5 : DJ (ps ++ qs) := hp5
  have hp6 : ps ≠ [] → nn1 = true ∧ nn2 = true := hp6
  by_cases hlt : (ps.length : Int) < next.length
  · have hlt1 : ps.length < next.length := by omega
    have hlo : ps.length < out.length := by omega
    have hrow := M.aut.row _ (getD_mem hlt1 [])
    have hrou := M.row _ (getD_mem hlo [])
    simp only [B_spec_l06Pick_4, B_spec_l06Pick_5, B_spec_l06Pick_6, decide_eq_true hlt, wpD_kp, wpD_regi, go_sem, adopt_fun, Int.reduceLT, Int.reduceLE, Int.reduceToNat, Int.reduceNeg, Nat.reduceLT, Nat.reduceLeDiff, Nat.reduceMul, Nat.reduceSub, reduceIte, Nat.reduceEqDiff, Nat.reduceAdd, reduceCtorEq]
    intro vs4 U4 hN4 hM vs5 U5 hN5
    simp only [B_spec_l06Pick_7, B_spec_l06Pick_8, wpD_kp, wpD_regi, go_sem, adopt_fun, Int.reduceLT, Int.reduceLE, Int.reduceToNat, Int.reduceNeg, Nat.reduceLT, Nat.reduceLeDiff, Nat.reduceMul, Nat.reduceSub, reduceIte, Nat.reduceEqDiff, Nat.reduceAdd, reduceCtorEq]
    intro vs6 U6 hN6
    simp only [B_spec_l06Pick_9, wpD_kp, wpD_regi, go_sem, adopt_fun, Int.reduceLT, Int.reduceLE, Int.reduceToNat, Int.reduceNeg, Nat.reduceLT, Nat.reduceLeDiff, Nat.reduceMul, Nat.reduceSub, reduceIte, Nat.reduceEqDiff, Nat.reduceAdd, reduceCtorEq]
    intro vs7 U7 hN7
    refine wpD_lp (fun (_, _, j) => order.length - j) (fun (_, _, j) => j ≤ order.length)
      (fun ((vc, vd, j) : Nat × Nat × Nat) => ⟨L .any [(0, machP n o next out), (1, .ro none 1 (ints order)), (2, .ro none 1 (ints to)), (6, .ptr 6 (vs0 0 0) 0), (7, .ptr 7 v7 0), (8, iv ps.length), (9, .own 28 vc), (10, .own 29 vd), (11, iv j)],
       L .gone [(6, .box (vs0 0 0) [iv 0, iv 0, nilS, nilS]), (7, .box v7 [iv order.length, iv o, .own 75 va, .own 81 vb]), (28, .row vc 1 true (ints ((order.take j).map fun s => to.getD ((next.getD ps.length []).getD s.toNat 0).toNat 0))), (29, .row vd 1 true (ints ((order.take j).map fun s => (out.getD ps.length []).getD s.toNat 0))), (54, .gone), (70, .gone), (75, .row va 1 nn1 (rwp ps)), (81, .row vb 1 nn2 (rwp qs)), (5000, .gone), (5001, .gone), (5002, .gone)]⟩)
      (_, _, 0) (by simp) (by simp only [B_spec_l06Pick_10, go_sem, adopt_fun, Int.reduceLT, Int.reduceLE, Int.reduceToNat, Int.reduceNeg, Nat.reduceLT, Nat.reduceLeDiff, Nat.reduceMul, Nat.reduceSub, reduceIte, Nat.reduceEqDiff, Nat.reduceAdd, reduceCtorEq]; try rfl) ?_
    rintro ⟨vc, vd, j⟩ hj
    have hj : j ≤ order.length := hj
    by_cases hjl : (j : Int) < order.length
    · have hj1 : j < order.length := by omega
      have hs := ho _ (getD_mem hj1 0)
      have hc : (order.getD j 0).toNat < (next.getD ps.length []).length := by omega
      have hc2 : (order.getD j 0).toNat < (out.getD ps.length []).length := by omega
      have hx := hrow.2 _ (getD_mem hc 0)
      have hxt : ((next.getD ps.length []).getD (order.getD j 0).toNat 0).toNat < to.length := by omega
      have e1 := take_map_snoc (f := fun s : Int => to.getD ((next.getD ps.length []).getD s.toNat 0).toNat 0) 0 hj1
      have e2 := take_map_snoc (f := fun s : Int => (out.getD ps.length []).getD s.toNat 0) 0 hj1
      simp only [B_spec_l06Pick_10, B_spec_l06Pick_11, B_spec_l06Pick_12, rwn_getD hlt1, intsK_getD hj1, intsK_getD hc, intsK_getD hxt, e1, decide_eq_true hjl, wpD_kp, wpD_regi, go_sem, adopt_fun, Int.reduceLT, Int.reduceLE, Int.reduceToNat, Int.reduceNeg, Nat.reduceLT, Nat.reduceLeDiff, Nat.reduceMul, Nat.reduceSub, reduceIte, Nat.reduceEqDiff, Nat.reduceAdd, reduceCtorEq]
      intro vs8 U8 hN8 hMj vs9 U9 hN9
      refine ⟨⟨by omega, hlt1⟩, hlt1, ⟨by omega, hj1⟩, hj1, ⟨hs.1, hc⟩, hc, ⟨hx.1, hxt⟩, hxt, ⟨_, rfl, rfl⟩, by rw [List.length_take]; omega, ?_⟩
      simp only [B_spec_l06Pick_13, rwn_getD hlo, intsK_getD hj1, intsK_getD hc2, e2, wpD_kp, wpD_regi, go_sem, adopt_fun, Int.reduceLT, Int.reduceLE, Int.reduceToNat, Int.reduceNeg, Nat.reduceLT, Nat.reduceLeDiff, Nat.reduceMul, Nat.reduceSub, reduceIte, Nat.reduceEqDiff, Nat.reduceAdd, reduceCtorEq]
      intro vs10 U10 hN10
      refine ⟨⟨by omega, hlo⟩, hlo, ⟨by omega, hj1⟩, hj1, ⟨hs.1, hc2⟩, hc2, ⟨_, rfl, rfl⟩, by rw [List.length_take]; omega, ?_⟩
      simp only [B_spec_l06Pick_14, nat1 j _ hj1 hMo, wpD_kp, wpD_regi, go_sem, adopt_fun, Int.reduceLT, Int.reduceLE, Int.reduceToNat, Int.reduceNeg, Nat.reduceLT, Nat.reduceLeDiff, Nat.reduceMul, Nat.reduceSub, reduceIte, Nat.reduceEqDiff, Nat.reduceAdd, reduceCtorEq]
      intro vs11 U11 hN11
      exact ⟨(_, _, j + 1), by dsimp only; omega, by dsimp only; omega, rfl⟩
    · have : j = order.length := by omega
      subst this
      simp only [B_spec_l06Pick_10, B_spec_l06Pick_11, B_spec_l06Pick_15, List.take_length, decide_eq_false hjl, wpD_kp, wpD_regi, wpD_gh, go_sem, adopt_fun, Int.reduceLT, Int.reduceLE, Int.reduceToNat, Int.reduceNeg, Nat.reduceLT, Nat.reduceLeDiff, Nat.reduceMul, Nat.reduceSub, reduceIte, Nat.reduceEqDiff, Nat.reduceAdd, reduceCtorEq]
      intro vs8 U8 hN8 hMj hD
      refine ⟨[], ?_⟩
      generalize hr1 : (order.map fun s => to.getD ((next.getD ps.length []).getD s.toNat 0).toNat 0) = r1 at hD ⊢
      generalize hr2 : (order.map fun s => (out.getD ps.length []).getD s.toNat 0) = r2 at hD ⊢
      have hf1 : ∀ p ∈ ps ++ qs, p.2 = [] ∨ p.1 ≠ vc := fun p hp => by
        by_cases e : p.2 = []
        · exact .inl e
        · refine .inr ?_
          rcases List.mem_append.1 hp with hp | hp
          · exact hD 75 va 1 nn1 (rwp ps) 28 vc rfl rfl p.1 1 (ints p.2) (List.mem_map.2 ⟨p, hp, rfl⟩) (by simpa using e)
          · exact hD 81 vb 1 nn2 (rwp qs) 28 vc rfl rfl p.1 1 (ints p.2) (List.mem_map.2 ⟨p, hp, rfl⟩) (by simpa using e)
      have hf2 : ∀ p ∈ ps ++ qs, p.2 = [] ∨ p.1 ≠ vd := fun p hp => by
        by_cases e : p.2 = []
        · exact .inl e
        · refine .inr ?_
          rcases List.mem_append.1 hp with hp | hp
          · exact hD 75 va 1 nn1 (rwp ps) 29 vd rfl rfl p.1 1 (ints p.2) (List.mem_map.2 ⟨p, hp, rfl⟩) (by simpa using e)
          · exact hD 81 vb 1 nn2 (rwp qs) 29 vd rfl rfl p.1 1 (ints p.2) (List.mem_map.2 ⟨p, hp, rfl⟩) (by simpa using e)
      simp only [gwp_nil, wpD_kp, wpD_regi, go_sem, adopt_fun, Int.reduceLT, Int.reduceLE, Int.reduceToNat, Int.reduceNeg, Nat.reduceLT, Nat.reduceLeDiff, Nat.reduceMul, Nat.reduceSub, reduceIte, Nat.reduceEqDiff, Nat.reduceAdd, reduceCtorEq]
      intro vs10 U10 hN10
      rw [rwp_len]
      refine ⟨by omega, ?_⟩
      simp only [B_spec_l06Pick_16, rwp_snoc, wpD_kp, wpD_gh, go_sem, adopt_fun, Int.reduceLT, Int.reduceLE, Int.reduceToNat, Int.reduceNeg, Nat.reduceLT, Nat.reduceLeDiff, Nat.reduceMul, Nat.reduceSub, reduceIte, Nat.reduceEqDiff, Nat.reduceAdd, reduceCtorEq]
      intro hD2
      refine ⟨[], ?_⟩
      have hf3 : r1 = [] ∨ vc ≠ vd := by
        by_cases e : r1 = []
        · exact .inl e
        · exact .inr (hD2 75 (vs10 4 0) 1 true (rwp (ps ++ [(vc, r1)])) 29 vd rfl rfl vc 1 (ints r1) (List.mem_map.2 ⟨(vc, r1), by simp, rfl⟩) (by simpa using e))
      simp only [gwp_nil, wpD_kp, wpD_regi, go_sem, adopt_fun, Int.reduceLT, Int.reduceLE, Int.reduceToNat, Int.reduceNeg, Nat.reduceLT, Nat.reduceLeDiff, Nat.reduceMul, Nat.reduceSub, reduceIte, Nat.reduceEqDiff, Nat.reduceAdd, reduceCtorEq]
      intro vs11 U11 hN11
      rw [rwp_len]
      refine ⟨by omega, ?_⟩
      simp only [B_spec_l06Pick_17, nat1 _ _ hlt1 hM, rwp_snoc, wpD_kp, wpD_regi, go_sem, adopt_fun, Int.reduceLT, Int.reduceLE, Int.reduceToNat, Int.reduceNeg, Nat.reduceLT, Nat.reduceLeDiff, Nat.reduceMul, Nat.reduceSub, reduceIte, Nat.reduceEqDiff, Nat.reduceAdd, reduceCtorEq]
      intro vs12 U12 hN12
      refine ⟨(true, true, v7, vs10 4 0, vs11 4 0, ps ++ [(vc, r1)], qs ++ [(vd, r2)]), by dsimp only; rw [List.length_append, List.length_singleton]; omega,
        ⟨?_, ?_, by dsimp only; rw [List.length_append, List.length_singleton]; omega, by dsimp only; rw [List.length_append, List.length_append, hp4]; rfl, DJ_two hp5 hf1 hf2 hf3, by simp⟩, ?_⟩
      · dsimp only
        rw [List.map_append, hp1, List.length_append, List.length_singleton, ← take_map_snoc [] hlt1, ← hr1]; rfl
      · dsimp only
        rw [List.map_append, hp2, List.length_append, List.length_singleton, ← take_map_snoc [] hlo, ← hr2]; rfl
      · dsimp only
        rw [List.length_append, List.length_singleton]
  · have hlen : ps.length = next.length := by omega
    rw [hlen, List.take_length] at hp1
    rw [hlen, ← hml, List.take_length] at hp2
    obtain ⟨rfl, rfl⟩ := hp6 (fun e => by rw [e] at hlen; simp at hlen; omega)
    simp only [B_spec_l06Pick_4, B_spec_l06Pick_5, B_spec_l06Pick_18, decide_eq_false hlt, A_spec_l06Pick, ← hQ, wpD_kp, wpD_regi, go_sem, adopt_fun, Int.reduceLT, Int.reduceLE, Int.reduceToNat, Int.reduceNeg, Nat.reduceLT, Nat.reduceLeDiff, Nat.reduceMul, Nat.reduceSub, reduceIte, Nat.reduceEqDiff, Nat.reduceAdd, reduceCtorEq]
    intro vs3 U3 hN3 hM vs4 U4 hN4
    refine ⟨[75, 81], by simp, by simp, by simp, ?_⟩
    simp only [range1, List.length_singleton, renL_rwp, Nat.not_lt_zero, range1, ren_val, ren_any, ren_ro, rnNm_n, rnNm_sn, rnNm_o, rnNm_s, ren_st, ren_tup, renL_nil, renL_cons, renL_intsK, renL_rws, renL_rwn, oren_box, oren_row, oren_map, ren_own_e0, ren_own_e1, ren_own_e2, ren_ptr_e0, ren_mp_e0, ren_mp_e1, ren_own_r0, ren_own_r1, ren_own_r2, ren_ptr_r0, ren_mp_r0, ren_mp_r1, List.range_zero, callHp_nil, callHp_one, callHp_two, gone_nil, gone_one, gone_two, AVal.fresh, freshL, fresh_intsK, fresh_rws, AObj.fresh, id, Option.isSome_some, or_true, true_or, go_sem, adopt_fun, Int.reduceLT, Int.reduceLE, Int.reduceToNat, Int.reduceNeg, Nat.reduceLT, Nat.reduceLeDiff, Nat.reduceMul, Nat.reduceSub, reduceIte, Nat.reduceEqDiff, Nat.reduceAdd, reduceCtorEq]
    exact ⟨⟨fresh_rwp, fresh_rwp⟩, va, vb, ps, qs, by simp, hp1, hp2, hp5, rfl⟩
end Go.Ab

namespace Go.Ab
open Go.Proofs
set_option maxRecDepth 20000
set_option maxHeartbeats 4000000

end Go.Ab

namespace Go.Ab
open Go.Proofs
set_option maxRecDepth 20000
set_option maxHeartbeats 4000000

/-- The same without names. -/
abbrev MachS (n o : Int) (xs ys : List (List Int)) (rows : List AObj) (res : AVal) : Prop :=
  ∃ v w, rows = [.row v 1 true (rws xs), .row w 1 true (rws ys)] ∧ res = .st [iv n, iv o, .own 6000 v, .own 6001 w]
theorem NamM.dn {P : Program} {g : FuncId} {args : List AVal} {n o : Int} {xs ys : List (List Int)} (h : NamM P g args n o xs ys) : Fn P g args (MachS n o xs ys) := by
  refine Con.dnr h ?_
  rintro o' r x ⟨rfl, v, w, ps, qs, rfl, rfl, rfl, _, rfl⟩
  refine ⟨rfl, v, w, ?_, ?_⟩
  · simp only [List.map_cons, List.map_nil, AObj.dn, dnL_rwp]
  · simp only [AVal.dn, dnL]
/-- A machine whose rows have names, and a code, or an empty one. -/
abbrev MachRC (ok : Bool) (n o : Int) (xs ys : List (List Int)) (code : Int) (rows : List AObj) (res : AVal) : Prop :=
  if ok = true then ∃ v w ps qs, rows = [.row v 1 true (rwp ps), .row w 1 true (rwp qs)] ∧ ps.map (·.2) = xs ∧ qs.map (·.2) = ys ∧ DJ (ps ++ qs) ∧ res = .tup [.st [iv n, iv o, .own 6000 v, .own 6001 w], iv code]
  else rows = [] ∧ res = .tup [.st [iv 0, iv 0, nilS, nilS], iv code]
abbrev NamMR (P : Program) (g : FuncId) (args : List AVal) (ok : Bool) (n o : Int) (xs ys : List (List Int)) (code : Int) : Prop := Fn P g args (MachRC ok n o xs ys code)
abbrev MachSC (n o : Int) (xs ys : List (List Int)) (rows : List AObj) (res : AVal) : Prop :=
  ∃ v w, rows = [.row v 1 true (rws xs), .row w 1 true (rws ys)] ∧ res = .tup [.st [iv n, iv o, .own 6000 v, .own 6001 w], iv 0]
theorem NamMR.dn {P : Program} {g : FuncId} {args : List AVal} {ok : Bool} {n o : Int} {xs ys : List (List Int)} {code : Int} (h : NamMR P g args ok n o xs ys code) (hok : ok = true) (hc : code = 0) : Fn P g args (MachSC n o xs ys) := by
  subst hok hc
  refine Con.dnr h ?_
  rintro o' r x ⟨rfl, hR⟩
  unfold MachRC at hR
  rw [if_pos rfl] at hR
  obtain ⟨v, w, ps, qs, rfl, rfl, rfl, _, rfl⟩ := hR
  refine ⟨rfl, v, w, ?_, ?_⟩
  · simp only [List.map_cons, List.map_nil, AObj.dn, dnL_rwp]
  · simp only [AVal.dn, dnL]
theorem k_l06Reduce (n o : Int) (next out : List (List Int)) (M : Mach n o next out) :
    NamM Try.prog n_spec_l06Reduce [machP n o next out] ((clsP next out n.toNat).1 : Int) o (redN next out n.toNat) (redU next out n.toNat) := by
  refine con_of mixed c_spec_l06Reduce rfl (by simp) ?_
  have n1 := M.aut.n1
  have n2 := M.aut.n2
  have hM2 := maxLen_le
  obtain ⟨c1, c2, c3⟩ := clsP_len next out n.toNat
  generalize hQ : finQ _ = Q
  simp only [A_spec_l06Reduce, B_spec_l06Reduce_1, wpD_kp, wpD_regi, go_sem, adopt_fun, Int.reduceLT, Int.reduceLE, Int.reduceToNat, Int.reduceNeg, Nat.reduceLT, Nat.reduceLeDiff, Nat.reduceMul, Nat.reduceSub, reduceIte, Nat.reduceEqDiff, Nat.reduceAdd, reduceCtorEq]
  intro vs0 U0 hN0 vs1 U1 hN1
  refine call_rowI (k_l06Classes n o next out M) qCS qGN ⟨_, rfl⟩ ?_
  rintro ys v7 rfl
  simp only [B_spec_l06Reduce_2, B_spec_l06Reduce_3, wpD_kp, wpD_regi, go_sem, adopt_fun, Int.reduceLT, Int.reduceLE, Int.reduceToNat, Int.reduceNeg, Nat.reduceLT, Nat.reduceLeDiff, Nat.reduceMul, Nat.reduceSub, reduceIte, Nat.reduceEqDiff, Nat.reduceAdd, reduceCtorEq]
  intro vs2 U2 hN2
  simp only [B_spec_l06Reduce_4, wpD_kp, wpD_regi, go_sem, adopt_fun, Int.reduceLT, Int.reduceLE, Int.reduceToNat, Int.reduceNeg, Nat.reduceLT, Nat.reduceLeDiff, Nat.reduceMul, Nat.reduceSub, reduceIte, Nat.reduceEqDiff, Nat.reduceAdd, reduceCtorEq]
  intro vs3 U3 hN3
  refine wpD_lp (fun (_, s) => n.toNat - s) (fun (_, s) => s ≤ n.toNat)
    (fun ((va, s) : Nat × Nat) => ⟨Go.Ab.L .any [(0, machP n o next out), (2, .ptr 2 (vs0 0 0) 0), (3, .own 7 v7), (4, .own 8 va), (5, iv s)],
      Go.Ab.L .gone [(2, .box (vs0 0 0) [iv 0, iv 0, nilS, nilS]), (7, .row v7 1 true (ints (clsP next out n.toNat).2)), (8, .row va 1 true (ints (ordC next out n.toNat s))), (27, .gone), (31, .gone), (1031, .gone), (5000, .gone)]⟩)
    (_, 0) (by simp) (by simp only [B_spec_l06Reduce_5, go_sem, adopt_fun, Int.reduceLT, Int.reduceLE, Int.reduceToNat, Int.reduceNeg, Nat.reduceLT, Nat.reduceLeDiff, Nat.reduceMul, Nat.reduceSub, reduceIte, Nat.reduceEqDiff, Nat.reduceAdd, reduceCtorEq]; try rfl) ?_
  rintro ⟨va, s⟩ hs
  have hs : s ≤ n.toNat := hs
  by_cases hlt : (s : Int) < n
  · have hlt1 : s < n.toNat := by omega
    have hc : s < (clsP next out n.toNat).2.length := by omega
    have w1 : IntKind.i64.wrap ((s : Int) + 1) = ((s + 1 : Nat) : Int) := by rw [w64 (by omega)]; simp
    have hsu := ordC_succ next out hlt1
    have hol : (ordC next out n.toNat s).length ≤ s := by
      unfold ordC; rw [List.length_map, List.length_range]; exact (clsP_len next out s).2.1
    simp only [B_spec_l06Reduce_5, B_spec_l06Reduce_6, B_spec_l06Reduce_7, decide_eq_true hlt, intsK_getD hc, wpD_kp, wpD_regi, go_sem, adopt_fun, Int.reduceLT, Int.reduceLE, Int.reduceToNat, Int.reduceNeg, Nat.reduceLT, Nat.reduceLeDiff, Nat.reduceMul, Nat.reduceSub, reduceIte, Nat.reduceEqDiff, Nat.reduceAdd, reduceCtorEq]
    intro vs4 U4 hN4 vs5 U5 hN5
    refine ⟨⟨by omega, hc⟩, hc, ?_⟩
    intro hMo
    by_cases he : (clsP next out n.toNat).2.getD s 0 = ((ordC next out n.toNat s).length : Int)
    · rw [if_pos he] at hsu
      have hb : ((clsP next out n.toNat).2.getD s 0 == ((ordC next out n.toNat s).length : Int)) = true := by simpa using he
      simp only [hb, B_spec_l06Reduce_8, B_spec_l06Reduce_9, w1, wpD_kp, wpD_regi, go_sem, adopt_fun, Int.reduceLT, Int.reduceLE, Int.reduceToNat, Int.reduceNeg, Nat.reduceLT, Nat.reduceLeDiff, Nat.reduceMul, Nat.reduceSub, reduceIte, Nat.reduceEqDiff, Nat.reduceAdd, reduceCtorEq]
      intro vs6 U6 hN6
      refine ⟨⟨_, rfl, rfl⟩, by omega, ?_⟩
      intro vs7 U7 hN7
      exact ⟨(vs6 3 0, s + 1), by dsimp only; omega, by dsimp only; omega, by dsimp only; rw [hsu]⟩
    · rw [if_neg he] at hsu
      have hb : ((clsP next out n.toNat).2.getD s 0 == ((ordC next out n.toNat s).length : Int)) = false := by simpa using he
      simp only [hb, B_spec_l06Reduce_8, B_spec_l06Reduce_9, w1, wpD_kp, wpD_regi, go_sem, adopt_fun, Int.reduceLT, Int.reduceLE, Int.reduceToNat, Int.reduceNeg, Nat.reduceLT, Nat.reduceLeDiff, Nat.reduceMul, Nat.reduceSub, reduceIte, Nat.reduceEqDiff, Nat.reduceAdd, reduceCtorEq]
      intro vs7 U7 hN7
      exact ⟨(va, s + 1), by dsimp only; omega, by dsimp only; omega, by dsimp only; rw [hsu]⟩
  · have : s = n.toNat := by omega
    subst this
    simp only [B_spec_l06Reduce_5, B_spec_l06Reduce_6, B_spec_l06Reduce_10, decide_eq_false hlt, wpD_kp, wpD_regi, go_sem, adopt_fun, Int.reduceLT, Int.reduceLE, Int.reduceToNat, Int.reduceNeg, Nat.reduceLT, Nat.reduceLeDiff, Nat.reduceMul, Nat.reduceSub, reduceIte, Nat.reduceEqDiff, Nat.reduceAdd, reduceCtorEq]
    intro vs4 U4 hN4 vs5 U5 hN5
    refine call_machN (fun x y e => (hN5.inj _ _ _ _ e).2) (k_l06Pick n o next out M (redO next out n.toNat) (clsP next out n.toNat).2 (fun s hs => by have := redO_mem next out hs; omega) (by rw [redO_len]; omega) (by omega)) qCS rfl rfl ?_
    intro v w ps qs h1 h2 hdj
    simp only [redO_len, A_spec_l06Reduce, ← hQ, wpD_kp, wpD_regi, go_sem, adopt_fun, Int.reduceLT, Int.reduceLE, Int.reduceToNat, Int.reduceNeg, Nat.reduceLT, Nat.reduceLeDiff, Nat.reduceMul, Nat.reduceSub, reduceIte, Nat.reduceEqDiff, Nat.reduceAdd, reduceCtorEq]
    refine ⟨[31, 1031], by simp, by simp, by simp, ?_⟩
    simp only [range1, List.length_singleton, renL_rwp, Nat.not_lt_zero, range1, ren_val, ren_any, ren_ro, rnNm_n, rnNm_sn, rnNm_o, rnNm_s, ren_st, ren_tup, renL_nil, renL_cons, renL_intsK, renL_rws, renL_rwn, oren_box, oren_row, oren_map, ren_own_e0, ren_own_e1, ren_own_e2, ren_ptr_e0, ren_mp_e0, ren_mp_e1, ren_own_r0, ren_own_r1, ren_own_r2, ren_ptr_r0, ren_mp_r0, ren_mp_r1, List.range_zero, callHp_nil, callHp_one, callHp_two, gone_nil, gone_one, gone_two, AVal.fresh, freshL, fresh_intsK, fresh_rws, AObj.fresh, id, Option.isSome_some, or_true, true_or, go_sem, adopt_fun, Int.reduceLT, Int.reduceLE, Int.reduceToNat, Int.reduceNeg, Nat.reduceLT, Nat.reduceLeDiff, Nat.reduceMul, Nat.reduceSub, reduceIte, Nat.reduceEqDiff, Nat.reduceAdd, reduceCtorEq]
    exact ⟨⟨fresh_rwp, fresh_rwp⟩, v, w, ps, qs, by simp, h1, h2, hdj, rfl⟩

theorem k_specReduceMachine (n o : Int) (next out : List (List Int)) :
    NamMR Try.prog n_spec_ReduceMachine [machA n o next out] (machB n o next out) ((clsP next out n.toNat).1 : Int) o (redN next out n.toNat) (redU next out n.toNat) (if machB n o next out = true then 0 else 1) := by
  refine con_of mixed c_spec_ReduceMachine rfl (by simp) ?_
  simp only [A_spec_ReduceMachine, B_spec_ReduceMachine_1, wpD_kp, wpD_regi, go_sem, adopt_fun, Int.reduceLT, Int.reduceLE, Int.reduceToNat, Int.reduceNeg, Nat.reduceLT, Nat.reduceLeDiff, Nat.reduceMul, Nat.reduceSub, reduceIte, Nat.reduceEqDiff, Nat.reduceAdd, reduceCtorEq]
  intro vs0 U0 hN0 vs1 U1 hN1
  refine call_fun (k_l06Ok n o next out) qCS trivial ?_
  cases hv : machB n o next out with
  | false =>
    simp only [B_spec_ReduceMachine_2, Bool.false_eq_true, if_false, wpD_kp, wpD_regi, go_sem, adopt_fun, Int.reduceLT, Int.reduceLE, Int.reduceToNat, Int.reduceNeg, Nat.reduceLT, Nat.reduceLeDiff, Nat.reduceMul, Nat.reduceSub, reduceIte, Nat.reduceEqDiff, Nat.reduceAdd, reduceCtorEq]
    intro vs3 U3 hN3
    refine ⟨[], by simp, by simp, by simp, ?_⟩
    simp only [Nat.not_lt_zero, range1, ren_val, ren_any, ren_ro, rnNm_n, rnNm_sn, rnNm_o, rnNm_s, ren_st, ren_tup, renL_nil, renL_cons, renL_intsK, renL_rws, renL_rwn, oren_box, oren_row, oren_map, ren_own_e0, ren_own_e1, ren_own_e2, ren_ptr_e0, ren_mp_e0, ren_mp_e1, ren_own_r0, ren_own_r1, ren_own_r2, ren_ptr_r0, ren_mp_r0, ren_mp_r1, List.range_zero, callHp_nil, callHp_one, callHp_two, gone_nil, gone_one, gone_two, AVal.fresh, freshL, fresh_intsK, fresh_rws, AObj.fresh, id, Option.isSome_some, or_true, true_or, go_sem, adopt_fun, Int.reduceLT, Int.reduceLE, Int.reduceToNat, Int.reduceNeg, Nat.reduceLT, Nat.reduceLeDiff, Nat.reduceMul, Nat.reduceSub, reduceIte, Nat.reduceEqDiff, Nat.reduceAdd, reduceCtorEq]
    unfold MachRC; rw [if_neg (by simp)]; exact ⟨rfl, rfl⟩
  | true =>
    have M := machB_iff.1 hv
    simp only [B_spec_ReduceMachine_2, B_spec_ReduceMachine_3, if_true, wpD_kp, wpD_regi, go_sem, adopt_fun, Int.reduceLT, Int.reduceLE, Int.reduceToNat, Int.reduceNeg, Nat.reduceLT, Nat.reduceLeDiff, Nat.reduceMul, Nat.reduceSub, reduceIte, Nat.reduceEqDiff, Nat.reduceAdd, reduceCtorEq]
    intro vs3 U3 hN3
    refine call_machN (fun x y e => (hN3.inj _ _ _ _ e).2) (k_l06Reduce n o next out M) qCS rfl rfl ?_
    intro v w ps qs h1 h2 hdj
    simp only [wpD_kp, wpD_regi, go_sem, adopt_fun, Int.reduceLT, Int.reduceLE, Int.reduceToNat, Int.reduceNeg, Nat.reduceLT, Nat.reduceLeDiff, Nat.reduceMul, Nat.reduceSub, reduceIte, Nat.reduceEqDiff, Nat.reduceAdd, reduceCtorEq]
    refine ⟨[7, 1007], by simp, by simp, by simp, ?_⟩
    simp only [range1, List.length_singleton, renL_rwp, Nat.not_lt_zero, range1, ren_val, ren_any, ren_ro, rnNm_n, rnNm_sn, rnNm_o, rnNm_s, ren_st, ren_tup, renL_nil, renL_cons, renL_intsK, renL_rws, renL_rwn, oren_box, oren_row, oren_map, ren_own_e0, ren_own_e1, ren_own_e2, ren_ptr_e0, ren_mp_e0, ren_mp_e1, ren_own_r0, ren_own_r1, ren_own_r2, ren_ptr_r0, ren_mp_r0, ren_mp_r1, List.range_zero, callHp_nil, callHp_one, callHp_two, gone_nil, gone_one, gone_two, AVal.fresh, freshL, fresh_intsK, fresh_rws, AObj.fresh, id, Option.isSome_some, or_true, true_or, go_sem, adopt_fun, Int.reduceLT, Int.reduceLE, Int.reduceToNat, Int.reduceNeg, Nat.reduceLT, Nat.reduceLeDiff, Nat.reduceMul, Nat.reduceSub, reduceIte, Nat.reduceEqDiff, Nat.reduceAdd, reduceCtorEq]
    exact ⟨⟨fresh_rwp, fresh_rwp⟩, v, w, ps, qs, by simp, h1, h2, hdj, rfl⟩

end Go.Ab
