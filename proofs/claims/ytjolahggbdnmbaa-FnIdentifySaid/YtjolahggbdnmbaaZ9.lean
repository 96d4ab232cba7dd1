/- Contracts and what they lean on, part 9. Conditions: none. -/
import Derived.Test.YtjolahggbdnmbaaZ8
set_option maxRecDepth 100000
set_option maxHeartbeats 4000000
set_option linter.all false
open Nat (reduceLeDiff reduceMul reduceSub reduceEqDiff reduceAdd)
open Int (reduceToNat reduceNeg reduceLE)
namespace Go.Ab
open Go.Proofs
theorem k_Max (xs : List Int) (v : Int) (hv : v ∈ xs) (hb : ∀ x ∈ xs, x ≤ v) (hl : xs.length ≤ 1000000) : Fun Try.prog nz40 [.ro none 1 (ints xs)] (iv v) := by
  refine fun_of mixed czkn rfl ⟨rfl, trivial⟩ ?_
  obtain ⟨j, hj, hjv⟩ := memg (d := 0) hv
  have h1 : ¬ (xs.length : Int) < 1 := by omega
  have h0 : 0 < xs.length := by omega
  have h00 : xs.getD 0 0 ∈ xs := yzo h0 0
  simp only [Azf5, Bzf4, Bzex, Bzf3, Bzf2, Bzf0, decide_eq_false h1, yzg h0, go_sem, yz0, Int.reduceLT, reduceLE, reduceToNat, reduceNeg, Nat.reduceLT, reduceLeDiff, reduceMul, reduceSub, reduceIte, reduceEqDiff, reduceAdd, reduceCtorEq]
  intro hM
  refine ⟨h0, h0, ?_⟩
  refine wpD_lo (fun (i, _) => xs.length - i) (fun (i, m) => 1 ≤ i ∧ i ≤ xs.length ∧ m ∈ xs ∧ ∀ k, k < i → xs.getD k 0 ≤ m)
    (fun ((i, m) : Nat × Int) => ⟨L .any [(0, .ro none 1 (ints xs)), (3, iv m), (4, iv i)], L .gone []⟩)
    (1, xs.getD 0 0) ⟨Nat.le_refl _, h0, h00, fun k hk => by rw [show k = 0 by omega]; exact Int.le_refl _⟩ (by simp only [Bz2x, go_sem, yz0, Int.reduceLT, reduceLE, reduceToNat, reduceNeg, Nat.reduceLT, reduceLeDiff, reduceMul, reduceSub, reduceIte, reduceEqDiff, reduceAdd, reduceCtorEq]; try rfl) ?_
  rintro ⟨i, m⟩ ⟨hi1, hi, hm, hk⟩
  have hi : i ≤ xs.length := hi
  have hm : m ∈ xs := hm
  by_cases hlt : (i : Int) < xs.length
  · have hlt1 : i < xs.length := by omega
    simp only [Bz2x, Bz6p, Bzez, Bzey, decide_eq_true hlt, yzg hlt1, nat1 i _ hlt1 hM, go_sem, yz0, Int.reduceLT, reduceLE, reduceToNat, reduceNeg, Nat.reduceLT, reduceLeDiff, reduceMul, reduceSub, reduceIte, reduceEqDiff, reduceAdd, reduceCtorEq]
    intro _
    refine ⟨⟨by omega, hlt1⟩, hlt1, ?_⟩
    have hx := yzo hlt1 (0 : Int)
    refine ⟨(i + 1, if xs.getD i 0 > m then xs.getD i 0 else m), by dsimp only; omega, ⟨by dsimp only; omega, by dsimp only; omega, ?_, fun k hk' => ?_⟩, ?_⟩
    · dsimp only; split <;> assumption
    · dsimp only
      rcases Nat.lt_succ_iff_lt_or_eq.1 hk' with h | h
      · have := hk k h; split <;> omega
      · subst h; split <;> omega
    · rfl
  · have : i = xs.length := by omega
    subst this
    have hmv : m = v := by
      have h1 := hb m hm
      have h2 := hk j hj
      omega
    subst hmv
    simp only [Bz2x, Bz6p, Bzf1, decide_eq_false hlt, go_sem, yz0, Int.reduceLT, reduceLE, reduceToNat, reduceNeg, Nat.reduceLT, reduceLeDiff, reduceMul, reduceSub, reduceIte, reduceEqDiff, reduceAdd, reduceCtorEq]
    try (intro _)
theorem fidx_idxOf (c : Int) : ∀ (xs : List Int) (i : Nat), c ∈ xs → fidx (fun y => c == y) xs i = ((i + xs.idxOf c : Nat) : Int)
  | [], _, h => by simp at h
  | x :: xs, i, h => by
    unfold fidx
    by_cases e : c = x
    · subst e; simp
    · have e2 : (c == x) = false := by simpa using e
      have h' : c ∈ xs := by rcases List.mem_cons.1 h with h | h; exact absurd h e; exact h
      rw [e2, if_neg (by simp), fidx_idxOf c xs (i + 1) h', List.idxOf_cons]
      have e3 : (x == c) = false := by simpa using fun h => e h.symm
      rw [e3]
      simp; omega
theorem k_ReduceMachine_1 (s : Int) (cs : List Int) (h : 0 ≤ s ∧ s < cs.length) : Fun Try.prog nz1e [iv s, .rp [.ro none 1 (ints cs)] 0] (iv (cs.getD s.toNat 0)) := by
  refine fun_of mixed czkq rfl ⟨rfl, trivial⟩ ?_
  have h2 : s.toNat < cs.length := by omega
  simp only [Azfq, Bzfp, yzg h2, go_sem, yz0, Int.reduceLT, reduceLE, reduceToNat, reduceNeg, Nat.reduceLT, reduceLeDiff, reduceMul, reduceSub, reduceIte, reduceEqDiff, reduceAdd, reduceCtorEq]
  exact ⟨⟨h.1, h2⟩, h2⟩
theorem k_picked (n o : Int) (next out : List (List Int)) (M : Mach n o next out) (order to : List Int) (g : FuncId) (caps : List AVal) (hcap : Caps caps)
    (ho : ∀ s ∈ order, 0 ≤ s ∧ s < n) (hl : order.length ≤ 1000) (hg : ∀ s ∈ order, ∀ x < next.length, Fun Try.prog g (iv (stepA next s x) :: caps) (iv (to.getD (stepA next s x).toNat 0))) :
    NamM Try.prog nz42 [machA n o next out, .ro none 1 (ints order), .clo g caps] order.length o (next.map (selN to order)) (out.map (selO order)) := by
  refine con_of mixed czkp rfl (by simp) ?_
  generalize hQ : finQ _ = Q
  have n2 := M.aut.n2
  have l1 := M.aut.l1
  have l2 := M.aut.l2
  have hml := M.len
  have hM2 := maxLen_le
  simp only [Az6v, Bzfo, hcap.dn, yzz, yze, go_sem, yz0, Int.reduceLT, reduceLE, reduceToNat, reduceNeg, Nat.reduceLT, reduceLeDiff, reduceMul, reduceSub, reduceIte, reduceEqDiff, reduceAdd, reduceCtorEq]
  intro vs0 U0 hN0 vs1 U1 hN1
  refine yzp (k_size order) qCS trivial ?_
  simp only [Bzfn, Bzfl, yzz, yze, go_sem, yz0, Int.reduceLT, reduceLE, reduceToNat, reduceNeg, Nat.reduceLT, reduceLeDiff, reduceMul, reduceSub, reduceIte, reduceEqDiff, reduceAdd, reduceCtorEq]
  intro vs2 U2 hN2 hMn ver1 ver2
  refine wpD_lp (fun (_, _, _, _, ps, _) => next.length - List.length ps)
    (fun (n1, n2, _, _, ps, qs) => List.map (·.2) ps = (next.take (List.length ps)).map (selN to order) ∧ List.map (·.2) qs = (out.take (List.length ps)).map (selO order) ∧ List.length ps ≤ next.length ∧ List.length qs = List.length ps ∧ DJ (ps ++ qs) ∧ (ps ≠ [] → n1 = true ∧ n2 = true))
    (fun ((n1, n2, va, vb, ps, qs) : Bool × Bool × Nat × Nat × List (Nat × List Int) × List (Nat × List Int)) =>
      ⟨L .any [(1, .ro none 1 (ints order)), (2, .clo g caps), (3, .ptr 3 (vs0 0 0) 0), (6, .ptr 6 (vs0 1 0) 0), (7, .ptr 7 (vs1 5 0) 0), (20, iv next.length), (21, iv ps.length)],
       L .gone [(3, .box (vs0 0 0) [iv n, iv o, .ro none 1 (rwn next), .ro none 1 (rwn out)]), (6, .box (vs0 1 0) [iv 0, iv 0, nilS, nilS]), (7, .box (vs1 5 0) [iv order.length, iv o, .own 61 va, .own 66 vb]), (61, .row va 1 n1 (rwp ps)), (66, .row vb 1 n2 (rwp qs)), (5000, .gone), (5001, .gone), (5002, .gone)]⟩)
    (_, _, _, _, [], []) ⟨rfl, rfl, by simp, rfl, by simp [DJ], by simp⟩ (by simp only [Bz30, List.length_nil, rwp_nil, go_sem, yz0, Int.reduceLT, reduceLE, reduceToNat, reduceNeg, Nat.reduceLT, reduceLeDiff, reduceMul, reduceSub, reduceIte, reduceEqDiff, reduceAdd, reduceCtorEq]; try rfl) ?_
  rintro ⟨nn1, nn2, va, vb, ps, qs⟩ ⟨hp1, hp2, hp3, hp4, hp5, hp6⟩
  have hp1 : ps.map (·.2) = (next.take ps.length).map (selN to order) := hp1
  have hp2 : qs.map (·.2) = (out.take ps.length).map (selO order) := hp2
  have hp3 : ps.length ≤ next.length := hp3
  have hp4 : qs.length = ps.length := hp4
  have hp5 : DJ (ps ++ qs) := hp5
  have hp6 : ps ≠ [] → nn1 = true ∧ nn2 = true := hp6
  by_cases hlt : (ps.length : Int) < next.length
  · have hlt1 : ps.length < next.length := by omega
    have hlo : ps.length < out.length := by omega
    have hrow := M.aut.row _ (yzo hlt1 [])
    have hrou := M.row _ (yzo hlo [])
    simp only [Bz30, Bz6u, Bzfk, decide_eq_true hlt, yzz, yze, go_sem, yz0, Int.reduceLT, reduceLE, reduceToNat, reduceNeg, Nat.reduceLT, reduceLeDiff, reduceMul, reduceSub, reduceIte, reduceEqDiff, reduceAdd, reduceCtorEq]
    intro vs4 U4 hN4 vs5 U5 hN5
    simp only [Bzfi, Bzfh, Bzff, yzz, yze, go_sem, yz0, Int.reduceLT, reduceLE, reduceToNat, reduceNeg, Nat.reduceLT, reduceLeDiff, reduceMul, reduceSub, reduceIte, reduceEqDiff, reduceAdd, reduceCtorEq]
    intro vs6 U6 hN6
    intro vs7 U7 hN7 hMo
    refine wpD_lp (fun (_, _, j) => order.length - j) (fun (vc, vd, j) => j ≤ order.length ∧ vc ≠ vd)
      (fun ((vc, vd, j) : Nat × Nat × Nat) => ⟨L .any [(1, .ro none 1 (ints order)), (2, .clo g caps), (3, .ptr 3 (vs0 0 0) 0), (6, .ptr 6 (vs0 1 0) 0), (7, .ptr 7 (vs1 5 0) 0), (8, iv ps.length), (9, .own 24 vc), (10, .own 25 vd), (20, iv next.length), (21, iv ps.length), (26, .ro none 1 (ints order)), (27, iv order.length), (28, iv j)],
       L .gone [(3, .box (vs0 0 0) [iv n, iv o, .ro none 1 (rwn next), .ro none 1 (rwn out)]), (6, .box (vs0 1 0) [iv 0, iv 0, nilS, nilS]), (7, .box (vs1 5 0) [iv order.length, iv o, .own 61 va, .own 66 vb]), (24, .row vc 1 true (ints ((order.take j).map fun s => to.getD ((next.getD ps.length []).getD s.toNat 0).toNat 0))), (25, .row vd 1 true (ints ((order.take j).map fun s => (out.getD ps.length []).getD s.toNat 0))), (44, .gone), (55, .gone), (61, .row va 1 nn1 (rwp ps)), (66, .row vb 1 nn2 (rwp qs)), (5000, .gone), (5001, .gone), (5002, .gone)]⟩)
      (vs6 0 0, vs6 1 0, 0) ⟨by simp, fun e => by have := (hN6.inj _ _ _ _ e).1; omega⟩ (by simp only [Bz2z, go_sem, yz0, Int.reduceLT, reduceLE, reduceToNat, reduceNeg, Nat.reduceLT, reduceLeDiff, reduceMul, reduceSub, reduceIte, reduceEqDiff, reduceAdd, reduceCtorEq]; try rfl) ?_
    rintro ⟨vc, vd, j⟩ ⟨hj, hne⟩
    have hne : vc ≠ vd := hne
    have hj : j ≤ order.length := hj
    by_cases hjl : (j : Int) < order.length
    · have hj1 : j < order.length := by omega
      have hs := ho _ (yzo hj1 0)
      have hc : (order.getD j 0).toNat < (next.getD ps.length []).length := by omega
      have hc2 : (order.getD j 0).toNat < (out.getD ps.length []).length := by omega
      have hx := hrow.2 _ (yzo hc 0)
      have e1 := take_map_snoc (f := fun s : Int => to.getD ((next.getD ps.length []).getD s.toNat 0).toNat 0) 0 hj1
      have e2 := take_map_snoc (f := fun s : Int => (out.getD ps.length []).getD s.toNat 0) 0 hj1
      have hgs := hg _ (yzo hj1 0) ps.length hlt1
      have hst : stepA next (order.getD j 0) (ps.length : Int) = (next.getD ps.length []).getD (order.getD j 0).toNat 0 := by simp [stepA]
      rw [hst] at hgs
      simp only [Bz2z, Bz6t, Bzfe, Bzfc, yz19 hlt1, yz19 hlo, yzg hj1, yzg hc, yzg hc2, decide_eq_true hjl, yzz, yze, go_sem, yz0, Int.reduceLT, reduceLE, reduceToNat, reduceNeg, Nat.reduceLT, reduceLeDiff, reduceMul, reduceSub, reduceIte, reduceEqDiff, reduceAdd, reduceCtorEq]
      intro vs7 U7 hN7 vs8 U8 hN8
      refine ⟨⟨by omega, hj1⟩, hj1, ?_⟩
      intro vs9 U9 hN9
      refine ⟨⟨by omega, hlt1⟩, hlt1, ⟨hs.1, hc⟩, hc, ?_⟩
      refine yzp hgs (by simp only [rowIs, boxIs, coe_argN, yz1a, coe_ro_o, coeL_nil, yz18, coe_any, coe_val, coe_ro, yz16, yz17, coe_st, yz15, coe_rp, yz14, coe_clo, coe_own0, coe_ptr0, yz13, coeL_rws, coeL_rwn, L_hit, L_miss, L_nil, reduceEqDiff, ne_eq, reduceCtorEq, not_false_eq_true, true_and, and_true, and_self, exists_eq_left, exists_eq_right, List.mem_cons, List.not_mem_nil, or_false, AObj.row.injEq, AObj.box.injEq, exists_eq_left', exists_and_left, exists_eq, Nat.zero_lt_one, Nat.lt_add_one, List.map_cons, List.map_nil, AObj.ver, Nat.reduceLT, not_true_eq_false]; exact hcap.coe _ _ _) trivial ?_
      simp only [Bzfd, yz19 hlt1, yz19 hlo, yzg hj1, yzg hc, yzg hc2, e1, e2, nat1 j _ hj1 hMo, yzz, yze, go_sem, yz0, Int.reduceLT, reduceLE, reduceToNat, reduceNeg, Nat.reduceLT, reduceLeDiff, reduceMul, reduceSub, reduceIte, reduceEqDiff, reduceAdd, reduceCtorEq]
      refine ⟨⟨_, rfl, rfl⟩, by rw [List.length_take]; omega, ⟨by omega, hlo⟩, hlo, ⟨hs.1, hc2⟩, hc2, ⟨_, rfl, rfl⟩, by rw [List.length_take]; omega, ?_⟩
      intro vs11 U11 hN11
      exact ⟨(vs9 12 0, vs9 23 0, j + 1), by dsimp only; omega, ⟨by dsimp only; omega, fun e => by have := (hN9.inj _ _ _ _ e).1; omega⟩, rfl⟩
    · have : j = order.length := by omega
      subst this
      simp only [Bz2z, Bz6t, Bzfg, List.take_length, decide_eq_false hjl, yzz, yze, wpD_gh, go_sem, yz0, Int.reduceLT, reduceLE, reduceToNat, reduceNeg, Nat.reduceLT, reduceLeDiff, reduceMul, reduceSub, reduceIte, reduceEqDiff, reduceAdd, reduceCtorEq]
      intro vs8 U8 hN8
      intro hD
      refine ⟨[], ?_⟩
      generalize hr1 : (order.map fun s => to.getD ((next.getD ps.length []).getD s.toNat 0).toNat 0) = r1 at hD ⊢
      generalize hr2 : (order.map fun s => (out.getD ps.length []).getD s.toNat 0) = r2 at hD ⊢
      have hf1 : ∀ p ∈ ps ++ qs, p.2 = [] ∨ p.1 ≠ vc := fun p hp => by
        by_cases e : p.2 = []
        · exact .inl e
        · refine .inr ?_
          rcases List.mem_append.1 hp with hp | hp
          · exact hD 61 va 1 nn1 (rwp ps) 24 vc rfl rfl p.1 1 (ints p.2) (List.mem_map.2 ⟨p, hp, rfl⟩) (by simpa using e)
          · exact hD 66 vb 1 nn2 (rwp qs) 24 vc rfl rfl p.1 1 (ints p.2) (List.mem_map.2 ⟨p, hp, rfl⟩) (by simpa using e)
      have hf2 : ∀ p ∈ ps ++ qs, p.2 = [] ∨ p.1 ≠ vd := fun p hp => by
        by_cases e : p.2 = []
        · exact .inl e
        · refine .inr ?_
          rcases List.mem_append.1 hp with hp | hp
          · exact hD 61 va 1 nn1 (rwp ps) 25 vd rfl rfl p.1 1 (ints p.2) (List.mem_map.2 ⟨p, hp, rfl⟩) (by simpa using e)
          · exact hD 66 vb 1 nn2 (rwp qs) 25 vd rfl rfl p.1 1 (ints p.2) (List.mem_map.2 ⟨p, hp, rfl⟩) (by simpa using e)
      simp only [gwp_nil, yzz, yze, go_sem, yz0, Int.reduceLT, reduceLE, reduceToNat, reduceNeg, Nat.reduceLT, reduceLeDiff, reduceMul, reduceSub, reduceIte, reduceEqDiff, reduceAdd, reduceCtorEq]
      intro vs10 U10 hN10
      rw [rwp_len, rwp_len]
      refine ⟨by omega, by omega, ?_⟩
      simp only [Bzfj, nat1 _ _ hlt1 hMn, rwp_snoc, yzz, yze, go_sem, yz0, Int.reduceLT, reduceLE, reduceToNat, reduceNeg, Nat.reduceLT, reduceLeDiff, reduceMul, reduceSub, reduceIte, reduceEqDiff, reduceAdd, reduceCtorEq]
      intro vs12 U12 hN12
      refine ⟨(true, true, vs10 4 0, vs10 9 0, ps ++ [(vc, r1)], qs ++ [(vd, r2)]), by dsimp only; rw [List.length_append, List.length_singleton]; omega,
        ⟨?_, ?_, by dsimp only; rw [List.length_append, List.length_singleton]; omega, by dsimp only; rw [List.length_append, List.length_append, hp4]; rfl, DJ_two hp5 hf1 hf2 (.inr hne), by simp⟩, ?_⟩
      · dsimp only
        rw [List.map_append, hp1, List.length_append, List.length_singleton, ← take_map_snoc [] hlt1, ← hr1]; rfl
      · dsimp only
        rw [List.map_append, hp2, List.length_append, List.length_singleton, ← take_map_snoc [] hlo, ← hr2]; rfl
      · dsimp only
        rw [List.length_append, List.length_singleton]
  · have hlen : ps.length = next.length := by omega
    rw [hlen, List.take_length] at hp1
    rw [hlen, ← hml, List.take_length] at hp2
    obtain ⟨rfl, rfl⟩ := hp6 (fun e => by rw [e] at hlen; simp at hlen; omega)
    simp only [Bz30, Bz6u, Bzfm, decide_eq_false hlt, Az6v, ← hQ, yzz, yze, go_sem, yz0, Int.reduceLT, reduceLE, reduceToNat, reduceNeg, Nat.reduceLT, reduceLeDiff, reduceMul, reduceSub, reduceIte, reduceEqDiff, reduceAdd, reduceCtorEq]
    intro vs3 U3 hN3 vs4 U4 hN4
    refine ⟨[61, 66], by simp, by simp, by simp, ?_⟩
    simp only [range1, List.length_singleton, renL_rwp, Nat.not_lt_zero, range1, yzy, yz12, yz1d, yz1e, yz10, yz1f, yz1c, yz1b, yz11, yzv, yzj, yz5, yzw, yzt, yzr, yzs, yzx, yz6, yz7, yzb, yzd, yzm, yzi, yz4, yzc, yz8, yza, yzk, yzh, List.range_zero, yz2, yz3, yz9, yzu, yzn, yzq, AVal.fresh, freshL, yz1, yzl, AObj.fresh, id, Option.isSome_some, or_true, true_or, go_sem, yz0, Int.reduceLT, reduceLE, reduceToNat, reduceNeg, Nat.reduceLT, reduceLeDiff, reduceMul, reduceSub, reduceIte, reduceEqDiff, reduceAdd, reduceCtorEq]
    exact ⟨⟨fresh_rwp, fresh_rwp⟩, va, vb, ps, qs, by simp, hp1, hp2, hp5, rfl⟩
theorem k_implReduceMachine (n o : Int) (next out : List (List Int)) :
    NamMR Try.prog nz16 [machA n o next out] (machB n o next out) ((clsP next out n.toNat).1 : Int) o (redN next out n.toNat) (redU next out n.toNat) (if machB n o next out = true then 0 else 1) := by
  refine con_of mixed czk3 rfl (by simp) ?_
  generalize hQ : finQ _ = Q
  simp only [Az28, Bzbf, yzz, yze, go_sem, yz0, Int.reduceLT, reduceLE, reduceToNat, reduceNeg, Nat.reduceLT, reduceLeDiff, reduceMul, reduceSub, reduceIte, reduceEqDiff, reduceAdd, reduceCtorEq]
  intro vs0 U0 hN0 vs1 U1 hN1
  refine yzp (k_ValidMachine n o next out) qCS trivial ?_
  cases hv : machB n o next out with
  | false =>
    simp only [Bz5k, Bool.false_eq_true, if_false, Az28, ← hQ, yzz, yze, go_sem, yz0, Int.reduceLT, reduceLE, reduceToNat, reduceNeg, Nat.reduceLT, reduceLeDiff, reduceMul, reduceSub, reduceIte, reduceEqDiff, reduceAdd, reduceCtorEq]
    intro vs3 U3 hN3
    refine ⟨[], by simp, by simp, by simp, ?_⟩
    simp only [Nat.not_lt_zero, range1, yzy, yz12, yz1d, yz1e, yz10, yz1f, yz1c, yz1b, yz11, yzv, yzj, yz5, yzw, yzt, yzr, yzs, yzx, yz6, yz7, yzb, yzd, yzm, yzi, yz4, yzc, yz8, yza, yzk, yzh, List.range_zero, yz2, yz3, yz9, yzu, yzn, yzq, AVal.fresh, freshL, yz1, yzl, AObj.fresh, id, Option.isSome_some, or_true, true_or, go_sem, yz0, Int.reduceLT, reduceLE, reduceToNat, reduceNeg, Nat.reduceLT, reduceLeDiff, reduceMul, reduceSub, reduceIte, reduceEqDiff, reduceAdd, reduceCtorEq]
    unfold MachRC; rw [if_neg (by rw [hv]; simp)]; rw [hv, if_neg (by simp)]; exact ⟨rfl, rfl⟩
  | true =>
    have M := machB_iff.1 hv
    have n1 := M.aut.n1
    have n2 := M.aut.n2
    have hM2 := maxLen_le
    obtain ⟨c1, c2, c3⟩ := clsP_len next out n.toNat
    have hcn := cls_mem next out n.toNat
    have hE : (numP next out n.toNat).2 = (clsP next out n.toNat).2 := (numP_cls (out := out) M.aut n.toNat (Nat.le_refl _)).1
    simp only [Bz5k, Bzbe, if_true, yzz, yze, go_sem, yz0, Int.reduceLT, reduceLE, reduceToNat, reduceNeg, Nat.reduceLT, reduceLeDiff, reduceMul, reduceSub, reduceIte, reduceEqDiff, reduceAdd, reduceCtorEq]
    intro vs3 U3 hN3
    refine call_rowI (k_classes n o next out M) qCS qGN ⟨_, rfl⟩ ?_
    rintro ys v7 rfl
    rw [hE]
    generalize hcl : (clsP next out n.toNat).2 = cl at c1 c3 hcn
    generalize hck : (clsP next out n.toNat).1 = ck at c2 c3 hcn
    have h00 : 0 < cl.length := by omega
    have hck1 : 1 ≤ ck := by have := c3 _ (yzo h00 0); omega
    have hlast : ((ck : Int) - 1) ∈ cl := by
      have := hcn (ck - 1) (by omega)
      rwa [show (((ck - 1 : Nat)) : Int) = (ck : Int) - 1 by omega] at this
    have w1 : IntKind.i64.wrap ((ck : Int) - 1 + 1) = (ck : Int) := by rw [w64 (by omega)]; omega
    simp only [Bzbd, yzz, yze, go_sem, yz0, Int.reduceLT, reduceLE, reduceToNat, reduceNeg, Nat.reduceLT, reduceLeDiff, reduceMul, reduceSub, reduceIte, reduceEqDiff, reduceAdd, reduceCtorEq]
    intro vs4 U4 hN4
    refine yzp (k_Max cl ((ck : Int) - 1) hlast (fun x hx => by have := c3 x hx; omega) (by omega)) qCS trivial ?_
    simp only [w1, Bzbb, yzz, yze, go_sem, yz0, Int.reduceLT, reduceLE, reduceToNat, reduceNeg, Nat.reduceLT, reduceLeDiff, reduceMul, reduceSub, reduceIte, reduceEqDiff, reduceAdd, reduceCtorEq]
    refine wpD_lp (fun (_, k) => ck - k) (fun (_, k) => k ≤ ck)
      (fun ((va, k) : Nat × Nat) => ⟨L .any [(1, .ptr 1 (vs0 0 0) 0), (2, .ptr 2 (vs0 1 0) 0), (4, .ptr 4 (vs3 3 0) 0), (5, .own 13 va), (16, iv ck), (17, iv k)],
       L .gone [(1, .box (vs0 0 0) [iv n, iv o, .ro none 1 (rwn next), .ro none 1 (rwn out)]), (2, .box (vs0 1 0) [iv 0, iv 0, nilS, nilS]), (4, .box (vs3 3 0) [.own 12 v7]), (12, .row v7 1 true (ints cl)), (13, .row va 1 true (ints ((List.range k).map fun (i : Nat) => (cl.idxOf (i : Int) : Int)))), (25, .gone), (30, .gone), (1030, .gone), (5000, .gone)]⟩)
      (_, 0) (by simp) (by simp only [Bz27, go_sem, yz0, Int.reduceLT, reduceLE, reduceToNat, reduceNeg, Nat.reduceLT, reduceLeDiff, reduceMul, reduceSub, reduceIte, reduceEqDiff, reduceAdd, reduceCtorEq]; try rfl) ?_
    rintro ⟨va, k⟩ hk
    have hk : k ≤ ck := hk
    by_cases hlt : (k : Int) < ck
    · have hlt1 : k < ck := by omega
      have w2 : IntKind.i64.wrap ((k : Int) + 1) = ((k + 1 : Nat) : Int) := by rw [w64 (by omega)]; simp
      have hki := k_Index cl (k : Int)
      rw [fidx_idxOf _ cl 0 (hcn k hlt1), Nat.zero_add] at hki
      have e1 : ((List.range k).map fun (i : Nat) => (cl.idxOf (i : Int) : Int)) ++ [(cl.idxOf (k : Int) : Int)] = (List.range (k + 1)).map fun (i : Nat) => (cl.idxOf (i : Int) : Int) := by
        rw [List.range_succ, List.map_append]; rfl
      simp only [Bz27, Bz5l, Bzba, decide_eq_true hlt, yzz, yze, go_sem, yz0, Int.reduceLT, reduceLE, reduceToNat, reduceNeg, Nat.reduceLT, reduceLeDiff, reduceMul, reduceSub, reduceIte, reduceEqDiff, reduceAdd, reduceCtorEq]
      intro vs5 U5 hN5 vs6 U6 hN6
      simp only [Bzb8, yzz, yze, go_sem, yz0, Int.reduceLT, reduceLE, reduceToNat, reduceNeg, Nat.reduceLT, reduceLeDiff, reduceMul, reduceSub, reduceIte, reduceEqDiff, reduceAdd, reduceCtorEq]
      intro vs7 U7 hN7
      refine yzp hki qCS trivial ?_
      simp only [Bzb9, w2, e1, yzz, yze, go_sem, yz0, Int.reduceLT, reduceLE, reduceToNat, reduceNeg, Nat.reduceLT, reduceLeDiff, reduceMul, reduceSub, reduceIte, reduceEqDiff, reduceAdd, reduceCtorEq]
      refine ⟨⟨_, rfl, rfl⟩, by rw [List.length_range]; omega, ?_⟩
      intro vs8 U8 hN8
      exact ⟨(_, k + 1), by dsimp only; omega, by dsimp only; omega, by dsimp only; rw [List.range_succ]⟩
    · have : k = ck := by omega
      subst this
      simp only [Bz27, Bz5l, Bzbc, decide_eq_false hlt, yzz, yze, go_sem, yz0, Int.reduceLT, reduceLE, reduceToNat, reduceNeg, Nat.reduceLT, reduceLeDiff, reduceMul, reduceSub, reduceIte, reduceEqDiff, reduceAdd, reduceCtorEq]
      intro vs5 U5 hN5 vs6 U6 hN6
      have hred : redO next out n.toNat = (List.range k).map fun (i : Nat) => (cl.idxOf (i : Int) : Int) := by simp only [ordC, hcl, hck]
      have hlen : (redO next out n.toNat).length = k := by rw [hred]; simp
      have hP := k_picked n o next out M (redO next out n.toNat) cl nz1e [.rp [.ro none 1 (ints cl)] 0] ⟨by simp only [go_sem, yz0, Int.reduceLT, reduceLE, reduceToNat, reduceNeg, Nat.reduceLT, reduceLeDiff, reduceMul, reduceSub, reduceIte, reduceEqDiff, reduceAdd, reduceCtorEq], by intros; simp only [rowIs, boxIs, coe_argN, yz1a, coe_ro_o, coeL_nil, yz18, coe_any, coe_val, coe_ro, yz16, yz17, coe_st, yz15, coe_rp, yz14, coe_clo, coe_own0, coe_ptr0, yz13, coeL_rws, coeL_rwn, L_hit, L_miss, L_nil, reduceEqDiff, ne_eq, reduceCtorEq, not_false_eq_true, true_and, and_true, and_self, exists_eq_left, exists_eq_right, List.mem_cons, List.not_mem_nil, or_false, AObj.row.injEq, AObj.box.injEq, exists_eq_left', exists_and_left, exists_eq, Nat.zero_lt_one, Nat.lt_add_one, List.map_cons, List.map_nil, AObj.ver, Nat.reduceLT, not_true_eq_false]⟩
        (fun s hs => by have := redO_mem next out hs; omega) (by rw [hlen]; omega) (fun s hs x hx => by
          have h1 := redO_mem next out hs
          have h2 := step_rg M.aut (s := s) (x := (x : Int)) ⟨h1.1, by omega⟩ ⟨by omega, by omega⟩
          exact k_ReduceMachine_1 _ cl ⟨h2.1, by omega⟩)
      rw [hlen] at hP
      have e2 : next.map (selN cl (redO next out n.toNat)) = redN next out n.toNat := by rw [← hcl]
      rw [e2] at hP
      simp only [← hred]
      refine call_machN (fun x y e => (hN6.inj _ _ _ _ e).2) hP (by simp only [rowIs, boxIs, coe_argN, yz1a, coe_ro_o, coeL_nil, yz18, coe_any, coe_val, coe_ro, yz16, yz17, coe_st, yz15, coe_rp, yz14, coe_clo, coe_own0, coe_ptr0, yz13, coeL_rws, coeL_rwn, L_hit, L_miss, L_nil, reduceEqDiff, ne_eq, reduceCtorEq, not_false_eq_true, true_and, and_true, and_self, exists_eq_left, exists_eq_right, List.mem_cons, List.not_mem_nil, or_false, AObj.row.injEq, AObj.box.injEq, exists_eq_left', exists_and_left, exists_eq, Nat.zero_lt_one, Nat.lt_add_one, List.map_cons, List.map_nil, AObj.ver, Nat.reduceLT, not_true_eq_false]) rfl rfl ?_
      intro v w ps qs h1 h2 hdj
      simp only [Az28, ← hQ, yzz, yze, go_sem, yz0, Int.reduceLT, reduceLE, reduceToNat, reduceNeg, Nat.reduceLT, reduceLeDiff, reduceMul, reduceSub, reduceIte, reduceEqDiff, reduceAdd, reduceCtorEq]
      refine ⟨[30, 1030], by simp, by simp, by simp, ?_⟩
      simp only [range1, List.length_singleton, renL_rwp, Nat.not_lt_zero, range1, yzy, yz12, yz1d, yz1e, yz10, yz1f, yz1c, yz1b, yz11, yzv, yzj, yz5, yzw, yzt, yzr, yzs, yzx, yz6, yz7, yzb, yzd, yzm, yzi, yz4, yzc, yz8, yza, yzk, yzh, List.range_zero, yz2, yz3, yz9, yzu, yzn, yzq, AVal.fresh, freshL, yz1, yzl, AObj.fresh, id, Option.isSome_some, or_true, true_or, go_sem, yz0, Int.reduceLT, reduceLE, reduceToNat, reduceNeg, Nat.reduceLT, reduceLeDiff, reduceMul, reduceSub, reduceIte, reduceEqDiff, reduceAdd, reduceCtorEq]
      refine ⟨⟨fresh_rwp, fresh_rwp⟩, ?_⟩
      unfold MachRC
      rw [if_pos hv, if_pos hv]
      exact ⟨v, w, ps, qs, by simp, h1, h2, hdj, by rw [hck]⟩
end Go.Ab
namespace Go.Ab
open Go.Proofs
end Go.Ab
namespace Go.Ab
open Go.Proofs
end Go.Ab
namespace Go.Ab
open Go.Proofs
theorem k_Machine_outputs (n o : Int) (next out : List (List Int)) (M : Mach n o next out) (s : Int) (hs : 0 ≤ s ∧ s < n) (w : List Int) (hw : IsW next.length w) (hwl : w.length ≤ 1000000) :
    Fn Try.prog nz1l [machA n o next out, iv s, .ro none 1 (ints w)] fun rows res => ∃ v, rows = [.row v 1 true (ints (outsA next out s w))] ∧ res = .tup [.own 6000 v, iv (atA next s w)] := by
  refine con_of mixed czl5 rfl (by simp) ?_
  generalize hQ : finQ _ = Q
  simp only [Az7f, Bzh4, go_sem, yz0, Int.reduceLT, reduceLE, reduceToNat, reduceNeg, Nat.reduceLT, reduceLeDiff, reduceMul, reduceSub, reduceIte, reduceEqDiff, reduceAdd, reduceCtorEq]
  intro vs vs1
  simp only [Bzh3, Bzh1, go_sem, yz0, Int.reduceLT, reduceLE, reduceToNat, reduceNeg, Nat.reduceLT, reduceLeDiff, reduceMul, reduceSub, reduceIte, reduceEqDiff, reduceAdd, reduceCtorEq]
  intro hMw
  refine wpD_lo (fun (_, i, _, _) => w.length - i) (fun (_, i, u, r) => i ≤ w.length ∧ (0 ≤ u ∧ u < n) ∧ r ++ outsA next out u (w.drop i) = outsA next out s w ∧ atA next u (w.drop i) = atA next s w ∧ List.length r = i)
    (fun ((va, i, u, r) : Nat × Nat × Int × List Int) => ⟨L .any [(1, iv u), (3, .ptr 3 (vs 0 0) 0), (8, .own 11 va), (12, .ro none 1 (ints w)), (13, iv w.length), (14, iv i)], L .gone [(3, .box (vs 0 0) [iv n, iv o, .ro none 1 (rwn next), .ro none 1 (rwn out)]), (11, .row va 1 true (ints r))]⟩)
    (_, 0, s, []) ⟨by omega, hs, rfl, rfl, rfl⟩ (by simp only [Bz38, go_sem, yz0, Int.reduceLT, reduceLE, reduceToNat, reduceNeg, Nat.reduceLT, reduceLeDiff, reduceMul, reduceSub, reduceIte, reduceEqDiff, reduceAdd, reduceCtorEq]; try rfl) ?_
  rintro ⟨va, i, u, r⟩ ⟨hi, hu, hr, hat, hrl⟩
  have hi : i ≤ w.length := hi
  have hrl : r.length = i := hrl
  by_cases hlt : (i : Int) < w.length
  · have hlt1 : i < w.length := by omega
    rw [drop_getD hlt1 0] at hr hat
    have hx := hw _ (yzo hlt1 0)
    generalize hxe : w.getD i 0 = x at hr hat hx
    have hxl : x.toNat < next.length := by omega
    have hxo : x.toNat < out.length := by rw [M.len]; exact hxl
    have r1 := M.aut.row _ (yzo hxl [])
    have r2 := M.row _ (yzo hxo [])
    have z1 : u.toNat < (next.getD x.toNat []).length := by omega
    have z2 : u.toNat < (out.getD x.toNat []).length := by omega
    have hst := r1.2 _ (yzo z1 0)
    simp only [Bz38, Bz7e, Bzh0, yzg hlt1, hxe, yz19 hxo, yzg z2, decide_eq_true hlt, go_sem, yz0, Int.reduceLT, reduceLE, reduceToNat, reduceNeg, Nat.reduceLT, reduceLeDiff, reduceMul, reduceSub, reduceIte, reduceEqDiff, reduceAdd, reduceCtorEq]
    refine ⟨⟨by omega, hlt1⟩, hlt1, ?_⟩
    simp only [Bzgy, Bzgx, Bzgz, yzg hlt1, hxe, yz19 hxo, yz19 hxl, yzg z2, yzg z1, nat1 i _ hlt1 hMw, go_sem, yz0, Int.reduceLT, reduceLE, reduceToNat, reduceNeg, Nat.reduceLT, reduceLeDiff, reduceMul, reduceSub, reduceIte, reduceEqDiff, reduceAdd, reduceCtorEq]
    intro vs2
    refine ⟨⟨hx.1, hxo⟩, hxo, ⟨hu.1, z2⟩, z2, ⟨_, rfl, rfl⟩, by omega, ⟨hx.1, hxl⟩, hxl, ⟨hu.1, z1⟩, z1, ?_⟩
    refine ⟨(vs2 10 0, i + 1, (next.getD x.toNat []).getD u.toNat 0, r ++ [(out.getD x.toNat []).getD u.toNat 0]), by dsimp only; omega, ⟨by dsimp only; omega, hst, ?_, hat, by dsimp only; rw [List.length_append, hrl]; rfl⟩, rfl⟩
    dsimp only
    rw [← hr]
    simp only [outsA, List.append_assoc, List.cons_append, List.nil_append]
    rfl
  · have : i = w.length := by omega
    subst this
    rw [List.drop_length] at hr hat
    simp only [outsA, List.append_nil] at hr
    simp only [Bz38, Bz7e, Bzh2, decide_eq_false hlt, Az7f, ← hQ, go_sem, yz0, Int.reduceLT, reduceLE, reduceToNat, reduceNeg, Nat.reduceLT, reduceLeDiff, reduceMul, reduceSub, reduceIte, reduceEqDiff, reduceAdd, reduceCtorEq]
    refine ⟨[11], by simp, by simp, by simp, ?_⟩
    simp only [range1, List.length_singleton, Nat.not_lt_zero, range1, yzy, yz12, yz1d, yz1e, yz10, yz1f, yz1c, yz1b, yz11, yzv, yzj, yz5, yzw, yzt, yzr, yzs, yzx, yz6, yz7, yzb, yzd, yzm, yzi, yz4, yzc, yz8, yza, yzk, yzh, List.range_zero, yz2, yz3, yz9, yzu, yzn, yzq, AVal.fresh, freshL, yz1, yzl, AObj.fresh, id, Option.isSome_some, or_true, true_or, go_sem, yz0, Int.reduceLT, reduceLE, reduceToNat, reduceNeg, Nat.reduceLT, reduceLeDiff, reduceMul, reduceSub, reduceIte, reduceEqDiff, reduceAdd, reduceCtorEq]
    exact ⟨va, by rw [hr], by rw [← hat]; rfl⟩
end Go.Ab
namespace Go.Ab
def toldB (next out : List (List Int)) (ws : List (List Int)) (s t : Nat) : Bool := ws.any fun w => !decide (outsA next out (s : Int) w = outsA next out (t : Int) w)
def tellI (next out : List (List Int)) (s : Nat) : Nat → List (List Int) → Option (List (List Int))
  | 0, ws => some ws
  | k + 1, ws => match tellI next out s k ws with
    | none => none
    | some ws' => if toldB next out ws' s (s + 1 + k) = true then some ws' else match apartQ next next out out s (s + 1 + k) with
      | none => none
      | some w => some (ws' ++ [w])
def tellO (next out : List (List Int)) (n : Nat) : Nat → Option (List (List Int))
  | 0 => some []
  | s + 1 => match tellO next out n s with
    | none => none
    | some ws => tellI next out s (n - (s + 1)) ws
theorem tellI_none {next out : List (List Int)} {s : Nat} {ws : List (List Int)} {k : Nat} (h : tellI next out s k ws = none) : ∀ d, tellI next out s (k + d) ws = none
  | 0 => h
  | d + 1 => by rw [← Nat.add_assoc, tellI, tellI_none h d]
theorem tellO_none {next out : List (List Int)} {n s : Nat} (h : tellO next out n s = none) : ∀ d, tellO next out n (s + d) = none
  | 0 => h
  | d + 1 => by rw [← Nat.add_assoc, tellO, tellO_none h d]
def keyW (next out : List (List Int)) (ws : List (List Int)) (s : Nat) : List (List Int) := ws.map fun w => outsA next out (s : Int) w
theorem keyW_snoc {next out ws : List (List Int)} {w : List Int} {s t : Nat} : keyW next out (ws ++ [w]) s = keyW next out (ws ++ [w]) t ↔ keyW next out ws s = keyW next out ws t ∧ outsA next out (s : Int) w = outsA next out (t : Int) w := by
  simp only [keyW, List.map_append, List.map_cons, List.map_nil]
  constructor
  · intro h
    have h := List.append_inj h (by simp)
    exact ⟨h.1, by simpa using h.2⟩
  · rintro ⟨h1, h2⟩
    rw [h1, h2]
theorem told_key {next out ws : List (List Int)} {s t : Nat} : toldB next out ws s t = false ↔ keyW next out ws s = keyW next out ws t := by
  simp only [toldB, keyW, List.any_eq_false, List.map_inj_left, Bool.not_eq_true, Bool.not_eq_false', decide_eq_true_eq]
def cntW (next out : List (List Int)) (n : Nat) (ws : List (List Int)) : Nat := ((List.range n).filter fun s => decide (∀ t < s, keyW next out ws t ≠ keyW next out ws s)).length
theorem cntW_le {next out : List (List Int)} {n : Nat} {ws : List (List Int)} : cntW next out n ws ≤ n := by
  have := List.length_filter_le (fun s => decide (∀ t < s, keyW next out ws t ≠ keyW next out ws s)) (List.range n)
  rw [List.length_range] at this; exact this
theorem cntW_nil {next out : List (List Int)} {n : Nat} (h : 1 ≤ n) : 1 ≤ cntW next out n [] := by
  have : 0 ∈ (List.range n).filter fun s => decide (∀ t < s, keyW next out [] t ≠ keyW next out [] s) := by
    rw [List.mem_filter]; exact ⟨List.mem_range.2 (by omega), decide_eq_true (fun t ht => by omega)⟩
  exact List.length_pos_of_mem this
theorem cntW_lt {next out : List (List Int)} {n : Nat} {ws : List (List Int)} {w : List Int} {s t : Nat} (hs : s < n) (ht : t < n) (he : keyW next out ws s = keyW next out ws t) (hd : outsA next out (s : Int) w ≠ outsA next out (t : Int) w) :
    cntW next out n ws < cntW next out n (ws ++ [w]) := by
  unfold cntW
  refine filter_lt ?_ ?_
  · intro x _ hx
    have hx := of_decide_eq_true hx
    refine decide_eq_true fun t ht e => ?_
    exact hx t ht (keyW_snoc.1 e).1
  · obtain ⟨r, hr, h1, h2⟩ := least_of (P := fun r => keyW next out ws r = keyW next out ws s) (m := s) rfl
    obtain ⟨y, hy, hk, ho⟩ : ∃ y, y < n ∧ keyW next out ws y = keyW next out ws r ∧ outsA next out (y : Int) w ≠ outsA next out (r : Int) w := by
      by_cases e : outsA next out (s : Int) w = outsA next out (r : Int) w
      · exact ⟨t, ht, by rw [h1, he], fun e' => hd (by rw [e, e'])⟩
      · exact ⟨s, hs, h1.symm, e⟩
    obtain ⟨u, hu, ⟨g1, g2⟩, g3⟩ := least_of (P := fun u => keyW next out ws u = keyW next out ws r ∧ outsA next out (u : Int) w ≠ outsA next out (r : Int) w) (m := y) ⟨hk, ho⟩
    refine ⟨u, List.mem_range.2 (by omega), decide_eq_true fun v hv e => ?_, decide_eq_false fun h => ?_⟩
    · obtain ⟨e1, e2⟩ := keyW_snoc.1 e
      exact g3 v hv ⟨by rw [e1, g1], by rw [e2]; exact g2⟩
    · have hne : r ≠ u := fun e => g2 (by rw [e])
      have hru : r < u := by
        rcases Nat.lt_or_ge u r with hlt | hge
        · exact absurd (by rw [g1, h1]) (h2 u hlt)
        · omega
      exact h r hru g1.symm
structure TW (n : Int) (next out : List (List Int)) (ws : List (List Int)) : Prop where
  wd : ∀ w ∈ ws, (∀ x ∈ w, 0 ≤ x ∧ x < next.length) ∧ w.length ≤ 100
  ct : ws.length + 1 ≤ cntW next out n.toNat ws
  ne : ∀ w ∈ ws, w ≠ []
theorem TW.len {n : Int} {next out ws : List (List Int)} (A : Aut n next) (T : TW n next out ws) : ws.length ≤ 9 := by
  have h1 := T.ct
  have h2 := cntW_le (next := next) (out := out) (n := n.toNat) (ws := ws)
  have := A.n2
  omega
theorem TW0 {n : Int} {next out : List (List Int)} (A : Aut n next) : TW n next out [] := ⟨by simp, by have := A.n1; simpa using cntW_nil (by omega), by simp⟩
theorem TW.add {n : Int} {next out ws : List (List Int)} (A : Aut n next) (T : TW n next out ws) {s t : Nat} (hs : s < n.toNat) (ht : t < n.toNat) (h : toldB next out ws s t = false) {w : List Int} (hw : apartQ next next out out s t = some w) :
    TW n next out (ws ++ [w]) := by
  obtain ⟨h1, h2, _⟩ := apartQ_first hw
  have h3 := apartQ_short A hs ht hw
  have := A.n2
  refine ⟨fun v hv => ?_, ?_, fun v hv => ?_⟩
  · rcases List.mem_append.1 hv with hv | hv
    · exact T.wd v hv
    · have hv : v = w := by simpa using hv
      rw [hv]; exact ⟨h2, by omega⟩
  · have hd : outsA next out (s : Int) w ≠ outsA next out (t : Int) w := fun e => by
      have := (outs_iff (o := 0) A w s t hs ht h2).1 e
      rw [h1] at this; cases this
    have h4 := cntW_lt hs ht (told_key.1 h) hd
    have h5 := T.ct
    rw [List.length_append, List.length_singleton]; omega
  · rcases List.mem_append.1 hv with hv | hv
    · exact T.ne v hv
    · have hv : v = w := by simpa using hv
      rw [hv]; rintro rfl; simp [difW] at h1
theorem TW.untold {n : Int} {next out ws : List (List Int)} (A : Aut n next) (T : TW n next out ws) {s t : Nat} (hs : s < n.toNat) (ht : t < n.toNat) (h : apartQ next next out out s t = none) : toldB next out ws s t = false := by
  have he : eqvP next out s t = true := by rw [eqvP, h]; rfl
  rw [eqvP_outs A hs ht] at he
  rw [told_key]
  exact List.map_congr_left fun w hw => he w (T.wd w hw).1
theorem TW.inner {n : Int} {next out : List (List Int)} (A : Aut n next) {s : Nat} {ws : List (List Int)} (T : TW n next out ws) : ∀ (k : Nat) (ws' : List (List Int)), s + k < n.toNat → tellI next out s k ws = some ws' → TW n next out ws'
  | 0, ws', _, h => by rw [tellI] at h; cases h; exact T
  | k + 1, ws', hk, h => by
    rw [tellI] at h
    cases h1 : tellI next out s k ws with
    | none => rw [h1] at h; cases h
    | some ws1 =>
      have T1 := TW.inner A T k ws1 (by omega) h1
      rw [h1] at h
      simp only at h
      cases hb : toldB next out ws1 s (s + 1 + k) with
      | true => rw [hb, if_pos rfl] at h; cases h; exact T1
      | false =>
        rw [hb, if_neg (by simp)] at h
        cases ha : apartQ next next out out s (s + 1 + k) with
        | none => rw [ha] at h; cases h
        | some w =>
          rw [ha] at h; cases h
          exact T1.add A (by omega) (by omega) hb ha
theorem TW.outer {n : Int} {next out : List (List Int)} (A : Aut n next) : ∀ (s : Nat) (ws : List (List Int)), s ≤ n.toNat → tellO next out n.toNat s = some ws → TW n next out ws
  | 0, ws, _, h => by rw [tellO] at h; cases h; exact TW0 A
  | s + 1, ws, hs, h => by
    rw [tellO] at h
    cases h1 : tellO next out n.toNat s with
    | none => rw [h1] at h; cases h
    | some ws1 =>
      rw [h1] at h
      exact TW.inner A (TW.outer A s ws1 (by omega) h1) _ ws (by omega) h
end Go.Ab
namespace Go.Ab
abbrev SetC2 (P : Program) (g : FuncId) (args : List AVal) (ws : List (List Int)) (cc : Int) : Prop := Fn P g args fun rows res => ∃ v ps, rows = [.row v 1 true (rwp ps)] ∧ ps.map (·.2) = ws ∧ DJ ps ∧ res = .tup [.own 6000 v, iv cc]
abbrev SetR (P : Program) (g : FuncId) (args : List AVal) (ok : Bool) (ws : List (List Int)) (cc : Int) : Prop := Fn P g args fun rows res =>
  if ok = true then ∃ v ps, rows = [.row v 1 true (rwp ps)] ∧ ps.map (·.2) = ws ∧ DJ ps ∧ res = .tup [.own 6000 v, iv cc] else rows = [] ∧ res = .tup [.val (.slice none 0 0), iv cc]
theorem call_setB {P : Program} {σ : St} {g : FuncId} {As args : List AVal} {d : Nat} {s : Nat → Nat} {K : St → Prop} {xss : List (List Int)} {b : Bool} (hs : ∀ x y, s x = s y → x = y)
    (h : Fn P g args fun rows res => ∃ v ps, rows = [.row v 1 true (rwp ps)] ∧ ps.map (·.2) = xss ∧ DJ ps ∧ res = .tup [.own 6000 v, bv b])
    (hco : CoeL σ.hp [] true args As) (hg : σ.hp d = .gone)
    (h1 : ∀ v ps, ps.map (·.2) = xss → DJ ps → (∀ p ∈ ps, ∃ y, p.1 = s y) → K (St.put ⟨σ.tm, upd σ.hp d (.row v 1 true (rwp ps))⟩ (some d) (.tup [.own d v, bv b]))) : wpCall P false σ g As (some d) s K := by
  refine call_fn h hco (fun e => by cases e) ?_
  rintro rows res ⟨v, ps, rfl, hp, hd, rfl⟩
  refine ⟨by simp, ?_, ?_⟩
  · simp only [Option.getD_some, yzn]; exact hg
  · simp only [Option.getD_some, renL_rwp, List.length_singleton, Nat.not_lt_zero, range1, yzy, yz12, yz1d, yz1e, yz10, yz1f, yz1c, yz1b, yz11, yzv, yzj, yz5, yzw, yzt, yzr, yzs, yzx, yz6, yz7, yzb, yzd, yzm, yzi, yz4, yzc, yz8, yza, yzk, yzh, List.range_zero, yz2, yz3, yz9, yzu, yzn, yzq, AVal.fresh, freshL, yz1, yzl, AObj.fresh, id, Option.isSome_some, or_true, true_or]
    exact h1 _ _ (by rw [List.map_map]; exact hp) (hd.ren hs) (fun p hp => by obtain ⟨q, _, rfl⟩ := List.mem_map.1 hp; exact ⟨q.1, rfl⟩)
end Go.Ab
namespace Go.Ab
open Go.Proofs
theorem k_tellingSet_1 (n o : Int) (next out : List (List Int)) (M : Mach n o next out) (s t : Int) (hs : 0 ≤ s ∧ s < n) (ht : 0 ≤ t ∧ t < n) (w : List Int) (hw : IsW next.length w) (hwl : w.length ≤ 1000000) :
    Fun Try.prog nz1k [.ro none 1 (ints w), machP n o next out, .rp [iv s] 0, .rp [iv t] 0] (bv !(decide (outsA next out s w = outsA next out t w))) := by
  refine fun_of mixed czl4 rfl ⟨rfl, trivial⟩ ?_
  simp only [Azgw, Bzgv, go_sem, yz0, Int.reduceLT, reduceLE, reduceToNat, reduceNeg, Nat.reduceLT, reduceLeDiff, reduceMul, reduceSub, reduceIte, reduceEqDiff, reduceAdd, reduceCtorEq]
  intro vs
  refine call_fn (k_Machine_outputs n o next out M s hs w hw hwl) qCS (fun e => by cases e) ?_
  rintro rows res ⟨v, rfl, rfl⟩
  refine ⟨by simp, by rw [Option.getD_some, yzn]; simp only [go_sem, yz0, Int.reduceLT, reduceLE, reduceToNat, reduceNeg, Nat.reduceLT, reduceLeDiff, reduceMul, reduceSub, reduceIte, reduceEqDiff, reduceAdd, reduceCtorEq], ?_⟩
  simp only [Option.getD_some, Bzgu, Nat.not_lt_zero, range1, yzy, yz12, yz1d, yz1e, yz10, yz1f, yz1c, yz1b, yz11, yzv, yzj, yz5, yzw, yzt, yzr, yzs, yzx, yz6, yz7, yzb, yzd, yzm, yzi, yz4, yzc, yz8, yza, yzk, yzh, List.range_zero, yz2, yz3, yz9, yzu, yzn, yzq, AVal.fresh, freshL, yz1, yzl, AObj.fresh, id, Option.isSome_some, or_true, true_or, go_sem, yz0, Int.reduceLT, reduceLE, reduceToNat, reduceNeg, Nat.reduceLT, reduceLeDiff, reduceMul, reduceSub, reduceIte, reduceEqDiff, reduceAdd, reduceCtorEq]
  intro vs2
  refine call_fn (k_Machine_outputs n o next out M t ht w hw hwl) qCS (fun e => by cases e) ?_
  rintro rows res ⟨v2, rfl, rfl⟩
  refine ⟨by simp, by rw [Option.getD_some, yzn]; simp only [go_sem, yz0, Int.reduceLT, reduceLE, reduceToNat, reduceNeg, Nat.reduceLT, reduceLeDiff, reduceMul, reduceSub, reduceIte, reduceEqDiff, reduceAdd, reduceCtorEq], ?_⟩
  simp only [Option.getD_some, Bzgt, Nat.not_lt_zero, range1, yzy, yz12, yz1d, yz1e, yz10, yz1f, yz1c, yz1b, yz11, yzv, yzj, yz5, yzw, yzt, yzr, yzs, yzx, yz6, yz7, yzb, yzd, yzm, yzi, yz4, yzc, yz8, yza, yzk, yzh, List.range_zero, yz2, yz3, yz9, yzu, yzn, yzq, AVal.fresh, freshL, yz1, yzl, AObj.fresh, id, Option.isSome_some, or_true, true_or, go_sem, yz0, Int.reduceLT, reduceLE, reduceToNat, reduceNeg, Nat.reduceLT, reduceLeDiff, reduceMul, reduceSub, reduceIte, reduceEqDiff, reduceAdd, reduceCtorEq]
  intro vs3
  refine yzp (k_Equal (outsA next out s w) (outsA next out t w)) qCS trivial ?_
  simp only [go_sem, yz0, Int.reduceLT, reduceLE, reduceToNat, reduceNeg, Nat.reduceLT, reduceLeDiff, reduceMul, reduceSub, reduceIte, reduceEqDiff, reduceAdd, reduceCtorEq]
theorem k_Machine_tellingSet (n o : Int) (next out : List (List Int)) (M : Mach n o next out) :
    Fn Try.prog nz3y [machA n o next out] fun rows res =>
      match tellO next out n.toNat n.toNat with
      | some ws => ∃ v ps, rows = [.row v 1 true (rwp ps)] ∧ ps.map (·.2) = ws ∧ DJ ps ∧ res = .tup [.own 6000 v, bv true]
      | none => rows = [] ∧ res = .tup [.val (.slice none 0 0), bv false] := by
  refine con_of mixed czkj rfl (by simp) ?_
  generalize hQ : finQ _ = Q
  have n1 := M.aut.n1
  have n2 := M.aut.n2
  simp only [Az2o, Bzdx, yzz, yze, go_sem, yz0, Int.reduceLT, reduceLE, reduceToNat, reduceNeg, Nat.reduceLT, reduceLeDiff, reduceMul, reduceSub, reduceIte, reduceEqDiff, reduceAdd, reduceCtorEq]
  intro vs0 U0 hN0 vs1 U1 hN1
  simp only [Bzdw, Bzdu, yzz, yze, go_sem, yz0, Int.reduceLT, reduceLE, reduceToNat, reduceNeg, Nat.reduceLT, reduceLeDiff, reduceMul, reduceSub, reduceIte, reduceEqDiff, reduceAdd, reduceCtorEq]
  intro vs2 U2 hN2
  refine wpD_lp (fun (_, s, _) => n.toNat - s) (fun (_, s, ps) => (s : Int) ≤ n ∧ tellO next out n.toNat s = some (List.map (·.2) ps) ∧ DJ ps)
    (fun ((v4, s, ps) : Nat × Nat × List (Nat × List Int)) => ⟨L .any [(1, .ptr 1 (vs0 0 0) 0), (4, .own 9 v4), (11, iv n), (12, iv s)],
      L .gone [(1, .box (vs0 0 0) [iv n, iv o, .ro none 1 (rwn next), .ro none 1 (rwn out)]), (9, .row v4 1 true (rwp ps)), (40, .gone), (5000, .gone)]⟩)
    (_, 0, []) ⟨by simp; omega, rfl, by simp [DJ]⟩ (by simp only [Bz2n, rwp_nil, go_sem, yz0, Int.reduceLT, reduceLE, reduceToNat, reduceNeg, Nat.reduceLT, reduceLeDiff, reduceMul, reduceSub, reduceIte, reduceEqDiff, reduceAdd, reduceCtorEq]; try rfl) ?_
  rintro ⟨v4, s, ps0⟩ ⟨hs, hO, hd0⟩
  have hs : (s : Int) ≤ n := hs
  have hO : tellO next out n.toNat s = some (ps0.map (·.2)) := hO
  by_cases hsl : (s : Int) < n
  · have w1 : IntKind.i64.wrap ((s : Int) + 1) = ((s + 1 + 0 : Nat) : Int) := by rw [w64 (by omega)]; simp
    have T0 := TW.outer M.aut s _ (by omega) hO
    simp only [Bz2n, Bz6e, Bzdt, decide_eq_true hsl, yzz, yze, go_sem, yz0, Int.reduceLT, reduceLE, reduceToNat, reduceNeg, Nat.reduceLT, reduceLeDiff, reduceMul, reduceSub, reduceIte, reduceEqDiff, reduceAdd, reduceCtorEq]
    intro vs3 U3 hN3 vs4 U4 hN4
    simp only [Bzdr, w1, yzz, yze, go_sem, yz0, Int.reduceLT, reduceLE, reduceToNat, reduceNeg, Nat.reduceLT, reduceLeDiff, reduceMul, reduceSub, reduceIte, reduceEqDiff, reduceAdd, reduceCtorEq]
    intro vs5 U5 hN5
    simp only [Bzdq, yzz, yze, go_sem, yz0, Int.reduceLT, reduceLE, reduceToNat, reduceNeg, Nat.reduceLT, reduceLeDiff, reduceMul, reduceSub, reduceIte, reduceEqDiff, reduceAdd, reduceCtorEq]
    refine wpD_lp (fun (_, _, k, _) => n.toNat - k) (fun (_, _, k, ps) => s + 1 + k ≤ n.toNat ∧ tellI next out s k (ps0.map (·.2)) = some (List.map (·.2) ps) ∧ DJ ps)
      (fun ((v4, v6, k, ps) : Nat × Nat × Nat × List (Nat × List Int)) => ⟨L .any [(1, .ptr 1 (vs0 0 0) 0), (4, .own 9 v4), (5, .ptr 5 (vs4 1 0) 0), (6, .ptr 6 v6 0), (11, iv n), (12, iv s)],
        L .gone [(1, .box (vs0 0 0) [iv n, iv o, .ro none 1 (rwn next), .ro none 1 (rwn out)]), (5, .box (vs4 1 0) [iv s]), (6, .box v6 [iv ((s + 1 + k : Nat) : Int)]), (9, .row v4 1 true (rwp ps)), (40, .gone), (5000, .gone)]⟩)
      (_, _, 0, ps0) ⟨by omega, rfl, hd0⟩ (by simp only [Bz2m, go_sem, yz0, Int.reduceLT, reduceLE, reduceToNat, reduceNeg, Nat.reduceLT, reduceLeDiff, reduceMul, reduceSub, reduceIte, reduceEqDiff, reduceAdd, reduceCtorEq]; try rfl) ?_
    rintro ⟨v5, v6, k, ps⟩ ⟨hk, hI, hd⟩
    have hk : s + 1 + k ≤ n.toNat := hk
    have hI : tellI next out s k (ps0.map (·.2)) = some (ps.map (·.2)) := hI
    have T := TW.inner M.aut T0 k _ (by omega) hI
    have hl9 := T.len M.aut
    rw [List.length_map] at hl9
    by_cases hkl : (((s + 1 + k : Nat) : Int)) < n
    · have w2 : IntKind.i64.wrap ((((s + 1 + k : Nat) : Int)) + 1) = ((s + 1 + (k + 1) : Nat) : Int) := by rw [w64 (by omega)]; omega
      have hst : s < n.toNat := by omega
      have htt : s + 1 + k < n.toNat := by omega
      simp only [Bz2m, Bz68, Bzdp, decide_eq_true hkl, yzz, yze, go_sem, yz0, Int.reduceLT, reduceLE, reduceToNat, reduceNeg, Nat.reduceLT, reduceLeDiff, reduceMul, reduceSub, reduceIte, reduceEqDiff, reduceAdd, reduceCtorEq]
      intro vs6 U6 hN6 vs7 U7 hN7
      refine call_wordR (k_apart n n o o next next out out M M rfl s (s + 1 + k) hsl hkl) qCS rfl ?_ ?_
      · intro w hw v
        obtain ⟨_, hww, _⟩ := apartQ_first hw
        simp only [Bz6a, Bz69, Bzdo, yzz, yze, go_sem, yz0, Int.reduceLT, reduceLE, reduceToNat, reduceNeg, Nat.reduceLT, reduceLeDiff, reduceMul, reduceSub, reduceIte, reduceEqDiff, reduceAdd, reduceCtorEq]
        intro vs8 U8 hN8 vs9 U9 hN9
        refine yzp (k_ContainsFunc (ps.map (·.2)) nz1k [machP n o next out, .rp [iv s] 0, .rp [iv ((s + 1 + k : Nat) : Int)] 0] (fun u => !decide (outsA next out (s : Int) u = outsA next out ((s + 1 + k : Nat) : Int) u)) ⟨by simp only [go_sem, yz0, Int.reduceLT, reduceLE, reduceToNat, reduceNeg, Nat.reduceLT, reduceLeDiff, reduceMul, reduceSub, reduceIte, reduceEqDiff, reduceAdd, reduceCtorEq], by intros; simp only [rowIs, boxIs, coe_argN, yz1a, coe_ro_o, coeL_nil, yz18, coe_any, coe_val, coe_ro, yz16, yz17, coe_st, yz15, coe_rp, yz14, coe_clo, coe_own0, coe_ptr0, yz13, coeL_rws, coeL_rwn, L_hit, L_miss, L_nil, reduceEqDiff, ne_eq, reduceCtorEq, not_false_eq_true, true_and, and_true, and_self, exists_eq_left, exists_eq_right, List.mem_cons, List.not_mem_nil, or_false, AObj.row.injEq, AObj.box.injEq, exists_eq_left', exists_and_left, exists_eq, Nat.zero_lt_one, Nat.lt_add_one, List.map_cons, List.map_nil, AObj.ver, Nat.reduceLT, not_true_eq_false]⟩
          (fun u hu => k_tellingSet_1 n o next out M s ((s + 1 + k : Nat) : Int) ⟨by omega, hsl⟩ ⟨by omega, hkl⟩ u (T.wd u hu).1 (by have := (T.wd u hu).2; omega))) (by simp only [coeL_rwp_t, rowIs, boxIs, coe_argN, yz1a, coe_ro_o, coeL_nil, yz18, coe_any, coe_val, coe_ro, yz16, yz17, coe_st, yz15, coe_rp, yz14, coe_clo, coe_own0, coe_ptr0, yz13, coeL_rws, coeL_rwn, L_hit, L_miss, L_nil, reduceEqDiff, ne_eq, reduceCtorEq, not_false_eq_true, true_and, and_true, and_self, exists_eq_left, exists_eq_right, List.mem_cons, List.not_mem_nil, or_false, AObj.row.injEq, AObj.box.injEq, exists_eq_left', exists_and_left, exists_eq, Nat.zero_lt_one, Nat.lt_add_one, List.map_cons, List.map_nil, AObj.ver, Nat.reduceLT, not_true_eq_false]) trivial ?_
        have htb : ((ps.map (·.2)).any fun u => !decide (outsA next out (s : Int) u = outsA next out ((s + 1 + k : Nat) : Int) u)) = toldB next out (ps.map (·.2)) s (s + 1 + k) := rfl
        rw [htb]
        simp only [Bzdn, yzz, yze, wpD_gh, go_sem, yz0, Int.reduceLT, reduceLE, reduceToNat, reduceNeg, Nat.reduceLT, reduceLeDiff, reduceMul, reduceSub, reduceIte, reduceEqDiff, reduceAdd, reduceCtorEq]
        intro hD
        refine ⟨[], ?_⟩
        cases ht : toldB next out (ps.map (·.2)) s (s + 1 + k) with
        | true =>
          have hI2 : tellI next out s (k + 1) (ps0.map (·.2)) = some (ps.map (·.2)) := by simp only [tellI, hI, ht, if_true]
          simp only [gwp_nil, Bz6d, Bool.not_true, yzz, yze, go_sem, yz0, Int.reduceLT, reduceLE, reduceToNat, reduceNeg, Nat.reduceLT, reduceLeDiff, reduceMul, reduceSub, reduceIte, reduceEqDiff, reduceAdd, reduceCtorEq]
          intro vs10 U10 hN10
          simp only [Bz6b, yzz, yze, go_sem, yz0, Int.reduceLT, reduceLE, reduceToNat, reduceNeg, Nat.reduceLT, reduceLeDiff, reduceMul, reduceSub, reduceIte, reduceEqDiff, reduceAdd, reduceCtorEq]
          intro vs11 U11 hN11
          simp only [Bz6c, w2, yzz, yze, go_sem, yz0, Int.reduceLT, reduceLE, reduceToNat, reduceNeg, Nat.reduceLT, reduceLeDiff, reduceMul, reduceSub, reduceIte, reduceEqDiff, reduceAdd, reduceCtorEq]
          intro vs12 U12 hN12
          exact ⟨(_, _, k + 1, ps), by dsimp only; omega, ⟨by dsimp only; omega, hI2, hd⟩, rfl⟩
        | false =>
          have hI2 : tellI next out s (k + 1) (ps0.map (·.2)) = some ((ps ++ [(v, w)]).map (·.2)) := by simp only [tellI, hI, ht, Bool.false_eq_true, if_false, hw, List.map_append, List.map_cons, List.map_nil]
          simp only [gwp_nil, Bool.not_false, yzz, yze, go_sem, yz0, Int.reduceLT, reduceLE, reduceToNat, reduceNeg, Nat.reduceLT, reduceLeDiff, reduceMul, reduceSub, reduceIte, reduceEqDiff, reduceAdd, reduceCtorEq]
          intro vs10 U10 hN10
          rw [rwp_len]
          refine ⟨by omega, ?_⟩
          have hf : ∀ p ∈ ps, p.2 = [] ∨ p.1 ≠ v := fun p hp => by
            by_cases e : p.2 = []
            · exact .inl e
            · exact .inr (hD 9 v5 1 true (rwp ps) 28 v rfl rfl p.1 1 (ints p.2) (List.mem_map.2 ⟨p, hp, rfl⟩) (by simpa using e))
          simp only [Bz6d, rwp_snoc, yzz, yze, go_sem, yz0, Int.reduceLT, reduceLE, reduceToNat, reduceNeg, Nat.reduceLT, reduceLeDiff, reduceMul, reduceSub, reduceIte, reduceEqDiff, reduceAdd, reduceCtorEq]
          intro vs11 U11 hN11
          simp only [Bz6b, yzz, yze, go_sem, yz0, Int.reduceLT, reduceLE, reduceToNat, reduceNeg, Nat.reduceLT, reduceLeDiff, reduceMul, reduceSub, reduceIte, reduceEqDiff, reduceAdd, reduceCtorEq]
          intro vs12 U12 hN12
          simp only [Bz6c, w2, yzz, yze, go_sem, yz0, Int.reduceLT, reduceLE, reduceToNat, reduceNeg, Nat.reduceLT, reduceLeDiff, reduceMul, reduceSub, reduceIte, reduceEqDiff, reduceAdd, reduceCtorEq]
          intro vs13 U13 hN13
          exact ⟨(_, _, k + 1, ps ++ [(v, w)]), by dsimp only; omega, ⟨by dsimp only; omega, hI2, hd.snoc hf⟩, rfl⟩
      · intro hw
        have hf := T.untold M.aut hst htt hw
        have hI2 : tellI next out s (k + 1) (ps0.map (·.2)) = none := by simp only [tellI, hI, hf, Bool.false_eq_true, if_false, hw]
        have hO2 : tellO next out n.toNat n.toNat = none := by
          have e1 := tellI_none hI2 (n.toNat - (s + 1) - (k + 1))
          rw [show k + 1 + (n.toNat - (s + 1) - (k + 1)) = n.toNat - (s + 1) by omega] at e1
          have e2 : tellO next out n.toNat (s + 1) = none := by simp only [tellO, hO, e1]
          have e3 := tellO_none e2 (n.toNat - (s + 1))
          rw [show s + 1 + (n.toNat - (s + 1)) = n.toNat by omega] at e3
          exact e3
        simp only [Bz6a, Bz69, Az2o, ← hQ, hO2, yzz, yze, go_sem, yz0, Int.reduceLT, reduceLE, reduceToNat, reduceNeg, Nat.reduceLT, reduceLeDiff, reduceMul, reduceSub, reduceIte, reduceEqDiff, reduceAdd, reduceCtorEq]
        intro vs8 U8 hN8 vs9 U9 hN9
        refine ⟨[], by simp, by simp, by simp, ?_⟩
        simp only [Nat.not_lt_zero, range1, yzy, yz12, yz1d, yz1e, yz10, yz1f, yz1c, yz1b, yz11, yzv, yzj, yz5, yzw, yzt, yzr, yzs, yzx, yz6, yz7, yzb, yzd, yzm, yzi, yz4, yzc, yz8, yza, yzk, yzh, List.range_zero, yz2, yz3, yz9, yzu, yzn, yzq, AVal.fresh, freshL, yz1, yzl, AObj.fresh, id, Option.isSome_some, or_true, true_or, go_sem, yz0, Int.reduceLT, reduceLE, reduceToNat, reduceNeg, Nat.reduceLT, reduceLeDiff, reduceMul, reduceSub, reduceIte, reduceEqDiff, reduceAdd, reduceCtorEq]
        try simp
    · have hke : k = n.toNat - (s + 1) := by omega
      have hO2 : tellO next out n.toNat (s + 1) = some (ps.map (·.2)) := by simp only [tellO, hO]; rw [← hke]; exact hI
      simp only [Bz2m, Bz68, Bzds, decide_eq_false hkl, yzz, yze, go_sem, yz0, Int.reduceLT, reduceLE, reduceToNat, reduceNeg, Nat.reduceLT, reduceLeDiff, reduceMul, reduceSub, reduceIte, reduceEqDiff, reduceAdd, reduceCtorEq]
      have w3 : IntKind.i64.wrap ((s : Int) + 1) = ((s + 1 : Nat) : Int) := by rw [w64 (by omega)]; simp
      simp only [w3]
      intro vs6 U6 hN6 vs7 U7 hN7
      exact ⟨(_, s + 1, ps), by dsimp only; omega, ⟨by dsimp only; omega, hO2, hd⟩, rfl⟩
  · have hse : s = n.toNat := by omega
    rw [hse] at hO
    simp only [Bz2n, Bz6e, Bzdv, Az2o, ← hQ, hO, decide_eq_false hsl, yzz, yze, go_sem, yz0, Int.reduceLT, reduceLE, reduceToNat, reduceNeg, Nat.reduceLT, reduceLeDiff, reduceMul, reduceSub, reduceIte, reduceEqDiff, reduceAdd, reduceCtorEq]
    intro vs3 U3 hN3 vs4 U4 hN4
    refine ⟨[9], by simp, by simp, by simp, ?_⟩
    simp only [range1, List.length_singleton, renL_rwp, Nat.not_lt_zero, range1, yzy, yz12, yz1d, yz1e, yz10, yz1f, yz1c, yz1b, yz11, yzv, yzj, yz5, yzw, yzt, yzr, yzs, yzx, yz6, yz7, yzb, yzd, yzm, yzi, yz4, yzc, yz8, yza, yzk, yzh, List.range_zero, yz2, yz3, yz9, yzu, yzn, yzq, AVal.fresh, freshL, yz1, yzl, AObj.fresh, id, Option.isSome_some, or_true, true_or, go_sem, yz0, Int.reduceLT, reduceLE, reduceToNat, reduceNeg, Nat.reduceLT, reduceLeDiff, reduceMul, reduceSub, reduceIte, reduceEqDiff, reduceAdd, reduceCtorEq]
    exact ⟨fresh_rwp, v4, ps0, by simp, rfl, hd0, rfl⟩
theorem k_TellingSet (n o : Int) (next out : List (List Int)) : SetR Try.prog nzg [machA n o next out] (machB n o next out && (tellO next out n.toNat n.toNat).isSome)
    (if machB n o next out = true then (tellO next out n.toNat n.toNat).getD [] else []) (if machB n o next out = true then (if (tellO next out n.toNat n.toNat).isSome = true then 0 else 4) else 1) := by
  refine con_of mixed czjv rfl (by simp) ?_
  simp only [Aza2, Bza1, yzz, yze, go_sem, yz0, Int.reduceLT, reduceLE, reduceToNat, reduceNeg, Nat.reduceLT, reduceLeDiff, reduceMul, reduceSub, reduceIte, reduceEqDiff, reduceAdd, reduceCtorEq]
  intro vs0 U0 hN0 vs1 U1 hN1
  refine yzp (k_ValidMachine n o next out) qCS trivial ?_
  cases hv : machB n o next out with
  | false =>
    simp only [Bz53, Bool.false_and, yzz, yze, go_sem, yz0, Int.reduceLT, reduceLE, reduceToNat, reduceNeg, Nat.reduceLT, reduceLeDiff, reduceMul, reduceSub, reduceIte, reduceEqDiff, reduceAdd, reduceCtorEq]
    intros
    refine ⟨[], by simp, by simp, by simp, ?_⟩
    simp only [Bool.false_eq_true, if_false, Nat.not_lt_zero, range1, yzy, yz12, yz1d, yz1e, yz10, yz1f, yz1c, yz1b, yz11, yzv, yzj, yz5, yzw, yzt, yzr, yzs, yzx, yz6, yz7, yzb, yzd, yzm, yzi, yz4, yzc, yz8, yza, yzk, yzh, List.range_zero, yz2, yz3, yz9, yzu, yzn, yzq, AVal.fresh, freshL, yz1, yzl, AObj.fresh, id, Option.isSome_some, or_true, true_or, go_sem, yz0, Int.reduceLT, reduceLE, reduceToNat, reduceNeg, Nat.reduceLT, reduceLeDiff, reduceMul, reduceSub, reduceIte, reduceEqDiff, reduceAdd, reduceCtorEq]
    try simp
  | true =>
    have M := machB_iff.1 hv
    simp only [Bz53, Bza0, Bool.true_and, yzz, yze, go_sem, yz0, Int.reduceLT, reduceLE, reduceToNat, reduceNeg, Nat.reduceLT, reduceLeDiff, reduceMul, reduceSub, reduceIte, reduceEqDiff, reduceAdd, reduceCtorEq]
    intro vs3 U3 hN3
    have hK := k_Machine_tellingSet n o next out M
    cases hO : tellO next out n.toNat n.toNat with
    | none =>
      rw [hO] at hK
      refine call_fn hK qCS (fun e => by cases e) ?_
      rintro rows res ⟨rfl, rfl⟩
      refine ⟨by simp, by simp, ?_⟩
      simp only [Option.getD_some, Option.isSome_none, Bz55, Bz54, yzz, yze, Nat.not_lt_zero, range1, yzy, yz12, yz1d, yz1e, yz10, yz1f, yz1c, yz1b, yz11, yzv, yzj, yz5, yzw, yzt, yzr, yzs, yzx, yz6, yz7, yzb, yzd, yzm, yzi, yz4, yzc, yz8, yza, yzk, yzh, List.range_zero, yz2, yz3, yz9, yzu, yzn, yzq, AVal.fresh, freshL, yz1, yzl, AObj.fresh, id, Option.isSome_some, or_true, true_or, go_sem, yz0, Int.reduceLT, reduceLE, reduceToNat, reduceNeg, Nat.reduceLT, reduceLeDiff, reduceMul, reduceSub, reduceIte, reduceEqDiff, reduceAdd, reduceCtorEq]
      intros
      refine ⟨[], by simp, by simp, by simp, ?_⟩
      simp only [Bool.false_eq_true, if_false, if_true, Nat.not_lt_zero, range1, yzy, yz12, yz1d, yz1e, yz10, yz1f, yz1c, yz1b, yz11, yzv, yzj, yz5, yzw, yzt, yzr, yzs, yzx, yz6, yz7, yzb, yzd, yzm, yzi, yz4, yzc, yz8, yza, yzk, yzh, List.range_zero, yz2, yz3, yz9, yzu, yzn, yzq, AVal.fresh, freshL, yz1, yzl, AObj.fresh, id, Option.isSome_some, or_true, true_or, go_sem, yz0, Int.reduceLT, reduceLE, reduceToNat, reduceNeg, Nat.reduceLT, reduceLeDiff, reduceMul, reduceSub, reduceIte, reduceEqDiff, reduceAdd, reduceCtorEq]
      try simp
    | some ws =>
      rw [hO] at hK
      refine call_setB (fun x y e => (hN3.inj _ _ _ _ e).2) hK qCS rfl (fun v ps hps hd _ => ?_)
      simp only [Option.isSome_some, Bz55, Bz54, Bz9z, yzz, yze, go_sem, yz0, Int.reduceLT, reduceLE, reduceToNat, reduceNeg, Nat.reduceLT, reduceLeDiff, reduceMul, reduceSub, reduceIte, reduceEqDiff, reduceAdd, reduceCtorEq]
      intros
      refine ⟨[11], by simp, by simp, by simp, ?_⟩
      simp only [if_true, Option.getD_some, range1, List.length_singleton, renL_rwp, Nat.not_lt_zero, range1, yzy, yz12, yz1d, yz1e, yz10, yz1f, yz1c, yz1b, yz11, yzv, yzj, yz5, yzw, yzt, yzr, yzs, yzx, yz6, yz7, yzb, yzd, yzm, yzi, yz4, yzc, yz8, yza, yzk, yzh, List.range_zero, yz2, yz3, yz9, yzu, yzn, yzq, AVal.fresh, freshL, yz1, yzl, AObj.fresh, id, Option.isSome_some, or_true, true_or, go_sem, yz0, Int.reduceLT, reduceLE, reduceToNat, reduceNeg, Nat.reduceLT, reduceLeDiff, reduceMul, reduceSub, reduceIte, reduceEqDiff, reduceAdd, reduceCtorEq]
      exact ⟨fresh_rwp, v, ps, by simp, hps, hd, rfl⟩
end Go.Ab
namespace Go.Ab
open Go.Proofs
theorem map2_getD {ps : List (Nat × List Int)} {i : Nat} (h : i < ps.length) : (ps.map (·.2)).getD i [] = (ps.getD i (0, [])).2 := by
  rw [List.getD_eq_getElem?_getD, List.getElem?_map, List.getElem?_eq_getElem h, List.getD_eq_getElem?_getD, List.getElem?_eq_getElem h]; rfl
theorem rwpN_getD {ps : List (Nat × List Int)} {i : Nat} (h : i < ps.length) : (rwp ps).getD i .any = .ro (some (some ((ps.getD i (0, [])).1 + 1))) 1 (ints (ps.getD i (0, [])).2) := by
  rw [List.getD_eq_getElem?_getD, rwp, List.getElem?_map, List.getElem?_eq_getElem h, List.getD_eq_getElem?_getD, List.getElem?_eq_getElem h]; rfl
theorem toldB_snoc {next out ws : List (List Int)} {i s t : Nat} (h : i < ws.length) : toldB next out (ws.take (i + 1)) s t = (toldB next out (ws.take i) s t || !decide (outsA next out (s : Int) (ws.getD i []) = outsA next out (t : Int) (ws.getD i []))) := by
  rw [List.take_succ_eq_append_getElem h, List.getD_eq_getElem?_getD, List.getElem?_eq_getElem h]
  simp only [toldB, List.any_append, List.any_cons, List.any_nil, Bool.or_false, Option.getD_some]
theorem toldB_take {next out ws : List (List Int)} {i s t : Nat} (h : toldB next out (ws.take i) s t = true) : toldB next out ws s t = true := by
  simp only [toldB, List.any_eq_true] at h ⊢
  obtain ⟨w, hw, h⟩ := h
  exact ⟨w, List.mem_of_mem_take hw, h⟩
theorem k_l06TellingSet (n o : Int) (next out : List (List Int)) (M : Mach n o next out) :
    Fn Try.prog nz3z [machP n o next out] fun rows res =>
      ∃ v ps, rows = [.row v 1 true (rwp ps)] ∧ ps.map (·.2) = (tellO next out n.toNat n.toNat).getD [] ∧ DJ ps ∧ res = .tup [.own 6000 v, bv (tellO next out n.toNat n.toNat).isSome] := by
  refine con_of mixed czkk rfl (by simp) ?_
  generalize hQ : finQ _ = Q
  have n1 := M.aut.n1
  have n2 := M.aut.n2
  simp only [Az2u, Bzed, yzz, yze, go_sem, yz0, Int.reduceLT, reduceLE, reduceToNat, reduceNeg, Nat.reduceLT, reduceLeDiff, reduceMul, reduceSub, reduceIte, reduceEqDiff, reduceAdd, reduceCtorEq]
  intro vs0 U0 hN0 vs1 U1 hN1
  simp only [Bzec, Bzea, yzz, yze, go_sem, yz0, Int.reduceLT, reduceLE, reduceToNat, reduceNeg, Nat.reduceLT, reduceLeDiff, reduceMul, reduceSub, reduceIte, reduceEqDiff, reduceAdd, reduceCtorEq]
  intro vs2 U2 hN2
  refine wpD_lp (fun (_, s, _) => n.toNat - s) (fun (_, s, ps) => (s : Int) ≤ n ∧ tellO next out n.toNat s = some (List.map (·.2) ps) ∧ DJ ps)
    (fun ((v4, s, ps) : Nat × Nat × List (Nat × List Int)) => ⟨L .any [(0, machP n o next out), (4, .own 15 v4), (5, iv s)],
      L .gone [(15, .row v4 1 true (rwp ps)), (82, .gone), (5000, .gone)]⟩)
    (_, 0, []) ⟨by simp; omega, rfl, by simp [DJ]⟩ (by simp only [Bz2t, rwp_nil, go_sem, yz0, Int.reduceLT, reduceLE, reduceToNat, reduceNeg, Nat.reduceLT, reduceLeDiff, reduceMul, reduceSub, reduceIte, reduceEqDiff, reduceAdd, reduceCtorEq]; try rfl) ?_
  rintro ⟨v4, s, ps0⟩ ⟨hs, hO, hd0⟩
  have hs : (s : Int) ≤ n := hs
  have hO : tellO next out n.toNat s = some (ps0.map (·.2)) := hO
  by_cases hsl : (s : Int) < n
  · have w1 : IntKind.i64.wrap ((s : Int) + 1) = ((s + 1 + 0 : Nat) : Int) := by rw [w64 (by omega)]; simp
    have w1' : IntKind.i64.wrap ((s : Int) + 1) = ((s + 1 : Nat) : Int) := by rw [w64 (by omega)]; simp
    have T0 := TW.outer M.aut s _ (by omega) hO
    simp only [Bz2t, Bz6f, Bze9, decide_eq_true hsl, yzz, yze, go_sem, yz0, Int.reduceLT, reduceLE, reduceToNat, reduceNeg, Nat.reduceLT, reduceLeDiff, reduceMul, reduceSub, reduceIte, reduceEqDiff, reduceAdd, reduceCtorEq]
    intro vs3 U3 hN3 vs4 U4 hN4
    simp only [Bze7, w1, yzz, yze, go_sem, yz0, Int.reduceLT, reduceLE, reduceToNat, reduceNeg, Nat.reduceLT, reduceLeDiff, reduceMul, reduceSub, reduceIte, reduceEqDiff, reduceAdd, reduceCtorEq]
    refine wpD_lp (fun (_, k, _) => n.toNat - k) (fun (_, k, ps) => s + 1 + k ≤ n.toNat ∧ tellI next out s k (ps0.map (·.2)) = some (List.map (·.2) ps) ∧ DJ ps)
      (fun ((v4, k, ps) : Nat × Nat × List (Nat × List Int)) => ⟨L .any [(0, machP n o next out), (4, .own 15 v4), (5, iv s), (6, iv ((s + 1 + k : Nat) : Int))],
        L .gone [(15, .row v4 1 true (rwp ps)), (82, .gone), (5000, .gone)]⟩)
      (_, 0, ps0) ⟨by omega, rfl, hd0⟩ (by simp only [Bz2s, go_sem, yz0, Int.reduceLT, reduceLE, reduceToNat, reduceNeg, Nat.reduceLT, reduceLeDiff, reduceMul, reduceSub, reduceIte, reduceEqDiff, reduceAdd, reduceCtorEq]; try rfl) ?_
    rintro ⟨v5, k, ps⟩ ⟨hk, hI, hd⟩
    have hk : s + 1 + k ≤ n.toNat := hk
    have hI : tellI next out s k (ps0.map (·.2)) = some (ps.map (·.2)) := hI
    have T := TW.inner M.aut T0 k _ (by omega) hI
    by_cases hkl : (((s + 1 + k : Nat) : Int)) < n
    · have w2 : IntKind.i64.wrap ((((s + 1 + k : Nat) : Int)) + 1) = ((s + 1 + (k + 1) : Nat) : Int) := by rw [w64 (by omega)]; omega
      have hst : s < n.toNat := by omega
      have htt : s + 1 + k < n.toNat := by omega
      simp only [Bz2s, Bz6g, Bze6, Bze5, decide_eq_true hkl, yzz, yze, go_sem, yz0, Int.reduceLT, reduceLE, reduceToNat, reduceNeg, Nat.reduceLT, reduceLeDiff, reduceMul, reduceSub, reduceIte, reduceEqDiff, reduceAdd, reduceCtorEq]
      intro vs5 U5 hN5 vs6 U6 hN6 vs7 U7 hN7
      simp only [Bze2, yzz, yze, go_sem, yz0, Int.reduceLT, reduceLE, reduceToNat, reduceNeg, Nat.reduceLT, reduceLeDiff, reduceMul, reduceSub, reduceIte, reduceEqDiff, reduceAdd, reduceCtorEq]
      refine wpD_lp (fun (_, i) => ps.length - i) (fun (told, i) => i ≤ ps.length ∧ told = toldB next out ((ps.map (·.2)).take i) s (s + 1 + k))
        (fun ((told, i) : Bool × Nat) => ⟨L .any [(0, machP n o next out), (4, .own 15 v5), (5, iv s), (6, iv ((s + 1 + k : Nat) : Int)), (7, bv told), (8, iv i)],
          L .gone [(15, .row v5 1 true (rwp ps)), (82, .gone), (5000, .gone)]⟩)
        (false, 0) ⟨by simp, rfl⟩ (by simp only [Bzf, go_sem, yz0, Int.reduceLT, reduceLE, reduceToNat, reduceNeg, Nat.reduceLT, reduceLeDiff, reduceMul, reduceSub, reduceIte, reduceEqDiff, reduceAdd, reduceCtorEq]; try rfl) ?_
      rintro ⟨told, i⟩ ⟨hi, htold⟩
      have hi : i ≤ ps.length := hi
      have htold : told = toldB next out ((ps.map (·.2)).take i) s (s + 1 + k) := htold
      by_cases hgo : told = false ∧ i < ps.length
      · obtain ⟨rfl, hil⟩ := hgo
        have hil1 : (i : Int) < ps.length := by omega
        have hlm : i < (ps.map (·.2)).length := by rw [List.length_map]; exact hil
        have hg : (ps.map (·.2)).getD i [] = (ps.getD i (0, [])).2 := map2_getD hil
        have hsn := toldB_snoc (next := next) (out := out) (s := s) (t := s + 1 + k) hlm
        rw [← htold, Bool.false_or, hg] at hsn
        have hw := T.wd _ (yzo hlm [])
        rw [hg] at hw
        simp only [Bzf, Bz13, Bze1, rwp_len, rwpN_getD hil, decide_eq_true hil1, yzz, yze, go_sem, yz0, Int.reduceLT, reduceLE, reduceToNat, reduceNeg, Nat.reduceLT, reduceLeDiff, reduceMul, reduceSub, reduceIte, reduceEqDiff, reduceAdd, reduceCtorEq]
        intro vs8 U8 hN8 hM vs9 U9 hN9
        refine ⟨⟨by omega, hil⟩, hil, ?_⟩
        generalize hu : (ps.getD i (0, [])).2 = u at hw hsn
        refine call_fn (k_l06Run n o next out M s ⟨by omega, hsl⟩ u hw.1 (by have := hw.2; omega)) qCS (fun e => by cases e) ?_
        rintro rows res ⟨va, rfl, rfl⟩
        refine ⟨by simp, by rw [Option.getD_some, yzn]; simp only [go_sem, yz0, Int.reduceLT, reduceLE, reduceToNat, reduceNeg, Nat.reduceLT, reduceLeDiff, reduceMul, reduceSub, reduceIte, reduceEqDiff, reduceAdd, reduceCtorEq], ?_⟩
        simp only [Option.getD_some, Bzdz, rwpN_getD hil, hu, yzz, yze, Nat.not_lt_zero, range1, yzy, yz12, yz1d, yz1e, yz10, yz1f, yz1c, yz1b, yz11, yzv, yzj, yz5, yzw, yzt, yzr, yzs, yzx, yz6, yz7, yzb, yzd, yzm, yzi, yz4, yzc, yz8, yza, yzk, yzh, List.range_zero, yz2, yz3, yz9, yzu, yzn, yzq, AVal.fresh, freshL, yz1, yzl, AObj.fresh, id, Option.isSome_some, or_true, true_or, go_sem, yz0, Int.reduceLT, reduceLE, reduceToNat, reduceNeg, Nat.reduceLT, reduceLeDiff, reduceMul, reduceSub, reduceIte, reduceEqDiff, reduceAdd, reduceCtorEq]
        intro vs10 U10 hN10
        have hil2 : i < (rwp ps).length := by rw [rwp_len]; exact hil
        have hl9 := T.len M.aut
        rw [List.length_map] at hl9
        refine ⟨⟨by omega, hil2⟩, hil2, ?_⟩
        refine call_fn (k_l06Run n o next out M ((s + 1 + k : Nat) : Int) ⟨by omega, hkl⟩ u hw.1 (by have := hw.2; omega)) qCS (fun e => by cases e) ?_
        rintro rows res ⟨vb, rfl, rfl⟩
        refine ⟨by simp, by rw [Option.getD_some, yzn]; simp only [go_sem, yz0, Int.reduceLT, reduceLE, reduceToNat, reduceNeg, Nat.reduceLT, reduceLeDiff, reduceMul, reduceSub, reduceIte, reduceEqDiff, reduceAdd, reduceCtorEq], ?_⟩
        simp only [Option.getD_some, Bzdy, yzz, yze, Nat.not_lt_zero, range1, yzy, yz12, yz1d, yz1e, yz10, yz1f, yz1c, yz1b, yz11, yzv, yzj, yz5, yzw, yzt, yzr, yzs, yzx, yz6, yz7, yzb, yzd, yzm, yzi, yz4, yzc, yz8, yza, yzk, yzh, List.range_zero, yz2, yz3, yz9, yzu, yzn, yzq, AVal.fresh, freshL, yz1, yzl, AObj.fresh, id, Option.isSome_some, or_true, true_or, go_sem, yz0, Int.reduceLT, reduceLE, reduceToNat, reduceNeg, Nat.reduceLT, reduceLeDiff, reduceMul, reduceSub, reduceIte, reduceEqDiff, reduceAdd, reduceCtorEq]
        intro vs11 U11 hN11
        refine yzp (k_l00Same (outsA next out (s : Int) u) (outsA next out ((s + 1 + k : Nat) : Int) u)) qCS trivial ?_
        have w4 : IntKind.i64.wrap ((i : Int) + 1) = ((i + 1 : Nat) : Int) := by rw [w64 (by omega)]; simp
        simp only [Bze0, w4, yzz, yze, go_sem, yz0, Int.reduceLT, reduceLE, reduceToNat, reduceNeg, Nat.reduceLT, reduceLeDiff, reduceMul, reduceSub, reduceIte, reduceEqDiff, reduceAdd, reduceCtorEq]
        intro vs12 U12 hN12
        exact ⟨(!decide (outsA next out (s : Int) u = outsA next out ((s + 1 + k : Nat) : Int) u), i + 1), by dsimp only; omega, ⟨by dsimp only; omega, hsn.symm⟩, rfl⟩
      · have hend : told = toldB next out (ps.map (·.2)) s (s + 1 + k) := by
          cases told with
          | true => exact (toldB_take htold.symm).symm
          | false =>
            have : i = ps.length := by
              by_cases e : i < ps.length
              · exact absurd ⟨rfl, e⟩ hgo
              · omega
            rw [htold, this, ← List.length_map (f := (·.2)), List.take_length]
        cases told with
        | true =>
          have hI2 : tellI next out s (k + 1) (ps0.map (·.2)) = some (ps.map (·.2)) := by simp only [tellI, hI, ← hend, if_true]
          by_cases hil : (i : Int) < ps.length
          · simp only [Bzf, Bz13, Bz2q, Bz2p, Bz2r, rwp_len, decide_eq_true hil, Bool.not_true, w2, yzz, yze, go_sem, yz0, Int.reduceLT, reduceLE, reduceToNat, reduceNeg, Nat.reduceLT, reduceLeDiff, reduceMul, reduceSub, reduceIte, reduceEqDiff, reduceAdd, reduceCtorEq]
            intro vs8 U8 hN8 hM vs9 U9 hN9 vs10 U10 hN10
            exact ⟨(_, k + 1, ps), by dsimp only; omega, ⟨by dsimp only; omega, hI2, hd⟩, rfl⟩
          · simp only [Bzf, Bz13, Bz2q, Bz2p, Bz2r, rwp_len, decide_eq_false hil, Bool.not_true, w2, yzz, yze, go_sem, yz0, Int.reduceLT, reduceLE, reduceToNat, reduceNeg, Nat.reduceLT, reduceLeDiff, reduceMul, reduceSub, reduceIte, reduceEqDiff, reduceAdd, reduceCtorEq]
            intro vs8 U8 hN8 hM vs9 U9 hN9 vs10 U10 hN10
            exact ⟨(_, k + 1, ps), by dsimp only; omega, ⟨by dsimp only; omega, hI2, hd⟩, rfl⟩
        | false =>
          have hil : ¬ (i : Int) < ps.length := fun h => hgo ⟨rfl, by omega⟩
          simp only [Bzf, Bz13, Bz2q, Bz2p, Bze4, rwp_len, decide_eq_false hil, yzz, yze, go_sem, yz0, Int.reduceLT, reduceLE, reduceToNat, reduceNeg, Nat.reduceLT, reduceLeDiff, reduceMul, reduceSub, reduceIte, reduceEqDiff, reduceAdd, reduceCtorEq]
          intro vs8 U8 hN8 hM vs9 U9 hN9 vs10 U10 hN10
          refine call_wordF (k_l06Apart n o next out M s (s + 1 + k) hsl hkl) qCS rfl (fun v => ?_)
          cases hw : apartQ next next out out s (s + 1 + k) with
          | none =>
            have hI2 : tellI next out s (k + 1) (ps0.map (·.2)) = none := by simp only [tellI, hI, ← hend, Bool.false_eq_true, if_false, hw]
            have hO2 : tellO next out n.toNat n.toNat = none := by
              have e1 := tellI_none hI2 (n.toNat - (s + 1) - (k + 1))
              rw [show k + 1 + (n.toNat - (s + 1) - (k + 1)) = n.toNat - (s + 1) by omega] at e1
              have e2 : tellO next out n.toNat (s + 1) = none := by simp only [tellO, hO, e1]
              have e3 := tellO_none e2 (n.toNat - (s + 1))
              rw [show s + 1 + (n.toNat - (s + 1)) = n.toNat by omega] at e3
              exact e3
            simp only [Option.isSome_none, Option.getD_none, Bz6i, Bz6h, Az2u, ← hQ, hO2, yzz, yze, go_sem, yz0, Int.reduceLT, reduceLE, reduceToNat, reduceNeg, Nat.reduceLT, reduceLeDiff, reduceMul, reduceSub, reduceIte, reduceEqDiff, reduceAdd, reduceCtorEq]
            intro vs11 U11 hN11 vs12 U12 hN12
            refine ⟨[78], by simp, by simp, by simp, ?_⟩
            simp only [range1, List.length_singleton, Nat.not_lt_zero, range1, yzy, yz12, yz1d, yz1e, yz10, yz1f, yz1c, yz1b, yz11, yzv, yzj, yz5, yzw, yzt, yzr, yzs, yzx, yz6, yz7, yzb, yzd, yzm, yzi, yz4, yzc, yz8, yza, yzk, yzh, List.range_zero, yz2, yz3, yz9, yzu, yzn, yzq, AVal.fresh, freshL, yz1, yzl, AObj.fresh, id, Option.isSome_some, or_true, true_or, go_sem, yz0, Int.reduceLT, reduceLE, reduceToNat, reduceNeg, Nat.reduceLT, reduceLeDiff, reduceMul, reduceSub, reduceIte, reduceEqDiff, reduceAdd, reduceCtorEq]
            exact ⟨_, [], rfl, rfl, by simp [DJ], rfl⟩
          | some w =>
            have hI2 : tellI next out s (k + 1) (ps0.map (·.2)) = some ((ps ++ [(v, w)]).map (·.2)) := by simp only [tellI, hI, ← hend, Bool.false_eq_true, if_false, hw, List.map_append, List.map_cons, List.map_nil]
            have hl9 := T.len M.aut
            rw [List.length_map] at hl9
            simp only [Option.isSome_some, Option.getD_some, Bz6i, Bz6h, Bze3, yzz, yze, wpD_gh, go_sem, yz0, Int.reduceLT, reduceLE, reduceToNat, reduceNeg, Nat.reduceLT, reduceLeDiff, reduceMul, reduceSub, reduceIte, reduceEqDiff, reduceAdd, reduceCtorEq]
            intro vs11 U11 hN11 hD
            refine ⟨[], ?_⟩
            have hf : ∀ p ∈ ps, p.2 = [] ∨ p.1 ≠ v := fun p hp => by
              by_cases e : p.2 = []
              · exact .inl e
              · exact .inr (hD 15 v5 1 true (rwp ps) 73 v rfl rfl p.1 1 (ints p.2) (List.mem_map.2 ⟨p, hp, rfl⟩) (by simpa using e))
            simp only [gwp_nil, yzz, yze, go_sem, yz0, Int.reduceLT, reduceLE, reduceToNat, reduceNeg, Nat.reduceLT, reduceLeDiff, reduceMul, reduceSub, reduceIte, reduceEqDiff, reduceAdd, reduceCtorEq]
            intro vs12 U12 hN12
            rw [rwp_len]
            refine ⟨by omega, ?_⟩
            simp only [Bz2r, rwp_snoc, w2, yzz, yze, go_sem, yz0, Int.reduceLT, reduceLE, reduceToNat, reduceNeg, Nat.reduceLT, reduceLeDiff, reduceMul, reduceSub, reduceIte, reduceEqDiff, reduceAdd, reduceCtorEq]
            intro vs13 U13 hN13
            exact ⟨(_, k + 1, ps ++ [(v, w)]), by dsimp only; omega, ⟨by dsimp only; omega, hI2, hd.snoc hf⟩, rfl⟩
    · have hke : k = n.toNat - (s + 1) := by omega
      have hO2 : tellO next out n.toNat (s + 1) = some (ps.map (·.2)) := by simp only [tellO, hO]; rw [← hke]; exact hI
      simp only [Bz2s, Bz6g, Bze8, decide_eq_false hkl, w1', yzz, yze, go_sem, yz0, Int.reduceLT, reduceLE, reduceToNat, reduceNeg, Nat.reduceLT, reduceLeDiff, reduceMul, reduceSub, reduceIte, reduceEqDiff, reduceAdd, reduceCtorEq]
      intro vs5 U5 hN5 vs6 U6 hN6
      exact ⟨(_, s + 1, ps), by dsimp only; omega, ⟨by dsimp only; omega, hO2, hd⟩, rfl⟩
  · have hse : s = n.toNat := by omega
    rw [hse] at hO
    simp only [Bz2t, Bz6f, Bzeb, Az2u, ← hQ, hO, decide_eq_false hsl, yzz, yze, go_sem, yz0, Int.reduceLT, reduceLE, reduceToNat, reduceNeg, Nat.reduceLT, reduceLeDiff, reduceMul, reduceSub, reduceIte, reduceEqDiff, reduceAdd, reduceCtorEq]
    intro vs3 U3 hN3 vs4 U4 hN4
    refine ⟨[15], by simp, by simp, by simp, ?_⟩
    simp only [range1, List.length_singleton, renL_rwp, Nat.not_lt_zero, range1, yzy, yz12, yz1d, yz1e, yz10, yz1f, yz1c, yz1b, yz11, yzv, yzj, yz5, yzw, yzt, yzr, yzs, yzx, yz6, yz7, yzb, yzd, yzm, yzi, yz4, yzc, yz8, yza, yzk, yzh, List.range_zero, yz2, yz3, yz9, yzu, yzn, yzq, AVal.fresh, freshL, yz1, yzl, AObj.fresh, id, Option.isSome_some, or_true, true_or, go_sem, yz0, Int.reduceLT, reduceLE, reduceToNat, reduceNeg, Nat.reduceLT, reduceLeDiff, reduceMul, reduceSub, reduceIte, reduceEqDiff, reduceAdd, reduceCtorEq]
    exact ⟨fresh_rwp, v4, ps0, by simp, rfl, hd0, rfl⟩
theorem k_specTellingSet (n o : Int) (next out : List (List Int)) : SetC2 Try.prog nz3o [machA n o next out]
    (if machB n o next out = true then (tellO next out n.toNat n.toNat).getD [] else []) (if machB n o next out = true then (if (tellO next out n.toNat n.toNat).isSome = true then 0 else 4) else 1) := by
  refine con_of mixed czjw rfl (by simp) ?_
  simp only [Aza6, Bza5, yzz, yze, go_sem, yz0, Int.reduceLT, reduceLE, reduceToNat, reduceNeg, Nat.reduceLT, reduceLeDiff, reduceMul, reduceSub, reduceIte, reduceEqDiff, reduceAdd, reduceCtorEq]
  intro vs0 U0 hN0 vs1 U1 hN1
  refine yzp (k_l06Ok n o next out) qCS trivial ?_
  cases hv : machB n o next out with
  | false =>
    simp only [Bz56, yzz, yze, go_sem, yz0, Int.reduceLT, reduceLE, reduceToNat, reduceNeg, Nat.reduceLT, reduceLeDiff, reduceMul, reduceSub, reduceIte, reduceEqDiff, reduceAdd, reduceCtorEq]
    intros
    refine ⟨[8], by simp, by simp, by simp, ?_⟩
    simp only [Bool.false_eq_true, if_false, range1, List.length_singleton, Nat.not_lt_zero, range1, yzy, yz12, yz1d, yz1e, yz10, yz1f, yz1c, yz1b, yz11, yzv, yzj, yz5, yzw, yzt, yzr, yzs, yzx, yz6, yz7, yzb, yzd, yzm, yzi, yz4, yzc, yz8, yza, yzk, yzh, List.range_zero, yz2, yz3, yz9, yzu, yzn, yzq, AVal.fresh, freshL, yz1, yzl, AObj.fresh, id, Option.isSome_some, or_true, true_or, go_sem, yz0, Int.reduceLT, reduceLE, reduceToNat, reduceNeg, Nat.reduceLT, reduceLeDiff, reduceMul, reduceSub, reduceIte, reduceEqDiff, reduceAdd, reduceCtorEq]
    exact ⟨_, [], rfl, rfl, by simp [DJ], rfl⟩
  | true =>
    have M := machB_iff.1 hv
    simp only [Bz56, Bza4, yzz, yze, go_sem, yz0, Int.reduceLT, reduceLE, reduceToNat, reduceNeg, Nat.reduceLT, reduceLeDiff, reduceMul, reduceSub, reduceIte, reduceEqDiff, reduceAdd, reduceCtorEq]
    intro vs3 U3 hN3
    refine call_setB (fun x y e => (hN3.inj _ _ _ _ e).2) (k_l06TellingSet n o next out M) qCS rfl (fun v ps hps hd _ => ?_)
    cases hO : tellO next out n.toNat n.toNat with
    | none =>
      rw [hO] at hps
      simp only [Option.isSome_none, Bz58, Bz57, yzz, yze, go_sem, yz0, Int.reduceLT, reduceLE, reduceToNat, reduceNeg, Nat.reduceLT, reduceLeDiff, reduceMul, reduceSub, reduceIte, reduceEqDiff, reduceAdd, reduceCtorEq]
      intros
      refine ⟨[15], by simp, by simp, by simp, ?_⟩
      simp only [Bool.false_eq_true, if_false, if_true, Option.getD_none, range1, List.length_singleton, Nat.not_lt_zero, range1, yzy, yz12, yz1d, yz1e, yz10, yz1f, yz1c, yz1b, yz11, yzv, yzj, yz5, yzw, yzt, yzr, yzs, yzx, yz6, yz7, yzb, yzd, yzm, yzi, yz4, yzc, yz8, yza, yzk, yzh, List.range_zero, yz2, yz3, yz9, yzu, yzn, yzq, AVal.fresh, freshL, yz1, yzl, AObj.fresh, id, Option.isSome_some, or_true, true_or, go_sem, yz0, Int.reduceLT, reduceLE, reduceToNat, reduceNeg, Nat.reduceLT, reduceLeDiff, reduceMul, reduceSub, reduceIte, reduceEqDiff, reduceAdd, reduceCtorEq]
      exact ⟨_, [], rfl, rfl, by simp [DJ], rfl⟩
    | some ws =>
      rw [hO, Option.getD_some] at hps
      simp only [Option.isSome_some, Bz58, Bz57, Bza3, yzz, yze, go_sem, yz0, Int.reduceLT, reduceLE, reduceToNat, reduceNeg, Nat.reduceLT, reduceLeDiff, reduceMul, reduceSub, reduceIte, reduceEqDiff, reduceAdd, reduceCtorEq]
      intros
      refine ⟨[10], by simp, by simp, by simp, ?_⟩
      simp only [if_true, Option.getD_some, range1, List.length_singleton, renL_rwp, Nat.not_lt_zero, range1, yzy, yz12, yz1d, yz1e, yz10, yz1f, yz1c, yz1b, yz11, yzv, yzj, yz5, yzw, yzt, yzr, yzs, yzx, yz6, yz7, yzb, yzd, yzm, yzi, yz4, yzc, yz8, yza, yzk, yzh, List.range_zero, yz2, yz3, yz9, yzu, yzn, yzq, AVal.fresh, freshL, yz1, yzl, AObj.fresh, id, Option.isSome_some, or_true, true_or, go_sem, yz0, Int.reduceLT, reduceLE, reduceToNat, reduceNeg, Nat.reduceLT, reduceLeDiff, reduceMul, reduceSub, reduceIte, reduceEqDiff, reduceAdd, reduceCtorEq]
      exact ⟨fresh_rwp, v, ps, by simp, hps, hd, rfl⟩
end Go.Ab
namespace Go.Ab
open Go.Proofs
theorem take_eq_stepR {α : Type} {xs ys : List α} {i : Nat} (d : α) (h : i < xs.length) (h' : i < ys.length) (he : xs.take i = ys.take i) (hx : xs.getD i d = ys.getD i d) : xs.take (i + 1) = ys.take (i + 1) := by
  rw [List.getD_eq_getElem?_getD, List.getD_eq_getElem?_getD, List.getElem?_eq_getElem h, List.getElem?_eq_getElem h'] at hx
  simp only [Option.getD_some] at hx
  rw [List.take_succ_eq_append_getElem h, List.take_succ_eq_append_getElem h', he, hx]
theorem k_f6rows (xss yss : List (List Int)) : Fun Try.prog nz3p [.ro none 1 (rwn xss), .ro none 1 (rwn yss)] (bv (decide (xss = yss))) := by
  refine fun_of mixed czjy rfl ⟨rfl, trivial⟩ ?_
  simp only [Azak, Bzaj, go_sem, yz0, Int.reduceLT, reduceLE, reduceToNat, reduceNeg, Nat.reduceLT, reduceLeDiff, reduceMul, reduceSub, reduceIte, reduceEqDiff, reduceAdd, reduceCtorEq]
  intro hx hy
  by_cases hlen : xss.length = yss.length
  · have hne : ((xss.length : Int) != (yss.length : Int)) = false := by rw [hlen]; simp
    simp only [hne, Bz5c, Bzai, Bzag, go_sem, yz0, Int.reduceLT, reduceLE, reduceToNat, reduceNeg, Nat.reduceLT, reduceLeDiff, reduceMul, reduceSub, reduceIte, reduceEqDiff, reduceAdd, reduceCtorEq]
    refine wpD_lo (fun i => xss.length - i) (fun i => i ≤ xss.length ∧ xss.take i = yss.take i)
      (fun i : Nat => ⟨L .any [(0, .ro none 1 (rwn xss)), (1, .ro none 1 (rwn yss)), (5, iv i)], L .gone []⟩) 0 (by simp) (by simp only [Bz25, go_sem, yz0, Int.reduceLT, reduceLE, reduceToNat, reduceNeg, Nat.reduceLT, reduceLeDiff, reduceMul, reduceSub, reduceIte, reduceEqDiff, reduceAdd, reduceCtorEq]; try rfl) ?_
    rintro i ⟨hi, hti⟩
    by_cases hlt : (i : Int) < xss.length
    · have hlt1 : i < xss.length := by omega
      have hlt2 : i < yss.length := by omega
      simp only [Bz25, Bz5d, Bz5e, yz19 hlt1, yz19 hlt2, decide_eq_true hlt, go_sem, yz0, Int.reduceLT, reduceLE, reduceToNat, reduceNeg, Nat.reduceLT, reduceLeDiff, reduceMul, reduceSub, reduceIte, reduceEqDiff, reduceAdd, reduceCtorEq]
      intro _ vs
      refine ⟨⟨by omega, hlt1⟩, hlt1, ⟨by omega, hlt2⟩, hlt2, ?_⟩
      refine yzp (k_f6ints (xss.getD i []) (yss.getD i [])) qCS trivial ?_
      simp only [Bzae, Bzaf, nat1 i _ hlt1 hx, go_sem, yz0, Int.reduceLT, reduceLE, reduceToNat, reduceNeg, Nat.reduceLT, reduceLeDiff, reduceMul, reduceSub, reduceIte, reduceEqDiff, reduceAdd, reduceCtorEq]
      refine ⟨fun h => ?_, fun h => ⟨i + 1, by omega, ⟨by omega, take_eq_stepR [] hlt1 hlt2 hti (by simpa using h)⟩, rfl⟩⟩
      have : xss ≠ yss := by rintro rfl; simp at h
      simp [this]
    · have : i = xss.length := by omega
      subst this
      simp only [Bz25, Bz5d, Bz5e, Bzah, decide_eq_false hlt, go_sem, yz0, Int.reduceLT, reduceLE, reduceToNat, reduceNeg, Nat.reduceLT, reduceLeDiff, reduceMul, reduceSub, reduceIte, reduceEqDiff, reduceAdd, reduceCtorEq]
      intro _
      have : xss = yss := by rw [List.take_length, hlen, List.take_length] at hti; exact hti
      simp [this]
  · have hne : ((xss.length : Int) != (yss.length : Int)) = true := by simp; omega
    simp only [hne, Bz5c, go_sem, yz0, Int.reduceLT, reduceLE, reduceToNat, reduceNeg, Nat.reduceLT, reduceLeDiff, reduceMul, reduceSub, reduceIte, reduceEqDiff, reduceAdd, reduceCtorEq]
    have : xss ≠ yss := by rintro rfl; exact hlen rfl
    simp [this]
end Go.Ab
namespace Go.Ab
open Go.Proofs
abbrev fv (f : Nat) : AVal := .val (.int .u64 (f : Int))
theorem u64w {n : Nat} (h : n < 18446744073709551616) : IntKind.u64.wrap (n : Int) = n := IntWalk.u64_in _ (by omega)
theorem bv64 {x : Nat} (h : x < 18446744073709551616) : (BitVec.ofInt 64 (x : Int)).toNat = x := by
  rw [BitVec.ofInt_natCast, BitVec.toNat_ofNat, Nat.mod_eq_of_lt h]
theorem u_or {x y : Nat} (hx : x < 18446744073709551616) (hy : y < 18446744073709551616) :
    IntKind.u64.wrap ((BitVec.ofInt 64 (x : Int) ||| BitVec.ofInt 64 (y : Int)).toNat) = ((x ||| y : Nat) : Int) := by
  have h : (BitVec.ofInt 64 (x : Int) ||| BitVec.ofInt 64 (y : Int)).toNat = x ||| y := by rw [BitVec.toNat_or, bv64 hx, bv64 hy]
  show IntKind.u64.wrap ((BitVec.ofInt 64 (x : Int) ||| BitVec.ofInt 64 (y : Int)).toNat : Int) = _
  rw [h]; exact u64w (Nat.or_lt_two_pow (n := 64) hx hy)
theorem u_and {x y : Nat} (hx : x < 18446744073709551616) (hy : y < 18446744073709551616) :
    IntKind.u64.wrap ((BitVec.ofInt 64 (x : Int) &&& BitVec.ofInt 64 (y : Int)).toNat) = ((x &&& y : Nat) : Int) := by
  have h : (BitVec.ofInt 64 (x : Int) &&& BitVec.ofInt 64 (y : Int)).toNat = x &&& y := by rw [BitVec.toNat_and, bv64 hx, bv64 hy]
  show IntKind.u64.wrap ((BitVec.ofInt 64 (x : Int) &&& BitVec.ofInt 64 (y : Int)).toNat : Int) = _
  rw [h]; exact u64w (Nat.lt_of_le_of_lt Nat.and_le_left hx)
theorem u_and1 {x : Nat} (hx : x < 18446744073709551616) :
    IntKind.u64.wrap ((@HAnd.hAnd (BitVec 64) (BitVec 64) (BitVec 64) (@instHAndOfAndOp (BitVec IntKind.u64.bits) (@BitVec.instAndOp IntKind.u64.bits)) (BitVec.ofInt 64 (x : Int)) (BitVec.ofInt 64 1)).toNat) = ((x &&& 1 : Nat) : Int) := u_and (y := 1) hx (by omega)
theorem u_orW {x y : Nat} (hx : x < 18446744073709551616) (hy : y < 18446744073709551616) :
    IntKind.u64.wrap ((@HOr.hOr (BitVec 64) (BitVec 64) (BitVec 64) (@instHOrOfOrOp (BitVec IntKind.u64.bits) (@BitVec.instOrOp IntKind.u64.bits)) (BitVec.ofInt 64 (x : Int)) (BitVec.ofInt 64 (y : Int))).toNat) = ((x ||| y : Nat) : Int) := u_or hx hy
theorem u_shl {b : Nat} (h : b < 64) : IntKind.u64.wrap (1 * 2 ^ min b 64) = ((2 ^ b : Nat) : Int) := by
  have h1 : min b 64 = b := by omega
  have h2 : (2 : Int) ^ b = ((2 ^ b : Nat) : Int) := by simp
  rw [h1, Int.one_mul, h2]
  exact u64w (Nat.pow_lt_pow_right (a := 2) (n := 64) (by omega) h)
theorem u_shr {f s : Nat} (h : s ≤ 64) : ((f : Int)).fdiv (2 ^ min s 64) = ((f >>> s : Nat) : Int) := by
  have h1 : min s 64 = s := by omega
  have h2 : (2 : Int) ^ s = ((2 ^ s : Nat) : Int) := by simp
  rw [h1, h2, Nat.shiftRight_eq_div_pow, Int.fdiv_eq_ediv_of_nonneg _ (Int.natCast_nonneg _)]
  rfl
def bitsTo (f s : Nat) : List Int := ((List.range s).filter fun k => f.testBit k).map fun (k : Nat) => (k : Int)
theorem bitsTo_succ {f s : Nat} : bitsTo f (s + 1) = if f.testBit s = true then bitsTo f s ++ [(s : Int)] else bitsTo f s := by
  unfold bitsTo
  rw [List.range_succ, List.filter_append]
  cases h : f.testBit s with
  | true => simp [h]
  | false => simp [h]
theorem bitsTo_len {f s : Nat} : (bitsTo f s).length ≤ s := by
  unfold bitsTo
  rw [List.length_map]
  have := List.length_filter_le (fun k => f.testBit k) (List.range s)
  rw [List.length_range] at this; exact this
theorem bitsTo_add {f s : Nat} (h : f < 2 ^ s) : ∀ d, bitsTo f (s + d) = bitsTo f s
  | 0 => rfl
  | d + 1 => by
    rw [show s + (d + 1) = s + d + 1 by omega, bitsTo_succ, Nat.testBit_lt_two_pow (Nat.lt_of_lt_of_le h (Nat.pow_le_pow_right (by omega) (by omega))), if_neg (by simp), bitsTo_add h d]
theorem shr_zero {f s : Nat} : f >>> s = 0 ↔ f < 2 ^ s := by
  rw [Nat.shiftRight_eq_div_pow, Nat.div_eq_zero_iff]
  have := Nat.two_pow_pos s
  omega
theorem k_flock_set (f : Nat) (h : f < 1024) : RowI Try.prog nz3w [fv f] (fun ys => ys = bitsTo f 10) := by
  refine rowI_of mixed czkc rfl ?_
  simp only [Azcv, Bzcu, Bzct, Bzcr, go_sem, yz0, Int.reduceLT, reduceLE, reduceToNat, reduceNeg, Nat.reduceLT, reduceLeDiff, reduceMul, reduceSub, reduceIte, reduceEqDiff, reduceAdd, reduceCtorEq]
  intro vs
  refine wpD_lo (fun (_, s) => 10 - s) (fun (_, s) => s ≤ 10) (fun ((v, s) : Nat × Nat) => ⟨L .any [(0, fv f), (3, .own 5 v), (4, iv s)], L .gone [(5, .row v 1 true (ints (bitsTo f s)))]⟩)
    (_, 0) (by simp) (by simp only [Bzz, go_sem, yz0, Int.reduceLT, reduceLE, reduceToNat, reduceNeg, Nat.reduceLT, reduceLeDiff, reduceMul, reduceSub, reduceIte, reduceEqDiff, reduceAdd, reduceCtorEq]; try rfl) ?_
  rintro ⟨v, s⟩ hs
  have hs : s ≤ 10 := hs
  have hs0 : ¬ ((s : Nat) : Int) < 0 := by omega
  have hsh := u_shr (f := f) (s := s) (by omega)
  have hlt : f >>> s < 18446744073709551616 := by rw [Nat.shiftRight_eq_div_pow]; exact Nat.lt_of_le_of_lt (Nat.div_le_self _ _) (by omega)
  by_cases hz : (0 : Int) < ((f >>> s : Nat) : Int)
  · have hs10 : s < 10 := by
      by_cases e : s < 10
      · exact e
      · have : f >>> s = 0 := shr_zero.2 (Nat.lt_of_lt_of_le (show f < 2 ^ 10 from h) (Nat.pow_le_pow_right (by omega) (by omega)))
        omega
    have hand := u_and1 hlt
    have hbit : ((((f >>> s &&& 1 : Nat) : Int)) == 1) = f.testBit s := by
      rw [Nat.testBit_eq_decide_div_mod_eq, Nat.and_one_is_mod, Nat.shiftRight_eq_div_pow, Bool.eq_iff_iff, beq_iff_eq, decide_eq_true_iff]
      generalize f / 2 ^ s % 2 = q
      omega
    have w1 : IntKind.i64.wrap ((s : Int) + 1) = ((s + 1 : Nat) : Int) := by rw [w64 (by omega)]; simp
    cases hb : f.testBit s with
    | true =>
      rw [hb] at hbit
      have hr : bitsTo f s ++ [(s : Int)] = bitsTo f (s + 1) := by rw [bitsTo_succ, if_pos hb]
      have hl := bitsTo_len (f := f) (s := s)
      simp only [Bzz, Bz2g, Bz2h, Bz62, Bz63, hs0, hsh, hand, hbit, w1, hr, decide_eq_true hz, go_sem, yz0, Int.reduceLT, reduceLE, reduceToNat, reduceNeg, Nat.reduceLT, reduceLeDiff, reduceMul, reduceSub, reduceIte, reduceEqDiff, reduceAdd, reduceCtorEq]
      intro vs2
      exact ⟨⟨_, rfl, rfl⟩, by omega, (_, s + 1), by dsimp only; omega, by dsimp only; omega, rfl⟩
    | false =>
      rw [hb] at hbit
      have hr : bitsTo f s = bitsTo f (s + 1) := by rw [bitsTo_succ, if_neg (by simp [hb])]
      simp only [Bzz, Bz2g, Bz2h, Bz62, Bz63, hs0, hsh, hand, hbit, w1, decide_eq_true hz, go_sem, yz0, Int.reduceLT, reduceLE, reduceToNat, reduceNeg, Nat.reduceLT, reduceLeDiff, reduceMul, reduceSub, reduceIte, reduceEqDiff, reduceAdd, reduceCtorEq]
      refine ⟨(v, s + 1), by dsimp only; omega, by dsimp only; omega, ?_⟩
      dsimp only
      rw [← hr]
  · have he : bitsTo f 10 = bitsTo f s := by
      have h1 : f >>> s = 0 := Nat.eq_zero_of_not_pos fun e => hz (Int.natCast_pos.2 e)
      have h2 := bitsTo_add (shr_zero.1 h1) (10 - s)
      rw [show s + (10 - s) = 10 by omega] at h2; exact h2
    simp only [Bzz, Bz2g, Bz2h, Bzcs, hs0, hsh, decide_eq_false hz, he, go_sem, yz0, Int.reduceLT, reduceLE, reduceToNat, reduceNeg, Nat.reduceLT, reduceLeDiff, reduceMul, reduceSub, reduceIte, reduceEqDiff, reduceAdd, reduceCtorEq]
    exact ⟨5, v, _, by omega, rfl, by simp only [go_sem, yz0, Int.reduceLT, reduceLE, reduceToNat, reduceNeg, Nat.reduceLT, reduceLeDiff, reduceMul, reduceSub, reduceIte, reduceEqDiff, reduceAdd, reduceCtorEq], rfl⟩
theorem getD_snoc {α β : Type} (xs : List α) (g : β → α → β) (o : β) (d : α) {i : Nat} (h : i < xs.length) : g ((xs.take i).foldl g o) (xs.getD i d) = (xs.take (i + 1)).foldl g o := by
  rw [List.take_succ_eq_append_getElem h, List.foldl_append, List.getD_eq_getElem?_getD, List.getElem?_eq_getElem h]; rfl
end Go.Ab
namespace Go.Ab
section
variable {σ : Type} [DecidableEq σ] (δ : σ → Nat → Option σ)
def goG (p : σ) : List Int → Option σ
  | [] => some p
  | x :: w => match δ p x.toNat with
    | none => none
    | some q => goG q w
def hasG (L : List (σ × List Int)) (q : σ) : Bool := L.any fun p => decide (p.1 = q)
def visG (p : σ) (w : List Int) : Nat → List (σ × List Int) → List (σ × List Int)
  | 0, L => L
  | x + 1, L => match δ p x with
    | none => visG p w x L
    | some q => if hasG (visG p w x L) q = true then visG p w x L else visG p w x L ++ [(q, w ++ [(x : Int)])]
def runG (m : Nat) (d : σ × List Int) : Nat → Nat → List (σ × List Int) → List (σ × List Int)
  | 0, _, L => L
  | F + 1, i, L => if i < L.length then runG m d F (i + 1) (visG δ (L.getD i d).1 (L.getD i d).2 m L) else L
theorem goG_snoc {w : List Int} {x : Int} : ∀ {p : σ}, goG δ p (w ++ [x]) = (goG δ p w).bind fun q => δ q x.toNat := by
  induction w with
  | nil =>
    intro p
    simp only [List.nil_append, goG, Option.bind_some]
    cases δ p x.toNat <;> rfl
  | cons y w ih =>
    intro p
    simp only [List.cons_append, goG]
    cases δ p y.toNat with
    | none => rfl
    | some q => exact ih
theorem hasG_iff {L : List (σ × List Int)} {q : σ} : hasG L q = true ↔ ∃ p ∈ L, p.1 = q := by
  simp only [hasG, List.any_eq_true, decide_eq_true_eq]
structure GI (D : σ → Prop) (m : Nat) (d : σ × List Int) (p0 : σ) (i x : Nat) (L : List (σ × List Int)) : Prop where
  so : L.Pairwise fun a b => befP a.2 b.2 = true
  up : i < L.length → ∀ p ∈ L, ∀ z : Int, (x : Int) ≤ z → befP p.2 ((L.getD i d).2 ++ [z]) = true
  sd : ∀ p ∈ L, goG δ p0 p.2 = some p.1 ∧ ∀ y ∈ p.2, 0 ≤ y ∧ y < m
  rg : ∀ p ∈ L, D p.1
  nd : (L.map (·.1)).Nodup
  cl : ∀ j y q, (j < i ∧ y < m) ∨ (j = i ∧ y < x) → j < L.length → δ (L.getD j d).1 y = some q → ∃ k, k < L.length ∧ (L.getD k d).1 = q ∧ leP (L.getD k d).2 ((L.getD j d).2 ++ [(y : Int)])
  ze : ∃ p ∈ L, p = (p0, [])
theorem appG_getD {L t : List (σ × List Int)} {i : Nat} {d : σ × List Int} (h : i < L.length) : (L ++ t).getD i d = L.getD i d := by
  rw [List.getD_eq_getElem?_getD, List.getElem?_append_left h, ← List.getD_eq_getElem?_getD]
theorem lastG_getD {L : List (σ × List Int)} {p d : σ × List Int} : (L ++ [p]).getD L.length d = p := by
  rw [List.getD_eq_getElem?_getD, List.getElem?_append_right (Nat.le_refl _), Nat.sub_self]; rfl
variable {δ}
theorem GI0 {D : σ → Prop} {m : Nat} {d : σ × List Int} {p0 : σ} (h : D p0) : GI δ D m d p0 0 0 [(p0, [])] where
  so := by simp
  up := by
    intro _ p hp z _
    have : p = (p0, []) := by simpa using hp
    subst this
    exact befP_len (by simp)
  sd := by
    intro p hp
    have : p = (p0, []) := by simpa using hp
    subst this
    exact ⟨rfl, by simp⟩
  rg := by
    intro p hp
    have : p = (p0, []) := by simpa using hp
    subst this; exact h
  nd := by simp
  cl := by intro j y q h; omega
  ze := ⟨(p0, []), by simp, rfl⟩
theorem GI.next {D : σ → Prop} {m : Nat} {d : σ × List Int} {p0 : σ} {i x : Nat} {L : List (σ × List Int)} (hD : ∀ p y q, D p → y < m → δ p y = some q → D q) (h : GI δ D m d p0 i x L) (hi : i < L.length) (hx : x < m) :
    match δ (L.getD i d).1 x with
    | none => GI δ D m d p0 i (x + 1) L
    | some q => if hasG L q = true then GI δ D m d p0 i (x + 1) L else GI δ D m d p0 i (x + 1) (L ++ [(q, (L.getD i d).2 ++ [(x : Int)])]) := by
  have hm := yzo hi d
  cases hq : δ (L.getD i d).1 x with
  | none =>
    refine ⟨h.so, fun hi p hp z hz => h.up hi p hp z (by omega), h.sd, h.rg, h.nd, fun j y q hj hjl hd => ?_, h.ze⟩
    by_cases e : j = i ∧ y = x
    · obtain ⟨rfl, rfl⟩ := e
      rw [hq] at hd; cases hd
    · exact h.cl j y q (by omega) hjl hd
  | some q =>
    simp only
    split
    · rename_i hh
      refine ⟨h.so, fun hi p hp z hz => h.up hi p hp z (by omega), h.sd, h.rg, h.nd, fun j y q' hj hjl hd => ?_, h.ze⟩
      by_cases e : j = i ∧ y = x
      · obtain ⟨rfl, rfl⟩ := e
        rw [hq] at hd; cases hd
        obtain ⟨p, hp, rfl⟩ := (hasG_iff).1 hh
        obtain ⟨k, hk, hg⟩ := List.getElem_of_mem hp
        have hkd : L.getD k d = p := by rw [List.getD_eq_getElem?_getD, List.getElem?_eq_getElem hk]; exact hg
        exact ⟨k, hk, by rw [hkd], by rw [hkd]; exact .inl (h.up hi p hp _ (Int.le_refl _))⟩
      · exact h.cl j y q' (by omega) hjl hd
    · rename_i hh
      have hgi : (L ++ [(q, (L.getD i d).2 ++ [(x : Int)])]).getD i d = L.getD i d := appG_getD hi
      refine ⟨?_, ?_, ?_, ?_, ?_, ?_, ?_⟩
      · rw [List.pairwise_append]
        refine ⟨h.so, by simp, fun a ha b hb => ?_⟩
        have : b = (q, (L.getD i d).2 ++ [(x : Int)]) := by simpa using hb
        subst this
        exact h.up hi a ha _ (Int.le_refl _)
      · intro _ p hp z hz
        rw [hgi]
        rcases List.mem_append.1 hp with hp | hp
        · exact h.up hi p hp z (by omega)
        · have : p = (q, (L.getD i d).2 ++ [(x : Int)]) := by simpa using hp
          subst this
          exact befP_last (by omega)
      · intro p hp
        rcases List.mem_append.1 hp with hp | hp
        · exact h.sd p hp
        · have : p = (q, (L.getD i d).2 ++ [(x : Int)]) := by simpa using hp
          subst this
          obtain ⟨s1, s2⟩ := h.sd _ hm
          refine ⟨by rw [goG_snoc, s1]; exact hq, fun y hy => ?_⟩
          rcases List.mem_append.1 hy with hy | hy
          · exact s2 y hy
          · have : y = (x : Int) := by simpa using hy
            omega
      · intro p hp
        rcases List.mem_append.1 hp with hp | hp
        · exact h.rg p hp
        · have : p = (q, (L.getD i d).2 ++ [(x : Int)]) := by simpa using hp
          subst this
          exact hD _ _ _ (h.rg _ hm) hx hq
      · rw [List.map_append, List.nodup_append]
        refine ⟨h.nd, by simp, fun a ha b hb e => ?_⟩
        have hb : b = q := by simpa using hb
        obtain ⟨p, hp, rfl⟩ := List.mem_map.1 ha
        exact hh (hasG_iff.2 ⟨p, hp, by rw [e, hb]⟩)
      · intro j y q' hj hjl hd
        rw [List.length_append, List.length_singleton] at hjl
        by_cases e : j = i ∧ y = x
        · obtain ⟨rfl, rfl⟩ := e
          rw [hgi, hq] at hd; cases hd
          exact ⟨L.length, by simp, by rw [lastG_getD], by rw [lastG_getD, hgi]; exact .inr rfl⟩
        · have hjl2 : j < L.length := by omega
          rw [appG_getD hjl2] at hd ⊢
          obtain ⟨k, k1, k2, k3⟩ := h.cl j y q' (by omega) hjl2 hd
          exact ⟨k, by rw [List.length_append]; omega, by rw [appG_getD k1]; exact k2, by rw [appG_getD k1]; exact k3⟩
      · obtain ⟨p, hp, e⟩ := h.ze
        exact ⟨p, List.mem_append.2 (.inl hp), e⟩
theorem visG_pre {p : σ} {w : List Int} : ∀ (x : Nat) (L : List (σ × List Int)), ∃ t, visG δ p w x L = L ++ t
  | 0, L => ⟨[], by simp [visG]⟩
  | x + 1, L => by
    obtain ⟨t, h⟩ := visG_pre (p := p) (w := w) x L
    simp only [visG]
    cases δ p x with
    | none => exact ⟨t, h⟩
    | some q =>
      simp only
      split
      · exact ⟨t, h⟩
      · exact ⟨t ++ [(q, w ++ [(x : Int)])], by rw [← List.append_assoc, ← h]⟩
theorem GI.vis {D : σ → Prop} {m : Nat} {d : σ × List Int} {p0 : σ} {i : Nat} {L : List (σ × List Int)} (hD : ∀ p y q, D p → y < m → δ p y = some q → D q) (h : GI δ D m d p0 i 0 L) (hi : i < L.length) :
    ∀ x, x ≤ m → GI δ D m d p0 i x (visG δ (L.getD i d).1 (L.getD i d).2 x L)
  | 0, _ => h
  | x + 1, hx => by
    have h1 := GI.vis hD h hi x (by omega)
    obtain ⟨t, ht⟩ := visG_pre (δ := δ) (p := (L.getD i d).1) (w := (L.getD i d).2) x L
    have hl : i < (visG δ (L.getD i d).1 (L.getD i d).2 x L).length := by rw [ht, List.length_append]; omega
    have hg : (visG δ (L.getD i d).1 (L.getD i d).2 x L).getD i d = L.getD i d := by rw [ht]; exact appG_getD hi
    have h2 := h1.next hD hl (by omega)
    rw [hg] at h2
    simp only [visG]
    cases hq : δ (L.getD i d).1 x with
    | none => rw [hq] at h2; exact h2
    | some q =>
      rw [hq] at h2
      simp only at h2 ⊢
      split
      · rename_i hh; rw [if_pos hh] at h2; exact h2
      · rename_i hh; rw [if_neg hh] at h2; exact h2
theorem GI.succ {D : σ → Prop} {m : Nat} {d : σ × List Int} {p0 : σ} {i : Nat} {L : List (σ × List Int)} (h : GI δ D m d p0 i m L) : GI δ D m d p0 (i + 1) 0 L := by
  refine ⟨h.so, fun hi p hp z _ => ?_, h.sd, h.rg, h.nd, fun j y q hj hjl hd => h.cl j y q (by omega) hjl hd, h.ze⟩
  have h1 := h.up (by omega) p hp m (Int.le_refl _)
  refine befP_trans h1 (befP_snoc ?_)
  have := List.pairwise_iff_getElem.1 h.so i (i + 1) (by omega) hi (by omega)
  rw [List.getD_eq_getElem?_getD, List.getD_eq_getElem?_getD, List.getElem?_eq_getElem hi, List.getElem?_eq_getElem (show i < L.length by omega)]
  exact this
theorem runG_pre {m : Nat} {d : σ × List Int} : ∀ (F i : Nat) (L : List (σ × List Int)), ∃ t, runG δ m d F i L = L ++ t
  | 0, _, L => ⟨[], by simp [runG]⟩
  | F + 1, i, L => by
    simp only [runG]
    split
    · obtain ⟨t, h⟩ := visG_pre (δ := δ) (p := (L.getD i d).1) (w := (L.getD i d).2) m L
      obtain ⟨t', h'⟩ := runG_pre (m := m) (d := d) F (i + 1) (visG δ (L.getD i d).1 (L.getD i d).2 m L)
      exact ⟨t ++ t', by rw [h', h, List.append_assoc]⟩
    · exact ⟨[], by simp⟩
theorem GI.run {D : σ → Prop} {m N : Nat} {d : σ × List Int} {p0 : σ} (hD : ∀ p y q, D p → y < m → δ p y = some q → D q)
    (hN : ∀ L : List (σ × List Int), (L.map (·.1)).Nodup → (∀ p ∈ L, D p.1) → L.length ≤ N) : ∀ (F i : Nat) (L : List (σ × List Int)), GI δ D m d p0 i 0 L → i ≤ L.length → N < F + i →
    GI δ D m d p0 (runG δ m d F i L).length 0 (runG δ m d F i L)
  | 0, i, L, h, hi, hF => by
    have := hN L h.nd h.rg
    omega
  | F + 1, i, L, h, hi, hF => by
    simp only [runG]
    split
    · rename_i hi1
      have h1 := (GI.vis hD h hi1 m (Nat.le_refl _)).succ
      obtain ⟨t, ht⟩ := visG_pre (δ := δ) (p := (L.getD i d).1) (w := (L.getD i d).2) m L
      exact GI.run hD hN F (i + 1) _ h1 (by rw [ht, List.length_append]; omega) (by omega)
    · have : i = L.length := by omega
      rw [← this]; exact h
theorem GI.word {D : σ → Prop} {m : Nat} {d : σ × List Int} {p0 : σ} {L : List (σ × List Int)} (h : GI δ D m d p0 L.length 0 L) : ∀ (k : Nat) (v : List Int), v.length = k → (∀ y ∈ v, 0 ≤ y ∧ y < m) → ∀ q, goG δ p0 v = some q →
    ∃ j, j < L.length ∧ (L.getD j d).1 = q ∧ leP (L.getD j d).2 v
  | 0, v, hk, _, q, hq => by
    obtain rfl : v = [] := List.eq_nil_of_length_eq_zero hk
    simp only [goG, Option.some.injEq] at hq
    obtain ⟨p, hp, e⟩ := h.ze
    obtain ⟨j, hj, hg⟩ := List.getElem_of_mem hp
    have hgd : L.getD j d = p := by rw [List.getD_eq_getElem?_getD, List.getElem?_eq_getElem hj]; exact hg
    exact ⟨j, hj, by rw [hgd, e]; exact hq, by rw [hgd, e]; exact .inr rfl⟩
  | k + 1, v, hk, hv, q, hq => by
    have hne : v ≠ [] := fun e => by rw [e] at hk; simp at hk
    have e := List.dropLast_concat_getLast hne
    have hl := hv _ (List.getLast_mem hne)
    have hq : goG δ p0 (v.dropLast ++ [v.getLast hne]) = some q := by rw [e]; exact hq
    rw [goG_snoc] at hq
    cases hg : goG δ p0 v.dropLast with
    | none => rw [hg] at hq; cases hq
    | some p =>
      rw [hg] at hq
      simp only [Option.bind_some] at hq
      obtain ⟨j, j1, j2, j3⟩ := GI.word h k v.dropLast (by rw [List.length_dropLast]; omega) (fun y hy => hv y (List.dropLast_subset v hy)) p hg
      obtain ⟨i, i1, i2, i3⟩ := h.cl j (v.getLast hne).toNat q (.inl ⟨j1, by omega⟩) j1 (by rw [j2]; exact hq)
      refine ⟨i, i1, i2, leP_trans i3 ?_⟩
      have e2 : (((v.getLast hne).toNat : Nat) : Int) = v.getLast hne := by omega
      rw [e2]
      have e3 : leP ((L.getD j d).2 ++ [v.getLast hne]) (v.dropLast ++ [v.getLast hne]) := by
        rcases j3 with j3 | j3
        · exact .inl (befP_snoc j3)
        · rw [j3]; exact .inr rfl
      rw [e] at e3; exact e3
theorem GI.first {D : σ → Prop} {m : Nat} {d : σ × List Int} {p0 : σ} {L : List (σ × List Int)} (h : GI δ D m d p0 L.length 0 L) (g : σ → Bool) :
    match L.find? (fun p => g p.1) with
    | some (q, w) => goG δ p0 w = some q ∧ g q = true ∧ (∀ y ∈ w, 0 ≤ y ∧ y < m) ∧ ∀ v : List Int, (∀ y ∈ v, 0 ≤ y ∧ y < m) → ∀ q', goG δ p0 v = some q' → g q' = true → befP v w = false
    | none => ∀ v : List Int, (∀ y ∈ v, 0 ≤ y ∧ y < m) → ∀ q', goG δ p0 v = some q' → g q' = false := by
  cases hf : L.find? (fun p => g p.1) with
  | none =>
    intro v hv q' hq'
    obtain ⟨j, j1, j2, _⟩ := h.word v.length v rfl hv q' hq'
    have := List.find?_eq_none.1 hf _ (yzo j1 d)
    rw [j2] at this; simpa using this
  | some p =>
    obtain ⟨q, w⟩ := p
    have hm := List.mem_of_find?_eq_some hf
    have hg := List.find?_some hf
    obtain ⟨s1, s2⟩ := h.sd _ hm
    refine ⟨s1, hg, s2, fun v hv q' hq' hgq => ?_⟩
    obtain ⟨j, j1, j2, j3⟩ := h.word v.length v rfl hv q' hq'
    refine leP_not ?_
    refine leP_trans ?_ j3
    obtain ⟨_, la, lb, hab, hno⟩ := List.find?_eq_some_iff_append.1 hf
    have hj : la.length ≤ j := by
      rcases Nat.lt_or_ge j la.length with hlt | hge
      · exfalso
        have hjm : L.getD j d ∈ la := by
          rw [hab, List.getD_eq_getElem?_getD, List.getElem?_append_left hlt, List.getElem?_eq_getElem hlt]
          exact List.getElem_mem hlt
        have := hno _ hjm
        rw [j2, hgq] at this; simp at this
      · exact hge
    have hla : la.length < L.length := by omega
    have hgw : L.getD la.length d = (q, w) := by
      rw [hab, List.getD_eq_getElem?_getD, List.getElem?_append_right (Nat.le_refl _), Nat.sub_self]; rfl
    rcases Nat.lt_or_ge la.length j with hlt | hge
    · have := List.pairwise_iff_getElem.1 h.so la.length j hla j1 hlt
      have e1 : L[la.length] = (q, w) := by rw [← hgw, List.getD_eq_getElem?_getD, List.getElem?_eq_getElem hla]; rfl
      have e2 : L[j] = L.getD j d := by rw [List.getD_eq_getElem?_getD, List.getElem?_eq_getElem j1]; rfl
      rw [e1, e2] at this
      exact .inl this
    · have : j = la.length := by omega
      rw [this, hgw]; exact .inr rfl
end
end Go.Ab
namespace Go.Ab
def imN (next : List (List Int)) (f : Nat) (w : List Int) : Nat := w.foldl (fun f l => stepN (next.getD l.toNat []) f) f
theorem imN_snoc {next : List (List Int)} {f : Nat} {w : List Int} {x : Int} : imN next f (w ++ [x]) = stepN (next.getD x.toNat []) (imN next f w) := by simp [imN]
def SndT (next : List (List Int)) (f0 : Nat) (L : TS) : Prop := ∀ p ∈ L, p.1 = imN next f0 p.2
theorem SndT.vis {next : List (List Int)} {f0 f : Nat} {w : List Int} (hf : f = imN next f0 w) : ∀ (x : Nat) {L : TS}, SndT next f0 L → SndT next f0 (visT next f w x L)
  | 0, _, h => h
  | x + 1, L, h => by
    have h1 := SndT.vis hf x h
    rw [visT_succ]
    split
    · exact h1
    · intro p hp
      rcases List.mem_append.1 hp with hp | hp
      · exact h1 p hp
      · have hp : p = (stepN (next.getD x []) f, w ++ [(x : Int)]) := by simpa using hp
        rw [hp, imN_snoc, ← hf]; rfl
theorem SndT.run {next : List (List Int)} {f0 : Nat} : ∀ (F i : Nat) {L : TS}, SndT next f0 L → SndT next f0 (runT next F i L)
  | 0, _, _, h => h
  | F + 1, i, L, h => by
    simp only [runT]
    split
    · rename_i hi
      exact SndT.run F (i + 1) (SndT.vis (h _ (yzo hi _)) _ h)
    · exact h
end Go.Ab
namespace Go.Ab
def othS (next out : List (List Int)) (s x : Nat) (o t : Nat) : Nat := if (out.getD x []).getD t 0 = (out.getD x []).getD s 0 then o ||| 2 ^ ((next.getD x []).getD t 0).toNat else o
def othN (next out : List (List Int)) (s f x : Nat) : Nat := (bitsN f).foldl (othS next out s x) 0
def toN (next : List (List Int)) (s x : Nat) : Nat := ((next.getD x []).getD s 0).toNat
def idN (next out : List (List Int)) (p : Nat × Nat) (x : Nat) : Option (Nat × Nat) :=
  if (othN next out p.1 p.2 x).testBit (toN next p.1 x) = true then none else some (toN next p.1 x, othN next out p.1 p.2 x)
def idD (n : Nat) (p : Nat × Nat) : Prop := p.1 < n ∧ p.2 < 2 ^ n
def butN (n s : Nat) : Nat := 2 ^ n - 1 - 2 ^ s
theorem oth_bit {next out : List (List Int)} {s x : Nat} (u : Nat) : ∀ (l : List Nat) (o : Nat), (l.foldl (othS next out s x) o).testBit u = true ↔ o.testBit u = true ∨ ∃ t ∈ l, (out.getD x []).getD t 0 = (out.getD x []).getD s 0 ∧ toN next t x = u
  | [], o => by simp
  | t :: l, o => by
    rw [List.foldl_cons, oth_bit u l]
    unfold othS
    split
    · rename_i h
      rw [Nat.testBit_or, Nat.testBit_two_pow, Bool.or_eq_true, decide_eq_true_eq]
      simp only [List.mem_cons, exists_eq_or_imp, or_assoc]
      constructor
      · rintro (h1 | h1 | h1)
        · exact .inl h1
        · exact .inr (.inl ⟨h, h1⟩)
        · exact .inr (.inr h1)
      · rintro (h1 | ⟨_, h1⟩ | h1)
        · exact .inl h1
        · exact .inr (.inl h1)
        · exact .inr (.inr h1)
    · rename_i h
      simp only [List.mem_cons, exists_eq_or_imp]
      constructor
      · rintro (h1 | h1)
        · exact .inl h1
        · exact .inr (.inr h1)
      · rintro (h1 | ⟨h0, _⟩ | h1)
        · exact .inl h1
        · exact absurd h0 h
        · exact .inr h1
theorem toN_lt {n : Int} {next : List (List Int)} (A : Aut n next) {s x : Nat} (hs : s < n.toNat) (hx : x < next.length) : toN next s x < n.toNat ∧ stepA next (s : Int) (x : Int) = (toN next s x : Int) := by
  have h := A.step (s := (s : Int)) (l := (x : Int)) (by omega) (by omega)
  unfold stepA at h ⊢
  rw [Int.toNat_natCast, Int.toNat_natCast] at h ⊢
  unfold toN
  omega
theorem oth_lt {n : Int} {next out : List (List Int)} (A : Aut n next) {s f x : Nat} (hf : f < 2 ^ n.toNat) (hx : x < next.length) : othN next out s f x < 2 ^ n.toNat := by
  have gen : ∀ (l : List Nat) (o : Nat), (∀ t ∈ l, t < n.toNat) → o < 2 ^ n.toNat → l.foldl (othS next out s x) o < 2 ^ n.toNat := by
    intro l
    induction l with
    | nil => intro o _ h; exact h
    | cons t l ih =>
      intro o hl h
      rw [List.foldl_cons]
      refine ih _ (fun y hy => hl y (by simp [hy])) ?_
      unfold othS
      split
      · refine Nat.or_lt_two_pow h ?_
        have := (toN_lt A (hl t (by simp)) hx).1
        unfold toN at this
        exact Nat.pow_lt_pow_right (by omega) this
      · exact h
  exact gen _ 0 (fun t ht => bits_lt hf ht) (Nat.two_pow_pos _)
theorem idN_D {n : Int} {next out : List (List Int)} (A : Aut n next) : ∀ p y q, idD n.toNat p → y < next.length → idN next out p y = some q → idD n.toNat q := by
  intro p y q hp hy h
  unfold idN at h
  split at h
  · cases h
  · cases h
    exact ⟨(toN_lt A hp.1 hy).1, oth_lt A hp.2 hy⟩
theorem id_count {n : Nat} (hn : n ≤ 10) : ∀ L : List ((Nat × Nat) × List Int), (L.map (·.1)).Nodup → (∀ p ∈ L, idD n p.1) → L.length ≤ 10240 := by
  intro L hd hr
  have hp : 2 ^ n ≤ 1024 := Nat.pow_le_pow_right (n := 2) (by omega) hn
  have h1 := nodup_lt 10240 (L.map fun p => p.1.1 * 1024 + p.1.2) ?_ ?_
  · simpa using h1
  · rw [List.nodup_iff_pairwise_ne, List.pairwise_map] at hd ⊢
    refine (List.Pairwise.and_mem.1 hd).imp fun {a b} h e => ?_
    obtain ⟨ha, hb, hne⟩ := h
    have h1 := hr a ha
    have h2 := hr b hb
    refine hne (Prod.ext ?_ ?_)
    · have := h1.2; have := h2.2; omega
    · have := h1.2; have := h2.2; omega
  · intro x hx
    obtain ⟨p, hp2, rfl⟩ := List.mem_map.1 hx
    have h1 := hr p hp2
    have := h1.1; have := h1.2
    omega
theorem oth_mem {n : Int} {next out : List (List Int)} (A : Aut n next) {s f x u : Nat} (hf : f < 2 ^ n.toNat) (hx : x < next.length) : u ∈ bitsN (othN next out s f x) ↔ ∃ t ∈ bitsN f, (out.getD x []).getD t 0 = (out.getD x []).getD s 0 ∧ toN next t x = u := by
  have n2 := A.n2
  rw [mem_bits]
  unfold othN
  rw [oth_bit]
  constructor
  · rintro ⟨_, h | h⟩
    · simp at h
    · exact h
  · rintro ⟨t, ht, h1, h2⟩
    have := (toN_lt A (bits_lt hf ht) hx).1
    exact ⟨by omega, .inr ⟨t, ht, h1, h2⟩⟩
theorem id_word {n : Int} {next out : List (List Int)} (A : Aut n next) : ∀ (w : List Int) (s f : Nat), s < n.toNat → f < 2 ^ n.toNat → (∀ y ∈ w, 0 ≤ y ∧ y < next.length) →
    match goG (idN next out) (s, f) w with
    | some q => q.2 < 2 ^ n.toNat ∧ ∀ u, u ∈ bitsN q.2 ↔ ∃ t ∈ bitsN f, outsA next out (t : Int) w = outsA next out (s : Int) w ∧ atA next (t : Int) w = (u : Int)
    | none => ∃ t ∈ bitsN f, outsA next out (t : Int) w = outsA next out (s : Int) w
  | [], s, f, hs, hf, _ => by
    simp only [goG, outsA, atA, List.foldl_nil, true_and]
    refine ⟨hf, fun u => ?_⟩
    constructor
    · intro h; exact ⟨u, h, rfl⟩
    · rintro ⟨t, ht, e⟩
      have : t = u := by omega
      rw [← this]; exact ht
  | y :: w, s, f, hs, hf, hw => by
    have hy := hw y (by simp)
    have hx : y.toNat < next.length := by omega
    have hst := toN_lt A hs hx
    have hy1 : ((y.toNat : Nat) : Int) = y := by omega
    have step : ∀ t : Nat, t < n.toNat → outsA next out (t : Int) (y :: w) = (out.getD y.toNat []).getD t 0 :: outsA next out (toN next t y.toNat : Int) w ∧ atA next (t : Int) (y :: w) = atA next (toN next t y.toNat : Int) w := by
      intro t ht
      have h1 := (toN_lt A ht hx).2
      rw [hy1] at h1
      refine ⟨?_, ?_⟩
      · simp only [outsA, outA, Int.toNat_natCast, h1]
      · show atA next (stepA next t y) w = _
        rw [h1]
    have key : ∀ t ∈ bitsN f, (outsA next out (t : Int) (y :: w) = outsA next out (s : Int) (y :: w) ↔ (out.getD y.toNat []).getD t 0 = (out.getD y.toNat []).getD s 0 ∧ outsA next out (toN next t y.toNat : Int) w = outsA next out (toN next s y.toNat : Int) w) := by
      intro t ht
      rw [(step t (bits_lt hf ht)).1, (step s hs).1, List.cons.injEq]
    by_cases hb : (othN next out s f y.toNat).testBit (toN next s y.toNat) = true
    · have e : goG (idN next out) (s, f) (y :: w) = none := by simp only [goG, idN, hb, if_true]
      rw [e]
      have h1 := (oth_mem (out := out) A (s := s) hf hx (u := toN next s y.toNat)).1 (mem_bits.2 ⟨by have := A.n2; omega, hb⟩)
      obtain ⟨t, ht, h2, h3⟩ := h1
      exact ⟨t, ht, (key t ht).2 ⟨h2, by rw [h3]⟩⟩
    · have e : goG (idN next out) (s, f) (y :: w) = goG (idN next out) (toN next s y.toNat, othN next out s f y.toNat) w := by simp only [goG, idN, hb, if_false]; rfl
      rw [e]
      have ih := id_word (out := out) A w (toN next s y.toNat) (othN next out s f y.toNat) hst.1 (oth_lt A hf hx) (fun z hz => hw z (by simp [hz]))
      cases hg : goG (idN next out) (toN next s y.toNat, othN next out s f y.toNat) w with
      | none =>
        rw [hg] at ih
        obtain ⟨u, hu, h1⟩ := ih
        obtain ⟨t, ht, h2, h3⟩ := (oth_mem A hf hx).1 hu
        exact ⟨t, ht, (key t ht).2 ⟨h2, by rw [h3]; exact h1⟩⟩
      | some q =>
        rw [hg] at ih
        refine ⟨ih.1, fun v => ?_⟩
        rw [ih.2 v]
        constructor
        · rintro ⟨u, hu, h1, h4⟩
          obtain ⟨t, ht, h2, h3⟩ := (oth_mem A hf hx).1 hu
          exact ⟨t, ht, (key t ht).2 ⟨h2, by rw [h3]; exact h1⟩, by rw [(step t (bits_lt hf ht)).2, h3]; exact h4⟩
        · rintro ⟨t, ht, h1, h4⟩
          obtain ⟨h2, h3⟩ := (key t ht).1 h1
          exact ⟨toN next t y.toNat, (oth_mem A hf hx).2 ⟨t, ht, h2, rfl⟩, h3, by rw [← (step t (bits_lt hf ht)).2]; exact h4⟩
theorem zero_bits {f : Nat} (h : f < 1024) : f = 0 ↔ ∀ u, ¬ u ∈ bitsN f := by
  constructor
  · rintro rfl u hu; simp [bitsN] at hu
  · intro hu
    refine Nat.eq_of_testBit_eq fun i => ?_
    rw [Nat.zero_testBit]
    by_cases hi : i < 10
    · have := hu i
      rw [mem_bits] at this
      simpa [hi] using this
    · exact Nat.testBit_lt_two_pow (Nat.lt_of_lt_of_le h (Nat.pow_le_pow_right (n := 2) (by omega) (show 10 ≤ i by omega)))
theorem but_bits {n s : Nat} (hn : n ≤ 10) (hs : s < n) : butN n s < 2 ^ n ∧ ∀ t, t ∈ bitsN (butN n s) ↔ t < n ∧ t ≠ s := by
  have h : ∀ n : Fin 11, ∀ s : Fin 11, s < n → butN n s < 2 ^ n.val ∧ bitsN (butN n s) = (List.range n).filter fun t => t != s.val := by decide +kernel
  obtain ⟨h1, h2⟩ := h ⟨n, by omega⟩ ⟨s, by omega⟩ hs
  refine ⟨h1, fun t => ?_⟩
  rw [show bitsN (butN n s) = _ from h2, List.mem_filter, List.mem_range]
  simp
theorem id_tells {n : Int} {next out : List (List Int)} (A : Aut n next) {s : Nat} (hs : s < n.toNat) {w : List Int} (hw : ∀ y ∈ w, 0 ≤ y ∧ y < next.length) :
    (∃ q, goG (idN next out) (s, butN n.toNat s) w = some q ∧ (q.2 == 0) = true) ↔ ∀ t : Nat, t < n.toNat → t ≠ s → outsA next out (t : Int) w ≠ outsA next out (s : Int) w := by
  have n2 := A.n2
  have hb := but_bits (n := n.toNat) (by omega) hs
  have hp : 2 ^ n.toNat ≤ 1024 := Nat.pow_le_pow_right (n := 2) (by omega) (show n.toNat ≤ 10 by omega)
  have h := id_word (out := out) A w s (butN n.toNat s) hs hb.1 hw
  constructor
  · rintro ⟨q, hq, h0⟩ t ht hne e
    rw [hq] at h
    have h0 : q.2 = 0 := by simpa using h0
    have hat := A.at (w := w) (s := (t : Int)) (by omega) hw
    have := (h.2 (atA next (t : Int) w).toNat).2 ⟨t, (hb.2 t).2 ⟨ht, hne⟩, e, by omega⟩
    rw [h0] at this; simp [bitsN] at this
  · intro hall
    cases hg : goG (idN next out) (s, butN n.toNat s) w with
    | none =>
      rw [hg] at h
      obtain ⟨t, ht, e⟩ := h
      have := (hb.2 t).1 ht
      exact absurd e (hall t this.1 this.2)
    | some q =>
      rw [hg] at h
      refine ⟨q, rfl, ?_⟩
      have : q.2 = 0 := (zero_bits (by have := h.1; omega)).2 fun u hu => by
        obtain ⟨t, ht, e, _⟩ := (h.2 u).1 hu
        have := (hb.2 t).1 ht
        exact hall t this.1 this.2 e
      rw [this]; rfl
def idL (next out : List (List Int)) (n s : Nat) : List ((Nat × Nat) × List Int) := runG (idN next out) next.length ((0, 0), []) 11000 0 [((s, butN n s), [])]
def identQ (next out : List (List Int)) (n s : Nat) : Option (List Int) := ((idL next out n s).find? fun p => p.1.2 == 0).map (·.2)
theorem ident_ok {n : Int} {next out : List (List Int)} (A : Aut n next) {s : Nat} (hs : s < n.toNat) :
    match identQ next out n.toNat s with
    | some w => (∀ y ∈ w, 0 ≤ y ∧ y < next.length) ∧ (∀ t : Nat, t < n.toNat → t ≠ s → outsA next out (t : Int) w ≠ outsA next out (s : Int) w) ∧
        ∀ v : List Int, (∀ y ∈ v, 0 ≤ y ∧ y < next.length) → (∀ t : Nat, t < n.toNat → t ≠ s → outsA next out (t : Int) v ≠ outsA next out (s : Int) v) → befP v w = false
    | none => ∀ v : List Int, (∀ y ∈ v, 0 ≤ y ∧ y < next.length) → ¬ ∀ t : Nat, t < n.toNat → t ≠ s → outsA next out (t : Int) v ≠ outsA next out (s : Int) v := by
  have n2 := A.n2
  have hb := but_bits (n := n.toNat) (by omega) hs
  have G := GI.run (δ := idN next out) (D := idD n.toNat) (m := next.length) (N := 10240) (d := ((0, 0), [])) (p0 := (s, butN n.toNat s)) (idN_D A) (id_count (by omega)) 11000 0 _ (GI0 ⟨hs, hb.1⟩) (by simp) (by omega)
  have h := G.first fun q => q.2 == 0
  unfold identQ idL
  cases hf : (runG (idN next out) next.length ((0, 0), []) 11000 0 [((s, butN n.toNat s), [])]).find? (fun p => p.1.2 == 0) with
  | none =>
    rw [hf] at h
    simp only [Option.map_none]
    intro v hv hall
    obtain ⟨q, hq, h0⟩ := (id_tells A hs hv).2 hall
    rw [h v hv q hq] at h0; cases h0
  | some p =>
    obtain ⟨q, w⟩ := p
    rw [hf] at h
    simp only [Option.map_some]
    obtain ⟨h1, h2, h3, h4⟩ := h
    refine ⟨h3, (id_tells A hs h3).1 ⟨q, h1, h2⟩, fun v hv hall => ?_⟩
    obtain ⟨q', hq', h0⟩ := (id_tells A hs hv).2 hall
    exact h4 v hv q' hq' h0
end Go.Ab
namespace Go.Ab
open Go.Proofs
abbrev keyY (p : Nat × Nat) : Value := .agg #[.int .i64 (p.1 : Int), .int .u64 (p.2 : Int)]
abbrev keysY (L : PS) : List Value := L.map fun p => keyY p.1
def cellsY (L : PS) : List AVal := L.flatMap fun p => [iv p.1.1, fv p.1.2]
theorem sameY {f p : Nat × Nat} : sameKey (keyY f) (keyY p) = some (decide (p = f)) := by
  obtain ⟨a, b⟩ := f
  obtain ⟨c, d⟩ := p
  have h : ∀ x y : Nat, (((x : Nat) : Int) == ((y : Nat) : Int)) = decide (y = x) := fun x y => by
    by_cases e : x = y
    · subst e; simp
    · rw [beq_false_of_ne (fun h => e (by omega))]; simp [Ne.symm e]
  simp only [keyY, sameKey, pairOf, samePair, and_self, if_true, h, Option.some.injEq, Prod.mk.injEq]
  by_cases e1 : c = a <;> by_cases e2 : d = b <;> simp [e1, e2]
theorem fkY_not {f : Nat × Nat} : ∀ {L : PS} (i : Nat), hasG L f = false → findKeyAt (keyY f) (keysY L) i = some none
  | [], _, _ => rfl
  | p :: L, i, h => by
    simp only [hasG, List.any_cons, Bool.or_eq_false_iff] at h
    have h2 := fkY_not (f := f) (L := L) (i + 1) h.2
    simp only [List.map_cons, findKeyAt, sameY, h.1]
    exact h2
theorem fkY_mem {f : Nat × Nat} : ∀ {L : PS} (i : Nat), hasG L f = true → ∃ j, findKeyAt (keyY f) (keysY L) i = some (some (i + j)) ∧ j < L.length
  | [], _, h => by cases h
  | p :: L, i, h => by
    cases e : decide (p.1 = f) with
    | true =>
      refine ⟨0, ?_, by simp⟩
      simp only [List.map_cons, findKeyAt, sameY, e, Nat.add_zero]
    | false =>
      simp only [hasG, List.any_cons, e, Bool.false_or] at h
      obtain ⟨j, h2, h3⟩ := fkY_mem (f := f) (L := L) (i + 1) h
      refine ⟨j + 1, ?_, by simp; omega⟩
      simp only [List.map_cons, findKeyAt, sameY, e]
      rw [h2]; congr 2; omega
theorem fkY_at : ∀ {L : PS} (i k : Nat), (L.map (·.1)).Nodup → i < L.length → findKeyAt (keyY (L.getD i ((0, 0), [])).1) (keysY L) k = some (some (k + i))
  | [], _, _, _, h => by simp at h
  | p :: L, 0, k, _, _ => by
    simp only [List.getD_cons_zero, List.map_cons, findKeyAt, sameY, decide_true, Nat.add_zero]
  | p :: L, i + 1, k, hd, h => by
    rw [List.map_cons, List.nodup_cons] at hd
    have hi : i < L.length := by simpa using h
    have hm := yzo hi ((0, 0), ([] : List Int))
    have h1 : decide (p.1 = (L.getD i ((0, 0), [])).1) = false := decide_eq_false fun e => hd.1 (List.mem_map.2 ⟨_, hm, e.symm⟩)
    have h2 := fkY_at (L := L) i (k + 1) hd.2 hi
    simp only [List.getD_cons_succ, List.map_cons, findKeyAt, sameY, h1]
    rw [h2]; congr 2; omega
theorem cellsY_len : ∀ (L : PS), (cellsY L).length = L.length * 2
  | [] => rfl
  | p :: L => by
    have := cellsY_len L
    unfold cellsY at this ⊢
    rw [List.flatMap_cons, List.length_append, this, List.length_cons]; simp only [List.length_cons, List.length_nil]; omega
theorem cellsY_at : ∀ {L : PS} {i : Nat}, i < L.length → ((cellsY L).drop (i * 2)).take 2 = [iv (L.getD i ((0, 0), [])).1.1, fv (L.getD i ((0, 0), [])).1.2]
  | p :: L, 0, _ => rfl
  | p :: L, i + 1, h => by
    have := cellsY_at (L := L) (i := i) (by simpa using h)
    rw [List.getD_cons_succ, ← this, Nat.add_mul, Nat.one_mul]; rfl
theorem cellsY_snoc {L : PS} {q : (Nat × Nat) × List Int} : cellsY L ++ [iv q.1.1, fv q.1.2] = cellsY (L ++ [q]) := by simp [cellsY]
theorem dnL_cellsY : ∀ {L : PS}, dnL (cellsY L) = cellsY L
  | [] => rfl
  | p :: L => by
    have := dnL_cellsY (L := L)
    unfold cellsY at this ⊢
    simp only [List.flatMap_cons, List.cons_append, List.nil_append, dnL_cons, dn_val, this]
theorem butW {n s : Nat} (hn : n ≤ 10) (hs : s < n) : IntKind.u64.wrap ((@HAnd.hAnd (BitVec 64) (BitVec 64) (BitVec 64) (@instHAndOfAndOp (BitVec IntKind.u64.bits) (@BitVec.instAndOp IntKind.u64.bits)) (BitVec.ofInt 64 (IntKind.u64.wrap (((2 ^ n : Nat) : Int) - 1))) (@Complement.complement (BitVec 64) (@BitVec.instComplement IntKind.u64.bits) (BitVec.ofInt 64 ((2 ^ s : Nat) : Int)))).toNat) = ((butN n s : Nat) : Int) := by
  have h : ∀ n : Fin 11, ∀ s : Fin 11, s < n → IntKind.u64.wrap ((BitVec.ofInt 64 (IntKind.u64.wrap (((2 ^ n.val : Nat) : Int) - 1)) &&& ~~~ BitVec.ofInt 64 ((2 ^ s.val : Nat) : Int)).toNat) = ((butN n.val s.val : Nat) : Int) := by decide +kernel
  exact h ⟨n, by omega⟩ ⟨s, by omega⟩ hs
theorem k_IdentifyingWord_1 (n o : Int) (next out : List (List Int)) (s : Int) (hn : 1 ≤ n ∧ n ≤ 10) :
    Fun Try.prog nz18 [machP n o next out, .rp [iv s] 0] (bv (decide (0 ≤ s) && decide (s ≤ n - 1))) := by
  refine fun_of mixed czka rfl ⟨rfl, trivial⟩ ?_
  simp only [Azco, Bzcn, go_sem, yz0, Int.reduceLT, reduceLE, reduceToNat, reduceNeg, Nat.reduceLT, reduceLeDiff, reduceMul, reduceSub, reduceIte, reduceEqDiff, reduceAdd, reduceCtorEq]
  intro vs
  refine yzp (k_Machine_isState n o next out s hn) qCS trivial ?_
  simp only [go_sem, yz0, Int.reduceLT, reduceLE, reduceToNat, reduceNeg, Nat.reduceLT, reduceLeDiff, reduceMul, reduceSub, reduceIte, reduceEqDiff, reduceAdd, reduceCtorEq]
structure IdI (n : Int) (next out : List (List Int)) (s i x : Nat) (L : PS) : Prop where
  gi : GI (idN next out) (idD n.toNat) next.length ((0, 0), []) (s, butN n.toNat s) i x L
  wl : ∀ p ∈ L, p.2.length < L.length
theorem IdI.len {n : Int} {next out : List (List Int)} {s i x : Nat} {L : PS} (A : Aut n next) (h : IdI n next out s i x L) : L.length ≤ 10240 := id_count (by have := A.n2; omega) L h.gi.nd h.gi.rg
theorem IdI.vis {n : Int} {next out : List (List Int)} {s i : Nat} {L : PS} (A : Aut n next) (h : IdI n next out s i 0 L) (hi : i < L.length) : ∀ x, x ≤ next.length → IdI n next out s i x (visG (idN next out) (L.getD i ((0, 0), [])).1 (L.getD i ((0, 0), [])).2 x L)
  | 0, _ => h
  | x + 1, hx => by
    have h1 := IdI.vis A h hi x (by omega)
    refine ⟨GI.vis (idN_D A) h.gi hi (x + 1) hx, ?_⟩
    have hm := h.wl _ (yzo hi ((0, 0), []))
    obtain ⟨t, ht⟩ := visG_pre (δ := idN next out) (p := (L.getD i ((0, 0), [])).1) (w := (L.getD i ((0, 0), [])).2) x L
    simp only [visG]
    cases idN next out (L.getD i ((0, 0), [])).1 x with
    | none => exact h1.wl
    | some q =>
      simp only
      split
      · exact h1.wl
      · intro p hp
        rw [List.length_append, List.length_singleton]
        rcases List.mem_append.1 hp with hp | hp
        · have := h1.wl p hp; omega
        · have : p = (q, (L.getD i ((0, 0), [])).2 ++ [(x : Int)]) := by simpa using hp
          subst this
          rw [List.length_append, List.length_singleton, ht, List.length_append]; omega
theorem find_at {L t : PS} {i : Nat} (hi : i < L.length) (h0 : ∀ p ∈ L.take i, p.1.2 ≠ 0) (hz : (L.getD i ((0, 0), [])).1.2 = 0) : ((L ++ t).find? fun p => p.1.2 == 0) = some (L.getD i ((0, 0), [])) := by
  have e : L.getD i ((0, 0), []) = L[i] := by rw [List.getD_eq_getElem?_getD, List.getElem?_eq_getElem hi]; rfl
  rw [e] at hz ⊢
  rw [List.find?_eq_some_iff_append]
  refine ⟨by simpa using hz, L.take i, L.drop (i + 1) ++ t, ?_, fun p hp => by simpa using h0 p hp⟩
  rw [← List.cons_append, ← List.append_assoc]
  congr 1
  rw [← List.drop_eq_getElem_cons hi, List.take_append_drop]
theorem idT_all {next out : List (List Int)} {s f x : Nat} : (bitsTo f 10).foldl (fun o t => othS next out s x o t.toNat) 0 = othN next out s f x := by
  unfold othN bitsTo bitsN
  rw [List.foldl_map]
  rfl
theorem idT_lt {n : Nat} {next out : List (List Int)} {s x : Nat} (set : List Int) (h : ∀ t ∈ set, toN next t.toNat x < n) : set.foldl (fun o t => othS next out s x o t.toNat) 0 < 2 ^ n := by
  have gen : ∀ (l : List Int) (o : Nat), (∀ t ∈ l, toN next t.toNat x < n) → o < 2 ^ n → l.foldl (fun o t => othS next out s x o t.toNat) o < 2 ^ n := by
    intro l
    induction l with
    | nil => intro o _ h; exact h
    | cons t l ih =>
      intro o hl h
      rw [List.foldl_cons]
      refine ih _ (fun y hy => hl y (by simp [hy])) ?_
      unfold othS
      split
      · refine Nat.or_lt_two_pow h ?_
        have := hl t (by simp)
        unfold toN at this
        exact Nat.pow_lt_pow_right (by omega) this
      · exact h
  exact gen set 0 h (Nat.two_pow_pos _)
theorem visY_succ {next out : List (List Int)} {p : Nat × Nat} {w : List Int} {x : Nat} {L : PS} : visG (idN next out) p w (x + 1) L =
    if (othN next out p.1 p.2 x).testBit (toN next p.1 x) = true then visG (idN next out) p w x L else
    if hasG (visG (idN next out) p w x L) (toN next p.1 x, othN next out p.1 p.2 x) = true then visG (idN next out) p w x L else visG (idN next out) p w x L ++ [((toN next p.1 x, othN next out p.1 p.2 x), w ++ [(x : Int)])] := by
  by_cases hb : (othN next out p.1 p.2 x).testBit (toN next p.1 x) = true
  · simp only [visG, idN, hb, if_true]
  · simp only [visG, idN, hb, if_false]; rfl
theorem bit_eqY {f s : Nat} : ((((f >>> s &&& 1 : Nat) : Int)) == 1) = f.testBit s := by
  rw [Nat.testBit_eq_decide_div_mod_eq, Nat.and_one_is_mod, Nat.shiftRight_eq_div_pow, Bool.eq_iff_iff, beq_iff_eq, decide_eq_true_iff]
  generalize f / 2 ^ s % 2 = q
  omega
def identR (r : Option (List Int)) : AVal := match r with
  | some w => .tup [.ro (some none) 1 (ints w), iv 0]
  | none => .tup [.val (.slice none 0 0), iv 6]
theorem k_IdentifyingWord (n o : Int) (next out : List (List Int)) (M : Mach n o next out) (s : Nat) (hs : (s : Int) < n) :
    Fn Try.prog nz3m [machA n o next out, iv s] fun rows res => rows = [] ∧ res = identR (identQ next out n.toNat s) := by
  refine con_of mixed czjt rfl (by simp) ?_
  generalize hQ : finQ _ = Q
  have n1 := M.aut.n1
  have n2 := M.aut.n2
  have l2 := M.aut.l2
  have hv : machB n o next out = true := machB_iff.2 M
  have h3 : codeI (machB n o next out) (decide (0 ≤ (s : Int)) && decide ((s : Int) ≤ n - 1)) = 0 := by
    rw [hv, decide_eq_true (show (0 : Int) ≤ s by omega), decide_eq_true (show (s : Int) ≤ n - 1 by omega)]; rfl
  have f0 : ∀ k : Value, findKeyAt k [] 0 = some none := fun _ => rfl
  have kp : ∀ a b : Int, pairOf (.agg #[.int .i64 a, .int .u64 b]) = some (.i64, a, .u64, b) := fun _ _ => rfl
  obtain ⟨m, hm⟩ : ∃ m : Nat, n = m := ⟨n.toNat, by omega⟩
  subst hm
  have e1 := u_shl (b := m) (by omega)
  have e2 := u_shl (b := s) (by omega)
  have e3 := butW (n := m) (s := s) (by omega) (by omega)
  have g1 : ¬ (m : Int) < 0 := by omega
  have g2 : ¬ (s : Int) < 0 := by omega
  simp only [Az1y, Bz9e, go_sem, yz0, Int.reduceLT, reduceLE, reduceToNat, reduceNeg, Nat.reduceLT, reduceLeDiff, reduceMul, reduceSub, reduceIte, reduceEqDiff, reduceAdd, reduceCtorEq]
  intro vs vs1
  refine yzp (k_Machine_code m o next out nz18 [machP m o next out, .rp [iv s] 0] _ ⟨by simp only [go_sem, yz0, Int.reduceLT, reduceLE, reduceToNat, reduceNeg, Nat.reduceLT, reduceLeDiff, reduceMul, reduceSub, reduceIte, reduceEqDiff, reduceAdd, reduceCtorEq], by intros; simp only [rowIs, boxIs, coe_argN, yz1a, coe_ro_o, coeL_nil, yz18, coe_any, coe_val, coe_ro, yz16, yz17, coe_st, yz15, coe_rp, yz14, coe_clo, coe_own0, coe_ptr0, yz13, coeL_rws, coeL_rwn, L_hit, L_miss, L_nil, reduceEqDiff, ne_eq, reduceCtorEq, not_false_eq_true, true_and, and_true, and_self, exists_eq_left, exists_eq_right, List.mem_cons, List.not_mem_nil, or_false, AObj.row.injEq, AObj.box.injEq, exists_eq_left', exists_and_left, exists_eq, Nat.zero_lt_one, Nat.lt_add_one, List.map_cons, List.map_nil, AObj.ver, Nat.reduceLT, not_true_eq_false]⟩
    (fun _ => k_IdentifyingWord_1 m o next out s ⟨n1, n2⟩)) qCS trivial ?_
  simp only [h3, Bz8y, Bz8x, Bz9d, bne_self_eq_false, g1, g2, e1, e2, e3, Int.toNat_natCast, go_sem, yz0, Int.reduceLT, reduceLE, reduceToNat, reduceNeg, Nat.reduceLT, reduceLeDiff, reduceMul, reduceSub, reduceIte, reduceEqDiff, reduceAdd, reduceCtorEq]
  intro vs2
  simp only [Bz9c, f0, kp, go_sem, yz0, Int.reduceLT, reduceLE, reduceToNat, reduceNeg, Nat.reduceLT, reduceLeDiff, reduceMul, reduceSub, reduceIte, reduceEqDiff, reduceAdd, reduceCtorEq]
  intro vs3
  refine ⟨fun r v' e => by cases e; exact ⟨_, _, _, rfl⟩, ?_⟩
  simp only [Bz9b, Bz99, go_sem, yz0, Int.reduceLT, reduceLE, reduceToNat, reduceNeg, Nat.reduceLT, reduceLeDiff, reduceMul, reduceSub, reduceIte, reduceEqDiff, reduceAdd, reduceCtorEq]
  refine wpD_lo (fun (_, _, i, _) => 11000 - i)
    (fun (_, _, i, L) => IdI m next out s i 0 L ∧ i ≤ List.length L ∧ (∀ p ∈ L.take i, p.1.2 ≠ 0) ∧ runG (idN next out) next.length ((0, 0), []) (11000 - i) i L = idL next out m s)
    (fun ((va, vm, i, L) : Nat × Nat × Nat × PS) => ⟨Go.Ab.L .any [(2, .ptr 2 (vs 0 0) 0), (8, .own 34 va), (9, .mp 35 vm), (10, iv i)],
      Go.Ab.L .gone [(2, .box (vs 0 0) [iv m, iv o, .ro none 1 (rwn next), .ro none 1 (rwn out)]), (3, .box (vs 1 0) [iv s]), (34, .row va 2 true (cellsY L)), (35, .map vm (keysY L) (rws (L.map (·.2))))]⟩)
    (_, _, 0, [((s, butN m s), [])]) ⟨⟨GI0 ⟨by omega, (but_bits (by omega) (by omega)).1⟩, by simp⟩, by simp, by simp, rfl⟩ (by simp only [Bz1x, go_sem, yz0, Int.reduceLT, reduceLE, reduceToNat, reduceNeg, Nat.reduceLT, reduceLeDiff, reduceMul, reduceSub, reduceIte, reduceEqDiff, reduceAdd, reduceCtorEq]; try rfl) ?_
  rintro ⟨va, vm, i, L⟩ ⟨hI, hi, h0, hR⟩
  have hi : i ≤ L.length := hi
  have h0 : ∀ p ∈ L.take i, p.1.2 ≠ 0 := h0
  have hlen := hI.len M.aut
  have hcl := cellsY_len L
  have hq : (cellsY L).length / 2 = L.length := by omega
  by_cases hlt : (i : Int) < L.length
  · have hlt1 : i < L.length := by omega
    have hm := yzo hlt1 ((0, 0), ([] : List Int))
    have hfi := hI.gi.rg _ hm
    have hwi := hI.wl _ hm
    have hca := cellsY_at hlt1
    simp only [Bz1x, Bz4q, Bz98, hq, hca, dnL_cellsY, yzf, decide_eq_true hlt, go_sem, yz0, Int.reduceLT, reduceLE, reduceToNat, reduceNeg, Nat.reduceLT, reduceLeDiff, reduceMul, reduceSub, reduceIte, reduceEqDiff, reduceAdd, reduceCtorEq]
    intro hM vs4
    refine ⟨⟨by omega, by omega⟩, by omega, ?_⟩
    have hpre0 := runG_pre (δ := idN next out) (m := next.length) (d := ((0, 0), ([] : List Int))) (11000 - i) i L
    generalize hfw : L.getD i ((0, 0), []) = fw at hm hfi hwi ⊢
    have hk0 := fkY_at i 0 hI.gi.nd hlt1
    rw [hfw, Nat.zero_add] at hk0
    have hk0 : findKeyAt (.agg #[.int .i64 (fw.1.1 : Int), .int .u64 (fw.1.2 : Int)]) (keysY L) 0 = some (some i) := hk0
    have hwg0 := wordsP_getD hlt1
    rw [hfw] at hwg0
    have hwl0 : i < (L.map (·.2)).length := by simpa using hlt1
    by_cases hz : fw.1.2 = 0
    · have hid : identQ next out m s = some fw.2 := by
        obtain ⟨t, ht⟩ := hpre0
        rw [hR] at ht
        unfold identQ
        rw [ht, find_at hlt1 h0 (by rw [hfw]; exact hz), hfw]; rfl
      rw [hz] at hk0
      have z00 : (((0 : Nat) : Int) == 0) = true := rfl
      simp only [Bz4x, Bz4r, hz, hk0, z00, kp, rws_getD hwl0, hwg0, hid, Az1y, ← hQ, dnL_cellsY, yzf, go_sem, yz0, Int.reduceLT, reduceLE, reduceToNat, reduceNeg, Nat.reduceLT, reduceLeDiff, reduceMul, reduceSub, reduceIte, reduceEqDiff, reduceAdd, reduceCtorEq]
      refine ⟨[], by simp, by simp, by simp, ?_⟩
      simp only [identR, Nat.not_lt_zero, range1, yzy, yz12, yz1d, yz1e, yz10, yz1f, yz1c, yz1b, yz11, yzv, yzj, yz5, yzw, yzt, yzr, yzs, yzx, yz6, yz7, yzb, yzd, yzm, yzi, yz4, yzc, yz8, yza, yzk, yzh, List.range_zero, yz2, yz3, yz9, yzu, yzn, yzq, AVal.fresh, freshL, yz1, yzl, AObj.fresh, id, Option.isSome_some, or_true, true_or, go_sem, yz0, Int.reduceLT, reduceLE, reduceToNat, reduceNeg, Nat.reduceLT, reduceLeDiff, reduceMul, reduceSub, reduceIte, reduceEqDiff, reduceAdd, reduceCtorEq]
      try simp
    have hz2 : (((fw.1.2 : Nat) : Int) == 0) = false := by simpa using (by omega : ¬ ((fw.1.2 : Nat) : Int) = 0)
    simp only [Bz4x, Bz4r, Bz96, Bz95, hz2, dnL_cellsY, yzf, go_sem, yz0, Int.reduceLT, reduceLE, reduceToNat, reduceNeg, Nat.reduceLT, reduceLeDiff, reduceMul, reduceSub, reduceIte, reduceEqDiff, reduceAdd, reduceCtorEq]
    intro hMa
    have hM2 := maxLen_le
    have p10 : 2 ^ m ≤ 1024 := Nat.pow_le_pow_right (n := 2) (by omega) (show m ≤ 10 by omega)
    have hf10 : fw.1.2 < 1024 := Nat.lt_of_lt_of_le hfi.2 p10
    have hfm : fw.1.1 < m := hfi.1
    refine wpD_lo (fun (_, _, x, _) => next.length - x)
      (fun (_, _, x, L') => x ≤ next.length ∧ L' = visG (idN next out) fw.1 fw.2 x L)
      (fun ((va, vm, x, L') : Nat × Nat × Nat × PS) => ⟨Go.Ab.L .any [(2, .ptr 2 (vs 0 0) 0), (8, .own 34 va), (9, .mp 35 vm), (10, iv i), (11, .ptr 11 (vs4 4 0) 0), (57, iv next.length), (58, iv x)],
        Go.Ab.L .gone [(2, .box (vs 0 0) [iv m, iv o, .ro none 1 (rwn next), .ro none 1 (rwn out)]), (3, .box (vs 1 0) [iv s]), (11, .box (vs4 4 0) [iv fw.1.1, fv fw.1.2]), (34, .row va 2 true (cellsY L')), (35, .map vm (keysY L') (rws (L'.map (·.2))))]⟩)
      (_, _, 0, L) ⟨by simp, rfl⟩ (by simp only [Bz1w, dnL_cellsY, yzf, go_sem, yz0, Int.reduceLT, reduceLE, reduceToNat, reduceNeg, Nat.reduceLT, reduceLeDiff, reduceMul, reduceSub, reduceIte, reduceEqDiff, reduceAdd, reduceCtorEq]; try rfl) ?_
    rintro ⟨va, vm, x, L'⟩ ⟨hx, rfl⟩
    have hx : x ≤ next.length := hx
    have hI' := IdI.vis M.aut hI hlt1 x hx
    obtain ⟨t', hpre⟩ := visG_pre (δ := idN next out) (p := fw.1) (w := fw.2) x L
    have hsucc := visY_succ (next := next) (out := out) (p := fw.1) (w := fw.2) (x := x) (L := L)
    rw [hfw] at hI'
    generalize hV : visG (idN next out) fw.1 fw.2 x L = L' at hI' hpre hsucc ⊢
    have hlen' := hI'.len M.aut
    have hcl' := cellsY_len L'
    have hi2 : i < L'.length := by rw [hpre, List.length_append]; omega
    have hat : L'.getD i ((0, 0), []) = fw := by rw [hpre, appG_getD hlt1, hfw]
    by_cases hxl : (x : Int) < next.length
    · have hxl1 : x < next.length := by omega
      have w1 : IntKind.i64.wrap ((x : Int) + 1) = ((x + 1 : Nat) : Int) := by rw [w64 (by omega)]; simp
      have hxo : x < out.length := by rw [M.len]; exact hxl1
      have ra := M.aut.row _ (yzo hxl1 [])
      have qa := M.row _ (yzo hxo [])
      have za : fw.1.1 < (next.getD x []).length := by omega
      have ya : fw.1.1 < (out.getD x []).length := by omega
      have hai := ra.2 _ (yzo za 0)
      obtain ⟨q, hq'⟩ : ∃ q : Nat, (next.getD x []).getD fw.1.1 0 = q := ⟨((next.getD x []).getD fw.1.1 0).toNat, by omega⟩
      have htn : toN next fw.1.1 x = q := by unfold toN; rw [hq', Int.toNat_natCast]
      simp only [Bz1w, Bz4w, Bz94, Bz93, yz19 hxl1, yzg za, hq', dnL_cellsY, yzf, decide_eq_true hxl, go_sem, yz0, Int.reduceLT, reduceLE, reduceToNat, reduceNeg, Nat.reduceLT, reduceLeDiff, reduceMul, reduceSub, reduceIte, reduceEqDiff, reduceAdd, reduceCtorEq]
      intro vs5
      refine ⟨⟨by omega, hxl1⟩, hxl1, ⟨by omega, za⟩, za, ?_⟩
      simp only [Bz92, dnL_cellsY, yzf, go_sem, yz0, Int.reduceLT, reduceLE, reduceToNat, reduceNeg, Nat.reduceLT, reduceLeDiff, reduceMul, reduceSub, reduceIte, reduceEqDiff, reduceAdd, reduceCtorEq]
      intro vs6
      refine call_rowI (k_flock_set fw.1.2 hf10) qCS rfl ⟨_, rfl⟩ ?_
      rintro ys v rfl
      have hset : ∀ u ∈ bitsTo fw.1.2 10, 0 ≤ u ∧ u < m := fun u hu => by
        unfold bitsTo at hu
        obtain ⟨k, hk, rfl⟩ := List.mem_map.1 hu
        have := bits_lt hfi.2 (show k ∈ bitsN fw.1.2 from hk)
        omega
      have hall := idT_all (next := next) (out := out) (s := fw.1.1) (f := fw.1.2) (x := x)
      simp only [Bz8z, dnL_cellsY, yzf, go_sem, yz0, Int.reduceLT, reduceLE, reduceToNat, reduceNeg, Nat.reduceLT, reduceLeDiff, reduceMul, reduceSub, reduceIte, reduceEqDiff, reduceAdd, reduceCtorEq]
      intro hMs
      generalize hS : bitsTo fw.1.2 10 = set at hset hMs hall ⊢
      have hto : ∀ u ∈ set, toN next u.toNat x < m := fun u hu => by
        have h1 := hset u hu
        have := (toN_lt M.aut (s := u.toNat) (by omega) hxl1).1
        omega
      refine wpD_lo (fun j => set.length - j) (fun j => j ≤ set.length)
        (fun j : Nat => ⟨Go.Ab.L .any [(2, .ptr 2 (vs 0 0) 0), (8, .own 34 va), (9, .mp 35 vm), (10, iv i), (11, .ptr 11 (vs4 4 0) 0), (12, iv x), (13, .ptr 13 (vs5 10 0) 0), (57, iv next.length), (58, iv x), (73, .own 73 v), (74, iv set.length), (75, iv j)],
          Go.Ab.L .gone [(2, .box (vs 0 0) [iv m, iv o, .ro none 1 (rwn next), .ro none 1 (rwn out)]), (3, .box (vs 1 0) [iv s]), (11, .box (vs4 4 0) [iv fw.1.1, fv fw.1.2]), (13, .box (vs5 10 0) [iv q, fv ((set.take j).foldl (fun o t => othS next out fw.1.1 x o t.toNat) 0)]), (34, .row va 2 true (cellsY L')), (35, .map vm (keysY L') (rws (L'.map (·.2)))), (73, .row v 1 true (ints set))]⟩) 0 (by simp) (by simp only [Bzb, dnL_cellsY, yzf, go_sem, yz0, Int.reduceLT, reduceLE, reduceToNat, reduceNeg, Nat.reduceLT, reduceLeDiff, reduceMul, reduceSub, reduceIte, reduceEqDiff, reduceAdd, reduceCtorEq]; try rfl) ?_
      rintro j hj
      by_cases hjl : (j : Int) < set.length
      · have hjl1 : j < set.length := by omega
        have hs' := hset _ (yzo hjl1 0)
        have ht := hto _ (yzo hjl1 0)
        generalize hu : set.getD j 0 = u at hs' ht
        have hto2 : u.toNat < (out.getD x []).length := by omega
        have hta : u.toNat < (next.getD x []).length := by omega
        have hnv := ra.2 _ (yzo hta 0)
        have h1 := idT_lt (n := m) (next := next) (out := out) (s := fw.1.1) (x := x) (set.take j) (fun t ht => hto t (List.mem_of_mem_take ht))
        have w2 : IntKind.i64.wrap ((j : Int) + 1) = ((j + 1 : Nat) : Int) := by rw [w64 (by omega)]; simp
        have hstep := getD_snoc set (fun o t => othS next out fw.1.1 x o t.toNat) 0 0 hjl1
        rw [hu] at hstep
        generalize hO : (set.take j).foldl (fun o t => othS next out fw.1.1 x o t.toNat) 0 = O at h1 hstep ⊢
        by_cases he : (out.getD x []).getD u.toNat 0 = (out.getD x []).getD fw.1.1 0
        · have hbe : ((out.getD x []).getD u.toNat 0 == (out.getD x []).getD fw.1.1 0) = true := by rw [he]; simp
          obtain ⟨r, hr⟩ : ∃ r : Nat, (next.getD x []).getD u.toNat 0 = r := ⟨((next.getD x []).getD u.toNat 0).toNat, by omega⟩
          have hr10 : r < 10 := by omega
          have hr0 : ¬ ((r : Nat) : Int) < 0 := by omega
          have hsl := u_shl (b := r) (by omega)
          have hpq := Nat.pow_lt_pow_right (a := 2) (by omega) hr10
          have hor := u_orW (x := O) (y := 2 ^ r) (by omega) (by omega)
          have hsu : O ||| 2 ^ r = (set.take (j + 1)).foldl (fun o t => othS next out fw.1.1 x o t.toNat) 0 := by
            rw [← hstep]; unfold othS; rw [if_pos he, hr, Int.toNat_natCast]
          simp only [Bzb, Bzd, Bz4v, Bz4t, Bz4s, yzg hjl1, hu, yz19 hxo, yz19 hxl1, yzg hto2, yzg ya, yzg hta, hbe, hr, hr0, Int.toNat_natCast, hsl, hor, hsu, w2, decide_eq_true hjl, dnL_cellsY, yzf, go_sem, yz0, Int.reduceLT, reduceLE, reduceToNat, reduceNeg, Nat.reduceLT, reduceLeDiff, reduceMul, reduceSub, reduceIte, reduceEqDiff, reduceAdd, reduceCtorEq]
          refine ⟨⟨by omega, hjl1⟩, hjl1, ⟨by omega, hxo⟩, hxo, ⟨hs'.1, hto2⟩, hto2, ⟨by omega, hxo⟩, hxo, ⟨by omega, ya⟩, ya, ⟨by omega, hxl1⟩, hxl1, ⟨hs'.1, hta⟩, hta, ?_⟩
          simp only [Bz4u, w2, dnL_cellsY, yzf, go_sem, yz0, Int.reduceLT, reduceLE, reduceToNat, reduceNeg, Nat.reduceLT, reduceLeDiff, reduceMul, reduceSub, reduceIte, reduceEqDiff, reduceAdd, reduceCtorEq]
          exact ⟨j + 1, by omega, by omega, rfl⟩
        · have hbe : ((out.getD x []).getD u.toNat 0 == (out.getD x []).getD fw.1.1 0) = false := by simpa using he
          have hsu : O = (set.take (j + 1)).foldl (fun o t => othS next out fw.1.1 x o t.toNat) 0 := by
            rw [← hstep]; unfold othS; rw [if_neg he]
          simp only [Bzb, Bzd, Bz4v, Bz4t, Bz4s, yzg hjl1, hu, yz19 hxo, yzg hto2, yzg ya, hbe, w2, decide_eq_true hjl, dnL_cellsY, yzf, go_sem, yz0, Int.reduceLT, reduceLE, reduceToNat, reduceNeg, Nat.reduceLT, reduceLeDiff, reduceMul, reduceSub, reduceIte, reduceEqDiff, reduceAdd, reduceCtorEq]
          refine ⟨⟨by omega, hjl1⟩, hjl1, ⟨by omega, hxo⟩, hxo, ⟨hs'.1, hto2⟩, hto2, ⟨by omega, hxo⟩, hxo, ⟨by omega, ya⟩, ya, ?_⟩
          simp only [Bz4u, w2, dnL_cellsY, yzf, go_sem, yz0, Int.reduceLT, reduceLE, reduceToNat, reduceNeg, Nat.reduceLT, reduceLeDiff, reduceMul, reduceSub, reduceIte, reduceEqDiff, reduceAdd, reduceCtorEq]
          exact ⟨j + 1, by omega, by omega, by rw [← hsu]⟩
      · have : j = set.length := by omega
        subst this
        rw [List.take_length, hall]
        have hon := oth_lt (out := out) M.aut (s := fw.1.1) hfi.2 hxl1
        have htb := bit_eqY (f := othN next out fw.1.1 fw.1.2 x) (s := q)
        rw [htn] at hsucc
        have hon2 : othN next out fw.1.1 fw.1.2 x < 2 ^ m := hon
        generalize othN next out fw.1.1 fw.1.2 x = O at hsucc hon2 htb ⊢
        have hsh := u_shr (f := O) (s := q) (by omega)
        have hand := u_and1 (x := O >>> q) (Nat.lt_of_le_of_lt (by rw [Nat.shiftRight_eq_div_pow]; exact Nat.div_le_self _ _) (show O < 18446744073709551616 by omega))
        have hq0 : ¬ ((q : Nat) : Int) < 0 := by omega
        cases hh : hasG L' (q, O) with
        | true =>
          obtain ⟨k, hk1, hk2⟩ := fkY_mem 0 hh
          have hk1 : findKeyAt (.agg #[.int .i64 (q : Int), .int .u64 (O : Int)]) (keysY L') 0 = some (some (0 + k)) := hk1
          rw [hh, if_pos rfl, ite_self] at hsucc
          simp only [Bzb, Bzd, Bz1u, Bz1t, Bz1s, Bz1v, hk1, kp, w1, decide_eq_false hjl, dnL_cellsY, yzf, go_sem, yz0, Int.reduceLT, reduceLE, reduceToNat, reduceNeg, Nat.reduceLT, reduceLeDiff, reduceMul, reduceSub, reduceIte, reduceEqDiff, reduceAdd, reduceCtorEq]
          exact ⟨(_, _, x + 1, L'), by dsimp only; omega, ⟨by dsimp only; omega, hsucc.symm⟩, rfl⟩
        | false =>
          have hk1 := fkY_not 0 hh
          have hk1 : findKeyAt (.agg #[.int .i64 (q : Int), .int .u64 (O : Int)]) (keysY L') 0 = some none := hk1
          cases hb : O.testBit q with
          | true =>
            rw [hb] at htb
            rw [hb, if_pos rfl] at hsucc
            simp only [Bzb, Bzd, Bz1u, Bz1t, Bz1s, Bz1v, hk1, kp, w1, hq0, Int.toNat_natCast, hsh, hand, htb, decide_eq_false hjl, dnL_cellsY, yzf, go_sem, yz0, Int.reduceLT, reduceLE, reduceToNat, reduceNeg, Nat.reduceLT, reduceLeDiff, reduceMul, reduceSub, reduceIte, reduceEqDiff, reduceAdd, reduceCtorEq]
            exact ⟨(_, _, x + 1, L'), by dsimp only; omega, ⟨by dsimp only; omega, hsucc.symm⟩, rfl⟩
          | false =>
            rw [hb] at htb
            rw [hb, if_neg (by simp), hh, if_neg (by simp)] at hsucc
            have hk := fkY_at i 0 hI'.gi.nd hi2
            rw [hat, Nat.zero_add] at hk
            have hk : findKeyAt (.agg #[.int .i64 (fw.1.1 : Int), .int .u64 (fw.1.2 : Int)]) (keysY L') 0 = some (some i) := hk
            have hwl : i < (L'.map (·.2)).length := by simpa using hi2
            have hwg := wordsP_getD hi2
            rw [hat] at hwg
            simp only [Bzb, Bzd, Bz1u, Bz1t, Bz1s, Bz91, hk, hk1, kp, hq0, Int.toNat_natCast, hsh, hand, htb, rws_getD hwl, hwg, decide_eq_false hjl, dnL_cellsY, yzf, go_sem, yz0, Int.reduceLT, reduceLE, reduceToNat, reduceNeg, Nat.reduceLT, reduceLeDiff, reduceMul, reduceSub, reduceIte, reduceEqDiff, reduceAdd, reduceCtorEq]
            have hw' := hI'.wl _ (by rw [← hat]; exact yzo hi2 _ : fw ∈ L')
            intro vs7
            refine call_rowI (k_Clone fw.2 (by omega)) qCS qGN ⟨_, rfl⟩ ?_
            rintro xs v7 rfl
            simp only [hk1, kp, dnL_cellsY, yzf, go_sem, yz0, Int.reduceLT, reduceLE, reduceToNat, reduceNeg, Nat.reduceLT, reduceLeDiff, reduceMul, reduceSub, reduceIte, reduceEqDiff, reduceAdd, reduceCtorEq]
            refine ⟨⟨_, rfl, rfl⟩, by omega, fun r v' e => by cases e; exact ⟨_, _, _, rfl⟩, ?_⟩
            simp only [Bz90, dnL_cellsY, yzf, go_sem, yz0, Int.reduceLT, reduceLE, reduceToNat, reduceNeg, Nat.reduceLT, reduceLeDiff, reduceMul, reduceSub, reduceIte, reduceEqDiff, reduceAdd, reduceCtorEq]
            intro vs8
            refine ⟨by omega, ?_⟩
            have hcs : cellsY L' ++ [iv q, fv O] = cellsY (L' ++ [((q, O), fw.2 ++ [(x : Int)])]) := by rw [← cellsY_snoc]
            have hks : keysY L' ++ [.agg #[.int .i64 (q : Int), .int .u64 (O : Int)]] = keysY (L' ++ [((q, O), fw.2 ++ [(x : Int)])]) := by
              simp only [keysY, List.map_append, List.map_cons, List.map_nil, keyY]
            have hws : L'.map (·.2) ++ [fw.2 ++ [(x : Int)]] = (L' ++ [((q, O), fw.2 ++ [(x : Int)])]).map (·.2) := by
              simp only [List.map_append, List.map_cons, List.map_nil]
            simp only [Bz1v, w1, hcs, hks, hws, dnL_cellsY, yzf, go_sem, yz0, Int.reduceLT, reduceLE, reduceToNat, reduceNeg, Nat.reduceLT, reduceLeDiff, reduceMul, reduceSub, reduceIte, reduceEqDiff, reduceAdd, reduceCtorEq]
            exact ⟨(_, _, x + 1, L' ++ [((q, O), fw.2 ++ [(x : Int)])]), by dsimp only; omega, ⟨by dsimp only; omega, hsucc.symm⟩, rfl⟩
    · have : x = next.length := by omega
      subst this
      obtain ⟨F, hF⟩ : ∃ F, 11000 - i = F + 1 := ⟨10999 - i, by omega⟩
      have hF2 : 11000 - (i + 1) = F := by omega
      rw [hF] at hR
      simp only [runG, if_pos hlt1, hfw, hV] at hR
      have w1 : IntKind.i64.wrap ((i : Int) + 1) = ((i + 1 : Nat) : Int) := by rw [w64 (by omega)]; simp
      simp only [Bz1w, Bz4w, Bz97, w1, decide_eq_false hxl, dnL_cellsY, yzf, go_sem, yz0, Int.reduceLT, reduceLE, reduceToNat, reduceNeg, Nat.reduceLT, reduceLeDiff, reduceMul, reduceSub, reduceIte, reduceEqDiff, reduceAdd, reduceCtorEq]
      refine ⟨(_, _, i + 1, L'), by dsimp only; omega, ⟨⟨hI'.gi.succ, hI'.wl⟩, by dsimp only; omega, ?_, by dsimp only; rw [hF2]; exact hR⟩, rfl⟩
      dsimp only
      intro p hp
      have ht : L'.take (i + 1) = L.take i ++ [fw] := by
        rw [hpre, List.take_append_of_le_length (by omega), List.take_succ_eq_append_getElem hlt1, ← hfw, List.getD_eq_getElem?_getD, List.getElem?_eq_getElem hlt1]; rfl
      rw [ht] at hp
      rcases List.mem_append.1 hp with h | h
      · exact h0 p h
      · rw [List.mem_singleton.1 h]; exact hz
  · have : i = L.length := by omega
    subst this
    simp only [Bz1x, Bz4q, Bz9a, hq, decide_eq_false hlt, Az1y, ← hQ, dnL_cellsY, yzf, go_sem, yz0, Int.reduceLT, reduceLE, reduceToNat, reduceNeg, Nat.reduceLT, reduceLeDiff, reduceMul, reduceSub, reduceIte, reduceEqDiff, reduceAdd, reduceCtorEq]
    intro _
    have hend : identQ next out m s = none := by
      obtain ⟨F, hF⟩ : ∃ F, 11000 - L.length = F + 1 := ⟨10999 - L.length, by omega⟩
      rw [hF] at hR
      simp only [runG, Nat.lt_irrefl, if_false] at hR
      unfold identQ
      rw [← hR, List.find?_eq_none.2 fun p hp => by simpa using h0 p (by rw [List.take_length]; exact hp)]; rfl
    rw [hend]
    refine ⟨[], by simp, by simp, by simp, ?_⟩
    simp only [identR, Nat.not_lt_zero, range1, yzy, yz12, yz1d, yz1e, yz10, yz1f, yz1c, yz1b, yz11, yzv, yzj, yz5, yzw, yzt, yzr, yzs, yzx, yz6, yz7, yzb, yzd, yzm, yzi, yz4, yzc, yz8, yza, yzk, yzh, List.range_zero, yz2, yz3, yz9, yzu, yzn, yzq, AVal.fresh, freshL, yz1, yzl, AObj.fresh, id, Option.isSome_some, or_true, true_or, go_sem, yz0, Int.reduceLT, reduceLE, reduceToNat, reduceNeg, Nat.reduceLT, reduceLeDiff, reduceMul, reduceSub, reduceIte, reduceEqDiff, reduceAdd, reduceCtorEq]
    try simp
end Go.Ab
