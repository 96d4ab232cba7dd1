/- Contracts and what they lean on, part 9. Conditions: none. -/
import Derived.Test.YtiaoooekoffloaaZ8
set_option maxRecDepth 100000
set_option maxHeartbeats 4000000
set_option linter.all false
open Nat (reduceLeDiff reduceMul reduceSub reduceEqDiff reduceAdd)
open Int (reduceToNat reduceNeg reduceLE)
namespace Go.Ab
open Go.Proofs
def FRen (F : Int → List (Nat × List Int) → Prop) : Prop := ∀ n ps (f : Nat → Nat), (∀ x y, f x = f y → x = y) → F n ps → F n (ps.map fun p => (f p.1, p.2))
theorem New.box {vs : Nat → Nat → Nat} {U : Nat → Prop} {σ : St} {r v : Nat} {cs : List AVal} (h : New vs U σ) (hr : σ.hp r = .box v cs) (i y : Nat) : vs i y ≠ v := fun e => by
  have h1 := h.hp r
  rw [hr] at h1
  simp only [AObj.uses] at h1
  exact h.new i y (by rw [e]; exact h1.1)
theorem call_lo {P : Program} {F : Int → List (Nat × List Int) → Prop} (hF : FRen F) {σ : St} {g : FuncId} {As args : List AVal} {d : Nat} {s : Nat → Nat} {K : St → Prop} {r v : Nat} {code : List Int} {a s0 k : Int}
    (h : Con P g [.box 0 (srcC code a s0)] (.ptr 5000 0 0 :: args) true fun outs rows res => ∃ n ps v a' s', F n ps ∧ a ≤ a' ∧ a' ≤ a + k ∧ outs = [.box 0 (srcC code a' s')] ∧ rows = [.row v 1 true (rwp ps)] ∧ res = .st [iv n, .own 6000 v])
    (hr : σ.hp r = .box v (srcC code a s0)) (hs : ∀ x y, s x = s y → x = y) (hv : ∀ y, s y ≠ v) (hco : CoeL σ.hp [r] false args As) (hd : σ.hp d = .gone)
    (hk : ∀ n ps v' a' s', F n ps → a ≤ a' → a' ≤ a + k → K (St.put ⟨σ.tm, upd (upd σ.hp r (.box v (srcC code a' s'))) d (.row v' 1 true (rwp ps))⟩ (some d) (.st [iv n, .own d v']))) : wpCall P false σ g (.ptr r v 0 :: As) (some d) s K := by
  have hne : d ≠ r := fun e => by rw [e, hr] at hd; cases hd
  refine call_con (r := r) h hr (by simp only [Bool.not_true, rowIs, boxIs, coe_argN, coe_argNs, coe_ro_o, coeL_nil, yzr, coe_any, coe_val, coe_ro, coe_ro_nil, coe_ro_own, coe_st, coe_st_agg, coe_rp, coe_rp_ptr, coe_clo, coe_own0, coe_ptr0, yzz, coeL_rws, coeL_rwn, L_hit, L_miss, L_nil, reduceEqDiff, ne_eq, reduceCtorEq, not_false_eq_true, true_and, and_true, and_self, exists_eq_left, exists_eq_right, List.mem_cons, List.not_mem_nil, or_false, AObj.row.injEq, AObj.box.injEq, exists_eq_left', exists_and_left, exists_eq, Nat.zero_lt_one, Nat.lt_add_one, List.map_cons, List.map_nil, AObj.ver, Nat.reduceLT, not_true_eq_false]) (by rw [Bool.not_true, yzr, coe_ptr0, hr]; exact ⟨rfl, hco⟩) ?_
  rintro outs rows res ⟨n, ps, w, a', s', hf, h1, h2, rfl, rfl, rfl⟩
  refine ⟨rfl, by simp, by rw [Option.getD_some, yzh]; exact hd, ?_⟩
  rw [Option.getD_some, callHp_mr hne]
  have hi := sv_inj (hp := σ.hp) (r := r) hr hs hv
  have h0 : sv σ.hp [r] s 0 = v := sv_m hr
  simp only [yzo, yzn, renL_rwp, renL_flat _ flat_srcC, ren_st, yzg, yzp, yzx, List.length_singleton, yz4, h0]
  exact hk n _ _ a' s' (hF n ps _ hi hf) h1 h2
theorem call_lo0 {P : Program} {F : Int → List (Nat × List Int) → Prop} (hF : FRen F) {σ : St} {g : FuncId} {As args : List AVal} {d : Nat} {s : Nat → Nat} {K : St → Prop}
    (h : Con P g [] args true fun outs rows res => outs = [] ∧ ∃ n v ps, F n ps ∧ rows = [.row v 1 true (rwp ps)] ∧ res = .st [iv n, .own 6000 v])
    (hs : ∀ x y, s x = s y → x = y) (hco : CoeL σ.hp [] false args As) (hd : σ.hp d = .gone)
    (hk : ∀ n ps v', F n ps → K (St.put ⟨σ.tm, upd σ.hp d (.row v' 1 true (rwp ps))⟩ (some d) (.st [iv n, .own d v']))) : wpCall P false σ g As (some d) s K := by
  refine call_sh h hco (fun e => by cases e) ?_
  rintro outs rows res ⟨rfl, n, w, ps, hf, rfl, rfl⟩
  refine ⟨rfl, by simp, by rw [Option.getD_some, yzh]; exact hd, ?_⟩
  rw [Option.getD_some, yz6]
  simp only [yzn, renL_rwp, ren_st, yzg, yzp, yzx, List.length_singleton, yz4]
  exact hk n _ _ (hF n ps _ hs hf)
theorem call_lo2 {P : Program} {F : Int → List (Nat × List Int) → Prop} (hF : FRen F) {σ : St} {g : FuncId} {As args : List AVal} {d : Nat} {s : Nat → Nat} {K : St → Prop} {r v : Nat} {code : List Int} {a s0 k : Int}
    (h : Con P g [.box 0 (srcC code a s0)] (.ptr 5000 0 0 :: args) true fun outs rows res => ∃ n ps v w xs a' s', F n ps ∧ a ≤ a' ∧ a' ≤ a + k ∧ outs = [.box 0 (srcC code a' s')] ∧ rows = [.row v 1 true (rwp ps), .row w 1 true (ints xs)] ∧ res = .tup [.st [iv n, .own 6000 v], .own 6001 w])
    (hr : σ.hp r = .box v (srcC code a s0)) (hs : ∀ x y, s x = s y → x = y) (hv : ∀ y, s y ≠ v) (hco : CoeL σ.hp [r] false args As) (hd : σ.hp d = .gone) (hd2 : σ.hp (d + 1000) = .gone)
    (hk : ∀ n ps v' w' xs a' s', F n ps → a ≤ a' → a' ≤ a + k → K (St.put ⟨σ.tm, upd (upd (upd σ.hp r (.box v (srcC code a' s'))) d (.row v' 1 true (rwp ps))) (d + 1000) (.row w' 1 true (ints xs))⟩ (some d) (.tup [.st [iv n, .own d v'], .own (d + 1000) w']))) : wpCall P false σ g (.ptr r v 0 :: As) (some d) s K := by
  have hne : d ≠ r := fun e => by rw [e, hr] at hd; cases hd
  have hne2 : d + 1000 ≠ r := fun e => by rw [e, hr] at hd2; cases hd2
  refine call_con (r := r) h hr (by simp only [Bool.not_true, rowIs, boxIs, coe_argN, coe_argNs, coe_ro_o, coeL_nil, yzr, coe_any, coe_val, coe_ro, coe_ro_nil, coe_ro_own, coe_st, coe_st_agg, coe_rp, coe_rp_ptr, coe_clo, coe_own0, coe_ptr0, yzz, coeL_rws, coeL_rwn, L_hit, L_miss, L_nil, reduceEqDiff, ne_eq, reduceCtorEq, not_false_eq_true, true_and, and_true, and_self, exists_eq_left, exists_eq_right, List.mem_cons, List.not_mem_nil, or_false, AObj.row.injEq, AObj.box.injEq, exists_eq_left', exists_and_left, exists_eq, Nat.zero_lt_one, Nat.lt_add_one, List.map_cons, List.map_nil, AObj.ver, Nat.reduceLT, not_true_eq_false]) (by rw [Bool.not_true, yzr, coe_ptr0, hr]; exact ⟨rfl, hco⟩) ?_
  rintro outs rows res ⟨n, ps, w, w2, xs, a', s', hf, h1, h2, rfl, rfl, rfl⟩
  refine ⟨rfl, by simp, by rw [Option.getD_some, yzs]; exact ⟨hd, hd2⟩, ?_⟩
  rw [Option.getD_some, callHp_mrr hne hne2]
  have hi := sv_inj (hp := σ.hp) (r := r) hr hs hv
  have h0 : sv σ.hp [r] s 0 = v := sv_m hr
  have e2 : ([AObj.row w 1 true (rwp ps), AObj.row w2 1 true (ints xs)] : List AObj).length = 2 := rfl
  simp only [yzo, yzn, renL_rwp, renL_flat _ flat_srcC, ren_st, ren_tup, yzg, yzp, yz5, yzx, e2, yz4, yz8, h0]
  exact hk n _ _ _ xs a' s' (hF n ps _ hi hf) h1 h2
def FAut (m : Int) (n : Int) (ps : List (Nat × List Int)) : Prop := Aut n (ps.map (·.2)) ∧ DJ ps ∧ n ≤ m
def FLo (n : Int) (ps : List (Nat × List Int)) : Prop := (ps.length ≤ 3 → DJ ps) ∧ ps.length ≤ 10 ∧ -1 ≤ n ∧ n ≤ 11 ∧ ∀ p ∈ ps, p.2.length ≤ 10
theorem map_named {ps : List (Nat × List Int)} {f : Nat → Nat} : (ps.map fun p => (f p.1, p.2)).map (·.2) = ps.map (·.2) := by rw [List.map_map]; rfl
theorem FAut_ren (m : Int) : FRen (FAut m) := by
  rintro n ps f hf ⟨h1, h2, h3⟩
  exact ⟨by rw [map_named]; exact h1, h2.ren hf, h3⟩
theorem FLo_ren : FRen FLo := by
  rintro n ps f hf ⟨h1, h2, h3, h4, h5⟩
  refine ⟨fun h => (h1 (by simpa using h)).ren hf, by simpa using h2, h3, h4, fun p hp => ?_⟩
  obtain ⟨q, hq, rfl⟩ := List.mem_map.1 hp
  exact h5 q hq
theorem FAut.lo {m n : Int} {ps : List (Nat × List Int)} (h : FAut m n ps) : FLo n ps := by
  obtain ⟨A, hd, hm⟩ := h
  have n1 := A.n1
  have n2 := A.n2
  have l2 := A.l2
  rw [List.length_map] at l2
  exact ⟨fun _ => hd, by omega, by omega, by omega, fun p hp => by have := (A.row p.2 (List.mem_map.2 ⟨p, hp, rfl⟩)).1; omega⟩
theorem DJ_refrozen {A2 C2 : List (Nat × List Int)} {b : Nat × List Int} {m : Nat} {cur : List Int} (hd : DJ (A2 ++ b :: C2))
    (hf : ∀ n k'' cs'', AVal.ro (some (some (n + 1))) k'' cs'' ∈ rwp A2 ++ AVal.own 901 m :: rwp C2 → cs'' ≠ [] → n ≠ m) : DJ (A2 ++ (m, cur) :: C2) := DJ_in hd fun p hp => by
  by_cases e : p.2 = []
  · exact .inl e
  · refine .inr (hf p.1 1 (ints p.2) ?_ (by simpa using e))
    rcases List.mem_append.1 hp with h | h
    · exact List.mem_append.2 (.inl (List.mem_map.2 ⟨p, h, rfl⟩))
    · exact List.mem_append.2 (.inr (List.mem_cons.2 (.inr (List.mem_map.2 ⟨p, h, rfl⟩))))
theorem Aut_put {n : Int} {A2 C2 : List (Nat × List Int)} {b : Nat × List Int} {u : Nat} {cur : List Int} (A : Aut n ((A2 ++ b :: C2).map (·.2))) (hl : cur.length = b.2.length) (hm : ∀ x ∈ cur, 0 ≤ x ∧ x < n) : Aut n ((A2 ++ (u, cur) :: C2).map (·.2)) := by
  have l1 := A.l1
  have l2 := A.l2
  have hbr := A.row b.2 (by simp)
  refine ⟨A.n1, A.n2, by rw [List.length_map] at l1 ⊢; simpa using l1, by rw [List.length_map] at l2 ⊢; simpa using l2, fun row hr => ?_⟩
  rw [List.map_append, List.map_cons, List.mem_append, List.mem_cons] at hr
  rcases hr with h | h | h
  · exact A.row row (by rw [List.map_append]; exact List.mem_append.2 (.inl h))
  · rw [h]; exact ⟨by dsimp only; omega, hm⟩
  · exact A.row row (by rw [List.map_append, List.map_cons]; exact List.mem_append.2 (.inr (List.mem_cons_of_mem _ h)))
theorem k_l02Drawn (code : List Int) (at_ seed : Int) (hb : ∀ x ∈ code, 0 ≤ x ∧ x ≤ 255) (ha : 0 ≤ at_ ∧ at_ ≤ 10000) :
    Con Try.prog nz2k [.box 0 (srcC code at_ seed)] [.ptr 5000 0 0] true fun outs rows res => ∃ n ps v a' s', FLo n ps ∧ at_ ≤ a' ∧ a' ≤ at_ + 5000 ∧ outs = [.box 0 (srcC code a' s')] ∧ rows = [.row v 1 true (rwp ps)] ∧ res = .st [iv n, .own 6000 v] := by
  refine con_sh mixed czdj rfl (by simp) ?_
  generalize hQ : finQ _ = Q
  simp only [Az7, Bz9b, yz3, yz1, go_sem, yz0, Int.reduceLT, reduceLE, reduceToNat, reduceNeg, Nat.reduceLT, reduceLeDiff, reduceMul, reduceSub, reduceIte, reduceEqDiff, reduceAdd, reduceCtorEq]
  intro vs0 U0 hN0 vs1 U1 hN1
  refine call_funB (k_pick code at_ seed 6 hb (by omega)) rfl qCS qCS ?_
  rintro cs' x ⟨a1, s1, b1, rfl, g1, g2, rfl, g3, g4⟩
  by_cases k0 : b1 = 0
  · subst k0
    simp only [Bzp, Bzo, beq_self_eq_true, yz3, yz1, go_sem, yz0, Int.reduceLT, reduceLE, reduceToNat, reduceNeg, Nat.reduceLT, reduceLeDiff, reduceMul, reduceSub, reduceIte, reduceEqDiff, reduceAdd, reduceCtorEq]
    intro vs2 U2 hN2 vs3 U3 hN3
    refine call_funB (k_pick code a1 s1 6 hb (by omega)) rfl qCS qCS ?_
    rintro cs' x ⟨a2, s2, b2, rfl, g5, g6, rfl, g7, g8⟩
    have w1 : IntKind.i64.wrap (2 + b2) = 2 + b2 := w64 (by omega)
    simp only [w1, yz3, yz1, go_sem, yz0, Int.reduceLT, reduceLE, reduceToNat, reduceNeg, Nat.reduceLT, reduceLeDiff, reduceMul, reduceSub, reduceIte, reduceEqDiff, reduceAdd, reduceCtorEq]
    refine call_lo0 (FAut_ren 10) (Con.mono (k_l02SlowN (2 + b2) (by omega)) ?_) (fun x y e => (hN3.inj _ _ _ _ e).2) qCS qGN ?_
    · rintro outs rows res ⟨h1, v, ps, h2, h3, h4, h5⟩
      exact ⟨h1, _, v, ps, ⟨h2, h3, by omega⟩, h4, h5⟩
    intro n ps v' hf
    simp only [← hQ, Az7, yz3, yz1, go_sem, yz0, Int.reduceLT, reduceLE, reduceToNat, reduceNeg, Nat.reduceLT, reduceLeDiff, reduceMul, reduceSub, reduceIte, reduceEqDiff, reduceAdd, reduceCtorEq]
    refine ⟨[14], by simp, by simp, by simp, ?_⟩
    simp only [range1, List.length_singleton, renL_rwp, Nat.not_lt_zero, range1, yzx, ren_any, ren_ro, rnNm_n, rnNm_sn, rnNm_o, rnNm_s, ren_st, ren_tup, yzp, yzg, yz5, yzu, yzv, yzo, yzn, yzw, yzb, yzd, yzc, yz9, yzm, yzk, yz4, yz8, yza, yzf, yzl, yzj, List.range_zero, yz7, yz6, yze, yzt, yzh, yzs, AVal.fresh, freshL, yz2, yzi, AObj.fresh, id, Option.isSome_some, or_true, true_or, go_sem, yz0, Int.reduceLT, reduceLE, reduceToNat, reduceNeg, Nat.reduceLT, reduceLeDiff, reduceMul, reduceSub, reduceIte, reduceEqDiff, reduceAdd, reduceCtorEq]
    exact ⟨n, ps, v', a2, s2, hf.lo, by omega, by omega, rfl, by simp, rfl⟩
  by_cases k1 : b1 = 1
  · subst k1
    simp only [beq_false_of_ne (show (1 : Int) ≠ 0 by omega), Bzp, Bzo, Bz1u, beq_self_eq_true, yz3, yz1, go_sem, yz0, Int.reduceLT, reduceLE, reduceToNat, reduceNeg, Nat.reduceLT, reduceLeDiff, reduceMul, reduceSub, reduceIte, reduceEqDiff, reduceAdd, reduceCtorEq]
    intro vs2 U2 hN2 vs3 U3 hN3 vs4 U4 hN4
    refine call_lo2 (k := 2000) (FAut_ren 10) (Con.mono (k_l01Alike code a1 s1 hb (by omega)) ?_) rfl (fun x y e => (hN4.inj _ _ _ _ e).2) (hN4.box (r := 5000) rfl 1) qCS qGN qGN ?_
    · rintro outs rows res ⟨n, ps, v, w, xs, a', s', h1, h2, h3, h4, h5, h6⟩
      exact ⟨n, ps, v, w, xs, a', s', ⟨h1, h2, by omega⟩, h4, h5, h6⟩
    intro n ps v' w' xs a2 s2 hf h1 h2
    simp only [yz3, yz1, go_sem, yz0, Int.reduceLT, reduceLE, reduceToNat, reduceNeg, Nat.reduceLT, reduceLeDiff, reduceMul, reduceSub, reduceIte, reduceEqDiff, reduceAdd, reduceCtorEq]
    simp only [Bz97, ← hQ, Az7, yz3, yz1, go_sem, yz0, Int.reduceLT, reduceLE, reduceToNat, reduceNeg, Nat.reduceLT, reduceLeDiff, reduceMul, reduceSub, reduceIte, reduceEqDiff, reduceAdd, reduceCtorEq]
    intro vs5 U5 hN5
    refine ⟨[19], by simp, by simp, by simp, ?_⟩
    simp only [range1, List.length_singleton, renL_rwp, Nat.not_lt_zero, range1, yzx, ren_any, ren_ro, rnNm_n, rnNm_sn, rnNm_o, rnNm_s, ren_st, ren_tup, yzp, yzg, yz5, yzu, yzv, yzo, yzn, yzw, yzb, yzd, yzc, yz9, yzm, yzk, yz4, yz8, yza, yzf, yzl, yzj, List.range_zero, yz7, yz6, yze, yzt, yzh, yzs, AVal.fresh, freshL, yz2, yzi, AObj.fresh, id, Option.isSome_some, or_true, true_or, go_sem, yz0, Int.reduceLT, reduceLE, reduceToNat, reduceNeg, Nat.reduceLT, reduceLeDiff, reduceMul, reduceSub, reduceIte, reduceEqDiff, reduceAdd, reduceCtorEq]
    exact ⟨n, ps, v', a2, s2, hf.lo, by omega, by omega, rfl, by simp, rfl⟩
  by_cases k2 : b1 = 2
  · subst k2
    simp only [beq_false_of_ne (show (2 : Int) ≠ 0 by omega), beq_false_of_ne (show (2 : Int) ≠ 1 by omega), Bzp, Bzo, Bz1u, Bz41, beq_self_eq_true, yz3, yz1, go_sem, yz0, Int.reduceLT, reduceLE, reduceToNat, reduceNeg, Nat.reduceLT, reduceLeDiff, reduceMul, reduceSub, reduceIte, reduceEqDiff, reduceAdd, reduceCtorEq]
    intro vs2 U2 hN2 vs3 U3 hN3 vs4 U4 hN4 vs5 U5 hN5
    refine call_lo (k := 3000) FLo_ren (Con.mono (k_l01Bent code a1 s1 hb (by omega)) ?_) rfl (fun x y e => (hN5.inj _ _ _ _ e).2) (hN5.box (r := 5000) rfl 1) qCS qGN ?_
    · rintro outs rows res ⟨n, ps, v, a', s', h1, h2, h3, h4, h5, h6⟩
      exact ⟨n, ps, v, a', s', ⟨h1, h2, h3, h4, h5⟩, h6⟩
    intro n ps v' a2 s2 hf h1 h2
    simp only [← hQ, Az7, yz3, yz1, go_sem, yz0, Int.reduceLT, reduceLE, reduceToNat, reduceNeg, Nat.reduceLT, reduceLeDiff, reduceMul, reduceSub, reduceIte, reduceEqDiff, reduceAdd, reduceCtorEq]
    refine ⟨[26], by simp, by simp, by simp, ?_⟩
    simp only [range1, List.length_singleton, renL_rwp, Nat.not_lt_zero, range1, yzx, ren_any, ren_ro, rnNm_n, rnNm_sn, rnNm_o, rnNm_s, ren_st, ren_tup, yzp, yzg, yz5, yzu, yzv, yzo, yzn, yzw, yzb, yzd, yzc, yz9, yzm, yzk, yz4, yz8, yza, yzf, yzl, yzj, List.range_zero, yz7, yz6, yze, yzt, yzh, yzs, AVal.fresh, freshL, yz2, yzi, AObj.fresh, id, Option.isSome_some, or_true, true_or, go_sem, yz0, Int.reduceLT, reduceLE, reduceToNat, reduceNeg, Nat.reduceLT, reduceLeDiff, reduceMul, reduceSub, reduceIte, reduceEqDiff, reduceAdd, reduceCtorEq]
    exact ⟨n, ps, v', a2, s2, hf, by omega, by omega, rfl, by simp, rfl⟩
  simp only [beq_false_of_ne k0, beq_false_of_ne k1, beq_false_of_ne k2, Bzp, Bzo, Bz1u, Bz41, Bz9a, yz3, yz1, go_sem, yz0, Int.reduceLT, reduceLE, reduceToNat, reduceNeg, Nat.reduceLT, reduceLeDiff, reduceMul, reduceSub, reduceIte, reduceEqDiff, reduceAdd, reduceCtorEq]
  intro vs2 U2 hN2 vs3 U3 hN3 vs4 U4 hN4 vs5 U5 hN5
  refine call_lo (k := 1000) (FAut_ren 6) (Con.mono (k_DrawnN code a1 s1 6 hb (by omega) (by omega)) ?_) rfl (fun x y e => (hN5.inj _ _ _ _ e).2) (hN5.box (r := 5000) rfl 1) qCS qGN ?_
  · rintro outs rows res ⟨n, ps, v, a', s', h1, h2, h3, h4, h5, h6⟩
    exact ⟨n, ps, v, a', s', ⟨h1, h2, h3⟩, h4, h5, h6⟩
  intro n ps v' a2 s2 hf h1 h2
  simp only [Bz99, yz3, yz1, go_sem, yz0, Int.reduceLT, reduceLE, reduceToNat, reduceNeg, Nat.reduceLT, reduceLeDiff, reduceMul, reduceSub, reduceIte, reduceEqDiff, reduceAdd, reduceCtorEq]
  intro vs6 U6 hN6
  refine call_funB (k_one code a2 s2 2 hb (by omega)) rfl qCS qCS ?_
  rintro cs' x ⟨a3, s3, b3, rfl, g5, g6, rfl⟩
  obtain ⟨A, hdj, hn6⟩ := hf
  have l1 := A.l1
  have l2 := A.l2
  have n1 := A.n1
  have n2 := A.n2
  rw [List.length_map] at l1 l2
  have hend : ∀ (σ : St) (v2 v5 : Nat) (ps : List (Nat × List Int)) (a s : Int), FLo n ps → at_ ≤ a ∧ a ≤ at_ + 5000 →
      σ.keep [2, 5] [2, 3, 5, 14, 19, 26, 28, 1019, 5000, 901] = ⟨L .any [(2, .ptr 2 v2 0), (5, .ptr 5 v5 0)],
        L .gone [(2, .box v2 [iv 0, .val (.slice none 0 0)]), (3, .gone), (5, .box v5 [iv n, .own 28 v']), (14, .gone), (19, .gone), (26, .gone), (28, .row v' 1 true (rwp ps)), (1019, .gone), (5000, .box 0 (srcC code a s)), (901, .gone)]⟩ →
      wpD Try.prog Bz1v Q σ := by
    intro σ v2 v5 ps a s hf ha' hS
    unfold Bz1v
    rw [yz3, hS]
    simp only [wpD_gh]
    intro _
    refine ⟨[], ?_⟩
    simp only [gwp_nil, yz3, yz1, go_sem, yz0, Int.reduceLT, reduceLE, reduceToNat, reduceNeg, Nat.reduceLT, reduceLeDiff, reduceMul, reduceSub, reduceIte, reduceEqDiff, reduceAdd, reduceCtorEq]
    intro vs U hN
    simp only [← hQ, Az7, go_sem, yz0, Int.reduceLT, reduceLE, reduceToNat, reduceNeg, Nat.reduceLT, reduceLeDiff, reduceMul, reduceSub, reduceIte, reduceEqDiff, reduceAdd, reduceCtorEq]
    refine ⟨[28], by simp, by simp, by simp, ?_⟩
    simp only [range1, List.length_singleton, renL_rwp, Nat.not_lt_zero, range1, yzx, ren_any, ren_ro, rnNm_n, rnNm_sn, rnNm_o, rnNm_s, ren_st, ren_tup, yzp, yzg, yz5, yzu, yzv, yzo, yzn, yzw, yzb, yzd, yzc, yz9, yzm, yzk, yz4, yz8, yza, yzf, yzl, yzj, List.range_zero, yz7, yz6, yze, yzt, yzh, yzs, AVal.fresh, freshL, yz2, yzi, AObj.fresh, id, Option.isSome_some, or_true, true_or, go_sem, yz0, Int.reduceLT, reduceLE, reduceToNat, reduceNeg, Nat.reduceLT, reduceLeDiff, reduceMul, reduceSub, reduceIte, reduceEqDiff, reduceAdd, reduceCtorEq]
    exact ⟨n, ps, v', a, s, hf, ha'.1, ha'.2, rfl, by simp, rfl⟩
  cases b3 with
  | false =>
    simp only [Bz42, yz3, yz1, go_sem, yz0, Int.reduceLT, reduceLE, reduceToNat, reduceNeg, Nat.reduceLT, reduceLeDiff, reduceMul, reduceSub, reduceIte, reduceEqDiff, reduceAdd, reduceCtorEq]
    exact hend _ (vs0 0 0) (vs5 2 0) ps a3 s3 (FAut.lo ⟨A, hdj, hn6⟩) (by omega) (by simp only [go_sem, yz0, Int.reduceLT, reduceLE, reduceToNat, reduceNeg, Nat.reduceLT, reduceLeDiff, reduceMul, reduceSub, reduceIte, reduceEqDiff, reduceAdd, reduceCtorEq]; try rfl)
  | true =>
    simp only [Bz42, rwp_len, yz3, yz1, go_sem, yz0, Int.reduceLT, reduceLE, reduceToNat, reduceNeg, Nat.reduceLT, reduceLeDiff, reduceMul, reduceSub, reduceIte, reduceEqDiff, reduceAdd, reduceCtorEq]
    intro vs7 U7 hN7 hM7
    refine call_funB (k_pick code a3 s3 ps.length hb (by omega)) rfl qCS qCS ?_
    rintro cs' x ⟨a4, s4, x0, rfl, g7, g8, rfl, g9, g10⟩
    have hat : x0.toNat < ps.length := by omega
    obtain ⟨A2, b, C2, rfl, hAk⟩ := rwp_split hat
    have hbr := A.row b.2 (by simp)
    have hbn : b.2 ≠ [] := fun e => by rw [e] at hbr; simp at hbr; omega
    have F0a := DJ_out hdj hbn
    simp only [Bz98, yz3, wpD_gh, go_sem, yz0, Int.reduceLT, reduceLE, reduceToNat, reduceNeg, Nat.reduceLT, reduceLeDiff, reduceMul, reduceSub, reduceIte, reduceEqDiff, reduceAdd, reduceCtorEq]
    intro _
    refine ⟨[.thaw 28 x0.toNat 901], gwp_thaw (n := b.1) rfl (rwp_get hAk.symm) (by simpa using hbn) rfl fun m1 => ?_⟩
    have hset : (woL b.1 (rwp (A2 ++ b :: C2))).set x0.toNat (AVal.own 901 m1) = rwp A2 ++ AVal.own 901 m1 :: rwp C2 := by rw [← hAk]; exact woL_set F0a
    have ho1 : (rwp A2 ++ AVal.own 901 m1 :: rwp C2).getD x0.toNat .any = .own 901 m1 := own_at hAk.symm
    have hol : (rwp A2 ++ AVal.own 901 m1 :: rwp C2).length = A2.length + (C2.length + 1) := by rw [List.length_append, List.length_cons, rwp_len, rwp_len]
    have hkl : x0.toNat < (rwp A2 ++ AVal.own 901 m1 :: rwp C2).length := by omega
    simp only [hset, woT, woO, woL_cons, woL_nil, woV_val, woV_own, wo_ptr, wo_o, woL_ints, wo_st, woO_row, woO_box, woO_gone, wo_any, gwp_nil, yz3, yz1, go_sem, yz0, Int.reduceLT, reduceLE, reduceToNat, reduceNeg, Nat.reduceLT, reduceLeDiff, reduceMul, reduceSub, reduceIte, reduceEqDiff, reduceAdd, reduceCtorEq]
    intro vs8 U8 hN8
    simp only [ho1, go_sem, yz0, Int.reduceLT, reduceLE, reduceToNat, reduceNeg, Nat.reduceLT, reduceLeDiff, reduceMul, reduceSub, reduceIte, reduceEqDiff, reduceAdd, reduceCtorEq]
    refine ⟨⟨g9, hkl⟩, hkl, ?_⟩
    refine call_funBN (k_pick code a4 s4 n hb (by omega)) rfl (by simp) qCS qCS ⟨srcC code a4 0, .int .i64 0, ⟨a4, 0, 0, rfl, by omega, by omega, rfl, by omega, .inr rfl⟩, flat_srcC⟩ ?_
    rintro cs' x ⟨a5, s5, y1, rfl, p1, p2, rfl, p3, p4⟩
    have hy1 : y1.toNat < b.2.length := by omega
    simp only [ho1, yz3, yz1, go_sem, yz0, Int.reduceLT, reduceLE, reduceToNat, reduceNeg, Nat.reduceLT, reduceLeDiff, reduceMul, reduceSub, reduceIte, reduceEqDiff, reduceAdd, reduceCtorEq]
    refine ⟨⟨g9, hkl⟩, hkl, ?_⟩
    refine call_funBN (k_pick code a5 s5 n hb (by omega)) rfl (by simp) qCS qCS ⟨srcC code a5 0, .int .i64 0, ⟨a5, 0, 0, rfl, by omega, by omega, rfl, by omega, .inr rfl⟩, flat_srcC⟩ ?_
    rintro cs' x ⟨a6, s6, y2, rfl, p5, p6, rfl, p7, p8⟩
    have hy2 : y2.toNat < b.2.length := by omega
    simp only [yzy hy2, yz3, yz1, go_sem, yz0, Int.reduceLT, reduceLE, reduceToNat, reduceNeg, Nat.reduceLT, reduceLeDiff, reduceMul, reduceSub, reduceIte, reduceEqDiff, reduceAdd, reduceCtorEq]
    refine ⟨⟨p7, hy2⟩, hy2, ⟨p3, hy1⟩, hy1, ?_⟩
    have hcl := lput_len (xs := b.2) (v := b.2.getD y2.toNat 0) hy1
    have hcm := lput_mem (xs := b.2) (i := y1.toNat) (v := b.2.getD y2.toNat 0) (Q := fun z => 0 ≤ z ∧ z < n) hbr.2 (hbr.2 _ (getD_mem hy2 0))
    simp only [ints_put]
    generalize hcu : b.2.take y1.toNat ++ [b.2.getD y2.toNat 0] ++ b.2.drop (y1.toNat + 1) = cur at hcl hcm ⊢
    simp only [Bz1v, yz3, wpD_gh, go_sem, yz0, Int.reduceLT, reduceLE, reduceToNat, reduceNeg, Nat.reduceLT, reduceLeDiff, reduceMul, reduceSub, reduceIte, reduceEqDiff, reduceAdd, reduceCtorEq]
    intro hD
    refine ⟨[.rf 28 x0.toNat 901], gwp_rf (k := 1) (nn := true) rfl (own_get hAk.symm) (by decide) rfl fun hf => ?_⟩
    have D1 := DJ_refrozen hdj hf (cur := cur)
    have A1 := Aut_put A (u := m1) hcl hcm
    have hset4 : ∀ X : AVal, (rwp A2 ++ AVal.own 901 m1 :: rwp C2).set x0.toNat X = rwp A2 ++ X :: rwp C2 := fun X => by
      rw [← hAk, List.set_append_right _ _ (by rw [rwp_len]; exact Nat.le_refl _), rwp_len, Nat.sub_self]; rfl
    simp only [hset4, frNm_t, rwp_cat, gwp_nil, yz3, yz1, go_sem, yz0, Int.reduceLT, reduceLE, reduceToNat, reduceNeg, Nat.reduceLT, reduceLeDiff, reduceMul, reduceSub, reduceIte, reduceEqDiff, reduceAdd, reduceCtorEq]
    intro vs9 U9 hN9
    simp only [← hQ, Az7, go_sem, yz0, Int.reduceLT, reduceLE, reduceToNat, reduceNeg, Nat.reduceLT, reduceLeDiff, reduceMul, reduceSub, reduceIte, reduceEqDiff, reduceAdd, reduceCtorEq]
    refine ⟨[28], by simp, by simp, by simp, ?_⟩
    simp only [range1, List.length_singleton, renL_rwp, Nat.not_lt_zero, range1, yzx, ren_any, ren_ro, rnNm_n, rnNm_sn, rnNm_o, rnNm_s, ren_st, ren_tup, yzp, yzg, yz5, yzu, yzv, yzo, yzn, yzw, yzb, yzd, yzc, yz9, yzm, yzk, yz4, yz8, yza, yzf, yzl, yzj, List.range_zero, yz7, yz6, yze, yzt, yzh, yzs, AVal.fresh, freshL, yz2, yzi, AObj.fresh, id, Option.isSome_some, or_true, true_or, go_sem, yz0, Int.reduceLT, reduceLE, reduceToNat, reduceNeg, Nat.reduceLT, reduceLeDiff, reduceMul, reduceSub, reduceIte, reduceEqDiff, reduceAdd, reduceCtorEq]
    exact ⟨n, A2 ++ (m1, cur) :: C2, v', a6, s6, FAut.lo ⟨A1, D1, hn6⟩, by omega, by omega, rfl, by simp, rfl⟩
theorem k_l03Linked (code : List Int) (at_ seed : Int) (hb : ∀ x ∈ code, 0 ≤ x ∧ x ≤ 255) (ha : 0 ≤ at_ ∧ at_ ≤ 1000) :
    Con Try.prog nzy [.box 0 (srcC code at_ seed)] [.ptr 5000 0 0] true fun outs rows res => ∃ n ps v a' s', FLo n ps ∧ at_ ≤ a' ∧ a' ≤ at_ + 6000 ∧ outs = [.box 0 (srcC code a' s')] ∧ rows = [.row v 1 true (rwp ps)] ∧ res = .st [iv n, .own 6000 v] := by
  refine con_sh mixed czd3 rfl (by simp) ?_
  generalize hQ : finQ _ = Q
  simp only [Az1m, Bz7i, yz3, yz1, go_sem, yz0, Int.reduceLT, reduceLE, reduceToNat, reduceNeg, Nat.reduceLT, reduceLeDiff, reduceMul, reduceSub, reduceIte, reduceEqDiff, reduceAdd, reduceCtorEq]
  intro vs0 U0 hN0 vs1 U1 hN1
  refine call_lo (k := 5000) FLo_ren (k_l02Drawn code at_ seed hb (by omega)) rfl (fun x y e => (hN1.inj _ _ _ _ e).2) (hN1.box (r := 5000) rfl 1) qCS qGN ?_
  intro n ps v' a1 s1 hf h1 h2
  have hend : ∀ (σ : St) (v2 v3 : Nat) (a s : Int), at_ ≤ a ∧ a ≤ at_ + 6000 →
      σ.keep [2, 3] [2, 3, 6, 5000, 901] = ⟨L .any [(2, .ptr 2 v2 0), (3, .ptr 3 v3 0)],
        L .gone [(2, .box v2 [iv 0, .val (.slice none 0 0)]), (3, .box v3 [iv n, .own 6 v']), (6, .row v' 1 true (rwp ps)), (5000, .box 0 (srcC code a s)), (901, .gone)]⟩ →
      wpD Try.prog Bz1l Q σ := by
    intro σ v2 v3 a s ha' hS
    unfold Bz1l
    rw [yz3, hS]
    simp only [wpD_gh]
    intro _
    refine ⟨[], ?_⟩
    simp only [gwp_nil, yz3, yz1, go_sem, yz0, Int.reduceLT, reduceLE, reduceToNat, reduceNeg, Nat.reduceLT, reduceLeDiff, reduceMul, reduceSub, reduceIte, reduceEqDiff, reduceAdd, reduceCtorEq]
    intro vs U hN
    simp only [← hQ, Az1m, go_sem, yz0, Int.reduceLT, reduceLE, reduceToNat, reduceNeg, Nat.reduceLT, reduceLeDiff, reduceMul, reduceSub, reduceIte, reduceEqDiff, reduceAdd, reduceCtorEq]
    refine ⟨[6], by simp, by simp, by simp, ?_⟩
    simp only [range1, List.length_singleton, renL_rwp, Nat.not_lt_zero, range1, yzx, ren_any, ren_ro, rnNm_n, rnNm_sn, rnNm_o, rnNm_s, ren_st, ren_tup, yzp, yzg, yz5, yzu, yzv, yzo, yzn, yzw, yzb, yzd, yzc, yz9, yzm, yzk, yz4, yz8, yza, yzf, yzl, yzj, List.range_zero, yz7, yz6, yze, yzt, yzh, yzs, AVal.fresh, freshL, yz2, yzi, AObj.fresh, id, Option.isSome_some, or_true, true_or, go_sem, yz0, Int.reduceLT, reduceLE, reduceToNat, reduceNeg, Nat.reduceLT, reduceLeDiff, reduceMul, reduceSub, reduceIte, reduceEqDiff, reduceAdd, reduceCtorEq]
    exact ⟨n, ps, v', a, s, hf, ha'.1, ha'.2, rfl, by simp, rfl⟩
  simp only [Bz7h, yz3, yz1, go_sem, yz0, Int.reduceLT, reduceLE, reduceToNat, reduceNeg, Nat.reduceLT, reduceLeDiff, reduceMul, reduceSub, reduceIte, reduceEqDiff, reduceAdd, reduceCtorEq]
  intro vs2 U2 hN2
  refine yzq (k_l01Ok n (ps.map (·.2))) (by simp only [coeL_rwp_t, rowIs, boxIs, coe_argN, coe_argNs, coe_ro_o, coeL_nil, yzr, coe_any, coe_val, coe_ro, coe_ro_nil, coe_ro_own, coe_st, coe_st_agg, coe_rp, coe_rp_ptr, coe_clo, coe_own0, coe_ptr0, yzz, coeL_rws, coeL_rwn, L_hit, L_miss, L_nil, reduceEqDiff, ne_eq, reduceCtorEq, not_false_eq_true, true_and, and_true, and_self, exists_eq_left, exists_eq_right, List.mem_cons, List.not_mem_nil, or_false, AObj.row.injEq, AObj.box.injEq, exists_eq_left', exists_and_left, exists_eq, Nat.zero_lt_one, Nat.lt_add_one, List.map_cons, List.map_nil, AObj.ver, Nat.reduceLT, not_true_eq_false]) trivial ?_
  cases hA : autB n (ps.map (·.2)) with
  | false =>
    simp only [Bz1k, yz3, yz1, go_sem, yz0, Int.reduceLT, reduceLE, reduceToNat, reduceNeg, Nat.reduceLT, reduceLeDiff, reduceMul, reduceSub, reduceIte, reduceEqDiff, reduceAdd, reduceCtorEq]
    exact hend _ (vs0 0 0) (vs1 2 0) a1 s1 (by omega) (by simp only [go_sem, yz0, Int.reduceLT, reduceLE, reduceToNat, reduceNeg, Nat.reduceLT, reduceLeDiff, reduceMul, reduceSub, reduceIte, reduceEqDiff, reduceAdd, reduceCtorEq]; try rfl)
  | true =>
    have A := autB_iff.1 hA
    have n1 := A.n1
    have n2 := A.n2
    have l1 := A.l1
    have l2 := A.l2
    rw [List.length_map] at l1 l2
    have hdj : DJ ps := hf.1 l2
    simp only [yz3, yz1, go_sem, yz0, Int.reduceLT, reduceLE, reduceToNat, reduceNeg, Nat.reduceLT, reduceLeDiff, reduceMul, reduceSub, reduceIte, reduceEqDiff, reduceAdd, reduceCtorEq]
    refine call_funB (k_one code a1 s1 4 hb (by omega)) rfl qCS qCS ?_
    rintro cs' x ⟨a2, s2, b2, rfl, g1, g2, rfl⟩
    cases b2 with
    | true =>
      simp only [Bz1k, Bool.not_true, yz3, yz1, go_sem, yz0, Int.reduceLT, reduceLE, reduceToNat, reduceNeg, Nat.reduceLT, reduceLeDiff, reduceMul, reduceSub, reduceIte, reduceEqDiff, reduceAdd, reduceCtorEq]
      exact hend _ (vs0 0 0) (vs1 2 0) a2 s2 (by omega) (by simp only [go_sem, yz0, Int.reduceLT, reduceLE, reduceToNat, reduceNeg, Nat.reduceLT, reduceLeDiff, reduceMul, reduceSub, reduceIte, reduceEqDiff, reduceAdd, reduceCtorEq]; try rfl)
    | false =>
      obtain ⟨A2, b, C2, rfl, hAk⟩ := rwp_split (show 0 < ps.length by omega)
      have hbr := A.row b.2 (by simp)
      have hbn : b.2 ≠ [] := fun e => by rw [e] at hbr; simp at hbr; omega
      have F0a := DJ_out hdj hbn
      simp only [Bz1k, Bool.not_false, yz3, yz1, go_sem, yz0, Int.reduceLT, reduceLE, reduceToNat, reduceNeg, Nat.reduceLT, reduceLeDiff, reduceMul, reduceSub, reduceIte, reduceEqDiff, reduceAdd, reduceCtorEq]
      intro vs3 U3 hN3
      simp only [Bz7g, yz3, wpD_gh, go_sem, yz0, Int.reduceLT, reduceLE, reduceToNat, reduceNeg, Nat.reduceLT, reduceLeDiff, reduceMul, reduceSub, reduceIte, reduceEqDiff, reduceAdd, reduceCtorEq]
      intro _
      refine ⟨[.thaw 6 0 901], gwp_thaw (n := b.1) rfl (rwp_get hAk.symm) (by simpa using hbn) rfl fun m1 => ?_⟩
      have hset : (woL b.1 (rwp (A2 ++ b :: C2))).set 0 (AVal.own 901 m1) = rwp A2 ++ AVal.own 901 m1 :: rwp C2 := by rw [← hAk]; exact woL_set F0a
      have ho1 : (rwp A2 ++ AVal.own 901 m1 :: rwp C2).getD 0 .any = .own 901 m1 := own_at hAk.symm
      have hol : (rwp A2 ++ AVal.own 901 m1 :: rwp C2).length = A2.length + (C2.length + 1) := by rw [List.length_append, List.length_cons, rwp_len, rwp_len]
      have hkl : 0 < (rwp A2 ++ AVal.own 901 m1 :: rwp C2).length := by omega
      simp only [hset, woT, woO, woL_cons, woL_nil, woV_val, woV_own, wo_ptr, wo_o, woL_ints, wo_st, woO_row, woO_box, woO_gone, wo_any, gwp_nil, yz3, yz1, go_sem, yz0, Int.reduceLT, reduceLE, reduceToNat, reduceNeg, Nat.reduceLT, reduceLeDiff, reduceMul, reduceSub, reduceIte, reduceEqDiff, reduceAdd, reduceCtorEq]
      refine wpD_lp (fun (x : Nat × List Int) => n.toNat - x.1) (fun x => (x.1 : Int) ≤ n ∧ x.2.length = b.2.length ∧ ∀ z ∈ x.2, 0 ≤ z ∧ z < n)
        (fun (x : Nat × List Int) => ⟨L .any [(2, .ptr 2 (vs0 0 0) 0), (3, .ptr 3 (vs1 2 0) 0), (4, iv x.1)],
          L .gone [(2, .box (vs0 0 0) [iv 0, .val (.slice none 0 0)]), (3, .box (vs1 2 0) [iv n, .own 6 v']), (6, .row v' 1 true (rwp A2 ++ .own 901 m1 :: rwp C2)), (5000, .box 0 (srcC code a2 s2)), (901, .row m1 1 true (ints x.2))]⟩)
        (0, b.2) ⟨by simp; omega, rfl, hbr.2⟩ (by simp only [Bz1j, go_sem, yz0, Int.reduceLT, reduceLE, reduceToNat, reduceNeg, Nat.reduceLT, reduceLeDiff, reduceMul, reduceSub, reduceIte, reduceEqDiff, reduceAdd, reduceCtorEq]; try rfl) ?_
      rintro ⟨i, cur⟩ ⟨h3, h4, h5⟩
      have h3 : (i : Int) ≤ n := h3
      have h4 : cur.length = b.2.length := h4
      have h5 : ∀ z ∈ cur, 0 ≤ z ∧ z < n := h5
      by_cases hlt : (i : Int) < n
      · have w1 : IntKind.i64.wrap ((i : Int) + 1) = ((i + 1 : Nat) : Int) := by rw [w64 (by omega)]; simp
        have hn0 : ¬ n = 0 := by omega
        have hil : i < cur.length := by omega
        have t1 := tmod_in (a := ((i + 1 : Nat) : Int)) (n := n) (by omega) (by omega)
        simp only [Bz1j, Bz3f, Bz7f, decide_eq_true hlt, yz3, yz1, go_sem, yz0, Int.reduceLT, reduceLE, reduceToNat, reduceNeg, Nat.reduceLT, reduceLeDiff, reduceMul, reduceSub, reduceIte, reduceEqDiff, reduceAdd, reduceCtorEq]
        intro vs4 U4 hN4 vs5 U5 hN5
        simp only [ho1, w1, hn0, go_sem, yz0, Int.reduceLT, reduceLE, reduceToNat, reduceNeg, Nat.reduceLT, reduceLeDiff, reduceMul, reduceSub, reduceIte, reduceEqDiff, reduceAdd, reduceCtorEq]
        refine ⟨hkl, hkl, ⟨by omega, hil⟩, by omega, ?_⟩
        have hcl := lput_len (xs := cur) (v := ((i + 1 : Nat) : Int).tmod n) hil
        have hcm := lput_mem (xs := cur) (i := i) (v := ((i + 1 : Nat) : Int).tmod n) (Q := fun z => 0 ≤ z ∧ z < n) h5 t1
        simp only [ints_put]
        generalize hcu : cur.take i ++ [((i + 1 : Nat) : Int).tmod n] ++ cur.drop (i + 1) = cur2 at hcl hcm ⊢
        simp only [Bz7e, w1, yz3, yz1, go_sem, yz0, Int.reduceLT, reduceLE, reduceToNat, reduceNeg, Nat.reduceLT, reduceLeDiff, reduceMul, reduceSub, reduceIte, reduceEqDiff, reduceAdd, reduceCtorEq]
        intro vs6 U6 hN6
        exact ⟨(i + 1, cur2), by dsimp only; omega, ⟨by dsimp only; omega, by dsimp only; omega, hcm⟩, rfl⟩
      · simp only [Bz1j, Bz3f, Bz1l, decide_eq_false hlt, yz3, yz1, wpD_gh, go_sem, yz0, Int.reduceLT, reduceLE, reduceToNat, reduceNeg, Nat.reduceLT, reduceLeDiff, reduceMul, reduceSub, reduceIte, reduceEqDiff, reduceAdd, reduceCtorEq]
        intro vs4 U4 hN4 hD
        refine ⟨[.rf 6 0 901], gwp_rf (k := 1) (nn := true) rfl (own_get hAk.symm) (by decide) rfl fun hf2 => ?_⟩
        have D1 := DJ_refrozen hdj hf2 (cur := cur)
        have A1 := Aut_put A (u := m1) h4 h5
        have hset4 : ∀ X : AVal, (rwp A2 ++ AVal.own 901 m1 :: rwp C2).set 0 X = rwp A2 ++ X :: rwp C2 := fun X => by
          rw [← hAk, List.set_append_right _ _ (by rw [rwp_len]; exact Nat.le_refl _), rwp_len, Nat.sub_self]; rfl
        simp only [hset4, frNm_t, rwp_cat, gwp_nil, yz3, yz1, go_sem, yz0, Int.reduceLT, reduceLE, reduceToNat, reduceNeg, Nat.reduceLT, reduceLeDiff, reduceMul, reduceSub, reduceIte, reduceEqDiff, reduceAdd, reduceCtorEq]
        intro vs9 U9 hN9
        simp only [← hQ, Az1m, go_sem, yz0, Int.reduceLT, reduceLE, reduceToNat, reduceNeg, Nat.reduceLT, reduceLeDiff, reduceMul, reduceSub, reduceIte, reduceEqDiff, reduceAdd, reduceCtorEq]
        refine ⟨[6], by simp, by simp, by simp, ?_⟩
        simp only [range1, List.length_singleton, renL_rwp, Nat.not_lt_zero, range1, yzx, ren_any, ren_ro, rnNm_n, rnNm_sn, rnNm_o, rnNm_s, ren_st, ren_tup, yzp, yzg, yz5, yzu, yzv, yzo, yzn, yzw, yzb, yzd, yzc, yz9, yzm, yzk, yz4, yz8, yza, yzf, yzl, yzj, List.range_zero, yz7, yz6, yze, yzt, yzh, yzs, AVal.fresh, freshL, yz2, yzi, AObj.fresh, id, Option.isSome_some, or_true, true_or, go_sem, yz0, Int.reduceLT, reduceLE, reduceToNat, reduceNeg, Nat.reduceLT, reduceLeDiff, reduceMul, reduceSub, reduceIte, reduceEqDiff, reduceAdd, reduceCtorEq]
        exact ⟨n, A2 ++ (m1, cur) :: C2, v', a2, s2, FAut.lo (m := 10) ⟨A1, D1, by omega⟩, by omega, by omega, rfl, by simp, rfl⟩
theorem k_A2Automaton (code : List Int) (hb : ∀ x ∈ code, 0 ≤ x ∧ x ≤ 255) :
    Con Try.prog nz2b [] [.ro (some (some 0)) 1 (intsK .u8 code)] true fun outs rows res => outs = [] ∧ ∃ n next v, Aut n next ∧ n ≤ 7 ∧ rows = [.row v 1 true (rws next)] ∧ res = .st [iv n, .own 6000 v] := by
  refine con_sh mixed czcs rfl (by simp) ?_
  generalize hQ : finQ _ = Q
  simp only [Azm, Bz5z, go_sem, yz0, Int.reduceLT, reduceLE, reduceToNat, reduceNeg, Nat.reduceLT, reduceLeDiff, reduceMul, reduceSub, reduceIte, reduceEqDiff, reduceAdd, reduceCtorEq]
  intro vs0 vs1
  refine call_sh (k_from code) qCS (fun e => by cases e) ?_
  rintro outs rows res ⟨rfl, v, rfl, rfl⟩
  refine ⟨rfl, by simp, by rw [Option.getD_some, yzh]; rfl, ?_⟩
  simp only [Bz5y, Nat.not_lt_zero, range1, yzx, ren_any, ren_ro, rnNm_n, rnNm_sn, rnNm_o, rnNm_s, ren_st, ren_tup, yzp, yzg, yz5, yzu, yzv, yzo, yzn, yzw, yzb, yzd, yzc, yz9, yzm, yzk, yz4, yz8, yza, yzf, yzl, yzj, List.range_zero, yz7, yz6, yze, yzt, yzh, yzs, AVal.fresh, freshL, yz2, yzi, AObj.fresh, id, Option.isSome_some, or_true, true_or, go_sem, yz0, Int.reduceLT, reduceLE, reduceToNat, reduceNeg, Nat.reduceLT, reduceLeDiff, reduceMul, reduceSub, reduceIte, reduceEqDiff, reduceAdd, reduceCtorEq]
  intro vs2
  have h : Con Try.prog nzy [.box 0 (srcC code 0 0)] [.ptr 5000 0 0] true fun outs rows res => ∃ n next v a' s', outs = [.box 0 (srcC code a' s')] ∧ rows = [.row v 1 true (rws next)] ∧ res = .st [iv n, .own 6000 v] := by
    refine Con.dnr (k_l03Linked code 0 0 hb (by omega)) ?_
    rintro o r x ⟨n, ps, v, a', s', hf, h1, h2, rfl, rfl, rfl⟩
    refine ⟨n, ps.map (·.2), v, a', s', ?_, ?_, ?_⟩
    · simp only [List.map_cons, List.map_nil, AObj.dn, dnL, AVal.dn, dnL_ints, dnNm]
    · simp only [List.map_cons, List.map_nil, AObj.dn, dnL_rwp]
    · simp only [AVal.dn, dnL]
  refine call_con (r := 6) h rfl (by simp only [Bool.not_true, rowIs, boxIs, coe_argN, coe_argNs, coe_ro_o, coeL_nil, yzr, coe_any, coe_val, coe_ro, coe_ro_nil, coe_ro_own, coe_st, coe_st_agg, coe_rp, coe_rp_ptr, coe_clo, coe_own0, coe_ptr0, yzz, coeL_rws, coeL_rwn, L_hit, L_miss, L_nil, reduceEqDiff, ne_eq, reduceCtorEq, not_false_eq_true, true_and, and_true, and_self, exists_eq_left, exists_eq_right, List.mem_cons, List.not_mem_nil, or_false, AObj.row.injEq, AObj.box.injEq, exists_eq_left', exists_and_left, exists_eq, Nat.zero_lt_one, Nat.lt_add_one, List.map_cons, List.map_nil, AObj.ver, Nat.reduceLT, not_true_eq_false]) (by simp only [Bool.not_true, rowIs, boxIs, coe_argN, coe_argNs, coe_ro_o, coeL_nil, yzr, coe_any, coe_val, coe_ro, coe_ro_nil, coe_ro_own, coe_st, coe_st_agg, coe_rp, coe_rp_ptr, coe_clo, coe_own0, coe_ptr0, yzz, coeL_rws, coeL_rwn, L_hit, L_miss, L_nil, reduceEqDiff, ne_eq, reduceCtorEq, not_false_eq_true, true_and, and_true, and_self, exists_eq_left, exists_eq_right, List.mem_cons, List.not_mem_nil, or_false, AObj.row.injEq, AObj.box.injEq, exists_eq_left', exists_and_left, exists_eq, Nat.zero_lt_one, Nat.lt_add_one, List.map_cons, List.map_nil, AObj.ver, Nat.reduceLT, not_true_eq_false]) ?_
  rintro outs rows res ⟨n, next, v', a', s', rfl, rfl, rfl⟩
  refine ⟨rfl, by simp, by rw [Option.getD_some, yzh]; simp only [go_sem, yz0, Int.reduceLT, reduceLE, reduceToNat, reduceNeg, Nat.reduceLT, reduceLeDiff, reduceMul, reduceSub, reduceIte, reduceEqDiff, reduceAdd, reduceCtorEq], ?_⟩
  rw [Option.getD_some, callHp_mr (by omega)]
  have hslow : Con Try.prog nzg [] [iv 4] true fun outs rows res => outs = [] ∧ ∃ next v, Aut 4 next ∧ rows = [.row v 1 true (rws next)] ∧ res = .st [iv 4, .own 6000 v] := by
    refine Con.dnr (k_l02SlowN 4 (by omega)) ?_
    rintro o r x ⟨rfl, v, ps, hA, hd, rfl, rfl⟩
    refine ⟨rfl, ps.map (·.2), v, hA, ?_, ?_⟩
    · simp only [List.map_cons, List.map_nil, AObj.dn, dnL_rwp]
    · simp only [AVal.dn, dnL]
  simp only [Bz5x, Nat.not_lt_zero, range1, yzx, ren_any, ren_ro, rnNm_n, rnNm_sn, rnNm_o, rnNm_s, ren_st, ren_tup, yzp, yzg, yz5, yzu, yzv, yzo, yzn, yzw, yzb, yzd, yzc, yz9, yzm, yzk, yz4, yz8, yza, yzf, yzl, yzj, List.range_zero, yz7, yz6, yze, yzt, yzh, yzs, AVal.fresh, freshL, yz2, yzi, AObj.fresh, id, Option.isSome_some, or_true, true_or, go_sem, yz0, Int.reduceLT, reduceLE, reduceToNat, reduceNeg, Nat.reduceLT, reduceLeDiff, reduceMul, reduceSub, reduceIte, reduceEqDiff, reduceAdd, reduceCtorEq]
  intro vs3
  refine yzq (k_l01Ok n next) qCS trivial ?_
  cases hA : autB n next with
  | false =>
    simp only [Bz1a, Bz34, go_sem, yz0, Int.reduceLT, reduceLE, reduceToNat, reduceNeg, Nat.reduceLT, reduceLeDiff, reduceMul, reduceSub, reduceIte, reduceEqDiff, reduceAdd, reduceCtorEq]
    intro vs5
    refine call_sh hslow qCS (fun e => by cases e) ?_
    rintro outs rows res ⟨rfl, next2, v2, A2, rfl, rfl⟩
    refine ⟨rfl, by simp, by rw [Option.getD_some, yzh]; simp only [go_sem, yz0, Int.reduceLT, reduceLE, reduceToNat, reduceNeg, Nat.reduceLT, reduceLeDiff, reduceMul, reduceSub, reduceIte, reduceEqDiff, reduceAdd, reduceCtorEq], ?_⟩
    simp only [← hQ, Azm, dnL_rws, Nat.not_lt_zero, range1, yzx, ren_any, ren_ro, rnNm_n, rnNm_sn, rnNm_o, rnNm_s, ren_st, ren_tup, yzp, yzg, yz5, yzu, yzv, yzo, yzn, yzw, yzb, yzd, yzc, yz9, yzm, yzk, yz4, yz8, yza, yzf, yzl, yzj, List.range_zero, yz7, yz6, yze, yzt, yzh, yzs, AVal.fresh, freshL, yz2, yzi, AObj.fresh, id, Option.isSome_some, or_true, true_or, go_sem, yz0, Int.reduceLT, reduceLE, reduceToNat, reduceNeg, Nat.reduceLT, reduceLeDiff, reduceMul, reduceSub, reduceIte, reduceEqDiff, reduceAdd, reduceCtorEq]
    refine ⟨[16], by simp, by simp, by simp, ?_⟩
    simp only [Nat.not_lt_zero, range1, yzx, ren_any, ren_ro, rnNm_n, rnNm_sn, rnNm_o, rnNm_s, ren_st, ren_tup, yzp, yzg, yz5, yzu, yzv, yzo, yzn, yzw, yzb, yzd, yzc, yz9, yzm, yzk, yz4, yz8, yza, yzf, yzl, yzj, List.range_zero, yz7, yz6, yze, yzt, yzh, yzs, AVal.fresh, freshL, yz2, yzi, AObj.fresh, id, Option.isSome_some, or_true, true_or, go_sem, yz0, Int.reduceLT, reduceLE, reduceToNat, reduceNeg, Nat.reduceLT, reduceLeDiff, reduceMul, reduceSub, reduceIte, reduceEqDiff, reduceAdd, reduceCtorEq]
    exact ⟨4, next2, _, A2, by omega, rfl, rfl⟩
  | true =>
    have A := autB_iff.1 hA
    by_cases h7 : n ≤ 7
    · simp only [decide_eq_true h7, Bz1a, ← hQ, Azm, dnL_rws, go_sem, yz0, Int.reduceLT, reduceLE, reduceToNat, reduceNeg, Nat.reduceLT, reduceLeDiff, reduceMul, reduceSub, reduceIte, reduceEqDiff, reduceAdd, reduceCtorEq]
      refine ⟨[8], by simp, by simp, by simp, ?_⟩
      simp only [Nat.not_lt_zero, range1, yzx, ren_any, ren_ro, rnNm_n, rnNm_sn, rnNm_o, rnNm_s, ren_st, ren_tup, yzp, yzg, yz5, yzu, yzv, yzo, yzn, yzw, yzb, yzd, yzc, yz9, yzm, yzk, yz4, yz8, yza, yzf, yzl, yzj, List.range_zero, yz7, yz6, yze, yzt, yzh, yzs, AVal.fresh, freshL, yz2, yzi, AObj.fresh, id, Option.isSome_some, or_true, true_or, go_sem, yz0, Int.reduceLT, reduceLE, reduceToNat, reduceNeg, Nat.reduceLT, reduceLeDiff, reduceMul, reduceSub, reduceIte, reduceEqDiff, reduceAdd, reduceCtorEq]
      exact ⟨n, next, _, A, h7, rfl, rfl⟩
    · simp only [Bz1a, Bz34, decide_eq_false h7, go_sem, yz0, Int.reduceLT, reduceLE, reduceToNat, reduceNeg, Nat.reduceLT, reduceLeDiff, reduceMul, reduceSub, reduceIte, reduceEqDiff, reduceAdd, reduceCtorEq]
      intro vs5
      refine call_sh hslow qCS (fun e => by cases e) ?_
      rintro outs rows res ⟨rfl, next2, v2, A2, rfl, rfl⟩
      refine ⟨rfl, by simp, by rw [Option.getD_some, yzh]; simp only [go_sem, yz0, Int.reduceLT, reduceLE, reduceToNat, reduceNeg, Nat.reduceLT, reduceLeDiff, reduceMul, reduceSub, reduceIte, reduceEqDiff, reduceAdd, reduceCtorEq], ?_⟩
      simp only [← hQ, Azm, dnL_rws, Nat.not_lt_zero, range1, yzx, ren_any, ren_ro, rnNm_n, rnNm_sn, rnNm_o, rnNm_s, ren_st, ren_tup, yzp, yzg, yz5, yzu, yzv, yzo, yzn, yzw, yzb, yzd, yzc, yz9, yzm, yzk, yz4, yz8, yza, yzf, yzl, yzj, List.range_zero, yz7, yz6, yze, yzt, yzh, yzs, AVal.fresh, freshL, yz2, yzi, AObj.fresh, id, Option.isSome_some, or_true, true_or, go_sem, yz0, Int.reduceLT, reduceLE, reduceToNat, reduceNeg, Nat.reduceLT, reduceLeDiff, reduceMul, reduceSub, reduceIte, reduceEqDiff, reduceAdd, reduceCtorEq]
      refine ⟨[16], by simp, by simp, by simp, ?_⟩
      simp only [Nat.not_lt_zero, range1, yzx, ren_any, ren_ro, rnNm_n, rnNm_sn, rnNm_o, rnNm_s, ren_st, ren_tup, yzp, yzg, yz5, yzu, yzv, yzo, yzn, yzw, yzb, yzd, yzc, yz9, yzm, yzk, yz4, yz8, yza, yzf, yzl, yzj, List.range_zero, yz7, yz6, yze, yzt, yzh, yzs, AVal.fresh, freshL, yz2, yzi, AObj.fresh, id, Option.isSome_some, or_true, true_or, go_sem, yz0, Int.reduceLT, reduceLE, reduceToNat, reduceNeg, Nat.reduceLT, reduceLeDiff, reduceMul, reduceSub, reduceIte, reduceEqDiff, reduceAdd, reduceCtorEq]
      exact ⟨4, next2, _, A2, by omega, rfl, rfl⟩
end Go.Ab
namespace Go.Ab
open Go.Proofs
theorem k_a2Has (xs : List Int) (x : Int) : Fun Try.prog nz6 [.ro none 1 (ints xs), iv x] (bv (xs.contains x)) := by
  refine fun_of mixed czd0 rfl ⟨rfl, trivial⟩ ?_
  simp only [Az76, Bz75, Bz73, go_sem, yz0, Int.reduceLT, reduceLE, reduceToNat, reduceNeg, Nat.reduceLT, reduceLeDiff, reduceMul, reduceSub, reduceIte, reduceEqDiff, reduceAdd, reduceCtorEq]
  refine wpD_lo (fun i => xs.length - i) (fun i => i ≤ xs.length ∧ (xs.drop i).contains x = xs.contains x)
    (fun i : Nat => ⟨L .any [(0, .ro none 1 (ints xs)), (1, iv x), (5, iv i)], L .gone []⟩) 0 (by simp) (by simp only [Bz1h, go_sem, yz0, Int.reduceLT, reduceLE, reduceToNat, reduceNeg, Nat.reduceLT, reduceLeDiff, reduceMul, reduceSub, reduceIte, reduceEqDiff, reduceAdd, reduceCtorEq]; try rfl) ?_
  rintro i ⟨hi, he⟩
  by_cases hlt : (i : Int) < xs.length
  · have hlt1 : i < xs.length := by omega
    rw [drop_getD hlt1 0, List.contains_cons] at he
    simp only [Bz1h, Bz39, Bz3b, yzy hlt1, decide_eq_true hlt, go_sem, yz0, Int.reduceLT, reduceLE, reduceToNat, reduceNeg, Nat.reduceLT, reduceLeDiff, reduceMul, reduceSub, reduceIte, reduceEqDiff, reduceAdd, reduceCtorEq]
    intro hM
    refine ⟨⟨by omega, hlt1⟩, hlt1, ?_⟩
    rw [show (x == xs.getD i 0) = (xs.getD i 0 == x) from Bool.beq_comm] at he
    cases hx : (xs.getD i 0 == x) with
    | true =>
      rw [hx, Bool.true_or] at he
      simp only [Bz3a, ← he, go_sem, yz0, Int.reduceLT, reduceLE, reduceToNat, reduceNeg, Nat.reduceLT, reduceLeDiff, reduceMul, reduceSub, reduceIte, reduceEqDiff, reduceAdd, reduceCtorEq]
    | false =>
      rw [hx, Bool.false_or] at he
      simp only [Bz3a, Bz72, nat1 i _ hlt1 hM, go_sem, yz0, Int.reduceLT, reduceLE, reduceToNat, reduceNeg, Nat.reduceLT, reduceLeDiff, reduceMul, reduceSub, reduceIte, reduceEqDiff, reduceAdd, reduceCtorEq]
      exact ⟨i + 1, by omega, ⟨by omega, he⟩, rfl⟩
  · have : i = xs.length := by omega
    subst this
    rw [List.drop_length] at he
    simp only [Bz1h, Bz39, Bz3b, Bz74, decide_eq_false hlt, go_sem, yz0, Int.reduceLT, reduceLE, reduceToNat, reduceNeg, Nat.reduceLT, reduceLeDiff, reduceMul, reduceSub, reduceIte, reduceEqDiff, reduceAdd, reduceCtorEq]
    intro _
    rw [← he]; rfl
theorem k_a2Inside (xs ys : List Int) : Fun Try.prog nzx [.ro none 1 (ints xs), .ro none 1 (ints ys)] (bv (xs.all fun x => ys.contains x)) := by
  refine fun_of mixed czd1 rfl ⟨rfl, trivial⟩ ?_
  simp only [Az7b, Bz7a, Bz78, go_sem, yz0, Int.reduceLT, reduceLE, reduceToNat, reduceNeg, Nat.reduceLT, reduceLeDiff, reduceMul, reduceSub, reduceIte, reduceEqDiff, reduceAdd, reduceCtorEq]
  refine wpD_lo (fun i => xs.length - i) (fun i => i ≤ xs.length ∧ ((xs.drop i).all fun x => ys.contains x) = xs.all fun x => ys.contains x)
    (fun i : Nat => ⟨L .any [(0, .ro none 1 (ints xs)), (1, .ro none 1 (ints ys)), (5, iv i)], L .gone []⟩) 0 (by simp) (by simp only [Bz1i, go_sem, yz0, Int.reduceLT, reduceLE, reduceToNat, reduceNeg, Nat.reduceLT, reduceLeDiff, reduceMul, reduceSub, reduceIte, reduceEqDiff, reduceAdd, reduceCtorEq]; try rfl) ?_
  rintro i ⟨hi, he⟩
  by_cases hlt : (i : Int) < xs.length
  · have hlt1 : i < xs.length := by omega
    rw [drop_getD hlt1 0, List.all_cons] at he
    simp only [Bz1i, Bz3c, Bz3e, yzy hlt1, decide_eq_true hlt, go_sem, yz0, Int.reduceLT, reduceLE, reduceToNat, reduceNeg, Nat.reduceLT, reduceLeDiff, reduceMul, reduceSub, reduceIte, reduceEqDiff, reduceAdd, reduceCtorEq]
    intro hM vs
    refine ⟨⟨by omega, hlt1⟩, hlt1, ?_⟩
    refine yzq (k_a2Has ys (xs.getD i 0)) qCS trivial ?_
    cases hx : ys.contains (xs.getD i 0) with
    | false =>
      rw [hx, Bool.false_and] at he
      simp only [Bz3d, Bool.not_false, ← he, go_sem, yz0, Int.reduceLT, reduceLE, reduceToNat, reduceNeg, Nat.reduceLT, reduceLeDiff, reduceMul, reduceSub, reduceIte, reduceEqDiff, reduceAdd, reduceCtorEq]
    | true =>
      rw [hx, Bool.true_and] at he
      simp only [Bz3d, Bz77, Bool.not_true, nat1 i _ hlt1 hM, go_sem, yz0, Int.reduceLT, reduceLE, reduceToNat, reduceNeg, Nat.reduceLT, reduceLeDiff, reduceMul, reduceSub, reduceIte, reduceEqDiff, reduceAdd, reduceCtorEq]
      exact ⟨i + 1, by omega, ⟨by omega, he⟩, rfl⟩
  · have : i = xs.length := by omega
    subst this
    rw [List.drop_length] at he
    simp only [Bz1i, Bz3c, Bz3e, Bz79, decide_eq_false hlt, go_sem, yz0, Int.reduceLT, reduceLE, reduceToNat, reduceNeg, Nat.reduceLT, reduceLeDiff, reduceMul, reduceSub, reduceIte, reduceEqDiff, reduceAdd, reduceCtorEq]
    intro _
    rw [← he]; rfl
def preA (next : List (List Int)) (set w : List Int) (i : Nat) : List Int := ((List.range i).map fun (s : Nat) => (s : Int)).filter fun s => set.contains (atA next s w)
theorem preA_succ {next : List (List Int)} {set w : List Int} {i : Nat} : preA next set w (i + 1) = if set.contains (atA next i w) = true then preA next set w i ++ [(i : Int)] else preA next set w i := by
  unfold preA
  rw [List.range_succ, List.map_append, List.filter_append]
  simp only [List.map_cons, List.map_nil, List.filter_cons, List.filter_nil]
  split <;> simp
theorem preA_len {next : List (List Int)} {set w : List Int} {i : Nat} : (preA next set w i).length ≤ i := by
  unfold preA
  exact Nat.le_trans (List.length_filter_le _ _) (by simp)
theorem preA_mem {next : List (List Int)} {set w : List Int} {i : Nat} {s : Int} : s ∈ preA next set w i ↔ (0 ≤ s ∧ s < i) ∧ atA next s w ∈ set := by
  simp only [preA, List.mem_filter, List.mem_map, List.mem_range, List.contains_iff_mem]
  constructor
  · rintro ⟨⟨k, hk, rfl⟩, h⟩; exact ⟨by omega, h⟩
  · rintro ⟨h1, h⟩; exact ⟨⟨s.toNat, by omega, by omega⟩, h⟩
theorem k_preimage (n : Int) (next : List (List Int)) (set w : List Int) (A : Aut n next) (hw : IsW next.length w) :
    RowI Try.prog nz2j [autA n next, .ro none 1 (ints set), .ro none 1 (ints w)] (fun ys => ys = preA next set w n.toNat) := by
  refine rowI_of mixed czdi rfl ?_
  simp only [Az96, Bz95, go_sem, yz0, Int.reduceLT, reduceLE, reduceToNat, reduceNeg, Nat.reduceLT, reduceLeDiff, reduceMul, reduceSub, reduceIte, reduceEqDiff, reduceAdd, reduceCtorEq]
  intro vs vs2
  have n1 := A.n1
  have n2 := A.n2
  simp only [Bz94, Bz92, go_sem, yz0, Int.reduceLT, reduceLE, reduceToNat, reduceNeg, Nat.reduceLT, reduceLeDiff, reduceMul, reduceSub, reduceIte, reduceEqDiff, reduceAdd, reduceCtorEq]
  refine wpD_lo (fun (_, i) => n.toNat - i) (fun (_, i) => (i : Int) ≤ n)
    (fun ((v, i) : Nat × Nat) => ⟨L .any [(1, .ro none 1 (ints set)), (2, .ro none 1 (ints w)), (3, .ptr 3 (vs 0 0) 0), (7, .own 9 v), (11, iv n), (12, iv i)], L .gone [(3, .box (vs 0 0) [iv n, .ro none 1 (rwn next)]), (9, .row v 1 true (ints (preA next set w i)))]⟩) (_, 0) (by simp; omega) (by simp only [Bz1t, go_sem, yz0, Int.reduceLT, reduceLE, reduceToNat, reduceNeg, Nat.reduceLT, reduceLeDiff, reduceMul, reduceSub, reduceIte, reduceEqDiff, reduceAdd, reduceCtorEq]; try rfl) ?_
  rintro ⟨v, i⟩ hi
  have hi : (i : Int) ≤ n := hi
  by_cases hlt : (i : Int) < n
  · have w1 : IntKind.i64.wrap ((i : Int) + 1) = ((i + 1 : Nat) : Int) := by rw [w64 (by omega)]; simp
    simp only [Bz1t, Bz40, Bz91, Bz90, decide_eq_true hlt, go_sem, yz0, Int.reduceLT, reduceLE, reduceToNat, reduceNeg, Nat.reduceLT, reduceLeDiff, reduceMul, reduceSub, reduceIte, reduceEqDiff, reduceAdd, reduceCtorEq]
    intro vs3
    refine yzq (k_at n next i w A (by omega) hw) qCS trivial ?_
    simp only [go_sem, yz0, Int.reduceLT, reduceLE, reduceToNat, reduceNeg, Nat.reduceLT, reduceLeDiff, reduceMul, reduceSub, reduceIte, reduceEqDiff, reduceAdd, reduceCtorEq]
    refine yzq (k_Contains set (atA next i w)) qCS trivial ?_
    have hs := preA_succ (next := next) (set := set) (w := w) (i := i)
    have hl := preA_len (next := next) (set := set) (w := w) (i := i)
    cases hc : set.contains (atA next i w) with
    | true =>
      rw [hc, if_pos rfl] at hs
      simp only [Bz3y, Bz3z, w1, go_sem, yz0, Int.reduceLT, reduceLE, reduceToNat, reduceNeg, Nat.reduceLT, reduceLeDiff, reduceMul, reduceSub, reduceIte, reduceEqDiff, reduceAdd, reduceCtorEq]
      intro vs4
      refine ⟨⟨_, rfl, rfl⟩, by omega, ?_⟩
      refine ⟨(_, i + 1), ?_, ?_, by rw [hs]⟩
      · show n.toNat - (i + 1) < n.toNat - i; omega
      · show ((i + 1 : Nat) : Int) ≤ n; omega
    | false =>
      rw [hc, if_neg (by simp)] at hs
      simp only [Bz3y, Bz3z, w1, go_sem, yz0, Int.reduceLT, reduceLE, reduceToNat, reduceNeg, Nat.reduceLT, reduceLeDiff, reduceMul, reduceSub, reduceIte, reduceEqDiff, reduceAdd, reduceCtorEq]
      refine ⟨(_, i + 1), ?_, ?_, by rw [hs]⟩
      · show n.toNat - (i + 1) < n.toNat - i; omega
      · show ((i + 1 : Nat) : Int) ≤ n; omega
  · have e : i = n.toNat := by omega
    simp only [Bz1t, Bz40, Bz93, decide_eq_false hlt, go_sem, yz0, Int.reduceLT, reduceLE, reduceToNat, reduceNeg, Nat.reduceLT, reduceLeDiff, reduceMul, reduceSub, reduceIte, reduceEqDiff, reduceAdd, reduceCtorEq]
    refine ⟨9, v, _, by omega, rfl, by rw [← e]; simp only [go_sem, yz0, Int.reduceLT, reduceLE, reduceToNat, reduceNeg, Nat.reduceLT, reduceLeDiff, reduceMul, reduceSub, reduceIte, reduceEqDiff, reduceAdd, reduceCtorEq], rfl⟩
theorem k_PreimageOf_1 (n : Int) (next : List (List Int)) (set w : List Int) (hn : 1 ≤ n ∧ n ≤ 10) (hl : 1 ≤ next.length ∧ next.length ≤ 3) :
    Fun Try.prog nz13 [.rp [.ro none 1 (ints set)] 0, autP n next, .rp [.ro none 1 (ints w)] 0] (bv (setB n set && wordB next.length w)) := by
  refine fun_of mixed czdh rfl ⟨rfl, trivial⟩ ?_
  simp only [Bz8y, Az8z, go_sem, yz0, Int.reduceLT, reduceLE, reduceToNat, reduceNeg, Nat.reduceLT, reduceLeDiff, reduceMul, reduceSub, reduceIte, reduceEqDiff, reduceAdd, reduceCtorEq]
  intro vs
  refine yzq (k_isSet set n hn) qCS trivial ?_
  cases hs : setB n set with
  | false => simp only [Bool.false_and, go_sem, yz0, Int.reduceLT, reduceLE, reduceToNat, reduceNeg, Nat.reduceLT, reduceLeDiff, reduceMul, reduceSub, reduceIte, reduceEqDiff, reduceAdd, reduceCtorEq]
  | true =>
    simp only [go_sem, yz0, Int.reduceLT, reduceLE, reduceToNat, reduceNeg, Nat.reduceLT, reduceLeDiff, reduceMul, reduceSub, reduceIte, reduceEqDiff, reduceAdd, reduceCtorEq]
    refine yzq (k_isWord n next w hl) qCS trivial ?_
    simp only [Bool.true_and, go_sem, yz0, Int.reduceLT, reduceLE, reduceToNat, reduceNeg, Nat.reduceLT, reduceLeDiff, reduceMul, reduceSub, reduceIte, reduceEqDiff, reduceAdd, reduceCtorEq]
theorem k_PreimageOf (n : Int) (next : List (List Int)) (set w : List Int) :
    RowT Try.prog nz2e [autA n next, .ro none 1 (ints set), .ro none 1 (ints w)] (autB n next && (setB n set && wordB next.length w)) (preA next set w n.toNat) (codeI (autB n next) (setB n set && wordB next.length w)) := by
  refine con_of mixed czcz rfl (by simp) ?_
  simp only [Az71, Bz70, go_sem, yz0, Int.reduceLT, reduceLE, reduceToNat, reduceNeg, Nat.reduceLT, reduceLeDiff, reduceMul, reduceSub, reduceIte, reduceEqDiff, reduceAdd, reduceCtorEq]
  intro vs vs2
  refine yzq (k_code n next nz13 [.rp [.ro none 1 (ints set)] 0, autP n next, .rp [.ro none 1 (ints w)] 0] _ ⟨by simp only [go_sem, yz0, Int.reduceLT, reduceLE, reduceToNat, reduceNeg, Nat.reduceLT, reduceLeDiff, reduceMul, reduceSub, reduceIte, reduceEqDiff, reduceAdd, reduceCtorEq], by intros; simp only [rowIs, boxIs, coe_argN, coe_argNs, coe_ro_o, coeL_nil, yzr, coe_any, coe_val, coe_ro, coe_ro_nil, coe_ro_own, coe_st, coe_st_agg, coe_rp, coe_rp_ptr, coe_clo, coe_own0, coe_ptr0, yzz, coeL_rws, coeL_rwn, L_hit, L_miss, L_nil, reduceEqDiff, ne_eq, reduceCtorEq, not_false_eq_true, true_and, and_true, and_self, exists_eq_left, exists_eq_right, List.mem_cons, List.not_mem_nil, or_false, AObj.row.injEq, AObj.box.injEq, exists_eq_left', exists_and_left, exists_eq, Nat.zero_lt_one, Nat.lt_add_one, List.map_cons, List.map_nil, AObj.ver, Nat.reduceLT, not_true_eq_false]⟩
    (fun hv => k_PreimageOf_1 n next set w ⟨(autB_iff.1 hv).n1, (autB_iff.1 hv).n2⟩ ⟨(autB_iff.1 hv).l1, (autB_iff.1 hv).l2⟩)) qCS trivial ?_
  cases hv : autB n next with
  | false =>
    have h3 : codeI false (setB n set && wordB next.length w) = 1 := by simp [codeI]
    simp only [h3, ne10, Bz1g, Bz1f, Bool.false_and, go_sem, yz0, Int.reduceLT, reduceLE, reduceToNat, reduceNeg, Nat.reduceLT, reduceLeDiff, reduceMul, reduceSub, reduceIte, reduceEqDiff, reduceAdd, reduceCtorEq]
    refine ⟨[], by simp, by simp, by simp, ?_⟩
    simp only [Nat.not_lt_zero, range1, yzx, ren_any, ren_ro, rnNm_n, rnNm_sn, rnNm_o, rnNm_s, ren_st, ren_tup, yzp, yzg, yz5, yzu, yzv, yzo, yzn, yzw, yzb, yzd, yzc, yz9, yzm, yzk, yz4, yz8, yza, yzf, yzl, yzj, List.range_zero, yz7, yz6, yze, yzt, yzh, yzs, AVal.fresh, freshL, yz2, yzi, AObj.fresh, id, Option.isSome_some, or_true, true_or, go_sem, yz0, Int.reduceLT, reduceLE, reduceToNat, reduceNeg, Nat.reduceLT, reduceLeDiff, reduceMul, reduceSub, reduceIte, reduceEqDiff, reduceAdd, reduceCtorEq]
  | true =>
    have A := autB_iff.1 hv
    cases hw : (setB n set && wordB next.length w) with
    | false =>
      have h3 : codeI true false = 2 := by simp [codeI]
      simp only [h3, ne20, Bz1g, Bz1f, Bool.true_and, go_sem, yz0, Int.reduceLT, reduceLE, reduceToNat, reduceNeg, Nat.reduceLT, reduceLeDiff, reduceMul, reduceSub, reduceIte, reduceEqDiff, reduceAdd, reduceCtorEq]
      refine ⟨[], by simp, by simp, by simp, ?_⟩
      simp only [Nat.not_lt_zero, range1, yzx, ren_any, ren_ro, rnNm_n, rnNm_sn, rnNm_o, rnNm_s, ren_st, ren_tup, yzp, yzg, yz5, yzu, yzv, yzo, yzn, yzw, yzb, yzd, yzc, yz9, yzm, yzk, yz4, yz8, yza, yzf, yzl, yzj, List.range_zero, yz7, yz6, yze, yzt, yzh, yzs, AVal.fresh, freshL, yz2, yzi, AObj.fresh, id, Option.isSome_some, or_true, true_or, go_sem, yz0, Int.reduceLT, reduceLE, reduceToNat, reduceNeg, Nat.reduceLT, reduceLeDiff, reduceMul, reduceSub, reduceIte, reduceEqDiff, reduceAdd, reduceCtorEq]
    | true =>
      have hw' := hw
      rw [Bool.and_eq_true] at hw'
      have W := wordB_iff.1 hw'.2
      have h3 : codeI true true = 0 := by simp [codeI]
      simp only [h3, Bz1g, Bz1f, Bz6z, bne_self_eq_false, Bool.true_and, go_sem, yz0, Int.reduceLT, reduceLE, reduceToNat, reduceNeg, Nat.reduceLT, reduceLeDiff, reduceMul, reduceSub, reduceIte, reduceEqDiff, reduceAdd, reduceCtorEq]
      intro vs3
      refine call_rowI (k_preimage n next set w A W.2) qCS rfl ⟨_, rfl⟩ ?_
      rintro ys v rfl
      simp only [go_sem, yz0, Int.reduceLT, reduceLE, reduceToNat, reduceNeg, Nat.reduceLT, reduceLeDiff, reduceMul, reduceSub, reduceIte, reduceEqDiff, reduceAdd, reduceCtorEq]
      refine ⟨[18], by simp, by simp, by simp, ?_⟩
      simp only [range1, List.length_singleton, Nat.not_lt_zero, range1, yzx, ren_any, ren_ro, rnNm_n, rnNm_sn, rnNm_o, rnNm_s, ren_st, ren_tup, yzp, yzg, yz5, yzu, yzv, yzo, yzn, yzw, yzb, yzd, yzc, yz9, yzm, yzk, yz4, yz8, yza, yzf, yzl, yzj, List.range_zero, yz7, yz6, yze, yzt, yzh, yzs, AVal.fresh, freshL, yz2, yzi, AObj.fresh, id, Option.isSome_some, or_true, true_or, go_sem, yz0, Int.reduceLT, reduceLE, reduceToNat, reduceNeg, Nat.reduceLT, reduceLeDiff, reduceMul, reduceSub, reduceIte, reduceEqDiff, reduceAdd, reduceCtorEq]
      exact ⟨v, rfl, rfl⟩
theorem SI_snoc {w : List Int} {k : Int} (h : SI w) (hx : ∀ x ∈ w, x < k) : SI (w ++ [k]) := by
  unfold SI at h ⊢
  rw [List.pairwise_append]
  exact ⟨h, by simp, fun x hx' y hy => by rw [List.mem_singleton.1 hy]; exact hx x hx'⟩
theorem k_A2Set (code : List Int) (n : Int) (next : List (List Int)) (hb : ∀ x ∈ code, 0 ≤ x ∧ x ≤ 255) (hn : 0 ≤ n ∧ n ≤ 10) :
    RowI Try.prog nzw [.ro (some (some 0)) 1 (intsK .u8 code), .st [iv n, .ro none 1 (rwn next)]] (fun xs => setB n xs = true) := by
  refine rowI_of mixed czcw rfl ?_
  simp only [Az6s, Bz6r, go_sem, yz0, Int.reduceLT, reduceLE, reduceToNat, reduceNeg, Nat.reduceLT, reduceLeDiff, reduceMul, reduceSub, reduceIte, reduceEqDiff, reduceAdd, reduceCtorEq]
  intro vs vs2
  refine call_sh (k_from code) qCS (fun _ => ⟨_, _, _, rfl, 0, rfl, rfl⟩) ?_
  rintro outs rows res ⟨rfl, v, rfl, rfl⟩
  refine ⟨rfl, by simp, by rw [Option.getD_some, yzh]; simp only [go_sem, yz0, Int.reduceLT, reduceLE, reduceToNat, reduceNeg, Nat.reduceLT, reduceLeDiff, reduceMul, reduceSub, reduceIte, reduceEqDiff, reduceAdd, reduceCtorEq], ?_⟩
  simp only [Bz6q, Bz6p, Bz6n, Nat.not_lt_zero, range1, yzx, ren_any, ren_ro, rnNm_n, rnNm_sn, rnNm_o, rnNm_s, ren_st, ren_tup, yzp, yzg, yz5, yzu, yzv, yzo, yzn, yzw, yzb, yzd, yzc, yz9, yzm, yzk, yz4, yz8, yza, yzf, yzl, yzj, List.range_zero, yz7, yz6, yze, yzt, yzh, yzs, AVal.fresh, freshL, yz2, yzi, AObj.fresh, id, Option.isSome_some, or_true, true_or, go_sem, yz0, Int.reduceLT, reduceLE, reduceToNat, reduceNeg, Nat.reduceLT, reduceLeDiff, reduceMul, reduceSub, reduceIte, reduceEqDiff, reduceAdd, reduceCtorEq]
  intro vs3
  refine wpD_lo (fun (_, _, _, _, _, _, k) => n.toNat - k) (fun (w, _, _, _, a, _, k) => SI w ∧ (∀ x ∈ w, 0 ≤ x ∧ x < k) ∧ w.length ≤ k ∧ 0 ≤ a ∧ a ≤ 2 * k ∧ (k : Int) ≤ n)
    (fun ((w, v10, v9, v3, a, s, k) : List Int × Nat × Nat × Nat × Int × Int × Nat) => ⟨L .any [(3, .ptr 3 v3 0), (5, .ptr 9 v9 0), (6, .own 10 v10), (7, iv k)], L .gone [(3, .box v3 [iv n, .ro none 1 (rwn next)]), (9, .box v9 (srcC code a s)), (10, .row v10 1 true (ints w))]⟩)
    ([], _, _, _, 0, 0, 0) ⟨by simp [SI], by simp, by simp, by simp, by simp, by simp; omega⟩ (by simp only [Bz1c, go_sem, yz0, Int.reduceLT, reduceLE, reduceToNat, reduceNeg, Nat.reduceLT, reduceLeDiff, reduceMul, reduceSub, reduceIte, reduceEqDiff, reduceAdd, reduceCtorEq]; rfl) ?_
  rintro ⟨w, v10, v9, v3, a, s, k⟩ ⟨hw, hx, hl, ha, ha2, hk⟩
  have hl : w.length ≤ k := hl
  have ha : 0 ≤ a := ha
  have ha2 : a ≤ 2 * k := ha2
  have hk : (k : Int) ≤ n := hk
  have hx : ∀ x ∈ w, 0 ≤ x ∧ x < (k : Int) := hx
  by_cases hlt : (k : Int) < n
  · have w1 : IntKind.i64.wrap ((k : Int) + 1) = ((k + 1 : Nat) : Int) := by rw [w64 (by omega)]; simp
    simp only [Bz1c, Bz36, Bz6m, decide_eq_true hlt, go_sem, yz0, Int.reduceLT, reduceLE, reduceToNat, reduceNeg, Nat.reduceLT, reduceLeDiff, reduceMul, reduceSub, reduceIte, reduceEqDiff, reduceAdd, reduceCtorEq]
    intro vs5
    refine call_funB (k_one code a s 2 hb (by omega)) rfl qCS qCS ?_
    rintro cs' x ⟨a', s', b, rfl, h1, h2, rfl⟩
    cases b with
    | true =>
      simp only [Bz37, Bz38, w1, Nat.not_lt_zero, range1, yzx, ren_any, ren_ro, rnNm_n, rnNm_sn, rnNm_o, rnNm_s, ren_st, ren_tup, yzp, yzg, yz5, yzu, yzv, yzo, yzn, yzw, yzb, yzd, yzc, yz9, yzm, yzk, yz4, yz8, yza, yzf, yzl, yzj, List.range_zero, yz7, yz6, yze, yzt, yzh, yzs, AVal.fresh, freshL, yz2, yzi, AObj.fresh, id, Option.isSome_some, or_true, true_or, go_sem, yz0, Int.reduceLT, reduceLE, reduceToNat, reduceNeg, Nat.reduceLT, reduceLeDiff, reduceMul, reduceSub, reduceIte, reduceEqDiff, reduceAdd, reduceCtorEq]
      intro vs6
      refine ⟨⟨_, rfl, rfl⟩, by omega, (w ++ [(k : Int)], _, _, _, a', s', k + 1), ?_, ⟨?_, ?_, ?_, ?_, ?_, ?_⟩, rfl⟩
      · show n.toNat - (k + 1) < n.toNat - k; omega
      · exact SI_snoc hw fun x h => (hx x h).2
      · intro x h
        rcases List.mem_append.1 h with h | h
        · have := hx x h; show 0 ≤ x ∧ x < ((k + 1 : Nat) : Int); omega
        · rw [List.mem_singleton.1 h]; show 0 ≤ (k : Int) ∧ (k : Int) < ((k + 1 : Nat) : Int); omega
      · show (w ++ [(k : Int)]).length ≤ k + 1; simp; omega
      · show 0 ≤ a'; omega
      · show a' ≤ 2 * ((k + 1 : Nat) : Int); omega
      · show ((k + 1 : Nat) : Int) ≤ n; omega
    | false =>
      simp only [Bz37, Bz38, w1, Nat.not_lt_zero, range1, yzx, ren_any, ren_ro, rnNm_n, rnNm_sn, rnNm_o, rnNm_s, ren_st, ren_tup, yzp, yzg, yz5, yzu, yzv, yzo, yzn, yzw, yzb, yzd, yzc, yz9, yzm, yzk, yz4, yz8, yza, yzf, yzl, yzj, List.range_zero, yz7, yz6, yze, yzt, yzh, yzs, AVal.fresh, freshL, yz2, yzi, AObj.fresh, id, Option.isSome_some, or_true, true_or, go_sem, yz0, Int.reduceLT, reduceLE, reduceToNat, reduceNeg, Nat.reduceLT, reduceLeDiff, reduceMul, reduceSub, reduceIte, reduceEqDiff, reduceAdd, reduceCtorEq]
      refine ⟨(w, _, _, _, a', s', k + 1), ?_, ⟨hw, ?_, ?_, ?_, ?_, ?_⟩, rfl⟩
      · show n.toNat - (k + 1) < n.toNat - k; omega
      · intro x h; have := hx x h; show 0 ≤ x ∧ x < ((k + 1 : Nat) : Int); omega
      · show w.length ≤ k + 1; omega
      · show 0 ≤ a'; omega
      · show a' ≤ 2 * ((k + 1 : Nat) : Int); omega
      · show ((k + 1 : Nat) : Int) ≤ n; omega
  · simp only [Bz1c, Bz36, Bz6o, decide_eq_false hlt, go_sem, yz0, Int.reduceLT, reduceLE, reduceToNat, reduceNeg, Nat.reduceLT, reduceLeDiff, reduceMul, reduceSub, reduceIte, reduceEqDiff, reduceAdd, reduceCtorEq]
    exact ⟨10, v10, w, by omega, rfl, by simp only [go_sem, yz0, Int.reduceLT, reduceLE, reduceToNat, reduceNeg, Nat.reduceLT, reduceLeDiff, reduceMul, reduceSub, reduceIte, reduceEqDiff, reduceAdd, reduceCtorEq], setB_iff.2 ⟨hw, fun x h => by have := hx x h; omega⟩⟩
end Go.Ab
namespace Go.Ab
open Go.Proofs
end Go.Ab
namespace Go.Ab
open Go.Proofs
end Go.Ab
namespace Go.Ab
def imN (next : List (List Int)) (f : Nat) (w : List Int) : Nat := w.foldl (fun f l => stepN (next.getD l.toNat []) f) f
theorem imN_snoc {next : List (List Int)} {f : Nat} {w : List Int} {x : Int} : imN next f (w ++ [x]) = stepN (next.getD x.toNat []) (imN next f w) := by simp [imN]
def SndT (next : List (List Int)) (f0 : Nat) (L : TS) : Prop := ∀ p ∈ L, p.1 = imN next f0 p.2
theorem SndT.vis {next : List (List Int)} {f0 f : Nat} {w : List Int} (hf : f = imN next f0 w) : ∀ (x : Nat) {L : TS}, SndT next f0 L → SndT next f0 (visT next f w x L)
  | 0, _, h => h
  | x + 1, L, h => by
    have h1 := SndT.vis hf x h
    rw [visT_succ]
    split
    · exact h1
    · intro p hp
      rcases List.mem_append.1 hp with hp | hp
      · exact h1 p hp
      · have hp : p = (stepN (next.getD x []) f, w ++ [(x : Int)]) := by simpa using hp
        rw [hp, imN_snoc, ← hf]; rfl
theorem SndT.run {next : List (List Int)} {f0 : Nat} : ∀ (F i : Nat) {L : TS}, SndT next f0 L → SndT next f0 (runT next F i L)
  | 0, _, _, h => h
  | F + 1, i, L, h => by
    simp only [runT]
    split
    · rename_i hi
      exact SndT.run F (i + 1) (SndT.vis (h _ (getD_mem hi _)) _ h)
    · exact h
theorem atA_app {next : List (List Int)} {s : Int} {u v : List Int} : atA next s (u ++ v) = atA next (atA next s u) v := by simp [atA, List.foldl_append]
theorem fidx_eq {q : Int} : ∀ {xs : List Int} (k : Nat), q ∈ xs → ∃ i : Nat, fidx (fun y => q == y) xs k = ((k + i : Nat) : Int) ∧ i < xs.length ∧ xs.getD i 0 = q
  | [], _, h => by simp at h
  | x :: xs, k, h => by
    by_cases e : q = x
    · exact ⟨0, by simp [fidx, e], by simp, by simpa using e.symm⟩
    · obtain ⟨i, h1, h2, h3⟩ := fidx_eq (xs := xs) (k + 1) (by simpa [e] using h)
      have e1 : (q == x) = false := beq_false_of_ne e
      refine ⟨i + 1, ?_, by simp; omega, by simpa using h3⟩
      simp only [fidx, e1, Bool.false_eq_true, if_false, h1]
      congr 1; omega
end Go.Ab
namespace Go.Ab
open Go.Proofs
end Go.Ab
namespace Go.Ab
structure ClS (n : Int) (next : List (List Int)) (set : List Int) : Prop where
  rg : ∀ x ∈ set, 0 ≤ x ∧ x < n
  cl : ∀ x ∈ set, ∀ row ∈ next, row.getD x.toNat 0 ∈ set
theorem renR_len {set row : List Int} : (renR set row).length = set.length := by simp [renR]
theorem Aut.rest {n : Int} {next : List (List Int)} {set : List Int} (A : Aut n next) (C : ClS n next set) (h0 : 1 ≤ set.length) (h1 : set.length ≤ 10) : Aut set.length (next.map (renR set)) := by
  have l1 := A.l1
  have l2 := A.l2
  refine ⟨by omega, by omega, by rw [List.length_map]; omega, by rw [List.length_map]; omega, ?_⟩
  intro row hr
  obtain ⟨row, hr', rfl⟩ := List.mem_map.1 hr
  refine ⟨by rw [renR_len], fun x hx => ?_⟩
  obtain ⟨s, hs, rfl⟩ := List.mem_map.1 hx
  obtain ⟨i, h1, h2, h3⟩ := fidx_eq 0 (C.cl s hs row hr')
  simp only [h1, Nat.zero_add]
  omega
theorem actA_getD {n : Int} {next : List (List Int)} {w : List Int} {i : Nat} (h : (i : Int) < n) : (actA n next w).getD i 0 = atA next i w := by
  rw [List.getD_eq_getElem?_getD, actA, List.getElem?_map, List.getElem?_range (by omega)]; rfl
end Go.Ab
namespace Go.Ab
open Go.Proofs
theorem k_a2Map (xs : List Int) (n : Int) (h : ∀ x ∈ xs, 0 ≤ x ∧ x < n) (hl : (xs.length : Int) = n) : Fun Try.prog nze [.ro none 1 (ints xs), iv n] (bv true) := by
  refine fun_of mixed czcu rfl ⟨rfl, trivial⟩ ?_
  simp only [Az6b, Bz6a, Bz68, go_sem, yz0, Int.reduceLT, reduceLE, reduceToNat, reduceNeg, Nat.reduceLT, reduceLeDiff, reduceMul, reduceSub, reduceIte, reduceEqDiff, reduceAdd, reduceCtorEq]
  refine wpD_lo (fun i => xs.length - i) (fun i => i ≤ xs.length)
    (fun (i : Nat) => ⟨L .any [(0, .ro none 1 (ints xs)), (1, iv n), (5, iv i)], L .gone []⟩)
    0 (by simp) (by simp only [Bz1b, go_sem, yz0, Int.reduceLT, reduceLE, reduceToNat, reduceNeg, Nat.reduceLT, reduceLeDiff, reduceMul, reduceSub, reduceIte, reduceEqDiff, reduceAdd, reduceCtorEq]; try rfl) ?_
  intro i hi
  by_cases hlt : (i : Int) < xs.length
  · have hlt1 : i < xs.length := by omega
    have hx := h _ (getD_mem hlt1 0)
    have g1 : ¬ xs.getD i 0 < 0 := by omega
    have g2 : ¬ xs.getD i 0 ≥ n := by omega
    simp only [Bz1b, Bz35, Bz67, yzy hlt1, decide_eq_true hlt, decide_eq_false g1, decide_eq_false g2, go_sem, yz0, Int.reduceLT, reduceLE, reduceToNat, reduceNeg, Nat.reduceLT, reduceLeDiff, reduceMul, reduceSub, reduceIte, reduceEqDiff, reduceAdd, reduceCtorEq]
    intro hM
    refine ⟨⟨by omega, hlt1⟩, hlt1, ⟨by omega, hlt1⟩, hlt1, ?_⟩
    simp only [Bz65, Bz66, nat1 i _ hlt1 hM, go_sem, yz0, Int.reduceLT, reduceLE, reduceToNat, reduceNeg, Nat.reduceLT, reduceLeDiff, reduceMul, reduceSub, reduceIte, reduceEqDiff, reduceAdd, reduceCtorEq]
    exact ⟨i + 1, by omega, by omega, rfl⟩
  · have e1 : ((xs.length : Int) == n) = true := by rw [hl]; simp
    simp only [Bz1b, Bz35, Bz69, e1, decide_eq_false hlt, go_sem, yz0, Int.reduceLT, reduceLE, reduceToNat, reduceNeg, Nat.reduceLT, reduceLeDiff, reduceMul, reduceSub, reduceIte, reduceEqDiff, reduceAdd, reduceCtorEq]
end Go.Ab
namespace Go.Ab
open Go.Proofs
theorem actA_rg2 {n : Int} {next : List (List Int)} (A : Aut n next) {w : List Int} (hw : IsW next.length w) : ((actA n next w).length : Int) = n ∧ ∀ x ∈ actA n next w, 0 ≤ x ∧ x < n := by
  have := A.n1
  refine ⟨by simp [actA]; omega, fun x hx => ?_⟩
  simp only [actA, List.mem_map, List.mem_range] at hx
  obtain ⟨s, hs, rfl⟩ := hx
  exact A.at (by omega) hw
theorem k_FnActions (code more : List Int) (hb : ∀ x ∈ code, 0 ≤ x ∧ x ≤ 255) (hb2 : ∀ x ∈ more, 0 ≤ x ∧ x ≤ 255) :
    Fun Try.prog nz5b [.ro (some (some 0)) 1 (intsK .u8 code), .ro (some (some 0)) 1 (intsK .u8 more)] (bv true) := by
  refine fun_of mixed czcq rfl ⟨rfl, trivial⟩ ?_
  simp only [Az5u, Bz5t, go_sem, yz0, Int.reduceLT, reduceLE, reduceToNat, reduceNeg, Nat.reduceLT, reduceLeDiff, reduceMul, reduceSub, reduceIte, reduceEqDiff, reduceAdd, reduceCtorEq]
  intro vs
  refine yzq (k_a2Long code more) qCS trivial ?_
  simp only [Bz5c, Bz5s, go_sem, yz0, Int.reduceLT, reduceLE, reduceToNat, reduceNeg, Nat.reduceLT, reduceLeDiff, reduceMul, reduceSub, reduceIte, reduceEqDiff, reduceAdd, reduceCtorEq]
  intro _ vs2
  refine call_sh (k_A2Automaton code hb) qCS (fun e => by cases e) ?_
  rintro outs rows res ⟨rfl, n, next, v, A, n7, rfl, rfl⟩
  refine ⟨rfl, by simp, by rw [Option.getD_some, yzh]; simp only [go_sem, yz0, Int.reduceLT, reduceLE, reduceToNat, reduceNeg, Nat.reduceLT, reduceLeDiff, reduceMul, reduceSub, reduceIte, reduceEqDiff, reduceAdd, reduceCtorEq], ?_⟩
  have n1 := A.n1
  have n2 := A.n2
  simp only [Bz5r, Nat.not_lt_zero, range1, yzx, ren_any, ren_ro, rnNm_n, rnNm_sn, rnNm_o, rnNm_s, ren_st, ren_tup, yzp, yzg, yz5, yzu, yzv, yzo, yzn, yzw, yzb, yzd, yzc, yz9, yzm, yzk, yz4, yz8, yza, yzf, yzl, yzj, List.range_zero, yz7, yz6, yze, yzt, yzh, yzs, AVal.fresh, freshL, yz2, yzi, AObj.fresh, id, Option.isSome_some, or_true, true_or, go_sem, yz0, Int.reduceLT, reduceLE, reduceToNat, reduceNeg, Nat.reduceLT, reduceLeDiff, reduceMul, reduceSub, reduceIte, reduceEqDiff, reduceAdd, reduceCtorEq]
  intro vs3
  refine call_rowI (k_A2Word more n next hb2 A.l1) qCS qWS ⟨[], by simp [IsW8]⟩ ?_
  rintro u v6 hu8
  have hu : IsW next.length u := hu8.2
  simp only [Bz5q, go_sem, yz0, Int.reduceLT, reduceLE, reduceToNat, reduceNeg, Nat.reduceLT, reduceLeDiff, reduceMul, reduceSub, reduceIte, reduceEqDiff, reduceAdd, reduceCtorEq]
  intro vs4
  refine call_rowI (k_A2Word code n next hb A.l1) qCS qWS ⟨[], by simp [IsW8]⟩ ?_
  rintro w v7 hw8
  have hw : IsW next.length w := hw8.2
  simp only [Bz5p, go_sem, yz0, Int.reduceLT, reduceLE, reduceToNat, reduceNeg, Nat.reduceLT, reduceLeDiff, reduceMul, reduceSub, reduceIte, reduceEqDiff, reduceAdd, reduceCtorEq]
  intro vs5
  refine call_rowI (k_A2Set more n next hb2 (by omega)) qCS qWS ⟨[], by simp [setB, allIn, SI]⟩ ?_
  rintro set v8 hset
  simp only [Bz5o, go_sem, yz0, Int.reduceLT, reduceLE, reduceToNat, reduceNeg, Nat.reduceLT, reduceLeDiff, reduceMul, reduceSub, reduceIte, reduceEqDiff, reduceAdd, reduceCtorEq]
  intro vs6
  refine call_rowI (k_A2Set code n next hb (by omega)) qCS qWS ⟨[], by simp [setB, allIn, SI]⟩ ?_
  rintro other v9 hoth
  simp only [Bz5n, go_sem, yz0, Int.reduceLT, reduceLE, reduceToNat, reduceNeg, Nat.reduceLT, reduceLeDiff, reduceMul, reduceSub, reduceIte, reduceEqDiff, reduceAdd, reduceCtorEq]
  intro vs7
  have hu4 : u.length ≤ 400 := by have := hu8.1; omega
  have hw4 : w.length ≤ 400 := by have := hw8.1; omega
  refine call_tupI (k_ActionOf n next u A hu hu4) qCS qWS ⟨_, rfl⟩ ?_
  rintro xs v10 rfl
  simp only [Bz5m, go_sem, yz0, Int.reduceLT, reduceLE, reduceToNat, reduceNeg, Nat.reduceLT, reduceLeDiff, reduceMul, reduceSub, reduceIte, reduceEqDiff, reduceAdd, reduceCtorEq]
  intro vs8
  refine call_tupI (k_ActionOf n next w A hw hw4) qCS qWS ⟨_, rfl⟩ ?_
  rintro ys v12 rfl
  simp only [Bz5l, go_sem, yz0, Int.reduceLT, reduceLE, reduceToNat, reduceNeg, Nat.reduceLT, reduceLeDiff, reduceMul, reduceSub, reduceIte, reduceEqDiff, reduceAdd, reduceCtorEq]
  intro vs9
  refine call_rowI (k_a2Both u w (by have := hu8.1; have := hw8.1; omega)) qCS qWS ⟨_, rfl⟩ ?_
  rintro uw v13 rfl
  have huw : IsW next.length (u ++ w) := fun x hx => by
    rcases List.mem_append.1 hx with h | h
    · exact hu x h
    · exact hw x h
  simp only [go_sem, yz0, Int.reduceLT, reduceLE, reduceToNat, reduceNeg, Nat.reduceLT, reduceLeDiff, reduceMul, reduceSub, reduceIte, reduceEqDiff, reduceAdd, reduceCtorEq]
  refine call_tupI (k_ActionOf n next (u ++ w) A huw (by have := hu8.1; have := hw8.1; rw [List.length_append]; omega)) qCS qWS ⟨_, rfl⟩ ?_
  rintro zs v14 rfl
  simp only [Bz5k, go_sem, yz0, Int.reduceLT, reduceLE, reduceToNat, reduceNeg, Nat.reduceLT, reduceLeDiff, reduceMul, reduceSub, reduceIte, reduceEqDiff, reduceAdd, reduceCtorEq]
  intro vs10
  have hub : wordB next.length u = true := wordB_iff.2 ⟨by omega, hu⟩
  have hI := k_ImageOf n next set u
  have hP := k_PreimageOf n next other u
  rw [autB_iff.2 A, hset, hub] at hI
  rw [autB_iff.2 A, hoth, hub] at hP
  refine call_rowT hI qCS qWS (fun _ v16 => ?_) (fun h => by cases h)
  simp only [Bz5j, go_sem, yz0, Int.reduceLT, reduceLE, reduceToNat, reduceNeg, Nat.reduceLT, reduceLeDiff, reduceMul, reduceSub, reduceIte, reduceEqDiff, reduceAdd, reduceCtorEq]
  intro vs11
  refine call_rowT hP qCS qWS (fun _ v18 => ?_) (fun h => by cases h)
  have xa := actA_rg2 A hu
  have ya := actA_rg2 A hw
  have za := actA_rg2 A huw
  have hx1 : ∀ i : Nat, (i : Int) < n → (actA n next u).getD i 0 = atA next i u := fun i h => actA_getD h
  have hz1 : ∀ i : Nat, (i : Int) < n → (actA n next (u ++ w)).getD i 0 = (actA n next w).getD ((actA n next u).getD i 0).toNat 0 := fun i h => by
    have hr := A.at (s := i) (by omega) hu
    rw [actA_getD h, actA_getD h, actA_getD (i := (atA next i u).toNat) (by omega), atA_app]
    congr 1; omega
  have hb1 : ∀ i : Nat, (i : Int) < n → (preA next other u n.toNat).contains (i : Int) = other.contains (atA next i u) := fun i h => by
    rw [Bool.eq_iff_iff, List.contains_iff_mem, List.contains_iff_mem, preA_mem]
    exact ⟨fun h => h.2, fun h2 => ⟨by omega, h2⟩⟩
  have hi1 : ∀ s : Int, set.contains s = true → (nrm (set.map fun s => atA next s u)).contains (atA next s u) = true := fun s h => by
    rw [List.contains_iff_mem] at h ⊢
    rw [nrm_mem]
    exact List.mem_map.2 ⟨s, h, rfl⟩
  have hset2 := (setB_iff.1 hset).2
  have hin : ((nrm (set.map fun s => atA next s u)).all fun x => other.contains x) = (set.all fun x => (preA next other u n.toNat).contains x) := by
    rw [Bool.eq_iff_iff, List.all_eq_true, List.all_eq_true]
    constructor
    · intro h s hs
      have h1 := hset2 s hs
      have h2 := h (atA next s u) (nrm_mem.2 (List.mem_map.2 ⟨s, hs, rfl⟩))
      rw [List.contains_iff_mem] at h2 ⊢
      exact preA_mem.2 ⟨by omega, h2⟩
    · intro h x hx
      obtain ⟨s, hs, rfl⟩ := List.mem_map.1 (nrm_mem.1 hx)
      have h2 := h s hs
      rw [List.contains_iff_mem] at h2 ⊢
      exact (preA_mem.1 h2).2
  have hlen : (nrm (set.map fun s => atA next s u)).length ≤ set.length := by
    have := nrm_len (set.map fun s => atA next s u)
    rwa [List.length_map] at this
  have e0 : codeI true (true && true) = 0 := by simp [codeI]
  generalize hxx : actA n next u = x at xa hx1 hz1
  generalize hyy : actA n next w = y at ya hz1
  generalize hzz : actA n next (u ++ w) = z at za hz1
  generalize hmm : (nrm (set.map fun s => atA next s u)) = im at hi1 hin hlen
  generalize hbb : preA next other u n.toNat = bk at hb1 hin
  have e00 : ((0 : Int) != 0) = false := rfl
  simp only [e0, e00, Bz5i, go_sem, yz0, Int.reduceLT, reduceLE, reduceToNat, reduceNeg, Nat.reduceLT, reduceLeDiff, reduceMul, reduceSub, reduceIte, reduceEqDiff, reduceAdd, reduceCtorEq]
  intro vs12
  refine yzq (k_a2Map x n xa.2 xa.1) qCS trivial ?_
  simp only [go_sem, yz0, Int.reduceLT, reduceLE, reduceToNat, reduceNeg, Nat.reduceLT, reduceLeDiff, reduceMul, reduceSub, reduceIte, reduceEqDiff, reduceAdd, reduceCtorEq]
  refine yzq (k_a2Map y n ya.2 ya.1) qCS trivial ?_
  simp only [go_sem, yz0, Int.reduceLT, reduceLE, reduceToNat, reduceNeg, Nat.reduceLT, reduceLeDiff, reduceMul, reduceSub, reduceIte, reduceEqDiff, reduceAdd, reduceCtorEq]
  refine yzq (k_a2Map z n za.2 za.1) qCS trivial ?_
  simp only [Bz5d, Bz5h, Bz5f, go_sem, yz0, Int.reduceLT, reduceLE, reduceToNat, reduceNeg, Nat.reduceLT, reduceLeDiff, reduceMul, reduceSub, reduceIte, reduceEqDiff, reduceAdd, reduceCtorEq]
  refine wpD_lo (fun i => n.toNat - i) (fun i => (i : Int) ≤ n)
    (fun (i : Nat) => ⟨L .any [(5, .ptr 5 (vs2 2 0) 0), (8, .own 34 v8), (9, .own 37 v9), (10, .own 41 v10), (12, .own 47 v12), (14, .own 55 v14), (16, .own 62 v16), (18, .own 69 v18), (20, iv i)],
      L .gone [(5, .box (vs2 2 0) [iv n, .own 25 (vs2 1 v)]), (25, .row (vs2 1 v) 1 true (rws next)), (28, .row v6 1 true (ints u)), (31, .row v7 1 true (ints w)), (34, .row v8 1 true (ints set)),
        (37, .row v9 1 true (ints other)), (41, .row v10 1 true (ints x)), (47, .row v12 1 true (ints y)), (54, .row v13 1 true (ints (u ++ w))), (55, .row v14 1 true (ints z)), (62, .row v16 1 true (ints im)), (69, .row v18 1 true (ints bk))]⟩)
    0 (by simp; omega) (by simp only [Bz19, dnL_rws, go_sem, yz0, Int.reduceLT, reduceLE, reduceToNat, reduceNeg, Nat.reduceLT, reduceLeDiff, reduceMul, reduceSub, reduceIte, reduceEqDiff, reduceAdd, reduceCtorEq]; try rfl) ?_
  intro i hi
  by_cases hil : (i : Int) < n
  · have hix : i < x.length := by omega
    have hiz : i < z.length := by omega
    have hxr := xa.2 _ (getD_mem hix 0)
    have hxy : (x.getD i 0).toNat < y.length := by omega
    have w2 : IntKind.i64.wrap ((i : Int) + 1) = ((i + 1 : Nat) : Int) := by rw [w64 (by omega)]; simp
    have hzi := hz1 i hil
    have hbi := hb1 i hil
    rw [← hx1 i hil] at hbi
    have hii := hi1 i
    rw [← hx1 i hil] at hii
    simp only [Bz19, Bz31, Bz5e, decide_eq_true hil, yzy hix, yzy hiz, yzy hxy, hzi, bne_self_eq_false, dnL_rws, go_sem, yz0, Int.reduceLT, reduceLE, reduceToNat, reduceNeg, Nat.reduceLT, reduceLeDiff, reduceMul, reduceSub, reduceIte, reduceEqDiff, reduceAdd, reduceCtorEq]
    intro vs13
    refine ⟨⟨by omega, hiz⟩, hiz, ⟨by omega, hix⟩, hix, ⟨hxr.1, hxy⟩, hxy, ?_⟩
    refine yzq (k_a2Has bk i) qCS trivial ?_
    rw [hbi]
    have hoc := k_a2Has other (x.getD i 0)
    generalize other.contains (x.getD i 0) = B at hoc
    simp only [yzy hix, go_sem, yz0, Int.reduceLT, reduceLE, reduceToNat, reduceNeg, Nat.reduceLT, reduceLeDiff, reduceMul, reduceSub, reduceIte, reduceEqDiff, reduceAdd, reduceCtorEq]
    refine ⟨⟨by omega, hix⟩, hix, ?_⟩
    refine yzq hoc qCS trivial ?_
    simp only [bne_self_eq_false, go_sem, yz0, Int.reduceLT, reduceLE, reduceToNat, reduceNeg, Nat.reduceLT, reduceLeDiff, reduceMul, reduceSub, reduceIte, reduceEqDiff, reduceAdd, reduceCtorEq]
    refine yzq (k_a2Has set i) qCS trivial ?_
    cases hs : set.contains (i : Int) with
    | false =>
      simp only [Bz32, Bz33, w2, dnL_rws, go_sem, yz0, Int.reduceLT, reduceLE, reduceToNat, reduceNeg, Nat.reduceLT, reduceLeDiff, reduceMul, reduceSub, reduceIte, reduceEqDiff, reduceAdd, reduceCtorEq]
      exact ⟨i + 1, by omega, by omega, rfl⟩
    | true =>
      simp only [yzy hix, go_sem, yz0, Int.reduceLT, reduceLE, reduceToNat, reduceNeg, Nat.reduceLT, reduceLeDiff, reduceMul, reduceSub, reduceIte, reduceEqDiff, reduceAdd, reduceCtorEq]
      refine ⟨⟨by omega, hix⟩, hix, ?_⟩
      refine yzq (k_a2Has im (x.getD i 0)) qCS trivial ?_
      simp only [hii hs, Bool.not_true, Bz32, Bz33, w2, dnL_rws, go_sem, yz0, Int.reduceLT, reduceLE, reduceToNat, reduceNeg, Nat.reduceLT, reduceLeDiff, reduceMul, reduceSub, reduceIte, reduceEqDiff, reduceAdd, reduceCtorEq]
      exact ⟨i + 1, by omega, by omega, rfl⟩
  · simp only [Bz19, Bz31, Bz5g, decide_eq_false hil, dnL_rws, go_sem, yz0, Int.reduceLT, reduceLE, reduceToNat, reduceNeg, Nat.reduceLT, reduceLeDiff, reduceMul, reduceSub, reduceIte, reduceEqDiff, reduceAdd, reduceCtorEq]
    intro vs13
    refine yzq (k_a2Inside im other) qCS trivial ?_
    simp only [go_sem, yz0, Int.reduceLT, reduceLE, reduceToNat, reduceNeg, Nat.reduceLT, reduceLeDiff, reduceMul, reduceSub, reduceIte, reduceEqDiff, reduceAdd, reduceCtorEq]
    refine yzq (k_a2Inside set bk) qCS trivial ?_
    have hl2 : ((im.length : Nat) : Int) ≤ ((set.length : Nat) : Int) := by omega
    rw [hin]
    simp only [beq_self_eq_true, decide_eq_true hl2, go_sem, yz0, Int.reduceLT, reduceLE, reduceToNat, reduceNeg, Nat.reduceLT, reduceLeDiff, reduceMul, reduceSub, reduceIte, reduceEqDiff, reduceAdd, reduceCtorEq]
end Go.Ab
