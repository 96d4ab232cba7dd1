/- Contracts and what they lean on, part 10. Conditions: none. -/
import Derived.Test.YtogbdeciakomgaaGreatZ9
set_option maxRecDepth 100000
set_option maxHeartbeats 4000000
set_option linter.all false
open Nat (reduceLeDiff reduceMul reduceSub reduceEqDiff reduceAdd)
open Int (reduceToNat reduceNeg reduceLE)
namespace Go.Ab
open Go.Proofs
theorem Filling.ex {next : List (List Int)} {states : List Int} (hst : states.length = (gapsP next next.length).length) : ∃ ps : List (Nat × List Int), Filling next states (ps.map (·.2)) ∧ DJ ps := by
  refine ⟨(List.range next.length).map fun i => (i, (next.getD i []).map fun y => if y < 0 then states.getD 0 0 else y), ?_, ?_⟩
  · have hg : ∀ l < next.length, (((List.range next.length).map fun i => (i, (next.getD i []).map fun y => if y < 0 then states.getD 0 0 else y)).map (·.2)).getD l [] = (next.getD l []).map fun y => if y < 0 then states.getD 0 0 else y := fun l hl => by
      rw [List.map_map, List.getD_eq_getElem?_getD, List.getElem?_map, List.getElem?_range hl]; rfl
    have hx : ∀ l < next.length, ∀ s < (next.getD l []).length, ((next.getD l []).map fun y => if y < 0 then states.getD 0 0 else y).getD s 0 = if (next.getD l []).getD s 0 < 0 then states.getD 0 0 else (next.getD l []).getD s 0 := fun l hl s hs => by
      have e : (next.getD l []).getD s 0 = (next.getD l [])[s] := by rw [List.getD_eq_getElem?_getD, List.getElem?_eq_getElem hs]; rfl
      rw [e, List.getD_eq_getElem?_getD, List.getElem?_map, List.getElem?_eq_getElem hs]; rfl
    refine ⟨by simp, fun l hl => by rw [hg l hl, List.length_map], fun l hl s hs h => ?_, fun l hl s hs h => ?_⟩
    · rw [hg l hl, hx l hl s hs, if_neg (by omega)]
    · rw [hg l hl, hx l hl s hs, if_pos h]
      have hm := mem_gapsP.2 ⟨hl, hs, h⟩
      exact yzw (by rw [hst]; exact List.length_pos_of_mem hm) 0
  · unfold DJ
    rw [List.pairwise_map]
    exact List.nodup_range.imp fun h => .inr (.inr h)
def TrapOf (n : Int) (next ws : List (List Int)) : Prop := ∃ fs, Filling next (List.replicate (gapsP next next.length).length n) fs ∧ ws = fs.map fun r => r ++ [n]
theorem k_Trap (n : Int) (next : List (List Int)) (P : Prt n next) (hn9 : n ≤ 9) : Fn Tryz.prog nz1k [autA n next] fun rows res => ∃ v ps, rows = [.row v 1 true (rwp ps)] ∧ TrapOf n next (ps.map (·.2)) ∧ res = .tup [.st [iv (n + 1), .own 6000 v], iv 0] := by
  refine con_old ?_ (fun outs rows res hR => by
    obtain ⟨h, v, ps, rfl, _, rfl⟩ := hR
    exact ⟨h, fun o ho => by rw [List.mem_singleton.1 ho]; exact fresh_rwp, by simp [AVal.fresh, freshL]⟩)
  simp only [oldL, AVal.oldn, oldL_ints, oldL_rwn]
  refine con_of mixed czhd rfl (by simp) ?_
  generalize hQ : finQ _ = Q
  have n1 := P.n1
  have n2 := P.n2
  have l1 := P.l1
  have l2 := P.l2
  have hgh := gaps_half (next := next)
  have hg100 := gapsP_len P
  have h10 : (n == 10) = false := beq_false_of_ne (by omega)
  simp only [Az5a, Bz9n, wpD_kp, yzy, go_sem, yz0, Int.reduceLT, reduceLE, reduceToNat, reduceNeg, Nat.reduceLT, reduceLeDiff, reduceMul, reduceSub, reduceIte, reduceEqDiff, reduceAdd, reduceCtorEq]
  intro vs0 U0 hN0 vs1 U1 hN1
  refine yzr (k_ValidPartial n next P) (by simp only [coeL_rwno, rowIs, boxIs, coe_argN, coe_argNs, coe_ro_o, coeL_nil, yz13, coe_any, coe_val, coe_ro, coe_ro_nil, coe_ro_own, coe_st, coe_st_agg, coe_rp, coe_rp_ptr, coe_clo, coe_own0, coe_ptr0, yz19, coeL_rws, coeL_rwn, L_hit, L_miss, L_nil, reduceEqDiff, ne_eq, reduceCtorEq, not_false_eq_true, true_and, and_true, and_self, exists_eq_left, exists_eq_right, List.mem_cons, List.not_mem_nil, or_false, AObj.row.injEq, AObj.box.injEq, exists_eq_left', exists_and_left, exists_eq, Nat.zero_lt_one, Nat.lt_add_one, List.map_cons, List.map_nil, AObj.ver, Nat.reduceLT, not_true_eq_false]) trivial ?_
  simp only [Bz9e, Bool.not_true, wpD_kp, yzy, go_sem, yz0, Int.reduceLT, reduceLE, reduceToNat, reduceNeg, Nat.reduceLT, reduceLeDiff, reduceMul, reduceSub, reduceIte, reduceEqDiff, reduceAdd, reduceCtorEq]
  intro vs2 U2 hN2
  simp only [h10, Bz9d, Bz9m, wpD_kp, yzy, go_sem, yz0, Int.reduceLT, reduceLE, reduceToNat, reduceNeg, Nat.reduceLT, reduceLeDiff, reduceMul, reduceSub, reduceIte, reduceEqDiff, reduceAdd, reduceCtorEq]
  intro vs3 U3 hN3
  refine ⟨⟨_, rfl, rfl⟩, ?_⟩
  refine call_fn (k_gaps n next P) (by simp only [coeL_rwno, rowIs, boxIs, coe_argN, coe_argNs, coe_ro_o, coeL_nil, yz13, coe_any, coe_val, coe_ro, coe_ro_nil, coe_ro_own, coe_st, coe_st_agg, coe_rp, coe_rp_ptr, coe_clo, coe_own0, coe_ptr0, yz19, coeL_rws, coeL_rwn, L_hit, L_miss, L_nil, reduceEqDiff, ne_eq, reduceCtorEq, not_false_eq_true, true_and, and_true, and_self, exists_eq_left, exists_eq_right, List.mem_cons, List.not_mem_nil, or_false, AObj.row.injEq, AObj.box.injEq, exists_eq_left', exists_and_left, exists_eq, Nat.zero_lt_one, Nat.lt_add_one, List.map_cons, List.map_nil, AObj.ver, Nat.reduceLT, not_true_eq_false]) (fun _ => ⟨_, _, 0, rfl, rfl⟩) ?_
  rintro rows res ⟨v, rfl, rfl⟩
  refine ⟨by simp, by rw [Option.getD_some, yzf]; simp only [go_sem, yz0, Int.reduceLT, reduceLE, reduceToNat, reduceNeg, Nat.reduceLT, reduceLeDiff, reduceMul, reduceSub, reduceIte, reduceEqDiff, reduceAdd, reduceCtorEq], ?_⟩
  simp only [Option.getD_some, hgh, wpD_kp, yzy, Nat.not_lt_zero, range1, yzx, yz10, yz15, yz14, yz11, yz18, yz17, yz16, yzz, yzp, yzh, yz3, yzv, yzs, yzq, yzn, yzu, yzd, yze, yz8, yzc, yzm, yzj, yz2, yzb, yz9, yz7, yzl, yzk, List.range_zero, yz4, yz5, yza, yzo, yzf, yzt, AVal.fresh, freshL, yz1, yzi, AObj.fresh, id, Option.isSome_some, or_true, true_or, go_sem, yz0, Int.reduceLT, reduceLE, reduceToNat, reduceNeg, Nat.reduceLT, reduceLeDiff, reduceMul, reduceSub, reduceIte, reduceEqDiff, reduceAdd, reduceCtorEq]
  refine call_rowIs (k_Repeat n (gapsP next next.length).length (by omega)) qCS rfl ⟨_, rfl⟩ ?_
  rintro ys w rfl
  have hkF := k_filled n next P (List.replicate (gapsP next next.length).length n) (by simp) (by simp; omega)
  have hex := Filling.ex (next := next) (states := List.replicate (gapsP next next.length).length n) (by simp)
  simp only [wpD_kp, yzy, go_sem, yz0, Int.reduceLT, reduceLE, reduceToNat, reduceNeg, Nat.reduceLT, reduceLeDiff, reduceMul, reduceSub, reduceIte, reduceEqDiff, reduceAdd, reduceCtorEq]
  refine call_fn hkF (by simp only [coeL_rwno, rowIs, boxIs, coe_argN, coe_argNs, coe_ro_o, coeL_nil, yz13, coe_any, coe_val, coe_ro, coe_ro_nil, coe_ro_own, coe_st, coe_st_agg, coe_rp, coe_rp_ptr, coe_clo, coe_own0, coe_ptr0, yz19, coeL_rws, coeL_rwn, L_hit, L_miss, L_nil, reduceEqDiff, ne_eq, reduceCtorEq, not_false_eq_true, true_and, and_true, and_self, exists_eq_left, exists_eq_right, List.mem_cons, List.not_mem_nil, or_false, AObj.row.injEq, AObj.box.injEq, exists_eq_left', exists_and_left, exists_eq, Nat.zero_lt_one, Nat.lt_add_one, List.map_cons, List.map_nil, AObj.ver, Nat.reduceLT, not_true_eq_false]) (fun _ => by
    obtain ⟨ps, h1, h2⟩ := hex
    exact ⟨_, _, 0, ps, rfl, h1, h2, rfl⟩) ?_
  rintro rows res ⟨u, ps, rfl, hF, hd, rfl⟩
  refine ⟨by simp, by rw [Option.getD_some, yzf]; simp only [go_sem, yz0, Int.reduceLT, reduceLE, reduceToNat, reduceNeg, Nat.reduceLT, reduceLeDiff, reduceMul, reduceSub, reduceIte, reduceEqDiff, reduceAdd, reduceCtorEq], ?_⟩
  simp only [Option.getD_some, List.length_singleton, wpD_kp, yzy, renL_rwp, Nat.not_lt_zero, range1, yzx, yz10, yz15, yz14, yz11, yz18, yz17, yz16, yzz, yzp, yzh, yz3, yzv, yzs, yzq, yzn, yzu, yzd, yze, yz8, yzc, yzm, yzj, yz2, yzb, yz9, yz7, yzl, yzk, List.range_zero, yz4, yz5, yza, yzo, yzf, yzt, AVal.fresh, freshL, yz1, yzi, AObj.fresh, id, Option.isSome_some, or_true, true_or, go_sem, yz0, Int.reduceLT, reduceLE, reduceToNat, reduceNeg, Nat.reduceLT, reduceLeDiff, reduceMul, reduceSub, reduceIte, reduceEqDiff, reduceAdd, reduceCtorEq]
  obtain ⟨fs, hfs⟩ : ∃ fs, fs = ps.map (·.2) := ⟨_, rfl⟩
  obtain ⟨qs, hqs⟩ : ∃ qs, qs = ps.map fun p => (vs3 8 p.1, p.2) := ⟨_, rfl⟩
  have hq1 : qs.map (·.2) = fs := by rw [hqs, hfs]; exact map_named
  have hq2 : DJ qs := by rw [hqs]; exact hd.ren fun x y e => (hN3.inj _ _ _ _ e).2
  rw [← hfs] at hF
  rw [← hqs]
  have hfr := hF.aut P (m := n + 1) (by omega) (by omega) (fun x hx => by rw [List.mem_replicate] at hx; omega)
  have hfl : fs.length = next.length := hF.len
  have hql0 : qs.length = fs.length := by rw [← hq1, List.length_map]
  have w1 : IntKind.i64.wrap (n + 1) = n + 1 := w64 (by omega)
  simp only [Bz9l, w1, wpD_kp, yzy, go_sem, yz0, Int.reduceLT, reduceLE, reduceToNat, reduceNeg, Nat.reduceLT, reduceLeDiff, reduceMul, reduceSub, reduceIte, reduceEqDiff, reduceAdd, reduceCtorEq]
  intro vs4 U4 hN4
  simp only [Bz9k, wpD_kp, yzy, go_sem, yz0, Int.reduceLT, reduceLE, reduceToNat, reduceNeg, Nat.reduceLT, reduceLeDiff, reduceMul, reduceSub, reduceIte, reduceEqDiff, reduceAdd, reduceCtorEq]
  intro vs5 U5 hN5
  simp only [rwp_len, hql0, hfl, wpD_kp, yzy, go_sem, yz0, Int.reduceLT, reduceLE, reduceToNat, reduceNeg, Nat.reduceLT, reduceLeDiff, reduceMul, reduceSub, reduceIte, reduceEqDiff, reduceAdd, reduceCtorEq]
  intro _
  simp only [Bz9i, wpD_kp, yzy, go_sem, yz0, Int.reduceLT, reduceLE, reduceToNat, reduceNeg, Nat.reduceLT, reduceLeDiff, reduceMul, reduceSub, reduceIte, reduceEqDiff, reduceAdd, reduceCtorEq]
  refine wpD_lp (fun (i, _) => next.length - i) (fun (i, qs) => i ≤ next.length ∧ DJ qs ∧ List.map (·.2) qs = (fs.take i).map (fun r => r ++ [n]) ++ fs.drop i)
    (fun ((i, qs) : Nat × List (Nat × List Int)) => ⟨L .any [(1, .ptr 1 (vs0 0 0) 0), (2, .ptr 2 (vs0 1 0) 0), (4, .ptr 4 (vs3 9 0) 0), (31, iv next.length), (32, iv i)],
      L .gone [(1, .box (vs0 0 0) [iv n, .ro (some (some 0)) 1 (rwo next)]), (2, .box (vs0 1 0) [iv 0, nilS]), (4, .box (vs3 9 0) [iv (n + 1), .own 24 (vs3 8 u)]), (19, .row (vs3 3 0) 1 true [iv n]), (21, .row (vs3 5 v) 2 true (ints (gapsF next next.length))), (23, .row (vs3 7 w) 1 true (ints (List.replicate (gapsP next next.length).length n))), (24, .row (vs3 8 u) 1 true (rwp qs)), (46, .gone), (5000, .gone), (901, .gone)]⟩)
    (0, qs) ⟨by simp, hq2, by rw [hq1]; simp⟩ (by simp only [Bz2j, wpD_kp, yzy, go_sem, yz0, Int.reduceLT, reduceLE, reduceToNat, reduceNeg, Nat.reduceLT, reduceLeDiff, reduceMul, reduceSub, reduceIte, reduceEqDiff, reduceAdd, reduceCtorEq]; try rfl) ?_
  rintro ⟨i, xs⟩ ⟨hi, hdx, hxs⟩
  have hi : i ≤ next.length := hi
  have hdx : DJ xs := hdx
  have hxs : xs.map (·.2) = (fs.take i).map (fun r => r ++ [n]) ++ fs.drop i := hxs
  have hxl : xs.length = next.length := by
    have := congrArg List.length hxs
    rw [List.length_map, List.length_append, List.length_map, List.length_take, List.length_drop] at this
    omega
  by_cases hlt : (i : Int) < next.length
  · have hlt1 : i < next.length := by omega
    have wi : IntKind.i64.wrap ((i : Int) + 1) = ((i + 1 : Nat) : Int) := by rw [w64 (by omega)]; simp
    have hlf : i < fs.length := by omega
    have hat : i < xs.length := by omega
    have hfm := hfr _ (yzw hlf [])
    have hdr : fs.drop i = fs.getD i [] :: fs.drop (i + 1) := by
      rw [List.drop_eq_getElem_cons hlf, List.getD_eq_getElem?_getD, List.getElem?_eq_getElem hlf]; rfl
    have htk : fs.take (i + 1) = fs.take i ++ [fs.getD i []] := by
      rw [List.take_succ_eq_append_getElem hlf, List.getD_eq_getElem?_getD, List.getElem?_eq_getElem hlf]; rfl
    generalize fs.getD i [] = fr at hfm hdr htk
    obtain ⟨A2, b, C2, rfl, hAk⟩ := rwp_split hat
    rw [hdr, List.map_append, List.map_cons] at hxs
    obtain ⟨hA, hB⟩ := List.append_inj hxs (by rw [List.length_map, List.length_map, List.length_take]; omega)
    obtain ⟨hb, hC⟩ := List.cons.inj hB
    have hbl := hfm.1
    rw [← hb] at hbl
    have hbn : b.2 ≠ [] := fun e => by rw [e, List.length_nil] at hbl; omega
    have F0a := DJ_out hdx hbn
    simp only [Bz2j, Bz59, Bz9h, decide_eq_true hlt, wpD_kp, yzy, go_sem, yz0, Int.reduceLT, reduceLE, reduceToNat, reduceNeg, Nat.reduceLT, reduceLeDiff, reduceMul, reduceSub, reduceIte, reduceEqDiff, reduceAdd, reduceCtorEq]
    intro vs6 U6 hN6 vs7 U7 hN7
    simp only [Bz9f, wpD_kp, wpD_gh, go_sem, yz0, Int.reduceLT, reduceLE, reduceToNat, reduceNeg, Nat.reduceLT, reduceLeDiff, reduceMul, reduceSub, reduceIte, reduceEqDiff, reduceAdd, reduceCtorEq]
    intro _
    refine ⟨[.thaw 24 i 901], gwp_thaw (n := b.1) rfl (rwp_get hAk.symm) (by simpa using hbn) rfl fun m1 => ?_⟩
    have hset : (woL b.1 (rwp (A2 ++ b :: C2))).set i (AVal.own 901 m1) = rwp A2 ++ AVal.own 901 m1 :: rwp C2 := by rw [← hAk]; exact woL_set F0a
    have ho1 : (rwp A2 ++ AVal.own 901 m1 :: rwp C2).getD i .any = .own 901 m1 := own_at hAk.symm
    have hol : (rwp A2 ++ AVal.own 901 m1 :: rwp C2).length = (A2 ++ b :: C2).length := by rw [List.length_append, List.length_cons, rwp_len, rwp_len, List.length_append, List.length_cons]
    simp only [hset, woL_rwo, woT, woO, woL_cons, woL_nil, woV_val, woV_own, wo_ptr, wo_o, woL_ints, wo_st, woO_row, woO_box, woO_gone, wo_any, gwp_nil, wpD_kp, yzy, go_sem, yz0, Int.reduceLT, reduceLE, reduceToNat, reduceNeg, Nat.reduceLT, reduceLeDiff, reduceMul, reduceSub, reduceIte, reduceEqDiff, reduceAdd, reduceCtorEq]
    intro vs8 U8 hN8
    simp only [ho1, hol, wpD_kp, yzy, go_sem, yz0, Int.reduceLT, reduceLE, reduceToNat, reduceNeg, Nat.reduceLT, reduceLeDiff, reduceMul, reduceSub, reduceIte, reduceEqDiff, reduceAdd, reduceCtorEq]
    refine ⟨⟨by omega, hat⟩, hat, ⟨_, rfl, rfl⟩, by omega, ⟨by omega, hat⟩, by omega, ?_⟩
    have hU := hN8.hp 24
    simp only [AObj.uses, go_sem, yz0, Int.reduceLT, reduceLE, reduceToNat, reduceNeg, Nat.reduceLT, reduceLeDiff, reduceMul, reduceSub, reduceIte, reduceEqDiff, reduceAdd, reduceCtorEq] at hU
    have hold := usesL_rwp2 hU.2
    have hfresh : ∀ p ∈ A2 ++ C2, p.2 = [] ∨ p.1 ≠ vs8 11 0 := fun p hp => by
      rcases hold p hp with h | h
      · exact .inl h
      · exact .inr fun e => hN8.new 11 0 (e ▸ h)
    have hput : ∀ X : AVal, List.take i (rwp A2 ++ AVal.own 901 m1 :: rwp C2) ++ [X] ++ List.drop (i + 1) (rwp A2 ++ AVal.own 901 m1 :: rwp C2) = rwp A2 ++ X :: rwp C2 := fun X => by
      rw [← hAk, List.take_left' (by rw [rwp_len]), List.drop_append, rwp_len, List.drop_eq_nil_of_le (by rw [rwp_len]; omega), List.nil_append, Nat.add_sub_cancel_left, List.append_assoc]; rfl
    simp only [Bz9g, hput, rwp_cat, wi, wpD_kp, yzy, go_sem, yz0, Int.reduceLT, reduceLE, reduceToNat, reduceNeg, Nat.reduceLT, reduceLeDiff, reduceMul, reduceSub, reduceIte, reduceEqDiff, reduceAdd, reduceCtorEq]
    intro vs9 U9 hN9
    refine ⟨(i + 1, A2 ++ (vs8 11 0, b.2 ++ [n]) :: C2), by dsimp only; omega, ⟨by dsimp only; omega, DJ_in hdx hfresh, ?_⟩, rfl⟩
    dsimp only
    rw [List.map_append, List.map_cons, htk, hA, hC, hb, List.map_append, List.map_cons, List.map_nil, List.append_assoc]; rfl
  · obtain rfl : i = next.length := by omega
    rw [← hfl, List.take_length, List.drop_length, List.append_nil] at hxs
    simp only [Bz2j, Bz59, Bz9j, decide_eq_false hlt, Az5a, ← hQ, wpD_kp, yzy, go_sem, yz0, Int.reduceLT, reduceLE, reduceToNat, reduceNeg, Nat.reduceLT, reduceLeDiff, reduceMul, reduceSub, reduceIte, reduceEqDiff, reduceAdd, reduceCtorEq]
    intro vs6 U6 hN6 vs7 U7 hN7
    refine ⟨[24], by simp, by simp, by simp, ?_⟩
    simp only [range1, List.length_singleton, renL_rwp, Nat.not_lt_zero, range1, yzx, yz10, yz15, yz14, yz11, yz18, yz17, yz16, yzz, yzp, yzh, yz3, yzv, yzs, yzq, yzn, yzu, yzd, yze, yz8, yzc, yzm, yzj, yz2, yzb, yz9, yz7, yzl, yzk, List.range_zero, yz4, yz5, yza, yzo, yzf, yzt, AVal.fresh, freshL, yz1, yzi, AObj.fresh, id, Option.isSome_some, or_true, true_or, wpD_kp, yzy, go_sem, yz0, Int.reduceLT, reduceLE, reduceToNat, reduceNeg, Nat.reduceLT, reduceLeDiff, reduceMul, reduceSub, reduceIte, reduceEqDiff, reduceAdd, reduceCtorEq]
    exact ⟨fresh_rwp, _, xs, by simp, ⟨fs, hF, hxs⟩, rfl⟩
end Go.Ab
namespace Go.Ab
open Go.Proofs
theorem allS_mem2 {n s : Int} (h : 0 ≤ n) : s ∈ allS n ↔ 0 ≤ s ∧ s < n := by
  simp only [allS, List.mem_map, List.mem_range]
  constructor
  · rintro ⟨k, hk, rfl⟩; omega
  · rintro ⟨h1, h2⟩; exact ⟨s.toNat, by omega, by omega⟩
theorem bits_all {n : Int} (h1 : 1 ≤ n) (h2 : n ≤ 10) {x : Int} : x ∈ bitsTo (2 ^ n.toNat - 1) 10 ↔ 0 ≤ x ∧ x < n := by
  rw [mem_bitsTo, Nat.testBit_two_pow_sub_one, decide_eq_true_eq]
  omega
theorem getD_appLI {a b : List Int} {i : Nat} (h : i < a.length) : (a ++ b).getD i 0 = a.getD i 0 := by
  rw [List.getD_eq_getElem?_getD, List.getElem?_append_left h, List.getD_eq_getElem?_getD]
theorem getD_get {xs : List Int} {i : Nat} (h : i < xs.length) : xs[i] = xs.getD i 0 := by rw [List.getD_eq_getElem?_getD, List.getElem?_eq_getElem h]; rfl
theorem Filling.autN {n : Int} {next : List (List Int)} (P : Prt n next) {states : List Int} (hst : ∀ x ∈ states, 0 ≤ x ∧ x < n) {ws : List (List Int)} (F : Filling next states ws) : Aut n ws :=
  ⟨P.n1, P.n2, by rw [F.len]; exact P.l1, by rw [F.len]; exact P.l2, F.aut P P.n2 (Int.le_refl _) hst⟩
theorem TrapOf.autN {n : Int} {next : List (List Int)} (P : Prt n next) (h9 : n ≤ 9) {ws : List (List Int)} (T : TrapOf n next ws) : Aut (n + 1) ws ∧ ws.length = next.length := by
  have n1 := P.n1
  obtain ⟨fs, F, rfl⟩ := T
  have hl : (fs.map fun r => r ++ [n]).length = next.length := by rw [List.length_map]; exact F.len
  refine ⟨⟨by omega, by omega, by rw [hl]; exact P.l1, by rw [hl]; exact P.l2, fun r hr => ?_⟩, hl⟩
  obtain ⟨r0, h0, rfl⟩ := List.mem_map.1 hr
  have h := F.aut P (m := n + 1) (by omega) (by omega) (fun x hx => by rw [(List.mem_replicate.1 hx).2]; omega) r0 h0
  refine ⟨by rw [List.length_append, List.length_singleton]; omega, fun x hx => ?_⟩
  rcases List.mem_append.1 hx with hx | hx
  · exact h.2 x hx
  · rw [List.mem_singleton.1 hx]; omega
theorem fill_at {n : Int} {next : List (List Int)} (P : Prt n next) {states : List Int} {ws : List (List Int)} (F : Filling next states ws) : ∀ {w : List Int} {s t : Int}, IsW next.length w → 0 ≤ s ∧ s < n → pth next s w = some t → atA ws s w = t
  | [], s, t, _, hs, h => Option.some.inj h
  | l :: w, s, t, hw, hs, h => by
    have hl := hw l (by simp)
    have hll : l.toNat < next.length := by omega
    obtain ⟨h1, h2, h3⟩ := P.at hll hs
    rw [pth] at h
    split at h
    · cases h
    · rename_i hg
      have e : stepA ws s l = (next.getD l.toNat []).getD s.toNat 0 := by
        have := F.old l.toNat hll s.toNat h1 (by omega)
        simpa [stepA] using this
      have := fill_at P F (w := w) (fun y hy => hw y (by simp [hy])) ⟨by omega, h3⟩ h
      show atA ws (stepA ws s l) w = t
      rw [e]; exact this
theorem trap_cell {n : Int} {next ws : List (List Int)} (P : Prt n next) (T : TrapOf n next ws) {l : Nat} (hl : l < next.length) {s : Int} (hs : 0 ≤ s ∧ s ≤ n) :
    (ws.getD l []).getD s.toNat 0 = if s = n then n else if (next.getD l []).getD s.toNat 0 < 0 then n else (next.getD l []).getD s.toNat 0 := by
  obtain ⟨fs, F, rfl⟩ := T
  have hfl : l < fs.length := by rw [F.len]; exact hl
  have hrow : (fs.map fun r => r ++ [n]).getD l [] = fs.getD l [] ++ [n] := by
    rw [List.getD_eq_getElem?_getD, List.getElem?_map, List.getD_eq_getElem?_getD, List.getElem?_eq_getElem hfl]; rfl
  have hrl := F.row l hl
  have hpl := (P.row _ (yzw hl [])).1
  rw [hrow]
  split
  · rename_i e
    rw [List.getD_eq_getElem?_getD, List.getElem?_append_right (by omega), show s.toNat - (fs.getD l []).length = 0 by omega]; rfl
  · have hsn : s.toNat < (next.getD l []).length := by omega
    have e : (fs.getD l [] ++ [n]).getD s.toNat 0 = (fs.getD l []).getD s.toNat 0 := getD_appLI (by omega)
    rw [e]
    split
    · rename_i hg
      have := F.new l hl s.toNat hsn hg
      exact (List.mem_replicate.1 this).2
    · exact F.old l hl s.toNat hsn (by omega)
theorem trap_at {n : Int} {next ws : List (List Int)} (P : Prt n next) (T : TrapOf n next ws) : ∀ {w : List Int}, IsW next.length w → atA ws n w = n ∧ ∀ {s : Int}, 0 ≤ s ∧ s < n → atA ws s w = (pth next s w).getD n
  | [], _ => ⟨rfl, fun _ => rfl⟩
  | l :: w, hw => by
    have n1 := P.n1
    have hl := hw l (by simp)
    have hll : l.toNat < next.length := by omega
    have ih := trap_at P T (w := w) (fun y hy => hw y (by simp [hy]))
    refine ⟨?_, fun {s} hs => ?_⟩
    · have e : stepA ws n l = n := by
        have := trap_cell P T hll (s := n) (by omega)
        rw [if_pos rfl] at this
        simpa [stepA] using this
      show atA ws (stepA ws n l) w = n
      rw [e]; exact ih.1
    · obtain ⟨h1, h2, h3⟩ := P.at hll hs
      have e : stepA ws s l = if (next.getD l.toNat []).getD s.toNat 0 < 0 then n else (next.getD l.toNat []).getD s.toNat 0 := by
        have := trap_cell P T hll (s := s) (by omega)
        rw [if_neg (by omega)] at this
        simpa [stepA] using this
      show atA ws (stepA ws s l) w = _
      rw [e, pth]
      split
      · rw [ih.1]; rfl
      · rw [ih.2 ⟨by omega, h3⟩]
def trapIm (n : Int) (next : List (List Int)) (w : List Int) : List Int := nrm ((allS n).map fun s => (pth next s w).getD n)
theorem trapIm_img {n : Int} {next ws : List (List Int)} (P : Prt n next) (T : TrapOf n next ws) {w : List Int} (hw : IsW next.length w) : nrm ((allS n).map fun s => atA ws s w) = trapIm n next w := by
  unfold trapIm
  congr 1
  refine List.map_congr_left fun s hs => ?_
  exact (trap_at P T hw).2 ((allS_mem2 (by have := P.n1; omega)).1 hs)
theorem SI_last : ∀ {l : List Int} {x : Int}, SI l → x ∈ l → (∀ y ∈ l, y ≤ x) → l.getD (l.length - 1) 0 = x := by
  intro l x hs hx hm
  have hl : 0 < l.length := List.length_pos_of_mem hx
  obtain ⟨i, hi, rfl⟩ := List.getElem_of_mem hx
  have hlt : l.length - 1 < l.length := by omega
  rw [List.getD_eq_getElem?_getD, List.getElem?_eq_getElem hlt]
  show l[l.length - 1] = l[i]
  by_cases e : i = l.length - 1
  · subst e; rfl
  · have h1 : l[i] < l[l.length - 1] := List.pairwise_iff_getElem.1 hs i (l.length - 1) hi hlt (by omega)
    have h2 := hm _ (List.getElem_mem hlt)
    omega
theorem trap_law {n : Int} {next : List (List Int)} (P : Prt n next) {w : List Int} (hw : IsW next.length w) :
    0 < (trapIm n next w).length ∧ ((imP next (maskN (allS n)) w = none ∧ (trapIm n next w).getD ((trapIm n next w).length - 1) 0 = n ∧ carB next n w = false) ∨
      ∃ g, g < 1024 ∧ imP next (maskN (allS n)) w = some g ∧ trapIm n next w = bitsTo g 10 ∧ (trapIm n next w).getD ((trapIm n next w).length - 1) 0 ≠ n ∧ carB next n w = decide ((trapIm n next w).length = 1)) := by
  have n1 := P.n1
  have n2 := P.n2
  have hp := Nat.two_pow_pos n.toNat
  have hN : 2 ^ n.toNat ≤ 1024 := Nat.pow_le_pow_right (n := 2) (by omega) (show n.toNat ≤ 10 by omega)
  have hmem : ∀ y, y ∈ trapIm n next w ↔ ∃ s : Int, (0 ≤ s ∧ s < n) ∧ (pth next s w).getD n = y := fun y => by
    unfold trapIm
    rw [nrm_mem, List.mem_map]
    exact ⟨fun ⟨s, h1, h2⟩ => ⟨s, (allS_mem2 (by omega)).1 h1, h2⟩, fun ⟨s, h1, h2⟩ => ⟨s, (allS_mem2 (by omega)).2 h1, h2⟩⟩
  have h0 : 0 < (trapIm n next w).length := List.length_pos_of_mem ((hmem _).2 ⟨0, by omega, rfl⟩)
  have hle : ∀ y ∈ trapIm n next w, y ≤ n := fun y hy => by
    obtain ⟨s, hs, rfl⟩ := (hmem y).1 hy
    cases h : pth next s w with
    | none => simp
    | some t => have := pth_rg P hw hs h; simp; omega
  rw [maskN_all ⟨n1, n2⟩]
  obtain ⟨i1, i2⟩ := imP_iff P (f := 2 ^ n.toNat - 1) hw (by omega)
  refine ⟨h0, ?_⟩
  by_cases hex : ∃ s : Int, (0 ≤ s ∧ s < n) ∧ pth next s w = none
  · left
    obtain ⟨s, hs, h⟩ := hex
    have hi := i1 ⟨s, (bits_all n1 n2).2 hs, h⟩
    refine ⟨hi, SI_last (nrm_SI _) ((hmem n).2 ⟨s, hs, by rw [h]; rfl⟩) hle, ?_⟩
    unfold carB; rw [hi]
  · right
    have hne : ∀ s : Int, 0 ≤ s ∧ s < n → pth next s w ≠ none := fun s hs h => hex ⟨s, hs, h⟩
    obtain ⟨g, hg, hb⟩ := i2 (fun s hs => hne s ((bits_all n1 n2).1 hs))
    have hgl := imP_lt P (by omega) hw hg
    have hSI : SI (bitsTo g 10) := by
      rw [bitsTo_eq]
      unfold SI bitsN
      rw [List.pairwise_map]
      exact (List.pairwise_lt_range.filter _).imp fun h => by omega
    have hI : trapIm n next w = bitsTo g 10 := by
      refine SI_ext (nrm_SI _) hSI fun y => ?_
      rw [hmem, hb]
      constructor
      · rintro ⟨s, hs, h⟩
        refine ⟨s, (bits_all n1 n2).2 hs, ?_⟩
        cases h2 : pth next s w with
        | none => exact absurd h2 (hne s hs)
        | some t => rw [h2] at h; rw [← h]; rfl
      · rintro ⟨s, hs, h⟩
        exact ⟨s, (bits_all n1 n2).1 hs, by rw [h]; rfl⟩
    refine ⟨g, by omega, hg, hI, fun e => ?_, ?_⟩
    · have hm := yzw (show (trapIm n next w).length - 1 < (trapIm n next w).length by omega) 0
      rw [e] at hm
      obtain ⟨s, hs, h⟩ := (hmem n).1 hm
      cases h2 : pth next s w with
      | none => exact absurd h2 (hne s hs)
      | some t =>
        rw [h2] at h
        have := pth_rg P hw hs h2
        simp at h; omega
    · unfold carB
      rw [hg, hI, bitsTo_one (by omega)]
      have hz : Nat.beq g 0 = false := by
        cases hz : Nat.beq g 0 with
        | false => rfl
        | true =>
          have : g = 0 := Nat.eq_of_beq_eq_true hz
          rw [hI] at h0
          have hpz := bitsTo_pos (f := g) (by omega)
          rw [hz] at hpz
          simp at hpz
          rw [hpz] at h0; simp at h0
      rw [hz]; simp
theorem car_reset {n : Int} {next : List (List Int)} (P : Prt n next) {states : List Int} {ws : List (List Int)} (F : Filling next states ws) {w : List Int} (hw : IsW next.length w) (h : carB next n w = true) : (imgA n ws w).length = 1 := by
  have n1 := P.n1
  obtain ⟨t, ht⟩ := (car_iff P hw).1 h
  have e : imgA n ws w = [t] := by
    refine SI_ext (nrm_SI _) (by simp [SI]) fun x => ?_
    unfold imgA
    rw [nrm_mem, List.mem_map, List.mem_singleton]
    constructor
    · rintro ⟨s, hs, rfl⟩
      have hs := (allS_mem2 (by omega)).1 hs
      exact fill_at P F hw hs (ht s hs)
    · rintro rfl
      exact ⟨0, (allS_mem2 (by omega)).2 (by omega), fill_at P F hw (by omega) (ht 0 (by omega))⟩
  rw [e]; rfl
theorem no_gaps {n : Int} {next : List (List Int)} (P : Prt n next) (h : (gapsP next next.length).length = 0) : Aut n next := by
  refine ⟨P.n1, P.n2, P.l1, P.l2, fun r hr => ⟨(P.row r hr).1, fun x hx => ⟨?_, ((P.row r hr).2 x hx).2⟩⟩⟩
  obtain ⟨l, hl, rfl⟩ := row_mem hr
  obtain ⟨s, hs, rfl⟩ := cell_mem hx
  by_cases hn : (next.getD l []).getD s 0 < 0
  · have := List.length_pos_of_mem (mem_gapsP.2 ⟨hl, hs, hn⟩)
    omega
  · omega
theorem fill_same {n : Int} {next : List (List Int)} (A : Aut n next) {states : List Int} {ws : List (List Int)} (F : Filling next states ws) : ws = next := by
  refine List.ext_getElem F.len fun l h1 h2 => ?_
  have e1 : ws[l] = ws.getD l [] := by rw [List.getD_eq_getElem?_getD, List.getElem?_eq_getElem h1]; rfl
  have e2 : next[l] = next.getD l [] := by rw [List.getD_eq_getElem?_getD, List.getElem?_eq_getElem h2]; rfl
  rw [e1, e2]
  refine List.ext_getElem (F.row l h2) fun s h3 h4 => ?_
  rw [getD_get h3, getD_get h4]
  exact F.old l h2 s h4 ((A.row _ (yzw h2 [])).2 _ (yzw h4 0)).1
theorem pth_at {n : Int} {next : List (List Int)} (A : Aut n next) : ∀ {w : List Int} {s : Int}, IsW next.length w → 0 ≤ s ∧ s < n → pth next s w = some (atA next s w)
  | [], s, _, _ => rfl
  | l :: w, s, hw, hs => by
    have hl := hw l (by simp)
    have hll : l.toNat < next.length := by omega
    have hr := A.row _ (yzw hll [])
    have hx := hr.2 _ (yzw (show s.toNat < (next.getD l.toNat []).length by omega) 0)
    have e : stepA next s l = (next.getD l.toNat []).getD s.toNat 0 := by simp [stepA]
    rw [pth, if_neg (by omega), pth_at A (fun y hy => hw y (by simp [hy])) hx]
    show _ = some (atA next (stepA next s l) w)
    rw [e]
theorem car_same {n : Int} {next : List (List Int)} (P : Prt n next) (A : Aut n next) {w : List Int} (hw : IsW next.length w) : carB next n w = decide ((imgA n next w).length = 1) := by
  have n1 := P.n1
  rw [Bool.eq_iff_iff, decide_eq_true_eq]
  constructor
  · intro h
    exact car_reset P (states := []) ⟨rfl, fun _ _ => rfl, fun _ _ _ _ _ => rfl, fun l hl s hs h => by have := ((A.row _ (yzw hl [])).2 _ (yzw hs 0)).1; omega⟩ hw h
  · intro h
    obtain ⟨x, hx⟩ := List.length_eq_one_iff.1 h
    refine (car_iff P hw).2 ⟨x, fun s hs => ?_⟩
    rw [pth_at A hw hs]
    have : atA next s w ∈ imgA n next w := nrm_mem.2 (List.mem_map.2 ⟨s, (allS_mem2 (by omega)).2 hs, rfl⟩)
    rw [hx, List.mem_singleton] at this
    rw [this]
end Go.Ab
namespace Go.Ab
open Go.Proofs
theorem call_car {P : Program} {σ : St} {g : FuncId} {x : AVal} {y : Value} {d : Nat} {s : Nat → Nat} {K : St → Prop} {r v : Nat} {cs' : List AVal} {xss : List (List Int)} {X : Option (Nat × List Int)}
    (h : Con P g [.row 0 1 true (rwn xss)] [.st [x, .own 5000 0]] true fun outs rows res => outs = [.row 0 1 true (rwn xss)] ∧ CarRes2 X rows res) (hx : x = .val y)
    (hr : σ.hp r = .row v 1 true cs') (hc : CoeL σ.hp [r] false (rwn xss) cs') (hd : σ.hp d = .gone)
    (h1 : ∀ p, X = some p → K (St.put ⟨σ.tm, upd σ.hp r (.row v 1 true (rwn xss))⟩ (some d) (.tup [.ro none 1 (ints p.2), iv 0])))
    (h2 : X = none → ∀ w, K (St.put ⟨σ.tm, upd (upd σ.hp r (.row v 1 true (rwn xss))) d (.row w 1 true [])⟩ (some d) (.tup [.own d w, iv 6]))) : wpCall P false σ g [.st [x, .own r v]] (some d) s K := by
  subst hx
  have hne : d ≠ r := fun e => by rw [e, hr] at hd; cases hd
  refine .inl ⟨[r], _, _, true, _, h, ⟨by simp, rfl, by simp, by simp [hr], ?_⟩, ?_, (fun e => by cases e), ?_⟩
  · intro j B r' hB hr'
    match j, hB, hr' with
    | 0, hB, hr' =>
      simp at hB hr'; subst hB; subst hr'
      simp only [ObjCoe, hr]
      exact ⟨trivial, v, cs', rfl, hc⟩
    | j + 1, hB, hr' => simp at hB
  · rw [yz13, coe_st, yz13, yz13, coeL_nil]
    refine ⟨?_, by simp only [coeL_nil]⟩
    simp only [Coe]
    exact ⟨trivial, ⟨0, r, v, rfl, rfl, rfl, rfl, by rw [hr]; rfl⟩, trivial⟩
  · have e : sv σ.hp [r] s 0 = v := by simp [sv, hr, AObj.ver]
    rintro outs rows res ⟨rfl, ⟨p, hp, rfl, rfl⟩ | ⟨ho, w, rfl, rfl⟩⟩
    · refine ⟨rfl, by simp, by simp, ?_⟩
      rw [Option.getD_some, callHp_m, yzn, e]
      have h3 := h1 p hp
      simp only [yzs, yz3, yz15, yz14, yzz, yzh, yzp, yzx]
      exact h3
    · refine ⟨rfl, by simp, by rw [Option.getD_some, yzf]; exact hd, ?_⟩
      rw [Option.getD_some, callHp_mr hne, yzn, yzn, e]
      have h3 := h2 ho (sv σ.hp [r] s w)
      simp only [List.length_singleton, yzs, yzz, yzh, yzp, yzx, yz2]
      exact h3
theorem k_TrapR (n : Int) (next : List (List Int)) (P : Prt n next) (hn9 : n ≤ 9) : Fn Tryz.prog nz1k [autA n next] fun rows res => ∃ v ws, rows = [.row v 1 true (rws ws)] ∧ TrapOf n next ws ∧ res = .tup [.st [iv (n + 1), .own 6000 v], iv 0] := by
  refine Con.dnr (k_Trap n next P hn9) ?_
  rintro o r x ⟨h, v, ps, rfl, hf, rfl⟩
  refine ⟨by rw [h]; rfl, v, ps.map (·.2), ?_, hf, ?_⟩
  · simp only [List.map_cons, List.map_nil, AObj.dn, dnL_rwp]
  · simp only [AVal.dn, dnL]
end Go.Ab
namespace Go.Ab
open Go.Proofs
abbrev CarY (n : Int) (next : List (List Int)) (X8 : AVal) (c : Int) (o43 : List (Nat × AObj)) : Prop :=
  (carQ next n = none ∧ c = 6 ∧ ∃ v43, X8 = .own 43 v43 ∧ o43 = [(43, .row v43 1 true [])]) ∨ (∃ p, carQ next n = some p ∧ c = 0 ∧ X8 = .ro none 1 (ints p.2) ∧ o43 = [])
theorem careful_fin (n : Int) (next : List (List Int)) (P : Prt n next) {st : List Int} {ws : List (List Int)} (F : Filling next st ws) (Y Z : Bool) (hYZ : (gapsP next next.length).length = 0 → Y = Z)
    (X8 : AVal) (c : Int) (o43 : List (Nat × AObj)) (hX : CarY n next X8 c o43) (v5 v15 v35 v48 v98 v99 : Nat) :
    ∀ σ : St, σ.kd Bz0.kts Bz0.khs = ⟨L .any [(7, iv c), (8, X8), (10, .own 48 v48), (13, bv Y), (15, .ptr 15 v15 0), (17, bv Z)],
      L .gone ([(5, .box v5 [iv n, .own 35 v35]), (15, .box v15 [iv n, .own 99 v99]), (35, .row v35 1 true (rwn next))] ++ o43 ++ [(48, .row v48 2 true (ints (gapsF next next.length))), (98, .row v98 1 true (ints st)), (99, .row v99 1 true (rws ws))])⟩ → wpD Tryz.prog Bz0 (finQ fun σ => σ.tm 4 = bv true) σ := by
  intro σ hS
  rw [wpD_lab rfl, hS]
  have hgh := gaps_half (next := next)
  rcases hX with ⟨hq, rfl, v43, rfl, rfl⟩ | ⟨p, hq, rfl, rfl, rfl⟩
  · simp only [List.cons_append, List.nil_append, List.append_nil, Bz0, hgh, yz6, yzg, go_sem, yz0, Int.reduceLT, reduceLE, reduceToNat, reduceNeg, Nat.reduceLT, reduceLeDiff, reduceMul, reduceSub, reduceIte, reduceEqDiff, reduceAdd, reduceCtorEq]
    intro _
    by_cases hg : ((gapsP next next.length).length : Int) > 0
    · simp only [Bzx, decide_eq_true hg, yz6, yzg, go_sem, yz0, Int.reduceLT, reduceLE, reduceToNat, reduceNeg, Nat.reduceLT, reduceLeDiff, reduceMul, reduceSub, reduceIte, reduceEqDiff, reduceAdd, reduceCtorEq]
    · have hz : (gapsP next next.length).length = 0 := by omega
      have A := no_gaps P hz
      have e := fill_same A F
      subst e
      have hYZ := hYZ hz
      subst hYZ
      have hT := carQ_T A
      have hsh : shortR ws n = (match carQ ws n with
        | some p => .tup [.ro none 1 (ints p.2), iv 0]
        | none => .tup [.val (.slice none 0 0), iv 6]) := by
        unfold shortR
        rw [hT]
        cases firstT (tourT ws (2 ^ n.toNat - 1)) with
        | none => rfl
        | some p => rfl
      have hkS := k_ShortestH n ws A
      rw [hsh] at hkS
      have hyy : ∀ b : Bool, (b == b) = true := fun b => by cases b <;> rfl
      have e60 : ((6 : Int) != 0) = true := rfl
      have e00 : ((0 : Int) != 0) = false := rfl
      rw [hq] at hkS
      simp only [Bzx, Bz4s, decide_eq_false hg, yz6, yzg, go_sem, yz0, Int.reduceLT, reduceLE, reduceToNat, reduceNeg, Nat.reduceLT, reduceLeDiff, reduceMul, reduceSub, reduceIte, reduceEqDiff, reduceAdd, reduceCtorEq]
      intro vs
      refine call_ste hkS rfl rfl (by simp only [coeL_rws_t, rowIs, boxIs, coe_argN, coe_argNs, coe_ro_o, coeL_nil, yz13, coe_any, coe_val, coe_ro, coe_ro_nil, coe_ro_own, coe_st, coe_st_agg, coe_rp, coe_rp_ptr, coe_clo, coe_own0, coe_ptr0, yz19, coeL_rws, coeL_rwn, L_hit, L_miss, L_nil, reduceEqDiff, ne_eq, reduceCtorEq, not_false_eq_true, true_and, and_true, and_self, exists_eq_left, exists_eq_right, List.mem_cons, List.not_mem_nil, or_false, AObj.row.injEq, AObj.box.injEq, exists_eq_left', exists_and_left, exists_eq, Nat.zero_lt_one, Nat.lt_add_one, List.map_cons, List.map_nil, AObj.ver, Nat.reduceLT, not_true_eq_false]) ?_
      simp only [Bz4r, hyy, e60, yz6, yzg, Nat.not_lt_zero, range1, yzx, yz10, yz15, yz14, yz11, yz18, yz17, yz16, yzz, yzp, yzh, yz3, yzv, yzs, yzq, yzn, yzu, yzd, yze, yz8, yzc, yzm, yzj, yz2, yzb, yz9, yz7, yzl, yzk, List.range_zero, yz4, yz5, yza, yzo, yzf, yzt, AVal.fresh, freshL, yz1, yzi, AObj.fresh, id, Option.isSome_some, or_true, true_or, go_sem, yz0, Int.reduceLT, reduceLE, reduceToNat, reduceNeg, Nat.reduceLT, reduceLeDiff, reduceMul, reduceSub, reduceIte, reduceEqDiff, reduceAdd, reduceCtorEq]
  · simp only [List.cons_append, List.nil_append, List.append_nil, Bz0, hgh, yz6, yzg, go_sem, yz0, Int.reduceLT, reduceLE, reduceToNat, reduceNeg, Nat.reduceLT, reduceLeDiff, reduceMul, reduceSub, reduceIte, reduceEqDiff, reduceAdd, reduceCtorEq]
    intro _
    by_cases hg : ((gapsP next next.length).length : Int) > 0
    · simp only [Bzx, decide_eq_true hg, yz6, yzg, go_sem, yz0, Int.reduceLT, reduceLE, reduceToNat, reduceNeg, Nat.reduceLT, reduceLeDiff, reduceMul, reduceSub, reduceIte, reduceEqDiff, reduceAdd, reduceCtorEq]
    · have hz : (gapsP next next.length).length = 0 := by omega
      have A := no_gaps P hz
      have e := fill_same A F
      subst e
      have hYZ := hYZ hz
      subst hYZ
      have hT := carQ_T A
      have hsh : shortR ws n = (match carQ ws n with
        | some p => .tup [.ro none 1 (ints p.2), iv 0]
        | none => .tup [.val (.slice none 0 0), iv 6]) := by
        unfold shortR
        rw [hT]
        cases firstT (tourT ws (2 ^ n.toNat - 1)) with
        | none => rfl
        | some p => rfl
      have hkS := k_ShortestH n ws A
      rw [hsh] at hkS
      have hyy : ∀ b : Bool, (b == b) = true := fun b => by cases b <;> rfl
      have e60 : ((6 : Int) != 0) = true := rfl
      have e00 : ((0 : Int) != 0) = false := rfl
      rw [hq] at hkS
      simp only [Bzx, Bz4s, decide_eq_false hg, yz6, yzg, go_sem, yz0, Int.reduceLT, reduceLE, reduceToNat, reduceNeg, Nat.reduceLT, reduceLeDiff, reduceMul, reduceSub, reduceIte, reduceEqDiff, reduceAdd, reduceCtorEq]
      intro vs
      refine call_ste hkS rfl rfl (by simp only [coeL_rws_t, rowIs, boxIs, coe_argN, coe_argNs, coe_ro_o, coeL_nil, yz13, coe_any, coe_val, coe_ro, coe_ro_nil, coe_ro_own, coe_st, coe_st_agg, coe_rp, coe_rp_ptr, coe_clo, coe_own0, coe_ptr0, yz19, coeL_rws, coeL_rwn, L_hit, L_miss, L_nil, reduceEqDiff, ne_eq, reduceCtorEq, not_false_eq_true, true_and, and_true, and_self, exists_eq_left, exists_eq_right, List.mem_cons, List.not_mem_nil, or_false, AObj.row.injEq, AObj.box.injEq, exists_eq_left', exists_and_left, exists_eq, Nat.zero_lt_one, Nat.lt_add_one, List.map_cons, List.map_nil, AObj.ver, Nat.reduceLT, not_true_eq_false]) ?_
      simp only [Bz4r, hyy, e00, yz6, yzg, Nat.not_lt_zero, range1, yzx, yz10, yz15, yz14, yz11, yz18, yz17, yz16, yzz, yzp, yzh, yz3, yzv, yzs, yzq, yzn, yzu, yzd, yze, yz8, yzc, yzm, yzj, yz2, yzb, yz9, yz7, yzl, yzk, List.range_zero, yz4, yz5, yza, yzo, yzf, yzt, AVal.fresh, freshL, yz1, yzi, AObj.fresh, id, Option.isSome_some, or_true, true_or, go_sem, yz0, Int.reduceLT, reduceLE, reduceToNat, reduceNeg, Nat.reduceLT, reduceLeDiff, reduceMul, reduceSub, reduceIte, reduceEqDiff, reduceAdd, reduceCtorEq]
      intro vs2
      refine yzr (k_f6ints p.2 p.2) qCS trivial ?_
      simp only [decide_true, yz6, yzg, go_sem, yz0, Int.reduceLT, reduceLE, reduceToNat, reduceNeg, Nat.reduceLT, reduceLeDiff, reduceMul, reduceSub, reduceIte, reduceEqDiff, reduceAdd, reduceCtorEq]
abbrev CarX (n : Int) (next : List (List Int)) (u more : List Int) (v5 v35 v48 : Nat) (S : St) : Prop :=
  (carQ next n = none ∧ ∃ v43 v68, S = ⟨L .any [(1, .ro (some (some 0)) 1 (intsK .u8 more)), (5, .ptr 5 v5 0), (7, iv 6), (8, .own 43 v43), (10, .own 48 v48), (12, .own 68 v68)], L .gone [(5, .box v5 [iv n, .own 35 v35]), (35, .row v35 1 true (rwn next)), (43, .row v43 1 true []), (48, .row v48 2 true (ints (gapsF next next.length))), (68, .row v68 1 true (ints u))]⟩)
  ∨ (∃ p, carQ next n = some p ∧ ∃ v68, S = ⟨L .any [(1, .ro (some (some 0)) 1 (intsK .u8 more)), (5, .ptr 5 v5 0), (7, iv 0), (8, .ro none 1 (ints p.2)), (10, .own 48 v48), (12, .own 68 v68)], L .gone [(5, .box v5 [iv n, .own 35 v35]), (35, .row v35 1 true (rwn next)), (48, .row v48 2 true (ints (gapsF next next.length))), (68, .row v68 1 true (ints u))]⟩)
  ∨ (∃ p w, carQ next n = some p ∧ u = p.2 ++ w ∧ ∃ v68 v76, S = ⟨L .any [(1, .ro (some (some 0)) 1 (intsK .u8 more)), (5, .ptr 5 v5 0), (7, iv 0), (8, .ro none 1 (ints p.2)), (10, .own 48 v48), (12, .own 76 v76)], L .gone [(5, .box v5 [iv n, .own 35 v35]), (35, .row v35 1 true (rwn next)), (48, .row v48 2 true (ints (gapsF next next.length))), (68, .row v68 1 true (ints w)), (76, .row v76 1 true (ints (p.2 ++ w)))]⟩)
  ∨ (∃ p w, carQ next n = some p ∧ u = p.2 ∧ ∃ v68 v76, S = ⟨L .any [(1, .ro (some (some 0)) 1 (intsK .u8 more)), (5, .ptr 5 v5 0), (7, iv 0), (8, .ro none 1 (ints p.2)), (10, .own 48 v48), (12, .ro none 1 (ints p.2))], L .gone [(5, .box v5 [iv n, .own 35 v35]), (35, .row v35 1 true (rwn next)), (48, .row v48 2 true (ints (gapsF next next.length))), (68, .row v68 1 true (ints w)), (76, .row v76 1 true (ints (p.2 ++ w)))]⟩)
theorem codeTT : codeI true true = 0 := by simp [codeI]
theorem careful_tail (more : List Int) (hb2 : ∀ x ∈ more, 0 ≤ x ∧ x ≤ 255) (n : Int) (next : List (List Int)) (P : Prt n next) (n4 : n ≤ 4) (u : List Int) (hu : IsW next.length u) (hul : u.length ≤ 300)
    (v5 v35 v48 : Nat) : ∀ σ : St, CarX n next u more v5 v35 v48 (σ.kd Bz6.kts Bz6.khs) → wpD Tryz.prog Bz6 (finQ fun σ => σ.tm 4 = bv true) σ := by
  intro σ hX
  rw [wpD_lab rfl]
  have n1 := P.n1
  have hwb : wordB next.length u = true := wordB_iff.2 ⟨by omega, hu⟩
  have hkC := k_IsCareful n next P u hwb
  have hgh := gaps_half (next := next)
  have hg100 := gapsP_len P
  have e00 : ((0 : Int) != 0) = false := rfl
  have e40 : ((4 : Int) == 0) = false := rfl
  have eff : (false != false) = false := rfl
  have ett : (true != true) = false := rfl
  have ez0 : ((0 : Int) == 0) = true := rfl
  obtain ⟨i0, hi⟩ := trap_law P hu
  rcases hX with ⟨hq, v43, v68, hS⟩ | ⟨p, hq, v68, hS⟩ | ⟨p, w, hq, rfl, v68, v76, hS⟩ | ⟨p, w, hq, rfl, v68, v76, hS⟩
  · rw [hS]
    simp only [Bz6, yz6, yzg, go_sem, yz0, Int.reduceLT, reduceLE, reduceToNat, reduceNeg, Nat.reduceLT, reduceLeDiff, reduceMul, reduceSub, reduceIte, reduceEqDiff, reduceAdd, reduceCtorEq]
    intro vs
    refine call_fun2 hkC qCS ?_
    simp only [Bz12, yz6, yzg, go_sem, yz0, Int.reduceLT, reduceLE, reduceToNat, reduceNeg, Nat.reduceLT, reduceLeDiff, reduceMul, reduceSub, reduceIte, reduceEqDiff, reduceAdd, reduceCtorEq]
    intro vs2
    simp only [hgh, yz6, yzg, go_sem, yz0, Int.reduceLT, reduceLE, reduceToNat, reduceNeg, Nat.reduceLT, reduceLeDiff, reduceMul, reduceSub, reduceIte, reduceEqDiff, reduceAdd, reduceCtorEq]
    refine call_rowI (k_P6States more (gapsP next next.length).length n hb2 (by omega) (by omega)) qCS qGN ⟨List.replicate (gapsP next next.length).length 0, by simp [StsOf]; omega⟩ ?_
    rintro st v98 hst
    simp only [yz6, yzg, go_sem, yz0, Int.reduceLT, reduceLE, reduceToNat, reduceNeg, Nat.reduceLT, reduceLeDiff, reduceMul, reduceSub, reduceIte, reduceEqDiff, reduceAdd, reduceCtorEq]
    refine call_fn (k_FillGaps n next P st hst) qCS (fun _ => by
      obtain ⟨ps, h1, _⟩ := Filling.ex hst.1
      exact ⟨_, _, 0, _, rfl, h1, rfl⟩) ?_
    rintro rows res ⟨v, ws, rfl, hF, rfl⟩
    refine ⟨by simp, by rw [Option.getD_some, yzf]; simp only [go_sem, yz0, Int.reduceLT, reduceLE, reduceToNat, reduceNeg, Nat.reduceLT, reduceLeDiff, reduceMul, reduceSub, reduceIte, reduceEqDiff, reduceAdd, reduceCtorEq], ?_⟩
    simp only [Option.getD_some, yzg, Nat.not_lt_zero, range1, yzx, yz10, yz15, yz14, yz11, yz18, yz17, yz16, yzz, yzp, yzh, yz3, yzv, yzs, yzq, yzn, yzu, yzd, yze, yz8, yzc, yzm, yzj, yz2, yzb, yz9, yz7, yzl, yzk, List.range_zero, yz4, yz5, yza, yzo, yzf, yzt, AVal.fresh, freshL, yz1, yzi, AObj.fresh, id, Option.isSome_some, or_true, true_or, go_sem, yz0, Int.reduceLT, reduceLE, reduceToNat, reduceNeg, Nat.reduceLT, reduceLeDiff, reduceMul, reduceSub, reduceIte, reduceEqDiff, reduceAdd, reduceCtorEq]
    have Aw := hF.autN P hst.2
    have hwl := hF.len
    have hR := k_IsReset n ws u
    rw [autB_iff.2 Aw, hwl, hwb] at hR
    simp only [Bz11, yz6, yzg, go_sem, yz0, Int.reduceLT, reduceLE, reduceToNat, reduceNeg, Nat.reduceLT, reduceLeDiff, reduceMul, reduceSub, reduceIte, reduceEqDiff, reduceAdd, reduceCtorEq]
    intro vs3
    refine call_fun2 hR qCS ?_
    simp only [codeTT, Bz10, yz6, yzg, go_sem, yz0, Int.reduceLT, reduceLE, reduceToNat, reduceNeg, Nat.reduceLT, reduceLeDiff, reduceMul, reduceSub, reduceIte, reduceEqDiff, reduceAdd, reduceCtorEq]
    intro vs4
    refine call_fn (k_TrapR n next P (by omega)) qCS (fun e => by cases e) ?_
    rintro rows res ⟨v', tr, rfl, hT, rfl⟩
    refine ⟨by simp, by rw [Option.getD_some, yzf]; simp only [go_sem, yz0, Int.reduceLT, reduceLE, reduceToNat, reduceNeg, Nat.reduceLT, reduceLeDiff, reduceMul, reduceSub, reduceIte, reduceEqDiff, reduceAdd, reduceCtorEq], ?_⟩
    obtain ⟨At, htl⟩ := hT.autN P (by omega)
    have hI := k_ImageOf (n + 1) tr (allS n) u
    rw [autB_iff.2 At, htl, hwb, setB_iff.2 ⟨allS_SI n, fun x hx => by have := allS_in x hx; omega⟩, trapIm_img P hT hu] at hI
    have hkI := k_CarefulImage n next P (allS n) u (allS_set n) hwb
    simp only [Option.getD_some, Bzz, yz6, yzg, Nat.not_lt_zero, range1, yzx, yz10, yz15, yz14, yz11, yz18, yz17, yz16, yzz, yzp, yzh, yz3, yzv, yzs, yzq, yzn, yzu, yzd, yze, yz8, yzc, yzm, yzj, yz2, yzb, yz9, yz7, yzl, yzk, List.range_zero, yz4, yz5, yza, yzo, yzf, yzt, AVal.fresh, freshL, yz1, yzi, AObj.fresh, id, Option.isSome_some, or_true, true_or, go_sem, yz0, Int.reduceLT, reduceLE, reduceToNat, reduceNeg, Nat.reduceLT, reduceLeDiff, reduceMul, reduceSub, reduceIte, reduceEqDiff, reduceAdd, reduceCtorEq]
    intro vs5
    refine call_rowI (k_P6All n (by omega)) qCS qGN ⟨_, rfl⟩ ?_
    rintro al v117 rfl
    simp only [yz6, yzg, go_sem, yz0, Int.reduceLT, reduceLE, reduceToNat, reduceNeg, Nat.reduceLT, reduceLeDiff, reduceMul, reduceSub, reduceIte, reduceEqDiff, reduceAdd, reduceCtorEq]
    refine call_rowT hI qCS qGN (fun _ v119 => ?_) (fun h => by cases h)
    simp only [codeTT, Bool.and_self, Bzy, yz6, yzg, go_sem, yz0, Int.reduceLT, reduceLE, reduceToNat, reduceNeg, Nat.reduceLT, reduceLeDiff, reduceMul, reduceSub, reduceIte, reduceEqDiff, reduceAdd, reduceCtorEq]
    intro vs6
    refine call_rowI (k_P6All n (by omega)) qCS qGN ⟨_, rfl⟩ ?_
    rintro al2 v126 rfl
    simp only [yz6, yzg, go_sem, yz0, Int.reduceLT, reduceLE, reduceToNat, reduceNeg, Nat.reduceLT, reduceLeDiff, reduceMul, reduceSub, reduceIte, reduceEqDiff, reduceAdd, reduceCtorEq]
    have hreset := car_reset P hF hu
    have hsame : (gapsP next next.length).length = 0 → carB next n u = decide ((imgA n ws u).length = 1) := fun hz => by
      have A := no_gaps P hz
      rw [fill_same A hF]; exact car_same P A hu
    have hcf := car_first P
    rw [hq] at hcf
    have i1 : (trapIm n next u).length ≤ 10 := by
      have := nrm_len ((allS n).map fun s => (pth next s u).getD n)
      rw [List.length_map, allS_len] at this
      unfold trapIm; omega
    generalize trapIm n next u = L at i0 hi i1
    have hl0 : ((L.length : Int) == 0) = false := beq_false_of_ne (by omega)
    have hlm : L.length - 1 < L.length := by omega
    have wl : IntKind.i64.wrap ((L.length : Int) - 1) = ((L.length - 1 : Nat) : Int) := by rw [w64 (by omega)]; omega
    have hb1 : ((L.length : Int) == 1) = decide (L.length = 1) := by rw [Bool.eq_iff_iff, beq_iff_eq, decide_eq_true_iff]; omega
    have hgl := yz12 (k := .i64) hlm
    have hXY : CarY n next (.own 43 v43) 6 [(43, .row v43 1 true [])] := .inl ⟨hq, rfl, v43, rfl, rfl⟩
    have hF2 := fun Y' Z' hh v15' v98' v99' => careful_fin n next P hF Y' Z' hh _ _ _ hXY v5 v15' v35 v48 v98' v99'
    rcases hi with ⟨h1, h2, h3⟩ | ⟨g, hg, h1, h2, h3, h4⟩
    · rw [h1] at hkI
      rw [h2] at hgl
      rw [h3] at hsame
      have hnn : (n != n) = false := by simp
      refine call_fn hkI qCS (fun e => by cases e) ?_
      rintro rows res ⟨rfl, rfl⟩
      refine ⟨by simp, by rw [Option.getD_some, yzo]; simp only [go_sem, yz0, Int.reduceLT, reduceLE, reduceToNat, reduceNeg, Nat.reduceLT, reduceLeDiff, reduceMul, reduceSub, reduceIte, reduceEqDiff, reduceAdd, reduceCtorEq], ?_⟩
      simp only [e00, hl0, wl, hgl, hnn, Bza, Bz8, Bz9, yz6, yzg, Nat.not_lt_zero, range1, yzx, yz10, yz15, yz14, yz11, yz18, yz17, yz16, yzz, yzp, yzh, yz3, yzv, yzs, yzq, yzn, yzu, yzd, yze, yz8, yzc, yzm, yzj, yz2, yzb, yz9, yz7, yzl, yzk, List.range_zero, yz4, yz5, yza, yzo, yzf, yzt, AVal.fresh, freshL, yz1, yzi, AObj.fresh, id, Option.isSome_some, or_true, true_or, go_sem, yz0, Int.reduceLT, reduceLE, reduceToNat, reduceNeg, Nat.reduceLT, reduceLeDiff, reduceMul, reduceSub, reduceIte, reduceEqDiff, reduceAdd, reduceCtorEq]
      intro _
      refine ⟨⟨by omega, hlm⟩, hlm, ?_⟩
      cases hdl : decide (L.length = 1) <;>
      · simp only [h3, hb1, hdl, e40, eff, Bz5, yz6, yzg, go_sem, yz0, Int.reduceLT, reduceLE, reduceToNat, reduceNeg, Nat.reduceLT, reduceLeDiff, reduceMul, reduceSub, reduceIte, reduceEqDiff, reduceAdd, reduceCtorEq]
        simp only [eff, Bz2, yz6, yzg, go_sem, yz0, Int.reduceLT, reduceLE, reduceToNat, reduceNeg, Nat.reduceLT, reduceLeDiff, reduceMul, reduceSub, reduceIte, reduceEqDiff, reduceAdd, reduceCtorEq]
        simp only [Bz4, yz6, yzg, go_sem, yz0, Int.reduceLT, reduceLE, reduceToNat, reduceNeg, Nat.reduceLT, reduceLeDiff, reduceMul, reduceSub, reduceIte, reduceEqDiff, reduceAdd, reduceCtorEq]
        simp only [Bz3, yz6, yzg, go_sem, yz0, Int.reduceLT, reduceLE, reduceToNat, reduceNeg, Nat.reduceLT, reduceLeDiff, reduceMul, reduceSub, reduceIte, reduceEqDiff, reduceAdd, reduceCtorEq]
        intro _
        refine hF2 false _ hsame (vs2 11 0) v98 (vs2 7 v) _ ?_
        simp only [Bool.true_and, Bz0, yz6, yzg, go_sem, yz0, Int.reduceLT, reduceLE, reduceToNat, reduceNeg, Nat.reduceLT, reduceLeDiff, reduceMul, reduceSub, reduceIte, reduceEqDiff, reduceAdd, reduceCtorEq]
        try rfl
    · rw [h1] at hkI
      have hxn : (L.getD (L.length - 1) 0 != n) = true := by simpa using h3
      refine call_fn hkI qCS (fun e => by cases e) ?_
      rintro rows res ⟨v128, rfl, rfl⟩
      refine ⟨by simp, by rw [Option.getD_some, yzf]; simp only [go_sem, yz0, Int.reduceLT, reduceLE, reduceToNat, reduceNeg, Nat.reduceLT, reduceLeDiff, reduceMul, reduceSub, reduceIte, reduceEqDiff, reduceAdd, reduceCtorEq], ?_⟩
      simp only [e00, hl0, wl, hgl, hxn, Bza, Bz8, Bz9, yz6, yzg, Nat.not_lt_zero, range1, yzx, yz10, yz15, yz14, yz11, yz18, yz17, yz16, yzz, yzp, yzh, yz3, yzv, yzs, yzq, yzn, yzu, yzd, yze, yz8, yzc, yzm, yzj, yz2, yzb, yz9, yz7, yzl, yzk, List.range_zero, yz4, yz5, yza, yzo, yzf, yzt, AVal.fresh, freshL, yz1, yzi, AObj.fresh, id, Option.isSome_some, or_true, true_or, go_sem, yz0, Int.reduceLT, reduceLE, reduceToNat, reduceNeg, Nat.reduceLT, reduceLeDiff, reduceMul, reduceSub, reduceIte, reduceEqDiff, reduceAdd, reduceCtorEq]
      intro _
      refine ⟨⟨by omega, hlm⟩, hlm, ?_⟩
      have hY : carB next n u = false := hcf u hu
      rw [hY] at hsame h4
      simp only [hY, hb1, ← h4, ez0, eff, ett, Bz5, yz6, yzg, go_sem, yz0, Int.reduceLT, reduceLE, reduceToNat, reduceNeg, Nat.reduceLT, reduceLeDiff, reduceMul, reduceSub, reduceIte, reduceEqDiff, reduceAdd, reduceCtorEq]
      intro vs7 _
      refine yzr (k_f6ints (bitsTo g 10) L) qCS trivial ?_
      simp only [← h2, decide_true, Bool.not_true, Bz2, yz6, yzg, go_sem, yz0, Int.reduceLT, reduceLE, reduceToNat, reduceNeg, Nat.reduceLT, reduceLeDiff, reduceMul, reduceSub, reduceIte, reduceEqDiff, reduceAdd, reduceCtorEq]
      simp only [Bz4, yz6, yzg, go_sem, yz0, Int.reduceLT, reduceLE, reduceToNat, reduceNeg, Nat.reduceLT, reduceLeDiff, reduceMul, reduceSub, reduceIte, reduceEqDiff, reduceAdd, reduceCtorEq]
      simp only [Bz3, yz6, yzg, go_sem, yz0, Int.reduceLT, reduceLE, reduceToNat, reduceNeg, Nat.reduceLT, reduceLeDiff, reduceMul, reduceSub, reduceIte, reduceEqDiff, reduceAdd, reduceCtorEq]
      refine hF2 false _ hsame (vs2 11 0) v98 (vs2 7 v) _ ?_
      simp only [Bool.true_and, Bz0, yz6, yzg, go_sem, yz0, Int.reduceLT, reduceLE, reduceToNat, reduceNeg, Nat.reduceLT, reduceLeDiff, reduceMul, reduceSub, reduceIte, reduceEqDiff, reduceAdd, reduceCtorEq]
      try rfl
  · rw [hS]
    simp only [Bz6, yz6, yzg, go_sem, yz0, Int.reduceLT, reduceLE, reduceToNat, reduceNeg, Nat.reduceLT, reduceLeDiff, reduceMul, reduceSub, reduceIte, reduceEqDiff, reduceAdd, reduceCtorEq]
    intro vs
    refine call_fun2 hkC qCS ?_
    simp only [Bz12, yz6, yzg, go_sem, yz0, Int.reduceLT, reduceLE, reduceToNat, reduceNeg, Nat.reduceLT, reduceLeDiff, reduceMul, reduceSub, reduceIte, reduceEqDiff, reduceAdd, reduceCtorEq]
    intro vs2
    simp only [hgh, yz6, yzg, go_sem, yz0, Int.reduceLT, reduceLE, reduceToNat, reduceNeg, Nat.reduceLT, reduceLeDiff, reduceMul, reduceSub, reduceIte, reduceEqDiff, reduceAdd, reduceCtorEq]
    refine call_rowI (k_P6States more (gapsP next next.length).length n hb2 (by omega) (by omega)) qCS qGN ⟨List.replicate (gapsP next next.length).length 0, by simp [StsOf]; omega⟩ ?_
    rintro st v98 hst
    simp only [yz6, yzg, go_sem, yz0, Int.reduceLT, reduceLE, reduceToNat, reduceNeg, Nat.reduceLT, reduceLeDiff, reduceMul, reduceSub, reduceIte, reduceEqDiff, reduceAdd, reduceCtorEq]
    refine call_fn (k_FillGaps n next P st hst) qCS (fun _ => by
      obtain ⟨ps, h1, _⟩ := Filling.ex hst.1
      exact ⟨_, _, 0, _, rfl, h1, rfl⟩) ?_
    rintro rows res ⟨v, ws, rfl, hF, rfl⟩
    refine ⟨by simp, by rw [Option.getD_some, yzf]; simp only [go_sem, yz0, Int.reduceLT, reduceLE, reduceToNat, reduceNeg, Nat.reduceLT, reduceLeDiff, reduceMul, reduceSub, reduceIte, reduceEqDiff, reduceAdd, reduceCtorEq], ?_⟩
    simp only [Option.getD_some, yzg, Nat.not_lt_zero, range1, yzx, yz10, yz15, yz14, yz11, yz18, yz17, yz16, yzz, yzp, yzh, yz3, yzv, yzs, yzq, yzn, yzu, yzd, yze, yz8, yzc, yzm, yzj, yz2, yzb, yz9, yz7, yzl, yzk, List.range_zero, yz4, yz5, yza, yzo, yzf, yzt, AVal.fresh, freshL, yz1, yzi, AObj.fresh, id, Option.isSome_some, or_true, true_or, go_sem, yz0, Int.reduceLT, reduceLE, reduceToNat, reduceNeg, Nat.reduceLT, reduceLeDiff, reduceMul, reduceSub, reduceIte, reduceEqDiff, reduceAdd, reduceCtorEq]
    have Aw := hF.autN P hst.2
    have hwl := hF.len
    have hR := k_IsReset n ws u
    rw [autB_iff.2 Aw, hwl, hwb] at hR
    simp only [Bz11, yz6, yzg, go_sem, yz0, Int.reduceLT, reduceLE, reduceToNat, reduceNeg, Nat.reduceLT, reduceLeDiff, reduceMul, reduceSub, reduceIte, reduceEqDiff, reduceAdd, reduceCtorEq]
    intro vs3
    refine call_fun2 hR qCS ?_
    simp only [codeTT, Bz10, yz6, yzg, go_sem, yz0, Int.reduceLT, reduceLE, reduceToNat, reduceNeg, Nat.reduceLT, reduceLeDiff, reduceMul, reduceSub, reduceIte, reduceEqDiff, reduceAdd, reduceCtorEq]
    intro vs4
    refine call_fn (k_TrapR n next P (by omega)) qCS (fun e => by cases e) ?_
    rintro rows res ⟨v', tr, rfl, hT, rfl⟩
    refine ⟨by simp, by rw [Option.getD_some, yzf]; simp only [go_sem, yz0, Int.reduceLT, reduceLE, reduceToNat, reduceNeg, Nat.reduceLT, reduceLeDiff, reduceMul, reduceSub, reduceIte, reduceEqDiff, reduceAdd, reduceCtorEq], ?_⟩
    obtain ⟨At, htl⟩ := hT.autN P (by omega)
    have hI := k_ImageOf (n + 1) tr (allS n) u
    rw [autB_iff.2 At, htl, hwb, setB_iff.2 ⟨allS_SI n, fun x hx => by have := allS_in x hx; omega⟩, trapIm_img P hT hu] at hI
    have hkI := k_CarefulImage n next P (allS n) u (allS_set n) hwb
    simp only [Option.getD_some, Bzz, yz6, yzg, Nat.not_lt_zero, range1, yzx, yz10, yz15, yz14, yz11, yz18, yz17, yz16, yzz, yzp, yzh, yz3, yzv, yzs, yzq, yzn, yzu, yzd, yze, yz8, yzc, yzm, yzj, yz2, yzb, yz9, yz7, yzl, yzk, List.range_zero, yz4, yz5, yza, yzo, yzf, yzt, AVal.fresh, freshL, yz1, yzi, AObj.fresh, id, Option.isSome_some, or_true, true_or, go_sem, yz0, Int.reduceLT, reduceLE, reduceToNat, reduceNeg, Nat.reduceLT, reduceLeDiff, reduceMul, reduceSub, reduceIte, reduceEqDiff, reduceAdd, reduceCtorEq]
    intro vs5
    refine call_rowI (k_P6All n (by omega)) qCS qGN ⟨_, rfl⟩ ?_
    rintro al v117 rfl
    simp only [yz6, yzg, go_sem, yz0, Int.reduceLT, reduceLE, reduceToNat, reduceNeg, Nat.reduceLT, reduceLeDiff, reduceMul, reduceSub, reduceIte, reduceEqDiff, reduceAdd, reduceCtorEq]
    refine call_rowT hI qCS qGN (fun _ v119 => ?_) (fun h => by cases h)
    simp only [codeTT, Bool.and_self, Bzy, yz6, yzg, go_sem, yz0, Int.reduceLT, reduceLE, reduceToNat, reduceNeg, Nat.reduceLT, reduceLeDiff, reduceMul, reduceSub, reduceIte, reduceEqDiff, reduceAdd, reduceCtorEq]
    intro vs6
    refine call_rowI (k_P6All n (by omega)) qCS qGN ⟨_, rfl⟩ ?_
    rintro al2 v126 rfl
    simp only [yz6, yzg, go_sem, yz0, Int.reduceLT, reduceLE, reduceToNat, reduceNeg, Nat.reduceLT, reduceLeDiff, reduceMul, reduceSub, reduceIte, reduceEqDiff, reduceAdd, reduceCtorEq]
    have hreset := car_reset P hF hu
    have hsame : (gapsP next next.length).length = 0 → carB next n u = decide ((imgA n ws u).length = 1) := fun hz => by
      have A := no_gaps P hz
      rw [fill_same A hF]; exact car_same P A hu
    have hcf := car_first P
    rw [hq] at hcf
    have i1 : (trapIm n next u).length ≤ 10 := by
      have := nrm_len ((allS n).map fun s => (pth next s u).getD n)
      rw [List.length_map, allS_len] at this
      unfold trapIm; omega
    generalize trapIm n next u = L at i0 hi i1
    have hl0 : ((L.length : Int) == 0) = false := beq_false_of_ne (by omega)
    have hlm : L.length - 1 < L.length := by omega
    have wl : IntKind.i64.wrap ((L.length : Int) - 1) = ((L.length - 1 : Nat) : Int) := by rw [w64 (by omega)]; omega
    have hb1 : ((L.length : Int) == 1) = decide (L.length = 1) := by rw [Bool.eq_iff_iff, beq_iff_eq, decide_eq_true_iff]; omega
    have hgl := yz12 (k := .i64) hlm
    have hXY : CarY n next (.ro none 1 (ints p.2)) 0 [] := .inr ⟨p, hq, rfl, rfl, rfl⟩
    have hF2 := fun Y' Z' hh v15' v98' v99' => careful_fin n next P hF Y' Z' hh _ _ _ hXY v5 v15' v35 v48 v98' v99'
    rcases hi with ⟨h1, h2, h3⟩ | ⟨g, hg, h1, h2, h3, h4⟩
    · rw [h1] at hkI
      rw [h2] at hgl
      rw [h3] at hsame
      have hnn : (n != n) = false := by simp
      refine call_fn hkI qCS (fun e => by cases e) ?_
      rintro rows res ⟨rfl, rfl⟩
      refine ⟨by simp, by rw [Option.getD_some, yzo]; simp only [go_sem, yz0, Int.reduceLT, reduceLE, reduceToNat, reduceNeg, Nat.reduceLT, reduceLeDiff, reduceMul, reduceSub, reduceIte, reduceEqDiff, reduceAdd, reduceCtorEq], ?_⟩
      simp only [e00, hl0, wl, hgl, hnn, Bza, Bz8, Bz9, yz6, yzg, Nat.not_lt_zero, range1, yzx, yz10, yz15, yz14, yz11, yz18, yz17, yz16, yzz, yzp, yzh, yz3, yzv, yzs, yzq, yzn, yzu, yzd, yze, yz8, yzc, yzm, yzj, yz2, yzb, yz9, yz7, yzl, yzk, List.range_zero, yz4, yz5, yza, yzo, yzf, yzt, AVal.fresh, freshL, yz1, yzi, AObj.fresh, id, Option.isSome_some, or_true, true_or, go_sem, yz0, Int.reduceLT, reduceLE, reduceToNat, reduceNeg, Nat.reduceLT, reduceLeDiff, reduceMul, reduceSub, reduceIte, reduceEqDiff, reduceAdd, reduceCtorEq]
      intro _
      refine ⟨⟨by omega, hlm⟩, hlm, ?_⟩
      cases hdl : decide (L.length = 1) <;>
      · simp only [h3, hb1, hdl, e40, eff, Bz5, yz6, yzg, go_sem, yz0, Int.reduceLT, reduceLE, reduceToNat, reduceNeg, Nat.reduceLT, reduceLeDiff, reduceMul, reduceSub, reduceIte, reduceEqDiff, reduceAdd, reduceCtorEq]
        simp only [eff, Bz2, yz6, yzg, go_sem, yz0, Int.reduceLT, reduceLE, reduceToNat, reduceNeg, Nat.reduceLT, reduceLeDiff, reduceMul, reduceSub, reduceIte, reduceEqDiff, reduceAdd, reduceCtorEq]
        simp only [Bz4, yz6, yzg, go_sem, yz0, Int.reduceLT, reduceLE, reduceToNat, reduceNeg, Nat.reduceLT, reduceLeDiff, reduceMul, reduceSub, reduceIte, reduceEqDiff, reduceAdd, reduceCtorEq]
        simp only [Bz3, yz6, yzg, go_sem, yz0, Int.reduceLT, reduceLE, reduceToNat, reduceNeg, Nat.reduceLT, reduceLeDiff, reduceMul, reduceSub, reduceIte, reduceEqDiff, reduceAdd, reduceCtorEq]
        intro _
        refine hF2 false _ hsame (vs2 11 0) v98 (vs2 7 v) _ ?_
        simp only [Bool.true_and, Bz0, yz6, yzg, go_sem, yz0, Int.reduceLT, reduceLE, reduceToNat, reduceNeg, Nat.reduceLT, reduceLeDiff, reduceMul, reduceSub, reduceIte, reduceEqDiff, reduceAdd, reduceCtorEq]
        try rfl
    · rw [h1] at hkI
      have hxn : (L.getD (L.length - 1) 0 != n) = true := by simpa using h3
      refine call_fn hkI qCS (fun e => by cases e) ?_
      rintro rows res ⟨v128, rfl, rfl⟩
      refine ⟨by simp, by rw [Option.getD_some, yzf]; simp only [go_sem, yz0, Int.reduceLT, reduceLE, reduceToNat, reduceNeg, Nat.reduceLT, reduceLeDiff, reduceMul, reduceSub, reduceIte, reduceEqDiff, reduceAdd, reduceCtorEq], ?_⟩
      simp only [e00, hl0, wl, hgl, hxn, Bza, Bz8, Bz9, yz6, yzg, Nat.not_lt_zero, range1, yzx, yz10, yz15, yz14, yz11, yz18, yz17, yz16, yzz, yzp, yzh, yz3, yzv, yzs, yzq, yzn, yzu, yzd, yze, yz8, yzc, yzm, yzj, yz2, yzb, yz9, yz7, yzl, yzk, List.range_zero, yz4, yz5, yza, yzo, yzf, yzt, AVal.fresh, freshL, yz1, yzi, AObj.fresh, id, Option.isSome_some, or_true, true_or, go_sem, yz0, Int.reduceLT, reduceLE, reduceToNat, reduceNeg, Nat.reduceLT, reduceLeDiff, reduceMul, reduceSub, reduceIte, reduceEqDiff, reduceAdd, reduceCtorEq]
      intro _
      refine ⟨⟨by omega, hlm⟩, hlm, ?_⟩
      cases hY : carB next n u with
      | false =>
        rw [hY] at hsame h4
        simp only [hY, hb1, ← h4, ez0, eff, ett, Bz5, yz6, yzg, go_sem, yz0, Int.reduceLT, reduceLE, reduceToNat, reduceNeg, Nat.reduceLT, reduceLeDiff, reduceMul, reduceSub, reduceIte, reduceEqDiff, reduceAdd, reduceCtorEq]
        intro vs7 _
        refine yzr (k_f6ints (bitsTo g 10) L) qCS trivial ?_
        simp only [← h2, decide_true, Bool.not_true, Bz2, yz6, yzg, go_sem, yz0, Int.reduceLT, reduceLE, reduceToNat, reduceNeg, Nat.reduceLT, reduceLeDiff, reduceMul, reduceSub, reduceIte, reduceEqDiff, reduceAdd, reduceCtorEq]
        simp only [Bz4, yz6, yzg, go_sem, yz0, Int.reduceLT, reduceLE, reduceToNat, reduceNeg, Nat.reduceLT, reduceLeDiff, reduceMul, reduceSub, reduceIte, reduceEqDiff, reduceAdd, reduceCtorEq]
        simp only [Bz3, yz6, yzg, go_sem, yz0, Int.reduceLT, reduceLE, reduceToNat, reduceNeg, Nat.reduceLT, reduceLeDiff, reduceMul, reduceSub, reduceIte, reduceEqDiff, reduceAdd, reduceCtorEq]
        refine hF2 false _ hsame (vs2 11 0) v98 (vs2 7 v) _ ?_
        simp only [Bool.true_and, Bz0, yz6, yzg, go_sem, yz0, Int.reduceLT, reduceLE, reduceToNat, reduceNeg, Nat.reduceLT, reduceLeDiff, reduceMul, reduceSub, reduceIte, reduceEqDiff, reduceAdd, reduceCtorEq]
        try rfl
      | true =>
        have hZ : (imgA n ws u).length = 1 := hreset hY
        have hbf : befP u p.2 = false := hcf.2.2 u hu hY
        rw [hY] at hsame h4
        simp only [hY, hb1, ← h4, ez0, eff, ett, Bz5, yz6, yzg, go_sem, yz0, Int.reduceLT, reduceLE, reduceToNat, reduceNeg, Nat.reduceLT, reduceLeDiff, reduceMul, reduceSub, reduceIte, reduceEqDiff, reduceAdd, reduceCtorEq]
        intro vs7 _
        refine yzr (k_f6ints (bitsTo g 10) L) qCS trivial ?_
        simp only [← h2, decide_true, Bool.not_true, Bz2, yz6, yzg, go_sem, yz0, Int.reduceLT, reduceLE, reduceToNat, reduceNeg, Nat.reduceLT, reduceLeDiff, reduceMul, reduceSub, reduceIte, reduceEqDiff, reduceAdd, reduceCtorEq]
        simp only [hZ, decide_true, Bool.and_self, e00, Bz4, yz6, yzg, go_sem, yz0, Int.reduceLT, reduceLE, reduceToNat, reduceNeg, Nat.reduceLT, reduceLeDiff, reduceMul, reduceSub, reduceIte, reduceEqDiff, reduceAdd, reduceCtorEq]
        intro vs8
        refine yzr (k_f6before u p.2) qCS trivial ?_
        simp only [hbf, Bz3, yz6, yzg, go_sem, yz0, Int.reduceLT, reduceLE, reduceToNat, reduceNeg, Nat.reduceLT, reduceLeDiff, reduceMul, reduceSub, reduceIte, reduceEqDiff, reduceAdd, reduceCtorEq]
        refine hF2 true true (fun _ => rfl) (vs2 11 0) v98 (vs2 7 v) _ ?_
        simp only [Bz0, yz6, yzg, go_sem, yz0, Int.reduceLT, reduceLE, reduceToNat, reduceNeg, Nat.reduceLT, reduceLeDiff, reduceMul, reduceSub, reduceIte, reduceEqDiff, reduceAdd, reduceCtorEq]
        try rfl
  · rw [hS]
    simp only [Bz6, yz6, yzg, go_sem, yz0, Int.reduceLT, reduceLE, reduceToNat, reduceNeg, Nat.reduceLT, reduceLeDiff, reduceMul, reduceSub, reduceIte, reduceEqDiff, reduceAdd, reduceCtorEq]
    intro vs
    refine call_fun2 hkC qCS ?_
    simp only [Bz12, yz6, yzg, go_sem, yz0, Int.reduceLT, reduceLE, reduceToNat, reduceNeg, Nat.reduceLT, reduceLeDiff, reduceMul, reduceSub, reduceIte, reduceEqDiff, reduceAdd, reduceCtorEq]
    intro vs2
    simp only [hgh, yz6, yzg, go_sem, yz0, Int.reduceLT, reduceLE, reduceToNat, reduceNeg, Nat.reduceLT, reduceLeDiff, reduceMul, reduceSub, reduceIte, reduceEqDiff, reduceAdd, reduceCtorEq]
    refine call_rowI (k_P6States more (gapsP next next.length).length n hb2 (by omega) (by omega)) qCS qGN ⟨List.replicate (gapsP next next.length).length 0, by simp [StsOf]; omega⟩ ?_
    rintro st v98 hst
    simp only [yz6, yzg, go_sem, yz0, Int.reduceLT, reduceLE, reduceToNat, reduceNeg, Nat.reduceLT, reduceLeDiff, reduceMul, reduceSub, reduceIte, reduceEqDiff, reduceAdd, reduceCtorEq]
    refine call_fn (k_FillGaps n next P st hst) qCS (fun _ => by
      obtain ⟨ps, h1, _⟩ := Filling.ex hst.1
      exact ⟨_, _, 0, _, rfl, h1, rfl⟩) ?_
    rintro rows res ⟨v, ws, rfl, hF, rfl⟩
    refine ⟨by simp, by rw [Option.getD_some, yzf]; simp only [go_sem, yz0, Int.reduceLT, reduceLE, reduceToNat, reduceNeg, Nat.reduceLT, reduceLeDiff, reduceMul, reduceSub, reduceIte, reduceEqDiff, reduceAdd, reduceCtorEq], ?_⟩
    simp only [Option.getD_some, yzg, Nat.not_lt_zero, range1, yzx, yz10, yz15, yz14, yz11, yz18, yz17, yz16, yzz, yzp, yzh, yz3, yzv, yzs, yzq, yzn, yzu, yzd, yze, yz8, yzc, yzm, yzj, yz2, yzb, yz9, yz7, yzl, yzk, List.range_zero, yz4, yz5, yza, yzo, yzf, yzt, AVal.fresh, freshL, yz1, yzi, AObj.fresh, id, Option.isSome_some, or_true, true_or, go_sem, yz0, Int.reduceLT, reduceLE, reduceToNat, reduceNeg, Nat.reduceLT, reduceLeDiff, reduceMul, reduceSub, reduceIte, reduceEqDiff, reduceAdd, reduceCtorEq]
    have Aw := hF.autN P hst.2
    have hwl := hF.len
    have hR := k_IsReset n ws (p.2 ++ w)
    rw [autB_iff.2 Aw, hwl, hwb] at hR
    simp only [Bz11, yz6, yzg, go_sem, yz0, Int.reduceLT, reduceLE, reduceToNat, reduceNeg, Nat.reduceLT, reduceLeDiff, reduceMul, reduceSub, reduceIte, reduceEqDiff, reduceAdd, reduceCtorEq]
    intro vs3
    refine call_fun2 hR qCS ?_
    simp only [codeTT, Bz10, yz6, yzg, go_sem, yz0, Int.reduceLT, reduceLE, reduceToNat, reduceNeg, Nat.reduceLT, reduceLeDiff, reduceMul, reduceSub, reduceIte, reduceEqDiff, reduceAdd, reduceCtorEq]
    intro vs4
    refine call_fn (k_TrapR n next P (by omega)) qCS (fun e => by cases e) ?_
    rintro rows res ⟨v', tr, rfl, hT, rfl⟩
    refine ⟨by simp, by rw [Option.getD_some, yzf]; simp only [go_sem, yz0, Int.reduceLT, reduceLE, reduceToNat, reduceNeg, Nat.reduceLT, reduceLeDiff, reduceMul, reduceSub, reduceIte, reduceEqDiff, reduceAdd, reduceCtorEq], ?_⟩
    obtain ⟨At, htl⟩ := hT.autN P (by omega)
    have hI := k_ImageOf (n + 1) tr (allS n) (p.2 ++ w)
    rw [autB_iff.2 At, htl, hwb, setB_iff.2 ⟨allS_SI n, fun x hx => by have := allS_in x hx; omega⟩, trapIm_img P hT hu] at hI
    have hkI := k_CarefulImage n next P (allS n) (p.2 ++ w) (allS_set n) hwb
    simp only [Option.getD_some, Bzz, yz6, yzg, Nat.not_lt_zero, range1, yzx, yz10, yz15, yz14, yz11, yz18, yz17, yz16, yzz, yzp, yzh, yz3, yzv, yzs, yzq, yzn, yzu, yzd, yze, yz8, yzc, yzm, yzj, yz2, yzb, yz9, yz7, yzl, yzk, List.range_zero, yz4, yz5, yza, yzo, yzf, yzt, AVal.fresh, freshL, yz1, yzi, AObj.fresh, id, Option.isSome_some, or_true, true_or, go_sem, yz0, Int.reduceLT, reduceLE, reduceToNat, reduceNeg, Nat.reduceLT, reduceLeDiff, reduceMul, reduceSub, reduceIte, reduceEqDiff, reduceAdd, reduceCtorEq]
    intro vs5
    refine call_rowI (k_P6All n (by omega)) qCS qGN ⟨_, rfl⟩ ?_
    rintro al v117 rfl
    simp only [yz6, yzg, go_sem, yz0, Int.reduceLT, reduceLE, reduceToNat, reduceNeg, Nat.reduceLT, reduceLeDiff, reduceMul, reduceSub, reduceIte, reduceEqDiff, reduceAdd, reduceCtorEq]
    refine call_rowT hI qCS qGN (fun _ v119 => ?_) (fun h => by cases h)
    simp only [codeTT, Bool.and_self, Bzy, yz6, yzg, go_sem, yz0, Int.reduceLT, reduceLE, reduceToNat, reduceNeg, Nat.reduceLT, reduceLeDiff, reduceMul, reduceSub, reduceIte, reduceEqDiff, reduceAdd, reduceCtorEq]
    intro vs6
    refine call_rowI (k_P6All n (by omega)) qCS qGN ⟨_, rfl⟩ ?_
    rintro al2 v126 rfl
    simp only [yz6, yzg, go_sem, yz0, Int.reduceLT, reduceLE, reduceToNat, reduceNeg, Nat.reduceLT, reduceLeDiff, reduceMul, reduceSub, reduceIte, reduceEqDiff, reduceAdd, reduceCtorEq]
    have hreset := car_reset P hF hu
    have hsame : (gapsP next next.length).length = 0 → carB next n (p.2 ++ w) = decide ((imgA n ws (p.2 ++ w)).length = 1) := fun hz => by
      have A := no_gaps P hz
      rw [fill_same A hF]; exact car_same P A hu
    have hcf := car_first P
    rw [hq] at hcf
    have i1 : (trapIm n next (p.2 ++ w)).length ≤ 10 := by
      have := nrm_len ((allS n).map fun s => (pth next s (p.2 ++ w)).getD n)
      rw [List.length_map, allS_len] at this
      unfold trapIm; omega
    generalize trapIm n next (p.2 ++ w) = L at i0 hi i1
    have hl0 : ((L.length : Int) == 0) = false := beq_false_of_ne (by omega)
    have hlm : L.length - 1 < L.length := by omega
    have wl : IntKind.i64.wrap ((L.length : Int) - 1) = ((L.length - 1 : Nat) : Int) := by rw [w64 (by omega)]; omega
    have hb1 : ((L.length : Int) == 1) = decide (L.length = 1) := by rw [Bool.eq_iff_iff, beq_iff_eq, decide_eq_true_iff]; omega
    have hgl := yz12 (k := .i64) hlm
    have hXY : CarY n next (.ro none 1 (ints p.2)) 0 [] := .inr ⟨p, hq, rfl, rfl, rfl⟩
    have hF2 := fun Y' Z' hh v15' v98' v99' => careful_fin n next P hF Y' Z' hh _ _ _ hXY v5 v15' v35 v48 v98' v99'
    rcases hi with ⟨h1, h2, h3⟩ | ⟨g, hg, h1, h2, h3, h4⟩
    · rw [h1] at hkI
      rw [h2] at hgl
      rw [h3] at hsame
      have hnn : (n != n) = false := by simp
      refine call_fn hkI qCS (fun e => by cases e) ?_
      rintro rows res ⟨rfl, rfl⟩
      refine ⟨by simp, by rw [Option.getD_some, yzo]; simp only [go_sem, yz0, Int.reduceLT, reduceLE, reduceToNat, reduceNeg, Nat.reduceLT, reduceLeDiff, reduceMul, reduceSub, reduceIte, reduceEqDiff, reduceAdd, reduceCtorEq], ?_⟩
      simp only [e00, hl0, wl, hgl, hnn, Bza, Bz8, Bz9, yz6, yzg, Nat.not_lt_zero, range1, yzx, yz10, yz15, yz14, yz11, yz18, yz17, yz16, yzz, yzp, yzh, yz3, yzv, yzs, yzq, yzn, yzu, yzd, yze, yz8, yzc, yzm, yzj, yz2, yzb, yz9, yz7, yzl, yzk, List.range_zero, yz4, yz5, yza, yzo, yzf, yzt, AVal.fresh, freshL, yz1, yzi, AObj.fresh, id, Option.isSome_some, or_true, true_or, go_sem, yz0, Int.reduceLT, reduceLE, reduceToNat, reduceNeg, Nat.reduceLT, reduceLeDiff, reduceMul, reduceSub, reduceIte, reduceEqDiff, reduceAdd, reduceCtorEq]
      intro _
      refine ⟨⟨by omega, hlm⟩, hlm, ?_⟩
      cases hdl : decide (L.length = 1) <;>
      · simp only [h3, hb1, hdl, e40, eff, Bz5, yz6, yzg, go_sem, yz0, Int.reduceLT, reduceLE, reduceToNat, reduceNeg, Nat.reduceLT, reduceLeDiff, reduceMul, reduceSub, reduceIte, reduceEqDiff, reduceAdd, reduceCtorEq]
        simp only [eff, Bz2, yz6, yzg, go_sem, yz0, Int.reduceLT, reduceLE, reduceToNat, reduceNeg, Nat.reduceLT, reduceLeDiff, reduceMul, reduceSub, reduceIte, reduceEqDiff, reduceAdd, reduceCtorEq]
        simp only [Bz4, yz6, yzg, go_sem, yz0, Int.reduceLT, reduceLE, reduceToNat, reduceNeg, Nat.reduceLT, reduceLeDiff, reduceMul, reduceSub, reduceIte, reduceEqDiff, reduceAdd, reduceCtorEq]
        simp only [Bz3, yz6, yzg, go_sem, yz0, Int.reduceLT, reduceLE, reduceToNat, reduceNeg, Nat.reduceLT, reduceLeDiff, reduceMul, reduceSub, reduceIte, reduceEqDiff, reduceAdd, reduceCtorEq]
        intro _
        refine hF2 false _ hsame (vs2 11 0) v98 (vs2 7 v) _ ?_
        simp only [Bool.true_and, Bz0, yz6, yzg, go_sem, yz0, Int.reduceLT, reduceLE, reduceToNat, reduceNeg, Nat.reduceLT, reduceLeDiff, reduceMul, reduceSub, reduceIte, reduceEqDiff, reduceAdd, reduceCtorEq]
        try rfl
    · rw [h1] at hkI
      have hxn : (L.getD (L.length - 1) 0 != n) = true := by simpa using h3
      refine call_fn hkI qCS (fun e => by cases e) ?_
      rintro rows res ⟨v128, rfl, rfl⟩
      refine ⟨by simp, by rw [Option.getD_some, yzf]; simp only [go_sem, yz0, Int.reduceLT, reduceLE, reduceToNat, reduceNeg, Nat.reduceLT, reduceLeDiff, reduceMul, reduceSub, reduceIte, reduceEqDiff, reduceAdd, reduceCtorEq], ?_⟩
      simp only [e00, hl0, wl, hgl, hxn, Bza, Bz8, Bz9, yz6, yzg, Nat.not_lt_zero, range1, yzx, yz10, yz15, yz14, yz11, yz18, yz17, yz16, yzz, yzp, yzh, yz3, yzv, yzs, yzq, yzn, yzu, yzd, yze, yz8, yzc, yzm, yzj, yz2, yzb, yz9, yz7, yzl, yzk, List.range_zero, yz4, yz5, yza, yzo, yzf, yzt, AVal.fresh, freshL, yz1, yzi, AObj.fresh, id, Option.isSome_some, or_true, true_or, go_sem, yz0, Int.reduceLT, reduceLE, reduceToNat, reduceNeg, Nat.reduceLT, reduceLeDiff, reduceMul, reduceSub, reduceIte, reduceEqDiff, reduceAdd, reduceCtorEq]
      intro _
      refine ⟨⟨by omega, hlm⟩, hlm, ?_⟩
      cases hY : carB next n (p.2 ++ w) with
      | false =>
        rw [hY] at hsame h4
        simp only [hY, hb1, ← h4, ez0, eff, ett, Bz5, yz6, yzg, go_sem, yz0, Int.reduceLT, reduceLE, reduceToNat, reduceNeg, Nat.reduceLT, reduceLeDiff, reduceMul, reduceSub, reduceIte, reduceEqDiff, reduceAdd, reduceCtorEq]
        intro vs7 _
        refine yzr (k_f6ints (bitsTo g 10) L) qCS trivial ?_
        simp only [← h2, decide_true, Bool.not_true, Bz2, yz6, yzg, go_sem, yz0, Int.reduceLT, reduceLE, reduceToNat, reduceNeg, Nat.reduceLT, reduceLeDiff, reduceMul, reduceSub, reduceIte, reduceEqDiff, reduceAdd, reduceCtorEq]
        simp only [Bz4, yz6, yzg, go_sem, yz0, Int.reduceLT, reduceLE, reduceToNat, reduceNeg, Nat.reduceLT, reduceLeDiff, reduceMul, reduceSub, reduceIte, reduceEqDiff, reduceAdd, reduceCtorEq]
        simp only [Bz3, yz6, yzg, go_sem, yz0, Int.reduceLT, reduceLE, reduceToNat, reduceNeg, Nat.reduceLT, reduceLeDiff, reduceMul, reduceSub, reduceIte, reduceEqDiff, reduceAdd, reduceCtorEq]
        refine hF2 false _ hsame (vs2 11 0) v98 (vs2 7 v) _ ?_
        simp only [Bool.true_and, Bz0, yz6, yzg, go_sem, yz0, Int.reduceLT, reduceLE, reduceToNat, reduceNeg, Nat.reduceLT, reduceLeDiff, reduceMul, reduceSub, reduceIte, reduceEqDiff, reduceAdd, reduceCtorEq]
        try rfl
      | true =>
        have hZ : (imgA n ws (p.2 ++ w)).length = 1 := hreset hY
        have hbf : befP (p.2 ++ w) p.2 = false := hcf.2.2 (p.2 ++ w) hu hY
        rw [hY] at hsame h4
        simp only [hY, hb1, ← h4, ez0, eff, ett, Bz5, yz6, yzg, go_sem, yz0, Int.reduceLT, reduceLE, reduceToNat, reduceNeg, Nat.reduceLT, reduceLeDiff, reduceMul, reduceSub, reduceIte, reduceEqDiff, reduceAdd, reduceCtorEq]
        intro vs7 _
        refine yzr (k_f6ints (bitsTo g 10) L) qCS trivial ?_
        simp only [← h2, decide_true, Bool.not_true, Bz2, yz6, yzg, go_sem, yz0, Int.reduceLT, reduceLE, reduceToNat, reduceNeg, Nat.reduceLT, reduceLeDiff, reduceMul, reduceSub, reduceIte, reduceEqDiff, reduceAdd, reduceCtorEq]
        simp only [hZ, decide_true, Bool.and_self, e00, Bz4, yz6, yzg, go_sem, yz0, Int.reduceLT, reduceLE, reduceToNat, reduceNeg, Nat.reduceLT, reduceLeDiff, reduceMul, reduceSub, reduceIte, reduceEqDiff, reduceAdd, reduceCtorEq]
        intro vs8
        refine yzr (k_f6before (p.2 ++ w) p.2) qCS trivial ?_
        simp only [hbf, Bz3, yz6, yzg, go_sem, yz0, Int.reduceLT, reduceLE, reduceToNat, reduceNeg, Nat.reduceLT, reduceLeDiff, reduceMul, reduceSub, reduceIte, reduceEqDiff, reduceAdd, reduceCtorEq]
        refine hF2 true true (fun _ => rfl) (vs2 11 0) v98 (vs2 7 v) _ ?_
        simp only [Bz0, yz6, yzg, go_sem, yz0, Int.reduceLT, reduceLE, reduceToNat, reduceNeg, Nat.reduceLT, reduceLeDiff, reduceMul, reduceSub, reduceIte, reduceEqDiff, reduceAdd, reduceCtorEq]
        try rfl
  · rw [hS]
    simp only [Bz6, yz6, yzg, go_sem, yz0, Int.reduceLT, reduceLE, reduceToNat, reduceNeg, Nat.reduceLT, reduceLeDiff, reduceMul, reduceSub, reduceIte, reduceEqDiff, reduceAdd, reduceCtorEq]
    intro vs
    refine call_fun2 hkC qCS ?_
    simp only [Bz12, yz6, yzg, go_sem, yz0, Int.reduceLT, reduceLE, reduceToNat, reduceNeg, Nat.reduceLT, reduceLeDiff, reduceMul, reduceSub, reduceIte, reduceEqDiff, reduceAdd, reduceCtorEq]
    intro vs2
    simp only [hgh, yz6, yzg, go_sem, yz0, Int.reduceLT, reduceLE, reduceToNat, reduceNeg, Nat.reduceLT, reduceLeDiff, reduceMul, reduceSub, reduceIte, reduceEqDiff, reduceAdd, reduceCtorEq]
    refine call_rowI (k_P6States more (gapsP next next.length).length n hb2 (by omega) (by omega)) qCS qGN ⟨List.replicate (gapsP next next.length).length 0, by simp [StsOf]; omega⟩ ?_
    rintro st v98 hst
    simp only [yz6, yzg, go_sem, yz0, Int.reduceLT, reduceLE, reduceToNat, reduceNeg, Nat.reduceLT, reduceLeDiff, reduceMul, reduceSub, reduceIte, reduceEqDiff, reduceAdd, reduceCtorEq]
    refine call_fn (k_FillGaps n next P st hst) qCS (fun _ => by
      obtain ⟨ps, h1, _⟩ := Filling.ex hst.1
      exact ⟨_, _, 0, _, rfl, h1, rfl⟩) ?_
    rintro rows res ⟨v, ws, rfl, hF, rfl⟩
    refine ⟨by simp, by rw [Option.getD_some, yzf]; simp only [go_sem, yz0, Int.reduceLT, reduceLE, reduceToNat, reduceNeg, Nat.reduceLT, reduceLeDiff, reduceMul, reduceSub, reduceIte, reduceEqDiff, reduceAdd, reduceCtorEq], ?_⟩
    simp only [Option.getD_some, yzg, Nat.not_lt_zero, range1, yzx, yz10, yz15, yz14, yz11, yz18, yz17, yz16, yzz, yzp, yzh, yz3, yzv, yzs, yzq, yzn, yzu, yzd, yze, yz8, yzc, yzm, yzj, yz2, yzb, yz9, yz7, yzl, yzk, List.range_zero, yz4, yz5, yza, yzo, yzf, yzt, AVal.fresh, freshL, yz1, yzi, AObj.fresh, id, Option.isSome_some, or_true, true_or, go_sem, yz0, Int.reduceLT, reduceLE, reduceToNat, reduceNeg, Nat.reduceLT, reduceLeDiff, reduceMul, reduceSub, reduceIte, reduceEqDiff, reduceAdd, reduceCtorEq]
    have Aw := hF.autN P hst.2
    have hwl := hF.len
    have hR := k_IsReset n ws p.2
    rw [autB_iff.2 Aw, hwl, hwb] at hR
    simp only [Bz11, yz6, yzg, go_sem, yz0, Int.reduceLT, reduceLE, reduceToNat, reduceNeg, Nat.reduceLT, reduceLeDiff, reduceMul, reduceSub, reduceIte, reduceEqDiff, reduceAdd, reduceCtorEq]
    intro vs3
    refine call_fun2 hR qCS ?_
    simp only [codeTT, Bz10, yz6, yzg, go_sem, yz0, Int.reduceLT, reduceLE, reduceToNat, reduceNeg, Nat.reduceLT, reduceLeDiff, reduceMul, reduceSub, reduceIte, reduceEqDiff, reduceAdd, reduceCtorEq]
    intro vs4
    refine call_fn (k_TrapR n next P (by omega)) qCS (fun e => by cases e) ?_
    rintro rows res ⟨v', tr, rfl, hT, rfl⟩
    refine ⟨by simp, by rw [Option.getD_some, yzf]; simp only [go_sem, yz0, Int.reduceLT, reduceLE, reduceToNat, reduceNeg, Nat.reduceLT, reduceLeDiff, reduceMul, reduceSub, reduceIte, reduceEqDiff, reduceAdd, reduceCtorEq], ?_⟩
    obtain ⟨At, htl⟩ := hT.autN P (by omega)
    have hI := k_ImageOf (n + 1) tr (allS n) p.2
    rw [autB_iff.2 At, htl, hwb, setB_iff.2 ⟨allS_SI n, fun x hx => by have := allS_in x hx; omega⟩, trapIm_img P hT hu] at hI
    have hkI := k_CarefulImage n next P (allS n) p.2 (allS_set n) hwb
    simp only [Option.getD_some, Bzz, yz6, yzg, Nat.not_lt_zero, range1, yzx, yz10, yz15, yz14, yz11, yz18, yz17, yz16, yzz, yzp, yzh, yz3, yzv, yzs, yzq, yzn, yzu, yzd, yze, yz8, yzc, yzm, yzj, yz2, yzb, yz9, yz7, yzl, yzk, List.range_zero, yz4, yz5, yza, yzo, yzf, yzt, AVal.fresh, freshL, yz1, yzi, AObj.fresh, id, Option.isSome_some, or_true, true_or, go_sem, yz0, Int.reduceLT, reduceLE, reduceToNat, reduceNeg, Nat.reduceLT, reduceLeDiff, reduceMul, reduceSub, reduceIte, reduceEqDiff, reduceAdd, reduceCtorEq]
    intro vs5
    refine call_rowI (k_P6All n (by omega)) qCS qGN ⟨_, rfl⟩ ?_
    rintro al v117 rfl
    simp only [yz6, yzg, go_sem, yz0, Int.reduceLT, reduceLE, reduceToNat, reduceNeg, Nat.reduceLT, reduceLeDiff, reduceMul, reduceSub, reduceIte, reduceEqDiff, reduceAdd, reduceCtorEq]
    refine call_rowT hI qCS qGN (fun _ v119 => ?_) (fun h => by cases h)
    simp only [codeTT, Bool.and_self, Bzy, yz6, yzg, go_sem, yz0, Int.reduceLT, reduceLE, reduceToNat, reduceNeg, Nat.reduceLT, reduceLeDiff, reduceMul, reduceSub, reduceIte, reduceEqDiff, reduceAdd, reduceCtorEq]
    intro vs6
    refine call_rowI (k_P6All n (by omega)) qCS qGN ⟨_, rfl⟩ ?_
    rintro al2 v126 rfl
    simp only [yz6, yzg, go_sem, yz0, Int.reduceLT, reduceLE, reduceToNat, reduceNeg, Nat.reduceLT, reduceLeDiff, reduceMul, reduceSub, reduceIte, reduceEqDiff, reduceAdd, reduceCtorEq]
    have hreset := car_reset P hF hu
    have hsame : (gapsP next next.length).length = 0 → carB next n p.2 = decide ((imgA n ws p.2).length = 1) := fun hz => by
      have A := no_gaps P hz
      rw [fill_same A hF]; exact car_same P A hu
    have hcf := car_first P
    rw [hq] at hcf
    have i1 : (trapIm n next p.2).length ≤ 10 := by
      have := nrm_len ((allS n).map fun s => (pth next s p.2).getD n)
      rw [List.length_map, allS_len] at this
      unfold trapIm; omega
    generalize trapIm n next p.2 = L at i0 hi i1
    have hl0 : ((L.length : Int) == 0) = false := beq_false_of_ne (by omega)
    have hlm : L.length - 1 < L.length := by omega
    have wl : IntKind.i64.wrap ((L.length : Int) - 1) = ((L.length - 1 : Nat) : Int) := by rw [w64 (by omega)]; omega
    have hb1 : ((L.length : Int) == 1) = decide (L.length = 1) := by rw [Bool.eq_iff_iff, beq_iff_eq, decide_eq_true_iff]; omega
    have hgl := yz12 (k := .i64) hlm
    have hXY : CarY n next (.ro none 1 (ints p.2)) 0 [] := .inr ⟨p, hq, rfl, rfl, rfl⟩
    have hF2 := fun Y' Z' hh v15' v98' v99' => careful_fin n next P hF Y' Z' hh _ _ _ hXY v5 v15' v35 v48 v98' v99'
    rcases hi with ⟨h1, h2, h3⟩ | ⟨g, hg, h1, h2, h3, h4⟩
    · rw [h1] at hkI
      rw [h2] at hgl
      rw [h3] at hsame
      have hnn : (n != n) = false := by simp
      refine call_fn hkI qCS (fun e => by cases e) ?_
      rintro rows res ⟨rfl, rfl⟩
      refine ⟨by simp, by rw [Option.getD_some, yzo]; simp only [go_sem, yz0, Int.reduceLT, reduceLE, reduceToNat, reduceNeg, Nat.reduceLT, reduceLeDiff, reduceMul, reduceSub, reduceIte, reduceEqDiff, reduceAdd, reduceCtorEq], ?_⟩
      simp only [e00, hl0, wl, hgl, hnn, Bza, Bz8, Bz9, yz6, yzg, Nat.not_lt_zero, range1, yzx, yz10, yz15, yz14, yz11, yz18, yz17, yz16, yzz, yzp, yzh, yz3, yzv, yzs, yzq, yzn, yzu, yzd, yze, yz8, yzc, yzm, yzj, yz2, yzb, yz9, yz7, yzl, yzk, List.range_zero, yz4, yz5, yza, yzo, yzf, yzt, AVal.fresh, freshL, yz1, yzi, AObj.fresh, id, Option.isSome_some, or_true, true_or, go_sem, yz0, Int.reduceLT, reduceLE, reduceToNat, reduceNeg, Nat.reduceLT, reduceLeDiff, reduceMul, reduceSub, reduceIte, reduceEqDiff, reduceAdd, reduceCtorEq]
      intro _
      refine ⟨⟨by omega, hlm⟩, hlm, ?_⟩
      cases hdl : decide (L.length = 1) <;>
      · simp only [h3, hb1, hdl, e40, eff, Bz5, yz6, yzg, go_sem, yz0, Int.reduceLT, reduceLE, reduceToNat, reduceNeg, Nat.reduceLT, reduceLeDiff, reduceMul, reduceSub, reduceIte, reduceEqDiff, reduceAdd, reduceCtorEq]
        simp only [eff, Bz2, yz6, yzg, go_sem, yz0, Int.reduceLT, reduceLE, reduceToNat, reduceNeg, Nat.reduceLT, reduceLeDiff, reduceMul, reduceSub, reduceIte, reduceEqDiff, reduceAdd, reduceCtorEq]
        simp only [Bz4, yz6, yzg, go_sem, yz0, Int.reduceLT, reduceLE, reduceToNat, reduceNeg, Nat.reduceLT, reduceLeDiff, reduceMul, reduceSub, reduceIte, reduceEqDiff, reduceAdd, reduceCtorEq]
        simp only [Bz3, yz6, yzg, go_sem, yz0, Int.reduceLT, reduceLE, reduceToNat, reduceNeg, Nat.reduceLT, reduceLeDiff, reduceMul, reduceSub, reduceIte, reduceEqDiff, reduceAdd, reduceCtorEq]
        intro _
        refine hF2 false _ hsame (vs2 11 0) v98 (vs2 7 v) _ ?_
        simp only [Bool.true_and, Bz0, yz6, yzg, go_sem, yz0, Int.reduceLT, reduceLE, reduceToNat, reduceNeg, Nat.reduceLT, reduceLeDiff, reduceMul, reduceSub, reduceIte, reduceEqDiff, reduceAdd, reduceCtorEq]
        try rfl
    · rw [h1] at hkI
      have hxn : (L.getD (L.length - 1) 0 != n) = true := by simpa using h3
      refine call_fn hkI qCS (fun e => by cases e) ?_
      rintro rows res ⟨v128, rfl, rfl⟩
      refine ⟨by simp, by rw [Option.getD_some, yzf]; simp only [go_sem, yz0, Int.reduceLT, reduceLE, reduceToNat, reduceNeg, Nat.reduceLT, reduceLeDiff, reduceMul, reduceSub, reduceIte, reduceEqDiff, reduceAdd, reduceCtorEq], ?_⟩
      simp only [e00, hl0, wl, hgl, hxn, Bza, Bz8, Bz9, yz6, yzg, Nat.not_lt_zero, range1, yzx, yz10, yz15, yz14, yz11, yz18, yz17, yz16, yzz, yzp, yzh, yz3, yzv, yzs, yzq, yzn, yzu, yzd, yze, yz8, yzc, yzm, yzj, yz2, yzb, yz9, yz7, yzl, yzk, List.range_zero, yz4, yz5, yza, yzo, yzf, yzt, AVal.fresh, freshL, yz1, yzi, AObj.fresh, id, Option.isSome_some, or_true, true_or, go_sem, yz0, Int.reduceLT, reduceLE, reduceToNat, reduceNeg, Nat.reduceLT, reduceLeDiff, reduceMul, reduceSub, reduceIte, reduceEqDiff, reduceAdd, reduceCtorEq]
      intro _
      refine ⟨⟨by omega, hlm⟩, hlm, ?_⟩
      cases hY : carB next n p.2 with
      | false =>
        rw [hY] at hsame h4
        simp only [hY, hb1, ← h4, ez0, eff, ett, Bz5, yz6, yzg, go_sem, yz0, Int.reduceLT, reduceLE, reduceToNat, reduceNeg, Nat.reduceLT, reduceLeDiff, reduceMul, reduceSub, reduceIte, reduceEqDiff, reduceAdd, reduceCtorEq]
        intro vs7 _
        refine yzr (k_f6ints (bitsTo g 10) L) qCS trivial ?_
        simp only [← h2, decide_true, Bool.not_true, Bz2, yz6, yzg, go_sem, yz0, Int.reduceLT, reduceLE, reduceToNat, reduceNeg, Nat.reduceLT, reduceLeDiff, reduceMul, reduceSub, reduceIte, reduceEqDiff, reduceAdd, reduceCtorEq]
        simp only [Bz4, yz6, yzg, go_sem, yz0, Int.reduceLT, reduceLE, reduceToNat, reduceNeg, Nat.reduceLT, reduceLeDiff, reduceMul, reduceSub, reduceIte, reduceEqDiff, reduceAdd, reduceCtorEq]
        simp only [Bz3, yz6, yzg, go_sem, yz0, Int.reduceLT, reduceLE, reduceToNat, reduceNeg, Nat.reduceLT, reduceLeDiff, reduceMul, reduceSub, reduceIte, reduceEqDiff, reduceAdd, reduceCtorEq]
        refine hF2 false _ hsame (vs2 11 0) v98 (vs2 7 v) _ ?_
        simp only [Bool.true_and, Bz0, yz6, yzg, go_sem, yz0, Int.reduceLT, reduceLE, reduceToNat, reduceNeg, Nat.reduceLT, reduceLeDiff, reduceMul, reduceSub, reduceIte, reduceEqDiff, reduceAdd, reduceCtorEq]
        try rfl
      | true =>
        have hZ : (imgA n ws p.2).length = 1 := hreset hY
        have hbf : befP p.2 p.2 = false := hcf.2.2 p.2 hu hY
        rw [hY] at hsame h4
        simp only [hY, hb1, ← h4, ez0, eff, ett, Bz5, yz6, yzg, go_sem, yz0, Int.reduceLT, reduceLE, reduceToNat, reduceNeg, Nat.reduceLT, reduceLeDiff, reduceMul, reduceSub, reduceIte, reduceEqDiff, reduceAdd, reduceCtorEq]
        intro vs7 _
        refine yzr (k_f6ints (bitsTo g 10) L) qCS trivial ?_
        simp only [← h2, decide_true, Bool.not_true, Bz2, yz6, yzg, go_sem, yz0, Int.reduceLT, reduceLE, reduceToNat, reduceNeg, Nat.reduceLT, reduceLeDiff, reduceMul, reduceSub, reduceIte, reduceEqDiff, reduceAdd, reduceCtorEq]
        simp only [hZ, decide_true, Bool.and_self, e00, Bz4, yz6, yzg, go_sem, yz0, Int.reduceLT, reduceLE, reduceToNat, reduceNeg, Nat.reduceLT, reduceLeDiff, reduceMul, reduceSub, reduceIte, reduceEqDiff, reduceAdd, reduceCtorEq]
        intro vs8
        refine yzr (k_f6before p.2 p.2) qCS trivial ?_
        simp only [hbf, Bz3, yz6, yzg, go_sem, yz0, Int.reduceLT, reduceLE, reduceToNat, reduceNeg, Nat.reduceLT, reduceLeDiff, reduceMul, reduceSub, reduceIte, reduceEqDiff, reduceAdd, reduceCtorEq]
        refine hF2 true true (fun _ => rfl) (vs2 11 0) v98 (vs2 7 v) _ ?_
        simp only [Bz0, yz6, yzg, go_sem, yz0, Int.reduceLT, reduceLE, reduceToNat, reduceNeg, Nat.reduceLT, reduceLeDiff, reduceMul, reduceSub, reduceIte, reduceEqDiff, reduceAdd, reduceCtorEq]
        try rfl
theorem k_FnCareful (code more : List Int) (hb : ∀ x ∈ code, 0 ≤ x ∧ x ≤ 255) (hb2 : ∀ x ∈ more, 0 ≤ x ∧ x ≤ 255) :
    Fun Tryz.prog nz7g [.ro (some (some 0)) 1 (intsK .u8 code), .ro (some (some 0)) 1 (intsK .u8 more)] (bv true) := by
  refine fun_of mixed czh0 rfl ⟨rfl, trivial⟩ ?_
  simp only [Az7l, Bz7k, go_sem, yz0, Int.reduceLT, reduceLE, reduceToNat, reduceNeg, Nat.reduceLT, reduceLeDiff, reduceMul, reduceSub, reduceIte, reduceEqDiff, reduceAdd, reduceCtorEq]
  intro vs
  refine yzr (k_f6big code) qCS trivial ?_
  have e00 : ((0 : Int) != 0) = false := rfl
  have e66 : ((6 : Int) != 6) = false := rfl
  have e60 : ((6 : Int) == 0) = false := rfl
  have ez0 : ((0 : Int) == 0) = true := rfl
  by_cases hc : (code.length : Int) > 4096
  · simp only [Bz2a, decide_eq_true hc, go_sem, yz0, Int.reduceLT, reduceLE, reduceToNat, reduceNeg, Nat.reduceLT, reduceLeDiff, reduceMul, reduceSub, reduceIte, reduceEqDiff, reduceAdd, reduceCtorEq]
  simp only [decide_eq_false hc, go_sem, yz0, Int.reduceLT, reduceLE, reduceToNat, reduceNeg, Nat.reduceLT, reduceLeDiff, reduceMul, reduceSub, reduceIte, reduceEqDiff, reduceAdd, reduceCtorEq]
  refine yzr (k_f6big more) qCS trivial ?_
  by_cases hm : (more.length : Int) > 4096
  · simp only [Bz2a, decide_eq_true hm, go_sem, yz0, Int.reduceLT, reduceLE, reduceToNat, reduceNeg, Nat.reduceLT, reduceLeDiff, reduceMul, reduceSub, reduceIte, reduceEqDiff, reduceAdd, reduceCtorEq]
  simp only [Bz2a, Bz7j, decide_eq_false hm, go_sem, yz0, Int.reduceLT, reduceLE, reduceToNat, reduceNeg, Nat.reduceLT, reduceLeDiff, reduceMul, reduceSub, reduceIte, reduceEqDiff, reduceAdd, reduceCtorEq]
  intro vs2
  refine call_sh (k_P6Partial code 3 hb (by omega)) qCS (fun e => by cases e) ?_
  rintro outs rows res ⟨rfl, n, next, v, P, n4, _, rfl, rfl⟩
  refine ⟨rfl, by simp, by rw [Option.getD_some, yzf]; simp only [go_sem, yz0, Int.reduceLT, reduceLE, reduceToNat, reduceNeg, Nat.reduceLT, reduceLeDiff, reduceMul, reduceSub, reduceIte, reduceEqDiff, reduceAdd, reduceCtorEq], ?_⟩
  have n1 := P.n1
  have l1 := P.l1
  have l2 := P.l2
  have hN : 2 ^ n.toNat ≤ 2 ^ 4 := Nat.pow_le_pow_right (n := 2) (by omega) (show n.toNat ≤ 4 by omega)
  have hcf := car_first P
  have hP := k_specCarefulWord n next P
  simp only [Option.getD_some, Bz7i, yz6, Nat.not_lt_zero, range1, yzx, yz10, yz15, yz14, yz11, yz18, yz17, yz16, yzz, yzp, yzh, yz3, yzv, yzs, yzq, yzn, yzu, yzd, yze, yz8, yzc, yzm, yzj, yz2, yzb, yz9, yz7, yzl, yzk, List.range_zero, yz4, yz5, yza, yzo, yzf, yzt, AVal.fresh, freshL, yz1, yzi, AObj.fresh, id, Option.isSome_some, or_true, true_or, go_sem, yz0, Int.reduceLT, reduceLE, reduceToNat, reduceNeg, Nat.reduceLT, reduceLeDiff, reduceMul, reduceSub, reduceIte, reduceEqDiff, reduceAdd, reduceCtorEq]
  intro vs3
  refine call_fn (k_CarefulWord n next P) qCS (fun e => by cases e) ?_
  rintro rows res ⟨rfl, ⟨p, hq, hpl, rfl⟩ | ⟨hq, rfl⟩⟩
  · refine ⟨by simp, by rw [Option.getD_some, yzo]; simp only [go_sem, yz0, Int.reduceLT, reduceLE, reduceToNat, reduceNeg, Nat.reduceLT, reduceLeDiff, reduceMul, reduceSub, reduceIte, reduceEqDiff, reduceAdd, reduceCtorEq], ?_⟩
    rw [hq] at hcf hP
    simp only [Bz4x, yz6, yzg, Nat.not_lt_zero, range1, yzx, yz10, yz15, yz14, yz11, yz18, yz17, yz16, yzz, yzp, yzh, yz3, yzv, yzs, yzq, yzn, yzu, yzd, yze, yz8, yzc, yzm, yzj, yz2, yzb, yz9, yz7, yzl, yzk, List.range_zero, yz4, yz5, yza, yzo, yzf, yzt, AVal.fresh, freshL, yz1, yzi, AObj.fresh, id, Option.isSome_some, or_true, true_or, go_sem, yz0, Int.reduceLT, reduceLE, reduceToNat, reduceNeg, Nat.reduceLT, reduceLeDiff, reduceMul, reduceSub, reduceIte, reduceEqDiff, reduceAdd, reduceCtorEq]
    intro vs4
    refine call_car hP rfl rfl (by simp only [coeL_rws_t]) qGN (fun p' hp' => ?_) (fun h => by cases h)
    cases hp'
    simp only [Bz4w, yz6, yzg, Nat.not_lt_zero, range1, yzx, yz10, yz15, yz14, yz11, yz18, yz17, yz16, yzz, yzp, yzh, yz3, yzv, yzs, yzq, yzn, yzu, yzd, yze, yz8, yzc, yzm, yzj, yz2, yzb, yz9, yz7, yzl, yzk, List.range_zero, yz4, yz5, yza, yzo, yzf, yzt, AVal.fresh, freshL, yz1, yzi, AObj.fresh, id, Option.isSome_some, or_true, true_or, go_sem, yz0, Int.reduceLT, reduceLE, reduceToNat, reduceNeg, Nat.reduceLT, reduceLeDiff, reduceMul, reduceSub, reduceIte, reduceEqDiff, reduceAdd, reduceCtorEq]
    intro vs5
    refine call_fn (k_specGapsOf n next P) qCS (fun e => by cases e) ?_
    rintro rows res ⟨v48, rfl, rfl⟩
    refine ⟨by simp, by rw [Option.getD_some, yzf]; simp only [go_sem, yz0, Int.reduceLT, reduceLE, reduceToNat, reduceNeg, Nat.reduceLT, reduceLeDiff, reduceMul, reduceSub, reduceIte, reduceEqDiff, reduceAdd, reduceCtorEq], ?_⟩
    simp only [Option.getD_some, e00, Bz4v, yz6, yzg, Nat.not_lt_zero, range1, yzx, yz10, yz15, yz14, yz11, yz18, yz17, yz16, yzz, yzp, yzh, yz3, yzv, yzs, yzq, yzn, yzu, yzd, yze, yz8, yzc, yzm, yzj, yz2, yzb, yz9, yz7, yzl, yzk, List.range_zero, yz4, yz5, yza, yzo, yzf, yzt, AVal.fresh, freshL, yz1, yzi, AObj.fresh, id, Option.isSome_some, or_true, true_or, go_sem, yz0, Int.reduceLT, reduceLE, reduceToNat, reduceNeg, Nat.reduceLT, reduceLeDiff, reduceMul, reduceSub, reduceIte, reduceEqDiff, reduceAdd, reduceCtorEq]
    intro vs6
    refine yzr (k_f6ints p.2 p.2) qCS trivial ?_
    simp only [decide_true, Bool.not_true, Bz4p, Bz4u, yz6, yzg, go_sem, yz0, Int.reduceLT, reduceLE, reduceToNat, reduceNeg, Nat.reduceLT, reduceLeDiff, reduceMul, reduceSub, reduceIte, reduceEqDiff, reduceAdd, reduceCtorEq]
    intro vs7 _
    refine call_rowI (k_P6Word more next.length 6 hb2 (by omega) (by omega)) qCS qGN ⟨[], by simp [IsW6]⟩ ?_
    rintro w v68 ⟨hw6, hwi⟩
    simp only [Bz4t, yz6, yzg, go_sem, yz0, Int.reduceLT, reduceLE, reduceToNat, reduceNeg, Nat.reduceLT, reduceLeDiff, reduceMul, reduceSub, reduceIte, reduceEqDiff, reduceAdd, reduceCtorEq]
    intro vs8
    refine call_funE (k_P6Pick more 2 hb2) qCS ⟨_, 0, rfl, by omega, by omega⟩ ?_
    rintro _ ⟨b, rfl, hb0, hb1⟩
    have hpI : IsW next.length p.2 := hcf.2.1
    have hwI : IsW next.length w := hwi
    have hw6 : (w.length : Int) ≤ 6 := hw6
    by_cases hb : b = 0
    · subst hb
      have haI : IsW next.length (p.2 ++ w) := fun x hx => by
        rcases List.mem_append.1 hx with h | h
        · exact hpI x h
        · exact hwI x h
      simp only [ez0, Bz2b, yz6, yzg, go_sem, yz0, Int.reduceLT, reduceLE, reduceToNat, reduceNeg, Nat.reduceLT, reduceLeDiff, reduceMul, reduceSub, reduceIte, reduceEqDiff, reduceAdd, reduceCtorEq]
      intro vs9
      refine ⟨by omega, by omega, ?_⟩
      simp only [Bz7h, yz6, yzg, go_sem, yz0, Int.reduceLT, reduceLE, reduceToNat, reduceNeg, Nat.reduceLT, reduceLeDiff, reduceMul, reduceSub, reduceIte, reduceEqDiff, reduceAdd, reduceCtorEq]
      intro _
      by_cases h8 : ((p.2 ++ w).length : Int) > 8
      · simp only [Bz4q, decide_eq_true h8, yz6, yzg, go_sem, yz0, Int.reduceLT, reduceLE, reduceToNat, reduceNeg, Nat.reduceLT, reduceLeDiff, reduceMul, reduceSub, reduceIte, reduceEqDiff, reduceAdd, reduceCtorEq]
        refine careful_tail more hb2 n next P n4 p.2 hpI (by omega) (vs2 2 0) (vs2 1 v) (vs5 1 v48) _ (.inr (.inr (.inr ⟨p, w, hq, rfl, v68, vs9 4 0, ?_⟩)))
        simp only [Bz6, yz6, yzg, go_sem, yz0, Int.reduceLT, reduceLE, reduceToNat, reduceNeg, Nat.reduceLT, reduceLeDiff, reduceMul, reduceSub, reduceIte, reduceEqDiff, reduceAdd, reduceCtorEq]
        try rfl
      · simp only [Bz4q, decide_eq_false h8, yz6, yzg, go_sem, yz0, Int.reduceLT, reduceLE, reduceToNat, reduceNeg, Nat.reduceLT, reduceLeDiff, reduceMul, reduceSub, reduceIte, reduceEqDiff, reduceAdd, reduceCtorEq]
        refine careful_tail more hb2 n next P n4 (p.2 ++ w) haI (by omega) (vs2 2 0) (vs2 1 v) (vs5 1 v48) _ (.inr (.inr (.inl ⟨p, w, hq, rfl, v68, vs9 4 0, ?_⟩)))
        simp only [Bz6, yz6, yzg, go_sem, yz0, Int.reduceLT, reduceLE, reduceToNat, reduceNeg, Nat.reduceLT, reduceLeDiff, reduceMul, reduceSub, reduceIte, reduceEqDiff, reduceAdd, reduceCtorEq]
        try rfl
    · have hbf : (b == 0) = false := beq_false_of_ne hb
      simp only [hbf, Bz2b, yz6, yzg, go_sem, yz0, Int.reduceLT, reduceLE, reduceToNat, reduceNeg, Nat.reduceLT, reduceLeDiff, reduceMul, reduceSub, reduceIte, reduceEqDiff, reduceAdd, reduceCtorEq]
      refine careful_tail more hb2 n next P n4 w hwI (by omega) (vs2 2 0) (vs2 1 v) (vs5 1 v48) _ (.inr (.inl ⟨p, hq, v68, ?_⟩))
      simp only [Bz6, yz6, yzg, go_sem, yz0, Int.reduceLT, reduceLE, reduceToNat, reduceNeg, Nat.reduceLT, reduceLeDiff, reduceMul, reduceSub, reduceIte, reduceEqDiff, reduceAdd, reduceCtorEq]
      try rfl
  · refine ⟨by simp, by rw [Option.getD_some, yzo]; simp only [go_sem, yz0, Int.reduceLT, reduceLE, reduceToNat, reduceNeg, Nat.reduceLT, reduceLeDiff, reduceMul, reduceSub, reduceIte, reduceEqDiff, reduceAdd, reduceCtorEq], ?_⟩
    rw [hq] at hcf hP
    simp only [Bz4x, yz6, yzg, Nat.not_lt_zero, range1, yzx, yz10, yz15, yz14, yz11, yz18, yz17, yz16, yzz, yzp, yzh, yz3, yzv, yzs, yzq, yzn, yzu, yzd, yze, yz8, yzc, yzm, yzj, yz2, yzb, yz9, yz7, yzl, yzk, List.range_zero, yz4, yz5, yza, yzo, yzf, yzt, AVal.fresh, freshL, yz1, yzi, AObj.fresh, id, Option.isSome_some, or_true, true_or, go_sem, yz0, Int.reduceLT, reduceLE, reduceToNat, reduceNeg, Nat.reduceLT, reduceLeDiff, reduceMul, reduceSub, reduceIte, reduceEqDiff, reduceAdd, reduceCtorEq]
    intro vs4
    refine call_car hP rfl rfl (by simp only [coeL_rws_t]) qGN (fun p' hp' => by cases hp') (fun _ v43 => ?_)
    simp only [Bz4w, yz6, yzg, Nat.not_lt_zero, range1, yzx, yz10, yz15, yz14, yz11, yz18, yz17, yz16, yzz, yzp, yzh, yz3, yzv, yzs, yzq, yzn, yzu, yzd, yze, yz8, yzc, yzm, yzj, yz2, yzb, yz9, yz7, yzl, yzk, List.range_zero, yz4, yz5, yza, yzo, yzf, yzt, AVal.fresh, freshL, yz1, yzi, AObj.fresh, id, Option.isSome_some, or_true, true_or, go_sem, yz0, Int.reduceLT, reduceLE, reduceToNat, reduceNeg, Nat.reduceLT, reduceLeDiff, reduceMul, reduceSub, reduceIte, reduceEqDiff, reduceAdd, reduceCtorEq]
    intro vs5
    refine call_fn (k_specGapsOf n next P) qCS (fun e => by cases e) ?_
    rintro rows res ⟨v48, rfl, rfl⟩
    refine ⟨by simp, by rw [Option.getD_some, yzf]; simp only [go_sem, yz0, Int.reduceLT, reduceLE, reduceToNat, reduceNeg, Nat.reduceLT, reduceLeDiff, reduceMul, reduceSub, reduceIte, reduceEqDiff, reduceAdd, reduceCtorEq], ?_⟩
    simp only [Option.getD_some, e00, e66, Bz4v, yz6, yzg, Nat.not_lt_zero, range1, yzx, yz10, yz15, yz14, yz11, yz18, yz17, yz16, yzz, yzp, yzh, yz3, yzv, yzs, yzq, yzn, yzu, yzd, yze, yz8, yzc, yzm, yzj, yz2, yzb, yz9, yz7, yzl, yzk, List.range_zero, yz4, yz5, yza, yzo, yzf, yzt, AVal.fresh, freshL, yz1, yzi, AObj.fresh, id, Option.isSome_some, or_true, true_or, go_sem, yz0, Int.reduceLT, reduceLE, reduceToNat, reduceNeg, Nat.reduceLT, reduceLeDiff, reduceMul, reduceSub, reduceIte, reduceEqDiff, reduceAdd, reduceCtorEq]
    intro vs6
    refine yzr (k_f6ints [] []) qCS trivial ?_
    simp only [decide_true, Bool.not_true, Bz4p, Bz4u, yz6, yzg, go_sem, yz0, Int.reduceLT, reduceLE, reduceToNat, reduceNeg, Nat.reduceLT, reduceLeDiff, reduceMul, reduceSub, reduceIte, reduceEqDiff, reduceAdd, reduceCtorEq]
    intro vs7 _
    refine call_rowI (k_P6Word more next.length 6 hb2 (by omega) (by omega)) qCS qGN ⟨[], by simp [IsW6]⟩ ?_
    rintro w v68 ⟨hw6, hwi⟩
    simp only [Bz4t, yz6, yzg, go_sem, yz0, Int.reduceLT, reduceLE, reduceToNat, reduceNeg, Nat.reduceLT, reduceLeDiff, reduceMul, reduceSub, reduceIte, reduceEqDiff, reduceAdd, reduceCtorEq]
    intro vs8
    refine call_funE (k_P6Pick more 2 hb2) qCS ⟨_, 0, rfl, by omega, by omega⟩ ?_
    rintro _ ⟨b, rfl, hb0, hb1⟩
    have hwI : IsW next.length w := hwi
    have hw6 : (w.length : Int) ≤ 6 := hw6
    cases hbf : (b == 0) <;>
    · simp only [hbf, e60, Bz2b, yz6, yzg, go_sem, yz0, Int.reduceLT, reduceLE, reduceToNat, reduceNeg, Nat.reduceLT, reduceLeDiff, reduceMul, reduceSub, reduceIte, reduceEqDiff, reduceAdd, reduceCtorEq]
      refine careful_tail more hb2 n next P n4 w hwI (by omega) (vs2 2 0) (vs2 1 v) (vs5 1 v48) _ (.inl ⟨hq, v43, v68, ?_⟩)
      simp only [Bz6, yz6, yzg, go_sem, yz0, Int.reduceLT, reduceLE, reduceToNat, reduceNeg, Nat.reduceLT, reduceLeDiff, reduceMul, reduceSub, reduceIte, reduceEqDiff, reduceAdd, reduceCtorEq]
      try rfl
end Go.Ab
