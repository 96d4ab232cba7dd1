/- Contracts: the specification's search for the first word that tells two states apart. Conditions: none. -/
import Derived.Test.YtoadopegbnmfkaaMf
set_option linter.all false
namespace Go.Ab
open Go.Proofs
set_option maxRecDepth 20000
set_option maxHeartbeats 2000000

abbrev prs (L : PS) : List (List Int) := L.map fun p => [(p.1.1 : Int), (p.1.2 : Int)]
abbrev wds (L : PS) : List (List Int) := L.map (·.2)
theorem prs_getD {L : PS} {i : Nat} (h : i < L.length) : (prs L).getD i [] = [((L.getD i ((0, 0), [])).1.1 : Int), ((L.getD i ((0, 0), [])).1.2 : Int)] := by
  rw [List.getD_eq_getElem?_getD, List.getElem?_map, List.getElem?_eq_getElem h, List.getD_eq_getElem?_getD, List.getElem?_eq_getElem h]; rfl

theorem ren_rp {f : Nat → Option Nat} {g : Nat → Nat} {cs : List AVal} {off : Nat} : (AVal.rp cs off).ren f g = .rp (renL f g cs) off := by simp [AVal.ren]
theorem ren_own_no {f : Nat → Option Nat} {g : Nat → Nat} {q v : Nat} (h : f q = none) : (AVal.own q v).ren f g = .any := by simp [AVal.ren, h]
theorem find_prs {L : PS} {q : Nat × Nat} : decide (fidx (fun y => decide (y = [(q.1 : Int), (q.2 : Int)])) (prs L) 0 < 0) = !hasP L q := by
  rw [fidx_neg]
  cases hh : hasP L q with
  | true =>
    obtain ⟨p, hp, rfl⟩ := List.mem_map.1 (hasP_iff.1 hh)
    have : [(p.1.1 : Int), (p.1.2 : Int)] ∈ prs L := List.mem_map.2 ⟨p, hp, rfl⟩
    simp [this]
  | false =>
    have : [(q.1 : Int), (q.2 : Int)] ∉ prs L := fun h => by
      obtain ⟨p, hp, e⟩ := List.mem_map.1 h
      simp only [List.cons.injEq, and_true] at e
      have e2 : p.1 = q := Prod.ext (by omega) (by omega)
      have := hasP_iff.2 (List.mem_map.2 ⟨p, hp, e2⟩)
      rw [hh] at this; cases this
    simp [this]

theorem k_find (n n' o o' : Int) (na nb oa ob : List (List Int)) (Ma : Mach n o na oa) (Mb : Mach n' o' nb ob) (hl : nb.length = na.length) (s t : Nat) (hs : (s : Int) < n) (ht : (t : Int) < n') :
    Con Try.prog n_spec_l06Search_find [.box 0 [machP n o na oa, machP n' o' nb ob, nilS, nilS]] [.ptr 5000 0 0, iv s, iv t] true fun outs rows res =>
      outs = [.box 0 [machP n o na oa, machP n' o' nb ob, .any, .any]] ∧ ∃ v, rows = [.row v 1 true (ints ((apartQ na nb oa ob s t).getD []))] ∧ res = .tup [.own 6000 v, bv (apartQ na nb oa ob s t).isSome] := by
  refine con_sh mixed c_spec_l06Search_find rfl (by simp) ?_
  have T : Two n n' na nb := ⟨Ma.aut, Mb.aut, hl⟩
  have n2 := Ma.aut.n2
  have n2' := Mb.aut.n2
  have l2 := Ma.aut.l2
  generalize hQ : finQ _ = Q
  simp only [A_spec_l06Search_find, B_spec_l06Search_find_1, go_sem, adopt_fun, Int.reduceLT, Int.reduceLE, Int.reduceToNat, Int.reduceNeg, Nat.reduceLT, Nat.reduceLeDiff, Nat.reduceMul, Nat.reduceSub, reduceIte, Nat.reduceEqDiff, Nat.reduceAdd, reduceCtorEq]
  intro vs
  refine ⟨⟨⟨_, rfl, rfl⟩, _, rfl, rfl⟩, ?_⟩
  simp only [B_spec_l06Search_find_2, B_spec_l06Search_find_3, B_spec_l06Search_find_4, go_sem, adopt_fun, Int.reduceLT, Int.reduceLE, Int.reduceToNat, Int.reduceNeg, Nat.reduceLT, Nat.reduceLeDiff, Nat.reduceMul, Nat.reduceSub, reduceIte, Nat.reduceEqDiff, Nat.reduceAdd, reduceCtorEq]
  intro vs2
  refine wpD_lo (fun (_, _, i, _) => 200 - i)
    (fun (_, _, i, L) => PI n.toNat n'.toNat na.length L ∧ i ≤ List.length L ∧ runP na nb oa ob (200 - i) i L = apartQ na nb oa ob s t)
    (fun ((va, vb, i, L) : Nat × Nat × Nat × PS) => ⟨Go.Ab.L .any [(0, .ptr 5000 0 0), (8, iv i)],
      Go.Ab.L .gone [(5000, .box 0 [machP n o na oa, machP n' o' nb ob, .own 17 va, .own 22 vb]), (17, .row va 1 true (rws (prs L))), (22, .row vb 1 true (rws (wds L)))]⟩)
    (_, _, 0, [((s, t), [])]) ⟨PI0 (by omega), by simp, rfl⟩ (by simp only [B_spec_l06Search_find_5, go_sem, adopt_fun, Int.reduceLT, Int.reduceLE, Int.reduceToNat, Int.reduceNeg, Nat.reduceLT, Nat.reduceLeDiff, Nat.reduceMul, Nat.reduceSub, reduceIte, Nat.reduceEqDiff, Nat.reduceAdd, reduceCtorEq]; try rfl) ?_
  rintro ⟨va, vb, i, L⟩ ⟨hI, hi, hR⟩
  have hi : i ≤ L.length := hi
  have hlen := hI.len (by omega) (by omega)
  by_cases hlt : (i : Int) < L.length
  · have hlt1 : i < L.length := by omega
    have hm := getD_mem hlt1 ((0, 0), ([] : List Int))
    have hfi := hI.rg _ hm
    have hwi := hI.wd _ hm
    have hpl : i < (prs L).length := by simpa using hlt1
    have hpg := prs_getD hlt1
    simp only [B_spec_l06Search_find_5, B_spec_l06Search_find_6, B_spec_l06Search_find_7, rws_getD hpl, hpg, dnL_rws, decide_eq_true hlt, go_sem, adopt_fun, Int.reduceLT, Int.reduceLE, Int.reduceToNat, Int.reduceNeg, Nat.reduceLT, Nat.reduceLeDiff, Nat.reduceMul, Nat.reduceSub, reduceIte, Nat.reduceEqDiff, Nat.reduceAdd, reduceCtorEq]
    intro hM
    refine ⟨⟨by omega, hlt1⟩, hlt1, ?_⟩
    generalize hfw : L.getD i ((0, 0), []) = fw at hm hfi hwi ⊢
    simp only [B_spec_l06Search_find_8, B_spec_l06Search_find_9, dnL_rws, go_sem, adopt_fun, Int.reduceLT, Int.reduceLE, Int.reduceToNat, Int.reduceNeg, Nat.reduceLT, Nat.reduceLeDiff, Nat.reduceMul, Nat.reduceSub, reduceIte, Nat.reduceEqDiff, Nat.reduceAdd, reduceCtorEq]
    refine wpD_lo (fun (_, _, x, _) => na.length - x)
      (fun (_, _, x, L') => x ≤ na.length ∧ L' = visP na nb fw.1 fw.2 x L ∧ ∀ y < x, difP oa ob fw.1 y = false)
      (fun ((va, vb, x, L') : Nat × Nat × Nat × PS) => ⟨Go.Ab.L .any [(0, .ptr 5000 0 0), (8, iv i), (9, .ro (some none) 1 [iv fw.1.1, iv fw.1.2]), (10, iv x)],
        Go.Ab.L .gone [(5000, .box 0 [machP n o na oa, machP n' o' nb ob, .own 17 va, .own 22 vb]), (17, .row va 1 true (rws (prs L'))), (22, .row vb 1 true (rws (wds L')))]⟩)
      (_, _, 0, L) ⟨by simp, rfl, fun y h => by omega⟩ (by simp only [B_spec_l06Search_find_10, dnL_rws, go_sem, adopt_fun, Int.reduceLT, Int.reduceLE, Int.reduceToNat, Int.reduceNeg, Nat.reduceLT, Nat.reduceLeDiff, Nat.reduceMul, Nat.reduceSub, reduceIte, Nat.reduceEqDiff, Nat.reduceAdd, reduceCtorEq]; try rfl) ?_
    rintro ⟨va, vb, x, L'⟩ ⟨hx, rfl, hdf⟩
    have hx : x ≤ na.length := hx
    have hdf : ∀ y < x, difP oa ob fw.1 y = false := hdf
    obtain ⟨hI', t', hpre⟩ := visP_ok T hI hlt1 x hx
    rw [hfw] at hI' hpre
    generalize hV : visP na nb fw.1 fw.2 x L = L' at hI' hpre ⊢
    have hlen' := hI'.len (by omega) (by omega)
    have hi2 : i < L'.length := by rw [hpre, List.length_append]; omega
    have hat : L'.getD i ((0, 0), []) = fw := by rw [hpre, getD_app hlt1, hfw]
    by_cases hxl : (x : Int) < na.length
    · have hxl1 : x < na.length := by omega
      have hwl : i < (wds L').length := by simpa using hi2
      have hwg : (wds L').getD i [] = fw.2 := by rw [← hat]; exact wordsP_getD hi2
      simp only [B_spec_l06Search_find_10, B_spec_l06Search_find_11, B_spec_l06Search_find_12, rws_getD hwl, hwg, dnL_rws, decide_eq_true hxl, go_sem, adopt_fun, Int.reduceLT, Int.reduceLE, Int.reduceToNat, Int.reduceNeg, Nat.reduceLT, Nat.reduceLeDiff, Nat.reduceMul, Nat.reduceSub, reduceIte, Nat.reduceEqDiff, Nat.reduceAdd, reduceCtorEq]
      intro hMa vs4
      refine ⟨⟨by omega, by simpa using hi2⟩, by simpa using hi2, ?_⟩
      refine call_rowI (k_l00Own fw.2 (by omega)) qCS qGN ⟨_, rfl⟩ ?_
      rintro xs v7 rfl
      have hM2 := maxLen_le
      have hxb : x < nb.length := by omega
      have hxoa : x < oa.length := by rw [Ma.len]; exact hxl1
      have hxob : x < ob.length := by rw [Mb.len]; exact hxb
      have ra := Ma.aut.row _ (getD_mem hxl1 [])
      have rb := Mb.aut.row _ (getD_mem hxb [])
      have qa := Ma.row _ (getD_mem hxoa [])
      have qb := Mb.row _ (getD_mem hxob [])
      have n1 := Ma.aut.n1
      have n1' := Mb.aut.n1
      have za : fw.1.1 < (na.getD x []).length := by omega
      have zb : fw.1.2 < (nb.getD x []).length := by omega
      have ya : fw.1.1 < (oa.getD x []).length := by omega
      have yb : fw.1.2 < (ob.getD x []).length := by omega
      have hai := ra.2 _ (getD_mem za 0)
      have hbi := rb.2 _ (getD_mem zb 0)
      simp only [dnL_rws, go_sem, adopt_fun, Int.reduceLT, Int.reduceLE, Int.reduceToNat, Int.reduceNeg, Nat.reduceLT, Nat.reduceLeDiff, Nat.reduceMul, Nat.reduceSub, reduceIte, Nat.reduceEqDiff, Nat.reduceAdd, reduceCtorEq]
      refine ⟨⟨_, rfl, rfl⟩, by omega, ?_⟩
      have w1 : IntKind.i64.wrap ((x : Int) + 1) = ((x + 1 : Nat) : Int) := by rw [w64 (by omega)]; simp
      cases hd : difP oa ob fw.1 x with
      | true =>
        have hd2 : ((oa.getD x []).getD fw.1.1 0 != (ob.getD x []).getD fw.1.2 0) = true := hd
        simp only [B_spec_l06Search_find_13, B_spec_l06Search_find_14, rwn_getD hxoa, rwn_getD hxob, intsK_getD ya, intsK_getD yb, hd2, dnL_rws, go_sem, adopt_fun, Int.reduceLT, Int.reduceLE, Int.reduceToNat, Int.reduceNeg, Nat.reduceLT, Nat.reduceLeDiff, Nat.reduceMul, Nat.reduceSub, reduceIte, Nat.reduceEqDiff, Nat.reduceAdd, reduceCtorEq]
        refine ⟨⟨by omega, hxoa⟩, hxoa, ⟨by omega, ya⟩, ya, ⟨by omega, hxob⟩, hxob, ⟨by omega, yb⟩, yb, ?_⟩
        have hap : apartQ na nb oa ob s t = some (fw.2 ++ [(x : Int)]) := by
          obtain ⟨F, hF⟩ : ∃ F, 200 - i = F + 1 := ⟨199 - i, by omega⟩
          rw [← hR, hF]
          simp only [runP, if_pos hlt1, hfw, fdP_some hdf hd hxl1]
        simp only [A_spec_l06Search_find, hap, ← hQ, dnL_rws, go_sem, adopt_fun, Int.reduceLT, Int.reduceLE, Int.reduceToNat, Int.reduceNeg, Nat.reduceLT, Nat.reduceLeDiff, Nat.reduceMul, Nat.reduceSub, reduceIte, Nat.reduceEqDiff, Nat.reduceAdd, reduceCtorEq]
        refine ⟨[60], by simp, by simp, by simp, ?_⟩
        simp only [Nat.not_lt_zero, range1, ren_val, ren_any, ren_ro, rnNm_n, rnNm_sn, rnNm_o, rnNm_s, ren_st, ren_tup, renL_nil, renL_cons, renL_intsK, renL_rws, renL_rwn, oren_box, oren_row, oren_map, ren_own_e0, ren_own_e1, ren_own_e2, ren_ptr_e0, ren_mp_e0, ren_mp_e1, ren_own_r0, ren_own_r1, ren_own_r2, ren_ptr_r0, ren_mp_r0, ren_mp_r1, List.range_zero, callHp_nil, callHp_one, callHp_two, gone_nil, gone_one, gone_two, AVal.fresh, freshL, fresh_intsK, fresh_rws, AObj.fresh, id, Option.isSome_some, or_true, true_or, go_sem, adopt_fun, Int.reduceLT, Int.reduceLE, Int.reduceToNat, Int.reduceNeg, Nat.reduceLT, Nat.reduceLeDiff, Nat.reduceMul, Nat.reduceSub, reduceIte, Nat.reduceEqDiff, Nat.reduceAdd, reduceCtorEq]
        refine ⟨?_, _, rfl, rfl⟩
        simp only [ren_rp, ren_own_no (show expo [60] 17 = none from rfl), ren_own_no (show expo [60] 22 = none from rfl), Nat.not_lt_zero, range1, ren_val, ren_any, ren_ro, rnNm_n, rnNm_sn, rnNm_o, rnNm_s, ren_st, ren_tup, renL_nil, renL_cons, renL_intsK, renL_rws, renL_rwn, oren_box, oren_row, oren_map, ren_own_e0, ren_own_e1, ren_own_e2, ren_ptr_e0, ren_mp_e0, ren_mp_e1, ren_own_r0, ren_own_r1, ren_own_r2, ren_ptr_r0, ren_mp_r0, ren_mp_r1, List.range_zero, callHp_nil, callHp_one, callHp_two, gone_nil, gone_one, gone_two, AVal.fresh, freshL, fresh_intsK, fresh_rws, AObj.fresh, id, Option.isSome_some, or_true, true_or]
      | false =>
        have hd2 : ((oa.getD x []).getD fw.1.1 0 != (ob.getD x []).getD fw.1.2 0) = false := hd
        have hsucc := visP_succ (na := na) (nb := nb) (p := fw.1) (w := fw.2) (x := x) (L := L)
        rw [hV] at hsucc
        have hst : stepP na nb fw.1 x = (((na.getD x []).getD fw.1.1 0).toNat, ((nb.getD x []).getD fw.1.2 0).toNat) := rfl
        have ta : ((((na.getD x []).getD fw.1.1 0).toNat : Nat) : Int) = (na.getD x []).getD fw.1.1 0 := by omega
        have tb : ((((nb.getD x []).getD fw.1.2 0).toNat : Nat) : Int) = (nb.getD x []).getD fw.1.2 0 := by omega
        simp only [B_spec_l06Search_find_13, B_spec_l06Search_find_14, B_spec_l06Search_find_15, rwn_getD hxoa, rwn_getD hxob, intsK_getD ya, intsK_getD yb, hd2, rwn_getD hxl1, rwn_getD hxb, intsK_getD za, intsK_getD zb, dnL_rws, go_sem, adopt_fun, Int.reduceLT, Int.reduceLE, Int.reduceToNat, Int.reduceNeg, Nat.reduceLT, Nat.reduceLeDiff, Nat.reduceMul, Nat.reduceSub, reduceIte, Nat.reduceEqDiff, Nat.reduceAdd, reduceCtorEq]
        refine ⟨⟨by omega, hxoa⟩, hxoa, ⟨by omega, ya⟩, ya, ⟨by omega, hxob⟩, hxob, ⟨by omega, yb⟩, yb, ?_⟩
        intro vs5
        refine ⟨⟨by omega, hxl1⟩, hxl1, ⟨by omega, za⟩, za, ⟨by omega, hxb⟩, hxb, ⟨by omega, zb⟩, zb, ⟨⟨_, rfl, rfl⟩, _, rfl, rfl⟩, ?_⟩
        have hfp := find_prs (L := L') (q := stepP na nb fw.1 x)
        simp only [hst, ta, tb] at hfp
        rw [← hst] at hfp
        simp only [B_spec_l06Search_find_16, dnL_rws, go_sem, adopt_fun, Int.reduceLT, Int.reduceLE, Int.reduceToNat, Int.reduceNeg, Nat.reduceLT, Nat.reduceLeDiff, Nat.reduceMul, Nat.reduceSub, reduceIte, Nat.reduceEqDiff, Nat.reduceAdd, reduceCtorEq]
        intro vs6
        refine call_fun (k_l01Find (prs L') [(na.getD x []).getD fw.1.1 0, (nb.getD x []).getD fw.1.2 0]) qCS trivial ?_
        cases hh : hasP L' (stepP na nb fw.1 x) with
        | true =>
          rw [hh, if_pos rfl] at hsucc
          rw [hh] at hfp
          simp only [B_spec_l06Search_find_17, B_spec_l06Search_find_19, hfp, w1, Bool.not_true, dnL_rws, go_sem, adopt_fun, Int.reduceLT, Int.reduceLE, Int.reduceToNat, Int.reduceNeg, Nat.reduceLT, Nat.reduceLeDiff, Nat.reduceMul, Nat.reduceSub, reduceIte, Nat.reduceEqDiff, Nat.reduceAdd, reduceCtorEq]
          exact ⟨(_, _, x + 1, _), by dsimp only; omega, ⟨by dsimp only; omega, hsucc.symm, fun y hy => by rcases Nat.lt_succ_iff_lt_or_eq.1 hy with h | h; exact hdf y h; exact h ▸ hd⟩, rfl⟩
        | false =>
          rw [hh, if_neg (by simp)] at hsucc
          rw [hh] at hfp
          simp only [B_spec_l06Search_find_17, B_spec_l06Search_find_18, hfp, w1, Bool.not_false, dnL_rws, go_sem, adopt_fun, Int.reduceLT, Int.reduceLE, Int.reduceToNat, Int.reduceNeg, Nat.reduceLT, Nat.reduceLeDiff, Nat.reduceMul, Nat.reduceSub, reduceIte, Nat.reduceEqDiff, Nat.reduceAdd, reduceCtorEq]
          intro vs7
          refine ⟨by first | omega | (simp only [List.length_map]; omega), ?_⟩
          intro vs8
          refine ⟨by first | omega | (simp only [List.length_map]; omega), ?_⟩
          have hps : prs L' ++ [[(na.getD x []).getD fw.1.1 0, (nb.getD x []).getD fw.1.2 0]] = prs (L' ++ [(stepP na nb fw.1 x, fw.2 ++ [(x : Int)])]) := by
            simp only [prs, List.map_append, List.map_cons, List.map_nil, hst, ta, tb]
          have hws : wds L' ++ [fw.2 ++ [(x : Int)]] = wds (L' ++ [(stepP na nb fw.1 x, fw.2 ++ [(x : Int)])]) := by
            simp only [wds, List.map_append, List.map_cons, List.map_nil]
          have hr2 : rws (prs L') ++ [.ro (some none) 1 [iv ((na.getD x []).getD fw.1.1 0), iv ((nb.getD x []).getD fw.1.2 0)]] = rws (prs (L' ++ [(stepP na nb fw.1 x, fw.2 ++ [(x : Int)])])) := by
            rw [← hps]; simp [rws]
          simp only [B_spec_l06Search_find_19, w1, hr2, hws, dnL_rws, go_sem, adopt_fun, Int.reduceLT, Int.reduceLE, Int.reduceToNat, Int.reduceNeg, Nat.reduceLT, Nat.reduceLeDiff, Nat.reduceMul, Nat.reduceSub, reduceIte, Nat.reduceEqDiff, Nat.reduceAdd, reduceCtorEq]
          exact ⟨(_, _, x + 1, L' ++ [(stepP na nb fw.1 x, fw.2 ++ [(x : Int)])]), by dsimp only; omega, ⟨by dsimp only; omega, hsucc.symm, fun y hy => by rcases Nat.lt_succ_iff_lt_or_eq.1 hy with h | h; exact hdf y h; exact h ▸ hd⟩, rfl⟩
    · have : x = na.length := by omega
      subst this
      simp only [B_spec_l06Search_find_10, B_spec_l06Search_find_11, B_spec_l06Search_find_20, dnL_rws, decide_eq_false hxl, go_sem, adopt_fun, Int.reduceLT, Int.reduceLE, Int.reduceToNat, Int.reduceNeg, Nat.reduceLT, Nat.reduceLeDiff, Nat.reduceMul, Nat.reduceSub, reduceIte, Nat.reduceEqDiff, Nat.reduceAdd, reduceCtorEq]
      intro hMa
      have hw : IntKind.i64.wrap ((i : Int) + 1) = ((i + 1 : Nat) : Int) := by rw [w64 (by omega)]; simp
      simp only [hw, go_sem, adopt_fun, Int.reduceLT, Int.reduceLE, Int.reduceToNat, Int.reduceNeg, Nat.reduceLT, Nat.reduceLeDiff, Nat.reduceMul, Nat.reduceSub, reduceIte, Nat.reduceEqDiff, Nat.reduceAdd, reduceCtorEq]
      obtain ⟨F, hF⟩ : ∃ F, 200 - i = F + 1 := ⟨199 - i, by omega⟩
      have hF2 : 200 - (i + 1) = F := by omega
      rw [hF] at hR
      simp only [runP, if_pos hlt1, hfw, hV, fdP_none.2 hdf] at hR
      exact ⟨(_, _, i + 1, L'), by dsimp only; omega, ⟨hI', by dsimp only; omega, by dsimp only; rw [hF2]; exact hR⟩, rfl⟩
  · have : i = L.length := by omega
    subst this
    have hend : apartQ na nb oa ob s t = none := by
      obtain ⟨F, hF⟩ : ∃ F, 200 - L.length = F + 1 := ⟨199 - L.length, by omega⟩
      rw [← hR, hF]; simp only [runP, Nat.lt_irrefl, if_false]
    simp only [B_spec_l06Search_find_5, B_spec_l06Search_find_6, B_spec_l06Search_find_21, decide_eq_false hlt, A_spec_l06Search_find, hend, ← hQ, dnL_rws, go_sem, adopt_fun, Int.reduceLT, Int.reduceLE, Int.reduceToNat, Int.reduceNeg, Nat.reduceLT, Nat.reduceLeDiff, Nat.reduceMul, Nat.reduceSub, reduceIte, Nat.reduceEqDiff, Nat.reduceAdd, reduceCtorEq]
    intro hM vs4
    refine ⟨[154], by simp, by simp, by simp, ?_⟩
    simp only [Nat.not_lt_zero, range1, ren_val, ren_any, ren_ro, rnNm_n, rnNm_sn, rnNm_o, rnNm_s, ren_st, ren_tup, renL_nil, renL_cons, renL_intsK, renL_rws, renL_rwn, oren_box, oren_row, oren_map, ren_own_e0, ren_own_e1, ren_own_e2, ren_ptr_e0, ren_mp_e0, ren_mp_e1, ren_own_r0, ren_own_r1, ren_own_r2, ren_ptr_r0, ren_mp_r0, ren_mp_r1, List.range_zero, callHp_nil, callHp_one, callHp_two, gone_nil, gone_one, gone_two, AVal.fresh, freshL, fresh_intsK, fresh_rws, AObj.fresh, id, Option.isSome_some, or_true, true_or, go_sem, adopt_fun, Int.reduceLT, Int.reduceLE, Int.reduceToNat, Int.reduceNeg, Nat.reduceLT, Nat.reduceLeDiff, Nat.reduceMul, Nat.reduceSub, reduceIte, Nat.reduceEqDiff, Nat.reduceAdd, reduceCtorEq]
    refine ⟨?_, _, rfl, rfl⟩
    simp only [ren_rp, ren_own_no (show expo [154] 17 = none from rfl), ren_own_no (show expo [154] 22 = none from rfl), Nat.not_lt_zero, range1, ren_val, ren_any, ren_ro, rnNm_n, rnNm_sn, rnNm_o, rnNm_s, ren_st, ren_tup, renL_nil, renL_cons, renL_intsK, renL_rws, renL_rwn, oren_box, oren_row, oren_map, ren_own_e0, ren_own_e1, ren_own_e2, ren_ptr_e0, ren_mp_e0, ren_mp_e1, ren_own_r0, ren_own_r1, ren_own_r2, ren_ptr_r0, ren_mp_r0, ren_mp_r1, List.range_zero, callHp_nil, callHp_one, callHp_two, gone_nil, gone_one, gone_two, AVal.fresh, freshL, fresh_intsK, fresh_rws, AObj.fresh, id, Option.isSome_some, or_true, true_or]
end Go.Ab
