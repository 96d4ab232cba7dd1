/- Contracts: the first word that tells two states apart. Conditions: none. -/
import Derived.Test.YtoadopegbnmfkaaMb
import Derived.Test.YtoadopegbnmfkaaPe
set_option linter.all false
namespace Go.Ab
open Go.Proofs
set_option maxRecDepth 20000
set_option maxHeartbeats 2000000

abbrev keyP (p : Nat × Nat) : Value := .agg #[.int .i64 (p.1 : Int), .int .i64 (p.2 : Int)]
abbrev keysP (L : PS) : List Value := L.map fun p => keyP p.1
def cellsP (L : PS) : List AVal := L.flatMap fun p => [iv p.1.1, iv p.1.2]
/-- What is said of the word that is found. -/
abbrev WordR (P : Program) (g : FuncId) (args : List AVal) (r : Option (List Int)) : Prop := Fn P g args fun rows res =>
  match r with
  | some w => ∃ v, rows = [.row v 1 true (ints w)] ∧ res = .tup [.own 6000 v, bv true]
  | none => rows = [] ∧ res = .tup [nilS, bv false]

theorem samePair_iv {f p : Nat × Nat} : sameKey (keyP f) (keyP p) = some (eqP p f) := by
  obtain ⟨a, b⟩ := f
  obtain ⟨c, d⟩ := p
  have h : ∀ x y : Nat, (((x : Nat) : Int) == ((y : Nat) : Int)) = Nat.beq y x := fun x y => by
    by_cases e : x = y
    · subst e; rw [beq_self_eq_true, Nat.beq_refl]
    · rw [beq_false_of_ne (fun h => e (by omega))]
      cases hb : Nat.beq y x with
      | true => exact absurd (Nat.eq_of_beq_eq_true hb).symm e
      | false => rfl
  simp only [keyP, sameKey, pairOf, samePair, and_self, if_true, eqP, h]
theorem fkP_not {f : Nat × Nat} : ∀ {L : PS} (i : Nat), hasP L f = false → findKeyAt (keyP f) (keysP L) i = some none
  | [], _, _ => rfl
  | p :: L, i, h => by
    simp only [hasP, List.any_cons, Bool.or_eq_false_iff] at h
    have h2 := fkP_not (f := f) (L := L) (i + 1) h.2
    simp only [List.map_cons, findKeyAt, samePair_iv, show eqP p.1 f = false from h.1]
    exact h2
theorem fkP_mem {f : Nat × Nat} : ∀ {L : PS} (i : Nat), hasP L f = true → ∃ j, findKeyAt (keyP f) (keysP L) i = some (some (i + j)) ∧ j < L.length
  | [], _, h => by cases h
  | p :: L, i, h => by
    cases e : eqP p.1 f with
    | true =>
      refine ⟨0, ?_, by simp⟩
      simp only [List.map_cons, findKeyAt, samePair_iv, e, Nat.add_zero]
    | false =>
      simp only [hasP, List.any_cons, e, Bool.false_or] at h
      obtain ⟨j, h2, h3⟩ := fkP_mem (f := f) (L := L) (i + 1) h
      refine ⟨j + 1, ?_, by simp; omega⟩
      simp only [List.map_cons, findKeyAt, samePair_iv, e]
      rw [h2]; congr 2; omega
theorem fkP_at : ∀ {L : PS} (i k : Nat), (L.map (·.1)).Nodup → i < L.length → findKeyAt (keyP (L.getD i ((0, 0), [])).1) (keysP L) k = some (some (k + i))
  | [], _, _, _, h => by simp at h
  | p :: L, 0, k, _, _ => by
    simp only [List.getD_cons_zero, List.map_cons, findKeyAt, samePair_iv, show eqP p.1 p.1 = true from eqP_iff.2 rfl, Nat.add_zero]
  | p :: L, i + 1, k, hd, h => by
    rw [List.map_cons, List.nodup_cons] at hd
    have hi : i < L.length := by simpa using h
    have hm := getD_mem hi ((0, 0), ([] : List Int))
    have h1 : eqP p.1 (L.getD i ((0, 0), [])).1 = false := by
      cases e : eqP p.1 (L.getD i ((0, 0), [])).1 with
      | false => rfl
      | true => exact absurd (List.mem_map.2 ⟨_, hm, (eqP_iff.1 e).symm⟩) hd.1
    have h2 := fkP_at (L := L) i (k + 1) hd.2 hi
    simp only [List.getD_cons_succ, List.map_cons, findKeyAt, samePair_iv, h1]
    rw [h2]; congr 2; omega
theorem cellsP_len : ∀ (L : PS), (cellsP L).length = L.length * 2
  | [] => rfl
  | p :: L => by
    have := cellsP_len L
    unfold cellsP at this ⊢
    rw [List.flatMap_cons, List.length_append, this, List.length_cons]; simp only [List.length_cons, List.length_nil]; omega
theorem cellsP_at : ∀ {L : PS} {i : Nat}, i < L.length → ((cellsP L).drop (i * 2)).take 2 = [iv (L.getD i ((0, 0), [])).1.1, iv (L.getD i ((0, 0), [])).1.2]
  | p :: L, 0, _ => rfl
  | p :: L, i + 1, h => by
    have := cellsP_at (L := L) (i := i) (by simpa using h)
    rw [List.getD_cons_succ, ← this, Nat.add_mul, Nat.one_mul]; rfl
theorem cellsP_snoc {L : PS} {q : (Nat × Nat) × List Int} : cellsP L ++ [iv q.1.1, iv q.1.2] = cellsP (L ++ [q]) := by simp [cellsP]
theorem dnL_cellsP : ∀ {L : PS}, dnL (cellsP L) = cellsP L
  | [] => rfl
  | p :: L => by
    have := dnL_cellsP (L := L)
    unfold cellsP at this ⊢
    simp only [List.flatMap_cons, List.cons_append, List.nil_append, dnL_cons, dn_val, this]
theorem wordsP_getD {L : PS} {i : Nat} (h : i < L.length) : (L.map (·.2)).getD i [] = (L.getD i ((0, 0), [])).2 := by
  rw [List.getD_eq_getElem?_getD, List.getElem?_map, List.getElem?_eq_getElem h, List.getD_eq_getElem?_getD, List.getElem?_eq_getElem h]; rfl

theorem k_apart (n n' o o' : Int) (na nb oa ob : List (List Int)) (Ma : Mach n o na oa) (Mb : Mach n' o' nb ob) (hl : nb.length = na.length) (s t : Nat) (hs : (s : Int) < n) (ht : (t : Int) < n') :
    WordR Try.prog n_impl_apart [machA n o na oa, machA n' o' nb ob, iv s, iv t] (apartQ na nb oa ob s t) := by
  refine con_of mixed c_impl_apart rfl (by simp) ?_
  have T : Two n n' na nb := ⟨Ma.aut, Mb.aut, hl⟩
  have n2 := Ma.aut.n2
  have n2' := Mb.aut.n2
  have l2 := Ma.aut.l2
  have f0 : ∀ k : Value, findKeyAt k [] 0 = some none := fun _ => rfl
  have p0 : ∀ a b : Int, pairOf (.agg #[.int .i64 a, .int .i64 b]) = some (.i64, a, .i64, b) := fun _ _ => rfl
  generalize hQ : finQ _ = Q
  simp only [A_impl_apart, B_impl_apart_1, f0, p0, go_sem, adopt_fun, Int.reduceLT, Int.reduceLE, Int.reduceToNat, Int.reduceNeg, Nat.reduceLT, Nat.reduceLeDiff, Nat.reduceMul, Nat.reduceSub, reduceIte, Nat.reduceEqDiff, Nat.reduceAdd, reduceCtorEq]
  intro vs vs2
  refine ⟨⟨⟨_, rfl, rfl⟩, _, rfl, rfl⟩, ⟨⟨_, rfl, rfl⟩, _, rfl, rfl⟩, ⟨⟨_, rfl, rfl⟩, _, rfl, rfl⟩, fun r v' e => by cases e; exact ⟨_, _, _, rfl⟩, ?_⟩
  simp only [B_impl_apart_2, B_impl_apart_3, go_sem, adopt_fun, Int.reduceLT, Int.reduceLE, Int.reduceToNat, Int.reduceNeg, Nat.reduceLT, Nat.reduceLeDiff, Nat.reduceMul, Nat.reduceSub, reduceIte, Nat.reduceEqDiff, Nat.reduceAdd, reduceCtorEq]
  refine wpD_lo (fun (_, _, i, _) => 200 - i)
    (fun (_, _, i, L) => PI n.toNat n'.toNat na.length L ∧ i ≤ List.length L ∧ runP na nb oa ob (200 - i) i L = apartQ na nb oa ob s t)
    (fun ((va, vm, i, L) : Nat × Nat × Nat × PS) => ⟨Go.Ab.L .any [(4, .ptr 4 (vs 0 0) 0), (5, .ptr 5 (vs 1 0) 0), (10, .own 22 va), (11, .mp 23 vm), (12, iv i)],
      Go.Ab.L .gone [(4, .box (vs 0 0) [iv n, iv o, .ro none 1 (rwn na), .ro none 1 (rwn oa)]), (5, .box (vs 1 0) [iv n', iv o', .ro none 1 (rwn nb), .ro none 1 (rwn ob)]), (22, .row va 2 true (cellsP L)), (23, .map vm (keysP L) (rws (L.map (·.2))))]⟩)
    (_, _, 0, [((s, t), [])]) ⟨PI0 (by omega), by simp, rfl⟩ (by simp only [B_impl_apart_4, go_sem, adopt_fun, Int.reduceLT, Int.reduceLE, Int.reduceToNat, Int.reduceNeg, Nat.reduceLT, Nat.reduceLeDiff, Nat.reduceMul, Nat.reduceSub, reduceIte, Nat.reduceEqDiff, Nat.reduceAdd, reduceCtorEq]; try rfl) ?_
  rintro ⟨va, vm, i, L⟩ ⟨hI, hi, hR⟩
  have hi : i ≤ L.length := hi
  have hlen := hI.len (by omega) (by omega)
  have hcl := cellsP_len L
  by_cases hlt : (i : Int) < L.length
  · have hlt1 : i < L.length := by omega
    have hm := getD_mem hlt1 ((0, 0), ([] : List Int))
    have hfi := hI.rg _ hm
    have hwi := hI.wd _ hm
    have hca := cellsP_at hlt1
    have hq : (cellsP L).length / 2 = L.length := by omega
    simp only [B_impl_apart_4, B_impl_apart_5, B_impl_apart_6, hq, hca, dnL_cellsP, dnL_rws, decide_eq_true hlt, go_sem, adopt_fun, Int.reduceLT, Int.reduceLE, Int.reduceToNat, Int.reduceNeg, Nat.reduceLT, Nat.reduceLeDiff, Nat.reduceMul, Nat.reduceSub, reduceIte, Nat.reduceEqDiff, Nat.reduceAdd, reduceCtorEq]
    intro hM vs3
    refine ⟨⟨by omega, by omega⟩, by omega, ?_⟩
    generalize hfw : L.getD i ((0, 0), []) = fw at hm hfi hwi ⊢
    simp only [B_impl_apart_7, B_impl_apart_8, dnL_cellsP, dnL_rws, go_sem, adopt_fun, Int.reduceLT, Int.reduceLE, Int.reduceToNat, Int.reduceNeg, Nat.reduceLT, Nat.reduceLeDiff, Nat.reduceMul, Nat.reduceSub, reduceIte, Nat.reduceEqDiff, Nat.reduceAdd, reduceCtorEq]
    intro hMa
    have hM2 := maxLen_le
    refine wpD_lo (fun (_, _, x, _) => na.length - x)
      (fun (_, _, x, L') => x ≤ na.length ∧ L' = visP na nb fw.1 fw.2 x L ∧ ∀ y < x, difP oa ob fw.1 y = false)
      (fun ((va, vm, x, L') : Nat × Nat × Nat × PS) => ⟨Go.Ab.L .any [(4, .ptr 4 (vs 0 0) 0), (5, .ptr 5 (vs 1 0) 0), (10, .own 22 va), (11, .mp 23 vm), (12, iv i), (13, .ptr 13 (vs3 4 0) 0), (41, iv na.length), (42, iv x)],
        Go.Ab.L .gone [(4, .box (vs 0 0) [iv n, iv o, .ro none 1 (rwn na), .ro none 1 (rwn oa)]), (5, .box (vs 1 0) [iv n', iv o', .ro none 1 (rwn nb), .ro none 1 (rwn ob)]), (13, .box (vs3 4 0) [iv fw.1.1, iv fw.1.2]), (22, .row va 2 true (cellsP L')), (23, .map vm (keysP L') (rws (L'.map (·.2))))]⟩)
      (_, _, 0, L) ⟨by simp, rfl, fun y h => by omega⟩ (by simp only [B_impl_apart_9, dnL_cellsP, dnL_rws, go_sem, adopt_fun, Int.reduceLT, Int.reduceLE, Int.reduceToNat, Int.reduceNeg, Nat.reduceLT, Nat.reduceLeDiff, Nat.reduceMul, Nat.reduceSub, reduceIte, Nat.reduceEqDiff, Nat.reduceAdd, reduceCtorEq]; try rfl) ?_
    rintro ⟨va, vm, x, L'⟩ ⟨hx, rfl, hdf⟩
    have hx : x ≤ na.length := hx
    have hdf : ∀ y < x, difP oa ob fw.1 y = false := hdf
    obtain ⟨hI', t', hpre⟩ := visP_ok T hI hlt1 x hx
    rw [hfw] at hI' hpre
    generalize hV : visP na nb fw.1 fw.2 x L = L' at hI' hpre ⊢
    have hlen' := hI'.len (by omega) (by omega)
    have hcl' := cellsP_len L'
    have hi2 : i < L'.length := by rw [hpre, List.length_append]; omega
    have hat : L'.getD i ((0, 0), []) = fw := by rw [hpre, getD_app hlt1, hfw]
    by_cases hxl : (x : Int) < na.length
    · have hxl1 : x < na.length := by omega
      have hk := fkP_at i 0 hI'.nd hi2
      rw [hat, Nat.zero_add] at hk
      have hwl : i < (L'.map (·.2)).length := by simpa using hi2
      have hwg := wordsP_getD hi2
      rw [hat] at hwg
      have kp : ∀ a b : Int, pairOf (.agg #[.int .i64 a, .int .i64 b]) = some (.i64, a, .i64, b) := fun _ _ => rfl
      have hk : findKeyAt (.agg #[.int .i64 (fw.1.1 : Int), .int .i64 (fw.1.2 : Int)]) (keysP L') 0 = some (some i) := hk
      simp only [B_impl_apart_9, B_impl_apart_10, B_impl_apart_11, B_impl_apart_12, hk, kp, rws_getD hwl, hwg, dnL_cellsP, dnL_rws, decide_eq_true hxl, go_sem, adopt_fun, Int.reduceLT, Int.reduceLE, Int.reduceToNat, Int.reduceNeg, Nat.reduceLT, Nat.reduceLeDiff, Nat.reduceMul, Nat.reduceSub, reduceIte, Nat.reduceEqDiff, Nat.reduceAdd, reduceCtorEq]
      intro vs4
      refine call_rowI (k_Clone fw.2 (by omega)) qCS qGN ⟨_, rfl⟩ ?_
      rintro xs v7 rfl
      have hxb : x < nb.length := by omega
      have hxoa : x < oa.length := by rw [Ma.len]; exact hxl1
      have hxob : x < ob.length := by rw [Mb.len]; exact hxb
      have ra := Ma.aut.row _ (getD_mem hxl1 [])
      have rb := Mb.aut.row _ (getD_mem hxb [])
      have qa := Ma.row _ (getD_mem hxoa [])
      have qb := Mb.row _ (getD_mem hxob [])
      have n1 := Ma.aut.n1
      have n1' := Mb.aut.n1
      have za : fw.1.1 < (na.getD x []).length := by omega
      have zb : fw.1.2 < (nb.getD x []).length := by omega
      have ya : fw.1.1 < (oa.getD x []).length := by omega
      have yb : fw.1.2 < (ob.getD x []).length := by omega
      have hai := ra.2 _ (getD_mem za 0)
      have hbi := rb.2 _ (getD_mem zb 0)
      simp only [dnL_cellsP, dnL_rws, go_sem, adopt_fun, Int.reduceLT, Int.reduceLE, Int.reduceToNat, Int.reduceNeg, Nat.reduceLT, Nat.reduceLeDiff, Nat.reduceMul, Nat.reduceSub, reduceIte, Nat.reduceEqDiff, Nat.reduceAdd, reduceCtorEq]
      refine ⟨⟨_, rfl, rfl⟩, by omega, ?_⟩
      have e1 : ∀ y : Nat, IntKind.i64.wrap ((y : Int) + 1) = ((y + 1 : Nat) : Int) ∨ True := fun _ => .inr trivial
      have w1 : IntKind.i64.wrap ((x : Int) + 1) = ((x + 1 : Nat) : Int) := by rw [w64 (by omega)]; simp
      cases hd : difP oa ob fw.1 x with
      | true =>
        have hd2 : ((oa.getD x []).getD fw.1.1 0 != (ob.getD x []).getD fw.1.2 0) = true := hd
        simp only [B_impl_apart_13, B_impl_apart_14, rwn_getD hxoa, rwn_getD hxob, intsK_getD ya, intsK_getD yb, hd2, dnL_cellsP, dnL_rws, go_sem, adopt_fun, Int.reduceLT, Int.reduceLE, Int.reduceToNat, Int.reduceNeg, Nat.reduceLT, Nat.reduceLeDiff, Nat.reduceMul, Nat.reduceSub, reduceIte, Nat.reduceEqDiff, Nat.reduceAdd, reduceCtorEq]
        refine ⟨⟨by omega, hxoa⟩, hxoa, ⟨by omega, ya⟩, ya, ⟨by omega, hxob⟩, hxob, ⟨by omega, yb⟩, yb, ?_⟩
        have hap : apartQ na nb oa ob s t = some (fw.2 ++ [(x : Int)]) := by
          obtain ⟨F, hF⟩ : ∃ F, 200 - i = F + 1 := ⟨199 - i, by omega⟩
          rw [← hR, hF]
          simp only [runP, if_pos hlt1, hfw, fdP_some hdf hd hxl1]
        simp only [A_impl_apart, hap, ← hQ, dnL_cellsP, dnL_rws, go_sem, adopt_fun, Int.reduceLT, Int.reduceLE, Int.reduceToNat, Int.reduceNeg, Nat.reduceLT, Nat.reduceLeDiff, Nat.reduceMul, Nat.reduceSub, reduceIte, Nat.reduceEqDiff, Nat.reduceAdd, reduceCtorEq]
        refine ⟨[48], by simp, by simp, by simp, ?_⟩
        simp only [Nat.not_lt_zero, range1, ren_val, ren_any, ren_ro, rnNm_n, rnNm_sn, rnNm_o, rnNm_s, ren_st, ren_tup, renL_nil, renL_cons, renL_intsK, renL_rws, renL_rwn, oren_box, oren_row, oren_map, ren_own_e0, ren_own_e1, ren_own_e2, ren_ptr_e0, ren_mp_e0, ren_mp_e1, ren_own_r0, ren_own_r1, ren_own_r2, ren_ptr_r0, ren_mp_r0, ren_mp_r1, List.range_zero, callHp_nil, callHp_one, callHp_two, gone_nil, gone_one, gone_two, AVal.fresh, freshL, fresh_intsK, fresh_rws, AObj.fresh, id, Option.isSome_some, or_true, true_or, go_sem, adopt_fun, Int.reduceLT, Int.reduceLE, Int.reduceToNat, Int.reduceNeg, Nat.reduceLT, Nat.reduceLeDiff, Nat.reduceMul, Nat.reduceSub, reduceIte, Nat.reduceEqDiff, Nat.reduceAdd, reduceCtorEq]
        exact ⟨_, rfl, rfl⟩
      | false =>
        have hd2 : ((oa.getD x []).getD fw.1.1 0 != (ob.getD x []).getD fw.1.2 0) = false := hd
        have hsucc := visP_succ (na := na) (nb := nb) (p := fw.1) (w := fw.2) (x := x) (L := L)
        rw [hV] at hsucc
        have hst : stepP na nb fw.1 x = (((na.getD x []).getD fw.1.1 0).toNat, ((nb.getD x []).getD fw.1.2 0).toNat) := rfl
        have ta : ((((na.getD x []).getD fw.1.1 0).toNat : Nat) : Int) = (na.getD x []).getD fw.1.1 0 := by omega
        have tb : ((((nb.getD x []).getD fw.1.2 0).toNat : Nat) : Int) = (nb.getD x []).getD fw.1.2 0 := by omega
        cases hh : hasP L' (stepP na nb fw.1 x) with
        | true =>
          rw [hh, if_pos rfl] at hsucc
          obtain ⟨j, hj1, hj2⟩ := fkP_mem 0 hh
          rw [Nat.zero_add] at hj1
          simp only [hst, keyP, ta, tb] at hj1
          simp only [B_impl_apart_13, B_impl_apart_14, B_impl_apart_15, B_impl_apart_16, B_impl_apart_17, B_impl_apart_18, rwn_getD hxoa, rwn_getD hxob, intsK_getD ya, intsK_getD yb, rwn_getD hxl1, rwn_getD hxb, intsK_getD za, intsK_getD zb, hd2, hj1, kp, w1, dnL_cellsP, dnL_rws, go_sem, adopt_fun, Int.reduceLT, Int.reduceLE, Int.reduceToNat, Int.reduceNeg, Nat.reduceLT, Nat.reduceLeDiff, Nat.reduceMul, Nat.reduceSub, reduceIte, Nat.reduceEqDiff, Nat.reduceAdd, reduceCtorEq]
          refine ⟨⟨by omega, hxoa⟩, hxoa, ⟨by omega, ya⟩, ya, ⟨by omega, hxob⟩, hxob, ⟨by omega, yb⟩, yb, ?_⟩
          intro vs5
          refine ⟨⟨by omega, hxl1⟩, hxl1, ⟨by omega, za⟩, za, ⟨by omega, hxb⟩, hxb, ⟨by omega, zb⟩, zb, ?_⟩
          simp only [B_impl_apart_20, w1, dnL_cellsP, dnL_rws, go_sem, adopt_fun, Int.reduceLT, Int.reduceLE, Int.reduceToNat, Int.reduceNeg, Nat.reduceLT, Nat.reduceLeDiff, Nat.reduceMul, Nat.reduceSub, reduceIte, Nat.reduceEqDiff, Nat.reduceAdd, reduceCtorEq]
          exact ⟨(_, _, x + 1, _), by dsimp only; omega, ⟨by dsimp only; omega, hsucc.symm, fun y hy => by rcases Nat.lt_succ_iff_lt_or_eq.1 hy with h | h; exact hdf y h; exact h ▸ hd⟩, rfl⟩
        | false =>
          rw [hh, if_neg (by simp)] at hsucc
          have hj1 := fkP_not 0 hh
          simp only [hst, keyP, ta, tb] at hj1
          simp only [B_impl_apart_13, B_impl_apart_14, B_impl_apart_15, B_impl_apart_16, B_impl_apart_17, B_impl_apart_18, B_impl_apart_19, rwn_getD hxoa, rwn_getD hxob, intsK_getD ya, intsK_getD yb, rwn_getD hxl1, rwn_getD hxb, intsK_getD za, intsK_getD zb, hd2, hj1, kp, w1, dnL_cellsP, dnL_rws, go_sem, adopt_fun, Int.reduceLT, Int.reduceLE, Int.reduceToNat, Int.reduceNeg, Nat.reduceLT, Nat.reduceLeDiff, Nat.reduceMul, Nat.reduceSub, reduceIte, Nat.reduceEqDiff, Nat.reduceAdd, reduceCtorEq]
          refine ⟨⟨by omega, hxoa⟩, hxoa, ⟨by omega, ya⟩, ya, ⟨by omega, hxob⟩, hxob, ⟨by omega, yb⟩, yb, ?_⟩
          intro vs5
          refine ⟨⟨by omega, hxl1⟩, hxl1, ⟨by omega, za⟩, za, ⟨by omega, hxb⟩, hxb, ⟨by omega, zb⟩, zb, ?_⟩
          refine ⟨fun r v' e => by cases e; exact ⟨_, _, _, rfl⟩, ?_⟩
          intro vs6
          refine ⟨by omega, ?_⟩
          have hcs : cellsP L' ++ [iv ((na.getD x []).getD fw.1.1 0), iv ((nb.getD x []).getD fw.1.2 0)] = cellsP (L' ++ [(stepP na nb fw.1 x, fw.2 ++ [(x : Int)])]) := by
            rw [← cellsP_snoc, hst]; simp only [ta, tb]
          have hks : keysP L' ++ [.agg #[.int .i64 ((na.getD x []).getD fw.1.1 0), .int .i64 ((nb.getD x []).getD fw.1.2 0)]] = keysP (L' ++ [(stepP na nb fw.1 x, fw.2 ++ [(x : Int)])]) := by
            simp only [keysP, List.map_append, List.map_cons, List.map_nil, hst, keyP, ta, tb]
          have hws : L'.map (·.2) ++ [fw.2 ++ [(x : Int)]] = (L' ++ [(stepP na nb fw.1 x, fw.2 ++ [(x : Int)])]).map (·.2) := by
            simp only [List.map_append, List.map_cons, List.map_nil]
          simp only [B_impl_apart_20, w1, hcs, hks, hws, dnL_cellsP, dnL_rws, go_sem, adopt_fun, Int.reduceLT, Int.reduceLE, Int.reduceToNat, Int.reduceNeg, Nat.reduceLT, Nat.reduceLeDiff, Nat.reduceMul, Nat.reduceSub, reduceIte, Nat.reduceEqDiff, Nat.reduceAdd, reduceCtorEq]
          exact ⟨(_, _, x + 1, L' ++ [(stepP na nb fw.1 x, fw.2 ++ [(x : Int)])]), by dsimp only; omega, ⟨by dsimp only; omega, hsucc.symm, fun y hy => by rcases Nat.lt_succ_iff_lt_or_eq.1 hy with h | h; exact hdf y h; exact h ▸ hd⟩, rfl⟩
    · have : x = na.length := by omega
      subst this
      simp only [B_impl_apart_9, B_impl_apart_10, B_impl_apart_21, dnL_cellsP, dnL_rws, nat1 i _ hlt1 hM, decide_eq_false hxl, go_sem, adopt_fun, Int.reduceLT, Int.reduceLE, Int.reduceToNat, Int.reduceNeg, Nat.reduceLT, Nat.reduceLeDiff, Nat.reduceMul, Nat.reduceSub, reduceIte, Nat.reduceEqDiff, Nat.reduceAdd, reduceCtorEq]
      obtain ⟨F, hF⟩ : ∃ F, 200 - i = F + 1 := ⟨199 - i, by omega⟩
      have hF2 : 200 - (i + 1) = F := by omega
      rw [hF] at hR
      simp only [runP, if_pos hlt1, hfw, hV, fdP_none.2 hdf] at hR
      exact ⟨(_, _, i + 1, L'), by dsimp only; omega, ⟨hI', by dsimp only; omega, by dsimp only; rw [hF2]; exact hR⟩, rfl⟩
  · have : i = L.length := by omega
    subst this
    have hend : apartQ na nb oa ob s t = none := by
      obtain ⟨F, hF⟩ : ∃ F, 200 - L.length = F + 1 := ⟨199 - L.length, by omega⟩
      rw [← hR, hF]; simp only [runP, Nat.lt_irrefl, if_false]
    have hq : (cellsP L).length / 2 = L.length := by omega
    simp only [B_impl_apart_4, B_impl_apart_5, B_impl_apart_22, hq, decide_eq_false hlt, A_impl_apart, hend, ← hQ, dnL_cellsP, dnL_rws, go_sem, adopt_fun, Int.reduceLT, Int.reduceLE, Int.reduceToNat, Int.reduceNeg, Nat.reduceLT, Nat.reduceLeDiff, Nat.reduceMul, Nat.reduceSub, reduceIte, Nat.reduceEqDiff, Nat.reduceAdd, reduceCtorEq]
    intro hM
    refine ⟨[], by simp, by simp, by simp, ?_⟩
    simp only [Nat.not_lt_zero, range1, ren_val, ren_any, ren_ro, rnNm_n, rnNm_sn, rnNm_o, rnNm_s, ren_st, ren_tup, renL_nil, renL_cons, renL_intsK, renL_rws, renL_rwn, oren_box, oren_row, oren_map, ren_own_e0, ren_own_e1, ren_own_e2, ren_ptr_e0, ren_mp_e0, ren_mp_e1, ren_own_r0, ren_own_r1, ren_own_r2, ren_ptr_r0, ren_mp_r0, ren_mp_r1, List.range_zero, callHp_nil, callHp_one, callHp_two, gone_nil, gone_one, gone_two, AVal.fresh, freshL, fresh_intsK, fresh_rws, AObj.fresh, id, Option.isSome_some, or_true, true_or, go_sem, adopt_fun, Int.reduceLT, Int.reduceLE, Int.reduceToNat, Int.reduceNeg, Nat.reduceLT, Nat.reduceLeDiff, Nat.reduceMul, Nat.reduceSub, reduceIte, Nat.reduceEqDiff, Nat.reduceAdd, reduceCtorEq]
    try simp
end Go.Ab
