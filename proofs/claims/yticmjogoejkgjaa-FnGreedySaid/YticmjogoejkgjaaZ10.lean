/- Contracts and what they lean on, part 10. Conditions: none. -/
import Derived.Test.YticmjogoejkgjaaZ9
set_option maxRecDepth 100000
set_option maxHeartbeats 4000000
set_option linter.all false
open Nat (reduceLeDiff reduceMul reduceSub reduceEqDiff reduceAdd)
open Int (reduceToNat reduceNeg reduceLE)
namespace Go.Ab
open Go.Proofs
def tabE (o : Option (List Int)) : Int := match o with
  | some w => w.length
  | none => -1
def tabW (next : List (List Int)) (s : Int) (j : Nat) : List Int := (List.range j).map fun t : Nat => tabE (mergQ next s (t : Int))
def tabL (next : List (List Int)) (n i : Nat) : List (List Int) := (List.range i).map fun s : Nat => tabW next (s : Int) n
theorem tabW_succ {next : List (List Int)} {s : Int} {j : Nat} : tabW next s (j + 1) = tabW next s j ++ [tabE (mergQ next s (j : Int))] := by simp [tabW, List.range_succ]
theorem tabL_succ {next : List (List Int)} {n i : Nat} : tabL next n (i + 1) = tabL next n i ++ [tabW next (i : Int) n] := by simp [tabL, List.range_succ]
theorem tabW_len {next : List (List Int)} {s : Int} {j : Nat} : (tabW next s j).length = j := by simp [tabW]
theorem tabL_len {next : List (List Int)} {n i : Nat} : (tabL next n i).length = i := by simp [tabL]
theorem tabW_getD {next : List (List Int)} {s : Int} {j t : Nat} (h : t < j) : (tabW next s j).getD t 0 = tabE (mergQ next s (t : Int)) := by
  unfold tabW
  rw [List.getD_eq_getElem?_getD, List.getElem?_map, List.getElem?_range h]; rfl
theorem tabL_getD {next : List (List Int)} {n i s : Nat} (h : s < i) : (tabL next n i).getD s [] = tabW next (s : Int) n := by
  unfold tabL
  rw [List.getD_eq_getElem?_getD, List.getElem?_map, List.getElem?_range h]; rfl
theorem k_l02Table (n : Int) (next : List (List Int)) (A : Aut n next) : RowR Try.prog nz3u [autP n next] (fun xss => xss = tabL next n.toNat n.toNat) := by
  refine rowR_of mixed cziu rfl ?_
  have n1 := A.n1
  have n2 := A.n2
  simp only [Azcp, Bzco, go_sem, yz0, Int.reduceLT, reduceLE, reduceToNat, reduceNeg, Nat.reduceLT, reduceLeDiff, reduceMul, reduceSub, reduceIte, reduceEqDiff, reduceAdd, reduceCtorEq]
  intro vs
  simp only [Bzcn, Bzcl, go_sem, yz0, Int.reduceLT, reduceLE, reduceToNat, reduceNeg, Nat.reduceLT, reduceLeDiff, reduceMul, reduceSub, reduceIte, reduceEqDiff, reduceAdd, reduceCtorEq]
  refine wpD_lo (fun (_, i) => n.toNat - i) (fun (_, i) => i ≤ n.toNat)
    (fun ((v, i) : Nat × Nat) => ⟨L .any [(0, autP n next), (3, .own 9 v), (4, iv i)], L .gone [(9, .row v 1 true (rws (tabL next n.toNat i)))]⟩)
    (_, 0) (by simp) (by simp only [Bz2k, go_sem, yz0, Int.reduceLT, reduceLE, reduceToNat, reduceNeg, Nat.reduceLT, reduceLeDiff, reduceMul, reduceSub, reduceIte, reduceEqDiff, reduceAdd, reduceCtorEq]; try rfl) ?_
  rintro ⟨v, i⟩ hi
  have hi : i ≤ n.toNat := hi
  by_cases hlt : (i : Int) < n
  · have wi : IntKind.i64.wrap ((i : Int) + 1) = ((i + 1 : Nat) : Int) := by rw [w64 (by omega)]; simp
    simp only [Bz2k, Bz5u, Bzck, decide_eq_true hlt, go_sem, yz0, Int.reduceLT, reduceLE, reduceToNat, reduceNeg, Nat.reduceLT, reduceLeDiff, reduceMul, reduceSub, reduceIte, reduceEqDiff, reduceAdd, reduceCtorEq]
    intro vs2
    simp only [Bzci, Bzcg, go_sem, yz0, Int.reduceLT, reduceLE, reduceToNat, reduceNeg, Nat.reduceLT, reduceLeDiff, reduceMul, reduceSub, reduceIte, reduceEqDiff, reduceAdd, reduceCtorEq]
    refine wpD_lo (fun (_, j) => n.toNat - j) (fun (_, j) => j ≤ n.toNat)
      (fun ((u, j) : Nat × Nat) => ⟨L .any [(0, autP n next), (3, .own 9 v), (4, iv i), (5, .own 18 u), (6, iv j)], L .gone [(9, .row v 1 true (rws (tabL next n.toNat i))), (18, .row u 1 true (ints (tabW next (i : Int) j)))]⟩)
      (_, 0) (by simp) (by simp only [Bz2j, go_sem, yz0, Int.reduceLT, reduceLE, reduceToNat, reduceNeg, Nat.reduceLT, reduceLeDiff, reduceMul, reduceSub, reduceIte, reduceEqDiff, reduceAdd, reduceCtorEq]; try rfl) ?_
    rintro ⟨u, j⟩ hj
    have hj : j ≤ n.toNat := hj
    by_cases hlj : (j : Int) < n
    · have wj : IntKind.i64.wrap ((j : Int) + 1) = ((j + 1 : Nat) : Int) := by rw [w64 (by omega)]; simp
      have i64' : IntKind.u64.wrap (i : Int) = i := u64w (by omega)
      have j64 : IntKind.u64.wrap (j : Int) = j := u64w (by omega)
      have i0 : ¬ (i : Int) < 0 := by omega
      have j0 : ¬ (j : Int) < 0 := by omega
      have si := i_shl (b := i) (by omega)
      have sj := i_shl (b := j) (by omega)
      have pi := pow_lt10 (k := i) (by omega)
      have pj := pow_lt10 (k := j) (by omega)
      have hor : _ = ((twoN i j : Nat) : Int) := i_or (x := 2 ^ i) (y := 2 ^ j) (by omega) (by omega)
      simp only [Bz2j, Bz5v, Bzcf, i64', j64, i0, j0, si, sj, hor, Int.toNat_natCast, decide_eq_true hlj, go_sem, yz0, Int.reduceLT, reduceLE, reduceToNat, reduceNeg, Nat.reduceLT, reduceLeDiff, reduceMul, reduceSub, reduceIte, reduceEqDiff, reduceAdd, reduceCtorEq]
      intro vs3
      refine call_fn (k_l02Shrink n next A (twoN i j) (two_lt (by omega) (by omega))) qCS (fun e => by cases e) ?_
      rintro rows res ⟨vw, rfl, rfl⟩
      refine ⟨by simp, by rw [Option.getD_some, yzl]; simp only [go_sem, yz0, Int.reduceLT, reduceLE, reduceToNat, reduceNeg, Nat.reduceLT, reduceLeDiff, reduceMul, reduceSub, reduceIte, reduceEqDiff, reduceAdd, reduceCtorEq], ?_⟩
      have hm : mergQ next (i : Int) (j : Int) = (firstT (tourT next (twoN i j))).map (·.2) := rfl
      cases hq : firstT (tourT next (twoN (i : Int) (j : Int))) with
      | some p =>
        rw [hq] at hm
        simp only [Option.getD_some, Bz5x, Bz5w, Bz5y, Option.map_some, Option.isSome_some, wj, Nat.not_lt_zero, range1, yzw, yzz, yz1b, yz1c, yz10, yz1d, yz1a, yz19, yzy, yzo, yzf, yz3, yzu, yzt, yzn, yzm, yzs, yz8, yzb, yze, yz9, yzj, yzh, yz4, yz6, yzc, yzd, yzi, yzk, List.range_zero, yz7, yz5, yza, yzr, yzl, yzp, AVal.fresh, freshL, yz1, yzg, AObj.fresh, id, Option.isSome_some, or_true, true_or, go_sem, yz0, Int.reduceLT, reduceLE, reduceToNat, reduceNeg, Nat.reduceLT, reduceLeDiff, reduceMul, reduceSub, reduceIte, reduceEqDiff, reduceAdd, reduceCtorEq]
        have hsn : tabW next (i : Int) (j + 1) = tabW next (i : Int) j ++ [(p.snd.length : Int)] := by rw [tabW_succ, hm]; rfl
        exact fun vs4 _ => ⟨⟨_, rfl, rfl⟩, by rw [tabW_len]; omega, (vs4 4 0, j + 1), by dsimp only; omega, by dsimp only; omega, by rw [hsn]⟩
      | none =>
        rw [hq] at hm
        simp only [Option.getD_some, Bz5x, Bz5w, Bz5y, Option.map_none, Option.isSome_none, wj, Nat.not_lt_zero, range1, yzw, yzz, yz1b, yz1c, yz10, yz1d, yz1a, yz19, yzy, yzo, yzf, yz3, yzu, yzt, yzn, yzm, yzs, yz8, yzb, yze, yz9, yzj, yzh, yz4, yz6, yzc, yzd, yzi, yzk, List.range_zero, yz7, yz5, yza, yzr, yzl, yzp, AVal.fresh, freshL, yz1, yzg, AObj.fresh, id, Option.isSome_some, or_true, true_or, go_sem, yz0, Int.reduceLT, reduceLE, reduceToNat, reduceNeg, Nat.reduceLT, reduceLeDiff, reduceMul, reduceSub, reduceIte, reduceEqDiff, reduceAdd, reduceCtorEq]
        have hsn : tabW next (i : Int) (j + 1) = tabW next (i : Int) j ++ [-1] := by rw [tabW_succ, hm]; rfl
        exact fun vs4 => ⟨⟨_, rfl, rfl⟩, by rw [tabW_len]; omega, (vs4 2 0, j + 1), by dsimp only; omega, by dsimp only; omega, by rw [hsn]⟩
    · obtain rfl : j = n.toNat := by omega
      simp only [Bz2j, Bz5v, Bzch, Bzcj, wi, decide_eq_false hlj, go_sem, yz0, Int.reduceLT, reduceLE, reduceToNat, reduceNeg, Nat.reduceLT, reduceLeDiff, reduceMul, reduceSub, reduceIte, reduceEqDiff, reduceAdd, reduceCtorEq]
      exact fun vs4 => ⟨by rw [tabL_len]; omega, (vs4 3 0, i + 1), by dsimp only; omega, by dsimp only; omega, by rw [tabL_succ]⟩
  · obtain rfl : i = n.toNat := by omega
    simp only [Bz2k, Bz5u, Bzcm, decide_eq_false hlt, go_sem, yz0, Int.reduceLT, reduceLE, reduceToNat, reduceNeg, Nat.reduceLT, reduceLeDiff, reduceMul, reduceSub, reduceIte, reduceEqDiff, reduceAdd, reduceCtorEq]
    exact ⟨9, v, _, by omega, rfl, by simp only [go_sem, yz0, Int.reduceLT, reduceLE, reduceToNat, reduceNeg, Nat.reduceLT, reduceLeDiff, reduceMul, reduceSub, reduceIte, reduceEqDiff, reduceAdd, reduceCtorEq], rfl⟩
end Go.Ab
namespace Go.Ab
open Go.Proofs
attribute [local go_sem] ren_argN dn_argN dnL_optS dnL_rzsS one_optS one_rzsS frz_optS frz_rzsS owned_optS owned_rzsS opt_someS opt_noneS rzs_snocS rzs_lenS opt_lenS
def BesP (next : List (List Int)) (set : List Int) (b : Option (List Int)) : Prop := ∀ w, b = some w → ∃ s t, s ∈ set ∧ t ∈ set ∧ s ≠ t ∧ mergQ next s t = some w
theorem mvL_optS {a v b m : Nat} {os : List (Option (List Int))} : mvL a v b m (optLS os) = optLS os := by
  simp only [mvL_eq, optLS, List.map_map]
  refine List.map_congr_left fun o _ => ?_
  cases o with
  | none => simp [optCS, AVal.mv]
  | some w => simp [optCS, AVal.mv, mvL_eq]
theorem mvL_rzsS {a v b m : Nat} {oss : List (List (Option (List Int)))} : mvL a v b m (rzsS oss) = rzsS oss := by
  simp only [mvL_eq, rzsS, List.map_map]
  exact List.map_congr_left fun o _ => by simp [AVal.mv, mvL_optS]
theorem hoN : optCS none = .val (.slice none 0 0) := rfl
theorem hoS {w : List Int} : optCS (some w) = .ro (argN w) 1 (ints w) := rfl
theorem k_GreedyReset (n : Int) (next : List (List Int)) (A : Aut n next) :
    Fn Try.prog nz3g [autA n next] fun rows res => (∃ v w, GrW n next w ∧ rows = [.row v 1 true (ints w)] ∧ res = .tup [.own 6000 v, iv 0]) ∨ (¬ CanR n next ∧ rows = [] ∧ res = .tup [.val (.slice none 0 0), iv 6]) := by
  refine con_of mixed czi2 rfl (by simp) ?_
  have n1 := A.n1
  have n2 := A.n2
  have hv : autB n next = true := autB_iff.2 A
  generalize hQ : finQ _ = Q
  simp only [Az1w, Bz90, go_sem, yz0, Int.reduceLT, reduceLE, reduceToNat, reduceNeg, Nat.reduceLT, reduceLeDiff, reduceMul, reduceSub, reduceIte, reduceEqDiff, reduceAdd, reduceCtorEq]
  intro vs vs2
  refine yz12 (k_Valid n next) qCS trivial ?_
  simp only [hv, Bz8o, Bz8z, go_sem, yz0, Int.reduceLT, reduceLE, reduceToNat, reduceNeg, Nat.reduceLT, reduceLeDiff, reduceMul, reduceSub, reduceIte, reduceEqDiff, reduceAdd, reduceCtorEq]
  intro vs3
  refine call_sh (k_mergesS n next A) qCS (fun _ => ⟨_, _, _, rfl, 0, rfl, rfl⟩) ?_
  rintro outs rows res ⟨rfl, v17, rfl, rfl⟩
  refine ⟨rfl, by simp, by rw [Option.getD_some, yzl]; simp only [go_sem, yz0, Int.reduceLT, reduceLE, reduceToNat, reduceNeg, Nat.reduceLT, reduceLeDiff, reduceMul, reduceSub, reduceIte, reduceEqDiff, reduceAdd, reduceCtorEq], ?_⟩
  simp only [Option.getD_some, renL_rzsS, Nat.not_lt_zero, range1, yzw, yzz, yz1b, yz1c, yz10, yz1d, yz1a, yz19, yzy, yzo, yzf, yz3, yzu, yzt, yzn, yzm, yzs, yz8, yzb, yze, yz9, yzj, yzh, yz4, yz6, yzc, yzd, yzi, yzk, List.range_zero, yz7, yz5, yza, yzr, yzl, yzp, AVal.fresh, freshL, yz1, yzg, AObj.fresh, id, Option.isSome_some, or_true, true_or, go_sem, yz0, Int.reduceLT, reduceLE, reduceToNat, reduceNeg, Nat.reduceLT, reduceLeDiff, reduceMul, reduceSub, reduceIte, reduceEqDiff, reduceAdd, reduceCtorEq]
  refine call_rowI (k_all n next A) qCS qWS ⟨_, rfl⟩ ?_
  rintro xs vq rfl
  have hml := mergT_len (next := next) (n := n.toNat) (i := n.toNat)
  have hmd : ∀ x : Int, 0 ≤ x ∧ x < n → (mergT next n.toNat n.toNat).getD x.toNat [] = mergW next x n.toNat := fun x h => by
    rw [mergT_getD (by omega), show ((x.toNat : Nat) : Int) = x by omega]
  simp only [Bz8y, go_sem, yz0, Int.reduceLT, reduceLE, reduceToNat, reduceNeg, Nat.reduceLT, reduceLeDiff, reduceMul, reduceSub, reduceIte, reduceEqDiff, reduceAdd, reduceCtorEq]
  generalize mergT next n.toNat n.toNat = M at hml hmd
  refine wpD_lm (fun (_, set, _, _) => set.length) (fun (_, set, _, out) => GrI n next set out)
    (fun ((vq, set, vo, out) : Nat × List Int × Nat × List Int) => ⟨L .any [(1, .ptr 1 (vs 0 0) 0), (4, .own 17 (vs3 1 v17)), (5, .own 18 vo), (6, .own 20 vq)],
      L .gone [(1, .box (vs 0 0) [iv n, .ro none 1 (rwn next)]), (17, .row (vs3 1 v17) 1 true (rzsS M)), (18, .row vo 1 true (ints out)), (20, .row vq 1 true (ints set))]⟩)
    (_, allS n, _, []) (GrI.zero A) (by intro u; simp only [Bz1v, List.map_nil, go_sem, yz0, Int.reduceLT, reduceLE, reduceToNat, reduceNeg, Nat.reduceLT, reduceLeDiff, reduceMul, reduceSub, reduceIte, reduceEqDiff, reduceAdd, reduceCtorEq]; try rfl) ?_
  rintro ⟨vq, set, vo, out⟩ I
  have I : GrI n next set out := I
  have hsl := I.len
  by_cases h2 : 2 ≤ set.length
  · have hd : (set.length : Int) > 1 := by omega
    simp only [Bz1v, Bz4q, Bz8w, decide_eq_true hd, go_sem, yz0, Int.reduceLT, reduceLE, reduceToNat, reduceNeg, Nat.reduceLT, reduceLeDiff, reduceMul, reduceSub, reduceIte, reduceEqDiff, reduceAdd, reduceCtorEq]
    intro hM
    simp only [Bz8v, Bz8t, go_sem, yz0, Int.reduceLT, reduceLE, reduceToNat, reduceNeg, Nat.reduceLT, reduceLeDiff, reduceMul, reduceSub, reduceIte, reduceEqDiff, reduceAdd, reduceCtorEq]
    intro hM2
    refine ⟨[.tf 6 20], gwp_tf rfl rfl ?_⟩
    simp only [gwp_nil, frNm_t, go_sem, yz0, Int.reduceLT, reduceLE, reduceToNat, reduceNeg, Nat.reduceLT, reduceLeDiff, reduceMul, reduceSub, reduceIte, reduceEqDiff, reduceAdd, reduceCtorEq]
    intro hM3
    refine wpD_lo (fun (_, i) => set.length - i) (fun (b, i) => i ≤ set.length ∧ BesP next set b ∧ (0 < i → b.isSome = true))
      (fun ((b, i) : Option (List Int) × Nat) => ⟨L .any [(1, .ptr 1 (vs 0 0) 0), (4, .own 17 (vs3 1 v17)), (5, .own 18 vo), (6, .ro (some none) 1 (ints set)), (7, optCS b), (24, .ro (some none) 1 (ints set)), (25, iv set.length), (26, iv i)],
        L .gone [(1, .box (vs 0 0) [iv n, .ro none 1 (rwn next)]), (17, .row (vs3 1 v17) 1 true (rzsS M)), (18, .row vo 1 true (ints out))]⟩)
      (none, 0) ⟨by omega, (fun w h => nomatch h), fun h => by omega⟩ (by simp only [Bz1u, optCS, go_sem, yz0, Int.reduceLT, reduceLE, reduceToNat, reduceNeg, Nat.reduceLT, reduceLeDiff, reduceMul, reduceSub, reduceIte, reduceEqDiff, reduceAdd, reduceCtorEq]; try rfl) ?_
    rintro ⟨b, i⟩ ⟨hi, hb, hs⟩
    have hi : i ≤ set.length := hi
    have hb : BesP next set b := hb
    have hs : 0 < i → b.isSome = true := hs
    by_cases hlt : (i : Int) < set.length
    · have hlt1 : i < set.length := by omega
      have wi : IntKind.i64.wrap ((i : Int) + 1) = ((i + 1 : Nat) : Int) := by rw [w64 (by omega)]; simp
      simp only [Bz1u, Bz4t, Bz8s, decide_eq_true hlt, dn_optCS, yzv hlt1, wi, go_sem, yz0, Int.reduceLT, reduceLE, reduceToNat, reduceNeg, Nat.reduceLT, reduceLeDiff, reduceMul, reduceSub, reduceIte, reduceEqDiff, reduceAdd, reduceCtorEq]
      refine ⟨⟨by omega, hlt1⟩, hlt1, ?_⟩
      have hb0 : (0 : Int) ≤ ((i + 1 : Nat) : Int) := by omega
      have ht0 : List.take set.length (ints set) = ints set := List.take_of_length_le (by simp)
      have hls : i + 1 ≤ set.length := hlt1
      simp only [Bz8q, Bz8p, dn_optCS, wi, St.bound, hb0, Int.toNat_natCast, ht0, intsK_drop, hls, Nat.le_refl, go_sem, yz0, Int.reduceLT, reduceLE, reduceToNat, reduceNeg, Nat.reduceLT, reduceLeDiff, reduceMul, reduceSub, reduceIte, reduceEqDiff, reduceAdd, reduceCtorEq]
      intro hM4
      refine wpD_lo (fun (_, j) => (set.drop (i + 1)).length - j) (fun (b, j) => j ≤ (set.drop (i + 1)).length ∧ BesP next set b ∧ (0 < i ∨ 0 < j → b.isSome = true))
        (fun ((b, j) : Option (List Int) × Nat) => ⟨L .any [(1, .ptr 1 (vs 0 0) 0), (4, .own 17 (vs3 1 v17)), (5, .own 18 vo), (6, .ro (some none) 1 (ints set)), (7, optCS b), (9, iv (set.getD i 0)), (24, .ro (some none) 1 (ints set)), (25, iv set.length), (26, iv i), (34, .ro (some none) 1 (ints (set.drop (i + 1)))), (35, iv (set.drop (i + 1)).length), (36, iv j)],
          L .gone [(1, .box (vs 0 0) [iv n, .ro none 1 (rwn next)]), (17, .row (vs3 1 v17) 1 true (rzsS M)), (18, .row vo 1 true (ints out))]⟩)
        (b, 0) ⟨by omega, hb, fun h => hs (by omega)⟩ (by simp only [Bzr, dn_optCS, go_sem, yz0, Int.reduceLT, reduceLE, reduceToNat, reduceNeg, Nat.reduceLT, reduceLeDiff, reduceMul, reduceSub, reduceIte, reduceEqDiff, reduceAdd, reduceCtorEq]; try rfl) ?_
      rintro ⟨b, j⟩ ⟨hj, hb, hs⟩
      have hj : j ≤ (set.drop (i + 1)).length := hj
      have hb : BesP next set b := hb
      have hs : 0 < i ∨ 0 < j → b.isSome = true := hs
      have hdl : (set.drop (i + 1)).length = set.length - (i + 1) := List.length_drop
      by_cases hlj : (j : Int) < (set.drop (i + 1)).length
      · have hlj1 : j < (set.drop (i + 1)).length := by omega
        have wj : IntKind.i64.wrap ((j : Int) + 1) = ((j + 1 : Nat) : Int) := by rw [w64 (by omega)]; simp
        have hsm : set.getD i 0 ∈ set := yz11 hlt1 0
        have htm : (set.drop (i + 1)).getD j 0 ∈ set := List.drop_subset _ _ (yz11 hlj1 0)
        have hne : set.getD i 0 ≠ (set.drop (i + 1)).getD j 0 := by
          have := I.ws.si
          unfold SI at this
          rw [List.getD_eq_getElem?_getD, List.getD_eq_getElem?_getD, List.getElem?_eq_getElem hlt1, List.getElem?_eq_getElem hlj1, List.getElem_drop]
          exact Int.ne_of_lt (List.pairwise_iff_getElem.1 this i (i + 1 + j) hlt1 (by omega) (by omega))
        have hsr := I.ws.rg _ hsm
        have htr := I.ws.rg _ htm
        have hgj := yzv (k := .i64) hlj1
        generalize set.getD i 0 = s at hsm hne hsr
        generalize (set.drop (i + 1)).getD j 0 = t at htm hne htr hgj
        have hsl1 : s.toNat < M.length := by rw [hml]; omega
        have htl1 : t.toNat < (mergW next s n.toNat).length := by rw [mergW_len]; omega
        have hge : (mergW next s n.toNat).getD t.toNat none = mergQ next s t := by
          rw [mergW_getD (by omega), show ((t.toNat : Nat) : Int) = t by omega]
        cases hq : mergQ next s t with
        | none =>
          rw [hq] at hge
          simp only [Bzr, Bz1t, Bz4s, Bz4r, decide_eq_true hlj, dn_optCS, hgj, rzs_getDS hsl1, hmd s hsr, opt_getDS htl1, hge, hoN, go_sem, yz0, Int.reduceLT, reduceLE, reduceToNat, reduceNeg, Nat.reduceLT, reduceLeDiff, reduceMul, reduceSub, reduceIte, reduceEqDiff, reduceAdd, reduceCtorEq]
          refine ⟨⟨by omega, hlj1⟩, hlj1, ⟨hsr.1, hsl1⟩, hsl1, ⟨htr.1, htl1⟩, htl1, ?_⟩
          simp only [Bzq, Bzp, Az1w, ← hQ, go_sem, yz0, Int.reduceLT, reduceLE, reduceToNat, reduceNeg, Nat.reduceLT, reduceLeDiff, reduceMul, reduceSub, reduceIte, reduceEqDiff, reduceAdd, reduceCtorEq]
          refine ⟨[], by simp, by simp, by simp, ?_⟩
          simp only [List.map_nil, List.length_nil, Nat.not_lt_zero, range1, yzw, yzz, yz1b, yz1c, yz10, yz1d, yz1a, yz19, yzy, yzo, yzf, yz3, yzu, yzt, yzn, yzm, yzs, yz8, yzb, yze, yz9, yzj, yzh, yz4, yz6, yzc, yzd, yzi, yzk, List.range_zero, yz7, yz5, yza, yzr, yzl, yzp, AVal.fresh, freshL, yz1, yzg, AObj.fresh, id, Option.isSome_some, or_true, true_or, go_sem, yz0, Int.reduceLT, reduceLE, reduceToNat, reduceNeg, Nat.reduceLT, reduceLeDiff, reduceMul, reduceSub, reduceIte, reduceEqDiff, reduceAdd, reduceCtorEq]
          first
            | exact .inr ⟨I.not A hsm htm hq, rfl, rfl⟩
            | exact I.not A hsm htm hq
            | exact .inr (I.not A hsm htm hq)
        | some w =>
          rw [hq] at hge
          have hw1 := merg_some A hsr htr hq
          have hwb := merg_bound A hsr htr hq
          have hbn : BesP next set (some w) := fun v hv => by
            obtain rfl : w = v := Option.some.inj hv
            exact ⟨s, t, hsm, htm, hne, hq⟩
          have hwne : 0 < w.length := by
            cases w with
            | nil => exact absurd (show s = t from hw1.2.1) hne
            | cons x w => simp
          have hnw : isNew (argN w) = true ∨ 0 < w.length := .inr hwne
          simp only [Bzr, Bz1t, Bz4s, Bz4r, decide_eq_true hlj, dn_optCS, hgj, rzs_getDS hsl1, hmd s hsr, opt_getDS htl1, hge, hoS, go_sem, yz0, Int.reduceLT, reduceLE, reduceToNat, reduceNeg, Nat.reduceLT, reduceLeDiff, reduceMul, reduceSub, reduceIte, reduceEqDiff, reduceAdd, reduceCtorEq]
          refine ⟨⟨by omega, hlj1⟩, hlj1, ⟨hsr.1, hsl1⟩, hsl1, ⟨htr.1, htl1⟩, htl1, ?_⟩
          cases b with
          | none =>
            simp only [Bzq, Bzp, Bz1r, Bz1q, Bz1s, hoN, dn_argN, hnw, wj, go_sem, yz0, Int.reduceLT, reduceLE, reduceToNat, reduceNeg, Nat.reduceLT, reduceLeDiff, reduceMul, reduceSub, reduceIte, reduceEqDiff, reduceAdd, reduceCtorEq]
            exact ⟨(some w, j + 1), by dsimp only; omega, ⟨by dsimp only; omega, hbn, fun _ => rfl⟩, rfl⟩
          | some v =>
            obtain ⟨s', t', hs1, ht1, hne1, hq1⟩ := hb v rfl
            have hv1 := merg_some A (I.ws.rg _ hs1) (I.ws.rg _ ht1) hq1
            have hvne : 0 < v.length := by
              cases v with
              | nil => exact absurd (show s' = t' from hv1.2.1) hne1
              | cons x v => simp
            have hnv : isNew (argN v) = true ∨ 0 < v.length := .inr hvne
            by_cases hlw : (w.length : Int) < v.length
            · simp only [Bzq, Bzp, Bz1r, Bz1q, Bz1s, hoS, dn_argN, hnw, hnv, wj, decide_eq_true hlw, go_sem, yz0, Int.reduceLT, reduceLE, reduceToNat, reduceNeg, Nat.reduceLT, reduceLeDiff, reduceMul, reduceSub, reduceIte, reduceEqDiff, reduceAdd, reduceCtorEq]
              exact fun _ _ => ⟨(some w, j + 1), by dsimp only; omega, ⟨by dsimp only; omega, hbn, fun _ => rfl⟩, rfl⟩
            · simp only [Bzq, Bzp, Bz1r, Bz1q, Bz1s, hoS, dn_argN, hnw, hnv, wj, decide_eq_false hlw, go_sem, yz0, Int.reduceLT, reduceLE, reduceToNat, reduceNeg, Nat.reduceLT, reduceLeDiff, reduceMul, reduceSub, reduceIte, reduceEqDiff, reduceAdd, reduceCtorEq]
              exact fun _ _ => ⟨(some v, j + 1), by dsimp only; omega, ⟨by dsimp only; omega, hb, fun _ => rfl⟩, rfl⟩
      · obtain rfl : j = (set.drop (i + 1)).length := by omega
        simp only [Bzr, Bz1t, Bz8r, decide_eq_false hlj, dn_optCS, wi, go_sem, yz0, Int.reduceLT, reduceLE, reduceToNat, reduceNeg, Nat.reduceLT, reduceLeDiff, reduceMul, reduceSub, reduceIte, reduceEqDiff, reduceAdd, reduceCtorEq]
        exact ⟨(b, i + 1), by dsimp only; omega, ⟨by dsimp only; omega, hb, fun _ => hs (by omega)⟩, rfl⟩
    · obtain rfl : i = set.length := by omega
      have hbs := hs (by omega)
      obtain ⟨w, rfl⟩ := Option.isSome_iff_exists.1 hbs
      obtain ⟨s, t, hss, htt, hne, hq⟩ := hb w rfl
      have hI := I.step A hss htt hne hq
      have hw := (merg_some A (I.ws.rg s hss) (I.ws.rg t htt) hq).1
      have hwb := merg_bound A (I.ws.rg s hss) (I.ws.rg t htt) hq
      simp only [Bz1u, Bz4t, Bz8u, decide_eq_false hlt, dn_optCS, hoS, go_sem, yz0, Int.reduceLT, reduceLE, reduceToNat, reduceNeg, Nat.reduceLT, reduceLeDiff, reduceMul, reduceSub, reduceIte, reduceEqDiff, reduceAdd, reduceCtorEq]
      intro vs5
      have hle := hI.1.le
      have hel := every_len n.toNat (by omega)
      have hbd : (n.toNat - 1) * (every n).length ≤ 9 * 100 := Nat.mul_le_mul (by omega) (by
        rw [show ((n.toNat : Nat) : Int) = n by omega] at hel
        have : (n.toNat - 1) * n.toNat ≤ 9 * 10 := Nat.mul_le_mul (by omega) (by omega)
        omega)
      have hlo := I.le
      have hlo2 : (n.toNat - set.length) * (every n).length ≤ (n.toNat - 1) * (every n).length := Nat.mul_le_mul_right _ (by omega)
      have hwl : w.length ≤ 100 := by
        rw [show ((n.toNat : Nat) : Int) = n by omega] at hel
        have : (n.toNat - 1) * n.toNat ≤ 9 * 10 := Nat.mul_le_mul (by omega) (by omega)
        omega
      refine ⟨by omega, ?_⟩
      refine call_rowI (k_image n next set w A I.ws.rg hw (by omega)) qCS qWS ⟨_, rfl⟩ ?_
      rintro ys v rfl
      simp only [mvL_rzsS, dnL_rzsS, Nat.not_lt_zero, range1, yzw, yzz, yz1b, yz1c, yz10, yz1d, yz1a, yz19, yzy, yzo, yzf, yz3, yzu, yzt, yzn, yzm, yzs, yz8, yzb, yze, yz9, yzj, yzh, yz4, yz6, yzc, yzd, yzi, yzk, List.range_zero, yz7, yz5, yza, yzr, yzl, yzp, AVal.fresh, freshL, yz1, yzg, AObj.fresh, id, Option.isSome_some, or_true, true_or, go_sem, yz0, Int.reduceLT, reduceLE, reduceToNat, reduceNeg, Nat.reduceLT, reduceLeDiff, reduceMul, reduceSub, reduceIte, reduceEqDiff, reduceAdd, reduceCtorEq]
      exact ⟨_, hI.2, fun u => ⟨(u, imgL next set w, vs5 2 0, out ++ w), rfl, hI.1, rfl⟩⟩
  · have hd : ¬ (set.length : Int) > 1 := by omega
    simp only [Bz1v, Bz4q, Bz8x, decide_eq_false hd, Az1w, ← hQ, go_sem, yz0, Int.reduceLT, reduceLE, reduceToNat, reduceNeg, Nat.reduceLT, reduceLeDiff, reduceMul, reduceSub, reduceIte, reduceEqDiff, reduceAdd, reduceCtorEq]
    intro hM
    refine ⟨[18], by simp, by simp, by simp, ?_⟩
    simp only [range1, List.length_singleton, Nat.not_lt_zero, range1, yzw, yzz, yz1b, yz1c, yz10, yz1d, yz1a, yz19, yzy, yzo, yzf, yz3, yzu, yzt, yzn, yzm, yzs, yz8, yzb, yze, yz9, yzj, yzh, yz4, yz6, yzc, yzd, yzi, yzk, List.range_zero, yz7, yz5, yza, yzr, yzl, yzp, AVal.fresh, freshL, yz1, yzg, AObj.fresh, id, Option.isSome_some, or_true, true_or, go_sem, yz0, Int.reduceLT, reduceLE, reduceToNat, reduceNeg, Nat.reduceLT, reduceLeDiff, reduceMul, reduceSub, reduceIte, reduceEqDiff, reduceAdd, reduceCtorEq]
    exact .inl ⟨_, out, I.word A (by omega), rfl, rfl⟩
end Go.Ab
namespace Go.Ab
open Go.Proofs
structure NearI (next : List (List Int)) (set : List Int) (p q b : Int) (i k : Nat) : Prop where
  lo : -1 ≤ b
  hi : b < 0 → (1 ≤ i ∨ 2 ≤ k) → mergQ next (set.getD 0 0) (set.getD 1 0) = none
  yes : 0 ≤ b → p ∈ set ∧ q ∈ set ∧ p ≠ q ∧ (mergQ next p q).isSome = true
theorem k_l02Nearest (n : Int) (next : List (List Int)) (A : Aut n next) (set : List Int) (hs : ∀ s ∈ set, 0 ≤ s ∧ s < n) (hsi : SI set) (hl : 2 ≤ set.length) (hl2 : set.length ≤ 100) :
    Fn Try.prog nz3v [.ro none 1 (rwn (tabL next n.toNat n.toNat)), .ro none 1 (ints set)] fun rows res => rows = [] ∧ ∃ p q ok, res = .tup [iv p, iv q, bv ok] ∧
      (ok = true → p ∈ set ∧ q ∈ set ∧ p ≠ q ∧ (mergQ next p q).isSome = true) ∧ (ok = false → mergQ next (set.getD 0 0) (set.getD 1 0) = none) := by
  refine con_of mixed cziv rfl (by simp) ?_
  have n1 := A.n1
  have n2 := A.n2
  have htl := tabL_len (next := next) (n := n.toNat) (i := n.toNat)
  have htg : ∀ x : Int, 0 ≤ x ∧ x < n → (tabL next n.toNat n.toNat).getD x.toNat [] = tabW next x n.toNat := fun x h => by
    rw [tabL_getD (by omega), show ((x.toNat : Nat) : Int) = x by omega]
  have hwl : ∀ x : Int, (tabW next x n.toNat).length = n.toNat := fun x => tabW_len
  have hwg : ∀ x y : Int, 0 ≤ y ∧ y < n → (tabW next x n.toNat).getD y.toNat 0 = tabE (mergQ next x y) := fun x y h => by
    rw [tabW_getD (by omega), show ((y.toNat : Nat) : Int) = y by omega]
  generalize tabL next n.toNat n.toNat = T at htl htg
  generalize hQ : finQ _ = Q
  simp only [Az60, Bzcw, Bzcv, Bzct, go_sem, yz0, Int.reduceLT, reduceLE, reduceToNat, reduceNeg, Nat.reduceLT, reduceLeDiff, reduceMul, reduceSub, reduceIte, reduceEqDiff, reduceAdd, reduceCtorEq]
  refine wpD_lo (fun (_, _, _, i) => set.length - i) (fun (p, q, b, i) => i ≤ set.length ∧ NearI next set p q b i 0)
    (fun ((p, q, b, i) : Int × Int × Int × Nat) => ⟨L .any [(0, .ro none 1 (rwn T)), (1, .ro none 1 (ints set)), (7, iv p), (8, iv q), (9, iv b), (10, iv i)], L .gone []⟩)
    (0, 0, -1, 0) ⟨by omega, ⟨by omega, fun _ h => by omega, fun h => by omega⟩⟩ (by simp only [Bz2l, go_sem, yz0, Int.reduceLT, reduceLE, reduceToNat, reduceNeg, Nat.reduceLT, reduceLeDiff, reduceMul, reduceSub, reduceIte, reduceEqDiff, reduceAdd, reduceCtorEq]; try rfl) ?_
  rintro ⟨p, q, b, i⟩ ⟨hi, hb⟩
  have hi : i ≤ set.length := hi
  by_cases hlt : (i : Int) < set.length
  · have hlt1 : i < set.length := by omega
    have wi : IntKind.i64.wrap ((i : Int) + 1) = ((i + 1 : Nat) : Int) := by rw [w64 (by omega)]; simp
    have hsm : set.getD i 0 ∈ set := yz11 hlt1 0
    have hsr := hs _ hsm
    simp only [Bz2l, Bz5z, Bzcs, Bzcq, decide_eq_true hlt, wi, go_sem, yz0, Int.reduceLT, reduceLE, reduceToNat, reduceNeg, Nat.reduceLT, reduceLeDiff, reduceMul, reduceSub, reduceIte, reduceEqDiff, reduceAdd, reduceCtorEq]
    intro hM
    refine wpD_lo (fun (_, _, _, k) => set.length - k) (fun (p, q, b, k) => i + 1 ≤ k ∧ k ≤ set.length ∧ NearI next set p q b i k)
      (fun ((p, q, b, k) : Int × Int × Int × Nat) => ⟨L .any [(0, .ro none 1 (rwn T)), (1, .ro none 1 (ints set)), (7, iv p), (8, iv q), (9, iv b), (10, iv i), (11, iv k)], L .gone []⟩)
      (p, q, b, i + 1) ⟨by omega, by omega, ⟨hb.lo, fun h1 h2 => hb.hi h1 (by omega), hb.yes⟩⟩ (by simp only [Bz9, go_sem, yz0, Int.reduceLT, reduceLE, reduceToNat, reduceNeg, Nat.reduceLT, reduceLeDiff, reduceMul, reduceSub, reduceIte, reduceEqDiff, reduceAdd, reduceCtorEq]; try rfl) ?_
    rintro ⟨p, q, b, k⟩ ⟨hk1, hk2, hb⟩
    have hk1 : i + 1 ≤ k := hk1
    have hk2 : k ≤ set.length := hk2
    by_cases hlk : (k : Int) < set.length
    · have hlk1 : k < set.length := by omega
      have wk : IntKind.i64.wrap ((k : Int) + 1) = ((k + 1 : Nat) : Int) := by rw [w64 (by omega)]; simp
      have htm : set.getD k 0 ∈ set := yz11 hlk1 0
      have htr := hs _ htm
      have hne : set.getD i 0 ≠ set.getD k 0 := by
        have := hsi
        unfold SI at this
        rw [List.getD_eq_getElem?_getD, List.getD_eq_getElem?_getD, List.getElem?_eq_getElem hlt1, List.getElem?_eq_getElem hlk1]
        exact Int.ne_of_lt (List.pairwise_iff_getElem.1 this i k hlt1 hlk1 (by omega))
      have hg1 := yzv (k := .i64) hlt1
      have hg2 := yzv (k := .i64) hlk1
      have h00 : i = 0 → k = 1 → set.getD i 0 = set.getD 0 0 ∧ set.getD k 0 = set.getD 1 0 := fun h1 h2 => by subst h1; subst h2; exact ⟨rfl, rfl⟩
      generalize set.getD i 0 = s at hsm hne hsr hg1 h00
      generalize set.getD k 0 = t at htm hne htr hg2 h00
      have hsl : s.toNat < T.length := by rw [htl]; omega
      have htl2 : t.toNat < (tabW next s n.toNat).length := by rw [hwl]; omega
      have hgt := yzv (k := .i64) htl2
      rw [hwg s t htr] at hgt
      have hx0 : -1 ≤ tabE (mergQ next s t) := by
        cases mergQ next s t with
        | none => exact Int.le_refl _
        | some w => exact Int.le_trans (by omega) (Int.natCast_nonneg _)
      have hxn : tabE (mergQ next s t) < 0 → mergQ next s t = none := fun h => by
        cases hq : mergQ next s t with
        | none => rfl
        | some w => rw [hq] at h; exact absurd h (Int.not_lt.2 (Int.natCast_nonneg _))
      have hxs : 0 ≤ tabE (mergQ next s t) → (mergQ next s t).isSome = true := fun h => by
        cases hq : mergQ next s t with
        | none => rw [hq] at h; exact absurd h (by decide)
        | some w => rfl
      generalize tabE (mergQ next s t) = x at hgt hx0 hxn hxs
      have hkeep : (x < 0 ∨ 0 ≤ b) → NearI next set p q b i (k + 1) := fun hor => ⟨hb.lo, fun h1 h2 => by
        rcases hor with h | h
        · by_cases c : 1 ≤ i ∨ 2 ≤ k
          · exact hb.hi h1 c
          · obtain ⟨e1, e2⟩ := h00 (by omega) (by omega)
            rw [← e1, ← e2]; exact hxn h
        · omega, hb.yes⟩
      have hnew : 0 ≤ x → NearI next set s t x i (k + 1) := fun h => ⟨by omega, fun h1 => by omega, fun _ => ⟨hsm, htm, hne, hxs h⟩⟩
      by_cases hx : x ≥ 0
      · have hx' : 0 ≤ x := hx
        by_cases hbn : b < 0
        · simp only [Bz9, Bze, Bz11, Bzz, Bzy, Bz10, decide_eq_true hlk, decide_eq_true hx, decide_eq_true hbn, hg1, hg2, hgt, wk, rwn_getD hsl, htg s hsr, dnL_rwn, go_sem, yz0, Int.reduceLT, reduceLE, reduceToNat, reduceNeg, Nat.reduceLT, reduceLeDiff, reduceMul, reduceSub, reduceIte, reduceEqDiff, reduceAdd, reduceCtorEq]
          exact fun _ => ⟨⟨by omega, hlt1⟩, hlt1, ⟨hsr.1, hsl⟩, hsl, ⟨by omega, hlk1⟩, hlk1, ⟨htr.1, htl2⟩, htl2, ⟨by omega, hlt1⟩, hlt1, ⟨by omega, hlk1⟩, hlk1, (s, t, x, k + 1), by dsimp only; omega, ⟨by dsimp only; omega, by dsimp only; omega, hnew hx'⟩, rfl⟩
        · by_cases hxb : x < b
          · simp only [Bz9, Bze, Bz11, Bzz, Bzy, Bz10, decide_eq_true hlk, decide_eq_true hx, decide_eq_false hbn, decide_eq_true hxb, hg1, hg2, hgt, wk, rwn_getD hsl, htg s hsr, dnL_rwn, go_sem, yz0, Int.reduceLT, reduceLE, reduceToNat, reduceNeg, Nat.reduceLT, reduceLeDiff, reduceMul, reduceSub, reduceIte, reduceEqDiff, reduceAdd, reduceCtorEq]
            exact fun _ => ⟨⟨by omega, hlt1⟩, hlt1, ⟨hsr.1, hsl⟩, hsl, ⟨by omega, hlk1⟩, hlk1, ⟨htr.1, htl2⟩, htl2, ⟨by omega, hlt1⟩, hlt1, ⟨by omega, hlk1⟩, hlk1, (s, t, x, k + 1), by dsimp only; omega, ⟨by dsimp only; omega, by dsimp only; omega, hnew hx'⟩, rfl⟩
          · simp only [Bz9, Bze, Bz11, Bzz, Bzy, Bz10, decide_eq_true hlk, decide_eq_true hx, decide_eq_false hbn, decide_eq_false hxb, hg1, hg2, hgt, wk, rwn_getD hsl, htg s hsr, dnL_rwn, go_sem, yz0, Int.reduceLT, reduceLE, reduceToNat, reduceNeg, Nat.reduceLT, reduceLeDiff, reduceMul, reduceSub, reduceIte, reduceEqDiff, reduceAdd, reduceCtorEq]
            exact fun _ => ⟨⟨by omega, hlt1⟩, hlt1, ⟨hsr.1, hsl⟩, hsl, ⟨by omega, hlk1⟩, hlk1, ⟨htr.1, htl2⟩, htl2, (p, q, b, k + 1), by dsimp only; omega, ⟨by dsimp only; omega, by dsimp only; omega, hkeep (.inr (by omega))⟩, rfl⟩
      · simp only [Bz9, Bze, Bz11, Bzz, Bzy, Bz10, decide_eq_true hlk, decide_eq_false hx, hg1, hg2, hgt, wk, rwn_getD hsl, htg s hsr, dnL_rwn, go_sem, yz0, Int.reduceLT, reduceLE, reduceToNat, reduceNeg, Nat.reduceLT, reduceLeDiff, reduceMul, reduceSub, reduceIte, reduceEqDiff, reduceAdd, reduceCtorEq]
        exact fun _ => ⟨⟨by omega, hlt1⟩, hlt1, ⟨hsr.1, hsl⟩, hsl, ⟨by omega, hlk1⟩, hlk1, ⟨htr.1, htl2⟩, htl2, (p, q, b, k + 1), by dsimp only; omega, ⟨by dsimp only; omega, by dsimp only; omega, hkeep (.inl (by omega))⟩, rfl⟩
    · obtain rfl : k = set.length := by omega
      simp only [Bz9, Bze, Bzcr, decide_eq_false hlk, wi, go_sem, yz0, Int.reduceLT, reduceLE, reduceToNat, reduceNeg, Nat.reduceLT, reduceLeDiff, reduceMul, reduceSub, reduceIte, reduceEqDiff, reduceAdd, reduceCtorEq]
      exact fun _ => ⟨(p, q, b, i + 1), by dsimp only; omega, ⟨by dsimp only; omega, ⟨hb.lo, fun h1 _ => hb.hi h1 (by omega), hb.yes⟩⟩, rfl⟩
  · obtain rfl : i = set.length := by omega
    simp only [Bz2l, Bz5z, Bzcu, decide_eq_false hlt, Az60, ← hQ, go_sem, yz0, Int.reduceLT, reduceLE, reduceToNat, reduceNeg, Nat.reduceLT, reduceLeDiff, reduceMul, reduceSub, reduceIte, reduceEqDiff, reduceAdd, reduceCtorEq]
    intro _
    refine ⟨[], by simp, by simp, by simp, ?_⟩
    simp only [List.map_nil, List.length_nil, Nat.not_lt_zero, range1, yzw, yzz, yz1b, yz1c, yz10, yz1d, yz1a, yz19, yzy, yzo, yzf, yz3, yzu, yzt, yzn, yzm, yzs, yz8, yzb, yze, yz9, yzj, yzh, yz4, yz6, yzc, yzd, yzi, yzk, List.range_zero, yz7, yz5, yza, yzr, yzl, yzp, AVal.fresh, freshL, yz1, yzg, AObj.fresh, id, Option.isSome_some, or_true, true_or, go_sem, yz0, Int.reduceLT, reduceLE, reduceToNat, reduceNeg, Nat.reduceLT, reduceLeDiff, reduceMul, reduceSub, reduceIte, reduceEqDiff, reduceAdd, reduceCtorEq]
    exact ⟨p, q, decide (0 ≤ b), rfl, fun h => hb.yes (of_decide_eq_true h), fun h => hb.hi (by have := of_decide_eq_false h; omega) (.inl (by omega))⟩
abbrev GreedyB (n : Int) (next : List (List Int)) (rows : List AObj) (res : AVal) : Prop := ∃ v xs ok, rows = [.row v 1 true (ints xs)] ∧ res = .tup [.own 6000 v, bv ok] ∧ (ok = true ↔ CanR n next)
theorem k_l02Greedy (n : Int) (next : List (List Int)) (A : Aut n next) : Fn Try.prog nz3m [autP n next] (GreedyB n next) := by
  refine con_of mixed czib rfl (by simp) ?_
  have n1 := A.n1
  have n2 := A.n2
  generalize hQ : finQ _ = Q
  simp only [Az27, Bza6, go_sem, yz0, Int.reduceLT, reduceLE, reduceToNat, reduceNeg, Nat.reduceLT, reduceLeDiff, reduceMul, reduceSub, reduceIte, reduceEqDiff, reduceAdd, reduceCtorEq]
  intro vs
  refine call_rowR (k_l02Table n next A) qCS qGN ⟨_, rfl⟩ ?_
  rintro xss vt rfl
  simp only [Bza5, Bza4, go_sem, yz0, Int.reduceLT, reduceLE, reduceToNat, reduceNeg, Nat.reduceLT, reduceLeDiff, reduceMul, reduceSub, reduceIte, reduceEqDiff, reduceAdd, reduceCtorEq]
  intro vs2 vs3
  refine call_rowI (k_l01All n (by omega)) qCS qWS ⟨_, rfl⟩ ?_
  rintro xs vq rfl
  simp only [Bza3, go_sem, yz0, Int.reduceLT, reduceLE, reduceToNat, reduceNeg, Nat.reduceLT, reduceLeDiff, reduceMul, reduceSub, reduceIte, reduceEqDiff, reduceAdd, reduceCtorEq]
  refine wpD_lm (fun (_, set, _, _) => set.length) (fun (_, set, _, out) => GrI n next set out)
    (fun ((vq, set, vo, out) : Nat × List Int × Nat × List Int) => ⟨L .any [(0, autP n next), (4, .own 13 vt), (5, .own 14 vo), (6, .own 19 vq)],
      L .gone [(13, .row vt 1 true (rws (tabL next n.toNat n.toNat))), (14, .row vo 1 true (ints out)), (19, .row vq 1 true (ints set))]⟩)
    (_, allS n, _, []) (GrI.zero A) (by intro u; simp only [Bz26, List.map_nil, go_sem, yz0, Int.reduceLT, reduceLE, reduceToNat, reduceNeg, Nat.reduceLT, reduceLeDiff, reduceMul, reduceSub, reduceIte, reduceEqDiff, reduceAdd, reduceCtorEq]; try rfl) ?_
  rintro ⟨vq, set, vo, out⟩ I
  have I : GrI n next set out := I
  have hsl := I.len
  by_cases h2 : 2 ≤ set.length
  · have hd : (set.length : Int) > 1 := by omega
    simp only [Bz26, Bz53, Bza1, decide_eq_true hd, go_sem, yz0, Int.reduceLT, reduceLE, reduceToNat, reduceNeg, Nat.reduceLT, reduceLeDiff, reduceMul, reduceSub, reduceIte, reduceEqDiff, reduceAdd, reduceCtorEq]
    intro hM vs4
    refine call_fn (k_l02Nearest n next A set I.ws.rg I.ws.si h2 (by omega)) qCS (fun e => by cases e) ?_
    rintro rows res ⟨rfl, s, t, ok, rfl, hy, hn⟩
    refine ⟨by simp, by rw [Option.getD_some, yzr]; simp only [go_sem, yz0, Int.reduceLT, reduceLE, reduceToNat, reduceNeg, Nat.reduceLT, reduceLeDiff, reduceMul, reduceSub, reduceIte, reduceEqDiff, reduceAdd, reduceCtorEq], ?_⟩
    cases ok with
    | false =>
      have h0 := hn rfl
      simp only [Option.getD_some, Bz55, Bz54, Bool.not_false, Az27, ← hQ, Nat.not_lt_zero, range1, yzw, yzz, yz1b, yz1c, yz10, yz1d, yz1a, yz19, yzy, yzo, yzf, yz3, yzu, yzt, yzn, yzm, yzs, yz8, yzb, yze, yz9, yzj, yzh, yz4, yz6, yzc, yzd, yzi, yzk, List.range_zero, yz7, yz5, yza, yzr, yzl, yzp, AVal.fresh, freshL, yz1, yzg, AObj.fresh, id, Option.isSome_some, or_true, true_or, go_sem, yz0, Int.reduceLT, reduceLE, reduceToNat, reduceNeg, Nat.reduceLT, reduceLeDiff, reduceMul, reduceSub, reduceIte, reduceEqDiff, reduceAdd, reduceCtorEq]
      intro vs5
      refine ⟨[32], by simp, by simp, by simp, ?_⟩
      simp only [GreedyB, range1, List.length_singleton, List.map_nil, Nat.not_lt_zero, range1, yzw, yzz, yz1b, yz1c, yz10, yz1d, yz1a, yz19, yzy, yzo, yzf, yz3, yzu, yzt, yzn, yzm, yzs, yz8, yzb, yze, yz9, yzj, yzh, yz4, yz6, yzc, yzd, yzi, yzk, List.range_zero, yz7, yz5, yza, yzr, yzl, yzp, AVal.fresh, freshL, yz1, yzg, AObj.fresh, id, Option.isSome_some, or_true, true_or, go_sem, yz0, Int.reduceLT, reduceLE, reduceToNat, reduceNeg, Nat.reduceLT, reduceLeDiff, reduceMul, reduceSub, reduceIte, reduceEqDiff, reduceAdd, reduceCtorEq]
      exact ⟨_, [], false, rfl, rfl, by simp; exact I.not A (yz11 (by omega) 0) (yz11 (by omega) 0) h0⟩
    | true =>
      obtain ⟨hs, ht, hne, hq⟩ := hy rfl
      have hsr := I.ws.rg _ hs
      have htr := I.ws.rg _ ht
      obtain ⟨w, hw⟩ := Option.isSome_iff_exists.1 hq
      have hf := two_lt hsr htr
      have es : ((s.toNat : Nat) : Int) = s := by omega
      have et : ((t.toNat : Nat) : Int) = t := by omega
      have s64 : IntKind.u64.wrap s = s := by rw [← es]; exact u64w (by omega)
      have t64 : IntKind.u64.wrap t = t := by rw [← et]; exact u64w (by omega)
      have s0 : ¬ s < 0 := by omega
      have t0 : ¬ t < 0 := by omega
      have si := i_shl (b := s.toNat) (by omega)
      have sj := i_shl (b := t.toNat) (by omega)
      have pi := pow_lt10 (k := s.toNat) (by omega)
      have pj := pow_lt10 (k := t.toNat) (by omega)
      have hor : _ = ((twoN s t : Nat) : Int) := i_or (x := 2 ^ s.toNat) (y := 2 ^ t.toNat) (by omega) (by omega)
      simp only [Option.getD_some, Bz55, Bz54, Bza0, Bool.not_true, s64, t64, s0, t0, si, sj, hor, Nat.not_lt_zero, range1, yzw, yzz, yz1b, yz1c, yz10, yz1d, yz1a, yz19, yzy, yzo, yzf, yz3, yzu, yzt, yzn, yzm, yzs, yz8, yzb, yze, yz9, yzj, yzh, yz4, yz6, yzc, yzd, yzi, yzk, List.range_zero, yz7, yz5, yza, yzr, yzl, yzp, AVal.fresh, freshL, yz1, yzg, AObj.fresh, id, Option.isSome_some, or_true, true_or, go_sem, yz0, Int.reduceLT, reduceLE, reduceToNat, reduceNeg, Nat.reduceLT, reduceLeDiff, reduceMul, reduceSub, reduceIte, reduceEqDiff, reduceAdd, reduceCtorEq]
      intro vs5
      refine call_fn (k_l02Shrink n next A (twoN s t) hf) qCS (fun e => by cases e) ?_
      rintro rows res ⟨vw, rfl, rfl⟩
      have hm : mergQ next s t = (firstT (tourT next (twoN s t))).map (·.2) := rfl
      obtain ⟨pw, hpw⟩ : ∃ p, firstT (tourT next (twoN s t)) = some p := by
        rw [hm] at hw
        obtain ⟨p, hp, _⟩ := Option.map_eq_some_iff.1 hw
        exact ⟨p, hp⟩
      rw [hpw] at hm
      obtain rfl : pw.2 = w := by rw [hw] at hm; exact (Option.some.inj hm).symm
      have hI := I.step A hs ht hne hw
      have hw1 := (merg_some A hsr htr hw).1
      have hwb := merg_bound A hsr htr hw
      have hle := I.le
      have hel := every_len n.toNat (by omega)
      rw [show ((n.toNat : Nat) : Int) = n by omega] at hel
      have hel2 : (n.toNat - 1) * n.toNat ≤ 9 * 10 := Nat.mul_le_mul (by omega) (by omega)
      have hbd : (n.toNat - set.length) * (every n).length ≤ 9 * 100 := Nat.mul_le_mul (by omega) (by omega)
      rw [hpw]
      refine ⟨by simp, by rw [Option.getD_some, yzl]; simp only [go_sem, yz0, Int.reduceLT, reduceLE, reduceToNat, reduceNeg, Nat.reduceLT, reduceLeDiff, reduceMul, reduceSub, reduceIte, reduceEqDiff, reduceAdd, reduceCtorEq], ?_⟩
      simp only [Option.getD_some, Option.map_some, Option.isSome_some, Bz9z, Nat.not_lt_zero, range1, yzw, yzz, yz1b, yz1c, yz10, yz1d, yz1a, yz19, yzy, yzo, yzf, yz3, yzu, yzt, yzn, yzm, yzs, yz8, yzb, yze, yz9, yzj, yzh, yz4, yz6, yzc, yzd, yzi, yzk, List.range_zero, yz7, yz5, yza, yzr, yzl, yzp, AVal.fresh, freshL, yz1, yzg, AObj.fresh, id, Option.isSome_some, or_true, true_or, go_sem, yz0, Int.reduceLT, reduceLE, reduceToNat, reduceNeg, Nat.reduceLT, reduceLeDiff, reduceMul, reduceSub, reduceIte, reduceEqDiff, reduceAdd, reduceCtorEq]
      intro vs6
      refine ⟨by omega, ?_⟩
      simp only [Bz9y, go_sem, yz0, Int.reduceLT, reduceLE, reduceToNat, reduceNeg, Nat.reduceLT, reduceLeDiff, reduceMul, reduceSub, reduceIte, reduceEqDiff, reduceAdd, reduceCtorEq]
      intro vs7
      refine call_rowI (k_l01Image n next set pw.2 A I.ws.rg hw1 (by omega)) qCS qWS ⟨_, rfl⟩ ?_
      rintro ys v rfl
      simp only [Nat.not_lt_zero, range1, yzw, yzz, yz1b, yz1c, yz10, yz1d, yz1a, yz19, yzy, yzo, yzf, yz3, yzu, yzt, yzn, yzm, yzs, yz8, yzb, yze, yz9, yzj, yzh, yz4, yz6, yzc, yzd, yzi, yzk, List.range_zero, yz7, yz5, yza, yzr, yzl, yzp, AVal.fresh, freshL, yz1, yzg, AObj.fresh, id, Option.isSome_some, or_true, true_or, go_sem, yz0, Int.reduceLT, reduceLE, reduceToNat, reduceNeg, Nat.reduceLT, reduceLeDiff, reduceMul, reduceSub, reduceIte, reduceEqDiff, reduceAdd, reduceCtorEq]
      exact ⟨_, hI.2, fun u => ⟨(u, imgL next set pw.2, vs6 2 0, out ++ pw.2), rfl, hI.1, rfl⟩⟩
  · have hd : ¬ (set.length : Int) > 1 := by omega
    simp only [Bz26, Bz53, Bza2, decide_eq_false hd, Az27, ← hQ, go_sem, yz0, Int.reduceLT, reduceLE, reduceToNat, reduceNeg, Nat.reduceLT, reduceLeDiff, reduceMul, reduceSub, reduceIte, reduceEqDiff, reduceAdd, reduceCtorEq]
    intro hM
    refine ⟨[14], by simp, by simp, by simp, ?_⟩
    simp only [GreedyB, range1, List.length_singleton, Nat.not_lt_zero, range1, yzw, yzz, yz1b, yz1c, yz10, yz1d, yz1a, yz19, yzy, yzo, yzf, yz3, yzu, yzt, yzn, yzm, yzs, yz8, yzb, yze, yz9, yzj, yzh, yz4, yz6, yzc, yzd, yzi, yzk, List.range_zero, yz7, yz5, yza, yzr, yzl, yzp, AVal.fresh, freshL, yz1, yzg, AObj.fresh, id, Option.isSome_some, or_true, true_or, go_sem, yz0, Int.reduceLT, reduceLE, reduceToNat, reduceNeg, Nat.reduceLT, reduceLeDiff, reduceMul, reduceSub, reduceIte, reduceEqDiff, reduceAdd, reduceCtorEq]
    exact ⟨_, out, true, rfl, rfl, by simp; exact I.can A (by omega)⟩
theorem k_specGreedyReset (n : Int) (next : List (List Int)) (A : Aut n next) :
    Fn Try.prog nz3f [autA n next] fun rows res => ∃ v xs c, rows = [.row v 1 true (ints xs)] ∧ res = .tup [.own 6000 v, iv c] ∧ (c = 0 ∧ CanR n next ∨ c = 6 ∧ ¬ CanR n next) := by
  refine con_of mixed czi1 rfl (by simp) ?_
  have n1 := A.n1
  have n2 := A.n2
  have hv : autB n next = true := autB_iff.2 A
  simp only [Az8n, Bz8m, go_sem, yz0, Int.reduceLT, reduceLE, reduceToNat, reduceNeg, Nat.reduceLT, reduceLeDiff, reduceMul, reduceSub, reduceIte, reduceEqDiff, reduceAdd, reduceCtorEq]
  intro vs vs2
  refine yz12 (k_l01Ok n next) qCS trivial ?_
  simp only [hv, Bz8k, Bz8l, go_sem, yz0, Int.reduceLT, reduceLE, reduceToNat, reduceNeg, Nat.reduceLT, reduceLeDiff, reduceMul, reduceSub, reduceIte, reduceEqDiff, reduceAdd, reduceCtorEq]
  intro vs3
  refine call_fn (k_l02Greedy n next A) qCS (fun e => by cases e) ?_
  rintro rows res ⟨v, xs, ok, rfl, rfl, hok⟩
  refine ⟨by simp, by rw [Option.getD_some, yzl]; simp only [go_sem, yz0, Int.reduceLT, reduceLE, reduceToNat, reduceNeg, Nat.reduceLT, reduceLeDiff, reduceMul, reduceSub, reduceIte, reduceEqDiff, reduceAdd, reduceCtorEq], ?_⟩
  simp only [Option.getD_some, Nat.not_lt_zero, range1, yzw, yzz, yz1b, yz1c, yz10, yz1d, yz1a, yz19, yzy, yzo, yzf, yz3, yzu, yzt, yzn, yzm, yzs, yz8, yzb, yze, yz9, yzj, yzh, yz4, yz6, yzc, yzd, yzi, yzk, List.range_zero, yz7, yz5, yza, yzr, yzl, yzp, AVal.fresh, freshL, yz1, yzg, AObj.fresh, id, Option.isSome_some, or_true, true_or, go_sem, yz0, Int.reduceLT, reduceLE, reduceToNat, reduceNeg, Nat.reduceLT, reduceLeDiff, reduceMul, reduceSub, reduceIte, reduceEqDiff, reduceAdd, reduceCtorEq]
  refine call_told (k_l02Told _ ok) rfl qGN (fun ho => ?_) (fun ho w => ?_)
  · simp only [ho, if_true, go_sem, yz0, Int.reduceLT, reduceLE, reduceToNat, reduceNeg, Nat.reduceLT, reduceLeDiff, reduceMul, reduceSub, reduceIte, reduceEqDiff, reduceAdd, reduceCtorEq]
    refine ⟨[7], by simp, by simp, by simp, ?_⟩
    simp only [Nat.not_lt_zero, range1, yzw, yzz, yz1b, yz1c, yz10, yz1d, yz1a, yz19, yzy, yzo, yzf, yz3, yzu, yzt, yzn, yzm, yzs, yz8, yzb, yze, yz9, yzj, yzh, yz4, yz6, yzc, yzd, yzi, yzk, List.range_zero, yz7, yz5, yza, yzr, yzl, yzp, AVal.fresh, freshL, yz1, yzg, AObj.fresh, id, Option.isSome_some, or_true, true_or, go_sem, yz0, Int.reduceLT, reduceLE, reduceToNat, reduceNeg, Nat.reduceLT, reduceLeDiff, reduceMul, reduceSub, reduceIte, reduceEqDiff, reduceAdd, reduceCtorEq]
    exact ⟨_, _, _, rfl, rfl, .inl ⟨rfl, hok.1 ho⟩⟩
  · simp only [ho, go_sem, yz0, Int.reduceLT, reduceLE, reduceToNat, reduceNeg, Nat.reduceLT, reduceLeDiff, reduceMul, reduceSub, reduceIte, reduceEqDiff, reduceAdd, reduceCtorEq]
    refine ⟨[10], by simp, by simp, by simp, ?_⟩
    simp only [Nat.not_lt_zero, range1, yzw, yzz, yz1b, yz1c, yz10, yz1d, yz1a, yz19, yzy, yzo, yzf, yz3, yzu, yzt, yzn, yzm, yzs, yz8, yzb, yze, yz9, yzj, yzh, yz4, yz6, yzc, yzd, yzi, yzk, List.range_zero, yz7, yz5, yza, yzr, yzl, yzp, AVal.fresh, freshL, yz1, yzg, AObj.fresh, id, Option.isSome_some, or_true, true_or, go_sem, yz0, Int.reduceLT, reduceLE, reduceToNat, reduceNeg, Nat.reduceLT, reduceLeDiff, reduceMul, reduceSub, reduceIte, reduceEqDiff, reduceAdd, reduceCtorEq]
    exact ⟨w, [], _, rfl, rfl, .inr ⟨rfl, fun h => by rw [hok.2 h] at ho; cases ho⟩⟩
theorem k_ResetBound (n : Int) (h1 : 1 ≤ n) (h2 : n ≤ 10) : Fun2 Try.prog nz3j [iv n] (.int .i64 ((n - 1) * n * (n - 1) / 2)) (.int .i64 0) := by
  refine fun2_of mixed czi5 rfl ?_
  have hb : (decide (1 ≤ n) && decide (n ≤ 10)) = true := by simp; omega
  have e1 : (n - 1) * n ≤ 9 * 10 := Int.mul_le_mul (by omega) (by omega) (by omega) (by omega)
  have e2 : 0 ≤ (n - 1) * n := Int.mul_nonneg (by omega) (by omega)
  have e3 : (n - 1) * n * (n - 1) ≤ 90 * 9 := Int.mul_le_mul (by omega) (by omega) (by omega) (by omega)
  have e4 : 0 ≤ (n - 1) * n * (n - 1) := Int.mul_nonneg (by omega) (by omega)
  have w1 : IntKind.i64.wrap (n - 1) = n - 1 := w64 (by omega)
  have w2 : IntKind.i64.wrap ((n - 1) * n) = (n - 1) * n := w64 (by omega)
  have w3 : IntKind.i64.wrap ((n - 1) * n * (n - 1)) = (n - 1) * n * (n - 1) := w64 (by omega)
  have w4 : IntKind.i64.wrap (((n - 1) * n * (n - 1)).tdiv 2) = (n - 1) * n * (n - 1) / 2 := by
    rw [Int.tdiv_eq_ediv_of_nonneg e4]; exact w64 (by omega)
  simp only [Az9b, Bz9a, go_sem, yz0, Int.reduceLT, reduceLE, reduceToNat, reduceNeg, Nat.reduceLT, reduceLeDiff, reduceMul, reduceSub, reduceIte, reduceEqDiff, reduceAdd, reduceCtorEq]
  intro vs
  refine yz12 (k_within n 1 10) qCS trivial ?_
  simp only [hb, Bz98, Bz99, w1, w2, w3, w4, Bool.not_true, go_sem, yz0, Int.reduceLT, reduceLE, reduceToNat, reduceNeg, Nat.reduceLT, reduceLeDiff, reduceMul, reduceSub, reduceIte, reduceEqDiff, reduceAdd, reduceCtorEq]
  exact ⟨rfl, rfl⟩
end Go.Ab
namespace Go.Ab
theorem rwp_putN {ps : List (Nat × List Int)} {i : Nat} {p : Nat × List Int} : (rwp ps).take i ++ [.ro (some (some (p.1 + 1))) 1 (ints p.2)] ++ (rwp ps).drop (i + 1) = rwp (ps.take i ++ [p] ++ ps.drop (i + 1)) := by
  simp only [rwp, List.map_append, List.map_take, List.map_drop, List.map_cons, List.map_nil]
theorem DJ_put {A C : List (Nat × List Int)} {b b' : Nat × List Int} (h : DJ (A ++ b :: C)) (h1 : b'.1 = b.1) (h2 : b.2 = [] → b'.2 = []) : DJ (A ++ b' :: C) := by
  unfold DJ at h ⊢
  rw [List.pairwise_append] at h ⊢
  obtain ⟨hA, hC, hX⟩ := h
  rw [List.pairwise_cons] at hC ⊢
  refine ⟨hA, ⟨fun x hx => ?_, hC.2⟩, fun x hx y hy => ?_⟩
  · rcases hC.1 x hx with e | e | e
    · exact .inl (h2 e)
    · exact .inr (.inl e)
    · exact .inr (.inr (by rw [h1]; exact e))
  · rcases List.mem_cons.1 hy with rfl | hy
    · rcases hX x hx b (List.mem_cons_self ..) with e | e | e
      · exact .inl e
      · exact .inr (.inl (h2 e))
      · exact .inr (.inr (by rw [h1]; exact e))
    · exact hX x hx y (List.mem_cons_of_mem _ hy)
theorem DJ_set {ps : List (Nat × List Int)} {i : Nat} (hi : i < ps.length) {xs : List Int} (h : DJ ps) (h2 : (ps.getD i (0, [])).2 = [] → xs = []) : DJ (ps.take i ++ [((ps.getD i (0, [])).1, xs)] ++ ps.drop (i + 1)) := by
  have e : ps = ps.take i ++ ps.getD i (0, []) :: ps.drop (i + 1) := by
    rw [List.getD_eq_getElem?_getD, List.getElem?_eq_getElem hi, Option.getD_some, List.getElem_cons_drop, List.take_append_drop]
  rw [e] at h
  rw [List.append_assoc, List.singleton_append]
  exact DJ_put h rfl h2
end Go.Ab
namespace Go.Ab
open Go.Proofs
abbrev LoR (code : List Int) (at_ k : Int) (outs rows : List AObj) (res : AVal) : Prop :=
  ∃ n ps v a' s', (ps.length ≤ 3 → DJ ps) ∧ ps.length ≤ 10 ∧ -1 ≤ n ∧ n ≤ 11 ∧ (∀ p ∈ ps, p.2.length ≤ 10) ∧ at_ ≤ a' ∧ a' ≤ at_ + k ∧ outs = [.box 0 (srcC code a' s')] ∧ rows = [.row v 1 true (rwp ps)] ∧ res = .st [iv n, .own 6000 v]
theorem call_boxrowN {P : Program} {nos : List Nat} {σ : St} {g : FuncId} {As args : List AVal} {d : Nat} {s : Nat → Nat} {K : St → Prop} {r q v u : Nat} {cs cs0 : List AVal} {xs : List Int} {Q : List AVal → Value → Prop}
    (h : Con P g [.box 0 cs, .row 1 1 true (ints xs)] args true fun outs rows res => ∃ cs' x, Q cs' x ∧ flatL cs' ∧ outs = [.box 0 cs', .row 1 1 true (ints xs)] ∧ rows = [] ∧ res = .val x)
    (hr : σ.hp r = .box v cs0) (hq : σ.hp q = .row u 1 true (ints xs)) (hm : r ∈ nos ∧ q ∈ nos) (hne : [r, q].Nodup) (hcs : CoeL σ.hp [r, q] false cs cs0) (ha : CoeL σ.hp [r, q] false args As) (hex : ∃ cs' x, Q cs' x ∧ flatL cs')
    (hk : ∀ cs' x, Q cs' x → K (St.put ⟨σ.tm, upd (upd σ.hp r (.box v cs')) q (.row u 1 true (ints xs))⟩ (some d) (.val x))) : wpCallN P nos σ g As (some d) s K := by
  refine ⟨[r, q], _, _, true, _, h, ⟨by simp, rfl, hne, ?_, ?_⟩, ha, ⟨by simp [hm.1, hm.2], ?_⟩, ?_⟩
  · intro x hx
    simp only [List.mem_cons, List.not_mem_nil, or_false] at hx
    rcases hx with rfl | rfl
    · simp [hr]
    · simp [hq]
  · intro j B r' hB hr'
    match j, hB, hr' with
    | 0, hB, hr' =>
      simp at hB hr'; subst hB; subst hr'
      rw [hr]
      exact ⟨rfl, v, cs0, rfl, hcs⟩
    | 1, hB, hr' =>
      simp at hB hr'; subst hB; subst hr'
      simp only [ObjCoe, hq]
      exact ⟨trivial, u, _, rfl, coeL_ints⟩
    | j + 2, hB, hr' => simp at hB
  · obtain ⟨cs', x, hq, hf⟩ := hex
    exact ⟨_, _, _, cs', x, hq, hf, rfl, rfl, rfl⟩
  · rintro outs rows res ⟨cs', x, hQ, hf, rfl, rfl, rfl⟩
    refine ⟨rfl, rfl, ?_⟩
    have s0 : sv σ.hp [r, q] s 0 = v := by simp [sv, hr, AObj.ver]
    have s1 : sv σ.hp [r, q] s 1 = u := by simp [sv, hq, AObj.ver]
    rw [Option.getD_some, callHp_h2 hne]
    simp only [yzm, yzn, renL_flat cs' hf, yz3, yzw, s0, s1]
    exact hk cs' x hQ
theorem k_l01Bent (code : List Int) (at_ seed : Int) (hb : ∀ x ∈ code, 0 ≤ x ∧ x ≤ 255) (ha : 0 ≤ at_ ∧ at_ ≤ 100000) :
    Con Try.prog nz45 [.box 0 (srcC code at_ seed)] [.ptr 5000 0 0] true (LoR code at_ 3000) := by
  refine con_shE mixed czjc rfl (by simp) ?_
  generalize hQ : finQ _ = Q
  have h12 : ∀ (σ : St) (v2 v3 : Nat) (r v : Nat) (o6 o10 o61 o73 o77 : AObj) (a s n : Int) (ps : List (Nat × List Int)),
      (ps.length ≤ 3 → DJ ps) → ps.length ≤ 10 → -1 ≤ n ∧ n ≤ 11 → (∀ p ∈ ps, p.2.length ≤ 10) → at_ ≤ a ∧ a ≤ at_ + 3000 →
      (r = 6 ∧ o6 = .row v 1 true (rwp ps) ∨ r = 10 ∧ o10 = .row v 1 true (rwp ps) ∨ r = 77 ∧ o77 = .row v 1 true (rwp ps)) →
      σ.keep [2, 3] [2, 3, 6, 10, 61, 73, 77, 5000, 901] = ⟨L .any [(2, .ptr 2 v2 0), (3, .ptr 3 v3 0)],
        L .gone [(2, .box v2 [iv 0, .val (.slice none 0 0)]), (3, .box v3 [iv n, .own r v]), (6, o6), (10, o10), (61, o61), (73, o73), (77, o77), (5000, .box 0 (srcC code a s)), (901, .gone)]⟩ →
      wpD Try.prog Bz13 Q σ := by
    intro σ v2 v3 r v o6 o10 o61 o73 o77 a s n ps hd hl hn hr ha' hrv hS
    unfold Bz13
    rw [yzq, hS]
    simp only [wpD_gh]
    intro _
    refine ⟨[], ?_⟩
    rcases hrv with ⟨rfl, rfl⟩ | ⟨rfl, rfl⟩ | ⟨rfl, rfl⟩
    · simp only [gwp_nil, yzq, yz2, go_sem, yz0, Int.reduceLT, reduceLE, reduceToNat, reduceNeg, Nat.reduceLT, reduceLeDiff, reduceMul, reduceSub, reduceIte, reduceEqDiff, reduceAdd, reduceCtorEq]
      intro vs U hN
      simp only [← hQ, Azb, go_sem, yz0, Int.reduceLT, reduceLE, reduceToNat, reduceNeg, Nat.reduceLT, reduceLeDiff, reduceMul, reduceSub, reduceIte, reduceEqDiff, reduceAdd, reduceCtorEq]
      refine ⟨[6], by simp, by simp, by simp, ?_⟩
      simp only [range1, List.length_singleton, renL_rwp, Nat.not_lt_zero, range1, yzw, yzz, yz1b, yz1c, yz10, yz1d, yz1a, yz19, yzy, yzo, yzf, yz3, yzu, yzt, yzn, yzm, yzs, yz8, yzb, yze, yz9, yzj, yzh, yz4, yz6, yzc, yzd, yzi, yzk, List.range_zero, yz7, yz5, yza, yzr, yzl, yzp, AVal.fresh, freshL, yz1, yzg, AObj.fresh, id, Option.isSome_some, or_true, true_or, go_sem, yz0, Int.reduceLT, reduceLE, reduceToNat, reduceNeg, Nat.reduceLT, reduceLeDiff, reduceMul, reduceSub, reduceIte, reduceEqDiff, reduceAdd, reduceCtorEq]
      exact ⟨n, ps, v, a, s, hd, hl, hn.1, hn.2, hr, ha'.1, ha'.2, rfl, by simp, rfl⟩
    · simp only [gwp_nil, yzq, yz2, go_sem, yz0, Int.reduceLT, reduceLE, reduceToNat, reduceNeg, Nat.reduceLT, reduceLeDiff, reduceMul, reduceSub, reduceIte, reduceEqDiff, reduceAdd, reduceCtorEq]
      intro vs U hN
      simp only [← hQ, Azb, go_sem, yz0, Int.reduceLT, reduceLE, reduceToNat, reduceNeg, Nat.reduceLT, reduceLeDiff, reduceMul, reduceSub, reduceIte, reduceEqDiff, reduceAdd, reduceCtorEq]
      refine ⟨[10], by simp, by simp, by simp, ?_⟩
      simp only [range1, List.length_singleton, renL_rwp, Nat.not_lt_zero, range1, yzw, yzz, yz1b, yz1c, yz10, yz1d, yz1a, yz19, yzy, yzo, yzf, yz3, yzu, yzt, yzn, yzm, yzs, yz8, yzb, yze, yz9, yzj, yzh, yz4, yz6, yzc, yzd, yzi, yzk, List.range_zero, yz7, yz5, yza, yzr, yzl, yzp, AVal.fresh, freshL, yz1, yzg, AObj.fresh, id, Option.isSome_some, or_true, true_or, go_sem, yz0, Int.reduceLT, reduceLE, reduceToNat, reduceNeg, Nat.reduceLT, reduceLeDiff, reduceMul, reduceSub, reduceIte, reduceEqDiff, reduceAdd, reduceCtorEq]
      exact ⟨n, ps, v, a, s, hd, hl, hn.1, hn.2, hr, ha'.1, ha'.2, rfl, by simp, rfl⟩
    · simp only [gwp_nil, yzq, yz2, go_sem, yz0, Int.reduceLT, reduceLE, reduceToNat, reduceNeg, Nat.reduceLT, reduceLeDiff, reduceMul, reduceSub, reduceIte, reduceEqDiff, reduceAdd, reduceCtorEq]
      intro vs U hN
      simp only [← hQ, Azb, go_sem, yz0, Int.reduceLT, reduceLE, reduceToNat, reduceNeg, Nat.reduceLT, reduceLeDiff, reduceMul, reduceSub, reduceIte, reduceEqDiff, reduceAdd, reduceCtorEq]
      refine ⟨[77], by simp, by simp, by simp, ?_⟩
      simp only [range1, List.length_singleton, renL_rwp, Nat.not_lt_zero, range1, yzw, yzz, yz1b, yz1c, yz10, yz1d, yz1a, yz19, yzy, yzo, yzf, yz3, yzu, yzt, yzn, yzm, yzs, yz8, yzb, yze, yz9, yzj, yzh, yz4, yz6, yzc, yzd, yzi, yzk, List.range_zero, yz7, yz5, yza, yzr, yzl, yzp, AVal.fresh, freshL, yz1, yzg, AObj.fresh, id, Option.isSome_some, or_true, true_or, go_sem, yz0, Int.reduceLT, reduceLE, reduceToNat, reduceNeg, Nat.reduceLT, reduceLeDiff, reduceMul, reduceSub, reduceIte, reduceEqDiff, reduceAdd, reduceCtorEq]
      exact ⟨n, ps, v, a, s, hd, hl, hn.1, hn.2, hr, ha'.1, ha'.2, rfl, by simp, rfl⟩
  have h12b : ∀ (σ : St) (v2 v3 r v m : Nat) (o6 o10 : AObj) (a s n : Int) (A2 C2 : List (Nat × List Int)) (b : Nat × List Int) (cur : List Int),
      DJ (A2 ++ b :: C2) → (A2 ++ b :: C2).length ≤ 10 → -1 ≤ n ∧ n ≤ 11 → (∀ p ∈ A2 ++ C2, p.2.length ≤ 10) → cur.length ≤ 10 → at_ ≤ a ∧ a ≤ at_ + 3000 →
      (r = 6 ∧ o6 = .row v 1 true (rwp A2 ++ .own 901 m :: rwp C2) ∨ r = 10 ∧ o10 = .row v 1 true (rwp A2 ++ .own 901 m :: rwp C2)) →
      σ.keep [2, 3] [2, 3, 6, 10, 61, 73, 77, 5000, 901] = ⟨L .any [(2, .ptr 2 v2 0), (3, .ptr 3 v3 0)],
        L .gone [(2, .box v2 [iv 0, .val (.slice none 0 0)]), (3, .box v3 [iv n, .own r v]), (6, o6), (10, o10), (61, .gone), (73, .gone), (77, .gone), (5000, .box 0 (srcC code a s)), (901, .row m 1 true (ints cur))]⟩ →
      wpD Try.prog Bz13 Q σ := by
    intro σ v2 v3 r v m o6 o10 a s n A2 C2 b cur hd hl hn hr hc ha' hrv hS
    unfold Bz13
    rw [yzq, hS]
    simp only [wpD_gh]
    intro hD
    have hset4 : ∀ X : AVal, (rwp A2 ++ AVal.own 901 m :: rwp C2).set A2.length X = rwp A2 ++ X :: rwp C2 := fun X => by
      rw [List.set_append_right _ _ (by rw [rwp_len]; exact Nat.le_refl _), rwp_len, Nat.sub_self]; rfl
    rw [List.length_append, List.length_cons] at hl
    have key : (∀ n k'' cs'', AVal.ro (some (some (n + 1))) k'' cs'' ∈ rwp A2 ++ AVal.own 901 m :: rwp C2 → cs'' ≠ [] → n ≠ m) → DJ (A2 ++ (m, cur) :: C2) := fun hf => DJ_in hd fun p hp => by
      by_cases e : p.2 = []
      · exact .inl e
      · refine .inr (hf p.1 1 (ints p.2) ?_ (by simpa using e))
        rcases List.mem_append.1 hp with h | h
        · exact List.mem_append.2 (.inl (List.mem_map.2 ⟨p, h, rfl⟩))
        · exact List.mem_append.2 (.inr (List.mem_cons.2 (.inr (List.mem_map.2 ⟨p, h, rfl⟩))))
    have hr2 : ∀ p ∈ A2 ++ (m, cur) :: C2, p.2.length ≤ 10 := fun p hp => by
      simp only [List.mem_append, List.mem_cons] at hp
      rcases hp with h | rfl | h
      · exact hr p (by simp [h])
      · exact hc
      · exact hr p (by simp [h])
    rcases hrv with ⟨rfl, rfl⟩ | ⟨rfl, rfl⟩
    · refine ⟨[.rf 6 A2.length 901], gwp_rf (k := 1) (nn := true) rfl (own_get rfl) (by decide) rfl fun hf => ?_⟩
      have D1 := key hf
      simp only [hset4, frNm_t, rwp_cat, gwp_nil, yzq, yz2, go_sem, yz0, Int.reduceLT, reduceLE, reduceToNat, reduceNeg, Nat.reduceLT, reduceLeDiff, reduceMul, reduceSub, reduceIte, reduceEqDiff, reduceAdd, reduceCtorEq]
      intro vs U hN
      simp only [← hQ, Azb, go_sem, yz0, Int.reduceLT, reduceLE, reduceToNat, reduceNeg, Nat.reduceLT, reduceLeDiff, reduceMul, reduceSub, reduceIte, reduceEqDiff, reduceAdd, reduceCtorEq]
      refine ⟨[6], by simp, by simp, by simp, ?_⟩
      simp only [range1, List.length_singleton, renL_rwp, Nat.not_lt_zero, range1, yzw, yzz, yz1b, yz1c, yz10, yz1d, yz1a, yz19, yzy, yzo, yzf, yz3, yzu, yzt, yzn, yzm, yzs, yz8, yzb, yze, yz9, yzj, yzh, yz4, yz6, yzc, yzd, yzi, yzk, List.range_zero, yz7, yz5, yza, yzr, yzl, yzp, AVal.fresh, freshL, yz1, yzg, AObj.fresh, id, Option.isSome_some, or_true, true_or, go_sem, yz0, Int.reduceLT, reduceLE, reduceToNat, reduceNeg, Nat.reduceLT, reduceLeDiff, reduceMul, reduceSub, reduceIte, reduceEqDiff, reduceAdd, reduceCtorEq]
      exact ⟨n, A2 ++ (m, cur) :: C2, v, a, s, fun _ => D1, by simp; omega, hn.1, hn.2, hr2, ha'.1, ha'.2, rfl, by simp, rfl⟩
    · refine ⟨[.rf 10 A2.length 901], gwp_rf (k := 1) (nn := true) rfl (own_get rfl) (by decide) rfl fun hf => ?_⟩
      have D1 := key hf
      simp only [hset4, frNm_t, rwp_cat, gwp_nil, yzq, yz2, go_sem, yz0, Int.reduceLT, reduceLE, reduceToNat, reduceNeg, Nat.reduceLT, reduceLeDiff, reduceMul, reduceSub, reduceIte, reduceEqDiff, reduceAdd, reduceCtorEq]
      intro vs U hN
      simp only [← hQ, Azb, go_sem, yz0, Int.reduceLT, reduceLE, reduceToNat, reduceNeg, Nat.reduceLT, reduceLeDiff, reduceMul, reduceSub, reduceIte, reduceEqDiff, reduceAdd, reduceCtorEq]
      refine ⟨[10], by simp, by simp, by simp, ?_⟩
      simp only [range1, List.length_singleton, renL_rwp, Nat.not_lt_zero, range1, yzw, yzz, yz1b, yz1c, yz10, yz1d, yz1a, yz19, yzy, yzo, yzf, yz3, yzu, yzt, yzn, yzm, yzs, yz8, yzb, yze, yz9, yzj, yzh, yz4, yz6, yzc, yzd, yzi, yzk, List.range_zero, yz7, yz5, yza, yzr, yzl, yzp, AVal.fresh, freshL, yz1, yzg, AObj.fresh, id, Option.isSome_some, or_true, true_or, go_sem, yz0, Int.reduceLT, reduceLE, reduceToNat, reduceNeg, Nat.reduceLT, reduceLeDiff, reduceMul, reduceSub, reduceIte, reduceEqDiff, reduceAdd, reduceCtorEq]
      exact ⟨n, A2 ++ (m, cur) :: C2, v, a, s, fun _ => D1, by simp; omega, hn.1, hn.2, hr2, ha'.1, ha'.2, rfl, by simp, rfl⟩
  have h4 : ∀ (σ : St) (v2 v3 : Nat) (r v : Nat) (o6 o10 : AObj) (a s n : Int) (ps : List (Nat × List Int)),
      Aut n (ps.map (·.2)) → DJ ps → at_ ≤ a ∧ a ≤ at_ + 2500 → (r = 6 ∧ o6 = .row v 1 true (rwp ps) ∨ r = 10 ∧ o10 = .row v 1 true (rwp ps)) →
      σ.keep [0, 2, 3] [2, 3, 6, 10, 61, 73, 77, 5000, 901] = ⟨L .any [(0, .ptr 5000 0 0), (2, .ptr 2 v2 0), (3, .ptr 3 v3 0)],
        L .gone [(2, .box v2 [iv 0, .val (.slice none 0 0)]), (3, .box v3 [iv n, .own r v]), (6, o6), (10, o10), (61, .gone), (73, .gone), (77, .gone), (5000, .box 0 (srcC code a s)), (901, .gone)]⟩ →
      wpD Try.prog Bz6r Q σ := by
    intro σ v2 v3 r v o6 o10 a s n ps A hd ha' hrv hS
    unfold Bz6r
    rw [yzq, hS]
    have l1 := A.l1
    have l2 := A.l2
    have n1 := A.n1
    have n2 := A.n2
    rw [List.length_map] at l1 l2
    rcases hrv with ⟨rfl, rfl⟩ | ⟨rfl, rfl⟩
    · simp only [rwp_len, yzq, yz2, go_sem, yz0, Int.reduceLT, reduceLE, reduceToNat, reduceNeg, Nat.reduceLT, reduceLeDiff, reduceMul, reduceSub, reduceIte, reduceEqDiff, reduceAdd, reduceCtorEq]
      intro vs U hN hM
      refine call_funB (k_pick code a s ps.length hb (by omega)) rfl qCS qCS ?_
      rintro cs' x ⟨a1, s1, at1, rfl, e1, e2, rfl, e3, e4⟩
      have hat : at1.toNat < ps.length := by omega
      simp only [Bz6q, yzq, yz2, go_sem, yz0, Int.reduceLT, reduceLE, reduceToNat, reduceNeg, Nat.reduceLT, reduceLeDiff, reduceMul, reduceSub, reduceIte, reduceEqDiff, reduceAdd, reduceCtorEq]
      intro vs1 U1 hN1
      refine call_funB (k_pick code a1 s1 24 hb (by omega)) rfl qCS qCS ?_
      rintro cs' x ⟨a2, s2, kd, rfl, f1, f2, rfl, f3, f4⟩
      have hps : ∀ p ∈ ps, p.2.length ≤ 10 := fun p hp => by have := (A.row p.2 (List.mem_map.2 ⟨p, hp, rfl⟩)).1; omega
      by_cases k0 : kd = 0
      · subst k0
        have w1 : IntKind.i64.wrap (n + 1) = n + 1 := w64 (by omega)
        simp only [Bz2, Bz1, w1, beq_self_eq_true, yzq, yz2, go_sem, yz0, Int.reduceLT, reduceLE, reduceToNat, reduceNeg, Nat.reduceLT, reduceLeDiff, reduceMul, reduceSub, reduceIte, reduceEqDiff, reduceAdd, reduceCtorEq]
        intro vs2 U2 hN2 vs3 U3 hN3
        refine ⟨⟨⟨_, rfl, rfl⟩, ⟨_, rfl, rfl⟩, ⟨_, rfl, rfl⟩, _, rfl, rfl⟩, ?_⟩
        refine call_boxrow (r := 5000) (q := 24) (k_among code a2 s2 [0, -1, n + 1, 11] hb (by omega) (by simp)) rfl rfl (by decide) qCS (by simp only [yzx, yz18, and_true, Coe]; exact ⟨⟨0, _, _, rfl, rfl, rfl, rfl, rfl⟩, 1, _, _, rfl, rfl, rfl, rfl, rfl⟩) ?_
        rintro cs' x ⟨a3, s3, b3, rfl, g3, g4, rfl, g5⟩
        have hb3 : -1 ≤ b3 ∧ b3 ≤ 11 := by simp at g5; omega
        simp only [go_sem, yz0, Int.reduceLT, reduceLE, reduceToNat, reduceNeg, Nat.reduceLT, reduceLeDiff, reduceMul, reduceSub, reduceIte, reduceEqDiff, reduceAdd, reduceCtorEq]
        exact h12 _ v2 v3 6 v _ o10 .gone .gone .gone a3 s3 b3 ps (fun _ => hd) (by omega) hb3 hps (by omega) (.inl ⟨rfl, rfl⟩) (by simp only [go_sem, yz0, Int.reduceLT, reduceLE, reduceToNat, reduceNeg, Nat.reduceLT, reduceLeDiff, reduceMul, reduceSub, reduceIte, reduceEqDiff, reduceAdd, reduceCtorEq]; try rfl)
      by_cases k1 : kd = 1
      · subst k1
        simp only [beq_false_of_ne (show (1 : Int) ≠ 0 by omega), Bz2, Bz1, Bz3, rwp_getD hat, St.bound, List.take_length, beq_self_eq_true, yzq, yz2, go_sem, yz0, Int.reduceLT, reduceLE, reduceToNat, reduceNeg, Nat.reduceLT, reduceLeDiff, reduceMul, reduceSub, reduceIte, reduceEqDiff, reduceAdd, reduceCtorEq]
        intro _ _ _ _ _ _ vs4 U4 hN4
        have hlw : (rwp ps).length = ps.length := rwp_len
        have hrl := (A.row _ (List.mem_map.2 ⟨_, yz11 hat (0, []), rfl⟩)).1
        refine ⟨⟨e3, by omega⟩, by omega, ⟨by omega, Nat.le_refl _⟩, ⟨e3, by omega⟩, by omega, ?_⟩
        have ed : List.drop 1 (ints (ps.getD at1.toNat (0, [])).2) = ints ((ps.getD at1.toNat (0, [])).2.drop 1) := by simp only [List.map_drop]
        rw [ed, rwp_putN (p := ((ps.getD at1.toNat (0, [])).1, (ps.getD at1.toNat (0, [])).2.drop 1))]
        have hlp : (ps.take at1.toNat ++ [((ps.getD at1.toNat (0, [])).1, (ps.getD at1.toNat (0, [])).2.drop 1)] ++ ps.drop (at1.toNat + 1)).length = ps.length := by
          simp only [List.length_append, List.length_take, List.length_drop, List.length_singleton]; omega
        exact h12 _ v2 v3 6 v _ o10 .gone .gone .gone a2 s2 n _ (fun _ => DJ_set (xs := (ps.getD at1.toNat (0, [])).2.drop 1) hat hd fun e => by rw [e]; rfl) (by rw [hlp]; omega) (by omega) (fun p hp => by
          simp only [List.mem_append, List.mem_singleton] at hp
          rcases hp with (hp | rfl) | hp
          · exact hps p (List.mem_of_mem_take hp)
          · have := hps _ (yz11 hat (0, [])); simp only [List.length_drop]; omega
          · exact hps p (List.mem_of_mem_drop hp)) (by omega) (.inl ⟨rfl, rfl⟩) (by simp only [go_sem, yz0, Int.reduceLT, reduceLE, reduceToNat, reduceNeg, Nat.reduceLT, reduceLeDiff, reduceMul, reduceSub, reduceIte, reduceEqDiff, reduceAdd, reduceCtorEq]; try rfl)
      by_cases k2 : kd = 2
      · subst k2
        obtain ⟨A2, b, C2, rfl, hAk⟩ := rwp_split hat
        have hbr := A.row b.2 (by simp)
        have hbn : b.2 ≠ [] := fun e => by rw [e] at hbr; simp at hbr; omega
        have hbl : 0 < b.2.length := by omega
        have F0 := DJ_out hd hbn
        have F0a : ∀ p ∈ A2 ++ C2, p.2 = [] ∨ p.1 ≠ b.1 := F0
        simp only [beq_false_of_ne (show (2 : Int) ≠ 0 by omega), beq_false_of_ne (show (2 : Int) ≠ 1 by omega), Bz2, Bz1, Bz3, yzq, yz2, go_sem, yz0, Int.reduceLT, reduceLE, reduceToNat, reduceNeg, Nat.reduceLT, reduceLeDiff, reduceMul, reduceSub, reduceIte, reduceEqDiff, reduceAdd, reduceCtorEq]
        intro _ _ _ _ _ _ _ _ _
        simp only [beq_self_eq_true, Bz6, yzq, wpD_gh, go_sem, yz0, Int.reduceLT, reduceLE, reduceToNat, reduceNeg, Nat.reduceLT, reduceLeDiff, reduceMul, reduceSub, reduceIte, reduceEqDiff, reduceAdd, reduceCtorEq]
        intro _
        refine ⟨[.thaw 6 at1.toNat 901], gwp_thaw (n := b.1) rfl (rwp_get hAk.symm) (by simpa using hbn) rfl fun m1 => ?_⟩
        have hset : (woL b.1 (rwp (A2 ++ b :: C2))).set at1.toNat (AVal.own 901 m1) = rwp A2 ++ AVal.own 901 m1 :: rwp C2 := by rw [← hAk]; exact woL_set F0a
        have ho1 : (rwp A2 ++ AVal.own 901 m1 :: rwp C2).getD at1.toNat .any = .own 901 m1 := own_at hAk.symm
        have hol : (rwp A2 ++ AVal.own 901 m1 :: rwp C2).length = A2.length + (C2.length + 1) := by rw [List.length_append, List.length_cons, rwp_len, rwp_len]
        have hkl : at1.toNat < (rwp A2 ++ AVal.own 901 m1 :: rwp C2).length := by omega
        simp only [hset, woT, woO, woL_cons, woL_nil, woV_val, woV_own, wo_ptr, wo_o, woL_ints, wo_st, woO_row, woO_box, woO_gone, wo_any, gwp_nil, yzq, yz2, go_sem, yz0, Int.reduceLT, reduceLE, reduceToNat, reduceNeg, Nat.reduceLT, reduceLeDiff, reduceMul, reduceSub, reduceIte, reduceEqDiff, reduceAdd, reduceCtorEq]
        intro vs4 U4 hN4
        simp only [ho1, go_sem, yz0, Int.reduceLT, reduceLE, reduceToNat, reduceNeg, Nat.reduceLT, reduceLeDiff, reduceMul, reduceSub, reduceIte, reduceEqDiff, reduceAdd, reduceCtorEq]
        refine ⟨⟨e3, hkl⟩, hkl, ⟨⟨_, rfl, rfl⟩, _, rfl, rfl⟩, ?_⟩
        refine call_boxrowN (r := 5000) (q := 49) (cs0 := srcC code a2 s2) (k_among code a2 s2 [-1, n] hb (by omega) (by simp)) rfl rfl (by simp) (by decide) qCS (by simp only [yzx, yz18, and_true, Coe]; exact ⟨⟨0, _, _, rfl, rfl, rfl, rfl, rfl⟩, 1, _, _, rfl, rfl, rfl, rfl, rfl⟩) ⟨srcC code a2 0, .int .i64 n, ⟨a2, 0, n, rfl, by omega, by omega, rfl, by simp⟩, flat_srcC⟩ ?_
        rintro cs' x ⟨a3, s3, b3, rfl, g3, g4, rfl, g5⟩
        simp only [yzq, yz2, go_sem, yz0, Int.reduceLT, reduceLE, reduceToNat, reduceNeg, Nat.reduceLT, reduceLeDiff, reduceMul, reduceSub, reduceIte, reduceEqDiff, reduceAdd, reduceCtorEq]
        refine ⟨hbl, hbl, ?_⟩
        have ed : AVal.val (.int .i64 b3) :: List.drop 1 (ints b.2) = ints (b3 :: b.2.drop 1) := by simp [List.map_drop]
        rw [ed]
        exact h12b _ v2 v3 6 v m1 _ (AObj.wo b.1 o10) a3 s3 n A2 C2 b (b3 :: b.2.drop 1) hd (by omega) (by omega) (fun p hp => hps p (by simp only [List.mem_append, List.mem_cons] at hp ⊢; rcases hp with h | h <;> simp [h])) (by simp only [List.length_cons, List.length_drop]; omega) (by omega) (.inl ⟨rfl, rfl⟩) (by simp only [go_sem, yz0, Int.reduceLT, reduceLE, reduceToNat, reduceNeg, Nat.reduceLT, reduceLeDiff, reduceMul, reduceSub, reduceIte, reduceEqDiff, reduceAdd, reduceCtorEq]; try rfl)
      by_cases k3 : kd = 3
      · subst k3
        have h00 : 0 < ps.length := by omega
        simp only [beq_false_of_ne (show (3 : Int) ≠ 0 by omega), beq_false_of_ne (show (3 : Int) ≠ 1 by omega), Bz2, Bz1, Bz3, yzq, yz2, go_sem, yz0, Int.reduceLT, reduceLE, reduceToNat, reduceNeg, Nat.reduceLT, reduceLeDiff, reduceMul, reduceSub, reduceIte, reduceEqDiff, reduceAdd, reduceCtorEq]
        intro _ _ _ _ _ _ _ _ _
        simp only [beq_false_of_ne (show (3 : Int) ≠ 2 by omega), Bz6, yzq, wpD_gh, go_sem, yz0, Int.reduceLT, reduceLE, reduceToNat, reduceNeg, Nat.reduceLT, reduceLeDiff, reduceMul, reduceSub, reduceIte, reduceEqDiff, reduceAdd, reduceCtorEq]
        intro _
        refine ⟨[], ?_⟩
        simp only [beq_self_eq_true, Bza, rwp_getD h00, gwp_nil, yzq, yz2, go_sem, yz0, Int.reduceLT, reduceLE, reduceToNat, reduceNeg, Nat.reduceLT, reduceLeDiff, reduceMul, reduceSub, reduceIte, reduceEqDiff, reduceAdd, reduceCtorEq]
        intro _ _ _ vs9 U9 hN9
        have hlw : (rwp ps).length = ps.length := rwp_len
        refine ⟨by omega, by omega, by omega, by omega, by omega, by omega, by omega, by rw [List.length_append, List.length_singleton]; omega, ?_⟩
        generalize hp0 : ps.getD 0 (0, []) = p0
        have hp0m : p0 ∈ ps := hp0 ▸ yz11 h00 (0, [])
        have e5 : rwp ps ++ [AVal.ro (some (some (p0.1 + 1))) 1 (ints p0.2)] ++ [AVal.ro (some (some (p0.1 + 1))) 1 (ints p0.2), AVal.ro (some (some (p0.1 + 1))) 1 (ints p0.2)] = rwp (ps ++ [p0] ++ [p0, p0]) := by simp only [rwp, List.map_append, List.map_cons, List.map_nil]
        rw [e5]
        have hl6 : (ps ++ [p0] ++ [p0, p0]).length = ps.length + 3 := by simp
        exact h12 _ v2 v3 6 (vs9 19 0) _ o10 .gone .gone .gone a2 s2 n (ps ++ [p0] ++ [p0, p0]) (fun h => absurd h (by omega)) (by omega) (by omega) (fun p hp => by
          simp only [List.mem_append, List.mem_cons, List.not_mem_nil, or_false] at hp
          rcases hp with (hp | rfl) | rfl | rfl
          · exact hps p hp
          · exact hps _ hp0m
          · exact hps _ hp0m
          · exact hps _ hp0m) (by omega) (.inl ⟨rfl, rfl⟩) (by simp only [go_sem, yz0, Int.reduceLT, reduceLE, reduceToNat, reduceNeg, Nat.reduceLT, reduceLeDiff, reduceMul, reduceSub, reduceIte, reduceEqDiff, reduceAdd, reduceCtorEq]; try rfl)
      by_cases k4 : kd = 4
      · subst k4
        simp only [beq_false_of_ne (show (4 : Int) ≠ 0 by omega), beq_false_of_ne (show (4 : Int) ≠ 1 by omega), Bz2, Bz1, Bz3, yzq, yz2, go_sem, yz0, Int.reduceLT, reduceLE, reduceToNat, reduceNeg, Nat.reduceLT, reduceLeDiff, reduceMul, reduceSub, reduceIte, reduceEqDiff, reduceAdd, reduceCtorEq]
        intro _ _ _ _ _ _ _ _ _
        simp only [beq_false_of_ne (show (4 : Int) ≠ 2 by omega), Bz6, yzq, wpD_gh, go_sem, yz0, Int.reduceLT, reduceLE, reduceToNat, reduceNeg, Nat.reduceLT, reduceLeDiff, reduceMul, reduceSub, reduceIte, reduceEqDiff, reduceAdd, reduceCtorEq]
        intro _
        refine ⟨[], ?_⟩
        simp only [beq_false_of_ne (show (4 : Int) ≠ 3 by omega), Bza, Bz12, beq_self_eq_true, gwp_nil, yzq, yz2, go_sem, yz0, Int.reduceLT, reduceLE, reduceToNat, reduceNeg, Nat.reduceLT, reduceLeDiff, reduceMul, reduceSub, reduceIte, reduceEqDiff, reduceAdd, reduceCtorEq]
        intro _ _ _ _ _ _ vs9 U9 hN9
        exact h12 _ v2 v3 77 (vs9 0 0) _ o10 .gone .gone _ a2 s2 n [] (fun _ => by simp [DJ]) (by simp) (by omega) (by simp) (by omega) (.inr (.inr ⟨rfl, rfl⟩)) (by simp only [rwp_nil, go_sem, yz0, Int.reduceLT, reduceLE, reduceToNat, reduceNeg, Nat.reduceLT, reduceLeDiff, reduceMul, reduceSub, reduceIte, reduceEqDiff, reduceAdd, reduceCtorEq]; try rfl)
      simp only [beq_false_of_ne k0, beq_false_of_ne k1, Bz2, Bz1, Bz3, yzq, yz2, go_sem, yz0, Int.reduceLT, reduceLE, reduceToNat, reduceNeg, Nat.reduceLT, reduceLeDiff, reduceMul, reduceSub, reduceIte, reduceEqDiff, reduceAdd, reduceCtorEq]
      intro _ _ _ _ _ _ _ _ _
      simp only [beq_false_of_ne k2, Bz6, yzq, wpD_gh, go_sem, yz0, Int.reduceLT, reduceLE, reduceToNat, reduceNeg, Nat.reduceLT, reduceLeDiff, reduceMul, reduceSub, reduceIte, reduceEqDiff, reduceAdd, reduceCtorEq]
      intro _
      refine ⟨[], ?_⟩
      simp only [beq_false_of_ne k3, beq_false_of_ne k4, Bza, Bz12, gwp_nil, yzq, yz2, go_sem, yz0, Int.reduceLT, reduceLE, reduceToNat, reduceNeg, Nat.reduceLT, reduceLeDiff, reduceMul, reduceSub, reduceIte, reduceEqDiff, reduceAdd, reduceCtorEq]
      intro _ _ _ _ _ _
      exact h12 _ v2 v3 6 v _ o10 .gone .gone .gone a2 s2 n ps (fun _ => hd) (by omega) (by omega) hps (by omega) (.inl ⟨rfl, rfl⟩) (by simp only [go_sem, yz0, Int.reduceLT, reduceLE, reduceToNat, reduceNeg, Nat.reduceLT, reduceLeDiff, reduceMul, reduceSub, reduceIte, reduceEqDiff, reduceAdd, reduceCtorEq]; try rfl)
    · simp only [rwp_len, yzq, yz2, go_sem, yz0, Int.reduceLT, reduceLE, reduceToNat, reduceNeg, Nat.reduceLT, reduceLeDiff, reduceMul, reduceSub, reduceIte, reduceEqDiff, reduceAdd, reduceCtorEq]
      intro vs U hN hM
      refine call_funB (k_pick code a s ps.length hb (by omega)) rfl qCS qCS ?_
      rintro cs' x ⟨a1, s1, at1, rfl, e1, e2, rfl, e3, e4⟩
      have hat : at1.toNat < ps.length := by omega
      simp only [Bz6q, yzq, yz2, go_sem, yz0, Int.reduceLT, reduceLE, reduceToNat, reduceNeg, Nat.reduceLT, reduceLeDiff, reduceMul, reduceSub, reduceIte, reduceEqDiff, reduceAdd, reduceCtorEq]
      intro vs1 U1 hN1
      refine call_funB (k_pick code a1 s1 24 hb (by omega)) rfl qCS qCS ?_
      rintro cs' x ⟨a2, s2, kd, rfl, f1, f2, rfl, f3, f4⟩
      have hps : ∀ p ∈ ps, p.2.length ≤ 10 := fun p hp => by have := (A.row p.2 (List.mem_map.2 ⟨p, hp, rfl⟩)).1; omega
      by_cases k0 : kd = 0
      · subst k0
        have w1 : IntKind.i64.wrap (n + 1) = n + 1 := w64 (by omega)
        simp only [Bz2, Bz1, w1, beq_self_eq_true, yzq, yz2, go_sem, yz0, Int.reduceLT, reduceLE, reduceToNat, reduceNeg, Nat.reduceLT, reduceLeDiff, reduceMul, reduceSub, reduceIte, reduceEqDiff, reduceAdd, reduceCtorEq]
        intro vs2 U2 hN2 vs3 U3 hN3
        refine ⟨⟨⟨_, rfl, rfl⟩, ⟨_, rfl, rfl⟩, ⟨_, rfl, rfl⟩, _, rfl, rfl⟩, ?_⟩
        refine call_boxrow (r := 5000) (q := 24) (k_among code a2 s2 [0, -1, n + 1, 11] hb (by omega) (by simp)) rfl rfl (by decide) qCS (by simp only [yzx, yz18, and_true, Coe]; exact ⟨⟨0, _, _, rfl, rfl, rfl, rfl, rfl⟩, 1, _, _, rfl, rfl, rfl, rfl, rfl⟩) ?_
        rintro cs' x ⟨a3, s3, b3, rfl, g3, g4, rfl, g5⟩
        have hb3 : -1 ≤ b3 ∧ b3 ≤ 11 := by simp at g5; omega
        simp only [go_sem, yz0, Int.reduceLT, reduceLE, reduceToNat, reduceNeg, Nat.reduceLT, reduceLeDiff, reduceMul, reduceSub, reduceIte, reduceEqDiff, reduceAdd, reduceCtorEq]
        exact h12 _ v2 v3 10 v o6 _ .gone .gone .gone a3 s3 b3 ps (fun _ => hd) (by omega) hb3 hps (by omega) (.inr (.inl ⟨rfl, rfl⟩)) (by simp only [go_sem, yz0, Int.reduceLT, reduceLE, reduceToNat, reduceNeg, Nat.reduceLT, reduceLeDiff, reduceMul, reduceSub, reduceIte, reduceEqDiff, reduceAdd, reduceCtorEq]; try rfl)
      by_cases k1 : kd = 1
      · subst k1
        simp only [beq_false_of_ne (show (1 : Int) ≠ 0 by omega), Bz2, Bz1, Bz3, rwp_getD hat, St.bound, List.take_length, beq_self_eq_true, yzq, yz2, go_sem, yz0, Int.reduceLT, reduceLE, reduceToNat, reduceNeg, Nat.reduceLT, reduceLeDiff, reduceMul, reduceSub, reduceIte, reduceEqDiff, reduceAdd, reduceCtorEq]
        intro _ _ _ _ _ _ vs4 U4 hN4
        have hlw : (rwp ps).length = ps.length := rwp_len
        have hrl := (A.row _ (List.mem_map.2 ⟨_, yz11 hat (0, []), rfl⟩)).1
        refine ⟨⟨e3, by omega⟩, by omega, ⟨by omega, Nat.le_refl _⟩, ⟨e3, by omega⟩, by omega, ?_⟩
        have ed : List.drop 1 (ints (ps.getD at1.toNat (0, [])).2) = ints ((ps.getD at1.toNat (0, [])).2.drop 1) := by simp only [List.map_drop]
        rw [ed, rwp_putN (p := ((ps.getD at1.toNat (0, [])).1, (ps.getD at1.toNat (0, [])).2.drop 1))]
        have hlp : (ps.take at1.toNat ++ [((ps.getD at1.toNat (0, [])).1, (ps.getD at1.toNat (0, [])).2.drop 1)] ++ ps.drop (at1.toNat + 1)).length = ps.length := by
          simp only [List.length_append, List.length_take, List.length_drop, List.length_singleton]; omega
        exact h12 _ v2 v3 10 v o6 _ .gone .gone .gone a2 s2 n _ (fun _ => DJ_set (xs := (ps.getD at1.toNat (0, [])).2.drop 1) hat hd fun e => by rw [e]; rfl) (by rw [hlp]; omega) (by omega) (fun p hp => by
          simp only [List.mem_append, List.mem_singleton] at hp
          rcases hp with (hp | rfl) | hp
          · exact hps p (List.mem_of_mem_take hp)
          · have := hps _ (yz11 hat (0, [])); simp only [List.length_drop]; omega
          · exact hps p (List.mem_of_mem_drop hp)) (by omega) (.inr (.inl ⟨rfl, rfl⟩)) (by simp only [go_sem, yz0, Int.reduceLT, reduceLE, reduceToNat, reduceNeg, Nat.reduceLT, reduceLeDiff, reduceMul, reduceSub, reduceIte, reduceEqDiff, reduceAdd, reduceCtorEq]; try rfl)
      by_cases k2 : kd = 2
      · subst k2
        obtain ⟨A2, b, C2, rfl, hAk⟩ := rwp_split hat
        have hbr := A.row b.2 (by simp)
        have hbn : b.2 ≠ [] := fun e => by rw [e] at hbr; simp at hbr; omega
        have hbl : 0 < b.2.length := by omega
        have F0 := DJ_out hd hbn
        have F0a : ∀ p ∈ A2 ++ C2, p.2 = [] ∨ p.1 ≠ b.1 := F0
        simp only [beq_false_of_ne (show (2 : Int) ≠ 0 by omega), beq_false_of_ne (show (2 : Int) ≠ 1 by omega), Bz2, Bz1, Bz3, yzq, yz2, go_sem, yz0, Int.reduceLT, reduceLE, reduceToNat, reduceNeg, Nat.reduceLT, reduceLeDiff, reduceMul, reduceSub, reduceIte, reduceEqDiff, reduceAdd, reduceCtorEq]
        intro _ _ _ _ _ _ _ _ _
        simp only [beq_self_eq_true, Bz6, yzq, wpD_gh, go_sem, yz0, Int.reduceLT, reduceLE, reduceToNat, reduceNeg, Nat.reduceLT, reduceLeDiff, reduceMul, reduceSub, reduceIte, reduceEqDiff, reduceAdd, reduceCtorEq]
        intro _
        refine ⟨[.thaw 10 at1.toNat 901], gwp_thaw (n := b.1) rfl (rwp_get hAk.symm) (by simpa using hbn) rfl fun m1 => ?_⟩
        have hset : (woL b.1 (rwp (A2 ++ b :: C2))).set at1.toNat (AVal.own 901 m1) = rwp A2 ++ AVal.own 901 m1 :: rwp C2 := by rw [← hAk]; exact woL_set F0a
        have ho1 : (rwp A2 ++ AVal.own 901 m1 :: rwp C2).getD at1.toNat .any = .own 901 m1 := own_at hAk.symm
        have hol : (rwp A2 ++ AVal.own 901 m1 :: rwp C2).length = A2.length + (C2.length + 1) := by rw [List.length_append, List.length_cons, rwp_len, rwp_len]
        have hkl : at1.toNat < (rwp A2 ++ AVal.own 901 m1 :: rwp C2).length := by omega
        simp only [hset, woT, woO, woL_cons, woL_nil, woV_val, woV_own, wo_ptr, wo_o, woL_ints, wo_st, woO_row, woO_box, woO_gone, wo_any, gwp_nil, yzq, yz2, go_sem, yz0, Int.reduceLT, reduceLE, reduceToNat, reduceNeg, Nat.reduceLT, reduceLeDiff, reduceMul, reduceSub, reduceIte, reduceEqDiff, reduceAdd, reduceCtorEq]
        intro vs4 U4 hN4
        simp only [ho1, go_sem, yz0, Int.reduceLT, reduceLE, reduceToNat, reduceNeg, Nat.reduceLT, reduceLeDiff, reduceMul, reduceSub, reduceIte, reduceEqDiff, reduceAdd, reduceCtorEq]
        refine ⟨⟨e3, hkl⟩, hkl, ⟨⟨_, rfl, rfl⟩, _, rfl, rfl⟩, ?_⟩
        refine call_boxrowN (r := 5000) (q := 49) (cs0 := srcC code a2 s2) (k_among code a2 s2 [-1, n] hb (by omega) (by simp)) rfl rfl (by simp) (by decide) qCS (by simp only [yzx, yz18, and_true, Coe]; exact ⟨⟨0, _, _, rfl, rfl, rfl, rfl, rfl⟩, 1, _, _, rfl, rfl, rfl, rfl, rfl⟩) ⟨srcC code a2 0, .int .i64 n, ⟨a2, 0, n, rfl, by omega, by omega, rfl, by simp⟩, flat_srcC⟩ ?_
        rintro cs' x ⟨a3, s3, b3, rfl, g3, g4, rfl, g5⟩
        simp only [yzq, yz2, go_sem, yz0, Int.reduceLT, reduceLE, reduceToNat, reduceNeg, Nat.reduceLT, reduceLeDiff, reduceMul, reduceSub, reduceIte, reduceEqDiff, reduceAdd, reduceCtorEq]
        refine ⟨hbl, hbl, ?_⟩
        have ed : AVal.val (.int .i64 b3) :: List.drop 1 (ints b.2) = ints (b3 :: b.2.drop 1) := by simp [List.map_drop]
        rw [ed]
        exact h12b _ v2 v3 10 v m1 (AObj.wo b.1 o6) _ a3 s3 n A2 C2 b (b3 :: b.2.drop 1) hd (by omega) (by omega) (fun p hp => hps p (by simp only [List.mem_append, List.mem_cons] at hp ⊢; rcases hp with h | h <;> simp [h])) (by simp only [List.length_cons, List.length_drop]; omega) (by omega) (.inr ⟨rfl, rfl⟩) (by simp only [go_sem, yz0, Int.reduceLT, reduceLE, reduceToNat, reduceNeg, Nat.reduceLT, reduceLeDiff, reduceMul, reduceSub, reduceIte, reduceEqDiff, reduceAdd, reduceCtorEq]; try rfl)
      by_cases k3 : kd = 3
      · subst k3
        have h00 : 0 < ps.length := by omega
        simp only [beq_false_of_ne (show (3 : Int) ≠ 0 by omega), beq_false_of_ne (show (3 : Int) ≠ 1 by omega), Bz2, Bz1, Bz3, yzq, yz2, go_sem, yz0, Int.reduceLT, reduceLE, reduceToNat, reduceNeg, Nat.reduceLT, reduceLeDiff, reduceMul, reduceSub, reduceIte, reduceEqDiff, reduceAdd, reduceCtorEq]
        intro _ _ _ _ _ _ _ _ _
        simp only [beq_false_of_ne (show (3 : Int) ≠ 2 by omega), Bz6, yzq, wpD_gh, go_sem, yz0, Int.reduceLT, reduceLE, reduceToNat, reduceNeg, Nat.reduceLT, reduceLeDiff, reduceMul, reduceSub, reduceIte, reduceEqDiff, reduceAdd, reduceCtorEq]
        intro _
        refine ⟨[], ?_⟩
        simp only [beq_self_eq_true, Bza, rwp_getD h00, gwp_nil, yzq, yz2, go_sem, yz0, Int.reduceLT, reduceLE, reduceToNat, reduceNeg, Nat.reduceLT, reduceLeDiff, reduceMul, reduceSub, reduceIte, reduceEqDiff, reduceAdd, reduceCtorEq]
        intro _ _ _ vs9 U9 hN9
        have hlw : (rwp ps).length = ps.length := rwp_len
        refine ⟨by omega, by omega, by omega, by omega, by omega, by omega, by omega, by rw [List.length_append, List.length_singleton]; omega, ?_⟩
        generalize hp0 : ps.getD 0 (0, []) = p0
        have hp0m : p0 ∈ ps := hp0 ▸ yz11 h00 (0, [])
        have e5 : rwp ps ++ [AVal.ro (some (some (p0.1 + 1))) 1 (ints p0.2)] ++ [AVal.ro (some (some (p0.1 + 1))) 1 (ints p0.2), AVal.ro (some (some (p0.1 + 1))) 1 (ints p0.2)] = rwp (ps ++ [p0] ++ [p0, p0]) := by simp only [rwp, List.map_append, List.map_cons, List.map_nil]
        rw [e5]
        have hl6 : (ps ++ [p0] ++ [p0, p0]).length = ps.length + 3 := by simp
        exact h12 _ v2 v3 10 (vs9 19 0) o6 _ .gone .gone .gone a2 s2 n (ps ++ [p0] ++ [p0, p0]) (fun h => absurd h (by omega)) (by omega) (by omega) (fun p hp => by
          simp only [List.mem_append, List.mem_cons, List.not_mem_nil, or_false] at hp
          rcases hp with (hp | rfl) | rfl | rfl
          · exact hps p hp
          · exact hps _ hp0m
          · exact hps _ hp0m
          · exact hps _ hp0m) (by omega) (.inr (.inl ⟨rfl, rfl⟩)) (by simp only [go_sem, yz0, Int.reduceLT, reduceLE, reduceToNat, reduceNeg, Nat.reduceLT, reduceLeDiff, reduceMul, reduceSub, reduceIte, reduceEqDiff, reduceAdd, reduceCtorEq]; try rfl)
      by_cases k4 : kd = 4
      · subst k4
        simp only [beq_false_of_ne (show (4 : Int) ≠ 0 by omega), beq_false_of_ne (show (4 : Int) ≠ 1 by omega), Bz2, Bz1, Bz3, yzq, yz2, go_sem, yz0, Int.reduceLT, reduceLE, reduceToNat, reduceNeg, Nat.reduceLT, reduceLeDiff, reduceMul, reduceSub, reduceIte, reduceEqDiff, reduceAdd, reduceCtorEq]
        intro _ _ _ _ _ _ _ _ _
        simp only [beq_false_of_ne (show (4 : Int) ≠ 2 by omega), Bz6, yzq, wpD_gh, go_sem, yz0, Int.reduceLT, reduceLE, reduceToNat, reduceNeg, Nat.reduceLT, reduceLeDiff, reduceMul, reduceSub, reduceIte, reduceEqDiff, reduceAdd, reduceCtorEq]
        intro _
        refine ⟨[], ?_⟩
        simp only [beq_false_of_ne (show (4 : Int) ≠ 3 by omega), Bza, Bz12, beq_self_eq_true, gwp_nil, yzq, yz2, go_sem, yz0, Int.reduceLT, reduceLE, reduceToNat, reduceNeg, Nat.reduceLT, reduceLeDiff, reduceMul, reduceSub, reduceIte, reduceEqDiff, reduceAdd, reduceCtorEq]
        intro _ _ _ _ _ _ vs9 U9 hN9
        exact h12 _ v2 v3 77 (vs9 0 0) o6 _ .gone .gone _ a2 s2 n [] (fun _ => by simp [DJ]) (by simp) (by omega) (by simp) (by omega) (.inr (.inr ⟨rfl, rfl⟩)) (by simp only [rwp_nil, go_sem, yz0, Int.reduceLT, reduceLE, reduceToNat, reduceNeg, Nat.reduceLT, reduceLeDiff, reduceMul, reduceSub, reduceIte, reduceEqDiff, reduceAdd, reduceCtorEq]; try rfl)
      simp only [beq_false_of_ne k0, beq_false_of_ne k1, Bz2, Bz1, Bz3, yzq, yz2, go_sem, yz0, Int.reduceLT, reduceLE, reduceToNat, reduceNeg, Nat.reduceLT, reduceLeDiff, reduceMul, reduceSub, reduceIte, reduceEqDiff, reduceAdd, reduceCtorEq]
      intro _ _ _ _ _ _ _ _ _
      simp only [beq_false_of_ne k2, Bz6, yzq, wpD_gh, go_sem, yz0, Int.reduceLT, reduceLE, reduceToNat, reduceNeg, Nat.reduceLT, reduceLeDiff, reduceMul, reduceSub, reduceIte, reduceEqDiff, reduceAdd, reduceCtorEq]
      intro _
      refine ⟨[], ?_⟩
      simp only [beq_false_of_ne k3, beq_false_of_ne k4, Bza, Bz12, gwp_nil, yzq, yz2, go_sem, yz0, Int.reduceLT, reduceLE, reduceToNat, reduceNeg, Nat.reduceLT, reduceLeDiff, reduceMul, reduceSub, reduceIte, reduceEqDiff, reduceAdd, reduceCtorEq]
      intro _ _ _ _ _ _
      exact h12 _ v2 v3 10 v o6 _ .gone .gone .gone a2 s2 n ps (fun _ => hd) (by omega) (by omega) hps (by omega) (.inr (.inl ⟨rfl, rfl⟩)) (by simp only [go_sem, yz0, Int.reduceLT, reduceLE, reduceToNat, reduceNeg, Nat.reduceLT, reduceLeDiff, reduceMul, reduceSub, reduceIte, reduceEqDiff, reduceAdd, reduceCtorEq]; try rfl)
  simp only [Azb, Bzfa, yzq, yz2, go_sem, yz0, Int.reduceLT, reduceLE, reduceToNat, reduceNeg, Nat.reduceLT, reduceLeDiff, reduceMul, reduceSub, reduceIte, reduceEqDiff, reduceAdd, reduceCtorEq]
  intro vs0 U0 hN0 vs1 U1 hN1
  refine call_con (r := 5000) (k_DrawnN code at_ seed 6 hb (by omega) (by omega)) rfl (by simp only [Bool.not_true, rowIs, boxIs, coe_argN, coe_argNs, coe_ro_o, yz18, yzx, coe_any, coe_val, coe_ro, yz17, yz15, coe_st, yz14, coe_rp, yz16, coe_clo, coe_own0, coe_ptr0, yz13, coeL_rws, coeL_rwn, L_hit, L_miss, L_nil, reduceEqDiff, ne_eq, reduceCtorEq, not_false_eq_true, true_and, and_true, and_self, exists_eq_left, exists_eq_right, List.mem_cons, List.not_mem_nil, or_false, AObj.row.injEq, AObj.box.injEq, exists_eq_left', exists_and_left, exists_eq, Nat.zero_lt_one, Nat.lt_add_one, List.map_cons, List.map_nil, AObj.ver, Nat.reduceLT, not_true_eq_false]) (by simp only [Bool.not_true, rowIs, boxIs, coe_argN, coe_argNs, coe_ro_o, yz18, yzx, coe_any, coe_val, coe_ro, yz17, yz15, coe_st, yz14, coe_rp, yz16, coe_clo, coe_own0, coe_ptr0, yz13, coeL_rws, coeL_rwn, L_hit, L_miss, L_nil, reduceEqDiff, ne_eq, reduceCtorEq, not_false_eq_true, true_and, and_true, and_self, exists_eq_left, exists_eq_right, List.mem_cons, List.not_mem_nil, or_false, AObj.row.injEq, AObj.box.injEq, exists_eq_left', exists_and_left, exists_eq, Nat.zero_lt_one, Nat.lt_add_one, List.map_cons, List.map_nil, AObj.ver, Nat.reduceLT, not_true_eq_false]) ?_
  rintro outs rows res ⟨q, qs, vq, a1, s1, A, hd, hq3, h1, h2, rfl, rfl, rfl⟩
  refine ⟨rfl, by simp, by rw [Option.getD_some, yzl]; simp only [go_sem, yz0, Int.reduceLT, reduceLE, reduceToNat, reduceNeg, Nat.reduceLT, reduceLeDiff, reduceMul, reduceSub, reduceIte, reduceEqDiff, reduceAdd, reduceCtorEq], ?_⟩
  rw [Option.getD_some, callHp_mr (by omega)]
  have hv0 : ∀ y, vs1 1 y ≠ 0 := fun y e => by
    have h := hN1.hp 5000
    simp only [AObj.uses, go_sem, yz0, Int.reduceLT, reduceLE, reduceToNat, reduceNeg, Nat.reduceLT, reduceLeDiff, reduceMul, reduceSub, reduceIte, reduceEqDiff, reduceAdd, reduceCtorEq] at h
    exact hN1.new 1 y (by rw [e]; exact h.1)
  simp only [renL_rwp, Bzf9, yzq, yz2, Nat.not_lt_zero, range1, yzw, yzz, yz1b, yz1c, yz10, yz1d, yz1a, yz19, yzy, yzo, yzf, yz3, yzu, yzt, yzn, yzm, yzs, yz8, yzb, yze, yz9, yzj, yzh, yz4, yz6, yzc, yzd, yzi, yzk, List.range_zero, yz7, yz5, yza, yzr, yzl, yzp, AVal.fresh, freshL, yz1, yzg, AObj.fresh, id, Option.isSome_some, or_true, true_or, go_sem, yz0, Int.reduceLT, reduceLE, reduceToNat, reduceNeg, Nat.reduceLT, reduceLeDiff, reduceMul, reduceSub, reduceIte, reduceEqDiff, reduceAdd, reduceCtorEq]
  intro vs2 U2 hN2
  clear hN2
  have hsi := fun l (h : L .gone l 5000 = .box 0 (srcC code at_ seed)) => sv_inj (hp := L .gone l) (r := 5000) h (fun x y e => (hN1.inj _ _ _ _ e).2) hv0
  have hs0 := fun l (h : L .gone l 5000 = .box 0 (srcC code at_ seed)) => (sv_m (s := vs1 1) h : sv (L .gone l) [5000] (vs1 1) 0 = 0)
  generalize hl0 : [(2, AObj.box (vs0 0 0) [iv 0, AVal.val (Value.slice none 0 0)]), (3, AObj.gone), (6, AObj.gone), (10, AObj.gone), (61, AObj.gone), (73, AObj.gone), (77, AObj.gone), (5000, AObj.box 0 (srcC code at_ seed)), (901, AObj.gone)] = l0
  have hi := hsi l0 (by rw [← hl0]; rfl)
  have h0 := hs0 l0 (by rw [← hl0]; rfl)
  generalize sv (L .gone l0) [5000] (vs1 1) = f at hi h0 ⊢
  rw [h0]
  have A0 : Aut q ((qs.map fun p => (f p.1, p.2)).map (·.2)) := by rw [List.map_map]; exact A
  have hd0 := hd.ren hi
  generalize (qs.map fun p => (f p.1, p.2)) = ps0 at A0 hd0 ⊢
  refine call_funB (k_one code a1 s1 8 hb (by omega)) rfl qCS qCS ?_
  rintro cs' x ⟨a2, s2, b2, rfl, g1, g2, rfl⟩
  simp only [Bzf8, yzq, yz2, go_sem, yz0, Int.reduceLT, reduceLE, reduceToNat, reduceNeg, Nat.reduceLT, reduceLeDiff, reduceMul, reduceSub, reduceIte, reduceEqDiff, reduceAdd, reduceCtorEq]
  refine ⟨fun _ vs3 U3 hN3 => ?_, fun _ => ?_⟩
  · refine call_con (r := 5000) (k_DrawnN code a2 s2 10 hb (by omega) (by omega)) rfl (by simp only [Bool.not_true, rowIs, boxIs, coe_argN, coe_argNs, coe_ro_o, yz18, yzx, coe_any, coe_val, coe_ro, yz17, yz15, coe_st, yz14, coe_rp, yz16, coe_clo, coe_own0, coe_ptr0, yz13, coeL_rws, coeL_rwn, L_hit, L_miss, L_nil, reduceEqDiff, ne_eq, reduceCtorEq, not_false_eq_true, true_and, and_true, and_self, exists_eq_left, exists_eq_right, List.mem_cons, List.not_mem_nil, or_false, AObj.row.injEq, AObj.box.injEq, exists_eq_left', exists_and_left, exists_eq, Nat.zero_lt_one, Nat.lt_add_one, List.map_cons, List.map_nil, AObj.ver, Nat.reduceLT, not_true_eq_false]) (by simp only [Bool.not_true, rowIs, boxIs, coe_argN, coe_argNs, coe_ro_o, yz18, yzx, coe_any, coe_val, coe_ro, yz17, yz15, coe_st, yz14, coe_rp, yz16, coe_clo, coe_own0, coe_ptr0, yz13, coeL_rws, coeL_rwn, L_hit, L_miss, L_nil, reduceEqDiff, ne_eq, reduceCtorEq, not_false_eq_true, true_and, and_true, and_self, exists_eq_left, exists_eq_right, List.mem_cons, List.not_mem_nil, or_false, AObj.row.injEq, AObj.box.injEq, exists_eq_left', exists_and_left, exists_eq, Nat.zero_lt_one, Nat.lt_add_one, List.map_cons, List.map_nil, AObj.ver, Nat.reduceLT, not_true_eq_false]) ?_
    rintro outs rows res ⟨q', qs', vq', a3, s3, A', hd', hq', g3, g4, rfl, rfl, rfl⟩
    refine ⟨rfl, by simp, by rw [Option.getD_some, yzl]; simp only [go_sem, yz0, Int.reduceLT, reduceLE, reduceToNat, reduceNeg, Nat.reduceLT, reduceLeDiff, reduceMul, reduceSub, reduceIte, reduceEqDiff, reduceAdd, reduceCtorEq], ?_⟩
    rw [Option.getD_some, callHp_mr (by omega)]
    have hv1 : ∀ y, vs3 1 y ≠ 0 := fun y e => by
      have h := hN3.hp 5000
      simp only [AObj.uses, go_sem, yz0, Int.reduceLT, reduceLE, reduceToNat, reduceNeg, Nat.reduceLT, reduceLeDiff, reduceMul, reduceSub, reduceIte, reduceEqDiff, reduceAdd, reduceCtorEq] at h
      exact hN3.new 1 y (by rw [e]; exact h.1)
    simp only [renL_rwp, yzq, yz2, Nat.not_lt_zero, range1, yzw, yzz, yz1b, yz1c, yz10, yz1d, yz1a, yz19, yzy, yzo, yzf, yz3, yzu, yzt, yzn, yzm, yzs, yz8, yzb, yze, yz9, yzj, yzh, yz4, yz6, yzc, yzd, yzi, yzk, List.range_zero, yz7, yz5, yza, yzr, yzl, yzp, AVal.fresh, freshL, yz1, yzg, AObj.fresh, id, Option.isSome_some, or_true, true_or, go_sem, yz0, Int.reduceLT, reduceLE, reduceToNat, reduceNeg, Nat.reduceLT, reduceLeDiff, reduceMul, reduceSub, reduceIte, reduceEqDiff, reduceAdd, reduceCtorEq]
    have hsi := fun l (h : L .gone l 5000 = .box 0 (srcC code a2 s2)) => sv_inj (hp := L .gone l) (r := 5000) h (fun x y e => (hN3.inj _ _ _ _ e).2) hv1
    have hs0 := fun l (h : L .gone l 5000 = .box 0 (srcC code a2 s2)) => (sv_m (s := vs3 1) h : sv (L .gone l) [5000] (vs3 1) 0 = 0)
    generalize hl1 : [(2, AObj.box (vs0 0 0) [iv 0, AVal.val (Value.slice none 0 0)]), (3, AObj.box (vs1 2 0) [iv q, .own 6 (f vq)]), (6, AObj.row (f vq) 1 true (rwp ps0)), (10, AObj.gone), (61, AObj.gone), (73, AObj.gone), (77, AObj.gone), (5000, AObj.box 0 (srcC code a2 s2)), (901, AObj.gone)] = l1
    have hi1 := hsi l1 (by rw [← hl1]; rfl)
    have h01 := hs0 l1 (by rw [← hl1]; rfl)
    generalize sv (L .gone l1) [5000] (vs3 1) = f1 at hi1 h01 ⊢
    rw [h01]
    have A1 : Aut q' ((qs'.map fun p => (f1 p.1, p.2)).map (·.2)) := by rw [List.map_map]; exact A'
    have hd1 := hd'.ren hi1
    generalize (qs'.map fun p => (f1 p.1, p.2)) = ps1 at A1 hd1 ⊢
    exact h4 _ (vs0 0 0) (vs1 2 0) 10 (f1 vq') _ _ a3 s3 q' ps1 A1 hd1 (by omega) (.inr ⟨rfl, rfl⟩) (by simp only [← hl1, go_sem, yz0, Int.reduceLT, reduceLE, reduceToNat, reduceNeg, Nat.reduceLT, reduceLeDiff, reduceMul, reduceSub, reduceIte, reduceEqDiff, reduceAdd, reduceCtorEq]; try rfl)
  · exact h4 _ (vs0 0 0) (vs1 2 0) 6 (f vq) _ .gone a2 s2 q ps0 A0 hd0 (by omega) (.inl ⟨rfl, rfl⟩) (by simp only [go_sem, yz0, Int.reduceLT, reduceLE, reduceToNat, reduceNeg, Nat.reduceLT, reduceLeDiff, reduceMul, reduceSub, reduceIte, reduceEqDiff, reduceAdd, reduceCtorEq]; try rfl)
end Go.Ab
namespace Go.Ab
open Go.Proofs
def FRen (F : Int → List (Nat × List Int) → Prop) : Prop := ∀ n ps (f : Nat → Nat), (∀ x y, f x = f y → x = y) → F n ps → F n (ps.map fun p => (f p.1, p.2))
theorem New.box {vs : Nat → Nat → Nat} {U : Nat → Prop} {σ : St} {r v : Nat} {cs : List AVal} (h : New vs U σ) (hr : σ.hp r = .box v cs) (i y : Nat) : vs i y ≠ v := fun e => by
  have h1 := h.hp r
  rw [hr] at h1
  simp only [AObj.uses] at h1
  exact h.new i y (by rw [e]; exact h1.1)
theorem call_lo {P : Program} {F : Int → List (Nat × List Int) → Prop} (hF : FRen F) {σ : St} {g : FuncId} {As args : List AVal} {d : Nat} {s : Nat → Nat} {K : St → Prop} {r v : Nat} {code : List Int} {a s0 k : Int}
    (h : Con P g [.box 0 (srcC code a s0)] (.ptr 5000 0 0 :: args) true fun outs rows res => ∃ n ps v a' s', F n ps ∧ a ≤ a' ∧ a' ≤ a + k ∧ outs = [.box 0 (srcC code a' s')] ∧ rows = [.row v 1 true (rwp ps)] ∧ res = .st [iv n, .own 6000 v])
    (hr : σ.hp r = .box v (srcC code a s0)) (hs : ∀ x y, s x = s y → x = y) (hv : ∀ y, s y ≠ v) (hco : CoeL σ.hp [r] false args As) (hd : σ.hp d = .gone)
    (hk : ∀ n ps v' a' s', F n ps → a ≤ a' → a' ≤ a + k → K (St.put ⟨σ.tm, upd (upd σ.hp r (.box v (srcC code a' s'))) d (.row v' 1 true (rwp ps))⟩ (some d) (.st [iv n, .own d v']))) : wpCall P false σ g (.ptr r v 0 :: As) (some d) s K := by
  have hne : d ≠ r := fun e => by rw [e, hr] at hd; cases hd
  refine call_con (r := r) h hr (by simp only [Bool.not_true, rowIs, boxIs, coe_argN, coe_argNs, coe_ro_o, yz18, yzx, coe_any, coe_val, coe_ro, yz17, yz15, coe_st, yz14, coe_rp, yz16, coe_clo, coe_own0, coe_ptr0, yz13, coeL_rws, coeL_rwn, L_hit, L_miss, L_nil, reduceEqDiff, ne_eq, reduceCtorEq, not_false_eq_true, true_and, and_true, and_self, exists_eq_left, exists_eq_right, List.mem_cons, List.not_mem_nil, or_false, AObj.row.injEq, AObj.box.injEq, exists_eq_left', exists_and_left, exists_eq, Nat.zero_lt_one, Nat.lt_add_one, List.map_cons, List.map_nil, AObj.ver, Nat.reduceLT, not_true_eq_false]) (by rw [Bool.not_true, yzx, coe_ptr0, hr]; exact ⟨rfl, hco⟩) ?_
  rintro outs rows res ⟨n, ps, w, a', s', hf, h1, h2, rfl, rfl, rfl⟩
  refine ⟨rfl, by simp, by rw [Option.getD_some, yzl]; exact hd, ?_⟩
  rw [Option.getD_some, callHp_mr hne]
  have hi := sv_inj (hp := σ.hp) (r := r) hr hs hv
  have h0 : sv σ.hp [r] s 0 = v := sv_m hr
  simp only [yzn, yzm, renL_rwp, renL_flat _ flat_srcC, yz19, yzf, yzo, yzw, List.length_singleton, yz4, h0]
  exact hk n _ _ a' s' (hF n ps _ hi hf) h1 h2
theorem call_lo0 {P : Program} {F : Int → List (Nat × List Int) → Prop} (hF : FRen F) {σ : St} {g : FuncId} {As args : List AVal} {d : Nat} {s : Nat → Nat} {K : St → Prop}
    (h : Con P g [] args true fun outs rows res => outs = [] ∧ ∃ n v ps, F n ps ∧ rows = [.row v 1 true (rwp ps)] ∧ res = .st [iv n, .own 6000 v])
    (hs : ∀ x y, s x = s y → x = y) (hco : CoeL σ.hp [] false args As) (hd : σ.hp d = .gone)
    (hk : ∀ n ps v', F n ps → K (St.put ⟨σ.tm, upd σ.hp d (.row v' 1 true (rwp ps))⟩ (some d) (.st [iv n, .own d v']))) : wpCall P false σ g As (some d) s K := by
  refine call_sh h hco (fun e => by cases e) ?_
  rintro outs rows res ⟨rfl, n, w, ps, hf, rfl, rfl⟩
  refine ⟨rfl, by simp, by rw [Option.getD_some, yzl]; exact hd, ?_⟩
  rw [Option.getD_some, yz5]
  simp only [yzm, renL_rwp, yz19, yzf, yzo, yzw, List.length_singleton, yz4]
  exact hk n _ _ (hF n ps _ hs hf)
theorem call_lo2 {P : Program} {F : Int → List (Nat × List Int) → Prop} (hF : FRen F) {σ : St} {g : FuncId} {As args : List AVal} {d : Nat} {s : Nat → Nat} {K : St → Prop} {r v : Nat} {code : List Int} {a s0 k : Int}
    (h : Con P g [.box 0 (srcC code a s0)] (.ptr 5000 0 0 :: args) true fun outs rows res => ∃ n ps v w xs a' s', F n ps ∧ a ≤ a' ∧ a' ≤ a + k ∧ outs = [.box 0 (srcC code a' s')] ∧ rows = [.row v 1 true (rwp ps), .row w 1 true (ints xs)] ∧ res = .tup [.st [iv n, .own 6000 v], .own 6001 w])
    (hr : σ.hp r = .box v (srcC code a s0)) (hs : ∀ x y, s x = s y → x = y) (hv : ∀ y, s y ≠ v) (hco : CoeL σ.hp [r] false args As) (hd : σ.hp d = .gone) (hd2 : σ.hp (d + 1000) = .gone)
    (hk : ∀ n ps v' w' xs a' s', F n ps → a ≤ a' → a' ≤ a + k → K (St.put ⟨σ.tm, upd (upd (upd σ.hp r (.box v (srcC code a' s'))) d (.row v' 1 true (rwp ps))) (d + 1000) (.row w' 1 true (ints xs))⟩ (some d) (.tup [.st [iv n, .own d v'], .own (d + 1000) w']))) : wpCall P false σ g (.ptr r v 0 :: As) (some d) s K := by
  have hne : d ≠ r := fun e => by rw [e, hr] at hd; cases hd
  have hne2 : d + 1000 ≠ r := fun e => by rw [e, hr] at hd2; cases hd2
  refine call_con (r := r) h hr (by simp only [Bool.not_true, rowIs, boxIs, coe_argN, coe_argNs, coe_ro_o, yz18, yzx, coe_any, coe_val, coe_ro, yz17, yz15, coe_st, yz14, coe_rp, yz16, coe_clo, coe_own0, coe_ptr0, yz13, coeL_rws, coeL_rwn, L_hit, L_miss, L_nil, reduceEqDiff, ne_eq, reduceCtorEq, not_false_eq_true, true_and, and_true, and_self, exists_eq_left, exists_eq_right, List.mem_cons, List.not_mem_nil, or_false, AObj.row.injEq, AObj.box.injEq, exists_eq_left', exists_and_left, exists_eq, Nat.zero_lt_one, Nat.lt_add_one, List.map_cons, List.map_nil, AObj.ver, Nat.reduceLT, not_true_eq_false]) (by rw [Bool.not_true, yzx, coe_ptr0, hr]; exact ⟨rfl, hco⟩) ?_
  rintro outs rows res ⟨n, ps, w, w2, xs, a', s', hf, h1, h2, rfl, rfl, rfl⟩
  refine ⟨rfl, by simp, by rw [Option.getD_some, yzp]; exact ⟨hd, hd2⟩, ?_⟩
  rw [Option.getD_some, callHp_mrr hne hne2]
  have hi := sv_inj (hp := σ.hp) (r := r) hr hs hv
  have h0 : sv σ.hp [r] s 0 = v := sv_m hr
  have e2 : ([AObj.row w 1 true (rwp ps), AObj.row w2 1 true (ints xs)] : List AObj).length = 2 := rfl
  simp only [yzn, yzm, renL_rwp, renL_flat _ flat_srcC, yz19, yzy, yzf, yzo, yz3, yzw, e2, yz4, yz6, h0]
  exact hk n _ _ _ xs a' s' (hF n ps _ hi hf) h1 h2
def FAut (m : Int) (n : Int) (ps : List (Nat × List Int)) : Prop := Aut n (ps.map (·.2)) ∧ DJ ps ∧ n ≤ m
def FLo (n : Int) (ps : List (Nat × List Int)) : Prop := (ps.length ≤ 3 → DJ ps) ∧ ps.length ≤ 10 ∧ -1 ≤ n ∧ n ≤ 11 ∧ ∀ p ∈ ps, p.2.length ≤ 10
theorem map_named {ps : List (Nat × List Int)} {f : Nat → Nat} : (ps.map fun p => (f p.1, p.2)).map (·.2) = ps.map (·.2) := by rw [List.map_map]; rfl
theorem FAut_ren (m : Int) : FRen (FAut m) := by
  rintro n ps f hf ⟨h1, h2, h3⟩
  exact ⟨by rw [map_named]; exact h1, h2.ren hf, h3⟩
theorem FLo_ren : FRen FLo := by
  rintro n ps f hf ⟨h1, h2, h3, h4, h5⟩
  refine ⟨fun h => (h1 (by simpa using h)).ren hf, by simpa using h2, h3, h4, fun p hp => ?_⟩
  obtain ⟨q, hq, rfl⟩ := List.mem_map.1 hp
  exact h5 q hq
theorem FAut.lo {m n : Int} {ps : List (Nat × List Int)} (h : FAut m n ps) : FLo n ps := by
  obtain ⟨A, hd, hm⟩ := h
  have n1 := A.n1
  have n2 := A.n2
  have l2 := A.l2
  rw [List.length_map] at l2
  exact ⟨fun _ => hd, by omega, by omega, by omega, fun p hp => by have := (A.row p.2 (List.mem_map.2 ⟨p, hp, rfl⟩)).1; omega⟩
theorem DJ_refrozen {A2 C2 : List (Nat × List Int)} {b : Nat × List Int} {m : Nat} {cur : List Int} (hd : DJ (A2 ++ b :: C2))
    (hf : ∀ n k'' cs'', AVal.ro (some (some (n + 1))) k'' cs'' ∈ rwp A2 ++ AVal.own 901 m :: rwp C2 → cs'' ≠ [] → n ≠ m) : DJ (A2 ++ (m, cur) :: C2) := DJ_in hd fun p hp => by
  by_cases e : p.2 = []
  · exact .inl e
  · refine .inr (hf p.1 1 (ints p.2) ?_ (by simpa using e))
    rcases List.mem_append.1 hp with h | h
    · exact List.mem_append.2 (.inl (List.mem_map.2 ⟨p, h, rfl⟩))
    · exact List.mem_append.2 (.inr (List.mem_cons.2 (.inr (List.mem_map.2 ⟨p, h, rfl⟩))))
theorem Aut_put {n : Int} {A2 C2 : List (Nat × List Int)} {b : Nat × List Int} {u : Nat} {cur : List Int} (A : Aut n ((A2 ++ b :: C2).map (·.2))) (hl : cur.length = b.2.length) (hm : ∀ x ∈ cur, 0 ≤ x ∧ x < n) : Aut n ((A2 ++ (u, cur) :: C2).map (·.2)) := by
  have l1 := A.l1
  have l2 := A.l2
  have hbr := A.row b.2 (by simp)
  refine ⟨A.n1, A.n2, by rw [List.length_map] at l1 ⊢; simpa using l1, by rw [List.length_map] at l2 ⊢; simpa using l2, fun row hr => ?_⟩
  rw [List.map_append, List.map_cons, List.mem_append, List.mem_cons] at hr
  rcases hr with h | h | h
  · exact A.row row (by rw [List.map_append]; exact List.mem_append.2 (.inl h))
  · rw [h]; exact ⟨by dsimp only; omega, hm⟩
  · exact A.row row (by rw [List.map_append, List.map_cons]; exact List.mem_append.2 (.inr (List.mem_cons_of_mem _ h)))
theorem k_l02Drawn (code : List Int) (at_ seed : Int) (hb : ∀ x ∈ code, 0 ≤ x ∧ x ≤ 255) (ha : 0 ≤ at_ ∧ at_ ≤ 10000) :
    Con Try.prog nz3s [.box 0 (srcC code at_ seed)] [.ptr 5000 0 0] true fun outs rows res => ∃ n ps v a' s', FLo n ps ∧ at_ ≤ a' ∧ a' ≤ at_ + 5000 ∧ outs = [.box 0 (srcC code a' s')] ∧ rows = [.row v 1 true (rwp ps)] ∧ res = .st [iv n, .own 6000 v] := by
  refine con_sh mixed cziq rfl (by simp) ?_
  generalize hQ : finQ _ = Q
  simp only [Az8, Bzc4, yzq, yz2, go_sem, yz0, Int.reduceLT, reduceLE, reduceToNat, reduceNeg, Nat.reduceLT, reduceLeDiff, reduceMul, reduceSub, reduceIte, reduceEqDiff, reduceAdd, reduceCtorEq]
  intro vs0 U0 hN0 vs1 U1 hN1
  refine call_funB (k_pick code at_ seed 6 hb (by omega)) rfl qCS qCS ?_
  rintro cs' x ⟨a1, s1, b1, rfl, g1, g2, rfl, g3, g4⟩
  by_cases k0 : b1 = 0
  · subst k0
    simp only [Bzx, Bzw, beq_self_eq_true, yzq, yz2, go_sem, yz0, Int.reduceLT, reduceLE, reduceToNat, reduceNeg, Nat.reduceLT, reduceLeDiff, reduceMul, reduceSub, reduceIte, reduceEqDiff, reduceAdd, reduceCtorEq]
    intro vs2 U2 hN2 vs3 U3 hN3
    refine call_funB (k_pick code a1 s1 6 hb (by omega)) rfl qCS qCS ?_
    rintro cs' x ⟨a2, s2, b2, rfl, g5, g6, rfl, g7, g8⟩
    have w1 : IntKind.i64.wrap (2 + b2) = 2 + b2 := w64 (by omega)
    simp only [w1, yzq, yz2, go_sem, yz0, Int.reduceLT, reduceLE, reduceToNat, reduceNeg, Nat.reduceLT, reduceLeDiff, reduceMul, reduceSub, reduceIte, reduceEqDiff, reduceAdd, reduceCtorEq]
    refine call_lo0 (FAut_ren 10) (Con.mono (k_l02SlowN (2 + b2) (by omega)) ?_) (fun x y e => (hN3.inj _ _ _ _ e).2) qCS qGN ?_
    · rintro outs rows res ⟨h1, v, ps, h2, h3, h4, h5⟩
      exact ⟨h1, _, v, ps, ⟨h2, h3, by omega⟩, h4, h5⟩
    intro n ps v' hf
    simp only [← hQ, Az8, yzq, yz2, go_sem, yz0, Int.reduceLT, reduceLE, reduceToNat, reduceNeg, Nat.reduceLT, reduceLeDiff, reduceMul, reduceSub, reduceIte, reduceEqDiff, reduceAdd, reduceCtorEq]
    refine ⟨[14], by simp, by simp, by simp, ?_⟩
    simp only [range1, List.length_singleton, renL_rwp, Nat.not_lt_zero, range1, yzw, yzz, yz1b, yz1c, yz10, yz1d, yz1a, yz19, yzy, yzo, yzf, yz3, yzu, yzt, yzn, yzm, yzs, yz8, yzb, yze, yz9, yzj, yzh, yz4, yz6, yzc, yzd, yzi, yzk, List.range_zero, yz7, yz5, yza, yzr, yzl, yzp, AVal.fresh, freshL, yz1, yzg, AObj.fresh, id, Option.isSome_some, or_true, true_or, go_sem, yz0, Int.reduceLT, reduceLE, reduceToNat, reduceNeg, Nat.reduceLT, reduceLeDiff, reduceMul, reduceSub, reduceIte, reduceEqDiff, reduceAdd, reduceCtorEq]
    exact ⟨n, ps, v', a2, s2, hf.lo, by omega, by omega, rfl, by simp, rfl⟩
  by_cases k1 : b1 = 1
  · subst k1
    simp only [beq_false_of_ne (show (1 : Int) ≠ 0 by omega), Bzx, Bzw, Bz2g, beq_self_eq_true, yzq, yz2, go_sem, yz0, Int.reduceLT, reduceLE, reduceToNat, reduceNeg, Nat.reduceLT, reduceLeDiff, reduceMul, reduceSub, reduceIte, reduceEqDiff, reduceAdd, reduceCtorEq]
    intro vs2 U2 hN2 vs3 U3 hN3 vs4 U4 hN4
    refine call_lo2 (k := 2000) (FAut_ren 10) (Con.mono (k_l01Alike code a1 s1 hb (by omega)) ?_) rfl (fun x y e => (hN4.inj _ _ _ _ e).2) (hN4.box (r := 5000) rfl 1) qCS qGN qGN ?_
    · rintro outs rows res ⟨n, ps, v, w, xs, a', s', h1, h2, h3, h4, h5, h6⟩
      exact ⟨n, ps, v, w, xs, a', s', ⟨h1, h2, by omega⟩, h4, h5, h6⟩
    intro n ps v' w' xs a2 s2 hf h1 h2
    simp only [yzq, yz2, go_sem, yz0, Int.reduceLT, reduceLE, reduceToNat, reduceNeg, Nat.reduceLT, reduceLeDiff, reduceMul, reduceSub, reduceIte, reduceEqDiff, reduceAdd, reduceCtorEq]
    simp only [Bzc0, ← hQ, Az8, yzq, yz2, go_sem, yz0, Int.reduceLT, reduceLE, reduceToNat, reduceNeg, Nat.reduceLT, reduceLeDiff, reduceMul, reduceSub, reduceIte, reduceEqDiff, reduceAdd, reduceCtorEq]
    intro vs5 U5 hN5
    refine ⟨[19], by simp, by simp, by simp, ?_⟩
    simp only [range1, List.length_singleton, renL_rwp, Nat.not_lt_zero, range1, yzw, yzz, yz1b, yz1c, yz10, yz1d, yz1a, yz19, yzy, yzo, yzf, yz3, yzu, yzt, yzn, yzm, yzs, yz8, yzb, yze, yz9, yzj, yzh, yz4, yz6, yzc, yzd, yzi, yzk, List.range_zero, yz7, yz5, yza, yzr, yzl, yzp, AVal.fresh, freshL, yz1, yzg, AObj.fresh, id, Option.isSome_some, or_true, true_or, go_sem, yz0, Int.reduceLT, reduceLE, reduceToNat, reduceNeg, Nat.reduceLT, reduceLeDiff, reduceMul, reduceSub, reduceIte, reduceEqDiff, reduceAdd, reduceCtorEq]
    exact ⟨n, ps, v', a2, s2, hf.lo, by omega, by omega, rfl, by simp, rfl⟩
  by_cases k2 : b1 = 2
  · subst k2
    simp only [beq_false_of_ne (show (2 : Int) ≠ 0 by omega), beq_false_of_ne (show (2 : Int) ≠ 1 by omega), Bzx, Bzw, Bz2g, Bz5q, beq_self_eq_true, yzq, yz2, go_sem, yz0, Int.reduceLT, reduceLE, reduceToNat, reduceNeg, Nat.reduceLT, reduceLeDiff, reduceMul, reduceSub, reduceIte, reduceEqDiff, reduceAdd, reduceCtorEq]
    intro vs2 U2 hN2 vs3 U3 hN3 vs4 U4 hN4 vs5 U5 hN5
    refine call_lo (k := 3000) FLo_ren (Con.mono (k_l01Bent code a1 s1 hb (by omega)) ?_) rfl (fun x y e => (hN5.inj _ _ _ _ e).2) (hN5.box (r := 5000) rfl 1) qCS qGN ?_
    · rintro outs rows res ⟨n, ps, v, a', s', h1, h2, h3, h4, h5, h6⟩
      exact ⟨n, ps, v, a', s', ⟨h1, h2, h3, h4, h5⟩, h6⟩
    intro n ps v' a2 s2 hf h1 h2
    simp only [← hQ, Az8, yzq, yz2, go_sem, yz0, Int.reduceLT, reduceLE, reduceToNat, reduceNeg, Nat.reduceLT, reduceLeDiff, reduceMul, reduceSub, reduceIte, reduceEqDiff, reduceAdd, reduceCtorEq]
    refine ⟨[26], by simp, by simp, by simp, ?_⟩
    simp only [range1, List.length_singleton, renL_rwp, Nat.not_lt_zero, range1, yzw, yzz, yz1b, yz1c, yz10, yz1d, yz1a, yz19, yzy, yzo, yzf, yz3, yzu, yzt, yzn, yzm, yzs, yz8, yzb, yze, yz9, yzj, yzh, yz4, yz6, yzc, yzd, yzi, yzk, List.range_zero, yz7, yz5, yza, yzr, yzl, yzp, AVal.fresh, freshL, yz1, yzg, AObj.fresh, id, Option.isSome_some, or_true, true_or, go_sem, yz0, Int.reduceLT, reduceLE, reduceToNat, reduceNeg, Nat.reduceLT, reduceLeDiff, reduceMul, reduceSub, reduceIte, reduceEqDiff, reduceAdd, reduceCtorEq]
    exact ⟨n, ps, v', a2, s2, hf, by omega, by omega, rfl, by simp, rfl⟩
  simp only [beq_false_of_ne k0, beq_false_of_ne k1, beq_false_of_ne k2, Bzx, Bzw, Bz2g, Bz5q, Bzc3, yzq, yz2, go_sem, yz0, Int.reduceLT, reduceLE, reduceToNat, reduceNeg, Nat.reduceLT, reduceLeDiff, reduceMul, reduceSub, reduceIte, reduceEqDiff, reduceAdd, reduceCtorEq]
  intro vs2 U2 hN2 vs3 U3 hN3 vs4 U4 hN4 vs5 U5 hN5
  refine call_lo (k := 1000) (FAut_ren 6) (Con.mono (k_DrawnN code a1 s1 6 hb (by omega) (by omega)) ?_) rfl (fun x y e => (hN5.inj _ _ _ _ e).2) (hN5.box (r := 5000) rfl 1) qCS qGN ?_
  · rintro outs rows res ⟨n, ps, v, a', s', h1, h2, h3, h4, h5, h6⟩
    exact ⟨n, ps, v, a', s', ⟨h1, h2, h3⟩, h4, h5, h6⟩
  intro n ps v' a2 s2 hf h1 h2
  simp only [Bzc2, yzq, yz2, go_sem, yz0, Int.reduceLT, reduceLE, reduceToNat, reduceNeg, Nat.reduceLT, reduceLeDiff, reduceMul, reduceSub, reduceIte, reduceEqDiff, reduceAdd, reduceCtorEq]
  intro vs6 U6 hN6
  refine call_funB (k_one code a2 s2 2 hb (by omega)) rfl qCS qCS ?_
  rintro cs' x ⟨a3, s3, b3, rfl, g5, g6, rfl⟩
  obtain ⟨A, hdj, hn6⟩ := hf
  have l1 := A.l1
  have l2 := A.l2
  have n1 := A.n1
  have n2 := A.n2
  rw [List.length_map] at l1 l2
  have hend : ∀ (σ : St) (v2 v5 : Nat) (ps : List (Nat × List Int)) (a s : Int), FLo n ps → at_ ≤ a ∧ a ≤ at_ + 5000 →
      σ.keep [2, 5] [2, 3, 5, 14, 19, 26, 28, 1019, 5000, 901] = ⟨L .any [(2, .ptr 2 v2 0), (5, .ptr 5 v5 0)],
        L .gone [(2, .box v2 [iv 0, .val (.slice none 0 0)]), (3, .gone), (5, .box v5 [iv n, .own 28 v']), (14, .gone), (19, .gone), (26, .gone), (28, .row v' 1 true (rwp ps)), (1019, .gone), (5000, .box 0 (srcC code a s)), (901, .gone)]⟩ →
      wpD Try.prog Bz2h Q σ := by
    intro σ v2 v5 ps a s hf ha' hS
    unfold Bz2h
    rw [yzq, hS]
    simp only [wpD_gh]
    intro _
    refine ⟨[], ?_⟩
    simp only [gwp_nil, yzq, yz2, go_sem, yz0, Int.reduceLT, reduceLE, reduceToNat, reduceNeg, Nat.reduceLT, reduceLeDiff, reduceMul, reduceSub, reduceIte, reduceEqDiff, reduceAdd, reduceCtorEq]
    intro vs U hN
    simp only [← hQ, Az8, go_sem, yz0, Int.reduceLT, reduceLE, reduceToNat, reduceNeg, Nat.reduceLT, reduceLeDiff, reduceMul, reduceSub, reduceIte, reduceEqDiff, reduceAdd, reduceCtorEq]
    refine ⟨[28], by simp, by simp, by simp, ?_⟩
    simp only [range1, List.length_singleton, renL_rwp, Nat.not_lt_zero, range1, yzw, yzz, yz1b, yz1c, yz10, yz1d, yz1a, yz19, yzy, yzo, yzf, yz3, yzu, yzt, yzn, yzm, yzs, yz8, yzb, yze, yz9, yzj, yzh, yz4, yz6, yzc, yzd, yzi, yzk, List.range_zero, yz7, yz5, yza, yzr, yzl, yzp, AVal.fresh, freshL, yz1, yzg, AObj.fresh, id, Option.isSome_some, or_true, true_or, go_sem, yz0, Int.reduceLT, reduceLE, reduceToNat, reduceNeg, Nat.reduceLT, reduceLeDiff, reduceMul, reduceSub, reduceIte, reduceEqDiff, reduceAdd, reduceCtorEq]
    exact ⟨n, ps, v', a, s, hf, ha'.1, ha'.2, rfl, by simp, rfl⟩
  cases b3 with
  | false =>
    simp only [Bz5r, yzq, yz2, go_sem, yz0, Int.reduceLT, reduceLE, reduceToNat, reduceNeg, Nat.reduceLT, reduceLeDiff, reduceMul, reduceSub, reduceIte, reduceEqDiff, reduceAdd, reduceCtorEq]
    exact hend _ (vs0 0 0) (vs5 2 0) ps a3 s3 (FAut.lo ⟨A, hdj, hn6⟩) (by omega) (by simp only [go_sem, yz0, Int.reduceLT, reduceLE, reduceToNat, reduceNeg, Nat.reduceLT, reduceLeDiff, reduceMul, reduceSub, reduceIte, reduceEqDiff, reduceAdd, reduceCtorEq]; try rfl)
  | true =>
    simp only [Bz5r, rwp_len, yzq, yz2, go_sem, yz0, Int.reduceLT, reduceLE, reduceToNat, reduceNeg, Nat.reduceLT, reduceLeDiff, reduceMul, reduceSub, reduceIte, reduceEqDiff, reduceAdd, reduceCtorEq]
    intro vs7 U7 hN7 hM7
    refine call_funB (k_pick code a3 s3 ps.length hb (by omega)) rfl qCS qCS ?_
    rintro cs' x ⟨a4, s4, x0, rfl, g7, g8, rfl, g9, g10⟩
    have hat : x0.toNat < ps.length := by omega
    obtain ⟨A2, b, C2, rfl, hAk⟩ := rwp_split hat
    have hbr := A.row b.2 (by simp)
    have hbn : b.2 ≠ [] := fun e => by rw [e] at hbr; simp at hbr; omega
    have F0a := DJ_out hdj hbn
    simp only [Bzc1, yzq, wpD_gh, go_sem, yz0, Int.reduceLT, reduceLE, reduceToNat, reduceNeg, Nat.reduceLT, reduceLeDiff, reduceMul, reduceSub, reduceIte, reduceEqDiff, reduceAdd, reduceCtorEq]
    intro _
    refine ⟨[.thaw 28 x0.toNat 901], gwp_thaw (n := b.1) rfl (rwp_get hAk.symm) (by simpa using hbn) rfl fun m1 => ?_⟩
    have hset : (woL b.1 (rwp (A2 ++ b :: C2))).set x0.toNat (AVal.own 901 m1) = rwp A2 ++ AVal.own 901 m1 :: rwp C2 := by rw [← hAk]; exact woL_set F0a
    have ho1 : (rwp A2 ++ AVal.own 901 m1 :: rwp C2).getD x0.toNat .any = .own 901 m1 := own_at hAk.symm
    have hol : (rwp A2 ++ AVal.own 901 m1 :: rwp C2).length = A2.length + (C2.length + 1) := by rw [List.length_append, List.length_cons, rwp_len, rwp_len]
    have hkl : x0.toNat < (rwp A2 ++ AVal.own 901 m1 :: rwp C2).length := by omega
    simp only [hset, woT, woO, woL_cons, woL_nil, woV_val, woV_own, wo_ptr, wo_o, woL_ints, wo_st, woO_row, woO_box, woO_gone, wo_any, gwp_nil, yzq, yz2, go_sem, yz0, Int.reduceLT, reduceLE, reduceToNat, reduceNeg, Nat.reduceLT, reduceLeDiff, reduceMul, reduceSub, reduceIte, reduceEqDiff, reduceAdd, reduceCtorEq]
    intro vs8 U8 hN8
    simp only [ho1, go_sem, yz0, Int.reduceLT, reduceLE, reduceToNat, reduceNeg, Nat.reduceLT, reduceLeDiff, reduceMul, reduceSub, reduceIte, reduceEqDiff, reduceAdd, reduceCtorEq]
    refine ⟨⟨g9, hkl⟩, hkl, ?_⟩
    refine call_funBN (k_pick code a4 s4 n hb (by omega)) rfl (by simp) qCS qCS ⟨srcC code a4 0, .int .i64 0, ⟨a4, 0, 0, rfl, by omega, by omega, rfl, by omega, .inr rfl⟩, flat_srcC⟩ ?_
    rintro cs' x ⟨a5, s5, y1, rfl, p1, p2, rfl, p3, p4⟩
    have hy1 : y1.toNat < b.2.length := by omega
    simp only [ho1, yzq, yz2, go_sem, yz0, Int.reduceLT, reduceLE, reduceToNat, reduceNeg, Nat.reduceLT, reduceLeDiff, reduceMul, reduceSub, reduceIte, reduceEqDiff, reduceAdd, reduceCtorEq]
    refine ⟨⟨g9, hkl⟩, hkl, ?_⟩
    refine call_funBN (k_pick code a5 s5 n hb (by omega)) rfl (by simp) qCS qCS ⟨srcC code a5 0, .int .i64 0, ⟨a5, 0, 0, rfl, by omega, by omega, rfl, by omega, .inr rfl⟩, flat_srcC⟩ ?_
    rintro cs' x ⟨a6, s6, y2, rfl, p5, p6, rfl, p7, p8⟩
    have hy2 : y2.toNat < b.2.length := by omega
    simp only [yzv hy2, yzq, yz2, go_sem, yz0, Int.reduceLT, reduceLE, reduceToNat, reduceNeg, Nat.reduceLT, reduceLeDiff, reduceMul, reduceSub, reduceIte, reduceEqDiff, reduceAdd, reduceCtorEq]
    refine ⟨⟨p7, hy2⟩, hy2, ⟨p3, hy1⟩, hy1, ?_⟩
    have hcl := lput_len (xs := b.2) (v := b.2.getD y2.toNat 0) hy1
    have hcm := lput_mem (xs := b.2) (i := y1.toNat) (v := b.2.getD y2.toNat 0) (Q := fun z => 0 ≤ z ∧ z < n) hbr.2 (hbr.2 _ (yz11 hy2 0))
    simp only [ints_put]
    generalize hcu : b.2.take y1.toNat ++ [b.2.getD y2.toNat 0] ++ b.2.drop (y1.toNat + 1) = cur at hcl hcm ⊢
    simp only [Bz2h, yzq, wpD_gh, go_sem, yz0, Int.reduceLT, reduceLE, reduceToNat, reduceNeg, Nat.reduceLT, reduceLeDiff, reduceMul, reduceSub, reduceIte, reduceEqDiff, reduceAdd, reduceCtorEq]
    intro hD
    refine ⟨[.rf 28 x0.toNat 901], gwp_rf (k := 1) (nn := true) rfl (own_get hAk.symm) (by decide) rfl fun hf => ?_⟩
    have D1 := DJ_refrozen hdj hf (cur := cur)
    have A1 := Aut_put A (u := m1) hcl hcm
    have hset4 : ∀ X : AVal, (rwp A2 ++ AVal.own 901 m1 :: rwp C2).set x0.toNat X = rwp A2 ++ X :: rwp C2 := fun X => by
      rw [← hAk, List.set_append_right _ _ (by rw [rwp_len]; exact Nat.le_refl _), rwp_len, Nat.sub_self]; rfl
    simp only [hset4, frNm_t, rwp_cat, gwp_nil, yzq, yz2, go_sem, yz0, Int.reduceLT, reduceLE, reduceToNat, reduceNeg, Nat.reduceLT, reduceLeDiff, reduceMul, reduceSub, reduceIte, reduceEqDiff, reduceAdd, reduceCtorEq]
    intro vs9 U9 hN9
    simp only [← hQ, Az8, go_sem, yz0, Int.reduceLT, reduceLE, reduceToNat, reduceNeg, Nat.reduceLT, reduceLeDiff, reduceMul, reduceSub, reduceIte, reduceEqDiff, reduceAdd, reduceCtorEq]
    refine ⟨[28], by simp, by simp, by simp, ?_⟩
    simp only [range1, List.length_singleton, renL_rwp, Nat.not_lt_zero, range1, yzw, yzz, yz1b, yz1c, yz10, yz1d, yz1a, yz19, yzy, yzo, yzf, yz3, yzu, yzt, yzn, yzm, yzs, yz8, yzb, yze, yz9, yzj, yzh, yz4, yz6, yzc, yzd, yzi, yzk, List.range_zero, yz7, yz5, yza, yzr, yzl, yzp, AVal.fresh, freshL, yz1, yzg, AObj.fresh, id, Option.isSome_some, or_true, true_or, go_sem, yz0, Int.reduceLT, reduceLE, reduceToNat, reduceNeg, Nat.reduceLT, reduceLeDiff, reduceMul, reduceSub, reduceIte, reduceEqDiff, reduceAdd, reduceCtorEq]
    exact ⟨n, A2 ++ (m1, cur) :: C2, v', a6, s6, FAut.lo ⟨A1, D1, hn6⟩, by omega, by omega, rfl, by simp, rfl⟩
theorem k_l03Linked (code : List Int) (at_ seed : Int) (hb : ∀ x ∈ code, 0 ≤ x ∧ x ≤ 255) (ha : 0 ≤ at_ ∧ at_ ≤ 1000) :
    Con Try.prog nz1d [.box 0 (srcC code at_ seed)] [.ptr 5000 0 0] true fun outs rows res => ∃ n ps v a' s', FLo n ps ∧ at_ ≤ a' ∧ a' ≤ at_ + 6000 ∧ outs = [.box 0 (srcC code a' s')] ∧ rows = [.row v 1 true (rwp ps)] ∧ res = .st [iv n, .own 6000 v] := by
  refine con_sh mixed czi7 rfl (by simp) ?_
  generalize hQ : finQ _ = Q
  simp only [Az22, Bz9i, yzq, yz2, go_sem, yz0, Int.reduceLT, reduceLE, reduceToNat, reduceNeg, Nat.reduceLT, reduceLeDiff, reduceMul, reduceSub, reduceIte, reduceEqDiff, reduceAdd, reduceCtorEq]
  intro vs0 U0 hN0 vs1 U1 hN1
  refine call_lo (k := 5000) FLo_ren (k_l02Drawn code at_ seed hb (by omega)) rfl (fun x y e => (hN1.inj _ _ _ _ e).2) (hN1.box (r := 5000) rfl 1) qCS qGN ?_
  intro n ps v' a1 s1 hf h1 h2
  have hend : ∀ (σ : St) (v2 v3 : Nat) (a s : Int), at_ ≤ a ∧ a ≤ at_ + 6000 →
      σ.keep [2, 3] [2, 3, 6, 5000, 901] = ⟨L .any [(2, .ptr 2 v2 0), (3, .ptr 3 v3 0)],
        L .gone [(2, .box v2 [iv 0, .val (.slice none 0 0)]), (3, .box v3 [iv n, .own 6 v']), (6, .row v' 1 true (rwp ps)), (5000, .box 0 (srcC code a s)), (901, .gone)]⟩ →
      wpD Try.prog Bz21 Q σ := by
    intro σ v2 v3 a s ha' hS
    unfold Bz21
    rw [yzq, hS]
    simp only [wpD_gh]
    intro _
    refine ⟨[], ?_⟩
    simp only [gwp_nil, yzq, yz2, go_sem, yz0, Int.reduceLT, reduceLE, reduceToNat, reduceNeg, Nat.reduceLT, reduceLeDiff, reduceMul, reduceSub, reduceIte, reduceEqDiff, reduceAdd, reduceCtorEq]
    intro vs U hN
    simp only [← hQ, Az22, go_sem, yz0, Int.reduceLT, reduceLE, reduceToNat, reduceNeg, Nat.reduceLT, reduceLeDiff, reduceMul, reduceSub, reduceIte, reduceEqDiff, reduceAdd, reduceCtorEq]
    refine ⟨[6], by simp, by simp, by simp, ?_⟩
    simp only [range1, List.length_singleton, renL_rwp, Nat.not_lt_zero, range1, yzw, yzz, yz1b, yz1c, yz10, yz1d, yz1a, yz19, yzy, yzo, yzf, yz3, yzu, yzt, yzn, yzm, yzs, yz8, yzb, yze, yz9, yzj, yzh, yz4, yz6, yzc, yzd, yzi, yzk, List.range_zero, yz7, yz5, yza, yzr, yzl, yzp, AVal.fresh, freshL, yz1, yzg, AObj.fresh, id, Option.isSome_some, or_true, true_or, go_sem, yz0, Int.reduceLT, reduceLE, reduceToNat, reduceNeg, Nat.reduceLT, reduceLeDiff, reduceMul, reduceSub, reduceIte, reduceEqDiff, reduceAdd, reduceCtorEq]
    exact ⟨n, ps, v', a, s, hf, ha'.1, ha'.2, rfl, by simp, rfl⟩
  simp only [Bz9h, yzq, yz2, go_sem, yz0, Int.reduceLT, reduceLE, reduceToNat, reduceNeg, Nat.reduceLT, reduceLeDiff, reduceMul, reduceSub, reduceIte, reduceEqDiff, reduceAdd, reduceCtorEq]
  intro vs2 U2 hN2
  refine yz12 (k_l01Ok n (ps.map (·.2))) (by simp only [coeL_rwp_t, rowIs, boxIs, coe_argN, coe_argNs, coe_ro_o, yz18, yzx, coe_any, coe_val, coe_ro, yz17, yz15, coe_st, yz14, coe_rp, yz16, coe_clo, coe_own0, coe_ptr0, yz13, coeL_rws, coeL_rwn, L_hit, L_miss, L_nil, reduceEqDiff, ne_eq, reduceCtorEq, not_false_eq_true, true_and, and_true, and_self, exists_eq_left, exists_eq_right, List.mem_cons, List.not_mem_nil, or_false, AObj.row.injEq, AObj.box.injEq, exists_eq_left', exists_and_left, exists_eq, Nat.zero_lt_one, Nat.lt_add_one, List.map_cons, List.map_nil, AObj.ver, Nat.reduceLT, not_true_eq_false]) trivial ?_
  cases hA : autB n (ps.map (·.2)) with
  | false =>
    simp only [Bz20, yzq, yz2, go_sem, yz0, Int.reduceLT, reduceLE, reduceToNat, reduceNeg, Nat.reduceLT, reduceLeDiff, reduceMul, reduceSub, reduceIte, reduceEqDiff, reduceAdd, reduceCtorEq]
    exact hend _ (vs0 0 0) (vs1 2 0) a1 s1 (by omega) (by simp only [go_sem, yz0, Int.reduceLT, reduceLE, reduceToNat, reduceNeg, Nat.reduceLT, reduceLeDiff, reduceMul, reduceSub, reduceIte, reduceEqDiff, reduceAdd, reduceCtorEq]; try rfl)
  | true =>
    have A := autB_iff.1 hA
    have n1 := A.n1
    have n2 := A.n2
    have l1 := A.l1
    have l2 := A.l2
    rw [List.length_map] at l1 l2
    have hdj : DJ ps := hf.1 l2
    simp only [yzq, yz2, go_sem, yz0, Int.reduceLT, reduceLE, reduceToNat, reduceNeg, Nat.reduceLT, reduceLeDiff, reduceMul, reduceSub, reduceIte, reduceEqDiff, reduceAdd, reduceCtorEq]
    refine call_funB (k_one code a1 s1 4 hb (by omega)) rfl qCS qCS ?_
    rintro cs' x ⟨a2, s2, b2, rfl, g1, g2, rfl⟩
    cases b2 with
    | true =>
      simp only [Bz20, Bool.not_true, yzq, yz2, go_sem, yz0, Int.reduceLT, reduceLE, reduceToNat, reduceNeg, Nat.reduceLT, reduceLeDiff, reduceMul, reduceSub, reduceIte, reduceEqDiff, reduceAdd, reduceCtorEq]
      exact hend _ (vs0 0 0) (vs1 2 0) a2 s2 (by omega) (by simp only [go_sem, yz0, Int.reduceLT, reduceLE, reduceToNat, reduceNeg, Nat.reduceLT, reduceLeDiff, reduceMul, reduceSub, reduceIte, reduceEqDiff, reduceAdd, reduceCtorEq]; try rfl)
    | false =>
      obtain ⟨A2, b, C2, rfl, hAk⟩ := rwp_split (show 0 < ps.length by omega)
      have hbr := A.row b.2 (by simp)
      have hbn : b.2 ≠ [] := fun e => by rw [e] at hbr; simp at hbr; omega
      have F0a := DJ_out hdj hbn
      simp only [Bz20, Bool.not_false, yzq, yz2, go_sem, yz0, Int.reduceLT, reduceLE, reduceToNat, reduceNeg, Nat.reduceLT, reduceLeDiff, reduceMul, reduceSub, reduceIte, reduceEqDiff, reduceAdd, reduceCtorEq]
      intro vs3 U3 hN3
      simp only [Bz9g, yzq, wpD_gh, go_sem, yz0, Int.reduceLT, reduceLE, reduceToNat, reduceNeg, Nat.reduceLT, reduceLeDiff, reduceMul, reduceSub, reduceIte, reduceEqDiff, reduceAdd, reduceCtorEq]
      intro _
      refine ⟨[.thaw 6 0 901], gwp_thaw (n := b.1) rfl (rwp_get hAk.symm) (by simpa using hbn) rfl fun m1 => ?_⟩
      have hset : (woL b.1 (rwp (A2 ++ b :: C2))).set 0 (AVal.own 901 m1) = rwp A2 ++ AVal.own 901 m1 :: rwp C2 := by rw [← hAk]; exact woL_set F0a
      have ho1 : (rwp A2 ++ AVal.own 901 m1 :: rwp C2).getD 0 .any = .own 901 m1 := own_at hAk.symm
      have hol : (rwp A2 ++ AVal.own 901 m1 :: rwp C2).length = A2.length + (C2.length + 1) := by rw [List.length_append, List.length_cons, rwp_len, rwp_len]
      have hkl : 0 < (rwp A2 ++ AVal.own 901 m1 :: rwp C2).length := by omega
      simp only [hset, woT, woO, woL_cons, woL_nil, woV_val, woV_own, wo_ptr, wo_o, woL_ints, wo_st, woO_row, woO_box, woO_gone, wo_any, gwp_nil, yzq, yz2, go_sem, yz0, Int.reduceLT, reduceLE, reduceToNat, reduceNeg, Nat.reduceLT, reduceLeDiff, reduceMul, reduceSub, reduceIte, reduceEqDiff, reduceAdd, reduceCtorEq]
      refine wpD_lp (fun (x : Nat × List Int) => n.toNat - x.1) (fun x => (x.1 : Int) ≤ n ∧ x.2.length = b.2.length ∧ ∀ z ∈ x.2, 0 ≤ z ∧ z < n)
        (fun (x : Nat × List Int) => ⟨L .any [(2, .ptr 2 (vs0 0 0) 0), (3, .ptr 3 (vs1 2 0) 0), (4, iv x.1)],
          L .gone [(2, .box (vs0 0 0) [iv 0, .val (.slice none 0 0)]), (3, .box (vs1 2 0) [iv n, .own 6 v']), (6, .row v' 1 true (rwp A2 ++ .own 901 m1 :: rwp C2)), (5000, .box 0 (srcC code a2 s2)), (901, .row m1 1 true (ints x.2))]⟩)
        (0, b.2) ⟨by simp; omega, rfl, hbr.2⟩ (by simp only [Bz1z, go_sem, yz0, Int.reduceLT, reduceLE, reduceToNat, reduceNeg, Nat.reduceLT, reduceLeDiff, reduceMul, reduceSub, reduceIte, reduceEqDiff, reduceAdd, reduceCtorEq]; try rfl) ?_
      rintro ⟨i, cur⟩ ⟨h3, h4, h5⟩
      have h3 : (i : Int) ≤ n := h3
      have h4 : cur.length = b.2.length := h4
      have h5 : ∀ z ∈ cur, 0 ≤ z ∧ z < n := h5
      by_cases hlt : (i : Int) < n
      · have w1 : IntKind.i64.wrap ((i : Int) + 1) = ((i + 1 : Nat) : Int) := by rw [w64 (by omega)]; simp
        have hn0 : ¬ n = 0 := by omega
        have hil : i < cur.length := by omega
        have t1 := tmod_in (a := ((i + 1 : Nat) : Int)) (n := n) (by omega) (by omega)
        simp only [Bz1z, Bz4u, Bz9f, decide_eq_true hlt, yzq, yz2, go_sem, yz0, Int.reduceLT, reduceLE, reduceToNat, reduceNeg, Nat.reduceLT, reduceLeDiff, reduceMul, reduceSub, reduceIte, reduceEqDiff, reduceAdd, reduceCtorEq]
        intro vs4 U4 hN4 vs5 U5 hN5
        simp only [ho1, w1, hn0, go_sem, yz0, Int.reduceLT, reduceLE, reduceToNat, reduceNeg, Nat.reduceLT, reduceLeDiff, reduceMul, reduceSub, reduceIte, reduceEqDiff, reduceAdd, reduceCtorEq]
        refine ⟨hkl, hkl, ⟨by omega, hil⟩, by omega, ?_⟩
        have hcl := lput_len (xs := cur) (v := ((i + 1 : Nat) : Int).tmod n) hil
        have hcm := lput_mem (xs := cur) (i := i) (v := ((i + 1 : Nat) : Int).tmod n) (Q := fun z => 0 ≤ z ∧ z < n) h5 t1
        simp only [ints_put]
        generalize hcu : cur.take i ++ [((i + 1 : Nat) : Int).tmod n] ++ cur.drop (i + 1) = cur2 at hcl hcm ⊢
        simp only [Bz9e, w1, yzq, yz2, go_sem, yz0, Int.reduceLT, reduceLE, reduceToNat, reduceNeg, Nat.reduceLT, reduceLeDiff, reduceMul, reduceSub, reduceIte, reduceEqDiff, reduceAdd, reduceCtorEq]
        intro vs6 U6 hN6
        exact ⟨(i + 1, cur2), by dsimp only; omega, ⟨by dsimp only; omega, by dsimp only; omega, hcm⟩, rfl⟩
      · simp only [Bz1z, Bz4u, Bz21, decide_eq_false hlt, yzq, yz2, wpD_gh, go_sem, yz0, Int.reduceLT, reduceLE, reduceToNat, reduceNeg, Nat.reduceLT, reduceLeDiff, reduceMul, reduceSub, reduceIte, reduceEqDiff, reduceAdd, reduceCtorEq]
        intro vs4 U4 hN4 hD
        refine ⟨[.rf 6 0 901], gwp_rf (k := 1) (nn := true) rfl (own_get hAk.symm) (by decide) rfl fun hf2 => ?_⟩
        have D1 := DJ_refrozen hdj hf2 (cur := cur)
        have A1 := Aut_put A (u := m1) h4 h5
        have hset4 : ∀ X : AVal, (rwp A2 ++ AVal.own 901 m1 :: rwp C2).set 0 X = rwp A2 ++ X :: rwp C2 := fun X => by
          rw [← hAk, List.set_append_right _ _ (by rw [rwp_len]; exact Nat.le_refl _), rwp_len, Nat.sub_self]; rfl
        simp only [hset4, frNm_t, rwp_cat, gwp_nil, yzq, yz2, go_sem, yz0, Int.reduceLT, reduceLE, reduceToNat, reduceNeg, Nat.reduceLT, reduceLeDiff, reduceMul, reduceSub, reduceIte, reduceEqDiff, reduceAdd, reduceCtorEq]
        intro vs9 U9 hN9
        simp only [← hQ, Az22, go_sem, yz0, Int.reduceLT, reduceLE, reduceToNat, reduceNeg, Nat.reduceLT, reduceLeDiff, reduceMul, reduceSub, reduceIte, reduceEqDiff, reduceAdd, reduceCtorEq]
        refine ⟨[6], by simp, by simp, by simp, ?_⟩
        simp only [range1, List.length_singleton, renL_rwp, Nat.not_lt_zero, range1, yzw, yzz, yz1b, yz1c, yz10, yz1d, yz1a, yz19, yzy, yzo, yzf, yz3, yzu, yzt, yzn, yzm, yzs, yz8, yzb, yze, yz9, yzj, yzh, yz4, yz6, yzc, yzd, yzi, yzk, List.range_zero, yz7, yz5, yza, yzr, yzl, yzp, AVal.fresh, freshL, yz1, yzg, AObj.fresh, id, Option.isSome_some, or_true, true_or, go_sem, yz0, Int.reduceLT, reduceLE, reduceToNat, reduceNeg, Nat.reduceLT, reduceLeDiff, reduceMul, reduceSub, reduceIte, reduceEqDiff, reduceAdd, reduceCtorEq]
        exact ⟨n, A2 ++ (m1, cur) :: C2, v', a2, s2, FAut.lo (m := 10) ⟨A1, D1, by omega⟩, by omega, by omega, rfl, by simp, rfl⟩
theorem k_A2Automaton (code : List Int) (hb : ∀ x ∈ code, 0 ≤ x ∧ x ≤ 255) :
    Con Try.prog nz3e [] [.ro (some (some 0)) 1 (intsK .u8 code)] true fun outs rows res => outs = [] ∧ ∃ n next v, Aut n next ∧ n ≤ 7 ∧ rows = [.row v 1 true (rws next)] ∧ res = .st [iv n, .own 6000 v] := by
  refine con_sh mixed czi0 rfl (by simp) ?_
  generalize hQ : finQ _ = Q
  simp only [Azo, Bz8j, go_sem, yz0, Int.reduceLT, reduceLE, reduceToNat, reduceNeg, Nat.reduceLT, reduceLeDiff, reduceMul, reduceSub, reduceIte, reduceEqDiff, reduceAdd, reduceCtorEq]
  intro vs0 vs1
  refine call_sh (k_from code) qCS (fun e => by cases e) ?_
  rintro outs rows res ⟨rfl, v, rfl, rfl⟩
  refine ⟨rfl, by simp, by rw [Option.getD_some, yzl]; rfl, ?_⟩
  simp only [Bz8i, Nat.not_lt_zero, range1, yzw, yzz, yz1b, yz1c, yz10, yz1d, yz1a, yz19, yzy, yzo, yzf, yz3, yzu, yzt, yzn, yzm, yzs, yz8, yzb, yze, yz9, yzj, yzh, yz4, yz6, yzc, yzd, yzi, yzk, List.range_zero, yz7, yz5, yza, yzr, yzl, yzp, AVal.fresh, freshL, yz1, yzg, AObj.fresh, id, Option.isSome_some, or_true, true_or, go_sem, yz0, Int.reduceLT, reduceLE, reduceToNat, reduceNeg, Nat.reduceLT, reduceLeDiff, reduceMul, reduceSub, reduceIte, reduceEqDiff, reduceAdd, reduceCtorEq]
  intro vs2
  have h : Con Try.prog nz1d [.box 0 (srcC code 0 0)] [.ptr 5000 0 0] true fun outs rows res => ∃ n next v a' s', outs = [.box 0 (srcC code a' s')] ∧ rows = [.row v 1 true (rws next)] ∧ res = .st [iv n, .own 6000 v] := by
    refine Con.dnr (k_l03Linked code 0 0 hb (by omega)) ?_
    rintro o r x ⟨n, ps, v, a', s', hf, h1, h2, rfl, rfl, rfl⟩
    refine ⟨n, ps.map (·.2), v, a', s', ?_, ?_, ?_⟩
    · simp only [List.map_cons, List.map_nil, AObj.dn, dnL, AVal.dn, dnL_ints, dnNm]
    · simp only [List.map_cons, List.map_nil, AObj.dn, dnL_rwp]
    · simp only [AVal.dn, dnL]
  refine call_con (r := 6) h rfl (by simp only [Bool.not_true, rowIs, boxIs, coe_argN, coe_argNs, coe_ro_o, yz18, yzx, coe_any, coe_val, coe_ro, yz17, yz15, coe_st, yz14, coe_rp, yz16, coe_clo, coe_own0, coe_ptr0, yz13, coeL_rws, coeL_rwn, L_hit, L_miss, L_nil, reduceEqDiff, ne_eq, reduceCtorEq, not_false_eq_true, true_and, and_true, and_self, exists_eq_left, exists_eq_right, List.mem_cons, List.not_mem_nil, or_false, AObj.row.injEq, AObj.box.injEq, exists_eq_left', exists_and_left, exists_eq, Nat.zero_lt_one, Nat.lt_add_one, List.map_cons, List.map_nil, AObj.ver, Nat.reduceLT, not_true_eq_false]) (by simp only [Bool.not_true, rowIs, boxIs, coe_argN, coe_argNs, coe_ro_o, yz18, yzx, coe_any, coe_val, coe_ro, yz17, yz15, coe_st, yz14, coe_rp, yz16, coe_clo, coe_own0, coe_ptr0, yz13, coeL_rws, coeL_rwn, L_hit, L_miss, L_nil, reduceEqDiff, ne_eq, reduceCtorEq, not_false_eq_true, true_and, and_true, and_self, exists_eq_left, exists_eq_right, List.mem_cons, List.not_mem_nil, or_false, AObj.row.injEq, AObj.box.injEq, exists_eq_left', exists_and_left, exists_eq, Nat.zero_lt_one, Nat.lt_add_one, List.map_cons, List.map_nil, AObj.ver, Nat.reduceLT, not_true_eq_false]) ?_
  rintro outs rows res ⟨n, next, v', a', s', rfl, rfl, rfl⟩
  refine ⟨rfl, by simp, by rw [Option.getD_some, yzl]; simp only [go_sem, yz0, Int.reduceLT, reduceLE, reduceToNat, reduceNeg, Nat.reduceLT, reduceLeDiff, reduceMul, reduceSub, reduceIte, reduceEqDiff, reduceAdd, reduceCtorEq], ?_⟩
  rw [Option.getD_some, callHp_mr (by omega)]
  have hslow : Con Try.prog nzi [] [iv 4] true fun outs rows res => outs = [] ∧ ∃ next v, Aut 4 next ∧ rows = [.row v 1 true (rws next)] ∧ res = .st [iv 4, .own 6000 v] := by
    refine Con.dnr (k_l02SlowN 4 (by omega)) ?_
    rintro o r x ⟨rfl, v, ps, hA, hd, rfl, rfl⟩
    refine ⟨rfl, ps.map (·.2), v, hA, ?_, ?_⟩
    · simp only [List.map_cons, List.map_nil, AObj.dn, dnL_rwp]
    · simp only [AVal.dn, dnL]
  simp only [Bz8h, Nat.not_lt_zero, range1, yzw, yzz, yz1b, yz1c, yz10, yz1d, yz1a, yz19, yzy, yzo, yzf, yz3, yzu, yzt, yzn, yzm, yzs, yz8, yzb, yze, yz9, yzj, yzh, yz4, yz6, yzc, yzd, yzi, yzk, List.range_zero, yz7, yz5, yza, yzr, yzl, yzp, AVal.fresh, freshL, yz1, yzg, AObj.fresh, id, Option.isSome_some, or_true, true_or, go_sem, yz0, Int.reduceLT, reduceLE, reduceToNat, reduceNeg, Nat.reduceLT, reduceLeDiff, reduceMul, reduceSub, reduceIte, reduceEqDiff, reduceAdd, reduceCtorEq]
  intro vs3
  refine yz12 (k_l01Ok n next) qCS trivial ?_
  cases hA : autB n next with
  | false =>
    simp only [Bz1p, Bz4p, go_sem, yz0, Int.reduceLT, reduceLE, reduceToNat, reduceNeg, Nat.reduceLT, reduceLeDiff, reduceMul, reduceSub, reduceIte, reduceEqDiff, reduceAdd, reduceCtorEq]
    intro vs5
    refine call_sh hslow qCS (fun e => by cases e) ?_
    rintro outs rows res ⟨rfl, next2, v2, A2, rfl, rfl⟩
    refine ⟨rfl, by simp, by rw [Option.getD_some, yzl]; simp only [go_sem, yz0, Int.reduceLT, reduceLE, reduceToNat, reduceNeg, Nat.reduceLT, reduceLeDiff, reduceMul, reduceSub, reduceIte, reduceEqDiff, reduceAdd, reduceCtorEq], ?_⟩
    simp only [← hQ, Azo, dnL_rws, Nat.not_lt_zero, range1, yzw, yzz, yz1b, yz1c, yz10, yz1d, yz1a, yz19, yzy, yzo, yzf, yz3, yzu, yzt, yzn, yzm, yzs, yz8, yzb, yze, yz9, yzj, yzh, yz4, yz6, yzc, yzd, yzi, yzk, List.range_zero, yz7, yz5, yza, yzr, yzl, yzp, AVal.fresh, freshL, yz1, yzg, AObj.fresh, id, Option.isSome_some, or_true, true_or, go_sem, yz0, Int.reduceLT, reduceLE, reduceToNat, reduceNeg, Nat.reduceLT, reduceLeDiff, reduceMul, reduceSub, reduceIte, reduceEqDiff, reduceAdd, reduceCtorEq]
    refine ⟨[16], by simp, by simp, by simp, ?_⟩
    simp only [Nat.not_lt_zero, range1, yzw, yzz, yz1b, yz1c, yz10, yz1d, yz1a, yz19, yzy, yzo, yzf, yz3, yzu, yzt, yzn, yzm, yzs, yz8, yzb, yze, yz9, yzj, yzh, yz4, yz6, yzc, yzd, yzi, yzk, List.range_zero, yz7, yz5, yza, yzr, yzl, yzp, AVal.fresh, freshL, yz1, yzg, AObj.fresh, id, Option.isSome_some, or_true, true_or, go_sem, yz0, Int.reduceLT, reduceLE, reduceToNat, reduceNeg, Nat.reduceLT, reduceLeDiff, reduceMul, reduceSub, reduceIte, reduceEqDiff, reduceAdd, reduceCtorEq]
    exact ⟨4, next2, _, A2, by omega, rfl, rfl⟩
  | true =>
    have A := autB_iff.1 hA
    by_cases h7 : n ≤ 7
    · simp only [decide_eq_true h7, Bz1p, ← hQ, Azo, dnL_rws, go_sem, yz0, Int.reduceLT, reduceLE, reduceToNat, reduceNeg, Nat.reduceLT, reduceLeDiff, reduceMul, reduceSub, reduceIte, reduceEqDiff, reduceAdd, reduceCtorEq]
      refine ⟨[8], by simp, by simp, by simp, ?_⟩
      simp only [Nat.not_lt_zero, range1, yzw, yzz, yz1b, yz1c, yz10, yz1d, yz1a, yz19, yzy, yzo, yzf, yz3, yzu, yzt, yzn, yzm, yzs, yz8, yzb, yze, yz9, yzj, yzh, yz4, yz6, yzc, yzd, yzi, yzk, List.range_zero, yz7, yz5, yza, yzr, yzl, yzp, AVal.fresh, freshL, yz1, yzg, AObj.fresh, id, Option.isSome_some, or_true, true_or, go_sem, yz0, Int.reduceLT, reduceLE, reduceToNat, reduceNeg, Nat.reduceLT, reduceLeDiff, reduceMul, reduceSub, reduceIte, reduceEqDiff, reduceAdd, reduceCtorEq]
      exact ⟨n, next, _, A, h7, rfl, rfl⟩
    · simp only [Bz1p, Bz4p, decide_eq_false h7, go_sem, yz0, Int.reduceLT, reduceLE, reduceToNat, reduceNeg, Nat.reduceLT, reduceLeDiff, reduceMul, reduceSub, reduceIte, reduceEqDiff, reduceAdd, reduceCtorEq]
      intro vs5
      refine call_sh hslow qCS (fun e => by cases e) ?_
      rintro outs rows res ⟨rfl, next2, v2, A2, rfl, rfl⟩
      refine ⟨rfl, by simp, by rw [Option.getD_some, yzl]; simp only [go_sem, yz0, Int.reduceLT, reduceLE, reduceToNat, reduceNeg, Nat.reduceLT, reduceLeDiff, reduceMul, reduceSub, reduceIte, reduceEqDiff, reduceAdd, reduceCtorEq], ?_⟩
      simp only [← hQ, Azo, dnL_rws, Nat.not_lt_zero, range1, yzw, yzz, yz1b, yz1c, yz10, yz1d, yz1a, yz19, yzy, yzo, yzf, yz3, yzu, yzt, yzn, yzm, yzs, yz8, yzb, yze, yz9, yzj, yzh, yz4, yz6, yzc, yzd, yzi, yzk, List.range_zero, yz7, yz5, yza, yzr, yzl, yzp, AVal.fresh, freshL, yz1, yzg, AObj.fresh, id, Option.isSome_some, or_true, true_or, go_sem, yz0, Int.reduceLT, reduceLE, reduceToNat, reduceNeg, Nat.reduceLT, reduceLeDiff, reduceMul, reduceSub, reduceIte, reduceEqDiff, reduceAdd, reduceCtorEq]
      refine ⟨[16], by simp, by simp, by simp, ?_⟩
      simp only [Nat.not_lt_zero, range1, yzw, yzz, yz1b, yz1c, yz10, yz1d, yz1a, yz19, yzy, yzo, yzf, yz3, yzu, yzt, yzn, yzm, yzs, yz8, yzb, yze, yz9, yzj, yzh, yz4, yz6, yzc, yzd, yzi, yzk, List.range_zero, yz7, yz5, yza, yzr, yzl, yzp, AVal.fresh, freshL, yz1, yzg, AObj.fresh, id, Option.isSome_some, or_true, true_or, go_sem, yz0, Int.reduceLT, reduceLE, reduceToNat, reduceNeg, Nat.reduceLT, reduceLeDiff, reduceMul, reduceSub, reduceIte, reduceEqDiff, reduceAdd, reduceCtorEq]
      exact ⟨4, next2, _, A2, by omega, rfl, rfl⟩
end Go.Ab
namespace Go.Ab
structure ClS (n : Int) (next : List (List Int)) (set : List Int) : Prop where
  rg : ∀ x ∈ set, 0 ≤ x ∧ x < n
  cl : ∀ x ∈ set, ∀ row ∈ next, row.getD x.toNat 0 ∈ set
theorem renR_len {set row : List Int} : (renR set row).length = set.length := by simp [renR]
theorem Aut.rest {n : Int} {next : List (List Int)} {set : List Int} (A : Aut n next) (C : ClS n next set) (h0 : 1 ≤ set.length) (h1 : set.length ≤ 10) : Aut set.length (next.map (renR set)) := by
  have l1 := A.l1
  have l2 := A.l2
  refine ⟨by omega, by omega, by rw [List.length_map]; omega, by rw [List.length_map]; omega, ?_⟩
  intro row hr
  obtain ⟨row, hr', rfl⟩ := List.mem_map.1 hr
  refine ⟨by rw [renR_len], fun x hx => ?_⟩
  obtain ⟨s, hs, rfl⟩ := List.mem_map.1 hx
  obtain ⟨i, h1, h2, h3⟩ := fidx_eq 0 (C.cl s hs row hr')
  simp only [h1, Nat.zero_add]
  omega
end Go.Ab
namespace Go.Ab
open Go.Proofs
end Go.Ab
namespace Go.Ab
open Go.Proofs
theorem k_FnGreedy (code more : List Int) (hb : ∀ x ∈ code, 0 ≤ x ∧ x ≤ 255) (hb2 : ∀ x ∈ more, 0 ≤ x ∧ x ≤ 255) :
    Fun Try.prog nz85 [.ro (some (some 0)) 1 (intsK .u8 code), .ro (some (some 0)) 1 (intsK .u8 more)] (bv true) := by
  refine fun_of mixed czhy rfl ⟨rfl, trivial⟩ ?_
  simp only [Az8e, Bz8d, go_sem, yz0, Int.reduceLT, reduceLE, reduceToNat, reduceNeg, Nat.reduceLT, reduceLeDiff, reduceMul, reduceSub, reduceIte, reduceEqDiff, reduceAdd, reduceCtorEq]
  intro vs
  refine yz12 (k_a2Long code more) qCS trivial ?_
  simp only [Bz86, Bz8c, go_sem, yz0, Int.reduceLT, reduceLE, reduceToNat, reduceNeg, Nat.reduceLT, reduceLeDiff, reduceMul, reduceSub, reduceIte, reduceEqDiff, reduceAdd, reduceCtorEq]
  intro _ vs2
  refine call_sh (k_A2Automaton code hb) qCS (fun e => by cases e) ?_
  rintro outs rows res ⟨rfl, n, next, v, A, n7, rfl, rfl⟩
  refine ⟨rfl, by simp, by rw [Option.getD_some, yzl]; simp only [go_sem, yz0, Int.reduceLT, reduceLE, reduceToNat, reduceNeg, Nat.reduceLT, reduceLeDiff, reduceMul, reduceSub, reduceIte, reduceEqDiff, reduceAdd, reduceCtorEq], ?_⟩
  have n1 := A.n1
  have n2 := A.n2
  have hp := Nat.two_pow_pos n.toNat
  have e60 : ((6 : Int) != 0) = true := rfl
  have e66 : ((6 : Int) != 6) = false := rfl
  have e00 : ((0 : Int) != 0) = false := rfl
  have ez : ((0 : Int) == 0) = true := rfl
  simp only [Bz8b, Nat.not_lt_zero, range1, yzw, yzz, yz1b, yz1c, yz10, yz1d, yz1a, yz19, yzy, yzo, yzf, yz3, yzu, yzt, yzn, yzm, yzs, yz8, yzb, yze, yz9, yzj, yzh, yz4, yz6, yzc, yzd, yzi, yzk, List.range_zero, yz7, yz5, yza, yzr, yzl, yzp, AVal.fresh, freshL, yz1, yzg, AObj.fresh, id, Option.isSome_some, or_true, true_or, go_sem, yz0, Int.reduceLT, reduceLE, reduceToNat, reduceNeg, Nat.reduceLT, reduceLeDiff, reduceMul, reduceSub, reduceIte, reduceEqDiff, reduceAdd, reduceCtorEq]
  intro vs3
  refine call_fn (k_specGreedyReset n next A) qCS (fun e => by cases e) ?_
  rintro rows res ⟨v23, xs, c, rfl, rfl, hc⟩
  refine ⟨by simp, by rw [Option.getD_some, yzl]; simp only [go_sem, yz0, Int.reduceLT, reduceLE, reduceToNat, reduceNeg, Nat.reduceLT, reduceLeDiff, reduceMul, reduceSub, reduceIte, reduceEqDiff, reduceAdd, reduceCtorEq], ?_⟩
  simp only [Option.getD_some, Bz8a, Nat.not_lt_zero, range1, yzw, yzz, yz1b, yz1c, yz10, yz1d, yz1a, yz19, yzy, yzo, yzf, yz3, yzu, yzt, yzn, yzm, yzs, yz8, yzb, yze, yz9, yzj, yzh, yz4, yz6, yzc, yzd, yzi, yzk, List.range_zero, yz7, yz5, yza, yzr, yzl, yzp, AVal.fresh, freshL, yz1, yzg, AObj.fresh, id, Option.isSome_some, or_true, true_or, go_sem, yz0, Int.reduceLT, reduceLE, reduceToNat, reduceNeg, Nat.reduceLT, reduceLeDiff, reduceMul, reduceSub, reduceIte, reduceEqDiff, reduceAdd, reduceCtorEq]
  intro vs4
  refine call_fn (k_GreedyReset n next A) qCS (fun e => by cases e) ?_
  have hcan := tour_can A
  have hlow := fun p h w hw hs => first_le A (f := 2 ^ n.toNat - 1) (by omega) (p := p) h (w := w) hw hs
  rintro rows res (⟨v28, w, hw, rfl, rfl⟩ | ⟨hn, rfl, rfl⟩)
  · obtain rfl : c = 0 := by
      rcases hc with ⟨h, _⟩ | ⟨_, h⟩
      · exact h
      · exact absurd hw.cn h
    refine ⟨by simp, by rw [Option.getD_some, yzl]; simp only [go_sem, yz0, Int.reduceLT, reduceLE, reduceToNat, reduceNeg, Nat.reduceLT, reduceLeDiff, reduceMul, reduceSub, reduceIte, reduceEqDiff, reduceAdd, reduceCtorEq], ?_⟩
    simp only [Option.getD_some, Bz4o, Nat.not_lt_zero, range1, yzw, yzz, yz1b, yz1c, yz10, yz1d, yz1a, yz19, yzy, yzo, yzf, yz3, yzu, yzt, yzn, yzm, yzs, yz8, yzb, yze, yz9, yzj, yzh, yz4, yz6, yzc, yzd, yzi, yzk, List.range_zero, yz7, yz5, yza, yzr, yzl, yzp, AVal.fresh, freshL, yz1, yzg, AObj.fresh, id, Option.isSome_some, or_true, true_or, go_sem, yz0, Int.reduceLT, reduceLE, reduceToNat, reduceNeg, Nat.reduceLT, reduceLeDiff, reduceMul, reduceSub, reduceIte, reduceEqDiff, reduceAdd, reduceCtorEq]
    intro vs5
    refine call_ste (k_ShortestH n next A) rfl rfl qCS ?_
    have hsm := (small_can A hw.wd).2 (img_can n1 hw.rs)
    have hF := hcan.2 hw.cn
    unfold shortR
    generalize firstT (tourT next (2 ^ n.toNat - 1)) = F at hF hlow ⊢
    obtain ⟨⟨g, u⟩, rfl⟩ := Option.isSome_iff_exists.1 hF
    have hle := hlow _ rfl w hw.wd hsm
    have hbd := hw.le
    have hel := every_len n.toNat (by omega)
    rw [show ((n.toNat : Nat) : Int) = n by omega] at hel
    have hel2 : (n.toNat - 1) * n.toNat ≤ 6 * 7 := Nat.mul_le_mul (by omega) (by omega)
    have hel3 : (n.toNat - 1) * (every n).length ≤ 6 * 21 := Nat.mul_le_mul (by omega) (by omega)
    have hwB : wordB next.length w = true := wordB_iff.2 ⟨by omega, hw.wd⟩
    have hR := k_IsReset n next w
    rw [autB_iff.2 A, hwB] at hR
    have hd : decide ((imgA n next w).length = 1) = true := decide_eq_true hw.rs
    rw [hd] at hR
    have hbo := bound_ok n.toNat (by omega) (by omega)
    rw [show ((n.toNat : Nat) : Int) = n by omega] at hbo
    have hlb : (w.length : Int) ≤ (n - 1) * n * (n - 1) / 2 := by omega
    have hul : (u.length : Int) ≤ w.length := by have : u.length ≤ w.length := hle; omega
    simp only [Option.getD_some, e00, Bz4n, Bz4k, Bz4m, Bz4l, Bz89, Nat.not_lt_zero, range1, yzw, yzz, yz1b, yz1c, yz10, yz1d, yz1a, yz19, yzy, yzo, yzf, yz3, yzu, yzt, yzn, yzm, yzs, yz8, yzb, yze, yz9, yzj, yzh, yz4, yz6, yzc, yzd, yzi, yzk, List.range_zero, yz7, yz5, yza, yzr, yzl, yzp, AVal.fresh, freshL, yz1, yzg, AObj.fresh, id, Option.isSome_some, or_true, true_or, go_sem, yz0, Int.reduceLT, reduceLE, reduceToNat, reduceNeg, Nat.reduceLT, reduceLeDiff, reduceMul, reduceSub, reduceIte, reduceEqDiff, reduceAdd, reduceCtorEq]
    intro vs6
    refine call_fun2 hR qCS ?_
    simp only [Bz88, Bool.and_self, codeI, if_true, Nat.not_lt_zero, range1, yzw, yzz, yz1b, yz1c, yz10, yz1d, yz1a, yz19, yzy, yzo, yzf, yz3, yzu, yzt, yzn, yzm, yzs, yz8, yzb, yze, yz9, yzj, yzh, yz4, yz6, yzc, yzd, yzi, yzk, List.range_zero, yz7, yz5, yza, yzr, yzl, yzp, AVal.fresh, freshL, yz1, yzg, AObj.fresh, id, Option.isSome_some, or_true, true_or, go_sem, yz0, Int.reduceLT, reduceLE, reduceToNat, reduceNeg, Nat.reduceLT, reduceLeDiff, reduceMul, reduceSub, reduceIte, reduceEqDiff, reduceAdd, reduceCtorEq]
    intro vs7
    refine call_fun2 (k_ResetBound n n1 n2) qCS ?_
    simp only [Bz87, ez, decide_eq_true hlb, decide_eq_true hul, Nat.not_lt_zero, range1, yzw, yzz, yz1b, yz1c, yz10, yz1d, yz1a, yz19, yzy, yzo, yzf, yz3, yzu, yzt, yzn, yzm, yzs, yz8, yzb, yze, yz9, yzj, yzh, yz4, yz6, yzc, yzd, yzi, yzk, List.range_zero, yz7, yz5, yza, yzr, yzl, yzp, AVal.fresh, freshL, yz1, yzg, AObj.fresh, id, Option.isSome_some, or_true, true_or, go_sem, yz0, Int.reduceLT, reduceLE, reduceToNat, reduceNeg, Nat.reduceLT, reduceLeDiff, reduceMul, reduceSub, reduceIte, reduceEqDiff, reduceAdd, reduceCtorEq]
  · obtain rfl : c = 6 := by
      rcases hc with ⟨_, h⟩ | ⟨h, _⟩
      · exact absurd h hn
      · exact h
    refine ⟨by simp, by rw [Option.getD_some, yzr]; simp only [go_sem, yz0, Int.reduceLT, reduceLE, reduceToNat, reduceNeg, Nat.reduceLT, reduceLeDiff, reduceMul, reduceSub, reduceIte, reduceEqDiff, reduceAdd, reduceCtorEq], ?_⟩
    simp only [Option.getD_some, Bz4o, Nat.not_lt_zero, range1, yzw, yzz, yz1b, yz1c, yz10, yz1d, yz1a, yz19, yzy, yzo, yzf, yz3, yzu, yzt, yzn, yzm, yzs, yz8, yzb, yze, yz9, yzj, yzh, yz4, yz6, yzc, yzd, yzi, yzk, List.range_zero, yz7, yz5, yza, yzr, yzl, yzp, AVal.fresh, freshL, yz1, yzg, AObj.fresh, id, Option.isSome_some, or_true, true_or, go_sem, yz0, Int.reduceLT, reduceLE, reduceToNat, reduceNeg, Nat.reduceLT, reduceLeDiff, reduceMul, reduceSub, reduceIte, reduceEqDiff, reduceAdd, reduceCtorEq]
    intro vs5
    refine call_ste (k_ShortestH n next A) rfl rfl qCS ?_
    unfold shortR
    have hF : firstT (tourT next (2 ^ n.toNat - 1)) = none := by
      cases h : firstT (tourT next (2 ^ n.toNat - 1)) with
      | none => rfl
      | some p => exact absurd (hcan.1 (by rw [h]; rfl)) hn
    rw [hF]
    simp only [Option.getD_some, e66, e60, Bz4n, Bz4k, Bz4m, Bz4l, Nat.not_lt_zero, range1, yzw, yzz, yz1b, yz1c, yz10, yz1d, yz1a, yz19, yzy, yzo, yzf, yz3, yzu, yzt, yzn, yzm, yzs, yz8, yzb, yze, yz9, yzj, yzh, yz4, yz6, yzc, yzd, yzi, yzk, List.range_zero, yz7, yz5, yza, yzr, yzl, yzp, AVal.fresh, freshL, yz1, yzg, AObj.fresh, id, Option.isSome_some, or_true, true_or, go_sem, yz0, Int.reduceLT, reduceLE, reduceToNat, reduceNeg, Nat.reduceLT, reduceLeDiff, reduceMul, reduceSub, reduceIte, reduceEqDiff, reduceAdd, reduceCtorEq]
end Go.Ab
