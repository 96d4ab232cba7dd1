/- Contracts and what they lean on, part 9. Conditions: none. -/
import Derived.Test.YticmjogoejkgjaaZ8
set_option maxRecDepth 100000
set_option maxHeartbeats 4000000
set_option linter.all false
open Nat (reduceLeDiff reduceMul reduceSub reduceEqDiff reduceAdd)
open Int (reduceToNat reduceNeg reduceLE)
namespace Go.Ab
open Go.Proofs
abbrev bls2 (bs : List Bool) : List AVal := bs.map bv
theorem dnL_bls2 {bs : List Bool} : dnL (bls2 bs) = bls2 bs := by simp [dnL_eq, AVal.dn]
theorem bls2_getD {bs : List Bool} {i : Nat} (h : i < bs.length) : (bls2 bs).getD i .any = bv (bs.getD i false) := by
  rw [List.getD_eq_getElem?_getD, List.getElem?_map, List.getElem?_eq_getElem h, List.getD_eq_getElem?_getD, List.getElem?_eq_getElem h]; rfl
theorem bls2_put {bs : List Bool} {i : Nat} {b : Bool} : (bls2 bs).take i ++ [bv b] ++ (bls2 bs).drop (i + 1) = bls2 (bs.take i ++ [b] ++ bs.drop (i + 1)) := by
  simp only [List.map_append, List.map_take, List.map_drop, List.map_cons, List.map_nil]
abbrev walkP (L : TS) (B C : List Int) : AVal := .rp [.ro none 1 (ints (setsI L)), .ro none 1 (ints B), .ro none 1 (ints C)] 0
abbrev WalkR (L : TS) (rows : List AObj) (res : AVal) : Prop :=
  ∃ v va vb vc B C, BT L B C ∧ rows = [.box v [.own 6001 va, .own 6002 vb, .own 6003 vc], .row va 1 true (ints (setsI L)), .row vb 1 true (ints B), .row vc 1 true (ints C)] ∧ res = .ptr 6000 v 0
theorem k_l02From (n : Int) (next : List (List Int)) (A : Aut n next) (f : Nat) (hf : f < 2 ^ n.toNat) :
    Fn Try.prog nz46 [autP n next, iv f] (WalkR (tourT next f)) := by
  refine con_of mixed czje rfl (by simp) ?_
  have n1 := A.n1
  have n2 := A.n2
  have l2 := A.l2
  have hN := pow_lt10' (k := n.toNat) (by omega)
  generalize hQ : finQ _ = Q
  have h64 : IntKind.u64.wrap n = n := by rw [show n = ((n.toNat : Nat) : Int) by omega]; exact u64w (by omega)
  have hn0 : ¬ n < 0 := by omega
  have hsl := i_shl (b := n.toNat) (by omega)
  have hp0 : ¬ ((2 ^ n.toNat : Nat) : Int) < 0 := by omega
  simp only [Az77, Bzg1, go_sem, yz0, Int.reduceLT, reduceLE, reduceToNat, reduceNeg, Nat.reduceLT, reduceLeDiff, reduceMul, reduceSub, reduceIte, reduceEqDiff, reduceAdd, reduceCtorEq]
  intro vs
  refine ⟨⟨_, rfl, rfl⟩, ⟨_, rfl, rfl⟩, ⟨_, rfl, rfl⟩, ?_⟩
  simp only [Bzg0, h64, hn0, hsl, go_sem, yz0, Int.reduceLT, reduceLE, reduceToNat, reduceNeg, Nat.reduceLT, reduceLeDiff, reduceMul, reduceSub, reduceIte, reduceEqDiff, reduceAdd, reduceCtorEq]
  intro vs2
  refine ⟨⟨by omega, Int.le_refl _, by omega, by omega⟩, ?_⟩
  have hrep : (List.replicate (2 ^ n.toNat) [AVal.val (Value.bool false)]).flatten = bls2 (List.replicate (2 ^ n.toNat) false) := by
    induction 2 ^ n.toNat with
    | zero => rfl
    | succ k ih => rw [List.replicate_succ, List.flatten_cons, ih, List.replicate_succ]; rfl
  simp only [Int.toNat_natCast, List.map_cons, List.map_nil, hrep, dnL_bls2, Bzfz, go_sem, yz0, Int.reduceLT, reduceLE, reduceToNat, reduceNeg, Nat.reduceLT, reduceLeDiff, reduceMul, reduceSub, reduceIte, reduceEqDiff, reduceAdd, reduceCtorEq]
  refine ⟨⟨by omega, by rw [List.length_replicate]; exact hf⟩, by rw [List.length_replicate]; exact hf, ?_⟩
  rw [bls2_put, seenT_one hf]
  simp only [dnL_bls2, Bzfy, Bzfw, go_sem, yz0, Int.reduceLT, reduceLE, reduceToNat, reduceNeg, Nat.reduceLT, reduceLeDiff, reduceMul, reduceSub, reduceIte, reduceEqDiff, reduceAdd, reduceCtorEq]
  refine wpD_lo (fun (_, _, _, i, _, _, _) => 1100 - i)
    (fun (_, _, _, i, L, B, C) => TI n.toNat next.length L ∧ i ≤ List.length L ∧ runT next (1100 - i) i L = tourT next f ∧ BT L B C)
    (fun ((va, vb, vc, i, L, B, C) : Nat × Nat × Nat × Nat × TS × List Int × List Int) => ⟨Go.Ab.L .any [(0, autP n next), (5, .ptr 15 (vs 5 0) 0), (6, .own 22 (vs2 6 0)), (7, iv i)],
      Go.Ab.L .gone [(11, .row va 1 true (ints (setsI L))), (12, .row vb 1 true (ints B)), (13, .row vc 1 true (ints C)), (15, .box (vs 5 0) [.own 11 va, .own 12 vb, .own 13 vc]), (22, .row (vs2 6 0) 1 true (bls2 (seenT (2 ^ n.toNat) L)))]⟩)
    (_, _, _, 0, [(f, [])], [-1], [0]) ⟨TI0 hf, by simp, rfl, BT0⟩ (by simp only [Bz31, dnL_bls2, go_sem, yz0, Int.reduceLT, reduceLE, reduceToNat, reduceNeg, Nat.reduceLT, reduceLeDiff, reduceMul, reduceSub, reduceIte, reduceEqDiff, reduceAdd, reduceCtorEq]; try rfl) ?_
  rintro ⟨va, vb, vc, i, L, B, C⟩ ⟨hI, hi, hR, hB⟩
  have hi : i ≤ L.length := hi
  have hlen := hI.len
  by_cases hlt : (i : Int) < L.length
  · have hlt1 : i < L.length := by omega
    have hls : i < (setsI L).length := by simpa using hlt1
    have hm := yz11 hlt1 (0, ([] : List Int))
    have hfi := hI.rg _ hm
    have hwi := hI.wd _ hm
    simp only [Bz31, Bz72, Bzfv, Bzft, dnL_bls2, List.length_map, decide_eq_true hlt, go_sem, yz0, Int.reduceLT, reduceLE, reduceToNat, reduceNeg, Nat.reduceLT, reduceLeDiff, reduceMul, reduceSub, reduceIte, reduceEqDiff, reduceAdd, reduceCtorEq]
    intro hM
    generalize hfw : L.getD i (0, []) = fw at hm hfi hwi ⊢
    refine wpD_lo (fun (_, _, _, x, _, _, _) => next.length - x)
      (fun (_, _, _, x, L', B', C') => x ≤ next.length ∧ L' = visT next fw.1 fw.2 x L ∧ BT L' B' C')
      (fun ((va, vb, vc, x, L', B', C') : Nat × Nat × Nat × Nat × TS × List Int × List Int) => ⟨Go.Ab.L .any [(0, autP n next), (5, .ptr 15 (vs 5 0) 0), (6, .own 22 (vs2 6 0)), (7, iv i), (8, iv x)],
        Go.Ab.L .gone [(11, .row va 1 true (ints (setsI L'))), (12, .row vb 1 true (ints B')), (13, .row vc 1 true (ints C')), (15, .box (vs 5 0) [.own 11 va, .own 12 vb, .own 13 vc]), (22, .row (vs2 6 0) 1 true (bls2 (seenT (2 ^ n.toNat) L')))]⟩)
      (_, _, _, 0, L, B, C) ⟨by simp, rfl, hB⟩ (by simp only [Bz30, dnL_bls2, go_sem, yz0, Int.reduceLT, reduceLE, reduceToNat, reduceNeg, Nat.reduceLT, reduceLeDiff, reduceMul, reduceSub, reduceIte, reduceEqDiff, reduceAdd, reduceCtorEq]; try rfl) ?_
    rintro ⟨va, vb, vc, x, L', B', C'⟩ ⟨hx, rfl, hB'⟩
    have hx : x ≤ next.length := hx
    have hB' : BT (visT next fw.1 fw.2 x L) B' C' := hB'
    obtain ⟨hI', t, hpre⟩ := visT_ok A hI hlt1 x hx
    rw [hfw] at hI' hpre
    generalize hV : visT next fw.1 fw.2 x L = L' at hI' hpre hB' ⊢
    have hlen' := hI'.len
    have hi2 : i < L'.length := by rw [hpre, List.length_append]; omega
    have hat : L'.getD i (0, []) = fw := by rw [hpre, getD_app hlt1, hfw]
    by_cases hxl : (x : Int) < next.length
    · have hxl1 : x < next.length := by omega
      have hto := stepN_lt A hxl1 hfi
      have w1 : IntKind.i64.wrap ((x : Int) + 1) = ((x + 1 : Nat) : Int) := by rw [w64 (by omega)]; simp
      have hls2 : i < (setsI L').length := by simpa using hi2
      have hsg := setsI_getD hi2
      rw [hat] at hsg
      have hrow := A.row _ (yz11 hxl1 [])
      simp only [Bz30, Bz73, Bzfs, dnL_bls2, List.length_map, rwn_getD hxl1, yzv hls2, hsg, decide_eq_true hxl, go_sem, yz0, Int.reduceLT, reduceLE, reduceToNat, reduceNeg, Nat.reduceLT, reduceLeDiff, reduceMul, reduceSub, reduceIte, reduceEqDiff, reduceAdd, reduceCtorEq]
      intro hMx vs3
      refine ⟨⟨by omega, hxl1⟩, hxl1, ⟨by omega, hi2⟩, hi2, ?_⟩
      have hrl : (next.getD x []).length = n.toNat := by have := hrow.1; omega
      refine yz12 (k_l02Moved (next.getD x []) fw.1 (by omega) (fun y hy => by have := hrow.2 y hy; omega) (by rw [hrl]; exact hfi)) qCS trivial ?_
      have hsucc := visT_succ (next := next) (f := fw.1) (w := fw.2) (x := x) (L := L)
      rw [hV] at hsucc
      generalize stepN (next.getD x []) fw.1 = to at hto hsucc ⊢
      have hsn : (bls2 (seenT (2 ^ n.toNat) L')).getD to .any = bv (hasT L' to) := by rw [bls2_getD (by rw [seenT_len]; exact hto), seenT_getD hto]
      cases hh : hasT L' to with
      | true =>
        rw [hh] at hsn
        rw [hh, if_pos rfl] at hsucc
        simp only [Bz75, Bz74, Bz76, hsn, List.length_map, seenT_len, w1, dnL_bls2, go_sem, yz0, Int.reduceLT, reduceLE, reduceToNat, reduceNeg, Nat.reduceLT, reduceLeDiff, reduceMul, reduceSub, reduceIte, reduceEqDiff, reduceAdd, reduceCtorEq]
        refine ⟨⟨by omega, hto⟩, hto, ?_⟩
        exact ⟨(_, _, _, x + 1, _, _, _), by dsimp only; omega, ⟨by dsimp only; omega, hsucc.symm, hB'⟩, rfl⟩
      | false =>
        rw [hh] at hsn
        rw [hh, if_neg (by simp)] at hsucc
        have hB2 := hB'.add hi2 to x
        rw [hat] at hB2
        have lb := hB'.lb
        have lc := hB'.lc
        simp only [Bz75, Bz74, hsn, List.length_map, seenT_len, dnL_bls2, go_sem, yz0, Int.reduceLT, reduceLE, reduceToNat, reduceNeg, Nat.reduceLT, reduceLeDiff, reduceMul, reduceSub, reduceIte, reduceEqDiff, reduceAdd, reduceCtorEq]
        refine ⟨⟨by omega, hto⟩, hto, ⟨by omega, hto⟩, hto, ?_⟩
        rw [bls2_put, ← seenT_add (w := fw.2 ++ [(x : Int)]) hto]
        simp only [Bzfr, dnL_bls2, List.length_map, go_sem, yz0, Int.reduceLT, reduceLE, reduceToNat, reduceNeg, Nat.reduceLT, reduceLeDiff, reduceMul, reduceSub, reduceIte, reduceEqDiff, reduceAdd, reduceCtorEq]
        intro vs4
        refine ⟨⟨_, rfl, rfl⟩, by omega, ?_⟩
        simp only [Bzfq, dnL_bls2, List.length_map, go_sem, yz0, Int.reduceLT, reduceLE, reduceToNat, reduceNeg, Nat.reduceLT, reduceLeDiff, reduceMul, reduceSub, reduceIte, reduceEqDiff, reduceAdd, reduceCtorEq]
        intro vs5
        refine ⟨⟨_, rfl, rfl⟩, by omega, ?_⟩
        simp only [Bzfp, dnL_bls2, List.length_map, go_sem, yz0, Int.reduceLT, reduceLE, reduceToNat, reduceNeg, Nat.reduceLT, reduceLeDiff, reduceMul, reduceSub, reduceIte, reduceEqDiff, reduceAdd, reduceCtorEq]
        intro vs6
        refine ⟨⟨_, rfl, rfl⟩, by omega, ?_⟩
        simp only [Bz76, w1, dnL_bls2, go_sem, yz0, Int.reduceLT, reduceLE, reduceToNat, reduceNeg, Nat.reduceLT, reduceLeDiff, reduceMul, reduceSub, reduceIte, reduceEqDiff, reduceAdd, reduceCtorEq]
        exact ⟨(vs4 7 0, vs5 7 0, vs6 7 0, x + 1, L' ++ [(to, fw.2 ++ [(x : Int)])], B' ++ [(i : Int)], C' ++ [(x : Int)]), by dsimp only; omega, ⟨by dsimp only; omega, hsucc.symm, hB2⟩, by simp only [List.map_append, List.map_cons, List.map_nil]⟩
    · have : x = next.length := by omega
      subst this
      have w2 : IntKind.i64.wrap ((i : Int) + 1) = ((i + 1 : Nat) : Int) := by rw [w64 (by omega)]; simp
      simp only [Bz30, Bz73, Bzfu, dnL_bls2, w2, decide_eq_false hxl, go_sem, yz0, Int.reduceLT, reduceLE, reduceToNat, reduceNeg, Nat.reduceLT, reduceLeDiff, reduceMul, reduceSub, reduceIte, reduceEqDiff, reduceAdd, reduceCtorEq]
      intro _
      obtain ⟨F, hF⟩ : ∃ F, 1100 - i = F + 1 := ⟨1099 - i, by omega⟩
      have hF2 : 1100 - (i + 1) = F := by omega
      rw [hF] at hR
      simp only [runT, if_pos hlt1, hfw, hV] at hR
      exact ⟨(_, _, _, i + 1, L', B', C'), by dsimp only; omega, ⟨hI', by dsimp only; omega, by dsimp only; rw [hF2]; exact hR, by dsimp only; first | exact hB' | (rw [← hV]; exact hB')⟩, rfl⟩
  · have : i = L.length := by omega
    subst this
    have hend : L = tourT next f := by
      obtain ⟨F, hF⟩ : ∃ F, 1100 - L.length = F + 1 := ⟨1099 - L.length, by omega⟩
      rw [← hR, hF]; simp only [runT, Nat.lt_irrefl, if_false]
    simp only [Bz31, Bz72, Bzfx, List.length_map, dnL_bls2, decide_eq_false hlt, Az77, ← hQ, go_sem, yz0, Int.reduceLT, reduceLE, reduceToNat, reduceNeg, Nat.reduceLT, reduceLeDiff, reduceMul, reduceSub, reduceIte, reduceEqDiff, reduceAdd, reduceCtorEq]
    intro hM
    refine ⟨[15, 11, 12, 13], by simp, by simp, by simp, ?_⟩
    have e3 : AVal.ren (expo [15, 11, 12, 13]) id (AVal.own 13 vc) = .own 6003 vc := ren_own (expo_id (i := 3) (by simp) rfl (by omega))
    simp only [WalkR, e3, Nat.not_lt_zero, range1, yzw, yzz, yz1b, yz1c, yz10, yz1d, yz1a, yz19, yzy, yzo, yzf, yz3, yzu, yzt, yzn, yzm, yzs, yz8, yzb, yze, yz9, yzj, yzh, yz4, yz6, yzc, yzd, yzi, yzk, List.range_zero, yz7, yz5, yza, yzr, yzl, yzp, AVal.fresh, freshL, yz1, yzg, AObj.fresh, id, Option.isSome_some, or_true, true_or, go_sem, yz0, Int.reduceLT, reduceLE, reduceToNat, reduceNeg, Nat.reduceLT, reduceLeDiff, reduceMul, reduceSub, reduceIte, reduceEqDiff, reduceAdd, reduceCtorEq]
    exact ⟨_, _, _, _, B, C, by rw [← hend]; exact hB, by rw [hend], rfl⟩
end Go.Ab
namespace Go.Ab
open Go.Proofs
theorem k_l02Walk_word (L : TS) (B C : List Int) (hB : BT L B C) (k : Nat) (hk : k < L.length) (hL : L.length ≤ 2000) :
    RowI Try.prog nz48 [walkP L B C, iv k] (fun ys => ys = (L.getD k (0, [])).2) := by
  refine rowI_of mixed czjg rfl ?_
  have lb := hB.lb
  have lc := hB.lc
  simp only [Azgc, Bzgb, go_sem, yz0, Int.reduceLT, reduceLE, reduceToNat, reduceNeg, Nat.reduceLT, reduceLeDiff, reduceMul, reduceSub, reduceIte, reduceEqDiff, reduceAdd, reduceCtorEq]
  intro vs
  simp only [Bzga, go_sem, yz0, Int.reduceLT, reduceLE, reduceToNat, reduceNeg, Nat.reduceLT, reduceLeDiff, reduceMul, reduceSub, reduceIte, reduceEqDiff, reduceAdd, reduceCtorEq]
  refine wpD_lo (fun (_, a, _) => a) (fun (_, a, bk) => a < L.length ∧ (L.getD k (0, [])).2 = (L.getD a (0, [])).2 ++ (bk : List Int).reverse ∧ bk.length + a ≤ k)
    (fun ((v, a, bk) : Nat × Nat × List Int) => ⟨Go.Ab.L .any [(0, walkP L B C), (1, iv a), (5, .own 8 v)], Go.Ab.L .gone [(8, .row v 1 true (ints bk))]⟩)
    (_, k, []) ⟨hk, by simp, by simp⟩ (by simp only [Bz32, go_sem, yz0, Int.reduceLT, reduceLE, reduceToNat, reduceNeg, Nat.reduceLT, reduceLeDiff, reduceMul, reduceSub, reduceIte, reduceEqDiff, reduceAdd, reduceCtorEq]; try rfl) ?_
  rintro ⟨v, a, bk⟩ ⟨ha, he, hl⟩
  have ha : a < L.length := ha
  have hl : bk.length + a ≤ k := hl
  have he : (L.getD k (0, [])).2 = (L.getD a (0, [])).2 ++ bk.reverse := he
  have hab : a < B.length := by omega
  have hac : a < C.length := by omega
  rcases hB.wd a ha with ⟨h1, h2⟩ | ⟨h1, h2, h3⟩
  · have hd : ¬ B.getD a 0 ≥ 0 := by omega
    rw [h2, List.nil_append] at he
    simp only [Bz32, Bz7a, Bzg9, Bzg8, yzv hab, decide_eq_false hd, go_sem, yz0, Int.reduceLT, reduceLE, reduceToNat, reduceNeg, Nat.reduceLT, reduceLeDiff, reduceMul, reduceSub, reduceIte, reduceEqDiff, reduceAdd, reduceCtorEq]
    refine ⟨⟨by omega, hab⟩, hab, ?_⟩
    intro vs2 hM
    have w1 : IntKind.i64.wrap ((bk.length : Int) - 1) = (bk.length : Int) - 1 - ((0 : Nat) : Int) := by rw [w64 (by omega)]; omega
    simp only [w1, Bzg6, go_sem, yz0, Int.reduceLT, reduceLE, reduceToNat, reduceNeg, Nat.reduceLT, reduceLeDiff, reduceMul, reduceSub, reduceIte, reduceEqDiff, reduceAdd, reduceCtorEq]
    refine wpD_lo (fun (_, j) => bk.length - j) (fun (_, j) => j ≤ bk.length)
      (fun ((v2, j) : Nat × Nat) => ⟨Go.Ab.L .any [(5, .own 8 v), (6, .own 34 v2), (7, iv ((bk.length : Int) - 1 - (j : Nat)))], Go.Ab.L .gone [(8, .row v 1 true (ints bk)), (34, .row v2 1 true (ints (bk.reverse.take j)))]⟩)
      (_, 0) (by simp) (by simp only [Bz33, go_sem, yz0, Int.reduceLT, reduceLE, reduceToNat, reduceNeg, Nat.reduceLT, reduceLeDiff, reduceMul, reduceSub, reduceIte, reduceEqDiff, reduceAdd, reduceCtorEq]; try rfl) ?_
    rintro ⟨v2, j⟩ hj
    have hj : j ≤ bk.length := hj
    by_cases hjl : j < bk.length
    · have hd2 : (bk.length : Int) - 1 - (j : Nat) ≥ 0 := by omega
      have hix : ((bk.length : Int) - 1 - (j : Nat)).toNat < bk.length := by omega
      have w2 : IntKind.i64.wrap ((bk.length : Int) - 1 - (j : Nat) - 1) = (bk.length : Int) - 1 - ((j + 1 : Nat) : Int) := by rw [w64 (by omega)]; omega
      have hr : bk.reverse.take j ++ [bk.getD ((bk.length : Int) - 1 - (j : Nat)).toNat 0] = bk.reverse.take (j + 1) := by
        have hjr : j < bk.reverse.length := by rw [List.length_reverse]; exact hjl
        rw [List.take_succ_eq_append_getElem hjr, List.getElem_reverse, List.getD_eq_getElem?_getD, List.getElem?_eq_getElem hix, Option.getD_some]
        congr 3; omega
      simp only [Bz33, Bz7b, Bzg5, Bzg4, yzv hix, w2, hr, decide_eq_true hd2, go_sem, yz0, Int.reduceLT, reduceLE, reduceToNat, reduceNeg, Nat.reduceLT, reduceLeDiff, reduceMul, reduceSub, reduceIte, reduceEqDiff, reduceAdd, reduceCtorEq]
      intro vs3
      refine ⟨⟨by omega, hix⟩, hix, ⟨_, rfl, rfl⟩, by rw [List.length_take, List.length_reverse]; omega, ?_⟩
      exact ⟨(_, j + 1), by dsimp only; omega, by dsimp only; omega, rfl⟩
    · have hd2 : ¬ (bk.length : Int) - 1 - (j : Nat) ≥ 0 := by omega
      have e : bk.reverse.take j = bk.reverse := List.take_of_length_le (by rw [List.length_reverse]; omega)
      simp only [Bz33, Bz7b, Bzg7, e, decide_eq_false hd2, go_sem, yz0, Int.reduceLT, reduceLE, reduceToNat, reduceNeg, Nat.reduceLT, reduceLeDiff, reduceMul, reduceSub, reduceIte, reduceEqDiff, reduceAdd, reduceCtorEq]
      exact ⟨34, v2, bk.reverse, by omega, rfl, by simp only [go_sem, yz0, Int.reduceLT, reduceLE, reduceToNat, reduceNeg, Nat.reduceLT, reduceLeDiff, reduceMul, reduceSub, reduceIte, reduceEqDiff, reduceAdd, reduceCtorEq], he.symm⟩
  · have hd : B.getD a 0 ≥ 0 := h1
    have hBn : B.getD a 0 = ((B.getD a 0).toNat : Int) := by omega
    simp only [Bz32, Bz7a, Bzg3, Bzg2, yzv hab, yzv hac, decide_eq_true hd, go_sem, yz0, Int.reduceLT, reduceLE, reduceToNat, reduceNeg, Nat.reduceLT, reduceLeDiff, reduceMul, reduceSub, reduceIte, reduceEqDiff, reduceAdd, reduceCtorEq]
    refine ⟨⟨by omega, hab⟩, hab, ?_⟩
    intro vs2
    refine ⟨⟨by omega, hac⟩, hac, ⟨_, rfl, rfl⟩, by omega, ?_⟩
    refine ⟨⟨by omega, hab⟩, hab, ?_⟩
    refine ⟨(vs2 9 0, (B.getD a 0).toNat, bk ++ [C.getD a 0]), by dsimp only; omega, ⟨by dsimp only; omega, ?_, by dsimp only; rw [List.length_append, List.length_singleton]; omega⟩, ?_⟩
    · dsimp only
      rw [he, h3]; simp
    · dsimp only
      rw [← hBn]
theorem firstT_at {T : TS} {i : Nat} (hi : i < T.length) (hj : ∀ j < i, smallN (T.getD j (0, [])).1 = false) (hs : smallN (T.getD i (0, [])).1 = true) : firstT T = some (T.getD i (0, [])) := by
  unfold firstT
  rw [List.find?_eq_some_iff_getElem]
  refine ⟨hs, i, hi, by rw [List.getD_eq_getElem?_getD, List.getElem?_eq_getElem hi]; rfl, fun j hji => ?_⟩
  have := hj j hji
  rw [List.getD_eq_getElem?_getD, List.getElem?_eq_getElem (by omega)] at this
  simpa using this
theorem firstT_none {T : TS} (hj : ∀ j < T.length, smallN (T.getD j (0, [])).1 = false) : firstT T = none := by
  unfold firstT
  rw [List.find?_eq_none]
  intro p hp
  obtain ⟨j, hjl, rfl⟩ := List.getElem_of_mem hp
  have := hj j hjl
  rw [List.getD_eq_getElem?_getD, List.getElem?_eq_getElem hjl] at this
  simpa using this
abbrev ToldB (x : Option (Nat × List Int)) (rows : List AObj) (res : AVal) : Prop := ∃ v, rows = [.row v 1 true (ints ((x.map (·.2)).getD []))] ∧ res = .tup [.own 6000 v, bv x.isSome]
theorem k_l02Shrink (n : Int) (next : List (List Int)) (A : Aut n next) (f : Nat) (hf : f < 2 ^ n.toNat) :
    Fn Try.prog nz1i [autP n next, iv f] (ToldB (firstT (tourT next f))) := by
  refine con_of mixed cziw rfl (by simp) ?_
  have n1 := A.n1
  have n2 := A.n2
  have hN := pow_lt10' (k := n.toNat) (by omega)
  generalize hQ : finQ _ = Q
  simp only [Az2n, Bzd2, go_sem, yz0, Int.reduceLT, reduceLE, reduceToNat, reduceNeg, Nat.reduceLT, reduceLeDiff, reduceMul, reduceSub, reduceIte, reduceEqDiff, reduceAdd, reduceCtorEq]
  intro vs
  refine call_fn (k_l02From n next A f hf) qCS (fun e => by cases e) ?_
  rintro rows res ⟨v0, va, vb, vc, B, C, hB, rfl, rfl⟩
  have hT := (runT_ok A 1100 0 _ (TI0 (m := next.length) hf)).1
  have hlen := hT.len
  refine ⟨by simp, by rw [Option.getD_some, gone_four]; simp only [go_sem, yz0, Int.reduceLT, reduceLE, reduceToNat, reduceNeg, Nat.reduceLT, reduceLeDiff, reduceMul, reduceSub, reduceIte, reduceEqDiff, reduceAdd, reduceCtorEq], ?_⟩
  have hTT : tourT next f = runT next 1100 0 [(f, [])] := rfl
  rw [← hTT] at hT hlen
  generalize hGT : tourT next f = T at hB hT hlen ⊢
  simp only [Option.getD_some, callHp_four, ren_own_r3, Bzd1, Bzcz, Nat.not_lt_zero, range1, yzw, yzz, yz1b, yz1c, yz10, yz1d, yz1a, yz19, yzy, yzo, yzf, yz3, yzu, yzt, yzn, yzm, yzs, yz8, yzb, yze, yz9, yzj, yzh, yz4, yz6, yzc, yzd, yzi, yzk, List.range_zero, yz7, yz5, yza, yzr, yzl, yzp, AVal.fresh, freshL, yz1, yzg, AObj.fresh, id, Option.isSome_some, or_true, true_or, go_sem, yz0, Int.reduceLT, reduceLE, reduceToNat, reduceNeg, Nat.reduceLT, reduceLeDiff, reduceMul, reduceSub, reduceIte, reduceEqDiff, reduceAdd, reduceCtorEq]
  refine wpD_lo (fun i => T.length - i) (fun i => i ≤ T.length ∧ ∀ j < i, smallN (T.getD j (0, [])).1 = false)
    (fun i : Nat => ⟨Go.Ab.L .any [(6, .ptr 10 (vs 2 v0) 0), (7, iv i)], Go.Ab.L .gone [(10, .box (vs 2 v0) [.own 1010 (vs 2 va), .own 2010 (vs 2 vb), .own 3010 (vs 2 vc)]), (1010, .row (vs 2 va) 1 true (ints (setsI T))), (2010, .row (vs 2 vb) 1 true (ints B)), (3010, .row (vs 2 vc) 1 true (ints C))]⟩)
    0 ⟨by simp, by simp⟩ (by simp only [Bz2m, go_sem, yz0, Int.reduceLT, reduceLE, reduceToNat, reduceNeg, Nat.reduceLT, reduceLeDiff, reduceMul, reduceSub, reduceIte, reduceEqDiff, reduceAdd, reduceCtorEq]; try rfl) ?_
  rintro i ⟨hi, hj⟩
  by_cases hlt : (i : Int) < T.length
  · have hlt1 : i < T.length := by omega
    have hls : i < (setsI T).length := by simpa using hlt1
    have hm := hT.rg _ (yz11 hlt1 (0, ([] : List Int)))
    simp only [Bz2m, Bz61, Bzcy, List.length_map, yzv hls, setsI_getD hlt1, decide_eq_true hlt, go_sem, yz0, Int.reduceLT, reduceLE, reduceToNat, reduceNeg, Nat.reduceLT, reduceLeDiff, reduceMul, reduceSub, reduceIte, reduceEqDiff, reduceAdd, reduceCtorEq]
    intro hM vs2
    refine ⟨⟨by omega, hlt1⟩, hlt1, ?_⟩
    refine yz12 (k_l02Single (T.getD i (0, [])).1 (by omega)) qCS trivial ?_
    cases hs : smallN (T.getD i (0, [])).1 with
    | true =>
      have hF := firstT_at hlt1 hj hs
      simp only [Bz62, go_sem, yz0, Int.reduceLT, reduceLE, reduceToNat, reduceNeg, Nat.reduceLT, reduceLeDiff, reduceMul, reduceSub, reduceIte, reduceEqDiff, reduceAdd, reduceCtorEq]
      intro vs3
      refine call_rowI (k_l02Walk_word T B C hB i hlt1 (by omega)) qCS qGN ⟨_, rfl⟩ ?_
      rintro ys v rfl
      simp only [Az2n, ← hQ, go_sem, yz0, Int.reduceLT, reduceLE, reduceToNat, reduceNeg, Nat.reduceLT, reduceLeDiff, reduceMul, reduceSub, reduceIte, reduceEqDiff, reduceAdd, reduceCtorEq]
      refine ⟨[30], by simp, by simp, by simp, ?_⟩
      simp only [ToldB, hGT, hF, Option.map_some, Option.getD_some, Option.isSome_some, range1, List.length_singleton, Nat.not_lt_zero, range1, yzw, yzz, yz1b, yz1c, yz10, yz1d, yz1a, yz19, yzy, yzo, yzf, yz3, yzu, yzt, yzn, yzm, yzs, yz8, yzb, yze, yz9, yzj, yzh, yz4, yz6, yzc, yzd, yzi, yzk, List.range_zero, yz7, yz5, yza, yzr, yzl, yzp, AVal.fresh, freshL, yz1, yzg, AObj.fresh, id, Option.isSome_some, or_true, true_or, go_sem, yz0, Int.reduceLT, reduceLE, reduceToNat, reduceNeg, Nat.reduceLT, reduceLeDiff, reduceMul, reduceSub, reduceIte, reduceEqDiff, reduceAdd, reduceCtorEq]
      exact ⟨v, rfl, rfl⟩
    | false =>
      simp only [Bz62, Bzcx, nat1 i _ hlt1 hM, go_sem, yz0, Int.reduceLT, reduceLE, reduceToNat, reduceNeg, Nat.reduceLT, reduceLeDiff, reduceMul, reduceSub, reduceIte, reduceEqDiff, reduceAdd, reduceCtorEq]
      refine ⟨i + 1, by omega, ⟨by omega, fun j hji => ?_⟩, rfl⟩
      by_cases e : j = i
      · rw [e]; exact hs
      · exact hj j (by omega)
  · have e : i = T.length := by omega
    subst e
    have hF := firstT_none hj
    simp only [Bz2m, Bz61, Bzd0, List.length_map, decide_eq_false hlt, Az2n, ← hQ, go_sem, yz0, Int.reduceLT, reduceLE, reduceToNat, reduceNeg, Nat.reduceLT, reduceLeDiff, reduceMul, reduceSub, reduceIte, reduceEqDiff, reduceAdd, reduceCtorEq]
    intro _ vs2
    refine ⟨[31], by simp, by simp, by simp, ?_⟩
    simp only [ToldB, hGT, hF, Option.map_none, Option.getD_none, Option.isSome_none, range1, List.length_singleton, List.map_nil, Nat.not_lt_zero, range1, yzw, yzz, yz1b, yz1c, yz10, yz1d, yz1a, yz19, yzy, yzo, yzf, yz3, yzu, yzt, yzn, yzm, yzs, yz8, yzb, yze, yz9, yzj, yzh, yz4, yz6, yzc, yzd, yzi, yzk, List.range_zero, yz7, yz5, yza, yzr, yzl, yzp, AVal.fresh, freshL, yz1, yzg, AObj.fresh, id, Option.isSome_some, or_true, true_or, go_sem, yz0, Int.reduceLT, reduceLE, reduceToNat, reduceNeg, Nat.reduceLT, reduceLeDiff, reduceMul, reduceSub, reduceIte, reduceEqDiff, reduceAdd, reduceCtorEq]
    exact ⟨_, rfl, rfl⟩
theorem k_l02Told (xs : List Int) (ok : Bool) : Con Try.prog nz3l [.row 0 1 true (ints xs)] [.own 5000 0, bv ok] true fun outs rows res =>
    outs = [.row 0 1 true (ints xs)] ∧ (ok = true ∧ rows = [] ∧ res = .tup [.own 5000 0, iv 0] ∨ ok = false ∧ ∃ w, rows = [.row w 1 true []] ∧ res = .tup [.own 6000 w, iv 6]) := by
  refine con_sh mixed czia rfl (by simp) ?_
  cases ok with
  | true =>
    simp only [Az52, Bz51, Bz4z, Bz50, Bool.not_true, go_sem, yz0, Int.reduceLT, reduceLE, reduceToNat, reduceNeg, Nat.reduceLT, reduceLeDiff, reduceMul, reduceSub, reduceIte, reduceEqDiff, reduceAdd, reduceCtorEq]
    refine ⟨[], by simp, by simp, by simp, ?_⟩
    have e5 : AVal.ren (expo []) id (AVal.own 5000 0) = .own 5000 0 := ren_own (expo_in (j := 0) (by omega))
    simp only [range1, List.length_singleton, e5, Nat.not_lt_zero, range1, yzw, yzz, yz1b, yz1c, yz10, yz1d, yz1a, yz19, yzy, yzo, yzf, yz3, yzu, yzt, yzn, yzm, yzs, yz8, yzb, yze, yz9, yzj, yzh, yz4, yz6, yzc, yzd, yzi, yzk, List.range_zero, yz7, yz5, yza, yzr, yzl, yzp, AVal.fresh, freshL, yz1, yzg, AObj.fresh, id, Option.isSome_some, or_true, true_or, go_sem, yz0, Int.reduceLT, reduceLE, reduceToNat, reduceNeg, Nat.reduceLT, reduceLeDiff, reduceMul, reduceSub, reduceIte, reduceEqDiff, reduceAdd, reduceCtorEq]
  | false =>
    simp only [Az52, Bz51, Bz4z, Bz50, Bool.not_false, go_sem, yz0, Int.reduceLT, reduceLE, reduceToNat, reduceNeg, Nat.reduceLT, reduceLeDiff, reduceMul, reduceSub, reduceIte, reduceEqDiff, reduceAdd, reduceCtorEq]
    intro vs
    refine ⟨[8], by simp, by simp, by simp, ?_⟩
    simp only [range1, List.length_singleton, Nat.not_lt_zero, range1, yzw, yzz, yz1b, yz1c, yz10, yz1d, yz1a, yz19, yzy, yzo, yzf, yz3, yzu, yzt, yzn, yzm, yzs, yz8, yzb, yze, yz9, yzj, yzh, yz4, yz6, yzc, yzd, yzi, yzk, List.range_zero, yz7, yz5, yza, yzr, yzl, yzp, AVal.fresh, freshL, yz1, yzg, AObj.fresh, id, Option.isSome_some, or_true, true_or, go_sem, yz0, Int.reduceLT, reduceLE, reduceToNat, reduceNeg, Nat.reduceLT, reduceLeDiff, reduceMul, reduceSub, reduceIte, reduceEqDiff, reduceAdd, reduceCtorEq]
    exact .inr ⟨_, rfl, rfl⟩
theorem call_told {P : Program} {σ : St} {g : FuncId} {xs : List Int} {ok : Bool} {d : Nat} {s : Nat → Nat} {K : St → Prop} {r v : Nat}
    (h : Con P g [.row 0 1 true (ints xs)] [.own 5000 0, bv ok] true fun outs rows res =>
      outs = [.row 0 1 true (ints xs)] ∧ (ok = true ∧ rows = [] ∧ res = .tup [.own 5000 0, iv 0] ∨ ok = false ∧ ∃ w, rows = [.row w 1 true []] ∧ res = .tup [.own 6000 w, iv 6]))
    (hr : σ.hp r = .row v 1 true (ints xs)) (hg : σ.hp d = .gone)
    (h1 : ok = true → K (St.put ⟨σ.tm, upd σ.hp r (.row v 1 true (ints xs))⟩ (some d) (.tup [.own r v, iv 0])))
    (h2 : ok = false → ∀ w, K (St.put ⟨σ.tm, upd (upd σ.hp r (.row v 1 true (ints xs))) d (.row w 1 true [])⟩ (some d) (.tup [.own d w, iv 6]))) : wpCall P false σ g [.own r v, bv ok] (some d) s K := by
  have hne : d ≠ r := fun e => by rw [e, hr] at hg; cases hg
  refine .inl ⟨[r], [.row 0 1 true (ints xs)], [.own 5000 0, bv ok], true, _, h, ⟨by simp, rfl, by simp, by simp [hr], ?_⟩, ?_, (fun e => by cases e), ?_⟩
  · intro j B r' hB hr'
    cases j with
    | succ j => simp at hB
    | zero =>
      simp at hB hr'; subst hB; subst hr'
      simp only [ObjCoe, hr]
      exact ⟨trivial, v, _, rfl, coeL_ints⟩
  · rw [yzx, yzx, yz18]
    simp only [Coe, and_true]
    exact ⟨0, r, v, rfl, rfl, rfl, rfl, by rw [hr]; rfl⟩
  · have e : sv σ.hp [r] s 0 = v := by simp [sv, hr, AObj.ver]
    rintro outs rows res ⟨rfl, ⟨ho, rfl, rfl⟩ | ⟨ho, w, rfl, rfl⟩⟩
    · refine ⟨rfl, by simp, by simp, ?_⟩
      rw [Option.getD_some, callHp_m, yzm, e]
      have h3 := h1 ho
      have e2 : AVal.ren (rid [r] d ([] : List AObj).length) (sv σ.hp [r] s) (.own 5000 0) = .own r v := by rw [← e]; exact ren_own (rid_m (j := 0) (by omega) rfl)
      simp only [Option.getD_some, List.length_nil] at e2
      simp only [Option.getD_some, yz3, yzy, yzf, yzo, yzw, List.length_nil, e2]
      exact h3
    · refine ⟨rfl, by simp, by rw [Option.getD_some, yzl]; exact hg, ?_⟩
      rw [Option.getD_some, callHp_mr hne, yzm, yzm, e]
      have h3 := h2 ho (sv σ.hp [r] s w)
      simp only [Option.getD_some, List.length_singleton, yz3, yzy, yzf, yzo, yzw, yz4]
      exact h3
theorem call_ste {P : Program} {σ : St} {g : FuncId} {x : AVal} {y : Value} {d : Nat} {s : Nat → Nat} {K : St → Prop} {r v : Nat} {cs cs' : List AVal} {R : AVal}
    (h : Con P g [.row 0 1 true cs] [.st [x, .own 5000 0]] true fun outs rows res => outs = [.row 0 1 true cs] ∧ rows = [] ∧ res = R) (hx : x = .val y)
    (hr : σ.hp r = .row v 1 true cs') (hc : CoeL σ.hp [r] false cs cs')
    (hk : K (St.put ⟨σ.tm, upd σ.hp r (.row v 1 true (renL (rid [r] d 0) (sv σ.hp [r] s) cs))⟩ (some d) (R.ren (rid [r] d 0) (sv σ.hp [r] s)))) : wpCall P false σ g [.st [x, .own r v]] (some d) s K := by
  subst hx
  refine .inl ⟨[r], _, _, true, _, h, ⟨by simp, rfl, by simp, by simp [hr], ?_⟩, ?_, (fun e => by cases e), ?_⟩
  · intro j B r' hB hr'
    match j, hB, hr' with
    | 0, hB, hr' =>
      simp at hB hr'; subst hB; subst hr'
      simp only [ObjCoe, hr]
      exact ⟨trivial, v, cs', rfl, hc⟩
    | j + 1, hB, hr' => simp at hB
  · rw [yzx, coe_st, yzx, yzx, yz18]
    refine ⟨?_, by simp only [yz18]⟩
    simp only [Coe]
    exact ⟨trivial, ⟨0, r, v, rfl, rfl, rfl, rfl, by rw [hr]; rfl⟩, trivial⟩
  · rintro outs rows res ⟨rfl, rfl, rfl⟩
    refine ⟨rfl, by simp, by simp, ?_⟩
    have e : sv σ.hp [r] s 0 = v := by simp [sv, hr, AObj.ver]
    rw [Option.getD_some, callHp_m, yzm, e]
    exact hk
theorem k_ShortestH (n : Int) (next : List (List Int)) (A : Aut n next) :
    Con Try.prog nz3h [.row 0 1 true (rwn next)] [.st [iv n, .own 5000 0]] true
      fun outs rows res => outs = [.row 0 1 true (rwn next)] ∧ rows = [] ∧ res = shortR next n := by
  refine con_sh mixed czi3 rfl (by simp) ?_
  have n1 := A.n1
  have n2 := A.n2
  have hv : autB n next = true := autB_iff.2 A
  have hp := Nat.two_pow_pos n.toNat
  have hN : 2 ^ n.toNat ≤ 1024 := Nat.pow_le_pow_right (n := 2) (by omega) (show n.toNat ≤ 10 by omega)
  simp only [Az94, Bz93, go_sem, yz0, Int.reduceLT, reduceLE, reduceToNat, reduceNeg, Nat.reduceLT, reduceLeDiff, reduceMul, reduceSub, reduceIte, reduceEqDiff, reduceAdd, reduceCtorEq]
  intro vs vs2
  refine yz12 (k_Valid n next) qCS trivial ?_
  simp only [hv, Bz91, Bz92, go_sem, yz0, Int.reduceLT, reduceLE, reduceToNat, reduceNeg, Nat.reduceLT, reduceLeDiff, reduceMul, reduceSub, reduceIte, reduceEqDiff, reduceAdd, reduceCtorEq]
  intro vs3
  refine call_rowI (k_all n next A) qCS rfl ⟨_, rfl⟩ ?_
  rintro xs v rfl
  simp only [go_sem, yz0, Int.reduceLT, reduceLE, reduceToNat, reduceNeg, Nat.reduceLT, reduceLeDiff, reduceMul, reduceSub, reduceIte, reduceEqDiff, reduceAdd, reduceCtorEq]
  refine yz12 (k_flockOf (allS n) (fun s hs => by have := allS_in s hs; omega)) qCS trivial ?_
  rw [maskN_all ⟨n1, n2⟩]
  simp only [go_sem, yz0, Int.reduceLT, reduceLE, reduceToNat, reduceNeg, Nat.reduceLT, reduceLeDiff, reduceMul, reduceSub, reduceIte, reduceEqDiff, reduceAdd, reduceCtorEq]
  refine call_fn (k_tour n next A (2 ^ n.toNat - 1) (by omega)) qCS (fun e => by cases e) ?_
  rintro rows res ⟨v1, v2, rfl, rfl⟩
  refine ⟨by simp, by rw [Option.getD_some, yzp]; simp only [go_sem, yz0, Int.reduceLT, reduceLE, reduceToNat, reduceNeg, Nat.reduceLT, reduceLeDiff, reduceMul, reduceSub, reduceIte, reduceEqDiff, reduceAdd, reduceCtorEq], ?_⟩
  have hT := (runT_ok A 1100 0 _ (TI0 (m := next.length) (show 2 ^ n.toNat - 1 < 2 ^ n.toNat by omega))).1
  simp only [Option.getD_some, Nat.not_lt_zero, range1, yzw, yzz, yz1b, yz1c, yz10, yz1d, yz1a, yz19, yzy, yzo, yzf, yz3, yzu, yzt, yzn, yzm, yzs, yz8, yzb, yze, yz9, yzj, yzh, yz4, yz6, yzc, yzd, yzi, yzk, List.range_zero, yz7, yz5, yza, yzr, yzl, yzp, AVal.fresh, freshL, yz1, yzg, AObj.fresh, id, Option.isSome_some, or_true, true_or, go_sem, yz0, Int.reduceLT, reduceLE, reduceToNat, reduceNeg, Nat.reduceLT, reduceLeDiff, reduceMul, reduceSub, reduceIte, reduceEqDiff, reduceAdd, reduceCtorEq]
  unfold shortR
  cases hf : firstT (tourT next (2 ^ n.toNat - 1)) with
  | some p =>
    obtain ⟨f, w⟩ := p
    refine call_rm (k_first n.toNat next.length (tourT next (2 ^ n.toNat - 1)) hT hN f w hf) rfl rfl (by omega) qCS qCS qCS ?_
    simp only [Nat.not_lt_zero, range1, yzw, yzz, yz1b, yz1c, yz10, yz1d, yz1a, yz19, yzy, yzo, yzf, yz3, yzu, yzt, yzn, yzm, yzs, yz8, yzb, yze, yz9, yzj, yzh, yz4, yz6, yzc, yzd, yzi, yzk, List.range_zero, yz7, yz5, yza, yzr, yzl, yzp, AVal.fresh, freshL, yz1, yzg, AObj.fresh, id, Option.isSome_some, or_true, true_or, go_sem, yz0, Int.reduceLT, reduceLE, reduceToNat, reduceNeg, Nat.reduceLT, reduceLeDiff, reduceMul, reduceSub, reduceIte, reduceEqDiff, reduceAdd, reduceCtorEq]
    exact ⟨[], by simp, by simp, by simp, rfl⟩
  | none =>
    refine call_rm (k_firstN n.toNat next.length (tourT next (2 ^ n.toNat - 1)) hT hN hf) rfl rfl (by omega) qCS qCS qCS ?_
    simp only [Nat.not_lt_zero, range1, yzw, yzz, yz1b, yz1c, yz10, yz1d, yz1a, yz19, yzy, yzo, yzf, yz3, yzu, yzt, yzn, yzm, yzs, yz8, yzb, yze, yz9, yzj, yzh, yz4, yz6, yzc, yzd, yzi, yzk, List.range_zero, yz7, yz5, yza, yzr, yzl, yzp, AVal.fresh, freshL, yz1, yzg, AObj.fresh, id, Option.isSome_some, or_true, true_or, go_sem, yz0, Int.reduceLT, reduceLE, reduceToNat, reduceNeg, Nat.reduceLT, reduceLeDiff, reduceMul, reduceSub, reduceIte, reduceEqDiff, reduceAdd, reduceCtorEq]
    exact ⟨[], by simp, by simp, by simp, rfl⟩
end Go.Ab
namespace Go.Ab
def pairI (n : Int) (p : List Int) : Nat := (fidx (fun q => decide (q = p)) (every n) 0).toNat
def wocW (n : Int) (words : List (List Int)) (set : List Int) : List Int := words.getD (pairI n (set.take 2)) []
def wocR (n : Int) (next words : List (List Int)) : Nat → List Int → List Int → List Int
  | 0, _, out => out
  | F + 1, set, out => if set.length ≤ 1 then out else wocR n next words F (imgL next set (wocW n words set)) (out ++ wocW n words set)
structure WS1 (n : Int) (set : List Int) : Prop where
  si : SI set
  rg : ∀ x ∈ set, 0 ≤ x ∧ x < n
end Go.Ab
namespace Go.Ab
theorem imgL_app {next : List (List Int)} {set u v : List Int} : imgL next (imgL next set u) v = imgL next set (u ++ v) := by
  refine SI_ext (nrm_SI _) (nrm_SI _) fun y => ?_
  rw [nrm_mem, nrm_mem]
  simp only [List.mem_map, imgL, nrm_mem]
  have ha : ∀ s, atA next s (u ++ v) = atA next (atA next s u) v := fun s => by simp [atA, List.foldl_append]
  constructor
  · rintro ⟨x, ⟨s, hs, rfl⟩, rfl⟩; exact ⟨s, hs, ha s⟩
  · rintro ⟨s, hs, rfl⟩; exact ⟨_, ⟨s, hs, rfl⟩, (ha s).symm⟩
theorem imgL_nil {next : List (List Int)} {set : List Int} (h : SI set) : imgL next set [] = set := by
  refine SI_ext (nrm_SI _) h fun y => ?_
  rw [nrm_mem]
  simp [atA]
end Go.Ab
namespace Go.Ab
end Go.Ab
namespace Go.Ab
def twoN (s t : Int) : Nat := 2 ^ s.toNat ||| 2 ^ t.toNat
def mergQ (next : List (List Int)) (s t : Int) : Option (List Int) := (firstT (tourT next (twoN s t))).map (·.2)
theorem twoN_comm (s t : Int) : twoN s t = twoN t s := Nat.or_comm _ _
theorem two_lt {n s t : Int} (hs : 0 ≤ s ∧ s < n) (ht : 0 ≤ t ∧ t < n) : twoN s t < 2 ^ n.toNat :=
  Nat.or_lt_two_pow (Nat.pow_lt_pow_right (by omega) (by omega)) (Nat.pow_lt_pow_right (by omega) (by omega))
theorem two_bits {n s t : Int} (hn : n ≤ 10) (hs : 0 ≤ s ∧ s < n) (ht : 0 ≤ t ∧ t < n) {u : Nat} : u ∈ bitsN (twoN s t) ↔ u = s.toNat ∨ u = t.toNat := by
  rw [mem_bits, twoN, Nat.testBit_or, Nat.testBit_two_pow, Nat.testBit_two_pow, Bool.or_eq_true, decide_eq_true_eq, decide_eq_true_eq]
  omega
theorem small_two {n : Int} {next : List (List Int)} (A : Aut n next) {s t : Int} (hs : 0 ≤ s ∧ s < n) (ht : 0 ≤ t ∧ t < n) {w : List Int} (hw : IsW next.length w) :
    smallN (imN next (twoN s t) w) = true ↔ atA next s w = atA next t w := by
  have n1 := A.n1
  have n2 := A.n2
  have hN : 2 ^ n.toNat ≤ 1024 := Nat.pow_le_pow_right (n := 2) (by omega) (show n.toNat ≤ 10 by omega)
  obtain ⟨h1, h2⟩ := imN_bit A w (two_lt hs ht) hw
  have a0 := A.at (w := w) hs hw
  have a1 := A.at (w := w) ht hw
  have es : ((s.toNat : Nat) : Int) = s := by omega
  have et : ((t.toNat : Nat) : Int) = t := by omega
  rw [small_iff (by omega)]
  constructor
  · intro h
    have b1 := (h2 (atA next s w).toNat).2 ⟨s.toNat, (two_bits n2 hs ht).2 (.inl rfl), by rw [es]; omega⟩
    have b2 := (h2 (atA next t w).toNat).2 ⟨t.toNat, (two_bits n2 hs ht).2 (.inr rfl), by rw [et]; omega⟩
    have := h _ b1 _ b2
    omega
  · intro h x hx y hy
    obtain ⟨x', hx', e1⟩ := (h2 x).1 hx
    obtain ⟨y', hy', e2⟩ := (h2 y).1 hy
    have c1 : atA next (x' : Int) w = atA next s w := by
      rcases (two_bits n2 hs ht).1 hx' with rfl | rfl
      · rw [es]
      · rw [et, h]
    have c2 : atA next (y' : Int) w = atA next s w := by
      rcases (two_bits n2 hs ht).1 hy' with rfl | rfl
      · rw [es]
      · rw [et, h]
    omega
theorem two_snd {next : List (List Int)} {f : Nat} : SndT next f (tourT next f) := SndT.run 1100 0 (fun p hp => by
  have : p = (f, []) := by simpa using hp
  rw [this]; rfl)
theorem merg_some {n : Int} {next : List (List Int)} (A : Aut n next) {s t : Int} (hs : 0 ≤ s ∧ s < n) (ht : 0 ≤ t ∧ t < n) {w : List Int} (h : mergQ next s t = some w) :
    IsW next.length w ∧ atA next s w = atA next t w ∧ w.length < 2 ^ n.toNat := by
  have hT := (runT_ok A 1100 0 _ (TI0 (m := next.length) (two_lt hs ht))).1
  have hl := hT.len
  unfold mergQ at h
  obtain ⟨p, hp, rfl⟩ := Option.map_eq_some_iff.1 h
  have hm := List.mem_of_find?_eq_some hp
  have hsm : smallN p.1 = true := by simpa using List.find?_some hp
  have hw := hT.wd p hm
  rw [two_snd p hm, small_two A hs ht hw.1] at hsm
  exact ⟨hw.1, hsm, by have := hw.2; omega⟩
theorem merg_none {n : Int} {next : List (List Int)} (A : Aut n next) {s t : Int} (hs : 0 ≤ s ∧ s < n) (ht : 0 ≤ t ∧ t < n) (h : mergQ next s t = none) {w : List Int} (hw : IsW next.length w) :
    atA next s w ≠ atA next t w := by
  intro he
  unfold mergQ at h
  rw [Option.map_eq_none_iff] at h
  unfold firstT at h
  rw [List.find?_eq_none] at h
  have h1 := tour_mem A (two_lt hs ht) w.length w rfl hw
  obtain ⟨p, hp, hpe⟩ := List.mem_map.1 (hasT_iff.1 h1)
  have := h p hp
  rw [hpe, (small_two A hs ht hw).2 he] at this
  exact this rfl
theorem merg_iff {n : Int} {next : List (List Int)} (A : Aut n next) {s t : Int} (hs : 0 ≤ s ∧ s < n) (ht : 0 ≤ t ∧ t < n) : (mergQ next s t).isSome = true ↔ ∃ w, IsW next.length w ∧ atA next s w = atA next t w := by
  constructor
  · intro h
    obtain ⟨w, hw⟩ := Option.isSome_iff_exists.1 h
    have := merg_some A hs ht hw
    exact ⟨w, this.1, this.2.1⟩
  · rintro ⟨w, hw, h⟩
    cases hq : mergQ next s t with
    | some _ => rfl
    | none => exact absurd h (merg_none A hs ht hq hw)
theorem img_can {n : Int} {next : List (List Int)} (hn : 1 ≤ n) {w : List Int} (h : (imgL next (allS n) w).length = 1) : ∀ s t : Int, 0 ≤ s ∧ s < n → 0 ≤ t ∧ t < n → atA next s w = atA next t w := by
  intro s t hs ht
  obtain ⟨x, hx⟩ := List.length_eq_one_iff.1 h
  have hm : ∀ u : Int, 0 ≤ u ∧ u < n → atA next u w = x := fun u hu => by
    have : atA next u w ∈ imgL next (allS n) w := nrm_mem.2 (List.mem_map.2 ⟨u, by simp only [allS, List.mem_map, List.mem_range]; exact ⟨u.toNat, by omega, by omega⟩, rfl⟩)
    rw [hx] at this; simpa using this
  rw [hm s hs, hm t ht]
end Go.Ab
namespace Go.Ab
open Go.Proofs
def optC : Option (List Int) → AVal
  | some w => .ro none 1 (ints w)
  | none => .val (.slice none 0 0)
def optL (os : List (Option (List Int))) : List AVal := os.map optC
def rzs (oss : List (List (Option (List Int)))) : List AVal := oss.map fun os => .ro (some none) 1 (optL os)
def rzn (oss : List (List (Option (List Int)))) : List AVal := oss.map fun os => .ro none 1 (optL os)
theorem dn_optC {o : Option (List Int)} : (optC o).dn = optC o := by cases o <;> simp [optC, AVal.dn, ints, dnL_eq, dnNm]
theorem dnL_opt {os : List (Option (List Int))} : dnL (optL os) = optL os := by
  simp only [dnL_eq, optL, List.map_map]
  exact List.map_congr_left fun o _ => dn_optC
theorem dnL_rzs {oss : List (List (Option (List Int)))} : dnL (rzs oss) = rzs oss := by
  simp only [dnL_eq, rzs, List.map_map]
  exact List.map_congr_left fun o _ => by simp [AVal.dn, dnL_opt, dnNm]
theorem dnL_rzn {oss : List (List (Option (List Int)))} : dnL (rzn oss) = rzn oss := by
  simp only [dnL_eq, rzn, List.map_map]
  exact List.map_congr_left fun o _ => by simp [AVal.dn, dnL_opt, dnNm]
theorem one_optC {hp : Nat → AObj} {o : Option (List Int)} : One hp (optC o) = True := by cases o <;> simp [optC, One, Value.oneCell']
theorem one_opt {hp : Nat → AObj} {os : List (Option (List Int))} : (∀ A ∈ optL os, One hp A) = True := by
  refine eq_true ?_
  intro A hA
  simp only [optL, List.mem_map] at hA
  obtain ⟨x, _, rfl⟩ := hA
  exact of_eq_true one_optC
theorem one_rzs {hp : Nat → AObj} {oss : List (List (Option (List Int)))} : (∀ A ∈ rzs oss, One hp A) = True := by
  refine eq_true ?_
  intro A hA
  simp only [rzs, List.mem_map] at hA
  obtain ⟨x, _, rfl⟩ := hA
  exact trivial
theorem frz_optC {hp : Nat → AObj} {o : Option (List Int)} : frz hp (optC o) = optC o := by cases o <;> simp [optC, frz]
theorem frz_opt {hp : Nat → AObj} {os : List (Option (List Int))} : (optL os).map (frz hp) = optL os := by
  simp only [optL, List.map_map]
  exact List.map_congr_left fun o _ => frz_optC
theorem frz_rzs {hp : Nat → AObj} {oss : List (List (Option (List Int)))} : (rzs oss).map (frz hp) = rzs oss := by simp [rzs, frz]
theorem owned_opt : ∀ {os : List (Option (List Int))}, owned (optL os) = []
  | [] => rfl
  | some _ :: os => owned_opt (os := os)
  | none :: os => owned_opt (os := os)
theorem owned_rzs : ∀ {oss : List (List (Option (List Int)))}, owned (rzs oss) = []
  | [] => rfl
  | _ :: oss => owned_rzs (oss := oss)
theorem opt_some {os : List (Option (List Int))} {w : List Int} : optL os ++ [.ro none 1 (ints w)] = optL (os ++ [some w]) := by simp [optL, optC]
theorem opt_none {os : List (Option (List Int))} : optL os ++ [.val (.slice none 0 0)] = optL (os ++ [none]) := by simp [optL, optC]
theorem rzs_snoc {oss : List (List (Option (List Int)))} {os : List (Option (List Int))} : rzs oss ++ [.ro (some none) 1 (optL os)] = rzs (oss ++ [os]) := by simp [rzs]
theorem opt_len {os : List (Option (List Int))} : (optL os).length = os.length := by simp [optL]
theorem rzs_len {oss : List (List (Option (List Int)))} : (rzs oss).length = oss.length := by simp [rzs]
theorem rzn_len {oss : List (List (Option (List Int)))} : (rzn oss).length = oss.length := by simp [rzn]
attribute [local go_sem] dnL_opt dnL_rzs dnL_rzn one_opt one_rzs frz_opt frz_rzs owned_opt owned_rzs opt_some opt_none rzs_snoc rzs_len rzn_len opt_len
def mergW (next : List (List Int)) (s : Int) (j : Nat) : List (Option (List Int)) := (List.range j).map fun t : Nat => mergQ next s (t : Int)
def mergT (next : List (List Int)) (n i : Nat) : List (List (Option (List Int))) := (List.range i).map fun s : Nat => mergW next (s : Int) n
theorem mergW_succ {next : List (List Int)} {s : Int} {j : Nat} : mergW next s (j + 1) = mergW next s j ++ [mergQ next s (j : Int)] := by simp [mergW, List.range_succ]
theorem mergT_succ {next : List (List Int)} {n i : Nat} : mergT next n (i + 1) = mergT next n i ++ [mergW next (i : Int) n] := by simp [mergT, List.range_succ]
theorem mergW_len {next : List (List Int)} {s : Int} {j : Nat} : (mergW next s j).length = j := by simp [mergW]
theorem mergT_len {next : List (List Int)} {n i : Nat} : (mergT next n i).length = i := by simp [mergT]
theorem mergW_getD {next : List (List Int)} {s : Int} {j t : Nat} (h : t < j) : (mergW next s j).getD t none = mergQ next s (t : Int) := by
  unfold mergW
  rw [List.getD_eq_getElem?_getD, List.getElem?_map, List.getElem?_range h]; rfl
theorem mergT_getD {next : List (List Int)} {n i s : Nat} (h : s < i) : (mergT next n i).getD s [] = mergW next (s : Int) n := by
  unfold mergT
  rw [List.getD_eq_getElem?_getD, List.getElem?_map, List.getElem?_range h]; rfl
end Go.Ab
namespace Go.Ab
open Go.Proofs
def optCS : Option (List Int) → AVal
  | some w => .ro (argN w) 1 (ints w)
  | none => .val (.slice none 0 0)
def optLS (os : List (Option (List Int))) : List AVal := os.map optCS
def rzsS (oss : List (List (Option (List Int)))) : List AVal := oss.map fun os => .ro (some none) 1 (optLS os)
theorem ren_argN {s : Nat → Nat} {xs : List Int} : rnNm s (argN xs) = argN xs := by unfold argN; split <;> rfl
theorem dn_optCS {o : Option (List Int)} : (optCS o).dn = optCS o := by
  cases o with
  | none => simp [optCS, AVal.dn]
  | some w => simp only [optCS, AVal.dn, dn_argN, dnL_ints]
theorem ren_optCS {f : Nat → Option Nat} {s : Nat → Nat} {o : Option (List Int)} : AVal.ren f s (optCS o) = optCS o := by
  cases o with
  | none => simp [optCS, AVal.ren]
  | some w => simp only [optCS, AVal.ren, ren_argN, yz3]
theorem dnL_optS {os : List (Option (List Int))} : dnL (optLS os) = optLS os := by
  simp only [dnL_eq, optLS, List.map_map]
  exact List.map_congr_left fun o _ => dn_optCS
theorem renL_optS {f : Nat → Option Nat} {s : Nat → Nat} {os : List (Option (List Int))} : renL f s (optLS os) = optLS os := by
  simp only [renL_eq, optLS, List.map_map]
  exact List.map_congr_left fun o _ => ren_optCS
theorem dnL_rzsS {oss : List (List (Option (List Int)))} : dnL (rzsS oss) = rzsS oss := by
  simp only [dnL_eq, rzsS, List.map_map]
  exact List.map_congr_left fun o _ => by simp [AVal.dn, dnL_optS, dnNm]
theorem renL_rzsS {f : Nat → Option Nat} {s : Nat → Nat} {oss : List (List (Option (List Int)))} : renL f s (rzsS oss) = rzsS oss := by
  simp only [renL_eq, rzsS, List.map_map]
  exact List.map_congr_left fun o _ => by simp [AVal.ren, renL_optS, rnNm]
theorem one_optCS {hp : Nat → AObj} {o : Option (List Int)} : One hp (optCS o) = True := by cases o <;> simp [optCS, One, Value.oneCell']
theorem one_optS {hp : Nat → AObj} {os : List (Option (List Int))} : (∀ A ∈ optLS os, One hp A) = True := by
  refine eq_true ?_
  intro A hA
  simp only [optLS, List.mem_map] at hA
  obtain ⟨x, _, rfl⟩ := hA
  exact of_eq_true one_optCS
theorem one_rzsS {hp : Nat → AObj} {oss : List (List (Option (List Int)))} : (∀ A ∈ rzsS oss, One hp A) = True := by
  refine eq_true ?_
  intro A hA
  simp only [rzsS, List.mem_map] at hA
  obtain ⟨x, _, rfl⟩ := hA
  exact trivial
theorem frz_optCS {hp : Nat → AObj} {o : Option (List Int)} : frz hp (optCS o) = optCS o := by cases o <;> simp [optCS, frz]
theorem frz_optS {hp : Nat → AObj} {os : List (Option (List Int))} : (optLS os).map (frz hp) = optLS os := by
  simp only [optLS, List.map_map]
  exact List.map_congr_left fun o _ => frz_optCS
theorem frz_rzsS {hp : Nat → AObj} {oss : List (List (Option (List Int)))} : (rzsS oss).map (frz hp) = rzsS oss := by simp [rzsS, frz]
theorem owned_optS : ∀ {os : List (Option (List Int))}, owned (optLS os) = []
  | [] => rfl
  | some _ :: os => owned_optS (os := os)
  | none :: os => owned_optS (os := os)
theorem owned_rzsS : ∀ {oss : List (List (Option (List Int)))}, owned (rzsS oss) = []
  | [] => rfl
  | _ :: oss => owned_rzsS (oss := oss)
theorem opt_someS {os : List (Option (List Int))} {w : List Int} : optLS os ++ [.ro (argN w) 1 (ints w)] = optLS (os ++ [some w]) := by simp [optLS, optCS]
theorem opt_noneS {os : List (Option (List Int))} : optLS os ++ [.val (.slice none 0 0)] = optLS (os ++ [none]) := by simp [optLS, optCS]
theorem rzs_snocS {oss : List (List (Option (List Int)))} {os : List (Option (List Int))} : rzsS oss ++ [.ro (some none) 1 (optLS os)] = rzsS (oss ++ [os]) := by simp [rzsS]
theorem opt_lenS {os : List (Option (List Int))} : (optLS os).length = os.length := by simp [optLS]
theorem rzs_lenS {oss : List (List (Option (List Int)))} : (rzsS oss).length = oss.length := by simp [rzsS]
theorem opt_getDS {os : List (Option (List Int))} {i : Nat} (h : i < os.length) : (optLS os).getD i .any = optCS (os.getD i none) := by
  simp [optLS, List.getD_eq_getElem?_getD, h]
theorem rzs_getDS {oss : List (List (Option (List Int)))} {i : Nat} (h : i < oss.length) : (rzsS oss).getD i .any = .ro (some none) 1 (optLS (oss.getD i [])) := by
  simp [rzsS, List.getD_eq_getElem?_getD, h]
attribute [local go_sem] dnL_optS dnL_rzsS one_optS one_rzsS frz_optS frz_rzsS owned_optS owned_rzsS opt_someS opt_noneS rzs_snocS rzs_lenS opt_lenS
def rwa (ws : List (List Int)) : List AVal := ws.map fun w => .ro (argN w) 1 (ints w)
theorem dnL_rwa {ws : List (List Int)} : dnL (rwa ws) = rwa ws := by
  simp only [dnL_eq, rwa, List.map_map]
  exact List.map_congr_left fun w _ => by simp only [Function.comp, AVal.dn, dn_argN, dnL_ints]
theorem renL_rwa {f : Nat → Option Nat} {s : Nat → Nat} {ws : List (List Int)} : renL f s (rwa ws) = rwa ws := by
  simp only [renL_eq, rwa, List.map_map]
  exact List.map_congr_left fun w _ => by simp only [Function.comp, AVal.ren, ren_argN, yz3]
theorem rwa_len {ws : List (List Int)} : (rwa ws).length = ws.length := by simp [rwa]
theorem rwa_getD {ws : List (List Int)} {i : Nat} (h : i < ws.length) : (rwa ws).getD i .any = .ro (argN (ws.getD i [])) 1 (ints (ws.getD i [])) := by
  simp [rwa, List.getD_eq_getElem?_getD, h]
theorem coeL_rwa {hp : Nat → AObj} {m : List Nat} {len : Bool} : ∀ {ws : List (List Int)}, CoeL hp m len (rwa ws) (rws ws) = True
  | [] => yz18
  | w :: ws => by
    have h := coeL_rwa (hp := hp) (m := m) (len := len) (ws := ws)
    simp only [rwa, rws, List.map_cons] at h ⊢
    rw [yzx, h, coe_argN]; simp
attribute [local go_sem] dnL_rwa renL_rwa rwa_len ren_argN dn_argN
theorem k_firstS (N m : Nat) (T : TS) (hI : TI N m T) (hN : 2 ^ N ≤ 1024) (f : Nat) (w : List Int) (hf : firstT T = some (f, w)) :
    Con Try.prog nz7 [.row 0 1 true (intsK .u64 (setsI T)), .map 1 (keysF T) (rwa (T.map (·.2)))] [.st [.own 5000 0, .mp 5001 1], .clo nz4 []] true
      fun outs rows res => outs = [.row 0 1 true (intsK .u64 (setsI T)), .map 1 (keysF T) (rwa (T.map (·.2)))] ∧ rows = [] ∧ res = .tup [.ro (argN w) 1 (ints w), iv 0] := by
  refine con_sh mixed cz2e rfl (by simp) ?_
  obtain ⟨i, h1, h2, h3⟩ := firstT_idx 0 hf
  rw [Nat.zero_add] at h1
  have hls : i < (setsI T).length := by simpa using h2
  have hsg := setsI_getD h2
  have hk := fkF_at i 0 hI.nd h2
  rw [h3, Nat.zero_add] at hk
  rw [h3] at hsg
  have hwl : i < (T.map (·.2)).length := by simpa using h2
  have hwg := words_getD h2
  rw [h3] at hwg
  simp only [Azv, Bzu, go_sem, yz0, Int.reduceLT, reduceLE, reduceToNat, reduceNeg, Nat.reduceLT, reduceLeDiff, reduceMul, reduceSub, reduceIte, reduceEqDiff, reduceAdd, reduceCtorEq]
  intro vs vs2
  refine yz12 (k_IndexFuncT T (fun p hp => by have := hI.rg p hp; omega)) qCS trivial ?_
  have hi0 : ¬ (i : Int) < 0 := by omega
  simp only [h1, Bzt, Bzs, Bz5l, decide_eq_false hi0, yzv hls, hsg, hk, rwa_getD hwl, hwg, go_sem, yz0, Int.reduceLT, reduceLE, reduceToNat, reduceNeg, Nat.reduceLT, reduceLeDiff, reduceMul, reduceSub, reduceIte, reduceEqDiff, reduceAdd, reduceCtorEq]
  refine ⟨⟨by omega, h2⟩, h2, [], by simp, by simp, by simp, ?_⟩
  simp only [List.nil_append, List.cons_append, Nat.add_zero, reduceAdd, Nat.not_lt_zero, range1, yzw, yzz, yz1b, yz1c, yz10, yz1d, yz1a, yz19, yzy, yzo, yzf, yz3, yzu, yzt, yzn, yzm, yzs, yz8, yzb, yze, yz9, yzj, yzh, yz4, yz6, yzc, yzd, yzi, yzk, List.range_zero, yz7, yz5, yza, yzr, yzl, yzp, AVal.fresh, freshL, yz1, yzg, AObj.fresh, id, Option.isSome_some, or_true, true_or, go_sem, yz0, Int.reduceLT, reduceLE, reduceToNat, reduceNeg, Nat.reduceLT, reduceLeDiff, reduceMul, reduceSub, reduceIte, reduceEqDiff, reduceAdd, reduceCtorEq]
theorem k_firstNS (N m : Nat) (T : TS) (hI : TI N m T) (hN : 2 ^ N ≤ 1024) (hf : firstT T = none) :
    Con Try.prog nz7 [.row 0 1 true (intsK .u64 (setsI T)), .map 1 (keysF T) (rwa (T.map (·.2)))] [.st [.own 5000 0, .mp 5001 1], .clo nz4 []] true
      fun outs rows res => outs = [.row 0 1 true (intsK .u64 (setsI T)), .map 1 (keysF T) (rwa (T.map (·.2)))] ∧ rows = [] ∧ res = .tup [.val (.slice none 0 0), iv 6] := by
  refine con_sh mixed cz2e rfl (by simp) ?_
  have h1 := firstT_no 0 hf
  simp only [Azv, Bzu, go_sem, yz0, Int.reduceLT, reduceLE, reduceToNat, reduceNeg, Nat.reduceLT, reduceLeDiff, reduceMul, reduceSub, reduceIte, reduceEqDiff, reduceAdd, reduceCtorEq]
  intro vs vs2
  refine yz12 (k_IndexFuncT T (fun p hp => by have := hI.rg p hp; omega)) qCS trivial ?_
  have hi0 : ((-1 : Int) < 0) := by omega
  simp only [h1, Bzt, Bzs, decide_eq_true hi0, go_sem, yz0, Int.reduceLT, reduceLE, reduceToNat, reduceNeg, Nat.reduceLT, reduceLeDiff, reduceMul, reduceSub, reduceIte, reduceEqDiff, reduceAdd, reduceCtorEq]
  refine ⟨[], by simp, by simp, by simp, ?_⟩
  simp only [List.nil_append, List.cons_append, Nat.add_zero, reduceAdd, Nat.not_lt_zero, range1, yzw, yzz, yz1b, yz1c, yz10, yz1d, yz1a, yz19, yzy, yzo, yzf, yz3, yzu, yzt, yzn, yzm, yzs, yz8, yzb, yze, yz9, yzj, yzh, yz4, yz6, yzc, yzd, yzi, yzk, List.range_zero, yz7, yz5, yza, yzr, yzl, yzp, AVal.fresh, freshL, yz1, yzg, AObj.fresh, id, Option.isSome_some, or_true, true_or, go_sem, yz0, Int.reduceLT, reduceLE, reduceToNat, reduceNeg, Nat.reduceLT, reduceLeDiff, reduceMul, reduceSub, reduceIte, reduceEqDiff, reduceAdd, reduceCtorEq]
def mergRS (next : List (List Int)) (s t : Int) : AVal := .tup [optCS (mergQ next s t), iv (if (mergQ next s t).isSome then 0 else 6)]
theorem k_mergingS (n : Int) (next : List (List Int)) (A : Aut n next) (s t : Int) (hs : 0 ≤ s ∧ s < n) (ht : 0 ≤ t ∧ t < n) :
    Con Try.prog nz3z [] [autA n next, iv s, iv t] true fun outs rows res => outs = [] ∧ rows = [] ∧ res = mergRS next s t := by
  refine con_sh mixed czj2 rfl (by simp) ?_
  have n1 := A.n1
  have n2 := A.n2
  have hN : 2 ^ n.toNat ≤ 1024 := Nat.pow_le_pow_right (n := 2) (by omega) (show n.toNat ≤ 10 by omega)
  have hf := two_lt hs ht
  have hs0 : ¬ s < 0 := by omega
  have ht0 : ¬ t < 0 := by omega
  have hsl := u_shl (b := s.toNat) (by omega)
  have htl := u_shl (b := t.toNat) (by omega)
  have hps := pow_lt10 (k := s.toNat) (by omega)
  have hpt := pow_lt10 (k := t.toNat) (by omega)
  have hor : _ = ((twoN s t : Nat) : Int) := u_orW (x := 2 ^ s.toNat) (y := 2 ^ t.toNat) (by omega) (by omega)
  simp only [Azdi, Bzdh, hs0, ht0, hsl, htl, hor, go_sem, yz0, Int.reduceLT, reduceLE, reduceToNat, reduceNeg, Nat.reduceLT, reduceLeDiff, reduceMul, reduceSub, reduceIte, reduceEqDiff, reduceAdd, reduceCtorEq]
  intro vs vs2
  refine call_fn (k_tour n next A (twoN s t) hf) qCS (fun e => by cases e) ?_
  rintro rows res ⟨v1, v2, rfl, rfl⟩
  refine ⟨by simp, by rw [Option.getD_some, yzp]; simp only [go_sem, yz0, Int.reduceLT, reduceLE, reduceToNat, reduceNeg, Nat.reduceLT, reduceLeDiff, reduceMul, reduceSub, reduceIte, reduceEqDiff, reduceAdd, reduceCtorEq], ?_⟩
  have hT := (runT_ok A 1100 0 _ (TI0 (m := next.length) hf)).1
  simp only [Option.getD_some, Nat.not_lt_zero, range1, yzw, yzz, yz1b, yz1c, yz10, yz1d, yz1a, yz19, yzy, yzo, yzf, yz3, yzu, yzt, yzn, yzm, yzs, yz8, yzb, yze, yz9, yzj, yzh, yz4, yz6, yzc, yzd, yzi, yzk, List.range_zero, yz7, yz5, yza, yzr, yzl, yzp, AVal.fresh, freshL, yz1, yzg, AObj.fresh, id, Option.isSome_some, or_true, true_or, go_sem, yz0, Int.reduceLT, reduceLE, reduceToNat, reduceNeg, Nat.reduceLT, reduceLeDiff, reduceMul, reduceSub, reduceIte, reduceEqDiff, reduceAdd, reduceCtorEq]
  unfold mergRS mergQ
  cases hq : firstT (tourT next (twoN s t)) with
  | some p =>
    obtain ⟨f, w⟩ := p
    refine call_rm (k_firstS n.toNat next.length (tourT next (twoN s t)) hT hN f w hq) rfl rfl (by omega) qCS (by simp only [coeL_rwa, rowIs, boxIs, coe_argN, coe_argNs, coe_ro_o, yz18, yzx, coe_any, coe_val, coe_ro, yz17, yz15, coe_st, yz14, coe_rp, yz16, coe_clo, coe_own0, coe_ptr0, yz13, coeL_rws, coeL_rwn, L_hit, L_miss, L_nil, reduceEqDiff, ne_eq, reduceCtorEq, not_false_eq_true, true_and, and_true, and_self, exists_eq_left, exists_eq_right, List.mem_cons, List.not_mem_nil, or_false, AObj.row.injEq, AObj.box.injEq, exists_eq_left', exists_and_left, exists_eq, Nat.zero_lt_one, Nat.lt_add_one, List.map_cons, List.map_nil, AObj.ver, Nat.reduceLT, not_true_eq_false]) qCS ?_
    simp only [Nat.not_lt_zero, range1, yzw, yzz, yz1b, yz1c, yz10, yz1d, yz1a, yz19, yzy, yzo, yzf, yz3, yzu, yzt, yzn, yzm, yzs, yz8, yzb, yze, yz9, yzj, yzh, yz4, yz6, yzc, yzd, yzi, yzk, List.range_zero, yz7, yz5, yza, yzr, yzl, yzp, AVal.fresh, freshL, yz1, yzg, AObj.fresh, id, Option.isSome_some, or_true, true_or, go_sem, yz0, Int.reduceLT, reduceLE, reduceToNat, reduceNeg, Nat.reduceLT, reduceLeDiff, reduceMul, reduceSub, reduceIte, reduceEqDiff, reduceAdd, reduceCtorEq]
    exact ⟨[], by simp, by simp, by simp, rfl, rfl⟩
  | none =>
    refine call_rm (k_firstNS n.toNat next.length (tourT next (twoN s t)) hT hN hq) rfl rfl (by omega) qCS (by simp only [coeL_rwa, rowIs, boxIs, coe_argN, coe_argNs, coe_ro_o, yz18, yzx, coe_any, coe_val, coe_ro, yz17, yz15, coe_st, yz14, coe_rp, yz16, coe_clo, coe_own0, coe_ptr0, yz13, coeL_rws, coeL_rwn, L_hit, L_miss, L_nil, reduceEqDiff, ne_eq, reduceCtorEq, not_false_eq_true, true_and, and_true, and_self, exists_eq_left, exists_eq_right, List.mem_cons, List.not_mem_nil, or_false, AObj.row.injEq, AObj.box.injEq, exists_eq_left', exists_and_left, exists_eq, Nat.zero_lt_one, Nat.lt_add_one, List.map_cons, List.map_nil, AObj.ver, Nat.reduceLT, not_true_eq_false]) qCS ?_
    simp only [Nat.not_lt_zero, range1, yzw, yzz, yz1b, yz1c, yz10, yz1d, yz1a, yz19, yzy, yzo, yzf, yz3, yzu, yzt, yzn, yzm, yzs, yz8, yzb, yze, yz9, yzj, yzh, yz4, yz6, yzc, yzd, yzi, yzk, List.range_zero, yz7, yz5, yza, yzr, yzl, yzp, AVal.fresh, freshL, yz1, yzg, AObj.fresh, id, Option.isSome_some, or_true, true_or, go_sem, yz0, Int.reduceLT, reduceLE, reduceToNat, reduceNeg, Nat.reduceLT, reduceLeDiff, reduceMul, reduceSub, reduceIte, reduceEqDiff, reduceAdd, reduceCtorEq]
    exact ⟨[], by simp, by simp, by simp, rfl, rfl⟩
theorem k_mergesS (n : Int) (next : List (List Int)) (A : Aut n next) :
    Con Try.prog nz3n [] [autA n next] true fun outs rows res => outs = [] ∧ ∃ v, rows = [.row v 1 true (rzsS (mergT next n.toNat n.toNat))] ∧ res = .own 6000 v := by
  refine con_sh mixed czid rfl (by simp) ?_
  have n1 := A.n1
  have n2 := A.n2
  simp only [Azal, Bzak, Bzaj, Bzah, go_sem, yz0, Int.reduceLT, reduceLE, reduceToNat, reduceNeg, Nat.reduceLT, reduceLeDiff, reduceMul, reduceSub, reduceIte, reduceEqDiff, reduceAdd, reduceCtorEq]
  intro vs vs2
  refine wpD_lo (fun (_, i) => n.toNat - i) (fun (_, i) => i ≤ n.toNat)
    (fun ((v3, i) : Nat × Nat) => ⟨L .any [(1, .ptr 1 (vs 0 0) 0), (3, .own 9 v3), (11, iv n), (12, iv i)],
      L .gone [(1, .box (vs 0 0) [iv n, .ro none 1 (rwn next)]), (9, .row v3 1 true (rzsS (mergT next n.toNat i)))]⟩)
    (_, 0) (by simp) (by simp only [Bz29, go_sem, yz0, Int.reduceLT, reduceLE, reduceToNat, reduceNeg, Nat.reduceLT, reduceLeDiff, reduceMul, reduceSub, reduceIte, reduceEqDiff, reduceAdd, reduceCtorEq]; try rfl) ?_
  rintro ⟨v3, i⟩ hi
  have hi : i ≤ n.toNat := hi
  by_cases hlt : (i : Int) < n
  · have w1 : IntKind.i64.wrap ((i : Int) + 1) = ((i + 1 : Nat) : Int) := by rw [w64 (by omega)]; simp
    simp only [Bz29, Bz59, Bzag, Bzae, Bzad, Bzab, decide_eq_true hlt, go_sem, yz0, Int.reduceLT, reduceLE, reduceToNat, reduceNeg, Nat.reduceLT, reduceLeDiff, reduceMul, reduceSub, reduceIte, reduceEqDiff, reduceAdd, reduceCtorEq]
    intro vs3
    refine wpD_lo (fun (_, j) => n.toNat - j) (fun (_, j) => j ≤ n.toNat)
      (fun ((v5, j) : Nat × Nat) => ⟨L .any [(1, .ptr 1 (vs 0 0) 0), (3, .own 9 v3), (4, iv i), (5, .own 15 v5), (11, iv n), (12, iv i), (17, iv n), (18, iv j)],
        L .gone [(1, .box (vs 0 0) [iv n, .ro none 1 (rwn next)]), (9, .row v3 1 true (rzsS (mergT next n.toNat i))), (15, .row v5 1 true (optLS (mergW next (i : Int) j)))]⟩)
      (_, 0) (by simp) (by simp only [Bz28, go_sem, yz0, Int.reduceLT, reduceLE, reduceToNat, reduceNeg, Nat.reduceLT, reduceLeDiff, reduceMul, reduceSub, reduceIte, reduceEqDiff, reduceAdd, reduceCtorEq]; try rfl) ?_
    rintro ⟨v5, j⟩ hj
    have hj : j ≤ n.toNat := hj
    by_cases hlj : (j : Int) < n
    · have w2 : IntKind.i64.wrap ((j : Int) + 1) = ((j + 1 : Nat) : Int) := by rw [w64 (by omega)]; simp
      simp only [Bz28, Bz58, Bzaa, Bza9, decide_eq_true hlj, go_sem, yz0, Int.reduceLT, reduceLE, reduceToNat, reduceNeg, Nat.reduceLT, reduceLeDiff, reduceMul, reduceSub, reduceIte, reduceEqDiff, reduceAdd, reduceCtorEq]
      intro vs4
      refine call_sh (k_mergingS n next A i j (by omega) (by omega)) qCS (fun e => by cases e) ?_
      rintro outs rows res ⟨rfl, rfl, rfl⟩
      refine ⟨rfl, by simp, by simp, ?_⟩
      unfold mergRS
      cases hq : mergQ next (i : Int) (j : Int) with
      | some w =>
        simp only [Option.getD_some, optCS, Bz56, Bz57, w2, Nat.not_lt_zero, range1, yzw, yzz, yz1b, yz1c, yz10, yz1d, yz1a, yz19, yzy, yzo, yzf, yz3, yzu, yzt, yzn, yzm, yzs, yz8, yzb, yze, yz9, yzj, yzh, yz4, yz6, yzc, yzd, yzi, yzk, List.range_zero, yz7, yz5, yza, yzr, yzl, yzp, AVal.fresh, freshL, yz1, yzg, AObj.fresh, id, Option.isSome_some, or_true, true_or, go_sem, yz0, Int.reduceLT, reduceLE, reduceToNat, reduceNeg, Nat.reduceLT, reduceLeDiff, reduceMul, reduceSub, reduceIte, reduceEqDiff, reduceAdd, reduceCtorEq]
        intro vs5
        refine ⟨by rw [mergW_len]; omega, ?_⟩
        exact ⟨(_, j + 1), by dsimp only; omega, by dsimp only; omega, by rw [mergW_succ, hq]⟩
      | none =>
        simp only [Option.getD_some, optCS, Bz56, Bz57, w2, Nat.not_lt_zero, range1, yzw, yzz, yz1b, yz1c, yz10, yz1d, yz1a, yz19, yzy, yzo, yzf, yz3, yzu, yzt, yzn, yzm, yzs, yz8, yzb, yze, yz9, yzj, yzh, yz4, yz6, yzc, yzd, yzi, yzk, List.range_zero, yz7, yz5, yza, yzr, yzl, yzp, AVal.fresh, freshL, yz1, yzg, AObj.fresh, id, Option.isSome_some, or_true, true_or, go_sem, yz0, Int.reduceLT, reduceLE, reduceToNat, reduceNeg, Nat.reduceLT, reduceLeDiff, reduceMul, reduceSub, reduceIte, reduceEqDiff, reduceAdd, reduceCtorEq]
        intro vs5
        refine ⟨by rw [mergW_len]; omega, ?_⟩
        exact ⟨(_, j + 1), by dsimp only; omega, by dsimp only; omega, by rw [mergW_succ, hq]⟩
    · obtain rfl : j = n.toNat := by omega
      simp only [Bz28, Bz58, Bzac, Bzaf, decide_eq_false hlj, w1, go_sem, yz0, Int.reduceLT, reduceLE, reduceToNat, reduceNeg, Nat.reduceLT, reduceLeDiff, reduceMul, reduceSub, reduceIte, reduceEqDiff, reduceAdd, reduceCtorEq]
      intro vs4
      refine ⟨by rw [mergT_len]; omega, ?_⟩
      exact ⟨(_, i + 1), by dsimp only; omega, by dsimp only; omega, by rw [mergT_succ]⟩
  · obtain rfl : i = n.toNat := by omega
    simp only [Bz29, Bz59, Bzai, decide_eq_false hlt, go_sem, yz0, Int.reduceLT, reduceLE, reduceToNat, reduceNeg, Nat.reduceLT, reduceLeDiff, reduceMul, reduceSub, reduceIte, reduceEqDiff, reduceAdd, reduceCtorEq]
    refine ⟨[9], by simp, by simp, by simp, ?_⟩
    simp only [renL_rzsS, range1, List.length_singleton, Nat.not_lt_zero, range1, yzw, yzz, yz1b, yz1c, yz10, yz1d, yz1a, yz19, yzy, yzo, yzf, yz3, yzu, yzt, yzn, yzm, yzs, yz8, yzb, yze, yz9, yzj, yzh, yz4, yz6, yzc, yzd, yzi, yzk, List.range_zero, yz7, yz5, yza, yzr, yzl, yzp, AVal.fresh, freshL, yz1, yzg, AObj.fresh, id, Option.isSome_some, or_true, true_or, go_sem, yz0, Int.reduceLT, reduceLE, reduceToNat, reduceNeg, Nat.reduceLT, reduceLeDiff, reduceMul, reduceSub, reduceIte, reduceEqDiff, reduceAdd, reduceCtorEq]
    exact ⟨_, rfl, rfl⟩
end Go.Ab
namespace Go.Ab
def divS : Int → List Int → Bool
  | _, [] => true
  | u, c :: cs => (decide (0 ≤ c) && decide (c ≤ u)) && divS (max u (c + 1)) cs
def usedS : Int → List Int → Int
  | u, [] => u
  | u, c :: cs => usedS (max u (c + 1)) cs
def divB (cl : List Int) (n : Int) : Bool := divS 0 cl && decide ((cl.length : Int) = n)
theorem used_ge : ∀ {cs : List Int} {u : Int}, u ≤ usedS u cs
  | [], _ => Int.le_refl _
  | c :: cs, u => by
    have := used_ge (cs := cs) (u := max u (c + 1))
    simp only [usedS]; omega
theorem used_mem : ∀ {cs : List Int} {u c : Int}, c ∈ cs → c + 1 ≤ usedS u cs
  | x :: cs, u, c, h => by
    simp only [usedS]
    rcases List.mem_cons.1 h with rfl | h
    · have := used_ge (cs := cs) (u := max u (c + 1)); omega
    · exact used_mem h
theorem divS_cons {u c : Int} {cs : List Int} : divS u (c :: cs) = true ↔ (0 ≤ c ∧ c ≤ u) ∧ divS (max u (c + 1)) cs = true := by
  simp [divS, Bool.and_eq_true, decide_eq_true_eq]
theorem div_nn : ∀ {cs : List Int} {u c : Int}, divS u cs = true → c ∈ cs → 0 ≤ c
  | x :: cs, u, c, h, hc => by
    obtain ⟨h1, h2⟩ := divS_cons.1 h
    rcases List.mem_cons.1 hc with rfl | hc
    · exact h1.1
    · exact div_nn h2 hc
theorem div_surj : ∀ {cs : List Int} {u c : Int}, divS u cs = true → u ≤ c → c < usedS u cs → c ∈ cs
  | [], u, c, _, h1, h2 => by simp only [usedS] at h2; omega
  | x :: cs, u, c, h, h1, h2 => by
    obtain ⟨g1, g2⟩ := divS_cons.1 h
    simp only [usedS] at h2
    by_cases e : c = x
    · rw [e]; simp
    · exact List.mem_cons_of_mem _ (div_surj g2 (by omega) h2)
theorem used_len : ∀ {cs : List Int} {u : Int}, divS u cs = true → usedS u cs ≤ u + cs.length
  | [], u, _ => by simp [usedS]
  | x :: cs, u, h => by
    obtain ⟨g1, g2⟩ := divS_cons.1 h
    have := used_len g2
    simp only [usedS, List.length_cons]; omega
theorem divS_snoc : ∀ {cs : List Int} {u c : Int}, divS u (cs ++ [c]) = (divS u cs && (decide (0 ≤ c) && decide (c ≤ usedS u cs)))
  | [], u, c => by simp only [List.nil_append, divS, usedS, Bool.and_true, Bool.true_and]; rfl
  | x :: cs, u, c => by simp only [List.cons_append, divS, usedS, divS_snoc (cs := cs), Bool.and_assoc]; rfl
structure Div (cl : List Int) (n k : Int) : Prop where
  ln : (cl.length : Int) = n
  nn : ∀ c ∈ cl, 0 ≤ c ∧ c < k
  on : ∀ c, 0 ≤ c → c < k → c ∈ cl
  le : k ≤ n
theorem Div.of {cl : List Int} {n : Int} (h : divB cl n = true) : Div cl n (usedS 0 cl) := by
  unfold divB at h
  rw [Bool.and_eq_true, decide_eq_true_eq] at h
  exact ⟨h.2, fun c hc => ⟨div_nn h.1 hc, by have := used_mem (u := 0) hc; omega⟩, fun c h1 h2 => div_surj h.1 h1 h2, by have := used_len h.1; omega⟩
theorem Div.at {cl : List Int} {n k : Int} (D : Div cl n k) {s : Nat} (hs : (s : Int) < n) : 0 ≤ cl.getD s 0 ∧ cl.getD s 0 < k := D.nn _ (yz11 (by have := D.ln; omega) 0)
end Go.Ab
namespace Go.Ab
def LeC (n : Nat) (cl us : List Int) : Prop := ∀ i j : Nat, i < n → j < n → cl.getD i 0 = cl.getD j 0 → us.getD i 0 = us.getD j 0
def RspC (n : Nat) (next : List (List Int)) (cl us : List Int) : Prop := ∀ row ∈ next, ∀ i j : Nat, i < n → j < n → cl.getD i 0 = cl.getD j 0 → us.getD (row.getD i 0).toNat 0 = us.getD (row.getD j 0).toNat 0
theorem LeC.refl {n : Nat} {cl : List Int} : LeC n cl cl := fun _ _ _ _ h => h
theorem LeC.trans {n : Nat} {a b c : List Int} (h : LeC n a b) (k : LeC n b c) : LeC n a c := fun i j hi hj e => k i j hi hj (h i j hi hj e)
structure JoinP (n : Nat) (next : List (List Int)) (cl : List Int) (s t : Nat) (us : List Int) : Prop where
  ln : us.length = cl.length
  rg : ∀ x ∈ us, x ∈ cl
  co : LeC n cl us
  st : us.getD s 0 = us.getD t 0
  mn : ∀ C : List Int, RspC n next C C → LeC n cl C → C.getD s 0 = C.getD t 0 → LeC n us C
  cg : ∀ F : List Int, LeC n us F → RspC n next cl F → RspC n next us F
theorem JoinP.same {n : Nat} {next : List (List Int)} {cl : List Int} {s t : Nat} (h : cl.getD s 0 = cl.getD t 0) : JoinP n next cl s t cl :=
  ⟨rfl, fun _ h => h, LeC.refl, h, fun _ _ h _ => h, fun _ _ h => h⟩
def repI (a b : Int) (l : List Int) : List Int := l.map fun c => if c = a then b else c
theorem repI_len {a b : Int} {l : List Int} : (repI a b l).length = l.length := by simp [repI]
theorem repI_getD {a b : Int} {l : List Int} {i : Nat} (h : i < l.length) : (repI a b l).getD i 0 = if l.getD i 0 = a then b else l.getD i 0 := by
  unfold repI
  rw [List.getD_eq_getElem?_getD, List.getElem?_map, List.getElem?_eq_getElem h, List.getD_eq_getElem?_getD, List.getElem?_eq_getElem h]; rfl
structure JoinI (n : Nat) (next : List (List Int)) (cl : List Int) (s t : Nat) (l : Nat) (us : List Int) : Prop where
  ln : us.length = cl.length
  rg : ∀ x ∈ us, x ∈ repI (cl.getD s 0) (cl.getD t 0) cl
  co : LeC n (repI (cl.getD s 0) (cl.getD t 0) cl) us
  rw' : ∀ row ∈ next.take l, us.getD (row.getD s 0).toNat 0 = us.getD (row.getD t 0).toNat 0
  mn : ∀ C : List Int, RspC n next C C → LeC n cl C → C.getD s 0 = C.getD t 0 → LeC n us C
  cg : ∀ F : List Int, LeC n us F → RspC n next (repI (cl.getD s 0) (cl.getD t 0) cl) F → RspC n next us F
theorem JoinI.zero {n : Nat} {next : List (List Int)} {cl : List Int} {s t : Nat} (hl : cl.length = n) (hs : s < n) (ht : t < n) : JoinI n next cl s t 0 (repI (cl.getD s 0) (cl.getD t 0) cl) := by
  refine ⟨repI_len, fun _ h => h, LeC.refl, by simp, fun C _ h e i j hi hj he => ?_, fun _ _ h => h⟩
  rw [repI_getD (by omega), repI_getD (by omega)] at he
  split at he
  · rename_i h1
    have e1 := h i s hi hs h1
    split at he
    · rename_i h2
      have e2 := h j s hj hs h2
      rw [e1, e2]
    · have e2 := h j t hj ht he.symm
      rw [e1, e2, e]
  · split at he
    · rename_i h2
      have e2 := h j s hj hs h2
      have e1 := h i t hi ht he
      rw [e1, e2, e]
    · exact h i j hi hj he
theorem JoinI.step {n : Nat} {next : List (List Int)} {cl : List Int} {s t l : Nat} {us vs row : List Int} (I : JoinI n next cl s t l us) (hs : s < n) (ht : t < n)
    (hrow : row ∈ next) (htk : next.take (l + 1) = next.take l ++ [row]) (hin : ∀ r ∈ next, ∀ i < n, (r.getD i 0).toNat < n) (J : JoinP n next us (row.getD s 0).toNat (row.getD t 0).toNat vs) : JoinI n next cl s t (l + 1) vs := by
  refine ⟨J.ln.trans I.ln, fun x h => I.rg x (J.rg x h), I.co.trans J.co, fun r hr => ?_, fun C hC hle he => J.mn C hC (I.mn C hC hle he) (hC row hrow s t hs ht he), fun F hF hR => J.cg F hF (I.cg F (J.co.trans hF) hR)⟩
  rw [htk] at hr
  rcases List.mem_append.1 hr with hr | hr
  · exact J.co _ _ (hin r (List.mem_of_mem_take hr) s hs) (hin r (List.mem_of_mem_take hr) t ht) (I.rw' r hr)
  · rw [List.mem_singleton.1 hr]; exact J.st
theorem JoinI.done {n : Nat} {next : List (List Int)} {cl : List Int} {s t l : Nat} {us : List Int} (I : JoinI n next cl s t l us) (hl : cl.length = n) (hs : s < n) (ht : t < n) (hll : next.length ≤ l)
    (hin : ∀ r ∈ next, ∀ i < n, (r.getD i 0).toNat < n) : JoinP n next cl s t us := by
  have hco : LeC n cl us := by
    intro i j hi hj he
    refine I.co i j hi hj ?_
    rw [repI_getD (by omega), repI_getD (by omega), he]
  refine ⟨I.ln, fun x h => ?_, hco, I.co s t hs ht ?_, I.mn, fun F hF hR => I.cg F hF ?_⟩
  · have h1 := I.rg x h
    simp only [repI, List.mem_map] at h1
    obtain ⟨c, hc, rfl⟩ := h1
    split
    · exact yz11 (by omega) 0
    · exact hc
  · rw [repI_getD (by omega), repI_getD (by omega), if_pos rfl]
    split <;> rfl
  · have hst : ∀ row ∈ next, F.getD (row.getD s 0).toNat 0 = F.getD (row.getD t 0).toNat 0 := fun row hrow =>
      hF _ _ (hin row hrow s hs) (hin row hrow t ht) (I.rw' row (by rw [List.take_of_length_le hll]; exact hrow))
    intro row hrow i j hi hj he
    have h := hR row hrow
    rw [repI_getD (by omega), repI_getD (by omega)] at he
    split at he
    · rename_i h1
      have e1 := h i s hi hs h1
      split at he
      · rename_i h2
        have e2 := h j s hj hs h2
        rw [e1, e2]
      · have e2 := h j t hj ht he.symm
        rw [e1, e2, hst row hrow]
    · split at he
      · rename_i h2
        have e2 := h j s hj hs h2
        have e1 := h i t hi ht he
        rw [e1, e2, hst row hrow]
      · exact h i j hi hj he
end Go.Ab
namespace Go.Ab
open Go.Proofs
abbrev DrN (code : List Int) (at_ most : Int) (outs rows : List AObj) (res : AVal) : Prop :=
  ∃ n ps v a' s', Aut n (ps.map (·.2)) ∧ DJ ps ∧ n ≤ most ∧ at_ ≤ a' ∧ a' ≤ at_ + 1000 ∧ outs = [.box 0 (srcC code a' s')] ∧ rows = [.row v 1 true (rwp ps)] ∧ res = .st [iv n, .own 6000 v]
theorem k_DrawnN (code : List Int) (at_ seed most : Int) (hb : ∀ x ∈ code, 0 ≤ x ∧ x ≤ 255) (ha : 0 ≤ at_ ∧ at_ ≤ 1000000) (hm : 1 ≤ most ∧ most ≤ 10) :
    Con Try.prog nzd [.box 0 (srcC code at_ seed)] [.ptr 5000 0 0, iv most] true (DrN code at_ most) := by
  refine con_sh mixed czjd rfl (by simp) ?_
  generalize hQ : finQ _ = Q
  have h7 : ∀ (σ : St) (v4 : Nat) (a s n l : Int), at_ ≤ a ∧ a ≤ at_ + 20 ∧ 1 ≤ n ∧ n ≤ most ∧ 1 ≤ l ∧ l ≤ 3 → σ.keep [0, 4, 5, 6] [4, 7, 87, 5000, 5001] =
      ⟨L .any [(0, .ptr 5000 0 0), (4, .ptr 4 v4 0), (5, iv n), (6, iv l)], L .gone [(4, .box v4 [iv 0, .val (.slice none 0 0)]), (7, .gone), (87, .gone), (5000, .box 0 (srcC code a s)), (5001, .gone)]⟩ → wpD Try.prog Bz16 Q σ := by
    rintro σ v4 a s n l ⟨i1, i2, i3, i4, i5, i6⟩ hS
    unfold Bz16
    rw [yzq, hS]
    simp only [yzq, yz2, go_sem, yz0, Int.reduceLT, reduceLE, reduceToNat, reduceNeg, Nat.reduceLT, reduceLeDiff, reduceMul, reduceSub, reduceIte, reduceEqDiff, reduceAdd, reduceCtorEq]
    intro vs U hN
    simp only [Bzfn, Bzfl, yzq, yz2, go_sem, yz0, Int.reduceLT, reduceLE, reduceToNat, reduceNeg, Nat.reduceLT, reduceLeDiff, reduceMul, reduceSub, reduceIte, reduceEqDiff, reduceAdd, reduceCtorEq]
    intro vs1 U1 hN1 ver
    refine wpD_lp (fun (_, _, _, _, _, _, next) => l.toNat - List.length next)
      (fun (_, _, _, nn, a, _, next) => at_ ≤ a ∧ a ≤ at_ + 20 + 44 * List.length next ∧ (List.length next : Int) ≤ l ∧ (next ≠ [] → nn = true) ∧ (∀ row ∈ next, (List.length row.2 : Int) = n ∧ ∀ x ∈ row.2, 0 ≤ x ∧ x < n) ∧ DJ next)
      (fun ((v4, v7, v87, nn, a, s, next) : Nat × Nat × Nat × Bool × Int × Int × List (Nat × List Int)) =>
        ⟨L .any [(0, .ptr 5000 0 0), (4, .ptr 4 v4 0), (5, iv n), (6, iv l), (7, .ptr 7 v7 0), (8, iv next.length)],
         L .gone [(4, .box v4 [iv 0, .val (.slice none 0 0)]), (7, .box v7 [iv n, .own 87 v87]), (87, .row v87 1 nn (rwp next)), (5000, .box 0 (srcC code a s)), (5001, .gone)]⟩)
      (v4, _, _, _, a, s, []) ?_ (by simp only [Bz2z, yzq, yz2, go_sem, yz0, Int.reduceLT, reduceLE, reduceToNat, reduceNeg, Nat.reduceLT, reduceLeDiff, reduceMul, reduceSub, reduceIte, reduceEqDiff, reduceAdd, reduceCtorEq]; try rfl) ?_
    · exact ⟨by omega, by simp; omega, by simp; omega, by simp, by simp, by simp [DJ]⟩
    · rintro ⟨v4, v7, v87, nn, a, s, next⟩ ⟨j1, j2, j3, j5, j4, j6⟩
      by_cases hlt : (next.length : Int) < l
      · simp only [Bz2z, Bz6u, Bz6y, decide_eq_true hlt, yzq, yz2, go_sem, yz0, Int.reduceLT, reduceLE, reduceToNat, reduceNeg, Nat.reduceLT, reduceLeDiff, reduceMul, reduceSub, reduceIte, reduceEqDiff, reduceAdd, reduceCtorEq]
        intro vs2 U2 hN2 vs2b U2b hN2b
        simp only [Bzfj, yzq, yz2, go_sem, yz0, Int.reduceLT, reduceLE, reduceToNat, reduceNeg, Nat.reduceLT, reduceLeDiff, reduceMul, reduceSub, reduceIte, reduceEqDiff, reduceAdd, reduceCtorEq]
        intro vs3 U3 hN3
        refine call_funB (k_pick code a s 5 hb (by omega)) rfl qCS qCS ?_
        rintro cs' x ⟨a1, s1, kind, rfl, h1, h2, rfl, h3, h4⟩
        simp only [Bzfi, Bzfg, yzq, yz2, go_sem, yz0, Int.reduceLT, reduceLE, reduceToNat, reduceNeg, Nat.reduceLT, reduceLeDiff, reduceMul, reduceSub, reduceIte, reduceEqDiff, reduceAdd, reduceCtorEq]
        intro vs3b U3b hN3b
        refine wpD_lp (fun (_, _, _, row) => n.toNat - List.length row)
          (fun (_, a', _, row) => at_ ≤ a' ∧ a' ≤ a1 + 4 * List.length row ∧ (List.length row : Int) ≤ n ∧ ∀ x ∈ row, 0 ≤ x ∧ x < n)
          (fun ((v9, a, s, row) : Nat × Int × Int × List Int) => ⟨L .any [(0, .ptr 5000 0 0), (4, .ptr 4 v4 0), (5, iv n), (6, iv l), (7, .ptr 7 v7 0), (8, iv next.length), (9, .own 46 v9), (10, iv kind), (11, iv row.length)], L .gone [(4, .box v4 [iv 0, .val (.slice none 0 0)]), (7, .box v7 [iv n, .own 87 v87]), (46, .row v9 1 true (ints row)), (82, .gone), (87, .row v87 1 nn (rwp next)), (5000, .box 0 (srcC code a s)), (5001, .gone)]⟩)
          (_, a1, s1, []) ?_ (by simp only [Bz2y, yzq, yz2, go_sem, yz0, Int.reduceLT, reduceLE, reduceToNat, reduceNeg, Nat.reduceLT, reduceLeDiff, reduceMul, reduceSub, reduceIte, reduceEqDiff, reduceAdd, reduceCtorEq]; try rfl) ?_
        · simp; omega
        · rintro ⟨v9, a, s, row⟩ ⟨q1, q2, q3, q4⟩
          by_cases hlt2 : (row.length : Int) < n
          · simp only [Bz2y, Bz6v, Bz6x, decide_eq_true hlt2, yzq, yz2, go_sem, yz0, Int.reduceLT, reduceLE, reduceToNat, reduceNeg, Nat.reduceLT, reduceLeDiff, reduceMul, reduceSub, reduceIte, reduceEqDiff, reduceAdd, reduceCtorEq]
            intro vs4a U4a hN4a vs4 U4 hN4
            refine call_funB (k_pick code a s n hb (by omega)) rfl qCS qCS ?_
            rintro cs' x ⟨a2, s2, to, rfl, f1, f2, rfl, f3, f4⟩
            simp only [yzq, yz2, go_sem, yz0, Int.reduceLT, reduceLE, reduceToNat, reduceNeg, Nat.reduceLT, reduceLeDiff, reduceMul, reduceSub, reduceIte, reduceEqDiff, reduceAdd, reduceCtorEq]
            unfold Bzfe
            rw [yzq]
            refine wpD_cutn (α := Int × Int × Int) (fun (a', _, t) => a2 ≤ a' ∧ a' ≤ a2 + 2 ∧ 0 ≤ t ∧ t < n)
              (fun ((a, s, t) : Int × Int × Int) => ⟨L .any [(0, .ptr 5000 0 0), (4, .ptr 4 v4 0), (5, iv n), (6, iv l), (7, .ptr 7 v7 0), (8, iv next.length), (9, .own 46 v9), (10, iv kind), (11, iv row.length), (12, iv t)], L .gone [(4, .box v4 [iv 0, .val (.slice none 0 0)]), (7, .box v7 [iv n, .own 87 v87]), (46, .row v9 1 true (ints row)), (82, .gone), (87, .row v87 1 nn (rwp next)), (5000, .box 0 (srcC code a s)), (5001, .gone)]⟩) ?_ ?_
            · have w1 : IntKind.i64.wrap ((row.length : Int) + 1) = row.length + 1 := w64 (by omega)
              have w2 : IntKind.i64.wrap (n - 1) = n - 1 := w64 (by omega)
              have w3 : IntKind.i64.wrap (n - 1 - row.length) = n - 1 - row.length := w64 (by omega)
              have hn0 : ¬ n = 0 := by omega
              have ht := tmod_in (a := (row.length : Int) + 1) (n := n) (by omega) i3
              by_cases k0 : kind = 0
              · subst k0
                simp only [w1, hn0, Bz15, Bz14, yzq, yz2, go_sem, yz0, Int.reduceLT, reduceLE, reduceToNat, reduceNeg, Nat.reduceLT, reduceLeDiff, reduceMul, reduceSub, reduceIte, reduceEqDiff, reduceAdd, reduceCtorEq]
                intro _ _ _ _ _ _ _ _ _
                exact ⟨(_, _, ((row.length : Int) + 1).tmod n), (by dsimp only; omega), rfl⟩
              by_cases k1 : kind = 1
              · subst k1
                simp only [beq_false_of_ne (show (1 : Int) ≠ 0 by omega), Bz15, Bz14, Bz2x, yzq, yz2, go_sem, yz0, Int.reduceLT, reduceLE, reduceToNat, reduceNeg, Nat.reduceLT, reduceLeDiff, reduceMul, reduceSub, reduceIte, reduceEqDiff, reduceAdd, reduceCtorEq]
                intro _ _ _ _ _ _ _ _ _ vs5 U5 hN5
                refine call_funB (k_one code a2 s2 4 hb (by omega)) rfl qCS qCS ?_
                rintro cs' x ⟨a3, s3, b, rfl, e1, e2, rfl⟩
                simp only [Bzfb, yzq, yz2, go_sem, yz0, Int.reduceLT, reduceLE, reduceToNat, reduceNeg, Nat.reduceLT, reduceLeDiff, reduceMul, reduceSub, reduceIte, reduceEqDiff, reduceAdd, reduceCtorEq]
                exact ⟨fun _ _ _ _ => ⟨(_, _, (row.length : Int)), (by dsimp only; omega), rfl⟩, fun _ => ⟨(_, _, to), (by dsimp only; omega), rfl⟩⟩
              by_cases k2 : kind = 2
              · subst k2
                simp only [beq_false_of_ne (show (2 : Int) ≠ 0 by omega), beq_false_of_ne (show (2 : Int) ≠ 1 by omega), Bz15, Bz14, Bz2x, Bz6w, yzq, yz2, go_sem, yz0, Int.reduceLT, reduceLE, reduceToNat, reduceNeg, Nat.reduceLT, reduceLeDiff, reduceMul, reduceSub, reduceIte, reduceEqDiff, reduceAdd, reduceCtorEq]
                intro _ _ _ _ _ _ _ _ _ _ _ _ vs5 U5 hN5
                refine call_funB (k_one code a2 s2 3 hb (by omega)) rfl qCS qCS ?_
                rintro cs' x ⟨a3, s3, b, rfl, e1, e2, rfl⟩
                simp only [w2, w3, Bzfc, yzq, yz2, go_sem, yz0, Int.reduceLT, reduceLE, reduceToNat, reduceNeg, Nat.reduceLT, reduceLeDiff, reduceMul, reduceSub, reduceIte, reduceEqDiff, reduceAdd, reduceCtorEq]
                exact ⟨fun _ _ _ _ => ⟨(_, _, n - 1 - (row.length : Int)), (by dsimp only; omega), rfl⟩, fun _ => ⟨(_, _, to), (by dsimp only; omega), rfl⟩⟩
              simp only [beq_false_of_ne k0, beq_false_of_ne k1, beq_false_of_ne k2, Bz15, Bz14, Bz2x, Bz6w, yzq, yz2, go_sem, yz0, Int.reduceLT, reduceLE, reduceToNat, reduceNeg, Nat.reduceLT, reduceLeDiff, reduceMul, reduceSub, reduceIte, reduceEqDiff, reduceAdd, reduceCtorEq]
              intro _ _ _ _ _ _ _ _ _ _ _ _
              exact ⟨(_, _, to), (by dsimp only; omega), rfl⟩
            · rintro ⟨a3, s3, t⟩ ⟨e1, e2, e3, e4⟩
              have w1 : IntKind.i64.wrap ((row.length : Int) + 1) = ((row ++ [t]).length : Int) := by rw [w64 (by omega)]; simp
              simp only [w1, Bzfd, Bzff, yzq, yz2, go_sem, yz0, Int.reduceLT, reduceLE, reduceToNat, reduceNeg, Nat.reduceLT, reduceLeDiff, reduceMul, reduceSub, reduceIte, reduceEqDiff, reduceAdd, reduceCtorEq]
              intro vs6 U6 hN6
              refine ⟨⟨_, rfl, rfl⟩, by omega, ?_⟩
              intro vs7 U7 hN7
              refine ⟨(_, _, _, row ++ [t]), ?_, ⟨?_, ?_, ?_, ?_⟩, rfl⟩
              · simp; omega
              · show at_ ≤ a3; omega
              · simp; omega
              · simp; omega
              · intro x hx
                simp only [List.mem_append, List.mem_singleton] at hx
                rcases hx with hx | rfl
                · exact q4 x hx
                · omega
          · simp only [Bz2y, Bz6v, Bz6x, decide_eq_false hlt2, yzq, yz2, go_sem, yz0, Int.reduceLT, reduceLE, reduceToNat, reduceNeg, Nat.reduceLT, reduceLeDiff, reduceMul, reduceSub, reduceIte, reduceEqDiff, reduceAdd, reduceCtorEq]
            intro vs4 U4 hN4
            have hrow : (row.length : Int) = n := by omega
            have w1 : IntKind.i64.wrap ((next.length : Int) + 1) = ((next ++ [(v9, row)]).length : Int) := by rw [w64 (by omega)]; simp
            simp only [Bzfh, yzq, wpD_gh, go_sem, yz0, Int.reduceLT, reduceLE, reduceToNat, reduceNeg, Nat.reduceLT, reduceLeDiff, reduceMul, reduceSub, reduceIte, reduceEqDiff, reduceAdd, reduceCtorEq]
            intro hD
            refine ⟨[], ?_⟩
            have hf : ∀ p ∈ next, p.2 = [] ∨ p.1 ≠ v9 := fun p hp => by
              by_cases e : p.2 = []
              · exact .inl e
              · exact .inr (hD 87 v87 1 nn (rwp next) 46 v9 rfl rfl p.1 1 (ints p.2) (List.mem_map.2 ⟨p, hp, rfl⟩) (by simpa using e))
            simp only [gwp_nil, yzq, yz2, go_sem, yz0, Int.reduceLT, reduceLE, reduceToNat, reduceNeg, Nat.reduceLT, reduceLeDiff, reduceMul, reduceSub, reduceIte, reduceEqDiff, reduceAdd, reduceCtorEq]
            intro vs7 U7 hN7
            rw [rwp_len]
            refine ⟨by omega, ?_⟩
            simp only [w1, Bzfk, rwp_snoc, yzq, yz2, go_sem, yz0, Int.reduceLT, reduceLE, reduceToNat, reduceNeg, Nat.reduceLT, reduceLeDiff, reduceMul, reduceSub, reduceIte, reduceEqDiff, reduceAdd, reduceCtorEq]
            intro vs8 U8 hN8
            refine ⟨(_, _, _, _, _, _, next ++ [(v9, row)]), ?_, ⟨?_, ?_, ?_, ?_, ?_, j6.snoc hf⟩, rfl⟩
            · simp; omega
            · show at_ ≤ a; omega
            · simp; omega
            · simp; omega
            · exact fun _ => rfl
            · intro r hr
              simp only [List.mem_append, List.mem_singleton] at hr
              rcases hr with hr | rfl
              · exact j4 r hr
              · exact ⟨hrow, q4⟩
      · simp only [Bz2z, Bz6u, Bz6y, decide_eq_false hlt, yzq, yz2, go_sem, yz0, Int.reduceLT, reduceLE, reduceToNat, reduceNeg, Nat.reduceLT, reduceLeDiff, reduceMul, reduceSub, reduceIte, reduceEqDiff, reduceAdd, reduceCtorEq]
        intro vs2 U2 hN2
        have hnn : nn = true := j5 (by intro e; rw [e] at hlt; simp at hlt; omega)
        subst hnn
        simp only [Bzfm, ← hQ, Az71, yzq, yz2, go_sem, yz0, Int.reduceLT, reduceLE, reduceToNat, reduceNeg, Nat.reduceLT, reduceLeDiff, reduceMul, reduceSub, reduceIte, reduceEqDiff, reduceAdd, reduceCtorEq]
        intro vs3 U3 hN3
        refine ⟨[87], by simp, by simp, by simp, ?_⟩
        simp only [range1, List.length_singleton, renL_rwp, Nat.not_lt_zero, range1, yzw, yzz, yz1b, yz1c, yz10, yz1d, yz1a, yz19, yzy, yzo, yzf, yz3, yzu, yzt, yzn, yzm, yzs, yz8, yzb, yze, yz9, yzj, yzh, yz4, yz6, yzc, yzd, yzi, yzk, List.range_zero, yz7, yz5, yza, yzr, yzl, yzp, AVal.fresh, freshL, yz1, yzg, AObj.fresh, id, Option.isSome_some, or_true, true_or, yzq, yz2, go_sem, yz0, Int.reduceLT, reduceLE, reduceToNat, reduceNeg, Nat.reduceLT, reduceLeDiff, reduceMul, reduceSub, reduceIte, reduceEqDiff, reduceAdd, reduceCtorEq]
        exact ⟨n, next, v87, a, s, ⟨i3, by omega, by rw [List.length_map]; omega, by rw [List.length_map]; omega, fun r hr => by obtain ⟨p, hp, rfl⟩ := List.mem_map.1 hr; exact j4 p hp⟩, j6, i4, by omega, by omega, rfl, by simp, rfl⟩
  have h4 : ∀ (σ : St) (v4 : Nat) (a s n : Int), at_ ≤ a ∧ a ≤ at_ + 10 ∧ 1 ≤ n ∧ n ≤ most → σ.keep [0, 4, 5] [4, 7, 87, 5000, 5001] =
      ⟨L .any [(0, .ptr 5000 0 0), (4, .ptr 4 v4 0), (5, iv n)], L .gone [(4, .box v4 [iv 0, .val (.slice none 0 0)]), (7, .gone), (87, .gone), (5000, .box 0 (srcC code a s)), (5001, .gone)]⟩ → wpD Try.prog Bzf Q σ := by
    rintro σ v4 a s n ⟨i1, i2, i3, i4⟩ hS
    unfold Bzf
    rw [yzq, hS]
    simp only [yzq, yz2, go_sem, yz0, Int.reduceLT, reduceLE, reduceToNat, reduceNeg, Nat.reduceLT, reduceLeDiff, reduceMul, reduceSub, reduceIte, reduceEqDiff, reduceAdd, reduceCtorEq]
    intro vs U hN
    refine call_funB (k_pick code a s 3 hb (by omega)) rfl qCS qCS ?_
    rintro cs' x ⟨a1, s1, b1, rfl, h1, h2, rfl, h3, h4⟩
    have hw : IntKind.i64.wrap (1 + b1) = 1 + b1 := w64 (by omega)
    by_cases he : 1 + b1 = 1
    · simp only [hw.trans he, Bz6z, yzq, yz2, go_sem, yz0, Int.reduceLT, reduceLE, reduceToNat, reduceNeg, Nat.reduceLT, reduceLeDiff, reduceMul, reduceSub, reduceIte, reduceEqDiff, reduceAdd, reduceCtorEq]
      intro vs2 U2 hN2
      refine call_funB (k_one code a1 s1 3 hb (by omega)) rfl qCS qCS ?_
      rintro cs' x ⟨a2, s2, b2, rfl, g1, g2, rfl⟩
      simp only [Bz6t, yzq, yz2, go_sem, yz0, Int.reduceLT, reduceLE, reduceToNat, reduceNeg, Nat.reduceLT, reduceLeDiff, reduceMul, reduceSub, reduceIte, reduceEqDiff, reduceAdd, reduceCtorEq]
      refine ⟨fun _ vs3 U3 hN3 => h7 _ v4 a2 s2 n 2 (by omega) ?_, fun _ => h7 _ v4 a2 s2 n 1 (by omega) ?_⟩ <;> (simp only [Bz16, yzq, yz2, go_sem, yz0, Int.reduceLT, reduceLE, reduceToNat, reduceNeg, Nat.reduceLT, reduceLeDiff, reduceMul, reduceSub, reduceIte, reduceEqDiff, reduceAdd, reduceCtorEq]; try rfl)
    · simp only [hw, beq_false_of_ne he, Bz6z, yzq, yz2, go_sem, yz0, Int.reduceLT, reduceLE, reduceToNat, reduceNeg, Nat.reduceLT, reduceLeDiff, reduceMul, reduceSub, reduceIte, reduceEqDiff, reduceAdd, reduceCtorEq]
      intro vs2 U2 hN2
      simp only [Bz6t, yzq, yz2, go_sem, yz0, Int.reduceLT, reduceLE, reduceToNat, reduceNeg, Nat.reduceLT, reduceLeDiff, reduceMul, reduceSub, reduceIte, reduceEqDiff, reduceAdd, reduceCtorEq]
      refine h7 _ v4 a1 s1 n (1 + b1) (by omega) ?_
      simp only [Bz16, yzq, yz2, go_sem, yz0, Int.reduceLT, reduceLE, reduceToNat, reduceNeg, Nat.reduceLT, reduceLeDiff, reduceMul, reduceSub, reduceIte, reduceEqDiff, reduceAdd, reduceCtorEq]; try rfl
  simp only [Az71, Bzfo, yzq, yz2, go_sem, yz0, Int.reduceLT, reduceLE, reduceToNat, reduceNeg, Nat.reduceLT, reduceLeDiff, reduceMul, reduceSub, reduceIte, reduceEqDiff, reduceAdd, reduceCtorEq]
  intro vs U hN vs2 U2 hN2
  refine call_funB (k_pick code at_ seed most hb (by omega)) rfl qCS qCS ?_
  rintro cs' x ⟨a1, s1, b1, rfl, h1, h2, rfl, h3, h4'⟩
  have hn1 : IntKind.i64.wrap (1 + b1) = 1 + b1 := w64 (by omega)
  by_cases hlt : 1 + b1 < 3
  · simp only [hn1, decide_eq_true hlt, Bz70, yzq, yz2, go_sem, yz0, Int.reduceLT, reduceLE, reduceToNat, reduceNeg, Nat.reduceLT, reduceLeDiff, reduceMul, reduceSub, reduceIte, reduceEqDiff, reduceAdd, reduceCtorEq]
    intro vs3 U3 hN3
    refine call_funB (k_one code a1 s1 3 hb (by omega)) rfl qCS qCS ?_
    rintro cs' x ⟨a2, s2, b2, rfl, g1, g2, rfl⟩
    simp only [Bz6s, yzq, yz2, go_sem, yz0, Int.reduceLT, reduceLE, reduceToNat, reduceNeg, Nat.reduceLT, reduceLeDiff, reduceMul, reduceSub, reduceIte, reduceEqDiff, reduceAdd, reduceCtorEq]
    refine ⟨fun _ vs4 U4 hN4 => ?_, fun _ => h4 _ (vs 0 0) a2 s2 (1 + b1) (by omega) ?_⟩
    · refine call_funB (k_pick code a2 s2 3 hb (by omega)) rfl qCS qCS ?_
      rintro cs' x ⟨a3, s3, b3, rfl, f1, f2, rfl, f3, f4⟩
      have hn2 : IntKind.i64.wrap (3 + b3) = 3 + b3 := w64 (by omega)
      simp only [hn2, yzq, yz2, go_sem, yz0, Int.reduceLT, reduceLE, reduceToNat, reduceNeg, Nat.reduceLT, reduceLeDiff, reduceMul, reduceSub, reduceIte, reduceEqDiff, reduceAdd, reduceCtorEq]
      refine yz12 (k_l00Min most (3 + b3)) qCS trivial ?_
      simp only [yzq, yz2, go_sem, yz0, Int.reduceLT, reduceLE, reduceToNat, reduceNeg, Nat.reduceLT, reduceLeDiff, reduceMul, reduceSub, reduceIte, reduceEqDiff, reduceAdd, reduceCtorEq]
      refine h4 _ (vs 0 0) a3 s3 (min most (3 + b3)) (by omega) ?_
      simp only [Bzf, yzq, yz2, go_sem, yz0, Int.reduceLT, reduceLE, reduceToNat, reduceNeg, Nat.reduceLT, reduceLeDiff, reduceMul, reduceSub, reduceIte, reduceEqDiff, reduceAdd, reduceCtorEq]; try rfl
    · simp only [Bzf, yzq, yz2, go_sem, yz0, Int.reduceLT, reduceLE, reduceToNat, reduceNeg, Nat.reduceLT, reduceLeDiff, reduceMul, reduceSub, reduceIte, reduceEqDiff, reduceAdd, reduceCtorEq]; try rfl
  · simp only [hn1, decide_eq_false hlt, Bz70, yzq, yz2, go_sem, yz0, Int.reduceLT, reduceLE, reduceToNat, reduceNeg, Nat.reduceLT, reduceLeDiff, reduceMul, reduceSub, reduceIte, reduceEqDiff, reduceAdd, reduceCtorEq]
    intro vs3 U3 hN3
    simp only [Bz6s, yzq, yz2, go_sem, yz0, Int.reduceLT, reduceLE, reduceToNat, reduceNeg, Nat.reduceLT, reduceLeDiff, reduceMul, reduceSub, reduceIte, reduceEqDiff, reduceAdd, reduceCtorEq]
    refine h4 _ (vs 0 0) a1 s1 (1 + b1) (by omega) ?_
    simp only [Bzf, yzq, yz2, go_sem, yz0, Int.reduceLT, reduceLE, reduceToNat, reduceNeg, Nat.reduceLT, reduceLeDiff, reduceMul, reduceSub, reduceIte, reduceEqDiff, reduceAdd, reduceCtorEq]; try rfl
end Go.Ab
namespace Go.Ab
open Go.Proofs
theorem k_l02SlowN (n : Int) (hn : 2 ≤ n ∧ n ≤ 10) :
    Con Try.prog nzi [] [iv n] true fun outs rows res => outs = [] ∧ ∃ v ps, Aut n (ps.map (·.2)) ∧ DJ ps ∧ rows = [.row v 1 true (rwp ps)] ∧ res = .st [iv n, .own 6000 v] := by
  refine con_sh mixed czi9 rfl (by simp) ?_
  generalize hQ : finQ _ = Q
  simp only [Az4y, Bz9x, yzq, yz2, go_sem, yz0, Int.reduceLT, reduceLE, reduceToNat, reduceNeg, Nat.reduceLT, reduceLeDiff, reduceMul, reduceSub, reduceIte, reduceEqDiff, reduceAdd, reduceCtorEq]
  intro vs0 U0 hN0 vs1 U1 hN1
  simp only [Bz9w, yzq, yz2, go_sem, yz0, Int.reduceLT, reduceLE, reduceToNat, reduceNeg, Nat.reduceLT, reduceLeDiff, reduceMul, reduceSub, reduceIte, reduceEqDiff, reduceAdd, reduceCtorEq]
  intro vs2 U2 hN2
  simp only [Bz9v, Bz9t, yzq, yz2, go_sem, yz0, Int.reduceLT, reduceLE, reduceToNat, reduceNeg, Nat.reduceLT, reduceLeDiff, reduceMul, reduceSub, reduceIte, reduceEqDiff, reduceAdd, reduceCtorEq]
  intro vs3 U3 hN3
  refine wpD_lp (fun (_, _, xs, _) => n.toNat - List.length xs)
    (fun (v3, v4, xs, ys) => (List.length xs : Int) ≤ n ∧ List.length ys = List.length xs ∧ (∀ x ∈ xs, 0 ≤ x ∧ x < n) ∧ (∀ x ∈ ys, 0 ≤ x ∧ x < n) ∧ v3 ≠ v4)
    (fun ((v3, v4, xs, ys) : Nat × Nat × List Int × List Int) => ⟨L .any [(0, iv n), (2, .ptr 2 (vs0 0 0) 0), (3, .own 6 v3), (4, .own 7 v4), (5, iv xs.length)],
      L .gone [(2, .box (vs0 0 0) [iv 0, .val (.slice none 0 0)]), (6, .row v3 1 true (ints xs)), (7, .row v4 1 true (ints ys)), (19, .gone), (26, .gone), (30, .gone), (5000, .gone)]⟩)
    (vs1 0 0, vs2 0 0, [], []) ⟨by simp; omega, rfl, by simp, by simp, fun e => hN2.new 0 0 (by rw [← e]; exact (hN2.hp 6).1)⟩ (by simp only [Bz25, go_sem, yz0, Int.reduceLT, reduceLE, reduceToNat, reduceNeg, Nat.reduceLT, reduceLeDiff, reduceMul, reduceSub, reduceIte, reduceEqDiff, reduceAdd, reduceCtorEq]; try rfl) ?_
  rintro ⟨v3, v4, xs, ys⟩ ⟨h1, h2, h3, h4, h5⟩
  have h1 : (xs.length : Int) ≤ n := h1
  have h2 : ys.length = xs.length := h2
  have h5 : v3 ≠ v4 := h5
  by_cases hlt : (xs.length : Int) < n
  · have w1 : IntKind.i64.wrap ((xs.length : Int) + 1) = ((xs.length + 1 : Nat) : Int) := by rw [w64 (by omega)]; simp
    have w2 : IntKind.i64.wrap (n - 1) = n - 1 := w64 (by omega)
    have hn0 : ¬ n = 0 := by omega
    have hn1 : ¬ n - 1 = 0 := by omega
    have t1 := tmod_in (a := ((xs.length + 1 : Nat) : Int)) (n := n) (by omega) (by omega)
    have t2 := tmod_in (a := (xs.length : Int)) (n := n - 1) (by omega) (by omega)
    simp only [Bz25, Bz4x, Bz9s, decide_eq_true hlt, w1, hn0, yzq, yz2, go_sem, yz0, Int.reduceLT, reduceLE, reduceToNat, reduceNeg, Nat.reduceLT, reduceLeDiff, reduceMul, reduceSub, reduceIte, reduceEqDiff, reduceAdd, reduceCtorEq]
    intro vs4 U4 hN4 vs5 U5 hN5
    refine ⟨⟨_, rfl, rfl⟩, by omega, ?_⟩
    simp only [Bz9q, w2, hn1, yzq, yz2, go_sem, yz0, Int.reduceLT, reduceLE, reduceToNat, reduceNeg, Nat.reduceLT, reduceLeDiff, reduceMul, reduceSub, reduceIte, reduceEqDiff, reduceAdd, reduceCtorEq]
    intro vs6 U6 hN6
    refine ⟨⟨_, rfl, rfl⟩, by omega, ?_⟩
    simp only [Bz9r, w1, yzq, yz2, go_sem, yz0, Int.reduceLT, reduceLE, reduceToNat, reduceNeg, Nat.reduceLT, reduceLeDiff, reduceMul, reduceSub, reduceIte, reduceEqDiff, reduceAdd, reduceCtorEq]
    intro vs7 U7 hN7
    refine ⟨(vs5 6 0, vs6 6 0, xs ++ [((xs.length + 1 : Nat) : Int).tmod n], ys ++ [(xs.length : Int).tmod (n - 1)]), by dsimp only; rw [List.length_append, List.length_singleton]; omega,
      ⟨by dsimp only; rw [List.length_append, List.length_singleton]; omega, by dsimp only; rw [List.length_append, List.length_append, h2]; rfl, ?_, ?_, fun e => hN6.new 6 0 ((show vs5 6 0 = vs6 6 0 from e) ▸ (show U6 (vs5 6 0) from (hN6.hp 6).1))⟩, ?_⟩
    · intro x hx
      rcases List.mem_append.1 hx with h | h
      · exact h3 x h
      · rw [List.mem_singleton.1 h]; exact t1
    · intro x hx
      rcases List.mem_append.1 hx with h | h
      · exact h4 x h
      · rw [List.mem_singleton.1 h]; omega
    · simp only [List.length_append, List.length_singleton]
  · have hxl : (xs.length : Int) = n := by omega
    simp only [Bz25, Bz4x, Bz9u, decide_eq_false hlt, yzq, yz2, go_sem, yz0, Int.reduceLT, reduceLE, reduceToNat, reduceNeg, Nat.reduceLT, reduceLeDiff, reduceMul, reduceSub, reduceIte, reduceEqDiff, reduceAdd, reduceCtorEq]
    intro vs4 U4 hN4 vs5 U5 hN5
    refine ⟨by decide, ?_⟩
    simp only [Az4y, ← hQ, go_sem, yz0, Int.reduceLT, reduceLE, reduceToNat, reduceNeg, Nat.reduceLT, reduceLeDiff, reduceMul, reduceSub, reduceIte, reduceEqDiff, reduceAdd, reduceCtorEq]
    refine ⟨[30], by simp, by simp, by simp, ?_⟩
    have e : [AVal.ro (some (some (v3 + 1))) 1 (ints xs), AVal.ro (some (some (v4 + 1))) 1 (ints ys)] = rwp [(v3, xs), (v4, ys)] := rfl
    simp only [e, range1, List.length_singleton, renL_rwp, Nat.not_lt_zero, range1, yzw, yzz, yz1b, yz1c, yz10, yz1d, yz1a, yz19, yzy, yzo, yzf, yz3, yzu, yzt, yzn, yzm, yzs, yz8, yzb, yze, yz9, yzj, yzh, yz4, yz6, yzc, yzd, yzi, yzk, List.range_zero, yz7, yz5, yza, yzr, yzl, yzp, AVal.fresh, freshL, yz1, yzg, AObj.fresh, id, Option.isSome_some, or_true, true_or, go_sem, yz0, Int.reduceLT, reduceLE, reduceToNat, reduceNeg, Nat.reduceLT, reduceLeDiff, reduceMul, reduceSub, reduceIte, reduceEqDiff, reduceAdd, reduceCtorEq]
    refine ⟨vs5 3 0, [(v3, xs), (v4, ys)], ⟨by omega, by omega, by simp, by simp, ?_⟩, ?_, by simp, rfl⟩
    · intro r hr
      simp only [List.map_cons, List.map_nil, List.mem_cons, List.not_mem_nil, or_false] at hr
      rcases hr with rfl | rfl
      · exact ⟨hxl, h3⟩
      · exact ⟨by omega, h4⟩
    · simp only [DJ, List.pairwise_cons, List.mem_singleton, forall_eq]
      exact ⟨.inr (.inr h5), by simp, .nil⟩
theorem k_l01Tidied (xs : List Int) (hl : xs.length ≤ 100000) : RowI Try.prog nz4g [.ro none 1 (ints xs)] (fun _ => True) := by
  refine rowI_of mixed czjo rfl ?_
  simp only [Azhh, Bzhg, go_sem, yz0, Int.reduceLT, reduceLE, reduceToNat, reduceNeg, Nat.reduceLT, reduceLeDiff, reduceMul, reduceSub, reduceIte, reduceEqDiff, reduceAdd, reduceCtorEq]
  intro vs
  simp only [Bzhf, Bzhe, Bzhc, go_sem, yz0, Int.reduceLT, reduceLE, reduceToNat, reduceNeg, Nat.reduceLT, reduceLeDiff, reduceMul, reduceSub, reduceIte, reduceEqDiff, reduceAdd, reduceCtorEq]
  refine wpD_lo (fun (_, _, ys) => xs.length - List.length ys) (fun (_, c, ys) => List.length ys ≤ xs.length ∧ 0 ≤ c ∧ c ≤ List.length ys)
    (fun ((va, c, ys) : Nat × Int × List Int) => ⟨L .any [(0, .ro none 1 (ints xs)), (3, .own 8 va), (4, iv c), (5, iv ys.length)], L .gone [(8, .row va 1 true (ints ys))]⟩)
    (_, 0, []) ⟨by simp, Int.le_refl _, by simp⟩ (by simp only [Bz3a, go_sem, yz0, Int.reduceLT, reduceLE, reduceToNat, reduceNeg, Nat.reduceLT, reduceLeDiff, reduceMul, reduceSub, reduceIte, reduceEqDiff, reduceAdd, reduceCtorEq]; try rfl) ?_
  rintro ⟨va, c, ys⟩ ⟨h1, h2, h3⟩
  have h1 : ys.length ≤ xs.length := h1
  have h3 : c ≤ ys.length := h3
  by_cases hlt : (ys.length : Int) < xs.length
  · have hlt1 : ys.length < xs.length := by omega
    have w1 : IntKind.i64.wrap ((ys.length : Int) + 1) = ((ys.length + 1 : Nat) : Int) := by rw [w64 (by omega)]; simp
    simp only [Bz3a, Bz7v, Bzhb, decide_eq_true hlt, go_sem, yz0, Int.reduceLT, reduceLE, reduceToNat, reduceNeg, Nat.reduceLT, reduceLeDiff, reduceMul, reduceSub, reduceIte, reduceEqDiff, reduceAdd, reduceCtorEq]
    intro hM
    simp only [Bzha, Bzh7, go_sem, yz0, Int.reduceLT, reduceLE, reduceToNat, reduceNeg, Nat.reduceLT, reduceLeDiff, reduceMul, reduceSub, reduceIte, reduceEqDiff, reduceAdd, reduceCtorEq]
    refine wpD_lo (fun (k, _) => ys.length - k) (fun (k, _) => k ≤ ys.length)
      (fun ((k, o) : Nat × Int) => ⟨L .any [(0, .ro none 1 (ints xs)), (3, .own 8 va), (4, iv c), (5, iv ys.length), (6, iv o), (7, iv k)], L .gone [(8, .row va 1 true (ints ys))]⟩)
      (0, -1) (by simp) (by simp only [Bz39, go_sem, yz0, Int.reduceLT, reduceLE, reduceToNat, reduceNeg, Nat.reduceLT, reduceLeDiff, reduceMul, reduceSub, reduceIte, reduceEqDiff, reduceAdd, reduceCtorEq]; try rfl) ?_
    rintro ⟨k, o⟩ hk
    have hk : k ≤ ys.length := hk
    by_cases hkl : (k : Int) < ys.length
    · have hk1 : k < ys.length := by omega
      have hk2 : k < xs.length := by omega
      have w2 : IntKind.i64.wrap ((k : Int) + 1) = ((k + 1 : Nat) : Int) := by rw [w64 (by omega)]; simp
      simp only [Bz39, Bz7w, Bzh6, decide_eq_true hkl, yzv hk2, yzv hlt1, go_sem, yz0, Int.reduceLT, reduceLE, reduceToNat, reduceNeg, Nat.reduceLT, reduceLeDiff, reduceMul, reduceSub, reduceIte, reduceEqDiff, reduceAdd, reduceCtorEq]
      refine ⟨⟨by omega, hk2⟩, hk2, ⟨by omega, hlt1⟩, hlt1, ?_⟩
      simp only [Bzh4, Bzh5, yzv hk1, w2, go_sem, yz0, Int.reduceLT, reduceLE, reduceToNat, reduceNeg, Nat.reduceLT, reduceLeDiff, reduceMul, reduceSub, reduceIte, reduceEqDiff, reduceAdd, reduceCtorEq]
      exact ⟨fun _ => ⟨⟨by omega, hk1⟩, hk1, (k + 1, ys.getD k 0), by dsimp only; omega, by dsimp only; omega, rfl⟩, fun _ => ⟨(k + 1, o), by dsimp only; omega, by dsimp only; omega, rfl⟩⟩
    · simp only [Bz39, Bz7w, Bzh9, decide_eq_false hkl, go_sem, yz0, Int.reduceLT, reduceLE, reduceToNat, reduceNeg, Nat.reduceLT, reduceLeDiff, reduceMul, reduceSub, reduceIte, reduceEqDiff, reduceAdd, reduceCtorEq]
      by_cases ho : o < 0
      · have w3 : IntKind.i64.wrap (c + 1) = c + 1 := w64 (by omega)
        simp only [Bz7x, Bzh8, Bz7y, Bz7z, decide_eq_true ho, w1, w3, go_sem, yz0, Int.reduceLT, reduceLE, reduceToNat, reduceNeg, Nat.reduceLT, reduceLeDiff, reduceMul, reduceSub, reduceIte, reduceEqDiff, reduceAdd, reduceCtorEq]
        intro vs2
        refine ⟨⟨_, rfl, rfl⟩, by omega, ?_⟩
        exact ⟨(vs2 3 0, c + 1, ys ++ [c]), by dsimp only; rw [List.length_append, List.length_singleton]; omega, ⟨by dsimp only; rw [List.length_append, List.length_singleton]; omega, by dsimp only; omega, by dsimp only; rw [List.length_append, List.length_singleton]; omega⟩, by simp only [List.length_append, List.length_singleton]⟩
      · simp only [Bz7x, Bz7y, Bz7z, decide_eq_false ho, w1, go_sem, yz0, Int.reduceLT, reduceLE, reduceToNat, reduceNeg, Nat.reduceLT, reduceLeDiff, reduceMul, reduceSub, reduceIte, reduceEqDiff, reduceAdd, reduceCtorEq]
        intro vs2
        refine ⟨⟨_, rfl, rfl⟩, by omega, ?_⟩
        exact ⟨(vs2 3 0, c, ys ++ [o]), by dsimp only; rw [List.length_append, List.length_singleton]; omega, ⟨by dsimp only; rw [List.length_append, List.length_singleton]; omega, h2, by dsimp only; rw [List.length_append, List.length_singleton]; omega⟩, by simp only [List.length_append, List.length_singleton]⟩
  · simp only [Bz3a, Bz7v, Bzhd, decide_eq_false hlt, go_sem, yz0, Int.reduceLT, reduceLE, reduceToNat, reduceNeg, Nat.reduceLT, reduceLeDiff, reduceMul, reduceSub, reduceIte, reduceEqDiff, reduceAdd, reduceCtorEq]
    intro hM
    exact ⟨8, va, ys, by omega, rfl, by simp only [go_sem, yz0, Int.reduceLT, reduceLE, reduceToNat, reduceNeg, Nat.reduceLT, reduceLeDiff, reduceMul, reduceSub, reduceIte, reduceEqDiff, reduceAdd, reduceCtorEq]⟩
end Go.Ab
namespace Go.Ab
open Go.Proofs
abbrev AlR (code : List Int) (at_ : Int) (outs rows : List AObj) (res : AVal) : Prop :=
  ∃ n ps v w xs a' s', Aut n (ps.map (·.2)) ∧ DJ ps ∧ n ≤ 6 ∧ at_ ≤ a' ∧ a' ≤ at_ + 2000 ∧ outs = [.box 0 (srcC code a' s')] ∧ rows = [.row v 1 true (rwp ps), .row w 1 true (ints xs)] ∧ res = .tup [.st [iv n, .own 6000 v], .own 6001 w]
theorem rwp_getD {ps : List (Nat × List Int)} {i : Nat} (h : i < ps.length) : (rwp ps).getD i .any = .ro (some (some ((ps.getD i (0, [])).1 + 1))) 1 (ints (ps.getD i (0, [])).2) := by
  rw [List.getD_eq_getElem?_getD, rwp, List.getElem?_map, List.getElem?_eq_getElem h, List.getD_eq_getElem?_getD, List.getElem?_eq_getElem h]; rfl
theorem k_l01Alike (code : List Int) (at_ seed : Int) (hb : ∀ x ∈ code, 0 ≤ x ∧ x ≤ 255) (ha : 0 ≤ at_ ∧ at_ ≤ 100000) :
    Con Try.prog nz44 [.box 0 (srcC code at_ seed)] [.ptr 5000 0 0] true (AlR code at_) := by
  refine con_sh mixed czjb rfl (by simp) ?_
  generalize hQ : finQ _ = Q
  simp only [Az6p, Bzf7, yzq, yz2, go_sem, yz0, Int.reduceLT, reduceLE, reduceToNat, reduceNeg, Nat.reduceLT, reduceLeDiff, reduceMul, reduceSub, reduceIte, reduceEqDiff, reduceAdd, reduceCtorEq]
  intro vs0 U0 hN0 vs1 U1 hN1
  refine call_con (r := 5000) (k_DrawnN code at_ seed 3 hb (by omega) (by omega)) rfl (by simp only [Bool.not_true, rowIs, boxIs, coe_argN, coe_argNs, coe_ro_o, yz18, yzx, coe_any, coe_val, coe_ro, yz17, yz15, coe_st, yz14, coe_rp, yz16, coe_clo, coe_own0, coe_ptr0, yz13, coeL_rws, coeL_rwn, L_hit, L_miss, L_nil, reduceEqDiff, ne_eq, reduceCtorEq, not_false_eq_true, true_and, and_true, and_self, exists_eq_left, exists_eq_right, List.mem_cons, List.not_mem_nil, or_false, AObj.row.injEq, AObj.box.injEq, exists_eq_left', exists_and_left, exists_eq, Nat.zero_lt_one, Nat.lt_add_one, List.map_cons, List.map_nil, AObj.ver, Nat.reduceLT, not_true_eq_false]) (by simp only [Bool.not_true, rowIs, boxIs, coe_argN, coe_argNs, coe_ro_o, yz18, yzx, coe_any, coe_val, coe_ro, yz17, yz15, coe_st, yz14, coe_rp, yz16, coe_clo, coe_own0, coe_ptr0, yz13, coeL_rws, coeL_rwn, L_hit, L_miss, L_nil, reduceEqDiff, ne_eq, reduceCtorEq, not_false_eq_true, true_and, and_true, and_self, exists_eq_left, exists_eq_right, List.mem_cons, List.not_mem_nil, or_false, AObj.row.injEq, AObj.box.injEq, exists_eq_left', exists_and_left, exists_eq, Nat.zero_lt_one, Nat.lt_add_one, List.map_cons, List.map_nil, AObj.ver, Nat.reduceLT, not_true_eq_false]) ?_
  rintro outs rows res ⟨q, qs, vq, a1, s1, A, hd, hq3, h1, h2, rfl, rfl, rfl⟩
  refine ⟨rfl, by simp, by rw [Option.getD_some, yzl]; simp only [go_sem, yz0, Int.reduceLT, reduceLE, reduceToNat, reduceNeg, Nat.reduceLT, reduceLeDiff, reduceMul, reduceSub, reduceIte, reduceEqDiff, reduceAdd, reduceCtorEq], ?_⟩
  rw [Option.getD_some, callHp_mr (by omega)]
  simp only [renL_rwp, Bzf6, yzq, yz2, Nat.not_lt_zero, range1, yzw, yzz, yz1b, yz1c, yz10, yz1d, yz1a, yz19, yzy, yzo, yzf, yz3, yzu, yzt, yzn, yzm, yzs, yz8, yzb, yze, yz9, yzj, yzh, yz4, yz6, yzc, yzd, yzi, yzk, List.range_zero, yz7, yz5, yza, yzr, yzl, yzp, AVal.fresh, freshL, yz1, yzg, AObj.fresh, id, Option.isSome_some, or_true, true_or, go_sem, yz0, Int.reduceLT, reduceLE, reduceToNat, reduceNeg, Nat.reduceLT, reduceLeDiff, reduceMul, reduceSub, reduceIte, reduceEqDiff, reduceAdd, reduceCtorEq]
  intro vs2 U2 hN2
  generalize hf : sv (L .gone _) [5000] (vs1 1) = f
  have hf0 : f 0 = 0 := by rw [← hf]; simp [sv, AObj.ver, L]
  rw [hf0]
  generalize hps0 : List.map (fun p => (f p.1, p.2)) qs = ps0
  have A0 : Aut q (ps0.map (·.2)) := by
    rw [← hps0, List.map_map]; exact A
  have n1 := A0.n1
  have l1 := A0.l1
  have l2 := A0.l2
  rw [List.length_map] at l1 l2
  refine call_funBN (k_pick code a1 s1 4 hb (by omega)) rfl (by simp) qCS qCS ⟨srcC code a1 0, .int .i64 0, ⟨a1, 0, 0, rfl, by omega, by omega, rfl, by omega, .inr rfl⟩, flat_srcC⟩ ?_
  rintro cs' x ⟨a2, s2, b2, rfl, g1, g2, rfl, g3, g4⟩
  obtain ⟨n, hn⟩ : ∃ n : Int, n = q + b2 := ⟨_, rfl⟩
  have wn : IntKind.i64.wrap (q + b2) = n := by rw [hn]; exact w64 (by omega)
  simp only [wn, Bzf5, yzq, yz2, go_sem, yz0, Int.reduceLT, reduceLE, reduceToNat, reduceNeg, Nat.reduceLT, reduceLeDiff, reduceMul, reduceSub, reduceIte, reduceEqDiff, reduceAdd, reduceCtorEq]
  intro vs3 U3 hN3
  simp only [Bzf4, Bzek, yzq, yz2, go_sem, yz0, Int.reduceLT, reduceLE, reduceToNat, reduceNeg, Nat.reduceLT, reduceLeDiff, reduceMul, reduceSub, reduceIte, reduceEqDiff, reduceAdd, reduceCtorEq]
  intro vs4 U4 hN4
  refine wpD_lp (fun (_, _, _, xs) => n.toNat - List.length xs)
    (fun (_, a, _, xs) => a2 ≤ a ∧ a ≤ a2 + 2 * List.length xs ∧ (List.length xs : Int) ≤ n ∧ ∀ x ∈ xs, 0 ≤ x ∧ x < q)
    (fun ((v6, a, s, xs) : Nat × Int × Int × List Int) => ⟨L .any [(0, .ptr 5000 0 0), (2, .ptr 2 (vs0 0 0) 0), (4, .ptr 4 (vs1 2 0) 0), (5, iv n), (6, .own 23 v6), (7, iv xs.length)],
      L .gone [(2, .box (vs0 0 0) [iv 0, .val (.slice none 0 0)]), (4, .box (vs1 2 0) [iv q, .own 17 (f vq)]), (8, .gone), (17, .row (f vq) 1 true (rwp ps0)), (23, .row v6 1 true (ints xs)), (36, .gone), (43, .gone), (93, .gone), (5000, .box 0 (srcC code a s))]⟩)
    (_, a2, s2, []) ⟨Int.le_refl _, by simp, by simp; omega, by simp⟩ (by simp only [Bz2t, go_sem, yz0, Int.reduceLT, reduceLE, reduceToNat, reduceNeg, Nat.reduceLT, reduceLeDiff, reduceMul, reduceSub, reduceIte, reduceEqDiff, reduceAdd, reduceCtorEq]; try rfl) ?_
  rintro ⟨v6, a, s, xs⟩ ⟨i1, i2, i3, i4⟩
  have i1 : a2 ≤ a := i1
  have i2 : a ≤ a2 + 2 * xs.length := i2
  have i3 : (xs.length : Int) ≤ n := i3
  by_cases hlt : (xs.length : Int) < n
  · have w1 : IntKind.i64.wrap ((xs.length : Int) + 1) = ((xs.length + 1 : Nat) : Int) := by rw [w64 (by omega)]; simp
    simp only [Bz2t, Bz6j, Bzej, decide_eq_true hlt, yzq, yz2, go_sem, yz0, Int.reduceLT, reduceLE, reduceToNat, reduceNeg, Nat.reduceLT, reduceLeDiff, reduceMul, reduceSub, reduceIte, reduceEqDiff, reduceAdd, reduceCtorEq]
    intro vs5 U5 hN5 vs6 U6 hN6
    by_cases hq : (xs.length : Int) < q
    · simp only [Bz6k, Bz6l, decide_eq_true hq, w1, yzq, yz2, go_sem, yz0, Int.reduceLT, reduceLE, reduceToNat, reduceNeg, Nat.reduceLT, reduceLeDiff, reduceMul, reduceSub, reduceIte, reduceEqDiff, reduceAdd, reduceCtorEq]
      intro vs7 U7 hN7
      refine ⟨⟨_, rfl, rfl⟩, by omega, ?_⟩
      intro vs8 U8 hN8
      refine ⟨(vs7 3 0, a, s, xs ++ [(xs.length : Int)]), by dsimp only; rw [List.length_append, List.length_singleton]; omega, ⟨i1, by dsimp only; rw [List.length_append, List.length_singleton]; omega, by dsimp only; rw [List.length_append, List.length_singleton]; omega, fun x hx => ?_⟩, ?_⟩
      · rcases List.mem_append.1 hx with h | h
        · exact i4 x h
        · rw [List.mem_singleton.1 h]; omega
      · simp only [List.length_append, List.length_singleton]
    · simp only [Bz6k, decide_eq_false hq, yzq, yz2, go_sem, yz0, Int.reduceLT, reduceLE, reduceToNat, reduceNeg, Nat.reduceLT, reduceLeDiff, reduceMul, reduceSub, reduceIte, reduceEqDiff, reduceAdd, reduceCtorEq]
      intro vs7 U7 hN7
      refine call_funB (k_pick code a s q hb (by omega)) rfl qCS qCS ?_
      rintro cs' x ⟨a3, s3, b3, rfl, e1, e2, rfl, e3, e4⟩
      simp only [Bz6l, w1, yzq, yz2, go_sem, yz0, Int.reduceLT, reduceLE, reduceToNat, reduceNeg, Nat.reduceLT, reduceLeDiff, reduceMul, reduceSub, reduceIte, reduceEqDiff, reduceAdd, reduceCtorEq]
      refine ⟨⟨_, rfl, rfl⟩, by omega, ?_⟩
      intro vs8 U8 hN8
      refine ⟨(vs7 6 0, a3, s3, xs ++ [b3]), by dsimp only; rw [List.length_append, List.length_singleton]; omega, ⟨by dsimp only; omega, by dsimp only; rw [List.length_append, List.length_singleton]; omega, by dsimp only; rw [List.length_append, List.length_singleton]; omega, fun x hx => ?_⟩, ?_⟩
      · rcases List.mem_append.1 hx with h | h
        · exact i4 x h
        · rw [List.mem_singleton.1 h]; omega
      · simp only [List.length_append, List.length_singleton]
  have hxl : (xs.length : Int) = n := by omega
  simp only [Bz2t, Bz6j, Bzf3, decide_eq_false hlt, yzq, yz2, go_sem, yz0, Int.reduceLT, reduceLE, reduceToNat, reduceNeg, Nat.reduceLT, reduceLeDiff, reduceMul, reduceSub, reduceIte, reduceEqDiff, reduceAdd, reduceCtorEq]
  intro vs5 U5 hN5 vs6 U6 hN6
  simp only [Bzf2, Bzf0, yzq, yz2, go_sem, yz0, Int.reduceLT, reduceLE, reduceToNat, reduceNeg, Nat.reduceLT, reduceLeDiff, reduceMul, reduceSub, reduceIte, reduceEqDiff, reduceAdd, reduceCtorEq]
  intro vs7 U7 hN7 ver
  refine wpD_lp (fun (_, _, _, _, ps) => ps0.length - List.length ps)
    (fun (_, nn, a', _, ps) => a ≤ a' ∧ a' ≤ a + 60 * List.length ps ∧ List.length ps ≤ ps0.length ∧ (ps ≠ [] → nn = true) ∧ (∀ p ∈ ps, (List.length p.2 : Int) = n ∧ ∀ x ∈ p.2, 0 ≤ x ∧ x < n) ∧ DJ ps)
    (fun ((v93, nn, a, s, ps) : Nat × Bool × Int × Int × List (Nat × List Int)) => ⟨L .any [(0, .ptr 5000 0 0), (2, .ptr 2 (vs0 0 0) 0), (4, .ptr 4 (vs1 2 0) 0), (5, iv n), (6, .own 23 v6), (8, .ptr 8 (vs6 2 0) 0), (9, iv ps.length)],
      L .gone [(2, .box (vs0 0 0) [iv 0, .val (.slice none 0 0)]), (4, .box (vs1 2 0) [iv q, .own 17 (f vq)]), (8, .box (vs6 2 0) [iv n, .own 93 v93]), (17, .row (f vq) 1 true (rwp ps0)), (23, .row v6 1 true (ints xs)), (36, .gone), (43, .gone), (93, .row v93 1 nn (rwp ps)), (5000, .box 0 (srcC code a s))]⟩)
    (ver, false, a, s, []) ⟨Int.le_refl _, by simp, by simp, by simp, by simp, by simp [DJ]⟩ (by simp only [Bz2w, go_sem, yz0, Int.reduceLT, reduceLE, reduceToNat, reduceNeg, Nat.reduceLT, reduceLeDiff, reduceMul, reduceSub, reduceIte, reduceEqDiff, reduceAdd, reduceCtorEq]; try rfl) ?_
  rintro ⟨v93, nn, a', s', ps⟩ ⟨j1, j2, j3, j4, j5, j6⟩
  have j1 : a ≤ a' := j1
  have j2 : a' ≤ a + 60 * ps.length := j2
  have j3 : ps.length ≤ ps0.length := j3
  by_cases hlp : (ps.length : Int) < ps0.length
  · have hlp1 : ps.length < ps0.length := by omega
    have hrw := A0.row _ (List.mem_map_of_mem (f := (·.2)) (yz11 hlp1 (0, [])))
    generalize hr0 : ps0.getD ps.length (0, []) = r0 at hrw
    simp only [Bz2w, Bz6m, Bzez, rwp_len, decide_eq_true hlp, yzq, yz2, go_sem, yz0, Int.reduceLT, reduceLE, reduceToNat, reduceNeg, Nat.reduceLT, reduceLeDiff, reduceMul, reduceSub, reduceIte, reduceEqDiff, reduceAdd, reduceCtorEq]
    intro vs8 U8 hN8 hM8 vs9 U9 hN9
    simp only [Bzex, Bzev, yzq, yz2, go_sem, yz0, Int.reduceLT, reduceLE, reduceToNat, reduceNeg, Nat.reduceLT, reduceLeDiff, reduceMul, reduceSub, reduceIte, reduceEqDiff, reduceAdd, reduceCtorEq]
    intro vs10 U10 hN10
    refine wpD_lp (fun (_, _, _, row) => n.toNat - List.length row)
      (fun (_, a3, _, row) => a' ≤ a3 ∧ a3 ≤ a' + 8 * List.length row ∧ (List.length row : Int) ≤ n ∧ ∀ x ∈ row, 0 ≤ x ∧ x < n)
      (fun ((v10, a, s, row) : Nat × Int × Int × List Int) => ⟨L .any [(0, .ptr 5000 0 0), (2, .ptr 2 (vs0 0 0) 0), (4, .ptr 4 (vs1 2 0) 0), (5, iv n), (6, .own 23 v6), (8, .ptr 8 (vs6 2 0) 0), (9, iv ps.length), (10, .own 53 v10), (11, iv row.length)],
        L .gone [(2, .box (vs0 0 0) [iv 0, .val (.slice none 0 0)]), (4, .box (vs1 2 0) [iv q, .own 17 (f vq)]), (8, .box (vs6 2 0) [iv n, .own 93 v93]), (17, .row (f vq) 1 true (rwp ps0)), (23, .row v6 1 true (ints xs)), (36, .gone), (43, .gone), (53, .row v10 1 true (ints row)), (88, .gone), (93, .row v93 1 nn (rwp ps)), (5000, .box 0 (srcC code a s))]⟩)
      (_, a', s', []) ⟨Int.le_refl _, by simp, by simp; omega, by simp⟩ (by simp only [Bz2v, go_sem, yz0, Int.reduceLT, reduceLE, reduceToNat, reduceNeg, Nat.reduceLT, reduceLeDiff, reduceMul, reduceSub, reduceIte, reduceEqDiff, reduceAdd, reduceCtorEq]; try rfl) ?_
    rintro ⟨v10, a3, s3, row⟩ ⟨k1, k2, k3, k4⟩
    have k1 : a' ≤ a3 := k1
    have k2 : a3 ≤ a' + 8 * row.length := k2
    have k3 : (row.length : Int) ≤ n := k3
    by_cases hlr : (row.length : Int) < n
    · have hx1 : row.length < xs.length := by omega
      have hm := i4 _ (yz11 hx1 0)
      generalize hmx : xs.getD row.length 0 = m at hm
      have hm1 : m.toNat < r0.2.length := by omega
      have hw := hrw.2 _ (yz11 hm1 0)
      generalize hwx : r0.2.getD m.toNat 0 = want at hw
      simp only [Bz2v, Bz6n, Bzeu, rwp_getD hlp1, hr0, yzv hx1, hmx, yzv hm1, hwx, decide_eq_true hlr, yzq, yz2, go_sem, yz0, Int.reduceLT, reduceLE, reduceToNat, reduceNeg, Nat.reduceLT, reduceLeDiff, reduceMul, reduceSub, reduceIte, reduceEqDiff, reduceAdd, reduceCtorEq]
      intro vs11 U11 hN11 vs12 U12 hN12
      have hlw : (rwp ps0).length = ps0.length := rwp_len
      refine ⟨⟨by omega, by omega⟩, by omega, ⟨by omega, hx1⟩, hx1, ⟨hm.1, hm1⟩, hm1, ?_⟩
      simp only [Bzes, Bzer, Bzep, yzq, yz2, go_sem, yz0, Int.reduceLT, reduceLE, reduceToNat, reduceNeg, Nat.reduceLT, reduceLeDiff, reduceMul, reduceSub, reduceIte, reduceEqDiff, reduceAdd, reduceCtorEq]
      intro vs13 U13 hN13 vs14 U14 hN14
      refine wpD_lp (fun (_, _, _, j) => 4 - j)
        (fun (a4, _, t, j) => a3 ≤ a4 ∧ a4 ≤ a3 + 2 * (j : Nat) ∧ j ≤ 4 ∧ 0 ≤ t ∧ t < n)
        (fun ((a, s, t, j) : Int × Int × Int × Nat) => ⟨L .any [(0, .ptr 5000 0 0), (2, .ptr 2 (vs0 0 0) 0), (4, .ptr 4 (vs1 2 0) 0), (5, iv n), (6, .own 23 v6), (8, .ptr 8 (vs6 2 0) 0), (9, iv ps.length), (10, .own 53 v10), (11, iv row.length), (12, iv want), (13, iv t), (14, iv j)],
          L .gone [(2, .box (vs0 0 0) [iv 0, .val (.slice none 0 0)]), (4, .box (vs1 2 0) [iv q, .own 17 (f vq)]), (8, .box (vs6 2 0) [iv n, .own 93 v93]), (17, .row (f vq) 1 true (rwp ps0)), (23, .row v6 1 true (ints xs)), (36, .gone), (43, .gone), (53, .row v10 1 true (ints row)), (88, .gone), (93, .row v93 1 nn (rwp ps)), (5000, .box 0 (srcC code a s))]⟩)
        (a3, s3, want, 0) ⟨Int.le_refl _, by simp, by simp, hw.1, by omega⟩ (by simp only [Bz2u, go_sem, yz0, Int.reduceLT, reduceLE, reduceToNat, reduceNeg, Nat.reduceLT, reduceLeDiff, reduceMul, reduceSub, reduceIte, reduceEqDiff, reduceAdd, reduceCtorEq]; try rfl) ?_
      rintro ⟨a4, s4, t, j⟩ ⟨m1, m2, m3, m4, m5⟩
      have m1 : a3 ≤ a4 := m1
      have m2 : a4 ≤ a3 + 2 * (j : Nat) := m2
      have m3 : j ≤ 4 := m3
      by_cases hj : (j : Int) < 4
      · have w1 : IntKind.i64.wrap ((j : Int) + 1) = ((j + 1 : Nat) : Int) := by rw [w64 (by omega)]; simp
        simp only [Bz2u, Bz6o, Bzeo, decide_eq_true hj, yzq, yz2, go_sem, yz0, Int.reduceLT, reduceLE, reduceToNat, reduceNeg, Nat.reduceLT, reduceLeDiff, reduceMul, reduceSub, reduceIte, reduceEqDiff, reduceAdd, reduceCtorEq]
        intro vs15 U15 hN15 vs16 U16 hN16
        refine call_funB (k_pick code a4 s4 n hb (by omega)) rfl qCS qCS ?_
        rintro cs' x ⟨a5, s5, b5, rfl, e1, e2, rfl, e3, e4⟩
        have hb5 : b5.toNat < xs.length := by omega
        simp only [Bzem, yzv hb5, yzq, yz2, go_sem, yz0, Int.reduceLT, reduceLE, reduceToNat, reduceNeg, Nat.reduceLT, reduceLeDiff, reduceMul, reduceSub, reduceIte, reduceEqDiff, reduceAdd, reduceCtorEq]
        intro vs17 U17 hN17
        refine ⟨⟨e3, hb5⟩, hb5, ?_⟩
        simp only [Bzel, Bzen, w1, yzq, yz2, go_sem, yz0, Int.reduceLT, reduceLE, reduceToNat, reduceNeg, Nat.reduceLT, reduceLeDiff, reduceMul, reduceSub, reduceIte, reduceEqDiff, reduceAdd, reduceCtorEq]
        refine ⟨fun _ vs18 U18 hN18 vs19 U19 hN19 => ⟨(a5, s5, b5, j + 1), by dsimp only; omega, ⟨by dsimp only; omega, by dsimp only; omega, by dsimp only; omega, e3, by dsimp only; omega⟩, rfl⟩,
          fun _ vs18 U18 hN18 => ⟨(a5, s5, t, j + 1), by dsimp only; omega, ⟨by dsimp only; omega, by dsimp only; omega, by dsimp only; omega, m4, m5⟩, rfl⟩⟩
      · have w1 : IntKind.i64.wrap ((row.length : Int) + 1) = ((row.length + 1 : Nat) : Int) := by rw [w64 (by omega)]; simp
        simp only [Bz2u, Bz6o, Bzeq, decide_eq_false hj, yzq, yz2, go_sem, yz0, Int.reduceLT, reduceLE, reduceToNat, reduceNeg, Nat.reduceLT, reduceLeDiff, reduceMul, reduceSub, reduceIte, reduceEqDiff, reduceAdd, reduceCtorEq]
        intro vs15 U15 hN15 vs16 U16 hN16
        refine ⟨⟨_, rfl, rfl⟩, by omega, ?_⟩
        simp only [Bzet, w1, yzq, yz2, go_sem, yz0, Int.reduceLT, reduceLE, reduceToNat, reduceNeg, Nat.reduceLT, reduceLeDiff, reduceMul, reduceSub, reduceIte, reduceEqDiff, reduceAdd, reduceCtorEq]
        intro vs17 U17 hN17
        refine ⟨(vs16 3 0, a4, s4, row ++ [t]), by dsimp only; rw [List.length_append, List.length_singleton]; omega, ⟨by dsimp only; omega, by dsimp only; rw [List.length_append, List.length_singleton]; omega, by dsimp only; rw [List.length_append, List.length_singleton]; omega, fun x hx => ?_⟩, ?_⟩
        · rcases List.mem_append.1 hx with h | h
          · exact k4 x h
          · rw [List.mem_singleton.1 h]; exact ⟨m4, m5⟩
        · simp only [List.length_append, List.length_singleton]
    · have hrl : (row.length : Int) = n := by omega
      have w1 : IntKind.i64.wrap ((ps.length : Int) + 1) = ((ps.length + 1 : Nat) : Int) := by rw [w64 (by omega)]; simp
      simp only [Bz2v, Bz6n, Bzew, decide_eq_false hlr, yzq, yz2, wpD_gh, go_sem, yz0, Int.reduceLT, reduceLE, reduceToNat, reduceNeg, Nat.reduceLT, reduceLeDiff, reduceMul, reduceSub, reduceIte, reduceEqDiff, reduceAdd, reduceCtorEq]
      intro vs11 U11 hN11 hD
      refine ⟨[], ?_⟩
      have hf : ∀ p ∈ ps, p.2 = [] ∨ p.1 ≠ v10 := fun p hp => by
        by_cases e : p.2 = []
        · exact .inl e
        · exact .inr (hD 93 v93 1 nn (rwp ps) 53 v10 rfl rfl p.1 1 (ints p.2) (List.mem_map.2 ⟨p, hp, rfl⟩) (by simpa using e))
      simp only [gwp_nil, yzq, yz2, go_sem, yz0, Int.reduceLT, reduceLE, reduceToNat, reduceNeg, Nat.reduceLT, reduceLeDiff, reduceMul, reduceSub, reduceIte, reduceEqDiff, reduceAdd, reduceCtorEq]
      intro vs12 U12 hN12
      rw [rwp_len]
      refine ⟨by omega, ?_⟩
      simp only [Bzey, w1, rwp_snoc, yzq, yz2, go_sem, yz0, Int.reduceLT, reduceLE, reduceToNat, reduceNeg, Nat.reduceLT, reduceLeDiff, reduceMul, reduceSub, reduceIte, reduceEqDiff, reduceAdd, reduceCtorEq]
      intro vs13 U13 hN13
      refine ⟨(vs12 4 0, true, a3, s3, ps ++ [(v10, row)]), by dsimp only; rw [List.length_append, List.length_singleton]; omega,
        ⟨by dsimp only; omega, by dsimp only; rw [List.length_append, List.length_singleton]; omega, by dsimp only; rw [List.length_append, List.length_singleton]; omega, by simp, fun p hp => ?_, j6.snoc hf⟩, ?_⟩
      · rcases List.mem_append.1 hp with h | h
        · exact j5 p h
        · rw [List.mem_singleton.1 h]; exact ⟨hrl, k4⟩
      · simp only [List.length_append, List.length_singleton]
  · have hlen : ps.length = ps0.length := by omega
    obtain rfl := j4 (fun e => by rw [e] at hlen; simp at hlen; omega)
    simp only [Bz2w, Bz6m, Bzf1, rwp_len, decide_eq_false hlp, yzq, yz2, go_sem, yz0, Int.reduceLT, reduceLE, reduceToNat, reduceNeg, Nat.reduceLT, reduceLeDiff, reduceMul, reduceSub, reduceIte, reduceEqDiff, reduceAdd, reduceCtorEq]
    intro vs8 U8 hN8 hM8 vs9 U9 hN9
    refine call_rowI (k_l01Tidied xs (by omega)) qCS qGN ⟨[], trivial⟩ ?_
    rintro ys vy -
    simp only [Az6p, ← hQ, yzq, yz2, go_sem, yz0, Int.reduceLT, reduceLE, reduceToNat, reduceNeg, Nat.reduceLT, reduceLeDiff, reduceMul, reduceSub, reduceIte, reduceEqDiff, reduceAdd, reduceCtorEq]
    refine ⟨[93, 97], by simp, by simp, by simp, ?_⟩
    simp only [range1, List.length_singleton, renL_rwp, Nat.not_lt_zero, range1, yzw, yzz, yz1b, yz1c, yz10, yz1d, yz1a, yz19, yzy, yzo, yzf, yz3, yzu, yzt, yzn, yzm, yzs, yz8, yzb, yze, yz9, yzj, yzh, yz4, yz6, yzc, yzd, yzi, yzk, List.range_zero, yz7, yz5, yza, yzr, yzl, yzp, AVal.fresh, freshL, yz1, yzg, AObj.fresh, id, Option.isSome_some, or_true, true_or, go_sem, yz0, Int.reduceLT, reduceLE, reduceToNat, reduceNeg, Nat.reduceLT, reduceLeDiff, reduceMul, reduceSub, reduceIte, reduceEqDiff, reduceAdd, reduceCtorEq]
    exact ⟨n, ps, v93, vy, ys, a', s', ⟨by omega, by omega, by rw [List.length_map]; omega, by rw [List.length_map]; omega, fun r hr => by obtain ⟨p, hp, rfl⟩ := List.mem_map.1 hr; exact j5 p hp⟩, j6, by omega, by omega, by omega, rfl, by simp, rfl⟩
end Go.Ab
namespace Go.Ab
open Go.Proofs
structure TidP (xs ys : List Int) : Prop where
  ln : ys.length ≤ xs.length
  dv : divS 0 ys = true
  eq : ∀ i j, i < ys.length → j < ys.length → (ys.getD i 0 = ys.getD j 0 ↔ xs.getD i 0 = xs.getD j 0)
theorem TidP.nil {xs : List Int} : TidP xs [] := ⟨by simp, rfl, by simp⟩
theorem getD_snl {ys : List Int} {c : Int} {i : Nat} (h : i < ys.length) : (ys ++ [c]).getD i 0 = ys.getD i 0 := by
  rw [List.getD_eq_getElem?_getD, List.getElem?_append_left h, ← List.getD_eq_getElem?_getD]
theorem getD_snr {ys : List Int} {c : Int} : (ys ++ [c]).getD ys.length 0 = c := by
  rw [List.getD_eq_getElem?_getD, List.getElem?_append_right (Nat.le_refl _)]; simp
theorem TidP.add {xs ys : List Int} {c : Int} (T : TidP xs ys) (hlt : ys.length < xs.length) (hd : 0 ≤ c ∧ c ≤ usedS 0 ys) (he : ∀ i < ys.length, (ys.getD i 0 = c ↔ xs.getD i 0 = xs.getD ys.length 0)) : TidP xs (ys ++ [c]) := by
  refine ⟨by simp; omega, by rw [divS_snoc, T.dv]; simp [hd], fun i j hi hj => ?_⟩
  rw [List.length_append, List.length_singleton] at hi hj
  by_cases h1 : i < ys.length
  · by_cases h2 : j < ys.length
    · rw [getD_snl h1, getD_snl h2]; exact T.eq i j h1 h2
    · obtain rfl : j = ys.length := by omega
      rw [getD_snl h1, getD_snr]; exact he i h1
  · obtain rfl : i = ys.length := by omega
    by_cases h2 : j < ys.length
    · rw [getD_snl h2, getD_snr]
      constructor
      · intro h; exact ((he j h2).1 h.symm).symm
      · intro h; exact ((he j h2).2 h.symm).symm
    · obtain rfl : j = ys.length := by omega
      simp
theorem TidP.new {xs ys : List Int} (T : TidP xs ys) (hlt : ys.length < xs.length) (h : ∀ k < ys.length, xs.getD k 0 ≠ xs.getD ys.length 0) : TidP xs (ys ++ [usedS 0 ys]) := by
  refine T.add hlt ⟨used_ge, Int.le_refl _⟩ fun i hi => ⟨fun e => ?_, fun e => absurd e (h i hi)⟩
  have := used_mem (u := 0) (yz11 hi 0)
  omega
theorem TidP.old {xs ys : List Int} (T : TidP xs ys) (hlt : ys.length < xs.length) {k : Nat} (hk : k < ys.length) (h : xs.getD k 0 = xs.getD ys.length 0) : TidP xs (ys ++ [ys.getD k 0]) := by
  have hm := yz11 hk 0
  refine T.add hlt ⟨div_nn T.dv hm, by have := used_mem (u := 0) hm; omega⟩ fun i hi => ?_
  rw [T.eq i k hi hk, h]
end Go.Ab
namespace Go.Ab
def MerP (next : List (List Int)) (s t : Int) : Prop := ∃ w, IsW next.length w ∧ atA next s w = atA next t w
def StabP (next : List (List Int)) (s t : Int) : Prop := ∀ w, IsW next.length w → MerP next (atA next s w) (atA next t w)
theorem isw_nil {m : Nat} : IsW m [] := fun x hx => by simp at hx
theorem isw_app {m : Nat} {u v : List Int} (hu : IsW m u) (hv : IsW m v) : IsW m (u ++ v) := fun x hx => by
  rcases List.mem_append.1 hx with h | h
  · exact hu x h
  · exact hv x h
theorem StabP.refl {next : List (List Int)} {s : Int} : StabP next s s := fun _ _ => ⟨[], isw_nil, rfl⟩
theorem StabP.symm {next : List (List Int)} {s t : Int} (h : StabP next s t) : StabP next t s := fun w hw => by
  obtain ⟨v, h1, h2⟩ := h w hw
  exact ⟨v, h1, h2.symm⟩
theorem StabP.trans {next : List (List Int)} {s t u : Int} (h : StabP next s t) (k : StabP next t u) : StabP next s u := fun w hw => by
  obtain ⟨v, h1, h2⟩ := h w hw
  obtain ⟨x, k1, k2⟩ := k (w ++ v) (isw_app hw h1)
  refine ⟨v ++ x, isw_app h1 k1, ?_⟩
  rw [atA_app, atA_app (s := u)] at k2
  rw [atA_app, h2, k2, atA_app]
theorem StabP.step {next : List (List Int)} {s t : Int} (h : StabP next s t) {w : List Int} (hw : IsW next.length w) : StabP next (atA next s w) (atA next t w) := fun v hv => by
  have h1 := h (w ++ v) (isw_app hw hv)
  rw [atA_app, atA_app] at h1
  exact h1
theorem MerP.back {next : List (List Int)} {s t : Int} {w : List Int} (hw : IsW next.length w) (h : MerP next (atA next s w) (atA next t w)) : MerP next s t := by
  obtain ⟨v, h1, h2⟩ := h
  exact ⟨w ++ v, isw_app hw h1, by rw [atA_app, atA_app]; exact h2⟩
theorem imN_two {n : Int} {next : List (List Int)} (A : Aut n next) {s t : Int} (hs : 0 ≤ s ∧ s < n) (ht : 0 ≤ t ∧ t < n) {w : List Int} (hw : IsW next.length w) :
    imN next (twoN s t) w = twoN (atA next s w) (atA next t w) := by
  have n1 := A.n1
  have n2 := A.n2
  obtain ⟨h1, h2⟩ := imN_bit A w (two_lt hs ht) hw
  have a0 := A.at (w := w) hs hw
  have a1 := A.at (w := w) ht hw
  have es : ((s.toNat : Nat) : Int) = s := by omega
  have et : ((t.toNat : Nat) : Int) = t := by omega
  have h3 := two_lt a0 a1
  have hp : 2 ^ n.toNat ≤ 2 ^ 10 := Nat.pow_le_pow_right (by omega) (by omega)
  apply Nat.eq_of_testBit_eq
  intro u
  by_cases hu : u < 10
  · have e1 : (imN next (twoN s t) w).testBit u = true ↔ (twoN (atA next s w) (atA next t w)).testBit u = true := by
      have g1 := h2 u
      have g2 := two_bits n2 a0 a1 (u := u)
      rw [mem_bits] at g1 g2
      constructor
      · intro h
        obtain ⟨x, hx, e⟩ := g1.1 ⟨hu, h⟩
        refine (g2.2 ?_).2
        rcases (two_bits n2 hs ht).1 hx with rfl | rfl
        · left; rw [es] at e; omega
        · right; rw [et] at e; omega
      · intro h
        rcases g2.1 ⟨hu, h⟩ with e | e
        · exact (g1.2 ⟨s.toNat, (two_bits n2 hs ht).2 (.inl rfl), by rw [es]; omega⟩).2
        · exact (g1.2 ⟨t.toNat, (two_bits n2 hs ht).2 (.inr rfl), by rw [et]; omega⟩).2
    rw [Bool.eq_iff_iff]; exact e1
  · rw [Nat.testBit_lt_two_pow (Nat.lt_of_lt_of_le (Nat.lt_of_lt_of_le h1 hp) (Nat.pow_le_pow_right (by omega) (by omega))), Nat.testBit_lt_two_pow (Nat.lt_of_lt_of_le (Nat.lt_of_lt_of_le h3 hp) (Nat.pow_le_pow_right (by omega) (by omega)))]
structure StD (n : Int) (next : List (List Int)) (us : List Int) : Prop where
  ln : (us.length : Int) = n
  eq : ∀ i j : Nat, (i : Int) < n → (j : Int) < n → (us.getD i 0 = us.getD j 0 ↔ StabP next i j)
structure StI (n : Int) (next : List (List Int)) (pre : List (List Int)) (us : List Int) : Prop where
  ln : (us.length : Int) = n
  rg : ∀ t : Nat, (t : Int) < n → 0 ≤ us.getD t 0 ∧ us.getD t 0 ≤ t
  st : ∀ t : Nat, (t : Int) < n → StabP next (us.getD t 0) t
  dn : ∀ a b : Nat, [(a : Int), (b : Int)] ∈ pre → us.getD b 0 ≤ a
theorem setAt_getD {us : List Int} {b i : Nat} {x : Int} (hb : b < us.length) : (us.set b x).getD i 0 = if i = b then x else us.getD i 0 := by
  rw [List.getD_eq_getElem?_getD, List.getElem?_set]
  by_cases h : b = i
  · rw [if_pos h, if_pos h.symm, if_pos (by omega)]; rfl
  · rw [if_neg h, if_neg (fun e => h e.symm), ← List.getD_eq_getElem?_getD]
theorem StI.step {n : Int} {next pre : List (List Int)} {us : List Int} (I : StI n next pre us) {a b : Nat} (hab : a < b) (hb : (b : Int) < n) (h : StabP next a b) :
    StI n next (pre ++ [[(a : Int), (b : Int)]]) (us.set b (min (us.getD b 0) (us.getD a 0))) := by
  have hln := I.ln
  have hbl : b < us.length := by omega
  have ra := I.rg a (by omega)
  have rb := I.rg b hb
  refine ⟨by rw [List.length_set]; exact hln, fun t ht => ?_, fun t ht => ?_, fun x y hxy => ?_⟩
  · rw [setAt_getD hbl]
    split
    · rename_i e; subst e; omega
    · exact I.rg t ht
  · rw [setAt_getD hbl]
    split
    · rename_i e; subst e
      by_cases hm : us.getD t 0 ≤ us.getD a 0
      · rw [Int.min_eq_left hm]; exact I.st t ht
      · rw [Int.min_eq_right (by omega)]; exact (I.st a (by omega)).trans h
    · exact I.st t ht
  · rw [setAt_getD hbl]
    rcases List.mem_append.1 hxy with hxy | hxy
    · have := I.dn x y hxy
      split
      · rename_i e; subst e; omega
      · exact this
    · rw [List.mem_singleton, List.cons.injEq, List.cons.injEq] at hxy
      have e1 : x = a := by omega
      have e2 : y = b := by omega
      subst e1; subst e2
      rw [if_pos rfl]; omega
theorem StI.done {n : Int} {next pre : List (List Int)} {us : List Int} (I : StI n next pre us) (hp : ∀ a b : Nat, a < b → (b : Int) < n → StabP next a b → [(a : Int), (b : Int)] ∈ pre) : StD n next us := by
  have le : ∀ i j : Nat, (i : Int) < n → (j : Int) < n → StabP next i j → us.getD j 0 ≤ us.getD i 0 := fun i j hi hj h => by
    have ri := I.rg i hi
    have rj := I.rg j hj
    have si := I.st i hi
    have e : (((us.getD i 0).toNat : Nat) : Int) = us.getD i 0 := by omega
    have h1 : StabP next (us.getD i 0) j := si.trans h
    rw [← e] at h1
    by_cases c1 : (us.getD i 0).toNat < j
    · have := I.dn _ _ (hp _ _ c1 hj h1); omega
    · omega
  refine ⟨I.ln, fun i j hi hj => ⟨fun e => ?_, fun h => ?_⟩⟩
  · have h1 := I.st i hi
    rw [e] at h1
    exact h1.symm.trans (I.st j hj)
  · have := le i j hi hj h
    have := le j i hj hi h.symm
    omega
structure StJ (n : Int) (next : List (List Int)) (pre : List (List Int)) (us : List Int) : Prop where
  ln : (us.length : Int) = n
  rg : ∀ x ∈ us, 0 ≤ x ∧ x < n
  st : ∀ i j : Nat, (i : Int) < n → (j : Int) < n → us.getD i 0 = us.getD j 0 → StabP next i j
  dn : ∀ a b : Nat, (a : Int) < n → (b : Int) < n → [(a : Int), (b : Int)] ∈ pre → us.getD b 0 = us.getD a 0
theorem StJ.step {n : Int} {next pre : List (List Int)} {us : List Int} (I : StJ n next pre us) {a b : Nat} (ha : (a : Int) < n) (hb : (b : Int) < n) (h : StabP next a b) :
    StJ n next (pre ++ [[(a : Int), (b : Int)]]) (repI (us.getD b 0) (us.getD a 0) us) := by
  have hln := I.ln
  refine ⟨by rw [repI_len]; exact hln, fun x hx => ?_, fun i j hi hj e => ?_, fun x y hx hy hxy => ?_⟩
  · simp only [repI, List.mem_map] at hx
    obtain ⟨c, hc, rfl⟩ := hx
    split
    · exact I.rg _ (yz11 (by omega) 0)
    · exact I.rg c hc
  · rw [repI_getD (by omega), repI_getD (by omega)] at e
    split at e
    · rename_i h1
      have s1 := I.st i b hi hb h1
      split at e
      · rename_i h2
        exact s1.trans (I.st j b hj hb h2).symm
      · exact (s1.trans h.symm).trans (I.st a j ha hj e)
    · split at e
      · rename_i h2
        exact ((I.st i a hi ha e).trans h).trans (I.st j b hj hb h2).symm
      · exact I.st i j hi hj e
  · rw [repI_getD (by omega), repI_getD (by omega)]
    rcases List.mem_append.1 hxy with hxy | hxy
    · rw [I.dn x y hx hy hxy]
    · rw [List.mem_singleton, List.cons.injEq, List.cons.injEq] at hxy
      have e1 : x = a := by omega
      have e2 : y = b := by omega
      subst e1; subst e2
      rw [if_pos rfl]
      split <;> rfl
theorem StJ.done {n : Int} {next pre : List (List Int)} {us : List Int} (I : StJ n next pre us) (hp : ∀ a b : Nat, a < b → (b : Int) < n → StabP next a b → [(a : Int), (b : Int)] ∈ pre) : StD n next us := by
  refine ⟨I.ln, fun i j hi hj => ⟨I.st i j hi hj, fun h => ?_⟩⟩
  by_cases h1 : i < j
  · exact (I.dn i j hi hj (hp i j h1 hj h)).symm
  · by_cases h2 : j < i
    · exact I.dn j i hj hi (hp j i h2 hi h.symm)
    · rw [show i = j by omega]
end Go.Ab
namespace Go.Ab
abbrev lenT (L : TS) (j : Nat) : Nat := (L.getD j (0, [])).2.length
theorem visT_tail {next : List (List Int)} {f : Nat} {w : List Int} : ∀ (x : Nat) (L : TS), ∃ t, visT next f w x L = L ++ t ∧ ∀ p ∈ t, p.2.length = w.length + 1
  | 0, L => ⟨[], by simp [visT]⟩
  | x + 1, L => by
    obtain ⟨t, h, h2⟩ := visT_tail (next := next) (f := f) (w := w) x L
    rw [visT_succ]
    split
    · exact ⟨t, h, h2⟩
    · refine ⟨t ++ [(stepN (next.getD x []) f, w ++ [(x : Int)])], by rw [← List.append_assoc, ← h], fun p hp => ?_⟩
      rcases List.mem_append.1 hp with hp | hp
      · exact h2 p hp
      · rw [List.mem_singleton.1 hp]; simp
structure MoT (next : List (List Int)) (L : TS) (i : Nat) : Prop where
  mo : ∀ j k, j ≤ k → k < L.length → lenT L j ≤ lenT L k
  cap : i < L.length → ∀ j < L.length, lenT L j ≤ lenT L i + 1
  ix : ∀ j < L.length, lenT L j ≤ j
  clo : ∀ j < i, ∀ x < next.length, ∃ k < L.length, (L.getD k (0, [])).1 = stepN (next.getD x []) (L.getD j (0, [])).1 ∧ lenT L k ≤ lenT L j + 1
theorem MoT.zero {next : List (List Int)} {f : Nat} : MoT next [(f, [])] 0 := by
  refine ⟨fun j k h hk => ?_, fun _ j hj => ?_, fun j hj => ?_, fun j hj => by omega⟩
  · have : k = 0 := by simpa using hk
    subst this
    obtain rfl : j = 0 := by omega
    exact Nat.le_refl _
  · have : j = 0 := by simpa using hj
    subst this; simp [lenT]
  · have : j = 0 := by simpa using hj
    subst this; simp [lenT]
theorem MoT.step {next : List (List Int)} {L : TS} {i : Nat} (M : MoT next L i) (hi : i < L.length) : MoT next (visT next (L.getD i (0, [])).1 (L.getD i (0, [])).2 next.length L) (i + 1) := by
  obtain ⟨t, ht, hl⟩ := visT_tail (next := next) (f := (L.getD i (0, [])).1) (w := (L.getD i (0, [])).2) next.length L
  have hhas := visT_has (next := next) (f := (L.getD i (0, [])).1) (w := (L.getD i (0, [])).2) next.length L
  rw [ht] at hhas ⊢
  have hold : ∀ j < L.length, (L ++ t).getD j (0, []) = L.getD j (0, []) := fun j hj => getD_app hj _
  have hnew : ∀ j, L.length ≤ j → j < (L ++ t).length → lenT (L ++ t) j = lenT L i + 1 := fun j h1 h2 => by
    have h3 : (L ++ t).getD j (0, []) ∈ t := by
      rw [List.getD_eq_getElem?_getD, List.getElem?_append_right h1]
      rw [List.length_append] at h2
      rw [List.getElem?_eq_getElem (by omega)]
      exact List.getElem_mem _
    exact hl _ h3
  have hcap : ∀ j < (L ++ t).length, lenT (L ++ t) j ≤ lenT L i + 1 := fun j hj => by
    by_cases h : j < L.length
    · show ((L ++ t).getD j (0, [])).2.length ≤ _
      rw [hold j h]; exact M.cap hi j h
    · exact Nat.le_of_eq (hnew j (by omega) hj)
  have hoi : lenT (L ++ t) i = lenT L i := by show ((L ++ t).getD i (0, [])).2.length = _; rw [hold i hi]
  have hmo : ∀ j k, j ≤ k → k < (L ++ t).length → lenT (L ++ t) j ≤ lenT (L ++ t) k := fun j k hjk hk => by
    by_cases h : k < L.length
    · show ((L ++ t).getD j (0, [])).2.length ≤ ((L ++ t).getD k (0, [])).2.length
      rw [hold j (by omega), hold k h]; exact M.mo j k hjk h
    · rw [hnew k (by omega) hk]; exact hcap j (by omega)
  refine ⟨hmo, fun h j hj => ?_, fun j hj => ?_, fun j hj x hx => ?_⟩
  · have h1 := hcap j hj
    have h2 := hmo i (i + 1) (by omega) h
    omega
  · by_cases h : j < L.length
    · show ((L ++ t).getD j (0, [])).2.length ≤ _
      rw [hold j h]; exact M.ix j h
    · rw [hnew j (by omega) hj]
      have := M.ix i hi
      omega
  · by_cases e : j < i
    · obtain ⟨k, hk, h1, h2⟩ := M.clo j e x hx
      refine ⟨k, by rw [List.length_append]; omega, ?_, ?_⟩
      · rw [hold k hk, hold j (by omega)]; exact h1
      · show ((L ++ t).getD k (0, [])).2.length ≤ ((L ++ t).getD j (0, [])).2.length + 1
        rw [hold k hk, hold j (by omega)]; exact h2
    · obtain rfl : j = i := by omega
      obtain ⟨p, hp, he⟩ := List.mem_map.1 (hasT_iff.1 (hhas x hx))
      obtain ⟨k, hk, hg⟩ := List.getElem_of_mem hp
      have hkd : (L ++ t).getD k (0, []) = p := by rw [List.getD_eq_getElem?_getD, List.getElem?_eq_getElem hk]; exact hg
      refine ⟨k, hk, ?_, ?_⟩
      · rw [hkd, hold j hi]; exact he
      · rw [hoi]; exact hcap k hk
theorem run_mo {n : Int} {next : List (List Int)} (A : Aut n next) : ∀ (F i : Nat) (L : TS), TI n.toNat next.length L → i ≤ L.length → 1025 ≤ F + i → MoT next L i → MoT next (runT next F i L) (runT next F i L).length
  | 0, i, L, h, hi, hF, hc => by
    have h1 := h.len
    have : 2 ^ n.toNat ≤ 1024 := Nat.pow_le_pow_right (n := 2) (by omega) (show n.toNat ≤ 10 by have := A.n2; omega)
    omega
  | F + 1, i, L, h, hi, hF, hc => by
    simp only [runT]
    split
    · rename_i hi1
      have h1 := (visT_ok A h hi1 next.length (Nat.le_refl _)).1
      obtain ⟨t, ht⟩ := visT_pre (next := next) (f := (L.getD i (0, [])).1) (w := (L.getD i (0, [])).2) next.length L
      exact run_mo A F (i + 1) _ h1 (by rw [ht, List.length_append]; omega) (by omega) (hc.step hi1)
    · have : i = L.length := by omega
      rw [← this]; exact hc
theorem tour_mo {n : Int} {next : List (List Int)} (A : Aut n next) {f : Nat} (hf : f < 2 ^ n.toNat) : MoT next (tourT next f) (tourT next f).length :=
  run_mo A 1100 0 _ (TI0 (m := next.length) hf) (by omega) (by omega) MoT.zero
theorem tour_le {n : Int} {next : List (List Int)} (A : Aut n next) {f : Nat} (hf : f < 2 ^ n.toNat) : ∀ (k : Nat) (w : List Int), w.length = k → (∀ x ∈ w, 0 ≤ x ∧ x < next.length) →
    ∃ j < (tourT next f).length, ((tourT next f).getD j (0, [])).1 = imN next f w ∧ lenT (tourT next f) j ≤ k
  | 0, w, hk, _ => by
    obtain rfl : w = [] := List.eq_nil_of_length_eq_zero hk
    obtain ⟨t, ht⟩ := runT_pre (next := next) 1100 0 [(f, [])]
    refine ⟨0, ?_, ?_, ?_⟩
    · unfold tourT; rw [ht]; simp
    · unfold tourT; rw [ht]; rfl
    · unfold tourT lenT; rw [ht]; exact Nat.le_refl _
  | k + 1, w, hk, hw => by
    have hne : w ≠ [] := fun e => by rw [e] at hk; simp at hk
    have e := List.dropLast_concat_getLast hne
    have hl := hw _ (List.getLast_mem hne)
    obtain ⟨j, hj, h1, h2⟩ := tour_le A hf k w.dropLast (by rw [List.length_dropLast]; omega) (fun x hx => hw x (List.dropLast_subset w hx))
    obtain ⟨m, hm, g1, g2⟩ := (tour_mo A hf).clo j hj (w.getLast hne).toNat (by omega)
    refine ⟨m, hm, ?_, by omega⟩
    rw [g1, h1, ← imN_snoc, e]
theorem find_at {T : TS} {p : Nat × List Int} (h : firstT T = some p) : ∃ i < T.length, T.getD i (0, []) = p ∧ smallN p.1 = true ∧ ∀ j < i, smallN (T.getD j (0, [])).1 = false := by
  obtain ⟨hp, i, hi, hg, hb⟩ := List.find?_eq_some_iff_getElem.1 h
  refine ⟨i, hi, ?_, by simpa using hp, fun j hj => ?_⟩
  · rw [List.getD_eq_getElem?_getD, List.getElem?_eq_getElem hi]; exact hg
  · have := hb j hj
    rw [List.getD_eq_getElem?_getD, List.getElem?_eq_getElem (by omega)]
    simpa using this
theorem first_le {n : Int} {next : List (List Int)} (A : Aut n next) {f : Nat} (hf : f < 2 ^ n.toNat) {p : Nat × List Int} (h : firstT (tourT next f) = some p) {w : List Int} (hw : IsW next.length w) (hs : smallN (imN next f w) = true) : p.2.length ≤ w.length := by
  obtain ⟨i, hi, hg, _, hb⟩ := find_at h
  obtain ⟨j, hj, h1, h2⟩ := tour_le A hf w.length w rfl hw
  have hij : i ≤ j := by
    by_cases c : i ≤ j
    · exact c
    · have := hb j (by omega)
      rw [h1, hs] at this; cases this
  have h3 := (tour_mo A hf).mo i j hij hj
  have : lenT (tourT next f) i = p.2.length := by unfold lenT; rw [hg]
  omega
theorem nodup_sub : ∀ (l m : List Nat), l.Nodup → (∀ x ∈ l, x ∈ m) → l.length ≤ m.length
  | [], m, _, _ => by simp
  | x :: l, m, hd, h => by
    rw [List.nodup_cons] at hd
    have hx := h x (by simp)
    have h1 := List.length_erase_of_mem hx
    have h2 : 0 < m.length := List.length_pos_of_mem hx
    have h3 := nodup_sub l (m.erase x) hd.2 fun y hy => (List.mem_erase_of_ne (fun e : y = x => hd.1 (by rw [← e]; exact hy))).2 (h y (by simp [hy]))
    simp only [List.length_cons]; omega
theorem every_len : ∀ n : Nat, n ≤ 10 → (every (n : Int)).length * 2 = (n - 1) * n := by decide
theorem merg_bound {n : Int} {next : List (List Int)} (A : Aut n next) {s t : Int} (hs : 0 ≤ s ∧ s < n) (ht : 0 ≤ t ∧ t < n) {w : List Int} (h : mergQ next s t = some w) : w.length ≤ (every n).length := by
  have n1 := A.n1
  have n2 := A.n2
  unfold mergQ at h
  obtain ⟨p, hp, rfl⟩ := Option.map_eq_some_iff.1 h
  obtain ⟨i, hi, hg, _, hb⟩ := find_at hp
  have hT := (runT_ok A 1100 0 _ (TI0 (m := next.length) (two_lt hs ht))).1
  have h1 := (tour_mo A (two_lt hs ht)).ix i hi
  have e1 : lenT (tourT next (twoN s t)) i = p.2.length := by unfold lenT; rw [hg]
  have h2 : ((tourT next (twoN s t)).map (·.1)).Nodup := hT.nd
  have h3 : (((tourT next (twoN s t)).map (·.1)).take i).length ≤ ((every n).map fun q => twoN (q.getD 0 0) (q.getD 1 0)).length := by
    refine nodup_sub _ _ (h2.sublist (List.take_sublist _ _)) fun x hx => ?_
    obtain ⟨j, hj, hgx⟩ := List.getElem_of_mem hx
    rw [List.length_take] at hj
    rw [List.getElem_take, List.getElem_map] at hgx
    have hjl : j < (tourT next (twoN s t)).length := by rw [List.length_map] at hj; omega
    have hsm := hb j (by omega)
    rw [List.getD_eq_getElem?_getD, List.getElem?_eq_getElem hjl, Option.getD_some] at hsm
    have hm : (tourT next (twoN s t))[j] ∈ tourT next (twoN s t) := List.getElem_mem _
    generalize (tourT next (twoN s t))[j] = q at hgx hsm hm
    have hw : IsW next.length q.2 := (hT.wd q hm).1
    have a0 := A.at (w := q.2) hs hw
    have a1 := A.at (w := q.2) ht hw
    have e2 := two_snd q hm
    have hne : atA next s q.2 ≠ atA next t q.2 := fun e => by
      rw [e2, (small_two A hs ht hw).2 e] at hsm; cases hsm
    rw [e2, imN_two A hs ht hw] at hgx
    rw [← hgx]
    by_cases c : atA next s q.2 < atA next t q.2
    · exact List.mem_map.2 ⟨[atA next s q.2, atA next t q.2], (pairsL_mem (by omega)).2 ⟨_, _, a0.1, c, a1.2, rfl, rfl⟩, rfl⟩
    · rw [twoN_comm]
      exact List.mem_map.2 ⟨[atA next t q.2, atA next s q.2], (pairsL_mem (by omega)).2 ⟨_, _, a1.1, by omega, a0.2, rfl, rfl⟩, rfl⟩
  rw [List.length_take, List.length_map, List.length_map] at h3
  omega
end Go.Ab
namespace Go.Ab
theorem can_mer {n : Int} {next : List (List Int)} (h : CanR n next) {s t : Int} (hs : 0 ≤ s ∧ s < n) (ht : 0 ≤ t ∧ t < n) : MerP next s t := by
  obtain ⟨w, hw, he⟩ := h
  exact ⟨w, hw, he s t hs ht⟩
end Go.Ab
namespace Go.Ab
theorem gre_step {n : Int} {next : List (List Int)} (A : Aut n next) {set : List Int} (S : WS1 n set) {s t : Int} (hs : s ∈ set) (ht : t ∈ set) (hne : s ≠ t) {w : List Int} (hw : IsW next.length w) (he : atA next s w = atA next t w) :
    WS1 n (imgL next set w) ∧ (imgL next set w).length < set.length ∧ 1 ≤ (imgL next set w).length := by
  have e : imgL next set w = nrm ((set.erase t).map fun s => atA next s w) := SI_ext (nrm_SI _) (nrm_SI _) fun y => by
    rw [nrm_mem, nrm_mem, List.mem_map, List.mem_map]
    constructor
    · rintro ⟨x, hx, rfl⟩
      by_cases h : x = t
      · subst h; exact ⟨s, (List.mem_erase_of_ne hne).2 hs, he⟩
      · exact ⟨x, (List.mem_erase_of_ne h).2 hx, rfl⟩
    · rintro ⟨x, hx, rfl⟩
      exact ⟨x, List.mem_of_mem_erase hx, rfl⟩
  refine ⟨⟨nrm_SI _, fun x hx => ?_⟩, ?_, List.length_pos_of_mem (nrm_mem.2 (List.mem_map.2 ⟨s, hs, rfl⟩))⟩
  · rw [nrm_mem] at hx
    obtain ⟨y, hy, rfl⟩ := List.mem_map.1 hx
    exact A.at (S.rg y hy) hw
  · rw [e]
    have h1 := nrm_len ((set.erase t).map fun s => atA next s w)
    have h2 := List.length_erase_of_mem ht
    have h3 := List.length_pos_of_mem ht
    rw [List.length_map] at h1
    omega
structure GrI (n : Int) (next : List (List Int)) (set out : List Int) : Prop where
  ws : WS1 n set
  ps : 1 ≤ set.length
  im : imgL next (allS n) out = set
  wd : IsW next.length out
  le : out.length ≤ (n.toNat - set.length) * (every n).length
theorem allS_rg {n : Int} {x : Int} (h : x ∈ allS n) : 0 ≤ x ∧ x < n := by
  simp only [allS, List.mem_map, List.mem_range] at h
  obtain ⟨i, hi, rfl⟩ := h
  omega
theorem GrI.zero {n : Int} {next : List (List Int)} (A : Aut n next) : GrI n next (allS n) [] := by
  have n1 := A.n1
  exact ⟨⟨allS_SI n, fun x hx => allS_rg hx⟩, by simp [allS]; omega, imgL_nil (allS_SI n), isw_nil, by simp⟩
theorem GrI.len {n : Int} {next : List (List Int)} {set out : List Int} (I : GrI n next set out) : set.length ≤ n.toNat := by
  rcases SI_len I.ws.si I.ws.rg with h | h
  · omega
  · rw [h]; simp
theorem GrI.step {n : Int} {next : List (List Int)} (A : Aut n next) {set out : List Int} (I : GrI n next set out) {s t : Int} (hs : s ∈ set) (ht : t ∈ set) (hne : s ≠ t) {w : List Int} (h : mergQ next s t = some w) :
    GrI n next (imgL next set w) (out ++ w) ∧ (imgL next set w).length < set.length := by
  obtain ⟨h1, h2, h3⟩ := merg_some A (I.ws.rg s hs) (I.ws.rg t ht) h
  have h4 := merg_bound A (I.ws.rg s hs) (I.ws.rg t ht) h
  obtain ⟨g1, g2, g3⟩ := gre_step A I.ws hs ht hne h1 h2
  refine ⟨⟨g1, g3, by rw [← imgL_app, I.im], isw_app I.wd h1, ?_⟩, g2⟩
  have hl := I.len
  have hle := I.le
  have h5 : (n.toNat - set.length + 1) * (every n).length ≤ (n.toNat - (imgL next set w).length) * (every n).length := Nat.mul_le_mul_right _ (by omega)
  rw [Nat.add_mul, Nat.one_mul] at h5
  rw [List.length_append]
  omega
theorem GrI.done {n : Int} {next : List (List Int)} {set out : List Int} (I : GrI n next set out) (h : set.length ≤ 1) : (imgL next (allS n) out).length = 1 := by
  have := I.ps
  rw [I.im]; omega
theorem GrI.can {n : Int} {next : List (List Int)} (A : Aut n next) {set out : List Int} (I : GrI n next set out) (h : set.length ≤ 1) : CanR n next :=
  ⟨out, I.wd, img_can A.n1 (I.done h)⟩
theorem GrI.not {n : Int} {next : List (List Int)} (A : Aut n next) {set out : List Int} (I : GrI n next set out) {s t : Int} (hs : s ∈ set) (ht : t ∈ set) (h : mergQ next s t = none) : ¬ CanR n next := fun hc => by
  have := (merg_iff A (I.ws.rg s hs) (I.ws.rg t ht)).2 (can_mer hc (I.ws.rg s hs) (I.ws.rg t ht))
  rw [h] at this; cases this
structure GrW (n : Int) (next : List (List Int)) (w : List Int) : Prop where
  wd : IsW next.length w
  rs : (imgL next (allS n) w).length = 1
  le : w.length ≤ (n.toNat - 1) * (every n).length
  cn : CanR n next
theorem GrI.word {n : Int} {next : List (List Int)} (A : Aut n next) {set out : List Int} (I : GrI n next set out) (h : set.length ≤ 1) : GrW n next out := by
  refine ⟨I.wd, I.done h, ?_, I.can A h⟩
  have := I.le
  have e : set.length = 1 := by have := I.ps; omega
  rw [e] at this; exact this
theorem bound_ok : ∀ k : Nat, k ≤ 10 → 1 ≤ k → (((k - 1) * (every (k : Int)).length : Nat) : Int) = ((k : Int) - 1) * k * ((k : Int) - 1) / 2 := by decide
end Go.Ab
namespace Go.Ab
open Go.Proofs
noncomputable def wocF (n : Int) (next words : List (List Int)) : List Int := wocR n next words n.toNat (allS n) []
theorem tf_L {l : List (Nat × AVal)} {h : List (Nat × AObj)} {t q ver k : Nat} {nn : Bool} {cs : List AVal} :
    St.tf ⟨L .any l, L .gone h⟩ t q ver k nn cs = ⟨L .any ((t, .ro (frNm nn cs.length ver) k cs) :: l), L .gone ((q, .gone) :: h)⟩ := by
  have h1 : ∀ x, (if x = t then AVal.ro (frNm nn cs.length ver) k cs else L .any l x) = L .any ((t, .ro (frNm nn cs.length ver) k cs) :: l) x := fun x => by
    by_cases e : x = t <;> simp [L, e, eq_comm]
  have h2 : ∀ x, (if x = q then AObj.gone else L .gone h x) = L .gone ((q, .gone) :: h) x := fun x => by
    by_cases e : x = q <;> simp [L, e, eq_comm]
  exact congr (congrArg St.mk (funext h1)) (funext h2)
theorem gwp_tf {gs : List GStep} {K : St → Prop} {l : List (Nat × AVal)} {h : List (Nat × AObj)} {t q k ver : Nat} {nn : Bool} {cs : List AVal} (ht : L .any l t = .own q ver)
    (hq : L .gone h q = .row ver k nn cs) (hk : gwp gs K ⟨L .any ((t, .ro (frNm nn cs.length ver) k cs) :: l), L .gone ((q, .gone) :: h)⟩) : gwp (.tf t q :: gs) K ⟨L .any l, L .gone h⟩ :=
  ⟨ver, k, nn, cs, ht, hq, by rw [tf_L]; exact hk⟩
structure WocI (n : Int) (next words : List (List Int)) (set out : List Int) : Prop where
  ws : WS1 n set
  ln : out.length + 400 * (set.length - 1) ≤ 4000
  fu : ∃ F, set.length ≤ F ∧ wocR n next words F set out = wocF n next words
end Go.Ab
namespace Go.Ab
open Go.Proofs
end Go.Ab
namespace Go.Ab
open Go.Proofs
end Go.Ab
namespace Go.Ab
open Go.Proofs
end Go.Ab
