/- Contracts and what they lean on, part 9. Conditions: none. -/
import Derived.Tactics
import Derived.Tactics2
import Derived.Laws.CopyOwn
import Derived.Deep.RegionLaw
import Derived.Test.YtogbdeciakomgaaGreatZ8
set_option maxRecDepth 100000
set_option maxHeartbeats 4000000
set_option linter.all false
open Nat (reduceLeDiff reduceMul reduceSub reduceEqDiff reduceAdd)
open Int (reduceToNat reduceNeg reduceLE)
namespace Go.Ab
open Go.Proofs
theorem k_l04Ok (n : Int) (next : List (List Int)) (P : Prt n next) : Fun Tryz.prog nz1o [autP n next] (bv true) := by
  refine fun_of mixed czhs rfl ⟨rfl, trivial⟩ ?_
  have n1 := P.n1
  have n2 := P.n2
  have l1 := P.l1
  have l2 := P.l2
  have w1 : IntKind.i64.wrap (n - 1) = n - 1 := w64 (by omega)
  simp only [Azbk, Bzbj, go_sem, yz0, Int.reduceLT, reduceLE, reduceToNat, reduceNeg, Nat.reduceLT, reduceLeDiff, reduceMul, reduceSub, reduceIte, reduceEqDiff, reduceAdd, reduceCtorEq]
  intro vs
  refine yzr (k_l04Size n next.length (by omega) (by omega) (by omega) (by omega)) qCS trivial ?_
  simp only [Bzb7, Bzbi, Bzbg, Bool.not_true, go_sem, yz0, Int.reduceLT, reduceLE, reduceToNat, reduceNeg, Nat.reduceLT, reduceLeDiff, reduceMul, reduceSub, reduceIte, reduceEqDiff, reduceAdd, reduceCtorEq]
  refine wpD_lo (fun l => next.length - l) (fun l => l ≤ next.length)
    (fun l : Nat => ⟨L .any [(0, autP n next), (3, iv l)], L .gone []⟩) 0 (by simp) (by simp only [Bz2t, go_sem, yz0, Int.reduceLT, reduceLE, reduceToNat, reduceNeg, Nat.reduceLT, reduceLeDiff, reduceMul, reduceSub, reduceIte, reduceEqDiff, reduceAdd, reduceCtorEq]; try rfl) ?_
  rintro l hl
  by_cases hlt : (l : Int) < next.length
  · have hlt1 : l < next.length := by omega
    have wl : IntKind.i64.wrap ((l : Int) + 1) = ((l + 1 : Nat) : Int) := by rw [w64 (by omega)]; simp
    have hr := P.row _ (yzw hlt1 [])
    have hgd := rwn_getD hlt1
    generalize next.getD l [] = r at hr hgd
    have hrn : ((r.length : Int) != n) = false := by simp [hr.1]
    have hrl := hr.1
    simp only [Bz2t, Bz5r, Bzbf, Bzb8, hgd, hrn, decide_eq_true hlt, go_sem, yz0, Int.reduceLT, reduceLE, reduceToNat, reduceNeg, Nat.reduceLT, reduceLeDiff, reduceMul, reduceSub, reduceIte, reduceEqDiff, reduceAdd, reduceCtorEq]
    intro hM2
    refine ⟨⟨by omega, hlt1⟩, hlt1, ?_⟩
    simp only [Bzbd, Bzbc, go_sem, yz0, Int.reduceLT, reduceLE, reduceToNat, reduceNeg, Nat.reduceLT, reduceLeDiff, reduceMul, reduceSub, reduceIte, reduceEqDiff, reduceAdd, reduceCtorEq]
    refine wpD_lo (fun s => r.length - s) (fun s => s ≤ r.length)
      (fun s : Nat => ⟨L .any [(0, autP n next), (3, iv l), (4, iv s)], L .gone []⟩) 0 (by simp) (by simp only [Bz2s, go_sem, yz0, Int.reduceLT, reduceLE, reduceToNat, reduceNeg, Nat.reduceLT, reduceLeDiff, reduceMul, reduceSub, reduceIte, reduceEqDiff, reduceAdd, reduceCtorEq]; try rfl) ?_
    rintro s hs
    by_cases hlts : (s : Int) < r.length
    · have hlts1 : s < r.length := by omega
      have ws : IntKind.i64.wrap ((s : Int) + 1) = ((s + 1 : Nat) : Int) := by rw [w64 (by omega)]; simp
      have hx := hr.2 _ (yzw hlts1 0)
      have hgs := yz12 (k := .i64) hlts1
      generalize r.getD s 0 = x at hx hgs
      have hse : (decide (-1 ≤ x) && decide (x ≤ n - 1)) = true := by simp; omega
      simp only [Bz2s, Bz5s, Bzbb, hgd, hgs, w1, decide_eq_true hlts, go_sem, yz0, Int.reduceLT, reduceLE, reduceToNat, reduceNeg, Nat.reduceLT, reduceLeDiff, reduceMul, reduceSub, reduceIte, reduceEqDiff, reduceAdd, reduceCtorEq]
      refine ⟨⟨by omega, hlt1⟩, hlt1, ?_⟩
      intro _ vs2
      refine ⟨⟨by omega, hlt1⟩, hlt1, ⟨by omega, hlts1⟩, hlts1, ?_⟩
      refine yzr (k_l00In x (-1) (n - 1)) qCS trivial ?_
      simp only [hse, Bzb9, Bzba, ws, Bool.not_true, go_sem, yz0, Int.reduceLT, reduceLE, reduceToNat, reduceNeg, Nat.reduceLT, reduceLeDiff, reduceMul, reduceSub, reduceIte, reduceEqDiff, reduceAdd, reduceCtorEq]
      exact ⟨s + 1, by omega, by omega, rfl⟩
    · obtain rfl : s = r.length := by omega
      simp only [Bz2s, Bz5s, Bzbe, hgd, wl, decide_eq_false hlts, go_sem, yz0, Int.reduceLT, reduceLE, reduceToNat, reduceNeg, Nat.reduceLT, reduceLeDiff, reduceMul, reduceSub, reduceIte, reduceEqDiff, reduceAdd, reduceCtorEq]
      refine ⟨⟨by omega, hlt1⟩, hlt1, ?_⟩
      exact fun _ => ⟨l + 1, by omega, by omega, rfl⟩
  · obtain rfl : l = next.length := by omega
    simp only [Bz2t, Bz5r, Bzbh, decide_eq_false hlt, go_sem, yz0, Int.reduceLT, reduceLE, reduceToNat, reduceNeg, Nat.reduceLT, reduceLeDiff, reduceMul, reduceSub, reduceIte, reduceEqDiff, reduceAdd, reduceCtorEq]
    try (intros; trivial)
theorem k_l04All (n : Int) (hn : 1 ≤ n ∧ n ≤ 10) : Fun Tryz.prog nz4d [iv n] (iv ((2 ^ n.toNat - 1 : Nat) : Int)) := by
  refine fun_of mixed czix rfl ⟨rfl, trivial⟩ ?_
  have h64 : IntKind.u64.wrap n = n := by rw [show n = ((n.toNat : Nat) : Int) by omega]; exact u64w (by omega)
  have hn0 : ¬ n < 0 := by omega
  have hsl := i_shl (b := n.toNat) (by omega)
  have hp := Nat.two_pow_pos n.toNat
  have hN : 2 ^ n.toNat ≤ 1024 := Nat.pow_le_pow_right (n := 2) (by omega) (show n.toNat ≤ 10 by omega)
  have w1 : IntKind.i64.wrap (((2 ^ n.toNat : Nat) : Int) - 1) = ((2 ^ n.toNat - 1 : Nat) : Int) := by rw [w64 (by omega)]; omega
  simp only [Bzf8, Azf9, h64, hn0, hsl, w1, go_sem, yz0, Int.reduceLT, reduceLE, reduceToNat, reduceNeg, Nat.reduceLT, reduceLeDiff, reduceMul, reduceSub, reduceIte, reduceEqDiff, reduceAdd, reduceCtorEq]
  try (intros; trivial)
theorem k_l04Step (n : Int) (next : List (List Int)) (P : Prt n next) (f l : Nat) (hf : f < 2 ^ n.toNat) (hl : l < next.length) :
    Fun2 Tryz.prog nz4f [autP n next, iv f, iv l] (.int .i64 (((stpP (next.getD l []) f).getD 0 : Nat) : Int)) (.bool (stpP (next.getD l []) f).isSome) := by
  refine fun2_of mixed cziz rfl ?_
  have n1 := P.n1
  have n2 := P.n2
  have hN : 2 ^ n.toNat ≤ 1024 := Nat.pow_le_pow_right (n := 2) (by omega) (show n.toNat ≤ 10 by omega)
  have hst : stpP (next.getD l []) f = if gapIn (next.getD l []) (bitsTo f 10) = true then none else some (stepTo (next.getD l []) (bitsTo f 10)) := by rw [stepTo_all]; rfl
  have hbt : bitsTo f n.toNat = bitsTo f 10 := by
    have := bitsTo_add hf (10 - n.toNat)
    rw [show n.toNat + (10 - n.toNat) = 10 by omega] at this
    exact this.symm
  simp only [Azff, Bzfe, Bzfd, Bzfb, go_sem, yz0, Int.reduceLT, reduceLE, reduceToNat, reduceNeg, Nat.reduceLT, reduceLeDiff, reduceMul, reduceSub, reduceIte, reduceEqDiff, reduceAdd, reduceCtorEq]
  refine wpD_lo (fun i => n.toNat - i) (fun i => i ≤ n.toNat ∧ gapIn (next.getD l []) (bitsTo f i) = false)
    (fun i : Nat => ⟨L .any [(0, autP n next), (1, iv f), (2, iv l), (8, iv (stepTo (next.getD l []) (bitsTo f i))), (9, iv i)], L .gone []⟩) 0 ⟨by simp, rfl⟩ (by simp only [Bzn, go_sem, yz0, Int.reduceLT, reduceLE, reduceToNat, reduceNeg, Nat.reduceLT, reduceLeDiff, reduceMul, reduceSub, reduceIte, reduceEqDiff, reduceAdd, reduceCtorEq]; try rfl) ?_
  rintro i ⟨hi, hg⟩
  by_cases hlt : (i : Int) < n
  · have wi : IntKind.i64.wrap ((i : Int) + 1) = ((i + 1 : Nat) : Int) := by rw [w64 (by omega)]; simp
    have h64 : IntKind.u64.wrap (i : Int) = i := u64w (by omega)
    have hi0 : ¬ (i : Int) < 0 := by omega
    have hsh := u_shr (f := f) (s := i) (by omega)
    have hlt2 : f >>> i < 4611686018427387904 := by rw [Nat.shiftRight_eq_div_pow]; exact Nat.lt_of_le_of_lt (Nat.div_le_self _ _) (by omega)
    have hand := i_and1 hlt2
    have hbit : ((((f >>> i &&& 1 : Nat) : Int)) == 0) = !(f.testBit i) := by
      rw [Nat.testBit_eq_decide_div_mod_eq, Nat.and_one_is_mod, Nat.shiftRight_eq_div_pow, Bool.eq_iff_iff, beq_iff_eq, Bool.not_eq_true', decide_eq_false_iff_not]
      have := Nat.mod_lt (f / 2 ^ i) (show 0 < 2 by omega)
      generalize f / 2 ^ i % 2 = q at this
      omega
    obtain ⟨hc, hv1, hv2⟩ := P.at hl (s := (i : Int)) ⟨by omega, hlt⟩
    rw [Int.toNat_natCast] at hc hv1 hv2
    cases hb : f.testBit i with
    | false =>
      rw [hb] at hbit
      have hs : bitsTo f (i + 1) = bitsTo f i := by rw [bitsTo_succ, if_neg (by simp [hb])]
      simp only [Bzn, Bz19, Bz3l, Bz3k, Bz73, h64, hi0, hsh, hand, hbit, wi, Bool.not_false, decide_eq_true hlt, Int.toNat_natCast, go_sem, yz0, Int.reduceLT, reduceLE, reduceToNat, reduceNeg, Nat.reduceLT, reduceLeDiff, reduceMul, reduceSub, reduceIte, reduceEqDiff, reduceAdd, reduceCtorEq]
      exact ⟨i + 1, by omega, ⟨by omega, by rw [hs]; exact hg⟩, by rw [hs]⟩
    | true =>
      rw [hb] at hbit
      have hs : bitsTo f (i + 1) = bitsTo f i ++ [(i : Int)] := by rw [bitsTo_succ, if_pos hb]
      have hin : (i : Int) ∈ bitsTo f 10 := by
        rw [show bitsTo f 10 = (bitsN f).map fun (s : Nat) => (s : Int) from rfl]
        exact List.mem_map.2 ⟨i, mem_bits.2 ⟨by omega, hb⟩, rfl⟩
      have hgd := yz12 (k := .i64) hc
      by_cases hneg : (next.getD l []).getD i 0 < 0
      · have hgt : gapIn (next.getD l []) (bitsTo f 10) = true := by
          unfold gapIn
          rw [List.any_eq_true]
          exact ⟨_, hin, decide_eq_true (by rw [Int.toNat_natCast]; exact hneg)⟩
        rw [if_pos hgt] at hst
        simp only [Bzn, Bz19, Bz3l, Bz3k, Bz72, Bz71, h64, hi0, hsh, hand, hbit, rwn_getD hl, hgd, Bool.not_true, decide_eq_true hlt, decide_eq_true hneg, Int.toNat_natCast, go_sem, yz0, Int.reduceLT, reduceLE, reduceToNat, reduceNeg, Nat.reduceLT, reduceLeDiff, reduceMul, reduceSub, reduceIte, reduceEqDiff, reduceAdd, reduceCtorEq]
        rw [hst]
        exact ⟨⟨by omega, hl⟩, hl, ⟨by omega, hc⟩, hc, rfl⟩
      · have hx64 : IntKind.u64.wrap ((next.getD l []).getD i 0) = (next.getD l []).getD i 0 := by
          rw [show (next.getD l []).getD i 0 = ((((next.getD l []).getD i 0).toNat : Nat) : Int) by omega]; exact u64w (by omega)
        have hsl := i_shl (b := ((next.getD l []).getD i 0).toNat) (by omega)
        have h2 := pow_lt10 (k := ((next.getD l []).getD i 0).toNat) (by omega)
        have h1 := P.to_lt hl (set := bitsTo f i) (fun x hx => by have := bitsTo_lt hx; omega)
        have hor := i_or (x := stepTo (next.getD l []) (bitsTo f i)) (y := 2 ^ ((next.getD l []).getD i 0).toNat) (by omega) (by omega)
        have hr : stepTo (next.getD l []) (bitsTo f i) ||| 2 ^ ((next.getD l []).getD i 0).toNat = stepTo (next.getD l []) (bitsTo f (i + 1)) := by
          rw [hs]; simp [stepTo, List.foldl_append]
        have hgs : gapIn (next.getD l []) (bitsTo f (i + 1)) = false := by
          rw [hs]
          unfold gapIn at hg ⊢
          rw [List.any_append, hg, Bool.false_or, List.any_cons, List.any_nil, Bool.or_false, Int.toNat_natCast]
          exact decide_eq_false hneg
        simp only [Bzn, Bz19, Bz3l, Bz3k, Bz72, Bz71, Bzfa, Bz73, h64, hi0, hsh, hand, hbit, rwn_getD hl, hgd, hx64, hneg, hsl, hor, hr, wi, Bool.not_true, decide_eq_true hlt, decide_eq_false hneg, Int.toNat_natCast, go_sem, yz0, Int.reduceLT, reduceLE, reduceToNat, reduceNeg, Nat.reduceLT, reduceLeDiff, reduceMul, reduceSub, reduceIte, reduceEqDiff, reduceAdd, reduceCtorEq]
        exact ⟨⟨by omega, hl⟩, hl, ⟨by omega, hc⟩, hc, ⟨by omega, hl⟩, hl, ⟨by omega, hc⟩, hc, i + 1, by omega, ⟨by omega, hgs⟩, rfl⟩
  · obtain rfl : i = n.toNat := by omega
    rw [hbt] at hg
    rw [hg, if_neg (by simp)] at hst
    simp only [Bzn, Bz19, Bzfc, decide_eq_false hlt, hbt, hst, Option.getD_some, Option.isSome_some, go_sem, yz0, Int.reduceLT, reduceLE, reduceToNat, reduceNeg, Nat.reduceLT, reduceLeDiff, reduceMul, reduceSub, reduceIte, reduceEqDiff, reduceAdd, reduceCtorEq]
abbrev CarRes (x : Option (Nat × List Int)) (rows : List AObj) (res : AVal) : Prop :=
  (∃ p, x = some p ∧ rows = [] ∧ res = .tup [.ro (some none) 1 (ints p.2), bv true]) ∨ (x = none ∧ ∃ v, rows = [.row v 1 true []] ∧ res = .tup [.own 6000 v, bv false])
theorem k_l04Careful (n : Int) (next : List (List Int)) (P : Prt n next) : Fn Tryz.prog nz46 [autP n next] (CarRes (carQ next n)) := by
  refine con_of mixed czht rfl (by simp) ?_
  have n1 := P.n1
  have n2 := P.n2
  have l2 := P.l2
  have hp := Nat.two_pow_pos n.toNat
  have hN : 2 ^ n.toNat ≤ 1024 := Nat.pow_le_pow_right (n := 2) (by omega) (show n.toNat ≤ 10 by omega)
  have hf : 2 ^ n.toNat - 1 < 2 ^ n.toNat := by omega
  have hcq : carQ next n = firstT (carT next (2 ^ n.toNat - 1)) := rfl
  have hfN : (2 ^ n.toNat - 1) + 1 = 2 ^ n.toNat := by omega
  generalize hQ : finQ _ = Q
  simp only [Az33, Bzc0, go_sem, yz0, Int.reduceLT, reduceLE, reduceToNat, reduceNeg, Nat.reduceLT, reduceLeDiff, reduceMul, reduceSub, reduceIte, reduceEqDiff, reduceAdd, reduceCtorEq]
  intro vs
  refine yzr (k_l04All n ⟨n1, n2⟩) qCS trivial ?_
  generalize 2 ^ n.toNat - 1 = f at hf hcq hfN ⊢
  have wf : IntKind.i64.wrap ((f : Int) + 1) = ((2 ^ n.toNat : Nat) : Int) := by rw [← hfN, w64 (by omega)]; simp
  simp only [go_sem, yz0, Int.reduceLT, reduceLE, reduceToNat, reduceNeg, Nat.reduceLT, reduceLeDiff, reduceMul, reduceSub, reduceIte, reduceEqDiff, reduceAdd, reduceCtorEq]
  refine ⟨⟨_, rfl, rfl⟩, ?_⟩
  simp only [Bzbz, go_sem, yz0, Int.reduceLT, reduceLE, reduceToNat, reduceNeg, Nat.reduceLT, reduceLeDiff, reduceMul, reduceSub, reduceIte, reduceEqDiff, reduceAdd, reduceCtorEq]
  intro vs2
  simp only [Bzby, List.getD_cons_zero, wf, go_sem, yz0, Int.reduceLT, reduceLE, reduceToNat, reduceNeg, Nat.reduceLT, reduceLeDiff, reduceMul, reduceSub, reduceIte, reduceEqDiff, reduceAdd, reduceCtorEq]
  intro vs3
  have hrep : (List.replicate (2 ^ n.toNat) [AVal.val (Value.bool false)]).flatten = bls2 (List.replicate (2 ^ n.toNat) false) := by
    induction 2 ^ n.toNat with
    | zero => rfl
    | succ k ih => rw [List.replicate_succ, List.flatten_cons, ih, List.replicate_succ]; rfl
  refine ⟨⟨by omega, Int.le_refl _, by omega, by omega⟩, ?_⟩
  simp only [hrep, dnL_bls2, Bzbx, List.getD_cons_zero, go_sem, yz0, Int.reduceLT, reduceLE, reduceToNat, reduceNeg, Nat.reduceLT, reduceLeDiff, reduceMul, reduceSub, reduceIte, reduceEqDiff, reduceAdd, reduceCtorEq]
  refine ⟨⟨by omega, by rw [List.length_replicate]; exact hf⟩, by rw [List.length_replicate]; exact hf, ?_⟩
  rw [bls2_put, seenT_one hf]
  simp only [dnL_bls2, Bzbw, Bzbu, go_sem, yz0, Int.reduceLT, reduceLE, reduceToNat, reduceNeg, Nat.reduceLT, reduceLeDiff, reduceMul, reduceSub, reduceIte, reduceEqDiff, reduceAdd, reduceCtorEq]
  refine wpD_lo (fun (_, _, i, _) => 1100 - i)
    (fun (_, _, i, L) => TI n.toNat next.length L ∧ i ≤ List.length L ∧ runG (carD next) next.length (0, []) (1100 - i) i L = carT next f ∧ ∀ j < i, smallN (L.getD j (0, [])).1 = false)
    (fun ((va, vb, i, L) : Nat × Nat × Nat × TS) => ⟨Go.Ab.L .any [(0, autP n next), (4, .own 16 va), (5, .own 18 vb), (6, .own 23 (vs3 4 0)), (7, iv i)],
      Go.Ab.L .gone [(16, .row va 1 true (ints (setsI L))), (18, .row vb 1 true (rws (L.map (·.2)))), (23, .row (vs3 4 0) 1 true (bls2 (seenT (2 ^ n.toNat) L)))]⟩)
    (_, _, 0, [(f, [])]) ⟨TI0 hf, by simp, rfl, by simp⟩ (by simp only [Bz32, dnL_bls2, go_sem, yz0, Int.reduceLT, reduceLE, reduceToNat, reduceNeg, Nat.reduceLT, reduceLeDiff, reduceMul, reduceSub, reduceIte, reduceEqDiff, reduceAdd, reduceCtorEq]; try rfl) ?_
  rintro ⟨va, vb, i, L⟩ ⟨hI, hi, hR, hsm⟩
  have hi : i ≤ L.length := hi
  have hlen := hI.len
  have hR : runG (carD next) next.length (0, []) (1100 - i) i L = carT next f := hR
  by_cases hlt : (i : Int) < L.length
  · have hlt1 : i < L.length := by omega
    have hls : i < (setsI L).length := by simpa using hlt1
    have hm := yzw hlt1 (0, ([] : List Int))
    have hfi := hI.rg _ hm
    have hwi := hI.wd _ hm
    have wi : IntKind.i64.wrap ((i : Int) + 1) = ((i + 1 : Nat) : Int) := by rw [w64 (by omega)]; simp
    have hpre0 : ∃ t, carT next f = L ++ t := by rw [← hR]; exact runG_pre _ _ _
    simp only [Bz32, Bz5t, Bzbt, yz12 hls, setsI_getD hlt1, dnL_bls2, List.length_map, decide_eq_true hlt, go_sem, yz0, Int.reduceLT, reduceLE, reduceToNat, reduceNeg, Nat.reduceLT, reduceLeDiff, reduceMul, reduceSub, reduceIte, reduceEqDiff, reduceAdd, reduceCtorEq]
    intro hM vs4
    refine ⟨⟨by omega, hlt1⟩, hlt1, ?_⟩
    refine yzr (k_l02Single (L.getD i (0, [])).1 (by omega)) qCS trivial ?_
    cases hs : smallN (L.getD i (0, [])).1 with
    | true =>
      have hF := firstC hlt1 hpre0 hsm hs
      rw [← hcq] at hF
      have hwl : i < (L.map (·.2)).length := by simpa using hlt1
      have hwg := words_getD hlt1
      simp only [Bz5u, rws_getD hwl, hwg, dnL_bls2, List.length_map, Az33, ← hQ, go_sem, yz0, Int.reduceLT, reduceLE, reduceToNat, reduceNeg, Nat.reduceLT, reduceLeDiff, reduceMul, reduceSub, reduceIte, reduceEqDiff, reduceAdd, reduceCtorEq]
      refine ⟨⟨by omega, hlt1⟩, hlt1, ?_⟩
      refine ⟨[], by simp, by simp, by simp, ?_⟩
      simp only [CarRes, hF, List.map_nil, List.length_nil, Nat.not_lt_zero, range1, yzx, yz10, yz15, yz14, yz11, yz18, yz17, yz16, yzz, yzp, yzh, yz3, yzv, yzs, yzq, yzn, yzu, yzd, yze, yz8, yzc, yzm, yzj, yz2, yzb, yz9, yz7, yzl, yzk, List.range_zero, yz4, yz5, yza, yzo, yzf, yzt, AVal.fresh, freshL, yz1, yzi, AObj.fresh, id, Option.isSome_some, or_true, true_or, go_sem, yz0, Int.reduceLT, reduceLE, reduceToNat, reduceNeg, Nat.reduceLT, reduceLeDiff, reduceMul, reduceSub, reduceIte, reduceEqDiff, reduceAdd, reduceCtorEq]
      exact .inl ⟨_, rfl, rfl⟩
    | false =>
      have hs0 := hs
      simp only [Bz5u, Bzbr, Bzbq, dnL_bls2, go_sem, yz0, Int.reduceLT, reduceLE, reduceToNat, reduceNeg, Nat.reduceLT, reduceLeDiff, reduceMul, reduceSub, reduceIte, reduceEqDiff, reduceAdd, reduceCtorEq]
      generalize hfw : L.getD i (0, []) = fw at hm hfi hwi hs0 ⊢
      refine wpD_lo (fun (_, _, x, _) => next.length - x)
        (fun (_, _, x, L') => x ≤ next.length ∧ L' = visC next fw.1 fw.2 x L)
        (fun ((va, vb, x, L') : Nat × Nat × Nat × TS) => ⟨Go.Ab.L .any [(0, autP n next), (4, .own 16 va), (5, .own 18 vb), (6, .own 23 (vs3 4 0)), (7, iv i), (8, iv x)],
          Go.Ab.L .gone [(16, .row va 1 true (ints (setsI L'))), (18, .row vb 1 true (rws (L'.map (·.2)))), (23, .row (vs3 4 0) 1 true (bls2 (seenT (2 ^ n.toNat) L')))]⟩)
        (_, _, 0, L) ⟨by simp, rfl⟩ (by simp only [Bz31, dnL_bls2, go_sem, yz0, Int.reduceLT, reduceLE, reduceToNat, reduceNeg, Nat.reduceLT, reduceLeDiff, reduceMul, reduceSub, reduceIte, reduceEqDiff, reduceAdd, reduceCtorEq]; try rfl) ?_
      rintro ⟨va, vb, x, L'⟩ ⟨hx, rfl⟩
      have hx : x ≤ next.length := hx
      obtain ⟨hI', t, hpre⟩ := visC_ok P hI hlt1 x hx
      rw [hfw] at hI' hpre
      have hsuN := @visC_none next fw.1 fw.2 x L
      have hsuS := fun to => @visC_some next fw.1 to fw.2 x L
      generalize hV : visC next fw.1 fw.2 x L = L' at hI' hpre hsuN hsuS ⊢
      have hlen' := hI'.len
      have hi2 : i < L'.length := by rw [hpre, List.length_append]; omega
      have hat : L'.getD i (0, []) = fw := by rw [hpre, getD_app hlt1, hfw]
      by_cases hxl : (x : Int) < next.length
      · have hxl1 : x < next.length := by omega
        have w1 : IntKind.i64.wrap ((x : Int) + 1) = ((x + 1 : Nat) : Int) := by rw [w64 (by omega)]; simp
        have hks := k_l04Step n next P fw.1 x hfi hxl1
        have hls2 : i < (setsI L').length := by simpa using hi2
        have hsg := setsI_getD hi2
        rw [hat] at hsg
        simp only [Bz31, Bz5v, Bzbp, dnL_bls2, List.length_map, yz12 hls2, hsg, decide_eq_true hxl, go_sem, yz0, Int.reduceLT, reduceLE, reduceToNat, reduceNeg, Nat.reduceLT, reduceLeDiff, reduceMul, reduceSub, reduceIte, reduceEqDiff, reduceAdd, reduceCtorEq]
        intro _ vs6
        refine ⟨⟨by omega, hi2⟩, hi2, ?_⟩
        refine call_fun2 hks qCS ?_
        cases hst : stpP (next.getD x []) fw.1 with
        | none =>
          have hsu := hsuN hst
          simp only [Bz2z, Bz2y, Bz30, Option.isSome_none, Option.getD_none, w1, dnL_bls2, Bool.not_false, go_sem, yz0, Int.reduceLT, reduceLE, reduceToNat, reduceNeg, Nat.reduceLT, reduceLeDiff, reduceMul, reduceSub, reduceIte, reduceEqDiff, reduceAdd, reduceCtorEq]
          exact ⟨(va, vb, x + 1, L'), by dsimp only; omega, ⟨by dsimp only; omega, hsu.symm⟩, rfl⟩
        | some to =>
          have hto := stpP_lt P hfi hxl1 hst
          have hsu := hsuS to hst
          have hsn : (bls2 (seenT (2 ^ n.toNat) L')).getD to .any = bv (hasT L' to) := by rw [bls2_getD (by rw [seenT_len]; exact hto), seenT_getD hto]
          cases hh : hasT L' to with
          | true =>
            rw [hh] at hsn
            rw [hh, if_pos rfl] at hsu
            simp only [Bz2z, Bz2y, Bz30, Option.isSome_some, Option.getD_some, hsn, seenT_len, List.length_map, w1, dnL_bls2, Bool.not_true, go_sem, yz0, Int.reduceLT, reduceLE, reduceToNat, reduceNeg, Nat.reduceLT, reduceLeDiff, reduceMul, reduceSub, reduceIte, reduceEqDiff, reduceAdd, reduceCtorEq]
            exact ⟨⟨by omega, hto⟩, hto, (va, vb, x + 1, L'), by dsimp only; omega, ⟨by dsimp only; omega, hsu.symm⟩, rfl⟩
          | false =>
            rw [hh] at hsn
            rw [hh, if_neg (by simp)] at hsu
            have hwl : i < (L'.map (·.2)).length := by simpa using hi2
            have hwg := words_getD hi2
            rw [hat] at hwg
            simp only [Bz2z, Bz2y, Bzbo, Option.isSome_some, Option.getD_some, hsn, seenT_len, List.length_map, dnL_bls2, Bool.not_true, go_sem, yz0, Int.reduceLT, reduceLE, reduceToNat, reduceNeg, Nat.reduceLT, reduceLeDiff, reduceMul, reduceSub, reduceIte, reduceEqDiff, reduceAdd, reduceCtorEq]
            refine ⟨⟨by omega, hto⟩, hto, ⟨by omega, hto⟩, hto, ?_⟩
            rw [bls2_put, ← seenT_add (w := fw.2 ++ [(x : Int)]) hto]
            simp only [Bzbn, dnL_bls2, List.length_map, go_sem, yz0, Int.reduceLT, reduceLE, reduceToNat, reduceNeg, Nat.reduceLT, reduceLeDiff, reduceMul, reduceSub, reduceIte, reduceEqDiff, reduceAdd, reduceCtorEq]
            intro vs7
            refine ⟨⟨_, rfl, rfl⟩, by omega, ?_⟩
            simp only [Bzbm, dnL_bls2, List.length_map, rws_getD hwl, hwg, go_sem, yz0, Int.reduceLT, reduceLE, reduceToNat, reduceNeg, Nat.reduceLT, reduceLeDiff, reduceMul, reduceSub, reduceIte, reduceEqDiff, reduceAdd, reduceCtorEq]
            intro vs8
            refine ⟨⟨by omega, hi2⟩, hi2, ?_⟩
            refine call_rowI (k_l00Own fw.2 (by omega)) qCS qGN ⟨_, rfl⟩ ?_
            rintro zs v83 rfl
            simp only [Bz30, w1, dnL_bls2, go_sem, yz0, Int.reduceLT, reduceLE, reduceToNat, reduceNeg, Nat.reduceLT, reduceLeDiff, reduceMul, reduceSub, reduceIte, reduceEqDiff, reduceAdd, reduceCtorEq]
            refine ⟨⟨_, rfl, rfl⟩, by omega, ?_⟩
            exact ⟨by omega, (vs7 3 0, vs8 10 0, x + 1, L' ++ [(to, fw.2 ++ [(x : Int)])]), by dsimp only; omega, ⟨by dsimp only; omega, hsu.symm⟩, by simp only [List.map_append, List.map_cons, List.map_nil]⟩
      · obtain rfl : x = next.length := by omega
        simp only [Bz31, Bz5v, Bzbs, dnL_bls2, wi, decide_eq_false hxl, go_sem, yz0, Int.reduceLT, reduceLE, reduceToNat, reduceNeg, Nat.reduceLT, reduceLeDiff, reduceMul, reduceSub, reduceIte, reduceEqDiff, reduceAdd, reduceCtorEq]
        obtain ⟨F, hF⟩ : ∃ F, 1100 - i = F + 1 := ⟨1099 - i, by omega⟩
        have hF2 : 1100 - (i + 1) = F := by omega
        rw [hF] at hR
        simp only [runG, if_pos hlt1, hfw] at hR
        rw [show visG (carD next) fw.1 fw.2 next.length L = L' from hV] at hR
        intro _
        refine ⟨(_, _, i + 1, L'), by dsimp only; omega, ⟨hI', by dsimp only; omega, by dsimp only; rw [hF2]; exact hR, fun j hj => ?_⟩, rfl⟩
        have hj : j < i + 1 := hj
        show smallN (L'.getD j (0, [])).1 = false
        rw [hpre, getD_app (by omega)]
        by_cases e : j = i
        · rw [e, hfw]; exact hs0
        · exact hsm j (by omega)
  · obtain rfl : i = L.length := by omega
    have hend : L = carT next f := by
      obtain ⟨F, hF⟩ : ∃ F, 1100 - L.length = F + 1 := ⟨1099 - L.length, by omega⟩
      rw [← hR, hF]; simp only [runG, Nat.lt_irrefl, if_false]
    have hF := firstC_none hsm
    rw [hend, ← hcq] at hF
    simp only [Bz32, Bz5t, Bzbv, List.length_map, dnL_bls2, decide_eq_false hlt, Az33, ← hQ, go_sem, yz0, Int.reduceLT, reduceLE, reduceToNat, reduceNeg, Nat.reduceLT, reduceLeDiff, reduceMul, reduceSub, reduceIte, reduceEqDiff, reduceAdd, reduceCtorEq]
    intro _ vs9
    refine ⟨[89], by simp, by simp, by simp, ?_⟩
    simp only [CarRes, hF, range1, List.length_singleton, List.map_nil, Nat.not_lt_zero, range1, yzx, yz10, yz15, yz14, yz11, yz18, yz17, yz16, yzz, yzp, yzh, yz3, yzv, yzs, yzq, yzn, yzu, yzd, yze, yz8, yzc, yzm, yzj, yz2, yzb, yz9, yz7, yzl, yzk, List.range_zero, yz4, yz5, yza, yzo, yzf, yzt, AVal.fresh, freshL, yz1, yzi, AObj.fresh, id, Option.isSome_some, or_true, true_or, go_sem, yz0, Int.reduceLT, reduceLE, reduceToNat, reduceNeg, Nat.reduceLT, reduceLeDiff, reduceMul, reduceSub, reduceIte, reduceEqDiff, reduceAdd, reduceCtorEq]
    exact .inr ⟨_, rfl, rfl⟩
theorem k_l02ToldR (xs : List Int) : Con Tryz.prog nz1p [] [.ro none 1 (ints xs), bv true] true fun outs rows res => outs = [] ∧ rows = [] ∧ res = .tup [.ro none 1 (ints xs), iv 0] := by
  refine con_sh mixed czbl rfl (by simp) ?_
  simp only [Az2x, Bz2w, Bz2u, Bz2v, Bool.not_true, go_sem, yz0, Int.reduceLT, reduceLE, reduceToNat, reduceNeg, Nat.reduceLT, reduceLeDiff, reduceMul, reduceSub, reduceIte, reduceEqDiff, reduceAdd, reduceCtorEq]
  refine ⟨[], by simp, by simp, by simp, ?_⟩
  simp only [List.map_nil, List.length_nil, Nat.not_lt_zero, range1, yzx, yz10, yz15, yz14, yz11, yz18, yz17, yz16, yzz, yzp, yzh, yz3, yzv, yzs, yzq, yzn, yzu, yzd, yze, yz8, yzc, yzm, yzj, yz2, yzb, yz9, yz7, yzl, yzk, List.range_zero, yz4, yz5, yza, yzo, yzf, yzt, AVal.fresh, freshL, yz1, yzi, AObj.fresh, id, Option.isSome_some, or_true, true_or, go_sem, yz0, Int.reduceLT, reduceLE, reduceToNat, reduceNeg, Nat.reduceLT, reduceLeDiff, reduceMul, reduceSub, reduceIte, reduceEqDiff, reduceAdd, reduceCtorEq]
abbrev CarRes2 (x : Option (Nat × List Int)) (rows : List AObj) (res : AVal) : Prop :=
  (∃ p, x = some p ∧ rows = [] ∧ res = .tup [.ro none 1 (ints p.2), iv 0]) ∨ (x = none ∧ ∃ v, rows = [.row v 1 true []] ∧ res = .tup [.own 6000 v, iv 6])
theorem k_specCarefulWord (n : Int) (next : List (List Int)) (P : Prt n next) : Con Tryz.prog nz3u [.row 0 1 true (rwn next)] [.st [iv n, .own 5000 0]] true fun outs rows res => outs = [.row 0 1 true (rwn next)] ∧ CarRes2 (carQ next n) rows res := by
  refine con_sh mixed czh4 rfl (by simp) ?_
  simp only [Az86, Bz85, go_sem, yz0, Int.reduceLT, reduceLE, reduceToNat, reduceNeg, Nat.reduceLT, reduceLeDiff, reduceMul, reduceSub, reduceIte, reduceEqDiff, reduceAdd, reduceCtorEq]
  intro vs vs2
  refine yzr (k_l04Ok n next P) qCS trivial ?_
  simp only [Bz83, Bz84, Bool.not_true, go_sem, yz0, Int.reduceLT, reduceLE, reduceToNat, reduceNeg, Nat.reduceLT, reduceLeDiff, reduceMul, reduceSub, reduceIte, reduceEqDiff, reduceAdd, reduceCtorEq]
  intro vs3
  refine call_fn (k_l04Careful n next P) qCS (fun e => by cases e) ?_
  rintro rows res (⟨p, hp, rfl, rfl⟩ | ⟨hp, v, rfl, rfl⟩)
  · refine ⟨by simp, by rw [Option.getD_some, yzo]; simp only [go_sem, yz0, Int.reduceLT, reduceLE, reduceToNat, reduceNeg, Nat.reduceLT, reduceLeDiff, reduceMul, reduceSub, reduceIte, reduceEqDiff, reduceAdd, reduceCtorEq], ?_⟩
    simp only [Option.getD_some, Nat.not_lt_zero, range1, yzx, yz10, yz15, yz14, yz11, yz18, yz17, yz16, yzz, yzp, yzh, yz3, yzv, yzs, yzq, yzn, yzu, yzd, yze, yz8, yzc, yzm, yzj, yz2, yzb, yz9, yz7, yzl, yzk, List.range_zero, yz4, yz5, yza, yzo, yzf, yzt, AVal.fresh, freshL, yz1, yzi, AObj.fresh, id, Option.isSome_some, or_true, true_or, go_sem, yz0, Int.reduceLT, reduceLE, reduceToNat, reduceNeg, Nat.reduceLT, reduceLeDiff, reduceMul, reduceSub, reduceIte, reduceEqDiff, reduceAdd, reduceCtorEq]
    refine call_sh (k_l02ToldR p.2) qCS (fun e => by cases e) ?_
    rintro outs rows res ⟨rfl, rfl, rfl⟩
    refine ⟨rfl, by simp, by rw [Option.getD_some, yzo]; simp only [go_sem, yz0, Int.reduceLT, reduceLE, reduceToNat, reduceNeg, Nat.reduceLT, reduceLeDiff, reduceMul, reduceSub, reduceIte, reduceEqDiff, reduceAdd, reduceCtorEq], ?_⟩
    simp only [Option.getD_some, Nat.not_lt_zero, range1, yzx, yz10, yz15, yz14, yz11, yz18, yz17, yz16, yzz, yzp, yzh, yz3, yzv, yzs, yzq, yzn, yzu, yzd, yze, yz8, yzc, yzm, yzj, yz2, yzb, yz9, yz7, yzl, yzk, List.range_zero, yz4, yz5, yza, yzo, yzf, yzt, AVal.fresh, freshL, yz1, yzi, AObj.fresh, id, Option.isSome_some, or_true, true_or, go_sem, yz0, Int.reduceLT, reduceLE, reduceToNat, reduceNeg, Nat.reduceLT, reduceLeDiff, reduceMul, reduceSub, reduceIte, reduceEqDiff, reduceAdd, reduceCtorEq]
    refine ⟨[], by simp, by simp, by simp, ?_⟩
    simp only [CarRes2, range1, List.length_singleton, List.map_nil, List.length_nil, Nat.not_lt_zero, range1, yzx, yz10, yz15, yz14, yz11, yz18, yz17, yz16, yzz, yzp, yzh, yz3, yzv, yzs, yzq, yzn, yzu, yzd, yze, yz8, yzc, yzm, yzj, yz2, yzb, yz9, yz7, yzl, yzk, List.range_zero, yz4, yz5, yza, yzo, yzf, yzt, AVal.fresh, freshL, yz1, yzi, AObj.fresh, id, Option.isSome_some, or_true, true_or, go_sem, yz0, Int.reduceLT, reduceLE, reduceToNat, reduceNeg, Nat.reduceLT, reduceLeDiff, reduceMul, reduceSub, reduceIte, reduceEqDiff, reduceAdd, reduceCtorEq]
    trace_state
    exact .inl ⟨p, hp, by simp⟩
  · refine ⟨by simp, by rw [Option.getD_some, yzf]; simp only [go_sem, yz0, Int.reduceLT, reduceLE, reduceToNat, reduceNeg, Nat.reduceLT, reduceLeDiff, reduceMul, reduceSub, reduceIte, reduceEqDiff, reduceAdd, reduceCtorEq], ?_⟩
    simp only [Option.getD_some, Nat.not_lt_zero, range1, yzx, yz10, yz15, yz14, yz11, yz18, yz17, yz16, yzz, yzp, yzh, yz3, yzv, yzs, yzq, yzn, yzu, yzd, yze, yz8, yzc, yzm, yzj, yz2, yzb, yz9, yz7, yzl, yzk, List.range_zero, yz4, yz5, yza, yzo, yzf, yzt, AVal.fresh, freshL, yz1, yzi, AObj.fresh, id, Option.isSome_some, or_true, true_or, go_sem, yz0, Int.reduceLT, reduceLE, reduceToNat, reduceNeg, Nat.reduceLT, reduceLeDiff, reduceMul, reduceSub, reduceIte, reduceEqDiff, reduceAdd, reduceCtorEq]
    refine call_told (k_l02Told [] false) rfl qGN (fun (ho : false = true) => by cases ho) (fun _ w => ?_)
    simp only [go_sem, yz0, Int.reduceLT, reduceLE, reduceToNat, reduceNeg, Nat.reduceLT, reduceLeDiff, reduceMul, reduceSub, reduceIte, reduceEqDiff, reduceAdd, reduceCtorEq]
    refine ⟨[10], by simp, by simp, by simp, ?_⟩
    simp only [CarRes2, range1, List.length_singleton, Nat.not_lt_zero, range1, yzx, yz10, yz15, yz14, yz11, yz18, yz17, yz16, yzz, yzp, yzh, yz3, yzv, yzs, yzq, yzn, yzu, yzd, yze, yz8, yzc, yzm, yzj, yz2, yzb, yz9, yz7, yzl, yzk, List.range_zero, yz4, yz5, yza, yzo, yzf, yzt, AVal.fresh, freshL, yz1, yzi, AObj.fresh, id, Option.isSome_some, or_true, true_or, go_sem, yz0, Int.reduceLT, reduceLE, reduceToNat, reduceNeg, Nat.reduceLT, reduceLeDiff, reduceMul, reduceSub, reduceIte, reduceEqDiff, reduceAdd, reduceCtorEq]
    trace_state
    exact .inr ⟨hp, w, rfl, rfl⟩
end Go.Ab
namespace Go.Ab
open Go.Proofs
theorem k_l04Gaps (n : Int) (next : List (List Int)) (P : Prt n next) : Fn Tryz.prog nz47 [autP n next] fun rows res => ∃ v, rows = [.row v 2 true (ints (gapsF next next.length))] ∧ res = .own 6000 v := by
  refine con_of mixed czhu rfl (by simp) ?_
  have n1 := P.n1
  have n2 := P.n2
  have l2 := P.l2
  have hrl : ∀ r ∈ next, r.length ≤ 10 := fun r hr => by have := (P.row r hr).1; omega
  generalize hQ : finQ _ = Q
  simp only [Az60, Bzc8, go_sem, yz0, Int.reduceLT, reduceLE, reduceToNat, reduceNeg, Nat.reduceLT, reduceLeDiff, reduceMul, reduceSub, reduceIte, reduceEqDiff, reduceAdd, reduceCtorEq]
  intro vs
  simp only [Bzc7, Bzc5, go_sem, yz0, Int.reduceLT, reduceLE, reduceToNat, reduceNeg, Nat.reduceLT, reduceLeDiff, reduceMul, reduceSub, reduceIte, reduceEqDiff, reduceAdd, reduceCtorEq]
  refine wpD_lo (fun (_, l) => next.length - l) (fun (_, l) => l ≤ next.length)
    (fun ((v, l) : Nat × Nat) => ⟨L .any [(0, autP n next), (3, .own 6 v), (4, iv l)], L .gone [(6, .row v 2 true (ints (gapsF next l)))]⟩)
    (_, 0) (by simp) (by simp only [Bz35, go_sem, yz0, Int.reduceLT, reduceLE, reduceToNat, reduceNeg, Nat.reduceLT, reduceLeDiff, reduceMul, reduceSub, reduceIte, reduceEqDiff, reduceAdd, reduceCtorEq]; try rfl) ?_
  rintro ⟨v, l⟩ hl
  have hl : l ≤ next.length := hl
  by_cases hlt : (l : Int) < next.length
  · have hlt1 : l < next.length := by omega
    have wl : IntKind.i64.wrap ((l : Int) + 1) = ((l + 1 : Nat) : Int) := by rw [w64 (by omega)]; simp
    have hgl := gapsF_len hrl hl
    have hr := hrl _ (yzw hlt1 [])
    have hfs := gapsF_succ (next := next) (k := l)
    have hgd := rwn_getD hlt1
    generalize next.getD l [] = row at hr hfs hgd
    simp only [Bz35, Bz5w, Bzc4, decide_eq_true hlt, go_sem, yz0, Int.reduceLT, reduceLE, reduceToNat, reduceNeg, Nat.reduceLT, reduceLeDiff, reduceMul, reduceSub, reduceIte, reduceEqDiff, reduceAdd, reduceCtorEq]
    intro _
    simp only [Bzc2, go_sem, yz0, Int.reduceLT, reduceLE, reduceToNat, reduceNeg, Nat.reduceLT, reduceLeDiff, reduceMul, reduceSub, reduceIte, reduceEqDiff, reduceAdd, reduceCtorEq]
    refine wpD_lo (fun (_, s) => row.length - s) (fun (_, s) => s ≤ row.length)
      (fun ((v, s) : Nat × Nat) => ⟨L .any [(0, autP n next), (3, .own 6 v), (4, iv l), (5, iv s)], L .gone [(6, .row v 2 true (ints (gapsF next l ++ gapsR row l s)))]⟩)
      (_, 0) (by simp) (by simp only [Bz34, gapsR, List.range_zero, List.flatMap_nil, List.append_nil, go_sem, yz0, Int.reduceLT, reduceLE, reduceToNat, reduceNeg, Nat.reduceLT, reduceLeDiff, reduceMul, reduceSub, reduceIte, reduceEqDiff, reduceAdd, reduceCtorEq]; try rfl) ?_
    rintro ⟨v, s⟩ hs
    have hs : s ≤ row.length := hs
    by_cases hlts : (s : Int) < row.length
    · have hlts1 : s < row.length := by omega
      have ws : IntKind.i64.wrap ((s : Int) + 1) = ((s + 1 : Nat) : Int) := by rw [w64 (by omega)]; simp
      have hrs := gapsR_succ (row := row) (l := l) (k := s)
      have hrl2 := gapsR_len (row := row) (l := l) (k := s)
      have hgs := yz12 (k := .i64) hlts1
      generalize row.getD s 0 = x at hrs hgs
      simp only [Bz34, Bz5x, Bzc1, hgd, hgs, decide_eq_true hlts, go_sem, yz0, Int.reduceLT, reduceLE, reduceToNat, reduceNeg, Nat.reduceLT, reduceLeDiff, reduceMul, reduceSub, reduceIte, reduceEqDiff, reduceAdd, reduceCtorEq]
      refine ⟨⟨by omega, hlt1⟩, hlt1, ?_⟩
      intro _
      refine ⟨⟨by omega, hlt1⟩, hlt1, ⟨by omega, hlts1⟩, hlts1, ?_⟩
      by_cases hx : x < 0
      · rw [if_pos hx] at hrs
        simp only [Bz5y, Bz5z, decide_eq_true hx, ws, go_sem, yz0, Int.reduceLT, reduceLE, reduceToNat, reduceNeg, Nat.reduceLT, reduceLeDiff, reduceMul, reduceSub, reduceIte, reduceEqDiff, reduceAdd, reduceCtorEq]
        exact fun vs5 => ⟨by rw [List.length_append]; omega, (vs5 5 0, s + 1), by dsimp only; omega, by dsimp only; omega, by rw [hrs, ints_two, List.append_assoc]⟩
      · rw [if_neg hx, List.append_nil] at hrs
        simp only [Bz5y, Bz5z, decide_eq_false hx, ws, go_sem, yz0, Int.reduceLT, reduceLE, reduceToNat, reduceNeg, Nat.reduceLT, reduceLeDiff, reduceMul, reduceSub, reduceIte, reduceEqDiff, reduceAdd, reduceCtorEq]
        exact ⟨(v, s + 1), by dsimp only; omega, by dsimp only; omega, by rw [hrs]⟩
    · obtain rfl : s = row.length := by omega
      simp only [Bz34, Bz5x, Bzc3, hgd, decide_eq_false hlts, wl, go_sem, yz0, Int.reduceLT, reduceLE, reduceToNat, reduceNeg, Nat.reduceLT, reduceLeDiff, reduceMul, reduceSub, reduceIte, reduceEqDiff, reduceAdd, reduceCtorEq]
      refine ⟨⟨by omega, hlt1⟩, hlt1, ?_⟩
      exact fun _ => ⟨(v, l + 1), by dsimp only; omega, by dsimp only; omega, by rw [hfs]⟩
  · obtain rfl : l = next.length := by omega
    simp only [Bz35, Bz5w, Bzc6, decide_eq_false hlt, Az60, ← hQ, go_sem, yz0, Int.reduceLT, reduceLE, reduceToNat, reduceNeg, Nat.reduceLT, reduceLeDiff, reduceMul, reduceSub, reduceIte, reduceEqDiff, reduceAdd, reduceCtorEq]
    intro _
    refine ⟨[6], by simp, by simp, by simp, ?_⟩
    simp only [range1, List.length_singleton, Nat.not_lt_zero, range1, yzx, yz10, yz15, yz14, yz11, yz18, yz17, yz16, yzz, yzp, yzh, yz3, yzv, yzs, yzq, yzn, yzu, yzd, yze, yz8, yzc, yzm, yzj, yz2, yzb, yz9, yz7, yzl, yzk, List.range_zero, yz4, yz5, yza, yzo, yzf, yzt, AVal.fresh, freshL, yz1, yzi, AObj.fresh, id, Option.isSome_some, or_true, true_or, go_sem, yz0, Int.reduceLT, reduceLE, reduceToNat, reduceNeg, Nat.reduceLT, reduceLeDiff, reduceMul, reduceSub, reduceIte, reduceEqDiff, reduceAdd, reduceCtorEq]
    exact ⟨_, rfl, rfl⟩
theorem k_specGapsOf (n : Int) (next : List (List Int)) (P : Prt n next) : Fn Tryz.prog nz3v [autA n next] fun rows res => ∃ v, rows = [.row v 2 true (ints (gapsF next next.length))] ∧ res = .tup [.own 6000 v, iv 0] := by
  refine con_of mixed czh5 rfl (by simp) ?_
  simp only [Az8a, Bz89, go_sem, yz0, Int.reduceLT, reduceLE, reduceToNat, reduceNeg, Nat.reduceLT, reduceLeDiff, reduceMul, reduceSub, reduceIte, reduceEqDiff, reduceAdd, reduceCtorEq]
  intro vs vs2
  refine yzr (k_l04Ok n next P) qCS trivial ?_
  simp only [Bz87, Bz88, Bool.not_true, go_sem, yz0, Int.reduceLT, reduceLE, reduceToNat, reduceNeg, Nat.reduceLT, reduceLeDiff, reduceMul, reduceSub, reduceIte, reduceEqDiff, reduceAdd, reduceCtorEq]
  intro vs3
  refine call_fn (k_l04Gaps n next P) qCS (fun e => by cases e) ?_
  rintro rows res ⟨v, rfl, rfl⟩
  refine ⟨by simp, by rw [Option.getD_some, yzf]; simp only [go_sem, yz0, Int.reduceLT, reduceLE, reduceToNat, reduceNeg, Nat.reduceLT, reduceLeDiff, reduceMul, reduceSub, reduceIte, reduceEqDiff, reduceAdd, reduceCtorEq], ?_⟩
  simp only [Option.getD_some, Nat.not_lt_zero, range1, yzx, yz10, yz15, yz14, yz11, yz18, yz17, yz16, yzz, yzp, yzh, yz3, yzv, yzs, yzq, yzn, yzu, yzd, yze, yz8, yzc, yzm, yzj, yz2, yzb, yz9, yz7, yzl, yzk, List.range_zero, yz4, yz5, yza, yzo, yzf, yzt, AVal.fresh, freshL, yz1, yzi, AObj.fresh, id, Option.isSome_some, or_true, true_or, go_sem, yz0, Int.reduceLT, reduceLE, reduceToNat, reduceNeg, Nat.reduceLT, reduceLeDiff, reduceMul, reduceSub, reduceIte, reduceEqDiff, reduceAdd, reduceCtorEq]
  refine ⟨[7], by simp, by simp, by simp, ?_⟩
  simp only [range1, List.length_singleton, Nat.not_lt_zero, range1, yzx, yz10, yz15, yz14, yz11, yz18, yz17, yz16, yzz, yzp, yzh, yz3, yzv, yzs, yzq, yzn, yzu, yzd, yze, yz8, yzc, yzm, yzj, yz2, yzb, yz9, yz7, yzl, yzk, List.range_zero, yz4, yz5, yza, yzo, yzf, yzt, AVal.fresh, freshL, yz1, yzi, AObj.fresh, id, Option.isSome_some, or_true, true_or, go_sem, yz0, Int.reduceLT, reduceLE, reduceToNat, reduceNeg, Nat.reduceLT, reduceLeDiff, reduceMul, reduceSub, reduceIte, reduceEqDiff, reduceAdd, reduceCtorEq]
  exact ⟨_, rfl, rfl⟩
theorem k_P6All (n : Int) (hn : 0 ≤ n ∧ n ≤ 10) : RowI Tryz.prog nz1l [iv n] (fun xs => xs = allS n) := by
  refine rowI_of mixed czhf rfl ?_
  simp only [Az9s, Bz9r, go_sem, yz0, Int.reduceLT, reduceLE, reduceToNat, reduceNeg, Nat.reduceLT, reduceLeDiff, reduceMul, reduceSub, reduceIte, reduceEqDiff, reduceAdd, reduceCtorEq]
  intro vs
  refine call_rowI (k_l01All n (by omega)) qCS qWS ⟨_, rfl⟩ ?_
  rintro ys v rfl
  simp only [go_sem, yz0, Int.reduceLT, reduceLE, reduceToNat, reduceNeg, Nat.reduceLT, reduceLeDiff, reduceMul, reduceSub, reduceIte, reduceEqDiff, reduceAdd, reduceCtorEq]
  exact ⟨_, _, _, by omega, rfl, by simp only [go_sem, yz0, Int.reduceLT, reduceLE, reduceToNat, reduceNeg, Nat.reduceLT, reduceLeDiff, reduceMul, reduceSub, reduceIte, reduceEqDiff, reduceAdd, reduceCtorEq], rfl⟩
def StsOf (n : Int) (k : Nat) (xs : List Int) : Prop := xs.length = k ∧ ∀ x ∈ xs, 0 ≤ x ∧ x < n
theorem k_P6States (code : List Int) (k : Nat) (n : Int) (hb : ∀ x ∈ code, 0 ≤ x ∧ x ≤ 255) (hk : k ≤ 1000) (hn : 1 ≤ n ∧ n ≤ 10) :
    RowI Tryz.prog nz40 [.ro (some (some 0)) 1 (intsK .u8 code), iv k, iv n] (StsOf n k) := by
  refine rowI_of mixed czhb rfl ?_
  generalize hQ : finQ _ = Q
  simp only [Az58, Bz99, go_sem, yz0, Int.reduceLT, reduceLE, reduceToNat, reduceNeg, Nat.reduceLT, reduceLeDiff, reduceMul, reduceSub, reduceIte, reduceEqDiff, reduceAdd, reduceCtorEq]
  intro vs
  refine call_sh (k_from code) qCS (fun _ => ⟨_, _, _, rfl, 0, rfl, rfl⟩) ?_
  rintro outs rows res ⟨rfl, v, rfl, rfl⟩
  refine ⟨rfl, by simp, by rw [Option.getD_some, yzf]; simp only [go_sem, yz0, Int.reduceLT, reduceLE, reduceToNat, reduceNeg, Nat.reduceLT, reduceLeDiff, reduceMul, reduceSub, reduceIte, reduceEqDiff, reduceAdd, reduceCtorEq], ?_⟩
  simp only [Bz98, Nat.not_lt_zero, range1, yzx, yz10, yz15, yz14, yz11, yz18, yz17, yz16, yzz, yzp, yzh, yz3, yzv, yzs, yzq, yzn, yzu, yzd, yze, yz8, yzc, yzm, yzj, yz2, yzb, yz9, yz7, yzl, yzk, List.range_zero, yz4, yz5, yza, yzo, yzf, yzt, AVal.fresh, freshL, yz1, yzi, AObj.fresh, id, Option.isSome_some, or_true, true_or, go_sem, yz0, Int.reduceLT, reduceLE, reduceToNat, reduceNeg, Nat.reduceLT, reduceLeDiff, reduceMul, reduceSub, reduceIte, reduceEqDiff, reduceAdd, reduceCtorEq]
  intro vs3
  simp only [Bz97, Bz95, go_sem, yz0, Int.reduceLT, reduceLE, reduceToNat, reduceNeg, Nat.reduceLT, reduceLeDiff, reduceMul, reduceSub, reduceIte, reduceEqDiff, reduceAdd, reduceCtorEq]
  refine wpD_lo (fun (w, _, _, _, _, i) => k - i) (fun (w, _, _, a, _, i) => i ≤ k ∧ StsOf n i w ∧ 0 ≤ a ∧ a ≤ 2 * (i : Int))
    (fun ((w, v12, v11, a, s, i) : List Int × Nat × Nat × Int × Int × Nat) => ⟨L .any [(1, iv k), (2, iv n), (7, .ptr 11 v11 0), (8, .own 12 v12), (9, iv i)], L .gone [(11, .box v11 (srcC code a s)), (12, .row v12 1 true (ints w))]⟩)
    ([], _, _, 0, 0, 0) ⟨by simp, ⟨rfl, by simp⟩, by simp, by simp⟩ (by simp only [Bz2g, go_sem, yz0, Int.reduceLT, reduceLE, reduceToNat, reduceNeg, Nat.reduceLT, reduceLeDiff, reduceMul, reduceSub, reduceIte, reduceEqDiff, reduceAdd, reduceCtorEq]; try rfl) ?_
  rintro ⟨w, v12, v11, a, s, i⟩ ⟨hi, ⟨hl, hx⟩, ha, ha2⟩
  have hi : i ≤ k := hi
  have hl : w.length = i := hl
  have ha : 0 ≤ a := ha
  have ha2 : a ≤ 2 * (i : Int) := ha2
  by_cases hlt : (i : Int) < k
  · have wi : IntKind.i64.wrap ((i : Int) + 1) = ((i + 1 : Nat) : Int) := by rw [w64 (by omega)]; simp
    simp only [Bz2g, Bz57, Bz94, decide_eq_true hlt, go_sem, yz0, Int.reduceLT, reduceLE, reduceToNat, reduceNeg, Nat.reduceLT, reduceLeDiff, reduceMul, reduceSub, reduceIte, reduceEqDiff, reduceAdd, reduceCtorEq]
    intro vs5
    refine call_funB (k_pick code a s n hb (by omega)) rfl qCS qCS ?_
    rintro cs' x ⟨a'', s'', b', rfl, g1, g2, rfl, g3, g4⟩
    simp only [Bz93, wi, Nat.not_lt_zero, range1, yzx, yz10, yz15, yz14, yz11, yz18, yz17, yz16, yzz, yzp, yzh, yz3, yzv, yzs, yzq, yzn, yzu, yzd, yze, yz8, yzc, yzm, yzj, yz2, yzb, yz9, yz7, yzl, yzk, List.range_zero, yz4, yz5, yza, yzo, yzf, yzt, AVal.fresh, freshL, yz1, yzi, AObj.fresh, id, Option.isSome_some, or_true, true_or, go_sem, yz0, Int.reduceLT, reduceLE, reduceToNat, reduceNeg, Nat.reduceLT, reduceLeDiff, reduceMul, reduceSub, reduceIte, reduceEqDiff, reduceAdd, reduceCtorEq]
    refine ⟨⟨_, rfl, rfl⟩, by omega, (w ++ [b'], _, _, a'', s'', i + 1), by dsimp only; omega, ⟨by dsimp only; omega, ⟨by rw [List.length_append, hl]; rfl, fun x hx2 => ?_⟩, by dsimp only; omega, by dsimp only; omega⟩, rfl⟩
    rcases List.mem_append.1 hx2 with h | h
    · exact hx x h
    · rw [List.mem_singleton.1 h]; omega
  · obtain rfl : i = k := by omega
    simp only [Bz2g, Bz57, Bz96, decide_eq_false hlt, Az58, ← hQ, go_sem, yz0, Int.reduceLT, reduceLE, reduceToNat, reduceNeg, Nat.reduceLT, reduceLeDiff, reduceMul, reduceSub, reduceIte, reduceEqDiff, reduceAdd, reduceCtorEq]
    exact ⟨_, _, _, by omega, rfl, by simp only [go_sem, yz0, Int.reduceLT, reduceLE, reduceToNat, reduceNeg, Nat.reduceLT, reduceLeDiff, reduceMul, reduceSub, reduceIte, reduceEqDiff, reduceAdd, reduceCtorEq], ⟨hl, hx⟩⟩
theorem k_CarefulImage (n : Int) (next : List (List Int)) (P : Prt n next) (set w : List Int) (hs : setB n set = true) (hw : wordB next.length w = true) :
    Fn Tryz.prog nz43 [autA n next, .ro none 1 (ints set), .ro none 1 (ints w)] fun rows res => match imP next (maskN set) w with
      | some g => ∃ v, rows = [.row v 1 true (ints (bitsTo g 10))] ∧ res = .tup [.own 6000 v, iv 0]
      | none => rows = [] ∧ res = .tup [nilS, iv 4] := by
  refine con_of mixed czhg rfl (by simp) ?_
  have n1 := P.n1
  have n2 := P.n2
  have hN : 2 ^ n.toNat ≤ 1024 := Nat.pow_le_pow_right (n := 2) (by omega) (show n.toNat ≤ 10 by omega)
  have hwi := (wordB_iff.1 hw).2
  have hsi := setB_in hs
  have hm := mask_lt2 hsi
  have hg := fun g => imP_lt P (g := g) hm hwi
  generalize hQ : finQ _ = Q
  simp only [Az2m, Bz9x, go_sem, yz0, Int.reduceLT, reduceLE, reduceToNat, reduceNeg, Nat.reduceLT, reduceLeDiff, reduceMul, reduceSub, reduceIte, reduceEqDiff, reduceAdd, reduceCtorEq]
  intro vs vs2
  refine yzr (k_ValidPartial n next P) qCS trivial ?_
  simp only [Bz9u, Bool.not_true, go_sem, yz0, Int.reduceLT, reduceLE, reduceToNat, reduceNeg, Nat.reduceLT, reduceLeDiff, reduceMul, reduceSub, reduceIte, reduceEqDiff, reduceAdd, reduceCtorEq]
  intro vs3
  refine yzr (k_isSet set n ⟨n1, n2⟩) qCS trivial ?_
  simp only [hs, Bool.not_true, go_sem, yz0, Int.reduceLT, reduceLE, reduceToNat, reduceNeg, Nat.reduceLT, reduceLeDiff, reduceMul, reduceSub, reduceIte, reduceEqDiff, reduceAdd, reduceCtorEq]
  refine yzr (k_paIsWord n next w ⟨P.l1, P.l2⟩) qCS trivial ?_
  simp only [hw, Bz9t, Bool.not_true, Bz9w, go_sem, yz0, Int.reduceLT, reduceLE, reduceToNat, reduceNeg, Nat.reduceLT, reduceLeDiff, reduceMul, reduceSub, reduceIte, reduceEqDiff, reduceAdd, reduceCtorEq]
  intro vs4
  refine yzr (k_flockOf set (fun x hx => by have := hsi x hx; omega)) qCS trivial ?_
  simp only [go_sem, yz0, Int.reduceLT, reduceLE, reduceToNat, reduceNeg, Nat.reduceLT, reduceLeDiff, reduceMul, reduceSub, reduceIte, reduceEqDiff, reduceAdd, reduceCtorEq]
  refine call_fun2 (k_paImage n next P (maskN set) w hm hwi) qCS ?_
  cases hi : imP next (maskN set) w with
  | none =>
    simp only [Bz5c, Bz5b, Option.isSome_none, Option.getD_none, Bool.not_false, Az2m, ← hQ, go_sem, yz0, Int.reduceLT, reduceLE, reduceToNat, reduceNeg, Nat.reduceLT, reduceLeDiff, reduceMul, reduceSub, reduceIte, reduceEqDiff, reduceAdd, reduceCtorEq]
    refine ⟨[], by simp, by simp, by simp, ?_⟩
    simp only [hi, Nat.not_lt_zero, range1, yzx, yz10, yz15, yz14, yz11, yz18, yz17, yz16, yzz, yzp, yzh, yz3, yzv, yzs, yzq, yzn, yzu, yzd, yze, yz8, yzc, yzm, yzj, yz2, yzb, yz9, yz7, yzl, yzk, List.range_zero, yz4, yz5, yza, yzo, yzf, yzt, AVal.fresh, freshL, yz1, yzi, AObj.fresh, id, Option.isSome_some, or_true, true_or, go_sem, yz0, Int.reduceLT, reduceLE, reduceToNat, reduceNeg, Nat.reduceLT, reduceLeDiff, reduceMul, reduceSub, reduceIte, reduceEqDiff, reduceAdd, reduceCtorEq]
  | some g =>
    have hgl := hg g hi
    simp only [Bz5c, Bz5b, Bz9v, Option.isSome_some, Option.getD_some, Bool.not_true, go_sem, yz0, Int.reduceLT, reduceLE, reduceToNat, reduceNeg, Nat.reduceLT, reduceLeDiff, reduceMul, reduceSub, reduceIte, reduceEqDiff, reduceAdd, reduceCtorEq]
    intro vs5
    refine call_rowI (k_flock_set g (by omega)) qCS qGN ⟨_, rfl⟩ ?_
    rintro ys v rfl
    simp only [Az2m, ← hQ, go_sem, yz0, Int.reduceLT, reduceLE, reduceToNat, reduceNeg, Nat.reduceLT, reduceLeDiff, reduceMul, reduceSub, reduceIte, reduceEqDiff, reduceAdd, reduceCtorEq]
    refine ⟨[37], by simp, by simp, by simp, ?_⟩
    simp only [hi, range1, List.length_singleton, Nat.not_lt_zero, range1, yzx, yz10, yz15, yz14, yz11, yz18, yz17, yz16, yzz, yzp, yzh, yz3, yzv, yzs, yzq, yzn, yzu, yzd, yze, yz8, yzc, yzm, yzj, yz2, yzb, yz9, yz7, yzl, yzk, List.range_zero, yz4, yz5, yza, yzo, yzf, yzt, AVal.fresh, freshL, yz1, yzi, AObj.fresh, id, Option.isSome_some, or_true, true_or, go_sem, yz0, Int.reduceLT, reduceLE, reduceToNat, reduceNeg, Nat.reduceLT, reduceLeDiff, reduceMul, reduceSub, reduceIte, reduceEqDiff, reduceAdd, reduceCtorEq]
    exact ⟨_, rfl, rfl⟩
end Go.Ab
namespace Go.Ab
open Go.Proofs
def gapsP (next : List (List Int)) (k : Nat) : List (Nat × Nat) := (List.range k).flatMap fun l => (List.range (next.getD l []).length).flatMap fun s => if (next.getD l []).getD s 0 < 0 then [(l, s)] else []
def flat2 (ps : List (Nat × Nat)) : List Int := ps.flatMap fun p => [(p.1 : Int), (p.2 : Int)]
theorem gaps_flat {next : List (List Int)} {k : Nat} : gapsF next k = flat2 (gapsP next k) := by
  unfold gapsF gapsP flat2 gapsR
  rw [List.flatMap_assoc]
  congr 1
  funext l
  rw [List.flatMap_assoc]
  congr 1
  funext s
  split <;> simp
theorem mem_gapsP {next : List (List Int)} {l s : Nat} : (l, s) ∈ gapsP next next.length ↔ l < next.length ∧ s < (next.getD l []).length ∧ (next.getD l []).getD s 0 < 0 := by
  unfold gapsP
  rw [List.mem_flatMap]
  constructor
  · rintro ⟨a, ha, h⟩
    rw [List.mem_flatMap] at h
    obtain ⟨b, hb, h⟩ := h
    split at h
    · rename_i hn
      cases List.mem_singleton.1 h
      exact ⟨List.mem_range.1 ha, List.mem_range.1 hb, hn⟩
    · cases h
  · rintro ⟨h1, h2, h3⟩
    refine ⟨l, List.mem_range.2 h1, List.mem_flatMap.2 ⟨s, List.mem_range.2 h2, ?_⟩⟩
    rw [if_pos h3]; exact List.mem_singleton.2 rfl
theorem flat2_len : ∀ {ps : List (Nat × Nat)}, (flat2 ps).length = 2 * ps.length
  | [] => rfl
  | p :: ps => by
    have := flat2_len (ps := ps)
    unfold flat2 at this ⊢
    rw [List.flatMap_cons, List.length_append, this, List.length_cons]; simp; omega
theorem flat2_at : ∀ {ps : List (Nat × Nat)} {j : Nat}, j < ps.length → ((ints (flat2 ps)).drop (j * 2)).take 2 = [iv (ps.getD j (0, 0)).1, iv (ps.getD j (0, 0)).2]
  | [], j, h => by simp at h
  | p :: ps, 0, _ => by simp [flat2]
  | p :: ps, j + 1, h => by
    have ih := flat2_at (ps := ps) (j := j) (by simpa using h)
    have e : flat2 (p :: ps) = (p.1 : Int) :: (p.2 : Int) :: flat2 ps := by simp [flat2]
    rw [e, show (j + 1) * 2 = j * 2 + 1 + 1 by omega]
    exact ih
theorem lput_set {xs : List Int} {i : Nat} {v : Int} (h : i < xs.length) : xs.take i ++ [v] ++ xs.drop (i + 1) = xs.set i v := by
  rw [List.set_eq_take_append_cons_drop, if_pos h, List.append_assoc]; rfl
theorem getD_set1 {xs : List Int} {i j : Nat} {v : Int} (h : i < xs.length) : (xs.set i v).getD j 0 = if i = j then v else xs.getD j 0 := by
  rw [List.getD_eq_getElem?_getD, List.getElem?_set, List.getD_eq_getElem?_getD]
  split
  · rfl
  · rfl
theorem getD_setR {xs : List (List Int)} {i j : Nat} {v : List Int} (h : i < xs.length) : (xs.set i v).getD j [] = if i = j then v else xs.getD j [] := by
  rw [List.getD_eq_getElem?_getD, List.getElem?_set, List.getD_eq_getElem?_getD]
  split
  · rfl
  · rfl
structure Fil (next : List (List Int)) (states : List Int) (done : List (Nat × Nat)) (ws : List (List Int)) : Prop where
  len : ws.length = next.length
  row : ∀ l < next.length, (ws.getD l []).length = (next.getD l []).length
  old : ∀ l < next.length, ∀ s < (next.getD l []).length, (0 ≤ (next.getD l []).getD s 0 → (ws.getD l []).getD s 0 = (next.getD l []).getD s 0) ∧ ((ws.getD l []).getD s 0 = (next.getD l []).getD s 0 ∨ (ws.getD l []).getD s 0 ∈ states)
  new : ∀ p ∈ done, (ws.getD p.1 []).getD p.2 0 ∈ states
theorem Fil.init {next : List (List Int)} {states : List Int} : Fil next states [] next := ⟨rfl, fun _ _ => rfl, fun _ _ _ _ => ⟨fun _ => rfl, .inl rfl⟩, fun _ h => by cases h⟩
theorem Fil.step {next : List (List Int)} {states : List Int} {done : List (Nat × Nat)} {ws : List (List Int)} {l s : Nat} {x : Int} (F : Fil next states done ws) (hl : l < next.length) (hs : s < (next.getD l []).length)
    (hg : (next.getD l []).getD s 0 < 0) (hx : x ∈ states) : Fil next states (done ++ [(l, s)]) (ws.set l ((ws.getD l []).set s x)) := by
  have hl2 : l < ws.length := by rw [F.len]; exact hl
  have hs2 : s < (ws.getD l []).length := by rw [F.row l hl]; exact hs
  refine ⟨by rw [List.length_set]; exact F.len, fun l' h' => ?_, fun l' h' s' hs' => ?_, fun p hp => ?_⟩
  · rw [getD_setR hl2]
    split
    · rename_i e; subst e; rw [List.length_set]; exact F.row l h'
    · exact F.row l' h'
  · rw [getD_setR hl2]
    split
    · rename_i e; subst e
      rw [getD_set1 hs2]
      split
      · rename_i e; subst e
        exact ⟨fun h => by omega, .inr hx⟩
      · exact F.old l h' s' hs'
    · exact F.old l' h' s' hs'
  · rw [getD_setR hl2]
    rcases List.mem_append.1 hp with h | h
    · split
      · rename_i e
        rw [getD_set1 hs2]
        split
        · exact hx
        · rw [e]; exact F.new p h
      · exact F.new p h
    · rw [List.mem_singleton.1 h, if_pos rfl, getD_set1 hs2, if_pos rfl]; exact hx
structure Filling (next : List (List Int)) (states : List Int) (ws : List (List Int)) : Prop where
  len : ws.length = next.length
  row : ∀ l < next.length, (ws.getD l []).length = (next.getD l []).length
  old : ∀ l < next.length, ∀ s < (next.getD l []).length, 0 ≤ (next.getD l []).getD s 0 → (ws.getD l []).getD s 0 = (next.getD l []).getD s 0
  new : ∀ l < next.length, ∀ s < (next.getD l []).length, (next.getD l []).getD s 0 < 0 → (ws.getD l []).getD s 0 ∈ states
theorem Fil.all {next : List (List Int)} {states : List Int} {ws : List (List Int)} (F : Fil next states (gapsP next next.length) ws) : Filling next states ws :=
  ⟨F.len, F.row, fun l hl s hs h => (F.old l hl s hs).1 h, fun l hl s hs h => F.new (l, s) (mem_gapsP.2 ⟨hl, hs, h⟩)⟩
theorem row_mem {next : List (List Int)} {r : List Int} (h : r ∈ next) : ∃ l < next.length, next.getD l [] = r := by
  obtain ⟨i, hi, rfl⟩ := List.getElem_of_mem h
  exact ⟨i, hi, by rw [List.getD_eq_getElem?_getD, List.getElem?_eq_getElem hi]; rfl⟩
theorem cell_mem {r : List Int} {x : Int} (h : x ∈ r) : ∃ s < r.length, r.getD s 0 = x := by
  obtain ⟨i, hi, rfl⟩ := List.getElem_of_mem h
  exact ⟨i, hi, by rw [List.getD_eq_getElem?_getD, List.getElem?_eq_getElem hi]; rfl⟩
theorem Filling.aut {n m : Int} {next : List (List Int)} {states : List Int} {ws : List (List Int)} (P : Prt n next) (hm : m ≤ 10) (hn : n ≤ m) (hst : ∀ x ∈ states, 0 ≤ x ∧ x < m) (F : Filling next states ws) :
    ∀ r ∈ ws, (r.length : Int) = n ∧ ∀ x ∈ r, 0 ≤ x ∧ x < m := by
  intro r hr
  obtain ⟨l, hl, rfl⟩ := row_mem hr
  have hl2 : l < next.length := by rw [← F.len]; exact hl
  have h1 := P.row _ (yzw hl2 [])
  refine ⟨by rw [F.row l hl2]; exact h1.1, fun x hx => ?_⟩
  obtain ⟨s, hs, rfl⟩ := cell_mem hx
  rw [F.row l hl2] at hs
  have hx := h1.2 _ (yzw hs 0)
  by_cases h : 0 ≤ (next.getD l []).getD s 0
  · rw [F.old l hl2 s hs h]; omega
  · exact hst _ (F.new l hl2 s hs (by omega))
end Go.Ab
namespace Go.Ab
open Go.Proofs
mutual
def AVal.oldn : AVal → AVal
  | .val x => .val x
  | .ro none k cs => .ro (some (some 0)) k (oldL cs)
  | .st cs => .st (oldL cs)
  | _ => .any
def oldL : List AVal → List AVal
  | [] => []
  | A :: cs => A.oldn :: oldL cs
end
theorem oldL_len : ∀ {cs : List AVal}, (oldL cs).length = cs.length
  | [] => rfl
  | A :: cs => by simp only [oldL, List.length_cons, oldL_len (cs := cs)]
def Cz.olden (c : Cz) : Cz := { c with names := fun _ => none, old := fun b => c.ext b ∧ b < c.base }
section
variable {c : Cz} (hb : c.base = c.w.heap.size)
include hb
mutual
theorem Rep.olden : ∀ (A : AVal) (v : Value), Rep c A v → Rep c.olden A.oldn v
  | .any, _, _ => by simp [AVal.oldn, Rep]
  | .val x, v, h => by simpa [AVal.oldn, Rep] using h
  | .ro none k cs, v, h => by
    simp only [AVal.oldn, Rep] at h ⊢
    obtain ⟨base, len, cap, hv, hk, hl, hm, hn, hc⟩ := h
    refine ⟨base, len, cap, hv, hk, by rw [oldL_len]; exact hl, hm, ?_, ?_⟩
    · intro n e
      cases e
      refine ⟨(fun e => by cases e), ?_⟩
      rw [oldL_len]
      rcases hc with hc | ⟨b, off, hbb, hi, _⟩
      · exact .inl hc
      · refine .inr ⟨b, off, hbb, ?_, by rw [hb]; exact hi.2.1⟩
        rcases hi.1 with h | h
        · exact h
        · exact absurd hi.2.1 (by rw [← hb]; omega)
    · rw [oldL_len]
      rcases hc with hc | ⟨b, off, hbb, hi, hr⟩
      · exact .inl hc
      · exact .inr ⟨b, off, hbb, hi, RepAt.olden cs off hr⟩
  | .ro (some _) _ _, _, _ => by simp [AVal.oldn, Rep]
  | .own _ _, _, _ => by simp [AVal.oldn, Rep]
  | .st cs, v, h => by
    simp only [AVal.oldn, Rep] at h ⊢
    obtain ⟨vs, hv, hl⟩ := h
    exact ⟨vs, hv, RepL.olden cs vs.toList hl⟩
  | .tup _, _, _ => by simp [AVal.oldn, Rep]
  | .ptr _ _ _, _, _ => by simp [AVal.oldn, Rep]
  | .rp _ _, _, _ => by simp [AVal.oldn, Rep]
  | .mp _ _, _, _ => by simp [AVal.oldn, Rep]
  | .clo _ _, _, _ => by simp [AVal.oldn, Rep]
theorem RepAt.olden {b : Nat} : ∀ (cs : List AVal) (off : Nat), RepAt c b off cs → RepAt c.olden b off (oldL cs)
  | [], _, _ => by simp [oldL, RepAt]
  | A :: cs, off, h => by
    simp only [oldL, RepAt] at h ⊢
    obtain ⟨⟨v, hv, hr⟩, ht⟩ := h
    exact ⟨⟨v, hv, Rep.olden A v hr⟩, RepAt.olden cs (off + 1) ht⟩
theorem RepL.olden : ∀ (cs : List AVal) (vs : List Value), RepL c cs vs → RepL c.olden (oldL cs) vs
  | [], [], _ => by simp [oldL, RepL]
  | [], _ :: _, h => by simp [RepL] at h
  | _ :: _, [], h => by simp [RepL] at h
  | A :: cs, v :: vs, h => by
    simp only [oldL, RepL] at h ⊢
    exact ⟨Rep.olden A v h.1, RepL.olden cs vs h.2⟩
end
end
def Cz.newer (c : Cz) (o : Nat → Prop) : Cz := { c with ext := fun b => c.ext b ∨ o b, old := fun _ => False }
theorem newer_imm {c : Cz} {o : Nat → Prop} {b : Nat} (h : c.imm b) : (c.newer o).imm b := by
  obtain ⟨h1, h2, h3⟩ := h
  refine ⟨?_, h2, h3⟩
  rcases h1 with h | h
  · exact .inl (.inl h)
  · exact .inr h
theorem newer_nmd {c : Cz} {o : Nat → Prop} {n : Option Nat} {b m : Nat} (h0 : isNew (some n) = true) (h : c.nmd n b m) : (c.newer o).nmd n b m := by
  cases n with
  | none => exact h
  | some n => cases n with
    | zero => cases h0
    | succ n => exact h
section
variable {c : Cz} {o : Nat → Prop}
mutual
theorem Rep.newer : ∀ (A : AVal) (v : Value), A.fresh → Rep c A v → Rep (c.newer o) A v
  | .any, _, _, _ => by simp [Rep]
  | .val x, v, _, h => by simpa [Rep] using h
  | .ro nm k cs, v, hf, h => by
    simp only [AVal.fresh] at hf
    simp only [Rep] at h ⊢
    obtain ⟨base, len, cap, hv, hk, hl, hm, hn, hc⟩ := h
    refine ⟨base, len, cap, hv, hk, hl, hm, ?_, ?_⟩
    · intro n e
      refine ⟨(hn n e).1, ?_⟩
      rcases (hn n e).2 with h0 | ⟨b, off, hb, hnm⟩
      · exact .inl h0
      · rcases hf.1 with h1 | h1
        · exact .inl (by rw [h1]; rfl)
        · exact .inr ⟨b, off, hb, newer_nmd (by rw [← e]; exact h1) hnm⟩
    · rcases hc with hc | ⟨b, off, hb, hi, hr⟩
      · exact .inl hc
      · exact .inr ⟨b, off, hb, newer_imm hi, RepAt.newer cs off hf.2 hr⟩
  | .own r ver, v, _, h => by simp only [Rep] at h ⊢; exact h
  | .st cs, v, hf, h => by
    simp only [AVal.fresh] at hf
    simp only [Rep] at h ⊢
    obtain ⟨vs, hv, hl⟩ := h
    exact ⟨vs, hv, RepL.newer cs vs.toList hf hl⟩
  | .tup cs, v, hf, h => by
    simp only [AVal.fresh] at hf
    simp only [Rep] at h ⊢
    obtain ⟨vs, hv, hl⟩ := h
    exact ⟨vs, hv, RepL.newer cs vs.toList hf hl⟩
  | .ptr r ver off, v, _, h => by simp only [Rep] at h ⊢; exact h
  | .rp _ _, _, hf, _ => by simp [AVal.fresh] at hf
  | .mp r ver, v, _, h => by simp only [Rep] at h ⊢; exact h
  | .clo f caps, v, hf, h => by
    simp only [AVal.fresh] at hf
    simp only [Rep] at h ⊢
    obtain ⟨vs, hv, hl⟩ := h
    exact ⟨vs, hv, RepL.newer caps vs.toList hf hl⟩
theorem RepAt.newer {b : Nat} : ∀ (cs : List AVal) (off : Nat), freshL cs → RepAt c b off cs → RepAt (c.newer o) b off cs
  | [], _, _, _ => by simp [RepAt]
  | A :: cs, off, hf, h => by
    simp only [freshL] at hf
    simp only [RepAt] at h ⊢
    obtain ⟨⟨v, hv, hr⟩, ht⟩ := h
    exact ⟨⟨v, hv, Rep.newer A v hf.1 hr⟩, RepAt.newer cs (off + 1) hf.2 ht⟩
theorem RepL.newer : ∀ (cs : List AVal) (vs : List Value), freshL cs → RepL c cs vs → RepL (c.newer o) cs vs
  | [], [], _, _ => by simp [RepL]
  | [], _ :: _, _, h => by simp [RepL] at h
  | _ :: _, [], _, h => by simp [RepL] at h
  | A :: cs, v :: vs, hf, h => by
    simp only [freshL] at hf
    simp only [RepL] at h ⊢
    exact ⟨Rep.newer A v hf.1 h.1, RepL.newer cs vs hf.2 h.2⟩
end
end
theorem ObjRep.newer {c : Cz} {o : Nat → Prop} {v : Value} : ∀ {ao : AObj}, ao.fresh → ObjRep c v ao → ObjRep (c.newer o) v ao
  | .gone, _, _ => trivial
  | .box _ cs, hf, ⟨b, t, cells, h1, h2, h3⟩ => ⟨b, t, cells, h1, h2, RepL.newer cs _ hf h3⟩
  | .row _ k nn cs, hf, ⟨base, n, cap, h1, h2, h3, h4, h5, h6, h7⟩ => ⟨base, n, cap, h1, h2, h3, h4, h5, h6, by
    rcases h7 with h | ⟨g, off, t, cells, e1, e2, e3, e4⟩
    · exact .inl h
    · exact .inr ⟨g, off, t, cells, e1, e2, e3, RepL.newer cs _ hf e4⟩⟩
  | .map _ ks vs, hf, ⟨b, clock, ents, h1, h2, h3, h4⟩ => ⟨b, clock, ents, h1, h2, h3, RepL.newer vs _ hf h4⟩
theorem con_oldF {P : Program} {g : FuncId} {args : List AVal} {sh : Bool} {R : List AObj → List AObj → AVal → Prop} (hfn : ∃ fn, P.funcs[g]? = some fn ∧ fn.body.isSome = true ∧ isNumG fn = false)
    (h : ∀ (c0 : Cz) (vs : List Value), Good c0.w (fun _ => False) c0 → c0.hp = outHp [] [] → RepL c0 (oldL args) vs →
      Calls P g vs.toArray c0.w fun e w' => ∃ v c1 outs rows res, R outs rows res ∧ e = .returned v ∧ c1.w = w' ∧ Good c0.w (fun _ => False) c1 ∧ c1.hp = outHp outs rows ∧ Rep c1 res v ∧
        (∀ b, c1.ext b → (sh = true ∧ c0.ext b) ∨ False) ∧ (∀ b, c1.old b → c0.old b) ∧ (∀ r v, c0.used v → (c1.hp r).ver = some v → (c0.hp r).ver = some v ∧ c1.loc r = c0.loc r) ∧ (∀ v, c0.used v → c1.used v))
    (hR : ∀ outs rows res, R outs rows res → outs = [] ∧ (∀ o ∈ rows, o.fresh) ∧ res.fresh) : Con P g [] args sh R := by
  refine ⟨hfn, fun c0 outsB vs G hhp hrep => ?_⟩
  have hgone : ∀ r, c0.hp r = .gone := fun r => by
    rw [hhp]
    unfold outHp
    split
    · rfl
    · split
      · rfl
      · split <;> rfl
  have hbase : c0.base = c0.w.heap.size := G.base.1
  have G0 : Good c0.w (fun _ => False) c0.olden :=
    { base := ⟨hbase, fun b hb => hb.2⟩
      obj := fun r => by show ObjRep c0.olden (c0.loc r) (c0.hp r); rw [hgone r]; trivial
      inj := fun r r' b h1 => absurd (hgone r) h1
      own := fun r b h1 => absurd (hgone r) h1
      verU := fun r v hv => by
        have hv : (c0.hp r).ver = some v := hv
        rw [hgone r] at hv; cases hv
      verInj := fun r r' v hv => by
        have hv : (c0.hp r).ver = some v := hv
        rw [hgone r] at hv; cases hv
      outExt := fun b hb => hb.elim
      nam := fun n b hn => by cases hn
      namInj := fun n n' b hn => by cases hn
      fin := G.fin
      os := rfl, tape := rfl, output := rfl
      size := Nat.le_refl _
      frame := fun b _ _ => rfl }
  refine (h c0.olden vs G0 hhp (RepL.olden hbase args vs hrep)).mono ?_
  rintro e w' ⟨v, c1, outs, rows, res, hRR, he, hw, G1, h1, hres, hext, hold, hloc, hused⟩
  obtain ⟨rfl, hfr, hfs⟩ := hR _ _ _ hRR
  refine ⟨v, c1.newer outsB, [], rows, res, hRR, he, hw, ?_, h1, Rep.newer res v hfs hres, ?_, fun b hb => hb.elim, hloc, hused⟩
  · exact
    { base := ⟨G1.base.1, fun b hb => hb.elim⟩
      obj := fun r => by
        refine ObjRep.newer ?_ (G1.obj r)
        show (c1.hp r).fresh
        rw [h1]
        unfold outHp
        split
        · trivial
        · split
          · trivial
          · split
            · rw [List.getD_eq_getElem?_getD]
              cases hg : rows[r - 6000]? with
              | none => trivial
              | some o => exact hfr o (List.mem_of_getElem? hg)
            · trivial
      inj := G1.inj
      own := fun r b h2 h3 => by
        rcases G1.own r b h2 h3 with h | h
        · exact .inl h
        · exact h.elim
      verU := G1.verU, verInj := G1.verInj
      outExt := fun b hb => ⟨.inr hb, fun h => h⟩
      nam := fun n b hn => by
        obtain ⟨a1, a2, a3, a4⟩ := G1.nam n b hn
        refine ⟨a1, ?_, a3, a4⟩
        rcases a2 with h | h
        · exact .inl h
        · exact h.elim
      namInj := G1.namInj, fin := G1.fin, os := G1.os, tape := G1.tape, output := G1.output, size := G1.size
      frame := fun b hb _ => G1.frame b hb (fun h => h) }
  · rintro b (hb | hb)
    · rcases hext b hb with h | h
      · exact .inl h
      · exact h.elim
    · exact .inr hb
theorem con_old {P : Program} {g : FuncId} {args : List AVal} {sh : Bool} {R : List AObj → List AObj → AVal → Prop} (h : Con P g [] (oldL args) sh R)
    (hR : ∀ outs rows res, R outs rows res → outs = [] ∧ (∀ o ∈ rows, o.fresh) ∧ res.fresh) : Con P g [] args sh R :=
  con_oldF h.1 (fun c0 vs G hhp hrep => h.2 c0 (fun _ => False) vs G hhp hrep) hR
theorem oldL_ints {k : IntKind} : ∀ {xs : List Int}, oldL (intsK k xs) = intsK k xs
  | [] => rfl
  | x :: xs => by
    have := oldL_ints (k := k) (xs := xs)
    simp only [List.map_cons, oldL, AVal.oldn] at this ⊢
    rw [this]
theorem oldL_rwn : ∀ {xss : List (List Int)}, oldL (rwn xss) = rwo xss
  | [] => rfl
  | xs :: xss => by
    have := oldL_rwn (xss := xss)
    simp only [rwn, rwo, List.map_cons, oldL, AVal.oldn, oldL_ints] at this ⊢
    rw [this]
end Go.Ab
namespace Go.Ab
open Go.Proofs
theorem k_nextE (code : List Int) (at_ seed : Int) (hb : ∀ x ∈ code, 0 ≤ x ∧ x ≤ 255) (ha : 0 ≤ at_ ∧ at_ ≤ 4611686018427387904) :
    ∃ s' b : Int, 0 ≤ b ∧ b ≤ 255 ∧ FunB Tryz.prog nzv (srcC code at_ seed) [] (fun cs v => cs = srcC code (at_ + 1) s' ∧ v = .int .i64 b) := by
  have hw : IntKind.i64.wrap (at_ + 1) = at_ + 1 := w64 (by omega)
  by_cases h : at_ < code.length
  · have h1 : at_.toNat < code.length := by omega
    have hm : code.getD at_.toNat 0 ∈ code := by
      rw [List.getD_eq_getElem?_getD, List.getElem?_eq_getElem h1]; exact List.getElem_mem h1
    have hb1 := hb _ hm
    have h2 : at_ + 1 ≤ code.length := by omega
    have hwb : IntKind.i64.wrap (code.getD at_.toNat 0) = code.getD at_.toNat 0 := w64 (by omega)
    refine ⟨IntKind.u64.wrap (IntKind.u64.wrap (IntKind.u64.wrap (seed * 6364136223846793005) + IntKind.u64.wrap (code.getD at_.toNat 0)) + 1442695040888963407), code.getD at_.toNat 0, hb1.1, hb1.2, funB_of mixed cz74 rfl ?_⟩
    simp only [Bz1a, Bz1b, Bz1c, Bz1d, Bz1e, Bz1f, Bz1g, Bz1h, Az1i, yz12 h1, hw, hwb, decide_eq_true h, decide_eq_true h2, go_sem, yz0, Int.reduceLT, reduceLE, reduceToNat, reduceNeg, Nat.reduceLT, reduceLeDiff, reduceMul, reduceSub, reduceIte, reduceEqDiff, reduceAdd, reduceCtorEq]
    refine ⟨⟨ha.1, h1⟩, h1, _, _, rfl, rfl, ?_, rfl, rfl⟩
    simp [flatL, AVal.flat, flat_vals]
  · have h2 : ¬ at_ + 1 ≤ code.length := by omega
    have h255 : ∀ x : Int, (BitVec.ofInt 64 x &&& BitVec.ofInt 64 255).toNat ≤ 255 := fun x => by
      rw [BitVec.toNat_and]
      exact Nat.le_trans Nat.and_le_right (by decide)
    have hub : ∀ x : Int, IntKind.i64.wrap (IntKind.u64.wrap ((BitVec.ofInt 64 x &&& BitVec.ofInt 64 255).toNat : Int)) = ((BitVec.ofInt 64 x &&& BitVec.ofInt 64 255).toNat : Int) := fun x => by
      have := h255 x
      rw [u64w (by omega), w64 (by omega)]
    refine ⟨IntKind.u64.wrap (IntKind.u64.wrap (IntKind.u64.wrap (seed * 6364136223846793005) + IntKind.u64.wrap 0) + 1442695040888963407),
      ((BitVec.ofInt 64 ((IntKind.u64.wrap (IntKind.u64.wrap (IntKind.u64.wrap (seed * 6364136223846793005) + IntKind.u64.wrap 0) + 1442695040888963407)).fdiv (2 ^ min 40 64)) &&& BitVec.ofInt 64 255).toNat : Int), Int.natCast_nonneg _, by have := h255 ((IntKind.u64.wrap (IntKind.u64.wrap (IntKind.u64.wrap (seed * 6364136223846793005) + IntKind.u64.wrap 0) + 1442695040888963407)).fdiv (2 ^ min 40 64)); omega, funB_of mixed cz74 rfl ?_⟩
    simp only [Bz1a, Bz1b, Bz1c, Bz1d, Bz1e, Bz1f, Bz1g, Bz1h, Az1i, hw, decide_eq_false h, decide_eq_false h2, go_sem, yz0, Int.reduceLT, reduceLE, reduceToNat, reduceNeg, Nat.reduceLT, reduceLeDiff, reduceMul, reduceSub, reduceIte, reduceEqDiff, reduceAdd, reduceCtorEq]
    refine ⟨_, _, rfl, rfl, ?_, rfl, ?_⟩
    · simp [flatL, AVal.flat, flat_vals]
    · exact congrArg _ (hub _)
theorem k_pickE (code : List Int) (at_ seed n : Int) (hb : ∀ x ∈ code, 0 ≤ x ∧ x ≤ 255) (ha : 0 ≤ at_ ∧ at_ ≤ 1000000000000) :
    ∃ a' s' b : Int, at_ ≤ a' ∧ a' ≤ at_ + 2 ∧ 0 ≤ b ∧ (b < n ∨ b = 0) ∧ FunB Tryz.prog nz1 (srcC code at_ seed) [iv n] (fun cs v => cs = srcC code a' s' ∧ v = .int .i64 b) := by
  by_cases h : n ≤ 1
  · refine ⟨at_, seed, 0, by omega, by omega, by omega, .inr rfl, funB_of mixed cz36 rfl ?_⟩
    simp only [Bzg, Bzh, Bzi, Bzj, Bzk, Bzl, Azm, decide_eq_true h, go_sem, yz0, Int.reduceLT, reduceLE, reduceToNat, reduceNeg, Nat.reduceLT, reduceLeDiff, reduceMul, reduceSub, reduceIte, reduceEqDiff, reduceAdd, reduceCtorEq]
    exact ⟨_, _, rfl, rfl, by simp [flatL, AVal.flat, flat_vals], rfl, rfl⟩
  · obtain ⟨s', b, hb1, hb2, hk⟩ := k_nextE code at_ seed hb (by omega)
    have ht : ∀ y : Int, 0 ≤ y → y ≤ 100000 → 0 ≤ y.tmod n ∧ (y.tmod n < n ∨ y.tmod n = 0) := fun y h1 h2 => ⟨Int.tmod_nonneg _ h1, .inl (Int.tmod_lt_of_pos _ (by omega))⟩
    have hn : ¬ n = 0 := by omega
    by_cases h2 : n > 200
    · obtain ⟨s'', c, hc1, hc2, hk2⟩ := k_nextE code (at_ + 1) s' hb (by omega)
      refine ⟨at_ + 1 + 1, s'', (b * 256 + c).tmod n, by omega, by omega, (ht _ (by omega) (by omega)).1, (ht _ (by omega) (by omega)).2, funB_of mixed cz36 rfl ?_⟩
      simp only [Bzg, Bzh, Bzi, Bzj, Bzk, Bzl, Azm, decide_eq_false h, go_sem, yz0, Int.reduceLT, reduceLE, reduceToNat, reduceNeg, Nat.reduceLT, reduceLeDiff, reduceMul, reduceSub, reduceIte, reduceEqDiff, reduceAdd, reduceCtorEq]
      intro vs
      refine call_funB hk rfl qCS qCS ?_
      rintro cs' x ⟨rfl, rfl⟩
      simp only [decide_eq_true h2, go_sem, yz0, Int.reduceLT, reduceLE, reduceToNat, reduceNeg, Nat.reduceLT, reduceLeDiff, reduceMul, reduceSub, reduceIte, reduceEqDiff, reduceAdd, reduceCtorEq]
      intro vs2
      refine call_funB hk2 rfl qCS qCS ?_
      rintro cs' x ⟨rfl, rfl⟩
      simp only [hn, w64 (show -9223372036854775808 ≤ b * 256 ∧ b * 256 ≤ 9223372036854775807 by omega), w64 (show -9223372036854775808 ≤ b * 256 + c ∧ b * 256 + c ≤ 9223372036854775807 by omega), go_sem, yz0, Int.reduceLT, reduceLE, reduceToNat, reduceNeg, Nat.reduceLT, reduceLeDiff, reduceMul, reduceSub, reduceIte, reduceEqDiff, reduceAdd, reduceCtorEq]
      exact ⟨_, _, rfl, rfl, by simp [flatL, AVal.flat, flat_vals], rfl, rfl⟩
    · refine ⟨at_ + 1, s', b.tmod n, by omega, by omega, (ht _ (by omega) (by omega)).1, (ht _ (by omega) (by omega)).2, funB_of mixed cz36 rfl ?_⟩
      simp only [Bzg, Bzh, Bzi, Bzj, Bzk, Bzl, Azm, decide_eq_false h, go_sem, yz0, Int.reduceLT, reduceLE, reduceToNat, reduceNeg, Nat.reduceLT, reduceLeDiff, reduceMul, reduceSub, reduceIte, reduceEqDiff, reduceAdd, reduceCtorEq]
      intro vs
      refine call_funB hk rfl qCS qCS ?_
      rintro cs' x ⟨rfl, rfl⟩
      simp only [decide_eq_false h2, hn, go_sem, yz0, Int.reduceLT, reduceLE, reduceToNat, reduceNeg, Nat.reduceLT, reduceLeDiff, reduceMul, reduceSub, reduceIte, reduceEqDiff, reduceAdd, reduceCtorEq]
      exact ⟨_, _, rfl, rfl, by simp [flatL, AVal.flat, flat_vals], rfl, rfl⟩
end Go.Ab
namespace Go.Ab
open Go.Proofs
theorem Prt_put {n : Int} {A2 C2 : List (Nat × List Int)} {b : Nat × List Int} {u : Nat} {cur : List Int} (P : Prt n ((A2 ++ b :: C2).map (·.2))) (hl : cur.length = b.2.length) (hm : ∀ x ∈ cur, -1 ≤ x ∧ x < n) :
    Prt n ((A2 ++ (u, cur) :: C2).map (·.2)) := by
  have hlen : ((A2 ++ (u, cur) :: C2).map (·.2)).length = ((A2 ++ b :: C2).map (·.2)).length := by simp
  refine ⟨P.n1, P.n2, by rw [hlen]; exact P.l1, by rw [hlen]; exact P.l2, fun row hr => ?_⟩
  simp only [List.map_append, List.map_cons, List.mem_append, List.mem_cons] at hr
  rcases hr with h | rfl | h
  · exact P.row row (by simp only [List.map_append, List.map_cons, List.mem_append, List.mem_cons]; exact .inl h)
  · have := (P.row b.2 (by simp)).1
    exact ⟨by simp only [hl]; exact this, hm⟩
  · exact P.row row (by simp only [List.map_append, List.map_cons, List.mem_append, List.mem_cons]; exact .inr (.inr h))
abbrev DrP (code : List Int) (at_ most gaps : Int) (outs rows : List AObj) (res : AVal) : Prop :=
  ∃ n ps v a' s', Prt n (ps.map (·.2)) ∧ n ≤ most ∧ (gaps = 0 → ∀ p ∈ ps, ∀ x ∈ p.2, 0 ≤ x) ∧ outs = [.box 0 (srcC code a' s')] ∧ rows = [.row v 1 true (rwp ps)] ∧ res = .st [iv n, .own 6000 v]
theorem k_l04Draw (code : List Int) (at_ seed most gaps : Int) (hb : ∀ x ∈ code, 0 ≤ x ∧ x ≤ 255) (ha : 0 ≤ at_ ∧ at_ ≤ 100000) (hm : 1 ≤ most ∧ most ≤ 10) (hg : 0 ≤ gaps ∧ gaps ≤ 10) :
    Con Tryz.prog nz1m [.box 0 (srcC code at_ seed)] [.ptr 5000 0 0, iv most, iv gaps] true (DrP code at_ most gaps) := by
  refine con_sh mixed czhk rfl (by simp) ?_
  generalize hQ : finQ _ = Q
  simp only [Az5l, Bzam, wpD_kp, yzy, go_sem, yz0, Int.reduceLT, reduceLE, reduceToNat, reduceNeg, Nat.reduceLT, reduceLeDiff, reduceMul, reduceSub, reduceIte, reduceEqDiff, reduceAdd, reduceCtorEq]
  intro vs0 U0 hN0 vs1 U1 hN1
  refine call_funB (k_pick code at_ seed most hb (by omega)) rfl qCS qCS ?_
  rintro cs' x ⟨a1, s1, b1, rfl, h1, h2, rfl, h3, h4⟩
  obtain ⟨n, hn⟩ : ∃ n : Int, n = 1 + b1 := ⟨_, rfl⟩
  have wn : IntKind.i64.wrap (1 + b1) = n := by rw [hn]; exact w64 (by omega)
  simp only [wn, Bzal, wpD_kp, yzy, go_sem, yz0, Int.reduceLT, reduceLE, reduceToNat, reduceNeg, Nat.reduceLT, reduceLeDiff, reduceMul, reduceSub, reduceIte, reduceEqDiff, reduceAdd, reduceCtorEq]
  intro vs2 U2 hN2
  refine call_funB (k_pick code a1 s1 3 hb (by omega)) rfl qCS qCS ?_
  rintro cs' x ⟨a2, s2, b2, rfl, g1, g2, rfl, g3, g4⟩
  obtain ⟨m, hmm⟩ : ∃ m : Nat, (m : Int) = 1 + b2 := ⟨(1 + b2).toNat, by omega⟩
  have wm : IntKind.i64.wrap (1 + b2) = (m : Int) := by rw [← hmm]; exact w64 (by omega)
  simp only [wm, Bzaf, wpD_kp, yzy, go_sem, yz0, Int.reduceLT, reduceLE, reduceToNat, reduceNeg, Nat.reduceLT, reduceLeDiff, reduceMul, reduceSub, reduceIte, reduceEqDiff, reduceAdd, reduceCtorEq]
  intro ver
  refine wpD_lp (fun (_, _, _, _, c, _) => c) (fun (_, nn, a, _, c, ps) => a2 ≤ a ∧ a ≤ a2 + 60 * List.length ps ∧ c + List.length ps = m ∧ (ps ≠ [] → nn = true) ∧ (∀ p ∈ ps, (List.length p.2 : Int) = n ∧ ∀ x ∈ p.2, 0 ≤ x ∧ x < n) ∧ DJ ps)
    (fun ((v, nn, a, s, c, ps) : Nat × Bool × Int × Int × Nat × List (Nat × List Int)) => ⟨L .any [(0, .ptr 5000 0 0), (2, iv gaps), (6, .ptr 6 (vs0 0 0) 0), (7, .ptr 7 (vs1 5 0) 0), (8, iv c)],
      L .gone [(6, .box (vs0 0 0) [iv 0, .val (.slice none 0 0)]), (7, .box (vs1 5 0) [iv n, .own 52 v]), (52, .row v 1 nn (rwp ps)), (5000, .box 0 (srcC code a s)), (5001, .gone), (5002, .gone), (901, .gone)]⟩)
    (ver, false, a2, s2, m, []) ⟨Int.le_refl _, by simp, by simp, by simp, by simp, by simp [DJ]⟩ (by simp only [Bz2p, wpD_kp, yzy, go_sem, yz0, Int.reduceLT, reduceLE, reduceToNat, reduceNeg, Nat.reduceLT, reduceLeDiff, reduceMul, reduceSub, reduceIte, reduceEqDiff, reduceAdd, reduceCtorEq]; try rfl) ?_
  rintro ⟨v, nn, a, s, c, ps⟩ ⟨i1, i2, i3, i4, i5, i6⟩
  have i1 : a2 ≤ a := i1
  have i2 : a ≤ a2 + 60 * ps.length := i2
  have i3 : c + ps.length = m := i3
  by_cases hc : (c : Int) > 0
  · have wc : IntKind.i64.wrap ((c : Int) - 1) = ((c - 1 : Nat) : Int) := by rw [w64 (by omega)]; omega
    simp only [Bz2p, Bz5h, Bzae, decide_eq_true hc, wpD_kp, yzy, go_sem, yz0, Int.reduceLT, reduceLE, reduceToNat, reduceNeg, Nat.reduceLT, reduceLeDiff, reduceMul, reduceSub, reduceIte, reduceEqDiff, reduceAdd, reduceCtorEq]
    intro vs3 U3 hN3 vs4 U4 hN4
    simp only [Bzac, Bzaa, wpD_kp, yzy, go_sem, yz0, Int.reduceLT, reduceLE, reduceToNat, reduceNeg, Nat.reduceLT, reduceLeDiff, reduceMul, reduceSub, reduceIte, reduceEqDiff, reduceAdd, reduceCtorEq]
    intro vs5 U5 hN5
    refine wpD_lp (fun (_, _, _, row) => n.toNat - List.length row)
      (fun (_, a', _, row) => a ≤ a' ∧ a' ≤ a + 4 * List.length row ∧ (List.length row : Int) ≤ n ∧ ∀ x ∈ row, 0 ≤ x ∧ x < n)
      (fun ((u, a, s, row) : Nat × Int × Int × List Int) => ⟨L .any [(0, .ptr 5000 0 0), (2, iv gaps), (6, .ptr 6 (vs0 0 0) 0), (7, .ptr 7 (vs1 5 0) 0), (8, iv c), (9, .own 24 u), (10, iv row.length)],
        L .gone [(6, .box (vs0 0 0) [iv 0, .val (.slice none 0 0)]), (7, .box (vs1 5 0) [iv n, .own 52 v]), (24, .row u 1 true (ints row)), (37, .gone), (52, .row v 1 nn (rwp ps)), (5000, .box 0 (srcC code a s)), (5001, .gone), (5002, .gone), (901, .gone)]⟩)
      (_, a, s, []) ⟨Int.le_refl _, by simp, by simp; omega, by simp⟩ (by simp only [Bz2o, wpD_kp, yzy, go_sem, yz0, Int.reduceLT, reduceLE, reduceToNat, reduceNeg, Nat.reduceLT, reduceLeDiff, reduceMul, reduceSub, reduceIte, reduceEqDiff, reduceAdd, reduceCtorEq]; try rfl) ?_
    rintro ⟨u, a', s', row⟩ ⟨j1, j2, j3, j4⟩
    have j1 : a ≤ a' := j1
    have j2 : a' ≤ a + 4 * row.length := j2
    have j3 : (row.length : Int) ≤ n := j3
    by_cases hlt : (row.length : Int) < n
    · have wr : IntKind.i64.wrap ((row.length : Int) + 1) = ((row.length + 1 : Nat) : Int) := by rw [w64 (by omega)]; simp
      simp only [Bz2o, Bz5i, Bza9, decide_eq_true hlt, wpD_kp, yzy, go_sem, yz0, Int.reduceLT, reduceLE, reduceToNat, reduceNeg, Nat.reduceLT, reduceLeDiff, reduceMul, reduceSub, reduceIte, reduceEqDiff, reduceAdd, reduceCtorEq]
      intro vs6 U6 hN6 vs7 U7 hN7
      refine call_funB (k_pick code a' s' n hb (by omega)) rfl qCS qCS ?_
      rintro cs' x ⟨a3, s3, b3, rfl, e1, e2, rfl, e3, e4⟩
      simp only [wpD_kp, yzy, go_sem, yz0, Int.reduceLT, reduceLE, reduceToNat, reduceNeg, Nat.reduceLT, reduceLeDiff, reduceMul, reduceSub, reduceIte, reduceEqDiff, reduceAdd, reduceCtorEq]
      refine ⟨⟨_, rfl, rfl⟩, by omega, ?_⟩
      simp only [Bza8, wr, wpD_kp, yzy, go_sem, yz0, Int.reduceLT, reduceLE, reduceToNat, reduceNeg, Nat.reduceLT, reduceLeDiff, reduceMul, reduceSub, reduceIte, reduceEqDiff, reduceAdd, reduceCtorEq]
      intro vs8 U8 hN8
      refine ⟨(vs7 6 0, a3, s3, row ++ [b3]), by dsimp only; rw [List.length_append, List.length_singleton]; omega, ⟨by dsimp only; omega, by dsimp only; rw [List.length_append, List.length_singleton]; omega, by dsimp only; rw [List.length_append, List.length_singleton]; omega, fun x hx => ?_⟩, ?_⟩
      · rcases List.mem_append.1 hx with h | h
        · exact j4 x h
        · rw [List.mem_singleton.1 h]; omega
      · simp only [List.length_append, List.length_singleton]; try rfl
    · have hrl : (row.length : Int) = n := by omega
      have h0l : 0 < row.length := by omega
      simp only [Bz2o, Bz5i, decide_eq_false hlt, wpD_kp, yzy, go_sem, yz0, Int.reduceLT, reduceLE, reduceToNat, reduceNeg, Nat.reduceLT, reduceLeDiff, reduceMul, reduceSub, reduceIte, reduceEqDiff, reduceAdd, reduceCtorEq]
      intro vs6 U6 hN6
      unfold Bzab
      rw [wpD_kp]
      refine wpD_cutn (α := Int × Int × List Int) (fun (a3, _, row) => a' ≤ a3 ∧ a3 ≤ a' + 2 ∧ (List.length row : Int) = n ∧ ∀ x ∈ row, 0 ≤ x ∧ x < n)
        (fun ((a3, s3, row) : Int × Int × List Int) => ⟨L .any [(0, .ptr 5000 0 0), (2, iv gaps), (6, .ptr 6 (vs0 0 0) 0), (7, .ptr 7 (vs1 5 0) 0), (8, iv c), (9, .own 24 u)],
          L .gone [(6, .box (vs0 0 0) [iv 0, .val (.slice none 0 0)]), (7, .box (vs1 5 0) [iv n, .own 52 v]), (24, .row u 1 true (ints row)), (37, .gone), (52, .row v 1 nn (rwp ps)), (5000, .box 0 (srcC code a3 s3)), (5001, .gone), (5002, .gone), (901, .gone)]⟩) ?_ ?_
      · simp only [wpD_kp, yzy, go_sem, yz0, Int.reduceLT, reduceLE, reduceToNat, reduceNeg, Nat.reduceLT, reduceLeDiff, reduceMul, reduceSub, reduceIte, reduceEqDiff, reduceAdd, reduceCtorEq]
        intro vs7 U7 hN7
        refine call_funB (k_one code a' s' 3 hb (by omega)) rfl qCS qCS ?_
        rintro cs' x ⟨a3, s3, b3, rfl, e1, e2, rfl⟩
        cases b3 with
        | true =>
          have wl : IntKind.i64.wrap ((row.length : Int) - 1) = ((row.length - 1 : Nat) : Int) := by rw [w64 (by omega)]; omega
          have hll : row.length - 1 < row.length := by omega
          have hcl := lput_len (xs := row) (i := 0) (v := row.getD (row.length - 1) 0) h0l
          have hcm := lput_mem (xs := row) (i := 0) (v := row.getD (row.length - 1) 0) (Q := fun z => 0 ≤ z ∧ z < n) j4 (j4 _ (yzw hll 0))
          simp only [Bz5j, wl, yz12 hll, wpD_kp, yzy, go_sem, yz0, Int.reduceLT, reduceLE, reduceToNat, reduceNeg, Nat.reduceLT, reduceLeDiff, reduceMul, reduceSub, reduceIte, reduceEqDiff, reduceAdd, reduceCtorEq]
          intro vs8 U8 hN8 _
          refine ⟨⟨by omega, hll⟩, hll, h0l, by omega, (a3, s3, row.take 0 ++ [row.getD (row.length - 1) 0] ++ row.drop (0 + 1)), ⟨by dsimp only; omega, by dsimp only; omega, by dsimp only; rw [hcl]; exact hrl, hcm⟩, ?_⟩
          have ed : AVal.val (.int .i64 (row.getD (row.length - 1) 0)) :: List.drop 1 (ints row) = ints (row.take 0 ++ [row.getD (row.length - 1) 0] ++ row.drop (0 + 1)) := by simp [List.map_drop]
          rw [ed]
        | false =>
          simp only [Bz5j, wpD_kp, yzy, go_sem, yz0, Int.reduceLT, reduceLE, reduceToNat, reduceNeg, Nat.reduceLT, reduceLeDiff, reduceMul, reduceSub, reduceIte, reduceEqDiff, reduceAdd, reduceCtorEq]
          exact ⟨(a3, s3, row), ⟨by dsimp only; omega, by dsimp only; omega, hrl, j4⟩, rfl⟩
      · rintro ⟨a3, s3, row⟩ ⟨e1, e2, hrl, j4⟩
        have e1 : a' ≤ a3 := e1
        have e2 : a3 ≤ a' + 2 := e2
        simp only [wpD_kp, wpD_gh, go_sem, yz0, Int.reduceLT, reduceLE, reduceToNat, reduceNeg, Nat.reduceLT, reduceLeDiff, reduceMul, reduceSub, reduceIte, reduceEqDiff, reduceAdd, reduceCtorEq]
        intro hD
        refine ⟨[], ?_⟩
        have hf : ∀ p ∈ ps, p.2 = [] ∨ p.1 ≠ u := fun p hp => by
          by_cases e : p.2 = []
          · exact .inl e
          · exact .inr (hD 52 v 1 nn (rwp ps) 24 u rfl rfl p.1 1 (ints p.2) (List.mem_map.2 ⟨p, hp, rfl⟩) (by simpa using e))
        simp only [gwp_nil, wpD_kp, yzy, go_sem, yz0, Int.reduceLT, reduceLE, reduceToNat, reduceNeg, Nat.reduceLT, reduceLeDiff, reduceMul, reduceSub, reduceIte, reduceEqDiff, reduceAdd, reduceCtorEq]
        intro vs8 U8 hN8
        rw [rwp_len]
        refine ⟨by omega, ?_⟩
        simp only [Bzad, wc, rwp_snoc, wpD_kp, yzy, go_sem, yz0, Int.reduceLT, reduceLE, reduceToNat, reduceNeg, Nat.reduceLT, reduceLeDiff, reduceMul, reduceSub, reduceIte, reduceEqDiff, reduceAdd, reduceCtorEq]
        intro vs9 U9 hN9
        refine ⟨(vs8 4 0, true, a3, s3, c - 1, ps ++ [(u, row)]), by dsimp only; omega, ⟨by dsimp only; omega, by dsimp only; rw [List.length_append, List.length_singleton]; omega, by dsimp only; rw [List.length_append, List.length_singleton]; omega, fun _ => rfl, fun q hq => ?_, i6.snoc hf⟩, rfl⟩
        rcases List.mem_append.1 hq with h | h
        · exact i5 q h
        · rw [List.mem_singleton.1 h]; exact ⟨hrl, j4⟩
  · obtain rfl : nn = true := i4 (fun e => by rw [e] at i3; simp at i3; omega)
    have wg : IntKind.i64.wrap (gaps + 1) = gaps + 1 := w64 (by omega)
    simp only [Bz2p, Bz5h, Bzak, decide_eq_false hc, wg, wpD_kp, yzy, go_sem, yz0, Int.reduceLT, reduceLE, reduceToNat, reduceNeg, Nat.reduceLT, reduceLeDiff, reduceMul, reduceSub, reduceIte, reduceEqDiff, reduceAdd, reduceCtorEq]
    intro vs3 U3 hN3 vs4 U4 hN4
    refine call_funB (k_pick code a s (gaps + 1) hb (by omega)) rfl qCS qCS ?_
    rintro cs' x ⟨a3, s3, b3, rfl, e1, e2, rfl, e3, e4⟩
    obtain ⟨k0, hk0⟩ : ∃ k : Nat, (k : Int) = b3 := ⟨b3.toNat, by omega⟩
    have hP0 : Prt n (ps.map (·.2)) := ⟨by omega, by omega, by rw [List.length_map]; omega, by rw [List.length_map]; omega, fun row hr => by
      obtain ⟨p, hp, rfl⟩ := List.mem_map.1 hr
      exact ⟨(i5 p hp).1, fun x hx => by have := (i5 p hp).2 x hx; omega⟩⟩
    simp only [← hk0, Bzai, wpD_kp, yzy, go_sem, yz0, Int.reduceLT, reduceLE, reduceToNat, reduceNeg, Nat.reduceLT, reduceLeDiff, reduceMul, reduceSub, reduceIte, reduceEqDiff, reduceAdd, reduceCtorEq]
    refine wpD_lp (fun (_, _, k, _) => k) (fun (a, _, k, ps) => a3 ≤ a ∧ a + 4 * (k : Int) ≤ a3 + 4 * k0 ∧ k ≤ k0 ∧ Prt n (ps.map (·.2)) ∧ DJ ps ∧ (gaps = 0 → ∀ p ∈ ps, ∀ x ∈ p.2, 0 ≤ x))
      (fun ((a, s, k, ps) : Int × Int × Nat × List (Nat × List Int)) => ⟨L .any [(0, .ptr 5000 0 0), (6, .ptr 6 (vs0 0 0) 0), (7, .ptr 7 (vs1 5 0) 0), (11, iv k)],
        L .gone [(6, .box (vs0 0 0) [iv 0, .val (.slice none 0 0)]), (7, .box (vs1 5 0) [iv n, .own 52 v]), (52, .row v 1 true (rwp ps)), (5000, .box 0 (srcC code a s)), (5001, .gone), (5002, .gone), (901, .gone)]⟩)
      (a3, s3, k0, ps) ⟨Int.le_refl _, Int.le_refl _, Nat.le_refl _, hP0, i6, fun _ p hp x hx => ((i5 p hp).2 x hx).1⟩ (by simp only [Bz2q, wpD_kp, yzy, go_sem, yz0, Int.reduceLT, reduceLE, reduceToNat, reduceNeg, Nat.reduceLT, reduceLeDiff, reduceMul, reduceSub, reduceIte, reduceEqDiff, reduceAdd, reduceCtorEq]; try rfl) ?_
    rintro ⟨a5, s5, k, qs⟩ ⟨l1, l2, l3, l4, l5, l6⟩
    have l1 : a3 ≤ a5 := l1
    have l2 : a5 + 4 * (k : Int) ≤ a3 + 4 * k0 := l2
    have l3 : k ≤ k0 := l3
    have q1 := l4.l1
    have q2 := l4.l2
    rw [List.length_map] at q1 q2
    by_cases hk : (k : Int) > 0
    · have wk : IntKind.i64.wrap ((k : Int) - 1) = ((k - 1 : Nat) : Int) := by rw [w64 (by omega)]; omega
      obtain ⟨a6, s6, x0, f1, f2, f3, f4, hk1⟩ := k_pickE code a5 s5 qs.length hb (by omega)
      have hat : x0.toNat < qs.length := by omega
      obtain ⟨A2, b, C2, rfl, hAk⟩ := rwp_split hat
      have hbr := l4.row b.2 (by simp)
      have hbn : b.2 ≠ [] := fun e => by rw [e] at hbr; simp at hbr; omega
      have F0a := DJ_out l5 hbn
      simp only [Bz2q, Bz5k, decide_eq_true hk, wpD_kp, yzy, go_sem, yz0, Int.reduceLT, reduceLE, reduceToNat, reduceNeg, Nat.reduceLT, reduceLeDiff, reduceMul, reduceSub, reduceIte, reduceEqDiff, reduceAdd, reduceCtorEq]
      intro vs5 U5 hN5
      simp only [Bzah, wpD_kp, wpD_gh, go_sem, yz0, Int.reduceLT, reduceLE, reduceToNat, reduceNeg, Nat.reduceLT, reduceLeDiff, reduceMul, reduceSub, reduceIte, reduceEqDiff, reduceAdd, reduceCtorEq]
      intro _
      refine ⟨[.thaw 52 x0.toNat 901], gwp_thaw (n := b.1) rfl (rwp_get hAk.symm) (by simpa using hbn) rfl fun m1 => ?_⟩
      have hset : (woL b.1 (rwp (A2 ++ b :: C2))).set x0.toNat (AVal.own 901 m1) = rwp A2 ++ AVal.own 901 m1 :: rwp C2 := by rw [← hAk]; exact woL_set F0a
      have ho1 : (rwp A2 ++ AVal.own 901 m1 :: rwp C2).getD x0.toNat .any = .own 901 m1 := own_at hAk.symm
      have hol : (rwp A2 ++ AVal.own 901 m1 :: rwp C2).length = (A2 ++ b :: C2).length := by rw [List.length_append, List.length_cons, rwp_len, rwp_len, List.length_append, List.length_cons]
      have hkl : x0.toNat < (rwp A2 ++ AVal.own 901 m1 :: rwp C2).length := by omega
      have hdv : (rwp A2 ++ AVal.own 901 m1 :: rwp C2).length / 1 = (A2 ++ b :: C2).length := by rw [Nat.div_one]; exact hol
      simp only [hset, woT, woO, woL_cons, woL_nil, woV_val, woV_own, wo_ptr, wo_o, woL_ints, wo_st, woO_row, woO_box, woO_gone, wo_any, gwp_nil, wpD_kp, yzy, go_sem, yz0, Int.reduceLT, reduceLE, reduceToNat, reduceNeg, Nat.reduceLT, reduceLeDiff, reduceMul, reduceSub, reduceIte, reduceEqDiff, reduceAdd, reduceCtorEq]
      intro vs8 U8 hN8
      simp only [hol, go_sem, yz0, Int.reduceLT, reduceLE, reduceToNat, reduceNeg, Nat.reduceLT, reduceLeDiff, reduceMul, reduceSub, reduceIte, reduceEqDiff, reduceAdd, reduceCtorEq]
      refine call_funBN hk1 rfl (by simp) qCS qCS ⟨srcC code a6 s6, .int .i64 x0, ⟨rfl, rfl⟩, flat_srcC⟩ ?_
      rintro cs' x ⟨rfl, rfl⟩
      simp only [ho1, wpD_kp, yzy, go_sem, yz0, Int.reduceLT, reduceLE, reduceToNat, reduceNeg, Nat.reduceLT, reduceLeDiff, reduceMul, reduceSub, reduceIte, reduceEqDiff, reduceAdd, reduceCtorEq]
      refine ⟨⟨f3, hkl⟩, hkl, ?_⟩
      refine call_funBN (k_pick code a6 s6 n hb (by omega)) rfl (by simp) qCS qCS ⟨srcC code a6 0, .int .i64 0, ⟨a6, 0, 0, rfl, by omega, by omega, rfl, by omega, .inr rfl⟩, flat_srcC⟩ ?_
      rintro cs' x ⟨a7, s7, y1, rfl, p1, p2, rfl, p3, p4⟩
      have hy1 : y1.toNat < b.2.length := by omega
      have hcl := lput_len (xs := b.2) (v := -1) hy1
      have hcm := lput_mem (xs := b.2) (i := y1.toNat) (v := -1) (Q := fun z => -1 ≤ z ∧ z < n) hbr.2 (by omega)
      simp only [wpD_kp, yzy, go_sem, yz0, Int.reduceLT, reduceLE, reduceToNat, reduceNeg, Nat.reduceLT, reduceLeDiff, reduceMul, reduceSub, reduceIte, reduceEqDiff, reduceAdd, reduceCtorEq]
      refine ⟨⟨p3, hy1⟩, hy1, ?_⟩
      simp only [ints_put]
      generalize hcu : b.2.take y1.toNat ++ [-1] ++ b.2.drop (y1.toNat + 1) = cur at hcl hcm ⊢
      simp only [Bzag, wpD_kp, wpD_gh, go_sem, yz0, Int.reduceLT, reduceLE, reduceToNat, reduceNeg, Nat.reduceLT, reduceLeDiff, reduceMul, reduceSub, reduceIte, reduceEqDiff, reduceAdd, reduceCtorEq]
      intro hD
      refine ⟨[.rf 52 x0.toNat 901], gwp_rf (k := 1) (nn := true) rfl (own_get hAk.symm) (by decide) rfl fun hf => ?_⟩
      have D1 := DJ_refrozen l5 hf (cur := cur)
      have P1 := Prt_put l4 (u := m1) hcl hcm
      have hset4 : ∀ X : AVal, (rwp A2 ++ AVal.own 901 m1 :: rwp C2).set x0.toNat X = rwp A2 ++ X :: rwp C2 := fun X => by
        rw [← hAk, List.set_append_right _ _ (by rw [rwp_len]; exact Nat.le_refl _), rwp_len, Nat.sub_self]; rfl
      simp only [hset4, frNm_t, rwp_cat, gwp_nil, wk, wpD_kp, yzy, go_sem, yz0, Int.reduceLT, reduceLE, reduceToNat, reduceNeg, Nat.reduceLT, reduceLeDiff, reduceMul, reduceSub, reduceIte, reduceEqDiff, reduceAdd, reduceCtorEq]
      intro vs9 U9 hN9
      exact ⟨(a7, s7, k - 1, A2 ++ (m1, cur) :: C2), by dsimp only; omega, ⟨by dsimp only; omega, by dsimp only; omega, by dsimp only; omega, P1, D1, fun hz => by omega⟩, rfl⟩
    · simp only [Bz2q, Bz5k, Bzaj, decide_eq_false hk, wpD_kp, yzy, Az5l, ← hQ, go_sem, yz0, Int.reduceLT, reduceLE, reduceToNat, reduceNeg, Nat.reduceLT, reduceLeDiff, reduceMul, reduceSub, reduceIte, reduceEqDiff, reduceAdd, reduceCtorEq]
      intro vs5 U5 hN5 vs6 U6 hN6
      refine ⟨[52], by simp, by simp, by simp, ?_⟩
      simp only [range1, List.length_singleton, renL_rwp, Nat.not_lt_zero, range1, yzx, yz10, yz15, yz14, yz11, yz18, yz17, yz16, yzz, yzp, yzh, yz3, yzv, yzs, yzq, yzn, yzu, yzd, yze, yz8, yzc, yzm, yzj, yz2, yzb, yz9, yz7, yzl, yzk, List.range_zero, yz4, yz5, yza, yzo, yzf, yzt, AVal.fresh, freshL, yz1, yzi, AObj.fresh, id, Option.isSome_some, or_true, true_or, wpD_kp, yzy, go_sem, yz0, Int.reduceLT, reduceLE, reduceToNat, reduceNeg, Nat.reduceLT, reduceLeDiff, reduceMul, reduceSub, reduceIte, reduceEqDiff, reduceAdd, reduceCtorEq]
      exact ⟨n, qs, v, a5, s5, l4, by omega, l6, rfl, by simp, rfl⟩
theorem k_P6Partial (code : List Int) (gaps : Int) (hb : ∀ x ∈ code, 0 ≤ x ∧ x ≤ 255) (hg : 0 ≤ gaps ∧ gaps ≤ 10) :
    Con Tryz.prog nz3s [] [.ro (some (some 0)) 1 (intsK .u8 code), iv gaps] true fun outs rows res => outs = [] ∧ ∃ n next v, Prt n next ∧ n ≤ 4 ∧ (gaps = 0 → ∀ r ∈ next, ∀ x ∈ r, 0 ≤ x) ∧ rows = [.row v 1 true (rws next)] ∧ res = .st [iv n, .own 6000 v] := by
  refine con_sh mixed czh2 rfl (by simp) ?_
  generalize hQ : finQ _ = Q
  simp only [Az4y, Bz7o, go_sem, yz0, Int.reduceLT, reduceLE, reduceToNat, reduceNeg, Nat.reduceLT, reduceLeDiff, reduceMul, reduceSub, reduceIte, reduceEqDiff, reduceAdd, reduceCtorEq]
  intro vs0 vs1
  refine call_sh (k_from code) qCS (fun e => by cases e) ?_
  rintro outs rows res ⟨rfl, v, rfl, rfl⟩
  refine ⟨rfl, by simp, by rw [Option.getD_some, yzf]; rfl, ?_⟩
  simp only [Nat.not_lt_zero, range1, yzx, yz10, yz15, yz14, yz11, yz18, yz17, yz16, yzz, yzp, yzh, yz3, yzv, yzs, yzq, yzn, yzu, yzd, yze, yz8, yzc, yzm, yzj, yz2, yzb, yz9, yz7, yzl, yzk, List.range_zero, yz4, yz5, yza, yzo, yzf, yzt, AVal.fresh, freshL, yz1, yzi, AObj.fresh, id, Option.isSome_some, or_true, true_or, go_sem, yz0, Int.reduceLT, reduceLE, reduceToNat, reduceNeg, Nat.reduceLT, reduceLeDiff, reduceMul, reduceSub, reduceIte, reduceEqDiff, reduceAdd, reduceCtorEq]
  have h : Con Tryz.prog nz1m [.box 0 (srcC code 0 0)] [.ptr 5000 0 0, iv 4, iv gaps] true fun outs rows res => ∃ n next v a' s', Prt n next ∧ n ≤ 4 ∧ (gaps = 0 → ∀ r ∈ next, ∀ x ∈ r, 0 ≤ x) ∧ outs = [.box 0 (srcC code a' s')] ∧ rows = [.row v 1 true (rws next)] ∧ res = .st [iv n, .own 6000 v] := by
    refine Con.dnr (k_l04Draw code 0 0 4 gaps hb (by omega) (by omega) hg) ?_
    rintro o r x ⟨n, ps, v, a', s', hp, h1, h2, rfl, rfl, rfl⟩
    refine ⟨n, ps.map (·.2), v, a', s', hp, h1, fun hz r hr x hx => ?_, ?_, ?_, ?_⟩
    · obtain ⟨p, hp, rfl⟩ := List.mem_map.1 hr
      exact h2 hz p hp x hx
    · simp only [List.map_cons, List.map_nil, AObj.dn, dnL, AVal.dn, dnL_ints, dnNm]
    · simp only [List.map_cons, List.map_nil, AObj.dn, dnL_rwp]
    · simp only [AVal.dn, dnL]
  refine call_con (r := 6) h rfl (by simp only [Bool.not_true, rowIs, boxIs, coe_argN, coe_argNs, coe_ro_o, coeL_nil, yz13, coe_any, coe_val, coe_ro, coe_ro_nil, coe_ro_own, coe_st, coe_st_agg, coe_rp, coe_rp_ptr, coe_clo, coe_own0, coe_ptr0, yz19, coeL_rws, coeL_rwn, L_hit, L_miss, L_nil, reduceEqDiff, ne_eq, reduceCtorEq, not_false_eq_true, true_and, and_true, and_self, exists_eq_left, exists_eq_right, List.mem_cons, List.not_mem_nil, or_false, AObj.row.injEq, AObj.box.injEq, exists_eq_left', exists_and_left, exists_eq, Nat.zero_lt_one, Nat.lt_add_one, List.map_cons, List.map_nil, AObj.ver, Nat.reduceLT, not_true_eq_false]) (by simp only [Bool.not_true, rowIs, boxIs, coe_argN, coe_argNs, coe_ro_o, coeL_nil, yz13, coe_any, coe_val, coe_ro, coe_ro_nil, coe_ro_own, coe_st, coe_st_agg, coe_rp, coe_rp_ptr, coe_clo, coe_own0, coe_ptr0, yz19, coeL_rws, coeL_rwn, L_hit, L_miss, L_nil, reduceEqDiff, ne_eq, reduceCtorEq, not_false_eq_true, true_and, and_true, and_self, exists_eq_left, exists_eq_right, List.mem_cons, List.not_mem_nil, or_false, AObj.row.injEq, AObj.box.injEq, exists_eq_left', exists_and_left, exists_eq, Nat.zero_lt_one, Nat.lt_add_one, List.map_cons, List.map_nil, AObj.ver, Nat.reduceLT, not_true_eq_false]) ?_
  rintro outs rows res ⟨n, next, v', a', s', P, h4, h2, rfl, rfl, rfl⟩
  refine ⟨rfl, by simp, by rw [Option.getD_some, yzf]; simp only [go_sem, yz0, Int.reduceLT, reduceLE, reduceToNat, reduceNeg, Nat.reduceLT, reduceLeDiff, reduceMul, reduceSub, reduceIte, reduceEqDiff, reduceAdd, reduceCtorEq], ?_⟩
  rw [Option.getD_some, callHp_mr (by omega)]
  simp only [Az4y, ← hQ, Nat.not_lt_zero, range1, yzx, yz10, yz15, yz14, yz11, yz18, yz17, yz16, yzz, yzp, yzh, yz3, yzv, yzs, yzq, yzn, yzu, yzd, yze, yz8, yzc, yzm, yzj, yz2, yzb, yz9, yz7, yzl, yzk, List.range_zero, yz4, yz5, yza, yzo, yzf, yzt, AVal.fresh, freshL, yz1, yzi, AObj.fresh, id, Option.isSome_some, or_true, true_or, go_sem, yz0, Int.reduceLT, reduceLE, reduceToNat, reduceNeg, Nat.reduceLT, reduceLeDiff, reduceMul, reduceSub, reduceIte, reduceEqDiff, reduceAdd, reduceCtorEq]
  refine ⟨[8], by simp, by simp, by simp, ?_⟩
  simp only [range1, List.length_singleton, Nat.not_lt_zero, range1, yzx, yz10, yz15, yz14, yz11, yz18, yz17, yz16, yzz, yzp, yzh, yz3, yzv, yzs, yzq, yzn, yzu, yzd, yze, yz8, yzc, yzm, yzj, yz2, yzb, yz9, yz7, yzl, yzk, List.range_zero, yz4, yz5, yza, yzo, yzf, yzt, AVal.fresh, freshL, yz1, yzi, AObj.fresh, id, Option.isSome_some, or_true, true_or, go_sem, yz0, Int.reduceLT, reduceLE, reduceToNat, reduceNeg, Nat.reduceLT, reduceLeDiff, reduceMul, reduceSub, reduceIte, reduceEqDiff, reduceAdd, reduceCtorEq]
  exact ⟨n, next, _, P, h4, h2, rfl, rfl⟩
end Go.Ab
namespace Go.Ab
open Go.Proofs
theorem rwo_getD {xss : List (List Int)} {i : Nat} (h : i < xss.length) : (rwo xss).getD i .any = .ro (some (some 0)) 1 (ints (xss.getD i [])) := by
  rw [List.getD_eq_getElem?_getD, List.getD_eq_getElem?_getD, rwo, List.getElem?_map, List.getElem?_eq_getElem h]; rfl
theorem coeL_rwno {hp : Nat → AObj} {m : List Nat} {len : Bool} : ∀ {xss : List (List Int)}, CoeL hp m len (rwn xss) (rwo xss) = True
  | [] => by simp [rwn, rwo, CoeL]
  | xs :: xss => by
    have ih := coeL_rwno (hp := hp) (m := m) (len := len) (xss := xss)
    simp only [rwn, rwo, List.map_cons] at ih ⊢
    rw [yz13, coe_ro, ih]
    exact eq_true ⟨⟨by omega, coeL_ints⟩, trivial⟩
abbrev NamF (P : Program) (g : FuncId) (args : List AVal) (m : Int) (next : List (List Int)) (states : List Int) : Prop :=
  Fn P g args fun rows res => ∃ v ps, rows = [.row v 1 true (rwp ps)] ∧ Filling next states (ps.map (·.2)) ∧ DJ ps ∧ res = .st [iv m, .own 6000 v]
theorem k_filled (n : Int) (next : List (List Int)) (P : Prt n next) (states : List Int) (hst : states.length = (gapsP next next.length).length) (hs30 : states.length ≤ 100) :
    NamF Tryz.prog nzs [autA n next, .ro none 1 (ints states)] n next states := by
  refine con_old ?_ (fun outs rows res hR => by
    obtain ⟨h, v, ps, rfl, _, _, rfl⟩ := hR
    exact ⟨h, fun o ho => by rw [List.mem_singleton.1 ho]; exact fresh_rwp, by simp [AVal.fresh, freshL]⟩)
  simp only [oldL, AVal.oldn, oldL_ints, oldL_rwn]
  refine con_of mixed czhz rfl (by simp) ?_
  generalize hQ : finQ _ = Q
  have n1 := P.n1
  have n2 := P.n2
  have l1 := P.l1
  have l2 := P.l2
  simp only [Az6c, Bzd5, wpD_kp, yzy, go_sem, yz0, Int.reduceLT, reduceLE, reduceToNat, reduceNeg, Nat.reduceLT, reduceLeDiff, reduceMul, reduceSub, reduceIte, reduceEqDiff, reduceAdd, reduceCtorEq]
  intro vs0 U0 hN0 vs1 U1 hN1
  simp only [Bzd4, wpD_kp, yzy, go_sem, yz0, Int.reduceLT, reduceLE, reduceToNat, reduceNeg, Nat.reduceLT, reduceLeDiff, reduceMul, reduceSub, reduceIte, reduceEqDiff, reduceAdd, reduceCtorEq]
  intro vs2 U2 hN2 hM
  simp only [Bzcx, wpD_kp, yzy, go_sem, yz0, Int.reduceLT, reduceLE, reduceToNat, reduceNeg, Nat.reduceLT, reduceLeDiff, reduceMul, reduceSub, reduceIte, reduceEqDiff, reduceAdd, reduceCtorEq]
  intro ver
  have hM2 := maxLen_le
  refine wpD_lp (fun (_, _, _, ps) => next.length - List.length ps)
    (fun (nn, _, _, ps) => List.map (·.2) ps = next.take (List.length ps) ∧ List.length ps ≤ next.length ∧ DJ ps ∧ (ps ≠ [] → nn = true))
    (fun ((nn, v5, va, ps) : Bool × Nat × Nat × List (Nat × List Int)) => ⟨L .any [(1, .ro (some (some 0)) 1 (ints states)), (2, .ptr 2 (vs0 0 0) 0), (4, .ptr 4 (vs0 1 0) 0), (5, .ptr 5 v5 0), (14, .ro (some (some 0)) 1 (rwo next)), (15, iv next.length), (16, iv ps.length)],
      L .gone [(2, .box (vs0 0 0) [iv n, .ro (some (some 0)) 1 (rwo next)]), (4, .box (vs0 1 0) [iv 0, nilS]), (5, .box v5 [iv n, .own 25 va]), (25, .row va 1 nn (rwp ps)), (5000, .gone), (5001, .gone), (901, .gone)]⟩)
    (_, _, _, []) ⟨rfl, by simp, by simp [DJ], by simp⟩ (by simp only [Bz3a, List.length_nil, rwp_nil, wpD_kp, yzy, go_sem, yz0, Int.reduceLT, reduceLE, reduceToNat, reduceNeg, Nat.reduceLT, reduceLeDiff, reduceMul, reduceSub, reduceIte, reduceEqDiff, reduceAdd, reduceCtorEq]; try rfl) ?_
  rintro ⟨nn, v5, va, ps⟩ ⟨hp1, hp2, hp3, hp4⟩
  have hp1 : ps.map (·.2) = next.take ps.length := hp1
  have hp2 : ps.length ≤ next.length := hp2
  have hp3 : DJ ps := hp3
  have hp4 : ps ≠ [] → nn = true := hp4
  by_cases hlt : (ps.length : Int) < next.length
  · have hlt1 : ps.length < next.length := by omega
    have hrow := P.row _ (yzw hlt1 [])
    simp only [Bz3a, Bz6a, Bzcw, rwo_getD hlt1, decide_eq_true hlt, wpD_kp, yzy, go_sem, yz0, Int.reduceLT, reduceLE, reduceToNat, reduceNeg, Nat.reduceLT, reduceLeDiff, reduceMul, reduceSub, reduceIte, reduceEqDiff, reduceAdd, reduceCtorEq]
    intro vs3 U3 hN3 vs4 U4 hN4
    refine ⟨⟨by omega, hlt1⟩, hlt1, ?_⟩
    have hrw : next.getD ps.length [] = next[ps.length] := by rw [List.getD_eq_getElem?_getD, List.getElem?_eq_getElem hlt1]; rfl
    generalize next.getD ps.length [] = row at hrow hrw ⊢
    simp only [Bzcu, wpD_kp, yzy, go_sem, yz0, Int.reduceLT, reduceLE, reduceToNat, reduceNeg, Nat.reduceLT, reduceLeDiff, reduceMul, reduceSub, reduceIte, reduceEqDiff, reduceAdd, reduceCtorEq]
    intro vs5 U5 hN5
    have hca : argN row = none := by unfold argN; rw [if_neg (by omega)]
    have hck := k_Clone row (by omega)
    rw [hca] at hck
    refine call_rowIs hck qCS rfl ⟨_, rfl⟩ ?_
    rintro ys w rfl
    have hU := hN5.hp 25
    simp only [AObj.uses, go_sem, yz0, Int.reduceLT, reduceLE, reduceToNat, reduceNeg, Nat.reduceLT, reduceLeDiff, reduceMul, reduceSub, reduceIte, reduceEqDiff, reduceAdd, reduceCtorEq] at hU
    have hold := usesL_rwp (rest := []) (by rw [List.append_nil]; exact hU.2)
    have hfresh : ∀ p ∈ ps, p.2 = [] ∨ p.1 ≠ vs5 3 w := fun p hp => by
      rcases hold p hp with h | h
      · exact .inl h
      · exact .inr fun e => hN5.new 3 w (e ▸ h)
    simp only [wpD_kp, yzy, go_sem, yz0, Int.reduceLT, reduceLE, reduceToNat, reduceNeg, Nat.reduceLT, reduceLeDiff, reduceMul, reduceSub, reduceIte, reduceEqDiff, reduceAdd, reduceCtorEq]
    rw [rwp_len]
    refine ⟨by omega, ?_⟩
    simp only [Bzcv, nat1 _ _ hlt1 hM, rwp_snoc, wpD_kp, yzy, go_sem, yz0, Int.reduceLT, reduceLE, reduceToNat, reduceNeg, Nat.reduceLT, reduceLeDiff, reduceMul, reduceSub, reduceIte, reduceEqDiff, reduceAdd, reduceCtorEq]
    intro vs6 U6 hN6
    refine ⟨(true, v5, vs5 5 0, ps ++ [(vs5 3 w, ys)]), by dsimp only; rw [List.length_append, List.length_singleton]; omega, ⟨?_, by dsimp only; rw [List.length_append, List.length_singleton]; omega, hp3.snoc hfresh, by simp⟩, ?_⟩
    · dsimp only
      rw [List.map_append, hp1, List.length_append, List.length_singleton, List.take_succ_eq_append_getElem hlt1, ← hrw]; rfl
    · dsimp only
      rw [List.length_append, List.length_singleton]
  · have hlen : ps.length = next.length := by omega
    rw [hlen, List.take_length] at hp1
    have hnn := hp4 (fun e => by rw [e] at hlen; simp at hlen; omega)
    subst hnn
    simp only [Bz3a, Bz6a, Bzd3, decide_eq_false hlt, wpD_kp, yzy, go_sem, yz0, Int.reduceLT, reduceLE, reduceToNat, reduceNeg, Nat.reduceLT, reduceLeDiff, reduceMul, reduceSub, reduceIte, reduceEqDiff, reduceAdd, reduceCtorEq]
    intro vs3 U3 hN3 vs4 U4 hN4
    refine call_fn (k_gaps n next P) (by simp only [coeL_rwno, rowIs, boxIs, coe_argN, coe_argNs, coe_ro_o, coeL_nil, yz13, coe_any, coe_val, coe_ro, coe_ro_nil, coe_ro_own, coe_st, coe_st_agg, coe_rp, coe_rp_ptr, coe_clo, coe_own0, coe_ptr0, yz19, coeL_rws, coeL_rwn, L_hit, L_miss, L_nil, reduceEqDiff, ne_eq, reduceCtorEq, not_false_eq_true, true_and, and_true, and_self, exists_eq_left, exists_eq_right, List.mem_cons, List.not_mem_nil, or_false, AObj.row.injEq, AObj.box.injEq, exists_eq_left', exists_and_left, exists_eq, Nat.zero_lt_one, Nat.lt_add_one, List.map_cons, List.map_nil, AObj.ver, Nat.reduceLT, not_true_eq_false]) (fun e => by cases e) ?_
    rintro rows res ⟨vg, rfl, rfl⟩
    refine ⟨by simp, by rw [Option.getD_some, yzf]; simp only [go_sem, yz0, Int.reduceLT, reduceLE, reduceToNat, reduceNeg, Nat.reduceLT, reduceLeDiff, reduceMul, reduceSub, reduceIte, reduceEqDiff, reduceAdd, reduceCtorEq], ?_⟩
    have hgl : (gapsF next next.length).length / 2 = states.length := by
      rw [gaps_flat, flat2_len, hst]; omega
    simp only [Option.getD_some, hgl, wpD_kp, yzy, Nat.not_lt_zero, range1, yzx, yz10, yz15, yz14, yz11, yz18, yz17, yz16, yzz, yzp, yzh, yz3, yzv, yzs, yzq, yzn, yzu, yzd, yze, yz8, yzc, yzm, yzj, yz2, yzb, yz9, yz7, yzl, yzk, List.range_zero, yz4, yz5, yza, yzo, yzf, yzt, AVal.fresh, freshL, yz1, yzi, AObj.fresh, id, Option.isSome_some, or_true, true_or, go_sem, yz0, Int.reduceLT, reduceLE, reduceToNat, reduceNeg, Nat.reduceLT, reduceLeDiff, reduceMul, reduceSub, reduceIte, reduceEqDiff, reduceAdd, reduceCtorEq]
    intro _
    have hkl : states.length = (gapsP next next.length).length := hst
    have hgf := gaps_flat (next := next) (k := next.length)
    have hgm := fun l s => mem_gapsP (next := next) (l := l) (s := s)
    generalize hGP : gapsP next next.length = gp at hkl hgf hgm
    simp only [hgf, Bzd1, wpD_kp, yzy, go_sem, yz0, Int.reduceLT, reduceLE, reduceToNat, reduceNeg, Nat.reduceLT, reduceLeDiff, reduceMul, reduceSub, reduceIte, reduceEqDiff, reduceAdd, reduceCtorEq]
    have hF0 : Fil next states (gp.take 0) (ps.map (·.2)) := by rw [hp1]; exact Fil.init
    refine wpD_lp (fun (i, _) => states.length - i) (fun (i, ps) => i ≤ states.length ∧ DJ ps ∧ Fil next states (gp.take i) (List.map (·.2) ps))
      (fun ((i, ps) : Nat × List (Nat × List Int)) => ⟨L .any [(1, .ro (some (some 0)) 1 (ints states)), (4, .ptr 4 (vs0 1 0) 0), (5, .ptr 5 v5 0), (29, .own 29 (vs4 1 vg)), (30, iv states.length), (31, iv i)],
        L .gone [(2, .box (vs0 0 0) [iv n, .ro (some (some 0)) 1 (rwo next)]), (4, .box (vs0 1 0) [iv 0, nilS]), (5, .box v5 [iv n, .own 25 va]), (25, .row va 1 true (rwp ps)), (29, .row (vs4 1 vg) 2 true (ints (flat2 gp))), (5000, .gone), (5001, .gone), (901, .gone)]⟩)
      (0, ps) ⟨by simp, hp3, hF0⟩ (by simp only [Bz3b, wpD_kp, yzy, go_sem, yz0, Int.reduceLT, reduceLE, reduceToNat, reduceNeg, Nat.reduceLT, reduceLeDiff, reduceMul, reduceSub, reduceIte, reduceEqDiff, reduceAdd, reduceCtorEq]; try rfl) ?_
    rintro ⟨i, qs⟩ ⟨hi, hd, hF⟩
    have hi : i ≤ states.length := hi
    have hd : DJ qs := hd
    have hF : Fil next states (gp.take i) (qs.map (·.2)) := hF
    have hql : qs.length = next.length := by have := hF.len; rwa [List.length_map] at this
    by_cases hlt : (i : Int) < states.length
    · have hlt1 : i < states.length := by omega
      have hlt2 : i < gp.length := by omega
      have wi : IntKind.i64.wrap ((i : Int) + 1) = ((i + 1 : Nat) : Int) := by rw [w64 (by omega)]; simp
      have hfa := flat2_at hlt2
      have hpm := yzw hlt2 (0, 0)
      have htk : gp.take (i + 1) = gp.take i ++ [gp.getD i (0, 0)] := by
        rw [List.take_succ_eq_append_getElem hlt2, List.getD_eq_getElem?_getD, List.getElem?_eq_getElem hlt2]; rfl
      generalize gp.getD i (0, 0) = pq at hfa hpm htk
      obtain ⟨l, s⟩ := pq
      obtain ⟨hl, hs, hneg⟩ := (hgm l s).1 hpm
      have hx := yzw hlt1 0
      simp only [Bz3b, Bz6b, Bzd0, decide_eq_true hlt, wpD_kp, yzy, go_sem, yz0, Int.reduceLT, reduceLE, reduceToNat, reduceNeg, Nat.reduceLT, reduceLeDiff, reduceMul, reduceSub, reduceIte, reduceEqDiff, reduceAdd, reduceCtorEq]
      intro vs5 U5 hN5 vs6 U6 hN6
      simp only [flat2_len, hfa, wpD_kp, yzy, go_sem, yz0, Int.reduceLT, reduceLE, reduceToNat, reduceNeg, Nat.reduceLT, reduceLeDiff, reduceMul, reduceSub, reduceIte, reduceEqDiff, reduceAdd, reduceCtorEq]
      refine ⟨⟨by omega, by omega⟩, by omega, ?_⟩
      have hat : l < qs.length := by omega
      have hw1 := P.row _ (yzw hl [])
      obtain ⟨A2, b, C2, rfl, hAk⟩ := rwp_split hat
      have hb2 : ((A2 ++ b :: C2).map (·.2)).getD l [] = b.2 := by
        rw [List.getD_eq_getElem?_getD, List.getElem?_map, List.getElem?_append_right (by omega), hAk, Nat.sub_self]; rfl
      have hbl : b.2.length = (next.getD l []).length := by rw [← hb2]; exact hF.row l hl
      have hbn : b.2 ≠ [] := fun e => by rw [e, List.length_nil] at hbl; have := hw1.1; omega
      have F0a := DJ_out hd hbn
      simp only [Bzcy, wpD_kp, wpD_gh, go_sem, yz0, Int.reduceLT, reduceLE, reduceToNat, reduceNeg, Nat.reduceLT, reduceLeDiff, reduceMul, reduceSub, reduceIte, reduceEqDiff, reduceAdd, reduceCtorEq]
      intro _
      refine ⟨[.thaw 25 l 901], gwp_thaw (n := b.1) rfl (rwp_get hAk.symm) (by simpa using hbn) rfl fun m1 => ?_⟩
      have hset : (woL b.1 (rwp (A2 ++ b :: C2))).set l (AVal.own 901 m1) = rwp A2 ++ AVal.own 901 m1 :: rwp C2 := by rw [← hAk]; exact woL_set F0a
      have ho1 : (rwp A2 ++ AVal.own 901 m1 :: rwp C2).getD l .any = .own 901 m1 := own_at hAk.symm
      have hol : (rwp A2 ++ AVal.own 901 m1 :: rwp C2).length = (A2 ++ b :: C2).length := by rw [List.length_append, List.length_cons, rwp_len, rwp_len, List.length_append, List.length_cons]
      have hdv : (rwp A2 ++ AVal.own 901 m1 :: rwp C2).length / 1 = (A2 ++ b :: C2).length := by rw [Nat.div_one]; exact hol
      simp only [hset, woL_rwo, woT, woO, woL_cons, woL_nil, woV_val, woV_own, wo_ptr, wo_o, woL_ints, wo_st, woO_row, woO_box, woO_gone, wo_any, gwp_nil, wpD_kp, yzy, go_sem, yz0, Int.reduceLT, reduceLE, reduceToNat, reduceNeg, Nat.reduceLT, reduceLeDiff, reduceMul, reduceSub, reduceIte, reduceEqDiff, reduceAdd, reduceCtorEq]
      intro vs7 U7 hN7
      simp only [ho1, hol, yz12 hlt1, wpD_kp, yzy, go_sem, yz0, Int.reduceLT, reduceLE, reduceToNat, reduceNeg, Nat.reduceLT, reduceLeDiff, reduceMul, reduceSub, reduceIte, reduceEqDiff, reduceAdd, reduceCtorEq]
      have hsb : s < b.2.length := by omega
      have hcl := lput_len (xs := b.2) (v := states.getD i 0) hsb
      refine ⟨⟨by omega, hat⟩, hat, ⟨by omega, hlt1⟩, hlt1, ⟨by omega, hsb⟩, by omega, ?_⟩
      have hFs := hF.step (l := l) (s := s) hl hs hneg hx
      rw [hb2, ← lput_set hsb] at hFs
      simp only [ints_put]
      generalize hcu : b.2.take s ++ [states.getD i 0] ++ b.2.drop (s + 1) = cur at hcl hFs ⊢
      simp only [Bzcz, wpD_kp, wpD_gh, go_sem, yz0, Int.reduceLT, reduceLE, reduceToNat, reduceNeg, Nat.reduceLT, reduceLeDiff, reduceMul, reduceSub, reduceIte, reduceEqDiff, reduceAdd, reduceCtorEq]
      intro hD
      refine ⟨[.rf 25 l 901], gwp_rf (k := 1) (nn := true) rfl (own_get hAk.symm) (by decide) rfl fun hf => ?_⟩
      have D1 := DJ_refrozen hd hf (cur := cur)
      have hset4 : ∀ X : AVal, (rwp A2 ++ AVal.own 901 m1 :: rwp C2).set l X = rwp A2 ++ X :: rwp C2 := fun X => by
        rw [← hAk, List.set_append_right _ _ (by rw [rwp_len]; exact Nat.le_refl _), rwp_len, Nat.sub_self]; rfl
      have hF2 : Fil next states (gp.take (i + 1)) ((A2 ++ (m1, cur) :: C2).map (·.2)) := by
        have e : (A2 ++ (m1, cur) :: C2).map (·.2) = ((A2 ++ b :: C2).map (·.2)).set l cur := by
          rw [List.map_append, List.map_append, ← hAk, List.set_append_right _ _ (by rw [List.length_map]; exact Nat.le_refl _), List.length_map, Nat.sub_self]; rfl
        rw [e, htk]; exact hFs
      simp only [hset4, frNm_t, rwp_cat, gwp_nil, wi, wpD_kp, yzy, go_sem, yz0, Int.reduceLT, reduceLE, reduceToNat, reduceNeg, Nat.reduceLT, reduceLeDiff, reduceMul, reduceSub, reduceIte, reduceEqDiff, reduceAdd, reduceCtorEq]
      intro vs8 U8 hN8
      exact ⟨(i + 1, A2 ++ (m1, cur) :: C2), by dsimp only; omega, ⟨by dsimp only; omega, D1, hF2⟩, rfl⟩
    · obtain rfl : i = states.length := by omega
      rw [hkl, List.take_length] at hF
      simp only [Bz3b, Bz6b, Bzd2, decide_eq_false hlt, Az6c, ← hQ, wpD_kp, yzy, go_sem, yz0, Int.reduceLT, reduceLE, reduceToNat, reduceNeg, Nat.reduceLT, reduceLeDiff, reduceMul, reduceSub, reduceIte, reduceEqDiff, reduceAdd, reduceCtorEq]
      intro vs5 U5 hN5 vs6 U6 hN6
      refine ⟨[25], by simp, by simp, by simp, ?_⟩
      simp only [range1, List.length_singleton, renL_rwp, Nat.not_lt_zero, range1, yzx, yz10, yz15, yz14, yz11, yz18, yz17, yz16, yzz, yzp, yzh, yz3, yzv, yzs, yzq, yzn, yzu, yzd, yze, yz8, yzc, yzm, yzj, yz2, yzb, yz9, yz7, yzl, yzk, List.range_zero, yz4, yz5, yza, yzo, yzf, yzt, AVal.fresh, freshL, yz1, yzi, AObj.fresh, id, Option.isSome_some, or_true, true_or, wpD_kp, yzy, go_sem, yz0, Int.reduceLT, reduceLE, reduceToNat, reduceNeg, Nat.reduceLT, reduceLeDiff, reduceMul, reduceSub, reduceIte, reduceEqDiff, reduceAdd, reduceCtorEq]
      subst hGP
      exact ⟨fresh_rwp, va, qs, by simp, hF.all, hd, rfl⟩
end Go.Ab
namespace Go.Ab
open Go.Proofs
theorem StsOf.allIn {n : Int} {k : Nat} {xs : List Int} (h : StsOf n k xs) : allIn xs 0 (n - 1) = true := by
  simp only [Go.Ab.allIn, List.all_eq_true]
  intro x hx
  have := h.2 x hx
  simp; omega
theorem gaps_half {next : List (List Int)} : (gapsF next next.length).length / 2 = (gapsP next next.length).length := by rw [gaps_flat, flat2_len]; omega
theorem gapsP_len {n : Int} {next : List (List Int)} (P : Prt n next) : (gapsP next next.length).length ≤ 100 := by
  have h := gapsF_len (next := next) (fun r hr => by have := (P.row r hr).1; have := P.n2; omega) (Nat.le_refl next.length)
  have h2 := gaps_half (next := next)
  have := P.l2
  omega
theorem k_FillGaps (n : Int) (next : List (List Int)) (P : Prt n next) (states : List Int) (hst : StsOf n (gapsP next next.length).length states) :
    Fn Tryz.prog nz3z [autA n next, .ro none 1 (ints states)] fun rows res => ∃ v ws, rows = [.row v 1 true (rws ws)] ∧ Filling next states ws ∧ res = .tup [.st [iv n, .own 6000 v], iv 0] := by
  refine con_of mixed czha rfl (by simp) ?_
  have n1 := P.n1
  have n2 := P.n2
  have hal := hst.allIn
  have hgh := gaps_half (next := next)
  have hg100 := gapsP_len P
  have w1 : IntKind.i64.wrap (n - 1) = n - 1 := w64 (by omega)
  have hlen : ((states.length : Int) != (((gapsF next next.length).length / 2 : Nat) : Int)) = false := by rw [hgh, hst.1]; simp
  have hF : Fn Tryz.prog nzs [autA n next, .ro none 1 (ints states)] fun rows res => ∃ v ws, rows = [.row v 1 true (rws ws)] ∧ Filling next states ws ∧ res = .st [iv n, .own 6000 v] := by
    refine Con.dnr (k_filled n next P states hst.1 (by rw [hst.1]; exact hg100)) ?_
    rintro o r x ⟨h, v, ps, rfl, hf, _, rfl⟩
    refine ⟨by rw [h]; rfl, v, ps.map (·.2), ?_, hf, ?_⟩
    · simp only [List.map_cons, List.map_nil, AObj.dn, dnL_rwp]
    · simp only [AVal.dn, dnL]
  generalize hQ : finQ _ = Q
  simp only [Az56, Bz92, go_sem, yz0, Int.reduceLT, reduceLE, reduceToNat, reduceNeg, Nat.reduceLT, reduceLeDiff, reduceMul, reduceSub, reduceIte, reduceEqDiff, reduceAdd, reduceCtorEq]
  intro vs vs2
  refine yzr (k_ValidPartial n next P) qCS trivial ?_
  simp only [Bz90, Bool.not_true, go_sem, yz0, Int.reduceLT, reduceLE, reduceToNat, reduceNeg, Nat.reduceLT, reduceLeDiff, reduceMul, reduceSub, reduceIte, reduceEqDiff, reduceAdd, reduceCtorEq]
  intro vs3 _
  refine call_fn (k_gaps n next P) qCS (fun e => by cases e) ?_
  rintro rows res ⟨v, rfl, rfl⟩
  refine ⟨by simp, by rw [Option.getD_some, yzf]; simp only [go_sem, yz0, Int.reduceLT, reduceLE, reduceToNat, reduceNeg, Nat.reduceLT, reduceLeDiff, reduceMul, reduceSub, reduceIte, reduceEqDiff, reduceAdd, reduceCtorEq], ?_⟩
  simp only [Option.getD_some, hlen, Nat.not_lt_zero, range1, yzx, yz10, yz15, yz14, yz11, yz18, yz17, yz16, yzz, yzp, yzh, yz3, yzv, yzs, yzq, yzn, yzu, yzd, yze, yz8, yzc, yzm, yzj, yz2, yzb, yz9, yz7, yzl, yzk, List.range_zero, yz4, yz5, yza, yzo, yzf, yzt, AVal.fresh, freshL, yz1, yzi, AObj.fresh, id, Option.isSome_some, or_true, true_or, go_sem, yz0, Int.reduceLT, reduceLE, reduceToNat, reduceNeg, Nat.reduceLT, reduceLeDiff, reduceMul, reduceSub, reduceIte, reduceEqDiff, reduceAdd, reduceCtorEq]
  intro _
  simp only [w1, go_sem, yz0, Int.reduceLT, reduceLE, reduceToNat, reduceNeg, Nat.reduceLT, reduceLeDiff, reduceMul, reduceSub, reduceIte, reduceEqDiff, reduceAdd, reduceCtorEq]
  refine yzr (k_areWithin states 0 (n - 1)) qCS trivial ?_
  simp only [hal, Bool.not_true, Bz8z, Bz91, go_sem, yz0, Int.reduceLT, reduceLE, reduceToNat, reduceNeg, Nat.reduceLT, reduceLeDiff, reduceMul, reduceSub, reduceIte, reduceEqDiff, reduceAdd, reduceCtorEq]
  intro vs4
  refine call_fn hF qCS (fun e => by cases e) ?_
  rintro rows res ⟨v, ws, rfl, hf, rfl⟩
  refine ⟨by simp, by rw [Option.getD_some, yzf]; simp only [go_sem, yz0, Int.reduceLT, reduceLE, reduceToNat, reduceNeg, Nat.reduceLT, reduceLeDiff, reduceMul, reduceSub, reduceIte, reduceEqDiff, reduceAdd, reduceCtorEq], ?_⟩
  simp only [Option.getD_some, Az56, ← hQ, Nat.not_lt_zero, range1, yzx, yz10, yz15, yz14, yz11, yz18, yz17, yz16, yzz, yzp, yzh, yz3, yzv, yzs, yzq, yzn, yzu, yzd, yze, yz8, yzc, yzm, yzj, yz2, yzb, yz9, yz7, yzl, yzk, List.range_zero, yz4, yz5, yza, yzo, yzf, yzt, AVal.fresh, freshL, yz1, yzi, AObj.fresh, id, Option.isSome_some, or_true, true_or, go_sem, yz0, Int.reduceLT, reduceLE, reduceToNat, reduceNeg, Nat.reduceLT, reduceLeDiff, reduceMul, reduceSub, reduceIte, reduceEqDiff, reduceAdd, reduceCtorEq]
  refine ⟨[29], by simp, by simp, by simp, ?_⟩
  simp only [range1, List.length_singleton, Nat.not_lt_zero, range1, yzx, yz10, yz15, yz14, yz11, yz18, yz17, yz16, yzz, yzp, yzh, yz3, yzv, yzs, yzq, yzn, yzu, yzd, yze, yz8, yzc, yzm, yzj, yz2, yzb, yz9, yz7, yzl, yzk, List.range_zero, yz4, yz5, yza, yzo, yzf, yzt, AVal.fresh, freshL, yz1, yzi, AObj.fresh, id, Option.isSome_some, or_true, true_or, go_sem, yz0, Int.reduceLT, reduceLE, reduceToNat, reduceNeg, Nat.reduceLT, reduceLeDiff, reduceMul, reduceSub, reduceIte, reduceEqDiff, reduceAdd, reduceCtorEq]
  exact ⟨_, ws, rfl, hf, rfl⟩
end Go.Ab
namespace Go.Ab
open Go Go.Proofs
theorem cE28 : cElem Tryz.prog 28 = some (1, 8, .int .i64 0) := by kernel_rfl
abbrev Pushed (w1 : World) (t : TypeId) (A : List Value) (w : World) : Prop := w.os = w1.os ∧ w.tape = w1.tape ∧ w.output = w1.output ∧ w.heap = w1.heap.push (.cells A.toArray t (0, 0))
theorem pushed_set {w1 w : World} {t : TypeId} {A B : List Value} (h : Pushed w1 t A w) : Pushed w1 t B (w.setRow w1.heap.size B.toArray) := by
  obtain ⟨h1, h2, h3, h4⟩ := h
  refine ⟨h1, h2, h3, ?_⟩
  simp only [World.setRow, h4]
  apply Array.ext
  · simp
  · intro i hi1 hi2
    rw [Array.getElem_modify]
    by_cases e : w1.heap.size = i
    · subst e; simp
    · have hlt : i < w1.heap.size := by simp at hi2; omega
      simp [e, hlt, Array.getElem_push]
theorem pushed_row {w1 w : World} {t : TypeId} {A : List Value} (h : Pushed w1 t A w) : w.heap[w1.heap.size]? = some (.cells A.toArray t (0, 0)) := by rw [h.2.2.2]; simp
theorem pushed_cell {w1 w : World} {t : TypeId} {A : List Value} (h : Pushed w1 t A w) {b off : Nat} (hb : b < w1.heap.size) : w.cell? ⟨b, off, none⟩ = w1.cell? ⟨b, off, none⟩ := by
  refine World.cell?_of_block ?_
  have hb2 : b ≠ w1.heap.size := Nat.ne_of_lt hb
  show w.heap[b]? = w1.heap[b]?
  rw [h.2.2.2, Array.getElem?_push, if_neg hb2]
theorem pushed_at {w1 w : World} {t : TypeId} {A : List Value} (h : Pushed w1 t A w) {i : Nat} {v : Value} (hv : A[i]? = some v) : w.cell? ⟨w1.heap.size, i, none⟩ = some v := by
  have e : w.cell? ⟨w1.heap.size, i, none⟩ = (w1.alloc (.cells A.toArray t)).cell? ⟨w1.heap.size, i, none⟩ := by
    refine World.cell?_of_block ?_
    show w.heap[w1.heap.size]? = (w1.heap.push (.cells A.toArray t (0, 0)))[w1.heap.size]?
    rw [h.2.2.2]
  rw [e, World.cell?_alloc_at _ _ _ _ rfl]
  simpa using hv
theorem copy_both {P : Program} {w : World} {ops : Array Oper} {rest : List Oper} {o : Oper} {a : Act} {Q : Exit → Act → World → Prop} (hgd : o.guard = none) (d s : Operand) (dT sT : TypeId)
    (ho : o.op = .call { callee := .builtin .copy, args := #[d, s], argTypes := #[dT, sT] }) (elem : TypeId) (hu : P.underlying dT = some (.slice elem)) (hsz : (P.info? elem).map (·.size) = some 1)
    (g off dLen dCap : Nat) (ad : Addr) (sLen sCap : Nat) (hd : a.eval d = .slice (some ⟨g, off, none⟩) dLen dCap) (hs : a.eval s = .slice (some ad) sLen sCap)
    (cur : Array Value) (t : TypeId) (hg : w.heap[g]? = some (.cells cur t (0, 0))) (cs : List Value) (hn : cs.length = Nat.min sLen dLen)
    (hsrc : ∀ j v, cs[j]? = some v → w.cell? (ad.add j) = some v) (hfit : off + cs.length ≤ cur.size) (h1 : ∀ v ∈ cs, v.oneCell' = true)
    (h : ∀ w', (cs = [] ∧ w' = w ∨ w' = w.setRow g (cur.toList.take off ++ (cs ++ cur.toList.drop (off + cs.length))).toArray) → wpList P ops Q rest (a.put o.dst (goInt cs.length)) w') : wpList P ops Q (o :: rest) a w := by
  by_cases h0 : cs = []
  · subst h0
    exact wpList_copy_nothing hgd d s dT sT ho elem hu hsz _ _ dLen dCap sLen sCap hd hs (by simpa using hn.symm) (h w (.inl ⟨rfl, rfl⟩))
  · exact wpList_copy_own hgd d s dT sT ho elem hu hsz g off dLen dCap ad sLen sCap hd hs cur t hg cs hn hsrc hfit h1 (h _ (.inr rfl))
theorem step_copy {P : Program} {ops : Array Oper} {o : Oper} {a : Act} {w : World} {K : Act → World → Prop} {Q : Exit → Act → World → Prop} {E : Prop} (hgd : o.guard = none) (d s : Operand) (dT sT : TypeId)
    (ho : o.op = .call { callee := .builtin .copy, args := #[d, s], argTypes := #[dT, sT] }) (elem : TypeId) (hu : P.underlying dT = some (.slice elem)) (hsz : (P.info? elem).map (·.size) = some 1)
    (g off dLen dCap : Nat) (ad : Addr) (sLen sCap : Nat) (hd : a.eval d = .slice (some ⟨g, off, none⟩) dLen dCap) (hs : a.eval s = .slice (some ad) sLen sCap)
    (cur : Array Value) (t : TypeId) (hg : w.heap[g]? = some (.cells cur t (0, 0))) (cs : List Value) (hn : cs.length = Nat.min sLen dLen)
    (hsrc : ∀ j v, cs[j]? = some v → w.cell? (ad.add j) = some v) (hfit : off + cs.length ≤ cur.size) (h1 : ∀ v ∈ cs, v.oneCell' = true)
    (hK : K (a.put o.dst (goInt cs.length)) (w.setRow g (cur.toList.take off ++ (cs ++ cur.toList.drop (off + cs.length))).toArray)) :
    if Region.wanted o (yielded ops a.tmps) = true then Oper.wp P o a w K Q else E := by
  have hw : Region.wanted o (yielded ops a.tmps) = true := by simp [Region.wanted, hgd]
  rw [if_pos hw]
  have hrun := run_copy_row (P := P) w dT sT o.type elem g off dLen dCap ad sLen sCap cur t cs hu hsz hg hn hsrc hfit h1
  unfold Oper.wp
  simp [execOp, ho, resolve, invoke, builtin, hd, hs, hrun, Result.andThen]
  exact hK
theorem rep_one {v : Value} : ∀ {n : Nat}, (List.replicate n [v]).flatten = List.replicate n v
  | 0 => rfl
  | n + 1 => by rw [List.replicate_succ, List.flatten_cons, rep_one (n := n), List.replicate_succ]; rfl
abbrev rowk (x : Int) (k m : Nat) : List Value := List.replicate m (.int .i64 x) ++ List.replicate (k - m) (.int .i64 0)
theorem rowk_put {x : Int} {k m c : Nat} (h : m + c ≤ k) : (rowk x k m).take m ++ (List.replicate c (.int .i64 x) ++ (rowk x k m).drop (m + c)) = rowk x k (m + c) := by
  rw [List.take_left' (by simp), List.drop_append, List.drop_eq_nil_of_le (by simp), List.length_replicate, List.nil_append, Nat.add_sub_cancel_left, List.drop_replicate, ← List.append_assoc, List.replicate_append_replicate]
  congr 2; omega
theorem rep_walk (b off cap : Nat) (x : Int) (k : Nat) (hk : k ≤ 1000) (w : World) (T : World → Prop) (hT : ∀ w1, T w1 → w1.cell? ⟨b, off, none⟩ = some (.int .i64 x) ∧ b < w1.heap.size)
    (hMul : Calls Tryz.prog 73 #[.int .u64 1, .int .u64 (k : Int)] w fun e w' => e = .returned (.tuple #[.int .u64 0, .int .u64 (k : Int)]) ∧ T w') :
    Calls Tryz.prog 45 #[.slice (some ⟨b, off, none⟩) 1 cap, .int .i64 (k : Int)] w fun e w' => ∃ w1 t, T w1 ∧ e = .returned (.slice (some ⟨w1.heap.size, 0, none⟩) k k) ∧ Pushed w1 t (List.replicate k (.int .i64 x)) w' := by
  obtain ⟨t, i, hu, hi, hz, hsz, hby, _, _, _⟩ := cElem_spec cE28
  have hwk : IntKind.u64.wrap (k : Int) = k := u64w (by omega)
  have hwi : IntKind.i64.wrap (k : Int) = k := w64 (by omega)
  go_enter Tryz.func45, Tryz.ntmps45
  iterate 43 go_step
  go_step
  refine hMul.mono ?_
  rintro e w1 ⟨rfl, hT1⟩
  obtain ⟨hc, hbl⟩ := hT w1 hT1
  clear hMul hT
  simp only []
  have hk9 : ¬ (k : Int) > 9223372036854775807 := by omega
  iterate 55 go_step
  have hmk := run_make (P := Tryz.prog) w1 28 t i _ hu hi hz .i64 .i64 (k : Int) (k : Int) (by omega) (by omega) (by rw [hby]; omega) (by omega)
  rw [hmk, Result.andThen_ok]
  have hP0 : Pushed w1 t (List.replicate k (.int .i64 0)) (w1.alloc (.cells (madeCells (Value.int .i64 0).cells ((k : Int).toNat * i.size)) t)) := by
    refine ⟨rfl, rfl, rfl, ?_⟩
    have hcells : (madeCells (Value.int .i64 0).cells ((k : Int).toNat * i.size)).toList = List.replicate k (.int .i64 0) := by
      rw [hsz, Int.toNat_natCast]
      have := madeCells_list [Value.int .i64 0] k 1 (by omega) rfl
      rw [show (Value.int .i64 0).cells = [Value.int .i64 0].toArray from rfl, this, rep_one]
    show w1.heap.push _ = _
    rw [← hcells]
  generalize w1.alloc (.cells (madeCells (Value.int .i64 0).cells ((k : Int).toNat * i.size)) t) = w2 at hP0 ⊢
  simp only [Int.toNat_natCast]
  iterate 16 go_step
  have hP1 : Pushed w1 t (rowk x k 0) w2 := by
    have e : rowk x k 0 = List.replicate k (.int .i64 0) := by simp [rowk]
    rw [e]; exact hP0
  have hs1 : (Tryz.prog.info? t).map (·.size) = some 1 := by rw [hi, Option.map_some, hsz]
  refine copy_both rfl (.tmp 31) (.tmp 32) 28 28 rfl t hu hs1 w1.heap.size 0 k k ⟨b, off, none⟩ 1 cap rfl rfl (rowk x k 0).toArray t (pushed_row hP1) (List.replicate (min 1 k) (.int .i64 x)) (by simp) (fun j v hv => ?_) (by simp; omega) (fun v hv => by rw [(List.mem_replicate.1 hv).2]; rfl) (fun w3 h3 => ?_)
  · rw [List.getElem?_replicate] at hv
    split at hv
    · rename_i hj
      cases hv
      obtain rfl : j = 0 := by omega
      show w2.cell? ⟨b, off + 0, none⟩ = _
      rw [Nat.add_zero, pushed_cell hP1 hbl]; exact hc
    · cases hv
  have hP3 : Pushed w1 t (rowk x k (min 1 k)) w3 := by
    rcases h3 with ⟨hn, rfl⟩ | rfl
    · have : min 1 k = 0 := by simpa using congrArg List.length hn
      rw [this]; exact hP1
    · have := pushed_set (B := rowk x k (min 1 k)) hP1
      have e := rowk_put (x := x) (k := k) (m := 0) (c := min 1 k) (by omega)
      rw [Nat.zero_add] at e
      rw [List.length_replicate, Nat.zero_add, e]; exact this
  clear h3 hP1 hP0
  iterate 8 go_step
  refine wp_loop_ix (a := ?aa) (fun n a w' => ∃ (m : Nat) (v : Nat → Value), n = k - m ∧ m ≤ k ∧ (m = 0 → k = 0) ∧ Pushed w1 t (rowk x k m) w' ∧ a = ⟨#[v 0, v 1, v 2, v 3, v 4, v 5, v 6, Value.slice (some ⟨w1.heap.size, 0, none⟩) k k, Value.int .i64 (m : Int), v 9, v 10, v 11, v 12, v 13, v 14, v 15, v 16, v 17, v 18, v 19, v 20, v 21, v 22, v 23, v 24, v 25, v 26, v 27, v 28, v 29, v 30, v 31, v 32, v 33, v 34, v 35, v 36, v 37, v 38, v 39, v 40, v 41, v 42, v 43, v 44, v 45, v 46, v 47], []⟩) ⟨_, min 1 k, fun j => (Act.tmps ?aa).getD j undef, rfl, by omega, by omega, hP3, ?_⟩ ?_
  · rfl
  · rintro n a w' ⟨m, v, rfl, hm, hm0, hP, rfl⟩
    iterate 24 go_step
    · have hd1 : Pushed w1 t (rowk x k m) w'.drew := hP
      have hmk1 : (0 : Int) ≤ m := by omega
      have hmk2 : (m : Int) ≤ k := by omega
      have hmt : ((m : Int)).toNat = m := by omega
      have hkm : ¬ k = m := by omega
      have hso : ∀ W : World, (sizeOf t).run Tryz.prog W = .ok 1 W := fun W => by simp [sizeOf, typeInfo, hi, hsz]
      have hsrc : ∀ (j : Nat) (v : Value), (List.replicate (min m (k - m)) (Value.int .i64 x))[j]? = some v → w'.drew.cell? (Addr.add ⟨w1.heap.size, 0, none⟩ j) = some v := by
        intro j v hv
        rw [List.getElem?_replicate] at hv
        split at hv
        · rename_i hj
          cases hv
          have ea : Addr.add ⟨w1.heap.size, 0, none⟩ j = ⟨w1.heap.size, j, none⟩ := by rw [addr_add, Nat.zero_add]
          rw [ea]
          refine pushed_at hd1 ?_
          rw [List.getElem?_append_left (by rw [List.length_replicate]; omega), List.getElem?_replicate, if_pos (by omega)]
        · cases hv
      go_region_law (refine step_copy rfl (.tmp 41) (.tmp 44) 28 28 rfl t hu hs1 w1.heap.size m (k - m) (k - m) ⟨w1.heap.size, 0, none⟩ m k (by simp [Act.eval, Act.put]) (by simp [Act.eval, Act.put]) (rowk x k m).toArray t (pushed_row hd1) (List.replicate (min m (k - m)) (.int .i64 x)) (by rw [List.length_replicate]) hsrc (by simp <;> omega) (fun v hv => by rw [(List.mem_replicate.1 hv).2]; rfl) ?_)
      iterate 3 go_step
      have hww : IntKind.i64.wrap ((m : Int) + ((min m (k - m) : Nat) : Int)) = ((m + min m (k - m) : Nat) : Int) := by rw [w64 (by omega)]; omega
      have e := rowk_put (x := x) (k := k) (m := m) (c := min m (k - m)) (by omega)
      rw [List.take_left' (by simp)] at e
      rw [hww, e]
      refine ⟨k - (m + min m (k - m)), by omega, m + min m (k - m), fun j => ([(34, .int .i64 (m : Int)), (35, .slice (some ⟨w1.heap.size, 0, none⟩) k k), (36, .int .i64 (k : Int)), (37, .bool true), (38, .int .i64 (m : Int)), (39, .slice (some ⟨w1.heap.size, 0, none⟩) k k), (40, .int .i64 (m : Int)), (41, .slice (some ⟨w1.heap.size, m, none⟩) (k - m) (k - m)), (42, .slice (some ⟨w1.heap.size, 0, none⟩) k k), (43, .int .i64 (m : Int)), (44, .slice (some ⟨w1.heap.size, 0, none⟩) m k), (45, .int .i64 ((min m (k - m) : Nat) : Int)), (46, .int .i64 ((m + min m (k - m) : Nat) : Int))].lookup j).getD (v j), rfl, by omega, by omega, pushed_set hd1, rfl⟩
    · iterate 18 go_step
      go_ret
      have hmk : m = k := by omega
      subst hmk
      refine ⟨w1, t, hT1, rfl, ?_⟩
      have e : rowk x m m = List.replicate m (.int .i64 x) := by simp [rowk]
      rw [← e]; exact hP
theorem k_Mul64 (k : Nat) (hk : k ≤ 1000) : Fun2 Tryz.prog n_math_bits_Mul64 [.val (.int .u64 1), .val (.int .u64 k)] (.int .u64 0) (.int .u64 k) := by
  refine fun2_of mixed c_math_bits_Mul64 rfl ?_
  have h1 : IntKind.u64.wrap (k : Int) = k := u64w (by omega)
  have hA : (BitVec.ofInt 64 (k : Int) &&& BitVec.ofInt 64 4294967295).toNat = k := by
    rw [BitVec.toNat_and, BitVec.toNat_ofInt, BitVec.toNat_ofInt]
    rw [show ((k : Int) % ((2 ^ 64 : Nat) : Int)).toNat = k by omega, show ((4294967295 : Int) % ((2 ^ 64 : Nat) : Int)).toNat = 2 ^ 32 - 1 by decide, Nat.and_two_pow_sub_one_eq_mod]
    omega
  have hB : (BitVec.ofInt 64 1 &&& BitVec.ofInt 64 4294967295).toNat = 1 := by decide
  have hC : (k : Int).fdiv (2 ^ min 32 64) = 0 := by
    rw [show (2 : Int) ^ min 32 64 = 4294967296 by decide, Int.fdiv_eq_ediv_of_nonneg _ (by omega)]; omega
  have hD : Int.fdiv 1 (2 ^ min 32 64) = 0 := by decide
  have hF : Int.fdiv 0 (2 ^ min 32 64) = 0 := by decide
  have hE : (BitVec.ofInt 64 0 &&& BitVec.ofInt 64 4294967295).toNat = 0 := by decide
  have w0 : IntKind.u64.wrap 0 = 0 := by decide
  have w1 : IntKind.u64.wrap 1 = 1 := by decide
  have n0 : ((0 : Nat) : Int) = 0 := rfl
  have n1 : ((1 : Nat) : Int) = 1 := rfl
  simp only [B_math_bits_Mul64_11, B_math_bits_Mul64_10, B_math_bits_Mul64_9, B_math_bits_Mul64_8, B_math_bits_Mul64_7, B_math_bits_Mul64_6, B_math_bits_Mul64_5, B_math_bits_Mul64_4, B_math_bits_Mul64_3, B_math_bits_Mul64_2, B_math_bits_Mul64_1, A_math_bits_Mul64, h1, hA, hB, hC, hD, hF, hE, w0, w1, n0, n1, Int.zero_mul, Int.mul_zero, Int.one_mul, Int.add_zero, Int.zero_add, go_sem, yz0, Int.reduceLT, reduceLE, reduceToNat, reduceNeg, Nat.reduceLT, reduceLeDiff, reduceMul, reduceSub, reduceIte, reduceEqDiff, reduceAdd, reduceCtorEq]
  refine congrArg (fun z => AVal.tup [AVal.val (Value.int .u64 z), AVal.val (Value.int .u64 (k : Int))]) ?_
  show IntKind.u64.wrap (IntKind.u64.wrap ((IntKind.u64.wrap ((IntKind.u64.wrap (IntKind.u64.wrap (((BitVec.ofInt 64 1 &&& BitVec.ofInt 64 4294967295).toNat : Nat) : Int) * IntKind.u64.wrap (((BitVec.ofInt 64 (k : Int) &&& BitVec.ofInt 64 4294967295).toNat : Nat) : Int))).fdiv (2 ^ min 32 64))).fdiv (2 ^ min 32 64)) + (IntKind.u64.wrap (IntKind.u64.wrap (((BitVec.ofInt 64 (IntKind.u64.wrap ((IntKind.u64.wrap (IntKind.u64.wrap (((BitVec.ofInt 64 1 &&& BitVec.ofInt 64 4294967295).toNat : Nat) : Int) * IntKind.u64.wrap (((BitVec.ofInt 64 (k : Int) &&& BitVec.ofInt 64 4294967295).toNat : Nat) : Int))).fdiv (2 ^ min 32 64))) &&& BitVec.ofInt 64 4294967295).toNat : Nat) : Int))).fdiv (2 ^ min 32 64)) = 0
  rw [hA, hB, n1, w1, h1, Int.one_mul, h1, hC, w0, hF, hE]
  simp only [w0, n0, hF, Int.add_zero]
theorem k_Mul (k : Nat) (hk : k ≤ 1000) : Fun2 Tryz.prog n_math_bits_Mul [.val (.int .u64 1), .val (.int .u64 k)] (.int .u64 0) (.int .u64 k) := by
  refine fun2_of mixed c_math_bits_Mul rfl ?_
  simp only [B_math_bits_Mul_2, B_math_bits_Mul_4, B_math_bits_Mul_3, B_math_bits_Mul_1, A_math_bits_Mul, go_sem, yz0, Int.reduceLT, reduceLE, reduceToNat, reduceNeg, Nat.reduceLT, reduceLeDiff, reduceMul, reduceSub, reduceIte, reduceEqDiff, reduceAdd, reduceCtorEq]
  intro vs
  refine call_fun2 (k_Mul64 k hk) qCS ?_
  simp only [go_sem, yz0, Int.reduceLT, reduceLE, reduceToNat, reduceNeg, Nat.reduceLT, reduceLeDiff, reduceMul, reduceSub, reduceIte, reduceEqDiff, reduceAdd, reduceCtorEq]
theorem ints_repV {x : Int} {k : Nat} : ints (List.replicate k x) = (List.replicate k (Value.int .i64 x)).map .val := by simp
theorem k_Repeat (x : Int) (k : Nat) (hk : k ≤ 1000) : RowI Tryz.prog nz48 [.ro none 1 (ints [x]), iv k] (fun ys => ys = List.replicate k x) := by
  refine con_oldF ⟨_, Tryz.func45, rfl, by kernel_rfl⟩ (fun c0 vs G hhp hrep => ?_) (fun outs rows res hR => by
    obtain ⟨h, cs, v, ⟨xs, rfl, _⟩, _, rfl, rfl⟩ := hR
    have hf : freshL (ints xs) := (freshL_iff _).2 fun A hA => by
      simp only [List.mem_map] at hA
      rcases hA with ⟨y, _, rfl⟩
      simp [AVal.fresh]
    exact ⟨h, fun o ho => by rw [List.mem_singleton.1 ho]; exact hf, by simp [AVal.fresh]⟩)
  simp only [oldL, AVal.oldn, oldL_ints] at hrep
  match vs, hrep with
  | [v1, v2], hrep =>
  simp only [RepL, Rep, and_true] at hrep
  obtain ⟨⟨base, len, cap, rfl, _, hl, _, _, hc⟩, rfl⟩ := hrep
  obtain rfl : len = 1 := by simpa using hl.symm
  rcases hc with hc | ⟨b, off, rfl, him, hra⟩
  · simp at hc
  have hbl : b < c0.w.heap.size := him.2.1
  simp only [List.map_cons, List.map_nil, RepAt, Rep, and_true] at hra
  obtain ⟨_, hcell, rfl⟩ := hra
  have hmm := maxLen_le
  refine (rep_walk b off cap x k hk c0.w (fun w1 => ∃ c1, Good c0.w (fun _ => False) c1 ∧ c1.w = w1 ∧ c1.hp = outHp [] [] ∧ (∀ b, ¬ c1.ext b) ∧ (∀ v, c0.used v → c1.used v) ∧ (∀ b, c1.old b → c0.old b)) ?_ ?_).mono ?_
  · rintro w1 ⟨c1, G1, rfl, _⟩
    refine ⟨?_, Nat.lt_of_lt_of_le hbl G1.size⟩
    rw [World.cell?_of_block (w := c0.w) (G1.frame b hbl (fun h => h))]; exact hcell
  · refine ((k_Mul k hk).2 c0 (fun _ => False) [.int .u64 1, .int .u64 k] G hhp (by simp [RepL, Rep])).mono ?_
    rintro e w' ⟨v, c1, outs, rows, res, ⟨rfl, rfl, rfl⟩, rfl, rfl, G1, hp1, hrep1, hext, hold, _, hused⟩
    simp only [Rep] at hrep1
    obtain ⟨vs, rfl, hvs⟩ := hrep1
    obtain ⟨L⟩ := vs
    refine ⟨?_, c1, G1, rfl, hp1, fun b hb => by rcases hext b hb with h | h; exact absurd h.1 (by simp); exact h, hused, hold⟩
    match L, hvs with
    | [a1, a2], hvs =>
      simp only [RepL, Rep, and_true] at hvs
      rw [hvs.1, hvs.2]
  · rintro e w' ⟨w1, t, ⟨c1, G1, rfl, hp1, hext, hused, hold⟩, rfl, hP⟩
    obtain ⟨mv, hmv⟩ := G1.fin
    have hver : ¬ c1.used mv := fun h => Nat.lt_irrefl _ (hmv _ h)
    have hd : c1.hp 6000 = .gone := by rw [hp1]; rfl
    have hG := G1.new hd hver (.cells (List.replicate k (Value.int .i64 x)).toArray t (0, 0)) (.row mv 1 true (ints (List.replicate k x))) (.slice (some ⟨c1.w.heap.size, 0, none⟩) k k) rfl w' hP.1 hP.2.1 hP.2.2.1 hP.2.2.2
      (by intro b h; simp only [blockOf] at h; split at h <;> simp at h; exact h.symm)
      (fun K => by
        refine ⟨_, k, k, rfl, by omega, by simp, Nat.le_refl _, by simp only [maxLen]; omega, by simp, .inr ⟨c1.w.heap.size, 0, t, _, rfl, pushed_row hP, by simp, ?_⟩⟩
        have e : (((List.replicate k (Value.int .i64 x)).toArray.toList.drop 0).take (k * 1)) = List.replicate k (Value.int .i64 x) := by simp
        rw [e, ints_repV]
        exact repL_vals _)
    refine ⟨_, c1.upd w' 6000 (.row mv 1 true (ints (List.replicate k x))) (.slice (some ⟨c1.w.heap.size, 0, none⟩) k k) mv, [], [.row mv 1 true (ints (List.replicate k x))], .own 6000 mv, ⟨rfl, ints _, mv, ⟨_, rfl, rfl⟩, flat_intsK, rfl, rfl⟩, rfl, rfl, hG.1, ?_, ?_, fun b hb => absurd hb (hext b), hold, ?_, fun v hv => .inl (hused v hv)⟩
    · funext n
      show (if n = 6000 then _ else c1.hp n) = _
      by_cases e : n = 6000
      · subst e; rfl
      · rw [if_neg e, hp1]
        unfold outHp
        split
        · rfl
        · split
          · rfl
          · split
            · have : 1 ≤ n - 6000 := by omega
              obtain ⟨j, hj⟩ := Nat.exists_eq_add_of_le this
              rw [hj, Nat.add_comm]; rfl
            · rfl
    · simp only [Rep]
      exact ⟨.inr rfl, fun _ => by simp [Cz.upd]⟩
    · intro r v hv hr
      have hr : ((if r = 6000 then AObj.row mv 1 true (ints (List.replicate k x)) else c1.hp r)).ver = some v := hr
      by_cases e : r = 6000
      · rw [if_pos e] at hr
        cases hr
        exact absurd (hused _ hv) hver
      · rw [if_neg e, hp1] at hr
        exfalso
        unfold outHp at hr
        split at hr
        · cases hr
        · split at hr
          · cases hr
          · split at hr <;> cases hr
end Go.Ab
