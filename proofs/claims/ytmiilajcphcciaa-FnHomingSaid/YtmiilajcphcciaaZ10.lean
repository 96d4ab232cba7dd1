/- Contracts and what they lean on, part 10. Conditions: none. -/
import Derived.Test.YtmiilajcphcciaaZ9
set_option maxRecDepth 100000
set_option maxHeartbeats 4000000
set_option linter.all false
open Nat (reduceLeDiff reduceMul reduceSub reduceEqDiff reduceAdd)
open Int (reduceToNat reduceNeg reduceLE)
namespace Go.Ab
open Go.Proofs
theorem wpD_kpdn_of {P : Program} {ts hs : List Nat} {a : AC} {Q : AEx → St → Prop} {σ σ' : St} (h : σ.kd ts hs = σ'.kd ts hs) (h' : wpD P (.kp ts hs (.dn a)) Q σ') : wpD P (.kp ts hs (.dn a)) Q σ := by
  show wpD P a Q ((σ.keep ts hs).dn)
  rw [kd_eq, h, ← kd_eq]; exact h'
structure HomF (next out : List (List Int)) (n : Int) (tl : Bool) (c : Int) (w : List Int) : Prop where
  no : ∀ v, IsW next.length v → homB next out tl n v = true → c = 3 ∨ (c = 0 ∧ befP v w = false)
  yes : c = 0 → homB next out tl n w = true ∧ IsW next.length w ∧ w.length ≤ 352
theorem bef_nil {v : List Int} : befP v [] = false := by
  unfold befP
  cases v with
  | nil => rfl
  | cons x v => simp
theorem homF_of {n o : Int} {next out : List (List Int)} (M : Mach n o next out) (hn5 : n ≤ 5) (tl : Bool) :
    HomF next out n tl (homC next out o tl n 353) (if n = 1 then [] else (qT (dbtT next out o tl n 353)).getD []) := by
  have hv := machB_iff.2 M
  have n1 := M.aut.n1
  unfold homC
  rw [hv, if_pos rfl]
  by_cases hn1 : n = 1
  · rw [if_pos hn1, if_pos hn1]
    exact ⟨fun v _ _ => .inr ⟨rfl, bef_nil⟩, fun _ => ⟨hom_one hn1, fun x hx => by simp at hx, by simp⟩⟩
  · rw [if_neg hn1, if_neg hn1]
    have hF := hom_first M (by omega) (tl := tl) (enough5 (n := n.toNat) (by omega))
    cases hq : qT (dbtT next out o tl n 353) with
    | some w =>
      rw [hq] at hF
      obtain ⟨h1, h2, h3, h4, h5⟩ := hF
      have hc : qC (dbtT next out o tl n 353) = 0 := by unfold qC; rw [hq]; rfl
      rw [hc]
      exact ⟨fun v hv hh => .inr ⟨rfl, h5 v hv hh⟩, fun _ => ⟨h1, h2, by show w.length ≤ 352; omega⟩⟩
    | none =>
      rw [hq] at hF
      have hc : qC (dbtT next out o tl n 353) = 3 ∨ qC (dbtT next out o tl n 353) = 6 := by
        unfold qC; rw [hq, if_neg (by simp)]
        split
        · exact .inl rfl
        · exact .inr rfl
      refine ⟨fun v hv hh => ?_, fun h => by rcases hc with e | e <;> rw [e] at h <;> cases h⟩
      rcases hc with e | e
      · exact .inl e
      · have := hF (by rw [e]; decide) v hv
        rw [this] at hh; cases hh
theorem k_FnHoming (code more : List Int) (hb : ∀ x ∈ code, 0 ≤ x ∧ x ≤ 255) (hb2 : ∀ x ∈ more, 0 ≤ x ∧ x ≤ 255) :
    Fun Try.prog nz7q [.ro (some (some 0)) 1 (intsK .u8 code), .ro (some (some 0)) 1 (intsK .u8 more)] (bv true) := by
  refine fun_of mixed czi0 rfl ⟨rfl, trivial⟩ ?_
  simp only [Az8b, Bz8a, go_sem, yz0, Int.reduceLT, reduceLE, reduceToNat, reduceNeg, Nat.reduceLT, reduceLeDiff, reduceMul, reduceSub, reduceIte, reduceEqDiff, reduceAdd, reduceCtorEq]
  intro vs
  refine yzt (k_f6big code) qCS trivial ?_
  by_cases h1 : (code.length : Int) > 4096
  · simp only [decide_eq_true h1, Bz1v, go_sem, yz0, Int.reduceLT, reduceLE, reduceToNat, reduceNeg, Nat.reduceLT, reduceLeDiff, reduceMul, reduceSub, reduceIte, reduceEqDiff, reduceAdd, reduceCtorEq]
  simp only [decide_eq_false h1, go_sem, yz0, Int.reduceLT, reduceLE, reduceToNat, reduceNeg, Nat.reduceLT, reduceLeDiff, reduceMul, reduceSub, reduceIte, reduceEqDiff, reduceAdd, reduceCtorEq]
  refine yzt (k_f6big more) qCS trivial ?_
  by_cases h2 : (more.length : Int) > 4096
  · simp only [decide_eq_true h2, Bz1v, go_sem, yz0, Int.reduceLT, reduceLE, reduceToNat, reduceNeg, Nat.reduceLT, reduceLeDiff, reduceMul, reduceSub, reduceIte, reduceEqDiff, reduceAdd, reduceCtorEq]
  simp only [decide_eq_false h2, Bz1v, Bz89, go_sem, yz0, Int.reduceLT, reduceLE, reduceToNat, reduceNeg, Nat.reduceLT, reduceLeDiff, reduceMul, reduceSub, reduceIte, reduceEqDiff, reduceAdd, reduceCtorEq]
  intro vs2
  refine call_sh (k_P6Machine code hb) qCS (fun e => by cases e) ?_
  rintro outs rows res ⟨rfl, n, o, next, out, v, w, M, hn5, rfl, rfl⟩
  refine ⟨rfl, by simp, by rw [Option.getD_some, yzm]; exact ⟨rfl, rfl⟩, ?_⟩
  have n1 := M.aut.n1
  have l1 := M.aut.l1
  have l2 := M.aut.l2
  have o2 := M.o2
  have hv : machB n o next out = true := machB_iff.2 M
  have hF := enough5 (n := n.toNat) (by omega)
  have hso : n.toNat / 2 * o.toNat ≤ 12 := Nat.le_trans (Nat.mul_le_mul (show n.toNat / 2 ≤ 2 by omega) (show o.toNat ≤ 3 by omega)) (by omega)
  have H1 := homF_of M hn5 false
  have H2 := homF_of M hn5 true
  have KH := k_HomingWord n o next out 353 hF hso
  have SH := k_specHomingWord n o next out 353 hF
  have KT := k_TellingWord n o next out 353 hF hso
  have ST := k_specTellingWord n o next out 353 hF
  rw [hv, Bool.true_and] at KH KT
  rw [hv, if_pos rfl] at SH ST
  generalize homC next out o false n 353 = c1 at H1 KH SH
  generalize homC next out o true n 353 = c2 at H2 KT ST
  have e1 : (!decide (n = 1) && (qT (dbtT next out o false n 353)).isSome) = true → (qT (dbtT next out o false n 353)).getD [] = if n = 1 then [] else (qT (dbtT next out o false n 353)).getD [] := fun h => by
    rw [if_neg (by intro e; rw [decide_eq_true e] at h; cases h)]
  have e2 : (!decide (n = 1) && (qT (dbtT next out o true n 353)).isSome) = true → (qT (dbtT next out o true n 353)).getD [] = if n = 1 then [] else (qT (dbtT next out o true n 353)).getD [] := fun h => by
    rw [if_neg (by intro e; rw [decide_eq_true e] at h; cases h)]
  have f1 : (!decide (n = 1) && (qT (dbtT next out o false n 353)).isSome) = false → (if n = 1 then [] else (qT (dbtT next out o false n 353)).getD []) = [] := fun h => by
    by_cases e : n = 1
    · rw [if_pos e]
    · rw [decide_eq_false e] at h
      cases hq : qT (dbtT next out o false n 353) with
      | none => rw [if_neg e]; rfl
      | some w => rw [hq] at h; cases h
  have f2 : (!decide (n = 1) && (qT (dbtT next out o true n 353)).isSome) = false → (if n = 1 then [] else (qT (dbtT next out o true n 353)).getD []) = [] := fun h => by
    by_cases e : n = 1
    · rw [if_pos e]
    · rw [decide_eq_false e] at h
      cases hq : qT (dbtT next out o true n 353) with
      | none => rw [if_neg e]; rfl
      | some w => rw [hq] at h; cases h
  generalize (if n = 1 then [] else (qT (dbtT next out o false n 353)).getD []) = w1 at H1 SH e1 f1
  generalize (if n = 1 then [] else (qT (dbtT next out o true n 353)).getD []) = w2 at H2 ST e2 f2
  generalize (qT (dbtT next out o false n 353)).getD [] = x1 at KH e1
  generalize (qT (dbtT next out o true n 353)).getD [] = x2 at KT e2
  generalize (!decide (n = 1) && (qT (dbtT next out o false n 353)).isSome) = ok1 at KH e1 f1
  generalize (!decide (n = 1) && (qT (dbtT next out o true n 353)).isSome) = ok2 at KT e2 f2
  simp only [Bz88, Nat.not_lt_zero, range1, yzw, yzx, ren_ro, rnNm_n, yzz, rnNm_o, rnNm_s, ren_st, yzy, yzs, yze, yz3, yzq, yzo, yzl, yzn, yzp, yz6, yz9, yzb, yza, yzj, yzi, yz4, yzd, yzc, yz7, yzf, yzh, List.range_zero, yz2, yz5, yz8, yzr, yzk, yzm, AVal.fresh, freshL, yz1, yzg, AObj.fresh, id, Option.isSome_some, or_true, true_or, go_sem, yz0, Int.reduceLT, reduceLE, reduceToNat, reduceNeg, Nat.reduceLT, reduceLeDiff, reduceMul, reduceSub, reduceIte, reduceEqDiff, reduceAdd, reduceCtorEq]
  intro vs3
  have tail : ∀ v42 v52 : Nat, wpD Try.prog Bz4e (finQ fun σ => σ.tm 4 = bv true)
      ⟨L .any [(1, .ro (some (some 0)) 1 (intsK .u8 more)), (5, .ptr 5 (vs2 2 0) 0), (7, iv c1), (8, .own 42 v42), (11, iv c2), (12, .own 52 v52)],
        L .gone [(5, .box (vs2 2 0) [iv n, iv o, .own 34 (vs2 1 v), .own 1034 (vs2 1 w)]), (34, .row (vs2 1 v) 1 true (rws next)), (42, .row v42 1 true (ints w1)), (52, .row v52 1 true (ints w2)), (1034, .row (vs2 1 w) 1 true (rws out))]⟩ := by
    intro v42 v52
    simp only [Bz4e, go_sem, yz0, Int.reduceLT, reduceLE, reduceToNat, reduceNeg, Nat.reduceLT, reduceLeDiff, reduceMul, reduceSub, reduceIte, reduceEqDiff, reduceAdd, reduceCtorEq]
    intro vs10 hMl
    refine call_rowI (k_P6Word more next.length 6 hb2 (by omega) (by omega)) qCS qGN ⟨[], by simp [IsW6]⟩ ?_
    rintro u v6 hu
    have hud : IsW next.length u := hu.2
    have hul : (u.length : Int) ≤ 6 := hu.1
    have huw : wordB next.length u = true := wordB_iff.2 ⟨by omega, hud⟩
    have N1 := H1.no u hud
    have N2 := H2.no u hud
    have htt := tell_hom (next := next) (out := out) (n := n) (w := u)
    have tail23 : ∀ v52 : Nat, wpD Try.prog Bz1w (finQ fun σ => σ.tm 4 = bv true)
        ⟨L .any [(5, .ptr 5 (vs2 2 0) 0), (11, iv c2), (12, .own 52 v52)], L .gone [(5, .box (vs2 2 0) [iv n, iv o, .own 34 (vs2 1 v), .own 1034 (vs2 1 w)]), (34, .row (vs2 1 v) 1 true (rws next)), (52, .row v52 1 true (ints w2)), (1034, .row (vs2 1 w) 1 true (rws out))]⟩ := by
      intro v52
      by_cases hc2 : c2 = 0
      · obtain ⟨y1, y2, y3⟩ := H2.yes hc2
        have hb2 : (c2 == 0) = true := by rw [hc2]; rfl
        simp only [Bz1w, Bz4d, hb2, go_sem, yz0, Int.reduceLT, reduceLE, reduceToNat, reduceNeg, Nat.reduceLT, reduceLeDiff, reduceMul, reduceSub, reduceIte, reduceEqDiff, reduceAdd, reduceCtorEq]
        intro vs20
        refine call_fun2 (k_IsTelling n o next out M w2 (wordB_iff.2 ⟨by omega, y2⟩)) qCS ?_
        have h00 : ((0 : Int) == 0) = true := rfl
        simp only [Bz83, h00, y1, go_sem, yz0, Int.reduceLT, reduceLE, reduceToNat, reduceNeg, Nat.reduceLT, reduceLeDiff, reduceMul, reduceSub, reduceIte, reduceEqDiff, reduceAdd, reduceCtorEq]
        try (intros; trivial)
      · have hb2 : (c2 == 0) = false := by simpa using hc2
        simp only [Bz1w, Bz4d, Bz84, hb2, go_sem, yz0, Int.reduceLT, reduceLE, reduceToNat, reduceNeg, Nat.reduceLT, reduceLeDiff, reduceMul, reduceSub, reduceIte, reduceEqDiff, reduceAdd, reduceCtorEq]
        try (intros; trivial)
    have tail18 : ∀ v42 v52 v79 : Nat, wpD Try.prog Bz1x (finQ fun σ => σ.tm 4 = bv true)
        ⟨L .any [(5, .ptr 5 (vs2 2 0) 0), (7, iv c1), (8, .own 42 v42), (11, iv c2), (12, .own 52 v52), (14, .own 79 v79)], L .gone [(5, .box (vs2 2 0) [iv n, iv o, .own 34 (vs2 1 v), .own 1034 (vs2 1 w)]), (34, .row (vs2 1 v) 1 true (rws next)), (42, .row v42 1 true (ints w1)), (52, .row v52 1 true (ints w2)), (79, .row v79 1 true (ints u)), (1034, .row (vs2 1 w) 1 true (rws out))]⟩ := by
      intro v42 v52 v79
      by_cases hc1 : c1 = 0
      · obtain ⟨y1, y2, y3⟩ := H1.yes hc1
        have hb1 : (c1 == 0) = true := by rw [hc1]; rfl
        have hwu : IsW next.length (w1 ++ u) := fun x hx => by
          rcases List.mem_append.1 hx with h | h
          · exact y2 x h
          · exact hud x h
        have y4 := hom_app y2 M y1 hud
        simp only [Bz1x, Bz4c, hb1, go_sem, yz0, Int.reduceLT, reduceLE, reduceToNat, reduceNeg, Nat.reduceLT, reduceLeDiff, reduceMul, reduceSub, reduceIte, reduceEqDiff, reduceAdd, reduceCtorEq]
        intro vs20
        refine call_fun2 (k_IsHoming n o next out M w1 (wordB_iff.2 ⟨by omega, y2⟩)) qCS ?_
        simp only [Bz82, go_sem, yz0, Int.reduceLT, reduceLE, reduceToNat, reduceNeg, Nat.reduceLT, reduceLeDiff, reduceMul, reduceSub, reduceIte, reduceEqDiff, reduceAdd, reduceCtorEq]
        refine fun vs21 => ⟨by omega, by omega, ?_⟩
        refine call_fun2 (k_IsHoming n o next out M (w1 ++ u) (wordB_iff.2 ⟨by rw [List.length_append]; omega, hwu⟩)) qCS ?_
        have h00 : ((0 : Int) != 0) = false := rfl
        simp only [Bz81, Bz80, y1, y4, h00, Bool.not_true, go_sem, yz0, Int.reduceLT, reduceLE, reduceToNat, reduceNeg, Nat.reduceLT, reduceLeDiff, reduceMul, reduceSub, reduceIte, reduceEqDiff, reduceAdd, reduceCtorEq]
        exact wpD_kpdn_of (by simp only [go_sem, yz0, Int.reduceLT, reduceLE, reduceToNat, reduceNeg, Nat.reduceLT, reduceLeDiff, reduceMul, reduceSub, reduceIte, reduceEqDiff, reduceAdd, reduceCtorEq]) (tail23 v52)
      · have hb1 : (c1 == 0) = false := by simpa using hc1
        simp only [Bz1x, Bz4c, hb1, go_sem, yz0, Int.reduceLT, reduceLE, reduceToNat, reduceNeg, Nat.reduceLT, reduceLeDiff, reduceMul, reduceSub, reduceIte, reduceEqDiff, reduceAdd, reduceCtorEq]
        exact wpD_kpdn_of (by simp only [go_sem, yz0, Int.reduceLT, reduceLE, reduceToNat, reduceNeg, Nat.reduceLT, reduceLeDiff, reduceMul, reduceSub, reduceIte, reduceEqDiff, reduceAdd, reduceCtorEq]) (tail23 v52)
    simp only [go_sem, yz0, Int.reduceLT, reduceLE, reduceToNat, reduceNeg, Nat.reduceLT, reduceLeDiff, reduceMul, reduceSub, reduceIte, reduceEqDiff, reduceAdd, reduceCtorEq]
    simp only [Bz87, go_sem, yz0, Int.reduceLT, reduceLE, reduceToNat, reduceNeg, Nat.reduceLT, reduceLeDiff, reduceMul, reduceSub, reduceIte, reduceEqDiff, reduceAdd, reduceCtorEq]
    intro vs11
    refine call_fun2 (k_IsHoming n o next out M u huw) qCS ?_
    simp only [Bz86, go_sem, yz0, Int.reduceLT, reduceLE, reduceToNat, reduceNeg, Nat.reduceLT, reduceLeDiff, reduceMul, reduceSub, reduceIte, reduceEqDiff, reduceAdd, reduceCtorEq]
    intro vs12
    refine call_fun2 (k_IsTelling n o next out M u huw) qCS ?_
    simp only [Bz85, go_sem, yz0, Int.reduceLT, reduceLE, reduceToNat, reduceNeg, Nat.reduceLT, reduceLeDiff, reduceMul, reduceSub, reduceIte, reduceEqDiff, reduceAdd, reduceCtorEq]
    intro vs13
    refine call_fun2 (k_specIsHoming n o next out M u huw) qCS ?_
    have h00 : ((0 : Int) != 0) = false := rfl
    have h33 : ((3 : Int) != 0) = true := rfl
    have h34 : ((3 : Int) == 3) = true := rfl
    have h03 : ((0 : Int) == 3) = false := rfl
    generalize homB next out false n u = hm at N1 htt ⊢
    generalize homB next out true n u = tt at N2 htt ⊢
    cases hm with
    | false =>
      obtain rfl : tt = false := by cases tt with
        | false => rfl
        | true => exact absurd (htt rfl) (by simp)
      simp only [Bzl, Bzj, Bzk, Bz9, h00, go_sem, yz0, Int.reduceLT, reduceLE, reduceToNat, reduceNeg, Nat.reduceLT, reduceLeDiff, reduceMul, reduceSub, reduceIte, reduceEqDiff, reduceAdd, reduceCtorEq]
      exact wpD_kpdn_of (by simp only [go_sem, yz0, Int.reduceLT, reduceLE, reduceToNat, reduceNeg, Nat.reduceLT, reduceLeDiff, reduceMul, reduceSub, reduceIte, reduceEqDiff, reduceAdd, reduceCtorEq]) (tail18 v42 v52 v6)
    | true =>
      rcases N1 rfl with rfl | ⟨rfl, hb1⟩
      · cases tt <;> simp only [Bzl, Bzj, Bzk, Bz9, h00, h33, h34, go_sem, yz0, Int.reduceLT, reduceLE, reduceToNat, reduceNeg, Nat.reduceLT, reduceLeDiff, reduceMul, reduceSub, reduceIte, reduceEqDiff, reduceAdd, reduceCtorEq]
      · cases tt with
        | false =>
          simp only [Bzl, Bzj, Bzk, h00, go_sem, yz0, Int.reduceLT, reduceLE, reduceToNat, reduceNeg, Nat.reduceLT, reduceLeDiff, reduceMul, reduceSub, reduceIte, reduceEqDiff, reduceAdd, reduceCtorEq]
          intro vs14
          refine yzt (k_f6before u w1) qCS trivial ?_
          simp only [hb1, Bz9, go_sem, yz0, Int.reduceLT, reduceLE, reduceToNat, reduceNeg, Nat.reduceLT, reduceLeDiff, reduceMul, reduceSub, reduceIte, reduceEqDiff, reduceAdd, reduceCtorEq]
          exact wpD_kpdn_of (by simp only [go_sem, yz0, Int.reduceLT, reduceLE, reduceToNat, reduceNeg, Nat.reduceLT, reduceLeDiff, reduceMul, reduceSub, reduceIte, reduceEqDiff, reduceAdd, reduceCtorEq]) (tail18 v42 v52 v6)
        | true =>
          simp only [Bzl, Bzj, Bzk, h00, go_sem, yz0, Int.reduceLT, reduceLE, reduceToNat, reduceNeg, Nat.reduceLT, reduceLeDiff, reduceMul, reduceSub, reduceIte, reduceEqDiff, reduceAdd, reduceCtorEq]
          intro vs14
          refine yzt (k_f6before u w1) qCS trivial ?_
          rcases N2 rfl with rfl | ⟨rfl, hb2'⟩
          · simp only [hb1, h33, h34, h03, Bz9, go_sem, yz0, Int.reduceLT, reduceLE, reduceToNat, reduceNeg, Nat.reduceLT, reduceLeDiff, reduceMul, reduceSub, reduceIte, reduceEqDiff, reduceAdd, reduceCtorEq]
            try (intros; trivial)
          · simp only [hb1, h00, go_sem, yz0, Int.reduceLT, reduceLE, reduceToNat, reduceNeg, Nat.reduceLT, reduceLeDiff, reduceMul, reduceSub, reduceIte, reduceEqDiff, reduceAdd, reduceCtorEq]
            refine yzt (k_f6before u w2) qCS trivial ?_
            simp only [hb2', Bz9, go_sem, yz0, Int.reduceLT, reduceLE, reduceToNat, reduceNeg, Nat.reduceLT, reduceLeDiff, reduceMul, reduceSub, reduceIte, reduceEqDiff, reduceAdd, reduceCtorEq]
            exact wpD_kpdn_of (by simp only [go_sem, yz0, Int.reduceLT, reduceLE, reduceToNat, reduceNeg, Nat.reduceLT, reduceLeDiff, reduceMul, reduceSub, reduceIte, reduceEqDiff, reduceAdd, reduceCtorEq]) (tail18 v42 v52 v6)
  cases ok1 with
  | true =>
    obtain rfl := e1 rfl
    refine call_rowT KH qCS qGN (fun _ v37 => ?_) (fun h => by cases h)
    simp only [Bz4g, go_sem, yz0, Int.reduceLT, reduceLE, reduceToNat, reduceNeg, Nat.reduceLT, reduceLeDiff, reduceMul, reduceSub, reduceIte, reduceEqDiff, reduceAdd, reduceCtorEq]
    intro vs4
    refine call_rowC2 SH qCS qGN ?_
    intro v42
    simp only [Bz4f, go_sem, yz0, Int.reduceLT, reduceLE, reduceToNat, reduceNeg, Nat.reduceLT, reduceLeDiff, reduceMul, reduceSub, reduceIte, reduceEqDiff, reduceAdd, reduceCtorEq]
    intro vs5
    cases ok2 with
    | true =>
      obtain rfl := e2 rfl
      refine call_rowT KT qCS qGN (fun _ v47 => ?_) (fun h => by cases h)
      simp only [Bzn, go_sem, yz0, Int.reduceLT, reduceLE, reduceToNat, reduceNeg, Nat.reduceLT, reduceLeDiff, reduceMul, reduceSub, reduceIte, reduceEqDiff, reduceAdd, reduceCtorEq]
      intro vs6
      refine call_rowC2 ST qCS qGN ?_
      intro v52
      simp only [Bzm, bne_self_eq_false, go_sem, yz0, Int.reduceLT, reduceLE, reduceToNat, reduceNeg, Nat.reduceLT, reduceLeDiff, reduceMul, reduceSub, reduceIte, reduceEqDiff, reduceAdd, reduceCtorEq]
      intro vs7
      refine yzt (k_f6ints x1 x1) qCS trivial ?_
      simp only [decide_true, Bool.not_true, go_sem, yz0, Int.reduceLT, reduceLE, reduceToNat, reduceNeg, Nat.reduceLT, reduceLeDiff, reduceMul, reduceSub, reduceIte, reduceEqDiff, reduceAdd, reduceCtorEq]
      refine yzt (k_f6ints x2 x2) qCS trivial ?_
      simp only [decide_true, Bool.not_true, Bzi, go_sem, yz0, Int.reduceLT, reduceLE, reduceToNat, reduceNeg, Nat.reduceLT, reduceLeDiff, reduceMul, reduceSub, reduceIte, reduceEqDiff, reduceAdd, reduceCtorEq]
      exact wpD_kpdn_of (by simp only [go_sem, yz0, Int.reduceLT, reduceLE, reduceToNat, reduceNeg, Nat.reduceLT, reduceLeDiff, reduceMul, reduceSub, reduceIte, reduceEqDiff, reduceAdd, reduceCtorEq]) (tail v42 v52)
    | false =>
      obtain rfl := f2 rfl
      refine call_rowT KT qCS qGN (fun h => by cases h) (fun _ => ?_)
      simp only [Bzn, go_sem, yz0, Int.reduceLT, reduceLE, reduceToNat, reduceNeg, Nat.reduceLT, reduceLeDiff, reduceMul, reduceSub, reduceIte, reduceEqDiff, reduceAdd, reduceCtorEq]
      intro vs6
      refine call_rowC2 ST qCS qGN ?_
      intro v52
      simp only [Bzm, bne_self_eq_false, go_sem, yz0, Int.reduceLT, reduceLE, reduceToNat, reduceNeg, Nat.reduceLT, reduceLeDiff, reduceMul, reduceSub, reduceIte, reduceEqDiff, reduceAdd, reduceCtorEq]
      intro vs7
      refine yzt (k_f6ints x1 x1) qCS trivial ?_
      simp only [decide_true, Bool.not_true, go_sem, yz0, Int.reduceLT, reduceLE, reduceToNat, reduceNeg, Nat.reduceLT, reduceLeDiff, reduceMul, reduceSub, reduceIte, reduceEqDiff, reduceAdd, reduceCtorEq]
      refine yzt (k_f6ints [] []) (by simp only [List.map_nil, rowIs, boxIs, coe_argN, coe_argNs, coe_ro_o, coeL_nil, yz12, coe_any, coe_val, coe_ro, yz13, yz17, coe_st, yz15, coe_rp, yz16, coe_clo, coe_own0, coe_ptr0, yz11, coeL_rws, coeL_rwn, L_hit, L_miss, L_nil, reduceEqDiff, ne_eq, reduceCtorEq, not_false_eq_true, true_and, and_true, and_self, exists_eq_left, exists_eq_right, List.mem_cons, List.not_mem_nil, or_false, AObj.row.injEq, AObj.box.injEq, exists_eq_left', exists_and_left, exists_eq, Nat.zero_lt_one, Nat.lt_add_one, List.map_cons, List.map_nil, AObj.ver, Nat.reduceLT, not_true_eq_false]) trivial ?_
      simp only [decide_true, Bool.not_true, Bzi, go_sem, yz0, Int.reduceLT, reduceLE, reduceToNat, reduceNeg, Nat.reduceLT, reduceLeDiff, reduceMul, reduceSub, reduceIte, reduceEqDiff, reduceAdd, reduceCtorEq]
      exact wpD_kpdn_of (by simp only [go_sem, yz0, Int.reduceLT, reduceLE, reduceToNat, reduceNeg, Nat.reduceLT, reduceLeDiff, reduceMul, reduceSub, reduceIte, reduceEqDiff, reduceAdd, reduceCtorEq]) (tail v42 v52)
  | false =>
    obtain rfl := f1 rfl
    refine call_rowT KH qCS qGN (fun h => by cases h) (fun _ => ?_)
    simp only [Bz4g, go_sem, yz0, Int.reduceLT, reduceLE, reduceToNat, reduceNeg, Nat.reduceLT, reduceLeDiff, reduceMul, reduceSub, reduceIte, reduceEqDiff, reduceAdd, reduceCtorEq]
    intro vs4
    refine call_rowC2 SH qCS qGN ?_
    intro v42
    simp only [Bz4f, go_sem, yz0, Int.reduceLT, reduceLE, reduceToNat, reduceNeg, Nat.reduceLT, reduceLeDiff, reduceMul, reduceSub, reduceIte, reduceEqDiff, reduceAdd, reduceCtorEq]
    intro vs5
    cases ok2 with
    | true =>
      obtain rfl := e2 rfl
      refine call_rowT KT qCS qGN (fun _ v47 => ?_) (fun h => by cases h)
      simp only [Bzn, go_sem, yz0, Int.reduceLT, reduceLE, reduceToNat, reduceNeg, Nat.reduceLT, reduceLeDiff, reduceMul, reduceSub, reduceIte, reduceEqDiff, reduceAdd, reduceCtorEq]
      intro vs6
      refine call_rowC2 ST qCS qGN ?_
      intro v52
      simp only [Bzm, bne_self_eq_false, go_sem, yz0, Int.reduceLT, reduceLE, reduceToNat, reduceNeg, Nat.reduceLT, reduceLeDiff, reduceMul, reduceSub, reduceIte, reduceEqDiff, reduceAdd, reduceCtorEq]
      intro vs7
      refine yzt (k_f6ints [] []) (by simp only [List.map_nil, rowIs, boxIs, coe_argN, coe_argNs, coe_ro_o, coeL_nil, yz12, coe_any, coe_val, coe_ro, yz13, yz17, coe_st, yz15, coe_rp, yz16, coe_clo, coe_own0, coe_ptr0, yz11, coeL_rws, coeL_rwn, L_hit, L_miss, L_nil, reduceEqDiff, ne_eq, reduceCtorEq, not_false_eq_true, true_and, and_true, and_self, exists_eq_left, exists_eq_right, List.mem_cons, List.not_mem_nil, or_false, AObj.row.injEq, AObj.box.injEq, exists_eq_left', exists_and_left, exists_eq, Nat.zero_lt_one, Nat.lt_add_one, List.map_cons, List.map_nil, AObj.ver, Nat.reduceLT, not_true_eq_false]) trivial ?_
      simp only [decide_true, Bool.not_true, go_sem, yz0, Int.reduceLT, reduceLE, reduceToNat, reduceNeg, Nat.reduceLT, reduceLeDiff, reduceMul, reduceSub, reduceIte, reduceEqDiff, reduceAdd, reduceCtorEq]
      refine yzt (k_f6ints x2 x2) qCS trivial ?_
      simp only [decide_true, Bool.not_true, Bzi, go_sem, yz0, Int.reduceLT, reduceLE, reduceToNat, reduceNeg, Nat.reduceLT, reduceLeDiff, reduceMul, reduceSub, reduceIte, reduceEqDiff, reduceAdd, reduceCtorEq]
      exact wpD_kpdn_of (by simp only [go_sem, yz0, Int.reduceLT, reduceLE, reduceToNat, reduceNeg, Nat.reduceLT, reduceLeDiff, reduceMul, reduceSub, reduceIte, reduceEqDiff, reduceAdd, reduceCtorEq]) (tail v42 v52)
    | false =>
      obtain rfl := f2 rfl
      refine call_rowT KT qCS qGN (fun h => by cases h) (fun _ => ?_)
      simp only [Bzn, go_sem, yz0, Int.reduceLT, reduceLE, reduceToNat, reduceNeg, Nat.reduceLT, reduceLeDiff, reduceMul, reduceSub, reduceIte, reduceEqDiff, reduceAdd, reduceCtorEq]
      intro vs6
      refine call_rowC2 ST qCS qGN ?_
      intro v52
      simp only [Bzm, bne_self_eq_false, go_sem, yz0, Int.reduceLT, reduceLE, reduceToNat, reduceNeg, Nat.reduceLT, reduceLeDiff, reduceMul, reduceSub, reduceIte, reduceEqDiff, reduceAdd, reduceCtorEq]
      intro vs7
      refine yzt (k_f6ints [] []) (by simp only [List.map_nil, rowIs, boxIs, coe_argN, coe_argNs, coe_ro_o, coeL_nil, yz12, coe_any, coe_val, coe_ro, yz13, yz17, coe_st, yz15, coe_rp, yz16, coe_clo, coe_own0, coe_ptr0, yz11, coeL_rws, coeL_rwn, L_hit, L_miss, L_nil, reduceEqDiff, ne_eq, reduceCtorEq, not_false_eq_true, true_and, and_true, and_self, exists_eq_left, exists_eq_right, List.mem_cons, List.not_mem_nil, or_false, AObj.row.injEq, AObj.box.injEq, exists_eq_left', exists_and_left, exists_eq, Nat.zero_lt_one, Nat.lt_add_one, List.map_cons, List.map_nil, AObj.ver, Nat.reduceLT, not_true_eq_false]) trivial ?_
      simp only [decide_true, Bool.not_true, go_sem, yz0, Int.reduceLT, reduceLE, reduceToNat, reduceNeg, Nat.reduceLT, reduceLeDiff, reduceMul, reduceSub, reduceIte, reduceEqDiff, reduceAdd, reduceCtorEq]
      refine yzt (k_f6ints [] []) (by simp only [List.map_nil, rowIs, boxIs, coe_argN, coe_argNs, coe_ro_o, coeL_nil, yz12, coe_any, coe_val, coe_ro, yz13, yz17, coe_st, yz15, coe_rp, yz16, coe_clo, coe_own0, coe_ptr0, yz11, coeL_rws, coeL_rwn, L_hit, L_miss, L_nil, reduceEqDiff, ne_eq, reduceCtorEq, not_false_eq_true, true_and, and_true, and_self, exists_eq_left, exists_eq_right, List.mem_cons, List.not_mem_nil, or_false, AObj.row.injEq, AObj.box.injEq, exists_eq_left', exists_and_left, exists_eq, Nat.zero_lt_one, Nat.lt_add_one, List.map_cons, List.map_nil, AObj.ver, Nat.reduceLT, not_true_eq_false]) trivial ?_
      simp only [decide_true, Bool.not_true, Bzi, go_sem, yz0, Int.reduceLT, reduceLE, reduceToNat, reduceNeg, Nat.reduceLT, reduceLeDiff, reduceMul, reduceSub, reduceIte, reduceEqDiff, reduceAdd, reduceCtorEq]
      exact wpD_kpdn_of (by simp only [go_sem, yz0, Int.reduceLT, reduceLE, reduceToNat, reduceNeg, Nat.reduceLT, reduceLeDiff, reduceMul, reduceSub, reduceIte, reduceEqDiff, reduceAdd, reduceCtorEq]) (tail v42 v52)
end Go.Ab
