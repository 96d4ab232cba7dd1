/- Contracts: marks in rows of rows, exactly; printed by program. Conditions: none. -/
import Derived.Test.YtoadopegbnmfkaaKr
set_option linter.all false
namespace Go.Ab
open Go.Proofs
set_option maxRecDepth 20000
set_option maxHeartbeats 2000000

/-- Rows that hold numbers one behind the other. -/
def okRows : Int → List (List Int) → Prop
  | _, [] => True
  | k, x :: xs => x = seqI k x.length ∧ okRows (k + x.length) xs
def totX : List (List Int) → Int
  | [] => 0
  | x :: xs => x.length + totX xs
theorem totX_nn : ∀ xs, 0 ≤ totX xs
  | [] => by simp [totX]
  | x :: xs => by have := totX_nn xs; simp only [totX]; omega

theorem k_heldSS (xss : List (List Int)) (k : Int) (h : 0 ≤ k ∧ k + totX xss ≤ 4611686018427387904) (hx : ∀ x ∈ xss, (x.length : Int) ≤ 1000000000) (ho : okRows k xss) :
    Fun Try.prog n_laws_heldInt64SS [.ro none 1 (rwn xss), iv k] (iv (k + totX xss)) := by
  refine fun_of mixed c_laws_heldInt64SS rfl ⟨rfl, trivial⟩ ?_
  simp only [A_laws_heldInt64SS, B_laws_heldInt64SS_1, B_laws_heldInt64SS_2, go_sem, adopt_fun, Int.reduceLT, Int.reduceLE, Int.reduceToNat, Int.reduceNeg, Nat.reduceLT, Nat.reduceLeDiff, Nat.reduceMul, Nat.reduceSub, reduceIte, Nat.reduceEqDiff, Nat.reduceAdd, reduceCtorEq]
  refine wpD_lo (fun (i, _) => xss.length - i) (fun (i, k') => i ≤ xss.length ∧ okRows k' (xss.drop i) ∧ k' + totX (xss.drop i) = k + totX xss ∧ k ≤ k')
    (fun ((i, k') : Nat × Int) => ⟨L .any [(0, .ro none 1 (rwn xss)), (1, iv k'), (5, iv i)], L .gone []⟩) (0, k) ⟨by simp, by simpa using ho, by simp, Int.le_refl _⟩ (by simp only [B_laws_heldInt64SS_3, go_sem, adopt_fun, Int.reduceLT, Int.reduceLE, Int.reduceToNat, Int.reduceNeg, Nat.reduceLT, Nat.reduceLeDiff, Nat.reduceMul, Nat.reduceSub, reduceIte, Nat.reduceEqDiff, Nat.reduceAdd, reduceCtorEq]; try rfl) ?_
  rintro ⟨i, k'⟩ ⟨hi, h1, h2, h3⟩
  have hi : i ≤ xss.length := hi
  have hk3 : k ≤ k' := h3
  by_cases hlt : (i : Int) < xss.length
  · have hlt1 : i < xss.length := by omega
    rw [drop_getD hlt1 []] at h1 h2
    simp only [okRows] at h1
    simp only [totX] at h2
    have hn := totX_nn (xss.drop (i + 1))
    have hn0 := totX_nn xss
    have hl := hx _ (getD_mem hlt1 [])
    simp only [B_laws_heldInt64SS_3, B_laws_heldInt64SS_4, B_laws_heldInt64SS_5, rwn_getD hlt1, decide_eq_true hlt, go_sem, adopt_fun, Int.reduceLT, Int.reduceLE, Int.reduceToNat, Int.reduceNeg, Nat.reduceLT, Nat.reduceLeDiff, Nat.reduceMul, Nat.reduceSub, reduceIte, Nat.reduceEqDiff, Nat.reduceAdd, reduceCtorEq]
    intro hM vs
    refine ⟨⟨by omega, hlt1⟩, hlt1, ?_⟩
    refine call_fun (k_held (xss.getD i []) k' (by omega) hl h1.1) qCS trivial ?_
    have hneg : ¬ (k' + ((xss.getD i []).length : Int) < 0) := by omega
    simp only [B_laws_heldInt64SS_6, B_laws_heldInt64SS_7, B_laws_heldInt64SS_8, decide_eq_false hneg, nat1 i _ hlt1 hM, go_sem, adopt_fun, Int.reduceLT, Int.reduceLE, Int.reduceToNat, Int.reduceNeg, Nat.reduceLT, Nat.reduceLeDiff, Nat.reduceMul, Nat.reduceSub, reduceIte, Nat.reduceEqDiff, Nat.reduceAdd, reduceCtorEq]
    exact ⟨(i + 1, _), by dsimp only; omega, ⟨by dsimp only; omega, h1.2, by dsimp only; omega, by dsimp only; omega⟩, rfl⟩
  · have : i = xss.length := by omega
    subst this
    rw [List.drop_length] at h2
    simp only [totX] at h2
    simp only [B_laws_heldInt64SS_3, B_laws_heldInt64SS_4, B_laws_heldInt64SS_9, decide_eq_false hlt, go_sem, adopt_fun, Int.reduceLT, Int.reduceLE, Int.reduceToNat, Int.reduceNeg, Nat.reduceLT, Nat.reduceLeDiff, Nat.reduceMul, Nat.reduceSub, reduceIte, Nat.reduceEqDiff, Nat.reduceAdd, reduceCtorEq]
    intro _
    rw [← h2, Int.add_zero]

theorem thaw_L {l : List (Nat × AVal)} {h : List (Nat × AObj)} {r i q n m v k k' : Nat} {nn : Bool} {cs cs' : List AVal} (hr : L .gone h r = .row v k nn cs) :
    St.thaw ⟨L .any l, L .gone h⟩ r i q n m k' cs' = ⟨L .any (woT n l), L .gone ((q, .row m k' true (woL n cs')) :: (r, .row v k nn ((woL n cs).set i (.own q m))) :: woO n h)⟩ := by
  unfold St.thaw
  congr 1
  · funext x; exact (woT_eq l x).symm
  · funext x
    simp only [L]
    split
    · rfl
    · split
      · rw [hr]
      · exact (woO_eq h x).symm
theorem gwp_thaw {gs : List GStep} {K : St → Prop} {l : List (Nat × AVal)} {h : List (Nat × AObj)} {r i q n v k k' : Nat} {nn : Bool} {cs cs' : List AVal} (hr : L .gone h r = .row v k nn cs)
    (hi : cs[i]? = some (.ro (some (some (n + 1))) k' cs')) (hne : cs' ≠ []) (hq : L .gone h q = .gone)
    (hk : ∀ m, gwp gs K ⟨L .any (woT n l), L .gone ((q, .row m k' true (woL n cs')) :: (r, .row v k nn ((woL n cs).set i (.own q m))) :: woO n h)⟩) : gwp (.thaw r i q :: gs) K ⟨L .any l, L .gone h⟩ :=
  ⟨v, k, nn, cs, n, k', cs', hr, hi, hne, hq, fun m => by rw [thaw_L hr]; exact hk m⟩
theorem wo_ne {n n' : Nat} {x : List Int} (h : n' ≠ n) : AVal.wo n (.ro (some (some (n' + 1))) 1 (ints x)) = .ro (some (some (n' + 1))) 1 (ints x) := by
  cases x with
  | nil => simp [AVal.wo]
  | cons a x =>
    simp only [List.map_cons, AVal.wo, if_neg h]
    rw [show (AVal.val (.int .i64 a) :: List.map (fun x => AVal.val (.int .i64 x)) x) = ints (a :: x) from rfl, woL_ints]
theorem wo_o {n k : Nat} {cs : List AVal} : AVal.wo n (.ro (some (some 0)) k cs) = .ro (some (some 0)) k (woL n cs) := by cases cs <;> simp [AVal.wo, woL]
theorem woL_rwo {n : Nat} {xss : List (List Int)} : woL n (rwo xss) = rwo xss := by
  simp only [woL_eq, rwo, List.map_map]
  refine List.map_congr_left fun xs _ => ?_
  simp only [Function.comp]
  rw [wo_o, woL_ints]
theorem wo_st {n : Nat} {cs : List AVal} : AVal.wo n (.st cs) = .st (woL n cs) := by simp only [AVal.wo]
theorem wo_ptr {n r u o : Nat} : AVal.wo n (.ptr r u o) = .ptr r u o := by simp only [AVal.wo]
theorem ren_own_in {r v : Nat} {l : List Nat} {s : Nat → Nat} (h : 5000 ≤ r ∧ r < 6000) : AVal.ren (expo l) s (.own r v) = .own r (s v) := by
  exact ren_own (by simp only [expo]; rw [if_pos h.1, if_pos h.2])
theorem woL_nil {n : Nat} : woL n [] = [] := by simp only [woL]
theorem woL_cons {n : Nat} {A : AVal} {cs : List AVal} : woL n (A :: cs) = AVal.wo n A :: woL n cs := by simp only [woL]
theorem woO_row {n v k : Nat} {nn : Bool} {cs : List AVal} : AObj.wo n (.row v k nn cs) = .row v k nn (woL n cs) := rfl
theorem woO_box {n v : Nat} {cs : List AVal} : AObj.wo n (.box v cs) = .box v (woL n cs) := rfl


theorem k_markSS1 (a : List Int) (k : Int) (h : 0 ≤ k ∧ k ≤ 1000000) (ha : (a.length : Int) ≤ 1000) :
    Con Try.prog n_laws_markInt64SS [.row 0 1 true [.own 5001 1], .row 1 1 true (ints a)] [.own 5000 0, iv k] true
      fun outs rows res => outs = [.row 0 1 true [.own 5001 1], .row 1 1 true (ints (seqI (k) a.length))] ∧ rows = [] ∧ res = iv (k + a.length) := by
  refine con_sh mixed c_laws_markInt64SS rfl (by simp) ?_
  simp only [A_laws_markInt64SS, B_laws_markInt64SS_1, B_laws_markInt64SS_2, wpD_kp, wpD_regi, go_sem, adopt_fun, Int.reduceLT, Int.reduceLE, Int.reduceToNat, Int.reduceNeg, Nat.reduceLT, Nat.reduceLeDiff, Nat.reduceMul, Nat.reduceSub, reduceIte, Nat.reduceEqDiff, Nat.reduceAdd, reduceCtorEq]
  intro vs0 U0 hN0 vs1 U1 hN1
  refine wpD_lp (fun i => 1 - i) (fun i => i ≤ 1)
    (fun i : Nat => ⟨L .any [(0, .own 5000 0), (1, iv (if i = 0 then k else k + a.length)), (5, iv i)], L .gone [(5000, .row 0 1 true [.own 5001 1]), (5001, .row 1 1 true (ints (if i ≤ 0 then a else seqI (k) a.length))), (5002, .gone), (5003, .gone)]⟩) 0 (by simp)
    (by simp only [B_laws_markInt64SS_3, Nat.zero_le, if_true, go_sem, adopt_fun, Int.reduceLT, Int.reduceLE, Int.reduceToNat, Int.reduceNeg, Nat.reduceLT, Nat.reduceLeDiff, Nat.reduceMul, Nat.reduceSub, reduceIte, Nat.reduceEqDiff, Nat.reduceAdd, reduceCtorEq]; try rfl) ?_
  intro i hi
  obtain rfl | rfl : i = 0 ∨ i = 1 := by omega
  · simp only [B_laws_markInt64SS_3, B_laws_markInt64SS_4, Nat.reduceLeDiff, Nat.le_refl, Nat.zero_le, if_true, if_false, wpD_kp, wpD_regi, go_sem, adopt_fun, Int.reduceLT, Int.reduceLE, Int.reduceToNat, Int.reduceNeg, Nat.reduceLT, Nat.reduceLeDiff, Nat.reduceMul, Nat.reduceSub, reduceIte, Nat.reduceEqDiff, Nat.reduceAdd, reduceCtorEq]
    intro vs2 U2 hN2 hM
    have e : decide (((0 : Nat) : Int) < ((1 : Nat) : Int)) = true := by decide
    simp only [e, wpD_kp, wpD_regi, go_sem, adopt_fun, Int.reduceLT, Int.reduceLE, Int.reduceToNat, Int.reduceNeg, Nat.reduceLT, Nat.reduceLeDiff, Nat.reduceMul, Nat.reduceSub, reduceIte, Nat.reduceEqDiff, Nat.reduceAdd, reduceCtorEq]
    simp only [B_laws_markInt64SS_5, wpD_kp, wpD_gh, go_sem, adopt_fun, Int.reduceLT, Int.reduceLE, Int.reduceToNat, Int.reduceNeg, Nat.reduceLT, Nat.reduceLeDiff, Nat.reduceMul, Nat.reduceSub, reduceIte, Nat.reduceEqDiff, Nat.reduceAdd, reduceCtorEq]
    intro _
    refine ⟨[], ?_⟩
    simp only [gwp_nil, wpD_kp, wpD_regi, go_sem, adopt_fun, Int.reduceLT, Int.reduceLE, Int.reduceToNat, Int.reduceNeg, Nat.reduceLT, Nat.reduceLeDiff, Nat.reduceMul, Nat.reduceSub, reduceIte, Nat.reduceEqDiff, Nat.reduceAdd, reduceCtorEq]
    intro vs3 U3 hN3
    refine ⟨by omega, ?_⟩
    refine call_mark (k_markInt64S a true (k) (by omega) (by omega)) qGN rfl ?_
    have w1 : IntKind.i64.wrap (((0 : Nat) : Int) + 1) = ((1 : Nat) : Int) := w64 (by omega)
    simp only [B_laws_markInt64SS_6, w1, wpD_kp, wpD_regi, go_sem, adopt_fun, Int.reduceLT, Int.reduceLE, Int.reduceToNat, Int.reduceNeg, Nat.reduceLT, Nat.reduceLeDiff, Nat.reduceMul, Nat.reduceSub, reduceIte, Nat.reduceEqDiff, Nat.reduceAdd, reduceCtorEq]
    intro vs4 U4 hN4
    exact ⟨1, by omega, by omega, rfl⟩
  · simp only [B_laws_markInt64SS_3, B_laws_markInt64SS_4, B_laws_markInt64SS_7, Nat.reduceLeDiff, Nat.le_refl, Nat.zero_le, if_true, if_false, wpD_kp, wpD_regi, go_sem, adopt_fun, Int.reduceLT, Int.reduceLE, Int.reduceToNat, Int.reduceNeg, Nat.reduceLT, Nat.reduceLeDiff, Nat.reduceMul, Nat.reduceSub, reduceIte, Nat.reduceEqDiff, Nat.reduceAdd, reduceCtorEq]
    intro vs2 U2 hN2 hM
    have e : decide (((1 : Nat) : Int) < ((1 : Nat) : Int)) = false := by decide
    simp only [e, wpD_kp, wpD_regi, go_sem, adopt_fun, Int.reduceLT, Int.reduceLE, Int.reduceToNat, Int.reduceNeg, Nat.reduceLT, Nat.reduceLeDiff, Nat.reduceMul, Nat.reduceSub, reduceIte, Nat.reduceEqDiff, Nat.reduceAdd, reduceCtorEq]
    intro vs3 U3 hN3
    refine ⟨[], by simp, by simp, by simp, ?_⟩
    simp only [List.nil_append, List.cons_append, Nat.add_zero, ren_own_in, Nat.not_lt_zero, range1, ren_val, ren_any, ren_ro, rnNm_n, rnNm_sn, rnNm_o, rnNm_s, ren_st, ren_tup, renL_nil, renL_cons, renL_intsK, renL_rws, renL_rwn, oren_box, oren_row, oren_map, ren_own_e0, ren_own_e1, ren_own_e2, ren_ptr_e0, ren_mp_e0, ren_mp_e1, ren_own_r0, ren_own_r1, ren_own_r2, ren_ptr_r0, ren_mp_r0, ren_mp_r1, List.range_zero, callHp_nil, callHp_one, callHp_two, gone_nil, gone_one, gone_two, AVal.fresh, freshL, fresh_intsK, fresh_rws, AObj.fresh, id, Option.isSome_some, or_true, true_or, go_sem, adopt_fun, Int.reduceLT, Int.reduceLE, Int.reduceToNat, Int.reduceNeg, Nat.reduceLT, Nat.reduceLeDiff, Nat.reduceMul, Nat.reduceSub, reduceIte, Nat.reduceEqDiff, Nat.reduceAdd, reduceCtorEq]
    try simp

theorem k_markSS2 (a b : List Int) (k : Int) (h : 0 ≤ k ∧ k ≤ 1000000) (ha : (a.length : Int) ≤ 1000) (hb : (b.length : Int) ≤ 1000) :
    Con Try.prog n_laws_markInt64SS [.row 0 1 true [.own 5001 1, .own 5002 2], .row 1 1 true (ints a), .row 2 1 true (ints b)] [.own 5000 0, iv k] true
      fun outs rows res => outs = [.row 0 1 true [.own 5001 1, .own 5002 2], .row 1 1 true (ints (seqI (k) a.length)), .row 2 1 true (ints (seqI (k + a.length) b.length))] ∧ rows = [] ∧ res = iv (k + a.length + b.length) := by
  refine con_sh mixed c_laws_markInt64SS rfl (by simp) ?_
  simp only [A_laws_markInt64SS, B_laws_markInt64SS_1, B_laws_markInt64SS_2, wpD_kp, wpD_regi, go_sem, adopt_fun, Int.reduceLT, Int.reduceLE, Int.reduceToNat, Int.reduceNeg, Nat.reduceLT, Nat.reduceLeDiff, Nat.reduceMul, Nat.reduceSub, reduceIte, Nat.reduceEqDiff, Nat.reduceAdd, reduceCtorEq]
  intro vs0 U0 hN0 vs1 U1 hN1
  refine wpD_lp (fun i => 2 - i) (fun i => i ≤ 2)
    (fun i : Nat => ⟨L .any [(0, .own 5000 0), (1, iv (if i = 0 then k else if i = 1 then k + a.length else k + a.length + b.length)), (5, iv i)], L .gone [(5000, .row 0 1 true [.own 5001 1, .own 5002 2]), (5001, .row 1 1 true (ints (if i ≤ 0 then a else seqI (k) a.length))), (5002, .row 2 1 true (ints (if i ≤ 1 then b else seqI (k + a.length) b.length))), (5003, .gone)]⟩) 0 (by simp)
    (by simp only [B_laws_markInt64SS_3, Nat.zero_le, if_true, go_sem, adopt_fun, Int.reduceLT, Int.reduceLE, Int.reduceToNat, Int.reduceNeg, Nat.reduceLT, Nat.reduceLeDiff, Nat.reduceMul, Nat.reduceSub, reduceIte, Nat.reduceEqDiff, Nat.reduceAdd, reduceCtorEq]; try rfl) ?_
  intro i hi
  obtain rfl | rfl | rfl : i = 0 ∨ i = 1 ∨ i = 2 := by omega
  · simp only [B_laws_markInt64SS_3, B_laws_markInt64SS_4, Nat.reduceLeDiff, Nat.le_refl, Nat.zero_le, if_true, if_false, wpD_kp, wpD_regi, go_sem, adopt_fun, Int.reduceLT, Int.reduceLE, Int.reduceToNat, Int.reduceNeg, Nat.reduceLT, Nat.reduceLeDiff, Nat.reduceMul, Nat.reduceSub, reduceIte, Nat.reduceEqDiff, Nat.reduceAdd, reduceCtorEq]
    intro vs2 U2 hN2 hM
    have e : decide (((0 : Nat) : Int) < ((2 : Nat) : Int)) = true := by decide
    simp only [e, wpD_kp, wpD_regi, go_sem, adopt_fun, Int.reduceLT, Int.reduceLE, Int.reduceToNat, Int.reduceNeg, Nat.reduceLT, Nat.reduceLeDiff, Nat.reduceMul, Nat.reduceSub, reduceIte, Nat.reduceEqDiff, Nat.reduceAdd, reduceCtorEq]
    simp only [B_laws_markInt64SS_5, wpD_kp, wpD_gh, go_sem, adopt_fun, Int.reduceLT, Int.reduceLE, Int.reduceToNat, Int.reduceNeg, Nat.reduceLT, Nat.reduceLeDiff, Nat.reduceMul, Nat.reduceSub, reduceIte, Nat.reduceEqDiff, Nat.reduceAdd, reduceCtorEq]
    intro _
    refine ⟨[], ?_⟩
    simp only [gwp_nil, wpD_kp, wpD_regi, go_sem, adopt_fun, Int.reduceLT, Int.reduceLE, Int.reduceToNat, Int.reduceNeg, Nat.reduceLT, Nat.reduceLeDiff, Nat.reduceMul, Nat.reduceSub, reduceIte, Nat.reduceEqDiff, Nat.reduceAdd, reduceCtorEq]
    intro vs3 U3 hN3
    refine ⟨by omega, ?_⟩
    refine call_mark (k_markInt64S a true (k) (by omega) (by omega)) qGN rfl ?_
    have w1 : IntKind.i64.wrap (((0 : Nat) : Int) + 1) = ((1 : Nat) : Int) := w64 (by omega)
    simp only [B_laws_markInt64SS_6, w1, wpD_kp, wpD_regi, go_sem, adopt_fun, Int.reduceLT, Int.reduceLE, Int.reduceToNat, Int.reduceNeg, Nat.reduceLT, Nat.reduceLeDiff, Nat.reduceMul, Nat.reduceSub, reduceIte, Nat.reduceEqDiff, Nat.reduceAdd, reduceCtorEq]
    intro vs4 U4 hN4
    exact ⟨1, by omega, by omega, rfl⟩
  · simp only [B_laws_markInt64SS_3, B_laws_markInt64SS_4, Nat.reduceLeDiff, Nat.le_refl, Nat.zero_le, if_true, if_false, wpD_kp, wpD_regi, go_sem, adopt_fun, Int.reduceLT, Int.reduceLE, Int.reduceToNat, Int.reduceNeg, Nat.reduceLT, Nat.reduceLeDiff, Nat.reduceMul, Nat.reduceSub, reduceIte, Nat.reduceEqDiff, Nat.reduceAdd, reduceCtorEq]
    intro vs2 U2 hN2 hM
    have e : decide (((1 : Nat) : Int) < ((2 : Nat) : Int)) = true := by decide
    simp only [e, wpD_kp, wpD_regi, go_sem, adopt_fun, Int.reduceLT, Int.reduceLE, Int.reduceToNat, Int.reduceNeg, Nat.reduceLT, Nat.reduceLeDiff, Nat.reduceMul, Nat.reduceSub, reduceIte, Nat.reduceEqDiff, Nat.reduceAdd, reduceCtorEq]
    simp only [B_laws_markInt64SS_5, wpD_kp, wpD_gh, go_sem, adopt_fun, Int.reduceLT, Int.reduceLE, Int.reduceToNat, Int.reduceNeg, Nat.reduceLT, Nat.reduceLeDiff, Nat.reduceMul, Nat.reduceSub, reduceIte, Nat.reduceEqDiff, Nat.reduceAdd, reduceCtorEq]
    intro _
    refine ⟨[], ?_⟩
    simp only [gwp_nil, wpD_kp, wpD_regi, go_sem, adopt_fun, Int.reduceLT, Int.reduceLE, Int.reduceToNat, Int.reduceNeg, Nat.reduceLT, Nat.reduceLeDiff, Nat.reduceMul, Nat.reduceSub, reduceIte, Nat.reduceEqDiff, Nat.reduceAdd, reduceCtorEq]
    intro vs3 U3 hN3
    refine ⟨by omega, ?_⟩
    refine call_mark (k_markInt64S b true (k + a.length) (by omega) (by omega)) qGN rfl ?_
    have w1 : IntKind.i64.wrap (((1 : Nat) : Int) + 1) = ((2 : Nat) : Int) := w64 (by omega)
    simp only [B_laws_markInt64SS_6, w1, wpD_kp, wpD_regi, go_sem, adopt_fun, Int.reduceLT, Int.reduceLE, Int.reduceToNat, Int.reduceNeg, Nat.reduceLT, Nat.reduceLeDiff, Nat.reduceMul, Nat.reduceSub, reduceIte, Nat.reduceEqDiff, Nat.reduceAdd, reduceCtorEq]
    intro vs4 U4 hN4
    exact ⟨2, by omega, by omega, rfl⟩
  · simp only [B_laws_markInt64SS_3, B_laws_markInt64SS_4, B_laws_markInt64SS_7, Nat.reduceLeDiff, Nat.le_refl, Nat.zero_le, if_true, if_false, wpD_kp, wpD_regi, go_sem, adopt_fun, Int.reduceLT, Int.reduceLE, Int.reduceToNat, Int.reduceNeg, Nat.reduceLT, Nat.reduceLeDiff, Nat.reduceMul, Nat.reduceSub, reduceIte, Nat.reduceEqDiff, Nat.reduceAdd, reduceCtorEq]
    intro vs2 U2 hN2 hM
    have e : decide (((2 : Nat) : Int) < ((2 : Nat) : Int)) = false := by decide
    simp only [e, wpD_kp, wpD_regi, go_sem, adopt_fun, Int.reduceLT, Int.reduceLE, Int.reduceToNat, Int.reduceNeg, Nat.reduceLT, Nat.reduceLeDiff, Nat.reduceMul, Nat.reduceSub, reduceIte, Nat.reduceEqDiff, Nat.reduceAdd, reduceCtorEq]
    intro vs3 U3 hN3
    refine ⟨[], by simp, by simp, by simp, ?_⟩
    simp only [List.nil_append, List.cons_append, Nat.add_zero, ren_own_in, Nat.not_lt_zero, range1, ren_val, ren_any, ren_ro, rnNm_n, rnNm_sn, rnNm_o, rnNm_s, ren_st, ren_tup, renL_nil, renL_cons, renL_intsK, renL_rws, renL_rwn, oren_box, oren_row, oren_map, ren_own_e0, ren_own_e1, ren_own_e2, ren_ptr_e0, ren_mp_e0, ren_mp_e1, ren_own_r0, ren_own_r1, ren_own_r2, ren_ptr_r0, ren_mp_r0, ren_mp_r1, List.range_zero, callHp_nil, callHp_one, callHp_two, gone_nil, gone_one, gone_two, AVal.fresh, freshL, fresh_intsK, fresh_rws, AObj.fresh, id, Option.isSome_some, or_true, true_or, go_sem, adopt_fun, Int.reduceLT, Int.reduceLE, Int.reduceToNat, Int.reduceNeg, Nat.reduceLT, Nat.reduceLeDiff, Nat.reduceMul, Nat.reduceSub, reduceIte, Nat.reduceEqDiff, Nat.reduceAdd, reduceCtorEq]
    try simp

theorem k_markSS3 (a b c : List Int) (k : Int) (h : 0 ≤ k ∧ k ≤ 1000000) (ha : (a.length : Int) ≤ 1000) (hb : (b.length : Int) ≤ 1000) (hc : (c.length : Int) ≤ 1000) :
    Con Try.prog n_laws_markInt64SS [.row 0 1 true [.own 5001 1, .own 5002 2, .own 5003 3], .row 1 1 true (ints a), .row 2 1 true (ints b), .row 3 1 true (ints c)] [.own 5000 0, iv k] true
      fun outs rows res => outs = [.row 0 1 true [.own 5001 1, .own 5002 2, .own 5003 3], .row 1 1 true (ints (seqI (k) a.length)), .row 2 1 true (ints (seqI (k + a.length) b.length)), .row 3 1 true (ints (seqI (k + a.length + b.length) c.length))] ∧ rows = [] ∧ res = iv (k + a.length + b.length + c.length) := by
  refine con_sh mixed c_laws_markInt64SS rfl (by simp) ?_
  simp only [A_laws_markInt64SS, B_laws_markInt64SS_1, B_laws_markInt64SS_2, wpD_kp, wpD_regi, go_sem, adopt_fun, Int.reduceLT, Int.reduceLE, Int.reduceToNat, Int.reduceNeg, Nat.reduceLT, Nat.reduceLeDiff, Nat.reduceMul, Nat.reduceSub, reduceIte, Nat.reduceEqDiff, Nat.reduceAdd, reduceCtorEq]
  intro vs0 U0 hN0 vs1 U1 hN1
  refine wpD_lp (fun i => 3 - i) (fun i => i ≤ 3)
    (fun i : Nat => ⟨L .any [(0, .own 5000 0), (1, iv (if i = 0 then k else if i = 1 then k + a.length else if i = 2 then k + a.length + b.length else k + a.length + b.length + c.length)), (5, iv i)], L .gone [(5000, .row 0 1 true [.own 5001 1, .own 5002 2, .own 5003 3]), (5001, .row 1 1 true (ints (if i ≤ 0 then a else seqI (k) a.length))), (5002, .row 2 1 true (ints (if i ≤ 1 then b else seqI (k + a.length) b.length))), (5003, .row 3 1 true (ints (if i ≤ 2 then c else seqI (k + a.length + b.length) c.length)))]⟩) 0 (by simp)
    (by simp only [B_laws_markInt64SS_3, Nat.zero_le, if_true, go_sem, adopt_fun, Int.reduceLT, Int.reduceLE, Int.reduceToNat, Int.reduceNeg, Nat.reduceLT, Nat.reduceLeDiff, Nat.reduceMul, Nat.reduceSub, reduceIte, Nat.reduceEqDiff, Nat.reduceAdd, reduceCtorEq]; try rfl) ?_
  intro i hi
  obtain rfl | rfl | rfl | rfl : i = 0 ∨ i = 1 ∨ i = 2 ∨ i = 3 := by omega
  · simp only [B_laws_markInt64SS_3, B_laws_markInt64SS_4, Nat.reduceLeDiff, Nat.le_refl, Nat.zero_le, if_true, if_false, wpD_kp, wpD_regi, go_sem, adopt_fun, Int.reduceLT, Int.reduceLE, Int.reduceToNat, Int.reduceNeg, Nat.reduceLT, Nat.reduceLeDiff, Nat.reduceMul, Nat.reduceSub, reduceIte, Nat.reduceEqDiff, Nat.reduceAdd, reduceCtorEq]
    intro vs2 U2 hN2 hM
    have e : decide (((0 : Nat) : Int) < ((3 : Nat) : Int)) = true := by decide
    simp only [e, wpD_kp, wpD_regi, go_sem, adopt_fun, Int.reduceLT, Int.reduceLE, Int.reduceToNat, Int.reduceNeg, Nat.reduceLT, Nat.reduceLeDiff, Nat.reduceMul, Nat.reduceSub, reduceIte, Nat.reduceEqDiff, Nat.reduceAdd, reduceCtorEq]
    simp only [B_laws_markInt64SS_5, wpD_kp, wpD_gh, go_sem, adopt_fun, Int.reduceLT, Int.reduceLE, Int.reduceToNat, Int.reduceNeg, Nat.reduceLT, Nat.reduceLeDiff, Nat.reduceMul, Nat.reduceSub, reduceIte, Nat.reduceEqDiff, Nat.reduceAdd, reduceCtorEq]
    intro _
    refine ⟨[], ?_⟩
    simp only [gwp_nil, wpD_kp, wpD_regi, go_sem, adopt_fun, Int.reduceLT, Int.reduceLE, Int.reduceToNat, Int.reduceNeg, Nat.reduceLT, Nat.reduceLeDiff, Nat.reduceMul, Nat.reduceSub, reduceIte, Nat.reduceEqDiff, Nat.reduceAdd, reduceCtorEq]
    intro vs3 U3 hN3
    refine ⟨by omega, ?_⟩
    refine call_mark (k_markInt64S a true (k) (by omega) (by omega)) qGN rfl ?_
    have w1 : IntKind.i64.wrap (((0 : Nat) : Int) + 1) = ((1 : Nat) : Int) := w64 (by omega)
    simp only [B_laws_markInt64SS_6, w1, wpD_kp, wpD_regi, go_sem, adopt_fun, Int.reduceLT, Int.reduceLE, Int.reduceToNat, Int.reduceNeg, Nat.reduceLT, Nat.reduceLeDiff, Nat.reduceMul, Nat.reduceSub, reduceIte, Nat.reduceEqDiff, Nat.reduceAdd, reduceCtorEq]
    intro vs4 U4 hN4
    exact ⟨1, by omega, by omega, rfl⟩
  · simp only [B_laws_markInt64SS_3, B_laws_markInt64SS_4, Nat.reduceLeDiff, Nat.le_refl, Nat.zero_le, if_true, if_false, wpD_kp, wpD_regi, go_sem, adopt_fun, Int.reduceLT, Int.reduceLE, Int.reduceToNat, Int.reduceNeg, Nat.reduceLT, Nat.reduceLeDiff, Nat.reduceMul, Nat.reduceSub, reduceIte, Nat.reduceEqDiff, Nat.reduceAdd, reduceCtorEq]
    intro vs2 U2 hN2 hM
    have e : decide (((1 : Nat) : Int) < ((3 : Nat) : Int)) = true := by decide
    simp only [e, wpD_kp, wpD_regi, go_sem, adopt_fun, Int.reduceLT, Int.reduceLE, Int.reduceToNat, Int.reduceNeg, Nat.reduceLT, Nat.reduceLeDiff, Nat.reduceMul, Nat.reduceSub, reduceIte, Nat.reduceEqDiff, Nat.reduceAdd, reduceCtorEq]
    simp only [B_laws_markInt64SS_5, wpD_kp, wpD_gh, go_sem, adopt_fun, Int.reduceLT, Int.reduceLE, Int.reduceToNat, Int.reduceNeg, Nat.reduceLT, Nat.reduceLeDiff, Nat.reduceMul, Nat.reduceSub, reduceIte, Nat.reduceEqDiff, Nat.reduceAdd, reduceCtorEq]
    intro _
    refine ⟨[], ?_⟩
    simp only [gwp_nil, wpD_kp, wpD_regi, go_sem, adopt_fun, Int.reduceLT, Int.reduceLE, Int.reduceToNat, Int.reduceNeg, Nat.reduceLT, Nat.reduceLeDiff, Nat.reduceMul, Nat.reduceSub, reduceIte, Nat.reduceEqDiff, Nat.reduceAdd, reduceCtorEq]
    intro vs3 U3 hN3
    refine ⟨by omega, ?_⟩
    refine call_mark (k_markInt64S b true (k + a.length) (by omega) (by omega)) qGN rfl ?_
    have w1 : IntKind.i64.wrap (((1 : Nat) : Int) + 1) = ((2 : Nat) : Int) := w64 (by omega)
    simp only [B_laws_markInt64SS_6, w1, wpD_kp, wpD_regi, go_sem, adopt_fun, Int.reduceLT, Int.reduceLE, Int.reduceToNat, Int.reduceNeg, Nat.reduceLT, Nat.reduceLeDiff, Nat.reduceMul, Nat.reduceSub, reduceIte, Nat.reduceEqDiff, Nat.reduceAdd, reduceCtorEq]
    intro vs4 U4 hN4
    exact ⟨2, by omega, by omega, rfl⟩
  · simp only [B_laws_markInt64SS_3, B_laws_markInt64SS_4, Nat.reduceLeDiff, Nat.le_refl, Nat.zero_le, if_true, if_false, wpD_kp, wpD_regi, go_sem, adopt_fun, Int.reduceLT, Int.reduceLE, Int.reduceToNat, Int.reduceNeg, Nat.reduceLT, Nat.reduceLeDiff, Nat.reduceMul, Nat.reduceSub, reduceIte, Nat.reduceEqDiff, Nat.reduceAdd, reduceCtorEq]
    intro vs2 U2 hN2 hM
    have e : decide (((2 : Nat) : Int) < ((3 : Nat) : Int)) = true := by decide
    simp only [e, wpD_kp, wpD_regi, go_sem, adopt_fun, Int.reduceLT, Int.reduceLE, Int.reduceToNat, Int.reduceNeg, Nat.reduceLT, Nat.reduceLeDiff, Nat.reduceMul, Nat.reduceSub, reduceIte, Nat.reduceEqDiff, Nat.reduceAdd, reduceCtorEq]
    simp only [B_laws_markInt64SS_5, wpD_kp, wpD_gh, go_sem, adopt_fun, Int.reduceLT, Int.reduceLE, Int.reduceToNat, Int.reduceNeg, Nat.reduceLT, Nat.reduceLeDiff, Nat.reduceMul, Nat.reduceSub, reduceIte, Nat.reduceEqDiff, Nat.reduceAdd, reduceCtorEq]
    intro _
    refine ⟨[], ?_⟩
    simp only [gwp_nil, wpD_kp, wpD_regi, go_sem, adopt_fun, Int.reduceLT, Int.reduceLE, Int.reduceToNat, Int.reduceNeg, Nat.reduceLT, Nat.reduceLeDiff, Nat.reduceMul, Nat.reduceSub, reduceIte, Nat.reduceEqDiff, Nat.reduceAdd, reduceCtorEq]
    intro vs3 U3 hN3
    refine ⟨by omega, ?_⟩
    refine call_mark (k_markInt64S c true (k + a.length + b.length) (by omega) (by omega)) qGN rfl ?_
    have w1 : IntKind.i64.wrap (((2 : Nat) : Int) + 1) = ((3 : Nat) : Int) := w64 (by omega)
    simp only [B_laws_markInt64SS_6, w1, wpD_kp, wpD_regi, go_sem, adopt_fun, Int.reduceLT, Int.reduceLE, Int.reduceToNat, Int.reduceNeg, Nat.reduceLT, Nat.reduceLeDiff, Nat.reduceMul, Nat.reduceSub, reduceIte, Nat.reduceEqDiff, Nat.reduceAdd, reduceCtorEq]
    intro vs4 U4 hN4
    exact ⟨3, by omega, by omega, rfl⟩
  · simp only [B_laws_markInt64SS_3, B_laws_markInt64SS_4, B_laws_markInt64SS_7, Nat.reduceLeDiff, Nat.le_refl, Nat.zero_le, if_true, if_false, wpD_kp, wpD_regi, go_sem, adopt_fun, Int.reduceLT, Int.reduceLE, Int.reduceToNat, Int.reduceNeg, Nat.reduceLT, Nat.reduceLeDiff, Nat.reduceMul, Nat.reduceSub, reduceIte, Nat.reduceEqDiff, Nat.reduceAdd, reduceCtorEq]
    intro vs2 U2 hN2 hM
    have e : decide (((3 : Nat) : Int) < ((3 : Nat) : Int)) = false := by decide
    simp only [e, wpD_kp, wpD_regi, go_sem, adopt_fun, Int.reduceLT, Int.reduceLE, Int.reduceToNat, Int.reduceNeg, Nat.reduceLT, Nat.reduceLeDiff, Nat.reduceMul, Nat.reduceSub, reduceIte, Nat.reduceEqDiff, Nat.reduceAdd, reduceCtorEq]
    intro vs3 U3 hN3
    refine ⟨[], by simp, by simp, by simp, ?_⟩
    simp only [List.nil_append, List.cons_append, Nat.add_zero, ren_own_in, Nat.not_lt_zero, range1, ren_val, ren_any, ren_ro, rnNm_n, rnNm_sn, rnNm_o, rnNm_s, ren_st, ren_tup, renL_nil, renL_cons, renL_intsK, renL_rws, renL_rwn, oren_box, oren_row, oren_map, ren_own_e0, ren_own_e1, ren_own_e2, ren_ptr_e0, ren_mp_e0, ren_mp_e1, ren_own_r0, ren_own_r1, ren_own_r2, ren_ptr_r0, ren_mp_r0, ren_mp_r1, List.range_zero, callHp_nil, callHp_one, callHp_two, gone_nil, gone_one, gone_two, AVal.fresh, freshL, fresh_intsK, fresh_rws, AObj.fresh, id, Option.isSome_some, or_true, true_or, go_sem, adopt_fun, Int.reduceLT, Int.reduceLE, Int.reduceToNat, Int.reduceNeg, Nat.reduceLT, Nat.reduceLeDiff, Nat.reduceMul, Nat.reduceSub, reduceIte, Nat.reduceEqDiff, Nat.reduceAdd, reduceCtorEq]
    try simp

theorem callHp_h2 {hp : Nat → AObj} {r q1 d : Nat} {s : Nat → Nat} {o0 o1 : AObj} (hnd : [r, q1].Nodup) :
    callHp hp [r, q1] d s [o0, o1] [] = (upd (upd hp r (o0.ren (rid [r, q1] d 0) (sv hp [r, q1] s))) q1 (o1.ren (rid [r, q1] d 0) (sv hp [r, q1] s))) := by
  have hnd' := hnd
  simp only [List.nodup_cons, List.mem_cons, List.not_mem_nil, or_false, not_or, List.nodup_nil, and_true, not_false_eq_true] at hnd'
  funext n
  by_cases e1 : n = q1
  · have h1 : rid [r, q1] d ([] : List AObj).length 5001 = some n := by rw [e1]; exact rid_m (j := 1) (by omega) rfl
    rw [callHp_at hnd (by simp) h1]
    simp [upd, e1, outHp, hnd', Ne.symm]
    try (intros; simp_all)
  by_cases e0 : n = r
  · have h1 : rid [r, q1] d ([] : List AObj).length 5000 = some n := by rw [e0]; exact rid_m (j := 0) (by omega) rfl
    rw [callHp_at hnd (by simp) h1]
    simp [upd, e0, outHp, hnd', Ne.symm]
    try (intros; simp_all)
  rw [callHp_not]
  · simp [upd, e0, e1]
  · rintro ⟨x, hx⟩
    rcases rid_cases hx with ⟨j, rfl, _, h3⟩ | ⟨i, rfl, h3, _⟩
    · match j, h3 with
      | 0, h3 => simp at h3; exact e0 h3.symm
      | 1, h3 => simp at h3; exact e1 h3.symm
      | j + 2, h3 => simp at h3
    · simp at h3

theorem call_mark1 {P : Program} {σ : St} {g : FuncId} {As args : List AVal} {d : Nat} {s : Nat → Nat} {K : St → Prop} {r q1 v u1 : Nat} {a a' : List Int} {z : Int}
    (h : Con P g [.row 0 1 true [.own 5001 1], .row 1 1 true (ints a)] args true fun outs rows res => outs = [.row 0 1 true [.own 5001 1], .row 1 1 true (ints a')] ∧ rows = [] ∧ res = iv z)
    (hr : σ.hp r = .row v 1 true [.own q1 u1]) (h1 : σ.hp q1 = .row u1 1 true (ints a)) (hnd : [r, q1].Nodup) (ha : CoeL σ.hp [r, q1] false args As)
    (hk : K (St.put ⟨σ.tm, (upd (upd σ.hp r (.row v 1 true [.own q1 u1])) q1 (.row u1 1 true (ints a')))⟩ (some d) (iv z))) : wpCall P false σ g As (some d) s K := by
  refine .inl ⟨[r, q1], _, _, true, _, h, ⟨by simp, rfl, hnd, ?_, ?_⟩, ha, (fun e => by cases e), ?_⟩
  · intro x hx
    simp only [List.mem_cons, List.not_mem_nil, or_false] at hx
    rcases hx with rfl | rfl
    · simp [hr]
    · simp [h1]
  · intro j B r' hB hr'
    match j, hB, hr' with
    | 0, hB, hr' =>
      simp at hB hr'; subst hB; subst hr'
      simp only [ObjCoe, hr]
      refine ⟨trivial, v, _, rfl, ?_⟩
      simp only [coeL_cons, coeL_nil, and_true, Coe]
      exact ⟨1, q1, u1, rfl, rfl, rfl, rfl, by rw [h1]; rfl⟩
    | 1, hB, hr' =>
      simp at hB hr'; subst hB; subst hr'
      simp only [ObjCoe, h1]
      exact ⟨trivial, u1, _, rfl, coeL_ints⟩
    | j + 2, hB, hr' => simp at hB
  · rintro outs rows res ⟨rfl, rfl, rfl⟩
    refine ⟨rfl, by simp, by simp, ?_⟩
    have s0 : sv σ.hp [r, q1] s 0 = v := by simp [sv, hr, AObj.ver]
    have s1 : sv σ.hp [r, q1] s 1 = u1 := by simp [sv, h1, AObj.ver]
    have r1 : AVal.ren (rid [r, q1] d 0) (sv σ.hp [r, q1] s) (.own 5001 1) = .own q1 u1 := by rw [ren_own (rid_m (j := 1) (by omega) rfl), s1]
    rw [Option.getD_some, callHp_h2 hnd]
    simp only [oren_row, renL_cons, renL_nil, renL_intsK, ren_val, s0, s1, r1]
    exact hk

theorem callHp_h3 {hp : Nat → AObj} {r q1 q2 d : Nat} {s : Nat → Nat} {o0 o1 o2 : AObj} (hnd : [r, q1, q2].Nodup) :
    callHp hp [r, q1, q2] d s [o0, o1, o2] [] = (upd (upd (upd hp r (o0.ren (rid [r, q1, q2] d 0) (sv hp [r, q1, q2] s))) q1 (o1.ren (rid [r, q1, q2] d 0) (sv hp [r, q1, q2] s))) q2 (o2.ren (rid [r, q1, q2] d 0) (sv hp [r, q1, q2] s))) := by
  have hnd' := hnd
  simp only [List.nodup_cons, List.mem_cons, List.not_mem_nil, or_false, not_or, List.nodup_nil, and_true, not_false_eq_true] at hnd'
  funext n
  by_cases e2 : n = q2
  · have h1 : rid [r, q1, q2] d ([] : List AObj).length 5002 = some n := by rw [e2]; exact rid_m (j := 2) (by omega) rfl
    rw [callHp_at hnd (by simp) h1]
    simp [upd, e2, outHp, hnd', Ne.symm]
    try (intros; simp_all)
  by_cases e1 : n = q1
  · have h1 : rid [r, q1, q2] d ([] : List AObj).length 5001 = some n := by rw [e1]; exact rid_m (j := 1) (by omega) rfl
    rw [callHp_at hnd (by simp) h1]
    simp [upd, e1, outHp, hnd', Ne.symm]
    try (intros; simp_all)
  by_cases e0 : n = r
  · have h1 : rid [r, q1, q2] d ([] : List AObj).length 5000 = some n := by rw [e0]; exact rid_m (j := 0) (by omega) rfl
    rw [callHp_at hnd (by simp) h1]
    simp [upd, e0, outHp, hnd', Ne.symm]
    try (intros; simp_all)
  rw [callHp_not]
  · simp [upd, e0, e1, e2]
  · rintro ⟨x, hx⟩
    rcases rid_cases hx with ⟨j, rfl, _, h3⟩ | ⟨i, rfl, h3, _⟩
    · match j, h3 with
      | 0, h3 => simp at h3; exact e0 h3.symm
      | 1, h3 => simp at h3; exact e1 h3.symm
      | 2, h3 => simp at h3; exact e2 h3.symm
      | j + 3, h3 => simp at h3
    · simp at h3

theorem call_mark2 {P : Program} {σ : St} {g : FuncId} {As args : List AVal} {d : Nat} {s : Nat → Nat} {K : St → Prop} {r q1 q2 v u1 u2 : Nat} {a b a' b' : List Int} {z : Int}
    (h : Con P g [.row 0 1 true [.own 5001 1, .own 5002 2], .row 1 1 true (ints a), .row 2 1 true (ints b)] args true fun outs rows res => outs = [.row 0 1 true [.own 5001 1, .own 5002 2], .row 1 1 true (ints a'), .row 2 1 true (ints b')] ∧ rows = [] ∧ res = iv z)
    (hr : σ.hp r = .row v 1 true [.own q1 u1, .own q2 u2]) (h1 : σ.hp q1 = .row u1 1 true (ints a)) (h2 : σ.hp q2 = .row u2 1 true (ints b)) (hnd : [r, q1, q2].Nodup) (ha : CoeL σ.hp [r, q1, q2] false args As)
    (hk : K (St.put ⟨σ.tm, (upd (upd (upd σ.hp r (.row v 1 true [.own q1 u1, .own q2 u2])) q1 (.row u1 1 true (ints a'))) q2 (.row u2 1 true (ints b')))⟩ (some d) (iv z))) : wpCall P false σ g As (some d) s K := by
  refine .inl ⟨[r, q1, q2], _, _, true, _, h, ⟨by simp, rfl, hnd, ?_, ?_⟩, ha, (fun e => by cases e), ?_⟩
  · intro x hx
    simp only [List.mem_cons, List.not_mem_nil, or_false] at hx
    rcases hx with rfl | rfl | rfl
    · simp [hr]
    · simp [h1]
    · simp [h2]
  · intro j B r' hB hr'
    match j, hB, hr' with
    | 0, hB, hr' =>
      simp at hB hr'; subst hB; subst hr'
      simp only [ObjCoe, hr]
      refine ⟨trivial, v, _, rfl, ?_⟩
      simp only [coeL_cons, coeL_nil, and_true, Coe]
      exact ⟨⟨1, q1, u1, rfl, rfl, rfl, rfl, by rw [h1]; rfl⟩, ⟨2, q2, u2, rfl, rfl, rfl, rfl, by rw [h2]; rfl⟩⟩
    | 1, hB, hr' =>
      simp at hB hr'; subst hB; subst hr'
      simp only [ObjCoe, h1]
      exact ⟨trivial, u1, _, rfl, coeL_ints⟩
    | 2, hB, hr' =>
      simp at hB hr'; subst hB; subst hr'
      simp only [ObjCoe, h2]
      exact ⟨trivial, u2, _, rfl, coeL_ints⟩
    | j + 3, hB, hr' => simp at hB
  · rintro outs rows res ⟨rfl, rfl, rfl⟩
    refine ⟨rfl, by simp, by simp, ?_⟩
    have s0 : sv σ.hp [r, q1, q2] s 0 = v := by simp [sv, hr, AObj.ver]
    have s1 : sv σ.hp [r, q1, q2] s 1 = u1 := by simp [sv, h1, AObj.ver]
    have s2 : sv σ.hp [r, q1, q2] s 2 = u2 := by simp [sv, h2, AObj.ver]
    have r1 : AVal.ren (rid [r, q1, q2] d 0) (sv σ.hp [r, q1, q2] s) (.own 5001 1) = .own q1 u1 := by rw [ren_own (rid_m (j := 1) (by omega) rfl), s1]
    have r2 : AVal.ren (rid [r, q1, q2] d 0) (sv σ.hp [r, q1, q2] s) (.own 5002 2) = .own q2 u2 := by rw [ren_own (rid_m (j := 2) (by omega) rfl), s2]
    rw [Option.getD_some, callHp_h3 hnd]
    simp only [oren_row, renL_cons, renL_nil, renL_intsK, ren_val, s0, s1, s2, r1, r2]
    exact hk

theorem callHp_h4 {hp : Nat → AObj} {r q1 q2 q3 d : Nat} {s : Nat → Nat} {o0 o1 o2 o3 : AObj} (hnd : [r, q1, q2, q3].Nodup) :
    callHp hp [r, q1, q2, q3] d s [o0, o1, o2, o3] [] = (upd (upd (upd (upd hp r (o0.ren (rid [r, q1, q2, q3] d 0) (sv hp [r, q1, q2, q3] s))) q1 (o1.ren (rid [r, q1, q2, q3] d 0) (sv hp [r, q1, q2, q3] s))) q2 (o2.ren (rid [r, q1, q2, q3] d 0) (sv hp [r, q1, q2, q3] s))) q3 (o3.ren (rid [r, q1, q2, q3] d 0) (sv hp [r, q1, q2, q3] s))) := by
  have hnd' := hnd
  simp only [List.nodup_cons, List.mem_cons, List.not_mem_nil, or_false, not_or, List.nodup_nil, and_true, not_false_eq_true] at hnd'
  funext n
  by_cases e3 : n = q3
  · have h1 : rid [r, q1, q2, q3] d ([] : List AObj).length 5003 = some n := by rw [e3]; exact rid_m (j := 3) (by omega) rfl
    rw [callHp_at hnd (by simp) h1]
    simp [upd, e3, outHp, hnd', Ne.symm]
    try (intros; simp_all)
  by_cases e2 : n = q2
  · have h1 : rid [r, q1, q2, q3] d ([] : List AObj).length 5002 = some n := by rw [e2]; exact rid_m (j := 2) (by omega) rfl
    rw [callHp_at hnd (by simp) h1]
    simp [upd, e2, outHp, hnd', Ne.symm]
    try (intros; simp_all)
  by_cases e1 : n = q1
  · have h1 : rid [r, q1, q2, q3] d ([] : List AObj).length 5001 = some n := by rw [e1]; exact rid_m (j := 1) (by omega) rfl
    rw [callHp_at hnd (by simp) h1]
    simp [upd, e1, outHp, hnd', Ne.symm]
    try (intros; simp_all)
  by_cases e0 : n = r
  · have h1 : rid [r, q1, q2, q3] d ([] : List AObj).length 5000 = some n := by rw [e0]; exact rid_m (j := 0) (by omega) rfl
    rw [callHp_at hnd (by simp) h1]
    simp [upd, e0, outHp, hnd', Ne.symm]
    try (intros; simp_all)
  rw [callHp_not]
  · simp [upd, e0, e1, e2, e3]
  · rintro ⟨x, hx⟩
    rcases rid_cases hx with ⟨j, rfl, _, h3⟩ | ⟨i, rfl, h3, _⟩
    · match j, h3 with
      | 0, h3 => simp at h3; exact e0 h3.symm
      | 1, h3 => simp at h3; exact e1 h3.symm
      | 2, h3 => simp at h3; exact e2 h3.symm
      | 3, h3 => simp at h3; exact e3 h3.symm
      | j + 4, h3 => simp at h3
    · simp at h3

theorem call_mark3 {P : Program} {σ : St} {g : FuncId} {As args : List AVal} {d : Nat} {s : Nat → Nat} {K : St → Prop} {r q1 q2 q3 v u1 u2 u3 : Nat} {a b c a' b' c' : List Int} {z : Int}
    (h : Con P g [.row 0 1 true [.own 5001 1, .own 5002 2, .own 5003 3], .row 1 1 true (ints a), .row 2 1 true (ints b), .row 3 1 true (ints c)] args true fun outs rows res => outs = [.row 0 1 true [.own 5001 1, .own 5002 2, .own 5003 3], .row 1 1 true (ints a'), .row 2 1 true (ints b'), .row 3 1 true (ints c')] ∧ rows = [] ∧ res = iv z)
    (hr : σ.hp r = .row v 1 true [.own q1 u1, .own q2 u2, .own q3 u3]) (h1 : σ.hp q1 = .row u1 1 true (ints a)) (h2 : σ.hp q2 = .row u2 1 true (ints b)) (h3 : σ.hp q3 = .row u3 1 true (ints c)) (hnd : [r, q1, q2, q3].Nodup) (ha : CoeL σ.hp [r, q1, q2, q3] false args As)
    (hk : K (St.put ⟨σ.tm, (upd (upd (upd (upd σ.hp r (.row v 1 true [.own q1 u1, .own q2 u2, .own q3 u3])) q1 (.row u1 1 true (ints a'))) q2 (.row u2 1 true (ints b'))) q3 (.row u3 1 true (ints c')))⟩ (some d) (iv z))) : wpCall P false σ g As (some d) s K := by
  refine .inl ⟨[r, q1, q2, q3], _, _, true, _, h, ⟨by simp, rfl, hnd, ?_, ?_⟩, ha, (fun e => by cases e), ?_⟩
  · intro x hx
    simp only [List.mem_cons, List.not_mem_nil, or_false] at hx
    rcases hx with rfl | rfl | rfl | rfl
    · simp [hr]
    · simp [h1]
    · simp [h2]
    · simp [h3]
  · intro j B r' hB hr'
    match j, hB, hr' with
    | 0, hB, hr' =>
      simp at hB hr'; subst hB; subst hr'
      simp only [ObjCoe, hr]
      refine ⟨trivial, v, _, rfl, ?_⟩
      simp only [coeL_cons, coeL_nil, and_true, Coe]
      exact ⟨⟨1, q1, u1, rfl, rfl, rfl, rfl, by rw [h1]; rfl⟩, ⟨2, q2, u2, rfl, rfl, rfl, rfl, by rw [h2]; rfl⟩, ⟨3, q3, u3, rfl, rfl, rfl, rfl, by rw [h3]; rfl⟩⟩
    | 1, hB, hr' =>
      simp at hB hr'; subst hB; subst hr'
      simp only [ObjCoe, h1]
      exact ⟨trivial, u1, _, rfl, coeL_ints⟩
    | 2, hB, hr' =>
      simp at hB hr'; subst hB; subst hr'
      simp only [ObjCoe, h2]
      exact ⟨trivial, u2, _, rfl, coeL_ints⟩
    | 3, hB, hr' =>
      simp at hB hr'; subst hB; subst hr'
      simp only [ObjCoe, h3]
      exact ⟨trivial, u3, _, rfl, coeL_ints⟩
    | j + 4, hB, hr' => simp at hB
  · rintro outs rows res ⟨rfl, rfl, rfl⟩
    refine ⟨rfl, by simp, by simp, ?_⟩
    have s0 : sv σ.hp [r, q1, q2, q3] s 0 = v := by simp [sv, hr, AObj.ver]
    have s1 : sv σ.hp [r, q1, q2, q3] s 1 = u1 := by simp [sv, h1, AObj.ver]
    have s2 : sv σ.hp [r, q1, q2, q3] s 2 = u2 := by simp [sv, h2, AObj.ver]
    have s3 : sv σ.hp [r, q1, q2, q3] s 3 = u3 := by simp [sv, h3, AObj.ver]
    have r1 : AVal.ren (rid [r, q1, q2, q3] d 0) (sv σ.hp [r, q1, q2, q3] s) (.own 5001 1) = .own q1 u1 := by rw [ren_own (rid_m (j := 1) (by omega) rfl), s1]
    have r2 : AVal.ren (rid [r, q1, q2, q3] d 0) (sv σ.hp [r, q1, q2, q3] s) (.own 5002 2) = .own q2 u2 := by rw [ren_own (rid_m (j := 2) (by omega) rfl), s2]
    have r3 : AVal.ren (rid [r, q1, q2, q3] d 0) (sv σ.hp [r, q1, q2, q3] s) (.own 5003 3) = .own q3 u3 := by rw [ren_own (rid_m (j := 3) (by omega) rfl), s3]
    rw [Option.getD_some, callHp_h4 hnd]
    simp only [oren_row, renL_cons, renL_nil, renL_intsK, ren_val, s0, s1, s2, s3, r1, r2, r3]
    exact hk

end Go.Ab
