/- Contracts of the functions that mark memory, and look at the marks. Conditions: none. -/
import Derived.Test.YtoadopegbnmfkaaKo
set_option linter.all false
namespace Go.Ab
open Go.Proofs
set_option maxRecDepth 20000
set_option maxHeartbeats 1000000

/-- Numbers from k on. -/
def seqI (k : Int) : Nat → List Int
  | 0 => []
  | m + 1 => k :: seqI (k + 1) m
theorem seqI_len : ∀ (m : Nat) (k : Int), (seqI k m).length = m
  | 0, _ => rfl
  | m + 1, k => by simp [seqI, seqI_len m]
theorem seqI_snoc : ∀ (m : Nat) (k : Int), seqI k m ++ [k + m] = seqI k (m + 1)
  | 0, k => by simp [seqI]
  | m + 1, k => by
    have := seqI_snoc m (k + 1)
    simp only [seqI, List.cons_append] at this ⊢
    rw [← this]
    congr 3
    omega

theorem k_markInt64S (xs : List Int) (nn : Bool) (k : Int) (h : 0 ≤ k ∧ k ≤ 4611686018427387904) (hx : (xs.length : Int) ≤ 1000000000) :
    Con Try.prog n_laws_markInt64S [.row 0 1 nn (ints xs)] [.own 5000 0, iv k] true fun outs rows res => outs = [.row 0 1 nn (ints (seqI k xs.length))] ∧ rows = [] ∧ res = iv (k + xs.length) := by
  refine con_sh mixed c_laws_markInt64S rfl (by simp) ?_
  simp only [A_laws_markInt64S, B_laws_markInt64S_1, B_laws_markInt64S_2, go_sem, adopt_fun, Int.reduceLT, Int.reduceLE, Int.reduceToNat, Int.reduceNeg, Nat.reduceLT, Nat.reduceLeDiff, Nat.reduceMul, Nat.reduceSub, reduceIte, Nat.reduceEqDiff, Nat.reduceAdd, reduceCtorEq]
  refine wpD_lo (fun i => xs.length - i) (fun i => i ≤ xs.length)
    (fun i : Nat => ⟨L .any [(0, .own 5000 0), (1, iv (k + i)), (5, iv i)], L .gone [(5000, .row 0 1 nn (ints (seqI k i ++ xs.drop i)))]⟩) 0 (by simp) (by simp only [B_laws_markInt64S_3, seqI, List.nil_append, List.drop_zero, go_sem, adopt_fun, Int.reduceLT, Int.reduceLE, Int.reduceToNat, Int.reduceNeg, Nat.reduceLT, Nat.reduceLeDiff, Nat.reduceMul, Nat.reduceSub, reduceIte, Nat.reduceEqDiff, Nat.reduceAdd, reduceCtorEq]; try simp) ?_
  rintro i hi
  by_cases hlt : (i : Int) < xs.length
  · have hlt1 : i < xs.length := by omega
    have hl : (seqI k i ++ xs.drop i).length = xs.length := by simp [seqI_len]; omega
    have hlt2 : (i : Int) < ((seqI k i ++ xs.drop i).length : Nat) := by rw [hl]; exact hlt
    simp only [B_laws_markInt64S_3, B_laws_markInt64S_4, B_laws_markInt64S_5, hl, decide_eq_true hlt, go_sem, adopt_fun, Int.reduceLT, Int.reduceLE, Int.reduceToNat, Int.reduceNeg, Nat.reduceLT, Nat.reduceLeDiff, Nat.reduceMul, Nat.reduceSub, reduceIte, Nat.reduceEqDiff, Nat.reduceAdd, reduceCtorEq]
    intro hM
    refine ⟨⟨by omega, hlt1⟩, by omega, ?_⟩
    have e1 : ((seqI k i ++ xs.drop i).take i ++ [k + (i : Int)]) ++ (seqI k i ++ xs.drop i).drop (i + 1) = seqI k (i + 1) ++ xs.drop (i + 1) := by
      rw [List.take_append_of_le_length (by rw [seqI_len]; omega), List.take_of_length_le (by rw [seqI_len]; omega), seqI_snoc, List.drop_append, seqI_len, List.drop_eq_nil_of_le (by rw [seqI_len]; omega), List.nil_append, List.drop_drop]
      congr 2; omega
    have w2 : IntKind.i64.wrap (k + (i : Int) + 1) = k + ((i + 1 : Nat) : Int) := by rw [w64 (by omega)]; omega
    simp only [B_laws_markInt64S_6, B_laws_markInt64S_7, nat1 i _ hlt1 hM, w2, go_sem, adopt_fun, Int.reduceLT, Int.reduceLE, Int.reduceToNat, Int.reduceNeg, Nat.reduceLT, Nat.reduceLeDiff, Nat.reduceMul, Nat.reduceSub, reduceIte, Nat.reduceEqDiff, Nat.reduceAdd, reduceCtorEq]
    refine ⟨i + 1, by omega, by omega, ?_⟩
    simp only [intsK_take, intsK_drop, dnL_ints, intsK_snoc, intsK_cat, e1]
  · have : i = xs.length := by omega
    subst this
    have hl : (seqI k xs.length ++ xs.drop xs.length).length = xs.length := by simp [seqI_len]
    simp only [B_laws_markInt64S_3, B_laws_markInt64S_4, B_laws_markInt64S_5, B_laws_markInt64S_8, seqI_len, decide_eq_false hlt, List.drop_length, List.append_nil, go_sem, adopt_fun, Int.reduceLT, Int.reduceLE, Int.reduceToNat, Int.reduceNeg, Nat.reduceLT, Nat.reduceLeDiff, Nat.reduceMul, Nat.reduceSub, reduceIte, Nat.reduceEqDiff, Nat.reduceAdd, reduceCtorEq]
    intro _
    refine ⟨[], by simp, by simp, by simp, ?_⟩
    simp only [range1, List.nil_append, Nat.not_lt_zero, range1, ren_val, ren_any, ren_ro, rnNm_n, rnNm_sn, rnNm_o, rnNm_s, ren_st, ren_tup, renL_nil, renL_cons, renL_intsK, renL_rws, renL_rwn, oren_box, oren_row, oren_map, ren_own_e0, ren_own_e1, ren_own_e2, ren_ptr_e0, ren_mp_e0, ren_mp_e1, ren_own_r0, ren_own_r1, ren_own_r2, ren_ptr_r0, ren_mp_r0, ren_mp_r1, List.range_zero, callHp_nil, callHp_one, callHp_two, gone_nil, gone_one, gone_two, AVal.fresh, freshL, fresh_intsK, fresh_rws, AObj.fresh, id, Option.isSome_some, or_true, true_or, go_sem, adopt_fun, Int.reduceLT, Int.reduceLE, Int.reduceToNat, Int.reduceNeg, Nat.reduceLT, Nat.reduceLeDiff, Nat.reduceMul, Nat.reduceSub, reduceIte, Nat.reduceEqDiff, Nat.reduceAdd, reduceCtorEq]
    try simp

theorem k_markNil (k : Int) : Fun Try.prog n_laws_markInt64S [.ro none 1 [], iv k] (iv k) := by
  refine fun_of mixed c_laws_markInt64S rfl ⟨rfl, trivial⟩ ?_
  simp only [A_laws_markInt64S, B_laws_markInt64S_1, B_laws_markInt64S_2, go_sem, adopt_fun, Int.reduceLT, Int.reduceLE, Int.reduceToNat, Int.reduceNeg, Nat.reduceLT, Nat.reduceLeDiff, Nat.reduceMul, Nat.reduceSub, reduceIte, Nat.reduceEqDiff, Nat.reduceAdd, reduceCtorEq]
  refine wpD_lo (fun _ : Unit => 0) (fun _ => True) (fun _ => ⟨L .any [(0, .ro none 1 []), (1, iv k), (5, iv 0)], L .gone []⟩) () trivial (by simp only [B_laws_markInt64S_3, go_sem, adopt_fun, Int.reduceLT, Int.reduceLE, Int.reduceToNat, Int.reduceNeg, Nat.reduceLT, Nat.reduceLeDiff, Nat.reduceMul, Nat.reduceSub, reduceIte, Nat.reduceEqDiff, Nat.reduceAdd, reduceCtorEq]; try rfl) ?_
  rintro _ _
  simp only [B_laws_markInt64S_3, B_laws_markInt64S_4, B_laws_markInt64S_5, B_laws_markInt64S_8, go_sem, adopt_fun, Int.reduceLT, Int.reduceLE, Int.reduceToNat, Int.reduceNeg, Nat.reduceLT, Nat.reduceLeDiff, Nat.reduceMul, Nat.reduceSub, reduceIte, Nat.reduceEqDiff, Nat.reduceAdd, reduceCtorEq]
  try simp

theorem k_held (xs : List Int) (k : Int) (h : 0 ≤ k ∧ k ≤ 4611686018427387904) (hx : (xs.length : Int) ≤ 1000000000) (he : xs = seqI k xs.length) :
    Fun Try.prog n_laws_heldInt64S [.ro none 1 (ints xs), iv k] (iv (k + xs.length)) := by
  refine fun_of mixed c_laws_heldInt64S rfl ⟨rfl, trivial⟩ ?_
  simp only [A_laws_heldInt64S, B_laws_heldInt64S_1, B_laws_heldInt64S_2, go_sem, adopt_fun, Int.reduceLT, Int.reduceLE, Int.reduceToNat, Int.reduceNeg, Nat.reduceLT, Nat.reduceLeDiff, Nat.reduceMul, Nat.reduceSub, reduceIte, Nat.reduceEqDiff, Nat.reduceAdd, reduceCtorEq]
  have hg : ∀ (m : Nat) (k : Int) (i : Nat), i < m → (seqI k m).getD i 0 = k + i := by
    intro m
    induction m with
    | zero => intro k i hi; omega
    | succ m ih =>
      intro k i hi
      cases i with
      | zero => simp [seqI]
      | succ i =>
        have := ih (k + 1) i (by omega)
        simp only [seqI, List.getD_cons_succ, this]
        omega
  refine wpD_lo (fun i => xs.length - i) (fun i => i ≤ xs.length)
    (fun i : Nat => ⟨L .any [(0, .ro none 1 (ints xs)), (1, iv (k + i)), (5, iv i)], L .gone []⟩) 0 (by simp) (by simp only [B_laws_heldInt64S_3, go_sem, adopt_fun, Int.reduceLT, Int.reduceLE, Int.reduceToNat, Int.reduceNeg, Nat.reduceLT, Nat.reduceLeDiff, Nat.reduceMul, Nat.reduceSub, reduceIte, Nat.reduceEqDiff, Nat.reduceAdd, reduceCtorEq]; try simp) ?_
  rintro i hi
  by_cases hlt : (i : Int) < xs.length
  · have hlt1 : i < xs.length := by omega
    have e1 : xs.getD i 0 = k + i := by rw [he]; exact hg _ k i hlt1
    have w2 : IntKind.i64.wrap (k + (i : Int) + 1) = k + ((i + 1 : Nat) : Int) := by rw [w64 (by omega)]; omega
    simp only [B_laws_heldInt64S_3, B_laws_heldInt64S_4, B_laws_heldInt64S_5, B_laws_heldInt64S_6, B_laws_heldInt64S_7, B_laws_heldInt64S_8, intsK_getD hlt1, e1, bne_self_eq_false, decide_eq_true hlt, go_sem, adopt_fun, Int.reduceLT, Int.reduceLE, Int.reduceToNat, Int.reduceNeg, Nat.reduceLT, Nat.reduceLeDiff, Nat.reduceMul, Nat.reduceSub, reduceIte, Nat.reduceEqDiff, Nat.reduceAdd, reduceCtorEq]
    intro hM
    refine ⟨⟨by omega, hlt1⟩, hlt1, ?_⟩
    simp only [nat1 i _ hlt1 hM, w2, go_sem, adopt_fun, Int.reduceLT, Int.reduceLE, Int.reduceToNat, Int.reduceNeg, Nat.reduceLT, Nat.reduceLeDiff, Nat.reduceMul, Nat.reduceSub, reduceIte, Nat.reduceEqDiff, Nat.reduceAdd, reduceCtorEq]
    exact ⟨i + 1, by omega, by omega, rfl⟩
  · have : i = xs.length := by omega
    subst this
    simp only [B_laws_heldInt64S_3, B_laws_heldInt64S_4, B_laws_heldInt64S_5, B_laws_heldInt64S_9, decide_eq_false hlt, go_sem, adopt_fun, Int.reduceLT, Int.reduceLE, Int.reduceToNat, Int.reduceNeg, Nat.reduceLT, Nat.reduceLeDiff, Nat.reduceMul, Nat.reduceSub, reduceIte, Nat.reduceEqDiff, Nat.reduceAdd, reduceCtorEq]
    try (intro _; trivial)

/-- One row is handed over, with plain values. -/
theorem call_rowM {P : Program} {σ : St} {g : FuncId} {As args : List AVal} {d : Option Nat} {s : Nat → Nat} {K : St → Prop} {r v : Nat} {cs cs' : List AVal} {nn : Bool} {R : List AObj → List AObj → AVal → Prop}
    (h : Con P g [.row 0 1 nn cs'] (.own 5000 0 :: args) true R) (hr : σ.hp r = .row v 1 nn cs) (hco : CoeL σ.hp [r] false cs' cs) (ha : CoeL σ.hp [r] false args As)
    (hk : ∀ outs rows res, R outs rows res → rows = [] ∧ ∃ o, outs = [o] ∧ K (St.put ⟨σ.tm, upd σ.hp r (o.ren (rid [r] (d.getD 0) 0) (sv σ.hp [r] s))⟩ d (res.ren (rid [r] (d.getD 0) 0) (sv σ.hp [r] s)))) :
    wpCall P false σ g (.own r v :: As) d s K := by
  refine .inl ⟨[r], [.row 0 1 nn cs'], .own 5000 0 :: args, true, R, h, ⟨by simp, rfl, by simp, by simp [hr], ?_⟩, ?_, (fun e => by cases e), ?_⟩
  · intro j B r' hB hr'
    cases j with
    | succ j => simp at hB
    | zero =>
      simp at hB hr'; subst hB; subst hr'
      simp only [ObjCoe, hr]
      exact ⟨trivial, v, cs, rfl, hco⟩
  · rw [coeL_cons]
    refine ⟨?_, ha⟩
    simp only [Coe]
    exact ⟨0, r, v, rfl, rfl, rfl, rfl, by rw [hr]; rfl⟩
  · intro outs rows res hR
    obtain ⟨rfl, o, rfl, hK⟩ := hk outs rows res hR
    refine ⟨rfl, by simp, by simp, ?_⟩
    rw [callHp_m]
    exact hK

def totL : List (Nat × List Int) → Int
  | [] => 0
  | p :: ps => p.2.length + totL ps
theorem totL_nn : ∀ ps, 0 ≤ totL ps
  | [] => by simp [totL]
  | p :: ps => by have := totL_nn ps; simp only [totL]; omega

/-- It gives a number that is not less. -/
abbrev MarkR (k m : Int) (outs rows : List AObj) (res : AVal) : Prop := outs = [] ∧ rows = [] ∧ ∃ v, (∃ k', v = Value.int .i64 k' ∧ k ≤ k' ∧ k' ≤ k + m) ∧ res = .val v

theorem k_markInt64SS (ps : List (Nat × List Int)) (hd : DJ ps) (k : Int) (h : 0 ≤ k ∧ k + totL ps ≤ 4611686018427387904) (hx : ∀ p ∈ ps, (p.2.length : Int) ≤ 1000000000) :
    Con Try.prog n_laws_markInt64SS [] [.ro (some (some 0)) 1 (rwp ps), iv k] true (MarkR k (totL ps)) := by
  refine con_sh mixed c_laws_markInt64SS rfl (by simp) ?_
  simp only [A_laws_markInt64SS, B_laws_markInt64SS_1, B_laws_markInt64SS_2, wpD_kp, wpD_regi, go_sem, adopt_fun, Int.reduceLT, Int.reduceLE, Int.reduceToNat, Int.reduceNeg, Nat.reduceLT, Nat.reduceLeDiff, Nat.reduceMul, Nat.reduceSub, reduceIte, Nat.reduceEqDiff, Nat.reduceAdd, reduceCtorEq]
  intro vs0 U0 hN0 vs1 U1 hN1
  refine wpD_lp (fun (_, rest, _) => List.length rest) (fun (pre, rest, k') => k ≤ k' ∧ k' + totL rest ≤ k + totL ps ∧ DJ rest ∧ (∀ p ∈ rest, (List.length p.2 : Int) ≤ 1000000000) ∧ List.length pre + List.length rest = ps.length)
    (fun ((pre, rest, k') : List AVal × List (Nat × List Int) × Int) => ⟨L .any [(0, .ro (some (some 0)) 1 (pre ++ rwp rest)), (1, iv k'), (5, iv pre.length)], L .gone [(5000, .gone), (5001, .gone), (5002, .gone), (5003, .gone)]⟩)
    ([], ps, k) ⟨Int.le_refl _, Int.le_refl _, hd, hx, by simp⟩ (by simp only [B_laws_markInt64SS_3, List.nil_append, go_sem, adopt_fun, Int.reduceLT, Int.reduceLE, Int.reduceToNat, Int.reduceNeg, Nat.reduceLT, Nat.reduceLeDiff, Nat.reduceMul, Nat.reduceSub, reduceIte, Nat.reduceEqDiff, Nat.reduceAdd, reduceCtorEq]; try rfl) ?_
  rintro ⟨pre, rest, k'⟩ ⟨j1, j2, j3, j4, j5⟩
  cases rest with
  | nil =>
    have hlt : decide ((pre.length : Int) < (pre.length : Int)) = false := by simp
    simp only [B_laws_markInt64SS_4, B_laws_markInt64SS_5, B_laws_markInt64SS_7, rwp_nil, List.append_nil, hlt, wpD_kp, wpD_regi, go_sem, adopt_fun, Int.reduceLT, Int.reduceLE, Int.reduceToNat, Int.reduceNeg, Nat.reduceLT, Nat.reduceLeDiff, Nat.reduceMul, Nat.reduceSub, reduceIte, Nat.reduceEqDiff, Nat.reduceAdd, reduceCtorEq]
    intro vs U hN hM vs2 U2 hN2
    refine ⟨[], by simp, by simp, by simp, ?_⟩
    simp only [Nat.not_lt_zero, range1, ren_val, ren_any, ren_ro, rnNm_n, rnNm_sn, rnNm_o, rnNm_s, ren_st, ren_tup, renL_nil, renL_cons, renL_intsK, renL_rws, renL_rwn, oren_box, oren_row, oren_map, ren_own_e0, ren_own_e1, ren_own_e2, ren_ptr_e0, ren_mp_e0, ren_mp_e1, ren_own_r0, ren_own_r1, ren_own_r2, ren_ptr_r0, ren_mp_r0, ren_mp_r1, List.range_zero, callHp_nil, callHp_one, callHp_two, gone_nil, gone_one, gone_two, AVal.fresh, freshL, fresh_intsK, fresh_rws, AObj.fresh, id, Option.isSome_some, or_true, true_or, go_sem, adopt_fun, Int.reduceLT, Int.reduceLE, Int.reduceToNat, Int.reduceNeg, Nat.reduceLT, Nat.reduceLeDiff, Nat.reduceMul, Nat.reduceSub, reduceIte, Nat.reduceEqDiff, Nat.reduceAdd, reduceCtorEq]
    refine ⟨rfl, rfl, _, ⟨k', rfl, j1, ?_⟩, rfl⟩
    simp only [totL] at j2; omega
  | cons p rest =>
    have hl : (pre ++ rwp (p :: rest)).length = pre.length + (rest.length + 1) := by simp [rwp_len]
    have hlt : decide ((pre.length : Int) < ((pre.length + (rest.length + 1) : Nat) : Int)) = true := decide_eq_true (by omega)
    have hgi : (pre ++ rwp (p :: rest))[pre.length]? = some (.ro (some (some (p.1 + 1))) 1 (ints p.2)) := by
      rw [List.getElem?_append_right (Nat.le_refl _), Nat.sub_self]; rfl
    simp only [totL] at j2
    have hrest : DJ rest := (List.pairwise_cons.1 j3).2
    have htn := totL_nn rest
    have hxp := j4 p (by simp)
    have e1 : rwp (p :: rest) = .ro (some (some (p.1 + 1))) 1 (ints p.2) :: rwp rest := rfl
    simp only [B_laws_markInt64SS_4, hl, hlt, wpD_kp, wpD_regi, go_sem, adopt_fun, Int.reduceLT, Int.reduceLE, Int.reduceToNat, Int.reduceNeg, Nat.reduceLT, Nat.reduceLeDiff, Nat.reduceMul, Nat.reduceSub, reduceIte, Nat.reduceEqDiff, Nat.reduceAdd, reduceCtorEq]
    intro vs U hN hM
    simp only [B_laws_markInt64SS_5, wpD_kp, wpD_gh, go_sem, adopt_fun, Int.reduceLT, Int.reduceLE, Int.reduceToNat, Int.reduceNeg, Nat.reduceLT, Nat.reduceLeDiff, Nat.reduceMul, Nat.reduceSub, reduceIte, Nat.reduceEqDiff, Nat.reduceAdd, reduceCtorEq]
    intro _
    by_cases hp : p.2 = []
    · -- nothing to write
      refine ⟨[], ?_⟩
      have hgd : (pre ++ rwp (p :: rest)).getD pre.length .any = .ro (some (some (p.1 + 1))) 1 [] := by
        rw [List.getD_eq_getElem?_getD, hgi, hp]; rfl
      simp only [gwp_nil, hgd, hl, wpD_kp, wpD_regi, go_sem, adopt_fun, Int.reduceLT, Int.reduceLE, Int.reduceToNat, Int.reduceNeg, Nat.reduceLT, Nat.reduceLeDiff, Nat.reduceMul, Nat.reduceSub, reduceIte, Nat.reduceEqDiff, Nat.reduceAdd, reduceCtorEq]
      intro vs2 U2 hN2
      refine ⟨⟨by omega, by omega⟩, by omega, ?_⟩
      refine call_fun (k_markNil k') qCS trivial ?_
      simp only [B_laws_markInt64SS_6, wpD_kp, wpD_regi, go_sem, adopt_fun, Int.reduceLT, Int.reduceLE, Int.reduceToNat, Int.reduceNeg, Nat.reduceLT, Nat.reduceLeDiff, Nat.reduceMul, Nat.reduceSub, reduceIte, Nat.reduceEqDiff, Nat.reduceAdd, reduceCtorEq]
      intro vs3 U3 hN3
      have w1 : IntKind.i64.wrap ((pre.length : Int) + 1) = ((pre.length + 1 : Nat) : Int) := nat1 pre.length _ (show pre.length < (pre ++ rwp (p :: rest)).length by rw [hl]; omega) (by rw [hl]; exact hM)
      rw [w1]
      refine ⟨(pre ++ [.ro (some (some (p.1 + 1))) 1 (ints p.2)], rest, k'), by simp, ⟨j1, ?_, hrest, fun q hq => j4 q (by simp [hq]), by simp at j5 ⊢; omega⟩, by simp only [e1, List.append_assoc, List.singleton_append, List.length_append, List.length_singleton]⟩
      rw [hp] at j2; simp at j2; exact j2
    · refine ⟨[.tt 0 pre.length 900], 1, pre ++ rwp (p :: rest), p.1, 1, ints p.2, rfl, hgi, ?_, rfl, fun m => ?_⟩
      · intro e; exact hp (by simpa using e)
      have hne : ints p.2 ≠ [] := fun e => hp (by simpa using e)
      have hany : AVal.wo p.1 (.ro (some (some (p.1 + 1))) 1 (ints p.2)) = .any := by
        cases hq : p.2 with
        | nil => exact absurd hq hp
        | cons x xs => simp [AVal.wo]
      have hother : ∀ q ∈ rest, q.2 = [] ∨ q.1 ≠ p.1 := by
        intro q hq
        rcases (List.pairwise_cons.1 j3).1 q hq with h | h | h
        · exact absurd h hp
        · exact .inl h
        · exact .inr (Ne.symm h)
      have e2 : (woL p.1 (pre ++ rwp (p :: rest))).set pre.length (.own 900 m) = woL p.1 pre ++ (.own 900 m :: rwp rest) := by
        have e3 : woL p.1 (rwp (p :: rest)) = .any :: rwp rest := by
          rw [e1]; simp only [woL, hany, woL_rwp hother]
        rw [woL_app, e3, List.set_append_right _ _ (by rw [woL_len]; exact Nat.le_refl _), woL_len, Nat.sub_self]; rfl
      have hl2 : (woL p.1 pre ++ (AVal.own 900 m :: rwp rest)).length = pre.length + (rest.length + 1) := by simp [rwp_len, woL_len]
      have hgd : (woL p.1 pre ++ (AVal.own 900 m :: rwp rest)).getD pre.length .any = .own 900 m := by
        rw [List.getD_eq_getElem?_getD, List.getElem?_append_right (by rw [woL_len]; exact Nat.le_refl _), woL_len, Nat.sub_self]; rfl
      rw [gwp_nil, tt_L, e2]
      simp only [woT, woO, woV_val, woO_gone, woL_ints, hl2, hgd, wpD_kp, wpD_regi, go_sem, adopt_fun, Int.reduceLT, Int.reduceLE, Int.reduceToNat, Int.reduceNeg, Nat.reduceLT, Nat.reduceLeDiff, Nat.reduceMul, Nat.reduceSub, reduceIte, Nat.reduceEqDiff, Nat.reduceAdd, reduceCtorEq]
      intro vs2 U2 hN2
      refine ⟨⟨by omega, by omega⟩, by omega, ?_⟩
      refine call_rowM (k_markInt64S p.2 true k' (by omega) hxp) (r := 900) (v := m) qWS coeL_ints qCS ?_
      rintro outs rows res ⟨rfl, rfl, rfl⟩
      refine ⟨rfl, _, rfl, ?_⟩
      simp only [B_laws_markInt64SS_6, wpD_kp, wpD_regi, Nat.not_lt_zero, range1, ren_val, ren_any, ren_ro, rnNm_n, rnNm_sn, rnNm_o, rnNm_s, ren_st, ren_tup, renL_nil, renL_cons, renL_intsK, renL_rws, renL_rwn, oren_box, oren_row, oren_map, ren_own_e0, ren_own_e1, ren_own_e2, ren_ptr_e0, ren_mp_e0, ren_mp_e1, ren_own_r0, ren_own_r1, ren_own_r2, ren_ptr_r0, ren_mp_r0, ren_mp_r1, List.range_zero, callHp_nil, callHp_one, callHp_two, gone_nil, gone_one, gone_two, AVal.fresh, freshL, fresh_intsK, fresh_rws, AObj.fresh, id, Option.isSome_some, or_true, true_or, go_sem, adopt_fun, Int.reduceLT, Int.reduceLE, Int.reduceToNat, Int.reduceNeg, Nat.reduceLT, Nat.reduceLeDiff, Nat.reduceMul, Nat.reduceSub, reduceIte, Nat.reduceEqDiff, Nat.reduceAdd, reduceCtorEq]
      intro vs3 U3 hN3
      have w1 : IntKind.i64.wrap ((pre.length : Int) + 1) = ((pre.length + 1 : Nat) : Int) := nat1 pre.length _ (show pre.length < (pre ++ rwp (p :: rest)).length by rw [hl]; omega) (by rw [hl]; exact hM)
      rw [w1]
      exact ⟨(woL p.1 pre ++ [.own 900 m], rest, k' + p.2.length), by simp, ⟨by dsimp only; omega, by dsimp only; omega, hrest, fun q hq => j4 q (by simp [hq]), by simp [woL_len] at j5 ⊢; omega⟩, by simp only [List.append_assoc, List.singleton_append, List.length_append, List.length_singleton, woL_len]⟩

end Go.Ab
