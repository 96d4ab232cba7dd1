/- Contracts and what they lean on, part 9. Conditions: none. -/
import Derived.Test.YtmiilajcphcciaaZ8
set_option maxRecDepth 100000
set_option maxHeartbeats 4000000
set_option linter.all false
open Nat (reduceLeDiff reduceMul reduceSub reduceEqDiff reduceAdd)
open Int (reduceToNat reduceNeg reduceLE)
namespace Go.Ab
open Go.Proofs
theorem k_isNaNF (x : Int) : Fun Try.prog nz1t [.val (.int .u64 x)] (bv false) := by
  refine fun_of mixed czpa rfl ⟨rfl, trivial⟩ ?_
  have h : (x != x) = false := by simp
  simp only [Bzhy, Azhz, h, go_sem, yz0, Int.reduceLT, reduceLE, reduceToNat, reduceNeg, Nat.reduceLT, reduceLeDiff, reduceMul, reduceSub, reduceIte, reduceEqDiff, reduceAdd, reduceCtorEq]
  try (intros; trivial)
theorem k_LessF (x y : Int) : Fun Try.prog nz0 [.val (.int .u64 x), .val (.int .u64 y)] (bv (decide (x < y))) := by
  refine fun_of mixed czn5 rfl ⟨rfl, trivial⟩ ?_
  simp only [Bzhw, Azhx, go_sem, yz0, Int.reduceLT, reduceLE, reduceToNat, reduceNeg, Nat.reduceLT, reduceLeDiff, reduceMul, reduceSub, reduceIte, reduceEqDiff, reduceAdd, reduceCtorEq]
  intro vs
  refine yzt (k_isNaNF x) qCS trivial ?_
  simp only [go_sem, yz0, Int.reduceLT, reduceLE, reduceToNat, reduceNeg, Nat.reduceLT, reduceLeDiff, reduceMul, reduceSub, reduceIte, reduceEqDiff, reduceAdd, reduceCtorEq]
  try (intros; trivial)
theorem intsK_putK {k : IntKind} {xs : List Int} {i : Nat} {v : Int} : (intsK k xs).take i ++ [AVal.val (.int k v)] ++ (intsK k xs).drop (i + 1) = intsK k (xs.take i ++ [v] ++ xs.drop (i + 1)) := by
  simp [List.map_take, List.map_drop]
theorem lput_lenF {xs : List Int} {i : Nat} {v : Int} (h : i < xs.length) : (xs.take i ++ [v] ++ xs.drop (i + 1)).length = xs.length := by
  simp only [List.length_append, List.length_take, List.length_drop, List.length_cons, List.length_nil]; omega
def InsI (xs : List Int) (i j : Nat) (ys : List Int) : Prop := ∃ A v B C, ys = A ++ v :: (B ++ C) ∧ A.length = j ∧ A.length + B.length = i ∧ (A ++ B).Pairwise (· ≤ ·) ∧ (∀ b ∈ B, v ≤ b) ∧ ys.Perm xs
def InsO (xs : List Int) (i : Nat) (ys : List Int) : Prop := (ys.take i).Pairwise (· ≤ ·) ∧ ys.Perm xs
theorem InsO.inner {xs ys : List Int} {i : Nat} (h : InsO xs i ys) (hi : i < ys.length) : InsI xs i i ys := by
  refine ⟨ys.take i, ys.getD i 0, [], ys.drop (i + 1), ?_, by rw [List.length_take]; omega, by rw [List.length_take, List.length_nil]; omega, by rw [List.append_nil]; exact h.1, by simp, h.2⟩
  have : ys.drop i = ys.getD i 0 :: ys.drop (i + 1) := by
    rw [List.drop_eq_getElem_cons hi, List.getD_eq_getElem?_getD, List.getElem?_eq_getElem hi]; rfl
  rw [List.nil_append, ← this, List.take_append_drop]
theorem InsI.last {xs ys : List Int} {i j : Nat} (h : InsI xs i j ys) (hj : 0 < j) : ∃ A x v B C, ys = A ++ x :: v :: (B ++ C) ∧ A.length = j - 1 ∧ ys.getD j 0 = v ∧ ys.getD (j - 1) 0 = x ∧
    (¬ v < x → InsO xs (i + 1) ys) ∧ (v < x → InsI xs i (j - 1) (A ++ v :: x :: (B ++ C))) := by
  obtain ⟨A0, v, B, C, rfl, hA, hi, hs, hb, hp⟩ := h
  obtain ⟨A, x, rfl⟩ : ∃ A x, A0 = A ++ [x] := ⟨A0.dropLast, A0.getLast (by intro e; rw [e] at hA; simp at hA; omega), (List.dropLast_concat_getLast _).symm⟩
  rw [List.length_append, List.length_singleton] at hA hi
  have e : A ++ [x] ++ v :: (B ++ C) = A ++ x :: v :: (B ++ C) := by simp
  rw [e] at hp ⊢
  refine ⟨A, x, v, B, C, rfl, by omega, ?_, ?_, fun hv => ⟨?_, hp⟩, fun hv => ⟨A, v, x :: B, C, by simp, by omega, by rw [List.length_cons]; omega, by simpa using hs, ?_, ?_⟩⟩
  · rw [List.getD_eq_getElem?_getD, List.getElem?_append_right (by omega), show j - A.length = 1 by omega]; rfl
  · rw [List.getD_eq_getElem?_getD, List.getElem?_append_right (by omega), show j - 1 - A.length = 0 by omega]; rfl
  · have ht : (A ++ x :: v :: (B ++ C)).take (i + 1) = A ++ [x] ++ v :: B := by
      rw [show A ++ x :: v :: (B ++ C) = (A ++ [x] ++ v :: B) ++ C by simp, List.take_left' (by simp; omega)]
    rw [ht]
    rw [List.pairwise_append] at hs ⊢
    refine ⟨hs.1, List.pairwise_cons.2 ⟨hb, hs.2.1⟩, fun a ha b hb2 => ?_⟩
    have hax : a ≤ x := by
      rcases List.mem_append.1 ha with h | h
      · exact (List.pairwise_append.1 hs.1).2.2 a h x (by simp)
      · rw [List.mem_singleton.1 h]; exact Int.le_refl _
    rcases List.mem_cons.1 hb2 with rfl | h
    · omega
    · exact hs.2.2 a ha b h
  · intro b hb2
    rcases List.mem_cons.1 hb2 with rfl | h
    · omega
    · exact hb b h
  · exact (List.Perm.append_left A (List.Perm.swap x v _)).trans hp
theorem InsI.zero {xs ys : List Int} {i : Nat} (h : InsI xs i 0 ys) : InsO xs (i + 1) ys := by
  obtain ⟨A, v, B, C, rfl, hA, hi, hs, hb, hp⟩ := h
  obtain rfl := List.eq_nil_of_length_eq_zero hA
  refine ⟨?_, hp⟩
  simp only [List.nil_append, List.length_nil, Nat.zero_add] at hs hi ⊢
  rw [show v :: (B ++ C) = (v :: B) ++ C from rfl, List.take_left' (by rw [List.length_cons]; omega)]
  exact List.pairwise_cons.2 ⟨hb, hs⟩
theorem swap_put {A B : List Int} {x v : Int} {j : Nat} (h : A.length = j - 1) (hj : 0 < j) :
    (((A ++ x :: v :: B).take j ++ [x] ++ (A ++ x :: v :: B).drop (j + 1)).take (j - 1) ++ [v] ++ ((A ++ x :: v :: B).take j ++ [x] ++ (A ++ x :: v :: B).drop (j + 1)).drop (j - 1 + 1)) = A ++ v :: x :: B := by
  have e1 : (A ++ x :: v :: B).take j = A ++ [x] := by rw [show A ++ x :: v :: B = (A ++ [x]) ++ v :: B by simp, List.take_left' (by simp; omega)]
  have e2 : (A ++ x :: v :: B).drop (j + 1) = B := by rw [show A ++ x :: v :: B = (A ++ [x, v]) ++ B by simp, List.drop_left' (by simp; omega)]
  rw [e1, e2]
  have e3 : (A ++ [x] ++ [x] ++ B).take (j - 1) = A := by rw [List.append_assoc, List.append_assoc, List.take_left' h]
  have e4 : (A ++ [x] ++ [x] ++ B).drop (j - 1 + 1) = x :: B := by rw [show A ++ [x] ++ [x] ++ B = (A ++ [x]) ++ x :: B by simp, List.drop_left' (by simp; omega)]
  rw [e3, e4]; simp
theorem k_insertionF (xs : List Int) (hl : xs.length ≤ 12) : Con Try.prog nz49 [.row 0 1 true (intsK .u64 xs)] [.own 5000 0, iv 0, iv xs.length] true
    fun outs rows res => rows = [] ∧ res = .tup [] ∧ ∃ ys : List Int, ys.Perm xs ∧ ys.Pairwise (· ≤ ·) ∧ outs = [.row 0 1 true (intsK .u64 ys)] := by
  refine con_sh mixed czko rfl (by simp) ?_
  generalize hQ : finQ _ = Q
  have w01 : IntKind.i64.wrap (0 + 1) = 1 := by decide
  have hO0 : InsO xs 1 xs := ⟨by cases xs with
    | nil => simp
    | cons a xs => simp, List.Perm.refl _⟩
  simp only [Az7p, Bzhv, w01, go_sem, yz0, Int.reduceLT, reduceLE, reduceToNat, reduceNeg, Nat.reduceLT, reduceLeDiff, reduceMul, reduceSub, reduceIte, reduceEqDiff, reduceAdd, reduceCtorEq]
  refine wpD_lo (fun (i, _) => xs.length + 1 - i) (fun (i, ys) => 1 ≤ i ∧ i ≤ xs.length + 1 ∧ InsO xs i ys)
    (fun ((i, ys) : Nat × List Int) => ⟨L .any [(0, .own 5000 0), (1, iv 0), (2, iv xs.length), (6, iv i)], L .gone [(5000, .row 0 1 true (intsK .u64 ys))]⟩)
    (1, xs) ⟨Nat.le_refl _, by simp, hO0⟩ (by simp only [Bz3c, go_sem, yz0, Int.reduceLT, reduceLE, reduceToNat, reduceNeg, Nat.reduceLT, reduceLeDiff, reduceMul, reduceSub, reduceIte, reduceEqDiff, reduceAdd, reduceCtorEq]; try rfl) ?_
  rintro ⟨i, ys⟩ ⟨hi1, hi2, hO, hp⟩
  have hi1 : 1 ≤ i := hi1
  have hi2 : i ≤ xs.length + 1 := hi2
  have hO : InsO xs i ys := ⟨hO, hp⟩
  have hp : ys.Perm xs := hp
  have hyl := hp.length_eq
  by_cases hlt : (i : Int) < xs.length
  · have hlt1 : i < xs.length := by omega
    have wi : IntKind.i64.wrap ((i : Int) + 1) = ((i + 1 : Nat) : Int) := by rw [w64 (by omega)]; simp
    simp only [Bz3c, Bz7n, Bzhu, Bzht, decide_eq_true hlt, go_sem, yz0, Int.reduceLT, reduceLE, reduceToNat, reduceNeg, Nat.reduceLT, reduceLeDiff, reduceMul, reduceSub, reduceIte, reduceEqDiff, reduceAdd, reduceCtorEq]
    refine wpD_lo (fun (j, _) => j) (fun (j, ys) => j ≤ i ∧ InsI xs i j ys)
      (fun ((j, ys) : Nat × List Int) => ⟨L .any [(0, .own 5000 0), (1, iv 0), (2, iv xs.length), (6, iv i), (7, iv j)], L .gone [(5000, .row 0 1 true (intsK .u64 ys))]⟩)
      (i, ys) ⟨Nat.le_refl _, hO.inner (by omega)⟩ (by simp only [Bz3b, go_sem, yz0, Int.reduceLT, reduceLE, reduceToNat, reduceNeg, Nat.reduceLT, reduceLeDiff, reduceMul, reduceSub, reduceIte, reduceEqDiff, reduceAdd, reduceCtorEq]; try rfl) ?_
    rintro ⟨j, zs⟩ ⟨hj, hI⟩
    have hj : j ≤ i := hj
    have hI : InsI xs i j zs := hI
    have hzl : zs.length = xs.length := by obtain ⟨_, _, _, _, _, _, _, _, _, h⟩ := hI; exact h.length_eq
    by_cases hj0 : (j : Int) > 0
    · have hj1 : 0 < j := by omega
      have wj : IntKind.i64.wrap ((j : Int) - 1) = ((j - 1 : Nat) : Int) := by rw [w64 (by omega)]; omega
      have hjl : j < zs.length := by omega
      have hjl2 : j - 1 < zs.length := by omega
      obtain ⟨A, x, v, B, C, hz, hA, g1, g2, hno, hyes⟩ := hI.last hj1
      have ge1 := yzv (k := .u64) hjl
      have ge2 := yzv (k := .u64) hjl2
      rw [g1] at ge1
      rw [g2] at ge2
      simp only [Bz3b, decide_eq_true hj0, wj, ge1, ge2, go_sem, yz0, Int.reduceLT, reduceLE, reduceToNat, reduceNeg, Nat.reduceLT, reduceLeDiff, reduceMul, reduceSub, reduceIte, reduceEqDiff, reduceAdd, reduceCtorEq]
      intro vs
      refine ⟨⟨by omega, hjl⟩, hjl, ⟨by omega, hjl2⟩, hjl2, ?_⟩
      refine yzt (k_LessF v x) qCS trivial ?_
      by_cases hvx : v < x
      · simp only [Bz3a, Bzhs, decide_eq_true hvx, wj, ge1, ge2, go_sem, yz0, Int.reduceLT, reduceLE, reduceToNat, reduceNeg, Nat.reduceLT, reduceLeDiff, reduceMul, reduceSub, reduceIte, reduceEqDiff, reduceAdd, reduceCtorEq]
        simp only [intsK_putK, List.length_map, lput_lenF hjl, go_sem, yz0, Int.reduceLT, reduceLE, reduceToNat, reduceNeg, Nat.reduceLT, reduceLeDiff, reduceMul, reduceSub, reduceIte, reduceEqDiff, reduceAdd, reduceCtorEq]
        refine ⟨⟨by omega, hjl2⟩, hjl2, ⟨by omega, hjl⟩, hjl, ⟨by omega, hjl⟩, by omega, ⟨by omega, hjl2⟩, by omega, ?_⟩
        rw [hz, swap_put hA hj1]
        simp only [Bzhr, wj, go_sem, yz0, Int.reduceLT, reduceLE, reduceToNat, reduceNeg, Nat.reduceLT, reduceLeDiff, reduceMul, reduceSub, reduceIte, reduceEqDiff, reduceAdd, reduceCtorEq]
        exact ⟨(j - 1, A ++ v :: x :: (B ++ C)), by dsimp only; omega, ⟨by dsimp only; omega, hyes hvx⟩, rfl⟩
      · simp only [Bz3a, Bz7o, decide_eq_false hvx, wi, go_sem, yz0, Int.reduceLT, reduceLE, reduceToNat, reduceNeg, Nat.reduceLT, reduceLeDiff, reduceMul, reduceSub, reduceIte, reduceEqDiff, reduceAdd, reduceCtorEq]
        exact ⟨(i + 1, zs), by dsimp only; omega, ⟨by dsimp only; omega, by dsimp only; omega, hno hvx⟩, rfl⟩
    · obtain rfl : j = 0 := by omega
      simp only [Bz3b, Bz3a, Bz7o, decide_eq_false hj0, wi, go_sem, yz0, Int.reduceLT, reduceLE, reduceToNat, reduceNeg, Nat.reduceLT, reduceLeDiff, reduceMul, reduceSub, reduceIte, reduceEqDiff, reduceAdd, reduceCtorEq]
      exact ⟨(i + 1, zs), by dsimp only; omega, ⟨by dsimp only; omega, by dsimp only; omega, hI.zero⟩, rfl⟩
  · obtain h : i = xs.length ∨ i = xs.length + 1 := by omega
    simp only [Bz3c, Bz7n, decide_eq_false hlt, Az7p, ← hQ, go_sem, yz0, Int.reduceLT, reduceLE, reduceToNat, reduceNeg, Nat.reduceLT, reduceLeDiff, reduceMul, reduceSub, reduceIte, reduceEqDiff, reduceAdd, reduceCtorEq]
    refine ⟨[], by simp, by simp, by simp, by simp, rfl, ys, hp, ?_, ?_⟩
    · have : ys.take i = ys := List.take_of_length_le (by omega)
      rw [← this]; exact hO.1
    · simp only [List.range_zero, List.nil_append, List.map_cons, List.map_nil, Nat.not_lt_zero, range1, yzw, yzx, ren_ro, rnNm_n, yzz, rnNm_o, rnNm_s, ren_st, yzy, yzs, yze, yz3, yzq, yzo, yzl, yzn, yzp, yz6, yz9, yzb, yza, yzj, yzi, yz4, yzd, yzc, yz7, yzf, yzh, List.range_zero, yz2, yz5, yz8, yzr, yzk, yzm, AVal.fresh, freshL, yz1, yzg, AObj.fresh, id, Option.isSome_some, or_true, true_or, go_sem, yz0, Int.reduceLT, reduceLE, reduceToNat, reduceNeg, Nat.reduceLT, reduceLeDiff, reduceMul, reduceSub, reduceIte, reduceEqDiff, reduceAdd, reduceCtorEq]
      try rfl
theorem k_Len64F (n : Nat) (hn : n ≤ 12) : FunE Try.prog n_math_bits_Len64 [.val (.int .u64 n)] (fun v => ∃ b, v = .int .i64 b) := by
  refine funE_of mixed c_math_bits_Len64 rfl ?_
  have h1 : ¬ (n : Int) ≥ 4294967296 := by omega
  have h2 : ¬ (n : Int) ≥ 65536 := by omega
  have h3 : ¬ (n : Int) ≥ 256 := by omega
  simp only [A_math_bits_Len64, B_math_bits_Len64_1, B_math_bits_Len64_2, B_math_bits_Len64_4, B_math_bits_Len64_5, B_math_bits_Len64_7, B_math_bits_Len64_8, B_math_bits_Len64_10, decide_eq_false h1, decide_eq_false h2, decide_eq_false h3, go_sem, yz0, Int.reduceLT, reduceLE, reduceToNat, reduceNeg, Nat.reduceLT, reduceLeDiff, reduceMul, reduceSub, reduceIte, reduceEqDiff, reduceAdd, reduceCtorEq]
  have hw8 : IntKind.u8.wrap (n : Int) = n := by
    have h : ∀ k : Nat, k ≤ 12 → IntKind.u8.wrap (k : Int) = k := by decide
    exact h _ hn
  rw [hw8]
  first
    | exact ⟨⟨by omega, by rw [Int.toNat_natCast]; exact Nat.lt_of_le_of_lt hn (by decide)⟩, _, rfl, _, rfl⟩
    | exact ⟨by rw [Int.toNat_natCast]; exact Nat.lt_of_le_of_lt hn (by decide), _, rfl, _, rfl⟩
theorem k_LenF (n : Nat) (hn : n ≤ 12) : FunE Try.prog n_math_bits_Len [.val (.int .u64 n)] (fun v => ∃ b, v = .int .i64 b) := by
  refine funE_of mixed c_math_bits_Len rfl ?_
  simp only [A_math_bits_Len, B_math_bits_Len_1, B_math_bits_Len_2, go_sem, yz0, Int.reduceLT, reduceLE, reduceToNat, reduceNeg, Nat.reduceLT, reduceLeDiff, reduceMul, reduceSub, reduceIte, reduceEqDiff, reduceAdd, reduceCtorEq]
  intro vs
  refine call_funE (k_Len64F n hn) qCS ⟨_, 0, rfl⟩ ?_
  rintro _ ⟨b, rfl⟩
  simp only [go_sem, yz0, Int.reduceLT, reduceLE, reduceToNat, reduceNeg, Nat.reduceLT, reduceLeDiff, reduceMul, reduceSub, reduceIte, reduceEqDiff, reduceAdd, reduceCtorEq]
  exact ⟨_, rfl, b, rfl⟩
theorem k_pdq (xs : List Int) (b : Int) (hl : xs.length ≤ 12) : Con Try.prog nzh [.row 0 1 true (intsK .u64 xs)] [.own 5000 0, iv 0, iv xs.length, iv b] true
    fun outs rows res => rows = [] ∧ res = .tup [] ∧ ∃ ys : List Int, ys.Perm xs ∧ ys.Pairwise (· ≤ ·) ∧ outs = [.row 0 1 true (intsK .u64 ys)] := by
  refine con_sh mixed czkh rfl (by simp) ?_
  generalize hQ : finQ _ = Q
  have w0 : IntKind.i64.wrap ((xs.length : Int) - 0) = xs.length := by rw [Int.sub_zero]; exact w64 (by omega)
  have h12 : (xs.length : Int) ≤ 12 := by omega
  simp only [Az78, Bzgs, Bzgr, go_sem, yz0, Int.reduceLT, reduceLE, reduceToNat, reduceNeg, Nat.reduceLT, reduceLeDiff, reduceMul, reduceSub, reduceIte, reduceEqDiff, reduceAdd, reduceCtorEq]
  refine wpD_lo (fun _ : Unit => 0) (fun _ => True)
    (fun _ : Unit => ⟨L .any [(0, .own 5000 0), (1, iv 0), (2, iv xs.length), (3, iv b), (8, bv true), (9, bv true)], L .gone [(5000, .row 0 1 true (intsK .u64 xs))]⟩)
    () trivial (by simp only [Bz77, go_sem, yz0, Int.reduceLT, reduceLE, reduceToNat, reduceNeg, Nat.reduceLT, reduceLeDiff, reduceMul, reduceSub, reduceIte, reduceEqDiff, reduceAdd, reduceCtorEq]; try rfl) ?_
  rintro _ _
  simp only [Bz77, Bzgq, Bzgp, w0, decide_eq_true h12, go_sem, yz0, Int.reduceLT, reduceLE, reduceToNat, reduceNeg, Nat.reduceLT, reduceLeDiff, reduceMul, reduceSub, reduceIte, reduceEqDiff, reduceAdd, reduceCtorEq]
  intro vs
  have hsv : sv (L AObj.gone [(5000, AObj.row 0 1 true (intsK .u64 xs))]) [5000] (vs 3) 0 = 0 := sv_0 rfl
  refine call_rowM (k_insertionF xs hl) (r := 5000) rfl (by simp only [rowIs, boxIs, coe_argN, coe_argNs, coe_ro_o, coeL_nil, yz12, coe_any, coe_val, coe_ro, yz13, yz17, coe_st, yz15, coe_rp, yz16, coe_clo, coe_own0, coe_ptr0, yz11, coeL_rws, coeL_rwn, L_hit, L_miss, L_nil, reduceEqDiff, ne_eq, reduceCtorEq, not_false_eq_true, true_and, and_true, and_self, exists_eq_left, exists_eq_right, List.mem_cons, List.not_mem_nil, or_false, AObj.row.injEq, AObj.box.injEq, exists_eq_left', exists_and_left, exists_eq, Nat.zero_lt_one, Nat.lt_add_one, List.map_cons, List.map_nil, AObj.ver, Nat.reduceLT, not_true_eq_false]) (by simp only [rowIs, boxIs, coe_argN, coe_argNs, coe_ro_o, coeL_nil, yz12, coe_any, coe_val, coe_ro, yz13, yz17, coe_st, yz15, coe_rp, yz16, coe_clo, coe_own0, coe_ptr0, yz11, coeL_rws, coeL_rwn, L_hit, L_miss, L_nil, reduceEqDiff, ne_eq, reduceCtorEq, not_false_eq_true, true_and, and_true, and_self, exists_eq_left, exists_eq_right, List.mem_cons, List.not_mem_nil, or_false, AObj.row.injEq, AObj.box.injEq, exists_eq_left', exists_and_left, exists_eq, Nat.zero_lt_one, Nat.lt_add_one, List.map_cons, List.map_nil, AObj.ver, Nat.reduceLT, not_true_eq_false]) ?_
  rintro outs rows res ⟨rfl, rfl, ys, hp, hs, rfl⟩
  refine ⟨rfl, _, rfl, ?_⟩
  simp only [hsv, Az78, ← hQ, Nat.not_lt_zero, range1, yzw, yzx, ren_ro, rnNm_n, yzz, rnNm_o, rnNm_s, ren_st, yzy, yzs, yze, yz3, yzq, yzo, yzl, yzn, yzp, yz6, yz9, yzb, yza, yzj, yzi, yz4, yzd, yzc, yz7, yzf, yzh, List.range_zero, yz2, yz5, yz8, yzr, yzk, yzm, AVal.fresh, freshL, yz1, yzg, AObj.fresh, id, Option.isSome_some, or_true, true_or, go_sem, yz0, Int.reduceLT, reduceLE, reduceToNat, reduceNeg, Nat.reduceLT, reduceLeDiff, reduceMul, reduceSub, reduceIte, reduceEqDiff, reduceAdd, reduceCtorEq]
  exact ⟨[], by simp, by simp, by simp, by simp, ys, hp, hs, rfl⟩
theorem k_SortF (xs : List Int) (hl : xs.length ≤ 12) : Con Try.prog nz3q [.row 0 1 true (intsK .u64 xs)] [.own 5000 0] true
    fun outs rows res => rows = [] ∧ res = .tup [] ∧ ∃ ys : List Int, ys.Perm xs ∧ ys.Pairwise (· ≤ ·) ∧ outs = [.row 0 1 true (intsK .u64 ys)] := by
  refine con_sh mixed czj5 rfl (by simp) ?_
  have hw : IntKind.u64.wrap (xs.length : Int) = xs.length := by
    have h : ∀ k : Nat, k ≤ 12 → IntKind.u64.wrap (k : Int) = k := by decide
    exact h _ hl
  generalize hQ : finQ _ = Q
  simp only [Az68, Bze8, hw, go_sem, yz0, Int.reduceLT, reduceLE, reduceToNat, reduceNeg, Nat.reduceLT, reduceLeDiff, reduceMul, reduceSub, reduceIte, reduceEqDiff, reduceAdd, reduceCtorEq]
  intro _ vs
  refine call_funE (k_LenF xs.length hl) qCS ⟨_, 0, rfl⟩ ?_
  rintro _ ⟨b, rfl⟩
  simp only [go_sem, yz0, Int.reduceLT, reduceLE, reduceToNat, reduceNeg, Nat.reduceLT, reduceLeDiff, reduceMul, reduceSub, reduceIte, reduceEqDiff, reduceAdd, reduceCtorEq]
  have hsv : sv (L AObj.gone [(5000, AObj.row 0 1 true (intsK .u64 xs))]) [5000] (vs 5) 0 = 0 := sv_0 rfl
  refine call_rowM (k_pdq xs b hl) (r := 5000) rfl (by simp only [rowIs, boxIs, coe_argN, coe_argNs, coe_ro_o, coeL_nil, yz12, coe_any, coe_val, coe_ro, yz13, yz17, coe_st, yz15, coe_rp, yz16, coe_clo, coe_own0, coe_ptr0, yz11, coeL_rws, coeL_rwn, L_hit, L_miss, L_nil, reduceEqDiff, ne_eq, reduceCtorEq, not_false_eq_true, true_and, and_true, and_self, exists_eq_left, exists_eq_right, List.mem_cons, List.not_mem_nil, or_false, AObj.row.injEq, AObj.box.injEq, exists_eq_left', exists_and_left, exists_eq, Nat.zero_lt_one, Nat.lt_add_one, List.map_cons, List.map_nil, AObj.ver, Nat.reduceLT, not_true_eq_false]) (by simp only [rowIs, boxIs, coe_argN, coe_argNs, coe_ro_o, coeL_nil, yz12, coe_any, coe_val, coe_ro, yz13, yz17, coe_st, yz15, coe_rp, yz16, coe_clo, coe_own0, coe_ptr0, yz11, coeL_rws, coeL_rwn, L_hit, L_miss, L_nil, reduceEqDiff, ne_eq, reduceCtorEq, not_false_eq_true, true_and, and_true, and_self, exists_eq_left, exists_eq_right, List.mem_cons, List.not_mem_nil, or_false, AObj.row.injEq, AObj.box.injEq, exists_eq_left', exists_and_left, exists_eq, Nat.zero_lt_one, Nat.lt_add_one, List.map_cons, List.map_nil, AObj.ver, Nat.reduceLT, not_true_eq_false]) ?_
  rintro outs rows res ⟨rfl, rfl, ys, hp, hs, rfl⟩
  refine ⟨rfl, _, rfl, ?_⟩
  simp only [hsv, Az68, ← hQ, Nat.not_lt_zero, range1, yzw, yzx, ren_ro, rnNm_n, yzz, rnNm_o, rnNm_s, ren_st, yzy, yzs, yze, yz3, yzq, yzo, yzl, yzn, yzp, yz6, yz9, yzb, yza, yzj, yzi, yz4, yzd, yzc, yz7, yzf, yzh, List.range_zero, yz2, yz5, yz8, yzr, yzk, yzm, AVal.fresh, freshL, yz1, yzg, AObj.fresh, id, Option.isSome_some, or_true, true_or, go_sem, yz0, Int.reduceLT, reduceLE, reduceToNat, reduceNeg, Nat.reduceLT, reduceLeDiff, reduceMul, reduceSub, reduceIte, reduceEqDiff, reduceAdd, reduceCtorEq]
  exact ⟨[], by simp, by simp, by simp, by simp, ys, hp, hs, rfl⟩
end Go.Ab
namespace Go.Ab
open Go.Proofs
theorem k_CloneNil : Fun Try.prog nz1j [.val (.slice none 0 0)] (.val (.slice none 0 0)) := by
  refine fun_of mixed cze9 rfl ⟨rfl, trivial⟩ ?_
  simp only [Bz69, Bz6a, Bz6b, Az6c, go_sem, yz0, Int.reduceLT, reduceLE, reduceToNat, reduceNeg, Nat.reduceLT, reduceLeDiff, reduceMul, reduceSub, reduceIte, reduceEqDiff, reduceAdd, reduceCtorEq]
  try (intros; trivial)
theorem k_settle (n o : Int) (next out : List (List Int)) (M : Mach n o next out) (tl : Bool) (F : Nat) (hF : Enough n.toNat F) (hso : n.toNat / 2 * o.toNat ≤ 12) :
    RowT Try.prog nz15 [machA n o next out, bv tl] (!decide (n = 1) && (qT (dbtT next out o tl n F)).isSome) ((qT (dbtT next out o tl n F)).getD []) (if n = 1 then 0 else qC (dbtT next out o tl n F)) := by
  refine con_of mixed czii rfl (by simp) ?_
  have n1 := M.aut.n1
  have n2 := M.aut.n2
  have l1 := M.aut.l1
  have l2 := M.aut.l2
  have o1 := M.o1
  have o2 := M.o2
  have hN : 2 ^ n.toNat ≤ 1024 := Nat.pow_le_pow_right (n := 2) (by omega) (show n.toNat ≤ 10 by omega)
  have hp := Nat.two_pow_pos n.toNat
  generalize hQ : finQ _ = Q
  simp only [Az4, Bzbe, Bzbd, go_sem, yz0, Int.reduceLT, reduceLE, reduceToNat, reduceNeg, Nat.reduceLT, reduceLeDiff, reduceMul, reduceSub, reduceIte, reduceEqDiff, reduceAdd, reduceCtorEq]
  intro vs vs2
  by_cases hn1 : n > 1
  · have hsh := u_shl (b := n.toNat) (by omega)
    have hsu : IntKind.u64.wrap (((2 ^ n.toNat : Nat) : Int) - 1) = ((2 ^ n.toNat - 1 : Nat) : Int) := by rw [show ((2 ^ n.toNat : Nat) : Int) - 1 = ((2 ^ n.toNat - 1 : Nat) : Int) by omega]; exact u64w (by omega)
    have hng : ¬ n < 0 := by omega
    simp only [Bz51, decide_eq_true hn1, hsh, hsu, hng, if_false, go_sem, yz0, Int.reduceLT, reduceLE, reduceToNat, reduceNeg, Nat.reduceLT, reduceLeDiff, reduceMul, reduceSub, reduceIte, reduceEqDiff, reduceAdd, reduceCtorEq]
    intro vs3
    refine ⟨⟨_, rfl, rfl⟩, ?_⟩
    simp only [Bz5e, Bz52, Bzbc, wpD_gh, go_sem, yz0, Int.reduceLT, reduceLE, reduceToNat, reduceNeg, Nat.reduceLT, reduceLeDiff, reduceMul, reduceSub, reduceIte, reduceEqDiff, reduceAdd, reduceCtorEq]
    intro hM
    refine ⟨fun h => by simp at h, fun _ hD => ?_⟩
    refine ⟨[.fb 6 0 27], gwp_fb rfl rfl (by simp) rfl ?_⟩
    have e0 : [AVal.val (Value.int IntKind.u64 ((2 ^ n.toNat - 1 : Nat) : Int))] = nfs [2 ^ n.toNat - 1] := rfl
    simp only [gwp_nil, frNm_t, List.set_cons_zero, e0, go_sem, yz0, Int.reduceLT, reduceLE, reduceToNat, reduceNeg, Nat.reduceLT, reduceLeDiff, reduceMul, reduceSub, reduceIte, reduceEqDiff, reduceAdd, reduceCtorEq]
    intro vs4
    have hq0 : ∀ f ∈ [2 ^ n.toNat - 1], f < 1024 := by intro f hf; simp at hf; omega
    refine ⟨⟨_, rfl, rfl⟩, ?_⟩
    refine call_funE (k_doubtKey [2 ^ n.toNat - 1] hq0 (by simp)) qCS ⟨_, keyS (keyB _), rfl, keyS_bytes keyB_in⟩ ?_
    rintro _ ⟨b0, rfl, hb0⟩
    obtain rfl := keyS_of hb0
    have f0 : ∀ k : Value, findKeyAt k [] 0 = some none := fun _ => rfl
    have hdb : DB n.toNat [2 ^ n.toNat - 1] := DB_all n1 n2 hn1
    simp only [f0, go_sem, yz0, Int.reduceLT, reduceLE, reduceToNat, reduceNeg, Nat.reduceLT, reduceLeDiff, reduceMul, reduceSub, reduceIte, reduceEqDiff, reduceAdd, reduceCtorEq]
    obtain ⟨T, hT⟩ : ∃ T, T = dbtT next out o tl n F := ⟨_, rfl⟩
    rw [← hT] at hQ
    have hT : runG (dbtD next out o tl) next.length ([], []) F 0 [([2 ^ n.toNat - 1], [])] = T := hT.symm
    simp only [Bzbb, Bzb9, go_sem, yz0, Int.reduceLT, reduceLE, reduceToNat, reduceNeg, Nat.reduceLT, reduceLeDiff, reduceMul, reduceSub, reduceIte, reduceEqDiff, reduceAdd, reduceCtorEq]
    refine wpD_lo (fun (_, i, _) => F - i)
      (fun (_, i, L) => QI n.toNat next.length L ∧ i ≤ List.length L ∧ runG (dbtD next out o tl) next.length ([], []) (F - i) i L = T ∧ (∀ p ∈ L, p.1 ≠ []) ∧ List.length L ≤ 2000)
      (fun ((va, i, L) : Nat × Nat × QS) => ⟨Go.Ab.L .any [(1, bv tl), (2, .ptr 2 (vs 0 0) 0), (7, .own 34 va), (8, .mp 35 (vs4 2 0)), (9, iv i)],
        Go.Ab.L .gone [(2, .box (vs 0 0) [iv n, iv o, .ro none 1 (rwn next), .ro none 1 (rwn out)]), (34, .row va 2 true (dcl L)), (35, .map (vs4 2 0) (keysQ L) (trueQ L))]⟩)
      (_, 0, [([2 ^ n.toNat - 1], [])]) ⟨QI0 hdb, by simp, hT, by simp, by simp⟩ (by simp only [Bz2c, go_sem, yz0, Int.reduceLT, reduceLE, reduceToNat, reduceNeg, Nat.reduceLT, reduceLeDiff, reduceMul, reduceSub, reduceIte, reduceEqDiff, reduceAdd, reduceCtorEq]; try rfl) ?_
    rintro ⟨va, i, L⟩ ⟨hI, hi, hR, hne, hl2⟩
    have hi : i ≤ L.length := hi
    have hl2 : L.length ≤ 2000 := hl2
    have hLF : L.length < F := hF L hI.nd hI.rg
    have hR : runG (dbtD next out o tl) next.length ([], []) (F - i) i L = T := hR
    have e2 : 2 * L.length / 2 = L.length := by omega
    by_cases hlt : (i : Int) < L.length
    · have hlt1 : i < L.length := by omega
      have wi : IntKind.i64.wrap ((i : Int) + 1) = ((i + 1 : Nat) : Int) := by rw [w64 (by omega)]; simp
      have hm := yzu hlt1 ([], ([] : List Int))
      have hdp := hI.rg _ hm
      have hwp := hI.wd _ hm
      obtain ⟨F', hF'⟩ : ∃ F', F - i = F' + 1 := ⟨F - i - 1, by omega⟩
      have hF'2 : F - (i + 1) = F' := by omega
      rw [hF'] at hR
      simp only [runG, if_pos hlt1] at hR
      simp only [Bz2c, Bz53, Bzb8, e2, decide_eq_true hlt, go_sem, yz0, Int.reduceLT, reduceLE, reduceToNat, reduceNeg, Nat.reduceLT, reduceLeDiff, reduceMul, reduceSub, reduceIte, reduceEqDiff, reduceAdd, reduceCtorEq]
      intro hM1 hM2
      simp only [Bzb6, go_sem, yz0, Int.reduceLT, reduceLE, reduceToNat, reduceNeg, Nat.reduceLT, reduceLeDiff, reduceMul, reduceSub, reduceIte, reduceEqDiff, reduceAdd, reduceCtorEq]
      refine wpD_lo (fun (_, x, _) => next.length - x)
        (fun (_, x, L') => x ≤ next.length ∧ L' = visQ next out o tl (L.getD i ([], [])).1 (L.getD i ([], [])).2 x L ∧ (∀ p ∈ L', p.1 ≠ []) ∧ List.length L' ≤ 2000)
        (fun ((va, x, L') : Nat × Nat × QS) => ⟨Go.Ab.L .any [(1, bv tl), (2, .ptr 2 (vs 0 0) 0), (7, .own 34 va), (8, .mp 35 (vs4 2 0)), (9, iv i), (48, iv next.length), (49, iv x)],
          Go.Ab.L .gone [(2, .box (vs 0 0) [iv n, iv o, .ro none 1 (rwn next), .ro none 1 (rwn out)]), (34, .row va 2 true (dcl L')), (35, .map (vs4 2 0) (keysQ L') (trueQ L'))]⟩)
        (_, 0, L) ⟨by simp, by simp [visQ, visG], hne, hl2⟩ (by simp only [Bz2b, go_sem, yz0, Int.reduceLT, reduceLE, reduceToNat, reduceNeg, Nat.reduceLT, reduceLeDiff, reduceMul, reduceSub, reduceIte, reduceEqDiff, reduceAdd, reduceCtorEq]; try rfl) ?_
      rintro ⟨va, x, L'⟩ ⟨hx, hL', hne', hl2'⟩
      have hx : x ≤ next.length := hx
      have hl2' : L'.length ≤ 2000 := hl2'
      have hL' : L' = visQ next out o tl (L.getD i ([], [])).1 (L.getD i ([], [])).2 x L := hL'
      obtain ⟨hI', t, hpre⟩ := visQ_ok (tl := tl) M hI hlt1 x hx
      rw [← hL'] at hI' hpre
      have hi2 : i < L'.length := by rw [hpre, List.length_append]; omega
      have hat : L'.getD i ([], []) = L.getD i ([], []) := by rw [hpre]; exact appG_getD hlt1
      have e2' : 2 * L'.length / 2 = L'.length := by omega
      obtain ⟨hg1, hg2⟩ := dcl_get hi2
      by_cases hxl : (x : Int) < next.length
      · have hxl1 : x < next.length := by omega
        have w1 : IntKind.i64.wrap ((x : Int) + 1) = ((x + 1 : Nat) : Int) := by rw [w64 (by omega)]; simp
        have hsuN := @visQ_none next out o tl (L.getD i ([], [])).1 (L.getD i ([], [])).2 x L
        have hsuS := fun q => @visQ_some next out o tl (L.getD i ([], [])).1 q (L.getD i ([], [])).2 x L
        rw [← hL'] at hsuN hsuS
        rw [hat] at hg1 hg2
        generalize hfw : L.getD i ([], []) = fw at hm hdp hwp hR hsuN hsuS hg1 hg2 hL' ⊢
        have hwx := hwp
        have hlen2 := hdp.len (by omega)
        simp only [Bz2b, Bz5d, Bzb5, Bzb4, Bzb3, e2', hg1, decide_eq_true hxl, go_sem, yz0, Int.reduceLT, reduceLE, reduceToNat, reduceNeg, Nat.reduceLT, reduceLeDiff, reduceMul, reduceSub, reduceIte, reduceEqDiff, reduceAdd, reduceCtorEq]
        intro vs5
        refine ⟨⟨by omega, by omega⟩, by omega, fun hM3 => ?_⟩
        generalize hnr : next.getD x [] = nr
        generalize hor : out.getD x [] = orr
        simp only [Bzaz, List.length_map, go_sem, yz0, Int.reduceLT, reduceLE, reduceToNat, reduceNeg, Nat.reduceLT, reduceLeDiff, reduceMul, reduceSub, reduceIte, reduceEqDiff, reduceAdd, reduceCtorEq]
        refine wpD_lo (fun (_, j) => fw.1.length - j) (fun (_, j) => j ≤ fw.1.length)
          (fun ((v5, j) : Nat × Nat) => ⟨Go.Ab.L .any [(1, bv tl), (2, .ptr 2 (vs 0 0) 0), (7, .own 34 va), (8, .mp 35 (vs4 2 0)), (9, iv i), (10, iv x), (11, .own 52 v5), (12, bv (clrF nr orr o (fw.1.take j))), (48, iv next.length), (49, iv x), (57, .ro (some none) 1 (nfs fw.1)), (58, iv fw.1.length), (59, iv j)],
            Go.Ab.L .gone [(2, .box (vs 0 0) [iv n, iv o, .ro none 1 (rwn next), .ro none 1 (rwn out)]), (34, .row va 2 true (dcl L')), (35, .map (vs4 2 0) (keysQ L') (trueQ L')), (52, .row v5 1 true (nfs (parF nr orr o (fw.1.take j))))]⟩)
          (_, 0) (by simp) (by simp only [Bz2a, go_sem, yz0, Int.reduceLT, reduceLE, reduceToNat, reduceNeg, Nat.reduceLT, reduceLeDiff, reduceMul, reduceSub, reduceIte, reduceEqDiff, reduceAdd, reduceCtorEq]; try rfl) ?_
        rintro ⟨v5, j⟩ hj
        have hj : j ≤ fw.1.length := hj
        by_cases hjl : (j : Int) < fw.1.length
        · have hjl1 : j < fw.1.length := by omega
          have wj : IntKind.i64.wrap ((j : Int) + 1) = ((j + 1 : Nat) : Int) := by rw [w64 (by omega)]; simp
          have hfj := (hdp.el _ (yzu hjl1 0)).1
          have hdv := k_divided n o next out M (fw.1.getD j 0) x hfj hxl1
          have hps := parF_snoc (nr := nr) (or := orr) (o := o) hjl1
          have hcs := clrF_snoc (nr := nr) (or := orr) (o := o) hjl1
          have hgj := nfs_getD hjl1
          have hpl := parF_len (nr := nr) (or := orr) (o := o) (D := fw.1.take j)
          rw [List.length_take] at hpl
          have hdl := dvF_len (nr := nr) (or := orr) (o := o) (S := bitsTo (fw.1.getD j 0) 10)
          rw [hnr, hor] at hdv
          simp only [Bz2a, Bz56, Bzay, Bzax, hgj, decide_eq_true hjl, List.length_map, go_sem, yz0, Int.reduceLT, reduceLE, reduceToNat, reduceNeg, Nat.reduceLT, reduceLeDiff, reduceMul, reduceSub, reduceIte, reduceEqDiff, reduceAdd, reduceCtorEq]
          generalize fw.1.getD j 0 = f at hfj hdv hps hcs hdl ⊢
          generalize dvF nr orr o (bitsTo f 10) = dv at hdv hps hcs hdl
          refine ⟨⟨by omega, hjl1⟩, hjl1, fun vs6 => ?_⟩
          refine call_fn hdv qCS (fun e => by cases e) ?_
          rintro rows res ⟨v67, rfl, rfl⟩
          refine ⟨by simp, (fun k hk => by obtain rfl : k = 0 := (by simpa using hk); rfl), ?_⟩
          have hpb : min j fw.1.length * o.toNat ≤ 5 * 3 := Nat.mul_le_mul (by omega) (by omega)
          generalize hcc : clrF nr orr o (List.take j fw.1) = cc at hcs ⊢
          simp only [Bz29, List.length_map, Nat.not_lt_zero, range1, yzw, yzx, ren_ro, rnNm_n, yzz, rnNm_o, rnNm_s, ren_st, yzy, yzs, yze, yz3, yzq, yzo, yzl, yzn, yzp, yz6, yz9, yzb, yza, yzj, yzi, yz4, yzd, yzc, yz7, yzf, yzh, List.range_zero, yz2, yz5, yz8, yzr, yzk, yzm, AVal.fresh, freshL, yz1, yzg, AObj.fresh, id, Option.isSome_some, or_true, true_or, go_sem, yz0, Int.reduceLT, reduceLE, reduceToNat, reduceNeg, Nat.reduceLT, reduceLeDiff, reduceMul, reduceSub, reduceIte, reduceEqDiff, reduceAdd, reduceCtorEq]
          cases cc with
          | true =>
            simp only [Bz29, Bz54, Bz55, wj, Nat.not_lt_zero, range1, yzw, yzx, ren_ro, rnNm_n, yzz, rnNm_o, rnNm_s, ren_st, yzy, yzs, yze, yz3, yzq, yzo, yzl, yzn, yzp, yz6, yz9, yzb, yza, yzj, yzi, yz4, yzd, yzc, yz7, yzf, yzh, List.range_zero, yz2, yz5, yz8, yzr, yzk, yzm, AVal.fresh, freshL, yz1, yzg, AObj.fresh, id, Option.isSome_some, or_true, true_or, go_sem, yz0, Int.reduceLT, reduceLE, reduceToNat, reduceNeg, Nat.reduceLT, reduceLeDiff, reduceMul, reduceSub, reduceIte, reduceEqDiff, reduceAdd, reduceCtorEq]
            exact fun vs7 => ⟨by omega, (vs7 2 0, j + 1), by dsimp only; omega, by dsimp only; omega, by dsimp only; rw [hps, hcs, Bool.true_and, ← nfs_app]⟩
          | false =>
            simp only [Bz29, Bz54, Bz55, wj, Nat.not_lt_zero, range1, yzw, yzx, ren_ro, rnNm_n, yzz, rnNm_o, rnNm_s, ren_st, yzy, yzs, yze, yz3, yzq, yzo, yzl, yzn, yzp, yz6, yz9, yzb, yza, yzj, yzi, yz4, yzd, yzc, yz7, yzf, yzh, List.range_zero, yz2, yz5, yz8, yzr, yzk, yzm, AVal.fresh, freshL, yz1, yzg, AObj.fresh, id, Option.isSome_some, or_true, true_or, go_sem, yz0, Int.reduceLT, reduceLE, reduceToNat, reduceNeg, Nat.reduceLT, reduceLeDiff, reduceMul, reduceSub, reduceIte, reduceEqDiff, reduceAdd, reduceCtorEq]
            exact fun vs7 => ⟨by omega, (vs7 2 0, j + 1), by dsimp only; omega, by dsimp only; omega, by dsimp only; rw [hps, hcs, Bool.false_and, ← nfs_app]⟩
        · obtain rfl : j = fw.1.length := by omega
          have hpreT : ∀ y, y ≤ next.length → ∃ t, T = visQ next out o tl fw.1 fw.2 y L ++ t := fun y hy => by
            obtain ⟨t1, h1⟩ := visG_ext (δ := dbtD next out o tl) (p := fw.1) (w := fw.2) (L := L) (x := y) (next.length - y)
            obtain ⟨t2, h2⟩ := runG_pre (δ := dbtD next out o tl) (m := next.length) (d := ([], [])) F' (i + 1) (visG (dbtD next out o tl) fw.1 fw.2 next.length L)
            rw [show y + (next.length - y) = next.length by omega] at h1
            exact ⟨t1 ++ t2, by rw [← hR, h2, h1, List.append_assoc]⟩
          have hd0 : dbtD next out o tl fw.1 x = if (tl && !(clrF nr orr o fw.1)) = true then none else some (nrmF (parF nr orr o fw.1)) := by rw [← hnr, ← hor]; rfl
          simp only [Bz2a, Bz56, Bzb2, decide_eq_false hjl, List.length_map, List.take_length, go_sem, yz0, Int.reduceLT, reduceLE, reduceToNat, reduceNeg, Nat.reduceLT, reduceLeDiff, reduceMul, reduceSub, reduceIte, reduceEqDiff, reduceAdd, reduceCtorEq]
          generalize hcc : clrF nr orr o fw.1 = cc at hd0 ⊢
          by_cases hcl : (tl && !cc) = true
          · rw [if_pos hcl] at hd0
            have hsu := hsuN hd0
            obtain ⟨rfl, rfl⟩ : tl = true ∧ cc = false := by revert hcl; cases tl <;> cases cc <;> simp
            simp only [Bz57, Bz5c, Bza, w1, go_sem, yz0, Int.reduceLT, reduceLE, reduceToNat, reduceNeg, Nat.reduceLT, reduceLeDiff, reduceMul, reduceSub, reduceIte, reduceEqDiff, reduceAdd, reduceCtorEq]
            exact ⟨(va, x + 1, L'), by dsimp only; omega, ⟨by dsimp only; omega, hsu.symm, hne', hl2'⟩, rfl⟩
          · rw [if_neg hcl] at hd0
            have hgo : tl = false ∨ tl = true ∧ cc = true := by revert hcl; cases tl <;> cases cc <;> simp
            have hsu := hsuS _ hd0
            have hdq := dbt_DB M hdp hxl1 hd0
            have hDne : fw.1 ≠ [] := hne _ hm
            have hpsl := parF_len (nr := nr) (or := orr) (o := o) (D := fw.1)
            have hps1 : ∀ g ∈ parF nr orr o fw.1, g < 1024 := by
              have hr := M.aut.row _ (yzu hxl1 [])
              rw [hnr] at hr
              exact fun g hg => Nat.lt_of_lt_of_le (parF_lt (n := n.toNat) (fun s hs => by have := hr.2 s hs; omega) (by omega) (fun f hf => (hdp.el f hf).1) g hg) hN
            have hDl : 1 ≤ fw.1.length := by cases h : fw.1 with
              | nil => exact absurd h hDne
              | cons => simp
            have hps2 : (parF nr orr o fw.1).length ≤ 12 := by
              rw [hpsl]; exact Nat.le_trans (Nat.mul_le_mul_right _ (by omega)) hso
            have hps3 : 1 ≤ (parF nr orr o fw.1).length := by rw [hpsl]; exact Nat.mul_pos hDl (by omega)
            generalize hPS : parF nr orr o fw.1 = ps at hd0 hsu hdq hpsl hps1 hps2 hps3 ⊢
            have hns := fun ys => nrm_sorted (ps := ps) (ys := ys) hps1
            generalize nrmF ps = q at hd0 hsu hdq hns
            have hn1' : ¬ n = 1 := by omega
            have hq4 : ∀ f ∈ q, f < 1024 := fun f hf => Nat.lt_of_lt_of_le (hdq.el f hf).1 hN
            have hq5 := hdq.len (by omega)
            have h20 : ¬ (2000 : Int) < L'.length := by omega
            rcases hgo with rfl | ⟨rfl, rfl⟩ <;> (
              simp only [Bz57, Bz5c, go_sem, yz0, Int.reduceLT, reduceLE, reduceToNat, reduceNeg, Nat.reduceLT, reduceLeDiff, reduceMul, reduceSub, reduceIte, reduceEqDiff, reduceAdd, reduceCtorEq]
              intro vs6
              refine call_row1 (k_SortF (ps.map fun (f : Nat) => (f : Int)) (by simpa using hps2)) (r := 52) (v := v5) rfl qCS qWS ?_
              rintro outs rows res ⟨rfl, rfl, ys, hyp, hys, rfl⟩
              refine ⟨rfl, _, rfl, ?_⟩
              have hyl : ys.length = ps.length := by rw [hyp.length_eq]; simp
              have hy0 : ys ≠ [] := fun e => by rw [e] at hyl; simp at hyl; omega
              have hcs := compact_sorted hys
              have hc0 : Lib.compact ys ≠ [] := fun e => by
                cases hy : ys with
                | nil => exact hy0 hy
                | cons y l =>
                  have := (hcs.2 y).2 (by rw [hy]; simp)
                  rw [e] at this; simp at this
              have hns2 := hns ys hyp hys
              simp only [sv_one, Bzb1, AObj.ver, Option.getD_some, Nat.not_lt_zero, range1, yzw, yzx, ren_ro, rnNm_n, yzz, rnNm_o, rnNm_s, ren_st, yzy, yzs, yze, yz3, yzq, yzo, yzl, yzn, yzp, yz6, yz9, yzb, yza, yzj, yzi, yz4, yzd, yzc, yz7, yzf, yzh, List.range_zero, yz2, yz5, yz8, yzr, yzk, yzm, AVal.fresh, freshL, yz1, yzg, AObj.fresh, id, Option.isSome_some, or_true, true_or, go_sem, yz0, Int.reduceLT, reduceLE, reduceToNat, reduceNeg, Nat.reduceLT, reduceLeDiff, reduceMul, reduceSub, reduceIte, reduceEqDiff, reduceAdd, reduceCtorEq]
              intro vs7
              refine call_row1 (k_CompactF ys hy0) (r := 52) (v := v5) rfl qCS qWS ?_
              rintro outs rows res ⟨v52, rfl, rfl, rfl⟩
              refine ⟨rfl, _, rfl, ?_⟩
              simp only [sv_one, ren_own_h, AObj.ver, Option.getD_some, Nat.not_lt_zero, range1, yzw, yzx, ren_ro, rnNm_n, yzz, rnNm_o, rnNm_s, ren_st, yzy, yzs, yze, yz3, yzq, yzo, yzl, yzn, yzp, yz6, yz9, yzb, yza, yzj, yzi, yz4, yzd, yzc, yz7, yzf, yzh, List.range_zero, yz2, yz5, yz8, yzr, yzk, yzm, AVal.fresh, freshL, yz1, yzg, AObj.fresh, id, Option.isSome_some, or_true, true_or, go_sem, yz0, Int.reduceLT, reduceLE, reduceToNat, reduceNeg, Nat.reduceLT, reduceLeDiff, reduceMul, reduceSub, reduceIte, reduceEqDiff, reduceAdd, reduceCtorEq]
              refine call_rowM (k_DelF _ hc0) (r := 52) rfl qCS qCS ?_
              rintro outs rows res ⟨v53, rfl, rfl, rfl⟩
              refine ⟨rfl, _, rfl, ?_⟩
              rw [hns2]
              simp only [sv_one, ren_own_h, AObj.ver, Option.getD_some, Bzb0, hg2, Nat.not_lt_zero, range1, yzw, yzx, ren_ro, rnNm_n, yzz, rnNm_o, rnNm_s, ren_st, yzy, yzs, yze, yz3, yzq, yzo, yzl, yzn, yzp, yz6, yz9, yzb, yza, yzj, yzi, yz4, yzd, yzc, yz7, yzf, yzh, List.range_zero, yz2, yz5, yz8, yzr, yzk, yzm, AVal.fresh, freshL, yz1, yzg, AObj.fresh, id, Option.isSome_some, or_true, true_or, go_sem, yz0, Int.reduceLT, reduceLE, reduceToNat, reduceNeg, Nat.reduceLT, reduceLeDiff, reduceMul, reduceSub, reduceIte, reduceEqDiff, reduceAdd, reduceCtorEq]
              intro vs8
              refine ⟨⟨by omega, by omega⟩, by omega, ?_⟩
              generalize sv _ [52] (vs7 2) v53 = u53
              by_cases hw0 : fw.2 = []
              · have hwA : wA fw.2 = .val (.slice none 0 0) := by unfold wA; rw [if_pos hw0]
                simp only [hwA]
                refine yzt k_CloneNil qCS trivial ?_
                simp only [go_sem, yz0, Int.reduceLT, reduceLE, reduceToNat, reduceNeg, Nat.reduceLT, reduceLeDiff, reduceMul, reduceSub, reduceIte, reduceEqDiff, reduceAdd, reduceCtorEq]
                refine ⟨⟨_, rfl, rfl⟩, ?_⟩
                have hrow : [AVal.val (Value.int .i64 (x : Int))] = ints (fw.2 ++ [(x : Int)]) := by rw [hw0]; rfl
                simp only [hrow]
                simp only [Bz5b, Bz58, List.length_map, go_sem, yz0, Int.reduceLT, reduceLE, reduceToNat, reduceNeg, Nat.reduceLT, reduceLeDiff, reduceMul, reduceSub, reduceIte, reduceEqDiff, reduceAdd, reduceCtorEq]
                intro hMq
                refine ⟨fun hq0 => ?_, fun hq0 => ?_⟩
                · have hq0 : q = [] := List.eq_nil_of_length_eq_zero (by have := eq_of_beq hq0; omega)
                  subst hq0
                  rw [hasG_nil hne', if_neg (by simp)] at hsu
                  obtain ⟨t9, ht9⟩ := hpreT (x + 1) hxl1
                  rw [hsu, List.append_assoc] at ht9
                  have hq := qT_some ht9 hl2' hne'
                  simp only [Az4, ← hQ, go_sem, yz0, Int.reduceLT, reduceLE, reduceToNat, reduceNeg, Nat.reduceLT, reduceLeDiff, reduceMul, reduceSub, reduceIte, reduceEqDiff, reduceAdd, reduceCtorEq]
                  refine ⟨[97], by simp, by simp, by simp, ?_⟩
                  simp only [range1, List.length_singleton, Nat.not_lt_zero, range1, yzw, yzx, ren_ro, rnNm_n, yzz, rnNm_o, rnNm_s, ren_st, yzy, yzs, yze, yz3, yzq, yzo, yzl, yzn, yzp, yz6, yz9, yzb, yza, yzj, yzi, yz4, yzd, yzc, yz7, yzf, yzh, List.range_zero, yz2, yz5, yz8, yzr, yzk, yzm, AVal.fresh, freshL, yz1, yzg, AObj.fresh, id, Option.isSome_some, or_true, true_or, go_sem, yz0, Int.reduceLT, reduceLE, reduceToNat, reduceNeg, Nat.reduceLT, reduceLeDiff, reduceMul, reduceSub, reduceIte, reduceEqDiff, reduceAdd, reduceCtorEq]
                  have hqc : qC T = 0 := by unfold qC; rw [hq]; rfl
                  simp only [hq, hqc, decide_eq_false hn1', if_neg hn1', Bool.not_false, Option.isSome_some, Bool.and_self, if_true, Option.getD_some]
                  exact ⟨_, rfl, rfl⟩
                · have hqne : q ≠ [] := fun e => by rw [e] at hq0; exact absurd hq0 (by decide)
                  simp only [Bz5a, go_sem, yz0, Int.reduceLT, reduceLE, reduceToNat, reduceNeg, Nat.reduceLT, reduceLeDiff, reduceMul, reduceSub, reduceIte, reduceEqDiff, reduceAdd, reduceCtorEq]
                  intro vs9
                  refine call_funE (k_doubtKey q hq4 (by omega)) qCS ⟨_, dkS q, rfl, keyS_bytes keyB_in⟩ ?_
                  rintro _ ⟨b1, rfl, hb1⟩
                  have hb1 : b1 = dkS q := keyS_of hb1
                  subst hb1
                  cases hh : hasG L' q with
                  | true =>
                    rw [hh, if_pos rfl] at hsu
                    obtain ⟨jj, hj1, hj2⟩ := fkQ_mem hq4 0 (hI'.lt (by omega)) hh
                    rw [Nat.zero_add] at hj1
                    have htj : (List.map (fun _ => bv true) L').getD jj AVal.any = bv true := trueQ_getD hj2
                    simp only [Bzr, Bzq, Bz7, Bz6, Bza, hj1, htj, e2', Option.isSome_some, Option.getD_some, decide_eq_false h20, w1, go_sem, yz0, Int.reduceLT, reduceLE, reduceToNat, reduceNeg, Nat.reduceLT, reduceLeDiff, reduceMul, reduceSub, reduceIte, reduceEqDiff, reduceAdd, reduceCtorEq]
                    exact fun hM9 => ⟨(va, x + 1, L'), by dsimp only; omega, ⟨by dsimp only; omega, hsu.symm, hne', hl2'⟩, rfl⟩
                  | false =>
                    rw [hh, if_neg (by simp)] at hsu
                    have hj1 := fkQ_not hq4 0 (hI'.lt (by omega)) hh
                    simp only [Bzr, Bzq, Bz59, hj1, Option.isSome_none, Option.getD_none, go_sem, yz0, Int.reduceLT, reduceLE, reduceToNat, reduceNeg, Nat.reduceLT, reduceLeDiff, reduceMul, reduceSub, reduceIte, reduceEqDiff, reduceAdd, reduceCtorEq]
                    obtain ⟨L2, hL2⟩ : ∃ L2, L2 = L' ++ [(q, fw.2 ++ [(x : Int)])] := ⟨_, rfl⟩
                    rw [← hL2] at hsu
                    have hk2 : keysQ L' ++ [Value.string (dkS q)] = keysQ L2 := by rw [hL2]; simp
                    have ht2 : (List.map (fun _ => bv true) L') ++ [bv true] = List.map (fun _ => bv true) L2 := by rw [hL2]; simp
                    have hd2 : ∀ a b : Nat, dnL (dcl L' ++ [.ro (some (some (a + 1))) 1 (nfs q), .ro (some (some (b + 1))) 1 (ints (fw.2 ++ [(x : Int)]))]) = dcl L2 := by intro a b; rw [hL2]; exact dnL_snocD (by simp)
                    have hl3 : L2.length = L'.length + 1 := by rw [hL2]; simp
                    have e3 : 2 * L2.length / 2 = L2.length := by omega
                    have hne2 : ∀ p ∈ L2, p.1 ≠ [] := fun p hp => by
                      rw [hL2] at hp
                      rcases List.mem_append.1 hp with hp | hp
                      · exact hne' p hp
                      · rw [List.mem_singleton.1 hp]; exact hqne
                    refine fun vs10 => ⟨by simp, by omega, ?_⟩
                    by_cases h30 : (2000 : Int) < L2.length
                    · obtain ⟨t9, ht9⟩ := hpreT (x + 1) hxl1
                      rw [hsu] at ht9
                      obtain ⟨hq, hqc⟩ := qT_lim ht9 (by omega) hne2
                      simp only [Bz7, Bz6, hd2, hk2, ht2, e3, decide_eq_true h30, Az4, ← hQ, go_sem, yz0, Int.reduceLT, reduceLE, reduceToNat, reduceNeg, Nat.reduceLT, reduceLeDiff, reduceMul, reduceSub, reduceIte, reduceEqDiff, reduceAdd, reduceCtorEq]
                      intro hM9
                      refine ⟨[], by simp, by simp, by simp, ?_⟩
                      simp only [List.map_nil, List.length_nil, Nat.not_lt_zero, range1, yzw, yzx, ren_ro, rnNm_n, yzz, rnNm_o, rnNm_s, ren_st, yzy, yzs, yze, yz3, yzq, yzo, yzl, yzn, yzp, yz6, yz9, yzb, yza, yzj, yzi, yz4, yzd, yzc, yz7, yzf, yzh, List.range_zero, yz2, yz5, yz8, yzr, yzk, yzm, AVal.fresh, freshL, yz1, yzg, AObj.fresh, id, Option.isSome_some, or_true, true_or, go_sem, yz0, Int.reduceLT, reduceLE, reduceToNat, reduceNeg, Nat.reduceLT, reduceLeDiff, reduceMul, reduceSub, reduceIte, reduceEqDiff, reduceAdd, reduceCtorEq]
                      simp only [hq, hqc, decide_eq_false hn1', if_neg hn1', Bool.not_false, Option.isSome_none, Bool.and_false, Bool.false_eq_true, if_false]
                    · simp only [Bz7, Bz6, Bza, hd2, hk2, ht2, e3, decide_eq_false h30, w1, go_sem, yz0, Int.reduceLT, reduceLE, reduceToNat, reduceNeg, Nat.reduceLT, reduceLeDiff, reduceMul, reduceSub, reduceIte, reduceEqDiff, reduceAdd, reduceCtorEq]
                      exact fun hM9 => ⟨(vs10 3 0, x + 1, L2), by dsimp only; omega, ⟨by dsimp only; omega, hsu.symm, hne2, by dsimp only; omega⟩, rfl⟩
              · have hwA : wA fw.2 = .ro (some none) 1 (ints fw.2) := by unfold wA; rw [if_neg hw0]
                simp only [hwA]
                refine call_rowI (k_Clone fw.2 (by omega)) qCS qGN ⟨_, rfl⟩ ?_
                rintro xs v94 rfl
                simp only [go_sem, yz0, Int.reduceLT, reduceLE, reduceToNat, reduceNeg, Nat.reduceLT, reduceLeDiff, reduceMul, reduceSub, reduceIte, reduceEqDiff, reduceAdd, reduceCtorEq]
                refine ⟨⟨_, rfl, rfl⟩, by omega, ?_⟩
                simp only [Bz5b, Bz58, List.length_map, go_sem, yz0, Int.reduceLT, reduceLE, reduceToNat, reduceNeg, Nat.reduceLT, reduceLeDiff, reduceMul, reduceSub, reduceIte, reduceEqDiff, reduceAdd, reduceCtorEq]
                intro hMq
                refine ⟨fun hq0 => ?_, fun hq0 => ?_⟩
                · have hq0 : q = [] := List.eq_nil_of_length_eq_zero (by have := eq_of_beq hq0; omega)
                  subst hq0
                  rw [hasG_nil hne', if_neg (by simp)] at hsu
                  obtain ⟨t9, ht9⟩ := hpreT (x + 1) hxl1
                  rw [hsu, List.append_assoc] at ht9
                  have hq := qT_some ht9 hl2' hne'
                  simp only [Az4, ← hQ, go_sem, yz0, Int.reduceLT, reduceLE, reduceToNat, reduceNeg, Nat.reduceLT, reduceLeDiff, reduceMul, reduceSub, reduceIte, reduceEqDiff, reduceAdd, reduceCtorEq]
                  refine ⟨[94], by simp, by simp, by simp, ?_⟩
                  simp only [range1, List.length_singleton, Nat.not_lt_zero, range1, yzw, yzx, ren_ro, rnNm_n, yzz, rnNm_o, rnNm_s, ren_st, yzy, yzs, yze, yz3, yzq, yzo, yzl, yzn, yzp, yz6, yz9, yzb, yza, yzj, yzi, yz4, yzd, yzc, yz7, yzf, yzh, List.range_zero, yz2, yz5, yz8, yzr, yzk, yzm, AVal.fresh, freshL, yz1, yzg, AObj.fresh, id, Option.isSome_some, or_true, true_or, go_sem, yz0, Int.reduceLT, reduceLE, reduceToNat, reduceNeg, Nat.reduceLT, reduceLeDiff, reduceMul, reduceSub, reduceIte, reduceEqDiff, reduceAdd, reduceCtorEq]
                  have hqc : qC T = 0 := by unfold qC; rw [hq]; rfl
                  simp only [hq, hqc, decide_eq_false hn1', if_neg hn1', Bool.not_false, Option.isSome_some, Bool.and_self, if_true, Option.getD_some]
                  exact ⟨_, rfl, rfl⟩
                · have hqne : q ≠ [] := fun e => by rw [e] at hq0; exact absurd hq0 (by decide)
                  simp only [Bz5a, go_sem, yz0, Int.reduceLT, reduceLE, reduceToNat, reduceNeg, Nat.reduceLT, reduceLeDiff, reduceMul, reduceSub, reduceIte, reduceEqDiff, reduceAdd, reduceCtorEq]
                  intro vs9
                  refine call_funE (k_doubtKey q hq4 (by omega)) qCS ⟨_, dkS q, rfl, keyS_bytes keyB_in⟩ ?_
                  rintro _ ⟨b1, rfl, hb1⟩
                  have hb1 : b1 = dkS q := keyS_of hb1
                  subst hb1
                  cases hh : hasG L' q with
                  | true =>
                    rw [hh, if_pos rfl] at hsu
                    obtain ⟨jj, hj1, hj2⟩ := fkQ_mem hq4 0 (hI'.lt (by omega)) hh
                    rw [Nat.zero_add] at hj1
                    have htj : (List.map (fun _ => bv true) L').getD jj AVal.any = bv true := trueQ_getD hj2
                    simp only [Bzr, Bzq, Bz7, Bz6, Bza, hj1, htj, e2', Option.isSome_some, Option.getD_some, decide_eq_false h20, w1, go_sem, yz0, Int.reduceLT, reduceLE, reduceToNat, reduceNeg, Nat.reduceLT, reduceLeDiff, reduceMul, reduceSub, reduceIte, reduceEqDiff, reduceAdd, reduceCtorEq]
                    exact fun hM9 => ⟨(va, x + 1, L'), by dsimp only; omega, ⟨by dsimp only; omega, hsu.symm, hne', hl2'⟩, rfl⟩
                  | false =>
                    rw [hh, if_neg (by simp)] at hsu
                    have hj1 := fkQ_not hq4 0 (hI'.lt (by omega)) hh
                    simp only [Bzr, Bzq, Bz59, hj1, Option.isSome_none, Option.getD_none, go_sem, yz0, Int.reduceLT, reduceLE, reduceToNat, reduceNeg, Nat.reduceLT, reduceLeDiff, reduceMul, reduceSub, reduceIte, reduceEqDiff, reduceAdd, reduceCtorEq]
                    obtain ⟨L2, hL2⟩ : ∃ L2, L2 = L' ++ [(q, fw.2 ++ [(x : Int)])] := ⟨_, rfl⟩
                    rw [← hL2] at hsu
                    have hk2 : keysQ L' ++ [Value.string (dkS q)] = keysQ L2 := by rw [hL2]; simp
                    have ht2 : (List.map (fun _ => bv true) L') ++ [bv true] = List.map (fun _ => bv true) L2 := by rw [hL2]; simp
                    have hd2 : ∀ a b : Nat, dnL (dcl L' ++ [.ro (some (some (a + 1))) 1 (nfs q), .ro (some (some (b + 1))) 1 (ints (fw.2 ++ [(x : Int)]))]) = dcl L2 := by intro a b; rw [hL2]; exact dnL_snocD (by simp)
                    have hl3 : L2.length = L'.length + 1 := by rw [hL2]; simp
                    have e3 : 2 * L2.length / 2 = L2.length := by omega
                    have hne2 : ∀ p ∈ L2, p.1 ≠ [] := fun p hp => by
                      rw [hL2] at hp
                      rcases List.mem_append.1 hp with hp | hp
                      · exact hne' p hp
                      · rw [List.mem_singleton.1 hp]; exact hqne
                    refine fun vs10 => ⟨by simp, by omega, ?_⟩
                    by_cases h30 : (2000 : Int) < L2.length
                    · obtain ⟨t9, ht9⟩ := hpreT (x + 1) hxl1
                      rw [hsu] at ht9
                      obtain ⟨hq, hqc⟩ := qT_lim ht9 (by omega) hne2
                      simp only [Bz7, Bz6, hd2, hk2, ht2, e3, decide_eq_true h30, Az4, ← hQ, go_sem, yz0, Int.reduceLT, reduceLE, reduceToNat, reduceNeg, Nat.reduceLT, reduceLeDiff, reduceMul, reduceSub, reduceIte, reduceEqDiff, reduceAdd, reduceCtorEq]
                      intro hM9
                      refine ⟨[], by simp, by simp, by simp, ?_⟩
                      simp only [List.map_nil, List.length_nil, Nat.not_lt_zero, range1, yzw, yzx, ren_ro, rnNm_n, yzz, rnNm_o, rnNm_s, ren_st, yzy, yzs, yze, yz3, yzq, yzo, yzl, yzn, yzp, yz6, yz9, yzb, yza, yzj, yzi, yz4, yzd, yzc, yz7, yzf, yzh, List.range_zero, yz2, yz5, yz8, yzr, yzk, yzm, AVal.fresh, freshL, yz1, yzg, AObj.fresh, id, Option.isSome_some, or_true, true_or, go_sem, yz0, Int.reduceLT, reduceLE, reduceToNat, reduceNeg, Nat.reduceLT, reduceLeDiff, reduceMul, reduceSub, reduceIte, reduceEqDiff, reduceAdd, reduceCtorEq]
                      simp only [hq, hqc, decide_eq_false hn1', if_neg hn1', Bool.not_false, Option.isSome_none, Bool.and_false, Bool.false_eq_true, if_false]
                    · simp only [Bz7, Bz6, Bza, hd2, hk2, ht2, e3, decide_eq_false h30, w1, go_sem, yz0, Int.reduceLT, reduceLE, reduceToNat, reduceNeg, Nat.reduceLT, reduceLeDiff, reduceMul, reduceSub, reduceIte, reduceEqDiff, reduceAdd, reduceCtorEq]
                      exact fun hM9 => ⟨(vs10 3 0, x + 1, L2), by dsimp only; omega, ⟨by dsimp only; omega, hsu.symm, hne2, by dsimp only; omega⟩, rfl⟩)
      · obtain rfl : x = next.length := by omega
        simp only [Bz2b, Bz5d, Bzb7, wi, decide_eq_false hxl, go_sem, yz0, Int.reduceLT, reduceLE, reduceToNat, reduceNeg, Nat.reduceLT, reduceLeDiff, reduceMul, reduceSub, reduceIte, reduceEqDiff, reduceAdd, reduceCtorEq]
        have hR' : runG (dbtD next out o tl) next.length ([], []) (F - (i + 1)) (i + 1) L' = T := by rw [hF'2, hL']; exact hR
        exact ⟨(va, i + 1, L'), by dsimp only; omega, ⟨hI', by dsimp only; omega, hR', hne', hl2'⟩, rfl⟩
    · obtain rfl : i = L.length := by omega
      have hLT : L = T := by
        obtain ⟨F', hF'⟩ : ∃ F', F - L.length = F' + 1 := ⟨F - L.length - 1, by omega⟩
        rw [hF'] at hR
        simpa only [runG, Nat.lt_irrefl, if_false] using hR
      have hn1' : ¬ n = 1 := by omega
      obtain ⟨hq, hqc⟩ := qT_end (T := L) hl2 hne
      rw [hLT] at hq hqc
      simp only [Bz2c, Bz53, Bzba, e2, decide_eq_false hlt, Az4, ← hQ, go_sem, yz0, Int.reduceLT, reduceLE, reduceToNat, reduceNeg, Nat.reduceLT, reduceLeDiff, reduceMul, reduceSub, reduceIte, reduceEqDiff, reduceAdd, reduceCtorEq]
      intro hM1
      refine ⟨[], by simp, by simp, by simp, ?_⟩
      simp only [List.map_nil, List.length_nil, Nat.not_lt_zero, range1, yzw, yzx, ren_ro, rnNm_n, yzz, rnNm_o, rnNm_s, ren_st, yzy, yzs, yze, yz3, yzq, yzo, yzl, yzn, yzp, yz6, yz9, yzb, yza, yzj, yzi, yz4, yzd, yzc, yz7, yzf, yzh, List.range_zero, yz2, yz5, yz8, yzr, yzk, yzm, AVal.fresh, freshL, yz1, yzg, AObj.fresh, id, Option.isSome_some, or_true, true_or, go_sem, yz0, Int.reduceLT, reduceLE, reduceToNat, reduceNeg, Nat.reduceLT, reduceLeDiff, reduceMul, reduceSub, reduceIte, reduceEqDiff, reduceAdd, reduceCtorEq]
      simp only [hq, hqc, decide_eq_false hn1', if_neg hn1', Bool.not_false, Option.isSome_none, Bool.and_false, Bool.false_eq_true, if_false]
      try trivial
  · have hn1' : n = 1 := by omega
    simp only [Bz51, Bz5e, Bz52, decide_eq_false hn1, Az4, ← hQ, go_sem, yz0, Int.reduceLT, reduceLE, reduceToNat, reduceNeg, Nat.reduceLT, reduceLeDiff, reduceMul, reduceSub, reduceIte, reduceEqDiff, reduceAdd, reduceCtorEq]
    refine ⟨[], by simp, by simp, by simp, ?_⟩
    simp only [List.map_nil, List.length_nil, Nat.not_lt_zero, range1, yzw, yzx, ren_ro, rnNm_n, yzz, rnNm_o, rnNm_s, ren_st, yzy, yzs, yze, yz3, yzq, yzo, yzl, yzn, yzp, yz6, yz9, yzb, yza, yzj, yzi, yz4, yzd, yzc, yz7, yzf, yzh, List.range_zero, yz2, yz5, yz8, yzr, yzk, yzm, AVal.fresh, freshL, yz1, yzg, AObj.fresh, id, Option.isSome_some, or_true, true_or, go_sem, yz0, Int.reduceLT, reduceLE, reduceToNat, reduceNeg, Nat.reduceLT, reduceLeDiff, reduceMul, reduceSub, reduceIte, reduceEqDiff, reduceAdd, reduceCtorEq]
    simp only [decide_eq_true hn1', if_pos hn1', Bool.not_true, Bool.false_and, Bool.false_eq_true, if_false]
    try trivial
end Go.Ab
namespace Go.Ab
open Go.Proofs
abbrev dsI (L : QS) : List (List Int) := L.map fun p => p.1.map fun (f : Nat) => (f : Int)
theorem dsI_getD {L : QS} {i : Nat} (h : i < L.length) : (dsI L).getD i [] = (L.getD i ([], [])).1.map fun (f : Nat) => (f : Int) := by
  rw [List.getD_eq_getElem?_getD, List.getElem?_map, List.getElem?_eq_getElem h, List.getD_eq_getElem?_getD, List.getElem?_eq_getElem h]; rfl
theorem wsQ_getD {L : QS} {i : Nat} (h : i < L.length) : (L.map (·.2)).getD i [] = (L.getD i ([], [])).2 := by
  rw [List.getD_eq_getElem?_getD, List.getElem?_map, List.getElem?_eq_getElem h, List.getD_eq_getElem?_getD, List.getElem?_eq_getElem h]; rfl
theorem cast_inj {a b : List Nat} (h : (a.map fun (f : Nat) => (f : Int)) = b.map fun (f : Nat) => (f : Int)) : a = b := by
  have e : ∀ l : List Nat, (l.map fun (f : Nat) => (f : Int)).map Int.toNat = l := fun l => by
    rw [List.map_map]; conv => rhs; rw [← List.map_id l]
    exact List.map_congr_left fun x _ => by simp
  rw [← e a, ← e b, h]
theorem find_has {L : QS} {q : List Nat} : decide (0 ≤ fidx (fun y => decide (y = q.map fun (f : Nat) => (f : Int))) (dsI L) 0) = hasG L q := by
  rw [fidx_ge]
  unfold hasG dsI
  rw [List.any_map]
  congr 1
  funext p
  show decide (p.1.map (fun (f : Nat) => (f : Int)) = q.map fun (f : Nat) => (f : Int)) = decide (p.1 = q)
  by_cases e : p.1 = q
  · rw [decide_eq_true e, decide_eq_true (by rw [e])]
  · rw [decide_eq_false e, decide_eq_false fun h => e (cast_inj h)]
theorem k_l06First (n o : Int) (next out : List (List Int)) (M : Mach n o next out) (tl : Bool) (F : Nat) (hF : Enough n.toNat F) :
    RowC2 Try.prog nz16 [machP n o next out, bv tl] (if n = 1 then [] else (qT (dbtT next out o tl n F)).getD []) (if n = 1 then 0 else qC (dbtT next out o tl n F)) := by
  refine con_of mixed czik rfl (by simp) ?_
  have n1 := M.aut.n1
  have n2 := M.aut.n2
  have l1 := M.aut.l1
  have l2 := M.aut.l2
  have hN : 2 ^ n.toNat ≤ 1024 := Nat.pow_le_pow_right (n := 2) (by omega) (show n.toNat ≤ 10 by omega)
  have hp := Nat.two_pow_pos n.toNat
  generalize hQ : finQ _ = Q
  simp only [Azb, Bzc4, go_sem, yz0, Int.reduceLT, reduceLE, reduceToNat, reduceNeg, Nat.reduceLT, reduceLeDiff, reduceMul, reduceSub, reduceIte, reduceEqDiff, reduceAdd, reduceCtorEq]
  by_cases hn1 : n = 1
  · have hb1 : (n == 1) = true := by rw [hn1]; rfl
    simp only [Bz5j, hb1, Azb, ← hQ, go_sem, yz0, Int.reduceLT, reduceLE, reduceToNat, reduceNeg, Nat.reduceLT, reduceLeDiff, reduceMul, reduceSub, reduceIte, reduceEqDiff, reduceAdd, reduceCtorEq]
    intro vs
    refine ⟨[18], by simp, by simp, by simp, ?_⟩
    simp only [range1, List.length_singleton, Nat.not_lt_zero, range1, yzw, yzx, ren_ro, rnNm_n, yzz, rnNm_o, rnNm_s, ren_st, yzy, yzs, yze, yz3, yzq, yzo, yzl, yzn, yzp, yz6, yz9, yzb, yza, yzj, yzi, yz4, yzd, yzc, yz7, yzf, yzh, List.range_zero, yz2, yz5, yz8, yzr, yzk, yzm, AVal.fresh, freshL, yz1, yzg, AObj.fresh, id, Option.isSome_some, or_true, true_or, go_sem, yz0, Int.reduceLT, reduceLE, reduceToNat, reduceNeg, Nat.reduceLT, reduceLeDiff, reduceMul, reduceSub, reduceIte, reduceEqDiff, reduceAdd, reduceCtorEq]
    rw [if_pos hn1, if_pos hn1]
    exact ⟨_, rfl, rfl⟩
  have hb1 : (n == 1) = false := by simpa using hn1
  have hcn : IntKind.u64.wrap n = n := by have := u64w (n := n.toNat) (by omega); rwa [show ((n.toNat : Nat) : Int) = n by omega] at this
  have hng : ¬ n < 0 := by omega
  have s1 := i_shl1 (b := n.toNat) (by omega)
  have s2 : IntKind.i64.wrap (((2 ^ n.toNat : Nat) : Int) - 1) = ((2 ^ n.toNat - 1 : Nat) : Int) := by rw [show ((2 ^ n.toNat : Nat) : Int) - 1 = ((2 ^ n.toNat - 1 : Nat) : Int) by omega]; exact w64 (by omega)
  simp only [Bz5j, Bzc3, hb1, hcn, hng, s1, s2, go_sem, yz0, Int.reduceLT, reduceLE, reduceToNat, reduceNeg, Nat.reduceLT, reduceLeDiff, reduceMul, reduceSub, reduceIte, reduceEqDiff, reduceAdd, reduceCtorEq]
  intro vs
  refine ⟨⟨_, rfl, rfl⟩, ?_⟩
  simp only [Bzc2, Bzc1, Bzbz, go_sem, yz0, Int.reduceLT, reduceLE, reduceToNat, reduceNeg, Nat.reduceLT, reduceLeDiff, reduceMul, reduceSub, reduceIte, reduceEqDiff, reduceAdd, reduceCtorEq]
  intro vs2
  obtain ⟨T, hT⟩ : ∃ T, T = dbtT next out o tl n F := ⟨_, rfl⟩
  rw [← hT] at hQ
  have hT : runG (dbtD next out o tl) next.length ([], []) F 0 [([2 ^ n.toNat - 1], [])] = T := hT.symm
  have hdb : DB n.toNat [2 ^ n.toNat - 1] := DB_all n1 n2 (by omega)
  refine wpD_lo (fun (_, _, i, _) => F - i)
    (fun (_, _, i, L) => QI n.toNat next.length L ∧ i ≤ List.length L ∧ runG (dbtD next out o tl) next.length ([], []) (F - i) i L = T ∧ (∀ p ∈ L, p.1 ≠ []) ∧ List.length L ≤ 2000)
    (fun ((va, vb, i, L) : Nat × Nat × Nat × QS) => ⟨Go.Ab.L .any [(0, machP n o next out), (1, bv tl), (6, .own 27 va), (7, .own 29 vb), (8, iv i)],
      Go.Ab.L .gone [(27, .row va 1 true (rws (dsI L))), (29, .row vb 1 true (rws (L.map (·.2))))]⟩)
    (_, _, 0, [([2 ^ n.toNat - 1], [])]) ⟨QI0 hdb, by simp, hT, by simp, by simp⟩ (by simp only [Bz2j, go_sem, yz0, Int.reduceLT, reduceLE, reduceToNat, reduceNeg, Nat.reduceLT, reduceLeDiff, reduceMul, reduceSub, reduceIte, reduceEqDiff, reduceAdd, reduceCtorEq]; try rfl) ?_
  rintro ⟨va, vb, i, L⟩ ⟨hI, hi, hR, hne, hl2⟩
  have hi : i ≤ L.length := hi
  have hl2 : L.length ≤ 2000 := hl2
  have hLF : L.length < F := hF L hI.nd hI.rg
  have hR : runG (dbtD next out o tl) next.length ([], []) (F - i) i L = T := hR
  by_cases hlt : (i : Int) < L.length
  · have hlt1 : i < L.length := by omega
    have wi : IntKind.i64.wrap ((i : Int) + 1) = ((i + 1 : Nat) : Int) := by rw [w64 (by omega)]; simp
    have hm := yzu hlt1 ([], ([] : List Int))
    have hdp := hI.rg _ hm
    have hwp := hI.wd _ hm
    obtain ⟨F', hF'⟩ : ∃ F', F - i = F' + 1 := ⟨F - i - 1, by omega⟩
    have hF'2 : F - (i + 1) = F' := by omega
    rw [hF'] at hR
    simp only [runG, if_pos hlt1] at hR
    simp only [Bz2j, Bz5k, Bzby, Bzbw, rws_len, List.length_map, decide_eq_true hlt, go_sem, yz0, Int.reduceLT, reduceLE, reduceToNat, reduceNeg, Nat.reduceLT, reduceLeDiff, reduceMul, reduceSub, reduceIte, reduceEqDiff, reduceAdd, reduceCtorEq]
    intro hM1
    refine wpD_lo (fun (_, _, x, _) => next.length - x)
      (fun (_, _, x, L') => x ≤ next.length ∧ L' = visQ next out o tl (L.getD i ([], [])).1 (L.getD i ([], [])).2 x L ∧ (∀ p ∈ L', p.1 ≠ []) ∧ List.length L' ≤ 2000)
      (fun ((va, vb, x, L') : Nat × Nat × Nat × QS) => ⟨Go.Ab.L .any [(0, machP n o next out), (1, bv tl), (6, .own 27 va), (7, .own 29 vb), (8, iv i), (9, iv x)],
        Go.Ab.L .gone [(27, .row va 1 true (rws (dsI L'))), (29, .row vb 1 true (rws (L'.map (·.2))))]⟩)
      (_, _, 0, L) ⟨by simp, by simp [visQ, visG], hne, hl2⟩ (by simp only [Bz2i, go_sem, yz0, Int.reduceLT, reduceLE, reduceToNat, reduceNeg, Nat.reduceLT, reduceLeDiff, reduceMul, reduceSub, reduceIte, reduceEqDiff, reduceAdd, reduceCtorEq]; try rfl) ?_
    rintro ⟨va, vb, x, L'⟩ ⟨hx, hL', hne', hl2'⟩
    have hx : x ≤ next.length := hx
    have hl2' : L'.length ≤ 2000 := hl2'
    have hL' : L' = visQ next out o tl (L.getD i ([], [])).1 (L.getD i ([], [])).2 x L := hL'
    obtain ⟨hI', t, hpre⟩ := visQ_ok (tl := tl) M hI hlt1 x hx
    rw [← hL'] at hI' hpre
    have hi2 : i < L'.length := by rw [hpre, List.length_append]; omega
    have hat : L'.getD i ([], []) = L.getD i ([], []) := by rw [hpre]; exact appG_getD hlt1
    by_cases hxl : (x : Int) < next.length
    · have hxl1 : x < next.length := by omega
      have w1 : IntKind.i64.wrap ((x : Int) + 1) = ((x + 1 : Nat) : Int) := by rw [w64 (by omega)]; simp
      have hsuN := @visQ_none next out o tl (L.getD i ([], [])).1 (L.getD i ([], [])).2 x L
      have hsuS := fun q => @visQ_some next out o tl (L.getD i ([], [])).1 q (L.getD i ([], [])).2 x L
      rw [← hL'] at hsuN hsuS
      have hgd := dsI_getD hi2
      have hgw := wsQ_getD hi2
      have hil1 : i < (dsI L').length := by rw [List.length_map]; exact hi2
      have hil2 : i < (L'.map (·.2)).length := by rw [List.length_map]; exact hi2
      rw [hat] at hgd hgw
      generalize hfw : L.getD i ([], []) = fw at hm hdp hwp hR hsuN hsuS hgd hgw hL' ⊢
      have hdK := k_l06Doubt n o next out M tl fw.1 x hdp hxl1
      have hpreT : ∀ y, y ≤ next.length → ∃ t, T = visQ next out o tl fw.1 fw.2 y L ++ t := fun y hy => by
        obtain ⟨t1, h1⟩ := visG_ext (δ := dbtD next out o tl) (p := fw.1) (w := fw.2) (L := L) (x := y) (next.length - y)
        obtain ⟨t2, h2⟩ := runG_pre (δ := dbtD next out o tl) (m := next.length) (d := ([], [])) F' (i + 1) (visG (dbtD next out o tl) fw.1 fw.2 next.length L)
        rw [show y + (next.length - y) = next.length by omega] at h1
        exact ⟨t1 ++ t2, by rw [← hR, h2, h1, List.append_assoc]⟩
      simp only [Bz2i, Bz5l, Bzbv, decide_eq_true hxl, rws_getD hil1, hgd, go_sem, yz0, Int.reduceLT, reduceLE, reduceToNat, reduceNeg, Nat.reduceLT, reduceLeDiff, reduceMul, reduceSub, reduceIte, reduceEqDiff, reduceAdd, reduceCtorEq]
      refine fun hM2 vs3 => ⟨⟨by omega, hi2⟩, hi2, ?_⟩
      refine call_fn hdK qCS (fun e => by cases e) ?_
      rintro rows res ⟨v53, xs, rfl, hres⟩
      refine ⟨by simp, (fun k hk => by obtain rfl : k = 0 := (by simpa using hk); rfl), ?_⟩
      cases hd : dbtD next out o tl fw.1 x with
      | none =>
        rw [hd] at hres
        obtain rfl := hres
        have hsu := hsuN hd
        simp only [Bz5o, Bz2f, Bz2h, w1, Nat.not_lt_zero, range1, yzw, yzx, ren_ro, rnNm_n, yzz, rnNm_o, rnNm_s, ren_st, yzy, yzs, yze, yz3, yzq, yzo, yzl, yzn, yzp, yz6, yz9, yzb, yza, yzj, yzi, yz4, yzd, yzc, yz7, yzf, yzh, List.range_zero, yz2, yz5, yz8, yzr, yzk, yzm, AVal.fresh, freshL, yz1, yzg, AObj.fresh, id, Option.isSome_some, or_true, true_or, go_sem, yz0, Int.reduceLT, reduceLE, reduceToNat, reduceNeg, Nat.reduceLT, reduceLeDiff, reduceMul, reduceSub, reduceIte, reduceEqDiff, reduceAdd, reduceCtorEq]
        exact ⟨(va, vb, x + 1, L'), by dsimp only; omega, ⟨by dsimp only; omega, hsu.symm, hne', hl2'⟩, rfl⟩
      | some q =>
        rw [hd] at hres
        obtain ⟨rfl, rfl⟩ := hres
        have hsu := hsuS q hd
        have hdq := dbt_DB M hdp hxl1 hd
        have hq5 := hdq.len (by omega)
        simp only [Bz5o, Nat.not_lt_zero, range1, yzw, yzx, ren_ro, rnNm_n, yzz, rnNm_o, rnNm_s, ren_st, yzy, yzs, yze, yz3, yzq, yzo, yzl, yzn, yzp, yz6, yz9, yzb, yza, yzj, yzi, yz4, yzd, yzc, yz7, yzf, yzh, List.range_zero, yz2, yz5, yz8, yzr, yzk, yzm, AVal.fresh, freshL, yz1, yzg, AObj.fresh, id, Option.isSome_some, or_true, true_or, go_sem, yz0, Int.reduceLT, reduceLE, reduceToNat, reduceNeg, Nat.reduceLT, reduceLeDiff, reduceMul, reduceSub, reduceIte, reduceEqDiff, reduceAdd, reduceCtorEq]
        intro vs4
        refine yzt (k_l01Find (dsI L') (q.map fun (f : Nat) => (f : Int))) qCS trivial ?_
        have hfh : decide (fidx (fun y => decide (y = q.map fun (f : Nat) => (f : Int))) (dsI L') 0 ≥ 0) = hasG L' q := find_has
        cases hh : hasG L' q with
        | true =>
          rw [hh, if_pos rfl] at hsu
          simp only [hfh, hh, Bz2f, Bz2h, w1, go_sem, yz0, Int.reduceLT, reduceLE, reduceToNat, reduceNeg, Nat.reduceLT, reduceLeDiff, reduceMul, reduceSub, reduceIte, reduceEqDiff, reduceAdd, reduceCtorEq]
          exact ⟨(va, vb, x + 1, L'), by dsimp only; omega, ⟨by dsimp only; omega, hsu.symm, hne', hl2'⟩, rfl⟩
        | false =>
          rw [hh, if_neg (by simp)] at hsu
          simp only [hfh, hh, Bz2f, Bzbu, rws_getD hil2, hgw, go_sem, yz0, Int.reduceLT, reduceLE, reduceToNat, reduceNeg, Nat.reduceLT, reduceLeDiff, reduceMul, reduceSub, reduceIte, reduceEqDiff, reduceAdd, reduceCtorEq]
          refine fun vs5 => ⟨⟨by omega, hi2⟩, hi2, ?_⟩
          refine call_rowI (k_l00Own fw.2 (by omega)) qCS rfl ⟨_, rfl⟩ ?_
          rintro ys v68 rfl
          simp only [Bzbt, go_sem, yz0, Int.reduceLT, reduceLE, reduceToNat, reduceNeg, Nat.reduceLT, reduceLeDiff, reduceMul, reduceSub, reduceIte, reduceEqDiff, reduceAdd, reduceCtorEq]
          refine ⟨⟨_, rfl, rfl⟩, by omega, ?_⟩
          intro hM3
          by_cases hq0 : q = []
          · subst hq0
            obtain ⟨t9, ht9⟩ := hpreT (x + 1) hxl1
            rw [hsu, List.append_assoc] at ht9
            have hq := qT_some ht9 hl2' hne'
            have hqc : qC T = 0 := by unfold qC; rw [hq]; rfl
            have h00 : (((0 : Nat) : Int) == 0) = true := rfl
            simp only [Bz2g, h00, Azb, ← hQ, go_sem, yz0, Int.reduceLT, reduceLE, reduceToNat, reduceNeg, Nat.reduceLT, reduceLeDiff, reduceMul, reduceSub, reduceIte, reduceEqDiff, reduceAdd, reduceCtorEq]
            refine ⟨[68], by simp, by simp, by simp, ?_⟩
            simp only [range1, List.length_singleton, Nat.not_lt_zero, range1, yzw, yzx, ren_ro, rnNm_n, yzz, rnNm_o, rnNm_s, ren_st, yzy, yzs, yze, yz3, yzq, yzo, yzl, yzn, yzp, yz6, yz9, yzb, yza, yzj, yzi, yz4, yzd, yzc, yz7, yzf, yzh, List.range_zero, yz2, yz5, yz8, yzr, yzk, yzm, AVal.fresh, freshL, yz1, yzg, AObj.fresh, id, Option.isSome_some, or_true, true_or, go_sem, yz0, Int.reduceLT, reduceLE, reduceToNat, reduceNeg, Nat.reduceLT, reduceLeDiff, reduceMul, reduceSub, reduceIte, reduceEqDiff, reduceAdd, reduceCtorEq]
            simp only [hq, hqc, if_neg hn1, Option.getD_some]
            exact ⟨_, rfl, rfl⟩
          · have hql : q.length ≠ 0 := fun e => hq0 (List.eq_nil_of_length_eq_zero e)
            have hqb : ((q.length : Int) == 0) = false := by simpa using hq0
            obtain ⟨L2, hL2⟩ : ∃ L2, L2 = L' ++ [(q, fw.2 ++ [(x : Int)])] := ⟨_, rfl⟩
            rw [← hL2] at hsu
            have hl3 : L2.length = L'.length + 1 := by rw [hL2]; simp
            have hne2 : ∀ p ∈ L2, p.1 ≠ [] := fun p hp => by
              rw [hL2] at hp
              rcases List.mem_append.1 hp with hp | hp
              · exact hne' p hp
              · rw [List.mem_singleton.1 hp]; exact hq0
            by_cases h30 : (2000 : Int) ≤ L'.length
            · obtain ⟨t9, ht9⟩ := hpreT (x + 1) hxl1
              rw [hsu] at ht9
              obtain ⟨hq, hqc⟩ := qT_lim ht9 (by omega) hne2
              simp only [Bz2g, Bz5n, Bz5m, hqb, rws_len, List.length_map, decide_eq_true h30, Azb, ← hQ, go_sem, yz0, Int.reduceLT, reduceLE, reduceToNat, reduceNeg, Nat.reduceLT, reduceLeDiff, reduceMul, reduceSub, reduceIte, reduceEqDiff, reduceAdd, reduceCtorEq]
              intro hM4 vs6
              refine ⟨[79], by simp, by simp, by simp, ?_⟩
              simp only [range1, List.length_singleton, Nat.not_lt_zero, range1, yzw, yzx, ren_ro, rnNm_n, yzz, rnNm_o, rnNm_s, ren_st, yzy, yzs, yze, yz3, yzq, yzo, yzl, yzn, yzp, yz6, yz9, yzb, yza, yzj, yzi, yz4, yzd, yzc, yz7, yzf, yzh, List.range_zero, yz2, yz5, yz8, yzr, yzk, yzm, AVal.fresh, freshL, yz1, yzg, AObj.fresh, id, Option.isSome_some, or_true, true_or, go_sem, yz0, Int.reduceLT, reduceLE, reduceToNat, reduceNeg, Nat.reduceLT, reduceLeDiff, reduceMul, reduceSub, reduceIte, reduceEqDiff, reduceAdd, reduceCtorEq]
              simp only [hq, hqc, if_neg hn1, Option.getD_none]
              exact ⟨_, rfl, rfl⟩
            · simp only [Bz2g, Bz5n, Bz5m, Bzbs, Bzbr, Bz2h, hqb, rws_len, rws_snoc, List.length_map, decide_eq_false h30, w1, go_sem, yz0, Int.reduceLT, reduceLE, reduceToNat, reduceNeg, Nat.reduceLT, reduceLeDiff, reduceMul, reduceSub, reduceIte, reduceEqDiff, reduceAdd, reduceCtorEq]
              have hs1 : dsI L' ++ [q.map fun (f : Nat) => (f : Int)] = dsI L2 := by rw [hL2]; simp
              have hs2 : (L'.map (·.2)) ++ [fw.2 ++ [(x : Int)]] = L2.map (·.2) := by rw [hL2]; simp
              exact fun hM4 vs6 => ⟨by omega, fun vs7 => ⟨by omega, (vs6 3 0, vs7 3 0, x + 1, L2), by dsimp only; omega, ⟨by dsimp only; omega, hsu.symm, hne2, by dsimp only; omega⟩, by rw [hs1, hs2]⟩⟩
    · obtain rfl : x = next.length := by omega
      have hR' : runG (dbtD next out o tl) next.length ([], []) (F - (i + 1)) (i + 1) L' = T := by rw [hF'2, hL']; exact hR
      simp only [Bz2i, Bz5l, Bzbx, wi, decide_eq_false hxl, go_sem, yz0, Int.reduceLT, reduceLE, reduceToNat, reduceNeg, Nat.reduceLT, reduceLeDiff, reduceMul, reduceSub, reduceIte, reduceEqDiff, reduceAdd, reduceCtorEq]
      try intro hM9
      exact ⟨(va, vb, i + 1, L'), by dsimp only; omega, ⟨hI', by dsimp only; omega, hR', hne', hl2'⟩, rfl⟩
  · obtain rfl : i = L.length := by omega
    have hLT : L = T := by
      obtain ⟨F', hF'⟩ : ∃ F', F - L.length = F' + 1 := ⟨F - L.length - 1, by omega⟩
      rw [hF'] at hR
      simpa only [runG, Nat.lt_irrefl, if_false] using hR
    obtain ⟨hq, hqc⟩ := qT_end (T := L) hl2 hne
    rw [hLT] at hq hqc
    simp only [Bz2j, Bz5k, Bzc0, rws_len, List.length_map, decide_eq_false hlt, Azb, ← hQ, go_sem, yz0, Int.reduceLT, reduceLE, reduceToNat, reduceNeg, Nat.reduceLT, reduceLeDiff, reduceMul, reduceSub, reduceIte, reduceEqDiff, reduceAdd, reduceCtorEq]
    intro hM1 vs3
    refine ⟨[88], by simp, by simp, by simp, ?_⟩
    simp only [range1, List.length_singleton, Nat.not_lt_zero, range1, yzw, yzx, ren_ro, rnNm_n, yzz, rnNm_o, rnNm_s, ren_st, yzy, yzs, yze, yz3, yzq, yzo, yzl, yzn, yzp, yz6, yz9, yzb, yza, yzj, yzi, yz4, yzd, yzc, yz7, yzf, yzh, List.range_zero, yz2, yz5, yz8, yzr, yzk, yzm, AVal.fresh, freshL, yz1, yzg, AObj.fresh, id, Option.isSome_some, or_true, true_or, go_sem, yz0, Int.reduceLT, reduceLE, reduceToNat, reduceNeg, Nat.reduceLT, reduceLeDiff, reduceMul, reduceSub, reduceIte, reduceEqDiff, reduceAdd, reduceCtorEq]
    simp only [hq, hqc, if_neg hn1, Option.getD_none]
    exact ⟨_, rfl, rfl⟩
def homC (next out : List (List Int)) (o : Int) (tl : Bool) (n : Int) (F : Nat) : Int := if machB n o next out = true then (if n = 1 then 0 else qC (dbtT next out o tl n F)) else 1
theorem k_HomingWord (n o : Int) (next out : List (List Int)) (F : Nat) (hF : Enough n.toNat F) (hso : n.toNat / 2 * o.toNat ≤ 12) :
    RowT Try.prog nz3e [machA n o next out] (machB n o next out && (!decide (n = 1) && (qT (dbtT next out o false n F)).isSome)) ((qT (dbtT next out o false n F)).getD []) (homC next out o false n F) := by
  refine con_of mixed czi3 rfl (by simp) ?_
  generalize hQ : finQ _ = Q
  simp only [Azo, Bz8k, go_sem, yz0, Int.reduceLT, reduceLE, reduceToNat, reduceNeg, Nat.reduceLT, reduceLeDiff, reduceMul, reduceSub, reduceIte, reduceEqDiff, reduceAdd, reduceCtorEq]
  intro vs vs2
  refine yzt (k_ValidMachine n o next out) qCS trivial ?_
  cases hv : machB n o next out with
  | false =>
    simp only [Bz4h, Azo, ← hQ, go_sem, yz0, Int.reduceLT, reduceLE, reduceToNat, reduceNeg, Nat.reduceLT, reduceLeDiff, reduceMul, reduceSub, reduceIte, reduceEqDiff, reduceAdd, reduceCtorEq]
    refine ⟨[], by simp, by simp, by simp, ?_⟩
    simp only [List.map_nil, List.length_nil, Nat.not_lt_zero, range1, yzw, yzx, ren_ro, rnNm_n, yzz, rnNm_o, rnNm_s, ren_st, yzy, yzs, yze, yz3, yzq, yzo, yzl, yzn, yzp, yz6, yz9, yzb, yza, yzj, yzi, yz4, yzd, yzc, yz7, yzf, yzh, List.range_zero, yz2, yz5, yz8, yzr, yzk, yzm, AVal.fresh, freshL, yz1, yzg, AObj.fresh, id, Option.isSome_some, or_true, true_or, go_sem, yz0, Int.reduceLT, reduceLE, reduceToNat, reduceNeg, Nat.reduceLT, reduceLeDiff, reduceMul, reduceSub, reduceIte, reduceEqDiff, reduceAdd, reduceCtorEq]
    unfold homC
    rw [hv]
    first
      | rfl
      | exact ⟨trivial, rfl⟩
      | simp
  | true =>
    have M := machB_iff.1 hv
    have hK := k_settle n o next out M false F hF hso
    simp only [Bz4h, Bz8j, go_sem, yz0, Int.reduceLT, reduceLE, reduceToNat, reduceNeg, Nat.reduceLT, reduceLeDiff, reduceMul, reduceSub, reduceIte, reduceEqDiff, reduceAdd, reduceCtorEq]
    intro vs3
    refine call_rowT hK qCS qGN (fun h v => ?_) (fun h => ?_)
    · simp only [Azo, ← hQ, go_sem, yz0, Int.reduceLT, reduceLE, reduceToNat, reduceNeg, Nat.reduceLT, reduceLeDiff, reduceMul, reduceSub, reduceIte, reduceEqDiff, reduceAdd, reduceCtorEq]
      refine ⟨[8], by simp, by simp, by simp, ?_⟩
      simp only [range1, List.length_singleton, Nat.not_lt_zero, range1, yzw, yzx, ren_ro, rnNm_n, yzz, rnNm_o, rnNm_s, ren_st, yzy, yzs, yze, yz3, yzq, yzo, yzl, yzn, yzp, yz6, yz9, yzb, yza, yzj, yzi, yz4, yzd, yzc, yz7, yzf, yzh, List.range_zero, yz2, yz5, yz8, yzr, yzk, yzm, AVal.fresh, freshL, yz1, yzg, AObj.fresh, id, Option.isSome_some, or_true, true_or, go_sem, yz0, Int.reduceLT, reduceLE, reduceToNat, reduceNeg, Nat.reduceLT, reduceLeDiff, reduceMul, reduceSub, reduceIte, reduceEqDiff, reduceAdd, reduceCtorEq]
      rw [hv, h]
      unfold homC
      rw [hv]
      exact ⟨_, rfl, rfl⟩
    · simp only [Azo, ← hQ, go_sem, yz0, Int.reduceLT, reduceLE, reduceToNat, reduceNeg, Nat.reduceLT, reduceLeDiff, reduceMul, reduceSub, reduceIte, reduceEqDiff, reduceAdd, reduceCtorEq]
      refine ⟨[], by simp, by simp, by simp, ?_⟩
      simp only [List.map_nil, List.length_nil, Nat.not_lt_zero, range1, yzw, yzx, ren_ro, rnNm_n, yzz, rnNm_o, rnNm_s, ren_st, yzy, yzs, yze, yz3, yzq, yzo, yzl, yzn, yzp, yz6, yz9, yzb, yza, yzj, yzi, yz4, yzd, yzc, yz7, yzf, yzh, List.range_zero, yz2, yz5, yz8, yzr, yzk, yzm, AVal.fresh, freshL, yz1, yzg, AObj.fresh, id, Option.isSome_some, or_true, true_or, go_sem, yz0, Int.reduceLT, reduceLE, reduceToNat, reduceNeg, Nat.reduceLT, reduceLeDiff, reduceMul, reduceSub, reduceIte, reduceEqDiff, reduceAdd, reduceCtorEq]
      rw [hv, h]
      unfold homC
      rw [hv]
      first
        | rfl
        | exact ⟨trivial, rfl⟩
        | simp
theorem k_specHomingWord (n o : Int) (next out : List (List Int)) (F : Nat) (hF : Enough n.toNat F) :
    RowC2 Try.prog nz3f [machA n o next out] (if machB n o next out = true then (if n = 1 then [] else (qT (dbtT next out o false n F)).getD []) else []) (homC next out o false n F) := by
  refine con_of mixed czi4 rfl (by simp) ?_
  generalize hQ : finQ _ = Q
  simp only [Az1y, Bz8m, go_sem, yz0, Int.reduceLT, reduceLE, reduceToNat, reduceNeg, Nat.reduceLT, reduceLeDiff, reduceMul, reduceSub, reduceIte, reduceEqDiff, reduceAdd, reduceCtorEq]
  intro vs vs2
  refine yzt (k_l06Ok n o next out) qCS trivial ?_
  cases hv : machB n o next out with
  | false =>
    simp only [Bz4i, Az1y, ← hQ, go_sem, yz0, Int.reduceLT, reduceLE, reduceToNat, reduceNeg, Nat.reduceLT, reduceLeDiff, reduceMul, reduceSub, reduceIte, reduceEqDiff, reduceAdd, reduceCtorEq]
    intro vs3
    refine ⟨[6], by simp, by simp, by simp, ?_⟩
    simp only [range1, List.length_singleton, Nat.not_lt_zero, range1, yzw, yzx, ren_ro, rnNm_n, yzz, rnNm_o, rnNm_s, ren_st, yzy, yzs, yze, yz3, yzq, yzo, yzl, yzn, yzp, yz6, yz9, yzb, yza, yzj, yzi, yz4, yzd, yzc, yz7, yzf, yzh, List.range_zero, yz2, yz5, yz8, yzr, yzk, yzm, AVal.fresh, freshL, yz1, yzg, AObj.fresh, id, Option.isSome_some, or_true, true_or, go_sem, yz0, Int.reduceLT, reduceLE, reduceToNat, reduceNeg, Nat.reduceLT, reduceLeDiff, reduceMul, reduceSub, reduceIte, reduceEqDiff, reduceAdd, reduceCtorEq]
    unfold homC
    rw [hv]
    exact ⟨_, rfl, rfl⟩
  | true =>
    have M := machB_iff.1 hv
    have hK := k_l06First n o next out M false F hF
    simp only [Bz4i, Bz8l, go_sem, yz0, Int.reduceLT, reduceLE, reduceToNat, reduceNeg, Nat.reduceLT, reduceLeDiff, reduceMul, reduceSub, reduceIte, reduceEqDiff, reduceAdd, reduceCtorEq]
    intro vs3
    refine call_rowC2 hK qCS qGN ?_
    intro v
    simp only [Az1y, ← hQ, go_sem, yz0, Int.reduceLT, reduceLE, reduceToNat, reduceNeg, Nat.reduceLT, reduceLeDiff, reduceMul, reduceSub, reduceIte, reduceEqDiff, reduceAdd, reduceCtorEq]
    refine ⟨[7], by simp, by simp, by simp, ?_⟩
    simp only [range1, List.length_singleton, Nat.not_lt_zero, range1, yzw, yzx, ren_ro, rnNm_n, yzz, rnNm_o, rnNm_s, ren_st, yzy, yzs, yze, yz3, yzq, yzo, yzl, yzn, yzp, yz6, yz9, yzb, yza, yzj, yzi, yz4, yzd, yzc, yz7, yzf, yzh, List.range_zero, yz2, yz5, yz8, yzr, yzk, yzm, AVal.fresh, freshL, yz1, yzg, AObj.fresh, id, Option.isSome_some, or_true, true_or, go_sem, yz0, Int.reduceLT, reduceLE, reduceToNat, reduceNeg, Nat.reduceLT, reduceLeDiff, reduceMul, reduceSub, reduceIte, reduceEqDiff, reduceAdd, reduceCtorEq]
    unfold homC
    rw [hv]
    exact ⟨_, rfl, rfl⟩
theorem k_TellingWord (n o : Int) (next out : List (List Int)) (F : Nat) (hF : Enough n.toNat F) (hso : n.toNat / 2 * o.toNat ≤ 12) :
    RowT Try.prog nz3g [machA n o next out] (machB n o next out && (!decide (n = 1) && (qT (dbtT next out o true n F)).isSome)) ((qT (dbtT next out o true n F)).getD []) (homC next out o true n F) := by
  refine con_of mixed czi5 rfl (by simp) ?_
  generalize hQ : finQ _ = Q
  simp only [Azp, Bz8o, go_sem, yz0, Int.reduceLT, reduceLE, reduceToNat, reduceNeg, Nat.reduceLT, reduceLeDiff, reduceMul, reduceSub, reduceIte, reduceEqDiff, reduceAdd, reduceCtorEq]
  intro vs vs2
  refine yzt (k_ValidMachine n o next out) qCS trivial ?_
  cases hv : machB n o next out with
  | false =>
    simp only [Bz4j, Azp, ← hQ, go_sem, yz0, Int.reduceLT, reduceLE, reduceToNat, reduceNeg, Nat.reduceLT, reduceLeDiff, reduceMul, reduceSub, reduceIte, reduceEqDiff, reduceAdd, reduceCtorEq]
    refine ⟨[], by simp, by simp, by simp, ?_⟩
    simp only [List.map_nil, List.length_nil, Nat.not_lt_zero, range1, yzw, yzx, ren_ro, rnNm_n, yzz, rnNm_o, rnNm_s, ren_st, yzy, yzs, yze, yz3, yzq, yzo, yzl, yzn, yzp, yz6, yz9, yzb, yza, yzj, yzi, yz4, yzd, yzc, yz7, yzf, yzh, List.range_zero, yz2, yz5, yz8, yzr, yzk, yzm, AVal.fresh, freshL, yz1, yzg, AObj.fresh, id, Option.isSome_some, or_true, true_or, go_sem, yz0, Int.reduceLT, reduceLE, reduceToNat, reduceNeg, Nat.reduceLT, reduceLeDiff, reduceMul, reduceSub, reduceIte, reduceEqDiff, reduceAdd, reduceCtorEq]
    unfold homC
    rw [hv]
    first
      | rfl
      | exact ⟨trivial, rfl⟩
      | simp
  | true =>
    have M := machB_iff.1 hv
    have hK := k_settle n o next out M true F hF hso
    simp only [Bz4j, Bz8n, go_sem, yz0, Int.reduceLT, reduceLE, reduceToNat, reduceNeg, Nat.reduceLT, reduceLeDiff, reduceMul, reduceSub, reduceIte, reduceEqDiff, reduceAdd, reduceCtorEq]
    intro vs3
    refine call_rowT hK qCS qGN (fun h v => ?_) (fun h => ?_)
    · simp only [Azp, ← hQ, go_sem, yz0, Int.reduceLT, reduceLE, reduceToNat, reduceNeg, Nat.reduceLT, reduceLeDiff, reduceMul, reduceSub, reduceIte, reduceEqDiff, reduceAdd, reduceCtorEq]
      refine ⟨[8], by simp, by simp, by simp, ?_⟩
      simp only [range1, List.length_singleton, Nat.not_lt_zero, range1, yzw, yzx, ren_ro, rnNm_n, yzz, rnNm_o, rnNm_s, ren_st, yzy, yzs, yze, yz3, yzq, yzo, yzl, yzn, yzp, yz6, yz9, yzb, yza, yzj, yzi, yz4, yzd, yzc, yz7, yzf, yzh, List.range_zero, yz2, yz5, yz8, yzr, yzk, yzm, AVal.fresh, freshL, yz1, yzg, AObj.fresh, id, Option.isSome_some, or_true, true_or, go_sem, yz0, Int.reduceLT, reduceLE, reduceToNat, reduceNeg, Nat.reduceLT, reduceLeDiff, reduceMul, reduceSub, reduceIte, reduceEqDiff, reduceAdd, reduceCtorEq]
      rw [hv, h]
      unfold homC
      rw [hv]
      exact ⟨_, rfl, rfl⟩
    · simp only [Azp, ← hQ, go_sem, yz0, Int.reduceLT, reduceLE, reduceToNat, reduceNeg, Nat.reduceLT, reduceLeDiff, reduceMul, reduceSub, reduceIte, reduceEqDiff, reduceAdd, reduceCtorEq]
      refine ⟨[], by simp, by simp, by simp, ?_⟩
      simp only [List.map_nil, List.length_nil, Nat.not_lt_zero, range1, yzw, yzx, ren_ro, rnNm_n, yzz, rnNm_o, rnNm_s, ren_st, yzy, yzs, yze, yz3, yzq, yzo, yzl, yzn, yzp, yz6, yz9, yzb, yza, yzj, yzi, yz4, yzd, yzc, yz7, yzf, yzh, List.range_zero, yz2, yz5, yz8, yzr, yzk, yzm, AVal.fresh, freshL, yz1, yzg, AObj.fresh, id, Option.isSome_some, or_true, true_or, go_sem, yz0, Int.reduceLT, reduceLE, reduceToNat, reduceNeg, Nat.reduceLT, reduceLeDiff, reduceMul, reduceSub, reduceIte, reduceEqDiff, reduceAdd, reduceCtorEq]
      rw [hv, h]
      unfold homC
      rw [hv]
      first
        | rfl
        | exact ⟨trivial, rfl⟩
        | simp
theorem k_specTellingWord (n o : Int) (next out : List (List Int)) (F : Nat) (hF : Enough n.toNat F) :
    RowC2 Try.prog nz3h [machA n o next out] (if machB n o next out = true then (if n = 1 then [] else (qT (dbtT next out o true n F)).getD []) else []) (homC next out o true n F) := by
  refine con_of mixed czi6 rfl (by simp) ?_
  generalize hQ : finQ _ = Q
  simp only [Az1z, Bz8q, go_sem, yz0, Int.reduceLT, reduceLE, reduceToNat, reduceNeg, Nat.reduceLT, reduceLeDiff, reduceMul, reduceSub, reduceIte, reduceEqDiff, reduceAdd, reduceCtorEq]
  intro vs vs2
  refine yzt (k_l06Ok n o next out) qCS trivial ?_
  cases hv : machB n o next out with
  | false =>
    simp only [Bz4k, Az1z, ← hQ, go_sem, yz0, Int.reduceLT, reduceLE, reduceToNat, reduceNeg, Nat.reduceLT, reduceLeDiff, reduceMul, reduceSub, reduceIte, reduceEqDiff, reduceAdd, reduceCtorEq]
    intro vs3
    refine ⟨[6], by simp, by simp, by simp, ?_⟩
    simp only [range1, List.length_singleton, Nat.not_lt_zero, range1, yzw, yzx, ren_ro, rnNm_n, yzz, rnNm_o, rnNm_s, ren_st, yzy, yzs, yze, yz3, yzq, yzo, yzl, yzn, yzp, yz6, yz9, yzb, yza, yzj, yzi, yz4, yzd, yzc, yz7, yzf, yzh, List.range_zero, yz2, yz5, yz8, yzr, yzk, yzm, AVal.fresh, freshL, yz1, yzg, AObj.fresh, id, Option.isSome_some, or_true, true_or, go_sem, yz0, Int.reduceLT, reduceLE, reduceToNat, reduceNeg, Nat.reduceLT, reduceLeDiff, reduceMul, reduceSub, reduceIte, reduceEqDiff, reduceAdd, reduceCtorEq]
    unfold homC
    rw [hv]
    exact ⟨_, rfl, rfl⟩
  | true =>
    have M := machB_iff.1 hv
    have hK := k_l06First n o next out M true F hF
    simp only [Bz4k, Bz8p, go_sem, yz0, Int.reduceLT, reduceLE, reduceToNat, reduceNeg, Nat.reduceLT, reduceLeDiff, reduceMul, reduceSub, reduceIte, reduceEqDiff, reduceAdd, reduceCtorEq]
    intro vs3
    refine call_rowC2 hK qCS qGN ?_
    intro v
    simp only [Az1z, ← hQ, go_sem, yz0, Int.reduceLT, reduceLE, reduceToNat, reduceNeg, Nat.reduceLT, reduceLeDiff, reduceMul, reduceSub, reduceIte, reduceEqDiff, reduceAdd, reduceCtorEq]
    refine ⟨[7], by simp, by simp, by simp, ?_⟩
    simp only [range1, List.length_singleton, Nat.not_lt_zero, range1, yzw, yzx, ren_ro, rnNm_n, yzz, rnNm_o, rnNm_s, ren_st, yzy, yzs, yze, yz3, yzq, yzo, yzl, yzn, yzp, yz6, yz9, yzb, yza, yzj, yzi, yz4, yzd, yzc, yz7, yzf, yzh, List.range_zero, yz2, yz5, yz8, yzr, yzk, yzm, AVal.fresh, freshL, yz1, yzg, AObj.fresh, id, Option.isSome_some, or_true, true_or, go_sem, yz0, Int.reduceLT, reduceLE, reduceToNat, reduceNeg, Nat.reduceLT, reduceLeDiff, reduceMul, reduceSub, reduceIte, reduceEqDiff, reduceAdd, reduceCtorEq]
    unfold homC
    rw [hv]
    exact ⟨_, rfl, rfl⟩
end Go.Ab
namespace Go.Ab
end Go.Ab
namespace Go.Ab
theorem appg_new {α : Type} {xs : List α} {y d : α} : (xs ++ [y]).getD xs.length d = y := by
  simp [List.getD_eq_getElem?_getD]
end Go.Ab
namespace Go.Ab
structure CI (n : Int) (L : List Int) : Prop where
  nd : L.Nodup
  rg : ∀ s ∈ L, 0 ≤ s ∧ s < n
  hd : L.getD 0 1 = 0
theorem CI.len {n : Int} {L : List Int} (h : CI n L) (hn : n ≤ 10) : 1 ≤ L.length ∧ L.length ≤ 10 := by
  have h1 : L ≠ [] := fun e => by have := h.hd; rw [e] at this; simp at this
  have hm : (L.map Int.toNat).Nodup := by
    refine List.Pairwise.map _ ?_ (List.Pairwise.and_mem.1 h.nd)
    rintro a b ⟨ha, hb, hab⟩ e
    have := h.rg a ha
    have := h.rg b hb
    omega
  have := nodup_lt 10 _ hm fun x hx => by
    obtain ⟨s, hs, rfl⟩ := List.mem_map.1 hx
    have := h.rg s hs
    omega
  rw [List.length_map] at this
  exact ⟨List.length_pos_iff.2 h1, this⟩
structure Rel (na oa nb ob : List (List Int)) (R : Int → Int → Prop) : Prop where
  len : na.length = nb.length
  step : ∀ s t, R s t → ∀ x, 0 ≤ x ∧ x < (na.length : Int) → outA oa s x = outA ob t x ∧ R (stepA na s x) (stepA nb t x)
  fn : ∀ s t t', R s t → R s t' → t = t'
  inj : ∀ s s' t, R s t → R s' t → s = s'
def RelL (R : Int → Int → Prop) (L M : List Int) : Prop := L.length = M.length ∧ ∀ i < L.length, R (L.getD i 0) (M.getD i 0)
theorem RelL.snoc {R : Int → Int → Prop} {L M : List Int} (h : RelL R L M) {s t : Int} (hst : R s t) : RelL R (L ++ [s]) (M ++ [t]) := by
  refine ⟨by simp [h.1], fun i hi => ?_⟩
  rw [List.length_append, List.length_singleton] at hi
  by_cases e : i < L.length
  · rw [getD_app e, getD_app (by rw [← h.1]; exact e)]; exact h.2 i e
  · have e1 : i = L.length := by omega
    subst e1
    rw [appg_new]
    rw [h.1, appg_new]; exact hst
end Go.Ab
namespace Go.Ab
end Go.Ab
namespace Go.Ab
open Go.Proofs
abbrev MachR (n o : Int) (xs ys : List (List Int)) (rows : List AObj) (res : AVal) : Prop :=
  ∃ v w ps qs, rows = [.row v 1 true (rwp ps), .row w 1 true (rwp qs)] ∧ ps.map (·.2) = xs ∧ qs.map (·.2) = ys ∧ DJ (ps ++ qs) ∧ res = .st [iv n, iv o, .own 6000 v, .own 6001 w]
abbrev NamM (P : Program) (g : FuncId) (args : List AVal) (n o : Int) (xs ys : List (List Int)) : Prop := Fn P g args (MachR n o xs ys)
end Go.Ab
namespace Go.Ab
open Go.Proofs
end Go.Ab
namespace Go.Ab
open Go.Proofs
abbrev MachS (n o : Int) (xs ys : List (List Int)) (rows : List AObj) (res : AVal) : Prop :=
  ∃ v w, rows = [.row v 1 true (rws xs), .row w 1 true (rws ys)] ∧ res = .st [iv n, iv o, .own 6000 v, .own 6001 w]
theorem NamM.dn {P : Program} {g : FuncId} {args : List AVal} {n o : Int} {xs ys : List (List Int)} (h : NamM P g args n o xs ys) : Fn P g args (MachS n o xs ys) := by
  refine Con.dnr h ?_
  rintro o' r x ⟨rfl, v, w, ps, qs, rfl, rfl, rfl, _, rfl⟩
  refine ⟨rfl, v, w, ?_, ?_⟩
  · simp only [List.map_cons, List.map_nil, AObj.dn, dnL_rwp]
  · simp only [AVal.dn, dnL]
abbrev MachRC (ok : Bool) (n o : Int) (xs ys : List (List Int)) (code : Int) (rows : List AObj) (res : AVal) : Prop :=
  if ok = true then ∃ v w ps qs, rows = [.row v 1 true (rwp ps), .row w 1 true (rwp qs)] ∧ ps.map (·.2) = xs ∧ qs.map (·.2) = ys ∧ DJ (ps ++ qs) ∧ res = .tup [.st [iv n, iv o, .own 6000 v, .own 6001 w], iv code]
  else rows = [] ∧ res = .tup [.st [iv 0, iv 0, nilS, nilS], iv code]
abbrev NamMR (P : Program) (g : FuncId) (args : List AVal) (ok : Bool) (n o : Int) (xs ys : List (List Int)) (code : Int) : Prop := Fn P g args (MachRC ok n o xs ys code)
abbrev MachSC (n o : Int) (xs ys : List (List Int)) (rows : List AObj) (res : AVal) : Prop :=
  ∃ v w, rows = [.row v 1 true (rws xs), .row w 1 true (rws ys)] ∧ res = .tup [.st [iv n, iv o, .own 6000 v, .own 6001 w], iv 0]
theorem NamMR.dn {P : Program} {g : FuncId} {args : List AVal} {ok : Bool} {n o : Int} {xs ys : List (List Int)} {code : Int} (h : NamMR P g args ok n o xs ys code) (hok : ok = true) (hc : code = 0) : Fn P g args (MachSC n o xs ys) := by
  subst hok hc
  refine Con.dnr h ?_
  rintro o' r x ⟨rfl, hR⟩
  unfold MachRC at hR
  rw [if_pos rfl] at hR
  obtain ⟨v, w, ps, qs, rfl, rfl, rfl, _, rfl⟩ := hR
  refine ⟨rfl, v, w, ?_, ?_⟩
  · simp only [List.map_cons, List.map_nil, AObj.dn, dnL_rwp]
  · simp only [AVal.dn, dnL]
end Go.Ab
namespace Go.Ab
open Go.Proofs
end Go.Ab
namespace Go.Ab
open Go.Proofs
end Go.Ab
namespace Go.Ab
open Go.Proofs
theorem k_Machine_isWord (n o : Int) (next out : List (List Int)) (w : List Int) (hl : 1 ≤ next.length ∧ next.length ≤ 3) : Fun Try.prog nz19 [machA n o next out, .ro none 1 (ints w)] (bv (wordB next.length w)) := by
  refine fun_of mixed czio rfl ⟨rfl, trivial⟩ ?_
  simp only [Azcd, Bzcc, go_sem, yz0, Int.reduceLT, reduceLE, reduceToNat, reduceNeg, Nat.reduceLT, reduceLeDiff, reduceMul, reduceSub, reduceIte, reduceEqDiff, reduceAdd, reduceCtorEq]
  intro vs vs2
  refine call_sh (k_forget n o next out) qCS (fun e => by cases e) ?_
  rintro outs rows res ⟨rfl, rfl, rfl⟩
  refine ⟨rfl, by simp, by simp, ?_⟩
  simp only [Nat.not_lt_zero, range1, yzw, yzx, ren_ro, rnNm_n, yzz, rnNm_o, rnNm_s, ren_st, yzy, yzs, yze, yz3, yzq, yzo, yzl, yzn, yzp, yz6, yz9, yzb, yza, yzj, yzi, yz4, yzd, yzc, yz7, yzf, yzh, List.range_zero, yz2, yz5, yz8, yzr, yzk, yzm, AVal.fresh, freshL, yz1, yzg, AObj.fresh, id, Option.isSome_some, or_true, true_or, go_sem, yz0, Int.reduceLT, reduceLE, reduceToNat, reduceNeg, Nat.reduceLT, reduceLeDiff, reduceMul, reduceSub, reduceIte, reduceEqDiff, reduceAdd, reduceCtorEq]
  refine yzt (k_isWord n next w hl) qCS trivial ?_
  simp only [go_sem, yz0, Int.reduceLT, reduceLE, reduceToNat, reduceNeg, Nat.reduceLT, reduceLeDiff, reduceMul, reduceSub, reduceIte, reduceEqDiff, reduceAdd, reduceCtorEq]
theorem k_Machine_outputs (n o : Int) (next out : List (List Int)) (M : Mach n o next out) (s : Int) (hs : 0 ≤ s ∧ s < n) (w : List Int) (hw : IsW next.length w) (hwl : w.length ≤ 1000000) :
    Fn Try.prog nz1m [machA n o next out, iv s, .ro none 1 (ints w)] fun rows res => ∃ v, rows = [.row v 1 true (ints (outsA next out s w))] ∧ res = .tup [.own 6000 v, iv (atA next s w)] := by
  refine con_of mixed czjg rfl (by simp) ?_
  generalize hQ : finQ _ = Q
  simp only [Az6x, Bzfb, go_sem, yz0, Int.reduceLT, reduceLE, reduceToNat, reduceNeg, Nat.reduceLT, reduceLeDiff, reduceMul, reduceSub, reduceIte, reduceEqDiff, reduceAdd, reduceCtorEq]
  intro vs vs1
  simp only [Bzfa, Bzf8, go_sem, yz0, Int.reduceLT, reduceLE, reduceToNat, reduceNeg, Nat.reduceLT, reduceLeDiff, reduceMul, reduceSub, reduceIte, reduceEqDiff, reduceAdd, reduceCtorEq]
  intro hMw
  refine wpD_lo (fun (_, i, _, _) => w.length - i) (fun (_, i, u, r) => i ≤ w.length ∧ (0 ≤ u ∧ u < n) ∧ r ++ outsA next out u (w.drop i) = outsA next out s w ∧ atA next u (w.drop i) = atA next s w ∧ List.length r = i)
    (fun ((va, i, u, r) : Nat × Nat × Int × List Int) => ⟨L .any [(1, iv u), (3, .ptr 3 (vs 0 0) 0), (8, .own 11 va), (12, .ro none 1 (ints w)), (13, iv w.length), (14, iv i)], L .gone [(3, .box (vs 0 0) [iv n, iv o, .ro none 1 (rwn next), .ro none 1 (rwn out)]), (11, .row va 1 true (ints r))]⟩)
    (_, 0, s, []) ⟨by omega, hs, rfl, rfl, rfl⟩ (by simp only [Bz2x, go_sem, yz0, Int.reduceLT, reduceLE, reduceToNat, reduceNeg, Nat.reduceLT, reduceLeDiff, reduceMul, reduceSub, reduceIte, reduceEqDiff, reduceAdd, reduceCtorEq]; try rfl) ?_
  rintro ⟨va, i, u, r⟩ ⟨hi, hu, hr, hat, hrl⟩
  have hi : i ≤ w.length := hi
  have hrl : r.length = i := hrl
  by_cases hlt : (i : Int) < w.length
  · have hlt1 : i < w.length := by omega
    rw [drop_getD hlt1 0] at hr hat
    have hx := hw _ (yzu hlt1 0)
    generalize hxe : w.getD i 0 = x at hr hat hx
    have hxl : x.toNat < next.length := by omega
    have hxo : x.toNat < out.length := by rw [M.len]; exact hxl
    have r1 := M.aut.row _ (yzu hxl [])
    have r2 := M.row _ (yzu hxo [])
    have z1 : u.toNat < (next.getD x.toNat []).length := by omega
    have z2 : u.toNat < (out.getD x.toNat []).length := by omega
    have hst := r1.2 _ (yzu z1 0)
    simp only [Bz2x, Bz6w, Bzf7, yzv hlt1, hxe, rwn_getD hxo, yzv z2, decide_eq_true hlt, go_sem, yz0, Int.reduceLT, reduceLE, reduceToNat, reduceNeg, Nat.reduceLT, reduceLeDiff, reduceMul, reduceSub, reduceIte, reduceEqDiff, reduceAdd, reduceCtorEq]
    refine ⟨⟨by omega, hlt1⟩, hlt1, ?_⟩
    simp only [Bzf5, Bzf4, Bzf6, yzv hlt1, hxe, rwn_getD hxo, rwn_getD hxl, yzv z2, yzv z1, nat1 i _ hlt1 hMw, go_sem, yz0, Int.reduceLT, reduceLE, reduceToNat, reduceNeg, Nat.reduceLT, reduceLeDiff, reduceMul, reduceSub, reduceIte, reduceEqDiff, reduceAdd, reduceCtorEq]
    intro vs2
    refine ⟨⟨hx.1, hxo⟩, hxo, ⟨hu.1, z2⟩, z2, ⟨_, rfl, rfl⟩, by omega, ⟨hx.1, hxl⟩, hxl, ⟨hu.1, z1⟩, z1, ?_⟩
    refine ⟨(vs2 10 0, i + 1, (next.getD x.toNat []).getD u.toNat 0, r ++ [(out.getD x.toNat []).getD u.toNat 0]), by dsimp only; omega, ⟨by dsimp only; omega, hst, ?_, hat, by dsimp only; rw [List.length_append, hrl]; rfl⟩, rfl⟩
    dsimp only
    rw [← hr]
    simp only [outsA, List.append_assoc, List.cons_append, List.nil_append]
    rfl
  · have : i = w.length := by omega
    subst this
    rw [List.drop_length] at hr hat
    simp only [outsA, List.append_nil] at hr
    simp only [Bz2x, Bz6w, Bzf9, decide_eq_false hlt, Az6x, ← hQ, go_sem, yz0, Int.reduceLT, reduceLE, reduceToNat, reduceNeg, Nat.reduceLT, reduceLeDiff, reduceMul, reduceSub, reduceIte, reduceEqDiff, reduceAdd, reduceCtorEq]
    refine ⟨[11], by simp, by simp, by simp, ?_⟩
    simp only [range1, List.length_singleton, Nat.not_lt_zero, range1, yzw, yzx, ren_ro, rnNm_n, yzz, rnNm_o, rnNm_s, ren_st, yzy, yzs, yze, yz3, yzq, yzo, yzl, yzn, yzp, yz6, yz9, yzb, yza, yzj, yzi, yz4, yzd, yzc, yz7, yzf, yzh, List.range_zero, yz2, yz5, yz8, yzr, yzk, yzm, AVal.fresh, freshL, yz1, yzg, AObj.fresh, id, Option.isSome_some, or_true, true_or, go_sem, yz0, Int.reduceLT, reduceLE, reduceToNat, reduceNeg, Nat.reduceLT, reduceLeDiff, reduceMul, reduceSub, reduceIte, reduceEqDiff, reduceAdd, reduceCtorEq]
    exact ⟨va, by rw [hr], by rw [← hat]; rfl⟩
end Go.Ab
namespace Go.Ab
open Go.Proofs
def allP (n : Nat) (q : Nat → Nat → Bool) : Bool := (List.range n).all fun s => (List.range s).all fun t => q s t
theorem all_snoc {s : Nat} {q : Nat → Bool} : (List.range (s + 1)).all q = ((List.range s).all q && q s) := by
  rw [List.range_succ, List.all_append]; simp
theorem all_false {n s : Nat} {q : Nat → Bool} (h : s < n) (e : q s = false) : (List.range n).all q = false := by
  rw [List.all_eq_false]
  exact ⟨s, List.mem_range.2 h, by simp [e]⟩
def prB (next out : List (List Int)) (w : List Int) (p : Bool → Int → Int → Bool) (s t : Nat) : Bool := p (decide (outsA next out s w = outsA next out t w)) (atA next s w) (atA next t w)
theorem k_everyPair (n o : Int) (next out : List (List Int)) (M : Mach n o next out) (w : List Int) (hw : IsW next.length w) (hwl : w.length ≤ 1000000) (g : FuncId) (p : Bool → Int → Int → Bool)
    (hg : ∀ b x y, Fun Try.prog g [bv b, iv x, iv y] (bv (p b x y))) :
    Fun Try.prog nz1a [machA n o next out, .ro none 1 (ints w), .clo g []] (bv (allP n.toNat (prB next out w p))) := by
  refine fun_of mixed czip rfl ⟨rfl, trivial⟩ ?_
  have n1 := M.aut.n1
  have n2 := M.aut.n2
  simp only [Azcq, Bzcp, Bzcn, go_sem, yz0, Int.reduceLT, reduceLE, reduceToNat, reduceNeg, Nat.reduceLT, reduceLeDiff, reduceMul, reduceSub, reduceIte, reduceEqDiff, reduceAdd, reduceCtorEq]
  intro vs
  refine wpD_lo (fun s => n.toNat - s) (fun s => s ≤ n.toNat ∧ allP s (prB next out w p) = true)
    (fun (s : Nat) => ⟨L .any [(1, .ro none 1 (ints w)), (2, .clo g []), (3, .ptr 3 (vs 0 0) 0), (14, iv n), (15, iv s)], L .gone [(3, .box (vs 0 0) [iv n, iv o, .ro none 1 (rwn next), .ro none 1 (rwn out)])]⟩)
    0 ⟨by simp, rfl⟩ (by simp only [Bz2l, go_sem, yz0, Int.reduceLT, reduceLE, reduceToNat, reduceNeg, Nat.reduceLT, reduceLeDiff, reduceMul, reduceSub, reduceIte, reduceEqDiff, reduceAdd, reduceCtorEq]; try rfl) ?_
  rintro s ⟨hs, ha⟩
  by_cases hlt : (s : Int) < n
  · have hs1 : s < n.toNat := by omega
    have w1 : IntKind.i64.wrap ((s : Int) + 1) = ((s + 1 : Nat) : Int) := by rw [w64 (by omega)]; simp
    simp only [Bz2l, Bz5y, Bzcm, Bzck, Bzcj, decide_eq_true hlt, go_sem, yz0, Int.reduceLT, reduceLE, reduceToNat, reduceNeg, Nat.reduceLT, reduceLeDiff, reduceMul, reduceSub, reduceIte, reduceEqDiff, reduceAdd, reduceCtorEq]
    refine wpD_lo (fun t => s - t) (fun t => t ≤ s ∧ ((List.range t).all fun t => prB next out w p s t) = true)
      (fun (t : Nat) => ⟨L .any [(1, .ro none 1 (ints w)), (2, .clo g []), (3, .ptr 3 (vs 0 0) 0), (7, iv s), (14, iv n), (15, iv s), (18, iv s), (19, iv t)], L .gone [(3, .box (vs 0 0) [iv n, iv o, .ro none 1 (rwn next), .ro none 1 (rwn out)])]⟩)
      0 ⟨by simp, rfl⟩ (by simp only [Bz2k, go_sem, yz0, Int.reduceLT, reduceLE, reduceToNat, reduceNeg, Nat.reduceLT, reduceLeDiff, reduceMul, reduceSub, reduceIte, reduceEqDiff, reduceAdd, reduceCtorEq]; try rfl) ?_
    rintro t ⟨ht, hb⟩
    by_cases htl : (t : Int) < s
    · have ht1 : t < s := by omega
      have w2 : IntKind.i64.wrap ((t : Int) + 1) = ((t + 1 : Nat) : Int) := by rw [w64 (by omega)]; simp
      simp only [Bz2k, Bz5x, Bzci, Bzcg, decide_eq_true htl, go_sem, yz0, Int.reduceLT, reduceLE, reduceToNat, reduceNeg, Nat.reduceLT, reduceLeDiff, reduceMul, reduceSub, reduceIte, reduceEqDiff, reduceAdd, reduceCtorEq]
      intro vs2
      refine call_fn (k_Machine_outputs n o next out M s ⟨by omega, hlt⟩ w hw hwl) qCS (fun e => by cases e) ?_
      rintro rows res ⟨v26, rfl, rfl⟩
      refine ⟨by simp, (fun k hk => by obtain rfl : k = 0 := (by simpa using hk); rfl), ?_⟩
      simp only [Bzcf, Nat.not_lt_zero, range1, yzw, yzx, ren_ro, rnNm_n, yzz, rnNm_o, rnNm_s, ren_st, yzy, yzs, yze, yz3, yzq, yzo, yzl, yzn, yzp, yz6, yz9, yzb, yza, yzj, yzi, yz4, yzd, yzc, yz7, yzf, yzh, List.range_zero, yz2, yz5, yz8, yzr, yzk, yzm, AVal.fresh, freshL, yz1, yzg, AObj.fresh, id, Option.isSome_some, or_true, true_or, go_sem, yz0, Int.reduceLT, reduceLE, reduceToNat, reduceNeg, Nat.reduceLT, reduceLeDiff, reduceMul, reduceSub, reduceIte, reduceEqDiff, reduceAdd, reduceCtorEq]
      intro vs3
      refine call_fn (k_Machine_outputs n o next out M t ⟨by omega, by omega⟩ w hw hwl) qCS (fun e => by cases e) ?_
      rintro rows res ⟨v33, rfl, rfl⟩
      refine ⟨by simp, (fun k hk => by obtain rfl : k = 0 := (by simpa using hk); rfl), ?_⟩
      simp only [Bzce, Nat.not_lt_zero, range1, yzw, yzx, ren_ro, rnNm_n, yzz, rnNm_o, rnNm_s, ren_st, yzy, yzs, yze, yz3, yzq, yzo, yzl, yzn, yzp, yz6, yz9, yzb, yza, yzj, yzi, yz4, yzd, yzc, yz7, yzf, yzh, List.range_zero, yz2, yz5, yz8, yzr, yzk, yzm, AVal.fresh, freshL, yz1, yzg, AObj.fresh, id, Option.isSome_some, or_true, true_or, go_sem, yz0, Int.reduceLT, reduceLE, reduceToNat, reduceNeg, Nat.reduceLT, reduceLeDiff, reduceMul, reduceSub, reduceIte, reduceEqDiff, reduceAdd, reduceCtorEq]
      intro vs4
      refine yzt (k_Equal (outsA next out s w) (outsA next out t w)) qCS trivial ?_
      simp only [go_sem, yz0, Int.reduceLT, reduceLE, reduceToNat, reduceNeg, Nat.reduceLT, reduceLeDiff, reduceMul, reduceSub, reduceIte, reduceEqDiff, reduceAdd, reduceCtorEq]
      refine yzt (hg (decide (outsA next out s w = outsA next out t w)) (atA next s w) (atA next t w)) qCS trivial ?_
      cases hp : p (decide (outsA next out s w = outsA next out t w)) (atA next s w) (atA next t w) with
      | true =>
        simp only [Bz5w, Bzch, Bool.not_true, w2, go_sem, yz0, Int.reduceLT, reduceLE, reduceToNat, reduceNeg, Nat.reduceLT, reduceLeDiff, reduceMul, reduceSub, reduceIte, reduceEqDiff, reduceAdd, reduceCtorEq]
        exact ⟨t + 1, by omega, ⟨by omega, by rw [all_snoc, hb]; exact hp⟩, rfl⟩
      | false =>
        have hf : allP n.toNat (prB next out w p) = false := all_false hs1 (all_false ht1 hp)
        simp only [Bz5w, Bool.not_false, hf, go_sem, yz0, Int.reduceLT, reduceLE, reduceToNat, reduceNeg, Nat.reduceLT, reduceLeDiff, reduceMul, reduceSub, reduceIte, reduceEqDiff, reduceAdd, reduceCtorEq]
    · obtain rfl : t = s := by omega
      simp only [Bz2k, Bz5x, Bzcl, decide_eq_false htl, w1, go_sem, yz0, Int.reduceLT, reduceLE, reduceToNat, reduceNeg, Nat.reduceLT, reduceLeDiff, reduceMul, reduceSub, reduceIte, reduceEqDiff, reduceAdd, reduceCtorEq]
      exact ⟨t + 1, by omega, ⟨by omega, by unfold allP at ha ⊢; rw [all_snoc, ha, hb]; rfl⟩, rfl⟩
  · obtain rfl : s = n.toNat := by omega
    simp only [Bz2l, Bz5y, Bzco, decide_eq_false hlt, ha, go_sem, yz0, Int.reduceLT, reduceLE, reduceToNat, reduceNeg, Nat.reduceLT, reduceLeDiff, reduceMul, reduceSub, reduceIte, reduceEqDiff, reduceAdd, reduceCtorEq]
def hmP (tl : Bool) (b : Bool) (x y : Int) : Bool := !b || (!tl && x == y)
def homB (next out : List (List Int)) (tl : Bool) (n : Int) (w : List Int) : Bool := allP n.toNat (prB next out w (hmP tl))
theorem k_IsHoming_2 (b : Bool) (x y : Int) : Fun Try.prog nz1b [bv b, iv x, iv y] (bv (hmP false b x y)) := by
  refine fun_of mixed cziq rfl ⟨rfl, trivial⟩ ?_
  unfold hmP
  cases b <;> simp only [Azcs, Bzcr, Bool.not_true, Bool.not_false, Bool.true_or, Bool.false_or, Bool.true_and, go_sem, yz0, Int.reduceLT, reduceLE, reduceToNat, reduceNeg, Nat.reduceLT, reduceLeDiff, reduceMul, reduceSub, reduceIte, reduceEqDiff, reduceAdd, reduceCtorEq]
theorem k_IsTelling_2 (b : Bool) (x y : Int) : Fun Try.prog nz1d [bv b, iv x, iv y] (bv (hmP true b x y)) := by
  refine fun_of mixed czis rfl ⟨rfl, trivial⟩ ?_
  unfold hmP
  cases b <;> simp only [Azcw, Bzcv, Bool.not_true, Bool.not_false, Bool.true_or, Bool.false_or, Bool.false_and, go_sem, yz0, Int.reduceLT, reduceLE, reduceToNat, reduceNeg, Nat.reduceLT, reduceLeDiff, reduceMul, reduceSub, reduceIte, reduceEqDiff, reduceAdd, reduceCtorEq]
theorem k_IsHoming_1 (n o : Int) (next out : List (List Int)) (w : List Int) (hl : 1 ≤ next.length ∧ next.length ≤ 3) :
    Fun Try.prog nz18 [machP n o next out, .rp [.ro none 1 (ints w)] 0] (bv (wordB next.length w)) := by
  refine fun_of mixed czin rfl ⟨rfl, trivial⟩ ?_
  simp only [Bzca, Azcb, go_sem, yz0, Int.reduceLT, reduceLE, reduceToNat, reduceNeg, Nat.reduceLT, reduceLeDiff, reduceMul, reduceSub, reduceIte, reduceEqDiff, reduceAdd, reduceCtorEq]
  intro vs
  refine yzt (k_Machine_isWord n o next out w hl) qCS trivial ?_
  simp only [go_sem, yz0, Int.reduceLT, reduceLE, reduceToNat, reduceNeg, Nat.reduceLT, reduceLeDiff, reduceMul, reduceSub, reduceIte, reduceEqDiff, reduceAdd, reduceCtorEq]
theorem k_IsHoming (n o : Int) (next out : List (List Int)) (M : Mach n o next out) (w : List Int) (hw : wordB next.length w = true) :
    Fun2 Try.prog nzd [machA n o next out, .ro none 1 (ints w)] (.bool (homB next out false n w)) (.int .i64 0) := by
  refine fun2_of mixed czi9 rfl ?_
  have hv := machB_iff.2 M
  have hW := wordB_iff.1 hw
  simp only [Az9c, Bz9b, go_sem, yz0, Int.reduceLT, reduceLE, reduceToNat, reduceNeg, Nat.reduceLT, reduceLeDiff, reduceMul, reduceSub, reduceIte, reduceEqDiff, reduceAdd, reduceCtorEq]
  intro vs vs2
  refine yzt (k_Machine_code n o next out nz18 [machP n o next out, .rp [.ro none 1 (ints w)] 0] _ ⟨by simp only [go_sem, yz0, Int.reduceLT, reduceLE, reduceToNat, reduceNeg, Nat.reduceLT, reduceLeDiff, reduceMul, reduceSub, reduceIte, reduceEqDiff, reduceAdd, reduceCtorEq], by intros; simp only [rowIs, boxIs, coe_argN, coe_argNs, coe_ro_o, coeL_nil, yz12, coe_any, coe_val, coe_ro, yz13, yz17, coe_st, yz15, coe_rp, yz16, coe_clo, coe_own0, coe_ptr0, yz11, coeL_rws, coeL_rwn, L_hit, L_miss, L_nil, reduceEqDiff, ne_eq, reduceCtorEq, not_false_eq_true, true_and, and_true, and_self, exists_eq_left, exists_eq_right, List.mem_cons, List.not_mem_nil, or_false, AObj.row.injEq, AObj.box.injEq, exists_eq_left', exists_and_left, exists_eq, Nat.zero_lt_one, Nat.lt_add_one, List.map_cons, List.map_nil, AObj.ver, Nat.reduceLT, not_true_eq_false]⟩ (fun _ => k_IsHoming_1 n o next out w ⟨M.aut.l1, M.aut.l2⟩)) qCS trivial ?_
  have hc : codeI (machB n o next out) (wordB next.length w) = 0 := by rw [hv, hw]; rfl
  have h0 : ((0 : Int) != 0) = false := rfl
  simp only [hc, h0, Bz99, Bz98, Bz9a, go_sem, yz0, Int.reduceLT, reduceLE, reduceToNat, reduceNeg, Nat.reduceLT, reduceLeDiff, reduceMul, reduceSub, reduceIte, reduceEqDiff, reduceAdd, reduceCtorEq]
  intro vs3
  refine yzt (k_everyPair n o next out M w hW.2 (by have := hW.1; omega) nz1b (hmP false) k_IsHoming_2) qCS trivial ?_
  simp only [go_sem, yz0, Int.reduceLT, reduceLE, reduceToNat, reduceNeg, Nat.reduceLT, reduceLeDiff, reduceMul, reduceSub, reduceIte, reduceEqDiff, reduceAdd, reduceCtorEq]
  rfl
theorem k_IsTelling_1 (n o : Int) (next out : List (List Int)) (w : List Int) (hl : 1 ≤ next.length ∧ next.length ≤ 3) :
    Fun Try.prog nz1c [machP n o next out, .rp [.ro none 1 (ints w)] 0] (bv (wordB next.length w)) := by
  refine fun_of mixed czir rfl ⟨rfl, trivial⟩ ?_
  simp only [Bzct, Azcu, go_sem, yz0, Int.reduceLT, reduceLE, reduceToNat, reduceNeg, Nat.reduceLT, reduceLeDiff, reduceMul, reduceSub, reduceIte, reduceEqDiff, reduceAdd, reduceCtorEq]
  intro vs
  refine yzt (k_Machine_isWord n o next out w hl) qCS trivial ?_
  simp only [go_sem, yz0, Int.reduceLT, reduceLE, reduceToNat, reduceNeg, Nat.reduceLT, reduceLeDiff, reduceMul, reduceSub, reduceIte, reduceEqDiff, reduceAdd, reduceCtorEq]
theorem k_IsTelling (n o : Int) (next out : List (List Int)) (M : Mach n o next out) (w : List Int) (hw : wordB next.length w = true) :
    Fun2 Try.prog nz11 [machA n o next out, .ro none 1 (ints w)] (.bool (homB next out true n w)) (.int .i64 0) := by
  refine fun2_of mixed czia rfl ?_
  have hv := machB_iff.2 M
  have hW := wordB_iff.1 hw
  simp only [Az9h, Bz9g, go_sem, yz0, Int.reduceLT, reduceLE, reduceToNat, reduceNeg, Nat.reduceLT, reduceLeDiff, reduceMul, reduceSub, reduceIte, reduceEqDiff, reduceAdd, reduceCtorEq]
  intro vs vs2
  refine yzt (k_Machine_code n o next out nz1c [machP n o next out, .rp [.ro none 1 (ints w)] 0] _ ⟨by simp only [go_sem, yz0, Int.reduceLT, reduceLE, reduceToNat, reduceNeg, Nat.reduceLT, reduceLeDiff, reduceMul, reduceSub, reduceIte, reduceEqDiff, reduceAdd, reduceCtorEq], by intros; simp only [rowIs, boxIs, coe_argN, coe_argNs, coe_ro_o, coeL_nil, yz12, coe_any, coe_val, coe_ro, yz13, yz17, coe_st, yz15, coe_rp, yz16, coe_clo, coe_own0, coe_ptr0, yz11, coeL_rws, coeL_rwn, L_hit, L_miss, L_nil, reduceEqDiff, ne_eq, reduceCtorEq, not_false_eq_true, true_and, and_true, and_self, exists_eq_left, exists_eq_right, List.mem_cons, List.not_mem_nil, or_false, AObj.row.injEq, AObj.box.injEq, exists_eq_left', exists_and_left, exists_eq, Nat.zero_lt_one, Nat.lt_add_one, List.map_cons, List.map_nil, AObj.ver, Nat.reduceLT, not_true_eq_false]⟩ (fun _ => k_IsTelling_1 n o next out w ⟨M.aut.l1, M.aut.l2⟩)) qCS trivial ?_
  have hc : codeI (machB n o next out) (wordB next.length w) = 0 := by rw [hv, hw]; rfl
  have h0 : ((0 : Int) != 0) = false := rfl
  simp only [hc, h0, Bz9e, Bz9d, Bz9f, go_sem, yz0, Int.reduceLT, reduceLE, reduceToNat, reduceNeg, Nat.reduceLT, reduceLeDiff, reduceMul, reduceSub, reduceIte, reduceEqDiff, reduceAdd, reduceCtorEq]
  intro vs3
  refine yzt (k_everyPair n o next out M w hW.2 (by have := hW.1; omega) nz1d (hmP true) k_IsTelling_2) qCS trivial ?_
  simp only [go_sem, yz0, Int.reduceLT, reduceLE, reduceToNat, reduceNeg, Nat.reduceLT, reduceLeDiff, reduceMul, reduceSub, reduceIte, reduceEqDiff, reduceAdd, reduceCtorEq]
  rfl
theorem k_l06Asked (n o : Int) (next out : List (List Int)) (M : Mach n o next out) (w : List Int) (hw : wordB next.length w = true) :
    Fun Try.prog nz3l [machP n o next out, .ro none 1 (ints w)] (iv 0) := by
  refine fun_of mixed czit rfl ⟨rfl, trivial⟩ ?_
  have hv := machB_iff.2 M
  simp only [Azd2, Bzd1, go_sem, yz0, Int.reduceLT, reduceLE, reduceToNat, reduceNeg, Nat.reduceLT, reduceLeDiff, reduceMul, reduceSub, reduceIte, reduceEqDiff, reduceAdd, reduceCtorEq]
  intro vs
  refine yzt (k_l06Ok n o next out) qCS trivial ?_
  simp only [hv, Bzcx, Bzd0, Bool.not_true, go_sem, yz0, Int.reduceLT, reduceLE, reduceToNat, reduceNeg, Nat.reduceLT, reduceLeDiff, reduceMul, reduceSub, reduceIte, reduceEqDiff, reduceAdd, reduceCtorEq]
  intro vs2
  refine yzt (k_l06Word n o next out w (by have := M.aut.l2; omega)) qCS trivial ?_
  simp only [hw, Bzcy, Bzcz, Bool.not_true, go_sem, yz0, Int.reduceLT, reduceLE, reduceToNat, reduceNeg, Nat.reduceLT, reduceLeDiff, reduceMul, reduceSub, reduceIte, reduceEqDiff, reduceAdd, reduceCtorEq]
theorem k_l06Tells (n o : Int) (next out : List (List Int)) (M : Mach n o next out) (w : List Int) (hw : IsW next.length w) (hwl : w.length ≤ 1000000) :
    Fun Try.prog nz3m [machP n o next out, .ro none 1 (ints w), bv false] (bv (homB next out false n w)) := by
  refine fun_of mixed cziu rfl ⟨rfl, trivial⟩ ?_
  have n1 := M.aut.n1
  have n2 := M.aut.n2
  unfold homB
  simp only [Azdc, Bzdb, Bzd9, go_sem, yz0, Int.reduceLT, reduceLE, reduceToNat, reduceNeg, Nat.reduceLT, reduceLeDiff, reduceMul, reduceSub, reduceIte, reduceEqDiff, reduceAdd, reduceCtorEq]
  refine wpD_lo (fun s => n.toNat - s) (fun s => s ≤ n.toNat ∧ allP s (prB next out w (hmP false)) = true)
    (fun (s : Nat) => ⟨L .any [(0, machP n o next out), (1, .ro none 1 (ints w)), (2, bv false), (7, iv s)], L .gone []⟩)
    0 ⟨by simp, rfl⟩ (by simp only [Bz2o, go_sem, yz0, Int.reduceLT, reduceLE, reduceToNat, reduceNeg, Nat.reduceLT, reduceLeDiff, reduceMul, reduceSub, reduceIte, reduceEqDiff, reduceAdd, reduceCtorEq]; try rfl) ?_
  rintro s ⟨hs, ha⟩
  by_cases hlt : (s : Int) < n
  · have hs1 : s < n.toNat := by omega
    have w1 : IntKind.i64.wrap ((s : Int) + 1) = ((s + 1 : Nat) : Int) := by rw [w64 (by omega)]; simp
    simp only [Bz2o, Bz5z, Bzd8, Bzd6, decide_eq_true hlt, go_sem, yz0, Int.reduceLT, reduceLE, reduceToNat, reduceNeg, Nat.reduceLT, reduceLeDiff, reduceMul, reduceSub, reduceIte, reduceEqDiff, reduceAdd, reduceCtorEq]
    refine wpD_lo (fun t => s - t) (fun t => t ≤ s ∧ ((List.range t).all fun t => prB next out w (hmP false) s t) = true)
      (fun (t : Nat) => ⟨L .any [(0, machP n o next out), (1, .ro none 1 (ints w)), (2, bv false), (7, iv s), (8, iv t)], L .gone []⟩)
      0 ⟨by simp, rfl⟩ (by simp only [Bz2n, go_sem, yz0, Int.reduceLT, reduceLE, reduceToNat, reduceNeg, Nat.reduceLT, reduceLeDiff, reduceMul, reduceSub, reduceIte, reduceEqDiff, reduceAdd, reduceCtorEq]; try rfl) ?_
    rintro t ⟨ht, hb⟩
    by_cases htl : (t : Int) < s
    · have ht1 : t < s := by omega
      have w2 : IntKind.i64.wrap ((t : Int) + 1) = ((t + 1 : Nat) : Int) := by rw [w64 (by omega)]; simp
      simp only [Bz2n, Bz60, Bzd5, decide_eq_true htl, go_sem, yz0, Int.reduceLT, reduceLE, reduceToNat, reduceNeg, Nat.reduceLT, reduceLeDiff, reduceMul, reduceSub, reduceIte, reduceEqDiff, reduceAdd, reduceCtorEq]
      intro vs2
      refine call_fn (k_l06Run n o next out M s ⟨by omega, hlt⟩ w hw hwl) qCS (fun e => by cases e) ?_
      rintro rows res ⟨v26, rfl, rfl⟩
      refine ⟨by simp, (fun k hk => by obtain rfl : k = 0 := (by simpa using hk); rfl), ?_⟩
      simp only [Bzd4, Nat.not_lt_zero, range1, yzw, yzx, ren_ro, rnNm_n, yzz, rnNm_o, rnNm_s, ren_st, yzy, yzs, yze, yz3, yzq, yzo, yzl, yzn, yzp, yz6, yz9, yzb, yza, yzj, yzi, yz4, yzd, yzc, yz7, yzf, yzh, List.range_zero, yz2, yz5, yz8, yzr, yzk, yzm, AVal.fresh, freshL, yz1, yzg, AObj.fresh, id, Option.isSome_some, or_true, true_or, go_sem, yz0, Int.reduceLT, reduceLE, reduceToNat, reduceNeg, Nat.reduceLT, reduceLeDiff, reduceMul, reduceSub, reduceIte, reduceEqDiff, reduceAdd, reduceCtorEq]
      intro vs3
      refine call_fn (k_l06Run n o next out M t ⟨by omega, by omega⟩ w hw hwl) qCS (fun e => by cases e) ?_
      rintro rows res ⟨v33, rfl, rfl⟩
      refine ⟨by simp, (fun k hk => by obtain rfl : k = 0 := (by simpa using hk); rfl), ?_⟩
      simp only [Bzd3, Nat.not_lt_zero, range1, yzw, yzx, ren_ro, rnNm_n, yzz, rnNm_o, rnNm_s, ren_st, yzy, yzs, yze, yz3, yzq, yzo, yzl, yzn, yzp, yz6, yz9, yzb, yza, yzj, yzi, yz4, yzd, yzc, yz7, yzf, yzh, List.range_zero, yz2, yz5, yz8, yzr, yzk, yzm, AVal.fresh, freshL, yz1, yzg, AObj.fresh, id, Option.isSome_some, or_true, true_or, go_sem, yz0, Int.reduceLT, reduceLE, reduceToNat, reduceNeg, Nat.reduceLT, reduceLeDiff, reduceMul, reduceSub, reduceIte, reduceEqDiff, reduceAdd, reduceCtorEq]
      intro vs4
      refine yzt (k_l00Same (outsA next out s w) (outsA next out t w)) qCS trivial ?_
      cases hp : hmP false (decide (outsA next out s w = outsA next out t w)) (atA next s w) (atA next t w) with
      | true =>
        have hq : decide (outsA next out s w = outsA next out t w) = false ∨ (decide (outsA next out s w = outsA next out t w) = true ∧ (atA next s w != atA next t w) = false) := by
          revert hp; unfold hmP
          cases decide (outsA next out s w = outsA next out t w)
          · intro _; exact .inl rfl
          · intro h
            refine .inr ⟨rfl, ?_⟩
            simp only [Bool.not_true, Bool.false_or, Bool.not_false, Bool.true_and] at h
            simp only [bne, h, Bool.not_true]
        rcases hq with hq | ⟨hq, hq2⟩
        · simp only [hq, Bz2m, Bz61, w2, go_sem, yz0, Int.reduceLT, reduceLE, reduceToNat, reduceNeg, Nat.reduceLT, reduceLeDiff, reduceMul, reduceSub, reduceIte, reduceEqDiff, reduceAdd, reduceCtorEq]
          exact ⟨t + 1, by omega, ⟨by omega, by rw [all_snoc, hb]; exact hp⟩, rfl⟩
        · simp only [hq, hq2, Bz2m, Bz61, w2, go_sem, yz0, Int.reduceLT, reduceLE, reduceToNat, reduceNeg, Nat.reduceLT, reduceLeDiff, reduceMul, reduceSub, reduceIte, reduceEqDiff, reduceAdd, reduceCtorEq]
          exact ⟨t + 1, by omega, ⟨by omega, by rw [all_snoc, hb]; exact hp⟩, rfl⟩
      | false =>
        have hf : allP n.toNat (prB next out w (hmP false)) = false := all_false hs1 (all_false ht1 hp)
        have hq : decide (outsA next out s w = outsA next out t w) = true ∧ (atA next s w != atA next t w) = true := by
          revert hp; unfold hmP
          cases decide (outsA next out s w = outsA next out t w)
          · intro h; simp at h
          · intro h
            simp only [Bool.not_true, Bool.false_or, Bool.not_false, Bool.true_and] at h
            exact ⟨rfl, by simp only [bne, h, Bool.not_false]⟩
        simp only [hq.1, hq.2, Bz2m, hf, go_sem, yz0, Int.reduceLT, reduceLE, reduceToNat, reduceNeg, Nat.reduceLT, reduceLeDiff, reduceMul, reduceSub, reduceIte, reduceEqDiff, reduceAdd, reduceCtorEq]
    · obtain rfl : t = s := by omega
      simp only [Bz2n, Bz60, Bzd7, decide_eq_false htl, w1, go_sem, yz0, Int.reduceLT, reduceLE, reduceToNat, reduceNeg, Nat.reduceLT, reduceLeDiff, reduceMul, reduceSub, reduceIte, reduceEqDiff, reduceAdd, reduceCtorEq]
      exact ⟨t + 1, by omega, ⟨by omega, by unfold allP at ha ⊢; rw [all_snoc, ha, hb]; rfl⟩, rfl⟩
  · obtain rfl : s = n.toNat := by omega
    simp only [Bz2o, Bz5z, Bzda, decide_eq_false hlt, ha, go_sem, yz0, Int.reduceLT, reduceLE, reduceToNat, reduceNeg, Nat.reduceLT, reduceLeDiff, reduceMul, reduceSub, reduceIte, reduceEqDiff, reduceAdd, reduceCtorEq]
theorem k_specIsHoming (n o : Int) (next out : List (List Int)) (M : Mach n o next out) (w : List Int) (hw : wordB next.length w = true) :
    Fun2 Try.prog nz3j [machA n o next out, .ro none 1 (ints w)] (.bool (homB next out false n w)) (.int .i64 0) := by
  refine fun2_of mixed czib rfl ?_
  have hW := wordB_iff.1 hw
  simp only [Az9m, Bz9l, go_sem, yz0, Int.reduceLT, reduceLE, reduceToNat, reduceNeg, Nat.reduceLT, reduceLeDiff, reduceMul, reduceSub, reduceIte, reduceEqDiff, reduceAdd, reduceCtorEq]
  intro vs vs2
  refine yzt (k_l06Asked n o next out M w hw) qCS trivial ?_
  have h0 : ((0 : Int) != 0) = false := rfl
  simp only [h0, Bz9j, Bz9i, Bz9k, go_sem, yz0, Int.reduceLT, reduceLE, reduceToNat, reduceNeg, Nat.reduceLT, reduceLeDiff, reduceMul, reduceSub, reduceIte, reduceEqDiff, reduceAdd, reduceCtorEq]
  intro vs3
  refine yzt (k_l06Tells n o next out M w hW.2 (by have := hW.1; omega)) qCS trivial ?_
  simp only [go_sem, yz0, Int.reduceLT, reduceLE, reduceToNat, reduceNeg, Nat.reduceLT, reduceLeDiff, reduceMul, reduceSub, reduceIte, reduceEqDiff, reduceAdd, reduceCtorEq]
end Go.Ab
namespace Go.Ab
theorem outsA_snoc {next out : List (List Int)} {x : Int} : ∀ {w : List Int} {s : Int}, outsA next out s (w ++ [x]) = outsA next out s w ++ [outA out (atA next s w) x]
  | [], s => rfl
  | y :: w, s => by
    have := outsA_snoc (next := next) (out := out) (x := x) (w := w) (s := stepA next s y)
    simp only [List.cons_append, outsA, this]; rfl
theorem atA_snoc {next : List (List Int)} {x : Int} {w : List Int} {s : Int} : atA next s (w ++ [x]) = stepA next (atA next s w) x := by simp [atA]
theorem dvF_app {nr or : List Int} {o : Int} {S : List Int} {s : Int} : dvF nr or o (S ++ [s]) = dvS nr or (dvF nr or o S) s := by unfold dvF; rw [List.foldl_append]; rfl
theorem set_getD {l : List Nat} {i j v : Nat} (hi : i < l.length) : (l.set i v).getD j 0 = if i = j then v else l.getD j 0 := by
  rw [List.getD_eq_getElem?_getD, List.getElem?_set, List.getD_eq_getElem?_getD]
  by_cases e : i = j
  · rw [if_pos e, if_pos e, if_pos hi]; rfl
  · rw [if_neg e, if_neg e]
theorem dvF_bit {nr or : List Int} {o : Int} (ho : 0 ≤ o) {b u : Nat} (hb : b < o.toNat) : ∀ (k : Nat) (S : List Int), S.length = k → (∀ s ∈ S, 0 ≤ or.getD s.toNat 0 ∧ or.getD s.toNat 0 < o) →
    (((dvF nr or o S).1.getD b 0).testBit u = true ↔ ∃ s ∈ S, (or.getD s.toNat 0).toNat = b ∧ (nr.getD s.toNat 0).toNat = u)
  | 0, S, hk, _ => by
    obtain rfl := List.eq_nil_of_length_eq_zero hk
    have : (List.replicate o.toNat 0).getD b 0 = 0 := by
      rw [List.getD_eq_getElem?_getD, List.getElem?_replicate, if_pos hb]; rfl
    unfold dvF
    simp only [List.foldl_nil]
    rw [this]
    simp
  | k + 1, S, hk, hS => by
    have hne : S ≠ [] := fun e => by rw [e] at hk; simp at hk
    have e := List.dropLast_concat_getLast hne
    have ih := dvF_bit (nr := nr) (u := u) ho hb k S.dropLast (by rw [List.length_dropLast]; omega) fun s hs => hS s (List.dropLast_subset S hs)
    have hl := hS _ (List.getLast_mem hne)
    generalize S.getLast hne = s at e hl
    generalize S.dropLast = R at e ih
    subst e
    have hlen := dvF_len (nr := nr) (or := or) (o := o) (S := R)
    rw [dvF_app]
    unfold dvS
    dsimp only
    rw [set_getD (by rw [hlen]; omega)]
    by_cases e : (or.getD s.toNat 0).toNat = b
    · rw [if_pos e, e, Nat.testBit_or, Nat.testBit_two_pow, Bool.or_eq_true, ih, decide_eq_true_eq]
      constructor
      · rintro (⟨v, h1, h2, h3⟩ | h)
        · exact ⟨v, by simp [h1], h2, h3⟩
        · exact ⟨s, by simp, e, h⟩
      · rintro ⟨v, h1, h2, h3⟩
        rcases List.mem_append.1 h1 with h | h
        · exact .inl ⟨v, h, h2, h3⟩
        · rw [List.mem_singleton.1 h] at h3; exact .inr h3
    · rw [if_neg e, ih]
      constructor
      · rintro ⟨v, h1, h2, h3⟩; exact ⟨v, by simp [h1], h2, h3⟩
      · rintro ⟨v, h1, h2, h3⟩
        rcases List.mem_append.1 h1 with h | h
        · exact ⟨v, h, h2, h3⟩
        · rw [List.mem_singleton.1 h] at h2; exact absurd h2 e
theorem and_pow0 {a k : Nat} : Nat.beq (a &&& 2 ^ k) 0 = !(a.testBit k) := by
  have h : (a &&& 2 ^ k = 0) ↔ a.testBit k = false := by
    constructor
    · intro h
      have := congrArg (fun z => z.testBit k) h
      simpa [Nat.testBit_and, Nat.testBit_two_pow] using this
    · intro h
      refine Nat.eq_of_testBit_eq fun i => ?_
      rw [Nat.testBit_and, Nat.testBit_two_pow, Nat.zero_testBit]
      by_cases e : k = i
      · subst e; simp [h]
      · simp [e]
  cases hb : a.testBit k with
  | false => rw [h.2 hb]; rfl
  | true =>
    have : a &&& 2 ^ k ≠ 0 := fun e => by rw [h.1 e] at hb; cases hb
    cases hz : a &&& 2 ^ k with
    | zero => exact absurd hz this
    | succ z => rfl
theorem dvF_clr {nr or : List Int} {o : Int} (ho : 0 ≤ o) : ∀ (k : Nat) (S : List Int), S.length = k → (∀ s ∈ S, 0 ≤ or.getD s.toNat 0 ∧ or.getD s.toNat 0 < o) →
    ((dvF nr or o S).2 = true ↔ S.Pairwise fun a b => ¬ ((or.getD a.toNat 0).toNat = (or.getD b.toNat 0).toNat ∧ (nr.getD a.toNat 0).toNat = (nr.getD b.toNat 0).toNat))
  | 0, S, hk, _ => by
    obtain rfl := List.eq_nil_of_length_eq_zero hk
    simp [dvF]
  | k + 1, S, hk, hS => by
    have hne : S ≠ [] := fun e => by rw [e] at hk; simp at hk
    have e := List.dropLast_concat_getLast hne
    have ih := dvF_clr (nr := nr) (or := or) ho k S.dropLast (by rw [List.length_dropLast]; omega) fun s hs => hS s (List.dropLast_subset S hs)
    have hl := hS _ (List.getLast_mem hne)
    have hS' : ∀ s ∈ S.dropLast, 0 ≤ or.getD s.toNat 0 ∧ or.getD s.toNat 0 < o := fun s hs => hS s (List.dropLast_subset S hs)
    generalize S.getLast hne = s at e hl
    generalize S.dropLast = R at e ih hS'
    subst e
    have hbit := dvF_bit (nr := nr) (or := or) (o := o) (b := (or.getD s.toNat 0).toNat) (u := (nr.getD s.toNat 0).toNat) ho (by omega) R.length R rfl hS'
    rw [dvF_app, List.pairwise_append]
    unfold dvS
    dsimp only
    rw [and_pow0, Bool.and_eq_true, ih, Bool.not_eq_true', ← Bool.not_eq_true, hbit]
    constructor
    · rintro ⟨h1, h2⟩
      refine ⟨h1, by simp, fun a ha b hb => ?_⟩
      rw [List.mem_singleton.1 hb]
      exact fun h => h2 ⟨a, ha, h.1, h.2⟩
    · rintro ⟨h1, _, h2⟩
      exact ⟨h1, fun ⟨a, ha, h3, h4⟩ => h2 a ha s (by simp) ⟨h3, h4⟩⟩
theorem pw_all {α : Type} {R : α → α → Prop} (hs : ∀ a b, R a b → R b a) : ∀ {l : List α}, l.Pairwise R → ∀ a ∈ l, ∀ b ∈ l, a ≠ b → R a b
  | [], _, _, h, _, _, _ => by simp at h
  | x :: l, h, a, ha, b, hb, hab => by
    rw [List.pairwise_cons] at h
    rcases List.mem_cons.1 ha with ea | ha'
    · rcases List.mem_cons.1 hb with eb | hb'
      · exact absurd (ea.trans eb.symm) hab
      · rw [ea]; exact h.1 b hb'
    · rcases List.mem_cons.1 hb with eb | hb'
      · rw [eb]; exact hs _ _ (h.1 a ha')
      · exact pw_all hs h.2 a ha' b hb' hab
section
variable {n o : Int} {next out : List (List Int)}
def Cls (next out : List (List Int)) (n : Int) (f : Nat) (w r : List Int) : Prop := ∀ u : Nat, u ∈ bitsN f ↔ ∃ s : Nat, (s : Int) < n ∧ outsA next out s w = r ∧ atA next s w = u
structure DI (next out : List (List Int)) (n : Int) (tl : Bool) (w : List Int) (D : List Nat) : Prop where
  db : DB n.toNat D
  cl : ∀ f ∈ D, ∃ r, Cls next out n f w r
  ex : ∀ s t : Nat, (s : Int) < n → (t : Int) < n → outsA next out s w = outsA next out t w → atA next s w ≠ atA next t w → ∃ f ∈ D, Cls next out n f w (outsA next out s w)
  inj : tl = true → ∀ s t : Nat, (s : Int) < n → (t : Int) < n → s ≠ t → outsA next out s w = outsA next out t w → atA next s w ≠ atA next t w
theorem two_bits_ns {f u v : Nat} (hf : f < 1024) (hu : u ∈ bitsN f) (hv : v ∈ bitsN f) (h : u ≠ v) : smallN f = false := by
  cases hs : smallN f with
  | false => rfl
  | true => exact absurd ((small_iff hf).1 hs u hu v hv) h
theorem ns_two {f : Nat} (hf : f < 1024) (h : smallN f = false) : ∃ u v, u ∈ bitsN f ∧ v ∈ bitsN f ∧ u ≠ v := by
  refine Classical.byContradiction fun hc => ?_
  have : smallN f = true := (small_iff hf).2 fun s hs t ht => Classical.byContradiction fun e => hc ⟨s, t, hs, ht, e⟩
  rw [h] at this; cases this
theorem DI0 (n1 : 1 ≤ n) (n2 : n ≤ 10) (hn : n > 1) {tl : Bool} : DI next out n tl [] [2 ^ n.toNat - 1] where
  db := DB_all n1 n2 hn
  cl := fun f hf => by
    rw [List.mem_singleton.1 hf]
    refine ⟨[], fun u => ?_⟩
    rw [all_bits ⟨n1, n2⟩]
    constructor
    · intro h; exact ⟨u, h, rfl, rfl⟩
    · rintro ⟨s, h1, _, h2⟩
      have : (s : Int) = u := h2
      omega
  ex := fun s t hs ht _ _ => ⟨2 ^ n.toNat - 1, by simp, fun u => by
    rw [all_bits ⟨n1, n2⟩]
    constructor
    · intro h; exact ⟨u, h, rfl, rfl⟩
    · rintro ⟨s, h1, _, h2⟩
      have : (s : Int) = u := h2
      omega⟩
  inj := fun _ s t _ _ hst _ e => hst (by have : (s : Int) = t := e; omega)
theorem Cls.part (M : Mach n o next out) {f x b : Nat} {w r : List Int} (hw : IsW next.length w) (hx : x < next.length) (hb : b < o.toNat) (h : Cls next out n f w r) (hf : f < 2 ^ n.toNat) :
    Cls next out n ((dvF (next.getD x []) (out.getD x []) o (bitsTo f 10)).1.getD b 0) (w ++ [(x : Int)]) (r ++ [(b : Int)]) := by
  intro u
  have hxo : x < out.length := by rw [M.len]; exact hx
  have hnr := M.aut.row _ (yzu hx [])
  have hor := M.row _ (yzu hxo [])
  have o1 := M.o1
  have n2 := M.aut.n2
  have hin : ∀ v : Nat, v ∈ bitsN f → v < n.toNat := fun v hv => bits_lt hf hv
  have hS : ∀ s ∈ bitsTo f 10, 0 ≤ (out.getD x []).getD s.toNat 0 ∧ (out.getD x []).getD s.toNat 0 < o := fun s hs => by
    obtain ⟨k, hk, rfl⟩ := List.mem_map.1 (show s ∈ (bitsN f).map (fun (s : Nat) => (s : Int)) from hs)
    have := hin k hk
    exact hor.2 _ (yzu (by rw [Int.toNat_natCast]; omega) 0)
  have hbit := dvF_bit (nr := next.getD x []) (or := out.getD x []) (o := o) (b := b) (u := u) (by omega) hb _ (bitsTo f 10) rfl hS
  have hlt := dvF_lt (nr := next.getD x []) (or := out.getD x []) (o := o) (n := n.toNat) (S := bitsTo f 10) (fun s hs => by have := hnr.2 s hs; omega) (fun s hs => by
    obtain ⟨k, hk, rfl⟩ := List.mem_map.1 (show s ∈ (bitsN f).map (fun (s : Nat) => (s : Int)) from hs)
    have := hin k hk
    rw [Int.toNat_natCast]; omega)
  have hlen := dvF_len (nr := next.getD x []) (or := out.getD x []) (o := o) (S := bitsTo f 10)
  have hpl := hlt _ (yzu (show b < (dvF (next.getD x []) (out.getD x []) o (bitsTo f 10)).1.length by omega) 0)
  have hm : u ∈ bitsN ((dvF (next.getD x []) (out.getD x []) o (bitsTo f 10)).1.getD b 0) ↔ ((dvF (next.getD x []) (out.getD x []) o (bitsTo f 10)).1.getD b 0).testBit u = true := by
    rw [mem_bits]
    refine ⟨fun h => h.2, fun h => ⟨?_, h⟩⟩
    have := Nat.ge_two_pow_of_testBit h
    have h3 : u < n.toNat := (Nat.pow_lt_pow_iff_right (a := 2) (by omega)).1 (Nat.lt_of_le_of_lt this hpl)
    omega
  rw [hm, hbit]
  have hat : ∀ s : Nat, (s : Int) < n → 0 ≤ atA next s w ∧ atA next s w < n := fun s hs => M.aut.at ⟨by omega, hs⟩ hw
  constructor
  · rintro ⟨v, hv, h1, h2⟩
    obtain ⟨k, hk, rfl⟩ := List.mem_map.1 (show v ∈ (bitsN f).map (fun (s : Nat) => (s : Int)) from hv)
    obtain ⟨s, hs, hr, ha⟩ := (h k).1 hk
    have hkn := hin k hk
    have hok := hor.2 _ (yzu (show k < (out.getD x []).length by omega) 0)
    have hnk := hnr.2 _ (yzu (show k < (next.getD x []).length by omega) 0)
    rw [Int.toNat_natCast] at h1 h2
    refine ⟨s, hs, ?_, ?_⟩
    · rw [outsA_snoc, hr, ha]
      unfold outA
      rw [Int.toNat_natCast, Int.toNat_natCast, show (out.getD x []).getD k 0 = (b : Int) by omega]
    · rw [atA_snoc, ha]
      unfold stepA
      rw [Int.toNat_natCast, Int.toNat_natCast]; omega
  · rintro ⟨s, hs, hr, ha⟩
    rw [outsA_snoc] at hr
    rw [atA_snoc] at ha
    obtain ⟨h1, h2⟩ := List.append_inj' hr rfl
    have h2 : outA out (atA next s w) x = b := by simpa using h2
    have h3 := hat s hs
    obtain ⟨k, hk⟩ : ∃ k : Nat, atA next s w = k := ⟨(atA next s w).toNat, by omega⟩
    rw [hk] at h2 ha
    unfold outA at h2
    unfold stepA at ha
    rw [Int.toNat_natCast, Int.toNat_natCast] at h2 ha
    have hkb := (h k).2 ⟨s, hs, h1, hk⟩
    refine ⟨(k : Int), List.mem_map.2 ⟨k, hkb, rfl⟩, ?_, ?_⟩
    · rw [Int.toNat_natCast, h2, Int.toNat_natCast]
    · rw [Int.toNat_natCast, ha, Int.toNat_natCast]
theorem DI.goes (M : Mach n o next out) {tl : Bool} {w : List Int} {D : List Nat} {x : Nat} (hw : IsW next.length w) (hx : x < next.length) (h : DI next out n tl w D) :
    match dbtD next out o tl D x with
    | some D' => DI next out n tl (w ++ [(x : Int)]) D'
    | none => tl = true ∧ ∃ s t : Nat, (s : Int) < n ∧ (t : Int) < n ∧ s ≠ t ∧ outsA next out s (w ++ [(x : Int)]) = outsA next out t (w ++ [(x : Int)]) ∧ atA next s (w ++ [(x : Int)]) = atA next t (w ++ [(x : Int)]) := by
  have hxo : x < out.length := by rw [M.len]; exact hx
  have hnr := M.aut.row _ (yzu hx [])
  have hor := M.row _ (yzu hxo [])
  have o1 := M.o1
  have n1 := M.aut.n1
  have n2 := M.aut.n2
  have hN : 2 ^ n.toNat ≤ 1024 := Nat.pow_le_pow_right (n := 2) (by omega) (show n.toNat ≤ 10 by omega)
  have hat : ∀ s : Nat, (s : Int) < n → 0 ≤ atA next s w ∧ atA next s w < n := fun s hs => M.aut.at ⟨by omega, hs⟩ hw
  have hS : ∀ f ∈ D, ∀ s ∈ bitsTo f 10, 0 ≤ (out.getD x []).getD s.toNat 0 ∧ (out.getD x []).getD s.toNat 0 < o := fun f hf s hs => by
    obtain ⟨k, hk, rfl⟩ := List.mem_map.1 (show s ∈ (bitsN f).map (fun (s : Nat) => (s : Int)) from hs)
    have := bits_lt (h.db.el f hf).1 hk
    exact hor.2 _ (yzu (by rw [Int.toNat_natCast]; omega) 0)
  cases hd : dbtD next out o tl D x with
  | none =>
    unfold dbtD at hd
    split at hd
    · rename_i hc
      rw [Bool.and_eq_true, Bool.not_eq_true'] at hc
      refine ⟨hc.1, ?_⟩
      have hcl := hc.2
      unfold clrF at hcl
      rw [List.all_eq_false] at hcl
      obtain ⟨f, hf, hcf⟩ := hcl
      have hcf' := mt (dvF_clr (nr := next.getD x []) (or := out.getD x []) (o := o) (by omega) _ (bitsTo f 10) rfl (hS f hf)).2 hcf
      obtain ⟨r, hr⟩ := h.cl f hf
      refine Classical.byContradiction fun hno => hcf' ?_
      have hsi : (bitsTo f 10).Pairwise (· ≠ ·) := by
        unfold bitsTo
        rw [List.pairwise_map]
        exact (List.pairwise_lt_range.filter _).imp fun h => by omega
      refine List.Pairwise.imp_of_mem ?_ hsi
      intro a b ha hb hab ⟨e1, e2⟩
      obtain ⟨k, hk, rfl⟩ := List.mem_map.1 (show a ∈ (bitsN f).map (fun (s : Nat) => (s : Int)) from ha)
      obtain ⟨l, hl, rfl⟩ := List.mem_map.1 (show b ∈ (bitsN f).map (fun (s : Nat) => (s : Int)) from hb)
      obtain ⟨s, hs1, hs2, hs3⟩ := (hr k).1 hk
      obtain ⟨t, ht1, ht2, ht3⟩ := (hr l).1 hl
      have hkn := bits_lt (h.db.el f hf).1 hk
      have hln := bits_lt (h.db.el f hf).1 hl
      have ok1 := hor.2 _ (yzu (show k < (out.getD x []).length by omega) 0)
      have ok2 := hor.2 _ (yzu (show l < (out.getD x []).length by omega) 0)
      have nk1 := hnr.2 _ (yzu (show k < (next.getD x []).length by omega) 0)
      have nk2 := hnr.2 _ (yzu (show l < (next.getD x []).length by omega) 0)
      rw [Int.toNat_natCast, Int.toNat_natCast] at e1 e2
      refine hno ⟨s, t, hs1, ht1, fun e => hab (by rw [← hs3, ← ht3, e]), ?_, ?_⟩
      · rw [outsA_snoc, outsA_snoc, hs2, ht2, hs3, ht3]
        unfold outA
        rw [Int.toNat_natCast, Int.toNat_natCast, Int.toNat_natCast]
        congr 2; omega
      · rw [atA_snoc, atA_snoc, hs3, ht3]
        unfold stepA
        rw [Int.toNat_natCast, Int.toNat_natCast, Int.toNat_natCast]; omega
    · cases hd
  | some D' =>
    have hdb := dbt_DB M h.db hx hd
    unfold dbtD at hd
    split at hd
    · cases hd
    · rename_i hc
      simp only [Option.some.injEq] at hd
      have hplt := parF_lt (nr := next.getD x []) (or := out.getD x []) (o := o) (n := n.toNat) (D := D) (fun s hs => by have := hnr.2 s hs; omega) (by omega) fun f hf => (h.db.el f hf).1
      have hmem := fun f => nrmF_mem (ps := parF (next.getD x []) (out.getD x []) o D) (f := f) fun g hg => Nat.lt_of_lt_of_le (hplt g hg) hN
      rw [hd] at hmem
      have hstep : ∀ s t : Nat, (s : Int) < n → (t : Int) < n → outsA next out s (w ++ [(x : Int)]) = outsA next out t (w ++ [(x : Int)]) → outsA next out s w = outsA next out t w ∧ outA out (atA next s w) x = outA out (atA next t w) x := by
        intro s t _ _ he
        rw [outsA_snoc, outsA_snoc] at he
        obtain ⟨h1, h2⟩ := List.append_inj' he rfl
        exact ⟨h1, by simpa using h2⟩
      refine ⟨hdb, fun f' hf' => ?_, fun s t hs ht ho ha => ?_, fun ht s t hs htn hst ho ha => ?_⟩
      · obtain ⟨f, hf, hp⟩ := List.mem_flatMap.1 ((hmem f').1 hf').1
        obtain ⟨b, hb, hg⟩ := List.getElem_of_mem hp
        obtain ⟨r, hr⟩ := h.cl f hf
        have hlen := dvF_len (nr := next.getD x []) (or := out.getD x []) (o := o) (S := bitsTo f 10)
        have hc := hr.part M hw hx (b := b) (by omega) (h.db.el f hf).1
        rw [List.getD_eq_getElem?_getD, List.getElem?_eq_getElem hb, Option.getD_some, hg] at hc
        exact ⟨_, hc⟩
      · obtain ⟨ho1, ho2⟩ := hstep s t hs ht ho
        have ha1 : atA next s w ≠ atA next t w := fun e => ha (by rw [atA_snoc, atA_snoc, e])
        obtain ⟨f, hf, hc⟩ := h.ex s t hs ht ho1 ha1
        have hs3 := hat s hs
        obtain ⟨k, hk⟩ : ∃ k : Nat, atA next s w = k := ⟨(atA next s w).toNat, by omega⟩
        have hok : 0 ≤ outA out (atA next s w) x ∧ outA out (atA next s w) x < o := by
          rw [hk]; unfold outA
          rw [Int.toNat_natCast, Int.toNat_natCast]
          exact hor.2 _ (yzu (show k < (out.getD x []).length by omega) 0)
        obtain ⟨b, hb⟩ : ∃ b : Nat, outA out (atA next s w) x = b := ⟨(outA out (atA next s w) x).toNat, by omega⟩
        have hpc := hc.part M hw hx (b := b) (by omega) (h.db.el f hf).1
        have hr : outsA next out s (w ++ [(x : Int)]) = outsA next out s w ++ [(b : Int)] := by rw [outsA_snoc, hb]
        have hlen := dvF_len (nr := next.getD x []) (or := out.getD x []) (o := o) (S := bitsTo f 10)
        have hbl : b < (dvF (next.getD x []) (out.getD x []) o (bitsTo f 10)).1.length := by omega
        have hpm : (dvF (next.getD x []) (out.getD x []) o (bitsTo f 10)).1.getD b 0 ∈ parF (next.getD x []) (out.getD x []) o D := List.mem_flatMap.2 ⟨f, hf, yzu hbl 0⟩
        refine ⟨_, (hmem _).2 ⟨hpm, ?_⟩, by rw [hr]; exact hpc⟩
        have hwx : IsW next.length (w ++ [(x : Int)]) := fun y hy => by
          rcases List.mem_append.1 hy with hy | hy
          · exact hw y hy
          · rw [List.mem_singleton.1 hy]; omega
        have hs4 := M.aut.at ⟨by omega, hs⟩ hwx (s := s)
        have ht4 := M.aut.at ⟨by omega, ht⟩ hwx (s := t)
        refine two_bits_ns (Nat.lt_of_lt_of_le (hplt _ hpm) hN) (u := (atA next s (w ++ [(x : Int)])).toNat) (v := (atA next t (w ++ [(x : Int)])).toNat) ((hpc _).2 ⟨s, hs, hr, by omega⟩) ((hpc _).2 ⟨t, ht, by rw [← ho, hr], by omega⟩) (by omega)
      · obtain ⟨ho1, ho2⟩ := hstep s t hs htn ho
        have ha1 := h.inj ht s t hs htn hst ho1
        obtain ⟨f, hf, hcf⟩ := h.ex s t hs htn ho1 ha1
        have hcl : clrF (next.getD x []) (out.getD x []) o D = true := by
          cases hcc : clrF (next.getD x []) (out.getD x []) o D with
          | true => rfl
          | false => exact absurd (by rw [ht, hcc]; rfl) hc
        unfold clrF at hcl
        have hcf2 := (dvF_clr (nr := next.getD x []) (or := out.getD x []) (o := o) (by omega) _ (bitsTo f 10) rfl (hS f hf)).1 (List.all_eq_true.1 hcl f hf)
        have hs3 := hat s hs
        have ht3 := hat t htn
        obtain ⟨k, hk⟩ : ∃ k : Nat, atA next s w = k := ⟨(atA next s w).toNat, by omega⟩
        obtain ⟨l, hl⟩ : ∃ k : Nat, atA next t w = k := ⟨(atA next t w).toNat, by omega⟩
        have hkb := (hcf k).2 ⟨s, hs, rfl, hk⟩
        have hlb := (hcf l).2 ⟨t, htn, ho1.symm, hl⟩
        have hkl : (k : Int) ≠ l := by rw [← hk, ← hl]; exact ha1
        rw [hk, hl] at ho2
        rw [atA_snoc, atA_snoc, hk, hl] at ha
        unfold outA at ho2
        unfold stepA at ha
        have hpw := pw_all (fun a b h hh => h ⟨hh.1.symm, hh.2.symm⟩) hcf2
        refine hpw k (List.mem_map.2 ⟨k, hkb, rfl⟩) l (List.mem_map.2 ⟨l, hlb, rfl⟩) hkl ⟨?_, ?_⟩
        · rw [Int.toNat_natCast] at ho2; rw [ho2]
        · rw [Int.toNat_natCast] at ha; rw [ha]
theorem DI.word (M : Mach n o next out) (hn : n > 1) {tl : Bool} : ∀ (k : Nat) (w : List Int), w.length = k → IsW next.length w →
    match goG (dbtD next out o tl) [2 ^ n.toNat - 1] w with
    | some D => DI next out n tl w D
    | none => tl = true ∧ ∃ s t : Nat, (s : Int) < n ∧ (t : Int) < n ∧ s ≠ t ∧ outsA next out s w = outsA next out t w ∧ atA next s w = atA next t w
  | 0, w, hk, _ => by
    obtain rfl := List.eq_nil_of_length_eq_zero hk
    exact DI0 M.aut.n1 M.aut.n2 hn
  | k + 1, w, hk, hw => by
    have hne : w ≠ [] := fun e => by rw [e] at hk; simp at hk
    have e := List.dropLast_concat_getLast hne
    have hwd : IsW next.length w.dropLast := fun y hy => hw y (List.dropLast_subset w hy)
    have ih := DI.word M hn (tl := tl) k w.dropLast (by rw [List.length_dropLast]; omega) hwd
    have hx := hw _ (List.getLast_mem hne)
    obtain ⟨x, hxe⟩ : ∃ x : Nat, w.getLast hne = x := ⟨(w.getLast hne).toNat, by omega⟩
    rw [hxe] at e hx
    rw [← e]
    generalize w.dropLast = u at ih hwd e
    rw [goG_snoc, Int.toNat_natCast]
    cases hg : goG (dbtD next out o tl) [2 ^ n.toNat - 1] u with
    | none =>
      rw [hg] at ih
      simp only [Option.bind_none]
      obtain ⟨h1, s, t, h2, h3, h4, h5, h6⟩ := ih
      exact ⟨h1, s, t, h2, h3, h4, by rw [outsA_snoc, outsA_snoc, h5, h6], by rw [atA_snoc, atA_snoc, h6]⟩
    | some D =>
      rw [hg] at ih
      simp only [Option.bind_some]
      exact ih.goes M hwd (by omega)
theorem homB_iff {tl : Bool} {w : List Int} : homB next out tl n w = true ↔ ∀ s t : Nat, (s : Int) < n → (t : Int) < n → s ≠ t → outsA next out s w = outsA next out t w → tl = false ∧ atA next s w = atA next t w := by
  have key : ∀ s t : Nat, prB next out w (hmP tl) s t = true ↔ (outsA next out s w = outsA next out t w → tl = false ∧ atA next s w = atA next t w) := fun s t => by
    unfold prB hmP
    by_cases h : outsA next out s w = outsA next out t w
    · simp [h]
    · simp [h]
  unfold homB allP
  simp only [List.all_eq_true, List.mem_range, key]
  constructor
  · intro h s t hs ht hst ho
    rcases Nat.lt_or_ge t s with h1 | h1
    · exact h s (by omega) t h1 ho
    · obtain ⟨h2, h3⟩ := h t (by omega) s (by omega) ho.symm
      exact ⟨h2, h3.symm⟩
  · intro h s hs t ht ho
    exact h s t (by omega) (by omega) (by omega) ho
theorem hom_go (M : Mach n o next out) (hn : n > 1) {tl : Bool} {w : List Int} (hw : IsW next.length w) : homB next out tl n w = true ↔ goG (dbtD next out o tl) [2 ^ n.toNat - 1] w = some [] := by
  have n1 := M.aut.n1
  have n2 := M.aut.n2
  have hN : 2 ^ n.toNat ≤ 1024 := Nat.pow_le_pow_right (n := 2) (by omega) (show n.toNat ≤ 10 by omega)
  have h := DI.word M hn (tl := tl) w.length w rfl hw
  rw [homB_iff]
  cases hg : goG (dbtD next out o tl) [2 ^ n.toNat - 1] w with
  | none =>
    rw [hg] at h
    obtain ⟨h1, s, t, h2, h3, h4, h5, h6⟩ := h
    refine ⟨fun hh => ?_, fun hh => by cases hh⟩
    have := (hh s t h2 h3 h4 h5).1
    rw [h1] at this; cases this
  | some D =>
    rw [hg] at h
    rw [Option.some.injEq]
    constructor
    · intro hh
      refine Classical.byContradiction fun hD => ?_
      obtain ⟨f, hf⟩ := List.exists_mem_of_ne_nil D hD
      obtain ⟨r, hr⟩ := h.cl f hf
      obtain ⟨u, v, hu, hv, huv⟩ := ns_two (Nat.lt_of_lt_of_le (h.db.el f hf).1 hN) (h.db.el f hf).2
      obtain ⟨s, hs1, hs2, hs3⟩ := (hr u).1 hu
      obtain ⟨t, ht1, ht2, ht3⟩ := (hr v).1 hv
      have := (hh s t hs1 ht1 (fun e => by rw [e, ht3] at hs3; exact huv (by omega)) (by rw [hs2, ht2])).2
      rw [hs3, ht3] at this
      exact huv (by omega)
    · rintro rfl s t hs ht hst ho
      have ha : atA next s w = atA next t w := Classical.byContradiction fun hne => by
        obtain ⟨f, hf, _⟩ := h.ex s t hs ht ho hne
        simp at hf
      refine ⟨?_, ha⟩
      cases tl with
      | false => rfl
      | true => exact absurd ha (h.inj rfl s t hs ht hst ho)
end
end Go.Ab
namespace Go.Ab
theorem DB.mono {n m : Nat} {q : List Nat} (h : DB n q) (hm : n ≤ m) : DB m q :=
  ⟨h.lt, fun f hf => ⟨Nat.lt_of_lt_of_le (h.el f hf).1 (Nat.pow_le_pow_right (by omega) hm), (h.el f hf).2⟩, by have := h.sm; omega⟩
def nsL : List Nat := (List.range 32).filter fun f => !smallN f
def cand5 : List (List Nat) := [] :: (nsL.map fun f => [f]) ++ nsL.flatMap fun f => (nsL.filter fun g => decide (f < g)).map fun g => [f, g]
theorem cand5_len : cand5.length = 352 := by decide +kernel
theorem enough5 {n : Nat} (hn : n ≤ 5) : Enough n 353 := by
  intro L hd hD
  have h := len_sub hd (ps := cand5) fun q hq => by
    obtain ⟨p, hp, rfl⟩ := List.mem_map.1 hq
    have hq := (hD p hp).mono hn
    have hl := hq.len (by omega)
    have hm : ∀ f ∈ p.1, f ∈ nsL := fun f hf => by
      obtain ⟨h1, h2⟩ := hq.el f hf
      simp only [nsL, List.mem_filter, List.mem_range, h2, Bool.not_false, and_true]
      exact h1
    have hlt := hq.lt
    generalize p.1 = q at hl hm hlt
    match q, hl, hm, hlt with
    | [], _, _, _ => simp [cand5]
    | [f], _, hm, _ => simp [cand5, hm f (by simp)]
    | [f, g], _, hm, hlt =>
      have h1 := hm f (by simp)
      have h2 := hm g (by simp)
      have h3 : f < g := by simpa using hlt
      simp only [cand5, List.mem_append, List.mem_cons, List.mem_flatMap, List.mem_map, List.mem_filter, decide_eq_true_eq]
      exact .inr ⟨f, h1, g, ⟨h2, h3⟩, rfl⟩
    | _ :: _ :: _ :: _, hl, _, _ => simp at hl; omega
  rw [List.length_map, cand5_len] at h
  omega
section
variable {n o : Int} {next out : List (List Int)}
theorem dbtT_GI (M : Mach n o next out) (hn : n > 1) {tl : Bool} {F : Nat} (hF : Enough n.toNat F) :
    GI (dbtD next out o tl) (DB n.toNat) next.length ([], []) [2 ^ n.toNat - 1] (dbtT next out o tl n F).length 0 (dbtT next out o tl n F) := by
  have hF0 : 0 < F := by have := hF [] (by simp) (by simp); simpa using this
  refine GI.run (N := F - 1) (fun p y q hp hy h => dbt_DB M hp hy h) (fun L h1 h2 => ?_) F 0 [([2 ^ n.toNat - 1], [])] (GI0 (DB_all M.aut.n1 M.aut.n2 hn)) (by simp) (by omega)
  have := hF L h1 h2; omega
def LenI {σ : Type} (d : σ × List Int) (L : List (σ × List Int)) : Prop := ∀ k, k < L.length → (L.getD k d).2.length ≤ k
theorem LenI.vis {σ : Type} [DecidableEq σ] {δ : σ → Nat → Option σ} {d : σ × List Int} {p : σ} {w : List Int} {L : List (σ × List Int)} (h : LenI d L) (hw : w.length < L.length) : ∀ x, LenI d (visG δ p w x L)
  | 0 => h
  | x + 1 => by
    have ih := LenI.vis (δ := δ) (p := p) h hw x
    obtain ⟨t, ht⟩ := visG_pre (δ := δ) (p := p) (w := w) x L
    simp only [visG]
    cases δ p x with
    | none => exact ih
    | some q =>
      simp only
      split
      · exact ih
      · intro k hk
        rw [List.length_append, List.length_singleton] at hk
        by_cases e : k < (visG δ p w x L).length
        · rw [appG_getD e]; exact ih k e
        · obtain rfl : k = (visG δ p w x L).length := by omega
          rw [lastG_getD, List.length_append, List.length_singleton, ht, List.length_append]; omega
theorem LenI.run {σ : Type} [DecidableEq σ] {δ : σ → Nat → Option σ} {d : σ × List Int} {m : Nat} : ∀ (F i : Nat) (L : List (σ × List Int)), LenI d L → LenI d (runG δ m d F i L)
  | 0, _, _, h => h
  | F + 1, i, L, h => by
    simp only [runG]
    split
    · rename_i hi
      exact LenI.run F (i + 1) _ (h.vis (by have := h i hi; omega) m)
    · exact h
theorem hom_first (M : Mach n o next out) (hn : n > 1) {tl : Bool} {F : Nat} (hF : Enough n.toNat F) :
    match qT (dbtT next out o tl n F) with
    | some w => homB next out tl n w = true ∧ IsW next.length w ∧ w.length < F ∧ w.length ≤ 2000 ∧ ∀ v, IsW next.length v → homB next out tl n v = true → befP v w = false
    | none => qC (dbtT next out o tl n F) ≠ 3 → ∀ v, IsW next.length v → homB next out tl n v = false := by
  have G := dbtT_GI M hn (tl := tl) hF
  have hL : LenI (([], []) : List Nat × List Int) (dbtT next out o tl n F) := LenI.run F 0 _ fun k hk => by
    have : k = 0 := by simpa using hk
    subst this; simp
  have hTF : (dbtT next out o tl n F).length < F := hF _ G.nd G.rg
  have hfst := G.first fun q => q.isEmpty
  generalize dbtT next out o tl n F = T at G hL hTF hfst
  cases hq : qT T with
  | some w =>
    unfold qT at hq
    rw [Option.map_eq_some_iff] at hq
    obtain ⟨p, hp, rfl⟩ := hq
    have hf : T.find? (fun p => p.1.isEmpty) = some p := by
      rw [← List.take_append_drop 2001 T, List.find?_append, hp]; rfl
    rw [hf] at hfst
    obtain ⟨q, w⟩ := p
    obtain ⟨h1, h2, h3, h4⟩ := hfst
    obtain rfl : q = [] := by simpa using h2
    obtain ⟨k, hk, hg⟩ := List.getElem_of_mem (List.mem_of_find?_eq_some hp)
    rw [List.length_take] at hk
    have hkT : k < T.length := by omega
    have hlk := hL k hkT
    rw [List.getElem_take] at hg
    rw [List.getD_eq_getElem?_getD, List.getElem?_eq_getElem hkT, Option.getD_some, hg] at hlk
    have hlk : w.length ≤ k := hlk
    refine ⟨(hom_go M hn h3).2 h1, h3, by show w.length < F; omega, by show w.length ≤ 2000; omega, fun v hv hh => ?_⟩
    exact h4 v hv [] ((hom_go M hn hv).1 hh) rfl
  | none =>
    intro hc v hv
    have hTl : T.length ≤ 2000 := by
      refine Classical.byContradiction fun h => hc ?_
      unfold qC
      rw [hq, if_neg (by simp), if_pos (by omega)]
    have hf : T.find? (fun p => p.1.isEmpty) = none := by
      unfold qT at hq
      rw [List.take_of_length_le (by omega)] at hq
      simpa using hq
    rw [hf] at hfst
    cases hh : homB next out tl n v with
    | false => rfl
    | true =>
      have := hfst v hv [] ((hom_go M hn hv).1 hh)
      simp at this
theorem hom_app {tl : Bool} {w v : List Int} (hw : IsW next.length w) (M : Mach n o next out) (h : homB next out tl n w = true) (hv : IsW next.length v) : homB next out false n (w ++ v) = true := by
  rw [homB_iff] at h ⊢
  intro s t hs ht hst ho
  have hsplit : ∀ (v w : List Int) (s : Int), outsA next out s (w ++ v) = outsA next out s w ++ outsA next out (atA next s w) v := by
    intro v w
    induction w with
    | nil => intro s; rfl
    | cons x w ih => intro s; simp only [List.cons_append, outsA, ih]; rfl
  rw [hsplit, hsplit] at ho
  have ho1 := (List.append_inj ho (by rw [outsA_len, outsA_len])).1
  have := (h s t hs ht hst ho1).2
  exact ⟨rfl, by rw [atA_app, atA_app, this]⟩
theorem tell_hom {w : List Int} (h : homB next out true n w = true) : homB next out false n w = true := by
  rw [homB_iff] at h ⊢
  intro s t hs ht hst ho
  have := (h s t hs ht hst ho).1
  cases this
theorem hom_one {tl : Bool} {w : List Int} (hn : n = 1) : homB next out tl n w = true := by
  rw [homB_iff]
  intro s t hs ht hst _
  omega
end
end Go.Ab
