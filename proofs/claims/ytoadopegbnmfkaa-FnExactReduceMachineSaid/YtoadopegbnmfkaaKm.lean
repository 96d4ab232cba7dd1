/- Contracts of the functions with which the exact laws measure, copy and compare what comes in. Conditions: none. -/
import Derived.Test.YtoadopegbnmfkaaKe
import Derived.Test.YtoadopegbnmfkaaM7
set_option linter.all false
namespace Go.Ab
open Go.Proofs
set_option maxRecDepth 20000
set_option maxHeartbeats 1000000

theorem k_szInt64S (xs : List Int) (left : Int) (h : 0 ≤ left ∧ left ≤ 4611686018427387904) :
    Fun Try.prog n_laws_szInt64S [.ro none 1 (ints xs), iv left] (iv (if left - xs.length < 0 then -1 else left - xs.length)) := by
  refine fun_of mixed c_laws_szInt64S rfl ⟨rfl, trivial⟩ ?_
  simp only [B_laws_szInt64S_3, B_laws_szInt64S_4, B_laws_szInt64S_2, B_laws_szInt64S_1, A_laws_szInt64S, go_sem, adopt_fun, Int.reduceLT, Int.reduceLE, Int.reduceToNat, Int.reduceNeg, Nat.reduceLT, Nat.reduceLeDiff, Nat.reduceMul, Nat.reduceSub, reduceIte, Nat.reduceEqDiff, Nat.reduceAdd, reduceCtorEq]
  intro hM
  have hM2 := maxLen_le
  rw [w64 (by omega)]
  by_cases hl : left - xs.length < 0
  · simp [hl]
  · simp [hl]

def szRows : List (List Int) → Int → Int
  | [], l => l
  | xs :: r, l => if l - xs.length < 0 then -1 else szRows r (l - xs.length)
def szLL (xss : List (List Int)) (l : Int) : Int := if l - xss.length < 0 then -1 else szRows xss (l - xss.length)

theorem szRows_ge : ∀ (xss : List (List Int)) (l : Int), 0 ≤ szRows xss l → 0 ≤ l → (∀ xs ∈ xss, (xs.length : Int) ≤ l) ∧ szRows xss l ≤ l
  | [], l, _, _ => ⟨by simp, by simp [szRows]⟩
  | xs :: r, l, h, hl => by
    simp only [szRows] at h ⊢
    split at h
    · omega
    · rename_i hlt
      obtain ⟨h1, h2⟩ := szRows_ge r _ h (by omega)
      rw [if_neg hlt]
      refine ⟨?_, by omega⟩
      intro ys hy
      rcases List.mem_cons.1 hy with rfl | hy
      · omega
      · have := h1 ys hy; omega

theorem szLL_ge {xss : List (List Int)} {l : Int} (h : 0 ≤ szLL xss l) : (xss.length : Int) ≤ l ∧ (∀ xs ∈ xss, (xs.length : Int) ≤ l) ∧ szLL xss l ≤ l := by
  unfold szLL at h ⊢
  split at h
  · omega
  · rename_i hlt
    obtain ⟨h1, h2⟩ := szRows_ge xss _ h (by omega)
    rw [if_neg hlt]
    exact ⟨by omega, fun xs hx => by have := h1 xs hx; omega, by omega⟩

theorem k_szInt64SS (xss : List (List Int)) (left : Int) (h : 0 ≤ left ∧ left ≤ 4611686018427387904) :
    Fun Try.prog n_laws_szInt64SS [.ro none 1 (rwn xss), iv left] (iv (szLL xss left)) := by
  refine fun_of mixed c_laws_szInt64SS rfl ⟨rfl, trivial⟩ ?_
  simp only [A_laws_szInt64SS, B_laws_szInt64SS_1, go_sem, adopt_fun, Int.reduceLT, Int.reduceLE, Int.reduceToNat, Int.reduceNeg, Nat.reduceLT, Nat.reduceLeDiff, Nat.reduceMul, Nat.reduceSub, reduceIte, Nat.reduceEqDiff, Nat.reduceAdd, reduceCtorEq]
  intro hM
  have hM2 := maxLen_le
  have hw : IntKind.i64.wrap (left - (xss.length : Int)) = left - xss.length := w64 (by omega)
  by_cases hl : left - xss.length < 0
  · simp only [B_laws_szInt64SS_2, B_laws_szInt64SS_3, hw, decide_eq_true hl, go_sem, adopt_fun, Int.reduceLT, Int.reduceLE, Int.reduceToNat, Int.reduceNeg, Nat.reduceLT, Nat.reduceLeDiff, Nat.reduceMul, Nat.reduceSub, reduceIte, Nat.reduceEqDiff, Nat.reduceAdd, reduceCtorEq]
    rw [szLL, if_pos hl]
  · simp only [B_laws_szInt64SS_2, B_laws_szInt64SS_3, hw, decide_eq_false hl, go_sem, adopt_fun, Int.reduceLT, Int.reduceLE, Int.reduceToNat, Int.reduceNeg, Nat.reduceLT, Nat.reduceLeDiff, Nat.reduceMul, Nat.reduceSub, reduceIte, Nat.reduceEqDiff, Nat.reduceAdd, reduceCtorEq]
    simp only [B_laws_szInt64SS_4, B_laws_szInt64SS_5, go_sem, adopt_fun, Int.reduceLT, Int.reduceLE, Int.reduceToNat, Int.reduceNeg, Nat.reduceLT, Nat.reduceLeDiff, Nat.reduceMul, Nat.reduceSub, reduceIte, Nat.reduceEqDiff, Nat.reduceAdd, reduceCtorEq]
    refine wpD_lo (fun (i, _) => xss.length - i) (fun (i, l) => i ≤ xss.length ∧ 0 ≤ l ∧ l ≤ left ∧ szRows (xss.drop i) l = szLL xss left)
      (fun ((i, l) : Nat × Int) => ⟨L .any [(0, .ro none 1 (rwn xss)), (1, iv l), (5, iv i)], L .gone []⟩) (0, left - xss.length) ⟨by omega, by omega, by omega, by rw [szLL, if_neg hl]; rfl⟩ (by simp only [B_laws_szInt64SS_6, go_sem, adopt_fun, Int.reduceLT, Int.reduceLE, Int.reduceToNat, Int.reduceNeg, Nat.reduceLT, Nat.reduceLeDiff, Nat.reduceMul, Nat.reduceSub, reduceIte, Nat.reduceEqDiff, Nat.reduceAdd, reduceCtorEq]; try rfl) ?_
    rintro ⟨i, l⟩ ⟨hi, h0, h1, he⟩
    by_cases hlt : (i : Int) < xss.length
    · have hlt1 : i < xss.length := by omega
      simp only [B_laws_szInt64SS_6, B_laws_szInt64SS_7, B_laws_szInt64SS_8, rwn_getD hlt1, decide_eq_true hlt, go_sem, adopt_fun, Int.reduceLT, Int.reduceLE, Int.reduceToNat, Int.reduceNeg, Nat.reduceLT, Nat.reduceLeDiff, Nat.reduceMul, Nat.reduceSub, reduceIte, Nat.reduceEqDiff, Nat.reduceAdd, reduceCtorEq]
      intro hM vs
      refine ⟨⟨by omega, hlt1⟩, hlt1, ?_⟩
      refine call_fun (k_szInt64S (xss.getD i []) l (by omega)) qCS trivial ?_
      rw [drop_getD hlt1 []] at he
      simp only [szRows] at he
      by_cases hs : l - (xss.getD i []).length < 0
      · simp only [B_laws_szInt64SS_9, B_laws_szInt64SS_10, if_pos hs, decide_true, go_sem, adopt_fun, Int.reduceLT, Int.reduceLE, Int.reduceToNat, Int.reduceNeg, Nat.reduceLT, Nat.reduceLeDiff, Nat.reduceMul, Nat.reduceSub, reduceIte, Nat.reduceEqDiff, Nat.reduceAdd, reduceCtorEq]
        rw [if_pos hs] at he
        rw [← he]
      · simp only [B_laws_szInt64SS_9, B_laws_szInt64SS_10, if_neg hs, decide_eq_false hs, go_sem, adopt_fun, Int.reduceLT, Int.reduceLE, Int.reduceToNat, Int.reduceNeg, Nat.reduceLT, Nat.reduceLeDiff, Nat.reduceMul, Nat.reduceSub, reduceIte, Nat.reduceEqDiff, Nat.reduceAdd, reduceCtorEq]
        rw [if_neg hs] at he
        simp only [B_laws_szInt64SS_11, nat1 i _ hlt1 hM, go_sem, adopt_fun, Int.reduceLT, Int.reduceLE, Int.reduceToNat, Int.reduceNeg, Nat.reduceLT, Nat.reduceLeDiff, Nat.reduceMul, Nat.reduceSub, reduceIte, Nat.reduceEqDiff, Nat.reduceAdd, reduceCtorEq]
        exact ⟨(i + 1, _), by dsimp only; omega, ⟨by dsimp only; omega, by dsimp only; omega, by dsimp only; omega, he⟩, rfl⟩
    · have : i = xss.length := by omega
      subst this
      rw [List.drop_length] at he
      simp only [szRows] at he
      simp only [B_laws_szInt64SS_6, B_laws_szInt64SS_7, B_laws_szInt64SS_8, B_laws_szInt64SS_12, decide_eq_false hlt, go_sem, adopt_fun, Int.reduceLT, Int.reduceLE, Int.reduceToNat, Int.reduceNeg, Nat.reduceLT, Nat.reduceLeDiff, Nat.reduceMul, Nat.reduceSub, reduceIte, Nat.reduceEqDiff, Nat.reduceAdd, reduceCtorEq]
      intro _
      rw [← he]

theorem k_eqInt64S (xs ys : List Int) : Fun Try.prog n_laws_eqInt64S [.ro none 1 (ints xs), .ro none 1 (ints ys)] (bv (decide (xs = ys))) := by
  refine fun_of mixed c_laws_eqInt64S rfl ⟨rfl, trivial⟩ ?_
  simp only [A_laws_eqInt64S, B_laws_eqInt64S_1, go_sem, adopt_fun, Int.reduceLT, Int.reduceLE, Int.reduceToNat, Int.reduceNeg, Nat.reduceLT, Nat.reduceLeDiff, Nat.reduceMul, Nat.reduceSub, reduceIte, Nat.reduceEqDiff, Nat.reduceAdd, reduceCtorEq]
  intro hx hy
  by_cases hlen : xs.length = ys.length
  · have hne : ((xs.length : Int) != (ys.length : Int)) = false := by rw [hlen]; simp
    simp only [hne, B_laws_eqInt64S_2, B_laws_eqInt64S_3, B_laws_eqInt64S_4, go_sem, adopt_fun, Int.reduceLT, Int.reduceLE, Int.reduceToNat, Int.reduceNeg, Nat.reduceLT, Nat.reduceLeDiff, Nat.reduceMul, Nat.reduceSub, reduceIte, Nat.reduceEqDiff, Nat.reduceAdd, reduceCtorEq]
    refine wpD_lo (fun i => xs.length - i) (fun i => i ≤ xs.length ∧ xs.take i = ys.take i)
      (fun i : Nat => ⟨L .any [(0, .ro none 1 (ints xs)), (1, .ro none 1 (ints ys)), (5, iv i)], L .gone []⟩) 0 (by simp) (by simp only [B_laws_eqInt64S_5, go_sem, adopt_fun, Int.reduceLT, Int.reduceLE, Int.reduceToNat, Int.reduceNeg, Nat.reduceLT, Nat.reduceLeDiff, Nat.reduceMul, Nat.reduceSub, reduceIte, Nat.reduceEqDiff, Nat.reduceAdd, reduceCtorEq]; try rfl) ?_
    rintro i ⟨hi, hti⟩
    by_cases hlt : (i : Int) < xs.length
    · have hlt1 : i < xs.length := by omega
      have hlt2 : i < ys.length := by omega
      simp only [B_laws_eqInt64S_5, B_laws_eqInt64S_6, B_laws_eqInt64S_7, intsK_getD hlt1, intsK_getD hlt2, decide_eq_true hlt, go_sem, adopt_fun, Int.reduceLT, Int.reduceLE, Int.reduceToNat, Int.reduceNeg, Nat.reduceLT, Nat.reduceLeDiff, Nat.reduceMul, Nat.reduceSub, reduceIte, Nat.reduceEqDiff, Nat.reduceAdd, reduceCtorEq]
      intro _
      refine ⟨⟨by omega, hlt1⟩, hlt1, ⟨by omega, hlt2⟩, hlt2, ?_⟩
      simp only [B_laws_eqInt64S_8, B_laws_eqInt64S_9, nat1 i _ hlt1 hx, go_sem, adopt_fun, Int.reduceLT, Int.reduceLE, Int.reduceToNat, Int.reduceNeg, Nat.reduceLT, Nat.reduceLeDiff, Nat.reduceMul, Nat.reduceSub, reduceIte, Nat.reduceEqDiff, Nat.reduceAdd, reduceCtorEq]
      refine ⟨fun h => ?_, fun h => ⟨i + 1, by omega, ⟨by omega, take_eq_step 0 hlt1 hlt2 hti (bne_false_eq h)⟩, rfl⟩⟩
      have : xs ≠ ys := by rintro rfl; simp at h
      simp [this]
    · have : i = xs.length := by omega
      subst this
      simp only [B_laws_eqInt64S_5, B_laws_eqInt64S_6, B_laws_eqInt64S_7, B_laws_eqInt64S_10, decide_eq_false hlt, go_sem, adopt_fun, Int.reduceLT, Int.reduceLE, Int.reduceToNat, Int.reduceNeg, Nat.reduceLT, Nat.reduceLeDiff, Nat.reduceMul, Nat.reduceSub, reduceIte, Nat.reduceEqDiff, Nat.reduceAdd, reduceCtorEq]
      intro _
      have : xs = ys := by rw [List.take_length, hlen, List.take_length] at hti; exact hti
      simp [this]
  · have hne : ((xs.length : Int) != (ys.length : Int)) = true := by simp; omega
    simp only [hne, B_laws_eqInt64S_2, go_sem, adopt_fun, Int.reduceLT, Int.reduceLE, Int.reduceToNat, Int.reduceNeg, Nat.reduceLT, Nat.reduceLeDiff, Nat.reduceMul, Nat.reduceSub, reduceIte, Nat.reduceEqDiff, Nat.reduceAdd, reduceCtorEq]
    have : xs ≠ ys := by rintro rfl; exact hlen rfl
    simp [this]

theorem take_eq_step' {α : Type} {xs ys : List α} {i : Nat} (d : α) (h : i < xs.length) (h' : i < ys.length) (he : xs.take i = ys.take i) (hx : xs.getD i d = ys.getD i d) : xs.take (i + 1) = ys.take (i + 1) := by
  rw [List.getD_eq_getElem?_getD, List.getD_eq_getElem?_getD, List.getElem?_eq_getElem h, List.getElem?_eq_getElem h'] at hx
  simp only [Option.getD_some] at hx
  rw [List.take_succ_eq_append_getElem h, List.take_succ_eq_append_getElem h', he, hx]

theorem k_eqInt64SS (xss yss : List (List Int)) : Fun Try.prog n_laws_eqInt64SS [.ro none 1 (rwn xss), .ro none 1 (rwn yss)] (bv (decide (xss = yss))) := by
  refine fun_of mixed c_laws_eqInt64SS rfl ⟨rfl, trivial⟩ ?_
  simp only [A_laws_eqInt64SS, B_laws_eqInt64SS_1, go_sem, adopt_fun, Int.reduceLT, Int.reduceLE, Int.reduceToNat, Int.reduceNeg, Nat.reduceLT, Nat.reduceLeDiff, Nat.reduceMul, Nat.reduceSub, reduceIte, Nat.reduceEqDiff, Nat.reduceAdd, reduceCtorEq]
  intro hx hy
  by_cases hlen : xss.length = yss.length
  · have hne : ((xss.length : Int) != (yss.length : Int)) = false := by rw [hlen]; simp
    simp only [hne, B_laws_eqInt64SS_2, B_laws_eqInt64SS_3, B_laws_eqInt64SS_4, go_sem, adopt_fun, Int.reduceLT, Int.reduceLE, Int.reduceToNat, Int.reduceNeg, Nat.reduceLT, Nat.reduceLeDiff, Nat.reduceMul, Nat.reduceSub, reduceIte, Nat.reduceEqDiff, Nat.reduceAdd, reduceCtorEq]
    refine wpD_lo (fun i => xss.length - i) (fun i => i ≤ xss.length ∧ xss.take i = yss.take i)
      (fun i : Nat => ⟨L .any [(0, .ro none 1 (rwn xss)), (1, .ro none 1 (rwn yss)), (5, iv i)], L .gone []⟩) 0 (by simp) (by simp only [B_laws_eqInt64SS_5, go_sem, adopt_fun, Int.reduceLT, Int.reduceLE, Int.reduceToNat, Int.reduceNeg, Nat.reduceLT, Nat.reduceLeDiff, Nat.reduceMul, Nat.reduceSub, reduceIte, Nat.reduceEqDiff, Nat.reduceAdd, reduceCtorEq]; try rfl) ?_
    rintro i ⟨hi, hti⟩
    by_cases hlt : (i : Int) < xss.length
    · have hlt1 : i < xss.length := by omega
      have hlt2 : i < yss.length := by omega
      simp only [B_laws_eqInt64SS_5, B_laws_eqInt64SS_6, B_laws_eqInt64SS_7, rwn_getD hlt1, rwn_getD hlt2, decide_eq_true hlt, go_sem, adopt_fun, Int.reduceLT, Int.reduceLE, Int.reduceToNat, Int.reduceNeg, Nat.reduceLT, Nat.reduceLeDiff, Nat.reduceMul, Nat.reduceSub, reduceIte, Nat.reduceEqDiff, Nat.reduceAdd, reduceCtorEq]
      intro _ vs
      refine ⟨⟨by omega, hlt1⟩, hlt1, ⟨by omega, hlt2⟩, hlt2, ?_⟩
      refine call_fun (k_eqInt64S (xss.getD i []) (yss.getD i [])) qCS trivial ?_
      simp only [B_laws_eqInt64SS_8, B_laws_eqInt64SS_9, nat1 i _ hlt1 hx, go_sem, adopt_fun, Int.reduceLT, Int.reduceLE, Int.reduceToNat, Int.reduceNeg, Nat.reduceLT, Nat.reduceLeDiff, Nat.reduceMul, Nat.reduceSub, reduceIte, Nat.reduceEqDiff, Nat.reduceAdd, reduceCtorEq]
      refine ⟨fun h => ?_, fun h => ⟨i + 1, by omega, ⟨by omega, take_eq_step' [] hlt1 hlt2 hti (by simpa using h)⟩, rfl⟩⟩
      have : xss ≠ yss := by rintro rfl; simp at h
      simp [this]
    · have : i = xss.length := by omega
      subst this
      simp only [B_laws_eqInt64SS_5, B_laws_eqInt64SS_6, B_laws_eqInt64SS_7, B_laws_eqInt64SS_10, decide_eq_false hlt, go_sem, adopt_fun, Int.reduceLT, Int.reduceLE, Int.reduceToNat, Int.reduceNeg, Nat.reduceLT, Nat.reduceLeDiff, Nat.reduceMul, Nat.reduceSub, reduceIte, Nat.reduceEqDiff, Nat.reduceAdd, reduceCtorEq]
      intro _
      have : xss = yss := by rw [List.take_length, hlen, List.take_length] at hti; exact hti
      simp [this]
  · have hne : ((xss.length : Int) != (yss.length : Int)) = true := by simp; omega
    simp only [hne, B_laws_eqInt64SS_2, go_sem, adopt_fun, Int.reduceLT, Int.reduceLE, Int.reduceToNat, Int.reduceNeg, Nat.reduceLT, Nat.reduceLeDiff, Nat.reduceMul, Nat.reduceSub, reduceIte, Nat.reduceEqDiff, Nat.reduceAdd, reduceCtorEq]
    have : xss ≠ yss := by rintro rfl; exact hlen rfl
    simp [this]

theorem intsK_take {k : IntKind} {xs : List Int} {i : Nat} : (intsK k xs).take i = intsK k (xs.take i) := by simp [List.map_take]
theorem intsK_drop {k : IntKind} {xs : List Int} {i : Nat} : (intsK k xs).drop i = intsK k (xs.drop i) := by simp [List.map_drop]
theorem intsK_cat {k : IntKind} {xs ys : List Int} : intsK k xs ++ intsK k ys = intsK k (xs ++ ys) := by simp
theorem fill_step {α : Type} (xs : List α) (z d : α) (i : Nat) (h : i < xs.length) :
    ((xs.take i ++ List.replicate (xs.length - i) z).take i ++ [xs.getD i d]) ++ (xs.take i ++ List.replicate (xs.length - i) z).drop (i + 1) = xs.take (i + 1) ++ List.replicate (xs.length - (i + 1)) z := by
  have h1 : (xs.take i).length = i := by simp; omega
  have h2 : (xs.take i ++ List.replicate (xs.length - i) z).take i = xs.take i := by rw [List.take_append_of_le_length (by omega), List.take_of_length_le (by omega)]
  have h3 : (xs.take i ++ List.replicate (xs.length - i) z).drop (i + 1) = List.replicate (xs.length - (i + 1)) z := by
    rw [List.drop_append, h1, List.drop_eq_nil_of_le (by omega), List.nil_append, List.drop_replicate]
    congr 1; omega
  rw [h2, h3, List.take_succ_eq_append_getElem h]
  congr 2
  rw [List.getD_eq_getElem?_getD, List.getElem?_eq_getElem h]; rfl

theorem k_toInt64S (xs : List Int) (h : xs.length * 8 ≤ 140737488355328) : RowI Try.prog n_laws_toInt64S [.ro none 1 (ints xs)] (fun ys => ys = xs) := by
  refine rowI_of mixed c_laws_toInt64S rfl ?_
  simp only [A_laws_toInt64S, B_laws_toInt64S_1, go_sem, adopt_fun, Int.reduceLT, Int.reduceLE, Int.reduceToNat, Int.reduceNeg, Nat.reduceLT, Nat.reduceLeDiff, Nat.reduceMul, Nat.reduceSub, reduceIte, Nat.reduceEqDiff, Nat.reduceAdd, reduceCtorEq]
  intro vs hM
  have hM2 := maxLen_le
  refine ⟨by omega, ?_⟩
  simp only [B_laws_toInt64S_2, B_laws_toInt64S_3, ints_rep, go_sem, adopt_fun, Int.reduceLT, Int.reduceLE, Int.reduceToNat, Int.reduceNeg, Nat.reduceLT, Nat.reduceLeDiff, Nat.reduceMul, Nat.reduceSub, reduceIte, Nat.reduceEqDiff, Nat.reduceAdd, reduceCtorEq]
  refine wpD_lo (fun i => xs.length - i) (fun i => i ≤ xs.length)
    (fun i : Nat => ⟨L .any [(0, .ro none 1 (ints xs)), (3, .own 7 (vs 2 0)), (4, iv i)], L .gone [(7, .row (vs 2 0) 1 true (ints (xs.take i ++ List.replicate (xs.length - i) 0)))]⟩) 0 (by simp) (by simp only [B_laws_toInt64S_4, List.take_zero, Nat.sub_zero, go_sem, adopt_fun, Int.reduceLT, Int.reduceLE, Int.reduceToNat, Int.reduceNeg, Nat.reduceLT, Nat.reduceLeDiff, Nat.reduceMul, Nat.reduceSub, reduceIte, Nat.reduceEqDiff, Nat.reduceAdd, reduceCtorEq]; try rfl) ?_
  intro i hi
  by_cases hlt : (i : Int) < xs.length
  · have hlt1 : i < xs.length := by omega
    have hl : (xs.take i ++ List.replicate (xs.length - i) (0 : Int)).length = xs.length := by simp; omega
    simp only [B_laws_toInt64S_4, B_laws_toInt64S_5, B_laws_toInt64S_6, intsK_getD hlt1, decide_eq_true hlt, go_sem, adopt_fun, Int.reduceLT, Int.reduceLE, Int.reduceToNat, Int.reduceNeg, Nat.reduceLT, Nat.reduceLeDiff, Nat.reduceMul, Nat.reduceSub, reduceIte, Nat.reduceEqDiff, Nat.reduceAdd, reduceCtorEq]
    intro vs2
    refine ⟨⟨by omega, hlt1⟩, hlt1, ⟨by omega, by rw [hl]; exact hlt1⟩, ⟨by rw [hl]; exact hlt1, ?_⟩⟩
    simp only [B_laws_toInt64S_7, nat1 i _ hlt1 hM, go_sem, adopt_fun, Int.reduceLT, Int.reduceLE, Int.reduceToNat, Int.reduceNeg, Nat.reduceLT, Nat.reduceLeDiff, Nat.reduceMul, Nat.reduceSub, reduceIte, Nat.reduceEqDiff, Nat.reduceAdd, reduceCtorEq]
    refine ⟨i + 1, by omega, by omega, ?_⟩
    simp only [intsK_take, intsK_drop, dnL_ints, intsK_snoc, intsK_cat, fill_step xs 0 0 i hlt1]
  · have : i = xs.length := by omega
    subst this
    simp only [B_laws_toInt64S_4, B_laws_toInt64S_5, B_laws_toInt64S_6, B_laws_toInt64S_8, decide_eq_false hlt, go_sem, adopt_fun, Int.reduceLT, Int.reduceLE, Int.reduceToNat, Int.reduceNeg, Nat.reduceLT, Nat.reduceLeDiff, Nat.reduceMul, Nat.reduceSub, reduceIte, Nat.reduceEqDiff, Nat.reduceAdd, reduceCtorEq]
    intro _
    exact ⟨7, vs 2 0, xs, by omega, rfl, by simp only [List.take_length, Nat.sub_self, List.replicate_zero, go_sem, adopt_fun, Int.reduceLT, Int.reduceLE, Int.reduceToNat, Int.reduceNeg, Nat.reduceLT, Nat.reduceLeDiff, Nat.reduceMul, Nat.reduceSub, reduceIte, Nat.reduceEqDiff, Nat.reduceAdd, reduceCtorEq], rfl⟩

abbrev nilS : AVal := .val (.slice none 0 0)
theorem rep_flat1 {α : Type} {m : Nat} {a : α} : (List.replicate m [a]).flatten = List.replicate m a := by
  induction m with
  | zero => rfl
  | succ m ih => rw [List.replicate_succ, List.flatten_cons, ih]; rfl
theorem rwp_fill (ps : List (Nat × List Int)) (m i : Nat) (hp : ps.length = i) (hm : i < m) (n : Nat) (xs : List Int) :
    ((rwp ps ++ List.replicate (m - i) nilS).take i ++ [.ro (some (some (n + 1))) 1 (ints xs)]) ++ (rwp ps ++ List.replicate (m - i) nilS).drop (i + 1) = rwp (ps ++ [(n, xs)]) ++ List.replicate (m - (i + 1)) nilS := by
  have h1 : (rwp ps).length = i := by rw [rwp_len]; exact hp
  have h2 : (rwp ps ++ List.replicate (m - i) nilS).take i = rwp ps := by rw [List.take_append_of_le_length (by omega), List.take_of_length_le (by omega)]
  have h3 : (rwp ps ++ List.replicate (m - i) nilS).drop (i + 1) = List.replicate (m - (i + 1)) nilS := by
    rw [List.drop_append, h1, List.drop_eq_nil_of_le (by omega), List.nil_append, List.drop_replicate]
    congr 1; omega
  rw [h2, h3, rwp_snoc]

/-- Version s of a row that a call makes. -/
theorem call_rowIs {P : Program} {pu : Bool} {σ : St} {g : FuncId} {As args : List AVal} {d : Nat} {s : Nat → Nat} {K : St → Prop} {Q : List Int → Prop} (h : RowI P g args Q) (hco : CoeL σ.hp [] true args As) (hg : σ.hp d = .gone) (hex : ∃ xs, Q xs)
    (hk : ∀ xs v, Q xs → K (St.put ⟨σ.tm, upd σ.hp d (.row (s v) 1 true (ints xs))⟩ (some d) (.own d (s v)))) : wpCall P pu σ g As (some d) s K := by
  refine call_fn h hco (fun _ => ?_) ?_
  · obtain ⟨xs, hx⟩ := hex
    exact ⟨_, _, ints xs, 0, ⟨xs, rfl, hx⟩, flat_intsK, rfl, rfl⟩
  · rintro rows res ⟨cs, v, ⟨xs, rfl, hx⟩, hf, rfl, rfl⟩
    refine ⟨by simp, ?_, ?_⟩
    · rw [Option.getD_some, gone_one]; exact hg
    · rw [Option.getD_some, callHp_one, oren_row, renL_flat (ints xs) hf, List.length_singleton, ren_own_r0]
      exact hk xs v hx

theorem k_toInt64SSn (xss : List (List Int)) (h : xss.length * 24 ≤ 140737488355328) (hx : ∀ xs ∈ xss, xs.length * 8 ≤ 140737488355328) :
    Fn Try.prog n_laws_toInt64SS [.ro none 1 (rwn xss)] (fun rows res => ∃ v ps, rows = [.row v 1 true (rwp ps)] ∧ ps.map (·.2) = xss ∧ DJ ps ∧ res = .own 6000 v) := by
  refine con_of mixed c_laws_toInt64SS rfl (by simp) ?_
  simp only [A_laws_toInt64SS, B_laws_toInt64SS_1, wpD_kp, wpD_regi, go_sem, adopt_fun, Int.reduceLT, Int.reduceLE, Int.reduceToNat, Int.reduceNeg, Nat.reduceLT, Nat.reduceLeDiff, Nat.reduceMul, Nat.reduceSub, reduceIte, Nat.reduceEqDiff, Nat.reduceAdd, reduceCtorEq]
  intro vs0 U0 hN0 vs U hN hM
  have hM2 := maxLen_le
  refine ⟨by omega, ?_⟩
  simp only [B_laws_toInt64SS_2, B_laws_toInt64SS_3, rep_flat1, wpD_kp, wpD_regi, go_sem, adopt_fun, Int.reduceLT, Int.reduceLE, Int.reduceToNat, Int.reduceNeg, Nat.reduceLT, Nat.reduceLeDiff, Nat.reduceMul, Nat.reduceSub, reduceIte, Nat.reduceEqDiff, Nat.reduceAdd, reduceCtorEq]
  intro vs1 U1 hN1
  refine wpD_lp (fun ps => xss.length - List.length ps) (fun ps => List.map (·.2) ps = xss.take (List.length ps) ∧ List.length ps ≤ xss.length ∧ DJ ps)
    (fun ps : List (Nat × List Int) => ⟨L .any [(0, .ro none 1 (rwn xss)), (3, .own 7 (vs 2 0)), (4, iv ps.length)], L .gone [(7, .row (vs 2 0) 1 true (rwp ps ++ List.replicate (xss.length - ps.length) nilS)), (20, .gone), (5000, .gone)]⟩)
    [] ⟨rfl, by simp, by simp [DJ]⟩ (by simp only [B_laws_toInt64SS_4, List.length_nil, Nat.sub_zero, rwp_nil, List.nil_append, go_sem, adopt_fun, Int.reduceLT, Int.reduceLE, Int.reduceToNat, Int.reduceNeg, Nat.reduceLT, Nat.reduceLeDiff, Nat.reduceMul, Nat.reduceSub, reduceIte, Nat.reduceEqDiff, Nat.reduceAdd, reduceCtorEq]; try rfl) ?_
  rintro ps ⟨hp1, hp2, hp3⟩
  by_cases hlt : (ps.length : Int) < xss.length
  · have hlt1 : ps.length < xss.length := by omega
    have hl : (rwp ps ++ List.replicate (xss.length - ps.length) nilS).length = xss.length := by simp [rwp_len]; omega
    simp only [B_laws_toInt64SS_5, B_laws_toInt64SS_6, rwn_getD hlt1, decide_eq_true hlt, wpD_kp, wpD_regi, go_sem, adopt_fun, Int.reduceLT, Int.reduceLE, Int.reduceToNat, Int.reduceNeg, Nat.reduceLT, Nat.reduceLeDiff, Nat.reduceMul, Nat.reduceSub, reduceIte, Nat.reduceEqDiff, Nat.reduceAdd, reduceCtorEq]
    intro vs2 U2 hN2 hM3 vs3 U3 hN3
    refine ⟨⟨by omega, hlt1⟩, hlt1, ?_⟩
    refine call_rowIs (k_toInt64S (xss.getD ps.length []) (hx _ (getD_mem hlt1 _))) qCS rfl ⟨_, rfl⟩ ?_
    rintro ys v rfl
    simp only [go_sem, adopt_fun, Int.reduceLT, Int.reduceLE, Int.reduceToNat, Int.reduceNeg, Nat.reduceLT, Nat.reduceLeDiff, Nat.reduceMul, Nat.reduceSub, reduceIte, Nat.reduceEqDiff, Nat.reduceAdd, reduceCtorEq]
    refine ⟨⟨by omega, by rw [hl]; exact hlt1⟩, ⟨by rw [hl]; exact hlt1, ?_⟩⟩
    simp only [B_laws_toInt64SS_7, wpD_kp, wpD_regi, nat1 _ _ hlt1 hM, rwp_fill ps _ _ rfl hlt1, go_sem, adopt_fun, Int.reduceLT, Int.reduceLE, Int.reduceToNat, Int.reduceNeg, Nat.reduceLT, Nat.reduceLeDiff, Nat.reduceMul, Nat.reduceSub, reduceIte, Nat.reduceEqDiff, Nat.reduceAdd, reduceCtorEq]
    intro vs4 U4 hN4
    have hU := hN3.hp 7
    simp only [AObj.uses, go_sem, adopt_fun, Int.reduceLT, Int.reduceLE, Int.reduceToNat, Int.reduceNeg, Nat.reduceLT, Nat.reduceLeDiff, Nat.reduceMul, Nat.reduceSub, reduceIte, Nat.reduceEqDiff, Nat.reduceAdd, reduceCtorEq] at hU
    have hold := usesL_rwp hU.2
    refine ⟨ps ++ [(vs3 6 v, xss.getD ps.length [])], by simp; omega, ⟨?_, by simp; omega, hp3.snoc fun p hp => ?_⟩, by simp only [List.length_append, List.length_singleton]⟩
    · rw [List.map_append, hp1, List.length_append, List.length_singleton, List.take_succ_eq_append_getElem hlt1, List.getD_eq_getElem?_getD, List.getElem?_eq_getElem hlt1]; rfl
    · rcases hold p hp with h | h
      · exact .inl h
      · exact .inr fun e => hN3.new 6 v (e ▸ h)
  · have hlen : ps.length = xss.length := by omega
    rw [hlen, List.take_length] at hp1
    simp only [B_laws_toInt64SS_5, B_laws_toInt64SS_6, B_laws_toInt64SS_8, decide_eq_false hlt, wpD_kp, wpD_regi, go_sem, adopt_fun, Int.reduceLT, Int.reduceLE, Int.reduceToNat, Int.reduceNeg, Nat.reduceLT, Nat.reduceLeDiff, Nat.reduceMul, Nat.reduceSub, reduceIte, Nat.reduceEqDiff, Nat.reduceAdd, reduceCtorEq]
    intro vs2 U2 hN2 hM3 vs3 U3 hN3
    refine ⟨[7], by simp, by simp, by simp, ?_⟩
    simp only [hlen, Nat.sub_self, List.replicate_zero, List.append_nil, range1, List.length_singleton, renL_rwp, Nat.not_lt_zero, range1, ren_val, ren_any, ren_ro, rnNm_n, rnNm_sn, rnNm_o, rnNm_s, ren_st, ren_tup, renL_nil, renL_cons, renL_intsK, renL_rws, renL_rwn, oren_box, oren_row, oren_map, ren_own_e0, ren_own_e1, ren_own_e2, ren_ptr_e0, ren_mp_e0, ren_mp_e1, ren_own_r0, ren_own_r1, ren_own_r2, ren_ptr_r0, ren_mp_r0, ren_mp_r1, List.range_zero, callHp_nil, callHp_one, callHp_two, gone_nil, gone_one, gone_two, AVal.fresh, freshL, fresh_intsK, fresh_rws, AObj.fresh, id, Option.isSome_some, or_true, true_or, go_sem, adopt_fun, Int.reduceLT, Int.reduceLE, Int.reduceToNat, Int.reduceNeg, Nat.reduceLT, Nat.reduceLeDiff, Nat.reduceMul, Nat.reduceSub, reduceIte, Nat.reduceEqDiff, Nat.reduceAdd, reduceCtorEq]
    exact ⟨fresh_rwp, vs 2 0, ps, by simp, hp1, hp3, rfl⟩

end Go.Ab
