/- Contracts: certificates. Conditions: none. -/
import Derived.Test.YtojnbclanknnhaaKu
set_option linter.all false
namespace Go.Ab
open Go.Proofs
set_option maxRecDepth 20000
set_option maxHeartbeats 1000000

theorem bneF {a b : Int} (h : a = b) : (a != b) = false := by simp [h]
theorem bneT {a b : Int} (h : a ≠ b) : (a != b) = true := by simp [h]
theorem beqT {a b : Int} (h : a = b) : (a == b) = true := by simp [h]
theorem beqF {a b : Int} (h : a ≠ b) : (a == b) = false := by simp [h]

abbrev certA (kind : Int) (pairs words : List (List Int)) : AVal := .st [iv kind, .ro none 1 (rwn pairs), .ro none 1 (rwn words)]
abbrev certP (kind : Int) (pairs words : List (List Int)) : AVal := .rp [iv kind, .ro none 1 (rwn pairs), .ro none 1 (rwn words)] 0

abbrev every (n : Int) : List (List Int) := pairsL n fun _ _ => true
abbrev imgL (next : List (List Int)) (set w : List Int) : List Int := nrm (set.map fun s => atA next s w)

def mergeP (n : Int) (next pairs words : List (List Int)) : Prop := pairs.length = 0 ∧ words.length = (every n).length ∧
  ∀ i, i < (every n).length → wordB next.length (words.getD i []) = true ∧ atA next (((every n).getD i []).getD 0 0) (words.getD i []) = atA next (((every n).getD i []).getD 1 0) (words.getD i [])
def apartP (n : Int) (next pairs words : List (List Int)) : Prop := words.length = 0 ∧ 0 < pairs.length ∧
  ∀ i, i < pairs.length → pairs.getD i [] ∈ every n ∧ (0 < i → cmpL (pairs.getD (i - 1) []) (pairs.getD i []) < 0) ∧ ∀ l : Nat, l < next.length → imgL next (pairs.getD i []) [(l : Int)] ∈ pairs
open Classical in
noncomputable def rightB (n : Int) (next : List (List Int)) (kind : Int) (pairs words : List (List Int)) : Bool :=
  if kind = 1 then decide (mergeP n next pairs words) else if kind = 2 then decide (apartP n next pairs words) else false

theorem right1_t {n : Int} {next pairs words : List (List Int)} (h : mergeP n next pairs words) : rightB n next 1 pairs words = true := by simp [rightB, h]
theorem right1_f {n : Int} {next pairs words : List (List Int)} (h : ¬ mergeP n next pairs words) : rightB n next 1 pairs words = false := by simp [rightB, h]
theorem right2_t {n : Int} {next pairs words : List (List Int)} (h : apartP n next pairs words) : rightB n next 2 pairs words = true := by simp [rightB, h]
theorem right2_f {n : Int} {next pairs words : List (List Int)} (h : ¬ apartP n next pairs words) : rightB n next 2 pairs words = false := by simp [rightB, h]
theorem right_f {n kind : Int} {next pairs words : List (List Int)} (h1 : kind ≠ 1) (h2 : kind ≠ 2) : rightB n next kind pairs words = false := by simp [rightB, h1, h2]

theorem k_isRight_1 (s t : Int) : Fun Try.prog n_impl_Automaton_isRight_1 [iv s, iv t] (bv true) := by
  refine fun_of mixed c_impl_Automaton_isRight_1 rfl ⟨rfl, trivial⟩ ?_
  simp only [B_impl_Automaton_isRight_1_1, A_impl_Automaton_isRight_1, go_sem, adopt_fun, Int.reduceLT, Int.reduceLE, Int.reduceToNat, Int.reduceNeg, Nat.reduceLT, Nat.reduceLeDiff, Nat.reduceMul, Nat.reduceSub, reduceIte, Nat.reduceEqDiff, Nat.reduceAdd, reduceCtorEq]

theorem k_isRight_2_1 (q p : List Int) : Fun Try.prog n_impl_Automaton_isRight_2_1 [.ro none 1 (ints q), .rp [.ro none 1 (ints p)] 0] (bv (decide (p = q))) := by
  refine fun_of mixed c_impl_Automaton_isRight_2_1 rfl ⟨rfl, trivial⟩ ?_
  simp only [B_impl_Automaton_isRight_2_1_1, A_impl_Automaton_isRight_2_1, go_sem, adopt_fun, Int.reduceLT, Int.reduceLE, Int.reduceToNat, Int.reduceNeg, Nat.reduceLT, Nat.reduceLeDiff, Nat.reduceMul, Nat.reduceSub, reduceIte, Nat.reduceEqDiff, Nat.reduceAdd, reduceCtorEq]
  intro vs
  refine call_fun (k_Equal p q) (by simp only [rowIs, boxIs, coe_argN, coe_argNs, coe_ro_o, coeL_nil, coeL_cons, coe_any, coe_val, coe_ro, coe_ro_nil, coe_ro_own, coe_st, coe_st_agg, coe_rp, coe_rp_ptr, coe_clo, coe_own0, coe_ptr0, coeL_intsK, coeL_rws, coeL_rwn, L_hit, L_miss, L_nil, Nat.reduceEqDiff, ne_eq, reduceCtorEq, not_false_eq_true, true_and, and_true, and_self, exists_eq_left, exists_eq_right, List.mem_cons, List.not_mem_nil, or_false, AObj.row.injEq, AObj.box.injEq, exists_eq_left', exists_and_left, exists_eq, Nat.zero_lt_one, Nat.lt_add_one, List.map_cons, List.map_nil, AObj.ver, Nat.reduceLT, not_true_eq_false]) trivial ?_
  simp only [go_sem, adopt_fun, Int.reduceLT, Int.reduceLE, Int.reduceToNat, Int.reduceNeg, Nat.reduceLT, Nat.reduceLeDiff, Nat.reduceMul, Nat.reduceSub, reduceIte, Nat.reduceEqDiff, Nat.reduceAdd, reduceCtorEq]

theorem k_has (list : List (List Int)) (p : List Int) : Fun Try.prog n_impl_Automaton_isRight_2 [.ro none 1 (rwn list), .ro none 1 (ints p)] (bv (decide (p ∈ list))) := by
  refine fun_of mixed c_impl_Automaton_isRight_2 rfl ⟨rfl, trivial⟩ ?_
  simp only [B_impl_Automaton_isRight_2_1, A_impl_Automaton_isRight_2, go_sem, adopt_fun, Int.reduceLT, Int.reduceLE, Int.reduceToNat, Int.reduceNeg, Nat.reduceLT, Nat.reduceLeDiff, Nat.reduceMul, Nat.reduceSub, reduceIte, Nat.reduceEqDiff, Nat.reduceAdd, reduceCtorEq]
  intro vs vs2
  refine call_fun (k_ContainsFunc list n_impl_Automaton_isRight_2_1 [.rp [.ro none 1 (ints p)] 0] (fun q => decide (p = q)) ⟨by simp only [go_sem, adopt_fun, Int.reduceLT, Int.reduceLE, Int.reduceToNat, Int.reduceNeg, Nat.reduceLT, Nat.reduceLeDiff, Nat.reduceMul, Nat.reduceSub, reduceIte, Nat.reduceEqDiff, Nat.reduceAdd, reduceCtorEq], by intros; simp only [rowIs, boxIs, coe_argN, coe_argNs, coe_ro_o, coeL_nil, coeL_cons, coe_any, coe_val, coe_ro, coe_ro_nil, coe_ro_own, coe_st, coe_st_agg, coe_rp, coe_rp_ptr, coe_clo, coe_own0, coe_ptr0, coeL_intsK, coeL_rws, coeL_rwn, L_hit, L_miss, L_nil, Nat.reduceEqDiff, ne_eq, reduceCtorEq, not_false_eq_true, true_and, and_true, and_self, exists_eq_left, exists_eq_right, List.mem_cons, List.not_mem_nil, or_false, AObj.row.injEq, AObj.box.injEq, exists_eq_left', exists_and_left, exists_eq, Nat.zero_lt_one, Nat.lt_add_one, List.map_cons, List.map_nil, AObj.ver, Nat.reduceLT, not_true_eq_false]⟩ (fun q _ => k_isRight_2_1 q p)) (by simp only [rowIs, boxIs, coe_argN, coe_argNs, coe_ro_o, coeL_nil, coeL_cons, coe_any, coe_val, coe_ro, coe_ro_nil, coe_ro_own, coe_st, coe_st_agg, coe_rp, coe_rp_ptr, coe_clo, coe_own0, coe_ptr0, coeL_intsK, coeL_rws, coeL_rwn, L_hit, L_miss, L_nil, Nat.reduceEqDiff, ne_eq, reduceCtorEq, not_false_eq_true, true_and, and_true, and_self, exists_eq_left, exists_eq_right, List.mem_cons, List.not_mem_nil, or_false, AObj.row.injEq, AObj.box.injEq, exists_eq_left', exists_and_left, exists_eq, Nat.zero_lt_one, Nat.lt_add_one, List.map_cons, List.map_nil, AObj.ver, Nat.reduceLT, not_true_eq_false]) trivial ?_
  have e : (list.any fun q => decide (p = q)) = decide (p ∈ list) := by
    rw [Bool.eq_iff_iff]; simp
  simp only [e, go_sem, adopt_fun, Int.reduceLT, Int.reduceLE, Int.reduceToNat, Int.reduceNeg, Nat.reduceLT, Nat.reduceLeDiff, Nat.reduceMul, Nat.reduceSub, reduceIte, Nat.reduceEqDiff, Nat.reduceAdd, reduceCtorEq]

theorem every_get {n : Int} (hn : 0 ≤ n) {i : Nat} (hi : i < (every n).length) : ∃ a b : Int, 0 ≤ a ∧ a < b ∧ b < n ∧ (every n).getD i [] = [a, b] := by
  have h := (pairsL_mem hn).1 (getD_mem hi [])
  obtain ⟨a, b, h1, h2, h3, _, h4⟩ := h
  exact ⟨a, b, h1, h2, h3, h4⟩

theorem img2 {next : List (List Int)} {a b : Int} {w : List Int} : (imgL next [a, b] w).length = 1 ↔ atA next a w = atA next b w := by
  simp only [imgL, List.map_cons, List.map_nil, nrm, List.foldl_cons, List.foldl_nil, put]
  split
  · split
    · simp; omega
    · simp; omega
  · simp; omega

theorem k_isRight (n : Int) (next : List (List Int)) (kind : Int) (pairs words : List (List Int)) (A : Aut n next) :
    Fun Try.prog n_impl_Automaton_isRight [autA n next, certA kind pairs words] (bv (rightB n next kind pairs words)) := by
  refine fun_of mixed c_impl_Automaton_isRight rfl ⟨rfl, trivial⟩ ?_
  have n1 := A.n1
  have n2 := A.n2
  have l1 := A.l1
  have l2 := A.l2
  have hM := maxLen_le
  have hel := pairsL_len ⟨n1, n2⟩ (p := fun _ _ => true)
  simp only [A_impl_Automaton_isRight, B_impl_Automaton_isRight_1, go_sem, adopt_fun, Int.reduceLT, Int.reduceLE, Int.reduceToNat, Int.reduceNeg, Nat.reduceLT, Nat.reduceLeDiff, Nat.reduceMul, Nat.reduceSub, reduceIte, Nat.reduceEqDiff, Nat.reduceAdd, reduceCtorEq]
  intro vs vs2
  refine call_rowR (k_pairs n next n_impl_Automaton_isRight_1 [] (fun _ _ => true) ⟨n1, n2⟩ ⟨by simp only [go_sem, adopt_fun, Int.reduceLT, Int.reduceLE, Int.reduceToNat, Int.reduceNeg, Nat.reduceLT, Nat.reduceLeDiff, Nat.reduceMul, Nat.reduceSub, reduceIte, Nat.reduceEqDiff, Nat.reduceAdd, reduceCtorEq], by intros; simp only [rowIs, boxIs, coe_argN, coe_argNs, coe_ro_o, coeL_nil, coeL_cons, coe_any, coe_val, coe_ro, coe_ro_nil, coe_ro_own, coe_st, coe_st_agg, coe_rp, coe_rp_ptr, coe_clo, coe_own0, coe_ptr0, coeL_intsK, coeL_rws, coeL_rwn, L_hit, L_miss, L_nil, Nat.reduceEqDiff, ne_eq, reduceCtorEq, not_false_eq_true, true_and, and_true, and_self, exists_eq_left, exists_eq_right, List.mem_cons, List.not_mem_nil, or_false, AObj.row.injEq, AObj.box.injEq, exists_eq_left', exists_and_left, exists_eq, Nat.zero_lt_one, Nat.lt_add_one, List.map_cons, List.map_nil, AObj.ver, Nat.reduceLT, not_true_eq_false]⟩ (fun s t _ _ _ => k_isRight_1 s t)) (by simp only [rowIs, boxIs, coe_argN, coe_argNs, coe_ro_o, coeL_nil, coeL_cons, coe_any, coe_val, coe_ro, coe_ro_nil, coe_ro_own, coe_st, coe_st_agg, coe_rp, coe_rp_ptr, coe_clo, coe_own0, coe_ptr0, coeL_intsK, coeL_rws, coeL_rwn, L_hit, L_miss, L_nil, Nat.reduceEqDiff, ne_eq, reduceCtorEq, not_false_eq_true, true_and, and_true, and_self, exists_eq_left, exists_eq_right, List.mem_cons, List.not_mem_nil, or_false, AObj.row.injEq, AObj.box.injEq, exists_eq_left', exists_and_left, exists_eq, Nat.zero_lt_one, Nat.lt_add_one, List.map_cons, List.map_nil, AObj.ver, Nat.reduceLT, not_true_eq_false]) rfl ⟨_, rfl⟩ ?_
  rintro xss v rfl
  simp only [B_impl_Automaton_isRight_2, B_impl_Automaton_isRight_3, B_impl_Automaton_isRight_4, go_sem, adopt_fun, Int.reduceLT, Int.reduceLE, Int.reduceToNat, Int.reduceNeg, Nat.reduceLT, Nat.reduceLeDiff, Nat.reduceMul, Nat.reduceSub, reduceIte, Nat.reduceEqDiff, Nat.reduceAdd, reduceCtorEq]
  by_cases hk1 : kind = 1
  · subst hk1
    by_cases hp0 : (0 : Int) < pairs.length
    · have hf : rightB n next 1 pairs words = false := right1_f fun h => by have := h.1; omega
      simp only [B_impl_Automaton_isRight_5, B_impl_Automaton_isRight_6, beq_self_eq_true, decide_eq_true hp0, hf, go_sem, adopt_fun, Int.reduceLT, Int.reduceLE, Int.reduceToNat, Int.reduceNeg, Nat.reduceLT, Nat.reduceLeDiff, Nat.reduceMul, Nat.reduceSub, reduceIte, Nat.reduceEqDiff, Nat.reduceAdd, reduceCtorEq]
      try (intro _; trivial)
    · simp only [B_impl_Automaton_isRight_5, beq_self_eq_true, decide_eq_false hp0, go_sem, adopt_fun, Int.reduceLT, Int.reduceLE, Int.reduceToNat, Int.reduceNeg, Nat.reduceLT, Nat.reduceLeDiff, Nat.reduceMul, Nat.reduceSub, reduceIte, Nat.reduceEqDiff, Nat.reduceAdd, reduceCtorEq]
      intro hMp hMw hMe
      by_cases hle : words.length = (every n).length
      · have e0 : ((words.length : Int) != ((every n).length : Int)) = false := by simp [hle]
        simp only [B_impl_Automaton_isRight_6, B_impl_Automaton_isRight_7, B_impl_Automaton_isRight_8, e0, go_sem, adopt_fun, Int.reduceLT, Int.reduceLE, Int.reduceToNat, Int.reduceNeg, Nat.reduceLT, Nat.reduceLeDiff, Nat.reduceMul, Nat.reduceSub, reduceIte, Nat.reduceEqDiff, Nat.reduceAdd, reduceCtorEq]
        intro _
        refine wpD_lo (fun i => (every n).length - i) (fun i => i ≤ (every n).length ∧ ∀ j, j < i → wordB next.length (words.getD j []) = true ∧ atA next (((every n).getD j []).getD 0 0) (words.getD j []) = atA next (((every n).getD j []).getD 1 0) (words.getD j []))
          (fun i : Nat => ⟨L .any [(2, .ptr 2 (vs 0 0) 0), (3, .ptr 3 (vs 1 0) 0), (31, .own 14 v), (32, iv (every n).length), (33, iv i)], L .gone [(2, .box (vs 0 0) [iv n, .ro none 1 (rwn next)]), (3, .box (vs 1 0) [iv 1, .ro none 1 (rwn pairs), .ro none 1 (rwn words)]), (14, .row v 1 true (rws (every n)))]⟩) 0 ⟨by simp, fun j hj => by omega⟩ (by simp only [B_impl_Automaton_isRight_9, go_sem, adopt_fun, Int.reduceLT, Int.reduceLE, Int.reduceToNat, Int.reduceNeg, Nat.reduceLT, Nat.reduceLeDiff, Nat.reduceMul, Nat.reduceSub, reduceIte, Nat.reduceEqDiff, Nat.reduceAdd, reduceCtorEq]; try rfl) ?_
        rintro i ⟨hi, hall⟩
        by_cases hlt : (i : Int) < (every n).length
        · have hlt1 : i < (every n).length := by omega
          have hlt2 : i < words.length := by omega
          obtain ⟨a, b, ha, hab, hb, hget⟩ := every_get (by omega) hlt1
          have hni : IntKind.i64.wrap (i : Int) = i := w64 (by omega)
          simp only [B_impl_Automaton_isRight_9, B_impl_Automaton_isRight_10, B_impl_Automaton_isRight_11, B_impl_Automaton_isRight_12, B_impl_Automaton_isRight_13, rws_getD hlt1, rwn_getD hlt2, decide_eq_true hlt, go_sem, adopt_fun, Int.reduceLT, Int.reduceLE, Int.reduceToNat, Int.reduceNeg, Nat.reduceLT, Nat.reduceLeDiff, Nat.reduceMul, Nat.reduceSub, reduceIte, Nat.reduceEqDiff, Nat.reduceAdd, reduceCtorEq]
          refine ⟨⟨by omega, hlt1⟩, hlt1, ⟨by omega, hlt2⟩, hlt2, ?_⟩
          intro vs3
          refine call_fun (k_isWord n next (words.getD i []) ⟨l1, l2⟩) (by simp only [rowIs, boxIs, coe_argN, coe_argNs, coe_ro_o, coeL_nil, coeL_cons, coe_any, coe_val, coe_ro, coe_ro_nil, coe_ro_own, coe_st, coe_st_agg, coe_rp, coe_rp_ptr, coe_clo, coe_own0, coe_ptr0, coeL_intsK, coeL_rws, coeL_rwn, L_hit, L_miss, L_nil, Nat.reduceEqDiff, ne_eq, reduceCtorEq, not_false_eq_true, true_and, and_true, and_self, exists_eq_left, exists_eq_right, List.mem_cons, List.not_mem_nil, or_false, AObj.row.injEq, AObj.box.injEq, exists_eq_left', exists_and_left, exists_eq, Nat.zero_lt_one, Nat.lt_add_one, List.map_cons, List.map_nil, AObj.ver, Nat.reduceLT, not_true_eq_false]) trivial ?_
          cases hw : wordB next.length (words.getD i []) with
          | false =>
            have hf : rightB n next 1 pairs words = false := right1_f fun h => by have := (h.2.2 i hlt1).1; rw [hw] at this; cases this
            simp only [B_impl_Automaton_isRight_14, hf, go_sem, adopt_fun, Int.reduceLT, Int.reduceLE, Int.reduceToNat, Int.reduceNeg, Nat.reduceLT, Nat.reduceLeDiff, Nat.reduceMul, Nat.reduceSub, reduceIte, Nat.reduceEqDiff, Nat.reduceAdd, reduceCtorEq]
          | true =>
            simp only [go_sem, adopt_fun, Int.reduceLT, Int.reduceLE, Int.reduceToNat, Int.reduceNeg, Nat.reduceLT, Nat.reduceLeDiff, Nat.reduceMul, Nat.reduceSub, reduceIte, Nat.reduceEqDiff, Nat.reduceAdd, reduceCtorEq]
            refine call_rowI (k_image n next ((every n).getD i []) (words.getD i []) A (by rw [hget]; intro x hx; simp at hx; omega) (wordB_iff.1 hw).2 (by rw [hget]; simp)) (by simp only [rowIs, boxIs, coe_argN, coe_argNs, coe_ro_o, coeL_nil, coeL_cons, coe_any, coe_val, coe_ro, coe_ro_nil, coe_ro_own, coe_st, coe_st_agg, coe_rp, coe_rp_ptr, coe_clo, coe_own0, coe_ptr0, coeL_intsK, coeL_rws, coeL_rwn, L_hit, L_miss, L_nil, Nat.reduceEqDiff, ne_eq, reduceCtorEq, not_false_eq_true, true_and, and_true, and_self, exists_eq_left, exists_eq_right, List.mem_cons, List.not_mem_nil, or_false, AObj.row.injEq, AObj.box.injEq, exists_eq_left', exists_and_left, exists_eq, Nat.zero_lt_one, Nat.lt_add_one, List.map_cons, List.map_nil, AObj.ver, Nat.reduceLT, not_true_eq_false]) rfl ⟨_, rfl⟩ ?_
            rintro ys v4 rfl
            simp only [go_sem, adopt_fun, Int.reduceLT, Int.reduceLE, Int.reduceToNat, Int.reduceNeg, Nat.reduceLT, Nat.reduceLeDiff, Nat.reduceMul, Nat.reduceSub, reduceIte, Nat.reduceEqDiff, Nat.reduceAdd, reduceCtorEq]
            intro hM4
            have hcmp := img2 (next := next) (a := a) (b := b) (w := words.getD i [])
            rw [← hget] at hcmp
            have hg0 : ((every n).getD i []).getD 0 0 = a := by rw [hget]; rfl
            have hg1 : ((every n).getD i []).getD 1 0 = b := by rw [hget]; rfl
            by_cases hz : (imgL next ((every n).getD i []) (words.getD i [])).length = 1
            · have e4 : (((imgL next ((every n).getD i []) (words.getD i [])).length : Int) != 1) = false := bneF (by omega)
              simp only [B_impl_Automaton_isRight_14, B_impl_Automaton_isRight_15, e4, nat1 i _ hlt1 hMe, go_sem, adopt_fun, Int.reduceLT, Int.reduceLE, Int.reduceToNat, Int.reduceNeg, Nat.reduceLT, Nat.reduceLeDiff, Nat.reduceMul, Nat.reduceSub, reduceIte, Nat.reduceEqDiff, Nat.reduceAdd, reduceCtorEq]
              refine ⟨i + 1, by omega, ⟨by omega, fun j hj => ?_⟩, rfl⟩
              by_cases hji : j < i
              · exact hall j hji
              · have : j = i := by omega
                subst this
                rw [hg0, hg1]
                exact ⟨hw, hcmp.1 hz⟩
            · have e4 : (((imgL next ((every n).getD i []) (words.getD i [])).length : Int) != 1) = true := bneT (by omega)
              have hf : rightB n next 1 pairs words = false := right1_f fun h => hz (hcmp.2 (by have := (h.2.2 i hlt1).2; rwa [hg0, hg1] at this))
              simp only [B_impl_Automaton_isRight_14, e4, hf, go_sem, adopt_fun, Int.reduceLT, Int.reduceLE, Int.reduceToNat, Int.reduceNeg, Nat.reduceLT, Nat.reduceLeDiff, Nat.reduceMul, Nat.reduceSub, reduceIte, Nat.reduceEqDiff, Nat.reduceAdd, reduceCtorEq]
        · have hfin : i = (every n).length := by omega
          have ht : rightB n next 1 pairs words = true := right1_t ⟨by omega, hle, fun j hj => hall j (by omega)⟩
          simp only [B_impl_Automaton_isRight_9, B_impl_Automaton_isRight_10, B_impl_Automaton_isRight_11, B_impl_Automaton_isRight_16, decide_eq_false hlt, ht, go_sem, adopt_fun, Int.reduceLT, Int.reduceLE, Int.reduceToNat, Int.reduceNeg, Nat.reduceLT, Nat.reduceLeDiff, Nat.reduceMul, Nat.reduceSub, reduceIte, Nat.reduceEqDiff, Nat.reduceAdd, reduceCtorEq]
      · have e0 : ((words.length : Int) != ((every n).length : Int)) = true := by simp; omega
        have hf : rightB n next 1 pairs words = false := right1_f fun h => hle h.2.1
        simp only [B_impl_Automaton_isRight_6, e0, hf, go_sem, adopt_fun, Int.reduceLT, Int.reduceLE, Int.reduceToNat, Int.reduceNeg, Nat.reduceLT, Nat.reduceLeDiff, Nat.reduceMul, Nat.reduceSub, reduceIte, Nat.reduceEqDiff, Nat.reduceAdd, reduceCtorEq]
  · have e1 : (kind == 1) = false := beq_false_of_ne hk1
    by_cases hk2 : kind = 2
    · subst hk2
      by_cases hw0 : (0 : Int) < words.length
      · have hf : rightB n next 2 pairs words = false := right2_f fun h => by have := h.1; omega
        simp only [B_impl_Automaton_isRight_5, B_impl_Automaton_isRight_17, B_impl_Automaton_isRight_18, e1, beq_self_eq_true, decide_eq_true hw0, hf, go_sem, adopt_fun, Int.reduceLT, Int.reduceLE, Int.reduceToNat, Int.reduceNeg, Nat.reduceLT, Nat.reduceLeDiff, Nat.reduceMul, Nat.reduceSub, reduceIte, Nat.reduceEqDiff, Nat.reduceAdd, reduceCtorEq]
        try (intro _; trivial)
      simp only [B_impl_Automaton_isRight_5, B_impl_Automaton_isRight_17, e1, beq_self_eq_true, decide_eq_false hw0, go_sem, adopt_fun, Int.reduceLT, Int.reduceLE, Int.reduceToNat, Int.reduceNeg, Nat.reduceLT, Nat.reduceLeDiff, Nat.reduceMul, Nat.reduceSub, reduceIte, Nat.reduceEqDiff, Nat.reduceAdd, reduceCtorEq]
      intro hMw hMp
      by_cases hp0 : pairs.length = 0
      · have e0 : ((pairs.length : Int) == 0) = true := by simp [hp0]
        have hf : rightB n next 2 pairs words = false := right2_f fun h => by have := h.2.1; omega
        simp only [B_impl_Automaton_isRight_18, e0, hf, go_sem, adopt_fun, Int.reduceLT, Int.reduceLE, Int.reduceToNat, Int.reduceNeg, Nat.reduceLT, Nat.reduceLeDiff, Nat.reduceMul, Nat.reduceSub, reduceIte, Nat.reduceEqDiff, Nat.reduceAdd, reduceCtorEq]
      have e0 : ((pairs.length : Int) == 0) = false := beqF (by omega)
      simp only [B_impl_Automaton_isRight_18, B_impl_Automaton_isRight_19, B_impl_Automaton_isRight_20, e0, go_sem, adopt_fun, Int.reduceLT, Int.reduceLE, Int.reduceToNat, Int.reduceNeg, Nat.reduceLT, Nat.reduceLeDiff, Nat.reduceMul, Nat.reduceSub, reduceIte, Nat.reduceEqDiff, Nat.reduceAdd, reduceCtorEq]
      intro _
      refine wpD_lo (fun i => pairs.length - i) (fun i => i ≤ pairs.length ∧ ∀ j, j < i → pairs.getD j [] ∈ every n ∧ (0 < j → cmpL (pairs.getD (j - 1) []) (pairs.getD j []) < 0) ∧ ∀ l : Nat, l < next.length → imgL next (pairs.getD j []) [(l : Int)] ∈ pairs)
        (fun i : Nat => ⟨L .any [(2, .ptr 2 (vs 0 0) 0), (3, .ptr 3 (vs 1 0) 0), (5, .own 14 v), (6, .clo n_impl_Automaton_isRight_2 []), (69, .ro none 1 (rwn pairs)), (70, iv pairs.length), (71, iv i)], L .gone [(2, .box (vs 0 0) [iv n, .ro none 1 (rwn next)]), (3, .box (vs 1 0) [iv 2, .ro none 1 (rwn pairs), .ro none 1 (rwn words)]), (14, .row v 1 true (rws (every n)))]⟩) 0 ⟨by simp, fun j hj => by omega⟩ (by simp only [B_impl_Automaton_isRight_21, go_sem, adopt_fun, Int.reduceLT, Int.reduceLE, Int.reduceToNat, Int.reduceNeg, Nat.reduceLT, Nat.reduceLeDiff, Nat.reduceMul, Nat.reduceSub, reduceIte, Nat.reduceEqDiff, Nat.reduceAdd, reduceCtorEq]; try rfl) ?_
      rintro i ⟨hi, hall⟩
      by_cases hlt : (i : Int) < pairs.length
      · have hlt1 : i < pairs.length := by omega
        have hni : IntKind.i64.wrap (i : Int) = i := w64 (by omega)
        simp only [B_impl_Automaton_isRight_21, B_impl_Automaton_isRight_22, B_impl_Automaton_isRight_23, B_impl_Automaton_isRight_24, rwn_getD hlt1, decide_eq_true hlt, go_sem, adopt_fun, Int.reduceLT, Int.reduceLE, Int.reduceToNat, Int.reduceNeg, Nat.reduceLT, Nat.reduceLeDiff, Nat.reduceMul, Nat.reduceSub, reduceIte, Nat.reduceEqDiff, Nat.reduceAdd, reduceCtorEq]
        refine ⟨⟨by omega, hlt1⟩, hlt1, ?_⟩
        intro vs3
        refine call_fun (k_has (every n) (pairs.getD i [])) (by simp only [rowIs, boxIs, coe_argN, coe_argNs, coe_ro_o, coeL_nil, coeL_cons, coe_any, coe_val, coe_ro, coe_ro_nil, coe_ro_own, coe_st, coe_st_agg, coe_rp, coe_rp_ptr, coe_clo, coe_own0, coe_ptr0, coeL_intsK, coeL_rws, coeL_rwn, L_hit, L_miss, L_nil, Nat.reduceEqDiff, ne_eq, reduceCtorEq, not_false_eq_true, true_and, and_true, and_self, exists_eq_left, exists_eq_right, List.mem_cons, List.not_mem_nil, or_false, AObj.row.injEq, AObj.box.injEq, exists_eq_left', exists_and_left, exists_eq, Nat.zero_lt_one, Nat.lt_add_one, List.map_cons, List.map_nil, AObj.ver, Nat.reduceLT, not_true_eq_false]) trivial ?_
        by_cases hmem : pairs.getD i [] ∈ every n
        · obtain ⟨a, b, ha, hab, hb, _, hpab⟩ := (pairsL_mem (by omega)).1 hmem
          by_cases h0 : (i : Int) > 0
          · have hi1 : i - 1 < pairs.length := by omega
            have w2 : IntKind.i64.wrap ((i : Int) - 1) = ((i - 1 : Nat) : Int) := by rw [w64 (by omega)]; omega
            simp only [decide_eq_true hmem, decide_eq_true h0, w2, rwn_getD hi1, go_sem, adopt_fun, Int.reduceLT, Int.reduceLE, Int.reduceToNat, Int.reduceNeg, Nat.reduceLT, Nat.reduceLeDiff, Nat.reduceMul, Nat.reduceSub, reduceIte, Nat.reduceEqDiff, Nat.reduceAdd, reduceCtorEq]
            refine ⟨⟨by omega, hi1⟩, hi1, ?_⟩
            refine call_fun (k_CompareL (pairs.getD (i - 1) []) (pairs.getD i [])) (by simp only [rowIs, boxIs, coe_argN, coe_argNs, coe_ro_o, coeL_nil, coeL_cons, coe_any, coe_val, coe_ro, coe_ro_nil, coe_ro_own, coe_st, coe_st_agg, coe_rp, coe_rp_ptr, coe_clo, coe_own0, coe_ptr0, coeL_intsK, coeL_rws, coeL_rwn, L_hit, L_miss, L_nil, Nat.reduceEqDiff, ne_eq, reduceCtorEq, not_false_eq_true, true_and, and_true, and_self, exists_eq_left, exists_eq_right, List.mem_cons, List.not_mem_nil, or_false, AObj.row.injEq, AObj.box.injEq, exists_eq_left', exists_and_left, exists_eq, Nat.zero_lt_one, Nat.lt_add_one, List.map_cons, List.map_nil, AObj.ver, Nat.reduceLT, not_true_eq_false]) trivial ?_
            by_cases hcm : cmpL (pairs.getD (i - 1) []) (pairs.getD i []) ≥ 0
            · have hf : rightB n next 2 pairs words = false := right2_f fun h => by have := (h.2.2 i hlt1).2.1 (by omega); omega
              simp only [B_impl_Automaton_isRight_25, decide_eq_true hcm, hf, go_sem, adopt_fun, Int.reduceLT, Int.reduceLE, Int.reduceToNat, Int.reduceNeg, Nat.reduceLT, Nat.reduceLeDiff, Nat.reduceMul, Nat.reduceSub, reduceIte, Nat.reduceEqDiff, Nat.reduceAdd, reduceCtorEq]
            · simp only [B_impl_Automaton_isRight_25, B_impl_Automaton_isRight_26, decide_eq_false hcm, go_sem, adopt_fun, Int.reduceLT, Int.reduceLE, Int.reduceToNat, Int.reduceNeg, Nat.reduceLT, Nat.reduceLeDiff, Nat.reduceMul, Nat.reduceSub, reduceIte, Nat.reduceEqDiff, Nat.reduceAdd, reduceCtorEq]
              have hord : 0 < i → cmpL (pairs.getD (i - 1) []) (pairs.getD i []) < 0 := fun _ => by omega
              intro vs4
              refine call_fun (k_letters n next) (by simp only [rowIs, boxIs, coe_argN, coe_argNs, coe_ro_o, coeL_nil, coeL_cons, coe_any, coe_val, coe_ro, coe_ro_nil, coe_ro_own, coe_st, coe_st_agg, coe_rp, coe_rp_ptr, coe_clo, coe_own0, coe_ptr0, coeL_intsK, coeL_rws, coeL_rwn, L_hit, L_miss, L_nil, Nat.reduceEqDiff, ne_eq, reduceCtorEq, not_false_eq_true, true_and, and_true, and_self, exists_eq_left, exists_eq_right, List.mem_cons, List.not_mem_nil, or_false, AObj.row.injEq, AObj.box.injEq, exists_eq_left', exists_and_left, exists_eq, Nat.zero_lt_one, Nat.lt_add_one, List.map_cons, List.map_nil, AObj.ver, Nat.reduceLT, not_true_eq_false]) trivial ?_
              simp only [B_impl_Automaton_isRight_27, go_sem, adopt_fun, Int.reduceLT, Int.reduceLE, Int.reduceToNat, Int.reduceNeg, Nat.reduceLT, Nat.reduceLeDiff, Nat.reduceMul, Nat.reduceSub, reduceIte, Nat.reduceEqDiff, Nat.reduceAdd, reduceCtorEq]
              refine wpD_lo (fun k => next.length - k) (fun k => k ≤ next.length ∧ ∀ l : Nat, l < k → imgL next (pairs.getD i []) [(l : Int)] ∈ pairs)
                (fun k : Nat => ⟨L .any [(2, .ptr 2 (vs 0 0) 0), (3, .ptr 3 (vs 1 0) 0), (5, .own 14 v), (6, .clo n_impl_Automaton_isRight_2 []), (11, .ro none 1 (ints (pairs.getD i []))), (69, .ro none 1 (rwn pairs)), (70, iv pairs.length), (71, iv i), (97, iv next.length), (98, iv k)], L .gone [(2, .box (vs 0 0) [iv n, .ro none 1 (rwn next)]), (3, .box (vs 1 0) [iv 2, .ro none 1 (rwn pairs), .ro none 1 (rwn words)]), (14, .row v 1 true (rws (every n)))]⟩) 0 ⟨by simp, fun j hj => by omega⟩ (by simp only [B_impl_Automaton_isRight_28, go_sem, adopt_fun, Int.reduceLT, Int.reduceLE, Int.reduceToNat, Int.reduceNeg, Nat.reduceLT, Nat.reduceLeDiff, Nat.reduceMul, Nat.reduceSub, reduceIte, Nat.reduceEqDiff, Nat.reduceAdd, reduceCtorEq]; try rfl) ?_
              rintro k ⟨hk, hl⟩
              by_cases hkl : (k : Int) < next.length
              · have hkl1 : k < next.length := by omega
                have w3 : IntKind.i64.wrap ((k : Int) + 1) = ((k + 1 : Nat) : Int) := by rw [w64 (by omega)]; omega
                simp only [B_impl_Automaton_isRight_28, B_impl_Automaton_isRight_29, B_impl_Automaton_isRight_30, B_impl_Automaton_isRight_31, decide_eq_true hkl, go_sem, adopt_fun, Int.reduceLT, Int.reduceLE, Int.reduceToNat, Int.reduceNeg, Nat.reduceLT, Nat.reduceLeDiff, Nat.reduceMul, Nat.reduceSub, reduceIte, Nat.reduceEqDiff, Nat.reduceAdd, reduceCtorEq]
                intro vs5
                refine ⟨⟨_, rfl, rfl⟩, ?_⟩
                refine call_rowI (k_image n next (pairs.getD i []) [(k : Int)] A (by rw [hpab]; intro x hx; simp at hx; omega) (by intro x hx; simp at hx; omega) (by rw [hpab]; simp)) (by simp only [List.map_cons, List.map_nil, rowIs, boxIs, coe_argN, coe_argNs, coe_ro_o, coeL_nil, coeL_cons, coe_any, coe_val, coe_ro, coe_ro_nil, coe_ro_own, coe_st, coe_st_agg, coe_rp, coe_rp_ptr, coe_clo, coe_own0, coe_ptr0, coeL_intsK, coeL_rws, coeL_rwn, L_hit, L_miss, L_nil, Nat.reduceEqDiff, ne_eq, reduceCtorEq, not_false_eq_true, true_and, and_true, and_self, exists_eq_left, exists_eq_right, List.mem_cons, List.not_mem_nil, or_false, AObj.row.injEq, AObj.box.injEq, exists_eq_left', exists_and_left, exists_eq, Nat.zero_lt_one, Nat.lt_add_one, List.map_cons, List.map_nil, AObj.ver, Nat.reduceLT, not_true_eq_false]) rfl ⟨_, rfl⟩ ?_
                rintro ys v6 rfl
                simp only [go_sem, adopt_fun, Int.reduceLT, Int.reduceLE, Int.reduceToNat, Int.reduceNeg, Nat.reduceLT, Nat.reduceLeDiff, Nat.reduceMul, Nat.reduceSub, reduceIte, Nat.reduceEqDiff, Nat.reduceAdd, reduceCtorEq]
                refine call_fun (k_has pairs (imgL next (pairs.getD i []) [(k : Int)])) (by simp only [rowIs, boxIs, coe_argN, coe_argNs, coe_ro_o, coeL_nil, coeL_cons, coe_any, coe_val, coe_ro, coe_ro_nil, coe_ro_own, coe_st, coe_st_agg, coe_rp, coe_rp_ptr, coe_clo, coe_own0, coe_ptr0, coeL_intsK, coeL_rws, coeL_rwn, L_hit, L_miss, L_nil, Nat.reduceEqDiff, ne_eq, reduceCtorEq, not_false_eq_true, true_and, and_true, and_self, exists_eq_left, exists_eq_right, List.mem_cons, List.not_mem_nil, or_false, AObj.row.injEq, AObj.box.injEq, exists_eq_left', exists_and_left, exists_eq, Nat.zero_lt_one, Nat.lt_add_one, List.map_cons, List.map_nil, AObj.ver, Nat.reduceLT, not_true_eq_false]) trivial ?_
                by_cases hin : imgL next (pairs.getD i []) [(k : Int)] ∈ pairs
                · simp only [B_impl_Automaton_isRight_32, B_impl_Automaton_isRight_33, decide_eq_true hin, w3, go_sem, adopt_fun, Int.reduceLT, Int.reduceLE, Int.reduceToNat, Int.reduceNeg, Nat.reduceLT, Nat.reduceLeDiff, Nat.reduceMul, Nat.reduceSub, reduceIte, Nat.reduceEqDiff, Nat.reduceAdd, reduceCtorEq]
                  refine ⟨k + 1, by omega, ⟨by omega, fun l hl2 => ?_⟩, rfl⟩
                  by_cases hlk : l < k
                  · exact hl l hlk
                  · have : l = k := by omega
                    subst this; exact hin
                · have hf : rightB n next 2 pairs words = false := right2_f fun h => hin ((h.2.2 i hlt1).2.2 k hkl1)
                  simp only [B_impl_Automaton_isRight_32, decide_eq_false hin, hf, go_sem, adopt_fun, Int.reduceLT, Int.reduceLE, Int.reduceToNat, Int.reduceNeg, Nat.reduceLT, Nat.reduceLeDiff, Nat.reduceMul, Nat.reduceSub, reduceIte, Nat.reduceEqDiff, Nat.reduceAdd, reduceCtorEq]
              · have hkf : k = next.length := by omega
                simp only [B_impl_Automaton_isRight_28, B_impl_Automaton_isRight_29, B_impl_Automaton_isRight_30, B_impl_Automaton_isRight_34, decide_eq_false hkl, nat1 i _ hlt1 hMp, go_sem, adopt_fun, Int.reduceLT, Int.reduceLE, Int.reduceToNat, Int.reduceNeg, Nat.reduceLT, Nat.reduceLeDiff, Nat.reduceMul, Nat.reduceSub, reduceIte, Nat.reduceEqDiff, Nat.reduceAdd, reduceCtorEq]
                refine ⟨i + 1, by omega, ⟨by omega, fun j hj => ?_⟩, rfl⟩
                by_cases hji : j < i
                · exact hall j hji
                · have : j = i := by omega
                  subst this
                  exact ⟨hmem, hord, fun l hl2 => hl l (by omega)⟩
          · simp only [B_impl_Automaton_isRight_25, B_impl_Automaton_isRight_26, decide_eq_true hmem, decide_eq_false h0, go_sem, adopt_fun, Int.reduceLT, Int.reduceLE, Int.reduceToNat, Int.reduceNeg, Nat.reduceLT, Nat.reduceLeDiff, Nat.reduceMul, Nat.reduceSub, reduceIte, Nat.reduceEqDiff, Nat.reduceAdd, reduceCtorEq]
            have hord : 0 < i → cmpL (pairs.getD (i - 1) []) (pairs.getD i []) < 0 := fun h => by omega
            intro vs4
            refine call_fun (k_letters n next) (by simp only [rowIs, boxIs, coe_argN, coe_argNs, coe_ro_o, coeL_nil, coeL_cons, coe_any, coe_val, coe_ro, coe_ro_nil, coe_ro_own, coe_st, coe_st_agg, coe_rp, coe_rp_ptr, coe_clo, coe_own0, coe_ptr0, coeL_intsK, coeL_rws, coeL_rwn, L_hit, L_miss, L_nil, Nat.reduceEqDiff, ne_eq, reduceCtorEq, not_false_eq_true, true_and, and_true, and_self, exists_eq_left, exists_eq_right, List.mem_cons, List.not_mem_nil, or_false, AObj.row.injEq, AObj.box.injEq, exists_eq_left', exists_and_left, exists_eq, Nat.zero_lt_one, Nat.lt_add_one, List.map_cons, List.map_nil, AObj.ver, Nat.reduceLT, not_true_eq_false]) trivial ?_
            simp only [B_impl_Automaton_isRight_27, go_sem, adopt_fun, Int.reduceLT, Int.reduceLE, Int.reduceToNat, Int.reduceNeg, Nat.reduceLT, Nat.reduceLeDiff, Nat.reduceMul, Nat.reduceSub, reduceIte, Nat.reduceEqDiff, Nat.reduceAdd, reduceCtorEq]
            refine wpD_lo (fun k => next.length - k) (fun k => k ≤ next.length ∧ ∀ l : Nat, l < k → imgL next (pairs.getD i []) [(l : Int)] ∈ pairs)
              (fun k : Nat => ⟨L .any [(2, .ptr 2 (vs 0 0) 0), (3, .ptr 3 (vs 1 0) 0), (5, .own 14 v), (6, .clo n_impl_Automaton_isRight_2 []), (11, .ro none 1 (ints (pairs.getD i []))), (69, .ro none 1 (rwn pairs)), (70, iv pairs.length), (71, iv i), (97, iv next.length), (98, iv k)], L .gone [(2, .box (vs 0 0) [iv n, .ro none 1 (rwn next)]), (3, .box (vs 1 0) [iv 2, .ro none 1 (rwn pairs), .ro none 1 (rwn words)]), (14, .row v 1 true (rws (every n)))]⟩) 0 ⟨by simp, fun j hj => by omega⟩ (by simp only [B_impl_Automaton_isRight_28, go_sem, adopt_fun, Int.reduceLT, Int.reduceLE, Int.reduceToNat, Int.reduceNeg, Nat.reduceLT, Nat.reduceLeDiff, Nat.reduceMul, Nat.reduceSub, reduceIte, Nat.reduceEqDiff, Nat.reduceAdd, reduceCtorEq]; try rfl) ?_
            rintro k ⟨hk, hl⟩
            by_cases hkl : (k : Int) < next.length
            · have hkl1 : k < next.length := by omega
              have w3 : IntKind.i64.wrap ((k : Int) + 1) = ((k + 1 : Nat) : Int) := by rw [w64 (by omega)]; omega
              simp only [B_impl_Automaton_isRight_28, B_impl_Automaton_isRight_29, B_impl_Automaton_isRight_30, B_impl_Automaton_isRight_31, decide_eq_true hkl, go_sem, adopt_fun, Int.reduceLT, Int.reduceLE, Int.reduceToNat, Int.reduceNeg, Nat.reduceLT, Nat.reduceLeDiff, Nat.reduceMul, Nat.reduceSub, reduceIte, Nat.reduceEqDiff, Nat.reduceAdd, reduceCtorEq]
              intro vs5
              refine ⟨⟨_, rfl, rfl⟩, ?_⟩
              refine call_rowI (k_image n next (pairs.getD i []) [(k : Int)] A (by rw [hpab]; intro x hx; simp at hx; omega) (by intro x hx; simp at hx; omega) (by rw [hpab]; simp)) (by simp only [List.map_cons, List.map_nil, rowIs, boxIs, coe_argN, coe_argNs, coe_ro_o, coeL_nil, coeL_cons, coe_any, coe_val, coe_ro, coe_ro_nil, coe_ro_own, coe_st, coe_st_agg, coe_rp, coe_rp_ptr, coe_clo, coe_own0, coe_ptr0, coeL_intsK, coeL_rws, coeL_rwn, L_hit, L_miss, L_nil, Nat.reduceEqDiff, ne_eq, reduceCtorEq, not_false_eq_true, true_and, and_true, and_self, exists_eq_left, exists_eq_right, List.mem_cons, List.not_mem_nil, or_false, AObj.row.injEq, AObj.box.injEq, exists_eq_left', exists_and_left, exists_eq, Nat.zero_lt_one, Nat.lt_add_one, List.map_cons, List.map_nil, AObj.ver, Nat.reduceLT, not_true_eq_false]) rfl ⟨_, rfl⟩ ?_
              rintro ys v6 rfl
              simp only [go_sem, adopt_fun, Int.reduceLT, Int.reduceLE, Int.reduceToNat, Int.reduceNeg, Nat.reduceLT, Nat.reduceLeDiff, Nat.reduceMul, Nat.reduceSub, reduceIte, Nat.reduceEqDiff, Nat.reduceAdd, reduceCtorEq]
              refine call_fun (k_has pairs (imgL next (pairs.getD i []) [(k : Int)])) (by simp only [rowIs, boxIs, coe_argN, coe_argNs, coe_ro_o, coeL_nil, coeL_cons, coe_any, coe_val, coe_ro, coe_ro_nil, coe_ro_own, coe_st, coe_st_agg, coe_rp, coe_rp_ptr, coe_clo, coe_own0, coe_ptr0, coeL_intsK, coeL_rws, coeL_rwn, L_hit, L_miss, L_nil, Nat.reduceEqDiff, ne_eq, reduceCtorEq, not_false_eq_true, true_and, and_true, and_self, exists_eq_left, exists_eq_right, List.mem_cons, List.not_mem_nil, or_false, AObj.row.injEq, AObj.box.injEq, exists_eq_left', exists_and_left, exists_eq, Nat.zero_lt_one, Nat.lt_add_one, List.map_cons, List.map_nil, AObj.ver, Nat.reduceLT, not_true_eq_false]) trivial ?_
              by_cases hin : imgL next (pairs.getD i []) [(k : Int)] ∈ pairs
              · simp only [B_impl_Automaton_isRight_32, B_impl_Automaton_isRight_33, decide_eq_true hin, w3, go_sem, adopt_fun, Int.reduceLT, Int.reduceLE, Int.reduceToNat, Int.reduceNeg, Nat.reduceLT, Nat.reduceLeDiff, Nat.reduceMul, Nat.reduceSub, reduceIte, Nat.reduceEqDiff, Nat.reduceAdd, reduceCtorEq]
                refine ⟨k + 1, by omega, ⟨by omega, fun l hl2 => ?_⟩, rfl⟩
                by_cases hlk : l < k
                · exact hl l hlk
                · have : l = k := by omega
                  subst this; exact hin
              · have hf : rightB n next 2 pairs words = false := right2_f fun h => hin ((h.2.2 i hlt1).2.2 k hkl1)
                simp only [B_impl_Automaton_isRight_32, decide_eq_false hin, hf, go_sem, adopt_fun, Int.reduceLT, Int.reduceLE, Int.reduceToNat, Int.reduceNeg, Nat.reduceLT, Nat.reduceLeDiff, Nat.reduceMul, Nat.reduceSub, reduceIte, Nat.reduceEqDiff, Nat.reduceAdd, reduceCtorEq]
            · have hkf : k = next.length := by omega
              simp only [B_impl_Automaton_isRight_28, B_impl_Automaton_isRight_29, B_impl_Automaton_isRight_30, B_impl_Automaton_isRight_34, decide_eq_false hkl, nat1 i _ hlt1 hMp, go_sem, adopt_fun, Int.reduceLT, Int.reduceLE, Int.reduceToNat, Int.reduceNeg, Nat.reduceLT, Nat.reduceLeDiff, Nat.reduceMul, Nat.reduceSub, reduceIte, Nat.reduceEqDiff, Nat.reduceAdd, reduceCtorEq]
              refine ⟨i + 1, by omega, ⟨by omega, fun j hj => ?_⟩, rfl⟩
              by_cases hji : j < i
              · exact hall j hji
              · have : j = i := by omega
                subst this
                exact ⟨hmem, hord, fun l hl2 => hl l (by omega)⟩
        · have hf : rightB n next 2 pairs words = false := right2_f fun h => hmem (h.2.2 i hlt1).1
          simp only [B_impl_Automaton_isRight_25, decide_eq_false hmem, hf, go_sem, adopt_fun, Int.reduceLT, Int.reduceLE, Int.reduceToNat, Int.reduceNeg, Nat.reduceLT, Nat.reduceLeDiff, Nat.reduceMul, Nat.reduceSub, reduceIte, Nat.reduceEqDiff, Nat.reduceAdd, reduceCtorEq]
      · have hfin : i = pairs.length := by omega
        have ht : rightB n next 2 pairs words = true := right2_t ⟨by omega, by omega, fun j hj => hall j (by omega)⟩
        simp only [B_impl_Automaton_isRight_21, B_impl_Automaton_isRight_22, B_impl_Automaton_isRight_23, B_impl_Automaton_isRight_35, decide_eq_false hlt, ht, go_sem, adopt_fun, Int.reduceLT, Int.reduceLE, Int.reduceToNat, Int.reduceNeg, Nat.reduceLT, Nat.reduceLeDiff, Nat.reduceMul, Nat.reduceSub, reduceIte, Nat.reduceEqDiff, Nat.reduceAdd, reduceCtorEq]
    · have e2 : (kind == 2) = false := beq_false_of_ne hk2
      simp only [B_impl_Automaton_isRight_5, B_impl_Automaton_isRight_17, B_impl_Automaton_isRight_36, e1, e2, right_f hk1 hk2, go_sem, adopt_fun, Int.reduceLT, Int.reduceLE, Int.reduceToNat, Int.reduceNeg, Nat.reduceLT, Nat.reduceLeDiff, Nat.reduceMul, Nat.reduceSub, reduceIte, Nat.reduceEqDiff, Nat.reduceAdd, reduceCtorEq]
end Go.Ab
