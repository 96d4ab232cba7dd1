/- Contracts: the reference's certificates; CheckCertificate. Conditions: none. -/
import Derived.Test.YtojnbclanknnhaaKv
set_option linter.all false
namespace Go.Ab
open Go.Proofs
set_option maxRecDepth 20000
set_option maxHeartbeats 1000000

theorem fidx_neg (x : List Int) : ∀ (xs : List (List Int)) (i : Nat), decide (fidx (fun y => decide (y = x)) xs i < 0) = decide (x ∉ xs)
  | [], i => by simp [fidx]
  | y :: xs, i => by
    have h := fidx_neg x xs (i + 1)
    simp only [fidx]
    by_cases hy : y = x
    · have : x ∈ y :: xs := by simp [hy]
      simp [hy]
    · have : (x ∉ y :: xs) ↔ (x ∉ xs) := by simp [Ne.symm hy]
      simp only [hy, decide_false, Bool.false_eq_true, if_false, h]
      exact decide_eq_decide.2 this.symm

def mergeW (n : Int) (next words : List (List Int)) : Prop := words.length = (every n).length ∧
  ∀ i, i < (every n).length → wordB next.length (words.getD i []) = true ∧ atA next (((every n).getD i []).getD 0 0) (words.getD i []) = atA next (((every n).getD i []).getD 1 0) (words.getD i [])
def apartW (n : Int) (next pairs : List (List Int)) : Prop := 0 < pairs.length ∧
  ∀ i, i < pairs.length → pairs.getD i [] ∈ every n ∧ (0 < i → cmpL (pairs.getD (i - 1) []) (pairs.getD i []) < 0) ∧ ∀ l : Nat, l < next.length → imgL next (pairs.getD i []) [(l : Int)] ∈ pairs
open Classical in
noncomputable def mwB (n : Int) (next words : List (List Int)) : Bool := decide (mergeW n next words)
open Classical in
noncomputable def awB (n : Int) (next pairs : List (List Int)) : Bool := decide (apartW n next pairs)
theorem mwB_t {n : Int} {next words : List (List Int)} (h : mergeW n next words) : mwB n next words = true := by simp [mwB, h]
theorem mwB_f {n : Int} {next words : List (List Int)} (h : ¬ mergeW n next words) : mwB n next words = false := by simp [mwB, h]
theorem awB_t {n : Int} {next words : List (List Int)} (h : apartW n next words) : awB n next words = true := by simp [awB, h]
theorem awB_f {n : Int} {next words : List (List Int)} (h : ¬ apartW n next words) : awB n next words = false := by simp [awB, h]

theorem every_iff {n : Int} (hn : 0 ≤ n) {x : List Int} : x ∈ every n ↔ x.length = 2 ∧ setB n x = true := by
  rw [pairsL_mem hn, setB_iff]
  constructor
  · rintro ⟨a, b, h1, h2, h3, _, rfl⟩
    refine ⟨rfl, ?_, fun y hy => ?_⟩
    · simp [SI]; omega
    · simp at hy; omega
  · rintro ⟨h1, h2, h3⟩
    match x, h1, h2, h3 with
    | [a, b], _, h2, h3 =>
      have ha := h3 a (by simp)
      have hb := h3 b (by simp)
      have hab : a < b := by simpa [SI] using h2
      exact ⟨a, b, ha.1, hab, hb.2, rfl, rfl⟩

theorem k_l02Before (p q : List Int) (hp : p.length = 2) (hq : q.length = 2) : Fun Try.prog n_spec_l02Before [.ro none 1 (ints p), .ro none 1 (ints q)] (bv (decide (cmpL p q < 0))) := by
  refine fun_of mixed c_spec_l02Before rfl ⟨rfl, trivial⟩ ?_
  have p0 : 0 < p.length := by omega
  have p1 : 1 < p.length := by omega
  have q0 : 0 < q.length := by omega
  have q1 : 1 < q.length := by omega
  have hc : decide (cmpL p q < 0) = (decide (p.getD 0 0 < q.getD 0 0) || ((p.getD 0 0 == q.getD 0 0) && decide (p.getD 1 0 < q.getD 1 0))) := by
    match p, q, hp, hq with
    | [a, b], [c, d], _, _ =>
      simp only [cmpL, List.getD_cons_zero, List.getD_cons_succ]
      rcases Int.lt_trichotomy a c with h | h | h
      · simp [cmpI, h]
      · subst h
        rcases Int.lt_trichotomy b d with h | h | h
        · simp [cmpI, h]
        · subst h; simp [cmpI]
        · have h3 : ¬ b < d := by omega
          simp [cmpI, h, h3]
      · have h3 : ¬ a < c := by omega
        have h4 : a ≠ c := by omega
        simp [cmpI, h, h3, h4]
  rw [hc]
  by_cases h1 : p.getD 0 0 < q.getD 0 0
  · simp only [A_spec_l02Before, B_spec_l02Before_1, intsK_getD p0, intsK_getD q0, decide_eq_true h1, Bool.true_or, go_sem, adopt_fun, Int.reduceLT, Int.reduceLE, Int.reduceToNat, Int.reduceNeg, Nat.reduceLT, Nat.reduceLeDiff, Nat.reduceMul, Nat.reduceSub, reduceIte, Nat.reduceEqDiff, Nat.reduceAdd, reduceCtorEq]
    exact ⟨p0, p0, q0, q0⟩
  · cases h2 : (p.getD 0 0 == q.getD 0 0) with
    | false =>
      simp only [A_spec_l02Before, B_spec_l02Before_1, intsK_getD p0, intsK_getD q0, decide_eq_false h1, h2, Bool.false_or, Bool.false_and, go_sem, adopt_fun, Int.reduceLT, Int.reduceLE, Int.reduceToNat, Int.reduceNeg, Nat.reduceLT, Nat.reduceLeDiff, Nat.reduceMul, Nat.reduceSub, reduceIte, Nat.reduceEqDiff, Nat.reduceAdd, reduceCtorEq]
      exact ⟨p0, p0, q0, q0, p0, p0, q0, q0⟩
    | true =>
      simp only [A_spec_l02Before, B_spec_l02Before_1, intsK_getD p0, intsK_getD q0, intsK_getD p1, intsK_getD q1, decide_eq_false h1, h2, Bool.false_or, Bool.true_and, go_sem, adopt_fun, Int.reduceLT, Int.reduceLE, Int.reduceToNat, Int.reduceNeg, Nat.reduceLT, Nat.reduceLeDiff, Nat.reduceMul, Nat.reduceSub, reduceIte, Nat.reduceEqDiff, Nat.reduceAdd, reduceCtorEq]
      exact ⟨p0, p0, q0, q0, p0, p0, q0, q0, p1, p1, q1, q1⟩

theorem k_l02Merges (n : Int) (next words : List (List Int)) (A : Aut n next) : Fun Try.prog n_spec_l02Merges [autP n next, .ro none 1 (rwn words)] (bv (mwB n next words)) := by
  refine fun_of mixed c_spec_l02Merges rfl ⟨rfl, trivial⟩ ?_
  have n1 := A.n1
  have n2 := A.n2
  have l2 := A.l2
  have hM := maxLen_le
  have hel := pairsL_len ⟨n1, n2⟩ (p := fun _ _ => true)
  simp only [A_spec_l02Merges, B_spec_l02Merges_1, go_sem, adopt_fun, Int.reduceLT, Int.reduceLE, Int.reduceToNat, Int.reduceNeg, Nat.reduceLT, Nat.reduceLeDiff, Nat.reduceMul, Nat.reduceSub, reduceIte, Nat.reduceEqDiff, Nat.reduceAdd, reduceCtorEq]
  intro vs
  refine call_rowR (k_l02Pairs n ⟨n1, n2⟩) (by simp only [rowIs, boxIs, coe_argN, coe_argNs, coe_ro_o, coeL_nil, coeL_cons, coe_any, coe_val, coe_ro, coe_ro_nil, coe_ro_own, coe_st, coe_st_agg, coe_rp, coe_rp_ptr, coe_clo, coe_own0, coe_ptr0, coeL_intsK, coeL_rws, coeL_rwn, L_hit, L_miss, L_nil, Nat.reduceEqDiff, ne_eq, reduceCtorEq, not_false_eq_true, true_and, and_true, and_self, exists_eq_left, exists_eq_right, List.mem_cons, List.not_mem_nil, or_false, AObj.row.injEq, AObj.box.injEq, exists_eq_left', exists_and_left, exists_eq, Nat.zero_lt_one, Nat.lt_add_one, List.map_cons, List.map_nil, AObj.ver, Nat.reduceLT, not_true_eq_false]) rfl ⟨_, rfl⟩ ?_
  rintro xss v rfl
  simp only [B_spec_l02Merges_2, go_sem, adopt_fun, Int.reduceLT, Int.reduceLE, Int.reduceToNat, Int.reduceNeg, Nat.reduceLT, Nat.reduceLeDiff, Nat.reduceMul, Nat.reduceSub, reduceIte, Nat.reduceEqDiff, Nat.reduceAdd, reduceCtorEq]
  intro hMw hMe
  by_cases hle : words.length = (every n).length
  · have e0 : ((words.length : Int) != ((every n).length : Int)) = false := bneF (by omega)
    simp only [B_spec_l02Merges_3, B_spec_l02Merges_4, B_spec_l02Merges_5, e0, go_sem, adopt_fun, Int.reduceLT, Int.reduceLE, Int.reduceToNat, Int.reduceNeg, Nat.reduceLT, Nat.reduceLeDiff, Nat.reduceMul, Nat.reduceSub, reduceIte, Nat.reduceEqDiff, Nat.reduceAdd, reduceCtorEq]
    refine wpD_lo (fun i => (every n).length - i) (fun i => i ≤ (every n).length ∧ ∀ j, j < i → wordB next.length (words.getD j []) = true ∧ atA next (((every n).getD j []).getD 0 0) (words.getD j []) = atA next (((every n).getD j []).getD 1 0) (words.getD j []))
      (fun i : Nat => ⟨L .any [(0, autP n next), (1, .ro none 1 (rwn words)), (5, .own 11 v), (6, iv i)], L .gone [(11, .row v 1 true (rws (every n)))]⟩) 0 ⟨by simp, fun j hj => by omega⟩ (by simp only [B_spec_l02Merges_6, go_sem, adopt_fun, Int.reduceLT, Int.reduceLE, Int.reduceToNat, Int.reduceNeg, Nat.reduceLT, Nat.reduceLeDiff, Nat.reduceMul, Nat.reduceSub, reduceIte, Nat.reduceEqDiff, Nat.reduceAdd, reduceCtorEq]; try rfl) ?_
    rintro i ⟨hi, hall⟩
    by_cases hlt : (i : Int) < (every n).length
    · have hlt1 : i < (every n).length := by omega
      have hlt2 : i < words.length := by omega
      obtain ⟨a, b, ha, hab, hb, hget⟩ := every_get (by omega) hlt1
      have h20 : 0 < ((every n).getD i []).length := by rw [hget]; simp
      have h21 : 1 < ((every n).getD i []).length := by rw [hget]; simp
      have hg0 : ((every n).getD i []).getD 0 0 = a := by rw [hget]; rfl
      have hg1 : ((every n).getD i []).getD 1 0 = b := by rw [hget]; rfl
      simp only [B_spec_l02Merges_6, B_spec_l02Merges_7, B_spec_l02Merges_8, rwn_getD hlt2, decide_eq_true hlt, go_sem, adopt_fun, Int.reduceLT, Int.reduceLE, Int.reduceToNat, Int.reduceNeg, Nat.reduceLT, Nat.reduceLeDiff, Nat.reduceMul, Nat.reduceSub, reduceIte, Nat.reduceEqDiff, Nat.reduceAdd, reduceCtorEq]
      intro _ vs2
      refine ⟨⟨by omega, hlt2⟩, hlt2, ?_⟩
      refine call_fun (k_l01Word n next (words.getD i []) (by omega)) (by simp only [rowIs, boxIs, coe_argN, coe_argNs, coe_ro_o, coeL_nil, coeL_cons, coe_any, coe_val, coe_ro, coe_ro_nil, coe_ro_own, coe_st, coe_st_agg, coe_rp, coe_rp_ptr, coe_clo, coe_own0, coe_ptr0, coeL_intsK, coeL_rws, coeL_rwn, L_hit, L_miss, L_nil, Nat.reduceEqDiff, ne_eq, reduceCtorEq, not_false_eq_true, true_and, and_true, and_self, exists_eq_left, exists_eq_right, List.mem_cons, List.not_mem_nil, or_false, AObj.row.injEq, AObj.box.injEq, exists_eq_left', exists_and_left, exists_eq, Nat.zero_lt_one, Nat.lt_add_one, List.map_cons, List.map_nil, AObj.ver, Nat.reduceLT, not_true_eq_false]) trivial ?_
      cases hw : wordB next.length (words.getD i []) with
      | false =>
        have hf : mwB n next words = false := mwB_f fun h => by have := (h.2 i hlt1).1; rw [hw] at this; cases this
        simp only [B_spec_l02Merges_9, hf, go_sem, adopt_fun, Int.reduceLT, Int.reduceLE, Int.reduceToNat, Int.reduceNeg, Nat.reduceLT, Nat.reduceLeDiff, Nat.reduceMul, Nat.reduceSub, reduceIte, Nat.reduceEqDiff, Nat.reduceAdd, reduceCtorEq]
      | true =>
        have hww := (wordB_iff.1 hw).2
        simp only [rws_getD hlt1, rwn_getD hlt2, intsK_getD h20, intsK_getD h21, hg0, hg1, go_sem, adopt_fun, Int.reduceLT, Int.reduceLE, Int.reduceToNat, Int.reduceNeg, Nat.reduceLT, Nat.reduceLeDiff, Nat.reduceMul, Nat.reduceSub, reduceIte, Nat.reduceEqDiff, Nat.reduceAdd, reduceCtorEq]
        refine ⟨⟨by omega, hlt1⟩, hlt1, h20, h20, ⟨by omega, hlt2⟩, hlt2, ?_⟩
        refine call_fun (k_l01To n next a (words.getD i []) A ⟨ha, by omega⟩ hww) (by simp only [rowIs, boxIs, coe_argN, coe_argNs, coe_ro_o, coeL_nil, coeL_cons, coe_any, coe_val, coe_ro, coe_ro_nil, coe_ro_own, coe_st, coe_st_agg, coe_rp, coe_rp_ptr, coe_clo, coe_own0, coe_ptr0, coeL_intsK, coeL_rws, coeL_rwn, L_hit, L_miss, L_nil, Nat.reduceEqDiff, ne_eq, reduceCtorEq, not_false_eq_true, true_and, and_true, and_self, exists_eq_left, exists_eq_right, List.mem_cons, List.not_mem_nil, or_false, AObj.row.injEq, AObj.box.injEq, exists_eq_left', exists_and_left, exists_eq, Nat.zero_lt_one, Nat.lt_add_one, List.map_cons, List.map_nil, AObj.ver, Nat.reduceLT, not_true_eq_false]) trivial ?_
        simp only [rws_getD hlt1, rwn_getD hlt2, intsK_getD h20, intsK_getD h21, hg0, hg1, go_sem, adopt_fun, Int.reduceLT, Int.reduceLE, Int.reduceToNat, Int.reduceNeg, Nat.reduceLT, Nat.reduceLeDiff, Nat.reduceMul, Nat.reduceSub, reduceIte, Nat.reduceEqDiff, Nat.reduceAdd, reduceCtorEq]
        refine ⟨⟨by omega, hlt1⟩, hlt1, h21, h21, ⟨by omega, hlt2⟩, hlt2, ?_⟩
        refine call_fun (k_l01To n next b (words.getD i []) A ⟨by omega, hb⟩ hww) (by simp only [rowIs, boxIs, coe_argN, coe_argNs, coe_ro_o, coeL_nil, coeL_cons, coe_any, coe_val, coe_ro, coe_ro_nil, coe_ro_own, coe_st, coe_st_agg, coe_rp, coe_rp_ptr, coe_clo, coe_own0, coe_ptr0, coeL_intsK, coeL_rws, coeL_rwn, L_hit, L_miss, L_nil, Nat.reduceEqDiff, ne_eq, reduceCtorEq, not_false_eq_true, true_and, and_true, and_self, exists_eq_left, exists_eq_right, List.mem_cons, List.not_mem_nil, or_false, AObj.row.injEq, AObj.box.injEq, exists_eq_left', exists_and_left, exists_eq, Nat.zero_lt_one, Nat.lt_add_one, List.map_cons, List.map_nil, AObj.ver, Nat.reduceLT, not_true_eq_false]) trivial ?_
        by_cases he : atA next a (words.getD i []) = atA next b (words.getD i [])
        · simp only [B_spec_l02Merges_9, B_spec_l02Merges_10, bneF he, nat1 i _ hlt1 hMe, go_sem, adopt_fun, Int.reduceLT, Int.reduceLE, Int.reduceToNat, Int.reduceNeg, Nat.reduceLT, Nat.reduceLeDiff, Nat.reduceMul, Nat.reduceSub, reduceIte, Nat.reduceEqDiff, Nat.reduceAdd, reduceCtorEq]
          refine ⟨i + 1, by omega, ⟨by omega, fun j hj => ?_⟩, rfl⟩
          by_cases hji : j < i
          · exact hall j hji
          · have : j = i := by omega
            subst this
            rw [hg0, hg1]
            exact ⟨hw, he⟩
        · have hf : mwB n next words = false := mwB_f fun h => he (by have := (h.2 i hlt1).2; rwa [hg0, hg1] at this)
          simp only [B_spec_l02Merges_9, bneT he, hf, go_sem, adopt_fun, Int.reduceLT, Int.reduceLE, Int.reduceToNat, Int.reduceNeg, Nat.reduceLT, Nat.reduceLeDiff, Nat.reduceMul, Nat.reduceSub, reduceIte, Nat.reduceEqDiff, Nat.reduceAdd, reduceCtorEq]
    · have hfin : i = (every n).length := by omega
      have ht : mwB n next words = true := mwB_t ⟨hle, fun j hj => hall j (by omega)⟩
      simp only [B_spec_l02Merges_6, B_spec_l02Merges_7, B_spec_l02Merges_8, B_spec_l02Merges_11, decide_eq_false hlt, ht, go_sem, adopt_fun, Int.reduceLT, Int.reduceLE, Int.reduceToNat, Int.reduceNeg, Nat.reduceLT, Nat.reduceLeDiff, Nat.reduceMul, Nat.reduceSub, reduceIte, Nat.reduceEqDiff, Nat.reduceAdd, reduceCtorEq]
      try (intro _; trivial)
  · have e0 : ((words.length : Int) != ((every n).length : Int)) = true := bneT (by omega)
    have hf : mwB n next words = false := mwB_f fun h => hle h.1
    simp only [B_spec_l02Merges_3, e0, hf, go_sem, adopt_fun, Int.reduceLT, Int.reduceLE, Int.reduceToNat, Int.reduceNeg, Nat.reduceLT, Nat.reduceLeDiff, Nat.reduceMul, Nat.reduceSub, reduceIte, Nat.reduceEqDiff, Nat.reduceAdd, reduceCtorEq]

theorem k_l02Apart (n : Int) (next pairs : List (List Int)) (A : Aut n next) : Fun Try.prog n_spec_l02Apart [autP n next, .ro none 1 (rwn pairs)] (bv (awB n next pairs)) := by
  refine fun_of mixed c_spec_l02Apart rfl ⟨rfl, trivial⟩ ?_
  have n1 := A.n1
  have n2 := A.n2
  have l2 := A.l2
  have hM := maxLen_le
  simp only [A_spec_l02Apart, B_spec_l02Apart_1, B_spec_l02Apart_2, go_sem, adopt_fun, Int.reduceLT, Int.reduceLE, Int.reduceToNat, Int.reduceNeg, Nat.reduceLT, Nat.reduceLeDiff, Nat.reduceMul, Nat.reduceSub, reduceIte, Nat.reduceEqDiff, Nat.reduceAdd, reduceCtorEq]
  refine wpD_lo (fun i => pairs.length - i) (fun i => i ≤ pairs.length ∧ ∀ j, j < i → pairs.getD j [] ∈ every n ∧ (0 < j → cmpL (pairs.getD (j - 1) []) (pairs.getD j []) < 0))
    (fun i : Nat => ⟨L .any [(0, autP n next), (1, .ro none 1 (rwn pairs)), (5, iv i)], L .gone []⟩) 0 ⟨by simp, fun j hj => by omega⟩ (by simp only [B_spec_l02Apart_3, go_sem, adopt_fun, Int.reduceLT, Int.reduceLE, Int.reduceToNat, Int.reduceNeg, Nat.reduceLT, Nat.reduceLeDiff, Nat.reduceMul, Nat.reduceSub, reduceIte, Nat.reduceEqDiff, Nat.reduceAdd, reduceCtorEq]; try rfl) ?_
  rintro i ⟨hi, hall⟩
  by_cases hlt : (i : Int) < pairs.length
  · have hlt1 : i < pairs.length := by omega
    by_cases hl2 : (pairs.getD i []).length = 2
    · have e2 : (((pairs.getD i []).length : Int) != 2) = false := bneF (by omega)
      simp only [B_spec_l02Apart_3, B_spec_l02Apart_4, B_spec_l02Apart_5, rwn_getD hlt1, e2, decide_eq_true hlt, go_sem, adopt_fun, Int.reduceLT, Int.reduceLE, Int.reduceToNat, Int.reduceNeg, Nat.reduceLT, Nat.reduceLeDiff, Nat.reduceMul, Nat.reduceSub, reduceIte, Nat.reduceEqDiff, Nat.reduceAdd, reduceCtorEq]
      intro hMp vs
      refine ⟨⟨by omega, hlt1⟩, hlt1, ?_⟩
      refine ⟨⟨by omega, hlt1⟩, hlt1, ?_⟩
      refine call_fun (k_l01Set n next (pairs.getD i []) ⟨n1, n2⟩) (by simp only [rowIs, boxIs, coe_argN, coe_argNs, coe_ro_o, coeL_nil, coeL_cons, coe_any, coe_val, coe_ro, coe_ro_nil, coe_ro_own, coe_st, coe_st_agg, coe_rp, coe_rp_ptr, coe_clo, coe_own0, coe_ptr0, coeL_intsK, coeL_rws, coeL_rwn, L_hit, L_miss, L_nil, Nat.reduceEqDiff, ne_eq, reduceCtorEq, not_false_eq_true, true_and, and_true, and_self, exists_eq_left, exists_eq_right, List.mem_cons, List.not_mem_nil, or_false, AObj.row.injEq, AObj.box.injEq, exists_eq_left', exists_and_left, exists_eq, Nat.zero_lt_one, Nat.lt_add_one, List.map_cons, List.map_nil, AObj.ver, Nat.reduceLT, not_true_eq_false]) trivial ?_
      cases hset : setB n (pairs.getD i []) with
      | false =>
        have hf : awB n next pairs = false := awB_f fun h => by have := ((every_iff (by omega)).1 (h.2 i hlt1).1).2; rw [hset] at this; cases this
        simp only [B_spec_l02Apart_6, hf, go_sem, adopt_fun, Int.reduceLT, Int.reduceLE, Int.reduceToNat, Int.reduceNeg, Nat.reduceLT, Nat.reduceLeDiff, Nat.reduceMul, Nat.reduceSub, reduceIte, Nat.reduceEqDiff, Nat.reduceAdd, reduceCtorEq]
      | true =>
        have hmem : pairs.getD i [] ∈ every n := (every_iff (by omega)).2 ⟨hl2, hset⟩
        by_cases h0 : (i : Int) > 0
        · have hi1 : i - 1 < pairs.length := by omega
          have w2 : IntKind.i64.wrap ((i : Int) - 1) = ((i - 1 : Nat) : Int) := by rw [w64 (by omega)]; omega
          have hprev := ((every_iff (by omega)).1 (hall (i - 1) (by omega)).1).1
          simp only [decide_eq_true h0, w2, rwn_getD hlt1, rwn_getD hi1, go_sem, adopt_fun, Int.reduceLT, Int.reduceLE, Int.reduceToNat, Int.reduceNeg, Nat.reduceLT, Nat.reduceLeDiff, Nat.reduceMul, Nat.reduceSub, reduceIte, Nat.reduceEqDiff, Nat.reduceAdd, reduceCtorEq]
          refine ⟨⟨by omega, hi1⟩, hi1, ⟨by omega, hlt1⟩, hlt1, ?_⟩
          refine call_fun (k_l02Before (pairs.getD (i - 1) []) (pairs.getD i []) hprev hl2) (by simp only [rowIs, boxIs, coe_argN, coe_argNs, coe_ro_o, coeL_nil, coeL_cons, coe_any, coe_val, coe_ro, coe_ro_nil, coe_ro_own, coe_st, coe_st_agg, coe_rp, coe_rp_ptr, coe_clo, coe_own0, coe_ptr0, coeL_intsK, coeL_rws, coeL_rwn, L_hit, L_miss, L_nil, Nat.reduceEqDiff, ne_eq, reduceCtorEq, not_false_eq_true, true_and, and_true, and_self, exists_eq_left, exists_eq_right, List.mem_cons, List.not_mem_nil, or_false, AObj.row.injEq, AObj.box.injEq, exists_eq_left', exists_and_left, exists_eq, Nat.zero_lt_one, Nat.lt_add_one, List.map_cons, List.map_nil, AObj.ver, Nat.reduceLT, not_true_eq_false]) trivial ?_
          by_cases hcm : cmpL (pairs.getD (i - 1) []) (pairs.getD i []) < 0
          · simp only [B_spec_l02Apart_6, B_spec_l02Apart_7, decide_eq_true hcm, nat1 i _ hlt1 hMp, go_sem, adopt_fun, Int.reduceLT, Int.reduceLE, Int.reduceToNat, Int.reduceNeg, Nat.reduceLT, Nat.reduceLeDiff, Nat.reduceMul, Nat.reduceSub, reduceIte, Nat.reduceEqDiff, Nat.reduceAdd, reduceCtorEq]
            refine ⟨i + 1, by omega, ⟨by omega, fun j hj => ?_⟩, rfl⟩
            by_cases hji : j < i
            · exact hall j hji
            · have : j = i := by omega
              subst this
              exact ⟨hmem, fun _ => hcm⟩
          · have hf : awB n next pairs = false := awB_f fun h => hcm ((h.2 i hlt1).2.1 (by omega))
            simp only [B_spec_l02Apart_6, decide_eq_false hcm, hf, go_sem, adopt_fun, Int.reduceLT, Int.reduceLE, Int.reduceToNat, Int.reduceNeg, Nat.reduceLT, Nat.reduceLeDiff, Nat.reduceMul, Nat.reduceSub, reduceIte, Nat.reduceEqDiff, Nat.reduceAdd, reduceCtorEq]
        · simp only [B_spec_l02Apart_6, B_spec_l02Apart_7, decide_eq_false h0, nat1 i _ hlt1 hMp, go_sem, adopt_fun, Int.reduceLT, Int.reduceLE, Int.reduceToNat, Int.reduceNeg, Nat.reduceLT, Nat.reduceLeDiff, Nat.reduceMul, Nat.reduceSub, reduceIte, Nat.reduceEqDiff, Nat.reduceAdd, reduceCtorEq]
          refine ⟨i + 1, by omega, ⟨by omega, fun j hj => ?_⟩, rfl⟩
          have : j = i := by omega
          subst this
          exact ⟨hmem, fun h => by omega⟩
    · have e2 : (((pairs.getD i []).length : Int) != 2) = true := bneT (by omega)
      have hf : awB n next pairs = false := awB_f fun h => hl2 ((every_iff (by omega)).1 (h.2 i hlt1).1).1
      simp only [B_spec_l02Apart_3, B_spec_l02Apart_4, B_spec_l02Apart_5, B_spec_l02Apart_6, rwn_getD hlt1, e2, decide_eq_true hlt, hf, go_sem, adopt_fun, Int.reduceLT, Int.reduceLE, Int.reduceToNat, Int.reduceNeg, Nat.reduceLT, Nat.reduceLeDiff, Nat.reduceMul, Nat.reduceSub, reduceIte, Nat.reduceEqDiff, Nat.reduceAdd, reduceCtorEq]
      intro _
      first | exact ⟨⟨by omega, hlt1⟩, hlt1⟩ | exact ⟨hlt1, hlt1⟩ | (refine ⟨⟨by omega, hlt1⟩, hlt1, ?_⟩; intro _; trivial) | (intro _; exact ⟨⟨by omega, hlt1⟩, hlt1⟩)
  · have hfin : i = pairs.length := by omega
    subst hfin
    simp only [B_spec_l02Apart_3, B_spec_l02Apart_4, B_spec_l02Apart_5, B_spec_l02Apart_8, B_spec_l02Apart_9, decide_eq_false hlt, go_sem, adopt_fun, Int.reduceLT, Int.reduceLE, Int.reduceToNat, Int.reduceNeg, Nat.reduceLT, Nat.reduceLeDiff, Nat.reduceMul, Nat.reduceSub, reduceIte, Nat.reduceEqDiff, Nat.reduceAdd, reduceCtorEq]
    intro _
    refine wpD_lo (fun i => pairs.length - i) (fun i => i ≤ pairs.length ∧ ∀ j, j < i → ∀ l : Nat, l < next.length → imgL next (pairs.getD j []) [(l : Int)] ∈ pairs)
      (fun i : Nat => ⟨L .any [(0, autP n next), (1, .ro none 1 (rwn pairs)), (6, iv i)], L .gone []⟩) 0 ⟨by simp, fun j hj => by omega⟩ (by simp only [B_spec_l02Apart_10, go_sem, adopt_fun, Int.reduceLT, Int.reduceLE, Int.reduceToNat, Int.reduceNeg, Nat.reduceLT, Nat.reduceLeDiff, Nat.reduceMul, Nat.reduceSub, reduceIte, Nat.reduceEqDiff, Nat.reduceAdd, reduceCtorEq]; try rfl) ?_
    rintro i ⟨hi, hall2⟩
    by_cases hlt : (i : Int) < pairs.length
    · have hlt1 : i < pairs.length := by omega
      obtain ⟨a, b, ha, hab, hb, _, hpab⟩ := (pairsL_mem (by omega)).1 (hall i hlt1).1
      simp only [B_spec_l02Apart_10, B_spec_l02Apart_11, B_spec_l02Apart_12, B_spec_l02Apart_13, decide_eq_true hlt, go_sem, adopt_fun, Int.reduceLT, Int.reduceLE, Int.reduceToNat, Int.reduceNeg, Nat.reduceLT, Nat.reduceLeDiff, Nat.reduceMul, Nat.reduceSub, reduceIte, Nat.reduceEqDiff, Nat.reduceAdd, reduceCtorEq]
      intro hMp
      refine wpD_lo (fun k => next.length - k) (fun k => k ≤ next.length ∧ ∀ l : Nat, l < k → imgL next (pairs.getD i []) [(l : Int)] ∈ pairs)
        (fun k : Nat => ⟨L .any [(0, autP n next), (1, .ro none 1 (rwn pairs)), (6, iv i), (7, iv k)], L .gone []⟩) 0 ⟨by simp, fun j hj => by omega⟩ (by simp only [B_spec_l02Apart_14, go_sem, adopt_fun, Int.reduceLT, Int.reduceLE, Int.reduceToNat, Int.reduceNeg, Nat.reduceLT, Nat.reduceLeDiff, Nat.reduceMul, Nat.reduceSub, reduceIte, Nat.reduceEqDiff, Nat.reduceAdd, reduceCtorEq]; try rfl) ?_
      rintro k ⟨hk, hl⟩
      by_cases hkl : (k : Int) < next.length
      · have hkl1 : k < next.length := by omega
        have w3 : IntKind.i64.wrap ((k : Int) + 1) = ((k + 1 : Nat) : Int) := by rw [w64 (by omega)]; omega
        simp only [B_spec_l02Apart_14, B_spec_l02Apart_15, B_spec_l02Apart_16, rwn_getD hlt1, decide_eq_true hkl, go_sem, adopt_fun, Int.reduceLT, Int.reduceLE, Int.reduceToNat, Int.reduceNeg, Nat.reduceLT, Nat.reduceLeDiff, Nat.reduceMul, Nat.reduceSub, reduceIte, Nat.reduceEqDiff, Nat.reduceAdd, reduceCtorEq]
        intro hMn vs2
        refine ⟨⟨by omega, hlt1⟩, hlt1, ⟨_, rfl, rfl⟩, ?_⟩
        refine call_rowI (k_l01Image n next (pairs.getD i []) [(k : Int)] A (by rw [hpab]; intro x hx; simp at hx; omega) (by intro x hx; simp at hx; omega) (by rw [hpab]; simp)) (by simp only [List.map_cons, List.map_nil, rowIs, boxIs, coe_argN, coe_argNs, coe_ro_o, coeL_nil, coeL_cons, coe_any, coe_val, coe_ro, coe_ro_nil, coe_ro_own, coe_st, coe_st_agg, coe_rp, coe_rp_ptr, coe_clo, coe_own0, coe_ptr0, coeL_intsK, coeL_rws, coeL_rwn, L_hit, L_miss, L_nil, Nat.reduceEqDiff, ne_eq, reduceCtorEq, not_false_eq_true, true_and, and_true, and_self, exists_eq_left, exists_eq_right, List.mem_cons, List.not_mem_nil, or_false, AObj.row.injEq, AObj.box.injEq, exists_eq_left', exists_and_left, exists_eq, Nat.zero_lt_one, Nat.lt_add_one, List.map_cons, List.map_nil, AObj.ver, Nat.reduceLT, not_true_eq_false]) rfl ⟨_, rfl⟩ ?_
        rintro ys v6 rfl
        simp only [B_spec_l02Apart_17, go_sem, adopt_fun, Int.reduceLT, Int.reduceLE, Int.reduceToNat, Int.reduceNeg, Nat.reduceLT, Nat.reduceLeDiff, Nat.reduceMul, Nat.reduceSub, reduceIte, Nat.reduceEqDiff, Nat.reduceAdd, reduceCtorEq]
        intro vs7 hMt
        have hil : (imgL next (pairs.getD i []) [(k : Int)]).length ≤ 2 := by have := nrm_len ((pairs.getD i []).map fun s => atA next s [(k : Int)]); rw [List.length_map, hpab] at this; rw [hpab]; exact this
        by_cases h2l : (imgL next (pairs.getD i []) [(k : Int)]).length = 2
        · have e2 : (((imgL next (pairs.getD i []) [(k : Int)]).length : Int) != 2) = false := bneF (by omega)
          simp only [e2, go_sem, adopt_fun, Int.reduceLT, Int.reduceLE, Int.reduceToNat, Int.reduceNeg, Nat.reduceLT, Nat.reduceLeDiff, Nat.reduceMul, Nat.reduceSub, reduceIte, Nat.reduceEqDiff, Nat.reduceAdd, reduceCtorEq]
          refine call_fun (k_l01Find pairs (imgL next (pairs.getD i []) [(k : Int)])) (by simp only [rowIs, boxIs, coe_argN, coe_argNs, coe_ro_o, coeL_nil, coeL_cons, coe_any, coe_val, coe_ro, coe_ro_nil, coe_ro_own, coe_st, coe_st_agg, coe_rp, coe_rp_ptr, coe_clo, coe_own0, coe_ptr0, coeL_intsK, coeL_rws, coeL_rwn, L_hit, L_miss, L_nil, Nat.reduceEqDiff, ne_eq, reduceCtorEq, not_false_eq_true, true_and, and_true, and_self, exists_eq_left, exists_eq_right, List.mem_cons, List.not_mem_nil, or_false, AObj.row.injEq, AObj.box.injEq, exists_eq_left', exists_and_left, exists_eq, Nat.zero_lt_one, Nat.lt_add_one, List.map_cons, List.map_nil, AObj.ver, Nat.reduceLT, not_true_eq_false]) trivial ?_
          by_cases hin : imgL next (pairs.getD i []) [(k : Int)] ∈ pairs
          · have hin2 : decide (imgL next (pairs.getD i []) [(k : Int)] ∉ pairs) = false := decide_eq_false (not_not_intro hin)
            simp only [B_spec_l02Apart_18, B_spec_l02Apart_19, fidx_neg, hin2, w3, go_sem, adopt_fun, Int.reduceLT, Int.reduceLE, Int.reduceToNat, Int.reduceNeg, Nat.reduceLT, Nat.reduceLeDiff, Nat.reduceMul, Nat.reduceSub, reduceIte, Nat.reduceEqDiff, Nat.reduceAdd, reduceCtorEq]
            refine ⟨k + 1, by omega, ⟨by omega, fun l hl2 => ?_⟩, rfl⟩
            by_cases hlk : l < k
            · exact hl l hlk
            · have : l = k := by omega
              subst this; exact hin
          · have hin2 : decide (imgL next (pairs.getD i []) [(k : Int)] ∉ pairs) = true := decide_eq_true hin
            have hf : awB n next pairs = false := awB_f fun h => hin ((h.2 i hlt1).2.2 k hkl1)
            simp only [B_spec_l02Apart_18, fidx_neg, hin2, hf, go_sem, adopt_fun, Int.reduceLT, Int.reduceLE, Int.reduceToNat, Int.reduceNeg, Nat.reduceLT, Nat.reduceLeDiff, Nat.reduceMul, Nat.reduceSub, reduceIte, Nat.reduceEqDiff, Nat.reduceAdd, reduceCtorEq]
        · have e2 : (((imgL next (pairs.getD i []) [(k : Int)]).length : Int) != 2) = true := bneT (by omega)
          have hf : awB n next pairs = false := awB_f fun h => h2l (by
            have h5 := (h.2 i hlt1).2.2 k hkl1
            obtain ⟨j, hj⟩ := List.getElem?_of_mem h5
            have hj2 : j < pairs.length := (List.getElem?_eq_some_iff.1 hj).1
            have h6 := ((every_iff (by omega)).1 (h.2 j hj2).1).1
            rw [List.getD_eq_getElem?_getD, hj] at h6
            exact h6)
          simp only [B_spec_l02Apart_18, e2, hf, go_sem, adopt_fun, Int.reduceLT, Int.reduceLE, Int.reduceToNat, Int.reduceNeg, Nat.reduceLT, Nat.reduceLeDiff, Nat.reduceMul, Nat.reduceSub, reduceIte, Nat.reduceEqDiff, Nat.reduceAdd, reduceCtorEq]
      · have hkf : k = next.length := by omega
        simp only [B_spec_l02Apart_14, B_spec_l02Apart_15, B_spec_l02Apart_16, B_spec_l02Apart_20, decide_eq_false hkl, nat1 i _ hlt1 hMp, go_sem, adopt_fun, Int.reduceLT, Int.reduceLE, Int.reduceToNat, Int.reduceNeg, Nat.reduceLT, Nat.reduceLeDiff, Nat.reduceMul, Nat.reduceSub, reduceIte, Nat.reduceEqDiff, Nat.reduceAdd, reduceCtorEq]
        intro _
        refine ⟨i + 1, by omega, ⟨by omega, fun j hj => ?_⟩, rfl⟩
        by_cases hji : j < i
        · exact hall2 j hji
        · have : j = i := by omega
          subst this
          exact fun l hl2 => hl l (by omega)
    · have hfin : i = pairs.length := by omega
      subst hfin
      simp only [B_spec_l02Apart_10, B_spec_l02Apart_11, B_spec_l02Apart_12, B_spec_l02Apart_21, decide_eq_false hlt, go_sem, adopt_fun, Int.reduceLT, Int.reduceLE, Int.reduceToNat, Int.reduceNeg, Nat.reduceLT, Nat.reduceLeDiff, Nat.reduceMul, Nat.reduceSub, reduceIte, Nat.reduceEqDiff, Nat.reduceAdd, reduceCtorEq]
      intro _ _
      by_cases h0 : pairs.length = 0
      · have hf : awB n next pairs = false := awB_f fun h => by have := h.1; omega
        rw [hf]; simp [h0]
      · have ht : awB n next pairs = true := awB_t ⟨by omega, fun j hj => ⟨(hall j hj).1, (hall j hj).2, hall2 j hj⟩⟩
        rw [ht]; simp; omega
end Go.Ab
