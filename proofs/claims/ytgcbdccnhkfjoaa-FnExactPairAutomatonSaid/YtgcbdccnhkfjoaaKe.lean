/- Contracts: small functions, further. Conditions: none. -/
import Derived.Test.YtgcbdccnhkfjoaaKd
set_option linter.all false
namespace Go.Ab
open Go.Proofs
set_option maxRecDepth 20000
set_option linter.unusedSimpArgs false

theorem nat1 (i : Nat) (m : Nat) (h : i < m) (hm : m ≤ maxLen) : IntKind.i64.wrap ((i : Int) + 1) = ((i + 1 : Nat) : Int) := by
  have := maxLen_le
  rw [w64 (by omega)]; simp

theorem take_eq_step {α : Type} [BEq α] {xs ys : List α} {i : Nat} (d : α) (h : i < xs.length) (h' : i < ys.length) (he : xs.take i = ys.take i) (hx : xs.getD i d = ys.getD i d) : xs.take (i + 1) = ys.take (i + 1) := by
  rw [List.getD_eq_getElem?_getD, List.getD_eq_getElem?_getD, List.getElem?_eq_getElem h, List.getElem?_eq_getElem h'] at hx
  simp only [Option.getD_some] at hx
  rw [List.take_add_one, List.take_add_one, he, List.getElem?_eq_getElem h, List.getElem?_eq_getElem h', hx]

theorem bne_false_eq {a b : Int} (h : (a != b) = false) : a = b := by simpa using h

theorem k_Equal (xs ys : List Int) : Fun Try.prog n_slices_Equal_LI [.ro none 1 (ints xs), .ro none 1 (ints ys)] (bv (decide (xs = ys))) := by
  refine fun_of mixed c_slices_Equal_LI rfl ⟨rfl, trivial⟩ ?_
  simp only [A_slices_Equal_LI, B_slices_Equal_LI_1, go_sem, adopt_fun, Int.reduceLT, Int.reduceLE, Int.reduceToNat, Int.reduceNeg, Nat.reduceLT, Nat.reduceLeDiff, Nat.reduceMul, Nat.reduceSub, reduceIte, Nat.reduceEqDiff, Nat.reduceAdd, reduceCtorEq]
  intro hx hy
  by_cases hlen : xs.length = ys.length
  · have hne : ((xs.length : Int) != (ys.length : Int)) = false := by rw [hlen]; simp
    simp only [hne, B_slices_Equal_LI_2, B_slices_Equal_LI_3, B_slices_Equal_LI_4, go_sem, adopt_fun, Int.reduceLT, Int.reduceLE, Int.reduceToNat, Int.reduceNeg, Nat.reduceLT, Nat.reduceLeDiff, Nat.reduceMul, Nat.reduceSub, reduceIte, Nat.reduceEqDiff, Nat.reduceAdd, reduceCtorEq]
    intro _
    refine wpD_lo (fun i => xs.length - i) (fun i => i ≤ xs.length ∧ xs.take i = ys.take i)
      (fun i : Nat => ⟨L .any [(0, .ro none 1 (ints xs)), (1, .ro none 1 (ints ys)), (12, iv xs.length), (13, iv i)], L .gone []⟩) 0 (by simp) (by simp only [B_slices_Equal_LI_5, go_sem, adopt_fun, Int.reduceLT, Int.reduceLE, Int.reduceToNat, Int.reduceNeg, Nat.reduceLT, Nat.reduceLeDiff, Nat.reduceMul, Nat.reduceSub, reduceIte, Nat.reduceEqDiff, Nat.reduceAdd, reduceCtorEq]; try rfl) ?_
    rintro i ⟨hi, hti⟩
    by_cases hlt : (i : Int) < xs.length
    · have hlt1 : i < xs.length := by omega
      have hlt2 : i < ys.length := by omega
      simp only [B_slices_Equal_LI_5, B_slices_Equal_LI_6, B_slices_Equal_LI_7, B_slices_Equal_LI_8, intsK_getD hlt1, intsK_getD hlt2, decide_eq_true hlt, go_sem, adopt_fun, Int.reduceLT, Int.reduceLE, Int.reduceToNat, Int.reduceNeg, Nat.reduceLT, Nat.reduceLeDiff, Nat.reduceMul, Nat.reduceSub, reduceIte, Nat.reduceEqDiff, Nat.reduceAdd, reduceCtorEq]
      refine ⟨⟨by omega, hlt1⟩, hlt1, ⟨by omega, hlt2⟩, hlt2, ?_⟩
      simp only [B_slices_Equal_LI_9, B_slices_Equal_LI_10, nat1 i _ hlt1 hx, go_sem, adopt_fun, Int.reduceLT, Int.reduceLE, Int.reduceToNat, Int.reduceNeg, Nat.reduceLT, Nat.reduceLeDiff, Nat.reduceMul, Nat.reduceSub, reduceIte, Nat.reduceEqDiff, Nat.reduceAdd, reduceCtorEq]
      refine ⟨fun h => ?_, fun h => ⟨i + 1, by omega, ⟨by omega, take_eq_step 0 hlt1 hlt2 hti (bne_false_eq h)⟩, rfl⟩⟩
      have : xs ≠ ys := by rintro rfl; simp at h
      simp [this]
    · have : i = xs.length := by omega
      subst this
      simp only [B_slices_Equal_LI_5, B_slices_Equal_LI_6, B_slices_Equal_LI_7, B_slices_Equal_LI_11, decide_eq_false hlt, go_sem, adopt_fun, Int.reduceLT, Int.reduceLE, Int.reduceToNat, Int.reduceNeg, Nat.reduceLT, Nat.reduceLeDiff, Nat.reduceMul, Nat.reduceSub, reduceIte, Nat.reduceEqDiff, Nat.reduceAdd, reduceCtorEq]
      have : xs = ys := by rw [List.take_length, hlen, List.take_length] at hti; exact hti
      simp [this]
  · have hne : ((xs.length : Int) != (ys.length : Int)) = true := by simp; omega
    simp only [hne, B_slices_Equal_LI_2, go_sem, adopt_fun, Int.reduceLT, Int.reduceLE, Int.reduceToNat, Int.reduceNeg, Nat.reduceLT, Nat.reduceLeDiff, Nat.reduceMul, Nat.reduceSub, reduceIte, Nat.reduceEqDiff, Nat.reduceAdd, reduceCtorEq]
    have : xs ≠ ys := by rintro rfl; exact hlen rfl
    simp [this]

theorem k_a2At (code : List Int) (at_ n : Int) (hb : ∀ x ∈ code, 0 ≤ x ∧ x ≤ 255) (ha : 0 ≤ at_) : FunE Try.prog n_laws_a2At [.ro (some (some 0)) 1 (intsK .u8 code), iv at_, iv n] (fun v => ∃ b, v = .int .i64 b ∧ 0 ≤ b ∧ (b < n ∨ b = 0)) := by
  refine funE_of mixed c_laws_a2At rfl ?_
  by_cases h : at_ ≥ code.length
  · simp only [B_laws_a2At_2, B_laws_a2At_3, B_laws_a2At_1, A_laws_a2At, decide_eq_true h, go_sem, adopt_fun, Int.reduceLT, Int.reduceLE, Int.reduceToNat, Int.reduceNeg, Nat.reduceLT, Nat.reduceLeDiff, Nat.reduceMul, Nat.reduceSub, reduceIte, Nat.reduceEqDiff, Nat.reduceAdd, reduceCtorEq]
    intro _
    exact ⟨_, rfl, 0, rfl, by omega, .inr rfl⟩
  · by_cases hn : n < 1
    · simp only [B_laws_a2At_2, B_laws_a2At_3, B_laws_a2At_1, A_laws_a2At, decide_eq_false h, decide_eq_true hn, go_sem, adopt_fun, Int.reduceLT, Int.reduceLE, Int.reduceToNat, Int.reduceNeg, Nat.reduceLT, Nat.reduceLeDiff, Nat.reduceMul, Nat.reduceSub, reduceIte, Nat.reduceEqDiff, Nat.reduceAdd, reduceCtorEq]
      intro _
      exact ⟨_, rfl, 0, rfl, by omega, .inr rfl⟩
    · have h1 : at_.toNat < code.length := by omega
      have hx := hb _ (getD_mem h1 0)
      have hn0 : ¬ n = 0 := by omega
      simp only [B_laws_a2At_2, B_laws_a2At_3, B_laws_a2At_1, A_laws_a2At, decide_eq_false h, decide_eq_false hn, intsK_getD h1, hn0, w64 (show -9223372036854775808 ≤ code.getD at_.toNat 0 ∧ code.getD at_.toNat 0 ≤ 9223372036854775807 by omega), go_sem, adopt_fun, Int.reduceLT, Int.reduceLE, Int.reduceToNat, Int.reduceNeg, Nat.reduceLT, Nat.reduceLeDiff, Nat.reduceMul, Nat.reduceSub, reduceIte, Nat.reduceEqDiff, Nat.reduceAdd, reduceCtorEq]
      intro _
      refine ⟨⟨ha, h1⟩, h1, _, rfl, _, rfl, Int.tmod_nonneg _ hx.1, .inl (Int.tmod_lt_of_pos _ (by omega))⟩

theorem k_a2Long (code more : List Int) : Fun Try.prog n_laws_a2Long [.ro (some (some 0)) 1 (intsK .u8 code), .ro (some (some 0)) 1 (intsK .u8 more)] (bv (decide ((code.length : Int) > 3000) || decide ((more.length : Int) > 3000))) := by
  refine fun_of mixed c_laws_a2Long rfl ⟨rfl, trivial⟩ ?_
  simp only [B_laws_a2Long_1, A_laws_a2Long, go_sem, adopt_fun, Int.reduceLT, Int.reduceLE, Int.reduceToNat, Int.reduceNeg, Nat.reduceLT, Nat.reduceLeDiff, Nat.reduceMul, Nat.reduceSub, reduceIte, Nat.reduceEqDiff, Nat.reduceAdd, reduceCtorEq]
  intro _
  by_cases h : (code.length : Int) > 3000
  · simp only [decide_eq_true h, go_sem, adopt_fun, Int.reduceLT, Int.reduceLE, Int.reduceToNat, Int.reduceNeg, Nat.reduceLT, Nat.reduceLeDiff, Nat.reduceMul, Nat.reduceSub, reduceIte, Nat.reduceEqDiff, Nat.reduceAdd, reduceCtorEq]
    try simp
  · simp only [decide_eq_false h, go_sem, adopt_fun, Int.reduceLT, Int.reduceLE, Int.reduceToNat, Int.reduceNeg, Nat.reduceLT, Nat.reduceLeDiff, Nat.reduceMul, Nat.reduceSub, reduceIte, Nat.reduceEqDiff, Nat.reduceAdd, reduceCtorEq]
    intro _
    try simp

theorem k_a2All (n : Int) (hn : 0 ≤ n ∧ n ≤ 1000000) : RowI Try.prog n_laws_a2All [iv n] (fun xs => xs = allS n) := by
  refine rowI_of mixed c_laws_a2All rfl ?_
  simp only [A_laws_a2All, B_laws_a2All_1, go_sem, adopt_fun, Int.reduceLT, Int.reduceLE, Int.reduceToNat, Int.reduceNeg, Nat.reduceLT, Nat.reduceLeDiff, Nat.reduceMul, Nat.reduceSub, reduceIte, Nat.reduceEqDiff, Nat.reduceAdd, reduceCtorEq]
  intro vs
  simp only [B_laws_a2All_2, B_laws_a2All_3, go_sem, adopt_fun, Int.reduceLT, Int.reduceLE, Int.reduceToNat, Int.reduceNeg, Nat.reduceLT, Nat.reduceLeDiff, Nat.reduceMul, Nat.reduceSub, reduceIte, Nat.reduceEqDiff, Nat.reduceAdd, reduceCtorEq]
  refine wpD_lo (fun (_, i) => n.toNat - i) (fun (_, i) => (i : Int) ≤ n)
    (fun ((v, i) : Nat × Nat) => ⟨L .any [(0, iv n), (3, .own 5 v), (4, iv i)], L .gone [(5, .row v 1 true (ints ((List.range i).map fun (s : Nat) => (s : Int))))]⟩) (_, 0) (by simp; omega) (by simp only [B_laws_a2All_4, go_sem, adopt_fun, Int.reduceLT, Int.reduceLE, Int.reduceToNat, Int.reduceNeg, Nat.reduceLT, Nat.reduceLeDiff, Nat.reduceMul, Nat.reduceSub, reduceIte, Nat.reduceEqDiff, Nat.reduceAdd, reduceCtorEq]; try rfl) ?_
  rintro ⟨v, i⟩ hi
  have hi : (i : Int) ≤ n := hi
  by_cases hlt : (i : Int) < n
  · have w1 : IntKind.i64.wrap ((i : Int) + 1) = ((i + 1 : Nat) : Int) := by rw [w64 (by omega)]; simp
    have hr : ((List.range i).map fun (s : Nat) => (s : Int)) ++ [(i : Int)] = (List.range (i + 1)).map fun (s : Nat) => (s : Int) := by rw [List.range_succ, List.map_append]; rfl
    simp only [B_laws_a2All_4, B_laws_a2All_5, B_laws_a2All_6, B_laws_a2All_7, w1, decide_eq_true hlt, go_sem, adopt_fun, Int.reduceLT, Int.reduceLE, Int.reduceToNat, Int.reduceNeg, Nat.reduceLT, Nat.reduceLeDiff, Nat.reduceMul, Nat.reduceSub, reduceIte, Nat.reduceEqDiff, Nat.reduceAdd, reduceCtorEq]
    intro vs3
    rw [hr]
    refine ⟨⟨_, rfl, rfl⟩, by simp; omega, (_, i + 1), ?_, ?_, rfl⟩
    · show n.toNat - (i + 1) < n.toNat - i; omega
    · show ((i + 1 : Nat) : Int) ≤ n; omega
  · have : (i : Int) = n := by omega
    have he : ((List.range i).map fun (s : Nat) => (s : Int)) = allS n := by rw [← this]; simp [allS]
    simp only [B_laws_a2All_4, B_laws_a2All_5, B_laws_a2All_6, B_laws_a2All_8, decide_eq_false hlt, go_sem, adopt_fun, Int.reduceLT, Int.reduceLE, Int.reduceToNat, Int.reduceNeg, Nat.reduceLT, Nat.reduceLeDiff, Nat.reduceMul, Nat.reduceSub, reduceIte, Nat.reduceEqDiff, Nat.reduceAdd, reduceCtorEq]
    refine ⟨5, v, allS n, by omega, rfl, ?_, rfl⟩
    simp only [he, go_sem, adopt_fun, Int.reduceLT, Int.reduceLE, Int.reduceToNat, Int.reduceNeg, Nat.reduceLT, Nat.reduceLeDiff, Nat.reduceMul, Nat.reduceSub, reduceIte, Nat.reduceEqDiff, Nat.reduceAdd, reduceCtorEq]

/-- A list of small numbers as a text. -/
def keyS (xs : List Int) : ByteArray := ⟨((xs.map IntKind.u8.wrap).map fun n => UInt8.ofNat n.toNat).toArray⟩

theorem cvbs_ok {ys : List Int} : (∀ A ∈ intsK .u8 ys, (byteOfCell A).isSome = true) = True := by
  refine eq_true fun A hA => ?_
  simp only [List.mem_map] at hA
  obtain ⟨y, _, rfl⟩ := hA
  rfl
theorem cvbs_eq : ∀ {ys : List Int}, (intsK .u8 ys).filterMap byteOfCell = ys.map fun n => UInt8.ofNat n.toNat
  | [] => rfl
  | y :: ys => by
    have h := cvbs_eq (ys := ys)
    simp only [List.map_cons] at h ⊢
    rw [List.filterMap_cons, h]
    simp [byteOfCell]

theorem k_ActionOf (n : Int) (next : List (List Int)) (w : List Int) (A : Aut n next) (hw : IsW next.length w) (hl : w.length ≤ 400) : TupI Try.prog n_impl_ActionOf [autA n next, .ro none 1 (ints w)] (fun xs => xs = actA n next w) := by
  have h1 : autB n next = true := autB_iff.2 A
  have h2 : wordB next.length w = true := by
    simp only [wordB, Bool.and_eq_true, decide_eq_true_eq, allIn_iff]
    exact ⟨by omega, fun x hx => by have := hw x hx; omega⟩
  refine tupI_of mixed c_impl_ActionOf rfl ?_
  simp only [A_impl_ActionOf, B_impl_ActionOf_1, go_sem, adopt_fun, Int.reduceLT, Int.reduceLE, Int.reduceToNat, Int.reduceNeg, Nat.reduceLT, Nat.reduceLeDiff, Nat.reduceMul, Nat.reduceSub, reduceIte, Nat.reduceEqDiff, Nat.reduceAdd, reduceCtorEq]
  intro vs vs2
  refine call_fun (k_code n next n_impl_ActionOf_1 [autP n next, .rp [.ro none 1 (ints w)] 0] _ ⟨by simp only [go_sem, adopt_fun, Int.reduceLT, Int.reduceLE, Int.reduceToNat, Int.reduceNeg, Nat.reduceLT, Nat.reduceLeDiff, Nat.reduceMul, Nat.reduceSub, reduceIte, Nat.reduceEqDiff, Nat.reduceAdd, reduceCtorEq], by intros; simp only [rowIs, boxIs, coe_argN, coe_argNs, coe_ro_o, coeL_nil, coeL_cons, coe_any, coe_val, coe_ro, coe_ro_nil, coe_ro_own, coe_st, coe_st_agg, coe_rp, coe_rp_ptr, coe_clo, coe_own0, coe_ptr0, coeL_intsK, coeL_rws, coeL_rwn, L_hit, L_miss, L_nil, Nat.reduceEqDiff, ne_eq, reduceCtorEq, not_false_eq_true, true_and, and_true, and_self, exists_eq_left, exists_eq_right, List.mem_cons, List.not_mem_nil, or_false, AObj.row.injEq, AObj.box.injEq, exists_eq_left', exists_and_left, exists_eq, Nat.zero_lt_one, Nat.lt_add_one, List.map_cons, List.map_nil, AObj.ver, Nat.reduceLT, not_true_eq_false]⟩ (fun _ => k_ActionOf_1 n next w ⟨A.l1, A.l2⟩)) (by simp only [rowIs, boxIs, coe_argN, coe_argNs, coe_ro_o, coeL_nil, coeL_cons, coe_any, coe_val, coe_ro, coe_ro_nil, coe_ro_own, coe_st, coe_st_agg, coe_rp, coe_rp_ptr, coe_clo, coe_own0, coe_ptr0, coeL_intsK, coeL_rws, coeL_rwn, L_hit, L_miss, L_nil, Nat.reduceEqDiff, ne_eq, reduceCtorEq, not_false_eq_true, true_and, and_true, and_self, exists_eq_left, exists_eq_right, List.mem_cons, List.not_mem_nil, or_false, AObj.row.injEq, AObj.box.injEq, exists_eq_left', exists_and_left, exists_eq, Nat.zero_lt_one, Nat.lt_add_one, List.map_cons, List.map_nil, AObj.ver, Nat.reduceLT, not_true_eq_false]) trivial ?_
  have h3 : codeI (autB n next) (wordB next.length w) = 0 := by simp [codeI, h1, h2]
  simp only [h3, B_impl_ActionOf_2, B_impl_ActionOf_3, B_impl_ActionOf_4, bne_self_eq_false, go_sem, adopt_fun, Int.reduceLT, Int.reduceLE, Int.reduceToNat, Int.reduceNeg, Nat.reduceLT, Nat.reduceLeDiff, Nat.reduceMul, Nat.reduceSub, reduceIte, Nat.reduceEqDiff, Nat.reduceAdd, reduceCtorEq]
  intro vs3
  refine call_rowI (k_action n next w A hw) (by simp only [rowIs, boxIs, coe_argN, coe_argNs, coe_ro_o, coeL_nil, coeL_cons, coe_any, coe_val, coe_ro, coe_ro_nil, coe_ro_own, coe_st, coe_st_agg, coe_rp, coe_rp_ptr, coe_clo, coe_own0, coe_ptr0, coeL_intsK, coeL_rws, coeL_rwn, L_hit, L_miss, L_nil, Nat.reduceEqDiff, ne_eq, reduceCtorEq, not_false_eq_true, true_and, and_true, and_self, exists_eq_left, exists_eq_right, List.mem_cons, List.not_mem_nil, or_false, AObj.row.injEq, AObj.box.injEq, exists_eq_left', exists_and_left, exists_eq, Nat.zero_lt_one, Nat.lt_add_one, List.map_cons, List.map_nil, AObj.ver, Nat.reduceLT, not_true_eq_false]) (by simp only [go_sem, adopt_fun, Int.reduceLT, Int.reduceLE, Int.reduceToNat, Int.reduceNeg, Nat.reduceLT, Nat.reduceLeDiff, Nat.reduceMul, Nat.reduceSub, reduceIte, Nat.reduceEqDiff, Nat.reduceAdd, reduceCtorEq]) ⟨_, rfl⟩ ?_
  rintro xs v rfl
  simp only [go_sem, adopt_fun, Int.reduceLT, Int.reduceLE, Int.reduceToNat, Int.reduceNeg, Nat.reduceLT, Nat.reduceLeDiff, Nat.reduceMul, Nat.reduceSub, reduceIte, Nat.reduceEqDiff, Nat.reduceAdd, reduceCtorEq]
  exact ⟨15, v, _, by omega, rfl, by simp only [go_sem, adopt_fun, Int.reduceLT, Int.reduceLE, Int.reduceToNat, Int.reduceNeg, Nat.reduceLT, Nat.reduceLeDiff, Nat.reduceMul, Nat.reduceSub, reduceIte, Nat.reduceEqDiff, Nat.reduceAdd, reduceCtorEq], rfl⟩

end Go.Ab
