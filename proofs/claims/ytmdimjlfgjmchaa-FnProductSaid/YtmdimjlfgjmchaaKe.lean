/- Contracts: small functions, further. Conditions: none. -/
import Derived.Test.YtmdimjlfgjmchaaKd
set_option linter.all false
namespace Go.Ab
open Go.Proofs
set_option maxRecDepth 20000
set_option linter.unusedSimpArgs false

theorem nat1 (i : Nat) (m : Nat) (h : i < m) (hm : m ≤ maxLen) : IntKind.i64.wrap ((i : Int) + 1) = ((i + 1 : Nat) : Int) := by
  have := maxLen_le
  rw [w64 (by omega)]; simp

theorem k_a2At (code : List Int) (at_ n : Int) (hb : ∀ x ∈ code, 0 ≤ x ∧ x ≤ 255) (ha : 0 ≤ at_) : FunE Try.prog n_laws_a2At [.ro (some (some 0)) 1 (intsK .u8 code), iv at_, iv n] (fun v => ∃ b, v = .int .i64 b ∧ 0 ≤ b ∧ (b < n ∨ b = 0)) := by
  refine funE_of mixed c_laws_a2At rfl ?_
  by_cases h : at_ ≥ code.length
  · simp only [B_laws_a2At_2, B_laws_a2At_3, B_laws_a2At_1, A_laws_a2At, decide_eq_true h, go_sem, adopt_fun, Int.reduceLT, Int.reduceLE, Int.reduceToNat, Int.reduceNeg, Nat.reduceLT, Nat.reduceLeDiff, Nat.reduceMul, Nat.reduceSub, reduceIte, Nat.reduceEqDiff, Nat.reduceAdd, reduceCtorEq]
    intro _
    exact ⟨_, rfl, 0, rfl, by omega, .inr rfl⟩
  · by_cases hn : n < 1
    · simp only [B_laws_a2At_2, B_laws_a2At_3, B_laws_a2At_1, A_laws_a2At, decide_eq_false h, decide_eq_true hn, go_sem, adopt_fun, Int.reduceLT, Int.reduceLE, Int.reduceToNat, Int.reduceNeg, Nat.reduceLT, Nat.reduceLeDiff, Nat.reduceMul, Nat.reduceSub, reduceIte, Nat.reduceEqDiff, Nat.reduceAdd, reduceCtorEq]
      intro _
      exact ⟨_, rfl, 0, rfl, by omega, .inr rfl⟩
    · have h1 : at_.toNat < code.length := by omega
      have hx := hb _ (getD_mem h1 0)
      have hn0 : ¬ n = 0 := by omega
      simp only [B_laws_a2At_2, B_laws_a2At_3, B_laws_a2At_1, A_laws_a2At, decide_eq_false h, decide_eq_false hn, intsK_getD h1, hn0, w64 (show -9223372036854775808 ≤ code.getD at_.toNat 0 ∧ code.getD at_.toNat 0 ≤ 9223372036854775807 by omega), go_sem, adopt_fun, Int.reduceLT, Int.reduceLE, Int.reduceToNat, Int.reduceNeg, Nat.reduceLT, Nat.reduceLeDiff, Nat.reduceMul, Nat.reduceSub, reduceIte, Nat.reduceEqDiff, Nat.reduceAdd, reduceCtorEq]
      intro _
      refine ⟨⟨ha, h1⟩, h1, _, rfl, _, rfl, Int.tmod_nonneg _ hx.1, .inl (Int.tmod_lt_of_pos _ (by omega))⟩

theorem k_a2Long (code more : List Int) : Fun Try.prog n_laws_a2Long [.ro (some (some 0)) 1 (intsK .u8 code), .ro (some (some 0)) 1 (intsK .u8 more)] (bv (decide ((code.length : Int) > 3000) || decide ((more.length : Int) > 3000))) := by
  refine fun_of mixed c_laws_a2Long rfl ⟨rfl, trivial⟩ ?_
  simp only [B_laws_a2Long_1, A_laws_a2Long, go_sem, adopt_fun, Int.reduceLT, Int.reduceLE, Int.reduceToNat, Int.reduceNeg, Nat.reduceLT, Nat.reduceLeDiff, Nat.reduceMul, Nat.reduceSub, reduceIte, Nat.reduceEqDiff, Nat.reduceAdd, reduceCtorEq]
  intro _
  by_cases h : (code.length : Int) > 3000
  · simp only [decide_eq_true h, go_sem, adopt_fun, Int.reduceLT, Int.reduceLE, Int.reduceToNat, Int.reduceNeg, Nat.reduceLT, Nat.reduceLeDiff, Nat.reduceMul, Nat.reduceSub, reduceIte, Nat.reduceEqDiff, Nat.reduceAdd, reduceCtorEq]
    try simp
  · simp only [decide_eq_false h, go_sem, adopt_fun, Int.reduceLT, Int.reduceLE, Int.reduceToNat, Int.reduceNeg, Nat.reduceLT, Nat.reduceLeDiff, Nat.reduceMul, Nat.reduceSub, reduceIte, Nat.reduceEqDiff, Nat.reduceAdd, reduceCtorEq]
    intro _
    try simp

theorem k_ActionOf (n : Int) (next : List (List Int)) (w : List Int) (A : Aut n next) (hw : IsW next.length w) (hl : w.length ≤ 400) : TupI Try.prog n_impl_ActionOf [autA n next, .ro none 1 (ints w)] (fun xs => xs = actA n next w) := by
  have h1 : autB n next = true := autB_iff.2 A
  have h2 : wordB next.length w = true := by
    simp only [wordB, Bool.and_eq_true, decide_eq_true_eq, allIn_iff]
    exact ⟨by omega, fun x hx => by have := hw x hx; omega⟩
  refine tupI_of mixed c_impl_ActionOf rfl ?_
  simp only [A_impl_ActionOf, B_impl_ActionOf_1, go_sem, adopt_fun, Int.reduceLT, Int.reduceLE, Int.reduceToNat, Int.reduceNeg, Nat.reduceLT, Nat.reduceLeDiff, Nat.reduceMul, Nat.reduceSub, reduceIte, Nat.reduceEqDiff, Nat.reduceAdd, reduceCtorEq]
  intro vs vs2
  refine call_fun (k_code n next n_impl_ActionOf_1 [autP n next, .rp [.ro none 1 (ints w)] 0] _ ⟨by simp only [go_sem, adopt_fun, Int.reduceLT, Int.reduceLE, Int.reduceToNat, Int.reduceNeg, Nat.reduceLT, Nat.reduceLeDiff, Nat.reduceMul, Nat.reduceSub, reduceIte, Nat.reduceEqDiff, Nat.reduceAdd, reduceCtorEq], by intros; simp only [rowIs, boxIs, coe_argN, coe_argNs, coe_ro_o, coeL_nil, coeL_cons, coe_any, coe_val, coe_ro, coe_ro_nil, coe_ro_own, coe_st, coe_st_agg, coe_rp, coe_rp_ptr, coe_clo, coe_own0, coe_ptr0, coeL_intsK, coeL_rws, coeL_rwn, L_hit, L_miss, L_nil, Nat.reduceEqDiff, ne_eq, reduceCtorEq, not_false_eq_true, true_and, and_true, and_self, exists_eq_left, exists_eq_right, List.mem_cons, List.not_mem_nil, or_false, AObj.row.injEq, AObj.box.injEq, exists_eq_left', exists_and_left, exists_eq, Nat.zero_lt_one, Nat.lt_add_one, List.map_cons, List.map_nil, AObj.ver, Nat.reduceLT, not_true_eq_false]⟩ (fun _ => k_ActionOf_1 n next w ⟨A.l1, A.l2⟩)) qCS trivial ?_
  have h3 : codeI (autB n next) (wordB next.length w) = 0 := by simp [codeI, h1, h2]
  simp only [h3, B_impl_ActionOf_2, B_impl_ActionOf_3, B_impl_ActionOf_4, bne_self_eq_false, go_sem, adopt_fun, Int.reduceLT, Int.reduceLE, Int.reduceToNat, Int.reduceNeg, Nat.reduceLT, Nat.reduceLeDiff, Nat.reduceMul, Nat.reduceSub, reduceIte, Nat.reduceEqDiff, Nat.reduceAdd, reduceCtorEq]
  intro vs3
  refine call_rowI (k_action n next w A hw) qCS qWS ⟨_, rfl⟩ ?_
  rintro xs v rfl
  simp only [go_sem, adopt_fun, Int.reduceLT, Int.reduceLE, Int.reduceToNat, Int.reduceNeg, Nat.reduceLT, Nat.reduceLeDiff, Nat.reduceMul, Nat.reduceSub, reduceIte, Nat.reduceEqDiff, Nat.reduceAdd, reduceCtorEq]
  exact ⟨15, v, _, by omega, rfl, by simp only [go_sem, adopt_fun, Int.reduceLT, Int.reduceLE, Int.reduceToNat, Int.reduceNeg, Nat.reduceLT, Nat.reduceLeDiff, Nat.reduceMul, Nat.reduceSub, reduceIte, Nat.reduceEqDiff, Nat.reduceAdd, reduceCtorEq], rfl⟩

end Go.Ab
