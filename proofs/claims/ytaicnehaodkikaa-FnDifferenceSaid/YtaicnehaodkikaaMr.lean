/- Contracts: the reference draws two machines. Conditions: none. -/
import Derived.Test.YtaicnehaodkikaaMq
set_option linter.all false
namespace Go.Ab
open Go.Proofs
set_option maxRecDepth 20000
set_option maxHeartbeats 4000000

theorem call_funBN {P : Program} {nos : List Nat} {σ : St} {g : FuncId} {As args : List AVal} {d : Option Nat} {s : Nat → Nat} {K : St → Prop} {cs cs0 : List AVal} {Q : List AVal → Value → Prop} {r v : Nat} (h : FunB P g cs args Q) (hr : σ.hp r = .box v cs0) (hm : r ∈ nos)
    (hcs : CoeL σ.hp [r] false cs cs0) (hco : CoeL σ.hp [r] false args As) (hex : ∃ cs' x, Q cs' x ∧ flatL cs') (hk : ∀ cs' x, Q cs' x → K (St.put ⟨σ.tm, upd σ.hp r (.box v cs')⟩ d (.val x))) : wpCallN P nos σ g (.ptr r v 0 :: As) d s K := by
  refine ⟨[r], [.box 0 cs], .ptr 5000 0 0 :: args, true, _, h, ⟨by simp, rfl, by simp, ?_, ?_⟩, ?_, ⟨by simpa using hm, ?_⟩, ?_⟩
  · intro r' hr'
    simp only [List.mem_singleton] at hr'
    subst hr'; rw [hr]; simp
  · intro j B r' hB hr'
    cases j with
    | zero =>
      simp at hB hr'
      subst hB hr'
      rw [hr]
      exact ⟨rfl, v, cs0, rfl, hcs⟩
    | succ j => simp at hB
  · rw [coeL_cons, coe_ptr0, hr]
    exact ⟨rfl, hco⟩
  · obtain ⟨cs', x, hq, hf⟩ := hex
    exact ⟨[.box 0 cs'], [], .val x, cs', x, hq, hf, rfl, rfl, rfl⟩
  · rintro outs rows res ⟨cs', x, hq, hf, rfl, rfl, rfl⟩
    refine ⟨rfl, rfl, ?_⟩
    rw [callHp_m, ren_val, oren_box, renL_flat cs' hf]
    have : sv σ.hp [r] s 0 = v := by simp [sv, hr, AObj.ver]
    rw [this]
    exact hk cs' x hq

theorem flat_srcC {code : List Int} {a s : Int} : flatL (srcC code a s) := by simp [flatL, AVal.flat, flat_vals]

/-- The names of what a call makes are new. -/
theorem call_machF {P : Program} {σ : St} {g : FuncId} {As args : List AVal} {d : Nat} {s : Nat → Nat} {K : St → Prop} {n o : Int} {x y : List (List Int)} (hs : ∀ x y, s x = s y → x = y)
    (h : NamM P g args n o x y) (hco : CoeL σ.hp [] true args As) (hg : σ.hp d = .gone) (hg2 : σ.hp (d + 1000) = .gone)
    (hk : ∀ v w ps qs, ps.map (·.2) = x → qs.map (·.2) = y → DJ (ps ++ qs) → (∀ p ∈ ps ++ qs, ∃ z, p.1 = s z) → K (St.put ⟨σ.tm, upd (upd σ.hp d (.row v 1 true (rwp ps))) (d + 1000) (.row w 1 true (rwp qs))⟩ (some d) (.st [iv n, iv o, .own d v, .own (d + 1000) w]))) : wpCall P false σ g As (some d) s K := by
  refine call_fn h hco (fun e => by cases e) ?_
  rintro rows res ⟨v, w, ps, qs, rfl, hp, hq, hd, rfl⟩
  refine ⟨by simp, ?_, ?_⟩
  · simp only [Option.getD_some, gone_two]; exact ⟨hg, hg2⟩
  · simp only [Option.getD_some, renL_rwp, List.length_cons, List.length_nil, Nat.zero_add, Nat.reduceAdd, Nat.not_lt_zero, range1, ren_val, ren_any, ren_ro, rnNm_n, rnNm_sn, rnNm_o, rnNm_s, ren_st, ren_tup, renL_nil, renL_cons, renL_intsK, renL_rws, renL_rwn, oren_box, oren_row, oren_map, ren_own_e0, ren_own_e1, ren_own_e2, ren_ptr_e0, ren_mp_e0, ren_mp_e1, ren_own_r0, ren_own_r1, ren_own_r2, ren_ptr_r0, ren_mp_r0, ren_mp_r1, List.range_zero, callHp_nil, callHp_one, callHp_two, gone_nil, gone_one, gone_two, AVal.fresh, freshL, fresh_intsK, fresh_rws, AObj.fresh, id, Option.isSome_some, or_true, true_or]
    refine hk _ _ _ _ (by rw [List.map_map]; exact hp) (by rw [List.map_map]; exact hq) (by have := hd.ren hs; rw [List.map_append] at this; exact this) (fun p hp => ?_)
    rw [← List.map_append] at hp
    obtain ⟨z, _, rfl⟩ := List.mem_map.1 hp
    exact ⟨z.1, rfl⟩

theorem rwp_split {ps : List (Nat × List Int)} {k : Nat} (h : k < ps.length) : ∃ A b C, ps = A ++ b :: C ∧ A.length = k :=
  ⟨ps.take k, ps[k], ps.drop (k + 1), by rw [← List.drop_eq_getElem_cons h, List.take_append_drop], by rw [List.length_take]; omega⟩

theorem expo3 {r r0 r1 r2 : Nat} {l : List Nat} (h : r < 5000) (h0 : r0 ≠ r) (h1 : r1 ≠ r) (h2 : r2 ≠ r) : expo (r0 :: r1 :: r2 :: r :: l) r = some 6003 := by
  unfold expo
  rw [if_neg (by omega)]
  simp [List.idxOf?, List.findIdx?, List.findIdx?.go, h0, h1, h2]
theorem ren_own_e3 {r r0 r1 r2 v : Nat} {l : List Nat} {s : Nat → Nat} (h : r < 5000) (h0 : r0 ≠ r) (h1 : r1 ≠ r) (h2 : r2 ≠ r) : AVal.ren (expo (r0 :: r1 :: r2 :: r :: l)) s (.own r v) = .own 6003 (s v) := ren_own (expo3 h h0 h1 h2)
theorem map_pair (l : List (Nat × List Int)) : List.map (fun p => (id p.1, p.2)) l = l := by simp
theorem map_pair2 (l : List (Nat × List Int)) : List.map (fun p => (p.1, p.2)) l = l := by simp

/-- Two machines of the call's own. -/
abbrev TwoR (outs rows : List AObj) (res : AVal) : Prop := outs = [] ∧ ∃ n o n' v1 v2 v3 v4 A B ps qs, Mach n o (A.map (·.2)) (B.map (·.2)) ∧ n ≤ 5 ∧ Mach n' o (ps.map (·.2)) (qs.map (·.2)) ∧ ps.length = A.length ∧
  rows = [.row v1 1 true (rwp A), .row v2 1 true (rwp B), .row v3 1 true (rwp ps), .row v4 1 true (rwp qs)] ∧ res = .tup [.st [iv n, iv o, .own 6000 v1, .own 6001 v2], .st [iv n', iv o, .own 6002 v3, .own 6003 v4]]

theorem k_P6Two (code : List Int) (hb : ∀ x ∈ code, 0 ≤ x ∧ x ≤ 255) : Con Try.prog n_spec_P6Two [] [.ro (some (some 0)) 1 (intsK .u8 code)] true TwoR := by
  refine con_sh mixed c_spec_P6Two rfl (by simp) ?_
  generalize hQ : finQ _ = Q
  -- behind all
  have h13 : ∀ (σ : St) (tw : Bool) (v2 v3 v5 v6 u w v18 v1018 v10 : Nat) (o12 o16 o17 o1012 o1016 o1017 o901 : AObj) (a s n o n' : Int) (A B ps qs : List (Nat × List Int)),
      (if tw = true then o16 = .row u 1 true (rwp A) ∧ o1016 = .row w 1 true (rwp B) else o12 = .row u 1 true (rwp A) ∧ o1012 = .row w 1 true (rwp B)) →
      Mach n o (A.map (·.2)) (B.map (·.2)) → n ≤ 5 → Mach n' o (ps.map (·.2)) (qs.map (·.2)) → ps.length = A.length →
      σ.keep [2, 3, 5, 6] [2, 3, 5, 6, 10, 12, 16, 17, 18, 1012, 1016, 1017, 1018, 5000, 901] = ⟨L .any [(2, .ptr 2 v2 0), (3, .ptr 3 v3 0), (5, .ptr 5 v5 0), (6, .ptr 6 v6 0)],
        L .gone [(2, .box v2 [iv 0, iv 0, nilS, nilS]), (3, .box v3 [iv 0, iv 0, nilS, nilS]), (5, .box v5 [iv n, iv o, .own (cond tw 16 12) u, .own (cond tw 1016 1012) w]), (6, .box v6 [iv n', iv o, .own 18 v18, .own 1018 v1018]), (10, .box v10 (srcC code a s)),
          (12, o12), (16, o16), (17, o17), (18, .row v18 1 true (rwp ps)), (1012, o1012), (1016, o1016), (1017, o1017), (1018, .row v1018 1 true (rwp qs)), (5000, .gone), (901, o901)]⟩ →
      wpD Try.prog B_spec_P6Two_13 Q σ := by
    intro σ tw v2 v3 v5 v6 u w v18 v1018 v10 o12 o16 o17 o1012 o1016 o1017 o901 a s n o n' A B ps qs hA M hn5 M' hl hS
    unfold B_spec_P6Two_13
    rw [wpD_kp, hS]
    simp only [wpD_gh]
    intro _
    refine ⟨[], ?_⟩
    cases tw with
    | false =>
      rw [if_neg (by simp)] at hA
      obtain ⟨rfl, rfl⟩ := hA
      simp only [gwp_nil, cond_false, wpD_kp, wpD_regi, go_sem, adopt_fun, Int.reduceLT, Int.reduceLE, Int.reduceToNat, Int.reduceNeg, Nat.reduceLT, Nat.reduceLeDiff, Nat.reduceMul, Nat.reduceSub, reduceIte, Nat.reduceEqDiff, Nat.reduceAdd, reduceCtorEq]
      intro vs U hN
      simp only [← hQ, A_spec_P6Two, go_sem, adopt_fun, Int.reduceLT, Int.reduceLE, Int.reduceToNat, Int.reduceNeg, Nat.reduceLT, Nat.reduceLeDiff, Nat.reduceMul, Nat.reduceSub, reduceIte, Nat.reduceEqDiff, Nat.reduceAdd, reduceCtorEq]
      refine ⟨[12, 1012, 18, 1018], by simp, by simp, by simp, ?_⟩
      simp only [range1, List.length_singleton, renL_rwp, map_pair, map_pair2, ren_own_e3, ne_eq, Nat.reduceEqDiff, not_false_eq_true, Nat.not_lt_zero, range1, ren_val, ren_any, ren_ro, rnNm_n, rnNm_sn, rnNm_o, rnNm_s, ren_st, ren_tup, renL_nil, renL_cons, renL_intsK, renL_rws, renL_rwn, oren_box, oren_row, oren_map, ren_own_e0, ren_own_e1, ren_own_e2, ren_ptr_e0, ren_mp_e0, ren_mp_e1, ren_own_r0, ren_own_r1, ren_own_r2, ren_ptr_r0, ren_mp_r0, ren_mp_r1, List.range_zero, callHp_nil, callHp_one, callHp_two, gone_nil, gone_one, gone_two, AVal.fresh, freshL, fresh_intsK, fresh_rws, AObj.fresh, id, Option.isSome_some, or_true, true_or, go_sem, adopt_fun, Int.reduceLT, Int.reduceLE, Int.reduceToNat, Int.reduceNeg, Nat.reduceLT, Nat.reduceLeDiff, Nat.reduceMul, Nat.reduceSub, reduceIte, Nat.reduceEqDiff, Nat.reduceAdd, reduceCtorEq]
      exact ⟨rfl, n, o, n', _, _, _, _, A, B, ps, qs, M, hn5, M', hl, rfl, rfl⟩
    | true =>
      rw [if_pos rfl] at hA
      obtain ⟨rfl, rfl⟩ := hA
      simp only [gwp_nil, cond_true, wpD_kp, wpD_regi, go_sem, adopt_fun, Int.reduceLT, Int.reduceLE, Int.reduceToNat, Int.reduceNeg, Nat.reduceLT, Nat.reduceLeDiff, Nat.reduceMul, Nat.reduceSub, reduceIte, Nat.reduceEqDiff, Nat.reduceAdd, reduceCtorEq]
      intro vs U hN
      simp only [← hQ, A_spec_P6Two, go_sem, adopt_fun, Int.reduceLT, Int.reduceLE, Int.reduceToNat, Int.reduceNeg, Nat.reduceLT, Nat.reduceLeDiff, Nat.reduceMul, Nat.reduceSub, reduceIte, Nat.reduceEqDiff, Nat.reduceAdd, reduceCtorEq]
      refine ⟨[16, 1016, 18, 1018], by simp, by simp, by simp, ?_⟩
      simp only [range1, List.length_singleton, renL_rwp, map_pair, map_pair2, ren_own_e3, ne_eq, Nat.reduceEqDiff, not_false_eq_true, Nat.not_lt_zero, range1, ren_val, ren_any, ren_ro, rnNm_n, rnNm_sn, rnNm_o, rnNm_s, ren_st, ren_tup, renL_nil, renL_cons, renL_intsK, renL_rws, renL_rwn, oren_box, oren_row, oren_map, ren_own_e0, ren_own_e1, ren_own_e2, ren_ptr_e0, ren_mp_e0, ren_mp_e1, ren_own_r0, ren_own_r1, ren_own_r2, ren_ptr_r0, ren_mp_r0, ren_mp_r1, List.range_zero, callHp_nil, callHp_one, callHp_two, gone_nil, gone_one, gone_two, AVal.fresh, freshL, fresh_intsK, fresh_rws, AObj.fresh, id, Option.isSome_some, or_true, true_or, go_sem, adopt_fun, Int.reduceLT, Int.reduceLE, Int.reduceToNat, Int.reduceNeg, Nat.reduceLT, Nat.reduceLeDiff, Nat.reduceMul, Nat.reduceSub, reduceIte, Nat.reduceEqDiff, Nat.reduceAdd, reduceCtorEq]
      exact ⟨rfl, n, o, n', _, _, _, _, A, B, ps, qs, M, hn5, M', hl, rfl, rfl⟩
  -- behind all, where a row is out of its row
  have h13b : ∀ (σ : St) (tw : Bool) (v2 v3 v5 v6 u w v18 v1018 v10 : Nat) (o12 o16 o17 o1012 o1016 o1017 : AObj) (a s n o n' : Int) (A B ps A3 C3 : List (Nat × List Int)) (m k : Nat) (cur : List Int), A3.length = k →
      (if tw = true then o16 = .row u 1 true (rwp A) ∧ o1016 = .row w 1 true (rwp B) else o12 = .row u 1 true (rwp A) ∧ o1012 = .row w 1 true (rwp B)) →
      Mach n o (A.map (·.2)) (B.map (·.2)) → n ≤ 5 → Mach n' o (ps.map (·.2)) ((A3 ++ (m, cur) :: C3).map (·.2)) → ps.length = A.length →
      σ.keep [2, 3, 5, 6] [2, 3, 5, 6, 10, 12, 16, 17, 18, 1012, 1016, 1017, 1018, 5000, 901] = ⟨L .any [(2, .ptr 2 v2 0), (3, .ptr 3 v3 0), (5, .ptr 5 v5 0), (6, .ptr 6 v6 0)],
        L .gone [(2, .box v2 [iv 0, iv 0, nilS, nilS]), (3, .box v3 [iv 0, iv 0, nilS, nilS]), (5, .box v5 [iv n, iv o, .own (cond tw 16 12) u, .own (cond tw 1016 1012) w]), (6, .box v6 [iv n', iv o, .own 18 v18, .own 1018 v1018]), (10, .box v10 (srcC code a s)),
          (12, o12), (16, o16), (17, o17), (18, .row v18 1 true (rwp ps)), (1012, o1012), (1016, o1016), (1017, o1017), (1018, .row v1018 1 true (rwp A3 ++ .own 901 m :: rwp C3)), (5000, .gone), (901, .row m 1 true (ints cur))]⟩ →
      wpD Try.prog B_spec_P6Two_13 Q σ := by
    intro σ tw v2 v3 v5 v6 u w v18 v1018 v10 o12 o16 o17 o1012 o1016 o1017 a s n o n' A B ps A3 C3 m k cur hk hA M hn5 M' hl hS
    unfold B_spec_P6Two_13
    rw [wpD_kp, hS]
    simp only [wpD_gh]
    intro _
    have hset4 : ∀ X : AVal, (rwp A3 ++ AVal.own 901 m :: rwp C3).set k X = rwp A3 ++ X :: rwp C3 := fun X => by
      rw [← hk, List.set_append_right _ _ (by rw [rwp_len]; exact Nat.le_refl _), rwp_len, Nat.sub_self]; rfl
    refine ⟨[.rf 1018 k 901], gwp_rf (k := 1) (nn := true) rfl (own_get hk.symm) (by decide) rfl fun _ => ?_⟩
    cases tw with
    | false =>
      rw [if_neg (by simp)] at hA
      obtain ⟨rfl, rfl⟩ := hA
      simp only [hset4, frNm_t, rwp_cat, gwp_nil, cond_false, wpD_kp, wpD_regi, go_sem, adopt_fun, Int.reduceLT, Int.reduceLE, Int.reduceToNat, Int.reduceNeg, Nat.reduceLT, Nat.reduceLeDiff, Nat.reduceMul, Nat.reduceSub, reduceIte, Nat.reduceEqDiff, Nat.reduceAdd, reduceCtorEq]
      intro vs U hN
      simp only [← hQ, A_spec_P6Two, go_sem, adopt_fun, Int.reduceLT, Int.reduceLE, Int.reduceToNat, Int.reduceNeg, Nat.reduceLT, Nat.reduceLeDiff, Nat.reduceMul, Nat.reduceSub, reduceIte, Nat.reduceEqDiff, Nat.reduceAdd, reduceCtorEq]
      refine ⟨[12, 1012, 18, 1018], by simp, by simp, by simp, ?_⟩
      simp only [range1, List.length_singleton, renL_rwp, map_pair, map_pair2, ren_own_e3, ne_eq, Nat.reduceEqDiff, not_false_eq_true, Nat.not_lt_zero, range1, ren_val, ren_any, ren_ro, rnNm_n, rnNm_sn, rnNm_o, rnNm_s, ren_st, ren_tup, renL_nil, renL_cons, renL_intsK, renL_rws, renL_rwn, oren_box, oren_row, oren_map, ren_own_e0, ren_own_e1, ren_own_e2, ren_ptr_e0, ren_mp_e0, ren_mp_e1, ren_own_r0, ren_own_r1, ren_own_r2, ren_ptr_r0, ren_mp_r0, ren_mp_r1, List.range_zero, callHp_nil, callHp_one, callHp_two, gone_nil, gone_one, gone_two, AVal.fresh, freshL, fresh_intsK, fresh_rws, AObj.fresh, id, Option.isSome_some, or_true, true_or, go_sem, adopt_fun, Int.reduceLT, Int.reduceLE, Int.reduceToNat, Int.reduceNeg, Nat.reduceLT, Nat.reduceLeDiff, Nat.reduceMul, Nat.reduceSub, reduceIte, Nat.reduceEqDiff, Nat.reduceAdd, reduceCtorEq]
      exact ⟨rfl, n, o, n', _, _, _, _, A, B, ps, _, M, hn5, M', hl, rfl, rfl⟩
    | true =>
      rw [if_pos rfl] at hA
      obtain ⟨rfl, rfl⟩ := hA
      simp only [hset4, frNm_t, rwp_cat, gwp_nil, cond_true, wpD_kp, wpD_regi, go_sem, adopt_fun, Int.reduceLT, Int.reduceLE, Int.reduceToNat, Int.reduceNeg, Nat.reduceLT, Nat.reduceLeDiff, Nat.reduceMul, Nat.reduceSub, reduceIte, Nat.reduceEqDiff, Nat.reduceAdd, reduceCtorEq]
      intro vs U hN
      simp only [← hQ, A_spec_P6Two, go_sem, adopt_fun, Int.reduceLT, Int.reduceLE, Int.reduceToNat, Int.reduceNeg, Nat.reduceLT, Nat.reduceLeDiff, Nat.reduceMul, Nat.reduceSub, reduceIte, Nat.reduceEqDiff, Nat.reduceAdd, reduceCtorEq]
      refine ⟨[16, 1016, 18, 1018], by simp, by simp, by simp, ?_⟩
      simp only [range1, List.length_singleton, renL_rwp, map_pair, map_pair2, ren_own_e3, ne_eq, Nat.reduceEqDiff, not_false_eq_true, Nat.not_lt_zero, range1, ren_val, ren_any, ren_ro, rnNm_n, rnNm_sn, rnNm_o, rnNm_s, ren_st, ren_tup, renL_nil, renL_cons, renL_intsK, renL_rws, renL_rwn, oren_box, oren_row, oren_map, ren_own_e0, ren_own_e1, ren_own_e2, ren_ptr_e0, ren_mp_e0, ren_mp_e1, ren_own_r0, ren_own_r1, ren_own_r2, ren_ptr_r0, ren_mp_r0, ren_mp_r1, List.range_zero, callHp_nil, callHp_one, callHp_two, gone_nil, gone_one, gone_two, AVal.fresh, freshL, fresh_intsK, fresh_rws, AObj.fresh, id, Option.isSome_some, or_true, true_or, go_sem, adopt_fun, Int.reduceLT, Int.reduceLE, Int.reduceToNat, Int.reduceNeg, Nat.reduceLT, Nat.reduceLeDiff, Nat.reduceMul, Nat.reduceSub, reduceIte, Nat.reduceEqDiff, Nat.reduceAdd, reduceCtorEq]
      exact ⟨rfl, n, o, n', _, _, _, _, A, B, ps, _, M, hn5, M', hl, rfl, rfl⟩
  -- behind the first call that tells whether the second one is bent
  have h8 : ∀ (σ : St) (tw : Bool) (v2 v3 v5 v6 u w v18 v1018 v10 : Nat) (o12 o16 o17 o1012 o1016 o1017 o901 : AObj) (a s n o n' : Int) (A B ps qs : List (Nat × List Int)) (b0 : Bool),
      (if tw = true then o16 = .row u 1 true (rwp A) ∧ o1016 = .row w 1 true (rwp B) else o12 = .row u 1 true (rwp A) ∧ o1012 = .row w 1 true (rwp B)) →
      Mach n o (A.map (·.2)) (B.map (·.2)) → n ≤ 5 → Mach n' o (ps.map (·.2)) (qs.map (·.2)) → ps.length = A.length → DJ (ps ++ qs) → (∀ p ∈ ps ++ qs, ∀ r ∈ A ++ B, r.2 = [] ∨ r.1 ≠ p.1) → 0 ≤ a ∧ a ≤ 100000 → o901 = .gone →
      σ.keep [2, 3, 4, 5, 6, 20] [2, 3, 5, 6, 10, 12, 16, 17, 18, 1012, 1016, 1017, 1018, 5000, 901] = ⟨L .any [(2, .ptr 2 v2 0), (3, .ptr 3 v3 0), (4, .ptr 10 v10 0), (5, .ptr 5 v5 0), (6, .ptr 6 v6 0), (20, bv b0)],
        L .gone [(2, .box v2 [iv 0, iv 0, nilS, nilS]), (3, .box v3 [iv 0, iv 0, nilS, nilS]), (5, .box v5 [iv n, iv o, .own (cond tw 16 12) u, .own (cond tw 1016 1012) w]), (6, .box v6 [iv n', iv o, .own 18 v18, .own 1018 v1018]), (10, .box v10 (srcC code a s)),
          (12, o12), (16, o16), (17, o17), (18, .row v18 1 true (rwp ps)), (1012, o1012), (1016, o1016), (1017, o1017), (1018, .row v1018 1 true (rwp qs)), (5000, .gone), (901, o901)]⟩ →
      wpD Try.prog B_spec_P6Two_8 (seqQ (wpD Try.prog B_spec_P6Two_13) Q) σ := by
    intro σ tw v2 v3 v5 v6 u w v18 v1018 v10 o12 o16 o17 o1012 o1016 o1017 o901 a s n o n' A B ps qs b0 hA M hn5 M' hl hdj hfr ha h901 hS
    subst h901
    have n1' := M'.aut.n1
    have n2' := M'.aut.n2
    have l1' := M'.aut.l1
    have l2' := M'.aut.l2
    have lml := M'.len
    rw [List.length_map] at l1' l2'
    rw [List.length_map, List.length_map] at lml
    unfold B_spec_P6Two_8
    rw [wpD_kp, hS]
    cases b0 with
    | false =>
      simp only [wpD_kp, wpD_regi, go_sem, adopt_fun, Int.reduceLT, Int.reduceLE, Int.reduceToNat, Int.reduceNeg, Nat.reduceLT, Nat.reduceLeDiff, Nat.reduceMul, Nat.reduceSub, reduceIte, Nat.reduceEqDiff, Nat.reduceAdd, reduceCtorEq]
      refine h13 _ tw v2 v3 v5 v6 u w v18 v1018 v10 o12 o16 o17 o1012 o1016 o1017 .gone a s n o n' A B ps qs hA M hn5 M' hl ?_
      simp only [go_sem, adopt_fun, Int.reduceLT, Int.reduceLE, Int.reduceToNat, Int.reduceNeg, Nat.reduceLT, Nat.reduceLeDiff, Nat.reduceMul, Nat.reduceSub, reduceIte, Nat.reduceEqDiff, Nat.reduceAdd, reduceCtorEq]
    | true =>
      simp only [wpD_kp, wpD_regi, go_sem, adopt_fun, Int.reduceLT, Int.reduceLE, Int.reduceToNat, Int.reduceNeg, Nat.reduceLT, Nat.reduceLeDiff, Nat.reduceMul, Nat.reduceSub, reduceIte, Nat.reduceEqDiff, Nat.reduceAdd, reduceCtorEq]
      intro vs0 U0 hN0 hMp
      rw [rwp_len] at hMp ⊢
      refine call_funB (k_pick code a s ps.length hb (by omega)) rfl qCS qCS ?_
      rintro cs' x ⟨a1, s1, k0, rfl, p1, p2, rfl, p3, p4⟩
      obtain ⟨k, rfl⟩ : ∃ k : Nat, k0 = k := ⟨k0.toNat, by omega⟩
      have hk : k < ps.length := by omega
      simp only [B_spec_P6Two_9, wpD_kp, wpD_regi, go_sem, adopt_fun, Int.reduceLT, Int.reduceLE, Int.reduceToNat, Int.reduceNeg, Nat.reduceLT, Nat.reduceLeDiff, Nat.reduceMul, Nat.reduceSub, reduceIte, Nat.reduceEqDiff, Nat.reduceAdd, reduceCtorEq]
      intro vs1 U1 hN1
      refine call_funB (k_pick code a1 s1 n' hb (by omega)) rfl qCS qCS ?_
      rintro cs' x ⟨a2, s2, x0, rfl, p5, p6, rfl, p7, p8⟩
      have hx : 0 ≤ x0 ∧ x0 < n' := by omega
      obtain ⟨A2, b, C2, rfl, hAk⟩ := rwp_split hk
      have hbr := M'.aut.row b.2 (by simp)
      have hbn : b.2 ≠ [] := fun e => by rw [e] at hbr; simp at hbr; omega
      have hbl : x0.toNat < b.2.length := by omega
      have D0 : DJ (A2 ++ b :: (C2 ++ qs)) := by rwa [List.append_assoc, List.cons_append] at hdj
      have F0 := DJ_out D0 hbn
      have F0a : ∀ p ∈ A2 ++ C2, p.2 = [] ∨ p.1 ≠ b.1 := fun p hp => F0 p (by simp only [List.mem_append] at hp ⊢; rcases hp with h | h <;> simp [h])
      have F0b : ∀ p ∈ qs, p.2 = [] ∨ p.1 ≠ b.1 := fun p hp => F0 p (by simp [hp])
      have Fb : ∀ r ∈ A ++ B, r.2 = [] ∨ r.1 ≠ b.1 := hfr b (by simp)
      have FA : ∀ r ∈ A, r.2 = [] ∨ r.1 ≠ b.1 := fun r hr => Fb r (List.mem_append.2 (.inl hr))
      have FB : ∀ r ∈ B, r.2 = [] ∨ r.1 ≠ b.1 := fun r hr => Fb r (List.mem_append.2 (.inr hr))
      simp only [B_spec_P6Two_10, wpD_kp, wpD_gh, go_sem, adopt_fun, Int.reduceLT, Int.reduceLE, Int.reduceToNat, Int.reduceNeg, Nat.reduceLT, Nat.reduceLeDiff, Nat.reduceMul, Nat.reduceSub, reduceIte, Nat.reduceEqDiff, Nat.reduceAdd, reduceCtorEq]
      intro _
      refine ⟨[.thaw 18 k 901], gwp_thaw (n := b.1) rfl (rwp_get hAk.symm) (by simpa using hbn) rfl fun m1 => ?_⟩
      have hset : (woL b.1 (rwp (A2 ++ b :: C2))).set k (AVal.own 901 m1) = rwp A2 ++ AVal.own 901 m1 :: rwp C2 := by rw [← hAk]; exact woL_set F0a
      have ho1 : (rwp A2 ++ AVal.own 901 m1 :: rwp C2).getD k .any = .own 901 m1 := own_at hAk.symm
      have hol : (rwp A2 ++ AVal.own 901 m1 :: rwp C2).length = A2.length + (C2.length + 1) := by rw [List.length_append, List.length_cons, rwp_len, rwp_len]
      have hkl : k < (rwp A2 ++ AVal.own 901 m1 :: rwp C2).length := by omega
      simp only [hset, woL_rwp F0b, woT, woO, woL_cons, woL_nil, woV_val, woV_own, wo_ptr, wo_o, woL_ints, wo_st, woO_row, woO_box, woO_gone, wo_any, gwp_nil, wpD_kp, wpD_regi, go_sem, adopt_fun, Int.reduceLT, Int.reduceLE, Int.reduceToNat, Int.reduceNeg, Nat.reduceLT, Nat.reduceLeDiff, Nat.reduceMul, Nat.reduceSub, reduceIte, Nat.reduceEqDiff, Nat.reduceAdd, reduceCtorEq]
      intro vs2 U2 hN2
      simp only [ho1, go_sem, adopt_fun, Int.reduceLT, Int.reduceLE, Int.reduceToNat, Int.reduceNeg, Nat.reduceLT, Nat.reduceLeDiff, Nat.reduceMul, Nat.reduceSub, reduceIte, Nat.reduceEqDiff, Nat.reduceAdd, reduceCtorEq]
      refine ⟨⟨by omega, hkl⟩, hkl, ?_⟩
      refine call_funBN (k_pick code a2 s2 n' hb (by omega)) rfl (by simp) qCS qCS ⟨srcC code a2 0, .int .i64 0, ⟨a2, 0, 0, rfl, by omega, by omega, rfl, by omega, .inr rfl⟩, flat_srcC⟩ ?_
      rintro cs' x ⟨a3, s3, y, rfl, p9, p10, rfl, p11, p12⟩
      have hy : 0 ≤ y ∧ y < n' := by omega
      simp only [wpD_kp, wpD_regi, go_sem, adopt_fun, Int.reduceLT, Int.reduceLE, Int.reduceToNat, Int.reduceNeg, Nat.reduceLT, Nat.reduceLeDiff, Nat.reduceMul, Nat.reduceSub, reduceIte, Nat.reduceEqDiff, Nat.reduceAdd, reduceCtorEq]
      refine ⟨⟨hx.1, hbl⟩, by omega, ?_⟩
      have hcl := lput_len (xs := b.2) (v := y) hbl
      have hcm := lput_mem (xs := b.2) (i := x0.toNat) (v := y) (Q := fun z => 0 ≤ z ∧ z < n') hbr.2 hy
      simp only [ints_put]
      generalize hcu : b.2.take x0.toNat ++ [y] ++ b.2.drop (x0.toNat + 1) = cur at hcl hcm ⊢
      simp only [B_spec_P6Two_11, wpD_kp, wpD_gh, go_sem, adopt_fun, Int.reduceLT, Int.reduceLE, Int.reduceToNat, Int.reduceNeg, Nat.reduceLT, Nat.reduceLeDiff, Nat.reduceMul, Nat.reduceSub, reduceIte, Nat.reduceEqDiff, Nat.reduceAdd, reduceCtorEq]
      intro hD
      refine ⟨[.rf 18 k 901], gwp_rf (k := 1) (nn := true) rfl (own_get hAk.symm) (by decide) rfl fun hf => ?_⟩
      have hf1 : ∀ p ∈ A2 ++ C2, p.2 = [] ∨ p.1 ≠ m1 := fun p hp => by
        by_cases e : p.2 = []
        · exact .inl e
        · refine .inr (hf p.1 1 (ints p.2) ?_ (by simpa using e))
          rcases List.mem_append.1 hp with h | h
          · exact List.mem_append.2 (.inl (List.mem_map.2 ⟨p, h, rfl⟩))
          · exact List.mem_append.2 (.inr (List.mem_cons.2 (.inr (List.mem_map.2 ⟨p, h, rfl⟩))))
      have hf2 : ∀ p ∈ qs, p.2 = [] ∨ p.1 ≠ m1 := fun p hp => by
        by_cases e : p.2 = []
        · exact .inl e
        · exact .inr (hD 1018 v1018 1 true (rwp qs) 901 m1 rfl rfl p.1 1 (ints p.2) (List.mem_map.2 ⟨p, hp, rfl⟩) (by simpa using e))
      have D1 := DJ_in (u := m1) (r := cur) D0 fun p hp => by
        rw [← List.append_assoc] at hp
        rcases List.mem_append.1 hp with h | h
        · exact hf1 p h
        · exact hf2 p h
      have hset4 : ∀ X : AVal, (rwp A2 ++ AVal.own 901 m1 :: rwp C2).set k X = rwp A2 ++ X :: rwp C2 := fun X => by
        rw [← hAk, List.set_append_right _ _ (by rw [rwp_len]; exact Nat.le_refl _), rwp_len, Nat.sub_self]; rfl
      have M2 : Mach n' o ((A2 ++ (m1, cur) :: C2).map (·.2)) (qs.map (·.2)) := by
        refine ⟨⟨n1', n2', by rw [List.length_map]; simpa using l1', by rw [List.length_map]; simpa using l2', fun row hr => ?_⟩, M'.o1, M'.o2, by rw [List.length_map, List.length_map, lml]; simp, M'.row⟩
        rw [List.map_append, List.map_cons, List.mem_append, List.mem_cons] at hr
        rcases hr with h | h | h
        · exact M'.aut.row row (by rw [List.map_append]; exact List.mem_append.2 (.inl h))
        · rw [h]; exact ⟨by dsimp only; omega, hcm⟩
        · exact M'.aut.row row (by rw [List.map_append, List.map_cons]; exact List.mem_append.2 (.inr (List.mem_cons_of_mem _ h)))
      have hA1 : if tw = true then AObj.wo b.1 o16 = .row u 1 true (rwp A) ∧ AObj.wo b.1 o1016 = .row w 1 true (rwp B) else AObj.wo b.1 o12 = .row u 1 true (rwp A) ∧ AObj.wo b.1 o1012 = .row w 1 true (rwp B) := by
        cases tw with
        | true => rw [if_pos rfl] at hA ⊢; obtain ⟨rfl, rfl⟩ := hA; simp only [woO_row, woL_rwp FA, woL_rwp FB, and_self]
        | false => rw [if_neg (by simp)] at hA ⊢; obtain ⟨rfl, rfl⟩ := hA; simp only [woO_row, woL_rwp FA, woL_rwp FB, and_self]
      generalize AObj.wo b.1 o12 = p12' at hA1 ⊢
      generalize AObj.wo b.1 o16 = p16' at hA1 ⊢
      generalize AObj.wo b.1 o1012 = p1012' at hA1 ⊢
      generalize AObj.wo b.1 o1016 = p1016' at hA1 ⊢
      generalize AObj.wo b.1 o17 = p17'
      generalize AObj.wo b.1 o1017 = p1017'
      simp only [hset4, frNm_t, rwp_cat, gwp_nil, wpD_kp, wpD_regi, go_sem, adopt_fun, Int.reduceLT, Int.reduceLE, Int.reduceToNat, Int.reduceNeg, Nat.reduceLT, Nat.reduceLeDiff, Nat.reduceMul, Nat.reduceSub, reduceIte, Nat.reduceEqDiff, Nat.reduceAdd, reduceCtorEq]
      intro vs3 U3 hN3
      refine call_funB (k_one code a3 s3 3 hb (by omega)) rfl qCS qCS ?_
      rintro cs' x ⟨a4, s4, b1, rfl, p13, p14, rfl⟩
      simp only [B_spec_P6Two_12, wpD_kp, wpD_gh, go_sem, adopt_fun, Int.reduceLT, Int.reduceLE, Int.reduceToNat, Int.reduceNeg, Nat.reduceLT, Nat.reduceLeDiff, Nat.reduceMul, Nat.reduceSub, reduceIte, Nat.reduceEqDiff, Nat.reduceAdd, reduceCtorEq]
      intro _
      cases b1 with
      | false =>
        refine ⟨[], ?_⟩
        simp only [gwp_nil, wpD_kp, wpD_regi, go_sem, adopt_fun, Int.reduceLT, Int.reduceLE, Int.reduceToNat, Int.reduceNeg, Nat.reduceLT, Nat.reduceLeDiff, Nat.reduceMul, Nat.reduceSub, reduceIte, Nat.reduceEqDiff, Nat.reduceAdd, reduceCtorEq]
        refine h13 _ tw v2 v3 v5 v6 u w v18 v1018 v10 p12' p16' p17' p1012' p1016' p1017' .gone a4 s4 n o n' A B (A2 ++ (m1, cur) :: C2) qs hA1 M hn5 M2 (by rw [← hl]; simp) ?_
        simp only [go_sem, adopt_fun, Int.reduceLT, Int.reduceLE, Int.reduceToNat, Int.reduceNeg, Nat.reduceLT, Nat.reduceLeDiff, Nat.reduceMul, Nat.reduceSub, reduceIte, Nat.reduceEqDiff, Nat.reduceAdd, reduceCtorEq]
      | true =>
        have hk2 : k < qs.length := by rw [lml]; simp; omega
        obtain ⟨A3, b2, C3, rfl, hAk3⟩ := rwp_split hk2
        have hbr2 := M2.row b2.2 (by simp)
        have hbn2 : b2.2 ≠ [] := fun e => by rw [e] at hbr2; simp at hbr2; omega
        have hbl2 : x0.toNat < b2.2.length := by omega
        have o1' := M2.o1
        have D1' : DJ ((A2 ++ (m1, cur) :: C2 ++ A3) ++ b2 :: C3) := by
          have e : A2 ++ (m1, cur) :: (C2 ++ (A3 ++ b2 :: C3)) = (A2 ++ (m1, cur) :: C2 ++ A3) ++ b2 :: C3 := by simp
          rw [← e]; exact D1
        have F1 := DJ_out D1' hbn2
        have F1a : ∀ p ∈ A2 ++ (m1, cur) :: C2, p.2 = [] ∨ p.1 ≠ b2.1 := fun p hp => F1 p (by rw [List.append_assoc]; exact List.mem_append.2 (.inl hp))
        have F1b : ∀ p ∈ A3 ++ C3, p.2 = [] ∨ p.1 ≠ b2.1 := fun p hp => F1 p (by rw [List.append_assoc]; exact List.mem_append.2 (.inr hp))
        have Fb2 : ∀ r ∈ A ++ B, r.2 = [] ∨ r.1 ≠ b2.1 := hfr b2 (by simp)
        have FA2 : ∀ r ∈ A, r.2 = [] ∨ r.1 ≠ b2.1 := fun r hr => Fb2 r (List.mem_append.2 (.inl hr))
        have FB2 : ∀ r ∈ B, r.2 = [] ∨ r.1 ≠ b2.1 := fun r hr => Fb2 r (List.mem_append.2 (.inr hr))
        refine ⟨[.thaw 1018 k 901], gwp_thaw (n := b2.1) rfl (rwp_get hAk3.symm) (by simpa using hbn2) rfl fun m2 => ?_⟩
        have hset2 : (woL b2.1 (rwp (A3 ++ b2 :: C3))).set k (AVal.own 901 m2) = rwp A3 ++ AVal.own 901 m2 :: rwp C3 := by rw [← hAk3]; exact woL_set F1b
        have ho2 : (rwp A3 ++ AVal.own 901 m2 :: rwp C3).getD k .any = .own 901 m2 := own_at hAk3.symm
        have hol2 : (rwp A3 ++ AVal.own 901 m2 :: rwp C3).length = A3.length + (C3.length + 1) := by rw [List.length_append, List.length_cons, rwp_len, rwp_len]
        have hkl2 : k < (rwp A3 ++ AVal.own 901 m2 :: rwp C3).length := by omega
        have hA2 : if tw = true then AObj.wo b2.1 p16' = .row u 1 true (rwp A) ∧ AObj.wo b2.1 p1016' = .row w 1 true (rwp B) else AObj.wo b2.1 p12' = .row u 1 true (rwp A) ∧ AObj.wo b2.1 p1012' = .row w 1 true (rwp B) := by
          cases tw with
          | true => rw [if_pos rfl] at hA1 ⊢; obtain ⟨rfl, rfl⟩ := hA1; simp only [woO_row, woL_rwp FA2, woL_rwp FB2, and_self]
          | false => rw [if_neg (by simp)] at hA1 ⊢; obtain ⟨rfl, rfl⟩ := hA1; simp only [woO_row, woL_rwp FA2, woL_rwp FB2, and_self]
        simp only [hset2, woL_rwp F1a, woT, woO, woL_cons, woL_nil, woV_val, woV_own, wo_ptr, wo_o, woL_ints, wo_st, woO_row, woO_box, woO_gone, wo_any, gwp_nil, wpD_kp, wpD_regi, go_sem, adopt_fun, Int.reduceLT, Int.reduceLE, Int.reduceToNat, Int.reduceNeg, Nat.reduceLT, Nat.reduceLeDiff, Nat.reduceMul, Nat.reduceSub, reduceIte, Nat.reduceEqDiff, Nat.reduceAdd, reduceCtorEq]
        intro vs4 U4 hN4
        simp only [ho2, go_sem, adopt_fun, Int.reduceLT, Int.reduceLE, Int.reduceToNat, Int.reduceNeg, Nat.reduceLT, Nat.reduceLeDiff, Nat.reduceMul, Nat.reduceSub, reduceIte, Nat.reduceEqDiff, Nat.reduceAdd, reduceCtorEq]
        refine ⟨⟨by omega, hkl2⟩, hkl2, ?_⟩
        refine call_funBN (k_pick code a4 s4 o hb (by omega)) rfl (by simp) qCS qCS ⟨srcC code a4 0, .int .i64 0, ⟨a4, 0, 0, rfl, by omega, by omega, rfl, by omega, .inr rfl⟩, flat_srcC⟩ ?_
        rintro cs' x ⟨a5, s5, z, rfl, p15, p16, rfl, p17, p18⟩
        have hz : 0 ≤ z ∧ z < o := by omega
        simp only [wpD_kp, wpD_regi, go_sem, adopt_fun, Int.reduceLT, Int.reduceLE, Int.reduceToNat, Int.reduceNeg, Nat.reduceLT, Nat.reduceLeDiff, Nat.reduceMul, Nat.reduceSub, reduceIte, Nat.reduceEqDiff, Nat.reduceAdd, reduceCtorEq]
        refine ⟨⟨hx.1, hbl2⟩, by omega, ?_⟩
        have hcl2 := lput_len (xs := b2.2) (v := z) hbl2
        have hcm2 := lput_mem (xs := b2.2) (i := x0.toNat) (v := z) (Q := fun y => 0 ≤ y ∧ y < o) hbr2.2 hz
        simp only [ints_put]
        generalize b2.2.take x0.toNat ++ [z] ++ b2.2.drop (x0.toNat + 1) = cur2 at hcl2 hcm2 ⊢
        have M3 : Mach n' o ((A2 ++ (m1, cur) :: C2).map (·.2)) ((A3 ++ (m2, cur2) :: C3).map (·.2)) := by
          refine ⟨M2.aut, M2.o1, M2.o2, by have := M2.len; rw [List.length_map] at this ⊢; simpa using this, fun row hr => ?_⟩
          rw [List.map_append, List.map_cons, List.mem_append, List.mem_cons] at hr
          rcases hr with h | h | h
          · exact M2.row row (by rw [List.map_append]; exact List.mem_append.2 (.inl h))
          · rw [h]; exact ⟨by dsimp only; omega, hcm2⟩
          · exact M2.row row (by rw [List.map_append, List.map_cons]; exact List.mem_append.2 (.inr (List.mem_cons_of_mem _ h)))
        refine h13b _ tw v2 v3 v5 v6 u w v18 v1018 v10 (AObj.wo b2.1 p12') (AObj.wo b2.1 p16') (AObj.wo b2.1 p17') (AObj.wo b2.1 p1012') (AObj.wo b2.1 p1016') (AObj.wo b2.1 p1017') a5 s5 n o n' A B (A2 ++ (m1, cur) :: C2) A3 C3 m2 k cur2 hAk3 hA2 M hn5 M3 (by rw [← hl]; simp) ?_
        simp only [go_sem, adopt_fun, Int.reduceLT, Int.reduceLE, Int.reduceToNat, Int.reduceNeg, Nat.reduceLT, Nat.reduceLeDiff, Nat.reduceMul, Nat.reduceSub, reduceIte, Nat.reduceEqDiff, Nat.reduceAdd, reduceCtorEq]
  -- behind the first machine
  have h5 : ∀ (σ : St) (tw : Bool) (v2 v3 v5 u w v10 : Nat) (o12 o16 o1012 o1016 : AObj) (a s n o : Int) (A B : List (Nat × List Int)),
      σ.keep [2, 3, 4, 5] [2, 3, 5, 6, 10, 12, 16, 17, 18, 1012, 1016, 1017, 1018, 5000, 901] = ⟨L .any [(2, .ptr 2 v2 0), (3, .ptr 3 v3 0), (4, .ptr 10 v10 0), (5, .ptr 5 v5 0)],
        L .gone [(2, .box v2 [iv 0, iv 0, nilS, nilS]), (3, .box v3 [iv 0, iv 0, nilS, nilS]), (5, .box v5 [iv n, iv o, .own (cond tw 16 12) u, .own (cond tw 1016 1012) w]), (6, .gone), (10, .box v10 (srcC code a s)),
          (12, o12), (16, o16), (17, .gone), (18, .gone), (1012, o1012), (1016, o1016), (1017, .gone), (1018, .gone), (5000, .gone), (901, .gone)]⟩ →
      (if tw = true then o16 = .row u 1 true (rwp A) ∧ o1016 = .row w 1 true (rwp B) else o12 = .row u 1 true (rwp A) ∧ o1012 = .row w 1 true (rwp B)) →
      Mach n o (A.map (·.2)) (B.map (·.2)) → n ≤ 5 → 0 ≤ a ∧ a ≤ 50000 →
      wpD Try.prog B_spec_P6Two_5 Q σ := by
    intro σ tw v2 v3 v5 u w v10 o12 o16 o1012 o1016 a s n o A B hS hA M hn5 ha
    cases tw with
    | true =>
      rw [if_pos rfl] at hA
      obtain ⟨rfl, rfl⟩ := hA
      simp only [cond_true] at hS ⊢
      unfold B_spec_P6Two_5
      rw [wpD_kp, hS]
      simp only [wpD_kp, wpD_regi, go_sem, adopt_fun, Int.reduceLT, Int.reduceLE, Int.reduceToNat, Int.reduceNeg, Nat.reduceLT, Nat.reduceLeDiff, Nat.reduceMul, Nat.reduceSub, reduceIte, Nat.reduceEqDiff, Nat.reduceAdd, reduceCtorEq]
      intro vs0 U0 hN0
      refine call_machF (fun x y e => (hN0.inj _ _ _ _ e).2) (k_l06Trim n o (A.map (·.2)) (B.map (·.2)) M) (by simp only [coeL_rwp_t, rowIs, boxIs, coe_argN, coe_argNs, coe_ro_o, coeL_nil, coeL_cons, coe_any, coe_val, coe_ro, coe_ro_nil, coe_ro_own, coe_st, coe_st_agg, coe_rp, coe_rp_ptr, coe_clo, coe_own0, coe_ptr0, coeL_intsK, coeL_rws, coeL_rwn, L_hit, L_miss, L_nil, Nat.reduceEqDiff, ne_eq, reduceCtorEq, not_false_eq_true, true_and, and_true, and_self, exists_eq_left, exists_eq_right, List.mem_cons, List.not_mem_nil, or_false, AObj.row.injEq, AObj.box.injEq, exists_eq_left', exists_and_left, exists_eq, Nat.zero_lt_one, Nat.lt_add_one, List.map_cons, List.map_nil, AObj.ver, Nat.reduceLT, not_true_eq_false]) rfl rfl ?_
      intro v17 v1017 ps0 qs0 e1 e2 _ _
      have M0 := trm_mach M
      have hc0 := (covP_ok M.aut).1.len (by omega)
      simp only [B_spec_P6Two_6, wpD_kp, wpD_regi, go_sem, adopt_fun, Int.reduceLT, Int.reduceLE, Int.reduceToNat, Int.reduceNeg, Nat.reduceLT, Nat.reduceLeDiff, Nat.reduceMul, Nat.reduceSub, reduceIte, Nat.reduceEqDiff, Nat.reduceAdd, reduceCtorEq]
      intro vs1 U1 hN1
      refine call_machF (fun x y e => (hN1.inj _ _ _ _ e).2) (k_l06Reduce _ o _ _ M0) (by rw [← e1, ← e2]; simp only [coeL_rwp_t, rowIs, boxIs, coe_argN, coe_argNs, coe_ro_o, coeL_nil, coeL_cons, coe_any, coe_val, coe_ro, coe_ro_nil, coe_ro_own, coe_st, coe_st_agg, coe_rp, coe_rp_ptr, coe_clo, coe_own0, coe_ptr0, coeL_intsK, coeL_rws, coeL_rwn, L_hit, L_miss, L_nil, Nat.reduceEqDiff, ne_eq, reduceCtorEq, not_false_eq_true, true_and, and_true, and_self, exists_eq_left, exists_eq_right, List.mem_cons, List.not_mem_nil, or_false, AObj.row.injEq, AObj.box.injEq, exists_eq_left', exists_and_left, exists_eq, Nat.zero_lt_one, Nat.lt_add_one, List.map_cons, List.map_nil, AObj.ver, Nat.reduceLT, not_true_eq_false]) rfl rfl ?_
      intro v18 v1018 ps qs f1 f2 hdj hnm
      have M1 := red_mach M0
      rw [← f1, ← f2] at M1
      have hpl : ps.length = A.length := by
        have := congrArg List.length f1
        simpa using this
      have hU1 := hN1.hp 16
      have hU2 := hN1.hp 1016
      simp only [AObj.uses, go_sem, adopt_fun, Int.reduceLT, Int.reduceLE, Int.reduceToNat, Int.reduceNeg, Nat.reduceLT, Nat.reduceLeDiff, Nat.reduceMul, Nat.reduceSub, reduceIte, Nat.reduceEqDiff, Nat.reduceAdd, reduceCtorEq] at hU1 hU2
      have hold1 := usesL_rwp (rest := []) (by rw [List.append_nil]; exact hU1.2)
      have hold2 := usesL_rwp (rest := []) (by rw [List.append_nil]; exact hU2.2)
      have hfr : ∀ p ∈ ps ++ qs, ∀ r ∈ A ++ B, r.2 = [] ∨ r.1 ≠ p.1 := fun p hp r hr => by
        obtain ⟨z, hz⟩ := hnm p hp
        have h3 : r.2 = [] ∨ U1 r.1 := by
          rcases List.mem_append.1 hr with h | h
          · exact hold1 r h
          · exact hold2 r h
        rcases h3 with h | h
        · exact .inl h
        · exact .inr fun e => hN1.new _ z (by rw [← hz, ← e]; exact h)
      simp only [B_spec_P6Two_7, wpD_kp, wpD_regi, go_sem, adopt_fun, Int.reduceLT, Int.reduceLE, Int.reduceToNat, Int.reduceNeg, Nat.reduceLT, Nat.reduceLeDiff, Nat.reduceMul, Nat.reduceSub, reduceIte, Nat.reduceEqDiff, Nat.reduceAdd, reduceCtorEq]
      intro vs2 U2 hN2
      refine call_funB (k_one code a s 2 hb (by omega)) rfl qCS qCS ?_
      rintro cs' x ⟨a1, s1, b1, rfl, g1, g2, rfl⟩
      simp only [go_sem, adopt_fun, Int.reduceLT, Int.reduceLE, Int.reduceToNat, Int.reduceNeg, Nat.reduceLT, Nat.reduceLeDiff, Nat.reduceMul, Nat.reduceSub, reduceIte, Nat.reduceEqDiff, Nat.reduceAdd, reduceCtorEq]
      refine h8 _ true v2 v3 v5 (vs0 1 0) u w v18 v1018 v10 o12 (.row u 1 true (rwp A)) (.row v17 1 true (rwp ps0)) o1012 (.row w 1 true (rwp B)) (.row v1017 1 true (rwp qs0)) .gone a1 s1 n o _ A B ps qs b1 (by rw [if_pos rfl]; exact ⟨rfl, rfl⟩) M hn5 M1 hpl hdj hfr ⟨by omega, by omega⟩ rfl ?_
      simp only [cond_true, go_sem, adopt_fun, Int.reduceLT, Int.reduceLE, Int.reduceToNat, Int.reduceNeg, Nat.reduceLT, Nat.reduceLeDiff, Nat.reduceMul, Nat.reduceSub, reduceIte, Nat.reduceEqDiff, Nat.reduceAdd, reduceCtorEq]
      try rfl
    | false =>
      rw [if_neg (by simp)] at hA
      obtain ⟨rfl, rfl⟩ := hA
      simp only [cond_false] at hS ⊢
      unfold B_spec_P6Two_5
      rw [wpD_kp, hS]
      simp only [wpD_kp, wpD_regi, go_sem, adopt_fun, Int.reduceLT, Int.reduceLE, Int.reduceToNat, Int.reduceNeg, Nat.reduceLT, Nat.reduceLeDiff, Nat.reduceMul, Nat.reduceSub, reduceIte, Nat.reduceEqDiff, Nat.reduceAdd, reduceCtorEq]
      intro vs0 U0 hN0
      refine call_machF (fun x y e => (hN0.inj _ _ _ _ e).2) (k_l06Trim n o (A.map (·.2)) (B.map (·.2)) M) (by simp only [coeL_rwp_t, rowIs, boxIs, coe_argN, coe_argNs, coe_ro_o, coeL_nil, coeL_cons, coe_any, coe_val, coe_ro, coe_ro_nil, coe_ro_own, coe_st, coe_st_agg, coe_rp, coe_rp_ptr, coe_clo, coe_own0, coe_ptr0, coeL_intsK, coeL_rws, coeL_rwn, L_hit, L_miss, L_nil, Nat.reduceEqDiff, ne_eq, reduceCtorEq, not_false_eq_true, true_and, and_true, and_self, exists_eq_left, exists_eq_right, List.mem_cons, List.not_mem_nil, or_false, AObj.row.injEq, AObj.box.injEq, exists_eq_left', exists_and_left, exists_eq, Nat.zero_lt_one, Nat.lt_add_one, List.map_cons, List.map_nil, AObj.ver, Nat.reduceLT, not_true_eq_false]) rfl rfl ?_
      intro v17 v1017 ps0 qs0 e1 e2 _ _
      have M0 := trm_mach M
      have hc0 := (covP_ok M.aut).1.len (by omega)
      simp only [B_spec_P6Two_6, wpD_kp, wpD_regi, go_sem, adopt_fun, Int.reduceLT, Int.reduceLE, Int.reduceToNat, Int.reduceNeg, Nat.reduceLT, Nat.reduceLeDiff, Nat.reduceMul, Nat.reduceSub, reduceIte, Nat.reduceEqDiff, Nat.reduceAdd, reduceCtorEq]
      intro vs1 U1 hN1
      refine call_machF (fun x y e => (hN1.inj _ _ _ _ e).2) (k_l06Reduce _ o _ _ M0) (by rw [← e1, ← e2]; simp only [coeL_rwp_t, rowIs, boxIs, coe_argN, coe_argNs, coe_ro_o, coeL_nil, coeL_cons, coe_any, coe_val, coe_ro, coe_ro_nil, coe_ro_own, coe_st, coe_st_agg, coe_rp, coe_rp_ptr, coe_clo, coe_own0, coe_ptr0, coeL_intsK, coeL_rws, coeL_rwn, L_hit, L_miss, L_nil, Nat.reduceEqDiff, ne_eq, reduceCtorEq, not_false_eq_true, true_and, and_true, and_self, exists_eq_left, exists_eq_right, List.mem_cons, List.not_mem_nil, or_false, AObj.row.injEq, AObj.box.injEq, exists_eq_left', exists_and_left, exists_eq, Nat.zero_lt_one, Nat.lt_add_one, List.map_cons, List.map_nil, AObj.ver, Nat.reduceLT, not_true_eq_false]) rfl rfl ?_
      intro v18 v1018 ps qs f1 f2 hdj hnm
      have M1 := red_mach M0
      rw [← f1, ← f2] at M1
      have hpl : ps.length = A.length := by
        have := congrArg List.length f1
        simpa using this
      have hU1 := hN1.hp 12
      have hU2 := hN1.hp 1012
      simp only [AObj.uses, go_sem, adopt_fun, Int.reduceLT, Int.reduceLE, Int.reduceToNat, Int.reduceNeg, Nat.reduceLT, Nat.reduceLeDiff, Nat.reduceMul, Nat.reduceSub, reduceIte, Nat.reduceEqDiff, Nat.reduceAdd, reduceCtorEq] at hU1 hU2
      have hold1 := usesL_rwp (rest := []) (by rw [List.append_nil]; exact hU1.2)
      have hold2 := usesL_rwp (rest := []) (by rw [List.append_nil]; exact hU2.2)
      have hfr : ∀ p ∈ ps ++ qs, ∀ r ∈ A ++ B, r.2 = [] ∨ r.1 ≠ p.1 := fun p hp r hr => by
        obtain ⟨z, hz⟩ := hnm p hp
        have h3 : r.2 = [] ∨ U1 r.1 := by
          rcases List.mem_append.1 hr with h | h
          · exact hold1 r h
          · exact hold2 r h
        rcases h3 with h | h
        · exact .inl h
        · exact .inr fun e => hN1.new _ z (by rw [← hz, ← e]; exact h)
      simp only [B_spec_P6Two_7, wpD_kp, wpD_regi, go_sem, adopt_fun, Int.reduceLT, Int.reduceLE, Int.reduceToNat, Int.reduceNeg, Nat.reduceLT, Nat.reduceLeDiff, Nat.reduceMul, Nat.reduceSub, reduceIte, Nat.reduceEqDiff, Nat.reduceAdd, reduceCtorEq]
      intro vs2 U2 hN2
      refine call_funB (k_one code a s 2 hb (by omega)) rfl qCS qCS ?_
      rintro cs' x ⟨a1, s1, b1, rfl, g1, g2, rfl⟩
      simp only [go_sem, adopt_fun, Int.reduceLT, Int.reduceLE, Int.reduceToNat, Int.reduceNeg, Nat.reduceLT, Nat.reduceLeDiff, Nat.reduceMul, Nat.reduceSub, reduceIte, Nat.reduceEqDiff, Nat.reduceAdd, reduceCtorEq]
      refine h8 _ false v2 v3 v5 (vs0 1 0) u w v18 v1018 v10 (.row u 1 true (rwp A)) o16 (.row v17 1 true (rwp ps0)) (.row w 1 true (rwp B)) o1016 (.row v1017 1 true (rwp qs0)) .gone a1 s1 n o _ A B ps qs b1 (by rw [if_neg (by simp)]; exact ⟨rfl, rfl⟩) M hn5 M1 hpl hdj hfr ⟨by omega, by omega⟩ rfl ?_
      simp only [cond_false, go_sem, adopt_fun, Int.reduceLT, Int.reduceLE, Int.reduceToNat, Int.reduceNeg, Nat.reduceLT, Nat.reduceLeDiff, Nat.reduceMul, Nat.reduceSub, reduceIte, Nat.reduceEqDiff, Nat.reduceAdd, reduceCtorEq]
      try rfl
  simp only [A_spec_P6Two, B_spec_P6Two_1, wpD_kp, wpD_regi, go_sem, adopt_fun, Int.reduceLT, Int.reduceLE, Int.reduceToNat, Int.reduceNeg, Nat.reduceLT, Nat.reduceLeDiff, Nat.reduceMul, Nat.reduceSub, reduceIte, Nat.reduceEqDiff, Nat.reduceAdd, reduceCtorEq]
  intro vs0 U0 hN0 vs1 U1 hN1
  refine call_sh (k_from code) qCS (fun e => by cases e) ?_
  rintro outs rows res ⟨rfl, v, rfl, rfl⟩
  refine ⟨rfl, by simp, by rw [Option.getD_some, gone_one]; simp only [go_sem, adopt_fun, Int.reduceLT, Int.reduceLE, Int.reduceToNat, Int.reduceNeg, Nat.reduceLT, Nat.reduceLeDiff, Nat.reduceMul, Nat.reduceSub, reduceIte, Nat.reduceEqDiff, Nat.reduceAdd, reduceCtorEq], ?_⟩
  simp only [B_spec_P6Two_2, wpD_kp, wpD_regi, Nat.not_lt_zero, range1, ren_val, ren_any, ren_ro, rnNm_n, rnNm_sn, rnNm_o, rnNm_s, ren_st, ren_tup, renL_nil, renL_cons, renL_intsK, renL_rws, renL_rwn, oren_box, oren_row, oren_map, ren_own_e0, ren_own_e1, ren_own_e2, ren_ptr_e0, ren_mp_e0, ren_mp_e1, ren_own_r0, ren_own_r1, ren_own_r2, ren_ptr_r0, ren_mp_r0, ren_mp_r1, List.range_zero, callHp_nil, callHp_one, callHp_two, gone_nil, gone_one, gone_two, AVal.fresh, freshL, fresh_intsK, fresh_rws, AObj.fresh, id, Option.isSome_some, or_true, true_or, go_sem, adopt_fun, Int.reduceLT, Int.reduceLE, Int.reduceToNat, Int.reduceNeg, Nat.reduceLT, Nat.reduceLeDiff, Nat.reduceMul, Nat.reduceSub, reduceIte, Nat.reduceEqDiff, Nat.reduceAdd, reduceCtorEq]
  intro vs2 U2 hN2
  refine call_con (r := 10) (k_l06Draw code 0 0 5 hb (by omega) (by omega)) rfl (by simp only [Bool.not_true, rowIs, boxIs, coe_argN, coe_argNs, coe_ro_o, coeL_nil, coeL_cons, coe_any, coe_val, coe_ro, coe_ro_nil, coe_ro_own, coe_st, coe_st_agg, coe_rp, coe_rp_ptr, coe_clo, coe_own0, coe_ptr0, coeL_intsK, coeL_rws, coeL_rwn, L_hit, L_miss, L_nil, Nat.reduceEqDiff, ne_eq, reduceCtorEq, not_false_eq_true, true_and, and_true, and_self, exists_eq_left, exists_eq_right, List.mem_cons, List.not_mem_nil, or_false, AObj.row.injEq, AObj.box.injEq, exists_eq_left', exists_and_left, exists_eq, Nat.zero_lt_one, Nat.lt_add_one, List.map_cons, List.map_nil, AObj.ver, Nat.reduceLT, not_true_eq_false]) (by simp only [Bool.not_true, rowIs, boxIs, coe_argN, coe_argNs, coe_ro_o, coeL_nil, coeL_cons, coe_any, coe_val, coe_ro, coe_ro_nil, coe_ro_own, coe_st, coe_st_agg, coe_rp, coe_rp_ptr, coe_clo, coe_own0, coe_ptr0, coeL_intsK, coeL_rws, coeL_rwn, L_hit, L_miss, L_nil, Nat.reduceEqDiff, ne_eq, reduceCtorEq, not_false_eq_true, true_and, and_true, and_self, exists_eq_left, exists_eq_right, List.mem_cons, List.not_mem_nil, or_false, AObj.row.injEq, AObj.box.injEq, exists_eq_left', exists_and_left, exists_eq, Nat.zero_lt_one, Nat.lt_add_one, List.map_cons, List.map_nil, AObj.ver, Nat.reduceLT, not_true_eq_false]) ?_
  rintro outs rows res ⟨n, o, ps, qs, v1, v2, a', s', M, hn, hd, q1, q2, rfl, rfl, rfl⟩
  refine ⟨rfl, by simp, by rw [Option.getD_some, gone_two]; exact ⟨rfl, rfl⟩, ?_⟩
  rw [Option.getD_some, callHp_mrr (by omega) (by omega)]
  simp only [renL_rwp, B_spec_P6Two_3, wpD_kp, wpD_regi, Nat.not_lt_zero, range1, ren_val, ren_any, ren_ro, rnNm_n, rnNm_sn, rnNm_o, rnNm_s, ren_st, ren_tup, renL_nil, renL_cons, renL_intsK, renL_rws, renL_rwn, oren_box, oren_row, oren_map, ren_own_e0, ren_own_e1, ren_own_e2, ren_ptr_e0, ren_mp_e0, ren_mp_e1, ren_own_r0, ren_own_r1, ren_own_r2, ren_ptr_r0, ren_mp_r0, ren_mp_r1, List.range_zero, callHp_nil, callHp_one, callHp_two, gone_nil, gone_one, gone_two, AVal.fresh, freshL, fresh_intsK, fresh_rws, AObj.fresh, id, Option.isSome_some, or_true, true_or, go_sem, adopt_fun, Int.reduceLT, Int.reduceLE, Int.reduceToNat, Int.reduceNeg, Nat.reduceLT, Nat.reduceLeDiff, Nat.reduceMul, Nat.reduceSub, reduceIte, Nat.reduceEqDiff, Nat.reduceAdd, reduceCtorEq]
  intro vs3 U3 hN3
  refine call_funB (k_one code a' s' 3 hb (by omega)) rfl qCS qCS ?_
  rintro cs' x ⟨a1, s1, b1, rfl, q3, q4, rfl⟩
  have e : ∀ (f : Nat → Nat) (l : List (Nat × List Int)), (l.map fun p => (f p.1, p.2)).map (·.2) = l.map (·.2) := fun f l => by rw [List.map_map]; rfl
  cases b1 with
  | false =>
    simp only [B_spec_P6Two_4, wpD_kp, wpD_regi, go_sem, adopt_fun, Int.reduceLT, Int.reduceLE, Int.reduceToNat, Int.reduceNeg, Nat.reduceLT, Nat.reduceLeDiff, Nat.reduceMul, Nat.reduceSub, reduceIte, Nat.reduceEqDiff, Nat.reduceAdd, reduceCtorEq]
    exact h5 _ false _ _ _ _ _ _ _ .gone _ .gone a1 s1 n o _ _ (by simp only [cond_false, go_sem, adopt_fun, Int.reduceLT, Int.reduceLE, Int.reduceToNat, Int.reduceNeg, Nat.reduceLT, Nat.reduceLeDiff, Nat.reduceMul, Nat.reduceSub, reduceIte, Nat.reduceEqDiff, Nat.reduceAdd, reduceCtorEq]; rfl) (by rw [if_neg (by simp)]; exact ⟨rfl, rfl⟩) (by rw [e, e]; exact M) hn (by constructor <;> omega)
  | true =>
    simp only [B_spec_P6Two_4, wpD_kp, wpD_regi, go_sem, adopt_fun, Int.reduceLT, Int.reduceLE, Int.reduceToNat, Int.reduceNeg, Nat.reduceLT, Nat.reduceLeDiff, Nat.reduceMul, Nat.reduceSub, reduceIte, Nat.reduceEqDiff, Nat.reduceAdd, reduceCtorEq]
    intro vs4 U4 hN4
    refine call_con (r := 10) (k_l06Twin code a1 s1 hb (by omega)) rfl (by simp only [Bool.not_true, rowIs, boxIs, coe_argN, coe_argNs, coe_ro_o, coeL_nil, coeL_cons, coe_any, coe_val, coe_ro, coe_ro_nil, coe_ro_own, coe_st, coe_st_agg, coe_rp, coe_rp_ptr, coe_clo, coe_own0, coe_ptr0, coeL_intsK, coeL_rws, coeL_rwn, L_hit, L_miss, L_nil, Nat.reduceEqDiff, ne_eq, reduceCtorEq, not_false_eq_true, true_and, and_true, and_self, exists_eq_left, exists_eq_right, List.mem_cons, List.not_mem_nil, or_false, AObj.row.injEq, AObj.box.injEq, exists_eq_left', exists_and_left, exists_eq, Nat.zero_lt_one, Nat.lt_add_one, List.map_cons, List.map_nil, AObj.ver, Nat.reduceLT, not_true_eq_false]) (by simp only [Bool.not_true, rowIs, boxIs, coe_argN, coe_argNs, coe_ro_o, coeL_nil, coeL_cons, coe_any, coe_val, coe_ro, coe_ro_nil, coe_ro_own, coe_st, coe_st_agg, coe_rp, coe_rp_ptr, coe_clo, coe_own0, coe_ptr0, coeL_intsK, coeL_rws, coeL_rwn, L_hit, L_miss, L_nil, Nat.reduceEqDiff, ne_eq, reduceCtorEq, not_false_eq_true, true_and, and_true, and_self, exists_eq_left, exists_eq_right, List.mem_cons, List.not_mem_nil, or_false, AObj.row.injEq, AObj.box.injEq, exists_eq_left', exists_and_left, exists_eq, Nat.zero_lt_one, Nat.lt_add_one, List.map_cons, List.map_nil, AObj.ver, Nat.reduceLT, not_true_eq_false]) ?_
    rintro outs rows res ⟨n', o', ps', qs', v3, v4, a2, s2, M', hn', q5, q6, rfl, rfl, rfl⟩
    refine ⟨rfl, by simp, by rw [Option.getD_some, gone_two]; exact ⟨rfl, rfl⟩, ?_⟩
    rw [Option.getD_some, callHp_mrr (by omega) (by omega)]
    simp only [renL_rwp, wpD_kp, wpD_regi, Nat.not_lt_zero, range1, ren_val, ren_any, ren_ro, rnNm_n, rnNm_sn, rnNm_o, rnNm_s, ren_st, ren_tup, renL_nil, renL_cons, renL_intsK, renL_rws, renL_rwn, oren_box, oren_row, oren_map, ren_own_e0, ren_own_e1, ren_own_e2, ren_ptr_e0, ren_mp_e0, ren_mp_e1, ren_own_r0, ren_own_r1, ren_own_r2, ren_ptr_r0, ren_mp_r0, ren_mp_r1, List.range_zero, callHp_nil, callHp_one, callHp_two, gone_nil, gone_one, gone_two, AVal.fresh, freshL, fresh_intsK, fresh_rws, AObj.fresh, id, Option.isSome_some, or_true, true_or, go_sem, adopt_fun, Int.reduceLT, Int.reduceLE, Int.reduceToNat, Int.reduceNeg, Nat.reduceLT, Nat.reduceLeDiff, Nat.reduceMul, Nat.reduceSub, reduceIte, Nat.reduceEqDiff, Nat.reduceAdd, reduceCtorEq]
    exact h5 _ true _ _ _ _ _ _ _ _ _ _ a2 s2 n' o' _ _ (by simp only [cond_true, go_sem, adopt_fun, Int.reduceLT, Int.reduceLE, Int.reduceToNat, Int.reduceNeg, Nat.reduceLT, Nat.reduceLeDiff, Nat.reduceMul, Nat.reduceSub, reduceIte, Nat.reduceEqDiff, Nat.reduceAdd, reduceCtorEq]; rfl) (by rw [if_pos rfl]; exact ⟨rfl, rfl⟩) (by rw [e, e]; exact M') hn' (by constructor <;> omega)
end Go.Ab
