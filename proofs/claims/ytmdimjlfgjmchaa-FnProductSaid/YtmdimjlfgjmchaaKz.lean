/- Contracts: tours. Conditions: none. -/
import Derived.Test.YtmdimjlfgjmchaaKy
import Derived.Test.YtmdimjlfgjmchaaPc
set_option linter.all false
namespace Go.Ab
open Go.Proofs
set_option maxRecDepth 20000
set_option maxHeartbeats 2000000

abbrev keysF (L : TS) : List Value := L.map fun p => Value.int .u64 (p.1 : Int)
abbrev setsI (L : TS) : List Int := L.map fun p => (p.1 : Int)

theorem fkF_not {f : Nat} : ∀ {L : TS} (i : Nat), hasT L f = false → findKeyAt (.int .u64 (f : Int)) (keysF L) i = some none
  | [], _, _ => rfl
  | p :: L, i, h => by
    simp only [hasT, List.any_cons, Bool.or_eq_false_iff] at h
    have h1 : ((f : Int) == (p.1 : Int)) = false := by
      have : p.1 ≠ f := fun e => by rw [e, Nat.beq_refl] at h; cases h.1
      exact beq_false_of_ne fun e => this (by omega)
    have h2 := fkF_not (f := f) (L := L) (i + 1) h.2
    simp only [List.map_cons, findKeyAt, sameKey, h1, if_true]
    exact h2
theorem fkF_mem {f : Nat} : ∀ {L : TS} (i : Nat), hasT L f = true → ∃ j, findKeyAt (.int .u64 (f : Int)) (keysF L) i = some (some (i + j)) ∧ j < L.length
  | [], _, h => by cases h
  | p :: L, i, h => by
    by_cases e : p.1 = f
    · refine ⟨0, ?_, by simp⟩
      have h1 : ((f : Int) == (p.1 : Int)) = true := by rw [e]; exact beq_self_eq_true _
      simp only [List.map_cons, findKeyAt, sameKey, h1, if_true, Nat.add_zero]
    · have h0 : Nat.beq p.1 f = false := by rw [← dec_beqN]; exact decide_eq_false e
      simp only [hasT, List.any_cons, h0, Bool.false_or] at h
      have h1 : ((f : Int) == (p.1 : Int)) = false := beq_false_of_ne fun e' => e (by omega)
      obtain ⟨j, h2, h3⟩ := fkF_mem (f := f) (L := L) (i + 1) h
      refine ⟨j + 1, ?_, by simp; omega⟩
      simp only [List.map_cons, findKeyAt, sameKey, h1, if_true]
      rw [h2]; congr 2; omega
theorem fkF_at : ∀ {L : TS} (i k : Nat), (L.map (·.1)).Nodup → i < L.length → findKeyAt (.int .u64 ((L.getD i (0, [])).1 : Int)) (keysF L) k = some (some (k + i))
  | [], _, _, _, h => by simp at h
  | p :: L, 0, k, _, _ => by
    simp only [List.getD_cons_zero, List.map_cons, findKeyAt, sameKey, beq_self_eq_true, if_true, Nat.add_zero]
  | p :: L, i + 1, k, hd, h => by
    rw [List.map_cons, List.nodup_cons] at hd
    have hi : i < L.length := by simpa using h
    have hm := getD_mem hi (0, ([] : List Int))
    have h1 : (((L.getD i (0, [])).1 : Int) == (p.1 : Int)) = false := beq_false_of_ne fun e => hd.1 (List.mem_map.2 ⟨_, hm, by omega⟩)
    have h2 := fkF_at (L := L) i (k + 1) hd.2 hi
    simp only [List.getD_cons_succ, List.map_cons, findKeyAt, sameKey, h1, if_true]
    rw [h2]; congr 2; omega

theorem setsI_getD {L : TS} {i : Nat} (h : i < L.length) : (setsI L).getD i 0 = ((L.getD i (0, [])).1 : Int) := by
  rw [List.getD_eq_getElem?_getD, List.getElem?_map, List.getElem?_eq_getElem h, List.getD_eq_getElem?_getD, List.getElem?_eq_getElem h]; rfl
theorem words_getD {L : TS} {i : Nat} (h : i < L.length) : (L.map (·.2)).getD i [] = (L.getD i (0, [])).2 := by
  rw [List.getD_eq_getElem?_getD, List.getElem?_map, List.getElem?_eq_getElem h, List.getD_eq_getElem?_getD, List.getElem?_eq_getElem h]; rfl

theorem k_tour (n : Int) (next : List (List Int)) (A : Aut n next) (f : Nat) (hf : f < 2 ^ n.toNat) :
    Fn Try.prog n_impl_Automaton_tour [autA n next, fv f] (fun rows res => ∃ v w, rows = [.row v 1 true (intsK .u64 (setsI (tourT next f))), .map w (keysF (tourT next f)) (rws ((tourT next f).map (·.2)))] ∧ res = .st [.own 6000 v, .mp 6001 w]) := by
  refine con_of mixed c_impl_Automaton_tour rfl (by simp) ?_
  have n1 := A.n1
  have n2 := A.n2
  have l2 := A.l2
  have hN : 2 ^ n.toNat ≤ 1024 := Nat.pow_le_pow_right (n := 2) (by omega) (show n.toNat ≤ 10 by omega)
  have f0 : ∀ k : Value, findKeyAt k [] 0 = some none := fun _ => rfl
  generalize hQ : finQ _ = Q
  simp only [A_impl_Automaton_tour, B_impl_Automaton_tour_1, f0, go_sem, adopt_fun, Int.reduceLT, Int.reduceLE, Int.reduceToNat, Int.reduceNeg, Nat.reduceLT, Nat.reduceLeDiff, Nat.reduceMul, Nat.reduceSub, reduceIte, Nat.reduceEqDiff, Nat.reduceAdd, reduceCtorEq]
  intro vs vs2
  refine ⟨⟨_, rfl, rfl⟩, ?_⟩
  simp only [B_impl_Automaton_tour_2, B_impl_Automaton_tour_3, go_sem, adopt_fun, Int.reduceLT, Int.reduceLE, Int.reduceToNat, Int.reduceNeg, Nat.reduceLT, Nat.reduceLeDiff, Nat.reduceMul, Nat.reduceSub, reduceIte, Nat.reduceEqDiff, Nat.reduceAdd, reduceCtorEq]
  refine ⟨fun r v' e => by cases e; exact ⟨_, _, _, rfl⟩, ?_⟩
  refine wpD_lo (fun (_, _, _, i, _) => 1100 - i)
    (fun (_, _, _, i, L) => TI n.toNat next.length L ∧ i ≤ List.length L ∧ runT next (1100 - i) i L = tourT next f)
    (fun ((v5, va, vm, i, L) : Nat × Nat × Nat × Nat × TS) => ⟨Go.Ab.L .any [(2, .ptr 2 (vs 0 0) 0), (4, .ptr 4 (vs 1 0) 0), (5, .ptr 5 v5 0), (6, iv i)],
      Go.Ab.L .gone [(2, .box (vs 0 0) [iv n, .ro none 1 (rwn next)]), (4, .box (vs 1 0) [nilS, .val (.map none)]), (5, .box v5 [.own 13 va, .mp 14 vm]), (13, .row va 1 true (intsK .u64 (setsI L))), (14, .map vm (keysF L) (rws (L.map (·.2))))]⟩)
    (_, _, _, 0, [(f, [])]) ⟨TI0 hf, by simp, rfl⟩ (by simp only [B_impl_Automaton_tour_4, go_sem, adopt_fun, Int.reduceLT, Int.reduceLE, Int.reduceToNat, Int.reduceNeg, Nat.reduceLT, Nat.reduceLeDiff, Nat.reduceMul, Nat.reduceSub, reduceIte, Nat.reduceEqDiff, Nat.reduceAdd, reduceCtorEq]; try rfl) ?_
  rintro ⟨v5, va, vm, i, L⟩ ⟨hI, hi, hR⟩
  have hi : i ≤ L.length := hi
  have hlen := hI.len
  by_cases hlt : (i : Int) < L.length
  · have hlt1 : i < L.length := by omega
    have hls : i < (setsI L).length := by simpa using hlt1
    have hm := getD_mem hlt1 (0, ([] : List Int))
    have hfi := hI.rg _ hm
    have hwi := hI.wd _ hm
    simp only [B_impl_Automaton_tour_4, B_impl_Automaton_tour_5, B_impl_Automaton_tour_6, intsK_getD hls, setsI_getD hlt1, dnL_rws, decide_eq_true hlt, go_sem, adopt_fun, Int.reduceLT, Int.reduceLE, Int.reduceToNat, Int.reduceNeg, Nat.reduceLT, Nat.reduceLeDiff, Nat.reduceMul, Nat.reduceSub, reduceIte, Nat.reduceEqDiff, Nat.reduceAdd, reduceCtorEq]
    intro hM
    refine ⟨⟨by omega, hlt1⟩, hlt1, ?_⟩
    simp only [B_impl_Automaton_tour_7, go_sem, adopt_fun, Int.reduceLT, Int.reduceLE, Int.reduceToNat, Int.reduceNeg, Nat.reduceLT, Nat.reduceLeDiff, Nat.reduceMul, Nat.reduceSub, reduceIte, Nat.reduceEqDiff, Nat.reduceAdd, reduceCtorEq]
    intro vs3
    refine call_fun (k_letters n next) qCS trivial ?_
    simp only [B_impl_Automaton_tour_8, go_sem, adopt_fun, Int.reduceLT, Int.reduceLE, Int.reduceToNat, Int.reduceNeg, Nat.reduceLT, Nat.reduceLeDiff, Nat.reduceMul, Nat.reduceSub, reduceIte, Nat.reduceEqDiff, Nat.reduceAdd, reduceCtorEq]
    have hM2 := maxLen_le
    generalize hfw : L.getD i (0, []) = fw at hm hfi hwi ⊢
    refine wpD_lo (fun (_, _, _, x, _) => next.length - x)
      (fun (_, _, _, x, L') => x ≤ next.length ∧ L' = visT next fw.1 fw.2 x L)
      (fun ((v5, va, vm, x, L') : Nat × Nat × Nat × Nat × TS) => ⟨Go.Ab.L .any [(2, .ptr 2 (vs 0 0) 0), (4, .ptr 4 (vs 1 0) 0), (5, .ptr 5 v5 0), (6, iv i), (7, fv fw.1), (32, iv next.length), (33, iv x)],
        Go.Ab.L .gone [(2, .box (vs 0 0) [iv n, .ro none 1 (rwn next)]), (4, .box (vs 1 0) [nilS, .val (.map none)]), (5, .box v5 [.own 13 va, .mp 14 vm]), (13, .row va 1 true (intsK .u64 (setsI L'))), (14, .map vm (keysF L') (rws (L'.map (·.2))))]⟩)
      (_, _, _, 0, L) ⟨by simp, rfl⟩ (by simp only [B_impl_Automaton_tour_9, dnL_rws, go_sem, adopt_fun, Int.reduceLT, Int.reduceLE, Int.reduceToNat, Int.reduceNeg, Nat.reduceLT, Nat.reduceLeDiff, Nat.reduceMul, Nat.reduceSub, reduceIte, Nat.reduceEqDiff, Nat.reduceAdd, reduceCtorEq]; try rfl) ?_
    rintro ⟨v5, va, vm, x, L'⟩ ⟨hx, rfl⟩
    have hx : x ≤ next.length := hx
    obtain ⟨hI', t, hpre⟩ := visT_ok A hI hlt1 x hx
    rw [hfw] at hI' hpre
    generalize hV : visT next fw.1 fw.2 x L = L' at hI' hpre ⊢
    have hlen' := hI'.len
    have hi2 : i < L'.length := by rw [hpre, List.length_append]; omega
    have hat : L'.getD i (0, []) = fw := by rw [hpre, getD_app hlt1, hfw]
    by_cases hxl : (x : Int) < next.length
    · have hxl1 : x < next.length := by omega
      have hto := stepN_lt A hxl1 hfi
      have w1 : IntKind.i64.wrap ((x : Int) + 1) = ((x + 1 : Nat) : Int) := by rw [w64 (by omega)]; simp
      simp only [B_impl_Automaton_tour_9, B_impl_Automaton_tour_10, B_impl_Automaton_tour_11, dnL_rws, decide_eq_true hxl, go_sem, adopt_fun, Int.reduceLT, Int.reduceLE, Int.reduceToNat, Int.reduceNeg, Nat.reduceLT, Nat.reduceLeDiff, Nat.reduceMul, Nat.reduceSub, reduceIte, Nat.reduceEqDiff, Nat.reduceAdd, reduceCtorEq]
      simp only [B_impl_Automaton_tour_12, dnL_rws, go_sem, adopt_fun, Int.reduceLT, Int.reduceLE, Int.reduceToNat, Int.reduceNeg, Nat.reduceLT, Nat.reduceLeDiff, Nat.reduceMul, Nat.reduceSub, reduceIte, Nat.reduceEqDiff, Nat.reduceAdd, reduceCtorEq]
      intro vs4
      refine call_fun (k_step n next A fw.1 x hfi hxl1) qCS trivial ?_
      have hsucc := visT_succ (next := next) (f := fw.1) (w := fw.2) (x := x) (L := L)
      rw [hV] at hsucc
      generalize stepN (next.getD x []) fw.1 = to at hto hsucc ⊢
      cases hh : hasT L' to with
      | true =>
        rw [hh, if_pos rfl] at hsucc
        obtain ⟨j, hj1, hj2⟩ := fkF_mem 0 hh
        rw [Nat.zero_add] at hj1
        simp only [B_impl_Automaton_tour_13, B_impl_Automaton_tour_14, B_impl_Automaton_tour_15, B_impl_Automaton_tour_17, hj1, w1, dnL_rws, go_sem, adopt_fun, Int.reduceLT, Int.reduceLE, Int.reduceToNat, Int.reduceNeg, Nat.reduceLT, Nat.reduceLeDiff, Nat.reduceMul, Nat.reduceSub, reduceIte, Nat.reduceEqDiff, Nat.reduceAdd, reduceCtorEq]
        exact ⟨(_, _, _, x + 1, _), by dsimp only; omega, ⟨by dsimp only; omega, hsucc.symm⟩, rfl⟩
      | false =>
        rw [hh, if_neg (by simp)] at hsucc
        have hj1 := fkF_not 0 hh
        have hk := fkF_at i 0 hI'.nd hi2
        rw [hat, Nat.zero_add] at hk
        have hwl : i < (L'.map (·.2)).length := by simpa using hi2
        have hwg := words_getD hi2
        rw [hat] at hwg
        simp only [B_impl_Automaton_tour_13, B_impl_Automaton_tour_14, B_impl_Automaton_tour_15, hj1, hk, rws_getD hwl, hwg, dnL_rws, go_sem, adopt_fun, Int.reduceLT, Int.reduceLE, Int.reduceToNat, Int.reduceNeg, Nat.reduceLT, Nat.reduceLeDiff, Nat.reduceMul, Nat.reduceSub, reduceIte, Nat.reduceEqDiff, Nat.reduceAdd, reduceCtorEq]
        intro vs5
        refine call_rowI (k_Clone fw.2 (by omega)) qCS qGN ⟨_, rfl⟩ ?_
        rintro xs v7 rfl
        simp only [hj1, dnL_rws, go_sem, adopt_fun, Int.reduceLT, Int.reduceLE, Int.reduceToNat, Int.reduceNeg, Nat.reduceLT, Nat.reduceLeDiff, Nat.reduceMul, Nat.reduceSub, reduceIte, Nat.reduceEqDiff, Nat.reduceAdd, reduceCtorEq]
        refine ⟨⟨_, rfl, rfl⟩, by omega, ⟨fun r v' e => by cases e; exact ⟨_, _, _, rfl⟩, ?_⟩⟩
        simp only [B_impl_Automaton_tour_16, B_impl_Automaton_tour_17, w1, dnL_rws, go_sem, adopt_fun, Int.reduceLT, Int.reduceLE, Int.reduceToNat, Int.reduceNeg, Nat.reduceLT, Nat.reduceLeDiff, Nat.reduceMul, Nat.reduceSub, reduceIte, Nat.reduceEqDiff, Nat.reduceAdd, reduceCtorEq]
        intro vs6
        exact ⟨⟨_, rfl, rfl⟩, by omega, (v5, vs6 4 0, vm, x + 1, L' ++ [(to, fw.2 ++ [(x : Int)])]), by dsimp only; omega, ⟨by dsimp only; omega, hsucc.symm⟩, by simp only [List.map_append, List.map_cons, List.map_nil]⟩
    · have : x = next.length := by omega
      subst this
      simp only [B_impl_Automaton_tour_9, B_impl_Automaton_tour_10, B_impl_Automaton_tour_18, dnL_rws, nat1 i _ hlt1 hM, decide_eq_false hxl, go_sem, adopt_fun, Int.reduceLT, Int.reduceLE, Int.reduceToNat, Int.reduceNeg, Nat.reduceLT, Nat.reduceLeDiff, Nat.reduceMul, Nat.reduceSub, reduceIte, Nat.reduceEqDiff, Nat.reduceAdd, reduceCtorEq]
      obtain ⟨F, hF⟩ : ∃ F, 1100 - i = F + 1 := ⟨1099 - i, by omega⟩
      have hF2 : 1100 - (i + 1) = F := by omega
      rw [hF] at hR
      simp only [runT, if_pos hlt1, hfw, hV] at hR
      exact ⟨(_, _, _, i + 1, L'), by dsimp only; omega, ⟨hI', by dsimp only; omega, by dsimp only; rw [hF2]; exact hR⟩, rfl⟩
  · have : i = L.length := by omega
    subst this
    have hend : L = tourT next f := by
      obtain ⟨F, hF⟩ : ∃ F, 1100 - L.length = F + 1 := ⟨1099 - L.length, by omega⟩
      rw [← hR, hF]; simp only [runT, Nat.lt_irrefl, if_false]
    simp only [B_impl_Automaton_tour_4, B_impl_Automaton_tour_5, B_impl_Automaton_tour_19, decide_eq_false hlt, A_impl_Automaton_tour, ← hQ, go_sem, adopt_fun, Int.reduceLT, Int.reduceLE, Int.reduceToNat, Int.reduceNeg, Nat.reduceLT, Nat.reduceLeDiff, Nat.reduceMul, Nat.reduceSub, reduceIte, Nat.reduceEqDiff, Nat.reduceAdd, reduceCtorEq]
    intro hM
    refine ⟨[13, 14], by simp, by simp, by simp, ?_⟩
    simp only [hend, Nat.not_lt_zero, range1, ren_val, ren_any, ren_ro, rnNm_n, rnNm_sn, rnNm_o, rnNm_s, ren_st, ren_tup, renL_nil, renL_cons, renL_intsK, renL_rws, renL_rwn, oren_box, oren_row, oren_map, ren_own_e0, ren_own_e1, ren_own_e2, ren_ptr_e0, ren_mp_e0, ren_mp_e1, ren_own_r0, ren_own_r1, ren_own_r2, ren_ptr_r0, ren_mp_r0, ren_mp_r1, List.range_zero, callHp_nil, callHp_one, callHp_two, gone_nil, gone_one, gone_two, AVal.fresh, freshL, fresh_intsK, fresh_rws, AObj.fresh, id, Option.isSome_some, or_true, true_or, go_sem, adopt_fun, Int.reduceLT, Int.reduceLE, Int.reduceToNat, Int.reduceNeg, Nat.reduceLT, Nat.reduceLeDiff, Nat.reduceMul, Nat.reduceSub, reduceIte, Nat.reduceEqDiff, Nat.reduceAdd, reduceCtorEq]
    exact ⟨va, vm, rfl, rfl⟩

theorem k_IndexFuncT (T : TS) (h : ∀ p ∈ T, p.1 < 1024) :
    Fun Try.prog n_slices_IndexFunc_Lflock [.ro none 1 (intsK .u64 (setsI T)), .clo n_impl_isSmall []] (iv (fidx smallN (T.map (·.1)) 0)) := by
  have hx := k_IndexFuncF (T.map (·.1)) n_impl_isSmall [] smallN ⟨by simp only [go_sem, adopt_fun, Int.reduceLT, Int.reduceLE, Int.reduceToNat, Int.reduceNeg, Nat.reduceLT, Nat.reduceLeDiff, Nat.reduceMul, Nat.reduceSub, reduceIte, Nat.reduceEqDiff, Nat.reduceAdd, reduceCtorEq], by intros; simp only [rowIs, boxIs, coe_argN, coe_argNs, coe_ro_o, coeL_nil, coeL_cons, coe_any, coe_val, coe_ro, coe_ro_nil, coe_ro_own, coe_st, coe_st_agg, coe_rp, coe_rp_ptr, coe_clo, coe_own0, coe_ptr0, coeL_intsK, coeL_rws, coeL_rwn, L_hit, L_miss, L_nil, Nat.reduceEqDiff, ne_eq, reduceCtorEq, not_false_eq_true, true_and, and_true, and_self, exists_eq_left, exists_eq_right, List.mem_cons, List.not_mem_nil, or_false, AObj.row.injEq, AObj.box.injEq, exists_eq_left', exists_and_left, exists_eq, Nat.zero_lt_one, Nat.lt_add_one, List.map_cons, List.map_nil, AObj.ver, Nat.reduceLT, not_true_eq_false]⟩ (fun x hx => by
    obtain ⟨p, hp, rfl⟩ := List.mem_map.1 hx
    exact k_isSmall p.1 (h p hp))
  rw [List.map_map] at hx
  exact hx

/-- What a tour leads to first. -/
theorem firstT_idx {f : Nat} {w : List Int} : ∀ {T : TS} (k : Nat), firstT T = some (f, w) → ∃ i, fidx smallN (T.map (·.1)) k = ((k + i : Nat) : Int) ∧ i < T.length ∧ T.getD i (0, []) = (f, w)
  | [], _, h => by cases h
  | p :: T, k, h => by
    simp only [firstT, List.find?_cons] at h
    cases hs : smallN p.1 with
    | true =>
      rw [hs] at h
      simp only [Option.some.injEq] at h
      exact ⟨0, by simp only [List.map_cons, fidx, hs, if_true, Nat.add_zero], by simp, by simpa using h⟩
    | false =>
      rw [hs] at h
      obtain ⟨i, h1, h2, h3⟩ := firstT_idx (T := T) (k + 1) h
      refine ⟨i + 1, ?_, by simp; omega, by simpa using h3⟩
      simp only [List.map_cons, fidx, hs, Bool.false_eq_true, if_false, h1]
      congr 1; omega

theorem k_first (N m : Nat) (T : TS) (hI : TI N m T) (hN : 2 ^ N ≤ 1024) (f : Nat) (w : List Int) (hf : firstT T = some (f, w)) :
    Con Try.prog n_impl_tour_first [.row 0 1 true (intsK .u64 (setsI T)), .map 1 (keysF T) (rwn (T.map (·.2)))] [.st [.own 5000 0, .mp 5001 1], .clo n_impl_isSmall []] true
      fun outs rows res => outs = [.row 0 1 true (intsK .u64 (setsI T)), .map 1 (keysF T) (rwn (T.map (·.2)))] ∧ rows = [] ∧ res = .tup [.ro none 1 (ints w), iv 0] := by
  refine con_sh mixed c_impl_tour_first rfl (by simp) ?_
  obtain ⟨i, h1, h2, h3⟩ := firstT_idx 0 hf
  rw [Nat.zero_add] at h1
  have hls : i < (setsI T).length := by simpa using h2
  have hsg := setsI_getD h2
  have hk := fkF_at i 0 hI.nd h2
  rw [h3, Nat.zero_add] at hk
  rw [h3] at hsg
  have hwl : i < (T.map (·.2)).length := by simpa using h2
  have hwg := words_getD h2
  rw [h3] at hwg
  simp only [A_impl_tour_first, B_impl_tour_first_1, go_sem, adopt_fun, Int.reduceLT, Int.reduceLE, Int.reduceToNat, Int.reduceNeg, Nat.reduceLT, Nat.reduceLeDiff, Nat.reduceMul, Nat.reduceSub, reduceIte, Nat.reduceEqDiff, Nat.reduceAdd, reduceCtorEq]
  intro vs vs2
  refine call_fun (k_IndexFuncT T (fun p hp => by have := hI.rg p hp; omega)) qCS trivial ?_
  have hi0 : ¬ (i : Int) < 0 := by omega
  simp only [h1, B_impl_tour_first_2, B_impl_tour_first_3, B_impl_tour_first_4, decide_eq_false hi0, intsK_getD hls, hsg, hk, rwn_getD hwl, hwg, go_sem, adopt_fun, Int.reduceLT, Int.reduceLE, Int.reduceToNat, Int.reduceNeg, Nat.reduceLT, Nat.reduceLeDiff, Nat.reduceMul, Nat.reduceSub, reduceIte, Nat.reduceEqDiff, Nat.reduceAdd, reduceCtorEq]
  refine ⟨⟨by omega, h2⟩, h2, [], by simp, by simp, by simp, ?_⟩
  simp only [List.nil_append, List.cons_append, Nat.add_zero, Nat.reduceAdd, Nat.not_lt_zero, range1, ren_val, ren_any, ren_ro, rnNm_n, rnNm_sn, rnNm_o, rnNm_s, ren_st, ren_tup, renL_nil, renL_cons, renL_intsK, renL_rws, renL_rwn, oren_box, oren_row, oren_map, ren_own_e0, ren_own_e1, ren_own_e2, ren_ptr_e0, ren_mp_e0, ren_mp_e1, ren_own_r0, ren_own_r1, ren_own_r2, ren_ptr_r0, ren_mp_r0, ren_mp_r1, List.range_zero, callHp_nil, callHp_one, callHp_two, gone_nil, gone_one, gone_two, AVal.fresh, freshL, fresh_intsK, fresh_rws, AObj.fresh, id, Option.isSome_some, or_true, true_or, go_sem, adopt_fun, Int.reduceLT, Int.reduceLE, Int.reduceToNat, Int.reduceNeg, Nat.reduceLT, Nat.reduceLeDiff, Nat.reduceMul, Nat.reduceSub, reduceIte, Nat.reduceEqDiff, Nat.reduceAdd, reduceCtorEq]

theorem callHp_m2 {hp : Nat → AObj} {r q d : Nat} {s : Nat → Nat} {o0 o1 : AObj} (hne : r ≠ q) :
    callHp hp [r, q] d s [o0, o1] [] = upd (upd hp r (o0.ren (rid [r, q] d 0) (sv hp [r, q] s))) q (o1.ren (rid [r, q] d 0) (sv hp [r, q] s)) := by
  funext n
  by_cases h : n = q
  · have h1 : rid [r, q] d ([] : List AObj).length 5001 = some n := by rw [h]; exact rid_m (j := 1) (by omega) rfl
    rw [callHp_at (by simp [hne]) (by simp) h1]
    simp [upd, h, outHp]
  · by_cases h' : n = r
    · have h1 : rid [r, q] d ([] : List AObj).length 5000 = some n := by rw [h']; exact rid_m (j := 0) (by omega) rfl
      rw [callHp_at (by simp [hne]) (by simp) h1]
      simp [upd, h, h', outHp, hne]
    · rw [callHp_not]
      · simp [upd, h, h']
      · rintro ⟨x, hx⟩
        rcases rid_cases hx with ⟨j, rfl, _, h3⟩ | ⟨i, rfl, h3, _⟩
        · match j, h3 with
          | 0, h3 => simp at h3; exact h' h3.symm
          | 1, h3 => simp at h3; exact h h3.symm
          | j + 2, h3 => simp at h3
        · simp at h3

/-- A row and a map are handed over. -/
theorem call_rm {P : Program} {σ : St} {g : FuncId} {As args : List AVal} {d : Nat} {s : Nat → Nat} {K : St → Prop} {r q v u : Nat} {cs cs' : List AVal} {ks : List Value} {vs vs' : List AVal} {R : AVal}
    (h : Con P g [.row 0 1 true cs, .map 1 ks vs] (.st [.own 5000 0, .mp 5001 1] :: args) true fun outs rows res => outs = [.row 0 1 true cs, .map 1 ks vs] ∧ rows = [] ∧ res = R)
    (hr : σ.hp r = .row v 1 true cs') (hq : σ.hp q = .map u ks vs') (hne : r ≠ q) (hc : CoeL σ.hp [r, q] false cs cs') (hv : CoeL σ.hp [r, q] false vs vs') (ha : CoeL σ.hp [r, q] false args As)
    (hk : K (St.put ⟨σ.tm, upd (upd σ.hp r ((AObj.row 0 1 true cs).ren (rid [r, q] d 0) (sv σ.hp [r, q] s))) q ((AObj.map 1 ks vs).ren (rid [r, q] d 0) (sv σ.hp [r, q] s))⟩ (some d) (R.ren (rid [r, q] d 0) (sv σ.hp [r, q] s)))) : wpCall P false σ g (.st [.own r v, .mp q u] :: As) (some d) s K := by
  refine .inl ⟨[r, q], _, _, true, _, h, ⟨by simp, rfl, by simp [hne], ?_, ?_⟩, ?_, (fun e => by cases e), ?_⟩
  · intro x hx
    simp only [List.mem_cons, List.not_mem_nil, or_false] at hx
    rcases hx with rfl | rfl
    · simp [hr]
    · simp [hq]
  · intro j B r' hB hr'
    match j, hB, hr' with
    | 0, hB, hr' =>
      simp at hB hr'; subst hB; subst hr'
      simp only [ObjCoe, hr]
      exact ⟨trivial, v, cs', rfl, hc⟩
    | 1, hB, hr' =>
      simp at hB hr'; subst hB; subst hr'
      simp only [ObjCoe, hq]
      exact ⟨trivial, u, vs', rfl, hv⟩
    | j + 2, hB, hr' => simp at hB
  · rw [coeL_cons]
    refine ⟨?_, ha⟩
    rw [coe_st, coeL_cons, coeL_cons, coeL_nil]
    simp only [Coe]
    exact ⟨⟨0, r, v, rfl, rfl, rfl, rfl, by rw [hr]; rfl⟩, ⟨1, q, u, rfl, rfl, rfl, rfl, by rw [hq]; rfl⟩, trivial⟩
  · rintro outs rows res ⟨rfl, rfl, rfl⟩
    refine ⟨rfl, by simp, by simp, ?_⟩
    rw [Option.getD_some, callHp_m2 hne]
    exact hk

theorem maskN_all {n : Int} (h : 1 ≤ n ∧ n ≤ 10) : maskN (allS n) = 2 ^ n.toNat - 1 := by
  obtain ⟨k, rfl⟩ : ∃ k : Nat, n = k := ⟨n.toNat, by omega⟩
  have h2 : k = 1 ∨ k = 2 ∨ k = 3 ∨ k = 4 ∨ k = 5 ∨ k = 6 ∨ k = 7 ∨ k = 8 ∨ k = 9 ∨ k = 10 := by omega
  rcases h2 with rfl | rfl | rfl | rfl | rfl | rfl | rfl | rfl | rfl | rfl <;> decide

end Go.Ab
