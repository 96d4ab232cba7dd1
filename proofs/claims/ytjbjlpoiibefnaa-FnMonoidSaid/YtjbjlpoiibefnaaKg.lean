/- The actions of all words: the program's computation. Conditions: none. -/
import Derived.Test.YtjbjlpoiibefnaaKf
set_option linter.all false
namespace Go.Ab
open Go.Proofs
set_option maxRecDepth 20000
set_option maxHeartbeats 4000000
set_option linter.unusedSimpArgs false

abbrev keysV (ss : List ByteArray) : List Value := ss.map Value.string

theorem ba_beq (a b : ByteArray) : (a == b) = decide (a = b) := by
  obtain ⟨a⟩ := a
  obtain ⟨b⟩ := b
  have h1 : ((⟨a⟩ : ByteArray) == ⟨b⟩) = (a == b) := rfl
  rw [h1]
  by_cases h : a = b
  · subst h; simp
  · have : ¬ (⟨a⟩ : ByteArray) = ⟨b⟩ := fun e => h (by injection e)
    simp [h]

theorem fk_not {k : ByteArray} : ∀ {ss : List ByteArray} {i : Nat}, k ∉ ss → findKeyAt (.string k) (keysV ss) i = some none
  | [], i, _ => rfl
  | s :: ss, i, h => by
    simp only [List.mem_cons, not_or] at h
    have h1 : (k == s) = false := by rw [ba_beq]; simpa using h.1
    simp only [List.map_cons, findKeyAt, sameKey, h1]
    exact fk_not h.2

theorem fk_mem {k : ByteArray} : ∀ {ss : List ByteArray} {i : Nat}, k ∈ ss → ∃ j, findKeyAt (.string k) (keysV ss) i = some (some (i + j)) ∧ j < ss.length
  | [], i, h => by simp at h
  | s :: ss, i, h => by
    by_cases h1 : k = s
    · subst h1
      refine ⟨0, ?_, by simp⟩
      simp [findKeyAt, sameKey, ba_beq]
    · have h2 : (k == s) = false := by rw [ba_beq]; simpa using h1
      simp only [List.mem_cons, h1, false_or] at h
      obtain ⟨j, h3, h4⟩ := fk_mem (i := i + 1) h
      refine ⟨j + 1, ?_, by simp; omega⟩
      simp only [List.map_cons, findKeyAt, sameKey, h2]
      rw [h3]
      congr 2; omega

theorem u8wrap {n : Int} (h : 0 ≤ n ∧ n < 256) : IntKind.u8.wrap n = n := by
  unfold IntKind.wrap
  simp [IntKind.bits, IntKind.signed]
  omega

theorem keyS_inj {xs ys : List Int} (hx : ∀ x ∈ xs, 0 ≤ x ∧ x < 256) (hy : ∀ y ∈ ys, 0 ≤ y ∧ y < 256) (h : keyS xs = keyS ys) : xs = ys := by
  have h1 : (xs.map IntKind.u8.wrap).map (fun n => UInt8.ofNat n.toNat) = (ys.map IntKind.u8.wrap).map (fun n => UInt8.ofNat n.toNat) := by
    have := congrArg (fun b => b.data.toList) h
    simpa [keyS] using this
  have h2 : ∀ zs : List Int, (∀ z ∈ zs, 0 ≤ z ∧ z < 256) → ((zs.map IntKind.u8.wrap).map (fun n => UInt8.ofNat n.toNat)).map (fun u => (u.toNat : Int)) = zs := by
    intro zs hz
    rw [List.map_map, List.map_map]
    conv => rhs; rw [← List.map_id zs]
    refine List.map_congr_left fun z hm => ?_
    have := hz z hm
    simp only [Function.comp, id, u8wrap this]
    have : z.toNat < 256 := by omega
    simp [UInt8.toNat_ofNat']
    omega
  rw [← h2 xs hx, ← h2 ys hy, h1]
theorem dnL_rep {m : Nat} {b : Bool} : dnL (List.replicate m (.val (.bool b))) = List.replicate m (.val (.bool b)) := by
  rw [dnL_eq, List.map_replicate]; rfl
theorem rep_snoc {α : Type} {m : Nat} {a : α} : List.replicate m a ++ [a] = List.replicate (m + 1) a := by
  rw [List.replicate_succ']

/-- What the program's monoid gives. -/
def MonI (r : (LL × LL) × Bool) (rows : List AObj) (res : AVal) : Prop := if r.2 = true then MonR r rows res else rows = [] ∧ res = .tup [.val (.slice none 0 0), .val (.slice none 0 0), bv false]

theorem actA_nil (n : Int) (next : LL) : actA n next [] = allS n := rfl

abbrev keysA (l : LL) : List Value := keysV (l.map keyS)

theorem keysA_snoc {l : LL} {a : List Int} : keysA l ++ [Value.string (keyS a)] = keysA (l ++ [a]) := by simp
theorem rep_len {l : LL} {a : List Int} : List.replicate (l.length + 1) (AVal.val (.bool true)) = List.replicate (l ++ [a]).length (AVal.val (.bool true)) := by simp

theorem k_monoid (F : Nat) (hF : 600 ≤ F) (n : Int) (next : LL) (A : Aut n next) : Fn Try.prog n_impl_Automaton_monoid [autA n next] (MonI (mrun next F 0 (st0 n))) := by
  refine con_of mixed c_impl_Automaton_monoid rfl (by simp) ?_
  have hn1 := A.n1
  have hn2 := A.n2
  have hl1 := A.l1
  have hl2 := A.l2
  generalize hQ : finQ _ = Q
  simp only [A_impl_Automaton_monoid, B_impl_Automaton_monoid_1, go_sem, adopt_fun, Int.reduceLT, Int.reduceLE, Int.reduceToNat, Int.reduceNeg, Nat.reduceLT, Nat.reduceLeDiff, Nat.reduceMul, Nat.reduceSub, reduceIte, Nat.reduceEqDiff, Nat.reduceAdd, reduceCtorEq]
  intro vs vs2
  refine call_rowI (k_action n next [] A (by simp [IsW])) (by simp only [rowIs, boxIs, coe_argN, coeL_nil, coeL_cons, coe_any, coe_val, coe_ro, coe_ro_nil, coe_ro_own, coe_st, coe_st_agg, coe_rp, coe_rp_ptr, coe_clo, coe_own0, coe_ptr0, coeL_intsK, coeL_rws, coeL_rwn, L_hit, L_miss, L_nil, Nat.reduceEqDiff, ne_eq, reduceCtorEq, not_false_eq_true, true_and, and_true, and_self, exists_eq_left, exists_eq_right, List.mem_cons, List.not_mem_nil, or_false, AObj.row.injEq, AObj.box.injEq, exists_eq_left', exists_and_left, exists_eq, Nat.zero_lt_one, Nat.lt_add_one, List.map_cons, List.map_nil, AObj.ver, Nat.reduceLT, not_true_eq_false]) (by simp only [go_sem, adopt_fun, Int.reduceLT, Int.reduceLE, Int.reduceToNat, Int.reduceNeg, Nat.reduceLT, Nat.reduceLeDiff, Nat.reduceMul, Nat.reduceSub, reduceIte, Nat.reduceEqDiff, Nat.reduceAdd, reduceCtorEq]) ⟨_, rfl⟩ ?_
  rintro xs v rfl
  simp only [actA_nil, go_sem, adopt_fun, Int.reduceLT, Int.reduceLE, Int.reduceToNat, Int.reduceNeg, Nat.reduceLT, Nat.reduceLeDiff, Nat.reduceMul, Nat.reduceSub, reduceIte, Nat.reduceEqDiff, Nat.reduceAdd, reduceCtorEq]
  simp only [B_impl_Automaton_monoid_2, go_sem, adopt_fun, Int.reduceLT, Int.reduceLE, Int.reduceToNat, Int.reduceNeg, Nat.reduceLT, Nat.reduceLeDiff, Nat.reduceMul, Nat.reduceSub, reduceIte, Nat.reduceEqDiff, Nat.reduceAdd, reduceCtorEq]
  intro vs3
  have f0 : ∀ k : Value, findKeyAt k [] 0 = some none := fun _ => rfl
  refine call_fun (k_keyOf (allS n) (by simp [allS]; omega)) (by simp only [rowIs, boxIs, coe_argN, coeL_nil, coeL_cons, coe_any, coe_val, coe_ro, coe_ro_nil, coe_ro_own, coe_st, coe_st_agg, coe_rp, coe_rp_ptr, coe_clo, coe_own0, coe_ptr0, coeL_intsK, coeL_rws, coeL_rwn, L_hit, L_miss, L_nil, Nat.reduceEqDiff, ne_eq, reduceCtorEq, not_false_eq_true, true_and, and_true, and_self, exists_eq_left, exists_eq_right, List.mem_cons, List.not_mem_nil, or_false, AObj.row.injEq, AObj.box.injEq, exists_eq_left', exists_and_left, exists_eq, Nat.zero_lt_one, Nat.lt_add_one, List.map_cons, List.map_nil, AObj.ver, Nat.reduceLT, not_true_eq_false]) trivial ?_
  simp only [f0, go_sem, adopt_fun, Int.reduceLT, Int.reduceLE, Int.reduceToNat, Int.reduceNeg, Nat.reduceLT, Nat.reduceLeDiff, Nat.reduceMul, Nat.reduceSub, reduceIte, Nat.reduceEqDiff, Nat.reduceAdd, reduceCtorEq]
  simp only [B_impl_Automaton_monoid_3, B_impl_Automaton_monoid_4, go_sem, adopt_fun, Int.reduceLT, Int.reduceLE, Int.reduceToNat, Int.reduceNeg, Nat.reduceLT, Nat.reduceLeDiff, Nat.reduceMul, Nat.reduceSub, reduceIte, Nat.reduceEqDiff, Nat.reduceAdd, reduceCtorEq]
  have hst0 : rws (st0 n).1 = [.ro (some none) 1 (ints (allS n))] := rfl
  refine wpD_lo (fun (_, _, _, i, _) => F - i)
    (fun (_, _, _, i, st) => MI n next st ∧ i ≤ st.1.length ∧ st.1.length ≤ 400 ∧ mrun next (F - i) i st = mrun next F 0 (st0 n))
    (fun ((va, vw, vm, i, st) : Nat × Nat × Nat × Nat × (LL × LL)) => ⟨L .any [(1, .ptr 1 (vs 0 0) 0), (5, .own 17 va), (6, .own 19 vw), (7, .mp 20 vm), (8, iv i)],
      L .gone [(1, .box (vs 0 0) [iv n, .ro none 1 (rwn next)]), (17, .row va 1 true (rws st.1)), (19, .row vw 1 true (rws st.2)), (20, .map vm (keysA st.1) (List.replicate st.1.length (.val (.bool true))))]⟩)
    (_, _, _, 0, st0 n) ⟨MI0 A, by simp [st0], by simp [st0], rfl⟩ (by simp only [B_impl_Automaton_monoid_5, go_sem, adopt_fun, Int.reduceLT, Int.reduceLE, Int.reduceToNat, Int.reduceNeg, Nat.reduceLT, Nat.reduceLeDiff, Nat.reduceMul, Nat.reduceSub, reduceIte, Nat.reduceEqDiff, Nat.reduceAdd, reduceCtorEq]; try rfl) ?_
  rintro ⟨va, vw, vm, i, st⟩ ⟨hMI, hi, h400, hrun⟩
  by_cases hlt : (i : Int) < st.1.length
  · have hlt1 : i < st.1.length := by omega
    simp only [B_impl_Automaton_monoid_5, B_impl_Automaton_monoid_6, B_impl_Automaton_monoid_7, B_impl_Automaton_monoid_8, dnL_rep, decide_eq_true hlt, go_sem, adopt_fun, Int.reduceLT, Int.reduceLE, Int.reduceToNat, Int.reduceNeg, Nat.reduceLT, Nat.reduceLeDiff, Nat.reduceMul, Nat.reduceSub, reduceIte, Nat.reduceEqDiff, Nat.reduceAdd, reduceCtorEq]
    intro hM hM0
    refine wpD_lo (fun (_, _, _, x, _) => next.length - x)
      (fun (_, _, _, x, st') => x ≤ next.length ∧ st' = mrow next i st x)
      (fun ((va, vw, vm, x, st') : Nat × Nat × Nat × Nat × (LL × LL)) => ⟨L .any [(1, .ptr 1 (vs 0 0) 0), (5, .own 17 va), (6, .own 19 vw), (7, .mp 20 vm), (8, iv i), (33, .ro none 1 (rwn next)), (34, iv next.length), (35, iv x)],
        L .gone [(1, .box (vs 0 0) [iv n, .ro none 1 (rwn next)]), (17, .row va 1 true (rws st'.1)), (19, .row vw 1 true (rws st'.2)), (20, .map vm (keysA st'.1) (List.replicate st'.1.length (.val (.bool true))))]⟩)
      (va, vw, vm, 0, st) ⟨by simp, rfl⟩ (by simp only [B_impl_Automaton_monoid_9, dnL_rep, go_sem, adopt_fun, Int.reduceLT, Int.reduceLE, Int.reduceToNat, Int.reduceNeg, Nat.reduceLT, Nat.reduceLeDiff, Nat.reduceMul, Nat.reduceSub, reduceIte, Nat.reduceEqDiff, Nat.reduceAdd, reduceCtorEq]; try rfl) ?_
    rintro ⟨va, vw, vm, x, st'⟩ ⟨hx, rfl⟩
    have hMI' := hMI.mrow A hlt1 x hx
    have hlen := mrow_len (next := next) (i := i) (st := st) x
    generalize hst' : mrow next i st x = st' at hMI' hlen ⊢
    have hi' : i < st'.1.length := by omega
    have hi2 : i < st'.2.length := by have := hMI'.len; omega
    by_cases hxl : (x : Int) < next.length
    · have hxl1 : x < next.length := by omega
      have hrow := hMI'.row _ (getD_mem hi' [])
      have hrx := A.row _ (getD_mem hxl1 [])
      have wx : IntKind.i64.wrap (x : Int) = x := w64 (by omega)
      simp only [B_impl_Automaton_monoid_9, B_impl_Automaton_monoid_10, B_impl_Automaton_monoid_11, rwn_getD hxl1, dnL_rep, decide_eq_true hxl, go_sem, adopt_fun, Int.reduceLT, Int.reduceLE, Int.reduceToNat, Int.reduceNeg, Nat.reduceLT, Nat.reduceLeDiff, Nat.reduceMul, Nat.reduceSub, reduceIte, Nat.reduceEqDiff, Nat.reduceAdd, reduceCtorEq]
      refine ⟨⟨by omega, hxl1⟩, hxl1, ?_⟩
      simp only [B_impl_Automaton_monoid_12, dnL_rep, go_sem, adopt_fun, Int.reduceLT, Int.reduceLE, Int.reduceToNat, Int.reduceNeg, Nat.reduceLT, Nat.reduceLeDiff, Nat.reduceMul, Nat.reduceSub, reduceIte, Nat.reduceEqDiff, Nat.reduceAdd, reduceCtorEq]
      intro vs4
      simp only [B_impl_Automaton_monoid_13, rws_getD hi', dnL_rep, go_sem, adopt_fun, Int.reduceLT, Int.reduceLE, Int.reduceToNat, Int.reduceNeg, Nat.reduceLT, Nat.reduceLeDiff, Nat.reduceMul, Nat.reduceSub, reduceIte, Nat.reduceEqDiff, Nat.reduceAdd, reduceCtorEq]
      refine ⟨⟨by omega, by omega⟩, by omega, fun hM2 => ?_⟩
      simp only [B_impl_Automaton_monoid_14, dnL_rep, go_sem, adopt_fun, Int.reduceLT, Int.reduceLE, Int.reduceToNat, Int.reduceNeg, Nat.reduceLT, Nat.reduceLeDiff, Nat.reduceMul, Nat.reduceSub, reduceIte, Nat.reduceEqDiff, Nat.reduceAdd, reduceCtorEq]
      -- the action behind the letter
      refine wpD_lo (fun (_, k) => List.length (st'.1.getD i []) - k)
        (fun (_, k) => k ≤ List.length (st'.1.getD i []))
        (fun ((v, k) : Nat × Nat) => ⟨L .any [(1, .ptr 1 (vs 0 0) 0), (5, .own 17 va), (6, .own 19 vw), (7, .mp 20 vm), (8, iv i), (9, iv x), (10, .ro none 1 (ints (next.getD x []))), (11, .own 40 v), (33, .ro none 1 (rwn next)), (34, iv next.length), (35, iv x), (44, .ro (some none) 1 (ints (st'.1.getD i []))), (45, iv (st'.1.getD i []).length), (46, iv k)],
          L .gone [(1, .box (vs 0 0) [iv n, .ro none 1 (rwn next)]), (17, .row va 1 true (rws st'.1)), (19, .row vw 1 true (rws st'.2)), (20, .map vm (keysA st'.1) (List.replicate st'.1.length (.val (.bool true)))), (40, .row v 1 true (ints (compA next ((st'.1.getD i []).take k) x)))]⟩)
        (_, 0) (by simp) (by simp only [B_impl_Automaton_monoid_15, dnL_rep, go_sem, adopt_fun, Int.reduceLT, Int.reduceLE, Int.reduceToNat, Int.reduceNeg, Nat.reduceLT, Nat.reduceLeDiff, Nat.reduceMul, Nat.reduceSub, reduceIte, Nat.reduceEqDiff, Nat.reduceAdd, reduceCtorEq]; try rfl) ?_
      rintro ⟨v, k⟩ hk
      have hk : k ≤ (st'.1.getD i []).length := hk
      by_cases hkl : (k : Int) < (st'.1.getD i []).length
      · have hkl1 : k < (st'.1.getD i []).length := by omega
        have hs := hrow.2 _ (getD_mem hkl1 0)
        obtain ⟨a1, a2, a3⟩ := A.step hs (l := x) (by omega)
        have hc : compA next ((st'.1.getD i []).take k) x ++ [((next.getD x []).getD ((st'.1.getD i []).getD k 0).toNat 0)] = compA next ((st'.1.getD i []).take (k + 1)) x := by
          rw [List.take_add_one, compA, compA, List.map_append, List.getD_eq_getElem?_getD (l := st'.1.getD i []), List.getElem?_eq_getElem hkl1]; rfl
        have hM3 := maxLen_le
        have w1 : IntKind.i64.wrap ((k : Int) + 1) = ((k + 1 : Nat) : Int) := by rw [w64 (by omega)]; simp
        simp only [B_impl_Automaton_monoid_15, B_impl_Automaton_monoid_16, B_impl_Automaton_monoid_17, B_impl_Automaton_monoid_18, B_impl_Automaton_monoid_19, intsK_getD hkl1, intsK_getD (show ((st'.1.getD i []).getD k 0).toNat < (next.getD x []).length from a2), w1, hc, dnL_rep, decide_eq_true hkl, go_sem, adopt_fun, Int.reduceLT, Int.reduceLE, Int.reduceToNat, Int.reduceNeg, Nat.reduceLT, Nat.reduceLeDiff, Nat.reduceMul, Nat.reduceSub, reduceIte, Nat.reduceEqDiff, Nat.reduceAdd, reduceCtorEq]
        refine ⟨⟨by omega, hkl1⟩, hkl1, fun vs5 => ⟨⟨hs.1, a2⟩, a2, ⟨_, rfl, rfl⟩, ?_, (_, k + 1), ?_, ?_, rfl⟩⟩
        · simp [compA]; omega
        · show _ - (k + 1) < _ - k; omega
        · show k + 1 ≤ _; omega
      · have : k = (st'.1.getD i []).length := by omega
        subst this
        simp only [B_impl_Automaton_monoid_15, B_impl_Automaton_monoid_16, B_impl_Automaton_monoid_17, List.take_length, dnL_rep, decide_eq_false hkl, go_sem, adopt_fun, Int.reduceLT, Int.reduceLE, Int.reduceToNat, Int.reduceNeg, Nat.reduceLT, Nat.reduceLeDiff, Nat.reduceMul, Nat.reduceSub, reduceIte, Nat.reduceEqDiff, Nat.reduceAdd, reduceCtorEq]
        simp only [B_impl_Automaton_monoid_20, dnL_rep, go_sem, adopt_fun, Int.reduceLT, Int.reduceLE, Int.reduceToNat, Int.reduceNeg, Nat.reduceLT, Nat.reduceLeDiff, Nat.reduceMul, Nat.reduceSub, reduceIte, Nat.reduceEqDiff, Nat.reduceAdd, reduceCtorEq]
        intro vs5
        refine call_fun (k_keyOf (compA next (st'.1.getD i []) x) (by have := (compA_ok A hrow hxl1).1; omega)) (by simp only [rowIs, boxIs, coe_argN, coeL_nil, coeL_cons, coe_any, coe_val, coe_ro, coe_ro_nil, coe_ro_own, coe_st, coe_st_agg, coe_rp, coe_rp_ptr, coe_clo, coe_own0, coe_ptr0, coeL_intsK, coeL_rws, coeL_rwn, L_hit, L_miss, L_nil, Nat.reduceEqDiff, ne_eq, reduceCtorEq, not_false_eq_true, true_and, and_true, and_self, exists_eq_left, exists_eq_right, List.mem_cons, List.not_mem_nil, or_false, AObj.row.injEq, AObj.box.injEq, exists_eq_left', exists_and_left, exists_eq, Nat.zero_lt_one, Nat.lt_add_one, List.map_cons, List.map_nil, AObj.ver, Nat.reduceLT, not_true_eq_false]) trivial ?_
        simp only [dnL_rep, go_sem, adopt_fun, Int.reduceLT, Int.reduceLE, Int.reduceToNat, Int.reduceNeg, Nat.reduceLT, Nat.reduceLeDiff, Nat.reduceMul, Nat.reduceSub, reduceIte, Nat.reduceEqDiff, Nat.reduceAdd, reduceCtorEq]
        have w1 : IntKind.i64.wrap ((x : Int) + 1) = ((x + 1 : Nat) : Int) := by rw [w64 (by omega)]; simp
        have hco := compA_ok A hrow hxl1
        have hkey : keyS (compA next (st'.1.getD i []) x) ∈ st'.1.map keyS ↔ compA next (st'.1.getD i []) x ∈ st'.1 := by
          constructor
          · intro h
            obtain ⟨a, ha, he⟩ := List.mem_map.1 h
            have := keyS_inj (fun y hy => by have := (hMI'.row a ha).2 y hy; omega) (fun y hy => by have := hco.2 y hy; omega) he
            rw [← this]; exact ha
          · exact fun h => List.mem_map.2 ⟨_, h, rfl⟩
        by_cases hin : compA next (st'.1.getD i []) x ∈ st'.1
        · have hstep : mrow next i st (x + 1) = st' := by rw [mrow_succ, hst', mstep, if_pos hin]
          obtain ⟨j, hj1, hj2⟩ := fk_mem (i := 0) (hkey.2 hin)
          rw [Nat.zero_add] at hj1
          have hj3 : (List.replicate st'.1.length (AVal.val (.bool true))).getD j .any = .val (.bool true) := by
            simp at hj2
            simp [List.getD_eq_getElem?_getD, hj2]
          simp only [B_impl_Automaton_monoid_21, B_impl_Automaton_monoid_22, hj1, hj3, dnL_rep, go_sem, adopt_fun, Int.reduceLT, Int.reduceLE, Int.reduceToNat, Int.reduceNeg, Nat.reduceLT, Nat.reduceLeDiff, Nat.reduceMul, Nat.reduceSub, reduceIte, Nat.reduceEqDiff, Nat.reduceAdd, reduceCtorEq]
          simp only [B_impl_Automaton_monoid_24, w1, dnL_rep, go_sem, adopt_fun, Int.reduceLT, Int.reduceLE, Int.reduceToNat, Int.reduceNeg, Nat.reduceLT, Nat.reduceLeDiff, Nat.reduceMul, Nat.reduceSub, reduceIte, Nat.reduceEqDiff, Nat.reduceAdd, reduceCtorEq]
          refine ⟨(_, _, _, x + 1, _), ?_, ⟨?_, hstep.symm⟩, rfl⟩
          · show _ - (x + 1) < _ - x; omega
          · show x + 1 ≤ _; omega
        · have hj1 : findKeyAt (.string (keyS (compA next (st'.1.getD i []) x))) (keysA st'.1) 0 = some none := fk_not fun h => hin (hkey.1 h)
          have hstep : mrow next i st (x + 1) = (st'.1 ++ [compA next (st'.1.getD i []) x], st'.2 ++ [st'.2.getD i [] ++ [(x : Int)]]) := by
            rw [mrow_succ, hst', mstep, if_neg hin]
          have hwl := (hMI'.word _ (getD_mem hi2 [])).1
          have hl' := hMI'.len
          simp only [B_impl_Automaton_monoid_21, B_impl_Automaton_monoid_22, hj1, dnL_rep, rep_snoc, go_sem, adopt_fun, Int.reduceLT, Int.reduceLE, Int.reduceToNat, Int.reduceNeg, Nat.reduceLT, Nat.reduceLeDiff, Nat.reduceMul, Nat.reduceSub, reduceIte, Nat.reduceEqDiff, Nat.reduceAdd, reduceCtorEq]
          simp only [B_impl_Automaton_monoid_23, rws_getD hi2, dnL_rep, go_sem, adopt_fun, Int.reduceLT, Int.reduceLE, Int.reduceToNat, Int.reduceNeg, Nat.reduceLT, Nat.reduceLeDiff, Nat.reduceMul, Nat.reduceSub, reduceIte, Nat.reduceEqDiff, Nat.reduceAdd, reduceCtorEq]
          intro vs6
          refine ⟨by omega, ⟨by omega, hi2⟩, hi2, ?_⟩
          refine call_rowI (k_Clone (st'.2.getD i []) (by omega)) (by simp only [rowIs, boxIs, coe_argN, coeL_nil, coeL_cons, coe_any, coe_val, coe_ro, coe_ro_nil, coe_ro_own, coe_st, coe_st_agg, coe_rp, coe_rp_ptr, coe_clo, coe_own0, coe_ptr0, coeL_intsK, coeL_rws, coeL_rwn, L_hit, L_miss, L_nil, Nat.reduceEqDiff, ne_eq, reduceCtorEq, not_false_eq_true, true_and, and_true, and_self, exists_eq_left, exists_eq_right, List.mem_cons, List.not_mem_nil, or_false, AObj.row.injEq, AObj.box.injEq, exists_eq_left', exists_and_left, exists_eq, Nat.zero_lt_one, Nat.lt_add_one, List.map_cons, List.map_nil, AObj.ver, Nat.reduceLT, not_true_eq_false]) (by first | rfl | simp only [go_sem, adopt_fun, Int.reduceLT, Int.reduceLE, Int.reduceToNat, Int.reduceNeg, Nat.reduceLT, Nat.reduceLeDiff, Nat.reduceMul, Nat.reduceSub, reduceIte, Nat.reduceEqDiff, Nat.reduceAdd, reduceCtorEq]) ⟨_, rfl⟩ ?_
          rintro xs v7 rfl
          simp only [dnL_rep, go_sem, adopt_fun, Int.reduceLT, Int.reduceLE, Int.reduceToNat, Int.reduceNeg, Nat.reduceLT, Nat.reduceLeDiff, Nat.reduceMul, Nat.reduceSub, reduceIte, Nat.reduceEqDiff, Nat.reduceAdd, reduceCtorEq]
          refine ⟨⟨_, rfl, rfl⟩, by omega, by omega, ?_⟩
          simp only [B_impl_Automaton_monoid_24, w1, dnL_rep, keysA_snoc, rep_len (a := compA next (st'.1.getD i []) x), go_sem, adopt_fun, Int.reduceLT, Int.reduceLE, Int.reduceToNat, Int.reduceNeg, Nat.reduceLT, Nat.reduceLeDiff, Nat.reduceMul, Nat.reduceSub, reduceIte, Nat.reduceEqDiff, Nat.reduceAdd, reduceCtorEq]
          refine ⟨(_, _, _, x + 1, _), ?_, ⟨?_, hstep.symm⟩, rfl⟩
          · show _ - (x + 1) < _ - x; omega
          · show x + 1 ≤ _; omega
    · have : x = next.length := by omega
      subst this
      simp only [B_impl_Automaton_monoid_9, B_impl_Automaton_monoid_10, B_impl_Automaton_monoid_11, dnL_rep, decide_eq_false hxl, go_sem, adopt_fun, Int.reduceLT, Int.reduceLE, Int.reduceToNat, Int.reduceNeg, Nat.reduceLT, Nat.reduceLeDiff, Nat.reduceMul, Nat.reduceSub, reduceIte, Nat.reduceEqDiff, Nat.reduceAdd, reduceCtorEq]
      obtain ⟨f, hf⟩ : ∃ f, F - i = f + 1 := ⟨F - 1 - i, by omega⟩
      have hf2 : F - (i + 1) = f := by omega
      have w1 : IntKind.i64.wrap ((i : Int) + 1) = ((i + 1 : Nat) : Int) := by rw [w64 (by omega)]; simp
      rw [hf] at hrun
      simp only [mrun] at hrun
      rw [if_pos hlt1, hst'] at hrun
      by_cases hbig : (st'.1.length : Int) > 400
      · rw [if_pos (by omega)] at hrun
        simp only [B_impl_Automaton_monoid_25, B_impl_Automaton_monoid_26, decide_eq_true hbig, A_impl_Automaton_monoid, ← hQ, dnL_rep, go_sem, adopt_fun, Int.reduceLT, Int.reduceLE, Int.reduceToNat, Int.reduceNeg, Nat.reduceLT, Nat.reduceLeDiff, Nat.reduceMul, Nat.reduceSub, reduceIte, Nat.reduceEqDiff, Nat.reduceAdd, reduceCtorEq]
        intro hM2
        refine ⟨[], by simp, by simp, by simp, ?_⟩
        simp only [← hrun, MonI, Nat.not_lt_zero, range1, ren_val, ren_any, ren_ro, ren_st, ren_tup, renL_nil, renL_cons, renL_intsK, renL_rws, renL_rwn, oren_box, oren_row, oren_map, ren_own_e0, ren_own_e1, ren_own_e2, ren_ptr_e0, ren_mp_e0, ren_mp_e1, ren_own_r0, ren_own_r1, ren_own_r2, ren_ptr_r0, ren_mp_r0, ren_mp_r1, List.range_zero, callHp_nil, callHp_one, callHp_two, gone_nil, gone_one, gone_two, AVal.fresh, freshL, fresh_intsK, fresh_rws, AObj.fresh, id, Option.isSome_some, or_true, true_or, go_sem, adopt_fun, Int.reduceLT, Int.reduceLE, Int.reduceToNat, Int.reduceNeg, Nat.reduceLT, Nat.reduceLeDiff, Nat.reduceMul, Nat.reduceSub, reduceIte, Nat.reduceEqDiff, Nat.reduceAdd, reduceCtorEq]
        try simp
      · rw [if_neg (by omega)] at hrun
        simp only [B_impl_Automaton_monoid_25, B_impl_Automaton_monoid_26, B_impl_Automaton_monoid_27, decide_eq_false hbig, w1, dnL_rep, go_sem, adopt_fun, Int.reduceLT, Int.reduceLE, Int.reduceToNat, Int.reduceNeg, Nat.reduceLT, Nat.reduceLeDiff, Nat.reduceMul, Nat.reduceSub, reduceIte, Nat.reduceEqDiff, Nat.reduceAdd, reduceCtorEq]
        intro hM2
        refine ⟨(_, _, _, i + 1, st'), ?_, ⟨hMI', ?_, ?_, ?_⟩, rfl⟩
        · show F - (i + 1) < F - i; omega
        · show i + 1 ≤ st'.1.length; omega
        · show st'.1.length ≤ 400; omega
        · show mrun next (F - (i + 1)) (i + 1) st' = _
          rw [hf2]; exact hrun
  · have : i = st.1.length := by omega
    have hr : mrun next F 0 (st0 n) = (st, true) := by
      rw [← hrun]
      obtain ⟨f, hf⟩ : ∃ f, F - i = f + 1 := ⟨F - 1 - i, by omega⟩
      rw [hf]; simp only [mrun]; rw [if_neg (by omega)]
    simp only [B_impl_Automaton_monoid_5, B_impl_Automaton_monoid_6, B_impl_Automaton_monoid_7, B_impl_Automaton_monoid_28, A_impl_Automaton_monoid, ← hQ, dnL_rep, decide_eq_false hlt, go_sem, adopt_fun, Int.reduceLT, Int.reduceLE, Int.reduceToNat, Int.reduceNeg, Nat.reduceLT, Nat.reduceLeDiff, Nat.reduceMul, Nat.reduceSub, reduceIte, Nat.reduceEqDiff, Nat.reduceAdd, reduceCtorEq]
    intro hM
    refine ⟨[17, 19], by simp, by simp, by simp, ?_⟩
    simp only [hr, MonI, if_true, Nat.not_lt_zero, range1, ren_val, ren_any, ren_ro, ren_st, ren_tup, renL_nil, renL_cons, renL_intsK, renL_rws, renL_rwn, oren_box, oren_row, oren_map, ren_own_e0, ren_own_e1, ren_own_e2, ren_ptr_e0, ren_mp_e0, ren_mp_e1, ren_own_r0, ren_own_r1, ren_own_r2, ren_ptr_r0, ren_mp_r0, ren_mp_r1, List.range_zero, callHp_nil, callHp_one, callHp_two, gone_nil, gone_one, gone_two, AVal.fresh, freshL, fresh_intsK, fresh_rws, AObj.fresh, id, Option.isSome_some, or_true, true_or, go_sem, adopt_fun, Int.reduceLT, Int.reduceLE, Int.reduceToNat, Int.reduceNeg, Nat.reduceLT, Nat.reduceLeDiff, Nat.reduceMul, Nat.reduceSub, reduceIte, Nat.reduceEqDiff, Nat.reduceAdd, reduceCtorEq]
    exact ⟨va, vw, rfl, rfl⟩
end Go.Ab
