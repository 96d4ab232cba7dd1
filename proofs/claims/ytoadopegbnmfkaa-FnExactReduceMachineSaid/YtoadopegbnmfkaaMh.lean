/- Contracts: the program's numbers of classes. Conditions: none. -/
import Derived.Test.YtoadopegbnmfkaaMf
import Derived.Test.YtoadopegbnmfkaaPf
set_option linter.all false
namespace Go.Ab
open Go.Proofs
set_option maxRecDepth 20000
set_option maxHeartbeats 2000000

/-- Numbers for classes, as they come. -/
def numS : List Int × List Int → Int → List Int × List Int
  | (ks, r), c => if c ∈ ks then (ks, r ++ [(ks.idxOf c : Int)]) else (ks ++ [c], r ++ [(ks.length : Int)])
def numG (p : List Int × List Int) (xs : List Int) : List Int × List Int := xs.foldl numS p
theorem numG_snoc {p : List Int × List Int} {xs : List Int} {x : Int} : numG p (xs ++ [x]) = numS (numG p xs) x := by simp [numG]

abbrev keyI (ks : List Int) : List Value := ks.map fun c => .int .i64 c
def valN (k : Nat) : List AVal := (List.range k).map fun (j : Nat) => iv (j : Int)
theorem valN_getD {k j : Nat} (h : j < k) : (valN k).getD j .any = iv (j : Int) := by
  rw [List.getD_eq_getElem?_getD, valN, List.getElem?_map, List.getElem?_range h]; rfl
theorem valN_succ {k : Nat} : valN k ++ [iv (k : Int)] = valN (k + 1) := by simp [valN, List.range_succ]
theorem dnL_iv {α : Type} {f : α → Int} : ∀ {l : List α}, dnL (l.map fun x => iv (f x)) = l.map fun x => iv (f x)
  | [] => rfl
  | x :: l => by
    have := dnL_iv (f := f) (l := l)
    simp only [List.map_cons, dnL_cons, dn_val, this]
theorem dnL_valN {k : Nat} : dnL (valN k) = valN k := dnL_iv
theorem fkI_not {c : Int} : ∀ {ks : List Int} (i : Nat), c ∉ ks → findKeyAt (.int .i64 c) (keyI ks) i = some none
  | [], _, _ => rfl
  | k :: ks, i, h => by
    have h1 : (c == k) = false := by simp; exact fun e => h (e ▸ List.mem_cons_self)
    have h2 := fkI_not (c := c) (ks := ks) (i + 1) fun m => h (List.mem_cons_of_mem _ m)
    simp only [List.map_cons, findKeyAt, sameKey, if_true, h1]
    exact h2
theorem fkI_mem {c : Int} : ∀ {ks : List Int} (i : Nat), c ∈ ks → findKeyAt (.int .i64 c) (keyI ks) i = some (some (i + ks.idxOf c))
  | [], _, h => by simp at h
  | k :: ks, i, h => by
    by_cases e : c = k
    · subst e
      simp only [List.map_cons, findKeyAt, sameKey, if_true, beq_self_eq_true, List.idxOf_cons_self, Nat.add_zero]
    · have h1 : (c == k) = false := by simpa using e
      have hm : c ∈ ks := by simpa [e] using h
      have h2 := fkI_mem (c := c) (ks := ks) (i + 1) hm
      simp only [List.map_cons, findKeyAt, sameKey, if_true, h1]
      rw [h2, List.idxOf_cons, show (k == c) = false by simpa using Ne.symm e]
      simp only [cond_false]; congr 2; omega

theorem k_numbered (xs : List Int) (h : xs.length ≤ 1000000) : RowI Try.prog n_impl_numbered [.ro none 1 (ints xs)] (fun ys => ys = (numG ([], []) xs).2) := by
  refine rowI_of mixed c_impl_numbered rfl ?_
  simp only [A_impl_numbered, B_impl_numbered_1, go_sem, adopt_fun, Int.reduceLT, Int.reduceLE, Int.reduceToNat, Int.reduceNeg, Nat.reduceLT, Nat.reduceLeDiff, Nat.reduceMul, Nat.reduceSub, reduceIte, Nat.reduceEqDiff, Nat.reduceAdd, reduceCtorEq]
  intro vs
  simp only [B_impl_numbered_2, B_impl_numbered_3, go_sem, adopt_fun, Int.reduceLT, Int.reduceLE, Int.reduceToNat, Int.reduceNeg, Nat.reduceLT, Nat.reduceLeDiff, Nat.reduceMul, Nat.reduceSub, reduceIte, Nat.reduceEqDiff, Nat.reduceAdd, reduceCtorEq]
  intro hM
  refine wpD_lo (fun (_, _, i, _, _) => xs.length - i)
    (fun (_, _, i, ks, r) => i ≤ xs.length ∧ numG (ks, r) (xs.drop i) = numG ([], []) xs ∧ List.length ks ≤ i ∧ List.length r = i)
    (fun ((va, vm, i, ks, r) : Nat × Nat × Nat × List Int × List Int) => ⟨L .any [(3, .own 9 va), (4, .mp 10 vm), (11, .ro none 1 (ints xs)), (12, iv xs.length), (13, iv i)],
      L .gone [(9, .row va 1 true (ints r)), (10, .map vm (keyI ks) (valN ks.length))]⟩)
    (_, _, 0, [], []) ⟨by simp, by simp, by simp, by simp⟩ (by simp only [B_impl_numbered_4, dnL_valN, go_sem, adopt_fun, Int.reduceLT, Int.reduceLE, Int.reduceToNat, Int.reduceNeg, Nat.reduceLT, Nat.reduceLeDiff, Nat.reduceMul, Nat.reduceSub, reduceIte, Nat.reduceEqDiff, Nat.reduceAdd, reduceCtorEq]; try rfl) ?_
  rintro ⟨va, vm, i, ks, r⟩ ⟨hi, hn, hk, hr⟩
  have hi : i ≤ xs.length := hi
  by_cases hlt : (i : Int) < xs.length
  · have hlt1 : i < xs.length := by omega
    have w1 : IntKind.i64.wrap ((i : Int) + 1) = ((i + 1 : Nat) : Int) := by rw [w64 (by omega)]; simp
    rw [drop_getD hlt1 0] at hn
    generalize hc : xs.getD i 0 = c at hn ⊢
    have hn : numG (numS (ks, r) c) (xs.drop (i + 1)) = numG ([], []) xs := hn
    by_cases hm : c ∈ ks
    · have hf := fkI_mem 0 hm
      have hix := List.idxOf_lt_length_of_mem hm
      rw [Nat.zero_add] at hf
      simp only [B_impl_numbered_4, B_impl_numbered_5, B_impl_numbered_6, B_impl_numbered_7, B_impl_numbered_8, B_impl_numbered_9, B_impl_numbered_10, B_impl_numbered_11, intsK_getD hlt1, hc, hf, valN_getD hix, w1, dnL_valN, decide_eq_true hlt, go_sem, adopt_fun, Int.reduceLT, Int.reduceLE, Int.reduceToNat, Int.reduceNeg, Nat.reduceLT, Nat.reduceLeDiff, Nat.reduceMul, Nat.reduceSub, reduceIte, Nat.reduceEqDiff, Nat.reduceAdd, reduceCtorEq]
      refine ⟨⟨by omega, hlt1⟩, hlt1, ?_⟩
      intro vs2
      have hlx : List.length r = i := hr
      refine ⟨⟨_, rfl, rfl⟩, by omega, (_, _, i + 1, ks, r ++ [(ks.idxOf c : Int)]), by dsimp only; omega, ⟨by dsimp only; omega, ?_, by dsimp only at hk ⊢; omega, by dsimp only; rw [List.length_append, hlx]; rfl⟩, rfl⟩
      rw [← hn]; simp only [numS, if_pos hm]
    · have hf := fkI_not 0 hm
      have hlx : List.length r = i := hr
      have hkl : List.length ks ≤ i := hk
      have hm2 : c ∈ ks ++ [c] := by simp
      have hf2 := fkI_mem 0 hm2
      rw [Nat.zero_add, List.idxOf_append, if_neg hm] at hf2
      simp only [List.idxOf_cons_self, Nat.zero_add] at hf2
      have hk2 : keyI ks ++ [.int .i64 c] = keyI (ks ++ [c]) := by simp
      have hv2 : (valN (ks.length + 1)).getD ks.length .any = iv (ks.length : Int) := valN_getD (by omega)
      have hl3 : (keyI ks).length = ks.length := by simp
      simp only [B_impl_numbered_4, B_impl_numbered_5, B_impl_numbered_6, B_impl_numbered_7, B_impl_numbered_8, B_impl_numbered_9, B_impl_numbered_10, B_impl_numbered_11, intsK_getD hlt1, hc, hf, hk2, hl3, valN_succ, hf2, hv2, w1, dnL_valN, decide_eq_true hlt, go_sem, adopt_fun, Int.reduceLT, Int.reduceLE, Int.reduceToNat, Int.reduceNeg, Nat.reduceLT, Nat.reduceLeDiff, Nat.reduceMul, Nat.reduceSub, reduceIte, Nat.reduceEqDiff, Nat.reduceAdd, reduceCtorEq]
      refine ⟨⟨by omega, hlt1⟩, hlt1, ?_⟩
      intro vs2
      refine ⟨⟨_, rfl, rfl⟩, by omega, (vs2 5 0, vm, i + 1, ks ++ [c], r ++ [(ks.length : Int)]), by dsimp only; omega, ⟨by dsimp only; omega, ?_, by dsimp only; rw [List.length_append]; simp only [List.length_cons, List.length_nil]; omega, by dsimp only; rw [List.length_append, hlx]; rfl⟩, ?_⟩
      · rw [← hn]; simp only [numS, if_neg hm]
      · simp only [List.length_append, List.length_cons, List.length_nil]
  · have : i = xs.length := by omega
    subst this
    rw [List.drop_length] at hn
    simp only [B_impl_numbered_4, B_impl_numbered_5, B_impl_numbered_12, decide_eq_false hlt, go_sem, adopt_fun, Int.reduceLT, Int.reduceLE, Int.reduceToNat, Int.reduceNeg, Nat.reduceLT, Nat.reduceLeDiff, Nat.reduceMul, Nat.reduceSub, reduceIte, Nat.reduceEqDiff, Nat.reduceAdd, reduceCtorEq]
    exact ⟨9, va, r, by omega, rfl, by simp only [go_sem, adopt_fun, Int.reduceLT, Int.reduceLE, Int.reduceToNat, Int.reduceNeg, Nat.reduceLT, Nat.reduceLeDiff, Nat.reduceMul, Nat.reduceSub, reduceIte, Nat.reduceEqDiff, Nat.reduceAdd, reduceCtorEq], congrArg Prod.snd hn⟩

theorem call_wordR {P : Program} {pu : Bool} {σ : St} {g : FuncId} {As args : List AVal} {d : Nat} {s : Nat → Nat} {K : St → Prop} {r : Option (List Int)} (h : WordR P g args r)
    (hco : CoeL σ.hp [] true args As) (hg : σ.hp d = .gone)
    (h1 : ∀ w, r = some w → ∀ v, K (St.put ⟨σ.tm, upd σ.hp d (.row v 1 true (ints w))⟩ (some d) (.tup [.own d v, bv true])))
    (h2 : r = none → K (St.put ⟨σ.tm, σ.hp⟩ (some d) (.tup [nilS, bv false]))) : wpCall P pu σ g As (some d) s K := by
  refine call_fn h hco (fun _ => ?_) ?_
  · cases r with
    | some w => exact ⟨_, _, 0, rfl, rfl⟩
    | none => exact ⟨_, _, rfl, rfl⟩
  · intro rows res hR
    cases r with
    | some w =>
      obtain ⟨v, rfl, rfl⟩ := hR
      refine ⟨by simp, ?_, ?_⟩
      · simp only [Option.getD_some, gone_one]; exact hg
      · simp only [Option.getD_some, List.length_singleton, Nat.not_lt_zero, range1, ren_val, ren_any, ren_ro, rnNm_n, rnNm_sn, rnNm_o, rnNm_s, ren_st, ren_tup, renL_nil, renL_cons, renL_intsK, renL_rws, renL_rwn, oren_box, oren_row, oren_map, ren_own_e0, ren_own_e1, ren_own_e2, ren_ptr_e0, ren_mp_e0, ren_mp_e1, ren_own_r0, ren_own_r1, ren_own_r2, ren_ptr_r0, ren_mp_r0, ren_mp_r1, List.range_zero, callHp_nil, callHp_one, callHp_two, gone_nil, gone_one, gone_two, AVal.fresh, freshL, fresh_intsK, fresh_rws, AObj.fresh, id, Option.isSome_some, or_true, true_or]
        exact h1 w rfl _
    | none =>
      obtain ⟨rfl, rfl⟩ := hR
      refine ⟨by simp, by simp, ?_⟩
      simp only [Nat.not_lt_zero, range1, ren_val, ren_any, ren_ro, rnNm_n, rnNm_sn, rnNm_o, rnNm_s, ren_st, ren_tup, renL_nil, renL_cons, renL_intsK, renL_rws, renL_rwn, oren_box, oren_row, oren_map, ren_own_e0, ren_own_e1, ren_own_e2, ren_ptr_e0, ren_mp_e0, ren_mp_e1, ren_own_r0, ren_own_r1, ren_own_r2, ren_ptr_r0, ren_mp_r0, ren_mp_r1, List.range_zero, callHp_nil, callHp_one, callHp_two, gone_nil, gone_one, gone_two, AVal.fresh, freshL, fresh_intsK, fresh_rws, AObj.fresh, id, Option.isSome_some, or_true, true_or]
      exact h2 rfl

theorem numP_G (next out : List (List Int)) : ∀ k, numG ([], []) ((List.range k).map fun j => (repP next out j : Int)) = ((numP next out k).1.map fun (j : Nat) => (j : Int), (numP next out k).2)
  | 0 => rfl
  | k + 1 => by
    rw [List.range_succ, List.map_append, List.map_cons, List.map_nil, numG_snoc, numP_G next out k]
    simp only [numP]
    generalize numP next out k = N
    obtain ⟨ks, r⟩ := N
    simp only [numS]
    have hi : ∀ (c : Nat) (ks : List Nat), (ks.map fun (j : Nat) => (j : Int)).idxOf (c : Int) = ks.idxOf c := by
      intro c ks
      induction ks with
      | nil => rfl
      | cons k ks ih =>
        simp only [List.map_cons, List.idxOf_cons, ih]
        by_cases e : k = c
        · subst e; simp
        · have e1 : (k == c) = false := by simpa using e
          have e2 : ((k : Int) == (c : Int)) = false := by simp; omega
          rw [e1, e2]
    have hm : ((repP next out k : Int) ∈ ks.map fun (j : Nat) => (j : Int)) ↔ repP next out k ∈ ks := by
      simp only [List.mem_map]
      constructor
      · rintro ⟨a, h1, h2⟩
        have : a = repP next out k := by omega
        exact this ▸ h1
      · intro h; exact ⟨_, h, rfl⟩
    by_cases h : repP next out k ∈ ks
    · rw [if_pos h, if_pos (hm.2 h), hi]
    · rw [if_neg h, if_neg fun x => h (hm.1 x)]
      simp

theorem repP_hit {next out : List (List Int)} {s t : Nat} (ht : t < s) (h1 : eqvP next out s t = true) (h0 : ∀ u < t, eqvP next out s u = false) : (List.range s).find? (eqvP next out s) = some t := by
  rw [List.find?_eq_some_iff_append]
  refine ⟨h1, List.range t, (List.range (s - t - 1)).map (t + 1 + ·), ?_, fun u hu => by rw [h0 u (List.mem_range.1 hu)]; rfl⟩
  obtain ⟨e, rfl⟩ : ∃ e, s = t + 1 + e := ⟨s - t - 1, by omega⟩
  rw [List.range_add, List.range_succ, List.append_assoc, show t + 1 + e - t - 1 = e by omega]; rfl
theorem repP_all {next out : List (List Int)} {s : Nat} (h0 : ∀ u < s, eqvP next out s u = false) : (List.range s).find? (eqvP next out s) = none := by
  rw [List.find?_eq_none]
  intro u hu
  rw [h0 u (List.mem_range.1 hu)]; simp

/-- The equivalent states of the program. -/
theorem k_classes (n o : Int) (next out : List (List Int)) (M : Mach n o next out) : RowI Try.prog n_impl_Machine_classes [machA n o next out] (fun ys => ys = (numP next out n.toNat).2) := by
  refine rowI_of mixed c_impl_Machine_classes rfl ?_
  have n1 := M.aut.n1
  have n2 := M.aut.n2
  simp only [A_impl_Machine_classes, B_impl_Machine_classes_1, go_sem, adopt_fun, Int.reduceLT, Int.reduceLE, Int.reduceToNat, Int.reduceNeg, Nat.reduceLT, Nat.reduceLeDiff, Nat.reduceMul, Nat.reduceSub, reduceIte, Nat.reduceEqDiff, Nat.reduceAdd, reduceCtorEq]
  intro vs vs2
  simp only [B_impl_Machine_classes_2, B_impl_Machine_classes_3, go_sem, adopt_fun, Int.reduceLT, Int.reduceLE, Int.reduceToNat, Int.reduceNeg, Nat.reduceLT, Nat.reduceLeDiff, Nat.reduceMul, Nat.reduceSub, reduceIte, Nat.reduceEqDiff, Nat.reduceAdd, reduceCtorEq]
  refine wpD_lo (fun (_, s) => n.toNat - s) (fun (_, s) => (s : Int) ≤ n)
    (fun ((va, s) : Nat × Nat) => ⟨L .any [(1, .ptr 1 (vs 0 0) 0), (3, .own 9 va), (11, iv n), (12, iv s)],
      L .gone [(1, .box (vs 0 0) [iv n, iv o, .ro none 1 (rwn next), .ro none 1 (rwn out)]), (9, .row va 1 true (ints ((List.range s).map fun j => (repP next out j : Int))))]⟩)
    (_, 0) (by simp; omega) (by simp only [B_impl_Machine_classes_4, go_sem, adopt_fun, Int.reduceLT, Int.reduceLE, Int.reduceToNat, Int.reduceNeg, Nat.reduceLT, Nat.reduceLeDiff, Nat.reduceMul, Nat.reduceSub, reduceIte, Nat.reduceEqDiff, Nat.reduceAdd, reduceCtorEq]; try rfl) ?_
  rintro ⟨va, s⟩ hs
  have hs : (s : Int) ≤ n := hs
  by_cases hlt : (s : Int) < n
  · have w1 : IntKind.i64.wrap ((s : Int) + 1) = ((s + 1 : Nat) : Int) := by rw [w64 (by omega)]; simp
    have fin : ∀ (X : Int), X = repP next out s → ((List.range s).map fun j => (repP next out j : Int)) ++ [X] = (List.range (s + 1)).map fun j => (repP next out j : Int) := by
      rintro _ rfl
      rw [List.range_succ, List.map_append]; rfl
    simp only [B_impl_Machine_classes_4, B_impl_Machine_classes_5, B_impl_Machine_classes_6, B_impl_Machine_classes_7, B_impl_Machine_classes_8, B_impl_Machine_classes_9, decide_eq_true hlt, go_sem, adopt_fun, Int.reduceLT, Int.reduceLE, Int.reduceToNat, Int.reduceNeg, Nat.reduceLT, Nat.reduceLeDiff, Nat.reduceMul, Nat.reduceSub, reduceIte, Nat.reduceEqDiff, Nat.reduceAdd, reduceCtorEq]
    refine wpD_lo (fun t => s - t) (fun t => t ≤ s ∧ ∀ u < t, eqvP next out s u = false)
      (fun t : Nat => ⟨L .any [(1, .ptr 1 (vs 0 0) 0), (3, .own 9 va), (4, iv s), (5, iv s), (11, iv n), (12, iv s), (16, iv s), (17, iv t)],
        L .gone [(1, .box (vs 0 0) [iv n, iv o, .ro none 1 (rwn next), .ro none 1 (rwn out)]), (9, .row va 1 true (ints ((List.range s).map fun j => (repP next out j : Int))))]⟩)
      0 ⟨by omega, fun u h => by omega⟩ (by simp only [B_impl_Machine_classes_10, go_sem, adopt_fun, Int.reduceLT, Int.reduceLE, Int.reduceToNat, Int.reduceNeg, Nat.reduceLT, Nat.reduceLeDiff, Nat.reduceMul, Nat.reduceSub, reduceIte, Nat.reduceEqDiff, Nat.reduceAdd, reduceCtorEq]; try rfl) ?_
    rintro t ⟨ht, h0⟩
    by_cases htl : (t : Int) < s
    · have htl1 : t < s := by omega
      have w2 : IntKind.i64.wrap ((t : Int) + 1) = ((t + 1 : Nat) : Int) := by rw [w64 (by omega)]; simp
      simp only [B_impl_Machine_classes_10, B_impl_Machine_classes_11, B_impl_Machine_classes_12, B_impl_Machine_classes_13, decide_eq_true htl, go_sem, adopt_fun, Int.reduceLT, Int.reduceLE, Int.reduceToNat, Int.reduceNeg, Nat.reduceLT, Nat.reduceLeDiff, Nat.reduceMul, Nat.reduceSub, reduceIte, Nat.reduceEqDiff, Nat.reduceAdd, reduceCtorEq]
      intro vs3
      refine call_wordR (k_apart n n o o next next out out M M rfl s t (by omega) (by omega)) qCS qWS ?_ ?_
      · intro w hw v
        have he : eqvP next out s t = false := by rw [eqvP, hw]; rfl
        simp only [B_impl_Machine_classes_14, B_impl_Machine_classes_15, B_impl_Machine_classes_16, w2, go_sem, adopt_fun, Int.reduceLT, Int.reduceLE, Int.reduceToNat, Int.reduceNeg, Nat.reduceLT, Nat.reduceLeDiff, Nat.reduceMul, Nat.reduceSub, reduceIte, Nat.reduceEqDiff, Nat.reduceAdd, reduceCtorEq]
        exact ⟨t + 1, by omega, ⟨by omega, fun u hu => by rcases Nat.lt_succ_iff_lt_or_eq.1 hu with h | h; exact h0 u h; exact h ▸ he⟩, rfl⟩
      · intro hw
        have he : eqvP next out s t = true := by rw [eqvP, hw]; rfl
        have hr := fin t (by rw [repP_some (repP_hit htl1 he h0)])
        simp only [B_impl_Machine_classes_14, B_impl_Machine_classes_15, B_impl_Machine_classes_17, B_impl_Machine_classes_18, w1, go_sem, adopt_fun, Int.reduceLT, Int.reduceLE, Int.reduceToNat, Int.reduceNeg, Nat.reduceLT, Nat.reduceLeDiff, Nat.reduceMul, Nat.reduceSub, reduceIte, Nat.reduceEqDiff, Nat.reduceAdd, reduceCtorEq]
        intro vs4
        refine ⟨⟨_, rfl, rfl⟩, by rw [List.length_range]; omega, (vs4 3 0, s + 1), by dsimp only; omega, by dsimp only; omega, ?_⟩
        rw [hr]
    · have : t = s := by omega
      subst this
      have hr := fin t (by rw [repP_none (repP_all h0)])
      simp only [B_impl_Machine_classes_10, B_impl_Machine_classes_11, B_impl_Machine_classes_17, B_impl_Machine_classes_18, w1, decide_eq_false htl, go_sem, adopt_fun, Int.reduceLT, Int.reduceLE, Int.reduceToNat, Int.reduceNeg, Nat.reduceLT, Nat.reduceLeDiff, Nat.reduceMul, Nat.reduceSub, reduceIte, Nat.reduceEqDiff, Nat.reduceAdd, reduceCtorEq]
      intro vs4
      refine ⟨⟨_, rfl, rfl⟩, by rw [List.length_range]; omega, (vs4 3 0, t + 1), by dsimp only; omega, by dsimp only; omega, ?_⟩
      rw [hr]
  · have : (s : Int) = n := by omega
    have hsn : s = n.toNat := by omega
    simp only [B_impl_Machine_classes_4, B_impl_Machine_classes_5, B_impl_Machine_classes_19, decide_eq_false hlt, go_sem, adopt_fun, Int.reduceLT, Int.reduceLE, Int.reduceToNat, Int.reduceNeg, Nat.reduceLT, Nat.reduceLeDiff, Nat.reduceMul, Nat.reduceSub, reduceIte, Nat.reduceEqDiff, Nat.reduceAdd, reduceCtorEq]
    intro vs3
    refine call_rowI (k_numbered ((List.range s).map fun j => (repP next out j : Int)) (by rw [List.length_map, List.length_range]; omega)) qCS qGN ⟨_, rfl⟩ ?_
    rintro ys v rfl
    try simp only [go_sem, adopt_fun, Int.reduceLT, Int.reduceLE, Int.reduceToNat, Int.reduceNeg, Nat.reduceLT, Nat.reduceLeDiff, Nat.reduceMul, Nat.reduceSub, reduceIte, Nat.reduceEqDiff, Nat.reduceAdd, reduceCtorEq]
    exact ⟨38, v, (numP next out n.toNat).2, by omega, rfl, by simp only [numP_G, hsn, go_sem, adopt_fun, Int.reduceLT, Int.reduceLE, Int.reduceToNat, Int.reduceNeg, Nat.reduceLT, Nat.reduceLeDiff, Nat.reduceMul, Nat.reduceSub, reduceIte, Nat.reduceEqDiff, Nat.reduceAdd, reduceCtorEq], rfl⟩

end Go.Ab
