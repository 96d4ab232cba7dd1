/- Contracts: the reference draws machines with equivalent states. Conditions: none. -/
import Derived.Test.YtaicnehaodkikaaMj
set_option linter.all false
namespace Go.Ab
open Go.Proofs
set_option maxRecDepth 20000
set_option maxHeartbeats 4000000

theorem rf_L {l : List (Nat × AVal)} {h : List (Nat × AObj)} {r i q v k k' ver : Nat} {nn nn' : Bool} {cs cs' : List AVal} (hr : L .gone h r = .row v k nn cs) (hqr : q ≠ r) :
    St.rf ⟨L .any l, L .gone h⟩ r i q ver k' nn' cs' = ⟨L .any l, L .gone ((r, .row v k nn (cs.set i (.ro (frNm nn' cs'.length ver) k' cs'))) :: (q, .gone) :: h)⟩ := by
  unfold St.rf
  congr 1
  funext x
  simp only [L]
  split
  · rw [hr]
  · split <;> rfl
theorem gwp_rf {gs : List GStep} {K : St → Prop} {l : List (Nat × AVal)} {h : List (Nat × AObj)} {r i q v k k' ver : Nat} {nn nn' : Bool} {cs cs' : List AVal} (hr : L .gone h r = .row v k nn cs)
    (hi : cs[i]? = some (.own q ver)) (hqr : q ≠ r) (hq : L .gone h q = .row ver k' nn' cs')
    (hk : (∀ n k'' cs'', AVal.ro (some (some (n + 1))) k'' cs'' ∈ cs → cs'' ≠ [] → n ≠ ver) → gwp gs K ⟨L .any l, L .gone ((r, .row v k nn (cs.set i (.ro (frNm nn' cs'.length ver) k' cs'))) :: (q, .gone) :: h)⟩) : gwp (.rf r i q :: gs) K ⟨L .any l, L .gone h⟩ :=
  ⟨v, k, nn, cs, ver, k', nn', cs', hr, hi, hqr, hq, fun hd => by rw [rf_L hr hqr]; exact hk hd⟩

theorem usesL_rwp2 {U : Nat → Prop} {X : AVal} {A C : List (Nat × List Int)} (h : usesL U (rwp A ++ X :: rwp C)) : ∀ p ∈ A ++ C, p.2 = [] ∨ U p.1 := by
  intro p hp
  rcases List.mem_append.1 hp with hp | hp
  · exact usesL_rwp h p hp
  · have h2 : ∀ (l : List AVal), usesL U (l ++ X :: rwp C) → usesL U (rwp C) := by
      intro l
      induction l with
      | nil => intro h; simp only [List.nil_append, usesL] at h; exact h.2
      | cons y l ih => intro h; simp only [List.cons_append, usesL] at h; exact ih h.2
    exact usesL_rwp (rest := []) (by rw [List.append_nil]; exact h2 _ h) p hp
theorem woL_set {A C : List (Nat × List Int)} {b : Nat × List Int} {X : AVal} (h : ∀ p ∈ A ++ C, p.2 = [] ∨ p.1 ≠ b.1) : (woL b.1 (rwp (A ++ b :: C))).set A.length X = rwp A ++ X :: rwp C := by
  have e : rwp (A ++ b :: C) = rwp A ++ (.ro (some (some (b.1 + 1))) 1 (ints b.2)) :: rwp C := by simp [rwp]
  have hl : (rwp A).length = A.length := rwp_len
  have hA := woL_rwp (n := b.1) (ps := A) fun p hp => h p (List.mem_append.2 (.inl hp))
  have hC := woL_rwp (n := b.1) (ps := C) fun p hp => h p (List.mem_append.2 (.inr hp))
  have happ : ∀ l l' : List AVal, woL b.1 (l ++ l') = woL b.1 l ++ woL b.1 l' := by
    intro l l'
    simp only [woL_eq, List.map_append]
  rw [e, happ, hA, woL_cons, hC, List.set_append_right _ _ (by omega), hl, Nat.sub_self]
  rfl
theorem own_at {A C : List (Nat × List Int)} {X : AVal} {i : Nat} (h : i = A.length) : (rwp A ++ X :: rwp C).getD i .any = X := by
  subst h
  rw [List.getD_eq_getElem?_getD, List.getElem?_append_right (by rw [rwp_len]; exact Nat.le_refl _), rwp_len]; simp
theorem own_put {A C : List (Nat × List Int)} {X Y : AVal} {i : Nat} (h : i = A.length) : (rwp A ++ X :: rwp C).take i ++ [Y] ++ (rwp A ++ X :: rwp C).drop (i + 1) = rwp A ++ Y :: rwp C := by
  subst h
  have hl : (rwp A).length = A.length := rwp_len
  rw [← hl, List.take_left, List.drop_append]
  simp

theorem DJ_out {X Y : List (Nat × List Int)} {b : Nat × List Int} (h : DJ (X ++ b :: Y)) (hb : b.2 ≠ []) : ∀ p ∈ X ++ Y, p.2 = [] ∨ p.1 ≠ b.1 := by
  intro p hp
  rcases (List.pairwise_cons.1 (DJ_perm List.perm_middle h)).1 p hp with e | e | e
  · exact absurd e hb
  · exact .inl e
  · exact .inr (Ne.symm e)
theorem DJ_in {X Y : List (Nat × List Int)} {b : Nat × List Int} {u : Nat} {r : List Int} (h : DJ (X ++ b :: Y)) (hu : ∀ p ∈ X ++ Y, p.2 = [] ∨ p.1 ≠ u) : DJ (X ++ (u, r) :: Y) :=
  DJ_perm List.perm_middle.symm (List.pairwise_cons.2 ⟨fun p hp => by
    rcases hu p hp with e | e
    · exact .inr (.inl e)
    · exact .inr (.inr (Ne.symm e)), (List.pairwise_cons.1 (DJ_perm List.perm_middle h)).2⟩)
theorem rwp_get {A C : List (Nat × List Int)} {b : Nat × List Int} {i : Nat} (h : i = A.length) : (rwp (A ++ b :: C))[i]? = some (.ro (some (some (b.1 + 1))) 1 (ints b.2)) := by
  subst h
  rw [rwp, List.map_append, List.getElem?_append_right (by simp)]
  simp
theorem own_get {A C : List (Nat × List Int)} {X : AVal} {i : Nat} (h : i = A.length) : (rwp A ++ X :: rwp C)[i]? = some X := by
  subst h
  rw [List.getElem?_append_right (by rw [rwp_len]; exact Nat.le_refl _), rwp_len]; simp

theorem rwp_at {A C : List (Nat × List Int)} {b : Nat × List Int} {i : Nat} (h : i = A.length) : (rwp (A ++ b :: C)).getD i .any = .ro (some (some (b.1 + 1))) 1 (ints b.2) := by
  subst h
  rw [List.getD_eq_getElem?_getD, rwp, List.map_append, List.getElem?_append_right (by simp)]
  simp
theorem rwp_cat {A C : List (Nat × List Int)} {u : Nat} {xs : List Int} : rwp A ++ (.ro (some (some (u + 1))) 1 (ints xs)) :: rwp C = rwp (A ++ (u, xs) :: C) := by simp [rwp]

theorem callHp_mrr {hp : Nat → AObj} {r d : Nat} {s : Nat → Nat} {o o1 o2 : AObj} (hne : d ≠ r) (hne2 : d + 1000 ≠ r) :
    callHp hp [r] d s [o] [o1, o2] = upd (upd (upd hp r (o.ren (rid [r] d 2) (sv hp [r] s))) d (o1.ren (rid [r] d 2) (sv hp [r] s))) (d + 1000) (o2.ren (rid [r] d 2) (sv hp [r] s)) := by
  have hnew : ∀ i, i < [o1, o2].length → newId d i ∉ [r] := by
    intro i hi
    have : i = 0 ∨ i = 1 := by simp at hi; omega
    rcases this with rfl | rfl
    · simpa [newId] using hne
    · simpa [newId] using hne2
  funext n
  by_cases h : n = d + 1000
  · have h1 : rid [r] d [o1, o2].length 6001 = some n := by rw [h]; exact rid1
    rw [callHp_at (by simp) hnew h1]
    simp [upd, h, outHp]
  · by_cases h2 : n = d
    · have h1 : rid [r] d [o1, o2].length 6000 = some n := by rw [h2]; exact rid0
      rw [callHp_at (by simp) hnew h1]
      have hne3 : d ≠ d + 1000 := by omega
      simp [upd, h2, outHp, hne3]
    · by_cases h' : n = r
      · have h1 : rid [r] d [o1, o2].length 5000 = some n := by rw [h']; exact rid_m (j := 0) (by omega) rfl
        rw [callHp_at (by simp) hnew h1]
        simp [upd, h', outHp, Ne.symm hne, Ne.symm hne2]
      · rw [callHp_not]
        · simp [upd, h, h2, h']
        · rintro ⟨q, hq⟩
          rcases rid_cases hq with ⟨j, rfl, _, h1⟩ | ⟨i, rfl, h1, h3⟩
          · cases j with
            | zero => simp at h1; exact h' h1.symm
            | succ j => simp at h1
          · have : i = 0 ∨ i = 1 := by simp at h1; omega
            rcases this with rfl | rfl
            · exact h2 (by simpa [newId] using h3)
            · exact h (by simpa [newId] using h3)
theorem sv_inj {hp : Nat → AObj} {r v : Nat} {s : Nat → Nat} {cs : List AVal} (hr : hp r = .box v cs) (hs : ∀ x y, s x = s y → x = y) (hv : ∀ y, s y ≠ v) : ∀ x y, sv hp [r] s x = sv hp [r] s y → x = y := by
  intro x y e
  rcases Nat.eq_zero_or_pos x with rfl | hx <;> rcases Nat.eq_zero_or_pos y with rfl | hy
  · rfl
  · rw [sv_m hr, sv_new hy] at e; exact absurd e.symm (hv y)
  · rw [sv_new hx, sv_m hr] at e; exact absurd e (hv x)
  · rw [sv_new hx, sv_new hy] at e; exact hs _ _ e

/-- What is so of the rows while states are doubled. -/
structure TwI (n m : Int) (A B : List (Nat × List Int)) (top : Int) (low : Int) : Prop where
  a : ∀ p ∈ A, (p.2.length : Int) = m ∧ ∀ x ∈ p.2, 0 ≤ x ∧ x < top
  b : ∀ p ∈ B, (p.2.length : Int) = n ∧ ∀ x ∈ p.2, 0 ≤ x ∧ x < low

theorem k_l06Twin (code : List Int) (at_ seed : Int) (hb : ∀ x ∈ code, 0 ≤ x ∧ x ≤ 255) (ha : 0 ≤ at_ ∧ at_ ≤ 1000000) :
    Con Try.prog n_spec_l06Twin [.box 0 (srcC code at_ seed)] [.ptr 5000 0 0] true fun outs rows res =>
      ∃ n o ps qs v w a' s', Mach n o (ps.map (·.2)) (qs.map (·.2)) ∧ n ≤ 5 ∧ at_ ≤ a' ∧ a' ≤ at_ + 2000 ∧ outs = [.box 0 (srcC code a' s')] ∧ rows = [.row v 1 true (rwp ps), .row w 1 true (rwp qs)] ∧ res = .st [iv n, iv o, .own 6000 v, .own 6001 w] := by
  refine con_sh mixed c_spec_l06Twin rfl (by simp) ?_
  generalize hQ : finQ _ = Q
  simp only [A_spec_l06Twin, B_spec_l06Twin_1, wpD_kp, wpD_regi, go_sem, adopt_fun, Int.reduceLT, Int.reduceLE, Int.reduceToNat, Int.reduceNeg, Nat.reduceLT, Nat.reduceLeDiff, Nat.reduceMul, Nat.reduceSub, reduceIte, Nat.reduceEqDiff, Nat.reduceAdd, reduceCtorEq]
  intro vs0 U0 hN0 vs1 U1 hN1
  refine call_con (r := 5000) (k_l06Draw code at_ seed 4 hb ha (by omega)) rfl (by simp only [Bool.not_true, rowIs, boxIs, coe_argN, coe_argNs, coe_ro_o, coeL_nil, coeL_cons, coe_any, coe_val, coe_ro, coe_ro_nil, coe_ro_own, coe_st, coe_st_agg, coe_rp, coe_rp_ptr, coe_clo, coe_own0, coe_ptr0, coeL_intsK, coeL_rws, coeL_rwn, L_hit, L_miss, L_nil, Nat.reduceEqDiff, ne_eq, reduceCtorEq, not_false_eq_true, true_and, and_true, and_self, exists_eq_left, exists_eq_right, List.mem_cons, List.not_mem_nil, or_false, AObj.row.injEq, AObj.box.injEq, exists_eq_left', exists_and_left, exists_eq, Nat.zero_lt_one, Nat.lt_add_one, List.map_cons, List.map_nil, AObj.ver, Nat.reduceLT, not_true_eq_false]) (by simp only [Bool.not_true, rowIs, boxIs, coe_argN, coe_argNs, coe_ro_o, coeL_nil, coeL_cons, coe_any, coe_val, coe_ro, coe_ro_nil, coe_ro_own, coe_st, coe_st_agg, coe_rp, coe_rp_ptr, coe_clo, coe_own0, coe_ptr0, coeL_intsK, coeL_rws, coeL_rwn, L_hit, L_miss, L_nil, Nat.reduceEqDiff, ne_eq, reduceCtorEq, not_false_eq_true, true_and, and_true, and_self, exists_eq_left, exists_eq_right, List.mem_cons, List.not_mem_nil, or_false, AObj.row.injEq, AObj.box.injEq, exists_eq_left', exists_and_left, exists_eq, Nat.zero_lt_one, Nat.lt_add_one, List.map_cons, List.map_nil, AObj.ver, Nat.reduceLT, not_true_eq_false]) ?_
  rintro outs rows res ⟨n, o, ps, qs, v, w, a', s', M, hn4, hd, ha1, ha2, rfl, rfl, rfl⟩
  refine ⟨rfl, by simp, by intro i hi; simp only [List.length_cons, List.length_nil] at hi; rcases (show i = 0 ∨ i = 1 by omega) with rfl | rfl <;> simp [newId, L], ?_⟩
  rw [Option.getD_some, callHp_mrr (by omega) (by omega)]
  have hv0 : ∀ y, vs1 1 y ≠ 0 := fun y e => by
    have h := hN1.hp 5000
    simp only [AObj.uses, go_sem, adopt_fun, Int.reduceLT, Int.reduceLE, Int.reduceToNat, Int.reduceNeg, Nat.reduceLT, Nat.reduceLeDiff, Nat.reduceMul, Nat.reduceSub, reduceIte, Nat.reduceEqDiff, Nat.reduceAdd, reduceCtorEq] at h
    exact hN1.new 1 y (by rw [e]; exact h.1)
  have hsi := sv_inj (hp := L .gone [(2, .box (vs0 0 0) [iv 0, iv 0, nilS, nilS]), (3, .gone), (8, .gone), (37, .gone), (56, .gone), (1008, .gone), (5000, .box 0 (srcC code at_ seed)), (901, .gone)]) (r := 5000) rfl (fun x y e => (hN1.inj _ _ _ _ e).2) hv0
  have hs0 : sv (L .gone [(2, .box (vs0 0 0) [iv 0, iv 0, nilS, nilS]), (3, .gone), (8, .gone), (37, .gone), (56, .gone), (1008, .gone), (5000, .box 0 (srcC code at_ seed)), (901, .gone)]) [5000] (vs1 1) 0 = 0 := sv_m rfl
  have hd2 := hd.ren hsi
  rw [List.map_append] at hd2
  have M2 : Mach n o ((ps.map fun p => (sv (L .gone [(2, .box (vs0 0 0) [iv 0, iv 0, nilS, nilS]), (3, .gone), (8, .gone), (37, .gone), (56, .gone), (1008, .gone), (5000, .box 0 (srcC code at_ seed)), (901, .gone)]) [5000] (vs1 1) p.1, p.2)).map (·.2)) ((qs.map fun p => (sv (L .gone [(2, .box (vs0 0 0) [iv 0, iv 0, nilS, nilS]), (3, .gone), (8, .gone), (37, .gone), (56, .gone), (1008, .gone), (5000, .box 0 (srcC code at_ seed)), (901, .gone)]) [5000] (vs1 1) p.1, p.2)).map (·.2)) := by
    rw [List.map_map, List.map_map]; exact M
  simp only [renL_rwp, Nat.not_lt_zero, range1, ren_val, ren_any, ren_ro, rnNm_n, rnNm_sn, rnNm_o, rnNm_s, ren_st, ren_tup, renL_nil, renL_cons, renL_intsK, renL_rws, renL_rwn, oren_box, oren_row, oren_map, ren_own_e0, ren_own_e1, ren_own_e2, ren_ptr_e0, ren_mp_e0, ren_mp_e1, ren_own_r0, ren_own_r1, ren_own_r2, ren_ptr_r0, ren_mp_r0, ren_mp_r1, List.range_zero, callHp_nil, callHp_one, callHp_two, gone_nil, gone_one, gone_two, AVal.fresh, freshL, fresh_intsK, fresh_rws, AObj.fresh, id, Option.isSome_some, or_true, true_or, go_sem, adopt_fun, Int.reduceLT, Int.reduceLE, Int.reduceToNat, Int.reduceNeg, Nat.reduceLT, Nat.reduceLeDiff, Nat.reduceMul, Nat.reduceSub, reduceIte, Nat.reduceEqDiff, Nat.reduceAdd, reduceCtorEq]
  generalize sv (L .gone [(2, .box (vs0 0 0) [iv 0, iv 0, nilS, nilS]), (3, .gone), (8, .gone), (37, .gone), (56, .gone), (1008, .gone), (5000, .box 0 (srcC code at_ seed)), (901, .gone)]) [5000] (vs1 1) = sg at hsi hs0 hd2 M2 ⊢
  rw [hs0]
  generalize (ps.map fun p => (sg p.1, p.2)) = ps2 at hd2 M2 ⊢
  generalize (qs.map fun p => (sg p.1, p.2)) = qs2 at hd2 M2 ⊢
  generalize sg v = v8
  generalize sg w = v1008
  clear hsi hd M hs0
  have n1 := M2.aut.n1
  simp only [B_spec_l06Twin_2, wpD_kp, wpD_regi, go_sem, adopt_fun, Int.reduceLT, Int.reduceLE, Int.reduceToNat, Int.reduceNeg, Nat.reduceLT, Nat.reduceLeDiff, Nat.reduceMul, Nat.reduceSub, reduceIte, Nat.reduceEqDiff, Nat.reduceAdd, reduceCtorEq]
  intro vs2 U2 hN2
  refine call_funB (k_pick code a' s' n hb (by omega)) rfl qCS qCS ?_
  rintro cs' x ⟨a2, s2, at0, rfl, f1, f2, rfl, f3, f4⟩
  have f5 : at0 < n := by omega
  simp only [B_spec_l06Twin_3, wpD_kp, wpD_regi, go_sem, adopt_fun, Int.reduceLT, Int.reduceLE, Int.reduceToNat, Int.reduceNeg, Nat.reduceLT, Nat.reduceLeDiff, Nat.reduceMul, Nat.reduceSub, reduceIte, Nat.reduceEqDiff, Nat.reduceAdd, reduceCtorEq]
  intro vs3 U3 hN3
  have hl3 := M2.aut.l2
  have hlen := M2.len
  have hr1 := M2.aut.row
  have hr2 := M2.row
  have o1 := M2.o1
  have o2 := M2.o2
  have hl1 := M2.aut.l1
  rw [List.length_map] at hl3 hl1
  rw [List.length_map, List.length_map] at hlen
  simp only [B_spec_l06Twin_4, wpD_kp, wpD_regi, go_sem, adopt_fun, Int.reduceLT, Int.reduceLE, Int.reduceToNat, Int.reduceNeg, Nat.reduceLT, Nat.reduceLeDiff, Nat.reduceMul, Nat.reduceSub, reduceIte, Nat.reduceEqDiff, Nat.reduceAdd, reduceCtorEq]
  refine wpD_lp (fun (_, _, _, _, _, _, B, _, _) => List.length B)
    (fun (_, _, _, a, _, A, B, A2, B2) => a2 ≤ a ∧ a ≤ a2 + 20 * List.length A ∧ List.length A + List.length B = ps2.length ∧ List.length A2 = List.length A ∧ List.length B2 = List.length B ∧ DJ ((A ++ B) ++ (A2 ++ B2)) ∧ TwI n (n + 1) A B (n + 1) n ∧ TwI n (n + 1) A2 B2 o o)
    (fun ((v3, v8, v1008, a, s, A, B, A2, B2) : Nat × Nat × Nat × Int × Int × List (Nat × List Int) × List (Nat × List Int) × List (Nat × List Int) × List (Nat × List Int)) =>
      ⟨L .any [(0, .ptr 5000 0 0), (2, .ptr 2 (vs0 0 0) 0), (3, .ptr 3 v3 0), (4, iv at0), (5, iv A.length)],
       L .gone [(2, .box (vs0 0 0) [iv 0, iv 0, nilS, nilS]), (3, .box v3 [iv n, iv o, .own 8 v8, .own 1008 v1008]), (8, .row v8 1 true (rwp (A ++ B))), (37, .gone), (56, .gone), (1008, .row v1008 1 true (rwp (A2 ++ B2))), (5000, .box 0 (srcC code a s)), (901, .gone)]⟩)
    (vs1 2 0, v8, v1008, a2, s2, [], ps2, [], qs2) ⟨by omega, by simp, by simp, rfl, by omega, by simpa using hd2, ⟨by simp, fun p hp => hr1 _ (List.mem_map_of_mem hp)⟩, ⟨by simp, fun p hp => hr2 _ (List.mem_map_of_mem hp)⟩⟩ (by simp only [B_spec_l06Twin_5, List.nil_append, go_sem, adopt_fun, Int.reduceLT, Int.reduceLE, Int.reduceToNat, Int.reduceNeg, Nat.reduceLT, Nat.reduceLeDiff, Nat.reduceMul, Nat.reduceSub, reduceIte, Nat.reduceEqDiff, Nat.reduceAdd, reduceCtorEq]; try rfl) ?_
  rintro ⟨v3, v8, v1008, a, s, A, B, A2, B2⟩ ⟨j1, j2, j3, j4, j5, j6, j7, j8⟩
  have j1 : a2 ≤ a := j1
  have j2 : a ≤ a2 + 20 * A.length := j2
  have j3 : A.length + B.length = ps2.length := j3
  have j4 : A2.length = A.length := j4
  have j5 : B2.length = B.length := j5
  have hll : (rwp (A ++ B)).length = A.length + B.length := by rw [rwp_len, List.length_append]
  cases B with
  | nil =>
    have hB2 : B2 = [] := by simpa using j5
    subst hB2
    have hlt : ¬ ((A.length : Int) < ((rwp A).length : Int)) := by rw [rwp_len]; omega
    have wn : IntKind.i64.wrap (n + 1) = n + 1 := w64 (by omega)
    simp only [B_spec_l06Twin_5, B_spec_l06Twin_6, B_spec_l06Twin_17, decide_eq_false hlt, wpD_kp, wpD_regi, go_sem, adopt_fun, Int.reduceLT, Int.reduceLE, Int.reduceToNat, Int.reduceNeg, Nat.reduceLT, Nat.reduceLeDiff, Nat.reduceMul, Nat.reduceSub, reduceIte, Nat.reduceEqDiff, Nat.reduceAdd, reduceCtorEq]
    intro vs4 U4 hN4 hM vs5 U5 hN5
    simp only [B_spec_l06Twin_18, wn, List.append_nil, wpD_kp, wpD_regi, go_sem, adopt_fun, Int.reduceLT, Int.reduceLE, Int.reduceToNat, Int.reduceNeg, Nat.reduceLT, Nat.reduceLeDiff, Nat.reduceMul, Nat.reduceSub, reduceIte, Nat.reduceEqDiff, Nat.reduceAdd, reduceCtorEq]
    intro vs6 U6 hN6
    simp only [← hQ, A_spec_l06Twin, go_sem, adopt_fun, Int.reduceLT, Int.reduceLE, Int.reduceToNat, Int.reduceNeg, Nat.reduceLT, Nat.reduceLeDiff, Nat.reduceMul, Nat.reduceSub, reduceIte, Nat.reduceEqDiff, Nat.reduceAdd, reduceCtorEq]
    refine ⟨[8, 1008], by simp, by simp, by simp, ?_⟩
    simp only [range1, List.length_singleton, renL_rwp, Nat.not_lt_zero, range1, ren_val, ren_any, ren_ro, rnNm_n, rnNm_sn, rnNm_o, rnNm_s, ren_st, ren_tup, renL_nil, renL_cons, renL_intsK, renL_rws, renL_rwn, oren_box, oren_row, oren_map, ren_own_e0, ren_own_e1, ren_own_e2, ren_ptr_e0, ren_mp_e0, ren_mp_e1, ren_own_r0, ren_own_r1, ren_own_r2, ren_ptr_r0, ren_mp_r0, ren_mp_r1, List.range_zero, callHp_nil, callHp_one, callHp_two, gone_nil, gone_one, gone_two, AVal.fresh, freshL, fresh_intsK, fresh_rws, AObj.fresh, id, Option.isSome_some, or_true, true_or, go_sem, adopt_fun, Int.reduceLT, Int.reduceLE, Int.reduceToNat, Int.reduceNeg, Nat.reduceLT, Nat.reduceLeDiff, Nat.reduceMul, Nat.reduceSub, reduceIte, Nat.reduceEqDiff, Nat.reduceAdd, reduceCtorEq]
    have j3 : A.length = ps2.length := by simpa using j3
    refine ⟨n + 1, o, A, A2, v8, v1008, a, s, ⟨⟨by omega, by omega, by rw [List.length_map]; omega, by rw [List.length_map]; omega, fun row hr => by obtain ⟨p, hp, rfl⟩ := List.mem_map.1 hr; exact j7.a p hp⟩, o1, o2, by rw [List.length_map, List.length_map]; exact j4, fun row hr => by obtain ⟨p, hp, rfl⟩ := List.mem_map.1 hr; exact j8.a p hp⟩, by omega, by omega, by omega, rfl, by simp, rfl⟩
  | cons b C =>
    cases B2 with
    | nil => simp at j5
    | cons b2 C2 =>
      have hlt : (A.length : Int) < ((rwp (A ++ b :: C)).length : Int) := by rw [hll]; simp; omega
      have hlt1 : A.length < (rwp (A ++ b :: C)).length := by omega
      have hlt2 : A.length < (rwp (A2 ++ b2 :: C2)).length := by rw [rwp_len, List.length_append, j4]; simp
      have hbl := j7.b b (by simp)
      have hbl2 := j8.b b2 (by simp)
      have hat : at0.toNat < b.2.length := by omega
      have hat2 : at0.toNat < b2.2.length := by omega
      have w5 : IntKind.i64.wrap ((A.length : Int) + 1) = ((A.length + 1 : Nat) : Int) := by rw [w64 (by omega)]; simp
      have g1 : (rwp (A ++ b :: C)).getD A.length .any = .ro (some (some (b.1 + 1))) 1 (ints b.2) := rwp_at rfl
      have g2 : (rwp (A2 ++ b2 :: C2)).getD A.length .any = .ro (some (some (b2.1 + 1))) 1 (ints b2.2) := rwp_at j4.symm
      have hbn : b.2 ≠ [] := fun e => by rw [e] at hbl; simp at hbl; omega
      have hbn2 : b2.2 ≠ [] := fun e => by rw [e] at hbl2; simp at hbl2; omega
      have D0 : DJ (A ++ b :: (C ++ (A2 ++ b2 :: C2))) := by have h : DJ ((A ++ b :: C) ++ (A2 ++ b2 :: C2)) := j6; rwa [List.append_assoc, List.cons_append] at h
      have F0 := DJ_out D0 hbn
      have F0a : ∀ p ∈ A ++ C, p.2 = [] ∨ p.1 ≠ b.1 := fun p hp => F0 p (by simp only [List.mem_append, List.mem_cons] at hp ⊢; rcases hp with h | h <;> simp [h])
      have F0b : ∀ p ∈ A2 ++ b2 :: C2, p.2 = [] ∨ p.1 ≠ b.1 := fun p hp => F0 p (by simp only [List.mem_append] at hp ⊢; exact .inr (.inr hp))
      simp only [B_spec_l06Twin_5, B_spec_l06Twin_6, decide_eq_true hlt, wpD_kp, wpD_regi, go_sem, adopt_fun, Int.reduceLT, Int.reduceLE, Int.reduceToNat, Int.reduceNeg, Nat.reduceLT, Nat.reduceLeDiff, Nat.reduceMul, Nat.reduceSub, reduceIte, Nat.reduceEqDiff, Nat.reduceAdd, reduceCtorEq]
      intro vs4 U4 hN4 hM
      simp only [B_spec_l06Twin_7, wpD_kp, wpD_gh, go_sem, adopt_fun, Int.reduceLT, Int.reduceLE, Int.reduceToNat, Int.reduceNeg, Nat.reduceLT, Nat.reduceLeDiff, Nat.reduceMul, Nat.reduceSub, reduceIte, Nat.reduceEqDiff, Nat.reduceAdd, reduceCtorEq]
      intro _
      refine ⟨[.thaw 8 A.length 901], gwp_thaw (n := b.1) rfl (rwp_get rfl) (by simpa using hbn) rfl fun m7 => ?_⟩
      have hx0 := hbl.2 _ (getD_mem hat 0)
      have hx2 := hbl2.2 _ (getD_mem hat2 0)
      have ho1 : (rwp A ++ .own 901 m7 :: rwp C).getD A.length .any = .own 901 m7 := own_at rfl
      have hol : (rwp A ++ AVal.own 901 m7 :: rwp C).length = A.length + (C.length + 1) := by rw [List.length_append, List.length_cons, rwp_len, rwp_len]
      simp only [woL_set F0a, woL_rwp F0b, woT, woO, woL_cons, woL_nil, woV_val, woV_own, wo_ptr, wo_o, woL_ints, wo_st, woO_row, woO_box, woO_gone, wo_any, gwp_nil, wpD_kp, wpD_regi, go_sem, adopt_fun, Int.reduceLT, Int.reduceLE, Int.reduceToNat, Int.reduceNeg, Nat.reduceLT, Nat.reduceLeDiff, Nat.reduceMul, Nat.reduceSub, reduceIte, Nat.reduceEqDiff, Nat.reduceAdd, reduceCtorEq]
      intro vs5 U5 hN5
      simp only [ho1, intsK_getD hat, own_put rfl, go_sem, adopt_fun, Int.reduceLT, Int.reduceLE, Int.reduceToNat, Int.reduceNeg, Nat.reduceLT, Nat.reduceLeDiff, Nat.reduceMul, Nat.reduceSub, reduceIte, Nat.reduceEqDiff, Nat.reduceAdd, reduceCtorEq]
      have hAl : A.length < (rwp A ++ AVal.own 901 m7 :: rwp C).length := by omega
      refine ⟨⟨by omega, hAl⟩, hAl, ⟨by omega, hAl⟩, hAl, ⟨f3, hat⟩, hat, ⟨_, rfl, rfl⟩, by omega, ⟨by omega, hAl⟩, by omega, ?_⟩
      have hU8 := hN5.hp 8
      have hU18 := hN5.hp 1008
      simp only [AObj.uses, go_sem, adopt_fun, Int.reduceLT, Int.reduceLE, Int.reduceToNat, Int.reduceNeg, Nat.reduceLT, Nat.reduceLeDiff, Nat.reduceMul, Nat.reduceSub, reduceIte, Nat.reduceEqDiff, Nat.reduceAdd, reduceCtorEq] at hU8 hU18
      have hold8 := usesL_rwp2 hU8.2
      have hold18 := usesL_rwp (rest := []) (by rw [List.append_nil]; exact hU18.2)
      have hnew1 : ∀ p ∈ A ++ (C ++ (A2 ++ b2 :: C2)), p.2 = [] ∨ p.1 ≠ vs5 17 0 := fun p hp => by
        have : p.2 = [] ∨ U5 p.1 := by
          rw [← List.append_assoc] at hp
          rcases List.mem_append.1 hp with h | h
          · exact hold8 p h
          · exact hold18 p h
        rcases this with h | h
        · exact .inl h
        · exact .inr fun e => hN5.new 17 0 (e ▸ h)
      have D1 := DJ_in (r := b.2 ++ [b.2.getD at0.toNat 0]) D0 hnew1
      have D1' : DJ ((A ++ (vs5 17 0, b.2 ++ [b.2.getD at0.toNat 0]) :: C ++ A2) ++ b2 :: C2) := by
        have e : A ++ (vs5 17 0, b.2 ++ [b.2.getD at0.toNat 0]) :: (C ++ (A2 ++ b2 :: C2)) = (A ++ (vs5 17 0, b.2 ++ [b.2.getD at0.toNat 0]) :: C ++ A2) ++ b2 :: C2 := by simp
        rw [← e]; exact D1
      have F1 := DJ_out D1' hbn2
      have F1a : ∀ p ∈ A ++ (vs5 17 0, b.2 ++ [b.2.getD at0.toNat 0]) :: C, p.2 = [] ∨ p.1 ≠ b2.1 := fun p hp => F1 p (by rw [List.append_assoc]; exact List.mem_append.2 (.inl hp))
      have F1b : ∀ p ∈ A2 ++ C2, p.2 = [] ∨ p.1 ≠ b2.1 := fun p hp => F1 p (by rw [List.append_assoc]; exact List.mem_append.2 (.inr hp))
      generalize hr1e : b.2 ++ [b.2.getD at0.toNat 0] = r1 at D1 D1' F1a ⊢
      generalize vs5 17 0 = u1 at D1 D1' F1a ⊢
      have hA2l : A.length = A2.length := j4.symm
      simp only [B_spec_l06Twin_8, rwp_cat, wpD_kp, wpD_gh, go_sem, adopt_fun, Int.reduceLT, Int.reduceLE, Int.reduceToNat, Int.reduceNeg, Nat.reduceLT, Nat.reduceLeDiff, Nat.reduceMul, Nat.reduceSub, reduceIte, Nat.reduceEqDiff, Nat.reduceAdd, reduceCtorEq]
      intro _
      refine ⟨[.thaw 1008 A.length 901], gwp_thaw (n := b2.1) rfl (rwp_get hA2l) (by simpa using hbn2) rfl fun m8 => ?_⟩
      have ho2 : (rwp A2 ++ AVal.own 901 m8 :: rwp C2).getD A.length .any = .own 901 m8 := own_at hA2l
      have hol2 : (rwp A2 ++ AVal.own 901 m8 :: rwp C2).length = A.length + (C2.length + 1) := by rw [List.length_append, List.length_cons, rwp_len, rwp_len, j4]
      have hset2 : (woL b2.1 (rwp (A2 ++ b2 :: C2))).set A.length (AVal.own 901 m8) = rwp A2 ++ AVal.own 901 m8 :: rwp C2 := by rw [hA2l]; exact woL_set F1b
      simp only [hset2, woL_rwp F1a, woT, woO, woL_cons, woL_nil, woV_val, woV_own, wo_ptr, wo_o, woL_ints, wo_st, woO_row, woO_box, woO_gone, wo_any, gwp_nil, wpD_kp, wpD_regi, go_sem, adopt_fun, Int.reduceLT, Int.reduceLE, Int.reduceToNat, Int.reduceNeg, Nat.reduceLT, Nat.reduceLeDiff, Nat.reduceMul, Nat.reduceSub, reduceIte, Nat.reduceEqDiff, Nat.reduceAdd, reduceCtorEq]
      intro vs6 U6 hN6
      simp only [ho2, intsK_getD hat2, own_put hA2l, go_sem, adopt_fun, Int.reduceLT, Int.reduceLE, Int.reduceToNat, Int.reduceNeg, Nat.reduceLT, Nat.reduceLeDiff, Nat.reduceMul, Nat.reduceSub, reduceIte, Nat.reduceEqDiff, Nat.reduceAdd, reduceCtorEq]
      have hAl2 : A.length < (rwp A2 ++ AVal.own 901 m8 :: rwp C2).length := by omega
      refine ⟨⟨by omega, hAl2⟩, hAl2, ⟨by omega, hAl2⟩, hAl2, ⟨f3, hat2⟩, hat2, ⟨_, rfl, rfl⟩, by omega, ⟨by omega, hAl2⟩, by omega, ?_⟩
      have hU8 := hN6.hp 8
      have hU18 := hN6.hp 1008
      simp only [AObj.uses, go_sem, adopt_fun, Int.reduceLT, Int.reduceLE, Int.reduceToNat, Int.reduceNeg, Nat.reduceLT, Nat.reduceLeDiff, Nat.reduceMul, Nat.reduceSub, reduceIte, Nat.reduceEqDiff, Nat.reduceAdd, reduceCtorEq] at hU8 hU18
      have hold8 := usesL_rwp (rest := []) (by rw [List.append_nil]; exact hU8.2)
      have hold18 := usesL_rwp2 hU18.2
      have hnew2 : ∀ p ∈ (A ++ (u1, r1) :: C ++ A2) ++ C2, p.2 = [] ∨ p.1 ≠ vs6 17 0 := fun p hp => by
        have : p.2 = [] ∨ U6 p.1 := by
          rw [List.append_assoc] at hp
          rcases List.mem_append.1 hp with h | h
          · exact hold8 p h
          · exact hold18 p h
        rcases this with h | h
        · exact .inl h
        · exact .inr fun e => hN6.new 17 0 (e ▸ h)
      have D2 := DJ_in (r := b2.2 ++ [b2.2.getD at0.toNat 0]) D1' hnew2
      generalize hr2e : b2.2 ++ [b2.2.getD at0.toNat 0] = r2 at D2 ⊢
      generalize vs6 17 0 = u2 at D2 ⊢
      have D2' : DJ (A ++ (u1, r1) :: (C ++ (A2 ++ (u2, r2) :: C2))) := by
        have e : A ++ (u1, r1) :: (C ++ (A2 ++ (u2, r2) :: C2)) = (A ++ (u1, r1) :: C ++ A2) ++ (u2, r2) :: C2 := by simp
        rw [e]; exact D2
      have hr1l : (r1.length : Int) = n + 1 := by rw [← hr1e, List.length_append]; simp; omega
      have hr1m : ∀ x ∈ r1, 0 ≤ x ∧ x < n + 1 := fun x hx => by
        rw [← hr1e] at hx
        rcases List.mem_append.1 hx with h | h
        · have := hbl.2 x h; omega
        · rw [List.mem_singleton.1 h]; omega
      have hr2l : (r2.length : Int) = n + 1 := by rw [← hr2e, List.length_append]; simp; omega
      have hr2m : ∀ x ∈ r2, 0 ≤ x ∧ x < o := fun x hx => by
        rw [← hr2e] at hx
        rcases List.mem_append.1 hx with h | h
        · exact hbl2.2 x h
        · rw [List.mem_singleton.1 h]; exact hx2
      clear hr1e hr2e
      have hr1n : r1 ≠ [] := fun e => by rw [e] at hr1l; simp at hr1l; omega
      have F2 := DJ_out D2' hr1n
      have F2a : ∀ p ∈ A ++ C, p.2 = [] ∨ p.1 ≠ u1 := fun p hp => F2 p (by simp only [List.mem_append] at hp ⊢; rcases hp with h | h <;> simp [h])
      have F2b : ∀ p ∈ A2 ++ (u2, r2) :: C2, p.2 = [] ∨ p.1 ≠ u1 := fun p hp => F2 p (by simp only [List.mem_append] at hp ⊢; exact .inr (.inr hp))
      simp only [B_spec_l06Twin_9, rwp_cat, wpD_kp, wpD_gh, go_sem, adopt_fun, Int.reduceLT, Int.reduceLE, Int.reduceToNat, Int.reduceNeg, Nat.reduceLT, Nat.reduceLeDiff, Nat.reduceMul, Nat.reduceSub, reduceIte, Nat.reduceEqDiff, Nat.reduceAdd, reduceCtorEq]
      intro _
      refine ⟨[.thaw 8 A.length 901], gwp_thaw (n := u1) rfl (rwp_get (b := (u1, r1)) rfl) (by simpa using hr1n) rfl fun m9 => ?_⟩
      have hset3 : (woL u1 (rwp (A ++ (u1, r1) :: C))).set A.length (AVal.own 901 m9) = rwp A ++ AVal.own 901 m9 :: rwp C := woL_set (b := (u1, r1)) F2a
      simp only [hset3, woL_rwp F2b, woT, woO, woL_cons, woL_nil, woV_val, woV_own, wo_ptr, wo_o, woL_ints, wo_st, woO_row, woO_box, woO_gone, wo_any, gwp_nil, wpD_kp, wpD_regi, go_sem, adopt_fun, Int.reduceLT, Int.reduceLE, Int.reduceToNat, Int.reduceNeg, Nat.reduceLT, Nat.reduceLeDiff, Nat.reduceMul, Nat.reduceSub, reduceIte, Nat.reduceEqDiff, Nat.reduceAdd, reduceCtorEq]
      intro vs7 U7 hN7
      simp only [B_spec_l06Twin_10, wpD_kp, wpD_regi, go_sem, adopt_fun, Int.reduceLT, Int.reduceLE, Int.reduceToNat, Int.reduceNeg, Nat.reduceLT, Nat.reduceLeDiff, Nat.reduceMul, Nat.reduceSub, reduceIte, Nat.reduceEqDiff, Nat.reduceAdd, reduceCtorEq]
      have hsA : A.length < 4 := by simp at j3; omega
      refine wpD_lp (fun (_, _, _, _, x) => r1.length - x) (fun (a', _, _, cur, x) => a ≤ a' ∧ a' ≤ a + 2 * x ∧ x ≤ r1.length ∧ List.length cur = r1.length ∧ ∀ y ∈ cur, 0 ≤ y ∧ y < n + 1)
        (fun ((a, s, m, cur, x) : Int × Int × Nat × List Int × Nat) =>
          ⟨L .any [(0, .ptr 5000 0 0), (2, .ptr 2 (vs0 0 0) 0), (3, .ptr 3 v3 0), (4, iv at0), (5, iv A.length), (6, iv x)],
           L .gone [(2, .box (vs0 0 0) [iv 0, iv 0, nilS, nilS]), (3, .box v3 [iv n, iv o, .own 8 v8, .own 1008 v1008]), (8, .row v8 1 true (rwp A ++ .own 901 m :: rwp C)), (37, .gone), (56, .gone), (1008, .row v1008 1 true (rwp (A2 ++ (u2, r2) :: C2))), (5000, .box 0 (srcC code a s)), (901, .row m 1 true (ints cur))]⟩)
        (a, s, m9, r1, 0) ⟨by omega, by simp, by omega, rfl, hr1m⟩ (by simp only [B_spec_l06Twin_11, go_sem, adopt_fun, Int.reduceLT, Int.reduceLE, Int.reduceToNat, Int.reduceNeg, Nat.reduceLT, Nat.reduceLeDiff, Nat.reduceMul, Nat.reduceSub, reduceIte, Nat.reduceEqDiff, Nat.reduceAdd, reduceCtorEq]; try rfl) ?_
      rintro ⟨a', s', m, cur, x⟩ ⟨e1, e2, e3, e4, e5⟩
      have e1 : a ≤ a' := e1
      have e2 : a' ≤ a + 2 * x := e2
      have e3 : x ≤ r1.length := e3
      have e4 : cur.length = r1.length := e4
      have hoc : (rwp A ++ AVal.own 901 m :: rwp C).getD A.length .any = .own 901 m := own_at rfl
      have holc : (rwp A ++ AVal.own 901 m :: rwp C).length = A.length + (C.length + 1) := by rw [List.length_append, List.length_cons, rwp_len, rwp_len]
      have hAlc : A.length < (rwp A ++ AVal.own 901 m :: rwp C).length := by omega
      by_cases hxl : (x : Int) < cur.length
      · have hx1 : x < cur.length := by omega
        have w6 : IntKind.i64.wrap ((x : Int) + 1) = ((x + 1 : Nat) : Int) := by rw [w64 (by omega)]; simp
        simp only [B_spec_l06Twin_11, B_spec_l06Twin_12, B_spec_l06Twin_13, hoc, intsK_getD hx1, decide_eq_true hxl, wpD_kp, wpD_regi, go_sem, adopt_fun, Int.reduceLT, Int.reduceLE, Int.reduceToNat, Int.reduceNeg, Nat.reduceLT, Nat.reduceLeDiff, Nat.reduceMul, Nat.reduceSub, reduceIte, Nat.reduceEqDiff, Nat.reduceAdd, reduceCtorEq]
        intro vs8 U8 hN8
        refine ⟨⟨by omega, hAlc⟩, hAlc, ?_⟩
        intro hM5 vs9 U9 hN9
        refine ⟨⟨by omega, hAlc⟩, hAlc, ⟨by omega, hx1⟩, hx1, ?_⟩
        by_cases heq : cur.getD x 0 = at0
        · have hb1 : (cur.getD x 0 == at0) = true := by simpa using heq
          simp only [hb1, wpD_kp, wpD_regi, go_sem, adopt_fun, Int.reduceLT, Int.reduceLE, Int.reduceToNat, Int.reduceNeg, Nat.reduceLT, Nat.reduceLeDiff, Nat.reduceMul, Nat.reduceSub, reduceIte, Nat.reduceEqDiff, Nat.reduceAdd, reduceCtorEq]
          refine call_funB (k_one code a' s' 2 hb (by omega)) rfl qCS qCS ?_
          rintro cs' x1 ⟨a3, s3, b3, rfl, c1, c2, rfl⟩
          cases b3 with
          | true =>
            simp only [B_spec_l06Twin_14, B_spec_l06Twin_15, hoc, w6, wpD_kp, wpD_regi, go_sem, adopt_fun, Int.reduceLT, Int.reduceLE, Int.reduceToNat, Int.reduceNeg, Nat.reduceLT, Nat.reduceLeDiff, Nat.reduceMul, Nat.reduceSub, reduceIte, Nat.reduceEqDiff, Nat.reduceAdd, reduceCtorEq]
            intro vs10 U10 hN10
            refine ⟨⟨by omega, hAlc⟩, hAlc, ⟨by omega, hx1⟩, by omega, ?_⟩
            intro vs11 U11 hN11
            refine ⟨(a3, s3, m, cur.take x ++ [n] ++ cur.drop (x + 1), x + 1), by dsimp only; omega, ⟨by dsimp only; omega, by dsimp only; omega, by dsimp only; omega, by dsimp only; rw [lput_len hx1]; exact e4, lput_mem e5 (by omega)⟩, ?_⟩
            simp only [← ints_put]
          | false =>
            simp only [B_spec_l06Twin_14, B_spec_l06Twin_15, w6, wpD_kp, wpD_regi, go_sem, adopt_fun, Int.reduceLT, Int.reduceLE, Int.reduceToNat, Int.reduceNeg, Nat.reduceLT, Nat.reduceLeDiff, Nat.reduceMul, Nat.reduceSub, reduceIte, Nat.reduceEqDiff, Nat.reduceAdd, reduceCtorEq]
            intro vs10 U10 hN10
            exact ⟨(a3, s3, m, cur, x + 1), by dsimp only; omega, ⟨by dsimp only; omega, by dsimp only; omega, by dsimp only; omega, e4, e5⟩, rfl⟩
        · have hb1 : (cur.getD x 0 == at0) = false := by simpa using heq
          simp only [hb1, B_spec_l06Twin_14, B_spec_l06Twin_15, w6, wpD_kp, wpD_regi, go_sem, adopt_fun, Int.reduceLT, Int.reduceLE, Int.reduceToNat, Int.reduceNeg, Nat.reduceLT, Nat.reduceLeDiff, Nat.reduceMul, Nat.reduceSub, reduceIte, Nat.reduceEqDiff, Nat.reduceAdd, reduceCtorEq]
          intro vs10 U10 hN10
          exact ⟨(a', s', m, cur, x + 1), by dsimp only; omega, ⟨by dsimp only; omega, by dsimp only; omega, by dsimp only; omega, e4, e5⟩, rfl⟩
      · simp only [B_spec_l06Twin_11, B_spec_l06Twin_12, hoc, decide_eq_false hxl, wpD_kp, wpD_regi, go_sem, adopt_fun, Int.reduceLT, Int.reduceLE, Int.reduceToNat, Int.reduceNeg, Nat.reduceLT, Nat.reduceLeDiff, Nat.reduceMul, Nat.reduceSub, reduceIte, Nat.reduceEqDiff, Nat.reduceAdd, reduceCtorEq]
        intro vs8 U8 hN8
        refine ⟨⟨by omega, hAlc⟩, hAlc, ?_⟩
        intro hM5
        simp only [B_spec_l06Twin_16, wpD_kp, wpD_gh, go_sem, adopt_fun, Int.reduceLT, Int.reduceLE, Int.reduceToNat, Int.reduceNeg, Nat.reduceLT, Nat.reduceLeDiff, Nat.reduceMul, Nat.reduceSub, reduceIte, Nat.reduceEqDiff, Nat.reduceAdd, reduceCtorEq]
        intro hD
        refine ⟨[.rf 8 A.length 901], gwp_rf (k := 1) (nn := true) rfl (own_get rfl) (by decide) rfl fun hf => ?_⟩
        have hf1 : ∀ p ∈ A ++ C, p.2 = [] ∨ p.1 ≠ m := fun p hp => by
          by_cases e : p.2 = []
          · exact .inl e
          · refine .inr (hf p.1 1 (ints p.2) ?_ (by simpa using e))
            rcases List.mem_append.1 hp with h | h
            · exact List.mem_append.2 (.inl (List.mem_map.2 ⟨p, h, rfl⟩))
            · exact List.mem_append.2 (.inr (List.mem_cons.2 (.inr (List.mem_map.2 ⟨p, h, rfl⟩))))
        have hf2 : ∀ p ∈ A2 ++ (u2, r2) :: C2, p.2 = [] ∨ p.1 ≠ m := fun p hp => by
          by_cases e : p.2 = []
          · exact .inl e
          · exact .inr (hD 1008 v1008 1 true (rwp (A2 ++ (u2, r2) :: C2)) 901 m rfl rfl p.1 1 (ints p.2) (List.mem_map.2 ⟨p, hp, rfl⟩) (by simpa using e))
        have D3 := DJ_in (u := m) (r := cur) D2' fun p hp => by
          rw [← List.append_assoc] at hp
          rcases List.mem_append.1 hp with h | h
          · exact hf1 p h
          · exact hf2 p h
        have hset4 : ∀ X : AVal, (rwp A ++ AVal.own 901 m :: rwp C).set A.length X = rwp A ++ X :: rwp C := fun X => by
          rw [List.set_append_right _ _ (by rw [rwp_len]; exact Nat.le_refl _), rwp_len, Nat.sub_self]; rfl
        simp only [hset4, frNm_t, w5, gwp_nil, wpD_kp, wpD_regi, go_sem, adopt_fun, Int.reduceLT, Int.reduceLE, Int.reduceToNat, Int.reduceNeg, Nat.reduceLT, Nat.reduceLeDiff, Nat.reduceMul, Nat.reduceSub, reduceIte, Nat.reduceEqDiff, Nat.reduceAdd, reduceCtorEq]
        intro vs9 U9 hN9
        have hxr : x = cur.length := by omega
        refine ⟨(v3, v8, v1008, a', s', A ++ [(m, cur)], C, A2 ++ [(u2, r2)], C2), by dsimp only; simp, ⟨by dsimp only; omega, by dsimp only; rw [List.length_append, List.length_singleton]; omega, ?_, ?_, ?_, ?_, ⟨?_, ?_⟩, ⟨?_, ?_⟩⟩, ?_⟩
        · dsimp only; rw [List.length_append, List.length_singleton]; simp at j3; omega
        · dsimp only; rw [List.length_append, List.length_append, j4]; rfl
        · dsimp only; simpa using j5
        · have e : A ++ (m, cur) :: (C ++ (A2 ++ (u2, r2) :: C2)) = ((A ++ [(m, cur)]) ++ C) ++ ((A2 ++ [(u2, r2)]) ++ C2) := by simp
          dsimp only; rw [← e]; exact D3
        · intro p hp
          rcases List.mem_append.1 hp with h | h
          · exact j7.a p h
          · rw [List.mem_singleton.1 h]; exact ⟨by dsimp only; omega, e5⟩
        · exact fun p hp => j7.b p (List.mem_cons_of_mem _ hp)
        · intro p hp
          rcases List.mem_append.1 hp with h | h
          · exact j8.a p h
          · rw [List.mem_singleton.1 h]; exact ⟨hr2l, hr2m⟩
        · exact fun p hp => j8.b p (List.mem_cons_of_mem _ hp)
        · simp only [List.append_assoc, List.cons_append, List.nil_append, List.length_append, List.length_cons, List.length_nil, rwp_cat]
end Go.Ab
