/- Contracts: marks in machines, exactly; printed by program. Conditions: none. -/
import Derived.Test.YtoadopegbnmfkaaQe
import Derived.Test.YtoadopegbnmfkaaMn
set_option linter.all false
namespace Go.Ab
open Go.Proofs
set_option maxRecDepth 20000
set_option maxHeartbeats 4000000

theorem k_heldMachine (n o : Int) (xss yss : List (List Int)) (k : Int) (h : 0 ≤ k ∧ k + totX xss + totX yss ≤ 4611686018427387904) (hx : ∀ x ∈ xss, (x.length : Int) ≤ 1000000000) (hy : ∀ x ∈ yss, (x.length : Int) ≤ 1000000000) (ho : okRows k xss) (ho2 : okRows (k + totX xss) yss) :
    Fun Try.prog n_laws_heldMachine [machA n o xss yss, iv k] (iv (k + totX xss + totX yss)) := by
  refine fun_of mixed c_laws_heldMachine rfl ⟨rfl, trivial⟩ ?_
  have hn := totX_nn xss
  have hn2 := totX_nn yss
  have hneg : ¬ (k + totX xss < 0) := by omega
  have hneg2 : ¬ (k + totX xss + totX yss < 0) := by omega
  simp only [A_laws_heldMachine, B_laws_heldMachine_1, go_sem, adopt_fun, Int.reduceLT, Int.reduceLE, Int.reduceToNat, Int.reduceNeg, Nat.reduceLT, Nat.reduceLeDiff, Nat.reduceMul, Nat.reduceSub, reduceIte, Nat.reduceEqDiff, Nat.reduceAdd, reduceCtorEq]
  intro vs vs2
  refine call_fun (k_heldSS xss k ⟨h.1, by omega⟩ hx ho) qCS trivial ?_
  simp only [B_laws_heldMachine_2, B_laws_heldMachine_3, B_laws_heldMachine_4, decide_eq_false hneg, go_sem, adopt_fun, Int.reduceLT, Int.reduceLE, Int.reduceToNat, Int.reduceNeg, Nat.reduceLT, Nat.reduceLeDiff, Nat.reduceMul, Nat.reduceSub, reduceIte, Nat.reduceEqDiff, Nat.reduceAdd, reduceCtorEq]
  intro vs3
  refine call_fun (k_heldSS yss (k + totX xss) ⟨by omega, by omega⟩ hy ho2) qCS trivial ?_
  simp only [B_laws_heldMachine_5, B_laws_heldMachine_6, B_laws_heldMachine_7, decide_eq_false hneg2, go_sem, adopt_fun, Int.reduceLT, Int.reduceLE, Int.reduceToNat, Int.reduceNeg, Nat.reduceLT, Nat.reduceLeDiff, Nat.reduceMul, Nat.reduceSub, reduceIte, Nat.reduceEqDiff, Nat.reduceAdd, reduceCtorEq]
  try (intro _ _)
  try (intro _ _)


theorem callHp_m4 {hp : Nat → AObj} {r t q2 q3 d : Nat} {s : Nat → Nat} {o0 o1 o2 o3 : AObj} (hnd : [r, t, q2, q3].Nodup) :
    callHp hp [r, t, q2, q3] d s [o0, o1, o2, o3] [] = (upd (upd (upd (upd hp r (o0.ren (rid [r, t, q2, q3] d 0) (sv hp [r, t, q2, q3] s))) t (o1.ren (rid [r, t, q2, q3] d 0) (sv hp [r, t, q2, q3] s))) q2 (o2.ren (rid [r, t, q2, q3] d 0) (sv hp [r, t, q2, q3] s))) q3 (o3.ren (rid [r, t, q2, q3] d 0) (sv hp [r, t, q2, q3] s))) := by
  have hnd' := hnd
  simp only [List.nodup_cons, List.mem_cons, List.not_mem_nil, or_false, not_or, List.nodup_nil, and_true, not_false_eq_true] at hnd'
  funext n
  by_cases e3 : n = q3
  · have h1 : rid [r, t, q2, q3] d ([] : List AObj).length 5003 = some n := by rw [e3]; exact rid_m (j := 3) (by omega) rfl
    rw [callHp_at hnd (by simp) h1]
    simp [upd, e3, outHp, hnd', Ne.symm]
    try (intros; simp_all)
  by_cases e2 : n = q2
  · have h1 : rid [r, t, q2, q3] d ([] : List AObj).length 5002 = some n := by rw [e2]; exact rid_m (j := 2) (by omega) rfl
    rw [callHp_at hnd (by simp) h1]
    simp [upd, e2, outHp, hnd', Ne.symm]
    try (intros; simp_all)
  by_cases e1 : n = t
  · have h1 : rid [r, t, q2, q3] d ([] : List AObj).length 5001 = some n := by rw [e1]; exact rid_m (j := 1) (by omega) rfl
    rw [callHp_at hnd (by simp) h1]
    simp [upd, e1, outHp, hnd', Ne.symm]
    try (intros; simp_all)
  by_cases e0 : n = r
  · have h1 : rid [r, t, q2, q3] d ([] : List AObj).length 5000 = some n := by rw [e0]; exact rid_m (j := 0) (by omega) rfl
    rw [callHp_at hnd (by simp) h1]
    simp [upd, e0, outHp, hnd', Ne.symm]
    try (intros; simp_all)
  rw [callHp_not]
  · simp [upd, e0, e1, e2, e3]
  · rintro ⟨x, hx⟩
    rcases rid_cases hx with ⟨j, rfl, _, h3⟩ | ⟨i, rfl, h3, _⟩
    · match j, h3 with
      | 0, h3 => simp at h3; exact e0 h3.symm
      | 1, h3 => simp at h3; exact e1 h3.symm
      | 2, h3 => simp at h3; exact e2 h3.symm
      | 3, h3 => simp at h3; exact e3 h3.symm
      | j + 4, h3 => simp at h3
    · simp at h3

theorem call_markM1 {P : Program} {σ : St} {g : FuncId} {As args : List AVal} {d : Nat} {s : Nat → Nat} {K : St → Prop} {r t q2 q3 v w u2 u3 : Nat} {a x1 a' x1' : List Int} {z : Int}
    (h : Con P g [.row 0 1 true [.own 5002 2], .row 1 1 true [.own 5003 3], .row 2 1 true (ints a), .row 3 1 true (ints x1)] args true fun outs rows res => outs = [.row 0 1 true [.own 5002 2], .row 1 1 true [.own 5003 3], .row 2 1 true (ints a'), .row 3 1 true (ints x1')] ∧ rows = [] ∧ res = iv z)
    (hr : σ.hp r = .row v 1 true [.own q2 u2]) (ht : σ.hp t = .row w 1 true [.own q3 u3]) (h2 : σ.hp q2 = .row u2 1 true (ints a)) (h3 : σ.hp q3 = .row u3 1 true (ints x1)) (hnd : [r, t, q2, q3].Nodup) (ha : CoeL σ.hp [r, t, q2, q3] false args As)
    (hk : K (St.put ⟨σ.tm, (upd (upd (upd (upd σ.hp r (.row v 1 true [.own q2 u2])) t (.row w 1 true [.own q3 u3])) q2 (.row u2 1 true (ints a'))) q3 (.row u3 1 true (ints x1')))⟩ (some d) (iv z))) : wpCall P false σ g As (some d) s K := by
  refine .inl ⟨[r, t, q2, q3], _, _, true, _, h, ⟨by simp, rfl, hnd, ?_, ?_⟩, ha, (fun e => by cases e), ?_⟩
  · intro x hx
    simp only [List.mem_cons, List.not_mem_nil, or_false] at hx
    rcases hx with rfl | rfl | rfl | rfl
    · simp [hr]
    · simp [ht]
    · simp [h2]
    · simp [h3]
  · intro j B r' hB hr'
    match j, hB, hr' with
    | 0, hB, hr' =>
      simp at hB hr'; subst hB; subst hr'
      simp only [ObjCoe, hr]
      refine ⟨trivial, v, _, rfl, ?_⟩
      simp only [coeL_cons, coeL_nil, and_true, Coe]
      exact ⟨2, q2, u2, rfl, rfl, rfl, rfl, by rw [h2]; rfl⟩
    | 1, hB, hr' =>
      simp at hB hr'; subst hB; subst hr'
      simp only [ObjCoe, ht]
      refine ⟨trivial, w, _, rfl, ?_⟩
      simp only [coeL_cons, coeL_nil, and_true, Coe]
      exact ⟨3, q3, u3, rfl, rfl, rfl, rfl, by rw [h3]; rfl⟩
    | 2, hB, hr' =>
      simp at hB hr'; subst hB; subst hr'
      simp only [ObjCoe, h2]
      exact ⟨trivial, u2, _, rfl, coeL_ints⟩
    | 3, hB, hr' =>
      simp at hB hr'; subst hB; subst hr'
      simp only [ObjCoe, h3]
      exact ⟨trivial, u3, _, rfl, coeL_ints⟩
    | j + 4, hB, hr' => simp at hB
  · rintro outs rows res ⟨rfl, rfl, rfl⟩
    refine ⟨rfl, by simp, by simp, ?_⟩
    have s0 : sv σ.hp [r, t, q2, q3] s 0 = v := by simp [sv, hr, AObj.ver]
    have s1 : sv σ.hp [r, t, q2, q3] s 1 = w := by simp [sv, ht, AObj.ver]
    have s2 : sv σ.hp [r, t, q2, q3] s 2 = u2 := by simp [sv, h2, AObj.ver]
    have s3 : sv σ.hp [r, t, q2, q3] s 3 = u3 := by simp [sv, h3, AObj.ver]
    have r2 : AVal.ren (rid [r, t, q2, q3] d 0) (sv σ.hp [r, t, q2, q3] s) (.own 5002 2) = .own q2 u2 := by rw [ren_own (rid_m (j := 2) (by omega) rfl), s2]
    have r3 : AVal.ren (rid [r, t, q2, q3] d 0) (sv σ.hp [r, t, q2, q3] s) (.own 5003 3) = .own q3 u3 := by rw [ren_own (rid_m (j := 3) (by omega) rfl), s3]
    rw [Option.getD_some, callHp_m4 hnd]
    simp only [oren_row, renL_cons, renL_nil, renL_intsK, ren_val, s0, s1, s2, s3, r2, r3]
    exact hk


theorem k_markMach1 (n o : Int) (a x1 : List Int) (k : Int) (h : 0 ≤ k ∧ k ≤ 100000) (ha : (a.length : Int) ≤ 1000) (hx1 : (x1.length : Int) ≤ 1000) :
    Con Try.prog n_laws_markMachine [.row 0 1 true [.own 5002 2], .row 1 1 true [.own 5003 3], .row 2 1 true (ints a), .row 3 1 true (ints x1)] [.st [iv n, iv o, .own 5000 0, .own 5001 1], iv k] true
      fun outs rows res => outs = [.row 0 1 true [.own 5002 2], .row 1 1 true [.own 5003 3], .row 2 1 true (ints (seqI (k) a.length)), .row 3 1 true (ints (seqI (k + a.length) x1.length))] ∧ rows = [] ∧ res = iv (k + a.length + x1.length) := by
  refine con_sh mixed c_laws_markMachine rfl (by simp) ?_
  simp only [A_laws_markMachine, B_laws_markMachine_1, wpD_kp, wpD_regi, go_sem, adopt_fun, Int.reduceLT, Int.reduceLE, Int.reduceToNat, Int.reduceNeg, Nat.reduceLT, Nat.reduceLeDiff, Nat.reduceMul, Nat.reduceSub, reduceIte, Nat.reduceEqDiff, Nat.reduceAdd, reduceCtorEq]
  intro vs0 U0 hN0 vs1 U1 hN1
  refine call_mark1 (r := 5000) (q1 := 5002) (k_markSS1 a k ⟨h.1, by omega⟩ ha) rfl rfl (by decide) (by simp only [coeL_cons, coeL_nil, coe_val, and_true, Coe]; exact ⟨0, _, _, rfl, rfl, rfl, rfl, rfl⟩) ?_
  simp only [B_laws_markMachine_2, wpD_kp, wpD_regi, go_sem, adopt_fun, Int.reduceLT, Int.reduceLE, Int.reduceToNat, Int.reduceNeg, Nat.reduceLT, Nat.reduceLeDiff, Nat.reduceMul, Nat.reduceSub, reduceIte, Nat.reduceEqDiff, Nat.reduceAdd, reduceCtorEq]
  intro vs2 U2 hN2
  refine call_mark1 (r := 5001) (q1 := 5003) (k_markSS1 x1 (k + a.length) ⟨by omega, by omega⟩ hx1) rfl rfl (by decide) (by simp only [coeL_cons, coeL_nil, coe_val, and_true, Coe]; exact ⟨0, _, _, rfl, rfl, rfl, rfl, rfl⟩) ?_
  simp only [B_laws_markMachine_3, wpD_kp, wpD_regi, go_sem, adopt_fun, Int.reduceLT, Int.reduceLE, Int.reduceToNat, Int.reduceNeg, Nat.reduceLT, Nat.reduceLeDiff, Nat.reduceMul, Nat.reduceSub, reduceIte, Nat.reduceEqDiff, Nat.reduceAdd, reduceCtorEq]
  intro vs3 U3 hN3
  refine ⟨[], by simp, by simp, by simp, ?_⟩
  simp only [List.nil_append, List.cons_append, Nat.add_zero, ren_own_in, Nat.not_lt_zero, range1, ren_val, ren_any, ren_ro, rnNm_n, rnNm_sn, rnNm_o, rnNm_s, ren_st, ren_tup, renL_nil, renL_cons, renL_intsK, renL_rws, renL_rwn, oren_box, oren_row, oren_map, ren_own_e0, ren_own_e1, ren_own_e2, ren_ptr_e0, ren_mp_e0, ren_mp_e1, ren_own_r0, ren_own_r1, ren_own_r2, ren_ptr_r0, ren_mp_r0, ren_mp_r1, List.range_zero, callHp_nil, callHp_one, callHp_two, gone_nil, gone_one, gone_two, AVal.fresh, freshL, fresh_intsK, fresh_rws, AObj.fresh, id, Option.isSome_some, or_true, true_or, go_sem, adopt_fun, Int.reduceLT, Int.reduceLE, Int.reduceToNat, Int.reduceNeg, Nat.reduceLT, Nat.reduceLeDiff, Nat.reduceMul, Nat.reduceSub, reduceIte, Nat.reduceEqDiff, Nat.reduceAdd, reduceCtorEq]
  try simp

theorem callHp_m6 {hp : Nat → AObj} {r t q2 q3 q4 q5 d : Nat} {s : Nat → Nat} {o0 o1 o2 o3 o4 o5 : AObj} (hnd : [r, t, q2, q3, q4, q5].Nodup) :
    callHp hp [r, t, q2, q3, q4, q5] d s [o0, o1, o2, o3, o4, o5] [] = (upd (upd (upd (upd (upd (upd hp r (o0.ren (rid [r, t, q2, q3, q4, q5] d 0) (sv hp [r, t, q2, q3, q4, q5] s))) t (o1.ren (rid [r, t, q2, q3, q4, q5] d 0) (sv hp [r, t, q2, q3, q4, q5] s))) q2 (o2.ren (rid [r, t, q2, q3, q4, q5] d 0) (sv hp [r, t, q2, q3, q4, q5] s))) q3 (o3.ren (rid [r, t, q2, q3, q4, q5] d 0) (sv hp [r, t, q2, q3, q4, q5] s))) q4 (o4.ren (rid [r, t, q2, q3, q4, q5] d 0) (sv hp [r, t, q2, q3, q4, q5] s))) q5 (o5.ren (rid [r, t, q2, q3, q4, q5] d 0) (sv hp [r, t, q2, q3, q4, q5] s))) := by
  have hnd' := hnd
  simp only [List.nodup_cons, List.mem_cons, List.not_mem_nil, or_false, not_or, List.nodup_nil, and_true, not_false_eq_true] at hnd'
  funext n
  by_cases e5 : n = q5
  · have h1 : rid [r, t, q2, q3, q4, q5] d ([] : List AObj).length 5005 = some n := by rw [e5]; exact rid_m (j := 5) (by omega) rfl
    rw [callHp_at hnd (by simp) h1]
    simp [upd, e5, outHp, hnd', Ne.symm]
    try (intros; simp_all)
  by_cases e4 : n = q4
  · have h1 : rid [r, t, q2, q3, q4, q5] d ([] : List AObj).length 5004 = some n := by rw [e4]; exact rid_m (j := 4) (by omega) rfl
    rw [callHp_at hnd (by simp) h1]
    simp [upd, e4, outHp, hnd', Ne.symm]
    try (intros; simp_all)
  by_cases e3 : n = q3
  · have h1 : rid [r, t, q2, q3, q4, q5] d ([] : List AObj).length 5003 = some n := by rw [e3]; exact rid_m (j := 3) (by omega) rfl
    rw [callHp_at hnd (by simp) h1]
    simp [upd, e3, outHp, hnd', Ne.symm]
    try (intros; simp_all)
  by_cases e2 : n = q2
  · have h1 : rid [r, t, q2, q3, q4, q5] d ([] : List AObj).length 5002 = some n := by rw [e2]; exact rid_m (j := 2) (by omega) rfl
    rw [callHp_at hnd (by simp) h1]
    simp [upd, e2, outHp, hnd', Ne.symm]
    try (intros; simp_all)
  by_cases e1 : n = t
  · have h1 : rid [r, t, q2, q3, q4, q5] d ([] : List AObj).length 5001 = some n := by rw [e1]; exact rid_m (j := 1) (by omega) rfl
    rw [callHp_at hnd (by simp) h1]
    simp [upd, e1, outHp, hnd', Ne.symm]
    try (intros; simp_all)
  by_cases e0 : n = r
  · have h1 : rid [r, t, q2, q3, q4, q5] d ([] : List AObj).length 5000 = some n := by rw [e0]; exact rid_m (j := 0) (by omega) rfl
    rw [callHp_at hnd (by simp) h1]
    simp [upd, e0, outHp, hnd', Ne.symm]
    try (intros; simp_all)
  rw [callHp_not]
  · simp [upd, e0, e1, e2, e3, e4, e5]
  · rintro ⟨x, hx⟩
    rcases rid_cases hx with ⟨j, rfl, _, h3⟩ | ⟨i, rfl, h3, _⟩
    · match j, h3 with
      | 0, h3 => simp at h3; exact e0 h3.symm
      | 1, h3 => simp at h3; exact e1 h3.symm
      | 2, h3 => simp at h3; exact e2 h3.symm
      | 3, h3 => simp at h3; exact e3 h3.symm
      | 4, h3 => simp at h3; exact e4 h3.symm
      | 5, h3 => simp at h3; exact e5 h3.symm
      | j + 6, h3 => simp at h3
    · simp at h3

theorem call_markM2 {P : Program} {σ : St} {g : FuncId} {As args : List AVal} {d : Nat} {s : Nat → Nat} {K : St → Prop} {r t q2 q3 q4 q5 v w u2 u3 u4 u5 : Nat} {a b x1 y1 a' b' x1' y1' : List Int} {z : Int}
    (h : Con P g [.row 0 1 true [.own 5002 2, .own 5003 3], .row 1 1 true [.own 5004 4, .own 5005 5], .row 2 1 true (ints a), .row 3 1 true (ints b), .row 4 1 true (ints x1), .row 5 1 true (ints y1)] args true fun outs rows res => outs = [.row 0 1 true [.own 5002 2, .own 5003 3], .row 1 1 true [.own 5004 4, .own 5005 5], .row 2 1 true (ints a'), .row 3 1 true (ints b'), .row 4 1 true (ints x1'), .row 5 1 true (ints y1')] ∧ rows = [] ∧ res = iv z)
    (hr : σ.hp r = .row v 1 true [.own q2 u2, .own q3 u3]) (ht : σ.hp t = .row w 1 true [.own q4 u4, .own q5 u5]) (h2 : σ.hp q2 = .row u2 1 true (ints a)) (h3 : σ.hp q3 = .row u3 1 true (ints b)) (h4 : σ.hp q4 = .row u4 1 true (ints x1)) (h5 : σ.hp q5 = .row u5 1 true (ints y1)) (hnd : [r, t, q2, q3, q4, q5].Nodup) (ha : CoeL σ.hp [r, t, q2, q3, q4, q5] false args As)
    (hk : K (St.put ⟨σ.tm, (upd (upd (upd (upd (upd (upd σ.hp r (.row v 1 true [.own q2 u2, .own q3 u3])) t (.row w 1 true [.own q4 u4, .own q5 u5])) q2 (.row u2 1 true (ints a'))) q3 (.row u3 1 true (ints b'))) q4 (.row u4 1 true (ints x1'))) q5 (.row u5 1 true (ints y1')))⟩ (some d) (iv z))) : wpCall P false σ g As (some d) s K := by
  refine .inl ⟨[r, t, q2, q3, q4, q5], _, _, true, _, h, ⟨by simp, rfl, hnd, ?_, ?_⟩, ha, (fun e => by cases e), ?_⟩
  · intro x hx
    simp only [List.mem_cons, List.not_mem_nil, or_false] at hx
    rcases hx with rfl | rfl | rfl | rfl | rfl | rfl
    · simp [hr]
    · simp [ht]
    · simp [h2]
    · simp [h3]
    · simp [h4]
    · simp [h5]
  · intro j B r' hB hr'
    match j, hB, hr' with
    | 0, hB, hr' =>
      simp at hB hr'; subst hB; subst hr'
      simp only [ObjCoe, hr]
      refine ⟨trivial, v, _, rfl, ?_⟩
      simp only [coeL_cons, coeL_nil, and_true, Coe]
      exact ⟨⟨2, q2, u2, rfl, rfl, rfl, rfl, by rw [h2]; rfl⟩, ⟨3, q3, u3, rfl, rfl, rfl, rfl, by rw [h3]; rfl⟩⟩
    | 1, hB, hr' =>
      simp at hB hr'; subst hB; subst hr'
      simp only [ObjCoe, ht]
      refine ⟨trivial, w, _, rfl, ?_⟩
      simp only [coeL_cons, coeL_nil, and_true, Coe]
      exact ⟨⟨4, q4, u4, rfl, rfl, rfl, rfl, by rw [h4]; rfl⟩, ⟨5, q5, u5, rfl, rfl, rfl, rfl, by rw [h5]; rfl⟩⟩
    | 2, hB, hr' =>
      simp at hB hr'; subst hB; subst hr'
      simp only [ObjCoe, h2]
      exact ⟨trivial, u2, _, rfl, coeL_ints⟩
    | 3, hB, hr' =>
      simp at hB hr'; subst hB; subst hr'
      simp only [ObjCoe, h3]
      exact ⟨trivial, u3, _, rfl, coeL_ints⟩
    | 4, hB, hr' =>
      simp at hB hr'; subst hB; subst hr'
      simp only [ObjCoe, h4]
      exact ⟨trivial, u4, _, rfl, coeL_ints⟩
    | 5, hB, hr' =>
      simp at hB hr'; subst hB; subst hr'
      simp only [ObjCoe, h5]
      exact ⟨trivial, u5, _, rfl, coeL_ints⟩
    | j + 6, hB, hr' => simp at hB
  · rintro outs rows res ⟨rfl, rfl, rfl⟩
    refine ⟨rfl, by simp, by simp, ?_⟩
    have s0 : sv σ.hp [r, t, q2, q3, q4, q5] s 0 = v := by simp [sv, hr, AObj.ver]
    have s1 : sv σ.hp [r, t, q2, q3, q4, q5] s 1 = w := by simp [sv, ht, AObj.ver]
    have s2 : sv σ.hp [r, t, q2, q3, q4, q5] s 2 = u2 := by simp [sv, h2, AObj.ver]
    have s3 : sv σ.hp [r, t, q2, q3, q4, q5] s 3 = u3 := by simp [sv, h3, AObj.ver]
    have s4 : sv σ.hp [r, t, q2, q3, q4, q5] s 4 = u4 := by simp [sv, h4, AObj.ver]
    have s5 : sv σ.hp [r, t, q2, q3, q4, q5] s 5 = u5 := by simp [sv, h5, AObj.ver]
    have r2 : AVal.ren (rid [r, t, q2, q3, q4, q5] d 0) (sv σ.hp [r, t, q2, q3, q4, q5] s) (.own 5002 2) = .own q2 u2 := by rw [ren_own (rid_m (j := 2) (by omega) rfl), s2]
    have r3 : AVal.ren (rid [r, t, q2, q3, q4, q5] d 0) (sv σ.hp [r, t, q2, q3, q4, q5] s) (.own 5003 3) = .own q3 u3 := by rw [ren_own (rid_m (j := 3) (by omega) rfl), s3]
    have r4 : AVal.ren (rid [r, t, q2, q3, q4, q5] d 0) (sv σ.hp [r, t, q2, q3, q4, q5] s) (.own 5004 4) = .own q4 u4 := by rw [ren_own (rid_m (j := 4) (by omega) rfl), s4]
    have r5 : AVal.ren (rid [r, t, q2, q3, q4, q5] d 0) (sv σ.hp [r, t, q2, q3, q4, q5] s) (.own 5005 5) = .own q5 u5 := by rw [ren_own (rid_m (j := 5) (by omega) rfl), s5]
    rw [Option.getD_some, callHp_m6 hnd]
    simp only [oren_row, renL_cons, renL_nil, renL_intsK, ren_val, s0, s1, s2, s3, s4, s5, r2, r3, r4, r5]
    exact hk


theorem k_markMach2 (n o : Int) (a b x1 y1 : List Int) (k : Int) (h : 0 ≤ k ∧ k ≤ 100000) (ha : (a.length : Int) ≤ 1000) (hb : (b.length : Int) ≤ 1000) (hx1 : (x1.length : Int) ≤ 1000) (hy1 : (y1.length : Int) ≤ 1000) :
    Con Try.prog n_laws_markMachine [.row 0 1 true [.own 5002 2, .own 5003 3], .row 1 1 true [.own 5004 4, .own 5005 5], .row 2 1 true (ints a), .row 3 1 true (ints b), .row 4 1 true (ints x1), .row 5 1 true (ints y1)] [.st [iv n, iv o, .own 5000 0, .own 5001 1], iv k] true
      fun outs rows res => outs = [.row 0 1 true [.own 5002 2, .own 5003 3], .row 1 1 true [.own 5004 4, .own 5005 5], .row 2 1 true (ints (seqI (k) a.length)), .row 3 1 true (ints (seqI (k + a.length) b.length)), .row 4 1 true (ints (seqI (k + a.length + b.length) x1.length)), .row 5 1 true (ints (seqI (k + a.length + b.length + x1.length) y1.length))] ∧ rows = [] ∧ res = iv (k + a.length + b.length + x1.length + y1.length) := by
  refine con_sh mixed c_laws_markMachine rfl (by simp) ?_
  simp only [A_laws_markMachine, B_laws_markMachine_1, wpD_kp, wpD_regi, go_sem, adopt_fun, Int.reduceLT, Int.reduceLE, Int.reduceToNat, Int.reduceNeg, Nat.reduceLT, Nat.reduceLeDiff, Nat.reduceMul, Nat.reduceSub, reduceIte, Nat.reduceEqDiff, Nat.reduceAdd, reduceCtorEq]
  intro vs0 U0 hN0 vs1 U1 hN1
  refine call_mark2 (r := 5000) (q1 := 5002) (q2 := 5003) (k_markSS2 a b k ⟨h.1, by omega⟩ ha hb) rfl rfl rfl (by decide) (by simp only [coeL_cons, coeL_nil, coe_val, and_true, Coe]; exact ⟨0, _, _, rfl, rfl, rfl, rfl, rfl⟩) ?_
  simp only [B_laws_markMachine_2, wpD_kp, wpD_regi, go_sem, adopt_fun, Int.reduceLT, Int.reduceLE, Int.reduceToNat, Int.reduceNeg, Nat.reduceLT, Nat.reduceLeDiff, Nat.reduceMul, Nat.reduceSub, reduceIte, Nat.reduceEqDiff, Nat.reduceAdd, reduceCtorEq]
  intro vs2 U2 hN2
  refine call_mark2 (r := 5001) (q1 := 5004) (q2 := 5005) (k_markSS2 x1 y1 (k + a.length + b.length) ⟨by omega, by omega⟩ hx1 hy1) rfl rfl rfl (by decide) (by simp only [coeL_cons, coeL_nil, coe_val, and_true, Coe]; exact ⟨0, _, _, rfl, rfl, rfl, rfl, rfl⟩) ?_
  simp only [B_laws_markMachine_3, wpD_kp, wpD_regi, go_sem, adopt_fun, Int.reduceLT, Int.reduceLE, Int.reduceToNat, Int.reduceNeg, Nat.reduceLT, Nat.reduceLeDiff, Nat.reduceMul, Nat.reduceSub, reduceIte, Nat.reduceEqDiff, Nat.reduceAdd, reduceCtorEq]
  intro vs3 U3 hN3
  refine ⟨[], by simp, by simp, by simp, ?_⟩
  simp only [List.nil_append, List.cons_append, Nat.add_zero, ren_own_in, Nat.not_lt_zero, range1, ren_val, ren_any, ren_ro, rnNm_n, rnNm_sn, rnNm_o, rnNm_s, ren_st, ren_tup, renL_nil, renL_cons, renL_intsK, renL_rws, renL_rwn, oren_box, oren_row, oren_map, ren_own_e0, ren_own_e1, ren_own_e2, ren_ptr_e0, ren_mp_e0, ren_mp_e1, ren_own_r0, ren_own_r1, ren_own_r2, ren_ptr_r0, ren_mp_r0, ren_mp_r1, List.range_zero, callHp_nil, callHp_one, callHp_two, gone_nil, gone_one, gone_two, AVal.fresh, freshL, fresh_intsK, fresh_rws, AObj.fresh, id, Option.isSome_some, or_true, true_or, go_sem, adopt_fun, Int.reduceLT, Int.reduceLE, Int.reduceToNat, Int.reduceNeg, Nat.reduceLT, Nat.reduceLeDiff, Nat.reduceMul, Nat.reduceSub, reduceIte, Nat.reduceEqDiff, Nat.reduceAdd, reduceCtorEq]
  try simp

theorem callHp_m8 {hp : Nat → AObj} {r t q2 q3 q4 q5 q6 q7 d : Nat} {s : Nat → Nat} {o0 o1 o2 o3 o4 o5 o6 o7 : AObj} (hnd : [r, t, q2, q3, q4, q5, q6, q7].Nodup) :
    callHp hp [r, t, q2, q3, q4, q5, q6, q7] d s [o0, o1, o2, o3, o4, o5, o6, o7] [] = (upd (upd (upd (upd (upd (upd (upd (upd hp r (o0.ren (rid [r, t, q2, q3, q4, q5, q6, q7] d 0) (sv hp [r, t, q2, q3, q4, q5, q6, q7] s))) t (o1.ren (rid [r, t, q2, q3, q4, q5, q6, q7] d 0) (sv hp [r, t, q2, q3, q4, q5, q6, q7] s))) q2 (o2.ren (rid [r, t, q2, q3, q4, q5, q6, q7] d 0) (sv hp [r, t, q2, q3, q4, q5, q6, q7] s))) q3 (o3.ren (rid [r, t, q2, q3, q4, q5, q6, q7] d 0) (sv hp [r, t, q2, q3, q4, q5, q6, q7] s))) q4 (o4.ren (rid [r, t, q2, q3, q4, q5, q6, q7] d 0) (sv hp [r, t, q2, q3, q4, q5, q6, q7] s))) q5 (o5.ren (rid [r, t, q2, q3, q4, q5, q6, q7] d 0) (sv hp [r, t, q2, q3, q4, q5, q6, q7] s))) q6 (o6.ren (rid [r, t, q2, q3, q4, q5, q6, q7] d 0) (sv hp [r, t, q2, q3, q4, q5, q6, q7] s))) q7 (o7.ren (rid [r, t, q2, q3, q4, q5, q6, q7] d 0) (sv hp [r, t, q2, q3, q4, q5, q6, q7] s))) := by
  have hnd' := hnd
  simp only [List.nodup_cons, List.mem_cons, List.not_mem_nil, or_false, not_or, List.nodup_nil, and_true, not_false_eq_true] at hnd'
  funext n
  by_cases e7 : n = q7
  · have h1 : rid [r, t, q2, q3, q4, q5, q6, q7] d ([] : List AObj).length 5007 = some n := by rw [e7]; exact rid_m (j := 7) (by omega) rfl
    rw [callHp_at hnd (by simp) h1]
    simp [upd, e7, outHp, hnd', Ne.symm]
    try (intros; simp_all)
  by_cases e6 : n = q6
  · have h1 : rid [r, t, q2, q3, q4, q5, q6, q7] d ([] : List AObj).length 5006 = some n := by rw [e6]; exact rid_m (j := 6) (by omega) rfl
    rw [callHp_at hnd (by simp) h1]
    simp [upd, e6, outHp, hnd', Ne.symm]
    try (intros; simp_all)
  by_cases e5 : n = q5
  · have h1 : rid [r, t, q2, q3, q4, q5, q6, q7] d ([] : List AObj).length 5005 = some n := by rw [e5]; exact rid_m (j := 5) (by omega) rfl
    rw [callHp_at hnd (by simp) h1]
    simp [upd, e5, outHp, hnd', Ne.symm]
    try (intros; simp_all)
  by_cases e4 : n = q4
  · have h1 : rid [r, t, q2, q3, q4, q5, q6, q7] d ([] : List AObj).length 5004 = some n := by rw [e4]; exact rid_m (j := 4) (by omega) rfl
    rw [callHp_at hnd (by simp) h1]
    simp [upd, e4, outHp, hnd', Ne.symm]
    try (intros; simp_all)
  by_cases e3 : n = q3
  · have h1 : rid [r, t, q2, q3, q4, q5, q6, q7] d ([] : List AObj).length 5003 = some n := by rw [e3]; exact rid_m (j := 3) (by omega) rfl
    rw [callHp_at hnd (by simp) h1]
    simp [upd, e3, outHp, hnd', Ne.symm]
    try (intros; simp_all)
  by_cases e2 : n = q2
  · have h1 : rid [r, t, q2, q3, q4, q5, q6, q7] d ([] : List AObj).length 5002 = some n := by rw [e2]; exact rid_m (j := 2) (by omega) rfl
    rw [callHp_at hnd (by simp) h1]
    simp [upd, e2, outHp, hnd', Ne.symm]
    try (intros; simp_all)
  by_cases e1 : n = t
  · have h1 : rid [r, t, q2, q3, q4, q5, q6, q7] d ([] : List AObj).length 5001 = some n := by rw [e1]; exact rid_m (j := 1) (by omega) rfl
    rw [callHp_at hnd (by simp) h1]
    simp [upd, e1, outHp, hnd', Ne.symm]
    try (intros; simp_all)
  by_cases e0 : n = r
  · have h1 : rid [r, t, q2, q3, q4, q5, q6, q7] d ([] : List AObj).length 5000 = some n := by rw [e0]; exact rid_m (j := 0) (by omega) rfl
    rw [callHp_at hnd (by simp) h1]
    simp [upd, e0, outHp, hnd', Ne.symm]
    try (intros; simp_all)
  rw [callHp_not]
  · simp [upd, e0, e1, e2, e3, e4, e5, e6, e7]
  · rintro ⟨x, hx⟩
    rcases rid_cases hx with ⟨j, rfl, _, h3⟩ | ⟨i, rfl, h3, _⟩
    · match j, h3 with
      | 0, h3 => simp at h3; exact e0 h3.symm
      | 1, h3 => simp at h3; exact e1 h3.symm
      | 2, h3 => simp at h3; exact e2 h3.symm
      | 3, h3 => simp at h3; exact e3 h3.symm
      | 4, h3 => simp at h3; exact e4 h3.symm
      | 5, h3 => simp at h3; exact e5 h3.symm
      | 6, h3 => simp at h3; exact e6 h3.symm
      | 7, h3 => simp at h3; exact e7 h3.symm
      | j + 8, h3 => simp at h3
    · simp at h3

theorem call_markM3 {P : Program} {σ : St} {g : FuncId} {As args : List AVal} {d : Nat} {s : Nat → Nat} {K : St → Prop} {r t q2 q3 q4 q5 q6 q7 v w u2 u3 u4 u5 u6 u7 : Nat} {a b c x1 y1 z1 a' b' c' x1' y1' z1' : List Int} {z : Int}
    (h : Con P g [.row 0 1 true [.own 5002 2, .own 5003 3, .own 5004 4], .row 1 1 true [.own 5005 5, .own 5006 6, .own 5007 7], .row 2 1 true (ints a), .row 3 1 true (ints b), .row 4 1 true (ints c), .row 5 1 true (ints x1), .row 6 1 true (ints y1), .row 7 1 true (ints z1)] args true fun outs rows res => outs = [.row 0 1 true [.own 5002 2, .own 5003 3, .own 5004 4], .row 1 1 true [.own 5005 5, .own 5006 6, .own 5007 7], .row 2 1 true (ints a'), .row 3 1 true (ints b'), .row 4 1 true (ints c'), .row 5 1 true (ints x1'), .row 6 1 true (ints y1'), .row 7 1 true (ints z1')] ∧ rows = [] ∧ res = iv z)
    (hr : σ.hp r = .row v 1 true [.own q2 u2, .own q3 u3, .own q4 u4]) (ht : σ.hp t = .row w 1 true [.own q5 u5, .own q6 u6, .own q7 u7]) (h2 : σ.hp q2 = .row u2 1 true (ints a)) (h3 : σ.hp q3 = .row u3 1 true (ints b)) (h4 : σ.hp q4 = .row u4 1 true (ints c)) (h5 : σ.hp q5 = .row u5 1 true (ints x1)) (h6 : σ.hp q6 = .row u6 1 true (ints y1)) (h7 : σ.hp q7 = .row u7 1 true (ints z1)) (hnd : [r, t, q2, q3, q4, q5, q6, q7].Nodup) (ha : CoeL σ.hp [r, t, q2, q3, q4, q5, q6, q7] false args As)
    (hk : K (St.put ⟨σ.tm, (upd (upd (upd (upd (upd (upd (upd (upd σ.hp r (.row v 1 true [.own q2 u2, .own q3 u3, .own q4 u4])) t (.row w 1 true [.own q5 u5, .own q6 u6, .own q7 u7])) q2 (.row u2 1 true (ints a'))) q3 (.row u3 1 true (ints b'))) q4 (.row u4 1 true (ints c'))) q5 (.row u5 1 true (ints x1'))) q6 (.row u6 1 true (ints y1'))) q7 (.row u7 1 true (ints z1')))⟩ (some d) (iv z))) : wpCall P false σ g As (some d) s K := by
  refine .inl ⟨[r, t, q2, q3, q4, q5, q6, q7], _, _, true, _, h, ⟨by simp, rfl, hnd, ?_, ?_⟩, ha, (fun e => by cases e), ?_⟩
  · intro x hx
    simp only [List.mem_cons, List.not_mem_nil, or_false] at hx
    rcases hx with rfl | rfl | rfl | rfl | rfl | rfl | rfl | rfl
    · simp [hr]
    · simp [ht]
    · simp [h2]
    · simp [h3]
    · simp [h4]
    · simp [h5]
    · simp [h6]
    · simp [h7]
  · intro j B r' hB hr'
    match j, hB, hr' with
    | 0, hB, hr' =>
      simp at hB hr'; subst hB; subst hr'
      simp only [ObjCoe, hr]
      refine ⟨trivial, v, _, rfl, ?_⟩
      simp only [coeL_cons, coeL_nil, and_true, Coe]
      exact ⟨⟨2, q2, u2, rfl, rfl, rfl, rfl, by rw [h2]; rfl⟩, ⟨3, q3, u3, rfl, rfl, rfl, rfl, by rw [h3]; rfl⟩, ⟨4, q4, u4, rfl, rfl, rfl, rfl, by rw [h4]; rfl⟩⟩
    | 1, hB, hr' =>
      simp at hB hr'; subst hB; subst hr'
      simp only [ObjCoe, ht]
      refine ⟨trivial, w, _, rfl, ?_⟩
      simp only [coeL_cons, coeL_nil, and_true, Coe]
      exact ⟨⟨5, q5, u5, rfl, rfl, rfl, rfl, by rw [h5]; rfl⟩, ⟨6, q6, u6, rfl, rfl, rfl, rfl, by rw [h6]; rfl⟩, ⟨7, q7, u7, rfl, rfl, rfl, rfl, by rw [h7]; rfl⟩⟩
    | 2, hB, hr' =>
      simp at hB hr'; subst hB; subst hr'
      simp only [ObjCoe, h2]
      exact ⟨trivial, u2, _, rfl, coeL_ints⟩
    | 3, hB, hr' =>
      simp at hB hr'; subst hB; subst hr'
      simp only [ObjCoe, h3]
      exact ⟨trivial, u3, _, rfl, coeL_ints⟩
    | 4, hB, hr' =>
      simp at hB hr'; subst hB; subst hr'
      simp only [ObjCoe, h4]
      exact ⟨trivial, u4, _, rfl, coeL_ints⟩
    | 5, hB, hr' =>
      simp at hB hr'; subst hB; subst hr'
      simp only [ObjCoe, h5]
      exact ⟨trivial, u5, _, rfl, coeL_ints⟩
    | 6, hB, hr' =>
      simp at hB hr'; subst hB; subst hr'
      simp only [ObjCoe, h6]
      exact ⟨trivial, u6, _, rfl, coeL_ints⟩
    | 7, hB, hr' =>
      simp at hB hr'; subst hB; subst hr'
      simp only [ObjCoe, h7]
      exact ⟨trivial, u7, _, rfl, coeL_ints⟩
    | j + 8, hB, hr' => simp at hB
  · rintro outs rows res ⟨rfl, rfl, rfl⟩
    refine ⟨rfl, by simp, by simp, ?_⟩
    have s0 : sv σ.hp [r, t, q2, q3, q4, q5, q6, q7] s 0 = v := by simp [sv, hr, AObj.ver]
    have s1 : sv σ.hp [r, t, q2, q3, q4, q5, q6, q7] s 1 = w := by simp [sv, ht, AObj.ver]
    have s2 : sv σ.hp [r, t, q2, q3, q4, q5, q6, q7] s 2 = u2 := by simp [sv, h2, AObj.ver]
    have s3 : sv σ.hp [r, t, q2, q3, q4, q5, q6, q7] s 3 = u3 := by simp [sv, h3, AObj.ver]
    have s4 : sv σ.hp [r, t, q2, q3, q4, q5, q6, q7] s 4 = u4 := by simp [sv, h4, AObj.ver]
    have s5 : sv σ.hp [r, t, q2, q3, q4, q5, q6, q7] s 5 = u5 := by simp [sv, h5, AObj.ver]
    have s6 : sv σ.hp [r, t, q2, q3, q4, q5, q6, q7] s 6 = u6 := by simp [sv, h6, AObj.ver]
    have s7 : sv σ.hp [r, t, q2, q3, q4, q5, q6, q7] s 7 = u7 := by simp [sv, h7, AObj.ver]
    have r2 : AVal.ren (rid [r, t, q2, q3, q4, q5, q6, q7] d 0) (sv σ.hp [r, t, q2, q3, q4, q5, q6, q7] s) (.own 5002 2) = .own q2 u2 := by rw [ren_own (rid_m (j := 2) (by omega) rfl), s2]
    have r3 : AVal.ren (rid [r, t, q2, q3, q4, q5, q6, q7] d 0) (sv σ.hp [r, t, q2, q3, q4, q5, q6, q7] s) (.own 5003 3) = .own q3 u3 := by rw [ren_own (rid_m (j := 3) (by omega) rfl), s3]
    have r4 : AVal.ren (rid [r, t, q2, q3, q4, q5, q6, q7] d 0) (sv σ.hp [r, t, q2, q3, q4, q5, q6, q7] s) (.own 5004 4) = .own q4 u4 := by rw [ren_own (rid_m (j := 4) (by omega) rfl), s4]
    have r5 : AVal.ren (rid [r, t, q2, q3, q4, q5, q6, q7] d 0) (sv σ.hp [r, t, q2, q3, q4, q5, q6, q7] s) (.own 5005 5) = .own q5 u5 := by rw [ren_own (rid_m (j := 5) (by omega) rfl), s5]
    have r6 : AVal.ren (rid [r, t, q2, q3, q4, q5, q6, q7] d 0) (sv σ.hp [r, t, q2, q3, q4, q5, q6, q7] s) (.own 5006 6) = .own q6 u6 := by rw [ren_own (rid_m (j := 6) (by omega) rfl), s6]
    have r7 : AVal.ren (rid [r, t, q2, q3, q4, q5, q6, q7] d 0) (sv σ.hp [r, t, q2, q3, q4, q5, q6, q7] s) (.own 5007 7) = .own q7 u7 := by rw [ren_own (rid_m (j := 7) (by omega) rfl), s7]
    rw [Option.getD_some, callHp_m8 hnd]
    simp only [oren_row, renL_cons, renL_nil, renL_intsK, ren_val, s0, s1, s2, s3, s4, s5, s6, s7, r2, r3, r4, r5, r6, r7]
    exact hk


theorem k_markMach3 (n o : Int) (a b c x1 y1 z1 : List Int) (k : Int) (h : 0 ≤ k ∧ k ≤ 100000) (ha : (a.length : Int) ≤ 1000) (hb : (b.length : Int) ≤ 1000) (hc : (c.length : Int) ≤ 1000) (hx1 : (x1.length : Int) ≤ 1000) (hy1 : (y1.length : Int) ≤ 1000) (hz1 : (z1.length : Int) ≤ 1000) :
    Con Try.prog n_laws_markMachine [.row 0 1 true [.own 5002 2, .own 5003 3, .own 5004 4], .row 1 1 true [.own 5005 5, .own 5006 6, .own 5007 7], .row 2 1 true (ints a), .row 3 1 true (ints b), .row 4 1 true (ints c), .row 5 1 true (ints x1), .row 6 1 true (ints y1), .row 7 1 true (ints z1)] [.st [iv n, iv o, .own 5000 0, .own 5001 1], iv k] true
      fun outs rows res => outs = [.row 0 1 true [.own 5002 2, .own 5003 3, .own 5004 4], .row 1 1 true [.own 5005 5, .own 5006 6, .own 5007 7], .row 2 1 true (ints (seqI (k) a.length)), .row 3 1 true (ints (seqI (k + a.length) b.length)), .row 4 1 true (ints (seqI (k + a.length + b.length) c.length)), .row 5 1 true (ints (seqI (k + a.length + b.length + c.length) x1.length)), .row 6 1 true (ints (seqI (k + a.length + b.length + c.length + x1.length) y1.length)), .row 7 1 true (ints (seqI (k + a.length + b.length + c.length + x1.length + y1.length) z1.length))] ∧ rows = [] ∧ res = iv (k + a.length + b.length + c.length + x1.length + y1.length + z1.length) := by
  refine con_sh mixed c_laws_markMachine rfl (by simp) ?_
  simp only [A_laws_markMachine, B_laws_markMachine_1, wpD_kp, wpD_regi, go_sem, adopt_fun, Int.reduceLT, Int.reduceLE, Int.reduceToNat, Int.reduceNeg, Nat.reduceLT, Nat.reduceLeDiff, Nat.reduceMul, Nat.reduceSub, reduceIte, Nat.reduceEqDiff, Nat.reduceAdd, reduceCtorEq]
  intro vs0 U0 hN0 vs1 U1 hN1
  refine call_mark3 (r := 5000) (q1 := 5002) (q2 := 5003) (q3 := 5004) (k_markSS3 a b c k ⟨h.1, by omega⟩ ha hb hc) rfl rfl rfl rfl (by decide) (by simp only [coeL_cons, coeL_nil, coe_val, and_true, Coe]; exact ⟨0, _, _, rfl, rfl, rfl, rfl, rfl⟩) ?_
  simp only [B_laws_markMachine_2, wpD_kp, wpD_regi, go_sem, adopt_fun, Int.reduceLT, Int.reduceLE, Int.reduceToNat, Int.reduceNeg, Nat.reduceLT, Nat.reduceLeDiff, Nat.reduceMul, Nat.reduceSub, reduceIte, Nat.reduceEqDiff, Nat.reduceAdd, reduceCtorEq]
  intro vs2 U2 hN2
  refine call_mark3 (r := 5001) (q1 := 5005) (q2 := 5006) (q3 := 5007) (k_markSS3 x1 y1 z1 (k + a.length + b.length + c.length) ⟨by omega, by omega⟩ hx1 hy1 hz1) rfl rfl rfl rfl (by decide) (by simp only [coeL_cons, coeL_nil, coe_val, and_true, Coe]; exact ⟨0, _, _, rfl, rfl, rfl, rfl, rfl⟩) ?_
  simp only [B_laws_markMachine_3, wpD_kp, wpD_regi, go_sem, adopt_fun, Int.reduceLT, Int.reduceLE, Int.reduceToNat, Int.reduceNeg, Nat.reduceLT, Nat.reduceLeDiff, Nat.reduceMul, Nat.reduceSub, reduceIte, Nat.reduceEqDiff, Nat.reduceAdd, reduceCtorEq]
  intro vs3 U3 hN3
  refine ⟨[], by simp, by simp, by simp, ?_⟩
  simp only [List.nil_append, List.cons_append, Nat.add_zero, ren_own_in, Nat.not_lt_zero, range1, ren_val, ren_any, ren_ro, rnNm_n, rnNm_sn, rnNm_o, rnNm_s, ren_st, ren_tup, renL_nil, renL_cons, renL_intsK, renL_rws, renL_rwn, oren_box, oren_row, oren_map, ren_own_e0, ren_own_e1, ren_own_e2, ren_ptr_e0, ren_mp_e0, ren_mp_e1, ren_own_r0, ren_own_r1, ren_own_r2, ren_ptr_r0, ren_mp_r0, ren_mp_r1, List.range_zero, callHp_nil, callHp_one, callHp_two, gone_nil, gone_one, gone_two, AVal.fresh, freshL, fresh_intsK, fresh_rws, AObj.fresh, id, Option.isSome_some, or_true, true_or, go_sem, adopt_fun, Int.reduceLT, Int.reduceLE, Int.reduceToNat, Int.reduceNeg, Nat.reduceLT, Nat.reduceLeDiff, Nat.reduceMul, Nat.reduceSub, reduceIte, Nat.reduceEqDiff, Nat.reduceAdd, reduceCtorEq]
  try simp

theorem nmM1 {ps qs : List (Nat × List Int)} {a x1 : List Int} (h : ps.map (·.2) = [a]) (h2 : qs.map (·.2) = [x1]) (hd : DJ (ps ++ qs)) (ha : a ≠ []) (hx1 : x1 ≠ []) :
    ∃ p0 p1, ps = [(p0, a)] ∧ qs = [(p1, x1)] ∧ p0 ≠ p1 := by
  match ps, qs, h, h2, hd with
  | [(p0, w0)], [(p1, w1)], h, h2, hd =>
    simp only [List.map_cons, List.map_nil, List.cons.injEq, and_true] at h h2
    obtain rfl := h
    obtain rfl := h2
    refine ⟨p0, p1, rfl, rfl, ?_⟩
    simp only [DJ, List.cons_append, List.nil_append, List.pairwise_cons, List.mem_cons, List.not_mem_nil, or_false, forall_eq_or_imp, forall_eq, false_imp_iff, implies_true, List.Pairwise.nil, and_true, ha, hx1, false_or] at hd
    try simp only [and_assoc] at hd ⊢
    exact hd
  | [], _, h, _, _ => simp at h
  | _ :: _ :: _, _, h, _, _ => simp at h
  | [_], [], _, h, _ => simp at h
  | [_], _ :: _ :: _, _, h, _ => simp at h

theorem nmM2 {ps qs : List (Nat × List Int)} {a b x1 y1 : List Int} (h : ps.map (·.2) = [a, b]) (h2 : qs.map (·.2) = [x1, y1]) (hd : DJ (ps ++ qs)) (ha : a ≠ []) (hb : b ≠ []) (hx1 : x1 ≠ []) (hy1 : y1 ≠ []) :
    ∃ p0 p1 p2 p3, ps = [(p0, a), (p1, b)] ∧ qs = [(p2, x1), (p3, y1)] ∧ p0 ≠ p1 ∧ p0 ≠ p2 ∧ p0 ≠ p3 ∧ p1 ≠ p2 ∧ p1 ≠ p3 ∧ p2 ≠ p3 := by
  match ps, qs, h, h2, hd with
  | [(p0, w0), (p1, w1)], [(p2, w2), (p3, w3)], h, h2, hd =>
    simp only [List.map_cons, List.map_nil, List.cons.injEq, and_true] at h h2
    obtain ⟨rfl, rfl⟩ := h
    obtain ⟨rfl, rfl⟩ := h2
    refine ⟨p0, p1, p2, p3, rfl, rfl, ?_⟩
    simp only [DJ, List.cons_append, List.nil_append, List.pairwise_cons, List.mem_cons, List.not_mem_nil, or_false, forall_eq_or_imp, forall_eq, false_imp_iff, implies_true, List.Pairwise.nil, and_true, ha, hb, hx1, hy1, false_or] at hd
    try simp only [and_assoc] at hd ⊢
    exact hd
  | [], _, h, _, _ => simp at h
  | [_], _, h, _, _ => simp at h
  | _ :: _ :: _ :: _, _, h, _, _ => simp at h
  | [_, _], [], _, h, _ => simp at h
  | [_, _], [_], _, h, _ => simp at h
  | [_, _], _ :: _ :: _ :: _, _, h, _ => simp at h

theorem nmM3 {ps qs : List (Nat × List Int)} {a b c x1 y1 z1 : List Int} (h : ps.map (·.2) = [a, b, c]) (h2 : qs.map (·.2) = [x1, y1, z1]) (hd : DJ (ps ++ qs)) (ha : a ≠ []) (hb : b ≠ []) (hc : c ≠ []) (hx1 : x1 ≠ []) (hy1 : y1 ≠ []) (hz1 : z1 ≠ []) :
    ∃ p0 p1 p2 p3 p4 p5, ps = [(p0, a), (p1, b), (p2, c)] ∧ qs = [(p3, x1), (p4, y1), (p5, z1)] ∧ p0 ≠ p1 ∧ p0 ≠ p2 ∧ p0 ≠ p3 ∧ p0 ≠ p4 ∧ p0 ≠ p5 ∧ p1 ≠ p2 ∧ p1 ≠ p3 ∧ p1 ≠ p4 ∧ p1 ≠ p5 ∧ p2 ≠ p3 ∧ p2 ≠ p4 ∧ p2 ≠ p5 ∧ p3 ≠ p4 ∧ p3 ≠ p5 ∧ p4 ≠ p5 := by
  match ps, qs, h, h2, hd with
  | [(p0, w0), (p1, w1), (p2, w2)], [(p3, w3), (p4, w4), (p5, w5)], h, h2, hd =>
    simp only [List.map_cons, List.map_nil, List.cons.injEq, and_true] at h h2
    obtain ⟨rfl, rfl, rfl⟩ := h
    obtain ⟨rfl, rfl, rfl⟩ := h2
    refine ⟨p0, p1, p2, p3, p4, p5, rfl, rfl, ?_⟩
    simp only [DJ, List.cons_append, List.nil_append, List.pairwise_cons, List.mem_cons, List.not_mem_nil, or_false, forall_eq_or_imp, forall_eq, false_imp_iff, implies_true, List.Pairwise.nil, and_true, ha, hb, hc, hx1, hy1, hz1, false_or] at hd
    try simp only [and_assoc] at hd ⊢
    exact hd
  | [], _, h, _, _ => simp at h
  | [_], _, h, _, _ => simp at h
  | [_, _], _, h, _, _ => simp at h
  | _ :: _ :: _ :: _ :: _, _, h, _, _ => simp at h
  | [_, _, _], [], _, h, _ => simp at h
  | [_, _, _], [_], _, h, _ => simp at h
  | [_, _, _], [_, _], _, h, _ => simp at h
  | [_, _, _], _ :: _ :: _ :: _ :: _, _, h, _ => simp at h

theorem zs1 {α β : Type} {a : β} {zs : List α} (h : zs.length = [a].length) : ∃ x, zs = [x] := by
  match zs, h with
  | [x], _ => exact ⟨x, rfl⟩
theorem zs2 {α β : Type} {a b : β} {zs : List α} (h : zs.length = [a, b].length) : ∃ x y, zs = [x, y] := by
  match zs, h with
  | [x, y], _ => exact ⟨x, y, rfl⟩
theorem zs3 {α β : Type} {a b c : β} {zs : List α} (h : zs.length = [a, b, c].length) : ∃ x y z, zs = [x, y, z] := by
  match zs, h with
  | [x, y, z], _ => exact ⟨x, y, z, rfl⟩

theorem call_machT {P : Program} {σ : St} {g : FuncId} {As args : List AVal} {d : Nat} {s : Nat → Nat} {K : St → Prop} {ok : Bool} {n o : Int} {xs ys : List (List Int)} {code : Int} (hs : ∀ x y, s x = s y → x = y) (h : NamMR P g args ok n o xs ys code)
    (hco : CoeL σ.hp [] true args As) (hg : σ.hp d = .gone) (hg2 : σ.hp (d + 1000) = .gone)
    (h1 : ok = true → ∀ v w ps qs, ps.map (·.2) = xs → qs.map (·.2) = ys → DJ (ps ++ qs) → (∀ p ∈ ps ++ qs, ∃ y, p.1 = s y) → K (St.put ⟨σ.tm, upd (upd σ.hp d (.row v 1 true (rwp ps))) (d + 1000) (.row w 1 true (rwp qs))⟩ (some d) (.tup [.st [iv n, iv o, .own d v, .own (d + 1000) w], iv code])))
    (h2 : ok = false → K (St.put ⟨σ.tm, σ.hp⟩ (some d) (.tup [.st [iv 0, iv 0, nilS, nilS], iv code]))) : wpCall P false σ g As (some d) s K := by
  refine call_fn h hco (fun e => by cases e) ?_
  intro rows res hR
  cases ok with
  | true =>
    simp only [MachRC, if_true] at hR
    obtain ⟨v, w, ps, qs, rfl, hp, hq, hd, rfl⟩ := hR
    refine ⟨by simp, ?_, ?_⟩
    · simp only [Option.getD_some, gone_two]; exact ⟨hg, hg2⟩
    · simp only [Option.getD_some, renL_rwp, List.length_cons, List.length_nil, Nat.zero_add, Nat.reduceAdd, Nat.not_lt_zero, range1, ren_val, ren_any, ren_ro, rnNm_n, rnNm_sn, rnNm_o, rnNm_s, ren_st, ren_tup, renL_nil, renL_cons, renL_intsK, renL_rws, renL_rwn, oren_box, oren_row, oren_map, ren_own_e0, ren_own_e1, ren_own_e2, ren_ptr_e0, ren_mp_e0, ren_mp_e1, ren_own_r0, ren_own_r1, ren_own_r2, ren_ptr_r0, ren_mp_r0, ren_mp_r1, List.range_zero, callHp_nil, callHp_one, callHp_two, gone_nil, gone_one, gone_two, AVal.fresh, freshL, fresh_intsK, fresh_rws, AObj.fresh, id, Option.isSome_some, or_true, true_or]
      refine h1 rfl _ _ _ _ (by rw [List.map_map]; exact hp) (by rw [List.map_map]; exact hq) (by have := hd.ren hs; rw [List.map_append] at this; exact this) (fun p hp => ?_)
      rw [← List.map_append] at hp
      obtain ⟨q, _, rfl⟩ := List.mem_map.1 hp
      exact ⟨q.1, rfl⟩
  | false =>
    simp only [MachRC, Bool.false_eq_true, if_false] at hR
    obtain ⟨rfl, rfl⟩ := hR
    refine ⟨by simp, by simp, ?_⟩
    simp only [Nat.not_lt_zero, range1, ren_val, ren_any, ren_ro, rnNm_n, rnNm_sn, rnNm_o, rnNm_s, ren_st, ren_tup, renL_nil, renL_cons, renL_intsK, renL_rws, renL_rwn, oren_box, oren_row, oren_map, ren_own_e0, ren_own_e1, ren_own_e2, ren_ptr_e0, ren_mp_e0, ren_mp_e1, ren_own_r0, ren_own_r1, ren_own_r2, ren_ptr_r0, ren_mp_r0, ren_mp_r1, List.range_zero, callHp_nil, callHp_one, callHp_two, gone_nil, gone_one, gone_two, AVal.fresh, freshL, fresh_intsK, fresh_rws, AObj.fresh, id, Option.isSome_some, or_true, true_or]
    exact h2 rfl

theorem k_markMachNil (n o k : Int) : Fun Try.prog n_laws_markMachine [.st [iv n, iv o, .ro none 1 [], .ro none 1 []], iv k] (iv k) := by
  have h : Fun Try.prog n_laws_markInt64SS [.ro none 1 [], iv k] (iv k) := by
    refine fun_of mixed c_laws_markInt64SS rfl ⟨rfl, trivial⟩ ?_
    simp only [A_laws_markInt64SS, B_laws_markInt64SS_1, B_laws_markInt64SS_2, wpD_kp, wpD_regi, go_sem, adopt_fun, Int.reduceLT, Int.reduceLE, Int.reduceToNat, Int.reduceNeg, Nat.reduceLT, Nat.reduceLeDiff, Nat.reduceMul, Nat.reduceSub, reduceIte, Nat.reduceEqDiff, Nat.reduceAdd, reduceCtorEq]
    intro vs0 U0 hN0 vs1 U1 hN1
    refine wpD_lp (fun _ : Unit => 0) (fun _ => True) (fun _ => ⟨L .any [(0, .ro none 1 []), (1, iv k), (5, iv 0)], L .gone [(5000, .gone), (5001, .gone), (5002, .gone), (5003, .gone)]⟩) () trivial
      (by simp only [B_laws_markInt64SS_3, go_sem, adopt_fun, Int.reduceLT, Int.reduceLE, Int.reduceToNat, Int.reduceNeg, Nat.reduceLT, Nat.reduceLeDiff, Nat.reduceMul, Nat.reduceSub, reduceIte, Nat.reduceEqDiff, Nat.reduceAdd, reduceCtorEq]; try rfl) ?_
    intro _ _
    have e : decide ((0 : Int) < 0) = false := by decide
    simp only [B_laws_markInt64SS_3, B_laws_markInt64SS_4, B_laws_markInt64SS_7, e, wpD_kp, wpD_regi, go_sem, adopt_fun, Int.reduceLT, Int.reduceLE, Int.reduceToNat, Int.reduceNeg, Nat.reduceLT, Nat.reduceLeDiff, Nat.reduceMul, Nat.reduceSub, reduceIte, Nat.reduceEqDiff, Nat.reduceAdd, reduceCtorEq]
    try (intros; trivial)
  refine fun_of mixed c_laws_markMachine rfl ⟨rfl, trivial⟩ ?_
  simp only [A_laws_markMachine, B_laws_markMachine_1, wpD_kp, wpD_regi, go_sem, adopt_fun, Int.reduceLT, Int.reduceLE, Int.reduceToNat, Int.reduceNeg, Nat.reduceLT, Nat.reduceLeDiff, Nat.reduceMul, Nat.reduceSub, reduceIte, Nat.reduceEqDiff, Nat.reduceAdd, reduceCtorEq]
  intro vs0 U0 hN0 vs1 U1 hN1
  refine call_fun h qCS trivial ?_
  simp only [B_laws_markMachine_2, wpD_kp, wpD_regi, go_sem, adopt_fun, Int.reduceLT, Int.reduceLE, Int.reduceToNat, Int.reduceNeg, Nat.reduceLT, Nat.reduceLeDiff, Nat.reduceMul, Nat.reduceSub, reduceIte, Nat.reduceEqDiff, Nat.reduceAdd, reduceCtorEq]
  intro vs2 U2 hN2
  refine call_fun h qCS trivial ?_
  simp only [B_laws_markMachine_3, wpD_kp, wpD_regi, go_sem, adopt_fun, Int.reduceLT, Int.reduceLE, Int.reduceToNat, Int.reduceNeg, Nat.reduceLT, Nat.reduceLeDiff, Nat.reduceMul, Nat.reduceSub, reduceIte, Nat.reduceEqDiff, Nat.reduceAdd, reduceCtorEq]
  try (intros; trivial)
theorem k_heldMachNil : Fun Try.prog n_laws_heldMachine [.st [iv 0, iv 0, .ro none 1 [], .ro none 1 []], iv 1] (iv 1) := by
  have h := k_heldMachine 0 0 [] [] 1 (by simp [totX]) (by simp) (by simp) trivial trivial
  simp only [totX, Int.add_zero] at h
  exact h
end Go.Ab
