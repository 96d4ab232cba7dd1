/- Contracts and what they lean on, part 10. Conditions: none. -/
import Derived.Test.YtiaoooekoffloaaZ9
set_option maxRecDepth 100000
set_option maxHeartbeats 4000000
set_option linter.all false
open Nat (reduceLeDiff reduceMul reduceSub reduceEqDiff reduceAdd)
open Int (reduceToNat reduceNeg reduceLE)
namespace Go.Ab
theorem appg_new {α : Type} {xs : List α} {y d : α} : (xs ++ [y]).getD xs.length d = y := by
  simp [List.getD_eq_getElem?_getD]
end Go.Ab
namespace Go.Ab
structure CI (n : Int) (L : List Int) : Prop where
  nd : L.Nodup
  rg : ∀ s ∈ L, 0 ≤ s ∧ s < n
  hd : L.getD 0 1 = 0
theorem CI.len {n : Int} {L : List Int} (h : CI n L) (hn : n ≤ 10) : 1 ≤ L.length ∧ L.length ≤ 10 := by
  have h1 : L ≠ [] := fun e => by have := h.hd; rw [e] at this; simp at this
  have hm : (L.map Int.toNat).Nodup := by
    refine List.Pairwise.map _ ?_ (List.Pairwise.and_mem.1 h.nd)
    rintro a b ⟨ha, hb, hab⟩ e
    have := h.rg a ha
    have := h.rg b hb
    omega
  have := nodup_lt 10 _ hm fun x hx => by
    obtain ⟨s, hs, rfl⟩ := List.mem_map.1 hx
    have := h.rg s hs
    omega
  rw [List.length_map] at this
  exact ⟨List.length_pos_iff.2 h1, this⟩
structure Rel (na oa nb ob : List (List Int)) (R : Int → Int → Prop) : Prop where
  len : na.length = nb.length
  step : ∀ s t, R s t → ∀ x, 0 ≤ x ∧ x < (na.length : Int) → outA oa s x = outA ob t x ∧ R (stepA na s x) (stepA nb t x)
  fn : ∀ s t t', R s t → R s t' → t = t'
  inj : ∀ s s' t, R s t → R s' t → s = s'
def RelL (R : Int → Int → Prop) (L M : List Int) : Prop := L.length = M.length ∧ ∀ i < L.length, R (L.getD i 0) (M.getD i 0)
theorem RelL.snoc {R : Int → Int → Prop} {L M : List Int} (h : RelL R L M) {s t : Int} (hst : R s t) : RelL R (L ++ [s]) (M ++ [t]) := by
  refine ⟨by simp [h.1], fun i hi => ?_⟩
  rw [List.length_append, List.length_singleton] at hi
  by_cases e : i < L.length
  · rw [getD_app e, getD_app (by rw [← h.1]; exact e)]; exact h.2 i e
  · have e1 : i = L.length := by omega
    subst e1
    rw [appg_new]
    rw [h.1, appg_new]; exact hst
end Go.Ab
namespace Go.Ab
end Go.Ab
namespace Go.Ab
open Go.Proofs
abbrev MachR (n o : Int) (xs ys : List (List Int)) (rows : List AObj) (res : AVal) : Prop :=
  ∃ v w ps qs, rows = [.row v 1 true (rwp ps), .row w 1 true (rwp qs)] ∧ ps.map (·.2) = xs ∧ qs.map (·.2) = ys ∧ DJ (ps ++ qs) ∧ res = .st [iv n, iv o, .own 6000 v, .own 6001 w]
abbrev NamM (P : Program) (g : FuncId) (args : List AVal) (n o : Int) (xs ys : List (List Int)) : Prop := Fn P g args (MachR n o xs ys)
end Go.Ab
namespace Go.Ab
open Go.Proofs
end Go.Ab
namespace Go.Ab
open Go.Proofs
abbrev MachS (n o : Int) (xs ys : List (List Int)) (rows : List AObj) (res : AVal) : Prop :=
  ∃ v w, rows = [.row v 1 true (rws xs), .row w 1 true (rws ys)] ∧ res = .st [iv n, iv o, .own 6000 v, .own 6001 w]
theorem NamM.dn {P : Program} {g : FuncId} {args : List AVal} {n o : Int} {xs ys : List (List Int)} (h : NamM P g args n o xs ys) : Fn P g args (MachS n o xs ys) := by
  refine Con.dnr h ?_
  rintro o' r x ⟨rfl, v, w, ps, qs, rfl, rfl, rfl, _, rfl⟩
  refine ⟨rfl, v, w, ?_, ?_⟩
  · simp only [List.map_cons, List.map_nil, AObj.dn, dnL_rwp]
  · simp only [AVal.dn, dnL]
abbrev MachRC (ok : Bool) (n o : Int) (xs ys : List (List Int)) (code : Int) (rows : List AObj) (res : AVal) : Prop :=
  if ok = true then ∃ v w ps qs, rows = [.row v 1 true (rwp ps), .row w 1 true (rwp qs)] ∧ ps.map (·.2) = xs ∧ qs.map (·.2) = ys ∧ DJ (ps ++ qs) ∧ res = .tup [.st [iv n, iv o, .own 6000 v, .own 6001 w], iv code]
  else rows = [] ∧ res = .tup [.st [iv 0, iv 0, nilS, nilS], iv code]
abbrev NamMR (P : Program) (g : FuncId) (args : List AVal) (ok : Bool) (n o : Int) (xs ys : List (List Int)) (code : Int) : Prop := Fn P g args (MachRC ok n o xs ys code)
abbrev MachSC (n o : Int) (xs ys : List (List Int)) (rows : List AObj) (res : AVal) : Prop :=
  ∃ v w, rows = [.row v 1 true (rws xs), .row w 1 true (rws ys)] ∧ res = .tup [.st [iv n, iv o, .own 6000 v, .own 6001 w], iv 0]
theorem NamMR.dn {P : Program} {g : FuncId} {args : List AVal} {ok : Bool} {n o : Int} {xs ys : List (List Int)} {code : Int} (h : NamMR P g args ok n o xs ys code) (hok : ok = true) (hc : code = 0) : Fn P g args (MachSC n o xs ys) := by
  subst hok hc
  refine Con.dnr h ?_
  rintro o' r x ⟨rfl, hR⟩
  unfold MachRC at hR
  rw [if_pos rfl] at hR
  obtain ⟨v, w, ps, qs, rfl, rfl, rfl, _, rfl⟩ := hR
  refine ⟨rfl, v, w, ?_, ?_⟩
  · simp only [List.map_cons, List.map_nil, AObj.dn, dnL_rwp]
  · simp only [AVal.dn, dnL]
end Go.Ab
namespace Go.Ab
open Go.Proofs
end Go.Ab
namespace Go.Ab
open Go.Proofs
end Go.Ab
namespace Go.Ab
open Go.Proofs
theorem rid3 {m : List Nat} {d n : Nat} : rid m d (n + 4) 6003 = some (d + 3000) := by
  have := rid_new (m := m) (d := d) (nr := n + 4) (i := 3) (by omega)
  simpa [newId] using this
theorem ren_own_r3 {m : List Nat} {d n v : Nat} {s : Nat → Nat} : AVal.ren (rid m d (n + 4)) s (.own 6003 v) = .own (d + 3000) (s v) := ren_own rid3
theorem gone_four {hp : Nat → AObj} {d : Nat} {o0 o1 o2 o3 : AObj} : (∀ i, i < [o0, o1, o2, o3].length → hp (newId d i) = .gone) = (hp d = .gone ∧ hp (d + 1000) = .gone ∧ hp (d + 2000) = .gone ∧ hp (d + 3000) = .gone) := by
  refine propext ⟨fun h => ⟨by simpa [newId] using h 0 (by simp), by simpa [newId] using h 1 (by simp), by simpa [newId] using h 2 (by simp), by simpa [newId] using h 3 (by simp)⟩, fun h i hi => ?_⟩
  have hi' : i < 4 := by simpa using hi
  have : i = 0 ∨ i = 1 ∨ i = 2 ∨ i = 3 := by omega
  rcases this with rfl | rfl | rfl | rfl
  · simpa [newId] using h.1
  · simpa [newId] using h.2.1
  · simpa [newId] using h.2.2.1
  · simpa [newId] using h.2.2.2
theorem callHp_four {hp : Nat → AObj} {d : Nat} {s : Nat → Nat} {o0 o1 o2 o3 : AObj} : callHp hp [] d s [] [o0, o1, o2, o3] =
    upd (upd (upd (upd hp d (o0.ren (rid [] d 4) s)) (d + 1000) (o1.ren (rid [] d 4) s)) (d + 2000) (o2.ren (rid [] d 4) s)) (d + 3000) (o3.ren (rid [] d 4) s) := by
  have n1 : d + 1000 ≠ d := by omega
  have n2 : d + 2000 ≠ d := by omega
  have n3 : d + 3000 ≠ d := by omega
  have m1 : d + 2000 ≠ d + 1000 := by omega
  have m2 : d + 3000 ≠ d + 1000 := by omega
  have m3 : d + 3000 ≠ d + 2000 := by omega
  funext n
  by_cases h3 : n = d + 3000
  · have h1 : rid [] d [o0, o1, o2, o3].length 6003 = some n := by rw [h3]; exact rid3
    rw [callHp_at (by simp) (by simp) h1, sv_nil]
    simp [upd, h3, outHp]
  by_cases h2 : n = d + 2000
  · have h1 : rid [] d [o0, o1, o2, o3].length 6002 = some n := by rw [h2]; exact rid2
    rw [callHp_at (by simp) (by simp) h1, sv_nil]
    simp [upd, h2, outHp, m3.symm]
  by_cases h1' : n = d + 1000
  · have h1 : rid [] d [o0, o1, o2, o3].length 6001 = some n := by rw [h1']; exact rid1
    rw [callHp_at (by simp) (by simp) h1, sv_nil]
    simp [upd, h1', outHp, m2.symm, m1.symm]
  by_cases h0 : n = d
  · have h1 : rid [] d [o0, o1, o2, o3].length 6000 = some n := by rw [h0]; exact rid0
    rw [callHp_at (by simp) (by simp) h1, sv_nil]
    simp [upd, h0, outHp, n1.symm, n2.symm, n3.symm]
  rw [callHp_not]
  · simp [upd, h3, h2, h1', h0]
  · rintro ⟨q, hq⟩
    obtain ⟨i, hi, e⟩ := rid_nil hq
    simp at hi
    unfold newId at e
    have : i = 0 ∨ i = 1 ∨ i = 2 ∨ i = 3 := by omega
    rcases this with rfl | rfl | rfl | rfl
    · exact h0 (by simpa using e)
    · exact h1' (by simpa using e)
    · exact h2 (by simpa using e)
    · exact h3 (by simpa using e)
end Go.Ab
namespace Go.Ab
open Go.Proofs
abbrev bls2 (bs : List Bool) : List AVal := bs.map bv
theorem dnL_bls2 {bs : List Bool} : dnL (bls2 bs) = bls2 bs := by simp [dnL_eq, AVal.dn]
theorem bls2_getD {bs : List Bool} {i : Nat} (h : i < bs.length) : (bls2 bs).getD i .any = bv (bs.getD i false) := by
  rw [List.getD_eq_getElem?_getD, List.getElem?_map, List.getElem?_eq_getElem h, List.getD_eq_getElem?_getD, List.getElem?_eq_getElem h]; rfl
theorem bls2_put {bs : List Bool} {i : Nat} {b : Bool} : (bls2 bs).take i ++ [bv b] ++ (bls2 bs).drop (i + 1) = bls2 (bs.take i ++ [b] ++ bs.drop (i + 1)) := by
  simp only [List.map_append, List.map_take, List.map_drop, List.map_cons, List.map_nil]
abbrev walkP (L : TS) (B C : List Int) : AVal := .rp [.ro none 1 (ints (setsI L)), .ro none 1 (ints B), .ro none 1 (ints C)] 0
abbrev WalkR (L : TS) (rows : List AObj) (res : AVal) : Prop :=
  ∃ v va vb vc B C, BT L B C ∧ rows = [.box v [.own 6001 va, .own 6002 vb, .own 6003 vc], .row va 1 true (ints (setsI L)), .row vb 1 true (ints B), .row vc 1 true (ints C)] ∧ res = .ptr 6000 v 0
theorem k_l02From (n : Int) (next : List (List Int)) (A : Aut n next) (f : Nat) (hf : f < 2 ^ n.toNat) :
    Fn Try.prog nz3m [autP n next, iv f] (WalkR (tourT next f)) := by
  refine con_of mixed czhf rfl (by simp) ?_
  have n1 := A.n1
  have n2 := A.n2
  have l2 := A.l2
  have hN := pow_lt10' (k := n.toNat) (by omega)
  generalize hQ : finQ _ = Q
  have h64 : IntKind.u64.wrap n = n := by rw [show n = ((n.toNat : Nat) : Int) by omega]; exact u64w (by omega)
  have hn0 : ¬ n < 0 := by omega
  have hsl := i_shl (b := n.toNat) (by omega)
  have hp0 : ¬ ((2 ^ n.toNat : Nat) : Int) < 0 := by omega
  simp only [Az69, Bzd9, go_sem, yz0, Int.reduceLT, reduceLE, reduceToNat, reduceNeg, Nat.reduceLT, reduceLeDiff, reduceMul, reduceSub, reduceIte, reduceEqDiff, reduceAdd, reduceCtorEq]
  intro vs
  refine ⟨⟨_, rfl, rfl⟩, ⟨_, rfl, rfl⟩, ⟨_, rfl, rfl⟩, ?_⟩
  simp only [Bzd8, h64, hn0, hsl, go_sem, yz0, Int.reduceLT, reduceLE, reduceToNat, reduceNeg, Nat.reduceLT, reduceLeDiff, reduceMul, reduceSub, reduceIte, reduceEqDiff, reduceAdd, reduceCtorEq]
  intro vs2
  refine ⟨⟨by omega, Int.le_refl _, by omega, by omega⟩, ?_⟩
  have hrep : (List.replicate (2 ^ n.toNat) [AVal.val (Value.bool false)]).flatten = bls2 (List.replicate (2 ^ n.toNat) false) := by
    induction 2 ^ n.toNat with
    | zero => rfl
    | succ k ih => rw [List.replicate_succ, List.flatten_cons, ih, List.replicate_succ]; rfl
  simp only [Int.toNat_natCast, List.map_cons, List.map_nil, hrep, dnL_bls2, Bzd7, go_sem, yz0, Int.reduceLT, reduceLE, reduceToNat, reduceNeg, Nat.reduceLT, reduceLeDiff, reduceMul, reduceSub, reduceIte, reduceEqDiff, reduceAdd, reduceCtorEq]
  refine ⟨⟨by omega, by rw [List.length_replicate]; exact hf⟩, by rw [List.length_replicate]; exact hf, ?_⟩
  rw [bls2_put, seenT_one hf]
  simp only [dnL_bls2, Bzd6, Bzd4, go_sem, yz0, Int.reduceLT, reduceLE, reduceToNat, reduceNeg, Nat.reduceLT, reduceLeDiff, reduceMul, reduceSub, reduceIte, reduceEqDiff, reduceAdd, reduceCtorEq]
  refine wpD_lo (fun (_, _, _, i, _, _, _) => 1100 - i)
    (fun (_, _, _, i, L, B, C) => TI n.toNat next.length L ∧ i ≤ List.length L ∧ runT next (1100 - i) i L = tourT next f ∧ BT L B C)
    (fun ((va, vb, vc, i, L, B, C) : Nat × Nat × Nat × Nat × TS × List Int × List Int) => ⟨Go.Ab.L .any [(0, autP n next), (5, .ptr 15 (vs 5 0) 0), (6, .own 22 (vs2 6 0)), (7, iv i)],
      Go.Ab.L .gone [(11, .row va 1 true (ints (setsI L))), (12, .row vb 1 true (ints B)), (13, .row vc 1 true (ints C)), (15, .box (vs 5 0) [.own 11 va, .own 12 vb, .own 13 vc]), (22, .row (vs2 6 0) 1 true (bls2 (seenT (2 ^ n.toNat) L)))]⟩)
    (_, _, _, 0, [(f, [])], [-1], [0]) ⟨TI0 hf, by simp, rfl, BT0⟩ (by simp only [Bz2k, dnL_bls2, go_sem, yz0, Int.reduceLT, reduceLE, reduceToNat, reduceNeg, Nat.reduceLT, reduceLeDiff, reduceMul, reduceSub, reduceIte, reduceEqDiff, reduceAdd, reduceCtorEq]; try rfl) ?_
  rintro ⟨va, vb, vc, i, L, B, C⟩ ⟨hI, hi, hR, hB⟩
  have hi : i ≤ L.length := hi
  have hlen := hI.len
  by_cases hlt : (i : Int) < L.length
  · have hlt1 : i < L.length := by omega
    have hls : i < (setsI L).length := by simpa using hlt1
    have hm := yz10 hlt1 (0, ([] : List Int))
    have hfi := hI.rg _ hm
    have hwi := hI.wd _ hm
    simp only [Bz2k, Bz64, Bzd3, Bzd1, dnL_bls2, List.length_map, decide_eq_true hlt, go_sem, yz0, Int.reduceLT, reduceLE, reduceToNat, reduceNeg, Nat.reduceLT, reduceLeDiff, reduceMul, reduceSub, reduceIte, reduceEqDiff, reduceAdd, reduceCtorEq]
    intro hM
    generalize hfw : L.getD i (0, []) = fw at hm hfi hwi ⊢
    refine wpD_lo (fun (_, _, _, x, _, _, _) => next.length - x)
      (fun (_, _, _, x, L', B', C') => x ≤ next.length ∧ L' = visT next fw.1 fw.2 x L ∧ BT L' B' C')
      (fun ((va, vb, vc, x, L', B', C') : Nat × Nat × Nat × Nat × TS × List Int × List Int) => ⟨Go.Ab.L .any [(0, autP n next), (5, .ptr 15 (vs 5 0) 0), (6, .own 22 (vs2 6 0)), (7, iv i), (8, iv x)],
        Go.Ab.L .gone [(11, .row va 1 true (ints (setsI L'))), (12, .row vb 1 true (ints B')), (13, .row vc 1 true (ints C')), (15, .box (vs 5 0) [.own 11 va, .own 12 vb, .own 13 vc]), (22, .row (vs2 6 0) 1 true (bls2 (seenT (2 ^ n.toNat) L')))]⟩)
      (_, _, _, 0, L, B, C) ⟨by simp, rfl, hB⟩ (by simp only [Bz2j, dnL_bls2, go_sem, yz0, Int.reduceLT, reduceLE, reduceToNat, reduceNeg, Nat.reduceLT, reduceLeDiff, reduceMul, reduceSub, reduceIte, reduceEqDiff, reduceAdd, reduceCtorEq]; try rfl) ?_
    rintro ⟨va, vb, vc, x, L', B', C'⟩ ⟨hx, rfl, hB'⟩
    have hx : x ≤ next.length := hx
    have hB' : BT (visT next fw.1 fw.2 x L) B' C' := hB'
    obtain ⟨hI', t, hpre⟩ := visT_ok A hI hlt1 x hx
    rw [hfw] at hI' hpre
    generalize hV : visT next fw.1 fw.2 x L = L' at hI' hpre hB' ⊢
    have hlen' := hI'.len
    have hi2 : i < L'.length := by rw [hpre, List.length_append]; omega
    have hat : L'.getD i (0, []) = fw := by rw [hpre, getD_app hlt1, hfw]
    by_cases hxl : (x : Int) < next.length
    · have hxl1 : x < next.length := by omega
      have hto := stepN_lt A hxl1 hfi
      have w1 : IntKind.i64.wrap ((x : Int) + 1) = ((x + 1 : Nat) : Int) := by rw [w64 (by omega)]; simp
      have hls2 : i < (setsI L').length := by simpa using hi2
      have hsg := setsI_getD hi2
      rw [hat] at hsg
      have hrow := A.row _ (yz10 hxl1 [])
      simp only [Bz2j, Bz65, Bzd0, dnL_bls2, List.length_map, rwn_getD hxl1, yzx hls2, hsg, decide_eq_true hxl, go_sem, yz0, Int.reduceLT, reduceLE, reduceToNat, reduceNeg, Nat.reduceLT, reduceLeDiff, reduceMul, reduceSub, reduceIte, reduceEqDiff, reduceAdd, reduceCtorEq]
      intro hMx vs3
      refine ⟨⟨by omega, hxl1⟩, hxl1, ⟨by omega, hi2⟩, hi2, ?_⟩
      have hrl : (next.getD x []).length = n.toNat := by have := hrow.1; omega
      refine yzy (k_l02Moved (next.getD x []) fw.1 (by omega) (fun y hy => by have := hrow.2 y hy; omega) (by rw [hrl]; exact hfi)) qCS trivial ?_
      have hsucc := visT_succ (next := next) (f := fw.1) (w := fw.2) (x := x) (L := L)
      rw [hV] at hsucc
      generalize stepN (next.getD x []) fw.1 = to at hto hsucc ⊢
      have hsn : (bls2 (seenT (2 ^ n.toNat) L')).getD to .any = bv (hasT L' to) := by rw [bls2_getD (by rw [seenT_len]; exact hto), seenT_getD hto]
      cases hh : hasT L' to with
      | true =>
        rw [hh] at hsn
        rw [hh, if_pos rfl] at hsucc
        simp only [Bz67, Bz66, Bz68, hsn, List.length_map, seenT_len, w1, dnL_bls2, go_sem, yz0, Int.reduceLT, reduceLE, reduceToNat, reduceNeg, Nat.reduceLT, reduceLeDiff, reduceMul, reduceSub, reduceIte, reduceEqDiff, reduceAdd, reduceCtorEq]
        refine ⟨⟨by omega, hto⟩, hto, ?_⟩
        exact ⟨(_, _, _, x + 1, _, _, _), by dsimp only; omega, ⟨by dsimp only; omega, hsucc.symm, hB'⟩, rfl⟩
      | false =>
        rw [hh] at hsn
        rw [hh, if_neg (by simp)] at hsucc
        have hB2 := hB'.add hi2 to x
        rw [hat] at hB2
        have lb := hB'.lb
        have lc := hB'.lc
        simp only [Bz67, Bz66, hsn, List.length_map, seenT_len, dnL_bls2, go_sem, yz0, Int.reduceLT, reduceLE, reduceToNat, reduceNeg, Nat.reduceLT, reduceLeDiff, reduceMul, reduceSub, reduceIte, reduceEqDiff, reduceAdd, reduceCtorEq]
        refine ⟨⟨by omega, hto⟩, hto, ⟨by omega, hto⟩, hto, ?_⟩
        rw [bls2_put, ← seenT_add (w := fw.2 ++ [(x : Int)]) hto]
        simp only [Bzcz, dnL_bls2, List.length_map, go_sem, yz0, Int.reduceLT, reduceLE, reduceToNat, reduceNeg, Nat.reduceLT, reduceLeDiff, reduceMul, reduceSub, reduceIte, reduceEqDiff, reduceAdd, reduceCtorEq]
        intro vs4
        refine ⟨⟨_, rfl, rfl⟩, by omega, ?_⟩
        simp only [Bzcy, dnL_bls2, List.length_map, go_sem, yz0, Int.reduceLT, reduceLE, reduceToNat, reduceNeg, Nat.reduceLT, reduceLeDiff, reduceMul, reduceSub, reduceIte, reduceEqDiff, reduceAdd, reduceCtorEq]
        intro vs5
        refine ⟨⟨_, rfl, rfl⟩, by omega, ?_⟩
        simp only [Bzcx, dnL_bls2, List.length_map, go_sem, yz0, Int.reduceLT, reduceLE, reduceToNat, reduceNeg, Nat.reduceLT, reduceLeDiff, reduceMul, reduceSub, reduceIte, reduceEqDiff, reduceAdd, reduceCtorEq]
        intro vs6
        refine ⟨⟨_, rfl, rfl⟩, by omega, ?_⟩
        simp only [Bz68, w1, dnL_bls2, go_sem, yz0, Int.reduceLT, reduceLE, reduceToNat, reduceNeg, Nat.reduceLT, reduceLeDiff, reduceMul, reduceSub, reduceIte, reduceEqDiff, reduceAdd, reduceCtorEq]
        exact ⟨(vs4 7 0, vs5 7 0, vs6 7 0, x + 1, L' ++ [(to, fw.2 ++ [(x : Int)])], B' ++ [(i : Int)], C' ++ [(x : Int)]), by dsimp only; omega, ⟨by dsimp only; omega, hsucc.symm, hB2⟩, by simp only [List.map_append, List.map_cons, List.map_nil]⟩
    · have : x = next.length := by omega
      subst this
      have w2 : IntKind.i64.wrap ((i : Int) + 1) = ((i + 1 : Nat) : Int) := by rw [w64 (by omega)]; simp
      simp only [Bz2j, Bz65, Bzd2, dnL_bls2, w2, decide_eq_false hxl, go_sem, yz0, Int.reduceLT, reduceLE, reduceToNat, reduceNeg, Nat.reduceLT, reduceLeDiff, reduceMul, reduceSub, reduceIte, reduceEqDiff, reduceAdd, reduceCtorEq]
      intro _
      obtain ⟨F, hF⟩ : ∃ F, 1100 - i = F + 1 := ⟨1099 - i, by omega⟩
      have hF2 : 1100 - (i + 1) = F := by omega
      rw [hF] at hR
      simp only [runT, if_pos hlt1, hfw, hV] at hR
      exact ⟨(_, _, _, i + 1, L', B', C'), by dsimp only; omega, ⟨hI', by dsimp only; omega, by dsimp only; rw [hF2]; exact hR, by dsimp only; first | exact hB' | (rw [← hV]; exact hB')⟩, rfl⟩
  · have : i = L.length := by omega
    subst this
    have hend : L = tourT next f := by
      obtain ⟨F, hF⟩ : ∃ F, 1100 - L.length = F + 1 := ⟨1099 - L.length, by omega⟩
      rw [← hR, hF]; simp only [runT, Nat.lt_irrefl, if_false]
    simp only [Bz2k, Bz64, Bzd5, List.length_map, dnL_bls2, decide_eq_false hlt, Az69, ← hQ, go_sem, yz0, Int.reduceLT, reduceLE, reduceToNat, reduceNeg, Nat.reduceLT, reduceLeDiff, reduceMul, reduceSub, reduceIte, reduceEqDiff, reduceAdd, reduceCtorEq]
    intro hM
    refine ⟨[15, 11, 12, 13], by simp, by simp, by simp, ?_⟩
    have e3 : AVal.ren (expo [15, 11, 12, 13]) id (AVal.own 13 vc) = .own 6003 vc := ren_own (expo_id (i := 3) (by simp) rfl (by omega))
    simp only [WalkR, e3, Nat.not_lt_zero, range1, yzw, yz11, ren_ro, rnNm_n, yz12, rnNm_o, rnNm_s, ren_st, yzz, yzo, yzf, yz4, yzu, yzt, yzp, yzn, yzr, yzc, yz9, yz8, yze, yzj, yzl, yz3, yz7, yzb, yzd, yzi, yzm, List.range_zero, yz6, yz5, yza, yzv, yzh, yzq, AVal.fresh, freshL, yz2, yzk, AObj.fresh, id, Option.isSome_some, or_true, true_or, go_sem, yz0, Int.reduceLT, reduceLE, reduceToNat, reduceNeg, Nat.reduceLT, reduceLeDiff, reduceMul, reduceSub, reduceIte, reduceEqDiff, reduceAdd, reduceCtorEq]
    exact ⟨_, _, _, _, B, C, by rw [← hend]; exact hB, by rw [hend], rfl⟩
end Go.Ab
namespace Go.Ab
open Go.Proofs
theorem k_l02Walk_word (L : TS) (B C : List Int) (hB : BT L B C) (k : Nat) (hk : k < L.length) (hL : L.length ≤ 2000) :
    RowI Try.prog nz3o [walkP L B C, iv k] (fun ys => ys = (L.getD k (0, [])).2) := by
  refine rowI_of mixed czhh rfl ?_
  have lb := hB.lb
  have lc := hB.lc
  simp only [Azdk, Bzdj, go_sem, yz0, Int.reduceLT, reduceLE, reduceToNat, reduceNeg, Nat.reduceLT, reduceLeDiff, reduceMul, reduceSub, reduceIte, reduceEqDiff, reduceAdd, reduceCtorEq]
  intro vs
  simp only [Bzdi, go_sem, yz0, Int.reduceLT, reduceLE, reduceToNat, reduceNeg, Nat.reduceLT, reduceLeDiff, reduceMul, reduceSub, reduceIte, reduceEqDiff, reduceAdd, reduceCtorEq]
  refine wpD_lo (fun (_, a, _) => a) (fun (_, a, bk) => a < L.length ∧ (L.getD k (0, [])).2 = (L.getD a (0, [])).2 ++ (bk : List Int).reverse ∧ bk.length + a ≤ k)
    (fun ((v, a, bk) : Nat × Nat × List Int) => ⟨Go.Ab.L .any [(0, walkP L B C), (1, iv a), (5, .own 8 v)], Go.Ab.L .gone [(8, .row v 1 true (ints bk))]⟩)
    (_, k, []) ⟨hk, by simp, by simp⟩ (by simp only [Bz2l, go_sem, yz0, Int.reduceLT, reduceLE, reduceToNat, reduceNeg, Nat.reduceLT, reduceLeDiff, reduceMul, reduceSub, reduceIte, reduceEqDiff, reduceAdd, reduceCtorEq]; try rfl) ?_
  rintro ⟨v, a, bk⟩ ⟨ha, he, hl⟩
  have ha : a < L.length := ha
  have hl : bk.length + a ≤ k := hl
  have he : (L.getD k (0, [])).2 = (L.getD a (0, [])).2 ++ bk.reverse := he
  have hab : a < B.length := by omega
  have hac : a < C.length := by omega
  rcases hB.wd a ha with ⟨h1, h2⟩ | ⟨h1, h2, h3⟩
  · have hd : ¬ B.getD a 0 ≥ 0 := by omega
    rw [h2, List.nil_append] at he
    simp only [Bz2l, Bz6c, Bzdh, Bzdg, yzx hab, decide_eq_false hd, go_sem, yz0, Int.reduceLT, reduceLE, reduceToNat, reduceNeg, Nat.reduceLT, reduceLeDiff, reduceMul, reduceSub, reduceIte, reduceEqDiff, reduceAdd, reduceCtorEq]
    refine ⟨⟨by omega, hab⟩, hab, ?_⟩
    intro vs2 hM
    have w1 : IntKind.i64.wrap ((bk.length : Int) - 1) = (bk.length : Int) - 1 - ((0 : Nat) : Int) := by rw [w64 (by omega)]; omega
    simp only [w1, Bzde, go_sem, yz0, Int.reduceLT, reduceLE, reduceToNat, reduceNeg, Nat.reduceLT, reduceLeDiff, reduceMul, reduceSub, reduceIte, reduceEqDiff, reduceAdd, reduceCtorEq]
    refine wpD_lo (fun (_, j) => bk.length - j) (fun (_, j) => j ≤ bk.length)
      (fun ((v2, j) : Nat × Nat) => ⟨Go.Ab.L .any [(5, .own 8 v), (6, .own 34 v2), (7, iv ((bk.length : Int) - 1 - (j : Nat)))], Go.Ab.L .gone [(8, .row v 1 true (ints bk)), (34, .row v2 1 true (ints (bk.reverse.take j)))]⟩)
      (_, 0) (by simp) (by simp only [Bz2m, go_sem, yz0, Int.reduceLT, reduceLE, reduceToNat, reduceNeg, Nat.reduceLT, reduceLeDiff, reduceMul, reduceSub, reduceIte, reduceEqDiff, reduceAdd, reduceCtorEq]; try rfl) ?_
    rintro ⟨v2, j⟩ hj
    have hj : j ≤ bk.length := hj
    by_cases hjl : j < bk.length
    · have hd2 : (bk.length : Int) - 1 - (j : Nat) ≥ 0 := by omega
      have hix : ((bk.length : Int) - 1 - (j : Nat)).toNat < bk.length := by omega
      have w2 : IntKind.i64.wrap ((bk.length : Int) - 1 - (j : Nat) - 1) = (bk.length : Int) - 1 - ((j + 1 : Nat) : Int) := by rw [w64 (by omega)]; omega
      have hr : bk.reverse.take j ++ [bk.getD ((bk.length : Int) - 1 - (j : Nat)).toNat 0] = bk.reverse.take (j + 1) := by
        have hjr : j < bk.reverse.length := by rw [List.length_reverse]; exact hjl
        rw [List.take_succ_eq_append_getElem hjr, List.getElem_reverse, List.getD_eq_getElem?_getD, List.getElem?_eq_getElem hix, Option.getD_some]
        congr 3; omega
      simp only [Bz2m, Bz6d, Bzdd, Bzdc, yzx hix, w2, hr, decide_eq_true hd2, go_sem, yz0, Int.reduceLT, reduceLE, reduceToNat, reduceNeg, Nat.reduceLT, reduceLeDiff, reduceMul, reduceSub, reduceIte, reduceEqDiff, reduceAdd, reduceCtorEq]
      intro vs3
      refine ⟨⟨by omega, hix⟩, hix, ⟨_, rfl, rfl⟩, by rw [List.length_take, List.length_reverse]; omega, ?_⟩
      exact ⟨(_, j + 1), by dsimp only; omega, by dsimp only; omega, rfl⟩
    · have hd2 : ¬ (bk.length : Int) - 1 - (j : Nat) ≥ 0 := by omega
      have e : bk.reverse.take j = bk.reverse := List.take_of_length_le (by rw [List.length_reverse]; omega)
      simp only [Bz2m, Bz6d, Bzdf, e, decide_eq_false hd2, go_sem, yz0, Int.reduceLT, reduceLE, reduceToNat, reduceNeg, Nat.reduceLT, reduceLeDiff, reduceMul, reduceSub, reduceIte, reduceEqDiff, reduceAdd, reduceCtorEq]
      exact ⟨34, v2, bk.reverse, by omega, rfl, by simp only [go_sem, yz0, Int.reduceLT, reduceLE, reduceToNat, reduceNeg, Nat.reduceLT, reduceLeDiff, reduceMul, reduceSub, reduceIte, reduceEqDiff, reduceAdd, reduceCtorEq], he.symm⟩
  · have hd : B.getD a 0 ≥ 0 := h1
    have hBn : B.getD a 0 = ((B.getD a 0).toNat : Int) := by omega
    simp only [Bz2l, Bz6c, Bzdb, Bzda, yzx hab, yzx hac, decide_eq_true hd, go_sem, yz0, Int.reduceLT, reduceLE, reduceToNat, reduceNeg, Nat.reduceLT, reduceLeDiff, reduceMul, reduceSub, reduceIte, reduceEqDiff, reduceAdd, reduceCtorEq]
    refine ⟨⟨by omega, hab⟩, hab, ?_⟩
    intro vs2
    refine ⟨⟨by omega, hac⟩, hac, ⟨_, rfl, rfl⟩, by omega, ?_⟩
    refine ⟨⟨by omega, hab⟩, hab, ?_⟩
    refine ⟨(vs2 9 0, (B.getD a 0).toNat, bk ++ [C.getD a 0]), by dsimp only; omega, ⟨by dsimp only; omega, ?_, by dsimp only; rw [List.length_append, List.length_singleton]; omega⟩, ?_⟩
    · dsimp only
      rw [he, h3]; simp
    · dsimp only
      rw [← hBn]
theorem firstT_at {T : TS} {i : Nat} (hi : i < T.length) (hj : ∀ j < i, smallN (T.getD j (0, [])).1 = false) (hs : smallN (T.getD i (0, [])).1 = true) : firstT T = some (T.getD i (0, [])) := by
  unfold firstT
  rw [List.find?_eq_some_iff_getElem]
  refine ⟨hs, i, hi, by rw [List.getD_eq_getElem?_getD, List.getElem?_eq_getElem hi]; rfl, fun j hji => ?_⟩
  have := hj j hji
  rw [List.getD_eq_getElem?_getD, List.getElem?_eq_getElem (by omega)] at this
  simpa using this
theorem firstT_none {T : TS} (hj : ∀ j < T.length, smallN (T.getD j (0, [])).1 = false) : firstT T = none := by
  unfold firstT
  rw [List.find?_eq_none]
  intro p hp
  obtain ⟨j, hjl, rfl⟩ := List.getElem_of_mem hp
  have := hj j hjl
  rw [List.getD_eq_getElem?_getD, List.getElem?_eq_getElem hjl] at this
  simpa using this
abbrev ToldB (x : Option (Nat × List Int)) (rows : List AObj) (res : AVal) : Prop := ∃ v, rows = [.row v 1 true (ints ((x.map (·.2)).getD []))] ∧ res = .tup [.own 6000 v, bv x.isSome]
theorem k_l02Shrink (n : Int) (next : List (List Int)) (A : Aut n next) (f : Nat) (hf : f < 2 ^ n.toNat) :
    Fn Try.prog nz3e [autP n next, iv f] (ToldB (firstT (tourT next f))) := by
  refine con_of mixed czgx rfl (by simp) ?_
  have n1 := A.n1
  have n2 := A.n2
  have hN := pow_lt10' (k := n.toNat) (by omega)
  generalize hQ : finQ _ = Q
  simp only [Az2a, Bzb7, go_sem, yz0, Int.reduceLT, reduceLE, reduceToNat, reduceNeg, Nat.reduceLT, reduceLeDiff, reduceMul, reduceSub, reduceIte, reduceEqDiff, reduceAdd, reduceCtorEq]
  intro vs
  refine call_fn (k_l02From n next A f hf) qCS (fun e => by cases e) ?_
  rintro rows res ⟨v0, va, vb, vc, B, C, hB, rfl, rfl⟩
  have hT := (runT_ok A 1100 0 _ (TI0 (m := next.length) hf)).1
  have hlen := hT.len
  refine ⟨by simp, by rw [Option.getD_some, gone_four]; simp only [go_sem, yz0, Int.reduceLT, reduceLE, reduceToNat, reduceNeg, Nat.reduceLT, reduceLeDiff, reduceMul, reduceSub, reduceIte, reduceEqDiff, reduceAdd, reduceCtorEq], ?_⟩
  have hTT : tourT next f = runT next 1100 0 [(f, [])] := rfl
  rw [← hTT] at hT hlen
  generalize hGT : tourT next f = T at hB hT hlen ⊢
  simp only [Option.getD_some, callHp_four, ren_own_r3, Bzb6, Bzb4, Nat.not_lt_zero, range1, yzw, yz11, ren_ro, rnNm_n, yz12, rnNm_o, rnNm_s, ren_st, yzz, yzo, yzf, yz4, yzu, yzt, yzp, yzn, yzr, yzc, yz9, yz8, yze, yzj, yzl, yz3, yz7, yzb, yzd, yzi, yzm, List.range_zero, yz6, yz5, yza, yzv, yzh, yzq, AVal.fresh, freshL, yz2, yzk, AObj.fresh, id, Option.isSome_some, or_true, true_or, go_sem, yz0, Int.reduceLT, reduceLE, reduceToNat, reduceNeg, Nat.reduceLT, reduceLeDiff, reduceMul, reduceSub, reduceIte, reduceEqDiff, reduceAdd, reduceCtorEq]
  refine wpD_lo (fun i => T.length - i) (fun i => i ≤ T.length ∧ ∀ j < i, smallN (T.getD j (0, [])).1 = false)
    (fun i : Nat => ⟨Go.Ab.L .any [(6, .ptr 10 (vs 2 v0) 0), (7, iv i)], Go.Ab.L .gone [(10, .box (vs 2 v0) [.own 1010 (vs 2 va), .own 2010 (vs 2 vb), .own 3010 (vs 2 vc)]), (1010, .row (vs 2 va) 1 true (ints (setsI T))), (2010, .row (vs 2 vb) 1 true (ints B)), (3010, .row (vs 2 vc) 1 true (ints C))]⟩)
    0 ⟨by simp, by simp⟩ (by simp only [Bz29, go_sem, yz0, Int.reduceLT, reduceLE, reduceToNat, reduceNeg, Nat.reduceLT, reduceLeDiff, reduceMul, reduceSub, reduceIte, reduceEqDiff, reduceAdd, reduceCtorEq]; try rfl) ?_
  rintro i ⟨hi, hj⟩
  by_cases hlt : (i : Int) < T.length
  · have hlt1 : i < T.length := by omega
    have hls : i < (setsI T).length := by simpa using hlt1
    have hm := hT.rg _ (yz10 hlt1 (0, ([] : List Int)))
    simp only [Bz29, Bz5i, Bzb3, List.length_map, yzx hls, setsI_getD hlt1, decide_eq_true hlt, go_sem, yz0, Int.reduceLT, reduceLE, reduceToNat, reduceNeg, Nat.reduceLT, reduceLeDiff, reduceMul, reduceSub, reduceIte, reduceEqDiff, reduceAdd, reduceCtorEq]
    intro hM vs2
    refine ⟨⟨by omega, hlt1⟩, hlt1, ?_⟩
    refine yzy (k_l02Single (T.getD i (0, [])).1 (by omega)) qCS trivial ?_
    cases hs : smallN (T.getD i (0, [])).1 with
    | true =>
      have hF := firstT_at hlt1 hj hs
      simp only [Bz5j, go_sem, yz0, Int.reduceLT, reduceLE, reduceToNat, reduceNeg, Nat.reduceLT, reduceLeDiff, reduceMul, reduceSub, reduceIte, reduceEqDiff, reduceAdd, reduceCtorEq]
      intro vs3
      refine call_rowI (k_l02Walk_word T B C hB i hlt1 (by omega)) qCS qGN ⟨_, rfl⟩ ?_
      rintro ys v rfl
      simp only [Az2a, ← hQ, go_sem, yz0, Int.reduceLT, reduceLE, reduceToNat, reduceNeg, Nat.reduceLT, reduceLeDiff, reduceMul, reduceSub, reduceIte, reduceEqDiff, reduceAdd, reduceCtorEq]
      refine ⟨[30], by simp, by simp, by simp, ?_⟩
      simp only [ToldB, hGT, hF, Option.map_some, Option.getD_some, Option.isSome_some, range1, List.length_singleton, Nat.not_lt_zero, range1, yzw, yz11, ren_ro, rnNm_n, yz12, rnNm_o, rnNm_s, ren_st, yzz, yzo, yzf, yz4, yzu, yzt, yzp, yzn, yzr, yzc, yz9, yz8, yze, yzj, yzl, yz3, yz7, yzb, yzd, yzi, yzm, List.range_zero, yz6, yz5, yza, yzv, yzh, yzq, AVal.fresh, freshL, yz2, yzk, AObj.fresh, id, Option.isSome_some, or_true, true_or, go_sem, yz0, Int.reduceLT, reduceLE, reduceToNat, reduceNeg, Nat.reduceLT, reduceLeDiff, reduceMul, reduceSub, reduceIte, reduceEqDiff, reduceAdd, reduceCtorEq]
      exact ⟨v, rfl, rfl⟩
    | false =>
      simp only [Bz5j, Bzb2, nat1 i _ hlt1 hM, go_sem, yz0, Int.reduceLT, reduceLE, reduceToNat, reduceNeg, Nat.reduceLT, reduceLeDiff, reduceMul, reduceSub, reduceIte, reduceEqDiff, reduceAdd, reduceCtorEq]
      refine ⟨i + 1, by omega, ⟨by omega, fun j hji => ?_⟩, rfl⟩
      by_cases e : j = i
      · rw [e]; exact hs
      · exact hj j (by omega)
  · have e : i = T.length := by omega
    subst e
    have hF := firstT_none hj
    simp only [Bz29, Bz5i, Bzb5, List.length_map, decide_eq_false hlt, Az2a, ← hQ, go_sem, yz0, Int.reduceLT, reduceLE, reduceToNat, reduceNeg, Nat.reduceLT, reduceLeDiff, reduceMul, reduceSub, reduceIte, reduceEqDiff, reduceAdd, reduceCtorEq]
    intro _ vs2
    refine ⟨[31], by simp, by simp, by simp, ?_⟩
    simp only [ToldB, hGT, hF, Option.map_none, Option.getD_none, Option.isSome_none, range1, List.length_singleton, List.map_nil, Nat.not_lt_zero, range1, yzw, yz11, ren_ro, rnNm_n, yz12, rnNm_o, rnNm_s, ren_st, yzz, yzo, yzf, yz4, yzu, yzt, yzp, yzn, yzr, yzc, yz9, yz8, yze, yzj, yzl, yz3, yz7, yzb, yzd, yzi, yzm, List.range_zero, yz6, yz5, yza, yzv, yzh, yzq, AVal.fresh, freshL, yz2, yzk, AObj.fresh, id, Option.isSome_some, or_true, true_or, go_sem, yz0, Int.reduceLT, reduceLE, reduceToNat, reduceNeg, Nat.reduceLT, reduceLeDiff, reduceMul, reduceSub, reduceIte, reduceEqDiff, reduceAdd, reduceCtorEq]
    exact ⟨_, rfl, rfl⟩
theorem k_l02Told (xs : List Int) (ok : Bool) : Con Try.prog nz3d [.row 0 1 true (ints xs)] [.own 5000 0, bv ok] true fun outs rows res =>
    outs = [.row 0 1 true (ints xs)] ∧ (ok = true ∧ rows = [] ∧ res = .tup [.own 5000 0, iv 0] ∨ ok = false ∧ ∃ w, rows = [.row w 1 true []] ∧ res = .tup [.own 6000 w, iv 6]) := by
  refine con_sh mixed czgw rfl (by simp) ?_
  cases ok with
  | true =>
    simp only [Az5h, Bz5g, Bz5e, Bz5f, Bool.not_true, go_sem, yz0, Int.reduceLT, reduceLE, reduceToNat, reduceNeg, Nat.reduceLT, reduceLeDiff, reduceMul, reduceSub, reduceIte, reduceEqDiff, reduceAdd, reduceCtorEq]
    refine ⟨[], by simp, by simp, by simp, ?_⟩
    have e5 : AVal.ren (expo []) id (AVal.own 5000 0) = .own 5000 0 := ren_own (expo_in (j := 0) (by omega))
    simp only [range1, List.length_singleton, e5, Nat.not_lt_zero, range1, yzw, yz11, ren_ro, rnNm_n, yz12, rnNm_o, rnNm_s, ren_st, yzz, yzo, yzf, yz4, yzu, yzt, yzp, yzn, yzr, yzc, yz9, yz8, yze, yzj, yzl, yz3, yz7, yzb, yzd, yzi, yzm, List.range_zero, yz6, yz5, yza, yzv, yzh, yzq, AVal.fresh, freshL, yz2, yzk, AObj.fresh, id, Option.isSome_some, or_true, true_or, go_sem, yz0, Int.reduceLT, reduceLE, reduceToNat, reduceNeg, Nat.reduceLT, reduceLeDiff, reduceMul, reduceSub, reduceIte, reduceEqDiff, reduceAdd, reduceCtorEq]
  | false =>
    simp only [Az5h, Bz5g, Bz5e, Bz5f, Bool.not_false, go_sem, yz0, Int.reduceLT, reduceLE, reduceToNat, reduceNeg, Nat.reduceLT, reduceLeDiff, reduceMul, reduceSub, reduceIte, reduceEqDiff, reduceAdd, reduceCtorEq]
    intro vs
    refine ⟨[8], by simp, by simp, by simp, ?_⟩
    simp only [range1, List.length_singleton, Nat.not_lt_zero, range1, yzw, yz11, ren_ro, rnNm_n, yz12, rnNm_o, rnNm_s, ren_st, yzz, yzo, yzf, yz4, yzu, yzt, yzp, yzn, yzr, yzc, yz9, yz8, yze, yzj, yzl, yz3, yz7, yzb, yzd, yzi, yzm, List.range_zero, yz6, yz5, yza, yzv, yzh, yzq, AVal.fresh, freshL, yz2, yzk, AObj.fresh, id, Option.isSome_some, or_true, true_or, go_sem, yz0, Int.reduceLT, reduceLE, reduceToNat, reduceNeg, Nat.reduceLT, reduceLeDiff, reduceMul, reduceSub, reduceIte, reduceEqDiff, reduceAdd, reduceCtorEq]
    exact .inr ⟨_, rfl, rfl⟩
theorem call_told {P : Program} {σ : St} {g : FuncId} {xs : List Int} {ok : Bool} {d : Nat} {s : Nat → Nat} {K : St → Prop} {r v : Nat}
    (h : Con P g [.row 0 1 true (ints xs)] [.own 5000 0, bv ok] true fun outs rows res =>
      outs = [.row 0 1 true (ints xs)] ∧ (ok = true ∧ rows = [] ∧ res = .tup [.own 5000 0, iv 0] ∨ ok = false ∧ ∃ w, rows = [.row w 1 true []] ∧ res = .tup [.own 6000 w, iv 6]))
    (hr : σ.hp r = .row v 1 true (ints xs)) (hg : σ.hp d = .gone)
    (h1 : ok = true → K (St.put ⟨σ.tm, upd σ.hp r (.row v 1 true (ints xs))⟩ (some d) (.tup [.own r v, iv 0])))
    (h2 : ok = false → ∀ w, K (St.put ⟨σ.tm, upd (upd σ.hp r (.row v 1 true (ints xs))) d (.row w 1 true [])⟩ (some d) (.tup [.own d w, iv 6]))) : wpCall P false σ g [.own r v, bv ok] (some d) s K := by
  have hne : d ≠ r := fun e => by rw [e, hr] at hg; cases hg
  refine .inl ⟨[r], [.row 0 1 true (ints xs)], [.own 5000 0, bv ok], true, _, h, ⟨by simp, rfl, by simp, by simp [hr], ?_⟩, ?_, (fun e => by cases e), ?_⟩
  · intro j B r' hB hr'
    cases j with
    | succ j => simp at hB
    | zero =>
      simp at hB hr'; subst hB; subst hr'
      simp only [ObjCoe, hr]
      exact ⟨trivial, v, _, rfl, coeL_ints⟩
  · rw [yzs, yzs, yz18]
    simp only [Coe, and_true]
    exact ⟨0, r, v, rfl, rfl, rfl, rfl, by rw [hr]; rfl⟩
  · have e : sv σ.hp [r] s 0 = v := by simp [sv, hr, AObj.ver]
    rintro outs rows res ⟨rfl, ⟨ho, rfl, rfl⟩ | ⟨ho, w, rfl, rfl⟩⟩
    · refine ⟨rfl, by simp, by simp, ?_⟩
      rw [Option.getD_some, callHp_m, yzn, e]
      have h3 := h1 ho
      have e2 : AVal.ren (rid [r] d ([] : List AObj).length) (sv σ.hp [r] s) (.own 5000 0) = .own r v := by rw [← e]; exact ren_own (rid_m (j := 0) (by omega) rfl)
      simp only [Option.getD_some, List.length_nil] at e2
      simp only [Option.getD_some, yz4, yzz, yzf, yzo, yzw, List.length_nil, e2]
      exact h3
    · refine ⟨rfl, by simp, by rw [Option.getD_some, yzh]; exact hg, ?_⟩
      rw [Option.getD_some, callHp_mr hne, yzn, yzn, e]
      have h3 := h2 ho (sv σ.hp [r] s w)
      simp only [Option.getD_some, List.length_singleton, yz4, yzz, yzf, yzo, yzw, yz3]
      exact h3
theorem k_specShortestReset (n : Int) (next : List (List Int)) (A : Aut n next) :
    Fn Try.prog nz37 [autA n next] fun rows res => ∃ v xs, rows = [.row v 1 true (ints xs)] ∧ res = .tup [.own 6000 v, iv (if (firstT (tourT next (2 ^ n.toNat - 1))).isSome then 0 else 6)] := by
  refine con_of mixed czga rfl (by simp) ?_
  have n1 := A.n1
  have n2 := A.n2
  have hp := Nat.two_pow_pos n.toNat
  have hv : autB n next = true := autB_iff.2 A
  simp only [Az8k, Bz8j, go_sem, yz0, Int.reduceLT, reduceLE, reduceToNat, reduceNeg, Nat.reduceLT, reduceLeDiff, reduceMul, reduceSub, reduceIte, reduceEqDiff, reduceAdd, reduceCtorEq]
  intro vs vs2
  refine yzy (k_l01Ok n next) qCS trivial ?_
  simp only [hv, Bz8h, Bz8i, go_sem, yz0, Int.reduceLT, reduceLE, reduceToNat, reduceNeg, Nat.reduceLT, reduceLeDiff, reduceMul, reduceSub, reduceIte, reduceEqDiff, reduceAdd, reduceCtorEq]
  intro vs3
  refine yzy (k_l02Full n next ⟨n1, n2⟩) qCS trivial ?_
  simp only [go_sem, yz0, Int.reduceLT, reduceLE, reduceToNat, reduceNeg, Nat.reduceLT, reduceLeDiff, reduceMul, reduceSub, reduceIte, reduceEqDiff, reduceAdd, reduceCtorEq]
  refine call_fn (k_l02Shrink n next A (2 ^ n.toNat - 1) (by omega)) qCS (fun e => by cases e) ?_
  rintro rows res ⟨v, rfl, rfl⟩
  refine ⟨by simp, by rw [Option.getD_some, yzh]; simp only [go_sem, yz0, Int.reduceLT, reduceLE, reduceToNat, reduceNeg, Nat.reduceLT, reduceLeDiff, reduceMul, reduceSub, reduceIte, reduceEqDiff, reduceAdd, reduceCtorEq], ?_⟩
  generalize firstT (tourT next (2 ^ n.toNat - 1)) = F
  simp only [Option.getD_some, Nat.not_lt_zero, range1, yzw, yz11, ren_ro, rnNm_n, yz12, rnNm_o, rnNm_s, ren_st, yzz, yzo, yzf, yz4, yzu, yzt, yzp, yzn, yzr, yzc, yz9, yz8, yze, yzj, yzl, yz3, yz7, yzb, yzd, yzi, yzm, List.range_zero, yz6, yz5, yza, yzv, yzh, yzq, AVal.fresh, freshL, yz2, yzk, AObj.fresh, id, Option.isSome_some, or_true, true_or, go_sem, yz0, Int.reduceLT, reduceLE, reduceToNat, reduceNeg, Nat.reduceLT, reduceLeDiff, reduceMul, reduceSub, reduceIte, reduceEqDiff, reduceAdd, reduceCtorEq]
  refine call_told (k_l02Told _ F.isSome) rfl qGN (fun ho => ?_) (fun ho w => ?_)
  · simp only [ho, if_true, go_sem, yz0, Int.reduceLT, reduceLE, reduceToNat, reduceNeg, Nat.reduceLT, reduceLeDiff, reduceMul, reduceSub, reduceIte, reduceEqDiff, reduceAdd, reduceCtorEq]
    refine ⟨[8], by simp, by simp, by simp, ?_⟩
    simp only [Nat.not_lt_zero, range1, yzw, yz11, ren_ro, rnNm_n, yz12, rnNm_o, rnNm_s, ren_st, yzz, yzo, yzf, yz4, yzu, yzt, yzp, yzn, yzr, yzc, yz9, yz8, yze, yzj, yzl, yz3, yz7, yzb, yzd, yzi, yzm, List.range_zero, yz6, yz5, yza, yzv, yzh, yzq, AVal.fresh, freshL, yz2, yzk, AObj.fresh, id, Option.isSome_some, or_true, true_or, go_sem, yz0, Int.reduceLT, reduceLE, reduceToNat, reduceNeg, Nat.reduceLT, reduceLeDiff, reduceMul, reduceSub, reduceIte, reduceEqDiff, reduceAdd, reduceCtorEq]
    exact ⟨_, _, rfl, rfl⟩
  · simp only [ho, go_sem, yz0, Int.reduceLT, reduceLE, reduceToNat, reduceNeg, Nat.reduceLT, reduceLeDiff, reduceMul, reduceSub, reduceIte, reduceEqDiff, reduceAdd, reduceCtorEq]
    refine ⟨[11], by simp, by simp, by simp, ?_⟩
    simp only [Nat.not_lt_zero, range1, yzw, yz11, ren_ro, rnNm_n, yz12, rnNm_o, rnNm_s, ren_st, yzz, yzo, yzf, yz4, yzu, yzt, yzp, yzn, yzr, yzc, yz9, yz8, yze, yzj, yzl, yz3, yz7, yzb, yzd, yzi, yzm, List.range_zero, yz6, yz5, yza, yzv, yzh, yzq, AVal.fresh, freshL, yz2, yzk, AObj.fresh, id, Option.isSome_some, or_true, true_or, go_sem, yz0, Int.reduceLT, reduceLE, reduceToNat, reduceNeg, Nat.reduceLT, reduceLeDiff, reduceMul, reduceSub, reduceIte, reduceEqDiff, reduceAdd, reduceCtorEq]
    exact ⟨w, [], rfl, rfl⟩
theorem call_ste {P : Program} {σ : St} {g : FuncId} {x : AVal} {y : Value} {d : Nat} {s : Nat → Nat} {K : St → Prop} {r v : Nat} {cs cs' : List AVal} {R : AVal}
    (h : Con P g [.row 0 1 true cs] [.st [x, .own 5000 0]] true fun outs rows res => outs = [.row 0 1 true cs] ∧ rows = [] ∧ res = R) (hx : x = .val y)
    (hr : σ.hp r = .row v 1 true cs') (hc : CoeL σ.hp [r] false cs cs')
    (hk : K (St.put ⟨σ.tm, upd σ.hp r (.row v 1 true (renL (rid [r] d 0) (sv σ.hp [r] s) cs))⟩ (some d) (R.ren (rid [r] d 0) (sv σ.hp [r] s)))) : wpCall P false σ g [.st [x, .own r v]] (some d) s K := by
  subst hx
  refine .inl ⟨[r], _, _, true, _, h, ⟨by simp, rfl, by simp, by simp [hr], ?_⟩, ?_, (fun e => by cases e), ?_⟩
  · intro j B r' hB hr'
    match j, hB, hr' with
    | 0, hB, hr' =>
      simp at hB hr'; subst hB; subst hr'
      simp only [ObjCoe, hr]
      exact ⟨trivial, v, cs', rfl, hc⟩
    | j + 1, hB, hr' => simp at hB
  · rw [yzs, coe_st, yzs, yzs, yz18]
    refine ⟨?_, by simp only [yz18]⟩
    simp only [Coe]
    exact ⟨trivial, ⟨0, r, v, rfl, rfl, rfl, rfl, by rw [hr]; rfl⟩, trivial⟩
  · rintro outs rows res ⟨rfl, rfl, rfl⟩
    refine ⟨rfl, by simp, by simp, ?_⟩
    have e : sv σ.hp [r] s 0 = v := by simp [sv, hr, AObj.ver]
    rw [Option.getD_some, callHp_m, yzn, e]
    exact hk
theorem k_ShortestH (n : Int) (next : List (List Int)) (A : Aut n next) :
    Con Try.prog nz36 [.row 0 1 true (rwn next)] [.st [iv n, .own 5000 0]] true
      fun outs rows res => outs = [.row 0 1 true (rwn next)] ∧ rows = [] ∧ res = shortR next n := by
  refine con_sh mixed czg9 rfl (by simp) ?_
  have n1 := A.n1
  have n2 := A.n2
  have hv : autB n next = true := autB_iff.2 A
  have hp := Nat.two_pow_pos n.toNat
  have hN : 2 ^ n.toNat ≤ 1024 := Nat.pow_le_pow_right (n := 2) (by omega) (show n.toNat ≤ 10 by omega)
  simp only [Az8g, Bz8f, go_sem, yz0, Int.reduceLT, reduceLE, reduceToNat, reduceNeg, Nat.reduceLT, reduceLeDiff, reduceMul, reduceSub, reduceIte, reduceEqDiff, reduceAdd, reduceCtorEq]
  intro vs vs2
  refine yzy (k_Valid n next) qCS trivial ?_
  simp only [hv, Bz8d, Bz8e, go_sem, yz0, Int.reduceLT, reduceLE, reduceToNat, reduceNeg, Nat.reduceLT, reduceLeDiff, reduceMul, reduceSub, reduceIte, reduceEqDiff, reduceAdd, reduceCtorEq]
  intro vs3
  refine call_rowI (k_all n next A) qCS rfl ⟨_, rfl⟩ ?_
  rintro xs v rfl
  simp only [go_sem, yz0, Int.reduceLT, reduceLE, reduceToNat, reduceNeg, Nat.reduceLT, reduceLeDiff, reduceMul, reduceSub, reduceIte, reduceEqDiff, reduceAdd, reduceCtorEq]
  refine yzy (k_flockOf (allS n) (fun s hs => by have := allS_in s hs; omega)) qCS trivial ?_
  rw [maskN_all ⟨n1, n2⟩]
  simp only [go_sem, yz0, Int.reduceLT, reduceLE, reduceToNat, reduceNeg, Nat.reduceLT, reduceLeDiff, reduceMul, reduceSub, reduceIte, reduceEqDiff, reduceAdd, reduceCtorEq]
  refine call_fn (k_tour n next A (2 ^ n.toNat - 1) (by omega)) qCS (fun e => by cases e) ?_
  rintro rows res ⟨v1, v2, rfl, rfl⟩
  refine ⟨by simp, by rw [Option.getD_some, yzq]; simp only [go_sem, yz0, Int.reduceLT, reduceLE, reduceToNat, reduceNeg, Nat.reduceLT, reduceLeDiff, reduceMul, reduceSub, reduceIte, reduceEqDiff, reduceAdd, reduceCtorEq], ?_⟩
  have hT := (runT_ok A 1100 0 _ (TI0 (m := next.length) (show 2 ^ n.toNat - 1 < 2 ^ n.toNat by omega))).1
  simp only [Option.getD_some, Nat.not_lt_zero, range1, yzw, yz11, ren_ro, rnNm_n, yz12, rnNm_o, rnNm_s, ren_st, yzz, yzo, yzf, yz4, yzu, yzt, yzp, yzn, yzr, yzc, yz9, yz8, yze, yzj, yzl, yz3, yz7, yzb, yzd, yzi, yzm, List.range_zero, yz6, yz5, yza, yzv, yzh, yzq, AVal.fresh, freshL, yz2, yzk, AObj.fresh, id, Option.isSome_some, or_true, true_or, go_sem, yz0, Int.reduceLT, reduceLE, reduceToNat, reduceNeg, Nat.reduceLT, reduceLeDiff, reduceMul, reduceSub, reduceIte, reduceEqDiff, reduceAdd, reduceCtorEq]
  unfold shortR
  cases hf : firstT (tourT next (2 ^ n.toNat - 1)) with
  | some p =>
    obtain ⟨f, w⟩ := p
    refine call_rm (k_first n.toNat next.length (tourT next (2 ^ n.toNat - 1)) hT hN f w hf) rfl rfl (by omega) qCS qCS qCS ?_
    simp only [Nat.not_lt_zero, range1, yzw, yz11, ren_ro, rnNm_n, yz12, rnNm_o, rnNm_s, ren_st, yzz, yzo, yzf, yz4, yzu, yzt, yzp, yzn, yzr, yzc, yz9, yz8, yze, yzj, yzl, yz3, yz7, yzb, yzd, yzi, yzm, List.range_zero, yz6, yz5, yza, yzv, yzh, yzq, AVal.fresh, freshL, yz2, yzk, AObj.fresh, id, Option.isSome_some, or_true, true_or, go_sem, yz0, Int.reduceLT, reduceLE, reduceToNat, reduceNeg, Nat.reduceLT, reduceLeDiff, reduceMul, reduceSub, reduceIte, reduceEqDiff, reduceAdd, reduceCtorEq]
    exact ⟨[], by simp, by simp, by simp, rfl⟩
  | none =>
    refine call_rm (k_firstN n.toNat next.length (tourT next (2 ^ n.toNat - 1)) hT hN hf) rfl rfl (by omega) qCS qCS qCS ?_
    simp only [Nat.not_lt_zero, range1, yzw, yz11, ren_ro, rnNm_n, yz12, rnNm_o, rnNm_s, ren_st, yzz, yzo, yzf, yz4, yzu, yzt, yzp, yzn, yzr, yzc, yz9, yz8, yze, yzj, yzl, yz3, yz7, yzb, yzd, yzi, yzm, List.range_zero, yz6, yz5, yza, yzv, yzh, yzq, AVal.fresh, freshL, yz2, yzk, AObj.fresh, id, Option.isSome_some, or_true, true_or, go_sem, yz0, Int.reduceLT, reduceLE, reduceToNat, reduceNeg, Nat.reduceLT, reduceLeDiff, reduceMul, reduceSub, reduceIte, reduceEqDiff, reduceAdd, reduceCtorEq]
    exact ⟨[], by simp, by simp, by simp, rfl⟩
end Go.Ab
namespace Go.Ab
open Go.Proofs
theorem actA_rg3 {n : Int} {next : List (List Int)} (A : Aut n next) {w : List Int} (hw : IsW next.length w) : ((actA n next w).length : Int) = n ∧ ∀ x ∈ actA n next w, 0 ≤ x ∧ x < n := by
  have := A.n1
  refine ⟨by simp [actA]; omega, fun x hx => ?_⟩
  simp only [actA, List.mem_map, List.mem_range] at hx
  obtain ⟨s, hs, rfl⟩ := hx
  exact A.at (by omega) hw
theorem allS_mem {n s : Int} (h : 0 ≤ n) : s ∈ allS n ↔ 0 ≤ s ∧ s < n := by
  simp only [allS, List.mem_map, List.mem_range]
  constructor
  · rintro ⟨k, hk, rfl⟩; omega
  · rintro ⟨h1, h2⟩; exact ⟨s.toNat, by omega, by omega⟩
theorem img_one {n : Int} {next : List (List Int)} {w : List Int} (hn : 1 ≤ n) : (imgA n next w).length = 1 ↔ ∀ s t : Int, 0 ≤ s ∧ s < n → 0 ≤ t ∧ t < n → atA next s w = atA next t w := by
  have hm : ∀ s : Int, 0 ≤ s ∧ s < n → atA next s w ∈ imgA n next w := fun s hs => nrm_mem.2 (List.mem_map.2 ⟨s, (allS_mem (by omega)).2 hs, rfl⟩)
  constructor
  · intro h s t hs ht
    obtain ⟨x, hx⟩ := List.length_eq_one_iff.1 h
    have h1 := hm s hs
    have h2 := hm t ht
    rw [hx, List.mem_singleton] at h1 h2
    rw [h1, h2]
  · intro h
    have e : imgA n next w = [atA next 0 w] := by
      refine SI_ext (nrm_SI _) (by simp [SI]) fun x => ?_
      rw [List.mem_singleton]
      constructor
      · intro hx
        obtain ⟨s, hs, rfl⟩ := List.mem_map.1 (nrm_mem.1 hx)
        exact h s 0 ((allS_mem (by omega)).1 hs) (by omega)
      · rintro rfl; exact hm 0 (by omega)
    rw [e]; rfl
def mrgP (xs : List Int) (i : Nat) : Bool := (List.range i).all fun s => xs.getD s 0 == xs.getD 0 0
theorem mrgP_succ {xs : List Int} {i : Nat} : mrgP xs (i + 1) = (mrgP xs i && (xs.getD i 0 == xs.getD 0 0)) := by
  simp [mrgP, List.range_succ]
theorem mrgP_one {xs : List Int} : mrgP xs 1 = true := by simp [mrgP]
theorem mrgP_img {n : Int} {next : List (List Int)} {w : List Int} (hn : 1 ≤ n) : mrgP (actA n next w) n.toNat = decide ((imgA n next w).length = 1) := by
  rw [Bool.eq_iff_iff, decide_eq_true_iff, img_one hn]
  simp only [mrgP, List.all_eq_true, List.mem_range, beq_iff_eq]
  constructor
  · intro h s t hs ht
    have h1 := h s.toNat (by omega)
    have h2 := h t.toNat (by omega)
    rw [actA_getD (by omega), actA_getD (i := 0) (by omega)] at h1 h2
    rw [show s = ((s.toNat : Nat) : Int) by omega, show t = ((t.toNat : Nat) : Int) by omega, h1, h2]
  · intro h s hs
    rw [actA_getD (by omega), actA_getD (i := 0) (by omega)]
    exact h s ((0 : Nat) : Int) (by omega) (by omega)
theorem setB_all {n : Int} (hn : 0 ≤ n) : setB n (allS n) = true := by
  refine setB_iff.2 ⟨?_, fun x hx => (allS_mem hn).1 hx⟩
  unfold SI allS
  rw [List.pairwise_map]
  exact List.pairwise_lt_range.imp fun h => by omega
theorem tour_short {n : Int} {next : List (List Int)} (A : Aut n next) (h7 : n ≤ 7) {f g : Nat} (hf : f < 2 ^ n.toNat) {w : List Int} (h : firstT (tourT next f) = some (g, w)) : w.length ≤ 127 ∧ IsW next.length w := by
  have hT := (runT_ok A 1100 0 _ (TI0 (m := next.length) hf)).1
  have hm : (g, w) ∈ tourT next f := List.mem_of_find?_eq_some h
  have hw := hT.wd _ hm
  have hl := nodup_lt (2 ^ n.toNat) (List.map (fun x => x.fst) (tourT next f)) hT.nd (fun x hx => by
    obtain ⟨p, hp, rfl⟩ := List.mem_map.1 hx
    exact hT.rg p hp)
  rw [List.length_map] at hl
  have h2 : 2 ^ n.toNat ≤ 128 := Nat.pow_le_pow_right (n := 2) (by omega) (show n.toNat ≤ 7 by omega)
  have hw2 : w.length < (tourT next f).length := hw.2
  exact ⟨by omega, hw.1⟩
theorem reset_tail (n : Int) (next : List (List Int)) (A : Aut n next) (u w : List Int) (hu8 : IsW8 next.length u) (hwl : w.length ≤ 127) (hw : IsW next.length w) (v5 v25 v28 : Nat) (X : AVal)
    (hX : X = .own 28 v28 ∧ w = u ∨ X = .ro none 1 (ints w)) :
    ∀ σ : St, σ.kd Bz6.kts Bz6.khs = ⟨L .any [(5, .ptr 5 v5 0), (6, .own 28 v28), (7, X)], L .gone [(5, .box v5 [iv n, .own 25 v25]), (25, .row v25 1 true (rwn next)), (28, .row v28 1 true (ints u))]⟩ → wpD Try.prog Bz6 (finQ fun σ => σ.tm 4 = bv true) σ := by
  intro σ hS
  rw [wpD_lab rfl, hS]
  have n1 := A.n1
  have n2 := A.n2
  have hu : IsW next.length u := hu8.2
  have hul := hu8.1
  have hwb : wordB next.length w = true := wordB_iff.2 ⟨by omega, hw⟩
  have hR := k_IsReset n next w
  have hI := k_ImageOf n next (allS n) w
  rw [autB_iff.2 A, hwb] at hR
  rw [autB_iff.2 A, hwb, setB_all (by omega)] at hI
  have xa := actA_rg3 A hw
  have hmg := mrgP_img (next := next) (w := w) n1
  have himg : nrm ((allS n).map fun s => atA next s w) = imgA n next w := rfl
  have huw : IsW next.length (u ++ (w ++ u)) := fun x hx => by
    simp only [List.mem_append] at hx
    rcases hx with h | h | h
    · exact hu x h
    · exact hw x h
    · exact hu x h
  have huwb : wordB next.length (u ++ (w ++ u)) = true := wordB_iff.2 ⟨by rw [List.length_append, List.length_append]; omega, huw⟩
  have hR2 := k_IsReset n next (u ++ (w ++ u))
  rw [autB_iff.2 A, huwb] at hR2
  have hYZ : (imgA n next w).length = 1 → (imgA n next (u ++ (w ++ u))).length = 1 := by
    rw [img_one n1, img_one n1]
    intro h s t hs ht
    rw [atA_app, atA_app, atA_app, atA_app, h _ _ (A.at hs hu) (A.at ht hu)]
  have e0 : codeI true true = 0 := by simp [codeI]
  have e1 : codeI true (true && true) = 0 := by simp [codeI]
  have e00 : ((0 : Int) != 0) = false := rfl
  have hbe : (((imgA n next w).length : Int) == 1) = decide ((imgA n next w).length = 1) := by
    rw [Bool.eq_iff_iff, beq_iff_eq, decide_eq_true_iff]; omega
  rw [himg] at hI
  generalize hYY : decide ((imgA n next w).length = 1) = Y at hR hmg hbe
  generalize hZZ : decide ((imgA n next (u ++ (w ++ u))).length = 1) = Z at hR2
  have hYZ2 : Y = true → Z = true := by
    rw [← hYY, ← hZZ, decide_eq_true_iff, decide_eq_true_iff]; exact hYZ
  generalize hIM : imgA n next w = im at hI hbe
  have hA := k_ActionOf n next w A hw (by omega)
  generalize hxx : actA n next w = x at xa hmg hA
  rcases hX with ⟨rfl, rfl⟩ | rfl
  · simp only [Bz6, dnL_rwn, go_sem, yz0, Int.reduceLT, reduceLE, reduceToNat, reduceNeg, Nat.reduceLT, reduceLeDiff, reduceMul, reduceSub, reduceIte, reduceEqDiff, reduceAdd, reduceCtorEq]
    intro vs
    refine call_fun2 hR qCS ?_
    simp only [e0, Bz48, dnL_rwn, go_sem, yz0, Int.reduceLT, reduceLE, reduceToNat, reduceNeg, Nat.reduceLT, reduceLeDiff, reduceMul, reduceSub, reduceIte, reduceEqDiff, reduceAdd, reduceCtorEq]
    intro vs2
    refine call_rowI (k_a2All n (by omega)) qCS qWS ⟨_, rfl⟩ ?_
    rintro al v60 rfl
    simp only [dnL_rwn, go_sem, yz0, Int.reduceLT, reduceLE, reduceToNat, reduceNeg, Nat.reduceLT, reduceLeDiff, reduceMul, reduceSub, reduceIte, reduceEqDiff, reduceAdd, reduceCtorEq]
    refine call_rowT hI qCS qWS (fun _ v62 => ?_) (fun h => by cases h)
    simp only [e1, Bz47, dnL_rwn, go_sem, yz0, Int.reduceLT, reduceLE, reduceToNat, reduceNeg, Nat.reduceLT, reduceLeDiff, reduceMul, reduceSub, reduceIte, reduceEqDiff, reduceAdd, reduceCtorEq]
    intro vs3
    refine call_tupI hA qCS qWS ⟨_, rfl⟩ ?_
    rintro xs v68 rfl
    simp only [e00, hbe, Bool.true_and, bne_self_eq_false, Bz46, dnL_rwn, go_sem, yz0, Int.reduceLT, reduceLE, reduceToNat, reduceNeg, Nat.reduceLT, reduceLeDiff, reduceMul, reduceSub, reduceIte, reduceEqDiff, reduceAdd, reduceCtorEq]
    intro vs4 hM
    refine yzy (k_a2Map xs n xa.2 xa.1) qCS trivial ?_
    simp only [Bz41, Bz45, Bz44, Bz42, Bool.not_true, dnL_rwn, go_sem, yz0, Int.reduceLT, reduceLE, reduceToNat, reduceNeg, Nat.reduceLT, reduceLeDiff, reduceMul, reduceSub, reduceIte, reduceEqDiff, reduceAdd, reduceCtorEq]
    refine wpD_lo (fun i => n.toNat - i) (fun i => 1 ≤ i ∧ (i : Int) ≤ n)
      (fun (i : Nat) => ⟨L .any [(5, .ptr 5 v5 0), (6, .own 28 v28), (7, .own 28 v28), (11, bv Y), (15, .own 68 v68), (17, bv (mrgP xs i)), (18, iv i)],
        L .gone [(5, .box v5 [iv n, .own 25 v25]), (25, .row v25 1 true (rwn next)), (28, .row v28 1 true (ints w)), (68, .row v68 1 true (ints xs))]⟩)
      1 ⟨by omega, by omega⟩ (by simp only [Bz5, mrgP_one, dnL_rwn, go_sem, yz0, Int.reduceLT, reduceLE, reduceToNat, reduceNeg, Nat.reduceLT, reduceLeDiff, reduceMul, reduceSub, reduceIte, reduceEqDiff, reduceAdd, reduceCtorEq]; try rfl) ?_
    rintro i ⟨hi1, hi⟩
    have hxl := xa.1
    by_cases hil : (i : Int) < n
    · have hix : i < xs.length := by omega
      have h0x : 0 < xs.length := by omega
      have hlt : (i : Int) < xs.length := by omega
      have w2 : IntKind.i64.wrap ((i : Int) + 1) = ((i + 1 : Nat) : Int) := by rw [w64 (by omega)]; simp
      have hs := mrgP_succ (xs := xs) (i := i)
      cases hm : mrgP xs i with
      | false =>
        rw [hm, Bool.false_and] at hs
        simp only [Bz5, Bz9, Bzo, Bzn, w2, decide_eq_true hlt, dnL_rwn, go_sem, yz0, Int.reduceLT, reduceLE, reduceToNat, reduceNeg, Nat.reduceLT, reduceLeDiff, reduceMul, reduceSub, reduceIte, reduceEqDiff, reduceAdd, reduceCtorEq]
        intros
        exact ⟨i + 1, by omega, ⟨by omega, by omega⟩, by rw [hs]⟩
      | true =>
        rw [hm, Bool.true_and] at hs
        simp only [Bz5, Bz9, Bzo, Bzn, yzx hix, yzx h0x, w2, decide_eq_true hlt, dnL_rwn, go_sem, yz0, Int.reduceLT, reduceLE, reduceToNat, reduceNeg, Nat.reduceLT, reduceLeDiff, reduceMul, reduceSub, reduceIte, reduceEqDiff, reduceAdd, reduceCtorEq]
        intros
        refine ⟨⟨by omega, hix⟩, hix, h0x, h0x, ?_⟩
        exact ⟨i + 1, by omega, ⟨by omega, by omega⟩, by rw [hs]⟩
    · have hlt : ¬ (i : Int) < xs.length := by omega
      have hin : i = n.toNat := by omega
      have hmi : mrgP xs i = Y := by rw [hin]; exact hmg
      simp only [Bz5, Bz9, Bz43, hmi, decide_eq_false hlt, dnL_rwn, go_sem, yz0, Int.reduceLT, reduceLE, reduceToNat, reduceNeg, Nat.reduceLT, reduceLeDiff, reduceMul, reduceSub, reduceIte, reduceEqDiff, reduceAdd, reduceCtorEq]
      intro hMx vs5
      refine call_rowI (k_a2Both w w (by omega)) qCS qGN ⟨_, rfl⟩ ?_
      rintro wu v117 rfl
      simp only [dnL_rwn, go_sem, yz0, Int.reduceLT, reduceLE, reduceToNat, reduceNeg, Nat.reduceLT, reduceLeDiff, reduceMul, reduceSub, reduceIte, reduceEqDiff, reduceAdd, reduceCtorEq]
      refine call_rowI (k_a2Both w (w ++ w) (by rw [List.length_append]; omega)) qCS qGN ⟨_, rfl⟩ ?_
      rintro uwu v118 rfl
      simp only [dnL_rwn, go_sem, yz0, Int.reduceLT, reduceLE, reduceToNat, reduceNeg, Nat.reduceLT, reduceLeDiff, reduceMul, reduceSub, reduceIte, reduceEqDiff, reduceAdd, reduceCtorEq]
      refine call_fun2 hR2 qCS ?_
      cases Y with
      | false => simp only [e0, Bzp, Bool.and_true, Bool.true_and, beq_self_eq_true, Bool.not_false, dnL_rwn, go_sem, yz0, Int.reduceLT, reduceLE, reduceToNat, reduceNeg, Nat.reduceLT, reduceLeDiff, reduceMul, reduceSub, reduceIte, reduceEqDiff, reduceAdd, reduceCtorEq]
      | true =>
        obtain rfl := hYZ2 rfl
        simp only [e0, Bzp, Bool.and_true, Bool.true_and, beq_self_eq_true, Bool.not_true, dnL_rwn, go_sem, yz0, Int.reduceLT, reduceLE, reduceToNat, reduceNeg, Nat.reduceLT, reduceLeDiff, reduceMul, reduceSub, reduceIte, reduceEqDiff, reduceAdd, reduceCtorEq]
  · simp only [Bz6, dnL_rwn, go_sem, yz0, Int.reduceLT, reduceLE, reduceToNat, reduceNeg, Nat.reduceLT, reduceLeDiff, reduceMul, reduceSub, reduceIte, reduceEqDiff, reduceAdd, reduceCtorEq]
    intro vs
    refine call_fun2 hR qCS ?_
    simp only [e0, Bz48, dnL_rwn, go_sem, yz0, Int.reduceLT, reduceLE, reduceToNat, reduceNeg, Nat.reduceLT, reduceLeDiff, reduceMul, reduceSub, reduceIte, reduceEqDiff, reduceAdd, reduceCtorEq]
    intro vs2
    refine call_rowI (k_a2All n (by omega)) qCS qWS ⟨_, rfl⟩ ?_
    rintro al v60 rfl
    simp only [dnL_rwn, go_sem, yz0, Int.reduceLT, reduceLE, reduceToNat, reduceNeg, Nat.reduceLT, reduceLeDiff, reduceMul, reduceSub, reduceIte, reduceEqDiff, reduceAdd, reduceCtorEq]
    refine call_rowT hI qCS qWS (fun _ v62 => ?_) (fun h => by cases h)
    simp only [e1, Bz47, dnL_rwn, go_sem, yz0, Int.reduceLT, reduceLE, reduceToNat, reduceNeg, Nat.reduceLT, reduceLeDiff, reduceMul, reduceSub, reduceIte, reduceEqDiff, reduceAdd, reduceCtorEq]
    intro vs3
    refine call_tupI hA qCS qWS ⟨_, rfl⟩ ?_
    rintro xs v68 rfl
    simp only [e00, hbe, Bool.true_and, bne_self_eq_false, Bz46, dnL_rwn, go_sem, yz0, Int.reduceLT, reduceLE, reduceToNat, reduceNeg, Nat.reduceLT, reduceLeDiff, reduceMul, reduceSub, reduceIte, reduceEqDiff, reduceAdd, reduceCtorEq]
    intro vs4 hM
    refine yzy (k_a2Map xs n xa.2 xa.1) qCS trivial ?_
    simp only [Bz41, Bz45, Bz44, Bz42, Bool.not_true, dnL_rwn, go_sem, yz0, Int.reduceLT, reduceLE, reduceToNat, reduceNeg, Nat.reduceLT, reduceLeDiff, reduceMul, reduceSub, reduceIte, reduceEqDiff, reduceAdd, reduceCtorEq]
    refine wpD_lo (fun i => n.toNat - i) (fun i => 1 ≤ i ∧ (i : Int) ≤ n)
      (fun (i : Nat) => ⟨L .any [(5, .ptr 5 v5 0), (6, .own 28 v28), (7, .ro none 1 (ints w)), (11, bv Y), (15, .own 68 v68), (17, bv (mrgP xs i)), (18, iv i)],
        L .gone [(5, .box v5 [iv n, .own 25 v25]), (25, .row v25 1 true (rwn next)), (28, .row v28 1 true (ints u)), (68, .row v68 1 true (ints xs))]⟩)
      1 ⟨by omega, by omega⟩ (by simp only [Bz5, mrgP_one, dnL_rwn, go_sem, yz0, Int.reduceLT, reduceLE, reduceToNat, reduceNeg, Nat.reduceLT, reduceLeDiff, reduceMul, reduceSub, reduceIte, reduceEqDiff, reduceAdd, reduceCtorEq]; try rfl) ?_
    rintro i ⟨hi1, hi⟩
    have hxl := xa.1
    by_cases hil : (i : Int) < n
    · have hix : i < xs.length := by omega
      have h0x : 0 < xs.length := by omega
      have hlt : (i : Int) < xs.length := by omega
      have w2 : IntKind.i64.wrap ((i : Int) + 1) = ((i + 1 : Nat) : Int) := by rw [w64 (by omega)]; simp
      have hs := mrgP_succ (xs := xs) (i := i)
      cases hm : mrgP xs i with
      | false =>
        rw [hm, Bool.false_and] at hs
        simp only [Bz5, Bz9, Bzo, Bzn, w2, decide_eq_true hlt, dnL_rwn, go_sem, yz0, Int.reduceLT, reduceLE, reduceToNat, reduceNeg, Nat.reduceLT, reduceLeDiff, reduceMul, reduceSub, reduceIte, reduceEqDiff, reduceAdd, reduceCtorEq]
        intros
        exact ⟨i + 1, by omega, ⟨by omega, by omega⟩, by rw [hs]⟩
      | true =>
        rw [hm, Bool.true_and] at hs
        simp only [Bz5, Bz9, Bzo, Bzn, yzx hix, yzx h0x, w2, decide_eq_true hlt, dnL_rwn, go_sem, yz0, Int.reduceLT, reduceLE, reduceToNat, reduceNeg, Nat.reduceLT, reduceLeDiff, reduceMul, reduceSub, reduceIte, reduceEqDiff, reduceAdd, reduceCtorEq]
        intros
        refine ⟨⟨by omega, hix⟩, hix, h0x, h0x, ?_⟩
        exact ⟨i + 1, by omega, ⟨by omega, by omega⟩, by rw [hs]⟩
    · have hlt : ¬ (i : Int) < xs.length := by omega
      have hin : i = n.toNat := by omega
      have hmi : mrgP xs i = Y := by rw [hin]; exact hmg
      simp only [Bz5, Bz9, Bz43, hmi, decide_eq_false hlt, dnL_rwn, go_sem, yz0, Int.reduceLT, reduceLE, reduceToNat, reduceNeg, Nat.reduceLT, reduceLeDiff, reduceMul, reduceSub, reduceIte, reduceEqDiff, reduceAdd, reduceCtorEq]
      intro hMx vs5
      refine call_rowI (k_a2Both w u (by omega)) qCS qGN ⟨_, rfl⟩ ?_
      rintro wu v117 rfl
      simp only [dnL_rwn, go_sem, yz0, Int.reduceLT, reduceLE, reduceToNat, reduceNeg, Nat.reduceLT, reduceLeDiff, reduceMul, reduceSub, reduceIte, reduceEqDiff, reduceAdd, reduceCtorEq]
      refine call_rowI (k_a2Both u (w ++ u) (by rw [List.length_append]; omega)) qCS qGN ⟨_, rfl⟩ ?_
      rintro uwu v118 rfl
      simp only [dnL_rwn, go_sem, yz0, Int.reduceLT, reduceLE, reduceToNat, reduceNeg, Nat.reduceLT, reduceLeDiff, reduceMul, reduceSub, reduceIte, reduceEqDiff, reduceAdd, reduceCtorEq]
      refine call_fun2 hR2 qCS ?_
      cases Y with
      | false => simp only [e0, Bzp, Bool.and_true, Bool.true_and, beq_self_eq_true, Bool.not_false, dnL_rwn, go_sem, yz0, Int.reduceLT, reduceLE, reduceToNat, reduceNeg, Nat.reduceLT, reduceLeDiff, reduceMul, reduceSub, reduceIte, reduceEqDiff, reduceAdd, reduceCtorEq]
      | true =>
        obtain rfl := hYZ2 rfl
        simp only [e0, Bzp, Bool.and_true, Bool.true_and, beq_self_eq_true, Bool.not_true, dnL_rwn, go_sem, yz0, Int.reduceLT, reduceLE, reduceToNat, reduceNeg, Nat.reduceLT, reduceLeDiff, reduceMul, reduceSub, reduceIte, reduceEqDiff, reduceAdd, reduceCtorEq]
theorem k_FnReset (code more : List Int) (hb : ∀ x ∈ code, 0 ≤ x ∧ x ≤ 255) (hb2 : ∀ x ∈ more, 0 ≤ x ∧ x ≤ 255) :
    Fun Try.prog nz79 [.ro (some (some 0)) 1 (intsK .u8 code), .ro (some (some 0)) 1 (intsK .u8 more)] (bv true) := by
  refine fun_of mixed czg0 rfl ⟨rfl, trivial⟩ ?_
  simp only [Az7f, Bz7e, go_sem, yz0, Int.reduceLT, reduceLE, reduceToNat, reduceNeg, Nat.reduceLT, reduceLeDiff, reduceMul, reduceSub, reduceIte, reduceEqDiff, reduceAdd, reduceCtorEq]
  intro vs
  refine yzy (k_a2Long code more) qCS trivial ?_
  simp only [Bz7a, Bz7d, go_sem, yz0, Int.reduceLT, reduceLE, reduceToNat, reduceNeg, Nat.reduceLT, reduceLeDiff, reduceMul, reduceSub, reduceIte, reduceEqDiff, reduceAdd, reduceCtorEq]
  intro _ vs2
  refine call_sh (k_A2Automaton code hb) qCS (fun e => by cases e) ?_
  rintro outs rows res ⟨rfl, n, next, v, A, n7, rfl, rfl⟩
  refine ⟨rfl, by simp, by rw [Option.getD_some, yzh]; simp only [go_sem, yz0, Int.reduceLT, reduceLE, reduceToNat, reduceNeg, Nat.reduceLT, reduceLeDiff, reduceMul, reduceSub, reduceIte, reduceEqDiff, reduceAdd, reduceCtorEq], ?_⟩
  have n1 := A.n1
  have n2 := A.n2
  have hp := Nat.two_pow_pos n.toNat
  simp only [Bz7c, Nat.not_lt_zero, range1, yzw, yz11, ren_ro, rnNm_n, yz12, rnNm_o, rnNm_s, ren_st, yzz, yzo, yzf, yz4, yzu, yzt, yzp, yzn, yzr, yzc, yz9, yz8, yze, yzj, yzl, yz3, yz7, yzb, yzd, yzi, yzm, List.range_zero, yz6, yz5, yza, yzv, yzh, yzq, AVal.fresh, freshL, yz2, yzk, AObj.fresh, id, Option.isSome_some, or_true, true_or, go_sem, yz0, Int.reduceLT, reduceLE, reduceToNat, reduceNeg, Nat.reduceLT, reduceLeDiff, reduceMul, reduceSub, reduceIte, reduceEqDiff, reduceAdd, reduceCtorEq]
  intro vs3
  refine call_rowI (k_A2Word more n next hb2 A.l1) qCS qWS ⟨[], by simp [IsW8]⟩ ?_
  rintro u v28 hu8
  simp only [Bz7b, go_sem, yz0, Int.reduceLT, reduceLE, reduceToNat, reduceNeg, Nat.reduceLT, reduceLeDiff, reduceMul, reduceSub, reduceIte, reduceEqDiff, reduceAdd, reduceCtorEq]
  intro vs4
  refine call_ste (k_ShortestH n next A) rfl rfl qCS ?_
  have hS := k_specShortestReset n next A
  have hT := fun g w => tour_short (g := g) (w := w) A n7 (show 2 ^ n.toNat - 1 < 2 ^ n.toNat by omega)
  unfold shortR
  generalize firstT (tourT next (2 ^ n.toNat - 1)) = F at hS hT ⊢
  have tail := fun w X h1 h2 h3 => reset_tail n next A u w hu8 h1 h2 (vs2 2 0) (vs2 1 v) v28 X h3
  have tailU := tail u (.own 28 v28) (by have := hu8.1; omega) hu8.2 (.inl ⟨rfl, rfl⟩)
  cases F with
  | none =>
    rw [Option.isSome_none, if_neg (by simp)] at hS
    have e1 : ((6 : Int) != 6) = false := rfl
    have e2 : ((6 : Int) != 0) = true := rfl
    simp only [Bz4b, Option.getD_some, Nat.not_lt_zero, range1, yzw, yz11, ren_ro, rnNm_n, yz12, rnNm_o, rnNm_s, ren_st, yzz, yzo, yzf, yz4, yzu, yzt, yzp, yzn, yzr, yzc, yz9, yz8, yze, yzj, yzl, yz3, yz7, yzb, yzd, yzi, yzm, List.range_zero, yz6, yz5, yza, yzv, yzh, yzq, AVal.fresh, freshL, yz2, yzk, AObj.fresh, id, Option.isSome_some, or_true, true_or, go_sem, yz0, Int.reduceLT, reduceLE, reduceToNat, reduceNeg, Nat.reduceLT, reduceLeDiff, reduceMul, reduceSub, reduceIte, reduceEqDiff, reduceAdd, reduceCtorEq]
    intro vs5
    refine call_fn hS qCS (fun e => by cases e) ?_
    rintro rows res ⟨v36, ys, rfl, rfl⟩
    refine ⟨by simp, by rw [Option.getD_some, yzh]; simp only [go_sem, yz0, Int.reduceLT, reduceLE, reduceToNat, reduceNeg, Nat.reduceLT, reduceLeDiff, reduceMul, reduceSub, reduceIte, reduceEqDiff, reduceAdd, reduceCtorEq], ?_⟩
    simp only [e1, e2, Bz4a, Bz40, Bz49, Bz1k, Option.getD_some, Nat.not_lt_zero, range1, yzw, yz11, ren_ro, rnNm_n, yz12, rnNm_o, rnNm_s, ren_st, yzz, yzo, yzf, yz4, yzu, yzt, yzp, yzn, yzr, yzc, yz9, yz8, yze, yzj, yzl, yz3, yz7, yzb, yzd, yzi, yzm, List.range_zero, yz6, yz5, yza, yzv, yzh, yzq, AVal.fresh, freshL, yz2, yzk, AObj.fresh, id, Option.isSome_some, or_true, true_or, go_sem, yz0, Int.reduceLT, reduceLE, reduceToNat, reduceNeg, Nat.reduceLT, reduceLeDiff, reduceMul, reduceSub, reduceIte, reduceEqDiff, reduceAdd, reduceCtorEq]
    exact tailU _ (by simp only [Bz6, dnL_rwn, go_sem, yz0, Int.reduceLT, reduceLE, reduceToNat, reduceNeg, Nat.reduceLT, reduceLeDiff, reduceMul, reduceSub, reduceIte, reduceEqDiff, reduceAdd, reduceCtorEq]; try rfl)
  | some p =>
    obtain ⟨g, w⟩ := p
    rw [Option.isSome_some, if_pos rfl] at hS
    obtain ⟨hw1, hw2⟩ := hT g w rfl
    have e1 : ((0 : Int) != 0) = false := rfl
    simp only [Bz4b, Option.getD_some, Nat.not_lt_zero, range1, yzw, yz11, ren_ro, rnNm_n, yz12, rnNm_o, rnNm_s, ren_st, yzz, yzo, yzf, yz4, yzu, yzt, yzp, yzn, yzr, yzc, yz9, yz8, yze, yzj, yzl, yz3, yz7, yzb, yzd, yzi, yzm, List.range_zero, yz6, yz5, yza, yzv, yzh, yzq, AVal.fresh, freshL, yz2, yzk, AObj.fresh, id, Option.isSome_some, or_true, true_or, go_sem, yz0, Int.reduceLT, reduceLE, reduceToNat, reduceNeg, Nat.reduceLT, reduceLeDiff, reduceMul, reduceSub, reduceIte, reduceEqDiff, reduceAdd, reduceCtorEq]
    intro vs5
    refine call_fn hS qCS (fun e => by cases e) ?_
    rintro rows res ⟨v36, ys, rfl, rfl⟩
    refine ⟨by simp, by rw [Option.getD_some, yzh]; simp only [go_sem, yz0, Int.reduceLT, reduceLE, reduceToNat, reduceNeg, Nat.reduceLT, reduceLeDiff, reduceMul, reduceSub, reduceIte, reduceEqDiff, reduceAdd, reduceCtorEq], ?_⟩
    simp only [e1, Bz4a, Bz40, Bz49, Option.getD_some, Nat.not_lt_zero, range1, yzw, yz11, ren_ro, rnNm_n, yz12, rnNm_o, rnNm_s, ren_st, yzz, yzo, yzf, yz4, yzu, yzt, yzp, yzn, yzr, yzc, yz9, yz8, yze, yzj, yzl, yz3, yz7, yzb, yzd, yzi, yzm, List.range_zero, yz6, yz5, yza, yzv, yzh, yzq, AVal.fresh, freshL, yz2, yzk, AObj.fresh, id, Option.isSome_some, or_true, true_or, go_sem, yz0, Int.reduceLT, reduceLE, reduceToNat, reduceNeg, Nat.reduceLT, reduceLeDiff, reduceMul, reduceSub, reduceIte, reduceEqDiff, reduceAdd, reduceCtorEq]
    intros
    refine call_funE (k_a2At more 0 2 hb2 (by omega)) qCS ⟨_, 0, rfl, by omega, .inr rfl⟩ ?_
    rintro _ ⟨b, rfl, hb1, hb3⟩
    by_cases hb0 : b = 0
    · subst hb0
      simp only [beq_self_eq_true, Bz1k, dnL_rwn, go_sem, yz0, Int.reduceLT, reduceLE, reduceToNat, reduceNeg, Nat.reduceLT, reduceLeDiff, reduceMul, reduceSub, reduceIte, reduceEqDiff, reduceAdd, reduceCtorEq]
      exact tailU _ (by simp only [Bz6, dnL_rwn, go_sem, yz0, Int.reduceLT, reduceLE, reduceToNat, reduceNeg, Nat.reduceLT, reduceLeDiff, reduceMul, reduceSub, reduceIte, reduceEqDiff, reduceAdd, reduceCtorEq]; try rfl)
    · have hbe : (b == 0) = false := by simpa using hb0
      simp only [hbe, Bz1k, dnL_rwn, go_sem, yz0, Int.reduceLT, reduceLE, reduceToNat, reduceNeg, Nat.reduceLT, reduceLeDiff, reduceMul, reduceSub, reduceIte, reduceEqDiff, reduceAdd, reduceCtorEq]
      exact tail w (.ro none 1 (ints w)) hw1 hw2 (.inr rfl) _ (by simp only [Bz6, dnL_rwn, go_sem, yz0, Int.reduceLT, reduceLE, reduceToNat, reduceNeg, Nat.reduceLT, reduceLeDiff, reduceMul, reduceSub, reduceIte, reduceEqDiff, reduceAdd, reduceCtorEq]; try rfl)
end Go.Ab
