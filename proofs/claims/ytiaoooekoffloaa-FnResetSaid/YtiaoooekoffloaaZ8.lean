/- Contracts and what they lean on, part 8. Conditions: none. -/
import Derived.Lib.SlicesCompact
import Derived.Shelf.SlGeneric
import Derived.Shelf.SortG.Plain
import Derived.Shelf.SortG.SortNone
import Derived.Ground.SlgnProg
import Derived.Shelf.SlicesG.CompactI
import Derived.Test.YtiaoooekoffloaaProg
import Derived.Test.YtiaoooekoffloaaZ7
set_option maxRecDepth 100000
set_option maxHeartbeats 4000000
set_option linter.all false
open Nat (reduceLeDiff reduceMul reduceSub reduceEqDiff reduceAdd)
open Int (reduceToNat reduceNeg reduceLE)
namespace Go.Ab
def SI (l : List Int) : Prop := l.Pairwise (· < ·)
theorem SI_ext : ∀ {a b : List Int}, SI a → SI b → (∀ x, x ∈ a ↔ x ∈ b) → a = b
  | [], [], _, _, _ => rfl
  | [], y :: b, _, _, h => by have := (h y).2 (by simp); simp at this
  | x :: a, [], _, _, h => by have := (h x).1 (by simp); simp at this
  | x :: a, y :: b, ha, hb, h => by
    unfold SI at ha hb
    rw [List.pairwise_cons] at ha hb
    have e : x = y := by
      rcases List.mem_cons.1 ((h x).1 (by simp)) with e | h1
      · exact e
      · rcases List.mem_cons.1 ((h y).2 (by simp)) with e | h2
        · exact e.symm
        · have := hb.1 x h1; have := ha.1 y h2; omega
    subst e
    have : a = b := SI_ext ha.2 hb.2 fun z => by
      constructor
      · intro hz
        rcases List.mem_cons.1 ((h z).1 (by simp [hz])) with e | h1
        · have := ha.1 z hz; omega
        · exact h1
      · intro hz
        rcases List.mem_cons.1 ((h z).2 (by simp [hz])) with e | h1
        · have := hb.1 z hz; omega
        · exact h1
    rw [this]
def put : List Int → Int → List Int
  | [], n => [n]
  | x :: xs, n => if n ≤ x then (if n < x then n :: x :: xs else x :: xs) else x :: put xs n
theorem put_mem {n y : Int} : ∀ {xs : List Int}, y ∈ put xs n ↔ y = n ∨ y ∈ xs
  | [] => by simp [put]
  | x :: xs => by
    simp only [put]
    split
    · split
      · simp
      · have : x = n := by omega
        subst this
        simp
    · rw [List.mem_cons, put_mem, List.mem_cons]
      constructor
      · rintro (h | h | h)
        · exact .inr (.inl h)
        · exact .inl h
        · exact .inr (.inr h)
      · rintro (h | h | h)
        · exact .inr (.inl h)
        · exact .inl h
        · exact .inr (.inr h)
theorem put_SI {n : Int} : ∀ {xs : List Int}, SI xs → SI (put xs n)
  | [], _ => by simp [put, SI]
  | x :: xs, h => by
    have h0 := h
    unfold SI at h
    rw [List.pairwise_cons] at h
    simp only [put]
    split
    · split
      · unfold SI
        rw [List.pairwise_cons]
        refine ⟨fun y hy => ?_, h0⟩
        rcases List.mem_cons.1 hy with rfl | hy
        · assumption
        · have := h.1 y hy; omega
      · exact h0
    · unfold SI
      rw [List.pairwise_cons]
      refine ⟨fun y hy => ?_, put_SI h.2⟩
      rcases put_mem.1 hy with rfl | hy
      · omega
      · exact h.1 y hy
def nrm (l : List Int) : List Int := l.foldl put []
theorem nrm_acc : ∀ (l acc : List Int), SI acc → SI (l.foldl put acc) ∧ ∀ y, y ∈ l.foldl put acc ↔ y ∈ acc ∨ y ∈ l
  | [], acc, h => ⟨h, by simp⟩
  | x :: l, acc, h => by
    obtain ⟨h1, h2⟩ := nrm_acc l (put acc x) (put_SI h)
    refine ⟨h1, fun y => ?_⟩
    rw [List.foldl_cons, h2, put_mem, List.mem_cons]
    constructor
    · rintro ((h | h) | h)
      · exact .inr (.inl h)
      · exact .inl h
      · exact .inr (.inr h)
    · rintro (h | h | h)
      · exact .inl (.inr h)
      · exact .inl (.inl h)
      · exact .inr h
theorem nrm_SI (l : List Int) : SI (nrm l) := (nrm_acc l [] (by simp [SI])).1
theorem nrm_mem {l : List Int} {y : Int} : y ∈ nrm l ↔ y ∈ l := by
  have := (nrm_acc l [] (by simp [SI])).2 y
  simpa [nrm] using this
theorem compact_sorted {zs : List Int} (h : zs.Pairwise (· ≤ ·)) : SI (Lib.compact zs) ∧ ∀ y, y ∈ Lib.compact zs ↔ y ∈ zs := by
  have hget : ∀ j, j < zs.length → zs.toArray[j]! = zs.getD j 0 := by
    intro j hj
    rw [getElem!_pos _ j (by simpa using hj), List.getD_eq_getElem?_getD, List.getElem?_eq_getElem hj]; simp
  have hle : ∀ i j, i < j → j < zs.length → zs.getD i 0 ≤ zs.getD j 0 := by
    intro i j hij hj
    rw [List.pairwise_iff_getElem] at h
    have := h i j (by omega) hj hij
    rw [List.getD_eq_getElem?_getD, List.getElem?_eq_getElem (by omega), List.getD_eq_getElem?_getD, List.getElem?_eq_getElem hj]
    exact this
  have key : ∀ m, m ≤ zs.length → SI (Lib.compactUpTo zs.toArray m) ∧ ∀ y, y ∈ Lib.compactUpTo zs.toArray m ↔ y ∈ zs.take m := by
    intro m
    induction m with
    | zero => intro _; simp [Lib.compactUpTo, SI]
    | succ m ih =>
      intro hm
      obtain ⟨h1, h2⟩ := ih (by omega)
      have ht : zs.take (m + 1) = zs.take m ++ [zs.getD m 0] := by
        rw [List.take_succ_eq_append_getElem (by omega), List.getD_eq_getElem?_getD, List.getElem?_eq_getElem (by omega)]; rfl
      rw [Lib.compactUpTo_succ, ht, hget m (by omega)]
      have hlast : ∀ y ∈ zs.take m, y ≤ zs.getD (m - 1) 0 := by
        intro y hy
        obtain ⟨i, hi, rfl⟩ := List.mem_iff_getElem.1 hy
        have hi' : i < m := by simp at hi; omega
        rw [List.getElem_take]
        have e : zs[i] = zs.getD i 0 := by rw [List.getD_eq_getElem?_getD, List.getElem?_eq_getElem (by omega)]; rfl
        rw [e]
        by_cases hi2 : i = m - 1
        · rw [hi2]; exact Int.le_refl _
        · exact hle i (m - 1) (by omega) (by omega)
      by_cases hk : Lib.keeps zs.toArray m = true
      · rw [if_pos hk]
        refine ⟨?_, fun y => by rw [List.mem_append, List.mem_append, h2]⟩
        unfold SI at h1 ⊢
        rw [List.pairwise_append]
        refine ⟨h1, by simp, ?_⟩
        intro x hx y hy
        have hy : y = zs.getD m 0 := by simpa using hy
        subst hy
        have hx1 := hlast x ((h2 x).1 hx)
        have hm0 : m ≠ 0 := by
          rintro rfl
          have := (h2 x).1 hx
          simp at this
        have hk' : zs.getD m 0 ≠ zs.getD (m - 1) 0 := by
          have := hk
          simp only [Lib.keeps, decide_eq_true_eq, hget m (by omega), hget (m - 1) (by omega)] at this
          rcases this with e | e
          · exact absurd e hm0
          · exact e
        have := hle (m - 1) m (by omega) (by omega)
        omega
      · have hk2 : Lib.keeps zs.toArray m = false := by simpa using hk
        rw [if_neg (by rw [hk2]; simp), List.append_nil]
        refine ⟨h1, fun y => ?_⟩
        rw [h2, List.mem_append, List.mem_singleton]
        simp only [Lib.keeps, decide_eq_false_iff_not, hget m (by omega), hget (m - 1) (by omega)] at hk2
        have hm0 : m ≠ 0 := fun e => hk2 (.inl e)
        have he : zs.getD m 0 = zs.getD (m - 1) 0 := Classical.byContradiction fun e => hk2 (.inr e)
        constructor
        · exact .inl
        · rintro (h | rfl)
          · exact h
          · rw [he]
            have : (zs.take m).getD (m - 1) 0 = zs.getD (m - 1) 0 := by
              rw [List.getD_eq_getElem?_getD, List.getElem?_take, if_pos (by omega), ← List.getD_eq_getElem?_getD]
            rw [← this, List.getD_eq_getElem?_getD, List.getElem?_eq_getElem (by simp; omega)]
            exact List.getElem_mem _
  have := key zs.length (Nat.le_refl _)
  rw [List.take_length] at this
  exact this
theorem compact_nrm (l : List Int) : Lib.compact (l.mergeSort fun x y => decide (x ≤ y)) = nrm l := by
  have hs : (l.mergeSort fun x y => decide (x ≤ y)).Pairwise (· ≤ ·) := by
    have := List.pairwise_mergeSort (le := fun x y : Int => decide (x ≤ y)) (fun a b c h1 h2 => by simp at *; omega) (fun a b => by simp; omega) l
    exact this.imp fun h => by simpa using h
  obtain ⟨h1, h2⟩ := compact_sorted hs
  refine SI_ext h1 (nrm_SI l) fun x => ?_
  rw [h2, nrm_mem, List.mem_mergeSort]
theorem compact_len (zs : List Int) : (Lib.compact zs).length ≤ zs.length := by
  unfold Lib.compact Lib.compactUpTo
  rw [List.length_map]
  exact Nat.le_trans (List.length_filter_le _ _) (by simp)
end Go.Ab
namespace Go.Proofs
open Go.Shelf
def Try.lsort_ren : Go.Shelf.Ren := ⟨fun | 53 => 108 | 64 => 118 | 63 => 117 | 78 => 128 | 79 => 129 | 70 => 119 | 71 => 120 | 72 => 121 | 73 => 122 | 74 => 123 | 75 => 124 | 59 => 125 | 76 => 126 | 77 => 127 | 88 => 130 | 89 => 131 | 90 => 132 | 91 => 133 | 92 => 134 | 68 => 135 | 96 => 136 | n => n, fun | 22 => 32 | 23 => 2 | 3 => 3 | 51 => 103 | 0 => 0 | 67 => 130 | 69 => 72 | 4 => 4 | 61 => 123 | 60 => 122 | 44 => 127 | 5 => 5 | 9 => 9 | 75 => 132 | 79 => 136 | 83 => 138 | 84 => 139 | n => n, fun | n => n⟩
theorem Try.lsort : Go.Proofs.SlLaysN.n53 Try.prog Try.lsort_ren := {
  mixed := by kernel_rfl
  f53 := ⟨Try.f108.name, by decide, Try.func108.trans (congrArg some (by kernel_rfl))⟩
  f59 := ⟨Try.f125.name, by decide, Try.func125.trans (congrArg some (by kernel_rfl))⟩
  f63 := ⟨Try.f117.name, by decide, Try.func117.trans (congrArg some (by kernel_rfl))⟩
  f64 := Try.func118.trans (congrArg some (by kernel_rfl))
  f68 := ⟨Try.f135.name, by decide, Try.func135.trans (congrArg some (by kernel_rfl))⟩
  f70 := ⟨Try.f119.name, by decide, Try.func119.trans (congrArg some (by kernel_rfl))⟩
  f71 := ⟨Try.f120.name, by decide, Try.func120.trans (congrArg some (by kernel_rfl))⟩
  f72 := ⟨Try.f121.name, by decide, Try.func121.trans (congrArg some (by kernel_rfl))⟩
  f73 := ⟨Try.f122.name, by decide, Try.func122.trans (congrArg some (by kernel_rfl))⟩
  f74 := ⟨Try.f123.name, by decide, Try.func123.trans (congrArg some (by kernel_rfl))⟩
  f75 := ⟨Try.f124.name, by decide, Try.func124.trans (congrArg some (by kernel_rfl))⟩
  f76 := ⟨Try.f126.name, by decide, Try.func126.trans (congrArg some (by kernel_rfl))⟩
  f77 := ⟨Try.f127.name, by decide, Try.func127.trans (congrArg some (by kernel_rfl))⟩
  f78 := Try.func128.trans (congrArg some (by kernel_rfl))
  f79 := Try.func129.trans (congrArg some (by kernel_rfl))
  f88 := ⟨Try.f130.name, by decide, Try.func130.trans (congrArg some (by kernel_rfl))⟩
  f89 := Try.func131.trans (congrArg some (by kernel_rfl))
  f90 := Try.func132.trans (congrArg some (by kernel_rfl))
  f91 := ⟨Try.f133.name, by decide, Try.func133.trans (congrArg some (by kernel_rfl))⟩
  f92 := ⟨Try.f134.name, by decide, Try.func134.trans (congrArg some (by kernel_rfl))⟩
  f96 := ⟨Try.f136.name, by decide, Try.func136.trans (congrArg some (by kernel_rfl))⟩
  t0 := Try.underlying0
  a0 := Try.isAgg0
  z0 := Try.sizeOf0
  v0 := Try.zeroValue0
  t3 := Try.underlying3
  a3 := Try.isAgg3
  z3 := Try.sizeOf3
  v3 := Try.zeroValue3
  t4 := Try.underlying4
  a4 := Try.isAgg4
  z4 := Try.sizeOf4
  v4 := Try.zeroValue4
  t5 := Try.underlying5
  a5 := Try.isAgg5
  z5 := Try.sizeOf5
  v5 := Try.zeroValue5
  t9 := Try.underlying9
  a9 := Try.isAgg9
  z9 := Try.sizeOf9
  v9 := Try.zeroValue9
  t22 := Try.underlying32
  a22 := Try.isAgg32
  z22 := Try.sizeOf32
  v22 := Try.zeroValue32
  t23 := Try.underlying2
  a23 := Try.isAgg2
  z23 := Try.sizeOf2
  v23 := Try.zeroValue2
  t44 := Try.underlying127
  a44 := Try.isAgg127
  z44 := Try.sizeOf127
  v44 := Try.zeroValue127
  t51 := Try.underlying103
  a51 := Try.isAgg103
  z51 := Try.sizeOf103
  v51 := Try.zeroValue103
  t60 := Try.underlying122
  a60 := Try.isAgg122
  z60 := Try.sizeOf122
  v60 := Try.zeroValue122
  t61 := Try.underlying123
  a61 := Try.isAgg123
  z61 := Try.sizeOf123
  v61 := Try.zeroValue123
  t67 := Try.underlying130
  a67 := Try.isAgg130
  z67 := Try.sizeOf130
  v67 := Try.zeroValue130
  t69 := Try.underlying72
  a69 := Try.isAgg72
  z69 := Try.sizeOf72
  v69 := Try.zeroValue72
  t75 := Try.underlying132
  a75 := Try.isAgg132
  z75 := Try.sizeOf132
  v75 := Try.zeroValue132
  t79 := Try.underlying136
  a79 := Try.isAgg136
  z79 := Try.sizeOf136
  v79 := Try.zeroValue136
  t83 := Try.underlying138
  a83 := Try.isAgg138
  z83 := Try.sizeOf138
  v83 := Try.zeroValue138
  t84 := Try.underlying139
  a84 := Try.isAgg139
  z84 := Try.sizeOf139
  v84 := Try.zeroValue139 }
def Try.lcompact_ren : Go.Shelf.Ren := ⟨fun | 43 => 109 | n => n, fun | 22 => 32 | 23 => 2 | 3 => 3 | 4 => 4 | 0 => 0 | n => n, fun | n => n⟩
theorem Try.lcompact : Go.Proofs.SlLaysN.n43 Try.prog Try.lcompact_ren := {
  mixed := by kernel_rfl
  f43 := ⟨Try.f109.name, by decide, Try.func109.trans (congrArg some (by kernel_rfl))⟩
  t0 := Try.underlying0
  a0 := Try.isAgg0
  z0 := Try.sizeOf0
  v0 := Try.zeroValue0
  t3 := Try.underlying3
  a3 := Try.isAgg3
  z3 := Try.sizeOf3
  v3 := Try.zeroValue3
  t4 := Try.underlying4
  a4 := Try.isAgg4
  z4 := Try.sizeOf4
  v4 := Try.zeroValue4
  t22 := Try.underlying32
  a22 := Try.isAgg32
  z22 := Try.sizeOf32
  v22 := Try.zeroValue32
  t23 := Try.underlying2
  a23 := Try.isAgg2
  z23 := Try.sizeOf2
  v23 := Try.zeroValue2
  i23 := by kernel_rfl }
end Go.Proofs
namespace Go.Ab
open Go.Proofs
theorem k_Sort (zs : List Int) (nn : Bool) (hz : zs.length < 4611686018427387904) : Con Try.prog nz3u [.row 0 1 nn (ints zs)] [.own 5000 0] true
    fun outs rows res => outs = [.row 0 1 nn (ints (zs.mergeSort fun x y => decide (x ≤ y)))] ∧ rows = [] ∧ res = .tup [] := by
  refine con_inrow x_slices_Sort_LI zs _ (by simp) (fun g off cap w hH hb _ _ => ?_) (fun p cap w => ?_) nn
  · refine (AnyG.slices_Sort_int Try.lsort g off cap zs w hH hb hz).mono ?_
    rintro e w' ⟨he, n, os, hw⟩
    exact ⟨he, n, os, hw⟩
  · exact AnyG.slices_Sort_int_none Try.lsort p cap w
theorem k_Compact (zs : List Int) (nn : Bool) : Con Try.prog nz3v [.row 0 1 nn (ints zs)] [.own 5000 0] true
    fun outs rows res => ∃ v, outs = [.row v 1 nn (ints (Lib.compact zs))] ∧ rows = [] ∧ res = .own 5000 v := by
  have hl := compact_len zs
  have h := con_inrowS x_slices_Compact_LI zs (Lib.compact zs ++ List.replicate (zs.length - (Lib.compact zs).length) 0) (Lib.compact zs).length (by simp; omega) hl
    (fun g off cap w hH hb hm hc => by
      refine (AnyG.slices_Compact_int Try.lcompact g off cap zs w hH (by have := maxLen_le; omega) hc).mono ?_
      rintro e w' ⟨he, q, hw⟩
      exact ⟨he, q, #[], by rw [Sort.grow_empty]; exact hw⟩)
    (fun p cap w => AnyG.slices_Compact_int_empty Try.lcompact p cap w) nn
  rw [List.take_left] at h
  exact h
theorem call_row1 {P : Program} {σ : St} {g : FuncId} {As : List AVal} {d : Option Nat} {s : Nat → Nat} {K : St → Prop} {r v : Nat} {cs cs' : List AVal} {nn : Bool} {R : List AObj → List AObj → AVal → Prop}
    (h : Con P g [.row 0 1 nn cs'] [.own 5000 0] true R) (hr : σ.hp r = .row v 1 nn cs) (hco : CoeL σ.hp [r] false cs' cs) (hA : As = [.own r v])
    (hk : ∀ outs rows res, R outs rows res → rows = [] ∧ ∃ o, outs = [o] ∧ K (St.put ⟨σ.tm, upd σ.hp r (o.ren (rid [r] (d.getD 0) 0) (sv σ.hp [r] s))⟩ d (res.ren (rid [r] (d.getD 0) 0) (sv σ.hp [r] s)))) :
    wpCall P false σ g As d s K := by
  subst hA
  refine .inl ⟨[r], [.row 0 1 nn cs'], [.own 5000 0], true, R, h, ⟨by simp, rfl, by simp, by simp [hr], ?_⟩, ?_, (fun e => by cases e), ?_⟩
  · intro j B r' hB hr'
    cases j with
    | succ j => simp at hB
    | zero =>
      simp at hB hr'; subst hB; subst hr'
      simp only [ObjCoe, hr]
      exact ⟨trivial, v, cs, rfl, hco⟩
  · rw [yzs]
    simp only [Coe, yz18, and_true]
    exact ⟨0, r, v, rfl, rfl, rfl, rfl, by rw [hr]; rfl⟩
  · intro outs rows res hR
    obtain ⟨rfl, o, rfl, hK⟩ := hk outs rows res hR
    refine ⟨rfl, by simp, by simp, ?_⟩
    rw [callHp_m]
    exact hK
theorem coe_argN_self {hp : Nat → AObj} {m : List Nat} {len : Bool} {xs : List Int} : Coe hp m len (.ro (argN xs) 1 (ints xs)) (.ro (argN xs) 1 (ints xs)) = True := by
  by_cases h : xs.length = 0
  · have e : argN xs = some none := by unfold argN; rw [if_pos h]
    have := coe_argN (hp := hp) (m := m) (len := len) (xs := xs)
    rw [e] at this ⊢; exact this
  · have e : argN xs = none := by unfold argN; rw [if_neg h]
    rw [e, coe_ro]
    exact eq_true ⟨by omega, coeL_self fun A hA => by simp only [List.mem_map] at hA; obtain ⟨x, _, rfl⟩ := hA; exact ⟨_, rfl⟩⟩
theorem coe_argN_own {hp : Nat → AObj} {r v : Nat} {xs : List Int} (h : hp r = .row v 1 true (ints xs)) : Coe hp [] true (.ro (argN xs) 1 (ints xs)) (.own r v) := by
  simp only [Coe]
  refine ⟨?_, by omega, .inr (.inr ⟨trivial, r, v, true, ints xs, rfl, by simp, h, coeL_ints⟩)⟩
  by_cases e : xs.length = 0
  · have h0 : xs = [] := List.eq_nil_of_length_eq_zero e
    subst h0
    exact .inr (.inr ⟨rfl, rfl, .inr ⟨r, v, 1, _, rfl, h⟩⟩)
  · left; unfold argN; rw [if_neg e]
theorem sv_0 {hp : Nat → AObj} {r v : Nat} {s : Nat → Nat} (h : (hp r).ver = some v) : sv hp [r] s 0 = v := by
  unfold sv; simp [h]
theorem ren_own_h {r d n u : Nat} {s : Nat → Nat} : AVal.ren (rid [r] d n) s (.own 5000 u) = .own r (s u) := by
  have h1 : rid [r] d n 5000 = some r := rid_m (j := 0) (by omega) rfl
  simp only [AVal.ren, h1]
theorem k_sorted (xs : List Int) (h : xs.length * 8 ≤ 140737488355328) : RowI Try.prog nz3k [.ro (argN xs) 1 (ints xs)] (fun ys => ys = nrm xs) := by
  refine rowI_of mixed czhb rfl ?_
  simp only [Azcd, Bzcc, go_sem, yz0, Int.reduceLT, reduceLE, reduceToNat, reduceNeg, Nat.reduceLT, reduceLeDiff, reduceMul, reduceSub, reduceIte, reduceEqDiff, reduceAdd, reduceCtorEq]
  intro vs
  refine call_rowI (k_Clone xs h) (by simp only [coe_argN_self, rowIs, boxIs, coe_argN, coe_argNs, coe_ro_o, yz18, yzs, coe_any, coe_val, coe_ro, yz17, yz15, coe_st, yz16, coe_rp, yz14, coe_clo, coe_own0, coe_ptr0, yz13, coeL_rws, coeL_rwn, L_hit, L_miss, L_nil, reduceEqDiff, ne_eq, reduceCtorEq, not_false_eq_true, true_and, and_true, and_self, exists_eq_left, exists_eq_right, List.mem_cons, List.not_mem_nil, or_false, AObj.row.injEq, AObj.box.injEq, exists_eq_left', exists_and_left, exists_eq, Nat.zero_lt_one, Nat.lt_add_one, List.map_cons, List.map_nil, AObj.ver, Nat.reduceLT, not_true_eq_false]) rfl ⟨_, rfl⟩ ?_
  rintro ys v rfl
  simp only [Bzcb, go_sem, yz0, Int.reduceLT, reduceLE, reduceToNat, reduceNeg, Nat.reduceLT, reduceLeDiff, reduceMul, reduceSub, reduceIte, reduceEqDiff, reduceAdd, reduceCtorEq]
  intro vs2
  refine call_row1 (k_Sort ys true (by omega)) (r := 5) (v := v) qWS coeL_ints qWS ?_
  rintro outs rows res ⟨rfl, rfl, rfl⟩
  refine ⟨rfl, _, rfl, ?_⟩
  have e0 := sv_0 (hp := L AObj.gone [(5, AObj.row v 1 true (ints ys))]) (r := 5) (v := v) (s := vs2 1) rfl
  simp only [e0, Nat.not_lt_zero, range1, yzw, yz11, ren_ro, rnNm_n, yz12, rnNm_o, rnNm_s, ren_st, yzz, yzo, yzf, yz4, yzu, yzt, yzp, yzn, yzr, yzc, yz9, yz8, yze, yzj, yzl, yz3, yz7, yzb, yzd, yzi, yzm, List.range_zero, yz6, yz5, yza, yzv, yzh, yzq, AVal.fresh, freshL, yz2, yzk, AObj.fresh, id, Option.isSome_some, or_true, true_or, go_sem, yz0, Int.reduceLT, reduceLE, reduceToNat, reduceNeg, Nat.reduceLT, reduceLeDiff, reduceMul, reduceSub, reduceIte, reduceEqDiff, reduceAdd, reduceCtorEq]
  simp only [Bzca, go_sem, yz0, Int.reduceLT, reduceLE, reduceToNat, reduceNeg, Nat.reduceLT, reduceLeDiff, reduceMul, reduceSub, reduceIte, reduceEqDiff, reduceAdd, reduceCtorEq]
  intro vs3
  refine call_row1 (k_Compact _ true) (r := 5) (v := v) (by simp only [go_sem, yz0, Int.reduceLT, reduceLE, reduceToNat, reduceNeg, Nat.reduceLT, reduceLeDiff, reduceMul, reduceSub, reduceIte, reduceEqDiff, reduceAdd, reduceCtorEq]; rfl) coeL_ints qWS ?_
  rintro outs rows res ⟨u, rfl, rfl, rfl⟩
  refine ⟨rfl, _, rfl, ?_⟩
  simp only [compact_nrm, ren_own_h, Nat.not_lt_zero, range1, yzw, yz11, ren_ro, rnNm_n, yz12, rnNm_o, rnNm_s, ren_st, yzz, yzo, yzf, yz4, yzu, yzt, yzp, yzn, yzr, yzc, yz9, yz8, yze, yzj, yzl, yz3, yz7, yzb, yzd, yzi, yzm, List.range_zero, yz6, yz5, yza, yzv, yzh, yzq, AVal.fresh, freshL, yz2, yzk, AObj.fresh, id, Option.isSome_some, or_true, true_or, go_sem, yz0, Int.reduceLT, reduceLE, reduceToNat, reduceNeg, Nat.reduceLT, reduceLeDiff, reduceMul, reduceSub, reduceIte, reduceEqDiff, reduceAdd, reduceCtorEq]
  exact ⟨5, _, nrm ys, by omega, rfl, by simp only [go_sem, yz0, Int.reduceLT, reduceLE, reduceToNat, reduceNeg, Nat.reduceLT, reduceLeDiff, reduceMul, reduceSub, reduceIte, reduceEqDiff, reduceAdd, reduceCtorEq], rfl⟩
theorem k_image (n : Int) (next : List (List Int)) (set w : List Int) (A : Aut n next) (hs : ∀ s ∈ set, 0 ≤ s ∧ s < n) (hw : IsW next.length w) (hl : set.length ≤ 1000000) :
    RowI Try.prog nz1a [autA n next, .ro none 1 (ints set), .ro none 1 (ints w)] (fun ys => ys = nrm (set.map fun s => atA next s w)) := by
  refine rowI_of mixed czgs rfl ?_
  simp only [Azah, Bzag, go_sem, yz0, Int.reduceLT, reduceLE, reduceToNat, reduceNeg, Nat.reduceLT, reduceLeDiff, reduceMul, reduceSub, reduceIte, reduceEqDiff, reduceAdd, reduceCtorEq]
  intro vs vs2
  simp only [Bzaf, Bzad, go_sem, yz0, Int.reduceLT, reduceLE, reduceToNat, reduceNeg, Nat.reduceLT, reduceLeDiff, reduceMul, reduceSub, reduceIte, reduceEqDiff, reduceAdd, reduceCtorEq]
  intro hM
  refine wpD_lo (fun (_, i) => set.length - i) (fun (_, i) => i ≤ set.length)
    (fun ((v, i) : Nat × Nat) => ⟨L .any [(2, .ro none 1 (ints w)), (3, .ptr 3 (vs 0 0) 0), (7, .own 10 v), (11, .ro none 1 (ints set)), (12, iv set.length), (13, iv i)], L .gone [(3, .box (vs 0 0) [iv n, .ro none 1 (rwn next)]), (10, .row v 1 true (ints ((set.take i).map fun s => atA next s w)))]⟩) (_, 0) (by simp) (by simp only [Bz25, go_sem, yz0, Int.reduceLT, reduceLE, reduceToNat, reduceNeg, Nat.reduceLT, reduceLeDiff, reduceMul, reduceSub, reduceIte, reduceEqDiff, reduceAdd, reduceCtorEq]; try rfl) ?_
  rintro ⟨v, i⟩ hi
  by_cases hlt : (i : Int) < set.length
  · have hlt1 : i < set.length := by omega
    simp only [Bz25, Bz4y, Bz4x, yzx hlt1, decide_eq_true hlt, go_sem, yz0, Int.reduceLT, reduceLE, reduceToNat, reduceNeg, Nat.reduceLT, reduceLeDiff, reduceMul, reduceSub, reduceIte, reduceEqDiff, reduceAdd, reduceCtorEq]
    refine ⟨⟨by omega, hlt1⟩, hlt1, ?_⟩
    simp only [Bzab, go_sem, yz0, Int.reduceLT, reduceLE, reduceToNat, reduceNeg, Nat.reduceLT, reduceLeDiff, reduceMul, reduceSub, reduceIte, reduceEqDiff, reduceAdd, reduceCtorEq]
    intro vs3
    refine yzy (k_at n next (set.getD i 0) w A (hs _ (yz10 hlt1 _)) hw) qCS trivial ?_
    have hr : ((set.take i).map fun s => atA next s w) ++ [atA next (set.getD i 0) w] = (set.take (i + 1)).map fun s => atA next s w := by
      rw [List.take_succ_eq_append_getElem hlt1, List.map_append, List.getD_eq_getElem?_getD, List.getElem?_eq_getElem hlt1]; rfl
    simp only [Bzac, nat1 i _ hlt1 hM, go_sem, yz0, Int.reduceLT, reduceLE, reduceToNat, reduceNeg, Nat.reduceLT, reduceLeDiff, reduceMul, reduceSub, reduceIte, reduceEqDiff, reduceAdd, reduceCtorEq]
    rw [hr]
    refine ⟨⟨_, rfl, rfl⟩, by simp; omega, (_, i + 1), by dsimp only; omega, by dsimp only; omega, rfl⟩
  · have : i = set.length := by have : i ≤ set.length := hi; omega
    subst this
    simp only [Bz25, Bz4y, Bz4x, Bzae, decide_eq_false hlt, List.take_length, go_sem, yz0, Int.reduceLT, reduceLE, reduceToNat, reduceNeg, Nat.reduceLT, reduceLeDiff, reduceMul, reduceSub, reduceIte, reduceEqDiff, reduceAdd, reduceCtorEq]
    intro vs3
    refine call_rowI (k_sorted (set.map fun s => atA next s w) (by simp; omega)) ?_ rfl ⟨_, rfl⟩ ?_
    · simp only [yzs, yz18, and_true]
      exact coe_argN_own rfl
    · rintro ys v' rfl
      simp only [go_sem, yz0, Int.reduceLT, reduceLE, reduceToNat, reduceNeg, Nat.reduceLT, reduceLeDiff, reduceMul, reduceSub, reduceIte, reduceEqDiff, reduceAdd, reduceCtorEq]
      exact ⟨26, v', _, by omega, rfl, by simp only [go_sem, yz0, Int.reduceLT, reduceLE, reduceToNat, reduceNeg, Nat.reduceLT, reduceLeDiff, reduceMul, reduceSub, reduceIte, reduceEqDiff, reduceAdd, reduceCtorEq], rfl⟩
theorem actA_nil' (n : Int) (next : List (List Int)) : actA n next [] = allS n := rfl
theorem k_all (n : Int) (next : List (List Int)) (A : Aut n next) : RowI Try.prog nz16 [autA n next] (fun xs => xs = allS n) := by
  refine rowI_of mixed czgj rfl ?_
  simp only [Az9l, Bz9k, go_sem, yz0, Int.reduceLT, reduceLE, reduceToNat, reduceNeg, Nat.reduceLT, reduceLeDiff, reduceMul, reduceSub, reduceIte, reduceEqDiff, reduceAdd, reduceCtorEq]
  intro vs vs2
  refine call_rowI (k_action n next [] A (by intro x hx; simp at hx)) (by simp only [List.map_nil, rowIs, boxIs, coe_argN, coe_argNs, coe_ro_o, yz18, yzs, coe_any, coe_val, coe_ro, yz17, yz15, coe_st, yz16, coe_rp, yz14, coe_clo, coe_own0, coe_ptr0, yz13, coeL_rws, coeL_rwn, L_hit, L_miss, L_nil, reduceEqDiff, ne_eq, reduceCtorEq, not_false_eq_true, true_and, and_true, and_self, exists_eq_left, exists_eq_right, List.mem_cons, List.not_mem_nil, or_false, AObj.row.injEq, AObj.box.injEq, exists_eq_left', exists_and_left, exists_eq, Nat.zero_lt_one, Nat.lt_add_one, List.map_cons, List.map_nil, AObj.ver, Nat.reduceLT, not_true_eq_false]) rfl ⟨_, rfl⟩ ?_
  rintro xs v rfl
  simp only [go_sem, yz0, Int.reduceLT, reduceLE, reduceToNat, reduceNeg, Nat.reduceLT, reduceLeDiff, reduceMul, reduceSub, reduceIte, reduceEqDiff, reduceAdd, reduceCtorEq]
  exact ⟨4, v, allS n, by omega, rfl, by simp only [actA_nil', go_sem, yz0, Int.reduceLT, reduceLE, reduceToNat, reduceNeg, Nat.reduceLT, reduceLeDiff, reduceMul, reduceSub, reduceIte, reduceEqDiff, reduceAdd, reduceCtorEq], rfl⟩
abbrev Fun2 (P : Program) (g : FuncId) (args : List AVal) (x y : Value) : Prop := Fn P g args fun rows res => rows = [] ∧ res = .tup [.val x, .val y]
theorem fun2_of {P : Program} {g : FuncId} {F : AFn} (hm : P.follows .mixedOrders = true) {no : Option (List Nat × List FuncId)} (hF : cFn (drV no) P g F) {args : List AVal} (hargs : args.length = F.nparams) {x y : Value}
    (h : wpD P F.code (finQ fun σ => (∀ x ∈ F.res, σ.there x) ∧ σ.value F.res = .tup [.val x, .val y]) (St.init args [])) : Fun2 P g args x y := by
  refine con_of hm hF hargs (by simp) (wpD_mono _ _ _ _ (fun e σ he => ?_) h)
  have : ((∀ x ∈ F.res, σ.there x) ∧ σ.value F.res = .tup [.val x, .val y]) → _ := fun ⟨h1, h2⟩ =>
    (show (∀ x ∈ F.res, σ.there x) ∧ ∃ ids : List Nat, ids.length ≤ 1000 ∧ ids.Nodup ∧ (∀ n ∈ ids, n < 5000) ∧ (σ.value F.res).fresh ∧ (∀ n ∈ ids, (σ.hp n).fresh) ∧ (∀ j, j < ([] : List AObj).length → (σ.hp (5000 + j)).fresh) ∧
      (fun outs rows res => outs = [] ∧ rows = [] ∧ res = AVal.tup [.val x, .val y]) ((List.range ([] : List AObj).length).map fun j => (σ.hp (5000 + j)).ren (expo ids) id) (ids.map fun n => (σ.hp n).ren (expo ids) id) ((σ.value F.res).ren (expo ids) id) from
    ⟨h1, [], by simp, by simp, by simp, by rw [h2]; simp [AVal.fresh, freshL], by simp, by simp, rfl, rfl, by rw [h2]; simp only [Nat.not_lt_zero, range1, yzw, yz11, ren_ro, rnNm_n, yz12, rnNm_o, rnNm_s, ren_st, yzz, yzo, yzf, yz4, yzu, yzt, yzp, yzn, yzr, yzc, yz9, yz8, yze, yzj, yzl, yz3, yz7, yzb, yzd, yzi, yzm, List.range_zero, yz6, yz5, yza, yzv, yzh, yzq, AVal.fresh, freshL, yz2, yzk, AObj.fresh, id, Option.isSome_some, or_true, true_or]⟩)
  cases e with
  | exit _ => exact he
  | normal => exact this he
  | ret => exact this he
theorem call_fun2 {P : Program} {pu : Bool} {σ : St} {g : FuncId} {As args : List AVal} {d : Option Nat} {s : Nat → Nat} {K : St → Prop} {x y : Value} (h : Fun2 P g args x y) (hco : CoeL σ.hp [] true args As)
    (hk : K (St.put σ d (.tup [.val x, .val y]))) : wpCall P pu σ g As d s K := by
  refine call_fn h hco (fun _ => ⟨_, _, rfl, rfl⟩) ?_
  rintro rows res ⟨rfl, rfl⟩
  refine ⟨by simp, by simp, ?_⟩
  simp only [Nat.not_lt_zero, range1, yzw, yz11, ren_ro, rnNm_n, yz12, rnNm_o, rnNm_s, ren_st, yzz, yzo, yzf, yz4, yzu, yzt, yzp, yzn, yzr, yzc, yz9, yz8, yze, yzj, yzl, yz3, yz7, yzb, yzd, yzi, yzm, List.range_zero, yz6, yz5, yza, yzv, yzh, yzq, AVal.fresh, freshL, yz2, yzk, AObj.fresh, id, Option.isSome_some, or_true, true_or]
  exact hk
theorem k_IsReset_1 (n : Int) (next : List (List Int)) (w : List Int) (hl : 1 ≤ next.length ∧ next.length ≤ 3) : Fun Try.prog nz1c [autP n next, .rp [.ro none 1 (ints w)] 0] (bv (wordB next.length w)) := by
  refine fun_of mixed czgz rfl ⟨rfl, trivial⟩ ?_
  simp only [Bzba, Azbb, go_sem, yz0, Int.reduceLT, reduceLE, reduceToNat, reduceNeg, Nat.reduceLT, reduceLeDiff, reduceMul, reduceSub, reduceIte, reduceEqDiff, reduceAdd, reduceCtorEq]
  intro vs
  refine yzy (k_isWord n next w hl) qCS trivial ?_
  simp only [go_sem, yz0, Int.reduceLT, reduceLE, reduceToNat, reduceNeg, Nat.reduceLT, reduceLeDiff, reduceMul, reduceSub, reduceIte, reduceEqDiff, reduceAdd, reduceCtorEq]
def imgA (n : Int) (next : List (List Int)) (w : List Int) : List Int := nrm ((allS n).map fun s => atA next s w)
theorem allS_in {n : Int} : ∀ s ∈ allS n, 0 ≤ s ∧ s < n := by
  intro s hs
  simp only [allS, List.mem_map, List.mem_range] at hs
  obtain ⟨i, hi, rfl⟩ := hs
  omega
theorem allS_len {n : Int} : (allS n).length = n.toNat := by simp [allS]
theorem wordB_iff {l : Nat} {w : List Int} : wordB l w = true ↔ (w.length : Int) ≤ 400 ∧ IsW l w := by
  simp only [wordB, Bool.and_eq_true, decide_eq_true_eq, allIn_iff]
  constructor
  · rintro ⟨h1, h2⟩; exact ⟨h1, fun x hx => by have := h2 x hx; omega⟩
  · rintro ⟨h1, h2⟩; exact ⟨h1, fun x hx => by have := h2 x hx; omega⟩
theorem ne10 : ((1 : Int) != 0) = true := rfl
theorem ne20 : ((2 : Int) != 0) = true := rfl
theorem eq1_dec {k : Nat} : ((k : Int) == 1) = decide (k = 1) := by
  by_cases h : k = 1
  · subst h; rfl
  · rw [decide_eq_false h, beq_eq_false_iff_ne]; omega
theorem k_IsReset (n : Int) (next : List (List Int)) (w : List Int) :
    Fun2 Try.prog nz12 [autA n next, .ro none 1 (ints w)] (.bool (autB n next && wordB next.length w && decide ((imgA n next w).length = 1))) (.int .i64 (codeI (autB n next) (wordB next.length w))) := by
  refine fun2_of mixed czgb rfl ?_
  simp only [Az8n, Bz8m, go_sem, yz0, Int.reduceLT, reduceLE, reduceToNat, reduceNeg, Nat.reduceLT, reduceLeDiff, reduceMul, reduceSub, reduceIte, reduceEqDiff, reduceAdd, reduceCtorEq]
  intro vs vs2
  refine yzy (k_code n next nz1c [autP n next, .rp [.ro none 1 (ints w)] 0] _ ⟨by simp only [go_sem, yz0, Int.reduceLT, reduceLE, reduceToNat, reduceNeg, Nat.reduceLT, reduceLeDiff, reduceMul, reduceSub, reduceIte, reduceEqDiff, reduceAdd, reduceCtorEq], by intros; simp only [rowIs, boxIs, coe_argN, coe_argNs, coe_ro_o, yz18, yzs, coe_any, coe_val, coe_ro, yz17, yz15, coe_st, yz16, coe_rp, yz14, coe_clo, coe_own0, coe_ptr0, yz13, coeL_rws, coeL_rwn, L_hit, L_miss, L_nil, reduceEqDiff, ne_eq, reduceCtorEq, not_false_eq_true, true_and, and_true, and_self, exists_eq_left, exists_eq_right, List.mem_cons, List.not_mem_nil, or_false, AObj.row.injEq, AObj.box.injEq, exists_eq_left', exists_and_left, exists_eq, Nat.zero_lt_one, Nat.lt_add_one, List.map_cons, List.map_nil, AObj.ver, Nat.reduceLT, not_true_eq_false]⟩ (fun hv => k_IsReset_1 n next w ⟨(autB_iff.1 hv).l1, (autB_iff.1 hv).l2⟩)) qCS trivial ?_
  cases hv : autB n next with
  | false =>
    have h3 : codeI false (wordB next.length w) = 1 := by simp [codeI]
    simp only [h3, ne10, Bz1u, Bz1t, Bool.false_and, go_sem, yz0, Int.reduceLT, reduceLE, reduceToNat, reduceNeg, Nat.reduceLT, reduceLeDiff, reduceMul, reduceSub, reduceIte, reduceEqDiff, reduceAdd, reduceCtorEq]
  | true =>
    have A := autB_iff.1 hv
    cases hw : wordB next.length w with
    | false =>
      have h3 : codeI true false = 2 := by simp [codeI]
      simp only [h3, ne20, Bz1u, Bz1t, Bool.false_and, Bool.and_false, go_sem, yz0, Int.reduceLT, reduceLE, reduceToNat, reduceNeg, Nat.reduceLT, reduceLeDiff, reduceMul, reduceSub, reduceIte, reduceEqDiff, reduceAdd, reduceCtorEq]
    | true =>
      have W := wordB_iff.1 hw
      have h3 : codeI true true = 0 := by simp [codeI]
      simp only [h3, Bz1u, Bz1t, Bz8l, bne_self_eq_false, go_sem, yz0, Int.reduceLT, reduceLE, reduceToNat, reduceNeg, Nat.reduceLT, reduceLeDiff, reduceMul, reduceSub, reduceIte, reduceEqDiff, reduceAdd, reduceCtorEq]
      intro vs3
      refine call_rowI (k_all n next A) qCS rfl ⟨_, rfl⟩ ?_
      rintro xs v rfl
      simp only [go_sem, yz0, Int.reduceLT, reduceLE, reduceToNat, reduceNeg, Nat.reduceLT, reduceLeDiff, reduceMul, reduceSub, reduceIte, reduceEqDiff, reduceAdd, reduceCtorEq]
      refine call_rowI (k_image n next (allS n) w A allS_in W.2 (by rw [allS_len]; have := A.n2; omega)) qCS rfl ⟨_, rfl⟩ ?_
      rintro ys v' rfl
      simp only [go_sem, yz0, Int.reduceLT, reduceLE, reduceToNat, reduceNeg, Nat.reduceLT, reduceLeDiff, reduceMul, reduceSub, reduceIte, reduceEqDiff, reduceAdd, reduceCtorEq]
      rw [eq1_dec]; rfl
attribute [go_sem] dnL_rwo mvL_rwo rwo_len
end Go.Ab
namespace Go.Ab
open Go.Proofs
instance (l : List Int) : Decidable (SI l) := inferInstanceAs (Decidable (l.Pairwise (· < ·)))
def setB (n : Int) (set : List Int) : Bool := decide (SI set) && allIn set 0 (n - 1)
theorem setB_iff {n : Int} {set : List Int} : setB n set = true ↔ SI set ∧ ∀ x ∈ set, 0 ≤ x ∧ x < n := by
  simp only [setB, Bool.and_eq_true, decide_eq_true_eq, allIn_iff]
  constructor
  · rintro ⟨h1, h2⟩; exact ⟨h1, fun x hx => by have := h2 x hx; omega⟩
  · rintro ⟨h1, h2⟩; exact ⟨h1, fun x hx => by have := h2 x hx; omega⟩
theorem SI_take_succ {set : List Int} {i : Nat} (hi : i < set.length) (h : SI (set.take i)) : SI (set.take (i + 1)) ↔ (0 < i → set.getD (i - 1) 0 < set.getD i 0) := by
  have ht : set.take (i + 1) = set.take i ++ [set.getD i 0] := by
    rw [List.take_succ_eq_append_getElem hi, List.getD_eq_getElem?_getD, List.getElem?_eq_getElem hi]; rfl
  have hg : ∀ j, j < i → (set.take i)[j]? = some (set.getD j 0) := by
    intro j hj
    rw [List.getElem?_take, if_pos hj, List.getD_eq_getElem?_getD, List.getElem?_eq_getElem (by omega)]; rfl
  rw [ht]
  unfold SI at h ⊢
  rw [List.pairwise_append]
  constructor
  · rintro ⟨_, _, h3⟩ h0
    exact h3 _ (List.mem_of_getElem? (hg (i - 1) (by omega))) _ (by simp)
  · intro h3
    refine ⟨h, by simp, fun y hy z hz => ?_⟩
    have hz : z = set.getD i 0 := by simpa using hz
    subst hz
    obtain ⟨j, hj⟩ := List.getElem?_of_mem hy
    have hj2 : j < i := by
      have := (List.getElem?_eq_some_iff.1 hj).1; rw [List.length_take] at this; omega
    rw [hg j hj2] at hj
    have hj : set.getD j 0 = y := by simpa using hj
    have h4 := h3 (by omega)
    by_cases e : j = i - 1
    · rw [← hj, e]; exact h4
    · rw [List.pairwise_iff_getElem] at h
      have h5 := h j (i - 1) (by rw [List.length_take]; omega) (by rw [List.length_take]; omega) (by omega)
      have e1 : (set.take i)[j]'(by rw [List.length_take]; omega) = set.getD j 0 := by
        have := hg j hj2; rw [List.getElem?_eq_getElem (by rw [List.length_take]; omega)] at this; simpa using this
      have e2 : (set.take i)[i - 1]'(by rw [List.length_take]; omega) = set.getD (i - 1) 0 := by
        have := hg (i - 1) (by omega); rw [List.getElem?_eq_getElem (by rw [List.length_take]; omega)] at this; simpa using this
      rw [e1, e2] at h5
      omega
theorem SI_len {n : Int} : ∀ {set : List Int}, SI set → (∀ x ∈ set, 0 ≤ x ∧ x < n) → (set.length : Int) ≤ n ∨ set = []
  | set, h, hx => by
    by_cases h0 : set = []
    · exact .inr h0
    left
    have key : ∀ i, i < set.length → (i : Int) ≤ set.getD i 0 := by
      intro i
      induction i with
      | zero =>
        intro hi
        exact (hx _ (yz10 hi 0)).1
      | succ i ih =>
        intro hi
        have h1 := ih (by omega)
        unfold SI at h
        rw [List.pairwise_iff_getElem] at h
        have h2 := h i (i + 1) (by omega) hi (by omega)
        have e1 : set.getD i 0 = set[i] := by rw [List.getD_eq_getElem?_getD, List.getElem?_eq_getElem (by omega)]; rfl
        have e2 : set.getD (i + 1) 0 = set[i + 1] := by rw [List.getD_eq_getElem?_getD, List.getElem?_eq_getElem hi]; rfl
        rw [e1] at h1; rw [e2]; omega
    have hp : 0 < set.length := List.length_pos_iff.2 h0
    have h1 := key (set.length - 1) (by omega)
    have h2 := (hx _ (yz10 (show set.length - 1 < set.length by omega) 0)).2
    omega
theorem SI_of_take {set : List Int} {i : Nat} (h : SI set) : SI (set.take i) := List.Pairwise.sublist (List.take_sublist i set) h
theorem k_isSet (set : List Int) (n : Int) (hn : 1 ≤ n ∧ n ≤ 10) : Fun Try.prog nz3a [.ro none 1 (ints set), iv n] (bv (setB n set)) := by
  refine fun_of mixed czgr rfl ⟨rfl, trivial⟩ ?_
  have w1 : IntKind.i64.wrap (n - 1) = n - 1 := w64 (by omega)
  simp only [Azaa, Bza9, Bza7, go_sem, yz0, Int.reduceLT, reduceLE, reduceToNat, reduceNeg, Nat.reduceLT, reduceLeDiff, reduceMul, reduceSub, reduceIte, reduceEqDiff, reduceAdd, reduceCtorEq]
  intro hM
  have hM2 := maxLen_le
  refine wpD_lo (fun i => set.length - i) (fun i => i ≤ set.length ∧ SI (set.take i) ∧ allIn (set.take i) 0 (n - 1) = true)
    (fun i : Nat => ⟨L .any [(0, .ro none 1 (ints set)), (1, iv n), (7, .ro none 1 (ints set)), (8, iv set.length), (9, iv i)], L .gone []⟩) 0 (by simp [allIn, SI]) (by simp only [Bz24, go_sem, yz0, Int.reduceLT, reduceLE, reduceToNat, reduceNeg, Nat.reduceLT, reduceLeDiff, reduceMul, reduceSub, reduceIte, reduceEqDiff, reduceAdd, reduceCtorEq]; try rfl) ?_
  rintro i ⟨hi, hs, ha⟩
  by_cases hlt : (i : Int) < set.length
  · have hlt1 : i < set.length := by omega
    have ht : set.take (i + 1) = set.take i ++ [set.getD i 0] := by
      rw [List.take_succ_eq_append_getElem hlt1, List.getD_eq_getElem?_getD, List.getElem?_eq_getElem hlt1]; rfl
    simp only [Bz24, Bz4w, Bz4v, yzx hlt1, decide_eq_true hlt, go_sem, yz0, Int.reduceLT, reduceLE, reduceToNat, reduceNeg, Nat.reduceLT, reduceLeDiff, reduceMul, reduceSub, reduceIte, reduceEqDiff, reduceAdd, reduceCtorEq]
    refine ⟨⟨by omega, hlt1⟩, hlt1, ?_⟩
    simp only [Bza6, w1, go_sem, yz0, Int.reduceLT, reduceLE, reduceToNat, reduceNeg, Nat.reduceLT, reduceLeDiff, reduceMul, reduceSub, reduceIte, reduceEqDiff, reduceAdd, reduceCtorEq]
    intro vs
    refine yzy (k_within (set.getD i 0) 0 (n - 1)) qCS trivial ?_
    have hmem := yz10 hlt1 (0 : Int)
    by_cases hin : 0 ≤ set.getD i 0 ∧ set.getD i 0 ≤ n - 1
    · have e1 : (decide (0 ≤ set.getD i 0) && decide (set.getD i 0 ≤ n - 1)) = true := by rw [decide_eq_true hin.1, decide_eq_true hin.2]; rfl
      have ha2 : allIn (set.take (i + 1)) 0 (n - 1) = true := by
        rw [ht, allIn_iff]
        intro x hx
        rcases List.mem_append.1 hx with hx | hx
        · exact allIn_iff.1 ha x hx
        · have hx : x = set.getD i 0 := by simpa using hx
          subst hx; exact hin
      by_cases h0 : (0 : Int) < i
      · have hi1 : i - 1 < set.length := by omega
        have w2 : IntKind.i64.wrap ((i : Int) - 1) = ((i - 1 : Nat) : Int) := by rw [w64 (by omega)]; omega
        simp only [e1, decide_eq_true h0, w2, yzx hi1, go_sem, yz0, Int.reduceLT, reduceLE, reduceToNat, reduceNeg, Nat.reduceLT, reduceLeDiff, reduceMul, reduceSub, reduceIte, reduceEqDiff, reduceAdd, reduceCtorEq]
        refine ⟨⟨by omega, hi1⟩, hi1, ?_⟩
        have hk := SI_take_succ hlt1 hs
        by_cases hle : set.getD i 0 ≤ set.getD (i - 1) 0
        · have hf : setB n set = false := by
            cases hb : setB n set with
            | false => rfl
            | true =>
              have := hk.1 (SI_of_take (setB_iff.1 hb).1) (by omega)
              omega
          simp only [Bzr, decide_eq_true hle, hf, go_sem, yz0, Int.reduceLT, reduceLE, reduceToNat, reduceNeg, Nat.reduceLT, reduceLeDiff, reduceMul, reduceSub, reduceIte, reduceEqDiff, reduceAdd, reduceCtorEq]
        · simp only [Bzr, Bz4u, decide_eq_false hle, nat1 i _ hlt1 hM, go_sem, yz0, Int.reduceLT, reduceLE, reduceToNat, reduceNeg, Nat.reduceLT, reduceLeDiff, reduceMul, reduceSub, reduceIte, reduceEqDiff, reduceAdd, reduceCtorEq]
          exact ⟨i + 1, by omega, ⟨by omega, hk.2 fun _ => by omega, ha2⟩, rfl⟩
      · have : i = 0 := by omega
        subst this
        simp only [e1, decide_eq_false h0, go_sem, yz0, Int.reduceLT, reduceLE, reduceToNat, reduceNeg, Nat.reduceLT, reduceLeDiff, reduceMul, reduceSub, reduceIte, reduceEqDiff, reduceAdd, reduceCtorEq]
        simp only [Bzr, Bz4u, nat1 0 _ hlt1 hM, go_sem, yz0, Int.reduceLT, reduceLE, reduceToNat, reduceNeg, Nat.reduceLT, reduceLeDiff, reduceMul, reduceSub, reduceIte, reduceEqDiff, reduceAdd, reduceCtorEq]
        exact ⟨1, by omega, ⟨by omega, (SI_take_succ hlt1 hs).2 fun h => by omega, ha2⟩, rfl⟩
    · have e1 : (decide (0 ≤ set.getD i 0) && decide (set.getD i 0 ≤ n - 1)) = false := by
        rw [Bool.and_eq_false_iff, decide_eq_false_iff_not, decide_eq_false_iff_not]; omega
      have hf : setB n set = false := by
        cases hb : setB n set with
        | false => rfl
        | true => have := (setB_iff.1 hb).2 _ hmem; omega
      simp only [e1, Bzr, hf, go_sem, yz0, Int.reduceLT, reduceLE, reduceToNat, reduceNeg, Nat.reduceLT, reduceLeDiff, reduceMul, reduceSub, reduceIte, reduceEqDiff, reduceAdd, reduceCtorEq]
  · have : i = set.length := by omega
    subst this
    rw [List.take_length] at hs ha
    simp only [Bz24, Bz4w, Bz4v, Bza8, decide_eq_false hlt, go_sem, yz0, Int.reduceLT, reduceLE, reduceToNat, reduceNeg, Nat.reduceLT, reduceLeDiff, reduceMul, reduceSub, reduceIte, reduceEqDiff, reduceAdd, reduceCtorEq]
    simp [setB, hs, ha]
abbrev RowT (P : Program) (g : FuncId) (args : List AVal) (ok : Bool) (xs : List Int) (code : Int) : Prop := Fn P g args fun rows res =>
  if ok = true then ∃ v, rows = [.row v 1 true (ints xs)] ∧ res = .tup [.own 6000 v, iv code] else rows = [] ∧ res = .tup [nilS, iv code]
theorem k_ImageOf_1 (n : Int) (next : List (List Int)) (set w : List Int) (hn : 1 ≤ n ∧ n ≤ 10) (hl : 1 ≤ next.length ∧ next.length ≤ 3) :
    Fun Try.prog nz19 [.rp [.ro none 1 (ints set)] 0, autP n next, .rp [.ro none 1 (ints w)] 0] (bv (setB n set && wordB next.length w)) := by
  refine fun_of mixed czgq rfl ⟨rfl, trivial⟩ ?_
  simp only [Bza4, Aza5, go_sem, yz0, Int.reduceLT, reduceLE, reduceToNat, reduceNeg, Nat.reduceLT, reduceLeDiff, reduceMul, reduceSub, reduceIte, reduceEqDiff, reduceAdd, reduceCtorEq]
  intro vs
  refine yzy (k_isSet set n hn) qCS trivial ?_
  cases hs : setB n set with
  | false => simp only [Bool.false_and, go_sem, yz0, Int.reduceLT, reduceLE, reduceToNat, reduceNeg, Nat.reduceLT, reduceLeDiff, reduceMul, reduceSub, reduceIte, reduceEqDiff, reduceAdd, reduceCtorEq]
  | true =>
    simp only [go_sem, yz0, Int.reduceLT, reduceLE, reduceToNat, reduceNeg, Nat.reduceLT, reduceLeDiff, reduceMul, reduceSub, reduceIte, reduceEqDiff, reduceAdd, reduceCtorEq]
    refine yzy (k_isWord n next w hl) qCS trivial ?_
    simp only [Bool.true_and, go_sem, yz0, Int.reduceLT, reduceLE, reduceToNat, reduceNeg, Nat.reduceLT, reduceLeDiff, reduceMul, reduceSub, reduceIte, reduceEqDiff, reduceAdd, reduceCtorEq]
theorem k_ImageOf (n : Int) (next : List (List Int)) (set w : List Int) :
    RowT Try.prog nz35 [autA n next, .ro none 1 (ints set), .ro none 1 (ints w)] (autB n next && (setB n set && wordB next.length w)) (nrm (set.map fun s => atA next s w)) (codeI (autB n next) (setB n set && wordB next.length w)) := by
  refine con_of mixed czg8 rfl (by simp) ?_
  simp only [Az8c, Bz8b, go_sem, yz0, Int.reduceLT, reduceLE, reduceToNat, reduceNeg, Nat.reduceLT, reduceLeDiff, reduceMul, reduceSub, reduceIte, reduceEqDiff, reduceAdd, reduceCtorEq]
  intro vs vs2
  refine yzy (k_code n next nz19 [.rp [.ro none 1 (ints set)] 0, autP n next, .rp [.ro none 1 (ints w)] 0] _ ⟨by simp only [go_sem, yz0, Int.reduceLT, reduceLE, reduceToNat, reduceNeg, Nat.reduceLT, reduceLeDiff, reduceMul, reduceSub, reduceIte, reduceEqDiff, reduceAdd, reduceCtorEq], by intros; simp only [rowIs, boxIs, coe_argN, coe_argNs, coe_ro_o, yz18, yzs, coe_any, coe_val, coe_ro, yz17, yz15, coe_st, yz16, coe_rp, yz14, coe_clo, coe_own0, coe_ptr0, yz13, coeL_rws, coeL_rwn, L_hit, L_miss, L_nil, reduceEqDiff, ne_eq, reduceCtorEq, not_false_eq_true, true_and, and_true, and_self, exists_eq_left, exists_eq_right, List.mem_cons, List.not_mem_nil, or_false, AObj.row.injEq, AObj.box.injEq, exists_eq_left', exists_and_left, exists_eq, Nat.zero_lt_one, Nat.lt_add_one, List.map_cons, List.map_nil, AObj.ver, Nat.reduceLT, not_true_eq_false]⟩
    (fun hv => k_ImageOf_1 n next set w ⟨(autB_iff.1 hv).n1, (autB_iff.1 hv).n2⟩ ⟨(autB_iff.1 hv).l1, (autB_iff.1 hv).l2⟩)) qCS trivial ?_
  cases hv : autB n next with
  | false =>
    have h3 : codeI false (setB n set && wordB next.length w) = 1 := by simp [codeI]
    simp only [h3, ne10, Bz1s, Bz1r, Bool.false_and, go_sem, yz0, Int.reduceLT, reduceLE, reduceToNat, reduceNeg, Nat.reduceLT, reduceLeDiff, reduceMul, reduceSub, reduceIte, reduceEqDiff, reduceAdd, reduceCtorEq]
    refine ⟨[], by simp, by simp, by simp, ?_⟩
    simp only [Nat.not_lt_zero, range1, yzw, yz11, ren_ro, rnNm_n, yz12, rnNm_o, rnNm_s, ren_st, yzz, yzo, yzf, yz4, yzu, yzt, yzp, yzn, yzr, yzc, yz9, yz8, yze, yzj, yzl, yz3, yz7, yzb, yzd, yzi, yzm, List.range_zero, yz6, yz5, yza, yzv, yzh, yzq, AVal.fresh, freshL, yz2, yzk, AObj.fresh, id, Option.isSome_some, or_true, true_or, go_sem, yz0, Int.reduceLT, reduceLE, reduceToNat, reduceNeg, Nat.reduceLT, reduceLeDiff, reduceMul, reduceSub, reduceIte, reduceEqDiff, reduceAdd, reduceCtorEq]
  | true =>
    have A := autB_iff.1 hv
    cases hw : (setB n set && wordB next.length w) with
    | false =>
      have h3 : codeI true false = 2 := by simp [codeI]
      simp only [h3, ne20, Bz1s, Bz1r, Bool.true_and, go_sem, yz0, Int.reduceLT, reduceLE, reduceToNat, reduceNeg, Nat.reduceLT, reduceLeDiff, reduceMul, reduceSub, reduceIte, reduceEqDiff, reduceAdd, reduceCtorEq]
      refine ⟨[], by simp, by simp, by simp, ?_⟩
      simp only [Nat.not_lt_zero, range1, yzw, yz11, ren_ro, rnNm_n, yz12, rnNm_o, rnNm_s, ren_st, yzz, yzo, yzf, yz4, yzu, yzt, yzp, yzn, yzr, yzc, yz9, yz8, yze, yzj, yzl, yz3, yz7, yzb, yzd, yzi, yzm, List.range_zero, yz6, yz5, yza, yzv, yzh, yzq, AVal.fresh, freshL, yz2, yzk, AObj.fresh, id, Option.isSome_some, or_true, true_or, go_sem, yz0, Int.reduceLT, reduceLE, reduceToNat, reduceNeg, Nat.reduceLT, reduceLeDiff, reduceMul, reduceSub, reduceIte, reduceEqDiff, reduceAdd, reduceCtorEq]
    | true =>
      have hw' := hw
      rw [Bool.and_eq_true] at hw'
      have W := wordB_iff.1 hw'.2
      have Z := setB_iff.1 hw'.1
      have h3 : codeI true true = 0 := by simp [codeI]
      simp only [h3, Bz1s, Bz1r, Bz8a, bne_self_eq_false, Bool.true_and, go_sem, yz0, Int.reduceLT, reduceLE, reduceToNat, reduceNeg, Nat.reduceLT, reduceLeDiff, reduceMul, reduceSub, reduceIte, reduceEqDiff, reduceAdd, reduceCtorEq]
      intro vs3
      refine call_rowI (k_image n next set w A Z.2 W.2 (by have h9 := A.n2; rcases SI_len Z.1 Z.2 with h8 | h8; omega; rw [h8]; simp)) qCS rfl ⟨_, rfl⟩ ?_
      rintro ys v rfl
      simp only [go_sem, yz0, Int.reduceLT, reduceLE, reduceToNat, reduceNeg, Nat.reduceLT, reduceLeDiff, reduceMul, reduceSub, reduceIte, reduceEqDiff, reduceAdd, reduceCtorEq]
      refine ⟨[18], by simp, by simp, by simp, ?_⟩
      simp only [range1, List.length_singleton, Nat.not_lt_zero, range1, yzw, yz11, ren_ro, rnNm_n, yz12, rnNm_o, rnNm_s, ren_st, yzz, yzo, yzf, yz4, yzu, yzt, yzp, yzn, yzr, yzc, yz9, yz8, yze, yzj, yzl, yz3, yz7, yzb, yzd, yzi, yzm, List.range_zero, yz6, yz5, yza, yzv, yzh, yzq, AVal.fresh, freshL, yz2, yzk, AObj.fresh, id, Option.isSome_some, or_true, true_or, go_sem, yz0, Int.reduceLT, reduceLE, reduceToNat, reduceNeg, Nat.reduceLT, reduceLeDiff, reduceMul, reduceSub, reduceIte, reduceEqDiff, reduceAdd, reduceCtorEq]
      exact ⟨v, rfl, rfl⟩
theorem call_rowT {P : Program} {pu : Bool} {σ : St} {g : FuncId} {As args : List AVal} {d : Nat} {s : Nat → Nat} {K : St → Prop} {ok : Bool} {xs : List Int} {code : Int} (h : RowT P g args ok xs code)
    (hco : CoeL σ.hp [] true args As) (hg : σ.hp d = .gone)
    (h1 : ok = true → ∀ v, K (St.put ⟨σ.tm, upd σ.hp d (.row v 1 true (ints xs))⟩ (some d) (.tup [.own d v, iv code])))
    (h2 : ok = false → K (St.put ⟨σ.tm, σ.hp⟩ (some d) (.tup [nilS, iv code]))) : wpCall P pu σ g As (some d) s K := by
  refine call_fn h hco (fun _ => ?_) ?_
  · cases ok with
    | true => exact ⟨[.row 0 1 true (ints xs)], .tup [.own 6000 0, iv code], by rw [if_pos rfl]; exact ⟨0, rfl, rfl⟩⟩
    | false => exact ⟨[], .tup [nilS, iv code], by rw [if_neg (by simp)]; exact ⟨rfl, rfl⟩⟩
  · intro rows res hR
    cases ok with
    | true =>
      simp only [if_true] at hR
      obtain ⟨v, rfl, rfl⟩ := hR
      refine ⟨by simp, ?_, ?_⟩
      · simp only [Option.getD_some, yzh]; exact hg
      · simp only [Option.getD_some, List.length_singleton, Nat.not_lt_zero, range1, yzw, yz11, ren_ro, rnNm_n, yz12, rnNm_o, rnNm_s, ren_st, yzz, yzo, yzf, yz4, yzu, yzt, yzp, yzn, yzr, yzc, yz9, yz8, yze, yzj, yzl, yz3, yz7, yzb, yzd, yzi, yzm, List.range_zero, yz6, yz5, yza, yzv, yzh, yzq, AVal.fresh, freshL, yz2, yzk, AObj.fresh, id, Option.isSome_some, or_true, true_or]
        exact h1 rfl _
    | false =>
      simp only [Bool.false_eq_true, if_false] at hR
      obtain ⟨rfl, rfl⟩ := hR
      refine ⟨by simp, by simp, ?_⟩
      simp only [Nat.not_lt_zero, range1, yzw, yz11, ren_ro, rnNm_n, yz12, rnNm_o, rnNm_s, ren_st, yzz, yzo, yzf, yz4, yzu, yzt, yzp, yzn, yzr, yzc, yz9, yz8, yze, yzj, yzl, yz3, yz7, yzb, yzd, yzi, yzm, List.range_zero, yz6, yz5, yza, yzv, yzh, yzq, AVal.fresh, freshL, yz2, yzk, AObj.fresh, id, Option.isSome_some, or_true, true_or]
      exact h2 rfl
end Go.Ab
namespace Go.Ab
open Go.Proofs
end Go.Ab
namespace Go.Ab
open Go.Proofs
theorem coeL_rwp_t {hp : Nat → AObj} {m : List Nat} {len : Bool} {ps : List (Nat × List Int)} : CoeL hp m len (rwn (ps.map (·.2))) (rwp ps) = True := eq_true coeL_rwp
end Go.Ab
namespace Go.Ab
theorem put_len_new {x : Int} : ∀ {xs : List Int}, x ∉ xs → (put xs x).length = xs.length + 1
  | [], _ => by simp [put]
  | y :: xs, h => by
    have h1 : x ≠ y := fun e => h (by simp [e])
    have h2 : x ∉ xs := fun e => h (by simp [e])
    simp only [put]
    split
    · split
      · simp
      · omega
    · have := put_len_new (x := x) (xs := xs) h2
      simp only [List.length_cons]; omega
theorem nrm_len_nd {l : List Int} (h : l.Nodup) : (nrm l).length = l.length := by
  have gen : ∀ (l acc : List Int), l.Nodup → (∀ x ∈ l, x ∉ acc) → (l.foldl put acc).length = acc.length + l.length := by
    intro l
    induction l with
    | nil => intro acc _ _; simp
    | cons x l ih =>
      intro acc h1 h2
      rw [List.nodup_cons] at h1
      rw [List.foldl_cons, ih (put acc x) h1.2 (fun y hy hm => ?_), put_len_new (h2 x (by simp)), List.length_cons]
      · omega
      · rcases put_mem.1 hm with rfl | hm
        · exact h1.1 hy
        · exact h2 y (by simp [hy]) hm
  have := gen l [] h (by simp)
  simpa [nrm] using this
structure Once (n : Int) (l : List Int) : Prop where
  nd : l.Nodup
  rg : ∀ x ∈ l, 0 ≤ x ∧ x < n
theorem Once.len {n : Int} {l : List Int} (hn : 1 ≤ n) (h : Once n l) : (l.length : Int) ≤ n := by
  have h1 := nrm_len_nd h.nd
  rcases SI_len (nrm_SI l) (fun x hx => h.rg x (nrm_mem.1 hx)) with h2 | h2
  · omega
  · rw [h2] at h1; simp at h1; omega
theorem Once.snoc {n : Int} {l : List Int} {x : Int} (h : Once n l) (hx : 0 ≤ x ∧ x < n) (hm : x ∉ l) : Once n (l ++ [x]) := by
  refine ⟨?_, ?_⟩
  · rw [List.nodup_append]
    refine ⟨h.nd, by simp, ?_⟩
    intro a ha b hb
    have : b = x := by simpa using hb
    subst this
    rintro rfl
    exact hm ha
  · intro y hy
    rcases List.mem_append.1 hy with hy | hy
    · exact h.rg y hy
    · have : y = x := by simpa using hy
      subst this; exact hx
def addL (l : List Int) (x : Int) : List Int := if l.contains x = true then l else l ++ [x]
theorem Once.add {n : Int} {l : List Int} {x : Int} (h : Once n l) (hx : 0 ≤ x ∧ x < n) : Once n (addL l x) := by
  unfold addL
  split
  · exact h
  · rename_i h1
    exact h.snoc hx (by simpa using h1)
def visK (s : Int) : List (List Int) → List Int → List Int
  | [], l => l
  | row :: rs, l => visK s rs (addL l (row.getD s.toNat 0))
theorem Once.vis {n s : Int} (hs : 0 ≤ s ∧ s < n) : ∀ {rs : List (List Int)} {l : List Int}, (∀ row ∈ rs, (row.length : Int) = n ∧ ∀ x ∈ row, 0 ≤ x ∧ x < n) → Once n l → Once n (visK s rs l)
  | [], _, _, h => h
  | row :: rs, l, hr, h => by
    have h1 := hr row (by simp)
    have h2 : s.toNat < row.length := by omega
    exact Once.vis (rs := rs) hs (fun r hm => hr r (by simp [hm])) (h.add (h1.2 _ (yz10 h2 0)))
end Go.Ab
namespace Go.Ab
open Go.Proofs
end Go.Ab
namespace Go.Ab
open Go.Proofs
end Go.Ab
namespace Go.Ab
open Go.Proofs
end Go.Ab
namespace Go.Ab
open Go.Proofs
end Go.Ab
namespace Go.Ab
open Go.Proofs
end Go.Ab
namespace Go.Ab
open Go.Proofs
theorem thaw_L {l : List (Nat × AVal)} {h : List (Nat × AObj)} {r i q n m v k k' : Nat} {nn : Bool} {cs cs' : List AVal} (hr : L .gone h r = .row v k nn cs) :
    St.thaw ⟨L .any l, L .gone h⟩ r i q n m k' cs' = ⟨L .any (woT n l), L .gone ((q, .row m k' true (woL n cs')) :: (r, .row v k nn ((woL n cs).set i (.own q m))) :: woO n h)⟩ := by
  unfold St.thaw
  congr 1
  · funext x; exact (woT_eq l x).symm
  · funext x
    simp only [L]
    split
    · rfl
    · split
      · rw [hr]
      · exact (woO_eq h x).symm
theorem gwp_thaw {gs : List GStep} {K : St → Prop} {l : List (Nat × AVal)} {h : List (Nat × AObj)} {r i q n v k k' : Nat} {nn : Bool} {cs cs' : List AVal} (hr : L .gone h r = .row v k nn cs)
    (hi : cs[i]? = some (.ro (some (some (n + 1))) k' cs')) (hne : cs' ≠ []) (hq : L .gone h q = .gone)
    (hk : ∀ m, gwp gs K ⟨L .any (woT n l), L .gone ((q, .row m k' true (woL n cs')) :: (r, .row v k nn ((woL n cs).set i (.own q m))) :: woO n h)⟩) : gwp (.thaw r i q :: gs) K ⟨L .any l, L .gone h⟩ :=
  ⟨v, k, nn, cs, n, k', cs', hr, hi, hne, hq, fun m => by rw [thaw_L hr]; exact hk m⟩
theorem wo_o {n k : Nat} {cs : List AVal} : AVal.wo n (.ro (some (some 0)) k cs) = .ro (some (some 0)) k (woL n cs) := by cases cs <;> simp [AVal.wo, woL]
theorem wo_st {n : Nat} {cs : List AVal} : AVal.wo n (.st cs) = .st (woL n cs) := by simp only [AVal.wo]
theorem wo_ptr {n r u o : Nat} : AVal.wo n (.ptr r u o) = .ptr r u o := by simp only [AVal.wo]
theorem woL_nil {n : Nat} : woL n [] = [] := by simp only [woL]
theorem woL_cons {n : Nat} {A : AVal} {cs : List AVal} : woL n (A :: cs) = AVal.wo n A :: woL n cs := by simp only [woL]
theorem woO_row {n v k : Nat} {nn : Bool} {cs : List AVal} : AObj.wo n (.row v k nn cs) = .row v k nn (woL n cs) := rfl
theorem woO_box {n v : Nat} {cs : List AVal} : AObj.wo n (.box v cs) = .box v (woL n cs) := rfl
theorem callHp_h2 {hp : Nat → AObj} {r q1 d : Nat} {s : Nat → Nat} {o0 o1 : AObj} (hnd : [r, q1].Nodup) :
    callHp hp [r, q1] d s [o0, o1] [] = (upd (upd hp r (o0.ren (rid [r, q1] d 0) (sv hp [r, q1] s))) q1 (o1.ren (rid [r, q1] d 0) (sv hp [r, q1] s))) := by
  have hnd' := hnd
  simp only [List.nodup_cons, List.mem_cons, List.not_mem_nil, or_false, not_or, List.nodup_nil, and_true, not_false_eq_true] at hnd'
  funext n
  by_cases e1 : n = q1
  · have h1 : rid [r, q1] d ([] : List AObj).length 5001 = some n := by rw [e1]; exact rid_m (j := 1) (by omega) rfl
    rw [callHp_at hnd (by simp) h1]
    simp [upd, e1, outHp, hnd', Ne.symm]
    try (intros; simp_all)
  by_cases e0 : n = r
  · have h1 : rid [r, q1] d ([] : List AObj).length 5000 = some n := by rw [e0]; exact rid_m (j := 0) (by omega) rfl
    rw [callHp_at hnd (by simp) h1]
    simp [upd, e0, outHp, hnd', Ne.symm]
    try (intros; simp_all)
  rw [callHp_not]
  · simp [upd, e0, e1]
  · rintro ⟨x, hx⟩
    rcases rid_cases hx with ⟨j, rfl, _, h3⟩ | ⟨i, rfl, h3, _⟩
    · match j, h3 with
      | 0, h3 => simp at h3; exact e0 h3.symm
      | 1, h3 => simp at h3; exact e1 h3.symm
      | j + 2, h3 => simp at h3
    · simp at h3
end Go.Ab
namespace Go.Ab
open Go.Proofs
end Go.Ab
namespace Go.Ab
open Go.Proofs
def renR (order row : List Int) : List Int := order.map fun s => fidx (fun y => row.getD s.toNat 0 == y) order 0
end Go.Ab
namespace Go.Ab
open Go.Proofs
end Go.Ab
namespace Go.Ab
open Go.Proofs
theorem wo_any {n : Nat} : AVal.wo n .any = .any := by simp only [AVal.wo]
end Go.Ab
namespace Go.Ab
open Go.Proofs
end Go.Ab
namespace Go.Ab
open Go.Proofs
structure Mach (n o : Int) (next out : List (List Int)) : Prop where
  aut : Aut n next
  o1 : 1 ≤ o
  o2 : o ≤ 3
  len : out.length = next.length
  row : ∀ row ∈ out, (row.length : Int) = n ∧ ∀ x ∈ row, 0 ≤ x ∧ x < o
end Go.Ab
namespace Go.Ab
def bitsN (f : Nat) : List Nat := (List.range 10).filter fun s => f.testBit s
def stepN (row : List Int) (f : Nat) : Nat := (bitsN f).foldl (fun o s => o ||| 2 ^ (row.getD s 0).toNat) 0
def maskN (set : List Int) : Nat := set.foldl (fun o s => o ||| 2 ^ s.toNat) 0
abbrev TS := List (Nat × List Int)
def hasT (L : TS) (f : Nat) : Bool := L.any fun p => Nat.beq p.1 f
def visT (next : List (List Int)) (f : Nat) (w : List Int) : Nat → TS → TS
  | 0, L => L
  | x + 1, L => match visT next f w x L with
    | L' => match stepN (next.getD x []) f with
      | to => if hasT L' to then L' else L' ++ [(to, w ++ [(x : Int)])]
def runT (next : List (List Int)) : Nat → Nat → TS → TS
  | 0, _, L => L
  | F + 1, i, L => if i < L.length then runT next F (i + 1) (visT next (L.getD i (0, [])).1 (L.getD i (0, [])).2 next.length L) else L
def tourT (next : List (List Int)) (f : Nat) : TS := runT next 1100 0 [(f, [])]
def smallN (f : Nat) : Bool := Nat.beq (f &&& (f - 1)) 0
def firstT (L : TS) : Option (Nat × List Int) := L.find? fun p => smallN p.1
theorem hasT_iff {L : TS} {f : Nat} : hasT L f = true ↔ f ∈ L.map (·.1) := by
  simp only [hasT, List.any_eq_true, List.mem_map]
  constructor
  · rintro ⟨p, hp, h⟩; exact ⟨p, hp, Nat.eq_of_beq_eq_true h⟩
  · rintro ⟨p, hp, rfl⟩; exact ⟨p, hp, Nat.beq_refl _⟩
theorem or_lt {a b : Nat} (ha : a < 1024) (hb : b < 1024) : a ||| b < 1024 := Nat.or_lt_two_pow (n := 10) ha hb
theorem pow_lt10 {k : Nat} (h : k < 10) : 2 ^ k < 1024 := Nat.pow_lt_pow_right (a := 2) (by omega) (n := 10) h
theorem fold_lt {α : Type} (g : α → Nat) : ∀ (l : List α) (o : Nat), (∀ x ∈ l, g x < 10) → o < 1024 → l.foldl (fun o s => o ||| 2 ^ g s) o < 1024
  | [], o, _, h => h
  | x :: l, o, hl, h => by
    rw [List.foldl_cons]
    exact fold_lt g l _ (fun y hy => hl y (by simp [hy])) (or_lt h (pow_lt10 (hl x (by simp))))
theorem mem_bits {f s : Nat} : s ∈ bitsN f ↔ s < 10 ∧ f.testBit s = true := by simp [bitsN]
theorem bits_lt {f n s : Nat} (h : f < 2 ^ n) (hs : s ∈ bitsN f) : s < n := by
  rw [mem_bits] at hs
  by_cases hn : s < n
  · exact hn
  · have := Nat.testBit_lt_two_pow (Nat.lt_of_lt_of_le h (Nat.pow_le_pow_right (n := 2) (by omega) (show n ≤ s by omega)))
    rw [this] at hs; simp at hs
structure TI (N m : Nat) (L : TS) : Prop where
  nd : (L.map (·.1)).Nodup
  rg : ∀ p ∈ L, p.1 < 2 ^ N
  wd : ∀ p ∈ L, (∀ x ∈ p.2, 0 ≤ x ∧ x < m) ∧ p.2.length < L.length
theorem nodup_lt : ∀ (n : Nat) (l : List Nat), l.Nodup → (∀ x ∈ l, x < n) → l.length ≤ n
  | 0, l, _, h => by
    cases l with
    | nil => simp
    | cons x l => exact absurd (h x (by simp)) (by omega)
  | n + 1, l, hd, h => by
    by_cases hm : n ∈ l
    · have h1 := List.length_erase_of_mem hm
      have h2 := nodup_lt n (l.erase n) (hd.erase n) (fun x hx => by
        rw [hd.mem_erase_iff] at hx
        have := h x hx.2; omega)
      omega
    · have := nodup_lt n l hd (fun x hx => by
        have h1 := h x hx
        have : x ≠ n := fun e => hm (e ▸ hx)
        omega)
      omega
theorem TI.len {N m : Nat} {L : TS} (h : TI N m L) : L.length ≤ 2 ^ N := by
  have := nodup_lt (2 ^ N) (L.map (·.1)) h.nd (fun x hx => by
    obtain ⟨p, hp, rfl⟩ := List.mem_map.1 hx
    exact h.rg p hp)
  simpa using this
theorem TI.add {N m : Nat} {L : TS} (h : TI N m L) {to : Nat} {w : List Int} {x : Int} (ht : to < 2 ^ N) (hn : hasT L to = false) (hw : (∀ x ∈ w, 0 ≤ x ∧ x < m) ∧ w.length < L.length) (hx : 0 ≤ x ∧ x < m) : TI N m (L ++ [(to, w ++ [x])]) := by
  refine ⟨?_, ?_, ?_⟩
  · rw [List.map_append, List.nodup_append]
    refine ⟨h.nd, by simp, ?_⟩
    intro a ha b hb e
    simp at hb
    rw [e, hb, ← hasT_iff, hn] at ha
    cases ha
  · intro p hp
    rcases List.mem_append.1 hp with hp | hp
    · exact h.rg p hp
    · have hp : p = (to, w ++ [x]) := by simpa using hp
      rw [hp]; exact ht
  · intro p hp
    rw [List.length_append, List.length_singleton]
    rcases List.mem_append.1 hp with hp | hp
    · have := h.wd p hp
      exact ⟨this.1, by omega⟩
    · have hp : p = (to, w ++ [x]) := by simpa using hp
      subst hp
      refine ⟨fun y hy => ?_, by rw [List.length_append, List.length_singleton]; omega⟩
      rcases List.mem_append.1 hy with hy | hy
      · exact hw.1 y hy
      · have hy : y = x := by simpa using hy
        rw [hy]; exact hx
theorem stepN_lt {n : Int} {next : List (List Int)} (A : Aut n next) {x f : Nat} (hx : x < next.length) (hf : f < 2 ^ n.toNat) : stepN (next.getD x []) f < 2 ^ n.toNat := by
  have n1 := A.n1
  have hr := A.row _ (yz10 hx [])
  unfold stepN
  have gen : ∀ (l : List Nat) (o : Nat), (∀ s ∈ l, s < n.toNat) → o < 2 ^ n.toNat → l.foldl (fun o s => o ||| 2 ^ ((next.getD x []).getD s 0).toNat) o < 2 ^ n.toNat := by
    intro l
    induction l with
    | nil => intro o _ h; exact h
    | cons s l ih =>
      intro o hl h
      rw [List.foldl_cons]
      refine ih _ (fun y hy => hl y (by simp [hy])) (Nat.or_lt_two_pow h ?_)
      have hs := hl s (by simp)
      have := hr.2 _ (yz10 (show s < (next.getD x []).length by omega) 0)
      exact Nat.pow_lt_pow_right (by omega) (by omega)
  exact gen _ 0 (fun s hs => bits_lt hf hs) (Nat.two_pow_pos _)
theorem visT_succ {next : List (List Int)} {f : Nat} {w : List Int} {x : Nat} {L : TS} : visT next f w (x + 1) L = if hasT (visT next f w x L) (stepN (next.getD x []) f) then visT next f w x L else visT next f w x L ++ [(stepN (next.getD x []) f, w ++ [(x : Int)])] := rfl
theorem visT_ok {n : Int} {next : List (List Int)} (A : Aut n next) {L : TS} (h : TI n.toNat next.length L) {i : Nat} (hi : i < L.length) :
    ∀ x, x ≤ next.length → TI n.toNat next.length (visT next (L.getD i (0, [])).1 (L.getD i (0, [])).2 x L) ∧ ∃ t, visT next (L.getD i (0, [])).1 (L.getD i (0, [])).2 x L = L ++ t
  | 0, _ => ⟨h, [], by simp [visT]⟩
  | x + 1, hx => by
    obtain ⟨h1, t, h2⟩ := visT_ok A h hi x (by omega)
    have hm := yz10 hi (0, ([] : List Int))
    rw [visT_succ]
    cases hh : hasT (visT next (L.getD i (0, [])).1 (L.getD i (0, [])).2 x L) (stepN (next.getD x []) (L.getD i (0, [])).1) with
    | true => rw [if_pos rfl]; exact ⟨h1, t, h2⟩
    | false =>
      rw [if_neg (by simp)]
      refine ⟨h1.add (stepN_lt A (by omega) (h.rg _ hm)) hh ⟨(h.wd _ hm).1, ?_⟩ (by omega), t ++ [(stepN (next.getD x []) (L.getD i (0, [])).1, (L.getD i (0, [])).2 ++ [(x : Int)])], ?_⟩
      · have := (h.wd _ hm).2
        rw [h2, List.length_append]; omega
      · rw [← List.append_assoc, ← h2]
theorem TI0 {N m f : Nat} (hf : f < 2 ^ N) : TI N m [(f, [])] := ⟨by simp, by simpa using hf, by simp⟩
theorem getD_app {α : Type} {L t : List α} {i : Nat} (h : i < L.length) (d : α) : (L ++ t).getD i d = L.getD i d := by
  rw [List.getD_eq_getElem?_getD, List.getElem?_append_left h, ← List.getD_eq_getElem?_getD]
theorem runT_ok {n : Int} {next : List (List Int)} (A : Aut n next) : ∀ (F i : Nat) (L : TS), TI n.toNat next.length L → TI n.toNat next.length (runT next F i L) ∧ ∃ t, runT next F i L = L ++ t
  | 0, i, L, h => ⟨h, [], by simp [runT]⟩
  | F + 1, i, L, h => by
    simp only [runT]
    split
    · rename_i hi
      obtain ⟨h1, t, h2⟩ := visT_ok A h hi next.length (Nat.le_refl _)
      obtain ⟨h3, t', h4⟩ := runT_ok A F (i + 1) _ h1
      exact ⟨h3, t ++ t', by rw [h4, h2, List.append_assoc]⟩
    · exact ⟨h, [], by simp⟩
end Go.Ab
namespace Go.Ab
abbrev PS := List ((Nat × Nat) × List Int)
def stepP (na nb : List (List Int)) (p : Nat × Nat) (x : Nat) : Nat × Nat := (((na.getD x []).getD p.1 0).toNat, ((nb.getD x []).getD p.2 0).toNat)
def eqP (p q : Nat × Nat) : Bool := Nat.beq p.1 q.1 && Nat.beq p.2 q.2
def hasP (L : PS) (p : Nat × Nat) : Bool := L.any fun q => eqP q.1 p
def difP (oa ob : List (List Int)) (p : Nat × Nat) (x : Nat) : Bool := (oa.getD x []).getD p.1 0 != (ob.getD x []).getD p.2 0
theorem eqP_iff {p q : Nat × Nat} : eqP p q = true ↔ p = q := by
  unfold eqP
  rw [Bool.and_eq_true, Nat.beq_eq, Nat.beq_eq]
  constructor
  · rintro ⟨h1, h2⟩; exact Prod.ext h1 h2
  · rintro rfl; exact ⟨rfl, rfl⟩
theorem hasP_iff {L : PS} {p : Nat × Nat} : hasP L p = true ↔ p ∈ L.map (·.1) := by
  simp only [hasP, List.any_eq_true, List.mem_map]
  constructor
  · rintro ⟨q, hq, h⟩; exact ⟨q, hq, eqP_iff.1 h⟩
  · rintro ⟨q, hq, rfl⟩; exact ⟨q, hq, eqP_iff.2 rfl⟩
structure PI (a b m : Nat) (L : PS) : Prop where
  nd : (L.map (·.1)).Nodup
  rg : ∀ p ∈ L, p.1.1 < a ∧ p.1.2 < b
  wd : ∀ p ∈ L, (∀ x ∈ p.2, 0 ≤ x ∧ x < m) ∧ p.2.length < L.length
theorem PI.len {a b m : Nat} {L : PS} (h : PI a b m L) (ha : a ≤ 10) (hb : b ≤ 10) : L.length ≤ 100 := by
  have hn : ((L.map (·.1)).map fun p : Nat × Nat => 10 * p.1 + p.2).Nodup := by
    refine List.Pairwise.map _ ?_ (List.Pairwise.and_mem.1 h.nd)
    rintro p q ⟨hp, hq, hpq⟩ e
    obtain ⟨x, hx, rfl⟩ := List.mem_map.1 hp
    obtain ⟨y, hy, rfl⟩ := List.mem_map.1 hq
    have h1 := h.rg x hx
    have h2 := h.rg y hy
    exact hpq (Prod.ext (by omega) (by omega))
  have := nodup_lt 100 _ hn (fun x hx => by
    obtain ⟨p, hp, rfl⟩ := List.mem_map.1 hx
    obtain ⟨q, hq, rfl⟩ := List.mem_map.1 hp
    have := h.rg q hq
    omega)
  simpa using this
theorem PI.add {a b m : Nat} {L : PS} (h : PI a b m L) {to : Nat × Nat} {w : List Int} {x : Int} (ht : to.1 < a ∧ to.2 < b) (hn : hasP L to = false) (hw : (∀ x ∈ w, 0 ≤ x ∧ x < m) ∧ w.length < L.length) (hx : 0 ≤ x ∧ x < m) : PI a b m (L ++ [(to, w ++ [x])]) := by
  refine ⟨?_, ?_, ?_⟩
  · rw [List.map_append, List.nodup_append]
    refine ⟨h.nd, by simp, ?_⟩
    intro a ha b hb e
    simp at hb
    rw [e, hb, ← hasP_iff, hn] at ha
    cases ha
  · intro p hp
    rcases List.mem_append.1 hp with hp | hp
    · exact h.rg p hp
    · have hp : p = (to, w ++ [x]) := by simpa using hp
      rw [hp]; exact ht
  · intro p hp
    rw [List.length_append, List.length_singleton]
    rcases List.mem_append.1 hp with hp | hp
    · have := h.wd p hp
      exact ⟨this.1, by omega⟩
    · have hp : p = (to, w ++ [x]) := by simpa using hp
      subst hp
      refine ⟨fun y hy => ?_, by rw [List.length_append, List.length_singleton]; omega⟩
      rcases List.mem_append.1 hy with hy | hy
      · exact hw.1 y hy
      · have hy : y = x := by simpa using hy
        rw [hy]; exact hx
structure Two (n n' : Int) (na nb : List (List Int)) : Prop where
  a : Aut n na
  b : Aut n' nb
  len : nb.length = na.length
theorem Two.step {n n' : Int} {na nb : List (List Int)} (T : Two n n' na nb) {x : Nat} {p : Nat × Nat} (hx : x < na.length) (hp : p.1 < n.toNat ∧ p.2 < n'.toNat) : (stepP na nb p x).1 < n.toNat ∧ (stepP na nb p x).2 < n'.toNat := by
  have h1 := T.a.row _ (yz10 hx [])
  have h2 := T.b.row _ (yz10 (show x < nb.length by rw [T.len]; exact hx) [])
  have n1 := T.a.n1
  have n2 := T.b.n1
  have h3 := h1.2 _ (yz10 (show p.1 < (na.getD x []).length by omega) 0)
  have h4 := h2.2 _ (yz10 (show p.2 < (nb.getD x []).length by omega) 0)
  unfold stepP
  dsimp only
  omega
end Go.Ab
namespace Go.Ab
open Go.Proofs
end Go.Ab
namespace Go.Ab
open Go.Proofs
end Go.Ab
namespace Go.Ab
end Go.Ab
namespace Go.Ab
open Go.Proofs
end Go.Ab
namespace Go.Ab
open Go.Proofs
end Go.Ab
namespace Go.Ab
open Go.Proofs
theorem DJ_perm {ps qs : List (Nat × List Int)} (h : ps.Perm qs) (hp : DJ ps) : DJ qs :=
  (h.pairwise_iff fun {x y} e => by
    rcases e with e | e | e
    · exact .inr (.inl e)
    · exact .inl e
    · exact .inr (.inr (Ne.symm e))).1 hp
theorem ints_put {xs : List Int} {i : Nat} {v : Int} : List.take i (ints xs) ++ [iv v] ++ List.drop (i + 1) (ints xs) = ints (xs.take i ++ [v] ++ xs.drop (i + 1)) := by
  simp only [List.map_append, List.map_take, List.map_drop, List.map_cons, List.map_nil]
theorem lput_len {xs : List Int} {i : Nat} {v : Int} (h : i < xs.length) : (xs.take i ++ [v] ++ xs.drop (i + 1)).length = xs.length := by
  simp only [List.length_append, List.length_take, List.length_drop, List.length_cons, List.length_nil]; omega
theorem lput_mem {xs : List Int} {i : Nat} {v : Int} {Q : Int → Prop} (h : ∀ x ∈ xs, Q x) (hv : Q v) : ∀ x ∈ xs.take i ++ [v] ++ xs.drop (i + 1), Q x := by
  intro x hx
  simp only [List.mem_append, List.mem_singleton] at hx
  rcases hx with (hx | rfl) | hx
  · exact h x (List.mem_of_mem_take hx)
  · exact hv
  · exact h x (List.mem_of_mem_drop hx)
theorem call_boxrow {P : Program} {σ : St} {g : FuncId} {As args : List AVal} {d : Nat} {s : Nat → Nat} {K : St → Prop} {r q v u : Nat} {cs : List AVal} {xs : List Int} {Q : List AVal → Value → Prop}
    (h : Con P g [.box 0 cs, .row 1 1 true (ints xs)] args true fun outs rows res => ∃ cs' x, Q cs' x ∧ flatL cs' ∧ outs = [.box 0 cs', .row 1 1 true (ints xs)] ∧ rows = [] ∧ res = .val x)
    (hr : σ.hp r = .box v cs) (hq : σ.hp q = .row u 1 true (ints xs)) (hne : [r, q].Nodup) (hcs : CoeL σ.hp [r, q] false cs cs) (ha : CoeL σ.hp [r, q] false args As)
    (hk : ∀ cs' x, Q cs' x → K (St.put ⟨σ.tm, upd (upd σ.hp r (.box v cs')) q (.row u 1 true (ints xs))⟩ (some d) (.val x))) : wpCall P false σ g As (some d) s K := by
  refine .inl ⟨[r, q], _, _, true, _, h, ⟨by simp, rfl, hne, ?_, ?_⟩, ha, (fun e => by cases e), ?_⟩
  · intro x hx
    simp only [List.mem_cons, List.not_mem_nil, or_false] at hx
    rcases hx with rfl | rfl
    · simp [hr]
    · simp [hq]
  · intro j B r' hB hr'
    match j, hB, hr' with
    | 0, hB, hr' =>
      simp at hB hr'; subst hB; subst hr'
      rw [hr]
      exact ⟨rfl, v, cs, rfl, hcs⟩
    | 1, hB, hr' =>
      simp at hB hr'; subst hB; subst hr'
      simp only [ObjCoe, hq]
      exact ⟨trivial, u, _, rfl, coeL_ints⟩
    | j + 2, hB, hr' => simp at hB
  · rintro outs rows res ⟨cs', x, hQ, hf, rfl, rfl, rfl⟩
    refine ⟨rfl, by simp, by simp, ?_⟩
    have s0 : sv σ.hp [r, q] s 0 = v := by simp [sv, hr, AObj.ver]
    have s1 : sv σ.hp [r, q] s 1 = u := by simp [sv, hq, AObj.ver]
    rw [Option.getD_some, callHp_h2 hne]
    simp only [yzn, yzp, renL_flat cs' hf, yz4, yzw, s0, s1]
    exact hk cs' x hQ
theorem k_among (code : List Int) (at_ seed : Int) (list : List Int) (hb : ∀ x ∈ code, 0 ≤ x ∧ x ≤ 255) (ha : 0 ≤ at_ ∧ at_ ≤ 1000000000000) (hl : list ≠ []) :
    Con Try.prog nzm [.box 0 (srcC code at_ seed), .row 1 1 true (ints list)] [.ptr 5000 0 0, .own 5001 1] true fun outs rows res => ∃ cs' x, (∃ at' seed' b, cs' = srcC code at' seed' ∧ at_ ≤ at' ∧ at' ≤ at_ + 2 ∧ x = .int .i64 b ∧ b ∈ list) ∧ flatL cs' ∧
      outs = [.box 0 cs', .row 1 1 true (ints list)] ∧ rows = [] ∧ res = .val x := by
  refine con_sh mixed czhs rfl (by simp) ?_
  simp only [Bzfu, Azfv, go_sem, yz0, Int.reduceLT, reduceLE, reduceToNat, reduceNeg, Nat.reduceLT, reduceLeDiff, reduceMul, reduceSub, reduceIte, reduceEqDiff, reduceAdd, reduceCtorEq]
  intro vs hM
  refine call_funB (k_pick code at_ seed list.length hb ha) rfl qCS qCS ?_
  rintro cs' x ⟨a', s', b, rfl, h1, h2, rfl, h3, h4⟩
  have hpos : 0 < list.length := List.length_pos_iff.2 hl
  have hb2 : b.toNat < list.length := by omega
  simp only [yzx hb2, go_sem, yz0, Int.reduceLT, reduceLE, reduceToNat, reduceNeg, Nat.reduceLT, reduceLeDiff, reduceMul, reduceSub, reduceIte, reduceEqDiff, reduceAdd, reduceCtorEq]
  refine ⟨⟨h3, hb2⟩, hb2, [], by simp, by simp, by simp, ?_⟩
  simp only [Nat.not_lt_zero, range1, yzw, yz11, ren_ro, rnNm_n, yz12, rnNm_o, rnNm_s, ren_st, yzz, yzo, yzf, yz4, yzu, yzt, yzp, yzn, yzr, yzc, yz9, yz8, yze, yzj, yzl, yz3, yz7, yzb, yzd, yzi, yzm, List.range_zero, yz6, yz5, yza, yzv, yzh, yzq, AVal.fresh, freshL, yz2, yzk, AObj.fresh, id, Option.isSome_some, or_true, true_or, go_sem, yz0, Int.reduceLT, reduceLE, reduceToNat, reduceNeg, Nat.reduceLT, reduceLeDiff, reduceMul, reduceSub, reduceIte, reduceEqDiff, reduceAdd, reduceCtorEq]
  exact ⟨_, _, ⟨a', s', list.getD b.toNat 0, rfl, h1, h2, rfl, yz10 hb2 0⟩, by simp [flatL, AVal.flat, flat_vals], rfl, rfl⟩
end Go.Ab
namespace Go.Ab
open Go.Proofs
theorem k_l02SlowN (n : Int) (hn : 2 ≤ n ∧ n ≤ 10) :
    Con Try.prog nzh [] [iv n] true fun outs rows res => outs = [] ∧ ∃ v ps, Aut n (ps.map (·.2)) ∧ DJ ps ∧ rows = [.row v 1 true (rwp ps)] ∧ res = .st [iv n, .own 6000 v] := by
  refine con_sh mixed czgg rfl (by simp) ?_
  generalize hQ : finQ _ = Q
  simp only [Az4k, Bz9f, yzg, yz1, go_sem, yz0, Int.reduceLT, reduceLE, reduceToNat, reduceNeg, Nat.reduceLT, reduceLeDiff, reduceMul, reduceSub, reduceIte, reduceEqDiff, reduceAdd, reduceCtorEq]
  intro vs0 U0 hN0 vs1 U1 hN1
  simp only [Bz9e, yzg, yz1, go_sem, yz0, Int.reduceLT, reduceLE, reduceToNat, reduceNeg, Nat.reduceLT, reduceLeDiff, reduceMul, reduceSub, reduceIte, reduceEqDiff, reduceAdd, reduceCtorEq]
  intro vs2 U2 hN2
  simp only [Bz9d, Bz9b, yzg, yz1, go_sem, yz0, Int.reduceLT, reduceLE, reduceToNat, reduceNeg, Nat.reduceLT, reduceLeDiff, reduceMul, reduceSub, reduceIte, reduceEqDiff, reduceAdd, reduceCtorEq]
  intro vs3 U3 hN3
  refine wpD_lp (fun (_, _, xs, _) => n.toNat - List.length xs)
    (fun (v3, v4, xs, ys) => (List.length xs : Int) ≤ n ∧ List.length ys = List.length xs ∧ (∀ x ∈ xs, 0 ≤ x ∧ x < n) ∧ (∀ x ∈ ys, 0 ≤ x ∧ x < n) ∧ v3 ≠ v4)
    (fun ((v3, v4, xs, ys) : Nat × Nat × List Int × List Int) => ⟨L .any [(0, iv n), (2, .ptr 2 (vs0 0 0) 0), (3, .own 6 v3), (4, .own 7 v4), (5, iv xs.length)],
      L .gone [(2, .box (vs0 0 0) [iv 0, .val (.slice none 0 0)]), (6, .row v3 1 true (ints xs)), (7, .row v4 1 true (ints ys)), (19, .gone), (26, .gone), (30, .gone), (5000, .gone)]⟩)
    (vs1 0 0, vs2 0 0, [], []) ⟨by simp; omega, rfl, by simp, by simp, fun e => hN2.new 0 0 (by rw [← e]; exact (hN2.hp 6).1)⟩ (by simp only [Bz22, go_sem, yz0, Int.reduceLT, reduceLE, reduceToNat, reduceNeg, Nat.reduceLT, reduceLeDiff, reduceMul, reduceSub, reduceIte, reduceEqDiff, reduceAdd, reduceCtorEq]; try rfl) ?_
  rintro ⟨v3, v4, xs, ys⟩ ⟨h1, h2, h3, h4, h5⟩
  have h1 : (xs.length : Int) ≤ n := h1
  have h2 : ys.length = xs.length := h2
  have h5 : v3 ≠ v4 := h5
  by_cases hlt : (xs.length : Int) < n
  · have w1 : IntKind.i64.wrap ((xs.length : Int) + 1) = ((xs.length + 1 : Nat) : Int) := by rw [w64 (by omega)]; simp
    have w2 : IntKind.i64.wrap (n - 1) = n - 1 := w64 (by omega)
    have hn0 : ¬ n = 0 := by omega
    have hn1 : ¬ n - 1 = 0 := by omega
    have t1 := tmod_in (a := ((xs.length + 1 : Nat) : Int)) (n := n) (by omega) (by omega)
    have t2 := tmod_in (a := (xs.length : Int)) (n := n - 1) (by omega) (by omega)
    simp only [Bz22, Bz4j, Bz9a, decide_eq_true hlt, w1, hn0, yzg, yz1, go_sem, yz0, Int.reduceLT, reduceLE, reduceToNat, reduceNeg, Nat.reduceLT, reduceLeDiff, reduceMul, reduceSub, reduceIte, reduceEqDiff, reduceAdd, reduceCtorEq]
    intro vs4 U4 hN4 vs5 U5 hN5
    refine ⟨⟨_, rfl, rfl⟩, by omega, ?_⟩
    simp only [Bz98, w2, hn1, yzg, yz1, go_sem, yz0, Int.reduceLT, reduceLE, reduceToNat, reduceNeg, Nat.reduceLT, reduceLeDiff, reduceMul, reduceSub, reduceIte, reduceEqDiff, reduceAdd, reduceCtorEq]
    intro vs6 U6 hN6
    refine ⟨⟨_, rfl, rfl⟩, by omega, ?_⟩
    simp only [Bz99, w1, yzg, yz1, go_sem, yz0, Int.reduceLT, reduceLE, reduceToNat, reduceNeg, Nat.reduceLT, reduceLeDiff, reduceMul, reduceSub, reduceIte, reduceEqDiff, reduceAdd, reduceCtorEq]
    intro vs7 U7 hN7
    refine ⟨(vs5 6 0, vs6 6 0, xs ++ [((xs.length + 1 : Nat) : Int).tmod n], ys ++ [(xs.length : Int).tmod (n - 1)]), by dsimp only; rw [List.length_append, List.length_singleton]; omega,
      ⟨by dsimp only; rw [List.length_append, List.length_singleton]; omega, by dsimp only; rw [List.length_append, List.length_append, h2]; rfl, ?_, ?_, fun e => hN6.new 6 0 ((show vs5 6 0 = vs6 6 0 from e) ▸ (show U6 (vs5 6 0) from (hN6.hp 6).1))⟩, ?_⟩
    · intro x hx
      rcases List.mem_append.1 hx with h | h
      · exact h3 x h
      · rw [List.mem_singleton.1 h]; exact t1
    · intro x hx
      rcases List.mem_append.1 hx with h | h
      · exact h4 x h
      · rw [List.mem_singleton.1 h]; omega
    · simp only [List.length_append, List.length_singleton]
  · have hxl : (xs.length : Int) = n := by omega
    simp only [Bz22, Bz4j, Bz9c, decide_eq_false hlt, yzg, yz1, go_sem, yz0, Int.reduceLT, reduceLE, reduceToNat, reduceNeg, Nat.reduceLT, reduceLeDiff, reduceMul, reduceSub, reduceIte, reduceEqDiff, reduceAdd, reduceCtorEq]
    intro vs4 U4 hN4 vs5 U5 hN5
    refine ⟨by decide, ?_⟩
    simp only [Az4k, ← hQ, go_sem, yz0, Int.reduceLT, reduceLE, reduceToNat, reduceNeg, Nat.reduceLT, reduceLeDiff, reduceMul, reduceSub, reduceIte, reduceEqDiff, reduceAdd, reduceCtorEq]
    refine ⟨[30], by simp, by simp, by simp, ?_⟩
    have e : [AVal.ro (some (some (v3 + 1))) 1 (ints xs), AVal.ro (some (some (v4 + 1))) 1 (ints ys)] = rwp [(v3, xs), (v4, ys)] := rfl
    simp only [e, range1, List.length_singleton, renL_rwp, Nat.not_lt_zero, range1, yzw, yz11, ren_ro, rnNm_n, yz12, rnNm_o, rnNm_s, ren_st, yzz, yzo, yzf, yz4, yzu, yzt, yzp, yzn, yzr, yzc, yz9, yz8, yze, yzj, yzl, yz3, yz7, yzb, yzd, yzi, yzm, List.range_zero, yz6, yz5, yza, yzv, yzh, yzq, AVal.fresh, freshL, yz2, yzk, AObj.fresh, id, Option.isSome_some, or_true, true_or, go_sem, yz0, Int.reduceLT, reduceLE, reduceToNat, reduceNeg, Nat.reduceLT, reduceLeDiff, reduceMul, reduceSub, reduceIte, reduceEqDiff, reduceAdd, reduceCtorEq]
    refine ⟨vs5 3 0, [(v3, xs), (v4, ys)], ⟨by omega, by omega, by simp, by simp, ?_⟩, ?_, by simp, rfl⟩
    · intro r hr
      simp only [List.map_cons, List.map_nil, List.mem_cons, List.not_mem_nil, or_false] at hr
      rcases hr with rfl | rfl
      · exact ⟨hxl, h3⟩
      · exact ⟨by omega, h4⟩
    · simp only [DJ, List.pairwise_cons, List.mem_singleton, forall_eq]
      exact ⟨.inr (.inr h5), by simp, .nil⟩
theorem k_l01Tidied (xs : List Int) (hl : xs.length ≤ 100000) : RowI Try.prog nz3y [.ro none 1 (ints xs)] (fun _ => True) := by
  refine rowI_of mixed czhr rfl ?_
  simp only [Azft, Bzfs, go_sem, yz0, Int.reduceLT, reduceLE, reduceToNat, reduceNeg, Nat.reduceLT, reduceLeDiff, reduceMul, reduceSub, reduceIte, reduceEqDiff, reduceAdd, reduceCtorEq]
  intro vs
  simp only [Bzfr, Bzfq, Bzfo, go_sem, yz0, Int.reduceLT, reduceLE, reduceToNat, reduceNeg, Nat.reduceLT, reduceLeDiff, reduceMul, reduceSub, reduceIte, reduceEqDiff, reduceAdd, reduceCtorEq]
  refine wpD_lo (fun (_, _, ys) => xs.length - List.length ys) (fun (_, c, ys) => List.length ys ≤ xs.length ∧ 0 ≤ c ∧ c ≤ List.length ys)
    (fun ((va, c, ys) : Nat × Int × List Int) => ⟨L .any [(0, .ro none 1 (ints xs)), (3, .own 8 va), (4, iv c), (5, iv ys.length)], L .gone [(8, .row va 1 true (ints ys))]⟩)
    (_, 0, []) ⟨by simp, Int.le_refl _, by simp⟩ (by simp only [Bz2y, go_sem, yz0, Int.reduceLT, reduceLE, reduceToNat, reduceNeg, Nat.reduceLT, reduceLeDiff, reduceMul, reduceSub, reduceIte, reduceEqDiff, reduceAdd, reduceCtorEq]; try rfl) ?_
  rintro ⟨va, c, ys⟩ ⟨h1, h2, h3⟩
  have h1 : ys.length ≤ xs.length := h1
  have h3 : c ≤ ys.length := h3
  by_cases hlt : (ys.length : Int) < xs.length
  · have hlt1 : ys.length < xs.length := by omega
    have w1 : IntKind.i64.wrap ((ys.length : Int) + 1) = ((ys.length + 1 : Nat) : Int) := by rw [w64 (by omega)]; simp
    simp only [Bz2y, Bz74, Bzfn, decide_eq_true hlt, go_sem, yz0, Int.reduceLT, reduceLE, reduceToNat, reduceNeg, Nat.reduceLT, reduceLeDiff, reduceMul, reduceSub, reduceIte, reduceEqDiff, reduceAdd, reduceCtorEq]
    intro hM
    simp only [Bzfm, Bzfj, go_sem, yz0, Int.reduceLT, reduceLE, reduceToNat, reduceNeg, Nat.reduceLT, reduceLeDiff, reduceMul, reduceSub, reduceIte, reduceEqDiff, reduceAdd, reduceCtorEq]
    refine wpD_lo (fun (k, _) => ys.length - k) (fun (k, _) => k ≤ ys.length)
      (fun ((k, o) : Nat × Int) => ⟨L .any [(0, .ro none 1 (ints xs)), (3, .own 8 va), (4, iv c), (5, iv ys.length), (6, iv o), (7, iv k)], L .gone [(8, .row va 1 true (ints ys))]⟩)
      (0, -1) (by simp) (by simp only [Bz2x, go_sem, yz0, Int.reduceLT, reduceLE, reduceToNat, reduceNeg, Nat.reduceLT, reduceLeDiff, reduceMul, reduceSub, reduceIte, reduceEqDiff, reduceAdd, reduceCtorEq]; try rfl) ?_
    rintro ⟨k, o⟩ hk
    have hk : k ≤ ys.length := hk
    by_cases hkl : (k : Int) < ys.length
    · have hk1 : k < ys.length := by omega
      have hk2 : k < xs.length := by omega
      have w2 : IntKind.i64.wrap ((k : Int) + 1) = ((k + 1 : Nat) : Int) := by rw [w64 (by omega)]; simp
      simp only [Bz2x, Bz75, Bzfi, decide_eq_true hkl, yzx hk2, yzx hlt1, go_sem, yz0, Int.reduceLT, reduceLE, reduceToNat, reduceNeg, Nat.reduceLT, reduceLeDiff, reduceMul, reduceSub, reduceIte, reduceEqDiff, reduceAdd, reduceCtorEq]
      refine ⟨⟨by omega, hk2⟩, hk2, ⟨by omega, hlt1⟩, hlt1, ?_⟩
      simp only [Bzfg, Bzfh, yzx hk1, w2, go_sem, yz0, Int.reduceLT, reduceLE, reduceToNat, reduceNeg, Nat.reduceLT, reduceLeDiff, reduceMul, reduceSub, reduceIte, reduceEqDiff, reduceAdd, reduceCtorEq]
      exact ⟨fun _ => ⟨⟨by omega, hk1⟩, hk1, (k + 1, ys.getD k 0), by dsimp only; omega, by dsimp only; omega, rfl⟩, fun _ => ⟨(k + 1, o), by dsimp only; omega, by dsimp only; omega, rfl⟩⟩
    · simp only [Bz2x, Bz75, Bzfl, decide_eq_false hkl, go_sem, yz0, Int.reduceLT, reduceLE, reduceToNat, reduceNeg, Nat.reduceLT, reduceLeDiff, reduceMul, reduceSub, reduceIte, reduceEqDiff, reduceAdd, reduceCtorEq]
      by_cases ho : o < 0
      · have w3 : IntKind.i64.wrap (c + 1) = c + 1 := w64 (by omega)
        simp only [Bz76, Bzfk, Bz77, Bz78, decide_eq_true ho, w1, w3, go_sem, yz0, Int.reduceLT, reduceLE, reduceToNat, reduceNeg, Nat.reduceLT, reduceLeDiff, reduceMul, reduceSub, reduceIte, reduceEqDiff, reduceAdd, reduceCtorEq]
        intro vs2
        refine ⟨⟨_, rfl, rfl⟩, by omega, ?_⟩
        exact ⟨(vs2 3 0, c + 1, ys ++ [c]), by dsimp only; rw [List.length_append, List.length_singleton]; omega, ⟨by dsimp only; rw [List.length_append, List.length_singleton]; omega, by dsimp only; omega, by dsimp only; rw [List.length_append, List.length_singleton]; omega⟩, by simp only [List.length_append, List.length_singleton]⟩
      · simp only [Bz76, Bz77, Bz78, decide_eq_false ho, w1, go_sem, yz0, Int.reduceLT, reduceLE, reduceToNat, reduceNeg, Nat.reduceLT, reduceLeDiff, reduceMul, reduceSub, reduceIte, reduceEqDiff, reduceAdd, reduceCtorEq]
        intro vs2
        refine ⟨⟨_, rfl, rfl⟩, by omega, ?_⟩
        exact ⟨(vs2 3 0, c, ys ++ [o]), by dsimp only; rw [List.length_append, List.length_singleton]; omega, ⟨by dsimp only; rw [List.length_append, List.length_singleton]; omega, h2, by dsimp only; rw [List.length_append, List.length_singleton]; omega⟩, by simp only [List.length_append, List.length_singleton]⟩
  · simp only [Bz2y, Bz74, Bzfp, decide_eq_false hlt, go_sem, yz0, Int.reduceLT, reduceLE, reduceToNat, reduceNeg, Nat.reduceLT, reduceLeDiff, reduceMul, reduceSub, reduceIte, reduceEqDiff, reduceAdd, reduceCtorEq]
    intro hM
    exact ⟨8, va, ys, by omega, rfl, by simp only [go_sem, yz0, Int.reduceLT, reduceLE, reduceToNat, reduceNeg, Nat.reduceLT, reduceLeDiff, reduceMul, reduceSub, reduceIte, reduceEqDiff, reduceAdd, reduceCtorEq]⟩
end Go.Ab
namespace Go.Ab
open Go.Proofs
abbrev AlR (code : List Int) (at_ : Int) (outs rows : List AObj) (res : AVal) : Prop :=
  ∃ n ps v w xs a' s', Aut n (ps.map (·.2)) ∧ DJ ps ∧ n ≤ 6 ∧ at_ ≤ a' ∧ a' ≤ at_ + 2000 ∧ outs = [.box 0 (srcC code a' s')] ∧ rows = [.row v 1 true (rwp ps), .row w 1 true (ints xs)] ∧ res = .tup [.st [iv n, .own 6000 v], .own 6001 w]
theorem rwp_getD {ps : List (Nat × List Int)} {i : Nat} (h : i < ps.length) : (rwp ps).getD i .any = .ro (some (some ((ps.getD i (0, [])).1 + 1))) 1 (ints (ps.getD i (0, [])).2) := by
  rw [List.getD_eq_getElem?_getD, rwp, List.getElem?_map, List.getElem?_eq_getElem h, List.getD_eq_getElem?_getD, List.getElem?_eq_getElem h]; rfl
theorem k_l01Alike (code : List Int) (at_ seed : Int) (hb : ∀ x ∈ code, 0 ≤ x ∧ x ≤ 255) (ha : 0 ≤ at_ ∧ at_ ≤ 100000) :
    Con Try.prog nz3p [.box 0 (srcC code at_ seed)] [.ptr 5000 0 0] true (AlR code at_) := by
  refine con_sh mixed czhi rfl (by simp) ?_
  generalize hQ : finQ _ = Q
  simp only [Az6k, Bze9, yzg, yz1, go_sem, yz0, Int.reduceLT, reduceLE, reduceToNat, reduceNeg, Nat.reduceLT, reduceLeDiff, reduceMul, reduceSub, reduceIte, reduceEqDiff, reduceAdd, reduceCtorEq]
  intro vs0 U0 hN0 vs1 U1 hN1
  refine call_con (r := 5000) (k_DrawnN code at_ seed 3 hb (by omega) (by omega)) rfl (by simp only [Bool.not_true, rowIs, boxIs, coe_argN, coe_argNs, coe_ro_o, yz18, yzs, coe_any, coe_val, coe_ro, yz17, yz15, coe_st, yz16, coe_rp, yz14, coe_clo, coe_own0, coe_ptr0, yz13, coeL_rws, coeL_rwn, L_hit, L_miss, L_nil, reduceEqDiff, ne_eq, reduceCtorEq, not_false_eq_true, true_and, and_true, and_self, exists_eq_left, exists_eq_right, List.mem_cons, List.not_mem_nil, or_false, AObj.row.injEq, AObj.box.injEq, exists_eq_left', exists_and_left, exists_eq, Nat.zero_lt_one, Nat.lt_add_one, List.map_cons, List.map_nil, AObj.ver, Nat.reduceLT, not_true_eq_false]) (by simp only [Bool.not_true, rowIs, boxIs, coe_argN, coe_argNs, coe_ro_o, yz18, yzs, coe_any, coe_val, coe_ro, yz17, yz15, coe_st, yz16, coe_rp, yz14, coe_clo, coe_own0, coe_ptr0, yz13, coeL_rws, coeL_rwn, L_hit, L_miss, L_nil, reduceEqDiff, ne_eq, reduceCtorEq, not_false_eq_true, true_and, and_true, and_self, exists_eq_left, exists_eq_right, List.mem_cons, List.not_mem_nil, or_false, AObj.row.injEq, AObj.box.injEq, exists_eq_left', exists_and_left, exists_eq, Nat.zero_lt_one, Nat.lt_add_one, List.map_cons, List.map_nil, AObj.ver, Nat.reduceLT, not_true_eq_false]) ?_
  rintro outs rows res ⟨q, qs, vq, a1, s1, A, hd, hq3, h1, h2, rfl, rfl, rfl⟩
  refine ⟨rfl, by simp, by rw [Option.getD_some, yzh]; simp only [go_sem, yz0, Int.reduceLT, reduceLE, reduceToNat, reduceNeg, Nat.reduceLT, reduceLeDiff, reduceMul, reduceSub, reduceIte, reduceEqDiff, reduceAdd, reduceCtorEq], ?_⟩
  rw [Option.getD_some, callHp_mr (by omega)]
  simp only [renL_rwp, Bze8, yzg, yz1, Nat.not_lt_zero, range1, yzw, yz11, ren_ro, rnNm_n, yz12, rnNm_o, rnNm_s, ren_st, yzz, yzo, yzf, yz4, yzu, yzt, yzp, yzn, yzr, yzc, yz9, yz8, yze, yzj, yzl, yz3, yz7, yzb, yzd, yzi, yzm, List.range_zero, yz6, yz5, yza, yzv, yzh, yzq, AVal.fresh, freshL, yz2, yzk, AObj.fresh, id, Option.isSome_some, or_true, true_or, go_sem, yz0, Int.reduceLT, reduceLE, reduceToNat, reduceNeg, Nat.reduceLT, reduceLeDiff, reduceMul, reduceSub, reduceIte, reduceEqDiff, reduceAdd, reduceCtorEq]
  intro vs2 U2 hN2
  generalize hf : sv (L .gone _) [5000] (vs1 1) = f
  have hf0 : f 0 = 0 := by rw [← hf]; simp [sv, AObj.ver, L]
  rw [hf0]
  generalize hps0 : List.map (fun p => (f p.1, p.2)) qs = ps0
  have A0 : Aut q (ps0.map (·.2)) := by
    rw [← hps0, List.map_map]; exact A
  have n1 := A0.n1
  have l1 := A0.l1
  have l2 := A0.l2
  rw [List.length_map] at l1 l2
  refine call_funBN (k_pick code a1 s1 4 hb (by omega)) rfl (by simp) qCS qCS ⟨srcC code a1 0, .int .i64 0, ⟨a1, 0, 0, rfl, by omega, by omega, rfl, by omega, .inr rfl⟩, flat_srcC⟩ ?_
  rintro cs' x ⟨a2, s2, b2, rfl, g1, g2, rfl, g3, g4⟩
  obtain ⟨n, hn⟩ : ∃ n : Int, n = q + b2 := ⟨_, rfl⟩
  have wn : IntKind.i64.wrap (q + b2) = n := by rw [hn]; exact w64 (by omega)
  simp only [wn, Bze7, yzg, yz1, go_sem, yz0, Int.reduceLT, reduceLE, reduceToNat, reduceNeg, Nat.reduceLT, reduceLeDiff, reduceMul, reduceSub, reduceIte, reduceEqDiff, reduceAdd, reduceCtorEq]
  intro vs3 U3 hN3
  simp only [Bze6, Bzdm, yzg, yz1, go_sem, yz0, Int.reduceLT, reduceLE, reduceToNat, reduceNeg, Nat.reduceLT, reduceLeDiff, reduceMul, reduceSub, reduceIte, reduceEqDiff, reduceAdd, reduceCtorEq]
  intro vs4 U4 hN4
  refine wpD_lp (fun (_, _, _, xs) => n.toNat - List.length xs)
    (fun (_, a, _, xs) => a2 ≤ a ∧ a ≤ a2 + 2 * List.length xs ∧ (List.length xs : Int) ≤ n ∧ ∀ x ∈ xs, 0 ≤ x ∧ x < q)
    (fun ((v6, a, s, xs) : Nat × Int × Int × List Int) => ⟨L .any [(0, .ptr 5000 0 0), (2, .ptr 2 (vs0 0 0) 0), (4, .ptr 4 (vs1 2 0) 0), (5, iv n), (6, .own 23 v6), (7, iv xs.length)],
      L .gone [(2, .box (vs0 0 0) [iv 0, .val (.slice none 0 0)]), (4, .box (vs1 2 0) [iv q, .own 17 (f vq)]), (8, .gone), (17, .row (f vq) 1 true (rwp ps0)), (23, .row v6 1 true (ints xs)), (36, .gone), (43, .gone), (93, .gone), (5000, .box 0 (srcC code a s))]⟩)
    (_, a2, s2, []) ⟨Int.le_refl _, by simp, by simp; omega, by simp⟩ (by simp only [Bz2n, go_sem, yz0, Int.reduceLT, reduceLE, reduceToNat, reduceNeg, Nat.reduceLT, reduceLeDiff, reduceMul, reduceSub, reduceIte, reduceEqDiff, reduceAdd, reduceCtorEq]; try rfl) ?_
  rintro ⟨v6, a, s, xs⟩ ⟨i1, i2, i3, i4⟩
  have i1 : a2 ≤ a := i1
  have i2 : a ≤ a2 + 2 * xs.length := i2
  have i3 : (xs.length : Int) ≤ n := i3
  by_cases hlt : (xs.length : Int) < n
  · have w1 : IntKind.i64.wrap ((xs.length : Int) + 1) = ((xs.length + 1 : Nat) : Int) := by rw [w64 (by omega)]; simp
    simp only [Bz2n, Bz6e, Bzdl, decide_eq_true hlt, yzg, yz1, go_sem, yz0, Int.reduceLT, reduceLE, reduceToNat, reduceNeg, Nat.reduceLT, reduceLeDiff, reduceMul, reduceSub, reduceIte, reduceEqDiff, reduceAdd, reduceCtorEq]
    intro vs5 U5 hN5 vs6 U6 hN6
    by_cases hq : (xs.length : Int) < q
    · simp only [Bz6f, Bz6g, decide_eq_true hq, w1, yzg, yz1, go_sem, yz0, Int.reduceLT, reduceLE, reduceToNat, reduceNeg, Nat.reduceLT, reduceLeDiff, reduceMul, reduceSub, reduceIte, reduceEqDiff, reduceAdd, reduceCtorEq]
      intro vs7 U7 hN7
      refine ⟨⟨_, rfl, rfl⟩, by omega, ?_⟩
      intro vs8 U8 hN8
      refine ⟨(vs7 3 0, a, s, xs ++ [(xs.length : Int)]), by dsimp only; rw [List.length_append, List.length_singleton]; omega, ⟨i1, by dsimp only; rw [List.length_append, List.length_singleton]; omega, by dsimp only; rw [List.length_append, List.length_singleton]; omega, fun x hx => ?_⟩, ?_⟩
      · rcases List.mem_append.1 hx with h | h
        · exact i4 x h
        · rw [List.mem_singleton.1 h]; omega
      · simp only [List.length_append, List.length_singleton]
    · simp only [Bz6f, decide_eq_false hq, yzg, yz1, go_sem, yz0, Int.reduceLT, reduceLE, reduceToNat, reduceNeg, Nat.reduceLT, reduceLeDiff, reduceMul, reduceSub, reduceIte, reduceEqDiff, reduceAdd, reduceCtorEq]
      intro vs7 U7 hN7
      refine call_funB (k_pick code a s q hb (by omega)) rfl qCS qCS ?_
      rintro cs' x ⟨a3, s3, b3, rfl, e1, e2, rfl, e3, e4⟩
      simp only [Bz6g, w1, yzg, yz1, go_sem, yz0, Int.reduceLT, reduceLE, reduceToNat, reduceNeg, Nat.reduceLT, reduceLeDiff, reduceMul, reduceSub, reduceIte, reduceEqDiff, reduceAdd, reduceCtorEq]
      refine ⟨⟨_, rfl, rfl⟩, by omega, ?_⟩
      intro vs8 U8 hN8
      refine ⟨(vs7 6 0, a3, s3, xs ++ [b3]), by dsimp only; rw [List.length_append, List.length_singleton]; omega, ⟨by dsimp only; omega, by dsimp only; rw [List.length_append, List.length_singleton]; omega, by dsimp only; rw [List.length_append, List.length_singleton]; omega, fun x hx => ?_⟩, ?_⟩
      · rcases List.mem_append.1 hx with h | h
        · exact i4 x h
        · rw [List.mem_singleton.1 h]; omega
      · simp only [List.length_append, List.length_singleton]
  have hxl : (xs.length : Int) = n := by omega
  simp only [Bz2n, Bz6e, Bze5, decide_eq_false hlt, yzg, yz1, go_sem, yz0, Int.reduceLT, reduceLE, reduceToNat, reduceNeg, Nat.reduceLT, reduceLeDiff, reduceMul, reduceSub, reduceIte, reduceEqDiff, reduceAdd, reduceCtorEq]
  intro vs5 U5 hN5 vs6 U6 hN6
  simp only [Bze4, Bze2, yzg, yz1, go_sem, yz0, Int.reduceLT, reduceLE, reduceToNat, reduceNeg, Nat.reduceLT, reduceLeDiff, reduceMul, reduceSub, reduceIte, reduceEqDiff, reduceAdd, reduceCtorEq]
  intro vs7 U7 hN7 ver
  refine wpD_lp (fun (_, _, _, _, ps) => ps0.length - List.length ps)
    (fun (_, nn, a', _, ps) => a ≤ a' ∧ a' ≤ a + 60 * List.length ps ∧ List.length ps ≤ ps0.length ∧ (ps ≠ [] → nn = true) ∧ (∀ p ∈ ps, (List.length p.2 : Int) = n ∧ ∀ x ∈ p.2, 0 ≤ x ∧ x < n) ∧ DJ ps)
    (fun ((v93, nn, a, s, ps) : Nat × Bool × Int × Int × List (Nat × List Int)) => ⟨L .any [(0, .ptr 5000 0 0), (2, .ptr 2 (vs0 0 0) 0), (4, .ptr 4 (vs1 2 0) 0), (5, iv n), (6, .own 23 v6), (8, .ptr 8 (vs6 2 0) 0), (9, iv ps.length)],
      L .gone [(2, .box (vs0 0 0) [iv 0, .val (.slice none 0 0)]), (4, .box (vs1 2 0) [iv q, .own 17 (f vq)]), (8, .box (vs6 2 0) [iv n, .own 93 v93]), (17, .row (f vq) 1 true (rwp ps0)), (23, .row v6 1 true (ints xs)), (36, .gone), (43, .gone), (93, .row v93 1 nn (rwp ps)), (5000, .box 0 (srcC code a s))]⟩)
    (ver, false, a, s, []) ⟨Int.le_refl _, by simp, by simp, by simp, by simp, by simp [DJ]⟩ (by simp only [Bz2q, go_sem, yz0, Int.reduceLT, reduceLE, reduceToNat, reduceNeg, Nat.reduceLT, reduceLeDiff, reduceMul, reduceSub, reduceIte, reduceEqDiff, reduceAdd, reduceCtorEq]; try rfl) ?_
  rintro ⟨v93, nn, a', s', ps⟩ ⟨j1, j2, j3, j4, j5, j6⟩
  have j1 : a ≤ a' := j1
  have j2 : a' ≤ a + 60 * ps.length := j2
  have j3 : ps.length ≤ ps0.length := j3
  by_cases hlp : (ps.length : Int) < ps0.length
  · have hlp1 : ps.length < ps0.length := by omega
    have hrw := A0.row _ (List.mem_map_of_mem (f := (·.2)) (yz10 hlp1 (0, [])))
    generalize hr0 : ps0.getD ps.length (0, []) = r0 at hrw
    simp only [Bz2q, Bz6h, Bze1, rwp_len, decide_eq_true hlp, yzg, yz1, go_sem, yz0, Int.reduceLT, reduceLE, reduceToNat, reduceNeg, Nat.reduceLT, reduceLeDiff, reduceMul, reduceSub, reduceIte, reduceEqDiff, reduceAdd, reduceCtorEq]
    intro vs8 U8 hN8 hM8 vs9 U9 hN9
    simp only [Bzdz, Bzdx, yzg, yz1, go_sem, yz0, Int.reduceLT, reduceLE, reduceToNat, reduceNeg, Nat.reduceLT, reduceLeDiff, reduceMul, reduceSub, reduceIte, reduceEqDiff, reduceAdd, reduceCtorEq]
    intro vs10 U10 hN10
    refine wpD_lp (fun (_, _, _, row) => n.toNat - List.length row)
      (fun (_, a3, _, row) => a' ≤ a3 ∧ a3 ≤ a' + 8 * List.length row ∧ (List.length row : Int) ≤ n ∧ ∀ x ∈ row, 0 ≤ x ∧ x < n)
      (fun ((v10, a, s, row) : Nat × Int × Int × List Int) => ⟨L .any [(0, .ptr 5000 0 0), (2, .ptr 2 (vs0 0 0) 0), (4, .ptr 4 (vs1 2 0) 0), (5, iv n), (6, .own 23 v6), (8, .ptr 8 (vs6 2 0) 0), (9, iv ps.length), (10, .own 53 v10), (11, iv row.length)],
        L .gone [(2, .box (vs0 0 0) [iv 0, .val (.slice none 0 0)]), (4, .box (vs1 2 0) [iv q, .own 17 (f vq)]), (8, .box (vs6 2 0) [iv n, .own 93 v93]), (17, .row (f vq) 1 true (rwp ps0)), (23, .row v6 1 true (ints xs)), (36, .gone), (43, .gone), (53, .row v10 1 true (ints row)), (88, .gone), (93, .row v93 1 nn (rwp ps)), (5000, .box 0 (srcC code a s))]⟩)
      (_, a', s', []) ⟨Int.le_refl _, by simp, by simp; omega, by simp⟩ (by simp only [Bz2p, go_sem, yz0, Int.reduceLT, reduceLE, reduceToNat, reduceNeg, Nat.reduceLT, reduceLeDiff, reduceMul, reduceSub, reduceIte, reduceEqDiff, reduceAdd, reduceCtorEq]; try rfl) ?_
    rintro ⟨v10, a3, s3, row⟩ ⟨k1, k2, k3, k4⟩
    have k1 : a' ≤ a3 := k1
    have k2 : a3 ≤ a' + 8 * row.length := k2
    have k3 : (row.length : Int) ≤ n := k3
    by_cases hlr : (row.length : Int) < n
    · have hx1 : row.length < xs.length := by omega
      have hm := i4 _ (yz10 hx1 0)
      generalize hmx : xs.getD row.length 0 = m at hm
      have hm1 : m.toNat < r0.2.length := by omega
      have hw := hrw.2 _ (yz10 hm1 0)
      generalize hwx : r0.2.getD m.toNat 0 = want at hw
      simp only [Bz2p, Bz6i, Bzdw, rwp_getD hlp1, hr0, yzx hx1, hmx, yzx hm1, hwx, decide_eq_true hlr, yzg, yz1, go_sem, yz0, Int.reduceLT, reduceLE, reduceToNat, reduceNeg, Nat.reduceLT, reduceLeDiff, reduceMul, reduceSub, reduceIte, reduceEqDiff, reduceAdd, reduceCtorEq]
      intro vs11 U11 hN11 vs12 U12 hN12
      have hlw : (rwp ps0).length = ps0.length := rwp_len
      refine ⟨⟨by omega, by omega⟩, by omega, ⟨by omega, hx1⟩, hx1, ⟨hm.1, hm1⟩, hm1, ?_⟩
      simp only [Bzdu, Bzdt, Bzdr, yzg, yz1, go_sem, yz0, Int.reduceLT, reduceLE, reduceToNat, reduceNeg, Nat.reduceLT, reduceLeDiff, reduceMul, reduceSub, reduceIte, reduceEqDiff, reduceAdd, reduceCtorEq]
      intro vs13 U13 hN13 vs14 U14 hN14
      refine wpD_lp (fun (_, _, _, j) => 4 - j)
        (fun (a4, _, t, j) => a3 ≤ a4 ∧ a4 ≤ a3 + 2 * (j : Nat) ∧ j ≤ 4 ∧ 0 ≤ t ∧ t < n)
        (fun ((a, s, t, j) : Int × Int × Int × Nat) => ⟨L .any [(0, .ptr 5000 0 0), (2, .ptr 2 (vs0 0 0) 0), (4, .ptr 4 (vs1 2 0) 0), (5, iv n), (6, .own 23 v6), (8, .ptr 8 (vs6 2 0) 0), (9, iv ps.length), (10, .own 53 v10), (11, iv row.length), (12, iv want), (13, iv t), (14, iv j)],
          L .gone [(2, .box (vs0 0 0) [iv 0, .val (.slice none 0 0)]), (4, .box (vs1 2 0) [iv q, .own 17 (f vq)]), (8, .box (vs6 2 0) [iv n, .own 93 v93]), (17, .row (f vq) 1 true (rwp ps0)), (23, .row v6 1 true (ints xs)), (36, .gone), (43, .gone), (53, .row v10 1 true (ints row)), (88, .gone), (93, .row v93 1 nn (rwp ps)), (5000, .box 0 (srcC code a s))]⟩)
        (a3, s3, want, 0) ⟨Int.le_refl _, by simp, by simp, hw.1, by omega⟩ (by simp only [Bz2o, go_sem, yz0, Int.reduceLT, reduceLE, reduceToNat, reduceNeg, Nat.reduceLT, reduceLeDiff, reduceMul, reduceSub, reduceIte, reduceEqDiff, reduceAdd, reduceCtorEq]; try rfl) ?_
      rintro ⟨a4, s4, t, j⟩ ⟨m1, m2, m3, m4, m5⟩
      have m1 : a3 ≤ a4 := m1
      have m2 : a4 ≤ a3 + 2 * (j : Nat) := m2
      have m3 : j ≤ 4 := m3
      by_cases hj : (j : Int) < 4
      · have w1 : IntKind.i64.wrap ((j : Int) + 1) = ((j + 1 : Nat) : Int) := by rw [w64 (by omega)]; simp
        simp only [Bz2o, Bz6j, Bzdq, decide_eq_true hj, yzg, yz1, go_sem, yz0, Int.reduceLT, reduceLE, reduceToNat, reduceNeg, Nat.reduceLT, reduceLeDiff, reduceMul, reduceSub, reduceIte, reduceEqDiff, reduceAdd, reduceCtorEq]
        intro vs15 U15 hN15 vs16 U16 hN16
        refine call_funB (k_pick code a4 s4 n hb (by omega)) rfl qCS qCS ?_
        rintro cs' x ⟨a5, s5, b5, rfl, e1, e2, rfl, e3, e4⟩
        have hb5 : b5.toNat < xs.length := by omega
        simp only [Bzdo, yzx hb5, yzg, yz1, go_sem, yz0, Int.reduceLT, reduceLE, reduceToNat, reduceNeg, Nat.reduceLT, reduceLeDiff, reduceMul, reduceSub, reduceIte, reduceEqDiff, reduceAdd, reduceCtorEq]
        intro vs17 U17 hN17
        refine ⟨⟨e3, hb5⟩, hb5, ?_⟩
        simp only [Bzdn, Bzdp, w1, yzg, yz1, go_sem, yz0, Int.reduceLT, reduceLE, reduceToNat, reduceNeg, Nat.reduceLT, reduceLeDiff, reduceMul, reduceSub, reduceIte, reduceEqDiff, reduceAdd, reduceCtorEq]
        refine ⟨fun _ vs18 U18 hN18 vs19 U19 hN19 => ⟨(a5, s5, b5, j + 1), by dsimp only; omega, ⟨by dsimp only; omega, by dsimp only; omega, by dsimp only; omega, e3, by dsimp only; omega⟩, rfl⟩,
          fun _ vs18 U18 hN18 => ⟨(a5, s5, t, j + 1), by dsimp only; omega, ⟨by dsimp only; omega, by dsimp only; omega, by dsimp only; omega, m4, m5⟩, rfl⟩⟩
      · have w1 : IntKind.i64.wrap ((row.length : Int) + 1) = ((row.length + 1 : Nat) : Int) := by rw [w64 (by omega)]; simp
        simp only [Bz2o, Bz6j, Bzds, decide_eq_false hj, yzg, yz1, go_sem, yz0, Int.reduceLT, reduceLE, reduceToNat, reduceNeg, Nat.reduceLT, reduceLeDiff, reduceMul, reduceSub, reduceIte, reduceEqDiff, reduceAdd, reduceCtorEq]
        intro vs15 U15 hN15 vs16 U16 hN16
        refine ⟨⟨_, rfl, rfl⟩, by omega, ?_⟩
        simp only [Bzdv, w1, yzg, yz1, go_sem, yz0, Int.reduceLT, reduceLE, reduceToNat, reduceNeg, Nat.reduceLT, reduceLeDiff, reduceMul, reduceSub, reduceIte, reduceEqDiff, reduceAdd, reduceCtorEq]
        intro vs17 U17 hN17
        refine ⟨(vs16 3 0, a4, s4, row ++ [t]), by dsimp only; rw [List.length_append, List.length_singleton]; omega, ⟨by dsimp only; omega, by dsimp only; rw [List.length_append, List.length_singleton]; omega, by dsimp only; rw [List.length_append, List.length_singleton]; omega, fun x hx => ?_⟩, ?_⟩
        · rcases List.mem_append.1 hx with h | h
          · exact k4 x h
          · rw [List.mem_singleton.1 h]; exact ⟨m4, m5⟩
        · simp only [List.length_append, List.length_singleton]
    · have hrl : (row.length : Int) = n := by omega
      have w1 : IntKind.i64.wrap ((ps.length : Int) + 1) = ((ps.length + 1 : Nat) : Int) := by rw [w64 (by omega)]; simp
      simp only [Bz2p, Bz6i, Bzdy, decide_eq_false hlr, yzg, yz1, wpD_gh, go_sem, yz0, Int.reduceLT, reduceLE, reduceToNat, reduceNeg, Nat.reduceLT, reduceLeDiff, reduceMul, reduceSub, reduceIte, reduceEqDiff, reduceAdd, reduceCtorEq]
      intro vs11 U11 hN11 hD
      refine ⟨[], ?_⟩
      have hf : ∀ p ∈ ps, p.2 = [] ∨ p.1 ≠ v10 := fun p hp => by
        by_cases e : p.2 = []
        · exact .inl e
        · exact .inr (hD 93 v93 1 nn (rwp ps) 53 v10 rfl rfl p.1 1 (ints p.2) (List.mem_map.2 ⟨p, hp, rfl⟩) (by simpa using e))
      simp only [gwp_nil, yzg, yz1, go_sem, yz0, Int.reduceLT, reduceLE, reduceToNat, reduceNeg, Nat.reduceLT, reduceLeDiff, reduceMul, reduceSub, reduceIte, reduceEqDiff, reduceAdd, reduceCtorEq]
      intro vs12 U12 hN12
      rw [rwp_len]
      refine ⟨by omega, ?_⟩
      simp only [Bze0, w1, rwp_snoc, yzg, yz1, go_sem, yz0, Int.reduceLT, reduceLE, reduceToNat, reduceNeg, Nat.reduceLT, reduceLeDiff, reduceMul, reduceSub, reduceIte, reduceEqDiff, reduceAdd, reduceCtorEq]
      intro vs13 U13 hN13
      refine ⟨(vs12 4 0, true, a3, s3, ps ++ [(v10, row)]), by dsimp only; rw [List.length_append, List.length_singleton]; omega,
        ⟨by dsimp only; omega, by dsimp only; rw [List.length_append, List.length_singleton]; omega, by dsimp only; rw [List.length_append, List.length_singleton]; omega, by simp, fun p hp => ?_, j6.snoc hf⟩, ?_⟩
      · rcases List.mem_append.1 hp with h | h
        · exact j5 p h
        · rw [List.mem_singleton.1 h]; exact ⟨hrl, k4⟩
      · simp only [List.length_append, List.length_singleton]
  · have hlen : ps.length = ps0.length := by omega
    obtain rfl := j4 (fun e => by rw [e] at hlen; simp at hlen; omega)
    simp only [Bz2q, Bz6h, Bze3, rwp_len, decide_eq_false hlp, yzg, yz1, go_sem, yz0, Int.reduceLT, reduceLE, reduceToNat, reduceNeg, Nat.reduceLT, reduceLeDiff, reduceMul, reduceSub, reduceIte, reduceEqDiff, reduceAdd, reduceCtorEq]
    intro vs8 U8 hN8 hM8 vs9 U9 hN9
    refine call_rowI (k_l01Tidied xs (by omega)) qCS qGN ⟨[], trivial⟩ ?_
    rintro ys vy -
    simp only [Az6k, ← hQ, yzg, yz1, go_sem, yz0, Int.reduceLT, reduceLE, reduceToNat, reduceNeg, Nat.reduceLT, reduceLeDiff, reduceMul, reduceSub, reduceIte, reduceEqDiff, reduceAdd, reduceCtorEq]
    refine ⟨[93, 97], by simp, by simp, by simp, ?_⟩
    simp only [range1, List.length_singleton, renL_rwp, Nat.not_lt_zero, range1, yzw, yz11, ren_ro, rnNm_n, yz12, rnNm_o, rnNm_s, ren_st, yzz, yzo, yzf, yz4, yzu, yzt, yzp, yzn, yzr, yzc, yz9, yz8, yze, yzj, yzl, yz3, yz7, yzb, yzd, yzi, yzm, List.range_zero, yz6, yz5, yza, yzv, yzh, yzq, AVal.fresh, freshL, yz2, yzk, AObj.fresh, id, Option.isSome_some, or_true, true_or, go_sem, yz0, Int.reduceLT, reduceLE, reduceToNat, reduceNeg, Nat.reduceLT, reduceLeDiff, reduceMul, reduceSub, reduceIte, reduceEqDiff, reduceAdd, reduceCtorEq]
    exact ⟨n, ps, v93, vy, ys, a', s', ⟨by omega, by omega, by rw [List.length_map]; omega, by rw [List.length_map]; omega, fun r hr => by obtain ⟨p, hp, rfl⟩ := List.mem_map.1 hr; exact j5 p hp⟩, j6, by omega, by omega, by omega, rfl, by simp, rfl⟩
end Go.Ab
namespace Go.Ab
theorem rwp_putN {ps : List (Nat × List Int)} {i : Nat} {p : Nat × List Int} : (rwp ps).take i ++ [.ro (some (some (p.1 + 1))) 1 (ints p.2)] ++ (rwp ps).drop (i + 1) = rwp (ps.take i ++ [p] ++ ps.drop (i + 1)) := by
  simp only [rwp, List.map_append, List.map_take, List.map_drop, List.map_cons, List.map_nil]
theorem DJ_put {A C : List (Nat × List Int)} {b b' : Nat × List Int} (h : DJ (A ++ b :: C)) (h1 : b'.1 = b.1) (h2 : b.2 = [] → b'.2 = []) : DJ (A ++ b' :: C) := by
  unfold DJ at h ⊢
  rw [List.pairwise_append] at h ⊢
  obtain ⟨hA, hC, hX⟩ := h
  rw [List.pairwise_cons] at hC ⊢
  refine ⟨hA, ⟨fun x hx => ?_, hC.2⟩, fun x hx y hy => ?_⟩
  · rcases hC.1 x hx with e | e | e
    · exact .inl (h2 e)
    · exact .inr (.inl e)
    · exact .inr (.inr (by rw [h1]; exact e))
  · rcases List.mem_cons.1 hy with rfl | hy
    · rcases hX x hx b (List.mem_cons_self ..) with e | e | e
      · exact .inl e
      · exact .inr (.inl (h2 e))
      · exact .inr (.inr (by rw [h1]; exact e))
    · exact hX x hx y (List.mem_cons_of_mem _ hy)
theorem DJ_set {ps : List (Nat × List Int)} {i : Nat} (hi : i < ps.length) {xs : List Int} (h : DJ ps) (h2 : (ps.getD i (0, [])).2 = [] → xs = []) : DJ (ps.take i ++ [((ps.getD i (0, [])).1, xs)] ++ ps.drop (i + 1)) := by
  have e : ps = ps.take i ++ ps.getD i (0, []) :: ps.drop (i + 1) := by
    rw [List.getD_eq_getElem?_getD, List.getElem?_eq_getElem hi, Option.getD_some, List.getElem_cons_drop, List.take_append_drop]
  rw [e] at h
  rw [List.append_assoc, List.singleton_append]
  exact DJ_put h rfl h2
end Go.Ab
namespace Go.Ab
open Go.Proofs
theorem rf_L {l : List (Nat × AVal)} {h : List (Nat × AObj)} {r i q v k k' ver : Nat} {nn nn' : Bool} {cs cs' : List AVal} (hr : L .gone h r = .row v k nn cs) (hqr : q ≠ r) :
    St.rf ⟨L .any l, L .gone h⟩ r i q ver k' nn' cs' = ⟨L .any l, L .gone ((r, .row v k nn (cs.set i (.ro (frNm nn' cs'.length ver) k' cs'))) :: (q, .gone) :: h)⟩ := by
  unfold St.rf
  congr 1
  funext x
  simp only [L]
  split
  · rw [hr]
  · split <;> rfl
theorem gwp_rf {gs : List GStep} {K : St → Prop} {l : List (Nat × AVal)} {h : List (Nat × AObj)} {r i q v k k' ver : Nat} {nn nn' : Bool} {cs cs' : List AVal} (hr : L .gone h r = .row v k nn cs)
    (hi : cs[i]? = some (.own q ver)) (hqr : q ≠ r) (hq : L .gone h q = .row ver k' nn' cs')
    (hk : (∀ n k'' cs'', AVal.ro (some (some (n + 1))) k'' cs'' ∈ cs → cs'' ≠ [] → n ≠ ver) → gwp gs K ⟨L .any l, L .gone ((r, .row v k nn (cs.set i (.ro (frNm nn' cs'.length ver) k' cs'))) :: (q, .gone) :: h)⟩) : gwp (.rf r i q :: gs) K ⟨L .any l, L .gone h⟩ :=
  ⟨v, k, nn, cs, ver, k', nn', cs', hr, hi, hqr, hq, fun hd => by rw [rf_L hr hqr]; exact hk hd⟩
theorem woL_set {A C : List (Nat × List Int)} {b : Nat × List Int} {X : AVal} (h : ∀ p ∈ A ++ C, p.2 = [] ∨ p.1 ≠ b.1) : (woL b.1 (rwp (A ++ b :: C))).set A.length X = rwp A ++ X :: rwp C := by
  have e : rwp (A ++ b :: C) = rwp A ++ (.ro (some (some (b.1 + 1))) 1 (ints b.2)) :: rwp C := by simp [rwp]
  have hl : (rwp A).length = A.length := rwp_len
  have hA := woL_rwp (n := b.1) (ps := A) fun p hp => h p (List.mem_append.2 (.inl hp))
  have hC := woL_rwp (n := b.1) (ps := C) fun p hp => h p (List.mem_append.2 (.inr hp))
  have happ : ∀ l l' : List AVal, woL b.1 (l ++ l') = woL b.1 l ++ woL b.1 l' := by
    intro l l'
    simp only [woL_eq, List.map_append]
  rw [e, happ, hA, woL_cons, hC, List.set_append_right _ _ (by omega), hl, Nat.sub_self]
  rfl
theorem own_at {A C : List (Nat × List Int)} {X : AVal} {i : Nat} (h : i = A.length) : (rwp A ++ X :: rwp C).getD i .any = X := by
  subst h
  rw [List.getD_eq_getElem?_getD, List.getElem?_append_right (by rw [rwp_len]; exact Nat.le_refl _), rwp_len]; simp
theorem DJ_out {X Y : List (Nat × List Int)} {b : Nat × List Int} (h : DJ (X ++ b :: Y)) (hb : b.2 ≠ []) : ∀ p ∈ X ++ Y, p.2 = [] ∨ p.1 ≠ b.1 := by
  intro p hp
  rcases (List.pairwise_cons.1 (DJ_perm List.perm_middle h)).1 p hp with e | e | e
  · exact absurd e hb
  · exact .inl e
  · exact .inr (Ne.symm e)
theorem DJ_in {X Y : List (Nat × List Int)} {b : Nat × List Int} {u : Nat} {r : List Int} (h : DJ (X ++ b :: Y)) (hu : ∀ p ∈ X ++ Y, p.2 = [] ∨ p.1 ≠ u) : DJ (X ++ (u, r) :: Y) :=
  DJ_perm List.perm_middle.symm (List.pairwise_cons.2 ⟨fun p hp => by
    rcases hu p hp with e | e
    · exact .inr (.inl e)
    · exact .inr (.inr (Ne.symm e)), (List.pairwise_cons.1 (DJ_perm List.perm_middle h)).2⟩)
theorem rwp_get {A C : List (Nat × List Int)} {b : Nat × List Int} {i : Nat} (h : i = A.length) : (rwp (A ++ b :: C))[i]? = some (.ro (some (some (b.1 + 1))) 1 (ints b.2)) := by
  subst h
  rw [rwp, List.map_append, List.getElem?_append_right (by simp)]
  simp
theorem own_get {A C : List (Nat × List Int)} {X : AVal} {i : Nat} (h : i = A.length) : (rwp A ++ X :: rwp C)[i]? = some X := by
  subst h
  rw [List.getElem?_append_right (by rw [rwp_len]; exact Nat.le_refl _), rwp_len]; simp
theorem rwp_cat {A C : List (Nat × List Int)} {u : Nat} {xs : List Int} : rwp A ++ (.ro (some (some (u + 1))) 1 (ints xs)) :: rwp C = rwp (A ++ (u, xs) :: C) := by simp [rwp]
theorem rwp_split {ps : List (Nat × List Int)} {k : Nat} (h : k < ps.length) : ∃ A b C, ps = A ++ b :: C ∧ A.length = k :=
  ⟨ps.take k, ps[k], ps.drop (k + 1), by rw [← List.drop_eq_getElem_cons h, List.take_append_drop], by rw [List.length_take]; omega⟩
theorem callHp_mrr {hp : Nat → AObj} {r d : Nat} {s : Nat → Nat} {o o1 o2 : AObj} (hne : d ≠ r) (hne2 : d + 1000 ≠ r) :
    callHp hp [r] d s [o] [o1, o2] = upd (upd (upd hp r (o.ren (rid [r] d 2) (sv hp [r] s))) d (o1.ren (rid [r] d 2) (sv hp [r] s))) (d + 1000) (o2.ren (rid [r] d 2) (sv hp [r] s)) := by
  have hnew : ∀ i, i < [o1, o2].length → newId d i ∉ [r] := by
    intro i hi
    have : i = 0 ∨ i = 1 := by simp at hi; omega
    rcases this with rfl | rfl
    · simpa [newId] using hne
    · simpa [newId] using hne2
  funext n
  by_cases h : n = d + 1000
  · have h1 : rid [r] d [o1, o2].length 6001 = some n := by rw [h]; exact rid1
    rw [callHp_at (by simp) hnew h1]
    simp [upd, h, outHp]
  · by_cases h2 : n = d
    · have h1 : rid [r] d [o1, o2].length 6000 = some n := by rw [h2]; exact rid0
      rw [callHp_at (by simp) hnew h1]
      have hne3 : d ≠ d + 1000 := by omega
      simp [upd, h2, outHp, hne3]
    · by_cases h' : n = r
      · have h1 : rid [r] d [o1, o2].length 5000 = some n := by rw [h']; exact rid_m (j := 0) (by omega) rfl
        rw [callHp_at (by simp) hnew h1]
        simp [upd, h', outHp, Ne.symm hne, Ne.symm hne2]
      · rw [callHp_not]
        · simp [upd, h, h2, h']
        · rintro ⟨q, hq⟩
          rcases rid_cases hq with ⟨j, rfl, _, h1⟩ | ⟨i, rfl, h1, h3⟩
          · cases j with
            | zero => simp at h1; exact h' h1.symm
            | succ j => simp at h1
          · have : i = 0 ∨ i = 1 := by simp at h1; omega
            rcases this with rfl | rfl
            · exact h2 (by simpa [newId] using h3)
            · exact h (by simpa [newId] using h3)
theorem sv_inj {hp : Nat → AObj} {r v : Nat} {s : Nat → Nat} {cs : List AVal} (hr : hp r = .box v cs) (hs : ∀ x y, s x = s y → x = y) (hv : ∀ y, s y ≠ v) : ∀ x y, sv hp [r] s x = sv hp [r] s y → x = y := by
  intro x y e
  rcases Nat.eq_zero_or_pos x with rfl | hx <;> rcases Nat.eq_zero_or_pos y with rfl | hy
  · rfl
  · rw [sv_m hr, sv_new hy] at e; exact absurd e.symm (hv y)
  · rw [sv_new hx, sv_m hr] at e; exact absurd e (hv x)
  · rw [sv_new hx, sv_new hy] at e; exact hs _ _ e
structure TwI (n m : Int) (A B : List (Nat × List Int)) (top : Int) (low : Int) : Prop where
  a : ∀ p ∈ A, (p.2.length : Int) = m ∧ ∀ x ∈ p.2, 0 ≤ x ∧ x < top
  b : ∀ p ∈ B, (p.2.length : Int) = n ∧ ∀ x ∈ p.2, 0 ≤ x ∧ x < low
end Go.Ab
