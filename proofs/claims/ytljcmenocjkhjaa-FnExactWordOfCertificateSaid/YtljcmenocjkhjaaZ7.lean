/- Contracts and what they lean on, part 7. Conditions: none. -/
import Derived.Lib.SlicesCompact
import Derived.Shelf.SlGeneric
import Derived.Shelf.SortG.Plain
import Derived.Shelf.SortG.SortNone
import Derived.Ground.SlgnProg
import Derived.Shelf.SlicesG.CompactI
import Derived.Test.YtljcmenocjkhjaaProg
import Derived.Test.YtljcmenocjkhjaaZ6
set_option maxRecDepth 100000
set_option maxHeartbeats 4000000
set_option linter.all false
open Nat (reduceLeDiff reduceMul reduceSub reduceEqDiff reduceAdd)
open Int (reduceToNat reduceNeg reduceLE)
namespace Go.Ab
open Go.Proofs
theorem drop_getD {α : Type} {xs : List α} {i : Nat} (h : i < xs.length) (d : α) : xs.drop i = xs.getD i d :: xs.drop (i + 1) := by
  rw [List.drop_eq_getElem_cons h, List.getD_eq_getElem?_getD, List.getElem?_eq_getElem h]; rfl
theorem getD_mem {α : Type} {xs : List α} {i : Nat} (h : i < xs.length) (d : α) : xs.getD i d ∈ xs := by
  rw [List.getD_eq_getElem?_getD, List.getElem?_eq_getElem h]; exact List.getElem_mem h
def fidx {α : Type} (p : α → Bool) : List α → Nat → Int
  | [], _ => -1
  | x :: xs, i => if p x then i else fidx p xs (i + 1)
theorem fidx_ge {α : Type} (p : α → Bool) : ∀ (xs : List α) (i : Nat), decide (0 ≤ fidx p xs i) = xs.any p
  | [], i => by simp [fidx]
  | x :: xs, i => by
    have h := fidx_ge p xs (i + 1)
    simp only [fidx, List.any_cons]
    by_cases hp : p x = true
    · simp [hp]
    · have h2 : p x = false := by simpa using hp
      simp only [h2, Bool.false_or, ← h]
      simp
structure Caps (caps : List AVal) : Prop where
  dn : dnL caps = caps
  coe : ∀ hp m len, CoeL hp m len caps caps
theorem k_IndexFunc (xs : List (List Int)) (g : FuncId) (caps : List AVal) (p : List Int → Bool) (hc : Caps caps) (h : ∀ x ∈ xs, Fun Try.prog g (.ro none 1 (ints x) :: caps) (bv (p x))) :
    Fun Try.prog nz15 [.ro none 1 (rwn xs), .clo g caps] (iv (fidx p xs 0)) := by
  refine fun_of mixed czhz rfl ⟨rfl, trivial⟩ ?_
  simp only [Azck, Bzcj, hc.dn, go_sem, yz0, Int.reduceLT, reduceLE, reduceToNat, reduceNeg, Nat.reduceLT, reduceLeDiff, reduceMul, reduceSub, reduceIte, reduceEqDiff, reduceAdd, reduceCtorEq]
  intro hM
  have hM2 := maxLen_le
  simp only [Bzch, hc.dn, go_sem, yz0, Int.reduceLT, reduceLE, reduceToNat, reduceNeg, Nat.reduceLT, reduceLeDiff, reduceMul, reduceSub, reduceIte, reduceEqDiff, reduceAdd, reduceCtorEq]
  refine wpD_lo (fun i => xs.length - i) (fun i => i ≤ xs.length ∧ fidx p (xs.drop i) i = fidx p xs 0)
    (fun i : Nat => ⟨L .any [(0, .ro none 1 (rwn xs)), (1, .clo g caps), (7, iv xs.length), (8, iv i)], L .gone []⟩) 0 (by simp) (by simp only [Bz24, hc.dn, go_sem, yz0, Int.reduceLT, reduceLE, reduceToNat, reduceNeg, Nat.reduceLT, reduceLeDiff, reduceMul, reduceSub, reduceIte, reduceEqDiff, reduceAdd, reduceCtorEq]; try rfl) ?_
  rintro i ⟨hi, he⟩
  by_cases hlt : (i : Int) < xs.length
  · have hlt' : i < xs.length := by omega
    have w1 : IntKind.i64.wrap ((i : Int) + 1) = ((i + 1 : Nat) : Int) := by rw [w64 (by omega)]; simp
    have w2 : IntKind.i64.wrap (i : Int) = i := w64 (by omega)
    rw [drop_getD hlt' []] at he
    simp only [fidx] at he
    simp only [Bz24, Bz6r, Bz6q, Bzcf, rwn_getD hlt', decide_eq_true hlt, hc.dn, go_sem, yz0, Int.reduceLT, reduceLE, reduceToNat, reduceNeg, Nat.reduceLT, reduceLeDiff, reduceMul, reduceSub, reduceIte, reduceEqDiff, reduceAdd, reduceCtorEq]
    intro vs
    refine ⟨⟨by omega, hlt'⟩, hlt', ?_⟩
    refine yz2 (h _ (getD_mem hlt' [])) (by simp only [rowIs, boxIs, coe_argN, coe_argNs, coe_ro_o, coeL_nil, yzi, coe_any, coe_val, coe_ro, yzm, yzl, coe_st, yzk, coe_rp, yzn, coe_clo, coe_own0, coe_ptr0, yzh, coeL_rws, coeL_rwn, L_hit, L_miss, L_nil, reduceEqDiff, ne_eq, reduceCtorEq, not_false_eq_true, true_and, and_true, and_self, exists_eq_left, exists_eq_right, List.mem_cons, List.not_mem_nil, or_false, AObj.row.injEq, AObj.box.injEq, exists_eq_left', exists_and_left, exists_eq, Nat.zero_lt_one, Nat.lt_add_one, List.map_cons, List.map_nil, AObj.ver, Nat.reduceLT, not_true_eq_false]; exact hc.coe _ _ _) trivial ?_
    simp only [Bzce, Bzcg, w1, hc.dn, go_sem, yz0, Int.reduceLT, reduceLE, reduceToNat, reduceNeg, Nat.reduceLT, reduceLeDiff, reduceMul, reduceSub, reduceIte, reduceEqDiff, reduceAdd, reduceCtorEq]
    refine ⟨fun hp => ?_, fun hp => ⟨i + 1, by omega, ⟨by omega, ?_⟩, rfl⟩⟩
    · rw [hp] at he; simp at he; rw [← he]
    · rw [hp] at he; simpa using he
  · have : i = xs.length := by omega
    subst this
    rw [List.drop_length] at he
    simp only [fidx] at he
    simp only [Bz24, Bz6r, Bz6q, Bzci, decide_eq_false hlt, hc.dn, go_sem, yz0, Int.reduceLT, reduceLE, reduceToNat, reduceNeg, Nat.reduceLT, reduceLeDiff, reduceMul, reduceSub, reduceIte, reduceEqDiff, reduceAdd, reduceCtorEq]
    rw [← he]
theorem k_ContainsFunc (xs : List (List Int)) (g : FuncId) (caps : List AVal) (p : List Int → Bool) (hc : Caps caps) (h : ∀ x ∈ xs, Fun Try.prog g (.ro none 1 (ints x) :: caps) (bv (p x))) :
    Fun Try.prog nz18 [.ro none 1 (rwn xs), .clo g caps] (bv (xs.any p)) := by
  refine fun_of mixed czig rfl ⟨rfl, trivial⟩ ?_
  simp only [Bzf4, Azf5, hc.dn, go_sem, yz0, Int.reduceLT, reduceLE, reduceToNat, reduceNeg, Nat.reduceLT, reduceLeDiff, reduceMul, reduceSub, reduceIte, reduceEqDiff, reduceAdd, reduceCtorEq]
  intro vs
  refine yz2 (k_IndexFunc xs g caps p hc h) (by simp only [rowIs, boxIs, coe_argN, coe_argNs, coe_ro_o, coeL_nil, yzi, coe_any, coe_val, coe_ro, yzm, yzl, coe_st, yzk, coe_rp, yzn, coe_clo, coe_own0, coe_ptr0, yzh, coeL_rws, coeL_rwn, L_hit, L_miss, L_nil, reduceEqDiff, ne_eq, reduceCtorEq, not_false_eq_true, true_and, and_true, and_self, exists_eq_left, exists_eq_right, List.mem_cons, List.not_mem_nil, or_false, AObj.row.injEq, AObj.box.injEq, exists_eq_left', exists_and_left, exists_eq, Nat.zero_lt_one, Nat.lt_add_one, List.map_cons, List.map_nil, AObj.ver, Nat.reduceLT, not_true_eq_false]; exact hc.coe _ _ _) trivial ?_
  simp only [fidx_ge, go_sem, yz0, Int.reduceLT, reduceLE, reduceToNat, reduceNeg, Nat.reduceLT, reduceLeDiff, reduceMul, reduceSub, reduceIte, reduceEqDiff, reduceAdd, reduceCtorEq]
theorem k_IndexFunc2 (xs : List Int) (g : FuncId) (caps : List AVal) (p : Int → Bool) (hc : Caps caps) (h : ∀ x ∈ xs, Fun Try.prog g (iv x :: caps) (bv (p x))) :
    Fun Try.prog nz3w [.ro none 1 (ints xs), .clo g caps] (iv (fidx p xs 0)) := by
  refine fun_of mixed czj3 rfl ⟨rfl, trivial⟩ ?_
  simp only [Azh6, Bzh5, hc.dn, go_sem, yz0, Int.reduceLT, reduceLE, reduceToNat, reduceNeg, Nat.reduceLT, reduceLeDiff, reduceMul, reduceSub, reduceIte, reduceEqDiff, reduceAdd, reduceCtorEq]
  intro hM
  have hM2 := maxLen_le
  simp only [Bzh3, hc.dn, go_sem, yz0, Int.reduceLT, reduceLE, reduceToNat, reduceNeg, Nat.reduceLT, reduceLeDiff, reduceMul, reduceSub, reduceIte, reduceEqDiff, reduceAdd, reduceCtorEq]
  refine wpD_lo (fun i => xs.length - i) (fun i => i ≤ xs.length ∧ fidx p (xs.drop i) i = fidx p xs 0)
    (fun i : Nat => ⟨L .any [(0, .ro none 1 (ints xs)), (1, .clo g caps), (7, iv xs.length), (8, iv i)], L .gone []⟩) 0 (by simp) (by simp only [Bz2w, hc.dn, go_sem, yz0, Int.reduceLT, reduceLE, reduceToNat, reduceNeg, Nat.reduceLT, reduceLeDiff, reduceMul, reduceSub, reduceIte, reduceEqDiff, reduceAdd, reduceCtorEq]; try rfl) ?_
  rintro i ⟨hi, he⟩
  by_cases hlt : (i : Int) < xs.length
  · have hlt' : i < xs.length := by omega
    have w1 : IntKind.i64.wrap ((i : Int) + 1) = ((i + 1 : Nat) : Int) := by rw [w64 (by omega)]; simp
    rw [drop_getD hlt' 0] at he
    simp only [fidx] at he
    simp only [Bz2w, Bz83, Bz82, Bzh1, yz4 hlt', decide_eq_true hlt, hc.dn, go_sem, yz0, Int.reduceLT, reduceLE, reduceToNat, reduceNeg, Nat.reduceLT, reduceLeDiff, reduceMul, reduceSub, reduceIte, reduceEqDiff, reduceAdd, reduceCtorEq]
    intro vs
    refine ⟨⟨by omega, hlt'⟩, hlt', ?_⟩
    refine yz2 (h _ (getD_mem hlt' 0)) (by simp only [rowIs, boxIs, coe_argN, coe_argNs, coe_ro_o, coeL_nil, yzi, coe_any, coe_val, coe_ro, yzm, yzl, coe_st, yzk, coe_rp, yzn, coe_clo, coe_own0, coe_ptr0, yzh, coeL_rws, coeL_rwn, L_hit, L_miss, L_nil, reduceEqDiff, ne_eq, reduceCtorEq, not_false_eq_true, true_and, and_true, and_self, exists_eq_left, exists_eq_right, List.mem_cons, List.not_mem_nil, or_false, AObj.row.injEq, AObj.box.injEq, exists_eq_left', exists_and_left, exists_eq, Nat.zero_lt_one, Nat.lt_add_one, List.map_cons, List.map_nil, AObj.ver, Nat.reduceLT, not_true_eq_false]; exact hc.coe _ _ _) trivial ?_
    simp only [Bzh0, Bzh2, w1, hc.dn, go_sem, yz0, Int.reduceLT, reduceLE, reduceToNat, reduceNeg, Nat.reduceLT, reduceLeDiff, reduceMul, reduceSub, reduceIte, reduceEqDiff, reduceAdd, reduceCtorEq]
    refine ⟨fun hp => ?_, fun hp => ⟨i + 1, by omega, ⟨by omega, ?_⟩, rfl⟩⟩
    · rw [hp] at he; simp at he; rw [← he]
    · rw [hp] at he; simpa using he
  · have : i = xs.length := by omega
    subst this
    rw [List.drop_length] at he
    simp only [fidx] at he
    simp only [Bz2w, Bz83, Bz82, Bzh4, decide_eq_false hlt, hc.dn, go_sem, yz0, Int.reduceLT, reduceLE, reduceToNat, reduceNeg, Nat.reduceLT, reduceLeDiff, reduceMul, reduceSub, reduceIte, reduceEqDiff, reduceAdd, reduceCtorEq]
    rw [← he]
theorem k_ContainsFunc1 (xs : List Int) (g : FuncId) (caps : List AVal) (p : Int → Bool) (hc : Caps caps) (h : ∀ x ∈ xs, Fun Try.prog g (iv x :: caps) (bv (p x))) :
    Fun Try.prog nz3q [.ro none 1 (ints xs), .clo g caps] (bv (xs.any p)) := by
  refine fun_of mixed cziw rfl ⟨rfl, trivial⟩ ?_
  simp only [Bzgk, Azgl, hc.dn, go_sem, yz0, Int.reduceLT, reduceLE, reduceToNat, reduceNeg, Nat.reduceLT, reduceLeDiff, reduceMul, reduceSub, reduceIte, reduceEqDiff, reduceAdd, reduceCtorEq]
  intro vs
  refine yz2 (k_IndexFunc2 xs g caps p hc h) (by simp only [rowIs, boxIs, coe_argN, coe_argNs, coe_ro_o, coeL_nil, yzi, coe_any, coe_val, coe_ro, yzm, yzl, coe_st, yzk, coe_rp, yzn, coe_clo, coe_own0, coe_ptr0, yzh, coeL_rws, coeL_rwn, L_hit, L_miss, L_nil, reduceEqDiff, ne_eq, reduceCtorEq, not_false_eq_true, true_and, and_true, and_self, exists_eq_left, exists_eq_right, List.mem_cons, List.not_mem_nil, or_false, AObj.row.injEq, AObj.box.injEq, exists_eq_left', exists_and_left, exists_eq, Nat.zero_lt_one, Nat.lt_add_one, List.map_cons, List.map_nil, AObj.ver, Nat.reduceLT, not_true_eq_false]; exact hc.coe _ _ _) trivial ?_
  simp only [fidx_ge, go_sem, yz0, Int.reduceLT, reduceLE, reduceToNat, reduceNeg, Nat.reduceLT, reduceLeDiff, reduceMul, reduceSub, reduceIte, reduceEqDiff, reduceAdd, reduceCtorEq]
def allIn (xs : List Int) (lo hi : Int) : Bool := xs.all fun x => decide (lo ≤ x) && decide (x ≤ hi)
theorem allIn_iff {xs : List Int} {lo hi : Int} : allIn xs lo hi = true ↔ ∀ x ∈ xs, lo ≤ x ∧ x ≤ hi := by simp [allIn]
theorem k_areWithin_1 (n lo hi : Int) : Fun Try.prog nz1e [iv n, .rp [iv lo] 0, .rp [iv hi] 0] (bv !(decide (lo ≤ n) && decide (n ≤ hi))) := by
  refine fun_of mixed czix rfl ⟨rfl, trivial⟩ ?_
  simp only [Bzgm, Azgn, go_sem, yz0, Int.reduceLT, reduceLE, reduceToNat, reduceNeg, Nat.reduceLT, reduceLeDiff, reduceMul, reduceSub, reduceIte, reduceEqDiff, reduceAdd, reduceCtorEq]
  intro vs
  refine yz2 (k_within n lo hi) qCS trivial ?_
  simp only [go_sem, yz0, Int.reduceLT, reduceLE, reduceToNat, reduceNeg, Nat.reduceLT, reduceLeDiff, reduceMul, reduceSub, reduceIte, reduceEqDiff, reduceAdd, reduceCtorEq]
theorem k_areWithin (xs : List Int) (lo hi : Int) : Fun Try.prog nz1a [.ro none 1 (ints xs), iv lo, iv hi] (bv (allIn xs lo hi)) := by
  refine fun_of mixed czij rfl ⟨rfl, trivial⟩ ?_
  simp only [Bzfa, Azfb, go_sem, yz0, Int.reduceLT, reduceLE, reduceToNat, reduceNeg, Nat.reduceLT, reduceLeDiff, reduceMul, reduceSub, reduceIte, reduceEqDiff, reduceAdd, reduceCtorEq]
  intro vs vs2
  refine yz2 (k_ContainsFunc1 xs nz1e [.rp [iv lo] 0, .rp [iv hi] 0] _ ⟨by simp only [go_sem, yz0, Int.reduceLT, reduceLE, reduceToNat, reduceNeg, Nat.reduceLT, reduceLeDiff, reduceMul, reduceSub, reduceIte, reduceEqDiff, reduceAdd, reduceCtorEq], by intros; simp only [rowIs, boxIs, coe_argN, coe_argNs, coe_ro_o, coeL_nil, yzi, coe_any, coe_val, coe_ro, yzm, yzl, coe_st, yzk, coe_rp, yzn, coe_clo, coe_own0, coe_ptr0, yzh, coeL_rws, coeL_rwn, L_hit, L_miss, L_nil, reduceEqDiff, ne_eq, reduceCtorEq, not_false_eq_true, true_and, and_true, and_self, exists_eq_left, exists_eq_right, List.mem_cons, List.not_mem_nil, or_false, AObj.row.injEq, AObj.box.injEq, exists_eq_left', exists_and_left, exists_eq, Nat.zero_lt_one, Nat.lt_add_one, List.map_cons, List.map_nil, AObj.ver, Nat.reduceLT, not_true_eq_false]⟩ (fun x _ => k_areWithin_1 x lo hi)) qCS trivial ?_
  simp only [go_sem, yz0, Int.reduceLT, reduceLE, reduceToNat, reduceNeg, Nat.reduceLT, reduceLeDiff, reduceMul, reduceSub, reduceIte, reduceEqDiff, reduceAdd, reduceCtorEq]
  congr 2
  simp only [allIn, List.all_eq_not_any_not]
abbrev autA (n : Int) (next : List (List Int)) : AVal := .st [iv n, .ro none 1 (rwn next)]
abbrev autP (n : Int) (next : List (List Int)) : AVal := .rp [iv n, .ro none 1 (rwn next)] 0
def autB (n : Int) (next : List (List Int)) : Bool := (decide (1 ≤ n) && decide (n ≤ 10)) && ((decide (1 ≤ (next.length : Int)) && decide ((next.length : Int) ≤ 3)) && next.all fun row => decide ((row.length : Int) = n) && allIn row 0 (n - 1))
theorem autB_iff {n : Int} {next : List (List Int)} : autB n next = true ↔ Aut n next := by
  simp only [autB, Bool.and_eq_true, decide_eq_true_eq, List.all_eq_true, allIn_iff]
  constructor
  · rintro ⟨⟨h1, h2⟩, ⟨h3, h4⟩, h5⟩
    exact ⟨h1, h2, by omega, by omega, fun row hr => ⟨(h5 row hr).1, fun x hx => by have := (h5 row hr).2 x hx; omega⟩⟩
  · rintro ⟨h1, h2, h3, h4, h5⟩
    exact ⟨⟨h1, h2⟩, ⟨by omega, by omega⟩, fun row hr => ⟨(h5 row hr).1, fun x hx => by have := (h5 row hr).2 x hx; omega⟩⟩
theorem k_letters (n : Int) (next : List (List Int)) : Fun Try.prog nzm [autA n next] (iv next.length) := by
  refine fun_of mixed czif rfl ⟨rfl, trivial⟩ ?_
  simp only [Bzf2, Azf3, go_sem, yz0, Int.reduceLT, reduceLE, reduceToNat, reduceNeg, Nat.reduceLT, reduceLeDiff, reduceMul, reduceSub, reduceIte, reduceEqDiff, reduceAdd, reduceCtorEq]
  intro vs vs2
  refine yz2 (k_size1 next) qCS trivial ?_
  simp only [go_sem, yz0, Int.reduceLT, reduceLE, reduceToNat, reduceNeg, Nat.reduceLT, reduceLeDiff, reduceMul, reduceSub, reduceIte, reduceEqDiff, reduceAdd, reduceCtorEq]
theorem k_Valid_1 (row : List Int) (n : Int) (next : List (List Int)) (hn : 1 ≤ n ∧ n ≤ 10) : Fun Try.prog nz19 [.ro none 1 (ints row), autP n next] (bv !(decide ((row.length : Int) = n) && allIn row 0 (n - 1))) := by
  refine fun_of mixed czih rfl ⟨rfl, trivial⟩ ?_
  have w : IntKind.i64.wrap (n - 1) = n - 1 := w64 (by omega)
  simp only [Bzf6, Azf7, w, go_sem, yz0, Int.reduceLT, reduceLE, reduceToNat, reduceNeg, Nat.reduceLT, reduceLeDiff, reduceMul, reduceSub, reduceIte, reduceEqDiff, reduceAdd, reduceCtorEq]
  intro vs
  refine yz2 (k_size row) qCS trivial ?_
  by_cases h : (row.length : Int) = n
  · have h2 : ((row.length : Int) != n) = false := by simp [h]
    simp only [h2, w, go_sem, yz0, Int.reduceLT, reduceLE, reduceToNat, reduceNeg, Nat.reduceLT, reduceLeDiff, reduceMul, reduceSub, reduceIte, reduceEqDiff, reduceAdd, reduceCtorEq]
    refine yz2 (k_areWithin row 0 (n - 1)) qCS trivial ?_
    simp only [go_sem, yz0, Int.reduceLT, reduceLE, reduceToNat, reduceNeg, Nat.reduceLT, reduceLeDiff, reduceMul, reduceSub, reduceIte, reduceEqDiff, reduceAdd, reduceCtorEq]
    simp [h]
  · have h2 : ((row.length : Int) != n) = true := by simp [h]
    simp only [h2, go_sem, yz0, Int.reduceLT, reduceLE, reduceToNat, reduceNeg, Nat.reduceLT, reduceLeDiff, reduceMul, reduceSub, reduceIte, reduceEqDiff, reduceAdd, reduceCtorEq]
    simp [h]
theorem k_Valid (n : Int) (next : List (List Int)) : Fun Try.prog nz37 [autA n next] (bv (autB n next)) := by
  refine fun_of mixed czhu rfl ⟨rfl, trivial⟩ ?_
  simp only [Bzbk, Azbl, go_sem, yz0, Int.reduceLT, reduceLE, reduceToNat, reduceNeg, Nat.reduceLT, reduceLeDiff, reduceMul, reduceSub, reduceIte, reduceEqDiff, reduceAdd, reduceCtorEq]
  intro vs vs2
  refine yz2 (k_within n 1 10) qCS trivial ?_
  by_cases hn : 1 ≤ n ∧ n ≤ 10
  · have h1 : (decide (1 ≤ n) && decide (n ≤ 10)) = true := by simp [hn]
    simp only [h1, go_sem, yz0, Int.reduceLT, reduceLE, reduceToNat, reduceNeg, Nat.reduceLT, reduceLeDiff, reduceMul, reduceSub, reduceIte, reduceEqDiff, reduceAdd, reduceCtorEq]
    refine yz2 (k_letters n next) qCS trivial ?_
    simp only [go_sem, yz0, Int.reduceLT, reduceLE, reduceToNat, reduceNeg, Nat.reduceLT, reduceLeDiff, reduceMul, reduceSub, reduceIte, reduceEqDiff, reduceAdd, reduceCtorEq]
    refine yz2 (k_within next.length 1 3) qCS trivial ?_
    by_cases hl : 1 ≤ (next.length : Int) ∧ (next.length : Int) ≤ 3
    · have h2 : (decide (1 ≤ (next.length : Int)) && decide ((next.length : Int) ≤ 3)) = true := by simp only [decide_eq_true hl.1, decide_eq_true hl.2, Bool.and_self]
      simp only [h2, go_sem, yz0, Int.reduceLT, reduceLE, reduceToNat, reduceNeg, Nat.reduceLT, reduceLeDiff, reduceMul, reduceSub, reduceIte, reduceEqDiff, reduceAdd, reduceCtorEq]
      refine yz2 (k_ContainsFunc next nz19 [autP n next] _ ⟨by simp only [go_sem, yz0, Int.reduceLT, reduceLE, reduceToNat, reduceNeg, Nat.reduceLT, reduceLeDiff, reduceMul, reduceSub, reduceIte, reduceEqDiff, reduceAdd, reduceCtorEq], by intros; simp only [rowIs, boxIs, coe_argN, coe_argNs, coe_ro_o, coeL_nil, yzi, coe_any, coe_val, coe_ro, yzm, yzl, coe_st, yzk, coe_rp, yzn, coe_clo, coe_own0, coe_ptr0, yzh, coeL_rws, coeL_rwn, L_hit, L_miss, L_nil, reduceEqDiff, ne_eq, reduceCtorEq, not_false_eq_true, true_and, and_true, and_self, exists_eq_left, exists_eq_right, List.mem_cons, List.not_mem_nil, or_false, AObj.row.injEq, AObj.box.injEq, exists_eq_left', exists_and_left, exists_eq, Nat.zero_lt_one, Nat.lt_add_one, List.map_cons, List.map_nil, AObj.ver, Nat.reduceLT, not_true_eq_false]⟩ (fun x _ => k_Valid_1 x n next hn)) qCS trivial ?_
      simp only [go_sem, yz0, Int.reduceLT, reduceLE, reduceToNat, reduceNeg, Nat.reduceLT, reduceLeDiff, reduceMul, reduceSub, reduceIte, reduceEqDiff, reduceAdd, reduceCtorEq]
      simp only [autB, h1, h2, Bool.true_and]
      congr 2
      simp only [List.all_eq_not_any_not]
    · have h2 : (decide (1 ≤ (next.length : Int)) && decide ((next.length : Int) ≤ 3)) = false := by
        rw [Bool.and_eq_false_iff]
        by_cases h3 : 1 ≤ (next.length : Int)
        · right; simp; omega
        · left; simp; omega
      simp only [h2, go_sem, yz0, Int.reduceLT, reduceLE, reduceToNat, reduceNeg, Nat.reduceLT, reduceLeDiff, reduceMul, reduceSub, reduceIte, reduceEqDiff, reduceAdd, reduceCtorEq]
      simp only [autB, h1, h2, Bool.true_and, Bool.false_and]
  · have h1 : (decide (1 ≤ n) && decide (n ≤ 10)) = false := by
      rw [Bool.and_eq_false_iff]
      by_cases h3 : 1 ≤ n
      · right; simp; omega
      · left; simp; omega
    simp only [h1, go_sem, yz0, Int.reduceLT, reduceLE, reduceToNat, reduceNeg, Nat.reduceLT, reduceLeDiff, reduceMul, reduceSub, reduceIte, reduceEqDiff, reduceAdd, reduceCtorEq]
    simp only [autB, h1, Bool.false_and]
def wordB (l : Nat) (w : List Int) : Bool := decide ((w.length : Int) ≤ 400) && allIn w 0 ((l : Int) - 1)
theorem k_isWord (n : Int) (next : List (List Int)) (w : List Int) (hl : 1 ≤ next.length ∧ next.length ≤ 3) : Fun Try.prog nz3i [autA n next, .ro none 1 (ints w)] (bv (wordB next.length w)) := by
  refine fun_of mixed czin rfl ⟨rfl, trivial⟩ ?_
  have w1 : IntKind.i64.wrap ((next.length : Int) - 1) = (next.length : Int) - 1 := w64 (by omega)
  simp only [Bzfi, Azfj, go_sem, yz0, Int.reduceLT, reduceLE, reduceToNat, reduceNeg, Nat.reduceLT, reduceLeDiff, reduceMul, reduceSub, reduceIte, reduceEqDiff, reduceAdd, reduceCtorEq]
  intro vs vs2 hM
  by_cases h : (w.length : Int) ≤ 400
  · simp only [decide_eq_true h, go_sem, yz0, Int.reduceLT, reduceLE, reduceToNat, reduceNeg, Nat.reduceLT, reduceLeDiff, reduceMul, reduceSub, reduceIte, reduceEqDiff, reduceAdd, reduceCtorEq]
    refine yz2 (k_letters n next) qCS trivial ?_
    simp only [w1, go_sem, yz0, Int.reduceLT, reduceLE, reduceToNat, reduceNeg, Nat.reduceLT, reduceLeDiff, reduceMul, reduceSub, reduceIte, reduceEqDiff, reduceAdd, reduceCtorEq]
    refine yz2 (k_areWithin w 0 ((next.length : Int) - 1)) qCS trivial ?_
    simp only [go_sem, yz0, Int.reduceLT, reduceLE, reduceToNat, reduceNeg, Nat.reduceLT, reduceLeDiff, reduceMul, reduceSub, reduceIte, reduceEqDiff, reduceAdd, reduceCtorEq]
    simp only [wordB, decide_eq_true h, Bool.true_and]
  · simp only [decide_eq_false h, go_sem, yz0, Int.reduceLT, reduceLE, reduceToNat, reduceNeg, Nat.reduceLT, reduceLeDiff, reduceMul, reduceSub, reduceIte, reduceEqDiff, reduceAdd, reduceCtorEq]
    simp only [wordB, decide_eq_false h, Bool.false_and]
def stepA (next : List (List Int)) (s l : Int) : Int := (next.getD l.toNat []).getD s.toNat 0
def atA (next : List (List Int)) (s : Int) (w : List Int) : Int := w.foldl (stepA next) s
def actA (n : Int) (next : List (List Int)) (w : List Int) : List Int := (List.range n.toNat).map fun (s : Nat) => atA next s w
def IsW (l : Nat) (w : List Int) : Prop := ∀ x ∈ w, 0 ≤ x ∧ x < l
theorem Aut.step {n : Int} {next : List (List Int)} (A : Aut n next) {s l : Int} (hs : 0 ≤ s ∧ s < n) (hl : 0 ≤ l ∧ l < next.length) :
    l.toNat < next.length ∧ s.toNat < (next.getD l.toNat []).length ∧ 0 ≤ stepA next s l ∧ stepA next s l < n := by
  have h1 : l.toNat < next.length := by omega
  have h2 := A.row _ (getD_mem h1 [])
  have h3 : s.toNat < (next.getD l.toNat []).length := by omega
  exact ⟨h1, h3, h2.2 _ (getD_mem h3 0)⟩
theorem Aut.at {n : Int} {next : List (List Int)} (A : Aut n next) : ∀ {w : List Int} {s : Int}, 0 ≤ s ∧ s < n → IsW next.length w → 0 ≤ atA next s w ∧ atA next s w < n
  | [], s, hs, _ => hs
  | l :: w, s, hs, hw => A.at (w := w) (A.step hs (hw l (by simp))).2.2 fun x hx => hw x (by simp [hx])
theorem k_at (n : Int) (next : List (List Int)) (s : Int) (w : List Int) (A : Aut n next) (hs : 0 ≤ s ∧ s < n) (hw : IsW next.length w) : Fun Try.prog nz1d [autA n next, iv s, .ro none 1 (ints w)] (iv (atA next s w)) := by
  refine fun_of mixed cziq rfl ⟨rfl, trivial⟩ ?_
  simp only [Azg5, Bzg4, go_sem, yz0, Int.reduceLT, reduceLE, reduceToNat, reduceNeg, Nat.reduceLT, reduceLeDiff, reduceMul, reduceSub, reduceIte, reduceEqDiff, reduceAdd, reduceCtorEq]
  intro vs hM
  have hM2 := maxLen_le
  simp only [Bzg2, go_sem, yz0, Int.reduceLT, reduceLE, reduceToNat, reduceNeg, Nat.reduceLT, reduceLeDiff, reduceMul, reduceSub, reduceIte, reduceEqDiff, reduceAdd, reduceCtorEq]
  refine wpD_lo (fun (i, _) => w.length - i) (fun (i, s') => i ≤ w.length ∧ (0 ≤ s' ∧ s' < n) ∧ atA next s' (w.drop i) = atA next s w)
    (fun ((i, s') : Nat × Int) => ⟨L .any [(1, iv s'), (3, .ptr 3 (vs 0 0) 0), (9, .ro none 1 (ints w)), (10, iv w.length), (11, iv i)], L .gone [(3, .box (vs 0 0) [iv n, .ro none 1 (rwn next)])]⟩) (0, s) (by simp; exact hs) (by simp only [Bz2l, go_sem, yz0, Int.reduceLT, reduceLE, reduceToNat, reduceNeg, Nat.reduceLT, reduceLeDiff, reduceMul, reduceSub, reduceIte, reduceEqDiff, reduceAdd, reduceCtorEq]; try rfl) ?_
  rintro ⟨i, s'⟩ ⟨hi, hs', he⟩
  by_cases hlt : (i : Int) < w.length
  · have hlt' : i < w.length := by omega
    have w1 : IntKind.i64.wrap ((i : Int) + 1) = ((i + 1 : Nat) : Int) := by rw [w64 (by omega)]; simp
    have hx := hw _ (getD_mem hlt' 0)
    obtain ⟨a1, a2, a3⟩ := A.step hs' hx
    rw [drop_getD hlt' 0] at he
    simp only [Bz2l, Bz7u, Bz7t, Bzg0, Bzg1, w1, yz4 hlt', rwn_getD a1, yz4 a2, decide_eq_true hlt, go_sem, yz0, Int.reduceLT, reduceLE, reduceToNat, reduceNeg, Nat.reduceLT, reduceLeDiff, reduceMul, reduceSub, reduceIte, reduceEqDiff, reduceAdd, reduceCtorEq]
    refine ⟨⟨by omega, hlt'⟩, hlt', ⟨hx.1, a1⟩, a1, ⟨hs'.1, a2⟩, a2, (_, _), ?_, ⟨?_, ?_, ?_⟩, rfl⟩
    · show w.length - (i + 1) < w.length - i; omega
    · show i + 1 ≤ w.length; omega
    · exact a3
    · exact he
  · have : i = w.length := by omega
    subst this
    rw [List.drop_length] at he
    simp only [Bz2l, Bz7u, Bz7t, Bzg3, decide_eq_false hlt, go_sem, yz0, Int.reduceLT, reduceLE, reduceToNat, reduceNeg, Nat.reduceLT, reduceLeDiff, reduceMul, reduceSub, reduceIte, reduceEqDiff, reduceAdd, reduceCtorEq]
    rw [← he]; rfl
theorem k_action (n : Int) (next : List (List Int)) (w : List Int) (A : Aut n next) (hw : IsW next.length w) : RowI Try.prog nz3k [autA n next, .ro none 1 (ints w)] (fun xs => xs = actA n next w) := by
  refine rowI_of mixed czip rfl ?_
  simp only [Azfz, Bzfy, go_sem, yz0, Int.reduceLT, reduceLE, reduceToNat, reduceNeg, Nat.reduceLT, reduceLeDiff, reduceMul, reduceSub, reduceIte, reduceEqDiff, reduceAdd, reduceCtorEq]
  intro vs vs2
  have n1 := A.n1
  have n2 := A.n2
  simp only [Bzfx, Bzfv, go_sem, yz0, Int.reduceLT, reduceLE, reduceToNat, reduceNeg, Nat.reduceLT, reduceLeDiff, reduceMul, reduceSub, reduceIte, reduceEqDiff, reduceAdd, reduceCtorEq]
  refine wpD_lo (fun (_, i) => n.toNat - i) (fun (_, i) => (i : Int) ≤ n)
    (fun ((v, i) : Nat × Nat) => ⟨L .any [(1, .ro none 1 (ints w)), (2, .ptr 2 (vs 0 0) 0), (5, .own 7 v), (9, iv n), (10, iv i)], L .gone [(2, .box (vs 0 0) [iv n, .ro none 1 (rwn next)]), (7, .row v 1 true (ints ((List.range i).map fun (s : Nat) => atA next s w)))]⟩) (_, 0) (by simp; omega) (by simp only [Bz2k, go_sem, yz0, Int.reduceLT, reduceLE, reduceToNat, reduceNeg, Nat.reduceLT, reduceLeDiff, reduceMul, reduceSub, reduceIte, reduceEqDiff, reduceAdd, reduceCtorEq]; try rfl) ?_
  rintro ⟨v, i⟩ hi
  have hi : (i : Int) ≤ n := hi
  by_cases hlt : (i : Int) < n
  · have w1 : IntKind.i64.wrap ((i : Int) + 1) = ((i + 1 : Nat) : Int) := by rw [w64 (by omega)]; simp
    simp only [Bz2k, Bz7s, Bz7r, Bzft, Bzfu, decide_eq_true hlt, go_sem, yz0, Int.reduceLT, reduceLE, reduceToNat, reduceNeg, Nat.reduceLT, reduceLeDiff, reduceMul, reduceSub, reduceIte, reduceEqDiff, reduceAdd, reduceCtorEq]
    intro vs3
    refine yz2 (k_at n next i w A (by omega) hw) qCS trivial ?_
    have hr : ((List.range i).map fun (s : Nat) => atA next s w) ++ [atA next i w] = (List.range (i + 1)).map fun (s : Nat) => atA next s w := by rw [List.range_succ, List.map_append]; rfl
    simp only [w1, go_sem, yz0, Int.reduceLT, reduceLE, reduceToNat, reduceNeg, Nat.reduceLT, reduceLeDiff, reduceMul, reduceSub, reduceIte, reduceEqDiff, reduceAdd, reduceCtorEq]
    rw [hr]
    refine ⟨⟨_, rfl, rfl⟩, by simp; omega, (_, i + 1), ?_, ?_, rfl⟩
    · show n.toNat - (i + 1) < n.toNat - i; omega
    · show ((i + 1 : Nat) : Int) ≤ n; omega
  · have : (i : Int) = n := by omega
    simp only [Bz2k, Bz7s, Bz7r, Bzfw, decide_eq_false hlt, go_sem, yz0, Int.reduceLT, reduceLE, reduceToNat, reduceNeg, Nat.reduceLT, reduceLeDiff, reduceMul, reduceSub, reduceIte, reduceEqDiff, reduceAdd, reduceCtorEq]
    have he : ((List.range i).map fun (s : Nat) => atA next s w) = actA n next w := by rw [← this]; simp [actA]
    refine ⟨7, v, actA n next w, by omega, rfl, ?_, rfl⟩
    simp only [he, go_sem, yz0, Int.reduceLT, reduceLE, reduceToNat, reduceNeg, Nat.reduceLT, reduceLeDiff, reduceMul, reduceSub, reduceIte, reduceEqDiff, reduceAdd, reduceCtorEq]
end Go.Ab
namespace Go.Ab
open Go.Proofs
theorem k_l01Map (xs : List Int) (n : Int) (hn : 0 ≤ n ∧ n ≤ 1000000) : Fun Try.prog nz3b [.ro none 1 (ints xs), iv n] (bv (allIn xs 0 (n - 1) && decide ((xs.length : Int) = n))) := by
  refine fun_of mixed czi7 rfl ⟨rfl, trivial⟩ ?_
  have w0 : IntKind.i64.wrap (n - 1) = n - 1 := w64 (by omega)
  simp only [Azdq, Bzdp, Bzdn, go_sem, yz0, Int.reduceLT, reduceLE, reduceToNat, reduceNeg, Nat.reduceLT, reduceLeDiff, reduceMul, reduceSub, reduceIte, reduceEqDiff, reduceAdd, reduceCtorEq]
  refine wpD_lo (fun i => xs.length - i) (fun i => i ≤ xs.length ∧ allIn (xs.drop i) 0 (n - 1) = allIn xs 0 (n - 1))
    (fun i : Nat => ⟨L .any [(0, .ro none 1 (ints xs)), (1, iv n), (5, iv i)], L .gone []⟩) 0 (by simp) (by simp only [Bz28, go_sem, yz0, Int.reduceLT, reduceLE, reduceToNat, reduceNeg, Nat.reduceLT, reduceLeDiff, reduceMul, reduceSub, reduceIte, reduceEqDiff, reduceAdd, reduceCtorEq]; try rfl) ?_
  rintro i ⟨hi, he⟩
  have hM2 := maxLen_le
  by_cases hlt : (i : Int) < xs.length
  · have hlt' : i < xs.length := by omega
    simp only [Bz28, Bz73, Bz74, yz4 hlt', w0, decide_eq_true hlt, go_sem, yz0, Int.reduceLT, reduceLE, reduceToNat, reduceNeg, Nat.reduceLT, reduceLeDiff, reduceMul, reduceSub, reduceIte, reduceEqDiff, reduceAdd, reduceCtorEq]
    intro hM vs
    refine ⟨⟨by omega, hlt'⟩, hlt', ?_⟩
    refine yz2 (k_l00In (xs.getD i 0) 0 (n - 1)) qCS trivial ?_
    have w1 : IntKind.i64.wrap ((i : Int) + 1) = ((i + 1 : Nat) : Int) := by rw [w64 (by omega)]; simp
    rw [drop_getD hlt' 0] at he
    simp only [allIn, List.all_cons] at he
    simp only [Bzdl, Bzdm, w1, go_sem, yz0, Int.reduceLT, reduceLE, reduceToNat, reduceNeg, Nat.reduceLT, reduceLeDiff, reduceMul, reduceSub, reduceIte, reduceEqDiff, reduceAdd, reduceCtorEq]
    refine ⟨fun hp => ?_, fun hp => ⟨i + 1, by omega, ⟨by omega, ?_⟩, rfl⟩⟩
    · rw [Bool.not_eq_true'] at hp
      rw [hp] at he
      simp only [allIn, ← he, Bool.false_and]
    · rw [Bool.not_eq_false'] at hp
      rw [hp] at he
      simpa [allIn] using he
  · have : i = xs.length := by omega
    subst this
    rw [List.drop_length] at he
    simp only [Bz28, Bz73, Bz74, Bzdo, decide_eq_false hlt, go_sem, yz0, Int.reduceLT, reduceLE, reduceToNat, reduceNeg, Nat.reduceLT, reduceLeDiff, reduceMul, reduceSub, reduceIte, reduceEqDiff, reduceAdd, reduceCtorEq]
    intro _ _
    rw [← he]
    simp [allIn]
    rfl
theorem k_l01Ok (n : Int) (next : List (List Int)) : Fun Try.prog nz34 [autP n next] (bv (autB n next)) := by
  refine fun_of mixed czhn rfl ⟨rfl, trivial⟩ ?_
  simp only [Azai, Bzah, go_sem, yz0, Int.reduceLT, reduceLE, reduceToNat, reduceNeg, Nat.reduceLT, reduceLeDiff, reduceMul, reduceSub, reduceIte, reduceEqDiff, reduceAdd, reduceCtorEq]
  intro vs
  refine yz2 (k_l00In n 1 10) qCS trivial ?_
  by_cases hn : 1 ≤ n ∧ n ≤ 10
  · have h1 : (decide (1 ≤ n) && decide (n ≤ 10)) = true := by simp [hn]
    simp only [h1, go_sem, yz0, Int.reduceLT, reduceLE, reduceToNat, reduceNeg, Nat.reduceLT, reduceLeDiff, reduceMul, reduceSub, reduceIte, reduceEqDiff, reduceAdd, reduceCtorEq]
    intro hM
    refine yz2 (k_l00In next.length 1 3) qCS trivial ?_
    by_cases hl : 1 ≤ (next.length : Int) ∧ (next.length : Int) ≤ 3
    · have h2 : (decide (1 ≤ (next.length : Int)) && decide ((next.length : Int) ≤ 3)) = true := by simp only [decide_eq_true hl.1, decide_eq_true hl.2, Bool.and_self]
      simp only [h2, Bz1o, Bzag, Bzae, go_sem, yz0, Int.reduceLT, reduceLE, reduceToNat, reduceNeg, Nat.reduceLT, reduceLeDiff, reduceMul, reduceSub, reduceIte, reduceEqDiff, reduceAdd, reduceCtorEq]
      have hB : autB n next = next.all fun row => decide ((row.length : Int) = n) && allIn row 0 (n - 1) := by simp only [autB, h1, h2, Bool.true_and]
      refine wpD_lo (fun i => next.length - i) (fun i => i ≤ next.length ∧ ((next.drop i).all fun row => decide ((row.length : Int) = n) && allIn row 0 (n - 1)) = autB n next)
        (fun i : Nat => ⟨L .any [(0, autP n next), (3, iv i)], L .gone []⟩) 0 (by simp [hB]) (by simp only [Bz1p, go_sem, yz0, Int.reduceLT, reduceLE, reduceToNat, reduceNeg, Nat.reduceLT, reduceLeDiff, reduceMul, reduceSub, reduceIte, reduceEqDiff, reduceAdd, reduceCtorEq]; try rfl) ?_
      rintro i ⟨hi, he⟩
      by_cases hlt : (i : Int) < next.length
      · have hlt' : i < next.length := by omega
        have w1 : IntKind.i64.wrap ((i : Int) + 1) = ((i + 1 : Nat) : Int) := by rw [w64 (by omega)]; simp
        simp only [Bz1p, Bz5x, Bz5y, rwn_getD hlt', decide_eq_true hlt, go_sem, yz0, Int.reduceLT, reduceLE, reduceToNat, reduceNeg, Nat.reduceLT, reduceLeDiff, reduceMul, reduceSub, reduceIte, reduceEqDiff, reduceAdd, reduceCtorEq]
        intro _ vs2
        refine ⟨⟨by omega, hlt'⟩, hlt', ?_⟩
        refine yz2 (k_l01Map (next.getD i []) n (by omega)) qCS trivial ?_
        rw [drop_getD hlt' []] at he
        simp only [List.all_cons] at he
        simp only [Bzac, Bzad, w1, go_sem, yz0, Int.reduceLT, reduceLE, reduceToNat, reduceNeg, Nat.reduceLT, reduceLeDiff, reduceMul, reduceSub, reduceIte, reduceEqDiff, reduceAdd, reduceCtorEq]
        refine ⟨fun hp => ?_, fun hp => ⟨i + 1, by omega, ⟨by omega, ?_⟩, rfl⟩⟩
        · rw [Bool.not_eq_true', Bool.and_comm] at hp
          rw [hp] at he
          rw [← he]; rfl
        · rw [Bool.not_eq_false', Bool.and_comm] at hp
          rw [hp] at he
          simpa using he
      · have : i = next.length := by omega
        subst this
        rw [List.drop_length] at he
        simp only [Bz1p, Bz5x, Bz5y, Bzaf, decide_eq_false hlt, go_sem, yz0, Int.reduceLT, reduceLE, reduceToNat, reduceNeg, Nat.reduceLT, reduceLeDiff, reduceMul, reduceSub, reduceIte, reduceEqDiff, reduceAdd, reduceCtorEq]
        intro _
        rw [← he]; rfl
    · have h2 : (decide (1 ≤ (next.length : Int)) && decide ((next.length : Int) ≤ 3)) = false := by
        rw [Bool.and_eq_false_iff]
        by_cases h3 : 1 ≤ (next.length : Int)
        · right; simp; omega
        · left; simp; omega
      simp only [h2, Bz1o, go_sem, yz0, Int.reduceLT, reduceLE, reduceToNat, reduceNeg, Nat.reduceLT, reduceLeDiff, reduceMul, reduceSub, reduceIte, reduceEqDiff, reduceAdd, reduceCtorEq]
      simp only [autB, h1, h2, Bool.true_and, Bool.false_and]
  · have h1 : (decide (1 ≤ n) && decide (n ≤ 10)) = false := by
      rw [Bool.and_eq_false_iff]
      by_cases h3 : 1 ≤ n
      · right; simp; omega
      · left; simp; omega
    simp only [h1, Bz1o, go_sem, yz0, Int.reduceLT, reduceLE, reduceToNat, reduceNeg, Nat.reduceLT, reduceLeDiff, reduceMul, reduceSub, reduceIte, reduceEqDiff, reduceAdd, reduceCtorEq]
    simp only [autB, h1, Bool.false_and]
def allS (n : Int) : List Int := (List.range n.toNat).map fun (s : Nat) => (s : Int)
theorem k_l01All (n : Int) (hn : 0 ≤ n ∧ n ≤ 1000000) : RowI Try.prog nz36 [iv n] (fun xs => xs = allS n) := by
  refine rowI_of mixed czhq rfl ?_
  simp only [Azb0, Bzaz, go_sem, yz0, Int.reduceLT, reduceLE, reduceToNat, reduceNeg, Nat.reduceLT, reduceLeDiff, reduceMul, reduceSub, reduceIte, reduceEqDiff, reduceAdd, reduceCtorEq]
  intro vs
  simp only [Bzay, Bzaw, go_sem, yz0, Int.reduceLT, reduceLE, reduceToNat, reduceNeg, Nat.reduceLT, reduceLeDiff, reduceMul, reduceSub, reduceIte, reduceEqDiff, reduceAdd, reduceCtorEq]
  refine wpD_lo (fun (_, i) => n.toNat - i) (fun (_, i) => (i : Int) ≤ n)
    (fun ((v, i) : Nat × Nat) => ⟨L .any [(0, iv n), (3, .own 5 v), (4, iv i)], L .gone [(5, .row v 1 true (ints ((List.range i).map fun (s : Nat) => (s : Int))))]⟩) (_, 0) (by simp; omega) (by simp only [Bz1t, go_sem, yz0, Int.reduceLT, reduceLE, reduceToNat, reduceNeg, Nat.reduceLT, reduceLeDiff, reduceMul, reduceSub, reduceIte, reduceEqDiff, reduceAdd, reduceCtorEq]; try rfl) ?_
  rintro ⟨v, i⟩ hi
  have hi : (i : Int) ≤ n := hi
  by_cases hlt : (i : Int) < n
  · have w1 : IntKind.i64.wrap ((i : Int) + 1) = ((i + 1 : Nat) : Int) := by rw [w64 (by omega)]; simp
    have hr : ((List.range i).map fun (s : Nat) => (s : Int)) ++ [(i : Int)] = (List.range (i + 1)).map fun (s : Nat) => (s : Int) := by rw [List.range_succ, List.map_append]; rfl
    simp only [Bz1t, Bz63, Bz64, Bzav, w1, decide_eq_true hlt, go_sem, yz0, Int.reduceLT, reduceLE, reduceToNat, reduceNeg, Nat.reduceLT, reduceLeDiff, reduceMul, reduceSub, reduceIte, reduceEqDiff, reduceAdd, reduceCtorEq]
    intro vs3
    rw [hr]
    refine ⟨⟨_, rfl, rfl⟩, by simp; omega, (_, i + 1), ?_, ?_, rfl⟩
    · show n.toNat - (i + 1) < n.toNat - i; omega
    · show ((i + 1 : Nat) : Int) ≤ n; omega
  · have : (i : Int) = n := by omega
    have he : ((List.range i).map fun (s : Nat) => (s : Int)) = allS n := by rw [← this]; simp [allS]
    simp only [Bz1t, Bz63, Bz64, Bzax, decide_eq_false hlt, go_sem, yz0, Int.reduceLT, reduceLE, reduceToNat, reduceNeg, Nat.reduceLT, reduceLeDiff, reduceMul, reduceSub, reduceIte, reduceEqDiff, reduceAdd, reduceCtorEq]
    refine ⟨5, v, allS n, by omega, rfl, ?_, rfl⟩
    simp only [he, go_sem, yz0, Int.reduceLT, reduceLE, reduceToNat, reduceNeg, Nat.reduceLT, reduceLeDiff, reduceMul, reduceSub, reduceIte, reduceEqDiff, reduceAdd, reduceCtorEq]
theorem k_Clone (xs : List Int) (h : xs.length * 8 ≤ 140737488355328) : RowI Try.prog nz3s [.ro (argN xs) 1 (ints xs)] (fun ys => ys = xs) := by
  refine rowI_of mixed czj1 rfl ?_
  simp only [Bzgs, Bzgt, Bzgu, Azgv, go_sem, yz0, Int.reduceLT, reduceLE, reduceToNat, reduceNeg, Nat.reduceLT, reduceLeDiff, reduceMul, reduceSub, reduceIte, reduceEqDiff, reduceAdd, reduceCtorEq]
  intro vs
  exact ⟨h, _, _, xs, by omega, rfl, by simp only [go_sem, yz0, Int.reduceLT, reduceLE, reduceToNat, reduceNeg, Nat.reduceLT, reduceLeDiff, reduceMul, reduceSub, reduceIte, reduceEqDiff, reduceAdd, reduceCtorEq], rfl⟩
end Go.Ab
namespace Go.Ab
open Go.Proofs
theorem nat1 (i : Nat) (m : Nat) (h : i < m) (hm : m ≤ maxLen) : IntKind.i64.wrap ((i : Int) + 1) = ((i + 1 : Nat) : Int) := by
  have := maxLen_le
  rw [w64 (by omega)]; simp
theorem take_eq_step {α : Type} [BEq α] {xs ys : List α} {i : Nat} (d : α) (h : i < xs.length) (h' : i < ys.length) (he : xs.take i = ys.take i) (hx : xs.getD i d = ys.getD i d) : xs.take (i + 1) = ys.take (i + 1) := by
  rw [List.getD_eq_getElem?_getD, List.getD_eq_getElem?_getD, List.getElem?_eq_getElem h, List.getElem?_eq_getElem h'] at hx
  simp only [Option.getD_some] at hx
  rw [List.take_add_one, List.take_add_one, he, List.getElem?_eq_getElem h, List.getElem?_eq_getElem h', hx]
theorem bne_false_eq {a b : Int} (h : (a != b) = false) : a = b := by simpa using h
theorem k_Equal (xs ys : List Int) : Fun Try.prog nz17 [.ro none 1 (ints xs), .ro none 1 (ints ys)] (bv (decide (xs = ys))) := by
  refine fun_of mixed czi1 rfl ⟨rfl, trivial⟩ ?_
  simp only [Azcu, Bzct, go_sem, yz0, Int.reduceLT, reduceLE, reduceToNat, reduceNeg, Nat.reduceLT, reduceLeDiff, reduceMul, reduceSub, reduceIte, reduceEqDiff, reduceAdd, reduceCtorEq]
  intro hx hy
  by_cases hlen : xs.length = ys.length
  · have hne : ((xs.length : Int) != (ys.length : Int)) = false := by rw [hlen]; simp
    simp only [hne, Bz6s, Bzcs, Bzcq, go_sem, yz0, Int.reduceLT, reduceLE, reduceToNat, reduceNeg, Nat.reduceLT, reduceLeDiff, reduceMul, reduceSub, reduceIte, reduceEqDiff, reduceAdd, reduceCtorEq]
    intro _
    refine wpD_lo (fun i => xs.length - i) (fun i => i ≤ xs.length ∧ xs.take i = ys.take i)
      (fun i : Nat => ⟨L .any [(0, .ro none 1 (ints xs)), (1, .ro none 1 (ints ys)), (12, iv xs.length), (13, iv i)], L .gone []⟩) 0 (by simp) (by simp only [Bz25, go_sem, yz0, Int.reduceLT, reduceLE, reduceToNat, reduceNeg, Nat.reduceLT, reduceLeDiff, reduceMul, reduceSub, reduceIte, reduceEqDiff, reduceAdd, reduceCtorEq]; try rfl) ?_
    rintro i ⟨hi, hti⟩
    by_cases hlt : (i : Int) < xs.length
    · have hlt1 : i < xs.length := by omega
      have hlt2 : i < ys.length := by omega
      simp only [Bz25, Bz6u, Bz6t, Bzco, yz4 hlt1, yz4 hlt2, decide_eq_true hlt, go_sem, yz0, Int.reduceLT, reduceLE, reduceToNat, reduceNeg, Nat.reduceLT, reduceLeDiff, reduceMul, reduceSub, reduceIte, reduceEqDiff, reduceAdd, reduceCtorEq]
      refine ⟨⟨by omega, hlt1⟩, hlt1, ⟨by omega, hlt2⟩, hlt2, ?_⟩
      simp only [Bzcn, Bzcp, nat1 i _ hlt1 hx, go_sem, yz0, Int.reduceLT, reduceLE, reduceToNat, reduceNeg, Nat.reduceLT, reduceLeDiff, reduceMul, reduceSub, reduceIte, reduceEqDiff, reduceAdd, reduceCtorEq]
      refine ⟨fun h => ?_, fun h => ⟨i + 1, by omega, ⟨by omega, take_eq_step 0 hlt1 hlt2 hti (bne_false_eq h)⟩, rfl⟩⟩
      have : xs ≠ ys := by rintro rfl; simp at h
      simp [this]
    · have : i = xs.length := by omega
      subst this
      simp only [Bz25, Bz6u, Bz6t, Bzcr, decide_eq_false hlt, go_sem, yz0, Int.reduceLT, reduceLE, reduceToNat, reduceNeg, Nat.reduceLT, reduceLeDiff, reduceMul, reduceSub, reduceIte, reduceEqDiff, reduceAdd, reduceCtorEq]
      have : xs = ys := by rw [List.take_length, hlen, List.take_length] at hti; exact hti
      simp [this]
  · have hne : ((xs.length : Int) != (ys.length : Int)) = true := by simp; omega
    simp only [hne, Bz6s, go_sem, yz0, Int.reduceLT, reduceLE, reduceToNat, reduceNeg, Nat.reduceLT, reduceLeDiff, reduceMul, reduceSub, reduceIte, reduceEqDiff, reduceAdd, reduceCtorEq]
    have : xs ≠ ys := by rintro rfl; exact hlen rfl
    simp [this]
theorem k_l01Find (xss : List (List Int)) (x : List Int) : Fun Try.prog nz11 [.ro none 1 (rwn xss), .ro none 1 (ints x)] (iv (fidx (fun y => decide (y = x)) xss 0)) := by
  refine fun_of mixed czhr rfl ⟨rfl, trivial⟩ ?_
  simp only [Azb6, Bzb5, Bzb3, go_sem, yz0, Int.reduceLT, reduceLE, reduceToNat, reduceNeg, Nat.reduceLT, reduceLeDiff, reduceMul, reduceSub, reduceIte, reduceEqDiff, reduceAdd, reduceCtorEq]
  refine wpD_lo (fun i => xss.length - i) (fun i => i ≤ xss.length ∧ fidx (fun y => decide (y = x)) (xss.drop i) i = fidx (fun y => decide (y = x)) xss 0)
    (fun i : Nat => ⟨L .any [(0, .ro none 1 (rwn xss)), (1, .ro none 1 (ints x)), (5, iv i)], L .gone []⟩) 0 (by simp) (by simp only [Bz1u, go_sem, yz0, Int.reduceLT, reduceLE, reduceToNat, reduceNeg, Nat.reduceLT, reduceLeDiff, reduceMul, reduceSub, reduceIte, reduceEqDiff, reduceAdd, reduceCtorEq]; try rfl) ?_
  rintro i ⟨hi, he⟩
  by_cases hlt : (i : Int) < xss.length
  · have hlt1 : i < xss.length := by omega
    simp only [Bz1u, Bz65, Bz66, rwn_getD hlt1, decide_eq_true hlt, go_sem, yz0, Int.reduceLT, reduceLE, reduceToNat, reduceNeg, Nat.reduceLT, reduceLeDiff, reduceMul, reduceSub, reduceIte, reduceEqDiff, reduceAdd, reduceCtorEq]
    intro hM vs
    refine ⟨⟨by omega, hlt1⟩, hlt1, ?_⟩
    refine yz2 (k_l00Same (xss.getD i []) x) qCS trivial ?_
    rw [drop_getD hlt1 []] at he
    simp only [fidx] at he
    simp only [Bzb1, Bzb2, nat1 i _ hlt1 hM, go_sem, yz0, Int.reduceLT, reduceLE, reduceToNat, reduceNeg, Nat.reduceLT, reduceLeDiff, reduceMul, reduceSub, reduceIte, reduceEqDiff, reduceAdd, reduceCtorEq]
    refine ⟨fun hp => ?_, fun hp => ⟨i + 1, by omega, ⟨by omega, ?_⟩, rfl⟩⟩
    · simp only [hp, if_true] at he; rw [← he]
    · simp only [hp, Bool.false_eq_true, if_false] at he; exact he
  · have : i = xss.length := by omega
    subst this
    rw [List.drop_length] at he
    simp only [fidx] at he
    simp only [Bz1u, Bz65, Bz66, Bzb4, decide_eq_false hlt, go_sem, yz0, Int.reduceLT, reduceLE, reduceToNat, reduceNeg, Nat.reduceLT, reduceLeDiff, reduceMul, reduceSub, reduceIte, reduceEqDiff, reduceAdd, reduceCtorEq]
    intro _
    rw [← he]
end Go.Ab
namespace Go.Ab
open Go.Proofs
theorem k_szInt64S (xs : List Int) (left : Int) (h : 0 ≤ left ∧ left ≤ 4611686018427387904) :
    Fun Try.prog nz3a [.ro none 1 (ints xs), iv left] (iv (if left - xs.length < 0 then -1 else left - xs.length)) := by
  refine fun_of mixed czi5 rfl ⟨rfl, trivial⟩ ?_
  simp only [Bzde, Bzdf, Bzdg, Bzdh, Azdi, go_sem, yz0, Int.reduceLT, reduceLE, reduceToNat, reduceNeg, Nat.reduceLT, reduceLeDiff, reduceMul, reduceSub, reduceIte, reduceEqDiff, reduceAdd, reduceCtorEq]
  intro hM
  have hM2 := maxLen_le
  rw [w64 (by omega)]
  by_cases hl : left - xs.length < 0
  · simp [hl]
  · simp [hl]
def szRows : List (List Int) → Int → Int
  | [], l => l
  | xs :: r, l => if l - xs.length < 0 then -1 else szRows r (l - xs.length)
def szLL (xss : List (List Int)) (l : Int) : Int := if l - xss.length < 0 then -1 else szRows xss (l - xss.length)
theorem szRows_ge : ∀ (xss : List (List Int)) (l : Int), 0 ≤ szRows xss l → 0 ≤ l → (∀ xs ∈ xss, (xs.length : Int) ≤ l) ∧ szRows xss l ≤ l
  | [], l, _, _ => ⟨by simp, by simp [szRows]⟩
  | xs :: r, l, h, hl => by
    simp only [szRows] at h ⊢
    split at h
    · omega
    · rename_i hlt
      obtain ⟨h1, h2⟩ := szRows_ge r _ h (by omega)
      rw [if_neg hlt]
      refine ⟨?_, by omega⟩
      intro ys hy
      rcases List.mem_cons.1 hy with rfl | hy
      · omega
      · have := h1 ys hy; omega
theorem szLL_ge {xss : List (List Int)} {l : Int} (h : 0 ≤ szLL xss l) : (xss.length : Int) ≤ l ∧ (∀ xs ∈ xss, (xs.length : Int) ≤ l) ∧ szLL xss l ≤ l := by
  unfold szLL at h ⊢
  split at h
  · omega
  · rename_i hlt
    obtain ⟨h1, h2⟩ := szRows_ge xss _ h (by omega)
    rw [if_neg hlt]
    exact ⟨by omega, fun xs hx => by have := h1 xs hx; omega, by omega⟩
theorem k_szInt64SS (xss : List (List Int)) (left : Int) (h : 0 ≤ left ∧ left ≤ 4611686018427387904) :
    Fun Try.prog nzf [.ro none 1 (rwn xss), iv left] (iv (szLL xss left)) := by
  refine fun_of mixed czhm rfl ⟨rfl, trivial⟩ ?_
  simp only [Azab, Bzaa, go_sem, yz0, Int.reduceLT, reduceLE, reduceToNat, reduceNeg, Nat.reduceLT, reduceLeDiff, reduceMul, reduceSub, reduceIte, reduceEqDiff, reduceAdd, reduceCtorEq]
  intro hM
  have hM2 := maxLen_le
  have hw : IntKind.i64.wrap (left - (xss.length : Int)) = left - xss.length := w64 (by omega)
  by_cases hl : left - xss.length < 0
  · simp only [Bz5w, Bz5r, hw, decide_eq_true hl, go_sem, yz0, Int.reduceLT, reduceLE, reduceToNat, reduceNeg, Nat.reduceLT, reduceLeDiff, reduceMul, reduceSub, reduceIte, reduceEqDiff, reduceAdd, reduceCtorEq]
    rw [szLL, if_pos hl]
  · simp only [Bz5w, Bz5r, hw, decide_eq_false hl, go_sem, yz0, Int.reduceLT, reduceLE, reduceToNat, reduceNeg, Nat.reduceLT, reduceLeDiff, reduceMul, reduceSub, reduceIte, reduceEqDiff, reduceAdd, reduceCtorEq]
    simp only [Bza9, Bza7, go_sem, yz0, Int.reduceLT, reduceLE, reduceToNat, reduceNeg, Nat.reduceLT, reduceLeDiff, reduceMul, reduceSub, reduceIte, reduceEqDiff, reduceAdd, reduceCtorEq]
    refine wpD_lo (fun (i, _) => xss.length - i) (fun (i, l) => i ≤ xss.length ∧ 0 ≤ l ∧ l ≤ left ∧ szRows (xss.drop i) l = szLL xss left)
      (fun ((i, l) : Nat × Int) => ⟨L .any [(0, .ro none 1 (rwn xss)), (1, iv l), (5, iv i)], L .gone []⟩) (0, left - xss.length) ⟨by omega, by omega, by omega, by rw [szLL, if_neg hl]; rfl⟩ (by simp only [Bz1n, go_sem, yz0, Int.reduceLT, reduceLE, reduceToNat, reduceNeg, Nat.reduceLT, reduceLeDiff, reduceMul, reduceSub, reduceIte, reduceEqDiff, reduceAdd, reduceCtorEq]; try rfl) ?_
    rintro ⟨i, l⟩ ⟨hi, h0, h1, he⟩
    by_cases hlt : (i : Int) < xss.length
    · have hlt1 : i < xss.length := by omega
      simp only [Bz1n, Bz5s, Bz5v, rwn_getD hlt1, decide_eq_true hlt, go_sem, yz0, Int.reduceLT, reduceLE, reduceToNat, reduceNeg, Nat.reduceLT, reduceLeDiff, reduceMul, reduceSub, reduceIte, reduceEqDiff, reduceAdd, reduceCtorEq]
      intro hM vs
      refine ⟨⟨by omega, hlt1⟩, hlt1, ?_⟩
      refine yz2 (k_szInt64S (xss.getD i []) l (by omega)) qCS trivial ?_
      rw [drop_getD hlt1 []] at he
      simp only [szRows] at he
      by_cases hs : l - (xss.getD i []).length < 0
      · simp only [Bz5u, Bz5t, if_pos hs, decide_true, go_sem, yz0, Int.reduceLT, reduceLE, reduceToNat, reduceNeg, Nat.reduceLT, reduceLeDiff, reduceMul, reduceSub, reduceIte, reduceEqDiff, reduceAdd, reduceCtorEq]
        rw [if_pos hs] at he
        rw [← he]
      · simp only [Bz5u, Bz5t, if_neg hs, decide_eq_false hs, go_sem, yz0, Int.reduceLT, reduceLE, reduceToNat, reduceNeg, Nat.reduceLT, reduceLeDiff, reduceMul, reduceSub, reduceIte, reduceEqDiff, reduceAdd, reduceCtorEq]
        rw [if_neg hs] at he
        simp only [Bza6, nat1 i _ hlt1 hM, go_sem, yz0, Int.reduceLT, reduceLE, reduceToNat, reduceNeg, Nat.reduceLT, reduceLeDiff, reduceMul, reduceSub, reduceIte, reduceEqDiff, reduceAdd, reduceCtorEq]
        exact ⟨(i + 1, _), by dsimp only; omega, ⟨by dsimp only; omega, by dsimp only; omega, by dsimp only; omega, he⟩, rfl⟩
    · have : i = xss.length := by omega
      subst this
      rw [List.drop_length] at he
      simp only [szRows] at he
      simp only [Bz1n, Bz5s, Bz5v, Bza8, decide_eq_false hlt, go_sem, yz0, Int.reduceLT, reduceLE, reduceToNat, reduceNeg, Nat.reduceLT, reduceLeDiff, reduceMul, reduceSub, reduceIte, reduceEqDiff, reduceAdd, reduceCtorEq]
      intro _
      rw [← he]
theorem k_szAutomaton (n : Int) (next : List (List Int)) (left : Int) (h : 0 ≤ left ∧ left ≤ 4611686018427387904) :
    Fun Try.prog nz2y [autA n next, iv left] (iv (szLL next left)) := by
  refine fun_of mixed czha rfl ⟨rfl, trivial⟩ ?_
  simp only [Az8e, Bz8d, go_sem, yz0, Int.reduceLT, reduceLE, reduceToNat, reduceNeg, Nat.reduceLT, reduceLeDiff, reduceMul, reduceSub, reduceIte, reduceEqDiff, reduceAdd, reduceCtorEq]
  intro vs vs2
  refine yz2 (k_szInt64SS next left h) qCS trivial ?_
  have hneg : szLL next left < 0 → szLL next left = -1 := by
    have gen : ∀ (xss : List (List Int)) (l : Int), 0 ≤ l → szRows xss l < 0 → szRows xss l = -1 := by
      intro xss
      induction xss with
      | nil => intro l h1 h2; simp only [szRows] at h2; omega
      | cons xs r ih =>
        intro l h1 h2
        simp only [szRows] at h2 ⊢
        split at h2
        · rename_i h3; rw [if_pos h3]
        · rename_i h3; rw [if_neg h3]; exact ih _ (by omega) h2
    unfold szLL
    split
    · intro _; rfl
    · intro h2; exact gen _ _ (by omega) h2
  by_cases hs : szLL next left < 0
  · simp only [Bz4v, Bz4u, decide_eq_true hs, go_sem, yz0, Int.reduceLT, reduceLE, reduceToNat, reduceNeg, Nat.reduceLT, reduceLeDiff, reduceMul, reduceSub, reduceIte, reduceEqDiff, reduceAdd, reduceCtorEq]
    rw [hneg hs]
  · simp only [Bz4v, Bz4u, Bz8c, decide_eq_false hs, go_sem, yz0, Int.reduceLT, reduceLE, reduceToNat, reduceNeg, Nat.reduceLT, reduceLeDiff, reduceMul, reduceSub, reduceIte, reduceEqDiff, reduceAdd, reduceCtorEq]
theorem k_eqInt64S (xs ys : List Int) : Fun Try.prog nz4 [.ro none 1 (ints xs), .ro none 1 (ints ys)] (bv (decide (xs = ys))) := by
  refine fun_of mixed czhg rfl ⟨rfl, trivial⟩ ?_
  simp only [Az9g, Bz9f, go_sem, yz0, Int.reduceLT, reduceLE, reduceToNat, reduceNeg, Nat.reduceLT, reduceLeDiff, reduceMul, reduceSub, reduceIte, reduceEqDiff, reduceAdd, reduceCtorEq]
  intro hx hy
  by_cases hlen : xs.length = ys.length
  · have hne : ((xs.length : Int) != (ys.length : Int)) = false := by rw [hlen]; simp
    simp only [hne, Bz5c, Bz9e, Bz9c, go_sem, yz0, Int.reduceLT, reduceLE, reduceToNat, reduceNeg, Nat.reduceLT, reduceLeDiff, reduceMul, reduceSub, reduceIte, reduceEqDiff, reduceAdd, reduceCtorEq]
    refine wpD_lo (fun i => xs.length - i) (fun i => i ≤ xs.length ∧ xs.take i = ys.take i)
      (fun i : Nat => ⟨L .any [(0, .ro none 1 (ints xs)), (1, .ro none 1 (ints ys)), (5, iv i)], L .gone []⟩) 0 (by simp) (by simp only [Bz1j, go_sem, yz0, Int.reduceLT, reduceLE, reduceToNat, reduceNeg, Nat.reduceLT, reduceLeDiff, reduceMul, reduceSub, reduceIte, reduceEqDiff, reduceAdd, reduceCtorEq]; try rfl) ?_
    rintro i ⟨hi, hti⟩
    by_cases hlt : (i : Int) < xs.length
    · have hlt1 : i < xs.length := by omega
      have hlt2 : i < ys.length := by omega
      simp only [Bz1j, Bz5d, Bz5e, yz4 hlt1, yz4 hlt2, decide_eq_true hlt, go_sem, yz0, Int.reduceLT, reduceLE, reduceToNat, reduceNeg, Nat.reduceLT, reduceLeDiff, reduceMul, reduceSub, reduceIte, reduceEqDiff, reduceAdd, reduceCtorEq]
      intro _
      refine ⟨⟨by omega, hlt1⟩, hlt1, ⟨by omega, hlt2⟩, hlt2, ?_⟩
      simp only [Bz9a, Bz9b, nat1 i _ hlt1 hx, go_sem, yz0, Int.reduceLT, reduceLE, reduceToNat, reduceNeg, Nat.reduceLT, reduceLeDiff, reduceMul, reduceSub, reduceIte, reduceEqDiff, reduceAdd, reduceCtorEq]
      refine ⟨fun h => ?_, fun h => ⟨i + 1, by omega, ⟨by omega, take_eq_step 0 hlt1 hlt2 hti (bne_false_eq h)⟩, rfl⟩⟩
      have : xs ≠ ys := by rintro rfl; simp at h
      simp [this]
    · have : i = xs.length := by omega
      subst this
      simp only [Bz1j, Bz5d, Bz5e, Bz9d, decide_eq_false hlt, go_sem, yz0, Int.reduceLT, reduceLE, reduceToNat, reduceNeg, Nat.reduceLT, reduceLeDiff, reduceMul, reduceSub, reduceIte, reduceEqDiff, reduceAdd, reduceCtorEq]
      intro _
      have : xs = ys := by rw [List.take_length, hlen, List.take_length] at hti; exact hti
      simp [this]
  · have hne : ((xs.length : Int) != (ys.length : Int)) = true := by simp; omega
    simp only [hne, Bz5c, go_sem, yz0, Int.reduceLT, reduceLE, reduceToNat, reduceNeg, Nat.reduceLT, reduceLeDiff, reduceMul, reduceSub, reduceIte, reduceEqDiff, reduceAdd, reduceCtorEq]
    have : xs ≠ ys := by rintro rfl; exact hlen rfl
    simp [this]
theorem take_eq_step' {α : Type} {xs ys : List α} {i : Nat} (d : α) (h : i < xs.length) (h' : i < ys.length) (he : xs.take i = ys.take i) (hx : xs.getD i d = ys.getD i d) : xs.take (i + 1) = ys.take (i + 1) := by
  rw [List.getD_eq_getElem?_getD, List.getD_eq_getElem?_getD, List.getElem?_eq_getElem h, List.getElem?_eq_getElem h'] at hx
  simp only [Option.getD_some] at hx
  rw [List.take_succ_eq_append_getElem h, List.take_succ_eq_append_getElem h', he, hx]
theorem k_eqInt64SS (xss yss : List (List Int)) : Fun Try.prog nzi [.ro none 1 (rwn xss), .ro none 1 (rwn yss)] (bv (decide (xss = yss))) := by
  refine fun_of mixed czi3 rfl ⟨rfl, trivial⟩ ?_
  simp only [Azd8, Bzd7, go_sem, yz0, Int.reduceLT, reduceLE, reduceToNat, reduceNeg, Nat.reduceLT, reduceLeDiff, reduceMul, reduceSub, reduceIte, reduceEqDiff, reduceAdd, reduceCtorEq]
  intro hx hy
  by_cases hlen : xss.length = yss.length
  · have hne : ((xss.length : Int) != (yss.length : Int)) = false := by rw [hlen]; simp
    simp only [hne, Bz6x, Bzd6, Bzd4, go_sem, yz0, Int.reduceLT, reduceLE, reduceToNat, reduceNeg, Nat.reduceLT, reduceLeDiff, reduceMul, reduceSub, reduceIte, reduceEqDiff, reduceAdd, reduceCtorEq]
    refine wpD_lo (fun i => xss.length - i) (fun i => i ≤ xss.length ∧ xss.take i = yss.take i)
      (fun i : Nat => ⟨L .any [(0, .ro none 1 (rwn xss)), (1, .ro none 1 (rwn yss)), (5, iv i)], L .gone []⟩) 0 (by simp) (by simp only [Bz27, go_sem, yz0, Int.reduceLT, reduceLE, reduceToNat, reduceNeg, Nat.reduceLT, reduceLeDiff, reduceMul, reduceSub, reduceIte, reduceEqDiff, reduceAdd, reduceCtorEq]; try rfl) ?_
    rintro i ⟨hi, hti⟩
    by_cases hlt : (i : Int) < xss.length
    · have hlt1 : i < xss.length := by omega
      have hlt2 : i < yss.length := by omega
      simp only [Bz27, Bz6y, Bz6z, rwn_getD hlt1, rwn_getD hlt2, decide_eq_true hlt, go_sem, yz0, Int.reduceLT, reduceLE, reduceToNat, reduceNeg, Nat.reduceLT, reduceLeDiff, reduceMul, reduceSub, reduceIte, reduceEqDiff, reduceAdd, reduceCtorEq]
      intro _ vs
      refine ⟨⟨by omega, hlt1⟩, hlt1, ⟨by omega, hlt2⟩, hlt2, ?_⟩
      refine yz2 (k_eqInt64S (xss.getD i []) (yss.getD i [])) qCS trivial ?_
      simp only [Bzd2, Bzd3, nat1 i _ hlt1 hx, go_sem, yz0, Int.reduceLT, reduceLE, reduceToNat, reduceNeg, Nat.reduceLT, reduceLeDiff, reduceMul, reduceSub, reduceIte, reduceEqDiff, reduceAdd, reduceCtorEq]
      refine ⟨fun h => ?_, fun h => ⟨i + 1, by omega, ⟨by omega, take_eq_step' [] hlt1 hlt2 hti (by simpa using h)⟩, rfl⟩⟩
      have : xss ≠ yss := by rintro rfl; simp at h
      simp [this]
    · have : i = xss.length := by omega
      subst this
      simp only [Bz27, Bz6y, Bz6z, Bzd5, decide_eq_false hlt, go_sem, yz0, Int.reduceLT, reduceLE, reduceToNat, reduceNeg, Nat.reduceLT, reduceLeDiff, reduceMul, reduceSub, reduceIte, reduceEqDiff, reduceAdd, reduceCtorEq]
      intro _
      have : xss = yss := by rw [List.take_length, hlen, List.take_length] at hti; exact hti
      simp [this]
  · have hne : ((xss.length : Int) != (yss.length : Int)) = true := by simp; omega
    simp only [hne, Bz6x, go_sem, yz0, Int.reduceLT, reduceLE, reduceToNat, reduceNeg, Nat.reduceLT, reduceLeDiff, reduceMul, reduceSub, reduceIte, reduceEqDiff, reduceAdd, reduceCtorEq]
    have : xss ≠ yss := by rintro rfl; exact hlen rfl
    simp [this]
theorem k_eqAutomaton (n n' : Int) (next next' : List (List Int)) : Fun Try.prog nz30 [autA n next, autA n' next'] (bv (decide (n = n') && decide (next = next'))) := by
  refine fun_of mixed czhh rfl ⟨rfl, trivial⟩ ?_
  simp only [Az9j, Bz9i, go_sem, yz0, Int.reduceLT, reduceLE, reduceToNat, reduceNeg, Nat.reduceLT, reduceLeDiff, reduceMul, reduceSub, reduceIte, reduceEqDiff, reduceAdd, reduceCtorEq]
  intro vs
  by_cases hn : n = n'
  · subst hn
    simp only [Bz5f, Bz9h, bne_self_eq_false, go_sem, yz0, Int.reduceLT, reduceLE, reduceToNat, reduceNeg, Nat.reduceLT, reduceLeDiff, reduceMul, reduceSub, reduceIte, reduceEqDiff, reduceAdd, reduceCtorEq]
    intro vs3
    refine yz2 (k_eqInt64SS next next') qCS (by trivial) ?_
    by_cases h2 : next = next'
    · simp only [Bz5g, Bz5h, h2, decide_true, go_sem, yz0, Int.reduceLT, reduceLE, reduceToNat, reduceNeg, Nat.reduceLT, reduceLeDiff, reduceMul, reduceSub, reduceIte, reduceEqDiff, reduceAdd, reduceCtorEq]; rfl
    · simp only [Bz5g, Bz5h, h2, decide_false, go_sem, yz0, Int.reduceLT, reduceLE, reduceToNat, reduceNeg, Nat.reduceLT, reduceLeDiff, reduceMul, reduceSub, reduceIte, reduceEqDiff, reduceAdd, reduceCtorEq]; rfl
  · have hne : (n != n') = true := by simpa using hn
    simp only [Bz5f, hne, go_sem, yz0, Int.reduceLT, reduceLE, reduceToNat, reduceNeg, Nat.reduceLT, reduceLeDiff, reduceMul, reduceSub, reduceIte, reduceEqDiff, reduceAdd, reduceCtorEq]
    simp [hn]
theorem intsK_take {k : IntKind} {xs : List Int} {i : Nat} : (intsK k xs).take i = intsK k (xs.take i) := by simp [List.map_take]
theorem intsK_drop {k : IntKind} {xs : List Int} {i : Nat} : (intsK k xs).drop i = intsK k (xs.drop i) := by simp [List.map_drop]
theorem intsK_cat {k : IntKind} {xs ys : List Int} : intsK k xs ++ intsK k ys = intsK k (xs ++ ys) := by simp
theorem fill_step {α : Type} (xs : List α) (z d : α) (i : Nat) (h : i < xs.length) :
    ((xs.take i ++ List.replicate (xs.length - i) z).take i ++ [xs.getD i d]) ++ (xs.take i ++ List.replicate (xs.length - i) z).drop (i + 1) = xs.take (i + 1) ++ List.replicate (xs.length - (i + 1)) z := by
  have h1 : (xs.take i).length = i := by simp; omega
  have h2 : (xs.take i ++ List.replicate (xs.length - i) z).take i = xs.take i := by rw [List.take_append_of_le_length (by omega), List.take_of_length_le (by omega)]
  have h3 : (xs.take i ++ List.replicate (xs.length - i) z).drop (i + 1) = List.replicate (xs.length - (i + 1)) z := by
    rw [List.drop_append, h1, List.drop_eq_nil_of_le (by omega), List.nil_append, List.drop_replicate]
    congr 1; omega
  rw [h2, h3, List.take_succ_eq_append_getElem h]
  congr 2
  rw [List.getD_eq_getElem?_getD, List.getElem?_eq_getElem h]; rfl
theorem k_toInt64S (xs : List Int) (h : xs.length * 8 ≤ 140737488355328) : RowI Try.prog nz3g [.ro none 1 (ints xs)] (fun ys => ys = xs) := by
  refine rowI_of mixed czid rfl ?_
  simp only [Azez, Bzey, go_sem, yz0, Int.reduceLT, reduceLE, reduceToNat, reduceNeg, Nat.reduceLT, reduceLeDiff, reduceMul, reduceSub, reduceIte, reduceEqDiff, reduceAdd, reduceCtorEq]
  intro vs hM
  have hM2 := maxLen_le
  refine ⟨by omega, ?_⟩
  simp only [Bzex, Bzev, ints_rep, go_sem, yz0, Int.reduceLT, reduceLE, reduceToNat, reduceNeg, Nat.reduceLT, reduceLeDiff, reduceMul, reduceSub, reduceIte, reduceEqDiff, reduceAdd, reduceCtorEq]
  refine wpD_lo (fun i => xs.length - i) (fun i => i ≤ xs.length)
    (fun i : Nat => ⟨L .any [(0, .ro none 1 (ints xs)), (3, .own 7 (vs 2 0)), (4, iv i)], L .gone [(7, .row (vs 2 0) 1 true (ints (xs.take i ++ List.replicate (xs.length - i) 0)))]⟩) 0 (by simp) (by simp only [Bz2i, List.take_zero, Nat.sub_zero, go_sem, yz0, Int.reduceLT, reduceLE, reduceToNat, reduceNeg, Nat.reduceLT, reduceLeDiff, reduceMul, reduceSub, reduceIte, reduceEqDiff, reduceAdd, reduceCtorEq]; try rfl) ?_
  intro i hi
  by_cases hlt : (i : Int) < xs.length
  · have hlt1 : i < xs.length := by omega
    have hl : (xs.take i ++ List.replicate (xs.length - i) (0 : Int)).length = xs.length := by simp; omega
    simp only [Bz2i, Bz7j, Bz7k, yz4 hlt1, decide_eq_true hlt, go_sem, yz0, Int.reduceLT, reduceLE, reduceToNat, reduceNeg, Nat.reduceLT, reduceLeDiff, reduceMul, reduceSub, reduceIte, reduceEqDiff, reduceAdd, reduceCtorEq]
    intro vs2
    refine ⟨⟨by omega, hlt1⟩, hlt1, ⟨by omega, by rw [hl]; exact hlt1⟩, ⟨by rw [hl]; exact hlt1, ?_⟩⟩
    simp only [Bzeu, nat1 i _ hlt1 hM, go_sem, yz0, Int.reduceLT, reduceLE, reduceToNat, reduceNeg, Nat.reduceLT, reduceLeDiff, reduceMul, reduceSub, reduceIte, reduceEqDiff, reduceAdd, reduceCtorEq]
    refine ⟨i + 1, by omega, by omega, ?_⟩
    simp only [intsK_take, intsK_drop, dnL_ints, intsK_snoc, intsK_cat, fill_step xs 0 0 i hlt1]
  · have : i = xs.length := by omega
    subst this
    simp only [Bz2i, Bz7j, Bz7k, Bzew, decide_eq_false hlt, go_sem, yz0, Int.reduceLT, reduceLE, reduceToNat, reduceNeg, Nat.reduceLT, reduceLeDiff, reduceMul, reduceSub, reduceIte, reduceEqDiff, reduceAdd, reduceCtorEq]
    intro _
    exact ⟨7, vs 2 0, xs, by omega, rfl, by simp only [List.take_length, Nat.sub_self, List.replicate_zero, go_sem, yz0, Int.reduceLT, reduceLE, reduceToNat, reduceNeg, Nat.reduceLT, reduceLeDiff, reduceMul, reduceSub, reduceIte, reduceEqDiff, reduceAdd, reduceCtorEq], rfl⟩
abbrev nilS : AVal := .val (.slice none 0 0)
theorem rep_flat1 {α : Type} {m : Nat} {a : α} : (List.replicate m [a]).flatten = List.replicate m a := by
  induction m with
  | zero => rfl
  | succ m ih => rw [List.replicate_succ, List.flatten_cons, ih]; rfl
theorem rwp_fill (ps : List (Nat × List Int)) (m i : Nat) (hp : ps.length = i) (hm : i < m) (n : Nat) (xs : List Int) :
    ((rwp ps ++ List.replicate (m - i) nilS).take i ++ [.ro (some (some (n + 1))) 1 (ints xs)]) ++ (rwp ps ++ List.replicate (m - i) nilS).drop (i + 1) = rwp (ps ++ [(n, xs)]) ++ List.replicate (m - (i + 1)) nilS := by
  have h1 : (rwp ps).length = i := by rw [rwp_len]; exact hp
  have h2 : (rwp ps ++ List.replicate (m - i) nilS).take i = rwp ps := by rw [List.take_append_of_le_length (by omega), List.take_of_length_le (by omega)]
  have h3 : (rwp ps ++ List.replicate (m - i) nilS).drop (i + 1) = List.replicate (m - (i + 1)) nilS := by
    rw [List.drop_append, h1, List.drop_eq_nil_of_le (by omega), List.nil_append, List.drop_replicate]
    congr 1; omega
  rw [h2, h3, rwp_snoc]
theorem call_rowIs {P : Program} {pu : Bool} {σ : St} {g : FuncId} {As args : List AVal} {d : Nat} {s : Nat → Nat} {K : St → Prop} {Q : List Int → Prop} (h : RowI P g args Q) (hco : CoeL σ.hp [] true args As) (hg : σ.hp d = .gone) (hex : ∃ xs, Q xs)
    (hk : ∀ xs v, Q xs → K (St.put ⟨σ.tm, upd σ.hp d (.row (s v) 1 true (ints xs))⟩ (some d) (.own d (s v)))) : wpCall P pu σ g As (some d) s K := by
  refine call_fn h hco (fun _ => ?_) ?_
  · obtain ⟨xs, hx⟩ := hex
    exact ⟨_, _, ints xs, 0, ⟨xs, rfl, hx⟩, flat_intsK, rfl, rfl⟩
  · rintro rows res ⟨cs, v, ⟨xs, rfl, hx⟩, hf, rfl, rfl⟩
    refine ⟨by simp, ?_, ?_⟩
    · rw [Option.getD_some, yzp]; exact hg
    · rw [Option.getD_some, yz6, oren_row, renL_flat (ints xs) hf, List.length_singleton, yz5]
      exact hk xs v hx
theorem k_toInt64SSn (xss : List (List Int)) (h : xss.length * 24 ≤ 140737488355328) (hx : ∀ xs ∈ xss, xs.length * 8 ≤ 140737488355328) :
    Fn Try.prog nzg [.ro none 1 (rwn xss)] (fun rows res => ∃ v ps, rows = [.row v 1 true (rwp ps)] ∧ ps.map (·.2) = xss ∧ DJ ps ∧ res = .own 6000 v) := by
  refine con_of mixed czht rfl (by simp) ?_
  simp only [Azbj, Bzbi, yzj, yz1, go_sem, yz0, Int.reduceLT, reduceLE, reduceToNat, reduceNeg, Nat.reduceLT, reduceLeDiff, reduceMul, reduceSub, reduceIte, reduceEqDiff, reduceAdd, reduceCtorEq]
  intro vs0 U0 hN0 vs U hN hM
  have hM2 := maxLen_le
  refine ⟨by omega, ?_⟩
  simp only [Bzbh, Bzbf, rep_flat1, yzj, yz1, go_sem, yz0, Int.reduceLT, reduceLE, reduceToNat, reduceNeg, Nat.reduceLT, reduceLeDiff, reduceMul, reduceSub, reduceIte, reduceEqDiff, reduceAdd, reduceCtorEq]
  intro vs1 U1 hN1
  refine wpD_lp (fun ps => xss.length - List.length ps) (fun ps => List.map (·.2) ps = xss.take (List.length ps) ∧ List.length ps ≤ xss.length ∧ DJ ps)
    (fun ps : List (Nat × List Int) => ⟨L .any [(0, .ro none 1 (rwn xss)), (3, .own 7 (vs 2 0)), (4, iv ps.length)], L .gone [(7, .row (vs 2 0) 1 true (rwp ps ++ List.replicate (xss.length - ps.length) nilS)), (20, .gone), (5000, .gone)]⟩)
    [] ⟨rfl, by simp, by simp [DJ]⟩ (by simp only [Bzbe, List.length_nil, Nat.sub_zero, rwp_nil, List.nil_append, go_sem, yz0, Int.reduceLT, reduceLE, reduceToNat, reduceNeg, Nat.reduceLT, reduceLeDiff, reduceMul, reduceSub, reduceIte, reduceEqDiff, reduceAdd, reduceCtorEq]; try rfl) ?_
  rintro ps ⟨hp1, hp2, hp3⟩
  by_cases hlt : (ps.length : Int) < xss.length
  · have hlt1 : ps.length < xss.length := by omega
    have hl : (rwp ps ++ List.replicate (xss.length - ps.length) nilS).length = xss.length := by simp [rwp_len]; omega
    simp only [Bz69, Bz6a, rwn_getD hlt1, decide_eq_true hlt, yzj, yz1, go_sem, yz0, Int.reduceLT, reduceLE, reduceToNat, reduceNeg, Nat.reduceLT, reduceLeDiff, reduceMul, reduceSub, reduceIte, reduceEqDiff, reduceAdd, reduceCtorEq]
    intro vs2 U2 hN2 hM3 vs3 U3 hN3
    refine ⟨⟨by omega, hlt1⟩, hlt1, ?_⟩
    refine call_rowIs (k_toInt64S (xss.getD ps.length []) (hx _ (getD_mem hlt1 _))) qCS rfl ⟨_, rfl⟩ ?_
    rintro ys v rfl
    simp only [go_sem, yz0, Int.reduceLT, reduceLE, reduceToNat, reduceNeg, Nat.reduceLT, reduceLeDiff, reduceMul, reduceSub, reduceIte, reduceEqDiff, reduceAdd, reduceCtorEq]
    refine ⟨⟨by omega, by rw [hl]; exact hlt1⟩, ⟨by rw [hl]; exact hlt1, ?_⟩⟩
    simp only [Bzbd, yzj, yz1, nat1 _ _ hlt1 hM, rwp_fill ps _ _ rfl hlt1, go_sem, yz0, Int.reduceLT, reduceLE, reduceToNat, reduceNeg, Nat.reduceLT, reduceLeDiff, reduceMul, reduceSub, reduceIte, reduceEqDiff, reduceAdd, reduceCtorEq]
    intro vs4 U4 hN4
    have hU := hN3.hp 7
    simp only [AObj.uses, go_sem, yz0, Int.reduceLT, reduceLE, reduceToNat, reduceNeg, Nat.reduceLT, reduceLeDiff, reduceMul, reduceSub, reduceIte, reduceEqDiff, reduceAdd, reduceCtorEq] at hU
    have hold := usesL_rwp hU.2
    refine ⟨ps ++ [(vs3 6 v, xss.getD ps.length [])], by simp; omega, ⟨?_, by simp; omega, hp3.snoc fun p hp => ?_⟩, by simp only [List.length_append, List.length_singleton]⟩
    · rw [List.map_append, hp1, List.length_append, List.length_singleton, List.take_succ_eq_append_getElem hlt1, List.getD_eq_getElem?_getD, List.getElem?_eq_getElem hlt1]; rfl
    · rcases hold p hp with h | h
      · exact .inl h
      · exact .inr fun e => hN3.new 6 v (e ▸ h)
  · have hlen : ps.length = xss.length := by omega
    rw [hlen, List.take_length] at hp1
    simp only [Bz69, Bz6a, Bzbg, decide_eq_false hlt, yzj, yz1, go_sem, yz0, Int.reduceLT, reduceLE, reduceToNat, reduceNeg, Nat.reduceLT, reduceLeDiff, reduceMul, reduceSub, reduceIte, reduceEqDiff, reduceAdd, reduceCtorEq]
    intro vs2 U2 hN2 hM3 vs3 U3 hN3
    refine ⟨[7], by simp, by simp, by simp, ?_⟩
    simp only [hlen, Nat.sub_self, List.replicate_zero, List.append_nil, range1, List.length_singleton, renL_rwp, Nat.not_lt_zero, range1, ren_val, ren_any, ren_ro, rnNm_n, rnNm_sn, rnNm_o, rnNm_s, ren_st, ren_tup, renL_nil, yzu, yz9, renL_rws, renL_rwn, oren_box, oren_row, oren_map, yzd, yza, yze, yzg, yzq, yzs, yz5, yz7, yzf, yzb, yzt, yzr, List.range_zero, yz8, yz6, yzc, gone_nil, yzp, gone_two, AVal.fresh, freshL, yz3, yzo, AObj.fresh, id, Option.isSome_some, or_true, true_or, go_sem, yz0, Int.reduceLT, reduceLE, reduceToNat, reduceNeg, Nat.reduceLT, reduceLeDiff, reduceMul, reduceSub, reduceIte, reduceEqDiff, reduceAdd, reduceCtorEq]
    exact ⟨fresh_rwp, vs 2 0, ps, by simp, hp1, hp3, rfl⟩
theorem k_toAutomatonN (n : Int) (next : List (List Int)) (h : next.length * 24 ≤ 140737488355328) (hx : ∀ xs ∈ next, xs.length * 8 ≤ 140737488355328) :
    Fn Try.prog nz0 [autA n next] (fun rows res => ∃ v ps, rows = [.row v 1 true (rwp ps)] ∧ ps.map (·.2) = next ∧ DJ ps ∧ res = .st [iv n, .own 6000 v]) := by
  refine con_of mixed czhd rfl (by simp) ?_
  simp only [Az8u, Bz8t, yzj, yz1, go_sem, yz0, Int.reduceLT, reduceLE, reduceToNat, reduceNeg, Nat.reduceLT, reduceLeDiff, reduceMul, reduceSub, reduceIte, reduceEqDiff, reduceAdd, reduceCtorEq]
  intro vs U hN vs2 U2 hN2
  simp only [Bz8s, Bz8r, yzj, yz1, go_sem, yz0, Int.reduceLT, reduceLE, reduceToNat, reduceNeg, Nat.reduceLT, reduceLeDiff, reduceMul, reduceSub, reduceIte, reduceEqDiff, reduceAdd, reduceCtorEq]
  intro vs3 U3 hN3 vs4 U4 hN4
  refine call_fn (k_toInt64SSn next h hx) qCS (by intro e; cases e) ?_
  rintro rows res ⟨v, ps, rfl, hps, hd, rfl⟩
  refine ⟨by simp, by simp only [Option.getD_some, yzp]; rfl, ?_⟩
  simp only [Option.getD_some, List.length_singleton, renL_rwp, Bz8q, yzj, yz1, Nat.not_lt_zero, range1, ren_val, ren_any, ren_ro, rnNm_n, rnNm_sn, rnNm_o, rnNm_s, ren_st, ren_tup, renL_nil, yzu, yz9, renL_rws, renL_rwn, oren_box, oren_row, oren_map, yzd, yza, yze, yzg, yzq, yzs, yz5, yz7, yzf, yzb, yzt, yzr, List.range_zero, yz8, yz6, yzc, gone_nil, yzp, gone_two, AVal.fresh, freshL, yz3, yzo, AObj.fresh, id, Option.isSome_some, or_true, true_or, go_sem, yz0, Int.reduceLT, reduceLE, reduceToNat, reduceNeg, Nat.reduceLT, reduceLeDiff, reduceMul, reduceSub, reduceIte, reduceEqDiff, reduceAdd, reduceCtorEq]
  intro vs5 U5 hN5
  refine ⟨[9], by simp, by simp, by simp, ?_⟩
  simp only [range1, List.length_singleton, renL_rwp, Nat.not_lt_zero, range1, ren_val, ren_any, ren_ro, rnNm_n, rnNm_sn, rnNm_o, rnNm_s, ren_st, ren_tup, renL_nil, yzu, yz9, renL_rws, renL_rwn, oren_box, oren_row, oren_map, yzd, yza, yze, yzg, yzq, yzs, yz5, yz7, yzf, yzb, yzt, yzr, List.range_zero, yz8, yz6, yzc, gone_nil, yzp, gone_two, AVal.fresh, freshL, yz3, yzo, AObj.fresh, id, Option.isSome_some, or_true, true_or, go_sem, yz0, Int.reduceLT, reduceLE, reduceToNat, reduceNeg, Nat.reduceLT, reduceLeDiff, reduceMul, reduceSub, reduceIte, reduceEqDiff, reduceAdd, reduceCtorEq]
  exact ⟨fresh_rwp, vs4 2 v, ps.map (fun p => (vs4 2 p.1, p.2)), by rw [show List.map (fun p : Nat × List Int => (p.1, p.2)) (ps.map fun p => (vs4 2 p.1, p.2)) = ps.map fun p => (vs4 2 p.1, p.2) from List.map_id _], by rw [← hps, List.map_map]; rfl, hd.ren fun x y e => (hN4.inj _ _ _ _ e).2, rfl⟩
theorem k_toAutomaton (n : Int) (next : List (List Int)) (h : next.length * 24 ≤ 140737488355328) (hx : ∀ xs ∈ next, xs.length * 8 ≤ 140737488355328) :
    Fn Try.prog nz0 [autA n next] (fun rows res => ∃ v, rows = [.row v 1 true (rws next)] ∧ res = .st [iv n, .own 6000 v]) := by
  refine Con.dnr (k_toAutomatonN n next h hx) ?_
  rintro o r x ⟨rfl, v, ps, rfl, hps, _, rfl⟩
  refine ⟨rfl, v, ?_, by simp only [go_sem, yz0, Int.reduceLT, reduceLE, reduceToNat, reduceNeg, Nat.reduceLT, reduceLeDiff, reduceMul, reduceSub, reduceIte, reduceEqDiff, reduceAdd, reduceCtorEq]⟩
  simp only [List.map_cons, List.map_nil, odn_row, dnL_rwp]
  rw [hps]
end Go.Ab
namespace Go.Ab
def SI (l : List Int) : Prop := l.Pairwise (· < ·)
theorem SI_ext : ∀ {a b : List Int}, SI a → SI b → (∀ x, x ∈ a ↔ x ∈ b) → a = b
  | [], [], _, _, _ => rfl
  | [], y :: b, _, _, h => by have := (h y).2 (by simp); simp at this
  | x :: a, [], _, _, h => by have := (h x).1 (by simp); simp at this
  | x :: a, y :: b, ha, hb, h => by
    unfold SI at ha hb
    rw [List.pairwise_cons] at ha hb
    have e : x = y := by
      rcases List.mem_cons.1 ((h x).1 (by simp)) with e | h1
      · exact e
      · rcases List.mem_cons.1 ((h y).2 (by simp)) with e | h2
        · exact e.symm
        · have := hb.1 x h1; have := ha.1 y h2; omega
    subst e
    have : a = b := SI_ext ha.2 hb.2 fun z => by
      constructor
      · intro hz
        rcases List.mem_cons.1 ((h z).1 (by simp [hz])) with e | h1
        · have := ha.1 z hz; omega
        · exact h1
      · intro hz
        rcases List.mem_cons.1 ((h z).2 (by simp [hz])) with e | h1
        · have := hb.1 z hz; omega
        · exact h1
    rw [this]
def put : List Int → Int → List Int
  | [], n => [n]
  | x :: xs, n => if n ≤ x then (if n < x then n :: x :: xs else x :: xs) else x :: put xs n
theorem put_mem {n y : Int} : ∀ {xs : List Int}, y ∈ put xs n ↔ y = n ∨ y ∈ xs
  | [] => by simp [put]
  | x :: xs => by
    simp only [put]
    split
    · split
      · simp
      · have : x = n := by omega
        subst this
        simp
    · rw [List.mem_cons, put_mem, List.mem_cons]
      constructor
      · rintro (h | h | h)
        · exact .inr (.inl h)
        · exact .inl h
        · exact .inr (.inr h)
      · rintro (h | h | h)
        · exact .inr (.inl h)
        · exact .inl h
        · exact .inr (.inr h)
theorem put_SI {n : Int} : ∀ {xs : List Int}, SI xs → SI (put xs n)
  | [], _ => by simp [put, SI]
  | x :: xs, h => by
    have h0 := h
    unfold SI at h
    rw [List.pairwise_cons] at h
    simp only [put]
    split
    · split
      · unfold SI
        rw [List.pairwise_cons]
        refine ⟨fun y hy => ?_, h0⟩
        rcases List.mem_cons.1 hy with rfl | hy
        · assumption
        · have := h.1 y hy; omega
      · exact h0
    · unfold SI
      rw [List.pairwise_cons]
      refine ⟨fun y hy => ?_, put_SI h.2⟩
      rcases put_mem.1 hy with rfl | hy
      · omega
      · exact h.1 y hy
theorem put_len {n : Int} : ∀ {xs : List Int}, (put xs n).length ≤ xs.length + 1
  | [] => by simp [put]
  | x :: xs => by
    simp only [put]
    split
    · split <;> simp
    · have := put_len (n := n) (xs := xs)
      simp only [List.length_cons]; omega
def nrm (l : List Int) : List Int := l.foldl put []
theorem nrm_acc : ∀ (l acc : List Int), SI acc → SI (l.foldl put acc) ∧ ∀ y, y ∈ l.foldl put acc ↔ y ∈ acc ∨ y ∈ l
  | [], acc, h => ⟨h, by simp⟩
  | x :: l, acc, h => by
    obtain ⟨h1, h2⟩ := nrm_acc l (put acc x) (put_SI h)
    refine ⟨h1, fun y => ?_⟩
    rw [List.foldl_cons, h2, put_mem, List.mem_cons]
    constructor
    · rintro ((h | h) | h)
      · exact .inr (.inl h)
      · exact .inl h
      · exact .inr (.inr h)
    · rintro (h | h | h)
      · exact .inl (.inr h)
      · exact .inl (.inl h)
      · exact .inr h
theorem nrm_SI (l : List Int) : SI (nrm l) := (nrm_acc l [] (by simp [SI])).1
theorem nrm_mem {l : List Int} {y : Int} : y ∈ nrm l ↔ y ∈ l := by
  have := (nrm_acc l [] (by simp [SI])).2 y
  simpa [nrm] using this
theorem nrm_snoc {l : List Int} {x : Int} : nrm (l ++ [x]) = put (nrm l) x := by simp [nrm, List.foldl_append]
theorem nrm_len : ∀ l : List Int, (nrm l).length ≤ l.length := by
  have gen : ∀ (l acc : List Int), (l.foldl put acc).length ≤ acc.length + l.length := by
    intro l
    induction l with
    | nil => intro acc; simp
    | cons x l ih => intro acc; rw [List.foldl_cons, List.length_cons]; have := ih (put acc x); have := put_len (n := x) (xs := acc); omega
  intro l
  have := gen l []
  simpa [nrm] using this
theorem compact_sorted {zs : List Int} (h : zs.Pairwise (· ≤ ·)) : SI (Lib.compact zs) ∧ ∀ y, y ∈ Lib.compact zs ↔ y ∈ zs := by
  have hget : ∀ j, j < zs.length → zs.toArray[j]! = zs.getD j 0 := by
    intro j hj
    rw [getElem!_pos _ j (by simpa using hj), List.getD_eq_getElem?_getD, List.getElem?_eq_getElem hj]; simp
  have hle : ∀ i j, i < j → j < zs.length → zs.getD i 0 ≤ zs.getD j 0 := by
    intro i j hij hj
    rw [List.pairwise_iff_getElem] at h
    have := h i j (by omega) hj hij
    rw [List.getD_eq_getElem?_getD, List.getElem?_eq_getElem (by omega), List.getD_eq_getElem?_getD, List.getElem?_eq_getElem hj]
    exact this
  have key : ∀ m, m ≤ zs.length → SI (Lib.compactUpTo zs.toArray m) ∧ ∀ y, y ∈ Lib.compactUpTo zs.toArray m ↔ y ∈ zs.take m := by
    intro m
    induction m with
    | zero => intro _; simp [Lib.compactUpTo, SI]
    | succ m ih =>
      intro hm
      obtain ⟨h1, h2⟩ := ih (by omega)
      have ht : zs.take (m + 1) = zs.take m ++ [zs.getD m 0] := by
        rw [List.take_succ_eq_append_getElem (by omega), List.getD_eq_getElem?_getD, List.getElem?_eq_getElem (by omega)]; rfl
      rw [Lib.compactUpTo_succ, ht, hget m (by omega)]
      have hlast : ∀ y ∈ zs.take m, y ≤ zs.getD (m - 1) 0 := by
        intro y hy
        obtain ⟨i, hi, rfl⟩ := List.mem_iff_getElem.1 hy
        have hi' : i < m := by simp at hi; omega
        rw [List.getElem_take]
        have e : zs[i] = zs.getD i 0 := by rw [List.getD_eq_getElem?_getD, List.getElem?_eq_getElem (by omega)]; rfl
        rw [e]
        by_cases hi2 : i = m - 1
        · rw [hi2]; exact Int.le_refl _
        · exact hle i (m - 1) (by omega) (by omega)
      by_cases hk : Lib.keeps zs.toArray m = true
      · rw [if_pos hk]
        refine ⟨?_, fun y => by rw [List.mem_append, List.mem_append, h2]⟩
        unfold SI at h1 ⊢
        rw [List.pairwise_append]
        refine ⟨h1, by simp, ?_⟩
        intro x hx y hy
        have hy : y = zs.getD m 0 := by simpa using hy
        subst hy
        have hx1 := hlast x ((h2 x).1 hx)
        have hm0 : m ≠ 0 := by
          rintro rfl
          have := (h2 x).1 hx
          simp at this
        have hk' : zs.getD m 0 ≠ zs.getD (m - 1) 0 := by
          have := hk
          simp only [Lib.keeps, decide_eq_true_eq, hget m (by omega), hget (m - 1) (by omega)] at this
          rcases this with e | e
          · exact absurd e hm0
          · exact e
        have := hle (m - 1) m (by omega) (by omega)
        omega
      · have hk2 : Lib.keeps zs.toArray m = false := by simpa using hk
        rw [if_neg (by rw [hk2]; simp), List.append_nil]
        refine ⟨h1, fun y => ?_⟩
        rw [h2, List.mem_append, List.mem_singleton]
        simp only [Lib.keeps, decide_eq_false_iff_not, hget m (by omega), hget (m - 1) (by omega)] at hk2
        have hm0 : m ≠ 0 := fun e => hk2 (.inl e)
        have he : zs.getD m 0 = zs.getD (m - 1) 0 := Classical.byContradiction fun e => hk2 (.inr e)
        constructor
        · exact .inl
        · rintro (h | rfl)
          · exact h
          · rw [he]
            have : (zs.take m).getD (m - 1) 0 = zs.getD (m - 1) 0 := by
              rw [List.getD_eq_getElem?_getD, List.getElem?_take, if_pos (by omega), ← List.getD_eq_getElem?_getD]
            rw [← this, List.getD_eq_getElem?_getD, List.getElem?_eq_getElem (by simp; omega)]
            exact List.getElem_mem _
  have := key zs.length (Nat.le_refl _)
  rw [List.take_length] at this
  exact this
theorem compact_nrm (l : List Int) : Lib.compact (l.mergeSort fun x y => decide (x ≤ y)) = nrm l := by
  have hs : (l.mergeSort fun x y => decide (x ≤ y)).Pairwise (· ≤ ·) := by
    have := List.pairwise_mergeSort (le := fun x y : Int => decide (x ≤ y)) (fun a b c h1 h2 => by simp at *; omega) (fun a b => by simp; omega) l
    exact this.imp fun h => by simpa using h
  obtain ⟨h1, h2⟩ := compact_sorted hs
  refine SI_ext h1 (nrm_SI l) fun x => ?_
  rw [h2, nrm_mem, List.mem_mergeSort]
theorem compact_len (zs : List Int) : (Lib.compact zs).length ≤ zs.length := by
  unfold Lib.compact Lib.compactUpTo
  rw [List.length_map]
  exact Nat.le_trans (List.length_filter_le _ _) (by simp)
end Go.Ab
namespace Go.Proofs
open Go.Shelf
def Try.lsort_ren : Go.Shelf.Ren := ⟨fun | 53 => 67 | 64 => 73 | 63 => 72 | 78 => 83 | 79 => 84 | 70 => 74 | 71 => 75 | 72 => 76 | 73 => 77 | 74 => 78 | 75 => 79 | 59 => 80 | 76 => 81 | 77 => 82 | 88 => 85 | 89 => 86 | 90 => 87 | 91 => 88 | 92 => 89 | 68 => 71 | 96 => 90 | n => n, fun | 22 => 29 | 23 => 2 | 3 => 3 | 51 => 84 | 0 => 0 | 67 => 94 | 69 => 96 | 4 => 4 | 61 => 87 | 60 => 86 | 44 => 91 | 5 => 5 | 9 => 9 | 75 => 97 | 79 => 101 | 83 => 103 | 84 => 104 | n => n, fun | n => n⟩
theorem Try.lsort : Go.Proofs.SlLaysN.n53 Try.prog Try.lsort_ren := {
  mixed := by kernel_rfl
  f53 := ⟨Try.f67.name, by decide, Try.func67.trans (congrArg some (by kernel_rfl))⟩
  f59 := ⟨Try.f80.name, by decide, Try.func80.trans (congrArg some (by kernel_rfl))⟩
  f63 := ⟨Try.f72.name, by decide, Try.func72.trans (congrArg some (by kernel_rfl))⟩
  f64 := Try.func73.trans (congrArg some (by kernel_rfl))
  f68 := ⟨Try.f71.name, by decide, Try.func71.trans (congrArg some (by kernel_rfl))⟩
  f70 := ⟨Try.f74.name, by decide, Try.func74.trans (congrArg some (by kernel_rfl))⟩
  f71 := ⟨Try.f75.name, by decide, Try.func75.trans (congrArg some (by kernel_rfl))⟩
  f72 := ⟨Try.f76.name, by decide, Try.func76.trans (congrArg some (by kernel_rfl))⟩
  f73 := ⟨Try.f77.name, by decide, Try.func77.trans (congrArg some (by kernel_rfl))⟩
  f74 := ⟨Try.f78.name, by decide, Try.func78.trans (congrArg some (by kernel_rfl))⟩
  f75 := ⟨Try.f79.name, by decide, Try.func79.trans (congrArg some (by kernel_rfl))⟩
  f76 := ⟨Try.f81.name, by decide, Try.func81.trans (congrArg some (by kernel_rfl))⟩
  f77 := ⟨Try.f82.name, by decide, Try.func82.trans (congrArg some (by kernel_rfl))⟩
  f78 := Try.func83.trans (congrArg some (by kernel_rfl))
  f79 := Try.func84.trans (congrArg some (by kernel_rfl))
  f88 := ⟨Try.f85.name, by decide, Try.func85.trans (congrArg some (by kernel_rfl))⟩
  f89 := Try.func86.trans (congrArg some (by kernel_rfl))
  f90 := Try.func87.trans (congrArg some (by kernel_rfl))
  f91 := ⟨Try.f88.name, by decide, Try.func88.trans (congrArg some (by kernel_rfl))⟩
  f92 := ⟨Try.f89.name, by decide, Try.func89.trans (congrArg some (by kernel_rfl))⟩
  f96 := ⟨Try.f90.name, by decide, Try.func90.trans (congrArg some (by kernel_rfl))⟩
  t0 := Try.underlying0
  a0 := Try.isAgg0
  z0 := Try.sizeOf0
  v0 := Try.zeroValue0
  t3 := Try.underlying3
  a3 := Try.isAgg3
  z3 := Try.sizeOf3
  v3 := Try.zeroValue3
  t4 := Try.underlying4
  a4 := Try.isAgg4
  z4 := Try.sizeOf4
  v4 := Try.zeroValue4
  t5 := Try.underlying5
  a5 := Try.isAgg5
  z5 := Try.sizeOf5
  v5 := Try.zeroValue5
  t9 := Try.underlying9
  a9 := Try.isAgg9
  z9 := Try.sizeOf9
  v9 := Try.zeroValue9
  t22 := Try.underlying29
  a22 := Try.isAgg29
  z22 := Try.sizeOf29
  v22 := Try.zeroValue29
  t23 := Try.underlying2
  a23 := Try.isAgg2
  z23 := Try.sizeOf2
  v23 := Try.zeroValue2
  t44 := Try.underlying91
  a44 := Try.isAgg91
  z44 := Try.sizeOf91
  v44 := Try.zeroValue91
  t51 := Try.underlying84
  a51 := Try.isAgg84
  z51 := Try.sizeOf84
  v51 := Try.zeroValue84
  t60 := Try.underlying86
  a60 := Try.isAgg86
  z60 := Try.sizeOf86
  v60 := Try.zeroValue86
  t61 := Try.underlying87
  a61 := Try.isAgg87
  z61 := Try.sizeOf87
  v61 := Try.zeroValue87
  t67 := Try.underlying94
  a67 := Try.isAgg94
  z67 := Try.sizeOf94
  v67 := Try.zeroValue94
  t69 := Try.underlying96
  a69 := Try.isAgg96
  z69 := Try.sizeOf96
  v69 := Try.zeroValue96
  t75 := Try.underlying97
  a75 := Try.isAgg97
  z75 := Try.sizeOf97
  v75 := Try.zeroValue97
  t79 := Try.underlying101
  a79 := Try.isAgg101
  z79 := Try.sizeOf101
  v79 := Try.zeroValue101
  t83 := Try.underlying103
  a83 := Try.isAgg103
  z83 := Try.sizeOf103
  v83 := Try.zeroValue103
  t84 := Try.underlying104
  a84 := Try.isAgg104
  z84 := Try.sizeOf104
  v84 := Try.zeroValue104 }
def Try.lcompact_ren : Go.Shelf.Ren := ⟨fun | 43 => 68 | n => n, fun | 22 => 29 | 23 => 2 | 3 => 3 | 4 => 4 | 0 => 0 | n => n, fun | n => n⟩
theorem Try.lcompact : Go.Proofs.SlLaysN.n43 Try.prog Try.lcompact_ren := {
  mixed := by kernel_rfl
  f43 := ⟨Try.f68.name, by decide, Try.func68.trans (congrArg some (by kernel_rfl))⟩
  t0 := Try.underlying0
  a0 := Try.isAgg0
  z0 := Try.sizeOf0
  v0 := Try.zeroValue0
  t3 := Try.underlying3
  a3 := Try.isAgg3
  z3 := Try.sizeOf3
  v3 := Try.zeroValue3
  t4 := Try.underlying4
  a4 := Try.isAgg4
  z4 := Try.sizeOf4
  v4 := Try.zeroValue4
  t22 := Try.underlying29
  a22 := Try.isAgg29
  z22 := Try.sizeOf29
  v22 := Try.zeroValue29
  t23 := Try.underlying2
  a23 := Try.isAgg2
  z23 := Try.sizeOf2
  v23 := Try.zeroValue2
  i23 := by kernel_rfl }
end Go.Proofs
namespace Go.Ab
open Go.Proofs
theorem k_Sort (zs : List Int) (nn : Bool) (hz : zs.length < 4611686018427387904) : Con Try.prog nz3t [.row 0 1 nn (ints zs)] [.own 5000 0] true
    fun outs rows res => outs = [.row 0 1 nn (ints (zs.mergeSort fun x y => decide (x ≤ y)))] ∧ rows = [] ∧ res = .tup [] := by
  refine con_inrow x_slices_Sort_LI zs _ (by simp) (fun g off cap w hH hb _ _ => ?_) (fun p cap w => ?_) nn
  · refine (AnyG.slices_Sort_int Try.lsort g off cap zs w hH hb hz).mono ?_
    rintro e w' ⟨he, n, os, hw⟩
    exact ⟨he, n, os, hw⟩
  · exact AnyG.slices_Sort_int_none Try.lsort p cap w
theorem k_Compact (zs : List Int) (nn : Bool) : Con Try.prog nz3u [.row 0 1 nn (ints zs)] [.own 5000 0] true
    fun outs rows res => ∃ v, outs = [.row v 1 nn (ints (Lib.compact zs))] ∧ rows = [] ∧ res = .own 5000 v := by
  have hl := compact_len zs
  have h := con_inrowS x_slices_Compact_LI zs (Lib.compact zs ++ List.replicate (zs.length - (Lib.compact zs).length) 0) (Lib.compact zs).length (by simp; omega) hl
    (fun g off cap w hH hb hm hc => by
      refine (AnyG.slices_Compact_int Try.lcompact g off cap zs w hH (by have := maxLen_le; omega) hc).mono ?_
      rintro e w' ⟨he, q, hw⟩
      exact ⟨he, q, #[], by rw [Sort.grow_empty]; exact hw⟩)
    (fun p cap w => AnyG.slices_Compact_int_empty Try.lcompact p cap w) nn
  rw [List.take_left] at h
  exact h
theorem call_row1 {P : Program} {σ : St} {g : FuncId} {As : List AVal} {d : Option Nat} {s : Nat → Nat} {K : St → Prop} {r v : Nat} {cs cs' : List AVal} {nn : Bool} {R : List AObj → List AObj → AVal → Prop}
    (h : Con P g [.row 0 1 nn cs'] [.own 5000 0] true R) (hr : σ.hp r = .row v 1 nn cs) (hco : CoeL σ.hp [r] false cs' cs) (hA : As = [.own r v])
    (hk : ∀ outs rows res, R outs rows res → rows = [] ∧ ∃ o, outs = [o] ∧ K (St.put ⟨σ.tm, upd σ.hp r (o.ren (rid [r] (d.getD 0) 0) (sv σ.hp [r] s))⟩ d (res.ren (rid [r] (d.getD 0) 0) (sv σ.hp [r] s)))) :
    wpCall P false σ g As d s K := by
  subst hA
  refine .inl ⟨[r], [.row 0 1 nn cs'], [.own 5000 0], true, R, h, ⟨by simp, rfl, by simp, by simp [hr], ?_⟩, ?_, (fun e => by cases e), ?_⟩
  · intro j B r' hB hr'
    cases j with
    | succ j => simp at hB
    | zero =>
      simp at hB hr'; subst hB; subst hr'
      simp only [ObjCoe, hr]
      exact ⟨trivial, v, cs, rfl, hco⟩
  · rw [yzi]
    simp only [Coe, coeL_nil, and_true]
    exact ⟨0, r, v, rfl, rfl, rfl, rfl, by rw [hr]; rfl⟩
  · intro outs rows res hR
    obtain ⟨rfl, o, rfl, hK⟩ := hk outs rows res hR
    refine ⟨rfl, by simp, by simp, ?_⟩
    rw [callHp_m]
    exact hK
theorem coe_argN_self {hp : Nat → AObj} {m : List Nat} {len : Bool} {xs : List Int} : Coe hp m len (.ro (argN xs) 1 (ints xs)) (.ro (argN xs) 1 (ints xs)) = True := by
  by_cases h : xs.length = 0
  · have e : argN xs = some none := by unfold argN; rw [if_pos h]
    have := coe_argN (hp := hp) (m := m) (len := len) (xs := xs)
    rw [e] at this ⊢; exact this
  · have e : argN xs = none := by unfold argN; rw [if_neg h]
    rw [e, coe_ro]
    exact eq_true ⟨by omega, coeL_self fun A hA => by simp only [List.mem_map] at hA; obtain ⟨x, _, rfl⟩ := hA; exact ⟨_, rfl⟩⟩
theorem coe_argN_own {hp : Nat → AObj} {r v : Nat} {xs : List Int} (h : hp r = .row v 1 true (ints xs)) : Coe hp [] true (.ro (argN xs) 1 (ints xs)) (.own r v) := by
  simp only [Coe]
  refine ⟨?_, by omega, .inr (.inr ⟨trivial, r, v, true, ints xs, rfl, by simp, h, coeL_ints⟩)⟩
  by_cases e : xs.length = 0
  · have h0 : xs = [] := List.eq_nil_of_length_eq_zero e
    subst h0
    exact .inr (.inr ⟨rfl, rfl, .inr ⟨r, v, 1, _, rfl, h⟩⟩)
  · left; unfold argN; rw [if_neg e]
theorem sv_0 {hp : Nat → AObj} {r v : Nat} {s : Nat → Nat} (h : (hp r).ver = some v) : sv hp [r] s 0 = v := by
  unfold sv; simp [h]
theorem ren_own_h {r d n u : Nat} {s : Nat → Nat} : AVal.ren (rid [r] d n) s (.own 5000 u) = .own r (s u) := by
  have h1 : rid [r] d n 5000 = some r := rid_m (j := 0) (by omega) rfl
  simp only [AVal.ren, h1]
theorem k_sorted (xs : List Int) (h : xs.length * 8 ≤ 140737488355328) : RowI Try.prog nz3l [.ro (argN xs) 1 (ints xs)] (fun ys => ys = nrm xs) := by
  refine rowI_of mixed czir rfl ?_
  simp only [Azg9, Bzg8, go_sem, yz0, Int.reduceLT, reduceLE, reduceToNat, reduceNeg, Nat.reduceLT, reduceLeDiff, reduceMul, reduceSub, reduceIte, reduceEqDiff, reduceAdd, reduceCtorEq]
  intro vs
  refine call_rowI (k_Clone xs h) (by simp only [coe_argN_self, rowIs, boxIs, coe_argN, coe_argNs, coe_ro_o, coeL_nil, yzi, coe_any, coe_val, coe_ro, yzm, yzl, coe_st, yzk, coe_rp, yzn, coe_clo, coe_own0, coe_ptr0, yzh, coeL_rws, coeL_rwn, L_hit, L_miss, L_nil, reduceEqDiff, ne_eq, reduceCtorEq, not_false_eq_true, true_and, and_true, and_self, exists_eq_left, exists_eq_right, List.mem_cons, List.not_mem_nil, or_false, AObj.row.injEq, AObj.box.injEq, exists_eq_left', exists_and_left, exists_eq, Nat.zero_lt_one, Nat.lt_add_one, List.map_cons, List.map_nil, AObj.ver, Nat.reduceLT, not_true_eq_false]) rfl ⟨_, rfl⟩ ?_
  rintro ys v rfl
  simp only [Bzg7, go_sem, yz0, Int.reduceLT, reduceLE, reduceToNat, reduceNeg, Nat.reduceLT, reduceLeDiff, reduceMul, reduceSub, reduceIte, reduceEqDiff, reduceAdd, reduceCtorEq]
  intro vs2
  refine call_row1 (k_Sort ys true (by omega)) (r := 5) (v := v) qWS coeL_ints qWS ?_
  rintro outs rows res ⟨rfl, rfl, rfl⟩
  refine ⟨rfl, _, rfl, ?_⟩
  have e0 := sv_0 (hp := L AObj.gone [(5, AObj.row v 1 true (ints ys))]) (r := 5) (v := v) (s := vs2 1) rfl
  simp only [e0, Nat.not_lt_zero, range1, ren_val, ren_any, ren_ro, rnNm_n, rnNm_sn, rnNm_o, rnNm_s, ren_st, ren_tup, renL_nil, yzu, yz9, renL_rws, renL_rwn, oren_box, oren_row, oren_map, yzd, yza, yze, yzg, yzq, yzs, yz5, yz7, yzf, yzb, yzt, yzr, List.range_zero, yz8, yz6, yzc, gone_nil, yzp, gone_two, AVal.fresh, freshL, yz3, yzo, AObj.fresh, id, Option.isSome_some, or_true, true_or, go_sem, yz0, Int.reduceLT, reduceLE, reduceToNat, reduceNeg, Nat.reduceLT, reduceLeDiff, reduceMul, reduceSub, reduceIte, reduceEqDiff, reduceAdd, reduceCtorEq]
  simp only [Bzg6, go_sem, yz0, Int.reduceLT, reduceLE, reduceToNat, reduceNeg, Nat.reduceLT, reduceLeDiff, reduceMul, reduceSub, reduceIte, reduceEqDiff, reduceAdd, reduceCtorEq]
  intro vs3
  refine call_row1 (k_Compact _ true) (r := 5) (v := v) (by simp only [go_sem, yz0, Int.reduceLT, reduceLE, reduceToNat, reduceNeg, Nat.reduceLT, reduceLeDiff, reduceMul, reduceSub, reduceIte, reduceEqDiff, reduceAdd, reduceCtorEq]; rfl) coeL_ints qWS ?_
  rintro outs rows res ⟨u, rfl, rfl, rfl⟩
  refine ⟨rfl, _, rfl, ?_⟩
  simp only [compact_nrm, ren_own_h, Nat.not_lt_zero, range1, ren_val, ren_any, ren_ro, rnNm_n, rnNm_sn, rnNm_o, rnNm_s, ren_st, ren_tup, renL_nil, yzu, yz9, renL_rws, renL_rwn, oren_box, oren_row, oren_map, yzd, yza, yze, yzg, yzq, yzs, yz5, yz7, yzf, yzb, yzt, yzr, List.range_zero, yz8, yz6, yzc, gone_nil, yzp, gone_two, AVal.fresh, freshL, yz3, yzo, AObj.fresh, id, Option.isSome_some, or_true, true_or, go_sem, yz0, Int.reduceLT, reduceLE, reduceToNat, reduceNeg, Nat.reduceLT, reduceLeDiff, reduceMul, reduceSub, reduceIte, reduceEqDiff, reduceAdd, reduceCtorEq]
  exact ⟨5, _, nrm ys, by omega, rfl, by simp only [go_sem, yz0, Int.reduceLT, reduceLE, reduceToNat, reduceNeg, Nat.reduceLT, reduceLeDiff, reduceMul, reduceSub, reduceIte, reduceEqDiff, reduceAdd, reduceCtorEq], rfl⟩
theorem k_image (n : Int) (next : List (List Int)) (set w : List Int) (A : Aut n next) (hs : ∀ s ∈ set, 0 ≤ s ∧ s < n) (hw : IsW next.length w) (hl : set.length ≤ 1000000) :
    RowI Try.prog nzh [autA n next, .ro none 1 (ints set), .ro none 1 (ints w)] (fun ys => ys = nrm (set.map fun s => atA next s w)) := by
  refine rowI_of mixed czi2 rfl ?_
  simp only [Azd1, Bzd0, go_sem, yz0, Int.reduceLT, reduceLE, reduceToNat, reduceNeg, Nat.reduceLT, reduceLeDiff, reduceMul, reduceSub, reduceIte, reduceEqDiff, reduceAdd, reduceCtorEq]
  intro vs vs2
  simp only [Bzcz, Bzcx, go_sem, yz0, Int.reduceLT, reduceLE, reduceToNat, reduceNeg, Nat.reduceLT, reduceLeDiff, reduceMul, reduceSub, reduceIte, reduceEqDiff, reduceAdd, reduceCtorEq]
  intro hM
  refine wpD_lo (fun (_, i) => set.length - i) (fun (_, i) => i ≤ set.length)
    (fun ((v, i) : Nat × Nat) => ⟨L .any [(2, .ro none 1 (ints w)), (3, .ptr 3 (vs 0 0) 0), (7, .own 10 v), (11, .ro none 1 (ints set)), (12, iv set.length), (13, iv i)], L .gone [(3, .box (vs 0 0) [iv n, .ro none 1 (rwn next)]), (10, .row v 1 true (ints ((set.take i).map fun s => atA next s w)))]⟩) (_, 0) (by simp) (by simp only [Bz26, go_sem, yz0, Int.reduceLT, reduceLE, reduceToNat, reduceNeg, Nat.reduceLT, reduceLeDiff, reduceMul, reduceSub, reduceIte, reduceEqDiff, reduceAdd, reduceCtorEq]; try rfl) ?_
  rintro ⟨v, i⟩ hi
  by_cases hlt : (i : Int) < set.length
  · have hlt1 : i < set.length := by omega
    simp only [Bz26, Bz6w, Bz6v, yz4 hlt1, decide_eq_true hlt, go_sem, yz0, Int.reduceLT, reduceLE, reduceToNat, reduceNeg, Nat.reduceLT, reduceLeDiff, reduceMul, reduceSub, reduceIte, reduceEqDiff, reduceAdd, reduceCtorEq]
    refine ⟨⟨by omega, hlt1⟩, hlt1, ?_⟩
    simp only [Bzcv, go_sem, yz0, Int.reduceLT, reduceLE, reduceToNat, reduceNeg, Nat.reduceLT, reduceLeDiff, reduceMul, reduceSub, reduceIte, reduceEqDiff, reduceAdd, reduceCtorEq]
    intro vs3
    refine yz2 (k_at n next (set.getD i 0) w A (hs _ (getD_mem hlt1 _)) hw) qCS trivial ?_
    have hr : ((set.take i).map fun s => atA next s w) ++ [atA next (set.getD i 0) w] = (set.take (i + 1)).map fun s => atA next s w := by
      rw [List.take_succ_eq_append_getElem hlt1, List.map_append, List.getD_eq_getElem?_getD, List.getElem?_eq_getElem hlt1]; rfl
    simp only [Bzcw, nat1 i _ hlt1 hM, go_sem, yz0, Int.reduceLT, reduceLE, reduceToNat, reduceNeg, Nat.reduceLT, reduceLeDiff, reduceMul, reduceSub, reduceIte, reduceEqDiff, reduceAdd, reduceCtorEq]
    rw [hr]
    refine ⟨⟨_, rfl, rfl⟩, by simp; omega, (_, i + 1), by dsimp only; omega, by dsimp only; omega, rfl⟩
  · have : i = set.length := by have : i ≤ set.length := hi; omega
    subst this
    simp only [Bz26, Bz6w, Bz6v, Bzcy, decide_eq_false hlt, List.take_length, go_sem, yz0, Int.reduceLT, reduceLE, reduceToNat, reduceNeg, Nat.reduceLT, reduceLeDiff, reduceMul, reduceSub, reduceIte, reduceEqDiff, reduceAdd, reduceCtorEq]
    intro vs3
    refine call_rowI (k_sorted (set.map fun s => atA next s w) (by simp; omega)) ?_ rfl ⟨_, rfl⟩ ?_
    · simp only [yzi, coeL_nil, and_true]
      exact coe_argN_own rfl
    · rintro ys v' rfl
      simp only [go_sem, yz0, Int.reduceLT, reduceLE, reduceToNat, reduceNeg, Nat.reduceLT, reduceLeDiff, reduceMul, reduceSub, reduceIte, reduceEqDiff, reduceAdd, reduceCtorEq]
      exact ⟨26, v', _, by omega, rfl, by simp only [go_sem, yz0, Int.reduceLT, reduceLE, reduceToNat, reduceNeg, Nat.reduceLT, reduceLeDiff, reduceMul, reduceSub, reduceIte, reduceEqDiff, reduceAdd, reduceCtorEq], rfl⟩
theorem actA_nil' (n : Int) (next : List (List Int)) : actA n next [] = allS n := rfl
theorem k_all (n : Int) (next : List (List Int)) (A : Aut n next) : RowI Try.prog nz39 [autA n next] (fun xs => xs = allS n) := by
  refine rowI_of mixed czhy rfl ?_
  simp only [Azcd, Bzcc, go_sem, yz0, Int.reduceLT, reduceLE, reduceToNat, reduceNeg, Nat.reduceLT, reduceLeDiff, reduceMul, reduceSub, reduceIte, reduceEqDiff, reduceAdd, reduceCtorEq]
  intro vs vs2
  refine call_rowI (k_action n next [] A (by intro x hx; simp at hx)) (by simp only [List.map_nil, rowIs, boxIs, coe_argN, coe_argNs, coe_ro_o, coeL_nil, yzi, coe_any, coe_val, coe_ro, yzm, yzl, coe_st, yzk, coe_rp, yzn, coe_clo, coe_own0, coe_ptr0, yzh, coeL_rws, coeL_rwn, L_hit, L_miss, L_nil, reduceEqDiff, ne_eq, reduceCtorEq, not_false_eq_true, true_and, and_true, and_self, exists_eq_left, exists_eq_right, List.mem_cons, List.not_mem_nil, or_false, AObj.row.injEq, AObj.box.injEq, exists_eq_left', exists_and_left, exists_eq, Nat.zero_lt_one, Nat.lt_add_one, List.map_cons, List.map_nil, AObj.ver, Nat.reduceLT, not_true_eq_false]) rfl ⟨_, rfl⟩ ?_
  rintro xs v rfl
  simp only [go_sem, yz0, Int.reduceLT, reduceLE, reduceToNat, reduceNeg, Nat.reduceLT, reduceLeDiff, reduceMul, reduceSub, reduceIte, reduceEqDiff, reduceAdd, reduceCtorEq]
  exact ⟨4, v, allS n, by omega, rfl, by simp only [actA_nil', go_sem, yz0, Int.reduceLT, reduceLE, reduceToNat, reduceNeg, Nat.reduceLT, reduceLeDiff, reduceMul, reduceSub, reduceIte, reduceEqDiff, reduceAdd, reduceCtorEq], rfl⟩
theorem allS_in {n : Int} : ∀ s ∈ allS n, 0 ≤ s ∧ s < n := by
  intro s hs
  simp only [allS, List.mem_map, List.mem_range] at hs
  obtain ⟨i, hi, rfl⟩ := hs
  omega
theorem allS_len {n : Int} : (allS n).length = n.toNat := by simp [allS]
theorem wordB_iff {l : Nat} {w : List Int} : wordB l w = true ↔ (w.length : Int) ≤ 400 ∧ IsW l w := by
  simp only [wordB, Bool.and_eq_true, decide_eq_true_eq, allIn_iff]
  constructor
  · rintro ⟨h1, h2⟩; exact ⟨h1, fun x hx => by have := h2 x hx; omega⟩
  · rintro ⟨h1, h2⟩; exact ⟨h1, fun x hx => by have := h2 x hx; omega⟩
attribute [go_sem] dnL_rwo mvL_rwo rwo_len
theorem k_l01Word (n : Int) (next : List (List Int)) (w : List Int) (hl : next.length ≤ 1000000) : Fun Try.prog nz3m [autP n next, .ro none 1 (ints w)] (bv (wordB next.length w)) := by
  refine fun_of mixed czis rfl ⟨rfl, trivial⟩ ?_
  simp only [Azgf, Bzge, Bzgc, go_sem, yz0, Int.reduceLT, reduceLE, reduceToNat, reduceNeg, Nat.reduceLT, reduceLeDiff, reduceMul, reduceSub, reduceIte, reduceEqDiff, reduceAdd, reduceCtorEq]
  refine wpD_lo (fun i => w.length - i) (fun i => i ≤ w.length ∧ allIn (w.take i) 0 ((next.length : Int) - 1) = true)
    (fun i : Nat => ⟨L .any [(0, autP n next), (1, .ro none 1 (ints w)), (5, iv i)], L .gone []⟩) 0 (by simp [allIn]) (by simp only [Bz2m, go_sem, yz0, Int.reduceLT, reduceLE, reduceToNat, reduceNeg, Nat.reduceLT, reduceLeDiff, reduceMul, reduceSub, reduceIte, reduceEqDiff, reduceAdd, reduceCtorEq]; try rfl) ?_
  rintro i ⟨hi, he⟩
  have w1 : IntKind.i64.wrap ((next.length : Int) - 1) = (next.length : Int) - 1 := w64 (by omega)
  by_cases hlt : (i : Int) < w.length
  · have hlt1 : i < w.length := by omega
    simp only [Bz2m, Bz7v, Bz7w, yz4 hlt1, decide_eq_true hlt, go_sem, yz0, Int.reduceLT, reduceLE, reduceToNat, reduceNeg, Nat.reduceLT, reduceLeDiff, reduceMul, reduceSub, reduceIte, reduceEqDiff, reduceAdd, reduceCtorEq]
    intro hM vs
    refine ⟨⟨by omega, hlt1⟩, hlt1, ?_⟩
    rw [w1]
    refine yz2 (k_l00In (w.getD i 0) 0 ((next.length : Int) - 1)) qCS trivial ?_
    have ht : w.take (i + 1) = w.take i ++ [w.getD i 0] := by
      rw [List.take_succ_eq_append_getElem hlt1, List.getD_eq_getElem?_getD, List.getElem?_eq_getElem hlt1]; rfl
    simp only [Bzga, Bzgb, nat1 i _ hlt1 hM, go_sem, yz0, Int.reduceLT, reduceLE, reduceToNat, reduceNeg, Nat.reduceLT, reduceLeDiff, reduceMul, reduceSub, reduceIte, reduceEqDiff, reduceAdd, reduceCtorEq]
    refine ⟨fun h => ?_, fun h => ⟨i + 1, by omega, ⟨by omega, ?_⟩, rfl⟩⟩
    · have : wordB next.length w = false := by
        cases hb : wordB next.length w with
        | false => rfl
        | true =>
          have := (wordB_iff.1 hb).2 (w.getD i 0) (getD_mem hlt1 _)
          simp only [w1, Bool.not_eq_true', Bool.and_eq_false_iff, decide_eq_false_iff_not] at h; omega
      rw [this]
    · rw [ht, allIn_iff]
      intro x hx
      rcases List.mem_append.1 hx with hx | hx
      · exact allIn_iff.1 he x hx
      · have hx : x = w.getD i 0 := by simpa using hx
        subst hx
        simp only [w1, Bool.not_eq_false', Bool.and_eq_true, decide_eq_true_eq] at h; omega
  · have : i = w.length := by omega
    subst this
    rw [List.take_length] at he
    simp only [Bz2m, Bz7v, Bz7w, Bzgd, decide_eq_false hlt, go_sem, yz0, Int.reduceLT, reduceLE, reduceToNat, reduceNeg, Nat.reduceLT, reduceLeDiff, reduceMul, reduceSub, reduceIte, reduceEqDiff, reduceAdd, reduceCtorEq]
    intro _ _
    simp only [wordB, he, Bool.and_true]
theorem k_l01To (n : Int) (next : List (List Int)) (s : Int) (w : List Int) (A : Aut n next) (hs : 0 ≤ s ∧ s < n) (hw : IsW next.length w) : Fun Try.prog nzk [autP n next, iv s, .ro none 1 (ints w)] (iv (atA next s w)) := by
  refine fun_of mixed czic rfl ⟨rfl, trivial⟩ ?_
  simp only [Azet, Bzes, Bzeq, go_sem, yz0, Int.reduceLT, reduceLE, reduceToNat, reduceNeg, Nat.reduceLT, reduceLeDiff, reduceMul, reduceSub, reduceIte, reduceEqDiff, reduceAdd, reduceCtorEq]
  refine wpD_lo (fun (i, _) => w.length - i) (fun (i, t) => i ≤ w.length ∧ (0 ≤ t ∧ t < n) ∧ atA next t (w.drop i) = atA next s w)
    (fun ((i, t) : Nat × Int) => ⟨L .any [(0, autP n next), (1, iv t), (2, .ro none 1 (ints w)), (7, iv i)], L .gone []⟩) (0, s) (by dsimp only; exact ⟨by omega, hs, rfl⟩) (by simp only [Bz2h, go_sem, yz0, Int.reduceLT, reduceLE, reduceToNat, reduceNeg, Nat.reduceLT, reduceLeDiff, reduceMul, reduceSub, reduceIte, reduceEqDiff, reduceAdd, reduceCtorEq]; try rfl) ?_
  rintro ⟨i, t⟩ ⟨hi, hs', he⟩
  by_cases hlt : (i : Int) < w.length
  · have hlt' : i < w.length := by omega
    have hx := hw _ (getD_mem hlt' 0)
    obtain ⟨a1, a2, a3⟩ := A.step hs' hx
    rw [drop_getD hlt' 0] at he
    simp only [Bz2h, Bz7h, Bz7i, yz4 hlt', rwn_getD a1, yz4 a2, decide_eq_true hlt, go_sem, yz0, Int.reduceLT, reduceLE, reduceToNat, reduceNeg, Nat.reduceLT, reduceLeDiff, reduceMul, reduceSub, reduceIte, reduceEqDiff, reduceAdd, reduceCtorEq]
    intro hM
    refine ⟨⟨by omega, hlt'⟩, hlt', ⟨hx.1, a1⟩, a1, ⟨hs'.1, a2⟩, a2, ?_⟩
    simp only [Bzep, nat1 i _ hlt' hM, go_sem, yz0, Int.reduceLT, reduceLE, reduceToNat, reduceNeg, Nat.reduceLT, reduceLeDiff, reduceMul, reduceSub, reduceIte, reduceEqDiff, reduceAdd, reduceCtorEq]
    refine ⟨(i + 1, _), by dsimp only; omega, ⟨by dsimp only; omega, a3, he⟩, rfl⟩
  · have : i = w.length := by have : i ≤ w.length := hi; omega
    subst this
    rw [List.drop_length] at he
    simp only [Bz2h, Bz7h, Bz7i, Bzer, decide_eq_false hlt, go_sem, yz0, Int.reduceLT, reduceLE, reduceToNat, reduceNeg, Nat.reduceLT, reduceLeDiff, reduceMul, reduceSub, reduceIte, reduceEqDiff, reduceAdd, reduceCtorEq]
    intro _
    rw [← he]; rfl
theorem k_l00Put (xs : List Int) (x : Int) (h : xs.length ≤ 1000000) : RowI Try.prog nz3f [.ro none 1 (ints xs), iv x] (fun ys => ys = put xs x) := by
  refine rowI_of mixed czib rfl ?_
  simp only [Azeo, Bzen, go_sem, yz0, Int.reduceLT, reduceLE, reduceToNat, reduceNeg, Nat.reduceLT, reduceLeDiff, reduceMul, reduceSub, reduceIte, reduceEqDiff, reduceAdd, reduceCtorEq]
  intro vs
  simp only [Bzem, Bzel, Bzek, go_sem, yz0, Int.reduceLT, reduceLE, reduceToNat, reduceNeg, Nat.reduceLT, reduceLeDiff, reduceMul, reduceSub, reduceIte, reduceEqDiff, reduceAdd, reduceCtorEq]
  refine wpD_lo (fun (_, _, i, _) => xs.length - i) (fun (_, d, i, out) => i ≤ xs.length ∧ List.length out ≤ i + d.toNat ∧ out ++ (if d = true then xs.drop i else put (xs.drop i) x) = put xs x)
    (fun ((v, d, i, out) : Nat × Bool × Nat × List Int) => ⟨L .any [(0, .ro none 1 (ints xs)), (1, iv x), (5, .own 8 v), (6, bv d), (7, iv i)], L .gone [(8, .row v 1 true (ints out))]⟩) (_, false, 0, []) (by simp) (by simp only [Bzb, go_sem, yz0, Int.reduceLT, reduceLE, reduceToNat, reduceNeg, Nat.reduceLT, reduceLeDiff, reduceMul, reduceSub, reduceIte, reduceEqDiff, reduceAdd, reduceCtorEq]; try rfl) ?_
  rintro ⟨v, d, i, out⟩ ⟨hi, ho, he⟩
  by_cases hlt : (i : Int) < xs.length
  · have hlt1 : i < xs.length := by omega
    have hdr := drop_getD hlt1 (0 : Int)
    have hsn : ∀ u : List Int, u ++ [xs.getD i 0] = u ++ [xs.getD i 0] := fun _ => rfl
    cases d with
    | true =>
      simp only [if_true, hdr] at he
      simp only [Bool.toNat_true] at ho
      simp only [Bzb, Bzu, Bzx, Bz2g, Bzv, Bzw, yz4 hlt1, decide_eq_true hlt, go_sem, yz0, Int.reduceLT, reduceLE, reduceToNat, reduceNeg, Nat.reduceLT, reduceLeDiff, reduceMul, reduceSub, reduceIte, reduceEqDiff, reduceAdd, reduceCtorEq]
      intro hM vs2
      refine ⟨⟨by omega, hlt1⟩, hlt1, ⟨_, rfl, rfl⟩, by omega, ?_⟩
      simp only [nat1 i _ hlt1 hM, go_sem, yz0, Int.reduceLT, reduceLE, reduceToNat, reduceNeg, Nat.reduceLT, reduceLeDiff, reduceMul, reduceSub, reduceIte, reduceEqDiff, reduceAdd, reduceCtorEq]
      exact ⟨(_, true, i + 1, out ++ [xs.getD i 0]), by dsimp only; omega, ⟨by dsimp only; omega, by dsimp only; simp; omega, by dsimp only; rw [if_pos rfl, ← he]; simp⟩, rfl⟩
    | false =>
      simp only [Bool.false_eq_true, if_false, hdr, put] at he
      simp only [Bool.toNat_false, Nat.add_zero] at ho
      simp only [Bzb, Bzu, Bzx, yz4 hlt1, decide_eq_true hlt, go_sem, yz0, Int.reduceLT, reduceLE, reduceToNat, reduceNeg, Nat.reduceLT, reduceLeDiff, reduceMul, reduceSub, reduceIte, reduceEqDiff, reduceAdd, reduceCtorEq]
      intro hM
      refine ⟨⟨by omega, hlt1⟩, hlt1, ?_⟩
      by_cases hge : x ≤ xs.getD i 0
      · rw [if_pos hge] at he
        simp only [Bz2g, Bzej, yz4 hlt1, decide_eq_true hge, go_sem, yz0, Int.reduceLT, reduceLE, reduceToNat, reduceNeg, Nat.reduceLT, reduceLeDiff, reduceMul, reduceSub, reduceIte, reduceEqDiff, reduceAdd, reduceCtorEq]
        refine ⟨⟨by omega, hlt1⟩, hlt1, ?_⟩
        by_cases hgt : x < xs.getD i 0
        · rw [if_pos hgt] at he
          simp only [Bz7d, Bzv, Bzw, yz4 hlt1, decide_eq_true hgt, go_sem, yz0, Int.reduceLT, reduceLE, reduceToNat, reduceNeg, Nat.reduceLT, reduceLeDiff, reduceMul, reduceSub, reduceIte, reduceEqDiff, reduceAdd, reduceCtorEq]
          refine ⟨⟨_, rfl, rfl⟩, by omega, ?_⟩
          intro vs3
          refine ⟨⟨by omega, hlt1⟩, hlt1, ⟨_, rfl, rfl⟩, by simp; omega, ?_⟩
          simp only [nat1 i _ hlt1 hM, go_sem, yz0, Int.reduceLT, reduceLE, reduceToNat, reduceNeg, Nat.reduceLT, reduceLeDiff, reduceMul, reduceSub, reduceIte, reduceEqDiff, reduceAdd, reduceCtorEq]
          exact ⟨(_, true, i + 1, out ++ [x] ++ [xs.getD i 0]), by dsimp only; omega, ⟨by dsimp only; omega, by dsimp only; simp; omega, by dsimp only; rw [if_pos rfl, ← he]; simp⟩, rfl⟩
        · rw [if_neg hgt] at he
          simp only [Bz7d, Bzv, Bzw, yz4 hlt1, decide_eq_false hgt, go_sem, yz0, Int.reduceLT, reduceLE, reduceToNat, reduceNeg, Nat.reduceLT, reduceLeDiff, reduceMul, reduceSub, reduceIte, reduceEqDiff, reduceAdd, reduceCtorEq]
          intro vs2
          refine ⟨⟨by omega, hlt1⟩, hlt1, ⟨_, rfl, rfl⟩, by omega, ?_⟩
          simp only [nat1 i _ hlt1 hM, go_sem, yz0, Int.reduceLT, reduceLE, reduceToNat, reduceNeg, Nat.reduceLT, reduceLeDiff, reduceMul, reduceSub, reduceIte, reduceEqDiff, reduceAdd, reduceCtorEq]
          exact ⟨(_, true, i + 1, out ++ [xs.getD i 0]), by dsimp only; omega, ⟨by dsimp only; omega, by dsimp only; simp; omega, by dsimp only; rw [if_pos rfl, ← he]; simp⟩, rfl⟩
      · rw [if_neg hge] at he
        simp only [Bz2g, Bzv, Bzw, yz4 hlt1, decide_eq_false hge, go_sem, yz0, Int.reduceLT, reduceLE, reduceToNat, reduceNeg, Nat.reduceLT, reduceLeDiff, reduceMul, reduceSub, reduceIte, reduceEqDiff, reduceAdd, reduceCtorEq]
        intro vs2
        refine ⟨⟨by omega, hlt1⟩, hlt1, ⟨_, rfl, rfl⟩, by omega, ?_⟩
        simp only [nat1 i _ hlt1 hM, go_sem, yz0, Int.reduceLT, reduceLE, reduceToNat, reduceNeg, Nat.reduceLT, reduceLeDiff, reduceMul, reduceSub, reduceIte, reduceEqDiff, reduceAdd, reduceCtorEq]
        exact ⟨(_, false, i + 1, out ++ [xs.getD i 0]), by dsimp only; omega, ⟨by dsimp only; omega, by dsimp only; simp; omega, by dsimp only; rw [if_neg (by simp), ← he]; simp⟩, rfl⟩
  · have : i = xs.length := by have : i ≤ xs.length := hi; omega
    subst this
    rw [List.drop_length] at he
    have ho2 : out.length ≤ xs.length + 1 := by have := ho; cases d <;> simp at this <;> omega
    cases d with
    | true =>
      simp only [Bzb, Bzu, Bzx, Bz7g, Bz7e, Bz7f, decide_eq_false hlt, go_sem, yz0, Int.reduceLT, reduceLE, reduceToNat, reduceNeg, Nat.reduceLT, reduceLeDiff, reduceMul, reduceSub, reduceIte, reduceEqDiff, reduceAdd, reduceCtorEq]
      intro _
      refine ⟨8, v, out, by omega, rfl, by simp only [go_sem, yz0, Int.reduceLT, reduceLE, reduceToNat, reduceNeg, Nat.reduceLT, reduceLeDiff, reduceMul, reduceSub, reduceIte, reduceEqDiff, reduceAdd, reduceCtorEq], ?_⟩
      rw [← he]; simp
    | false =>
      simp only [Bzb, Bzu, Bzx, Bz7g, Bz7e, Bz7f, decide_eq_false hlt, go_sem, yz0, Int.reduceLT, reduceLE, reduceToNat, reduceNeg, Nat.reduceLT, reduceLeDiff, reduceMul, reduceSub, reduceIte, reduceEqDiff, reduceAdd, reduceCtorEq]
      intro _ vs2
      refine ⟨⟨_, rfl, rfl⟩, by omega, ?_⟩
      refine ⟨8, _, out ++ [x], by omega, rfl, by simp only [go_sem, yz0, Int.reduceLT, reduceLE, reduceToNat, reduceNeg, Nat.reduceLT, reduceLeDiff, reduceMul, reduceSub, reduceIte, reduceEqDiff, reduceAdd, reduceCtorEq], ?_⟩
      rw [← he]; simp [put]
theorem k_l01Image (n : Int) (next : List (List Int)) (set w : List Int) (A : Aut n next) (hs : ∀ s ∈ set, 0 ≤ s ∧ s < n) (hw : IsW next.length w) (hl : set.length ≤ 1000000) :
    RowI Try.prog nz12 [autP n next, .ro none 1 (ints set), .ro none 1 (ints w)] (fun ys => ys = nrm (set.map fun s => atA next s w)) := by
  refine rowI_of mixed czhs rfl ?_
  simp only [Azbc, Bzbb, go_sem, yz0, Int.reduceLT, reduceLE, reduceToNat, reduceNeg, Nat.reduceLT, reduceLeDiff, reduceMul, reduceSub, reduceIte, reduceEqDiff, reduceAdd, reduceCtorEq]
  intro vs
  simp only [Bzba, Bzb8, go_sem, yz0, Int.reduceLT, reduceLE, reduceToNat, reduceNeg, Nat.reduceLT, reduceLeDiff, reduceMul, reduceSub, reduceIte, reduceEqDiff, reduceAdd, reduceCtorEq]
  refine wpD_lm (fun (_, i) => set.length - i) (fun (_, i) => i ≤ set.length)
    (fun ((v, i) : Nat × Nat) => ⟨L .any [(0, autP n next), (1, .ro none 1 (ints set)), (2, .ro none 1 (ints w)), (7, .own 9 v), (8, iv i)], L .gone [(9, .row v 1 true (ints (nrm ((set.take i).map fun s => atA next s w))))]⟩) (_, 0) (by simp) (by intro u; simp only [Bz1v, go_sem, yz0, Int.reduceLT, reduceLE, reduceToNat, reduceNeg, Nat.reduceLT, reduceLeDiff, reduceMul, reduceSub, reduceIte, reduceEqDiff, reduceAdd, reduceCtorEq]; try rfl) ?_
  rintro ⟨v, i⟩ hi
  by_cases hlt : (i : Int) < set.length
  · have hlt1 : i < set.length := by omega
    have hr : nrm ((set.take (i + 1)).map fun s => atA next s w) = put (nrm ((set.take i).map fun s => atA next s w)) (atA next (set.getD i 0) w) := by
      rw [← nrm_snoc, List.take_succ_eq_append_getElem hlt1, List.map_append, List.getD_eq_getElem?_getD, List.getElem?_eq_getElem hlt1]; rfl
    simp only [Bz1v, Bz67, Bz68, yz4 hlt1, decide_eq_true hlt, go_sem, yz0, Int.reduceLT, reduceLE, reduceToNat, reduceNeg, Nat.reduceLT, reduceLeDiff, reduceMul, reduceSub, reduceIte, reduceEqDiff, reduceAdd, reduceCtorEq]
    intro hM vs2
    refine ⟨⟨by omega, hlt1⟩, hlt1, ?_⟩
    refine yz2 (k_l01To n next (set.getD i 0) w A (hs _ (getD_mem hlt1 _)) hw) qCS trivial ?_
    simp only [go_sem, yz0, Int.reduceLT, reduceLE, reduceToNat, reduceNeg, Nat.reduceLT, reduceLeDiff, reduceMul, reduceSub, reduceIte, reduceEqDiff, reduceAdd, reduceCtorEq]
    refine call_rowI (k_l00Put (nrm ((set.take i).map fun s => atA next s w)) (atA next (set.getD i 0) w) (by have := nrm_len ((set.take i).map fun s => atA next s w); rw [List.length_map, List.length_take] at this; omega)) ?_ rfl ⟨_, rfl⟩ ?_
    · simp only [rowIs, boxIs, coe_argN, coe_argNs, coe_ro_o, coeL_nil, yzi, coe_any, coe_val, coe_ro, yzm, yzl, coe_st, yzk, coe_rp, yzn, coe_clo, coe_own0, coe_ptr0, yzh, coeL_rws, coeL_rwn, L_hit, L_miss, L_nil, reduceEqDiff, ne_eq, reduceCtorEq, not_false_eq_true, true_and, and_true, and_self, exists_eq_left, exists_eq_right, List.mem_cons, List.not_mem_nil, or_false, AObj.row.injEq, AObj.box.injEq, exists_eq_left', exists_and_left, exists_eq, Nat.zero_lt_one, Nat.lt_add_one, List.map_cons, List.map_nil, AObj.ver, Nat.reduceLT, not_true_eq_false]
    rintro ys v' rfl
    simp only [Bzb7, nat1 i _ hlt1 hM, go_sem, yz0, Int.reduceLT, reduceLE, reduceToNat, reduceNeg, Nat.reduceLT, reduceLeDiff, reduceMul, reduceSub, reduceIte, reduceEqDiff, reduceAdd, reduceCtorEq]
    exact ⟨set.length - (i + 1), by omega, fun u => ⟨(u, i + 1), rfl, by dsimp only; omega, by rw [hr]⟩⟩
  · have : i = set.length := by have : i ≤ set.length := hi; omega
    subst this
    simp only [Bz1v, Bz67, Bz68, Bzb9, decide_eq_false hlt, List.take_length, go_sem, yz0, Int.reduceLT, reduceLE, reduceToNat, reduceNeg, Nat.reduceLT, reduceLeDiff, reduceMul, reduceSub, reduceIte, reduceEqDiff, reduceAdd, reduceCtorEq]
    intro _
    exact ⟨9, v, _, by omega, rfl, by simp only [go_sem, yz0, Int.reduceLT, reduceLE, reduceToNat, reduceNeg, Nat.reduceLT, reduceLeDiff, reduceMul, reduceSub, reduceIte, reduceEqDiff, reduceAdd, reduceCtorEq], rfl⟩
theorem call_aut {P : Program} {pu : Bool} {σ : St} {g : FuncId} {As args : List AVal} {d : Nat} {s : Nat → Nat} {K : St → Prop} {n : Int} {next : List (List Int)}
    (h : Fn P g args (fun rows res => ∃ v, rows = [.row v 1 true (rws next)] ∧ res = .st [iv n, .own 6000 v])) (hco : CoeL σ.hp [] true args As) (hg : σ.hp d = .gone)
    (hk : ∀ v, K (St.put ⟨σ.tm, upd σ.hp d (.row v 1 true (rws next))⟩ (some d) (.st [iv n, .own d v]))) : wpCall P pu σ g As (some d) s K := by
  refine call_fn h hco (fun _ => ⟨_, _, 0, rfl, rfl⟩) ?_
  rintro rows res ⟨v, rfl, rfl⟩
  refine ⟨by simp, ?_, ?_⟩
  · simp only [Option.getD_some, yzp]; exact hg
  · simp only [Option.getD_some, Nat.not_lt_zero, range1, ren_val, ren_any, ren_ro, rnNm_n, rnNm_sn, rnNm_o, rnNm_s, ren_st, ren_tup, renL_nil, yzu, yz9, renL_rws, renL_rwn, oren_box, oren_row, oren_map, yzd, yza, yze, yzg, yzq, yzs, yz5, yz7, yzf, yzb, yzt, yzr, List.range_zero, yz8, yz6, yzc, gone_nil, yzp, gone_two, AVal.fresh, freshL, yz3, yzo, AObj.fresh, id, Option.isSome_some, or_true, true_or, List.length_singleton]
    exact hk _
end Go.Ab
namespace Go.Ab
open Go.Proofs
instance (l : List Int) : Decidable (SI l) := inferInstanceAs (Decidable (l.Pairwise (· < ·)))
def setB (n : Int) (set : List Int) : Bool := decide (SI set) && allIn set 0 (n - 1)
theorem setB_iff {n : Int} {set : List Int} : setB n set = true ↔ SI set ∧ ∀ x ∈ set, 0 ≤ x ∧ x < n := by
  simp only [setB, Bool.and_eq_true, decide_eq_true_eq, allIn_iff]
  constructor
  · rintro ⟨h1, h2⟩; exact ⟨h1, fun x hx => by have := h2 x hx; omega⟩
  · rintro ⟨h1, h2⟩; exact ⟨h1, fun x hx => by have := h2 x hx; omega⟩
theorem SI_take_succ {set : List Int} {i : Nat} (hi : i < set.length) (h : SI (set.take i)) : SI (set.take (i + 1)) ↔ (0 < i → set.getD (i - 1) 0 < set.getD i 0) := by
  have ht : set.take (i + 1) = set.take i ++ [set.getD i 0] := by
    rw [List.take_succ_eq_append_getElem hi, List.getD_eq_getElem?_getD, List.getElem?_eq_getElem hi]; rfl
  have hg : ∀ j, j < i → (set.take i)[j]? = some (set.getD j 0) := by
    intro j hj
    rw [List.getElem?_take, if_pos hj, List.getD_eq_getElem?_getD, List.getElem?_eq_getElem (by omega)]; rfl
  rw [ht]
  unfold SI at h ⊢
  rw [List.pairwise_append]
  constructor
  · rintro ⟨_, _, h3⟩ h0
    exact h3 _ (List.mem_of_getElem? (hg (i - 1) (by omega))) _ (by simp)
  · intro h3
    refine ⟨h, by simp, fun y hy z hz => ?_⟩
    have hz : z = set.getD i 0 := by simpa using hz
    subst hz
    obtain ⟨j, hj⟩ := List.getElem?_of_mem hy
    have hj2 : j < i := by
      have := (List.getElem?_eq_some_iff.1 hj).1; rw [List.length_take] at this; omega
    rw [hg j hj2] at hj
    have hj : set.getD j 0 = y := by simpa using hj
    have h4 := h3 (by omega)
    by_cases e : j = i - 1
    · rw [← hj, e]; exact h4
    · rw [List.pairwise_iff_getElem] at h
      have h5 := h j (i - 1) (by rw [List.length_take]; omega) (by rw [List.length_take]; omega) (by omega)
      have e1 : (set.take i)[j]'(by rw [List.length_take]; omega) = set.getD j 0 := by
        have := hg j hj2; rw [List.getElem?_eq_getElem (by rw [List.length_take]; omega)] at this; simpa using this
      have e2 : (set.take i)[i - 1]'(by rw [List.length_take]; omega) = set.getD (i - 1) 0 := by
        have := hg (i - 1) (by omega); rw [List.getElem?_eq_getElem (by rw [List.length_take]; omega)] at this; simpa using this
      rw [e1, e2] at h5
      omega
theorem SI_len {n : Int} : ∀ {set : List Int}, SI set → (∀ x ∈ set, 0 ≤ x ∧ x < n) → (set.length : Int) ≤ n ∨ set = []
  | set, h, hx => by
    by_cases h0 : set = []
    · exact .inr h0
    left
    have key : ∀ i, i < set.length → (i : Int) ≤ set.getD i 0 := by
      intro i
      induction i with
      | zero =>
        intro hi
        exact (hx _ (getD_mem hi 0)).1
      | succ i ih =>
        intro hi
        have h1 := ih (by omega)
        unfold SI at h
        rw [List.pairwise_iff_getElem] at h
        have h2 := h i (i + 1) (by omega) hi (by omega)
        have e1 : set.getD i 0 = set[i] := by rw [List.getD_eq_getElem?_getD, List.getElem?_eq_getElem (by omega)]; rfl
        have e2 : set.getD (i + 1) 0 = set[i + 1] := by rw [List.getD_eq_getElem?_getD, List.getElem?_eq_getElem hi]; rfl
        rw [e1] at h1; rw [e2]; omega
    have hp : 0 < set.length := List.length_pos_iff.2 h0
    have h1 := key (set.length - 1) (by omega)
    have h2 := (hx _ (getD_mem (show set.length - 1 < set.length by omega) 0)).2
    omega
theorem SI_of_take {set : List Int} {i : Nat} (h : SI set) : SI (set.take i) := List.Pairwise.sublist (List.take_sublist i set) h
abbrev RowT (P : Program) (g : FuncId) (args : List AVal) (ok : Bool) (xs : List Int) (code : Int) : Prop := Fn P g args fun rows res =>
  if ok = true then ∃ v, rows = [.row v 1 true (ints xs)] ∧ res = .tup [.own 6000 v, iv code] else rows = [] ∧ res = .tup [nilS, iv code]
theorem call_rowT {P : Program} {pu : Bool} {σ : St} {g : FuncId} {As args : List AVal} {d : Nat} {s : Nat → Nat} {K : St → Prop} {ok : Bool} {xs : List Int} {code : Int} (h : RowT P g args ok xs code)
    (hco : CoeL σ.hp [] true args As) (hg : σ.hp d = .gone)
    (h1 : ok = true → ∀ v, K (St.put ⟨σ.tm, upd σ.hp d (.row v 1 true (ints xs))⟩ (some d) (.tup [.own d v, iv code])))
    (h2 : ok = false → K (St.put ⟨σ.tm, σ.hp⟩ (some d) (.tup [nilS, iv code]))) : wpCall P pu σ g As (some d) s K := by
  refine call_fn h hco (fun _ => ?_) ?_
  · cases ok with
    | true => exact ⟨[.row 0 1 true (ints xs)], .tup [.own 6000 0, iv code], by rw [if_pos rfl]; exact ⟨0, rfl, rfl⟩⟩
    | false => exact ⟨[], .tup [nilS, iv code], by rw [if_neg (by simp)]; exact ⟨rfl, rfl⟩⟩
  · intro rows res hR
    cases ok with
    | true =>
      simp only [if_true] at hR
      obtain ⟨v, rfl, rfl⟩ := hR
      refine ⟨by simp, ?_, ?_⟩
      · simp only [Option.getD_some, yzp]; exact hg
      · simp only [Option.getD_some, List.length_singleton, Nat.not_lt_zero, range1, ren_val, ren_any, ren_ro, rnNm_n, rnNm_sn, rnNm_o, rnNm_s, ren_st, ren_tup, renL_nil, yzu, yz9, renL_rws, renL_rwn, oren_box, oren_row, oren_map, yzd, yza, yze, yzg, yzq, yzs, yz5, yz7, yzf, yzb, yzt, yzr, List.range_zero, yz8, yz6, yzc, gone_nil, yzp, gone_two, AVal.fresh, freshL, yz3, yzo, AObj.fresh, id, Option.isSome_some, or_true, true_or]
        exact h1 rfl _
    | false =>
      simp only [Bool.false_eq_true, if_false] at hR
      obtain ⟨rfl, rfl⟩ := hR
      refine ⟨by simp, by simp, ?_⟩
      simp only [Nat.not_lt_zero, range1, ren_val, ren_any, ren_ro, rnNm_n, rnNm_sn, rnNm_o, rnNm_s, ren_st, ren_tup, renL_nil, yzu, yz9, renL_rws, renL_rwn, oren_box, oren_row, oren_map, yzd, yza, yze, yzg, yzq, yzs, yz5, yz7, yzf, yzb, yzt, yzr, List.range_zero, yz8, yz6, yzc, gone_nil, yzp, gone_two, AVal.fresh, freshL, yz3, yzo, AObj.fresh, id, Option.isSome_some, or_true, true_or]
      exact h2 rfl
end Go.Ab
namespace Go.Ab
open Go.Proofs
def seqI (k : Int) : Nat → List Int
  | 0 => []
  | m + 1 => k :: seqI (k + 1) m
theorem seqI_len : ∀ (m : Nat) (k : Int), (seqI k m).length = m
  | 0, _ => rfl
  | m + 1, k => by simp [seqI, seqI_len m]
theorem seqI_snoc : ∀ (m : Nat) (k : Int), seqI k m ++ [k + m] = seqI k (m + 1)
  | 0, k => by simp [seqI]
  | m + 1, k => by
    have := seqI_snoc m (k + 1)
    simp only [seqI, List.cons_append] at this ⊢
    rw [← this]
    congr 3
    omega
theorem k_markInt64S (xs : List Int) (nn : Bool) (k : Int) (h : 0 ≤ k ∧ k ≤ 4611686018427387904) (hx : (xs.length : Int) ≤ 1000000000) :
    Con Try.prog nzd [.row 0 1 nn (ints xs)] [.own 5000 0, iv k] true fun outs rows res => outs = [.row 0 1 nn (ints (seqI k xs.length))] ∧ rows = [] ∧ res = iv (k + xs.length) := by
  refine con_sh mixed cz9y rfl (by simp) ?_
  simp only [Az5o, Bz5n, Bz5l, go_sem, yz0, Int.reduceLT, reduceLE, reduceToNat, reduceNeg, Nat.reduceLT, reduceLeDiff, reduceMul, reduceSub, reduceIte, reduceEqDiff, reduceAdd, reduceCtorEq]
  refine wpD_lo (fun i => xs.length - i) (fun i => i ≤ xs.length)
    (fun i : Nat => ⟨L .any [(0, .own 5000 0), (1, iv (k + i)), (5, iv i)], L .gone [(5000, .row 0 1 nn (ints (seqI k i ++ xs.drop i)))]⟩) 0 (by simp) (by simp only [Bz7, seqI, List.nil_append, List.drop_zero, go_sem, yz0, Int.reduceLT, reduceLE, reduceToNat, reduceNeg, Nat.reduceLT, reduceLeDiff, reduceMul, reduceSub, reduceIte, reduceEqDiff, reduceAdd, reduceCtorEq]; try simp) ?_
  rintro i hi
  by_cases hlt : (i : Int) < xs.length
  · have hlt1 : i < xs.length := by omega
    have hl : (seqI k i ++ xs.drop i).length = xs.length := by simp [seqI_len]; omega
    have hlt2 : (i : Int) < ((seqI k i ++ xs.drop i).length : Nat) := by rw [hl]; exact hlt
    simp only [Bz7, Bz1k, Bz1l, hl, decide_eq_true hlt, go_sem, yz0, Int.reduceLT, reduceLE, reduceToNat, reduceNeg, Nat.reduceLT, reduceLeDiff, reduceMul, reduceSub, reduceIte, reduceEqDiff, reduceAdd, reduceCtorEq]
    intro hM
    refine ⟨⟨by omega, hlt1⟩, by omega, ?_⟩
    have e1 : ((seqI k i ++ xs.drop i).take i ++ [k + (i : Int)]) ++ (seqI k i ++ xs.drop i).drop (i + 1) = seqI k (i + 1) ++ xs.drop (i + 1) := by
      rw [List.take_append_of_le_length (by rw [seqI_len]; omega), List.take_of_length_le (by rw [seqI_len]; omega), seqI_snoc, List.drop_append, seqI_len, List.drop_eq_nil_of_le (by rw [seqI_len]; omega), List.nil_append, List.drop_drop]
      congr 2; omega
    have w2 : IntKind.i64.wrap (k + (i : Int) + 1) = k + ((i + 1 : Nat) : Int) := by rw [w64 (by omega)]; omega
    simp only [Bz9w, Bz9x, nat1 i _ hlt1 hM, w2, go_sem, yz0, Int.reduceLT, reduceLE, reduceToNat, reduceNeg, Nat.reduceLT, reduceLeDiff, reduceMul, reduceSub, reduceIte, reduceEqDiff, reduceAdd, reduceCtorEq]
    refine ⟨i + 1, by omega, by omega, ?_⟩
    simp only [intsK_take, intsK_drop, dnL_ints, intsK_snoc, intsK_cat, e1]
  · have : i = xs.length := by omega
    subst this
    have hl : (seqI k xs.length ++ xs.drop xs.length).length = xs.length := by simp [seqI_len]
    simp only [Bz7, Bz1k, Bz1l, Bz5m, seqI_len, decide_eq_false hlt, List.drop_length, List.append_nil, go_sem, yz0, Int.reduceLT, reduceLE, reduceToNat, reduceNeg, Nat.reduceLT, reduceLeDiff, reduceMul, reduceSub, reduceIte, reduceEqDiff, reduceAdd, reduceCtorEq]
    intro _
    refine ⟨[], by simp, by simp, by simp, ?_⟩
    simp only [range1, List.nil_append, Nat.not_lt_zero, range1, ren_val, ren_any, ren_ro, rnNm_n, rnNm_sn, rnNm_o, rnNm_s, ren_st, ren_tup, renL_nil, yzu, yz9, renL_rws, renL_rwn, oren_box, oren_row, oren_map, yzd, yza, yze, yzg, yzq, yzs, yz5, yz7, yzf, yzb, yzt, yzr, List.range_zero, yz8, yz6, yzc, gone_nil, yzp, gone_two, AVal.fresh, freshL, yz3, yzo, AObj.fresh, id, Option.isSome_some, or_true, true_or, go_sem, yz0, Int.reduceLT, reduceLE, reduceToNat, reduceNeg, Nat.reduceLT, reduceLeDiff, reduceMul, reduceSub, reduceIte, reduceEqDiff, reduceAdd, reduceCtorEq]
    try simp
theorem k_markNil (k : Int) : Fun Try.prog nzd [.ro none 1 [], iv k] (iv k) := by
  refine fun_of mixed cz9y rfl ⟨rfl, trivial⟩ ?_
  simp only [Az5o, Bz5n, Bz5l, go_sem, yz0, Int.reduceLT, reduceLE, reduceToNat, reduceNeg, Nat.reduceLT, reduceLeDiff, reduceMul, reduceSub, reduceIte, reduceEqDiff, reduceAdd, reduceCtorEq]
  refine wpD_lo (fun _ : Unit => 0) (fun _ => True) (fun _ => ⟨L .any [(0, .ro none 1 []), (1, iv k), (5, iv 0)], L .gone []⟩) () trivial (by simp only [Bz7, go_sem, yz0, Int.reduceLT, reduceLE, reduceToNat, reduceNeg, Nat.reduceLT, reduceLeDiff, reduceMul, reduceSub, reduceIte, reduceEqDiff, reduceAdd, reduceCtorEq]; try rfl) ?_
  rintro _ _
  simp only [Bz7, Bz1k, Bz1l, Bz5m, go_sem, yz0, Int.reduceLT, reduceLE, reduceToNat, reduceNeg, Nat.reduceLT, reduceLeDiff, reduceMul, reduceSub, reduceIte, reduceEqDiff, reduceAdd, reduceCtorEq]
  try simp
theorem k_held (xs : List Int) (k : Int) (h : 0 ≤ k ∧ k ≤ 4611686018427387904) (hx : (xs.length : Int) ≤ 1000000000) (he : xs = seqI k xs.length) :
    Fun Try.prog nze [.ro none 1 (ints xs), iv k] (iv (k + xs.length)) := by
  refine fun_of mixed czhl rfl ⟨rfl, trivial⟩ ?_
  simp only [Aza5, Bza4, Bza2, go_sem, yz0, Int.reduceLT, reduceLE, reduceToNat, reduceNeg, Nat.reduceLT, reduceLeDiff, reduceMul, reduceSub, reduceIte, reduceEqDiff, reduceAdd, reduceCtorEq]
  have hg : ∀ (m : Nat) (k : Int) (i : Nat), i < m → (seqI k m).getD i 0 = k + i := by
    intro m
    induction m with
    | zero => intro k i hi; omega
    | succ m ih =>
      intro k i hi
      cases i with
      | zero => simp [seqI]
      | succ i =>
        have := ih (k + 1) i (by omega)
        simp only [seqI, List.getD_cons_succ, this]
        omega
  refine wpD_lo (fun i => xs.length - i) (fun i => i ≤ xs.length)
    (fun i : Nat => ⟨L .any [(0, .ro none 1 (ints xs)), (1, iv (k + i)), (5, iv i)], L .gone []⟩) 0 (by simp) (by simp only [Bz1m, go_sem, yz0, Int.reduceLT, reduceLE, reduceToNat, reduceNeg, Nat.reduceLT, reduceLeDiff, reduceMul, reduceSub, reduceIte, reduceEqDiff, reduceAdd, reduceCtorEq]; try simp) ?_
  rintro i hi
  by_cases hlt : (i : Int) < xs.length
  · have hlt1 : i < xs.length := by omega
    have e1 : xs.getD i 0 = k + i := by rw [he]; exact hg _ k i hlt1
    have w2 : IntKind.i64.wrap (k + (i : Int) + 1) = k + ((i + 1 : Nat) : Int) := by rw [w64 (by omega)]; omega
    simp only [Bz1m, Bz5p, Bz5q, Bz9z, Bza0, Bza1, yz4 hlt1, e1, bne_self_eq_false, decide_eq_true hlt, go_sem, yz0, Int.reduceLT, reduceLE, reduceToNat, reduceNeg, Nat.reduceLT, reduceLeDiff, reduceMul, reduceSub, reduceIte, reduceEqDiff, reduceAdd, reduceCtorEq]
    intro hM
    refine ⟨⟨by omega, hlt1⟩, hlt1, ?_⟩
    simp only [nat1 i _ hlt1 hM, w2, go_sem, yz0, Int.reduceLT, reduceLE, reduceToNat, reduceNeg, Nat.reduceLT, reduceLeDiff, reduceMul, reduceSub, reduceIte, reduceEqDiff, reduceAdd, reduceCtorEq]
    exact ⟨i + 1, by omega, by omega, rfl⟩
  · have : i = xs.length := by omega
    subst this
    simp only [Bz1m, Bz5p, Bz5q, Bza3, decide_eq_false hlt, go_sem, yz0, Int.reduceLT, reduceLE, reduceToNat, reduceNeg, Nat.reduceLT, reduceLeDiff, reduceMul, reduceSub, reduceIte, reduceEqDiff, reduceAdd, reduceCtorEq]
    try (intro _; trivial)
theorem call_rowM {P : Program} {σ : St} {g : FuncId} {As args : List AVal} {d : Option Nat} {s : Nat → Nat} {K : St → Prop} {r v : Nat} {cs cs' : List AVal} {nn : Bool} {R : List AObj → List AObj → AVal → Prop}
    (h : Con P g [.row 0 1 nn cs'] (.own 5000 0 :: args) true R) (hr : σ.hp r = .row v 1 nn cs) (hco : CoeL σ.hp [r] false cs' cs) (ha : CoeL σ.hp [r] false args As)
    (hk : ∀ outs rows res, R outs rows res → rows = [] ∧ ∃ o, outs = [o] ∧ K (St.put ⟨σ.tm, upd σ.hp r (o.ren (rid [r] (d.getD 0) 0) (sv σ.hp [r] s))⟩ d (res.ren (rid [r] (d.getD 0) 0) (sv σ.hp [r] s)))) :
    wpCall P false σ g (.own r v :: As) d s K := by
  refine .inl ⟨[r], [.row 0 1 nn cs'], .own 5000 0 :: args, true, R, h, ⟨by simp, rfl, by simp, by simp [hr], ?_⟩, ?_, (fun e => by cases e), ?_⟩
  · intro j B r' hB hr'
    cases j with
    | succ j => simp at hB
    | zero =>
      simp at hB hr'; subst hB; subst hr'
      simp only [ObjCoe, hr]
      exact ⟨trivial, v, cs, rfl, hco⟩
  · rw [yzi]
    refine ⟨?_, ha⟩
    simp only [Coe]
    exact ⟨0, r, v, rfl, rfl, rfl, rfl, by rw [hr]; rfl⟩
  · intro outs rows res hR
    obtain ⟨rfl, o, rfl, hK⟩ := hk outs rows res hR
    refine ⟨rfl, by simp, by simp, ?_⟩
    rw [callHp_m]
    exact hK
def totL : List (Nat × List Int) → Int
  | [] => 0
  | p :: ps => p.2.length + totL ps
theorem totL_nn : ∀ ps, 0 ≤ totL ps
  | [] => by simp [totL]
  | p :: ps => by have := totL_nn ps; simp only [totL]; omega
abbrev MarkR (k m : Int) (outs rows : List AObj) (res : AVal) : Prop := outs = [] ∧ rows = [] ∧ ∃ v, (∃ k', v = Value.int .i64 k' ∧ k ≤ k' ∧ k' ≤ k + m) ∧ res = .val v
theorem k_markInt64SS (ps : List (Nat × List Int)) (hd : DJ ps) (k : Int) (h : 0 ≤ k ∧ k + totL ps ≤ 4611686018427387904) (hx : ∀ p ∈ ps, (p.2.length : Int) ≤ 1000000000) :
    Con Try.prog nzj [] [.ro (some (some 0)) 1 (rwp ps), iv k] true (MarkR k (totL ps)) := by
  refine con_sh mixed czi4 rfl (by simp) ?_
  simp only [Azdd, Bzdc, Bzda, yzj, yz1, go_sem, yz0, Int.reduceLT, reduceLE, reduceToNat, reduceNeg, Nat.reduceLT, reduceLeDiff, reduceMul, reduceSub, reduceIte, reduceEqDiff, reduceAdd, reduceCtorEq]
  intro vs0 U0 hN0 vs1 U1 hN1
  refine wpD_lp (fun (_, rest, _) => List.length rest) (fun (pre, rest, k') => k ≤ k' ∧ k' + totL rest ≤ k + totL ps ∧ DJ rest ∧ (∀ p ∈ rest, (List.length p.2 : Int) ≤ 1000000000) ∧ List.length pre + List.length rest = ps.length)
    (fun ((pre, rest, k') : List AVal × List (Nat × List Int) × Int) => ⟨L .any [(0, .ro (some (some 0)) 1 (pre ++ rwp rest)), (1, iv k'), (5, iv pre.length)], L .gone [(5000, .gone), (5001, .gone), (5002, .gone), (5003, .gone), (5004, .gone), (5005, .gone), (5006, .gone), (5007, .gone), (5008, .gone), (5009, .gone)]⟩)
    ([], ps, k) ⟨Int.le_refl _, Int.le_refl _, hd, hx, by simp⟩ (by simp only [Bzd9, List.nil_append, go_sem, yz0, Int.reduceLT, reduceLE, reduceToNat, reduceNeg, Nat.reduceLT, reduceLeDiff, reduceMul, reduceSub, reduceIte, reduceEqDiff, reduceAdd, reduceCtorEq]; try rfl) ?_
  rintro ⟨pre, rest, k'⟩ ⟨j1, j2, j3, j4, j5⟩
  cases rest with
  | nil =>
    have hlt : decide ((pre.length : Int) < (pre.length : Int)) = false := by simp
    simp only [Bz70, Bz72, Bzdb, rwp_nil, List.append_nil, hlt, yzj, yz1, go_sem, yz0, Int.reduceLT, reduceLE, reduceToNat, reduceNeg, Nat.reduceLT, reduceLeDiff, reduceMul, reduceSub, reduceIte, reduceEqDiff, reduceAdd, reduceCtorEq]
    intro vs U hN hM vs2 U2 hN2
    refine ⟨[], by simp, by simp, by simp, ?_⟩
    simp only [Nat.not_lt_zero, range1, ren_val, ren_any, ren_ro, rnNm_n, rnNm_sn, rnNm_o, rnNm_s, ren_st, ren_tup, renL_nil, yzu, yz9, renL_rws, renL_rwn, oren_box, oren_row, oren_map, yzd, yza, yze, yzg, yzq, yzs, yz5, yz7, yzf, yzb, yzt, yzr, List.range_zero, yz8, yz6, yzc, gone_nil, yzp, gone_two, AVal.fresh, freshL, yz3, yzo, AObj.fresh, id, Option.isSome_some, or_true, true_or, go_sem, yz0, Int.reduceLT, reduceLE, reduceToNat, reduceNeg, Nat.reduceLT, reduceLeDiff, reduceMul, reduceSub, reduceIte, reduceEqDiff, reduceAdd, reduceCtorEq]
    refine ⟨rfl, rfl, _, ⟨k', rfl, j1, ?_⟩, rfl⟩
    simp only [totL] at j2; omega
  | cons p rest =>
    have hl : (pre ++ rwp (p :: rest)).length = pre.length + (rest.length + 1) := by simp [rwp_len]
    have hlt : decide ((pre.length : Int) < ((pre.length + (rest.length + 1) : Nat) : Int)) = true := decide_eq_true (by omega)
    have hgi : (pre ++ rwp (p :: rest))[pre.length]? = some (.ro (some (some (p.1 + 1))) 1 (ints p.2)) := by
      rw [List.getElem?_append_right (Nat.le_refl _), Nat.sub_self]; rfl
    simp only [totL] at j2
    have hrest : DJ rest := (List.pairwise_cons.1 j3).2
    have htn := totL_nn rest
    have hxp := j4 p (by simp)
    have e1 : rwp (p :: rest) = .ro (some (some (p.1 + 1))) 1 (ints p.2) :: rwp rest := rfl
    simp only [Bz70, hl, hlt, yzj, yz1, go_sem, yz0, Int.reduceLT, reduceLE, reduceToNat, reduceNeg, Nat.reduceLT, reduceLeDiff, reduceMul, reduceSub, reduceIte, reduceEqDiff, reduceAdd, reduceCtorEq]
    intro vs U hN hM
    simp only [Bz72, yzj, wpD_gh, go_sem, yz0, Int.reduceLT, reduceLE, reduceToNat, reduceNeg, Nat.reduceLT, reduceLeDiff, reduceMul, reduceSub, reduceIte, reduceEqDiff, reduceAdd, reduceCtorEq]
    intro _
    by_cases hp : p.2 = []
    · -- nothing to write
      refine ⟨[], ?_⟩
      have hgd : (pre ++ rwp (p :: rest)).getD pre.length .any = .ro (some (some (p.1 + 1))) 1 [] := by
        rw [List.getD_eq_getElem?_getD, hgi, hp]; rfl
      simp only [gwp_nil, hgd, hl, yzj, yz1, go_sem, yz0, Int.reduceLT, reduceLE, reduceToNat, reduceNeg, Nat.reduceLT, reduceLeDiff, reduceMul, reduceSub, reduceIte, reduceEqDiff, reduceAdd, reduceCtorEq]
      intro vs2 U2 hN2
      refine ⟨⟨by omega, by omega⟩, by omega, ?_⟩
      refine yz2 (k_markNil k') qCS trivial ?_
      simp only [Bz71, yzj, yz1, go_sem, yz0, Int.reduceLT, reduceLE, reduceToNat, reduceNeg, Nat.reduceLT, reduceLeDiff, reduceMul, reduceSub, reduceIte, reduceEqDiff, reduceAdd, reduceCtorEq]
      intro vs3 U3 hN3
      have w1 : IntKind.i64.wrap ((pre.length : Int) + 1) = ((pre.length + 1 : Nat) : Int) := nat1 pre.length _ (show pre.length < (pre ++ rwp (p :: rest)).length by rw [hl]; omega) (by rw [hl]; exact hM)
      rw [w1]
      refine ⟨(pre ++ [.ro (some (some (p.1 + 1))) 1 (ints p.2)], rest, k'), by simp, ⟨j1, ?_, hrest, fun q hq => j4 q (by simp [hq]), by simp at j5 ⊢; omega⟩, by simp only [e1, List.append_assoc, List.singleton_append, List.length_append, List.length_singleton]⟩
      rw [hp] at j2; simp at j2; exact j2
    · refine ⟨[.tt 0 pre.length 900], 1, pre ++ rwp (p :: rest), p.1, 1, ints p.2, rfl, hgi, ?_, rfl, fun m => ?_⟩
      · intro e; exact hp (by simpa using e)
      have hne : ints p.2 ≠ [] := fun e => hp (by simpa using e)
      have hany : AVal.wo p.1 (.ro (some (some (p.1 + 1))) 1 (ints p.2)) = .any := by
        cases hq : p.2 with
        | nil => exact absurd hq hp
        | cons x xs => simp [AVal.wo]
      have hother : ∀ q ∈ rest, q.2 = [] ∨ q.1 ≠ p.1 := by
        intro q hq
        rcases (List.pairwise_cons.1 j3).1 q hq with h | h | h
        · exact absurd h hp
        · exact .inl h
        · exact .inr (Ne.symm h)
      have e2 : (woL p.1 (pre ++ rwp (p :: rest))).set pre.length (.own 900 m) = woL p.1 pre ++ (.own 900 m :: rwp rest) := by
        have e3 : woL p.1 (rwp (p :: rest)) = .any :: rwp rest := by
          rw [e1]; simp only [woL, hany, woL_rwp hother]
        rw [woL_app, e3, List.set_append_right _ _ (by rw [woL_len]; exact Nat.le_refl _), woL_len, Nat.sub_self]; rfl
      have hl2 : (woL p.1 pre ++ (AVal.own 900 m :: rwp rest)).length = pre.length + (rest.length + 1) := by simp [rwp_len, woL_len]
      have hgd : (woL p.1 pre ++ (AVal.own 900 m :: rwp rest)).getD pre.length .any = .own 900 m := by
        rw [List.getD_eq_getElem?_getD, List.getElem?_append_right (by rw [woL_len]; exact Nat.le_refl _), woL_len, Nat.sub_self]; rfl
      rw [gwp_nil, tt_L, e2]
      simp only [woT, woO, woV_val, woO_gone, woL_ints, hl2, hgd, yzj, yz1, go_sem, yz0, Int.reduceLT, reduceLE, reduceToNat, reduceNeg, Nat.reduceLT, reduceLeDiff, reduceMul, reduceSub, reduceIte, reduceEqDiff, reduceAdd, reduceCtorEq]
      intro vs2 U2 hN2
      refine ⟨⟨by omega, by omega⟩, by omega, ?_⟩
      refine call_rowM (k_markInt64S p.2 true k' (by omega) hxp) (r := 900) (v := m) qWS coeL_ints qCS ?_
      rintro outs rows res ⟨rfl, rfl, rfl⟩
      refine ⟨rfl, _, rfl, ?_⟩
      simp only [Bz71, yzj, yz1, Nat.not_lt_zero, range1, ren_val, ren_any, ren_ro, rnNm_n, rnNm_sn, rnNm_o, rnNm_s, ren_st, ren_tup, renL_nil, yzu, yz9, renL_rws, renL_rwn, oren_box, oren_row, oren_map, yzd, yza, yze, yzg, yzq, yzs, yz5, yz7, yzf, yzb, yzt, yzr, List.range_zero, yz8, yz6, yzc, gone_nil, yzp, gone_two, AVal.fresh, freshL, yz3, yzo, AObj.fresh, id, Option.isSome_some, or_true, true_or, go_sem, yz0, Int.reduceLT, reduceLE, reduceToNat, reduceNeg, Nat.reduceLT, reduceLeDiff, reduceMul, reduceSub, reduceIte, reduceEqDiff, reduceAdd, reduceCtorEq]
      intro vs3 U3 hN3
      have w1 : IntKind.i64.wrap ((pre.length : Int) + 1) = ((pre.length + 1 : Nat) : Int) := nat1 pre.length _ (show pre.length < (pre ++ rwp (p :: rest)).length by rw [hl]; omega) (by rw [hl]; exact hM)
      rw [w1]
      exact ⟨(woL p.1 pre ++ [.own 900 m], rest, k' + p.2.length), by simp, ⟨by dsimp only; omega, by dsimp only; omega, hrest, fun q hq => j4 q (by simp [hq]), by simp [woL_len] at j5 ⊢; omega⟩, by simp only [List.append_assoc, List.singleton_append, List.length_append, List.length_singleton, woL_len]⟩
theorem k_markAutomaton (n : Int) (ps : List (Nat × List Int)) (hd : DJ ps) (k : Int) (h : 0 ≤ k ∧ k + totL ps ≤ 4611686018427387904) (hx : ∀ p ∈ ps, (p.2.length : Int) ≤ 1000000000) :
    Con Try.prog nz32 [] [.st [iv n, .ro (some (some 0)) 1 (rwp ps)], iv k] true (MarkR k (totL ps)) := by
  refine con_sh mixed czhj rfl (by simp) ?_
  simp only [Az9r, Bz9q, yzj, yz1, go_sem, yz0, Int.reduceLT, reduceLE, reduceToNat, reduceNeg, Nat.reduceLT, reduceLeDiff, reduceMul, reduceSub, reduceIte, reduceEqDiff, reduceAdd, reduceCtorEq]
  intro vs U hN vs2 U2 hN2
  refine call_hav (k_markInt64SS ps hd k h hx) ?_ ?_
  · rw [coeHL_cons, coeHL_cons, coeHL_nil, coeH_val]; exact ⟨coeH_rwp, rfl, trivial⟩
  rintro v ⟨k', rfl, h1, h2⟩
  simp only [Bz9p, cl_L, clT, clO, yzj, yz1, go_sem, yz0, Int.reduceLT, reduceLE, reduceToNat, reduceNeg, Nat.reduceLT, reduceLeDiff, reduceMul, reduceSub, reduceIte, reduceEqDiff, reduceAdd, reduceCtorEq]
  intro vs3 U3 hN3
  refine ⟨[], by simp, by simp, by simp, ?_⟩
  simp only [Nat.not_lt_zero, range1, ren_val, ren_any, ren_ro, rnNm_n, rnNm_sn, rnNm_o, rnNm_s, ren_st, ren_tup, renL_nil, yzu, yz9, renL_rws, renL_rwn, oren_box, oren_row, oren_map, yzd, yza, yze, yzg, yzq, yzs, yz5, yz7, yzf, yzb, yzt, yzr, List.range_zero, yz8, yz6, yzc, gone_nil, yzp, gone_two, AVal.fresh, freshL, yz3, yzo, AObj.fresh, id, Option.isSome_some, or_true, true_or, go_sem, yz0, Int.reduceLT, reduceLE, reduceToNat, reduceNeg, Nat.reduceLT, reduceLeDiff, reduceMul, reduceSub, reduceIte, reduceEqDiff, reduceAdd, reduceCtorEq]
  exact ⟨rfl, rfl, _, ⟨k', rfl, h1, h2⟩, rfl⟩
end Go.Ab
namespace Go.Ab
open Go.Proofs
theorem k_l00Rises (set : List Int) (lo hi : Int) : Fun Try.prog nz3v [.ro none 1 (ints set), iv lo, iv hi] (bv (decide (SI set) && allIn set lo hi)) := by
  refine fun_of mixed czj2 rfl ⟨rfl, trivial⟩ ?_
  simp only [Azgz, Bzgy, Bzgw, go_sem, yz0, Int.reduceLT, reduceLE, reduceToNat, reduceNeg, Nat.reduceLT, reduceLeDiff, reduceMul, reduceSub, reduceIte, reduceEqDiff, reduceAdd, reduceCtorEq]
  refine wpD_lo (fun i => set.length - i) (fun i => i ≤ set.length ∧ SI (set.take i) ∧ allIn (set.take i) lo hi = true)
    (fun i : Nat => ⟨L .any [(0, .ro none 1 (ints set)), (1, iv lo), (2, iv hi), (7, iv i)], L .gone []⟩) 0 (by simp [allIn, SI]) (by simp only [Bz2v, go_sem, yz0, Int.reduceLT, reduceLE, reduceToNat, reduceNeg, Nat.reduceLT, reduceLeDiff, reduceMul, reduceSub, reduceIte, reduceEqDiff, reduceAdd, reduceCtorEq]; try rfl) ?_
  rintro i ⟨hi', hs, ha⟩
  by_cases hlt : (i : Int) < set.length
  · have hlt1 : i < set.length := by omega
    have ht : set.take (i + 1) = set.take i ++ [set.getD i 0] := by
      rw [List.take_succ_eq_append_getElem hlt1, List.getD_eq_getElem?_getD, List.getElem?_eq_getElem hlt1]; rfl
    have hmem := getD_mem hlt1 (0 : Int)
    simp only [Bz2v, Bz7z, Bz81, yz4 hlt1, decide_eq_true hlt, go_sem, yz0, Int.reduceLT, reduceLE, reduceToNat, reduceNeg, Nat.reduceLT, reduceLeDiff, reduceMul, reduceSub, reduceIte, reduceEqDiff, reduceAdd, reduceCtorEq]
    intro hM vs
    have hM2 := maxLen_le
    refine ⟨⟨by omega, hlt1⟩, hlt1, ?_⟩
    refine yz2 (k_l00In (set.getD i 0) lo hi) qCS trivial ?_
    by_cases hin : lo ≤ set.getD i 0 ∧ set.getD i 0 ≤ hi
    · have e1 : (decide (lo ≤ set.getD i 0) && decide (set.getD i 0 ≤ hi)) = true := by rw [decide_eq_true hin.1, decide_eq_true hin.2]; rfl
      have ha2 : allIn (set.take (i + 1)) lo hi = true := by
        rw [ht, allIn_iff]
        intro x hx
        rcases List.mem_append.1 hx with hx | hx
        · exact allIn_iff.1 ha x hx
        · have hx : x = set.getD i 0 := by simpa using hx
          subst hx; exact hin
      by_cases h0 : (0 : Int) < i
      · have hi1 : i - 1 < set.length := by omega
        have w2 : IntKind.i64.wrap ((i : Int) - 1) = ((i - 1 : Nat) : Int) := by rw [w64 (by omega)]; omega
        simp only [e1, decide_eq_true h0, w2, yz4 hi1, yz4 hlt1, go_sem, yz0, Int.reduceLT, reduceLE, reduceToNat, reduceNeg, Nat.reduceLT, reduceLeDiff, reduceMul, reduceSub, reduceIte, reduceEqDiff, reduceAdd, reduceCtorEq]
        refine ⟨⟨by omega, hi1⟩, hi1, ⟨by omega, hlt1⟩, hlt1, ?_⟩
        have hk := SI_take_succ hlt1 hs
        by_cases hle : set.getD i 0 ≤ set.getD (i - 1) 0
        · have hf : (decide (SI set) && allIn set lo hi) = false := by
            rw [Bool.and_eq_false_iff]; left
            rw [decide_eq_false_iff_not]
            intro hb
            have := hk.1 (SI_of_take hb) (by omega)
            omega
          simp only [Bzy, decide_eq_true hle, hf, go_sem, yz0, Int.reduceLT, reduceLE, reduceToNat, reduceNeg, Nat.reduceLT, reduceLeDiff, reduceMul, reduceSub, reduceIte, reduceEqDiff, reduceAdd, reduceCtorEq]
        · simp only [Bzy, Bz80, decide_eq_false hle, nat1 i _ hlt1 hM, go_sem, yz0, Int.reduceLT, reduceLE, reduceToNat, reduceNeg, Nat.reduceLT, reduceLeDiff, reduceMul, reduceSub, reduceIte, reduceEqDiff, reduceAdd, reduceCtorEq]
          exact ⟨i + 1, by omega, ⟨by omega, hk.2 fun _ => by omega, ha2⟩, rfl⟩
      · have : i = 0 := by omega
        subst this
        simp only [e1, decide_eq_false h0, go_sem, yz0, Int.reduceLT, reduceLE, reduceToNat, reduceNeg, Nat.reduceLT, reduceLeDiff, reduceMul, reduceSub, reduceIte, reduceEqDiff, reduceAdd, reduceCtorEq]
        simp only [Bzy, Bz80, nat1 0 _ hlt1 hM, go_sem, yz0, Int.reduceLT, reduceLE, reduceToNat, reduceNeg, Nat.reduceLT, reduceLeDiff, reduceMul, reduceSub, reduceIte, reduceEqDiff, reduceAdd, reduceCtorEq]
        exact ⟨1, by omega, ⟨by omega, (SI_take_succ hlt1 hs).2 fun h => by omega, ha2⟩, rfl⟩
    · have e1 : (decide (lo ≤ set.getD i 0) && decide (set.getD i 0 ≤ hi)) = false := by
        rw [Bool.and_eq_false_iff, decide_eq_false_iff_not, decide_eq_false_iff_not]; omega
      have hf : (decide (SI set) && allIn set lo hi) = false := by
        rw [Bool.and_eq_false_iff]; right
        cases hb : allIn set lo hi with
        | false => rfl
        | true => exact absurd (allIn_iff.1 hb _ hmem) hin
      simp only [e1, Bzy, hf, go_sem, yz0, Int.reduceLT, reduceLE, reduceToNat, reduceNeg, Nat.reduceLT, reduceLeDiff, reduceMul, reduceSub, reduceIte, reduceEqDiff, reduceAdd, reduceCtorEq]
  · have : i = set.length := by omega
    subst this
    rw [List.take_length] at hs ha
    simp only [Bz2v, Bz7z, Bz81, Bzgx, decide_eq_false hlt, go_sem, yz0, Int.reduceLT, reduceLE, reduceToNat, reduceNeg, Nat.reduceLT, reduceLeDiff, reduceMul, reduceSub, reduceIte, reduceEqDiff, reduceAdd, reduceCtorEq]
    intro _
    simp [hs, ha]
theorem k_l01Set (n : Int) (next : List (List Int)) (set : List Int) (hn : 1 ≤ n ∧ n ≤ 10) : Fun Try.prog nz3n [autP n next, .ro none 1 (ints set)] (bv (setB n set)) := by
  refine fun_of mixed czit rfl ⟨rfl, trivial⟩ ?_
  have w1 : IntKind.i64.wrap (n - 1) = n - 1 := w64 (by omega)
  simp only [Bzgg, Azgh, w1, go_sem, yz0, Int.reduceLT, reduceLE, reduceToNat, reduceNeg, Nat.reduceLT, reduceLeDiff, reduceMul, reduceSub, reduceIte, reduceEqDiff, reduceAdd, reduceCtorEq]
  intro vs
  refine yz2 (k_l00Rises set 0 (n - 1)) qCS trivial ?_
  simp only [setB, go_sem, yz0, Int.reduceLT, reduceLE, reduceToNat, reduceNeg, Nat.reduceLT, reduceLeDiff, reduceMul, reduceSub, reduceIte, reduceEqDiff, reduceAdd, reduceCtorEq]
abbrev RowC2 (P : Program) (g : FuncId) (args : List AVal) (xs : List Int) (code : Int) : Prop := Fn P g args fun rows res => ∃ v, rows = [.row v 1 true (ints xs)] ∧ res = .tup [.own 6000 v, iv code]
theorem call_rowC2 {P : Program} {pu : Bool} {σ : St} {g : FuncId} {As args : List AVal} {d : Nat} {s : Nat → Nat} {K : St → Prop} {xs : List Int} {code : Int} (h : RowC2 P g args xs code)
    (hco : CoeL σ.hp [] true args As) (hg : σ.hp d = .gone) (h1 : ∀ v, K (St.put ⟨σ.tm, upd σ.hp d (.row v 1 true (ints xs))⟩ (some d) (.tup [.own d v, iv code]))) : wpCall P pu σ g As (some d) s K := by
  refine call_fn h hco (fun _ => ⟨_, _, 0, rfl, rfl⟩) ?_
  rintro rows res ⟨v, rfl, rfl⟩
  refine ⟨by simp, ?_, ?_⟩
  · simp only [Option.getD_some, yzp]; exact hg
  · simp only [Option.getD_some, List.length_singleton, Nat.not_lt_zero, range1, ren_val, ren_any, ren_ro, rnNm_n, rnNm_sn, rnNm_o, rnNm_s, ren_st, ren_tup, renL_nil, yzu, yz9, renL_rws, renL_rwn, oren_box, oren_row, oren_map, yzd, yza, yze, yzg, yzq, yzs, yz5, yz7, yzf, yzb, yzt, yzr, List.range_zero, yz8, yz6, yzc, gone_nil, yzp, gone_two, AVal.fresh, freshL, yz3, yzo, AObj.fresh, id, Option.isSome_some, or_true, true_or]
    exact h1 _
theorem call_autN {P : Program} {σ : St} {g : FuncId} {As args : List AVal} {d : Nat} {s : Nat → Nat} {K : St → Prop} {n : Int} {next : List (List Int)} (hs : ∀ x y, s x = s y → x = y)
    (h : Fn P g args (fun rows res => ∃ v ps, rows = [.row v 1 true (rwp ps)] ∧ ps.map (·.2) = next ∧ DJ ps ∧ res = .st [iv n, .own 6000 v])) (hco : CoeL σ.hp [] true args As) (hg : σ.hp d = .gone)
    (hk : ∀ v ps, ps.map (·.2) = next → DJ ps → K (St.put ⟨σ.tm, upd σ.hp d (.row v 1 true (rwp ps))⟩ (some d) (.st [iv n, .own d v]))) : wpCall P false σ g As (some d) s K := by
  refine call_fn h hco (fun e => by cases e) ?_
  rintro rows res ⟨v, ps, rfl, hp, hd, rfl⟩
  refine ⟨by simp, ?_, ?_⟩
  · simp only [Option.getD_some, yzp]; exact hg
  · simp only [Option.getD_some, renL_rwp, List.length_singleton, Nat.not_lt_zero, range1, ren_val, ren_any, ren_ro, rnNm_n, rnNm_sn, rnNm_o, rnNm_s, ren_st, ren_tup, renL_nil, yzu, yz9, renL_rws, renL_rwn, oren_box, oren_row, oren_map, yzd, yza, yze, yzg, yzq, yzs, yz5, yz7, yzf, yzb, yzt, yzr, List.range_zero, yz8, yz6, yzc, gone_nil, yzp, gone_two, AVal.fresh, freshL, yz3, yzo, AObj.fresh, id, Option.isSome_some, or_true, true_or]
    exact hk _ _ (by rw [List.map_map]; exact hp) (hd.ren hs)
theorem szRows_tot : ∀ (ps : List (Nat × List Int)) (l : Int), 0 ≤ szRows (ps.map (·.2)) l → 0 ≤ l → totL ps ≤ l
  | [], l, _, h => by simpa [totL] using h
  | p :: ps, l, h, hl => by
    simp only [List.map_cons, szRows] at h
    split at h
    · omega
    · have := szRows_tot ps _ h (by omega)
      simp only [totL]; omega
theorem szLL_tot {ps : List (Nat × List Int)} {l : Int} (h : 0 ≤ szLL (ps.map (·.2)) l) (hl : 0 ≤ l) : totL ps ≤ l := by
  unfold szLL at h
  split at h
  · omega
  · have := szRows_tot ps _ h (by omega); omega
theorem coeL_rwp_t {hp : Nat → AObj} {m : List Nat} {len : Bool} {ps : List (Nat × List Int)} : CoeL hp m len (rwn (ps.map (·.2))) (rwp ps) = True := eq_true coeL_rwp
theorem call_mark {P : Program} {σ : St} {g : FuncId} {A : AVal} {x y : Value} {d : Option Nat} {s : Nat → Nat} {K : St → Prop} {r v : Nat} {xs ys : List Int}
    (h : Con P g [.row 0 1 true (ints xs)] [.own 5000 0, .val x] true fun outs rows res => outs = [.row 0 1 true (ints ys)] ∧ rows = [] ∧ res = .val y) (hr : σ.hp r = .row v 1 true (ints xs)) (hA : A = .val x)
    (hk : K (St.put ⟨σ.tm, upd σ.hp r (.row v 1 true (ints ys))⟩ d (.val y))) : wpCall P false σ g [.own r v, A] d s K := by
  subst hA
  refine call_rowM h hr coeL_ints qCS ?_
  rintro outs rows res ⟨rfl, rfl, rfl⟩
  refine ⟨rfl, _, rfl, ?_⟩
  have e : sv σ.hp [r] s 0 = v := by simp [sv, hr, AObj.ver]
  rw [oren_row, e, yz9, ren_val]
  exact hk
theorem k_heldNil : Fun Try.prog nze [.ro none 1 [], iv 1] (iv 1) := by
  have h := k_held [] 1 (by omega) (by simp) (by rfl)
  simpa using h
theorem dec10 : decide ((1 : Int) < 0) = false := by decide
theorem clR_row {p : Nat → Bool} {v k : Nat} {nn : Bool} {cs : List AVal} : AObj.cl p (.row v k nn cs) = .row v k nn (clL p cs) := rfl
theorem clR_box {p : Nat → Bool} {v : Nat} {cs : List AVal} : AObj.cl p (.box v cs) = .box v (clL p cs) := rfl
theorem clR_gone {p : Nat → Bool} : AObj.cl p .gone = .gone := rfl
end Go.Ab
