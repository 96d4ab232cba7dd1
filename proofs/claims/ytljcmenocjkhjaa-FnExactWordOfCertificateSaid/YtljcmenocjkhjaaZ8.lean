/- Contracts and what they lean on, part 8. Conditions: none. -/
import Derived.Test.YtljcmenocjkhjaaZ7
set_option maxRecDepth 100000
set_option maxHeartbeats 4000000
set_option linter.all false
open Nat (reduceLeDiff reduceMul reduceSub reduceEqDiff reduceAdd)
open Int (reduceToNat reduceNeg reduceLE)
namespace Go.Ab
theorem put_len_new {x : Int} : ∀ {xs : List Int}, x ∉ xs → (put xs x).length = xs.length + 1
  | [], _ => by simp [put]
  | y :: xs, h => by
    have h1 : x ≠ y := fun e => h (by simp [e])
    have h2 : x ∉ xs := fun e => h (by simp [e])
    simp only [put]
    split
    · split
      · simp
      · omega
    · have := put_len_new (x := x) (xs := xs) h2
      simp only [List.length_cons]; omega
theorem nrm_len_nd {l : List Int} (h : l.Nodup) : (nrm l).length = l.length := by
  have gen : ∀ (l acc : List Int), l.Nodup → (∀ x ∈ l, x ∉ acc) → (l.foldl put acc).length = acc.length + l.length := by
    intro l
    induction l with
    | nil => intro acc _ _; simp
    | cons x l ih =>
      intro acc h1 h2
      rw [List.nodup_cons] at h1
      rw [List.foldl_cons, ih (put acc x) h1.2 (fun y hy hm => ?_), put_len_new (h2 x (by simp)), List.length_cons]
      · omega
      · rcases put_mem.1 hm with rfl | hm
        · exact h1.1 hy
        · exact h2 y (by simp [hy]) hm
  have := gen l [] h (by simp)
  simpa [nrm] using this
structure Once (n : Int) (l : List Int) : Prop where
  nd : l.Nodup
  rg : ∀ x ∈ l, 0 ≤ x ∧ x < n
theorem Once.len {n : Int} {l : List Int} (hn : 1 ≤ n) (h : Once n l) : (l.length : Int) ≤ n := by
  have h1 := nrm_len_nd h.nd
  rcases SI_len (nrm_SI l) (fun x hx => h.rg x (nrm_mem.1 hx)) with h2 | h2
  · omega
  · rw [h2] at h1; simp at h1; omega
theorem Once.snoc {n : Int} {l : List Int} {x : Int} (h : Once n l) (hx : 0 ≤ x ∧ x < n) (hm : x ∉ l) : Once n (l ++ [x]) := by
  refine ⟨?_, ?_⟩
  · rw [List.nodup_append]
    refine ⟨h.nd, by simp, ?_⟩
    intro a ha b hb
    have : b = x := by simpa using hb
    subst this
    rintro rfl
    exact hm ha
  · intro y hy
    rcases List.mem_append.1 hy with hy | hy
    · exact h.rg y hy
    · have : y = x := by simpa using hy
      subst this; exact hx
def addL (l : List Int) (x : Int) : List Int := if l.contains x = true then l else l ++ [x]
theorem Once.add {n : Int} {l : List Int} {x : Int} (h : Once n l) (hx : 0 ≤ x ∧ x < n) : Once n (addL l x) := by
  unfold addL
  split
  · exact h
  · rename_i h1
    exact h.snoc hx (by simpa using h1)
end Go.Ab
namespace Go.Ab
open Go.Proofs
end Go.Ab
namespace Go.Ab
open Go.Proofs
def cmpI (x y : Int) : Int := if x < y then -1 else if x > y then 1 else 0
theorem k_isNaN (x : Int) : Fun Try.prog nz1f [iv x] (bv false) := by
  refine fun_of mixed czj4 rfl ⟨rfl, trivial⟩ ?_
  simp only [Bzh7, Azh8, bne_self_eq_false, go_sem, yz0, Int.reduceLT, reduceLE, reduceToNat, reduceNeg, Nat.reduceLT, reduceLeDiff, reduceMul, reduceSub, reduceIte, reduceEqDiff, reduceAdd, reduceCtorEq]
theorem k_cmp (x y : Int) : Fun Try.prog nz3r [iv x, iv y] (iv (cmpI x y)) := by
  refine fun_of mixed czj0 rfl ⟨rfl, trivial⟩ ?_
  simp only [Azgr, Bzgq, go_sem, yz0, Int.reduceLT, reduceLE, reduceToNat, reduceNeg, Nat.reduceLT, reduceLeDiff, reduceMul, reduceSub, reduceIte, reduceEqDiff, reduceAdd, reduceCtorEq]
  intro vs
  refine yz2 (k_isNaN x) qCS trivial ?_
  simp only [Bzgp, go_sem, yz0, Int.reduceLT, reduceLE, reduceToNat, reduceNeg, Nat.reduceLT, reduceLeDiff, reduceMul, reduceSub, reduceIte, reduceEqDiff, reduceAdd, reduceCtorEq]
  intro vs2
  refine yz2 (k_isNaN y) qCS trivial ?_
  by_cases h1 : x < y
  · simp only [Bz2u, Bz2p, Bz2t, Bz2q, Bz2s, Bz2r, cmpI, if_pos h1, decide_eq_true h1, go_sem, yz0, Int.reduceLT, reduceLE, reduceToNat, reduceNeg, Nat.reduceLT, reduceLeDiff, reduceMul, reduceSub, reduceIte, reduceEqDiff, reduceAdd, reduceCtorEq]
    try rfl
  · by_cases h2 : x > y
    · simp only [Bz2u, Bz2p, Bz2t, Bz2q, Bz2s, Bz2r, Bz7y, Bz7x, cmpI, if_neg h1, if_pos h2, decide_eq_false h1, decide_eq_true h2, go_sem, yz0, Int.reduceLT, reduceLE, reduceToNat, reduceNeg, Nat.reduceLT, reduceLeDiff, reduceMul, reduceSub, reduceIte, reduceEqDiff, reduceAdd, reduceCtorEq]
      try rfl
    · simp only [Bz2u, Bz2p, Bz2t, Bz2q, Bz2s, Bz2r, Bz7y, Bz7x, Bzgo, cmpI, if_neg h1, if_neg h2, decide_eq_false h1, decide_eq_false h2, go_sem, yz0, Int.reduceLT, reduceLE, reduceToNat, reduceNeg, Nat.reduceLT, reduceLeDiff, reduceMul, reduceSub, reduceIte, reduceEqDiff, reduceAdd, reduceCtorEq]
      try rfl
def cmpL : List Int → List Int → Int
  | [], [] => 0
  | [], _ :: _ => -1
  | _ :: _, [] => 1
  | x :: xs, y :: ys => if cmpI x y = 0 then cmpL xs ys else cmpI x y
theorem k_CompareL (xs ys : List Int) : Fun Try.prog nz3j [.ro none 1 (ints xs), .ro none 1 (ints ys)] (iv (cmpL xs ys)) := by
  refine fun_of mixed czio rfl ⟨rfl, trivial⟩ ?_
  simp only [Azfs, Bzfr, go_sem, yz0, Int.reduceLT, reduceLE, reduceToNat, reduceNeg, Nat.reduceLT, reduceLeDiff, reduceMul, reduceSub, reduceIte, reduceEqDiff, reduceAdd, reduceCtorEq]
  intro hx
  simp only [Bzfo, go_sem, yz0, Int.reduceLT, reduceLE, reduceToNat, reduceNeg, Nat.reduceLT, reduceLeDiff, reduceMul, reduceSub, reduceIte, reduceEqDiff, reduceAdd, reduceCtorEq]
  refine wpD_lo (fun i => xs.length - i) (fun i => i ≤ xs.length ∧ i ≤ ys.length ∧ cmpL (xs.drop i) (ys.drop i) = cmpL xs ys)
    (fun i : Nat => ⟨L .any [(0, .ro none 1 (ints xs)), (1, .ro none 1 (ints ys)), (9, .ro none 1 (ints xs)), (10, iv xs.length), (11, iv i)], L .gone []⟩) 0 (by simp) (by simp only [Bz2j, go_sem, yz0, Int.reduceLT, reduceLE, reduceToNat, reduceNeg, Nat.reduceLT, reduceLeDiff, reduceMul, reduceSub, reduceIte, reduceEqDiff, reduceAdd, reduceCtorEq]; try rfl) ?_
  rintro i ⟨hi, hi2, hc⟩
  have hM := maxLen_le
  by_cases hlt : (i : Int) < xs.length
  · have hlt1 : i < xs.length := by omega
    rw [drop_getD hlt1 0] at hc
    simp only [Bz2j, Bz7p, Bz7o, Bzfm, decide_eq_true hlt, yz4 hlt1, go_sem, yz0, Int.reduceLT, reduceLE, reduceToNat, reduceNeg, Nat.reduceLT, reduceLeDiff, reduceMul, reduceSub, reduceIte, reduceEqDiff, reduceAdd, reduceCtorEq]
    refine ⟨⟨by omega, hlt1⟩, hlt1, ?_⟩
    intro hy
    by_cases hge : (i : Int) ≥ ys.length
    · have : ys.drop i = [] := List.drop_eq_nil_of_le (by omega)
      rw [this] at hc
      simp only [cmpL] at hc
      simp only [Bz7l, decide_eq_true hge, ← hc, go_sem, yz0, Int.reduceLT, reduceLE, reduceToNat, reduceNeg, Nat.reduceLT, reduceLeDiff, reduceMul, reduceSub, reduceIte, reduceEqDiff, reduceAdd, reduceCtorEq]
      try rfl
    · have hlt2 : i < ys.length := by omega
      rw [drop_getD hlt2 0] at hc
      simp only [cmpL] at hc
      simp only [Bz7l, Bzfl, Bzfk, decide_eq_false hge, yz4 hlt2, go_sem, yz0, Int.reduceLT, reduceLE, reduceToNat, reduceNeg, Nat.reduceLT, reduceLeDiff, reduceMul, reduceSub, reduceIte, reduceEqDiff, reduceAdd, reduceCtorEq]
      refine ⟨⟨by omega, hlt2⟩, hlt2, fun vs => ?_⟩
      refine yz2 (k_cmp (xs.getD i 0) (ys.getD i 0)) qCS trivial ?_
      by_cases h0 : cmpI (xs.getD i 0) (ys.getD i 0) = 0
      · rw [if_pos h0] at hc
        simp only [Bz7n, Bz7m, Bzfn, h0, bne_self_eq_false, nat1 i _ hlt1 hx, go_sem, yz0, Int.reduceLT, reduceLE, reduceToNat, reduceNeg, Nat.reduceLT, reduceLeDiff, reduceMul, reduceSub, reduceIte, reduceEqDiff, reduceAdd, reduceCtorEq]
        exact ⟨i + 1, by omega, ⟨by omega, by omega, hc⟩, rfl⟩
      · rw [if_neg h0] at hc
        have e1 : (cmpI (xs.getD i 0) (ys.getD i 0) != 0) = true := by simpa using h0
        simp only [Bz7n, Bz7m, e1, ← hc, go_sem, yz0, Int.reduceLT, reduceLE, reduceToNat, reduceNeg, Nat.reduceLT, reduceLeDiff, reduceMul, reduceSub, reduceIte, reduceEqDiff, reduceAdd, reduceCtorEq]
  · have : i = xs.length := by omega
    subst this
    rw [List.drop_length] at hc
    simp only [Bz2j, Bz7p, Bz7o, Bzfq, decide_eq_false hlt, go_sem, yz0, Int.reduceLT, reduceLE, reduceToNat, reduceNeg, Nat.reduceLT, reduceLeDiff, reduceMul, reduceSub, reduceIte, reduceEqDiff, reduceAdd, reduceCtorEq]
    intro _ hy
    by_cases hl : (xs.length : Int) < ys.length
    · have hl2 : xs.length < ys.length := by omega
      rw [drop_getD hl2 0] at hc
      simp only [cmpL] at hc
      simp only [Bz7q, decide_eq_true hl, ← hc, go_sem, yz0, Int.reduceLT, reduceLE, reduceToNat, reduceNeg, Nat.reduceLT, reduceLeDiff, reduceMul, reduceSub, reduceIte, reduceEqDiff, reduceAdd, reduceCtorEq]
      try rfl
    · have : ys.drop xs.length = [] := List.drop_eq_nil_of_le (by omega)
      rw [this] at hc
      simp only [cmpL] at hc
      simp only [Bz7q, Bzfp, decide_eq_false hl, ← hc, go_sem, yz0, Int.reduceLT, reduceLE, reduceToNat, reduceNeg, Nat.reduceLT, reduceLeDiff, reduceMul, reduceSub, reduceIte, reduceEqDiff, reduceAdd, reduceCtorEq]
def prow (p : Int → Int → Bool) (s : Int) : Int → Nat → List (List Int)
  | _, 0 => []
  | t, m + 1 => (if p s t = true then [[s, t]] else []) ++ prow p s (t + 1) m
def pall (p : Int → Int → Bool) (n : Int) : Int → Nat → List (List Int)
  | _, 0 => []
  | s, m + 1 => prow p s (s + 1) (n - (s + 1)).toNat ++ pall p n (s + 1) m
def pairsL (n : Int) (p : Int → Int → Bool) : List (List Int) := pall p n 0 n.toNat
theorem prow_len {p : Int → Int → Bool} {s : Int} : ∀ (m : Nat) (t : Int), (prow p s t m).length ≤ m
  | 0, t => by simp [prow]
  | m + 1, t => by
    have := prow_len (p := p) (s := s) m (t + 1)
    simp only [prow, List.length_append]
    split <;> simp <;> omega
theorem pall_len {p : Int → Int → Bool} {n : Int} : ∀ (m : Nat) (s : Int), 0 ≤ s → (pall p n s m).length ≤ m * n.toNat
  | 0, s, _ => by simp [pall]
  | m + 1, s, hs => by
    have h1 := pall_len (p := p) (n := n) m (s + 1) (by omega)
    have h2 := prow_len (p := p) (s := s) (n - (s + 1)).toNat (s + 1)
    simp only [pall, List.length_append, Nat.succ_mul]
    omega
theorem pairsL_len {n : Int} (hn : 1 ≤ n ∧ n ≤ 10) {p : Int → Int → Bool} : (pairsL n p).length ≤ 100 := by
  have h := pall_len (p := p) (n := n) n.toNat 0 (by omega)
  have : n.toNat * n.toNat ≤ 10 * 10 := Nat.mul_le_mul (by omega) (by omega)
  unfold pairsL; omega
theorem prow_mem {p : Int → Int → Bool} {s : Int} {x : List Int} : ∀ (m : Nat) (t : Int), x ∈ prow p s t m ↔ ∃ u : Int, t ≤ u ∧ u < t + m ∧ p s u = true ∧ x = [s, u]
  | 0, t => by
    simp only [prow, List.not_mem_nil, false_iff]
    rintro ⟨u, h1, h2, _⟩; omega
  | m + 1, t => by
    have ih := prow_mem (p := p) (s := s) (x := x) m (t + 1)
    simp only [prow, List.mem_append, ih]
    constructor
    · rintro (h | ⟨u, h1, h2, h3⟩)
      · split at h
        · rename_i hp
          exact ⟨t, by omega, by omega, hp, by simpa using h⟩
        · cases h
      · exact ⟨u, by omega, by omega, h3⟩
    · rintro ⟨u, h1, h2, h3, h4⟩
      by_cases hu : u = t
      · subst hu
        left; rw [if_pos h3]; simpa using h4
      · exact .inr ⟨u, by omega, by omega, h3, h4⟩
theorem pall_mem {p : Int → Int → Bool} {n : Int} {x : List Int} : ∀ (m : Nat) (s : Int), s + m = n → (x ∈ pall p n s m ↔ ∃ a b : Int, s ≤ a ∧ a < b ∧ b < n ∧ p a b = true ∧ x = [a, b])
  | 0, s, hm => by
    simp only [pall, List.not_mem_nil, false_iff]
    rintro ⟨a, b, h1, h2, h3, _⟩; omega
  | m + 1, s, hm => by
    have ih := pall_mem (p := p) (n := n) (x := x) m (s + 1) (by omega)
    simp only [pall, List.mem_append, ih, prow_mem]
    constructor
    · rintro (⟨u, h1, h2, h3, h4⟩ | ⟨a, b, h1, h2⟩)
      · exact ⟨s, u, by omega, by omega, by omega, h3, h4⟩
      · exact ⟨a, b, by omega, h2⟩
    · rintro ⟨a, b, h1, h2, h3, h4, h5⟩
      by_cases ha : a = s
      · subst ha; exact .inl ⟨b, by omega, by omega, h4, h5⟩
      · exact .inr ⟨a, b, by omega, h2, h3, h4, h5⟩
theorem pairsL_mem {n : Int} (hn : 0 ≤ n) {p : Int → Int → Bool} {x : List Int} : x ∈ pairsL n p ↔ ∃ a b : Int, 0 ≤ a ∧ a < b ∧ b < n ∧ p a b = true ∧ x = [a, b] := pall_mem _ _ (by omega)
theorem k_pairs (n : Int) (next : List (List Int)) (g : FuncId) (caps : List AVal) (p : Int → Int → Bool) (hn : 1 ≤ n ∧ n ≤ 10) (hc : Caps caps) (h : ∀ s t, 0 ≤ s → s < t → t < n → Fun Try.prog g (iv s :: iv t :: caps) (bv (p s t))) :
    RowR Try.prog nz13 [autA n next, .clo g caps] (fun xss => xss = pairsL n p) := by
  refine rowR_of mixed czhw rfl ?_
  have hpl := pairsL_len hn (p := p)
  simp only [Azc9, Bzc8, hc.dn, go_sem, yz0, Int.reduceLT, reduceLE, reduceToNat, reduceNeg, Nat.reduceLT, reduceLeDiff, reduceMul, reduceSub, reduceIte, reduceEqDiff, reduceAdd, reduceCtorEq]
  intro vs vs2
  simp only [Bzc7, Bzc5, hc.dn, go_sem, yz0, Int.reduceLT, reduceLE, reduceToNat, reduceNeg, Nat.reduceLT, reduceLeDiff, reduceMul, reduceSub, reduceIte, reduceEqDiff, reduceAdd, reduceCtorEq]
  refine wpD_lo (fun (_, _, s) => n.toNat - s) (fun (_, acc, s) => (s : Int) ≤ n ∧ acc ++ pall p n s (n.toNat - s) = pairsL n p)
    (fun ((v, acc, s) : Nat × List (List Int) × Nat) => ⟨L .any [(1, .clo g caps), (2, .ptr 2 (vs 0 0) 0), (5, .own 8 v), (10, iv n), (11, iv s)], L .gone [(2, .box (vs 0 0) [iv n, .ro none 1 (rwn next)]), (8, .row v 1 true (rws acc))]⟩)
    (_, [], 0) ⟨by omega, rfl⟩ (by simp only [Bz23, hc.dn, go_sem, yz0, Int.reduceLT, reduceLE, reduceToNat, reduceNeg, Nat.reduceLT, reduceLeDiff, reduceMul, reduceSub, reduceIte, reduceEqDiff, reduceAdd, reduceCtorEq]; try rfl) ?_
  rintro ⟨v, acc, s⟩ ⟨hs, hacc⟩
  have hs : (s : Int) ≤ n := hs
  by_cases hlt : (s : Int) < n
  · have w0 : IntKind.i64.wrap ((s : Int) + 1) = ((s + 1 : Nat) : Int) := by rw [w64 (by omega)]; omega
    have e1 : n.toNat - s = (n.toNat - (s + 1)) + 1 := by omega
    rw [e1] at hacc
    simp only [pall] at hacc
    simp only [Bz23, Bz6p, Bz6o, Bzc3, Bzc2, w0, decide_eq_true hlt, hc.dn, go_sem, yz0, Int.reduceLT, reduceLE, reduceToNat, reduceNeg, Nat.reduceLT, reduceLeDiff, reduceMul, reduceSub, reduceIte, reduceEqDiff, reduceAdd, reduceCtorEq]
    refine wpD_lo (fun (_, _, t) => n.toNat - t) (fun (_, acc', t) => (t : Int) ≤ n ∧ s < t ∧ acc' ++ (prow p s t (n - t).toNat ++ pall p n ((s : Int) + 1) (n.toNat - (s + 1))) = pairsL n p)
      (fun ((v, acc', t) : Nat × List (List Int) × Nat) => ⟨L .any [(1, .clo g caps), (2, .ptr 2 (vs 0 0) 0), (5, .own 8 v), (6, iv s), (7, iv t), (10, iv n), (11, iv s)], L .gone [(2, .box (vs 0 0) [iv n, .ro none 1 (rwn next)]), (8, .row v 1 true (rws acc'))]⟩)
      (_, acc, s + 1) ⟨by omega, by omega, hacc⟩ (by simp only [Bz22, hc.dn, go_sem, yz0, Int.reduceLT, reduceLE, reduceToNat, reduceNeg, Nat.reduceLT, reduceLeDiff, reduceMul, reduceSub, reduceIte, reduceEqDiff, reduceAdd, reduceCtorEq]; try rfl) ?_
    rintro ⟨v', acc', t⟩ ⟨ht, hst, hacc'⟩
    have ht : (t : Int) ≤ n := ht
    have hst : s < t := hst
    have w1 : IntKind.i64.wrap ((t : Int) + 1) = ((t + 1 : Nat) : Int) := by rw [w64 (by omega)]; omega
    by_cases hlt2 : (t : Int) < n
    · have e2 : (n - (t : Int)).toNat = (n - ((t + 1 : Nat) : Int)).toNat + 1 := by omega
      have e3 : ((t + 1 : Nat) : Int) = (t : Int) + 1 := by omega
      rw [e2] at hacc'
      simp only [prow] at hacc'
      simp only [Bz22, Bz6k, Bz6n, decide_eq_true hlt2, hc.dn, go_sem, yz0, Int.reduceLT, reduceLE, reduceToNat, reduceNeg, Nat.reduceLT, reduceLeDiff, reduceMul, reduceSub, reduceIte, reduceEqDiff, reduceAdd, reduceCtorEq]
      intro vs3
      refine yz2 (h s t (by omega) (by omega) hlt2) (by simp only [rowIs, boxIs, coe_argN, coe_argNs, coe_ro_o, coeL_nil, yzi, coe_any, coe_val, coe_ro, yzm, yzl, coe_st, yzk, coe_rp, yzn, coe_clo, coe_own0, coe_ptr0, yzh, coeL_rws, coeL_rwn, L_hit, L_miss, L_nil, reduceEqDiff, ne_eq, reduceCtorEq, not_false_eq_true, true_and, and_true, and_self, exists_eq_left, exists_eq_right, List.mem_cons, List.not_mem_nil, or_false, AObj.row.injEq, AObj.box.injEq, exists_eq_left', exists_and_left, exists_eq, Nat.zero_lt_one, Nat.lt_add_one, List.map_cons, List.map_nil, AObj.ver, Nat.reduceLT, not_true_eq_false]; exact hc.coe _ _ _) trivial ?_
      cases hp : p s t with
      | true =>
        rw [hp, if_pos rfl] at hacc'
        have hal : acc'.length ≤ 100 := by rw [← hacc', List.length_append] at hpl; omega
        have hr : rws acc' ++ [.ro (some none) 1 [.val (.int .i64 s), .val (.int .i64 t)]] = rws (acc' ++ [[(s : Int), (t : Int)]]) := by simp [rws]
        simp only [Bz6l, Bz6m, w1, hr, hc.dn, go_sem, yz0, Int.reduceLT, reduceLE, reduceToNat, reduceNeg, Nat.reduceLT, reduceLeDiff, reduceMul, reduceSub, reduceIte, reduceEqDiff, reduceAdd, reduceCtorEq]
        intro vs4
        exact ⟨⟨⟨_, rfl, rfl⟩, _, rfl, rfl⟩, by omega, (vs4 5 0, acc' ++ [[(s : Int), (t : Int)]], t + 1), by dsimp only; omega, ⟨by dsimp only; omega, by dsimp only; omega, by dsimp only; rw [e3, List.append_assoc, ← hacc', ← e3, List.append_assoc]⟩, rfl⟩
      | false =>
        rw [hp, if_neg (by simp), List.nil_append] at hacc'
        simp only [Bz6l, Bz6m, w1, hc.dn, go_sem, yz0, Int.reduceLT, reduceLE, reduceToNat, reduceNeg, Nat.reduceLT, reduceLeDiff, reduceMul, reduceSub, reduceIte, reduceEqDiff, reduceAdd, reduceCtorEq]
        exact ⟨(_, acc', t + 1), by dsimp only; omega, ⟨by dsimp only; omega, by dsimp only; omega, by dsimp only; rw [e3]; exact hacc'⟩, rfl⟩
    · have ht2 : (t : Int) = n := by omega
      have e2 : (n - (t : Int)).toNat = 0 := by omega
      rw [e2] at hacc'
      simp only [prow, List.nil_append] at hacc'
      simp only [Bz22, Bz6k, Bz6n, Bzc4, w0, decide_eq_false hlt2, hc.dn, go_sem, yz0, Int.reduceLT, reduceLE, reduceToNat, reduceNeg, Nat.reduceLT, reduceLeDiff, reduceMul, reduceSub, reduceIte, reduceEqDiff, reduceAdd, reduceCtorEq]
      exact ⟨(_, acc', s + 1), by dsimp only; omega, ⟨by dsimp only; omega, by dsimp only; rw [show ((s + 1 : Nat) : Int) = (s : Int) + 1 by omega]; exact hacc'⟩, rfl⟩
  · have hs2 : n.toNat - s = 0 := by omega
    rw [hs2] at hacc
    simp only [pall, List.append_nil] at hacc
    simp only [Bz23, Bz6p, Bz6o, Bzc6, decide_eq_false hlt, hc.dn, go_sem, yz0, Int.reduceLT, reduceLE, reduceToNat, reduceNeg, Nat.reduceLT, reduceLeDiff, reduceMul, reduceSub, reduceIte, reduceEqDiff, reduceAdd, reduceCtorEq]
    exact ⟨8, v, acc, by omega, rfl, by simp only [go_sem, yz0, Int.reduceLT, reduceLE, reduceToNat, reduceNeg, Nat.reduceLT, reduceLeDiff, reduceMul, reduceSub, reduceIte, reduceEqDiff, reduceAdd, reduceCtorEq], hacc⟩
theorem k_l02Pairs (n : Int) (hn : 1 ≤ n ∧ n ≤ 10) : RowR Try.prog nz10 [iv n] (fun xss => xss = pairsL n fun _ _ => true) := by
  refine rowR_of mixed czhp rfl ?_
  have hpl := pairsL_len hn (p := fun _ _ => true)
  simp only [Azau, Bzat, go_sem, yz0, Int.reduceLT, reduceLE, reduceToNat, reduceNeg, Nat.reduceLT, reduceLeDiff, reduceMul, reduceSub, reduceIte, reduceEqDiff, reduceAdd, reduceCtorEq]
  intro vs
  simp only [Bzas, Bzaq, go_sem, yz0, Int.reduceLT, reduceLE, reduceToNat, reduceNeg, Nat.reduceLT, reduceLeDiff, reduceMul, reduceSub, reduceIte, reduceEqDiff, reduceAdd, reduceCtorEq]
  refine wpD_lo (fun (_, _, s) => n.toNat - s) (fun (_, acc, s) => (s : Int) ≤ n ∧ acc ++ pall (fun _ _ => true) n s (n.toNat - s) = pairsL n fun _ _ => true)
    (fun ((v, acc, s) : Nat × List (List Int) × Nat) => ⟨L .any [(0, iv n), (3, .own 6 v), (4, iv s)], L .gone [(6, .row v 1 true (rws acc))]⟩)
    (_, [], 0) ⟨by omega, rfl⟩ (by simp only [Bz1s, go_sem, yz0, Int.reduceLT, reduceLE, reduceToNat, reduceNeg, Nat.reduceLT, reduceLeDiff, reduceMul, reduceSub, reduceIte, reduceEqDiff, reduceAdd, reduceCtorEq]; try rfl) ?_
  rintro ⟨v, acc, s⟩ ⟨hs, hacc⟩
  have hs : (s : Int) ≤ n := hs
  by_cases hlt : (s : Int) < n
  · have w0 : IntKind.i64.wrap ((s : Int) + 1) = ((s + 1 : Nat) : Int) := by rw [w64 (by omega)]; omega
    have e1 : n.toNat - s = (n.toNat - (s + 1)) + 1 := by omega
    rw [e1] at hacc
    simp only [pall] at hacc
    simp only [Bz1s, Bz5z, Bz62, Bzao, w0, decide_eq_true hlt, go_sem, yz0, Int.reduceLT, reduceLE, reduceToNat, reduceNeg, Nat.reduceLT, reduceLeDiff, reduceMul, reduceSub, reduceIte, reduceEqDiff, reduceAdd, reduceCtorEq]
    refine wpD_lo (fun (_, _, t) => n.toNat - t) (fun (_, acc', t) => (t : Int) ≤ n ∧ s < t ∧ acc' ++ (prow (fun _ _ => true) s t (n - t).toNat ++ pall (fun _ _ => true) n ((s : Int) + 1) (n.toNat - (s + 1))) = pairsL n fun _ _ => true)
      (fun ((v, acc', t) : Nat × List (List Int) × Nat) => ⟨L .any [(0, iv n), (3, .own 6 v), (4, iv s), (5, iv t)], L .gone [(6, .row v 1 true (rws acc'))]⟩)
      (_, acc, s + 1) ⟨by omega, by omega, hacc⟩ (by simp only [Bz1r, go_sem, yz0, Int.reduceLT, reduceLE, reduceToNat, reduceNeg, Nat.reduceLT, reduceLeDiff, reduceMul, reduceSub, reduceIte, reduceEqDiff, reduceAdd, reduceCtorEq]; try rfl) ?_
    rintro ⟨v', acc', t⟩ ⟨ht, hst, hacc'⟩
    have ht : (t : Int) ≤ n := ht
    have hst : s < t := hst
    have w1 : IntKind.i64.wrap ((t : Int) + 1) = ((t + 1 : Nat) : Int) := by rw [w64 (by omega)]; omega
    by_cases hlt2 : (t : Int) < n
    · have e2 : (n - (t : Int)).toNat = (n - ((t + 1 : Nat) : Int)).toNat + 1 := by omega
      have e3 : ((t + 1 : Nat) : Int) = (t : Int) + 1 := by omega
      rw [e2] at hacc'
      simp only [prow, if_true] at hacc'
      have hal : acc'.length ≤ 100 := by rw [← hacc', List.length_append] at hpl; omega
      have hr : rws acc' ++ [.ro (some none) 1 [.val (.int .i64 s), .val (.int .i64 t)]] = rws (acc' ++ [[(s : Int), (t : Int)]]) := by simp [rws]
      simp only [Bz1r, Bz60, Bz61, Bzan, w1, hr, decide_eq_true hlt2, go_sem, yz0, Int.reduceLT, reduceLE, reduceToNat, reduceNeg, Nat.reduceLT, reduceLeDiff, reduceMul, reduceSub, reduceIte, reduceEqDiff, reduceAdd, reduceCtorEq]
      intro vs4
      exact ⟨⟨⟨_, rfl, rfl⟩, _, rfl, rfl⟩, by omega, (vs4 5 0, acc' ++ [[(s : Int), (t : Int)]], t + 1), by dsimp only; omega, ⟨by dsimp only; omega, by dsimp only; omega, by dsimp only; rw [e3, List.append_assoc, ← hacc', ← e3, List.append_assoc]⟩, rfl⟩
    · have ht2 : (t : Int) = n := by omega
      have e2 : (n - (t : Int)).toNat = 0 := by omega
      rw [e2] at hacc'
      simp only [prow, List.nil_append] at hacc'
      simp only [Bz1r, Bz60, Bz61, Bzap, w0, decide_eq_false hlt2, go_sem, yz0, Int.reduceLT, reduceLE, reduceToNat, reduceNeg, Nat.reduceLT, reduceLeDiff, reduceMul, reduceSub, reduceIte, reduceEqDiff, reduceAdd, reduceCtorEq]
      exact ⟨(_, acc', s + 1), by dsimp only; omega, ⟨by dsimp only; omega, by dsimp only; rw [show ((s + 1 : Nat) : Int) = (s : Int) + 1 by omega]; exact hacc'⟩, rfl⟩
  · have hs2 : n.toNat - s = 0 := by omega
    rw [hs2] at hacc
    simp only [pall, List.append_nil] at hacc
    simp only [Bz1s, Bz5z, Bz62, Bzar, decide_eq_false hlt, go_sem, yz0, Int.reduceLT, reduceLE, reduceToNat, reduceNeg, Nat.reduceLT, reduceLeDiff, reduceMul, reduceSub, reduceIte, reduceEqDiff, reduceAdd, reduceCtorEq]
    exact ⟨6, v, acc, by omega, rfl, by simp only [go_sem, yz0, Int.reduceLT, reduceLE, reduceToNat, reduceNeg, Nat.reduceLT, reduceLeDiff, reduceMul, reduceSub, reduceIte, reduceEqDiff, reduceAdd, reduceCtorEq], hacc⟩
end Go.Ab
namespace Go.Ab
open Go.Proofs
theorem bneF {a b : Int} (h : a = b) : (a != b) = false := by simp [h]
theorem bneT {a b : Int} (h : a ≠ b) : (a != b) = true := by simp [h]
theorem beqT {a b : Int} (h : a = b) : (a == b) = true := by simp [h]
theorem beqF {a b : Int} (h : a ≠ b) : (a == b) = false := by simp [h]
abbrev certA (kind : Int) (pairs words : List (List Int)) : AVal := .st [iv kind, .ro none 1 (rwn pairs), .ro none 1 (rwn words)]
abbrev certP (kind : Int) (pairs words : List (List Int)) : AVal := .rp [iv kind, .ro none 1 (rwn pairs), .ro none 1 (rwn words)] 0
abbrev every (n : Int) : List (List Int) := pairsL n fun _ _ => true
abbrev imgL (next : List (List Int)) (set w : List Int) : List Int := nrm (set.map fun s => atA next s w)
def mergeP (n : Int) (next pairs words : List (List Int)) : Prop := pairs.length = 0 ∧ words.length = (every n).length ∧
  ∀ i, i < (every n).length → wordB next.length (words.getD i []) = true ∧ atA next (((every n).getD i []).getD 0 0) (words.getD i []) = atA next (((every n).getD i []).getD 1 0) (words.getD i [])
def apartP (n : Int) (next pairs words : List (List Int)) : Prop := words.length = 0 ∧ 0 < pairs.length ∧
  ∀ i, i < pairs.length → pairs.getD i [] ∈ every n ∧ (0 < i → cmpL (pairs.getD (i - 1) []) (pairs.getD i []) < 0) ∧ ∀ l : Nat, l < next.length → imgL next (pairs.getD i []) [(l : Int)] ∈ pairs
open Classical in
noncomputable def rightB (n : Int) (next : List (List Int)) (kind : Int) (pairs words : List (List Int)) : Bool :=
  if kind = 1 then decide (mergeP n next pairs words) else if kind = 2 then decide (apartP n next pairs words) else false
theorem right1_t {n : Int} {next pairs words : List (List Int)} (h : mergeP n next pairs words) : rightB n next 1 pairs words = true := by simp [rightB, h]
theorem right1_f {n : Int} {next pairs words : List (List Int)} (h : ¬ mergeP n next pairs words) : rightB n next 1 pairs words = false := by simp [rightB, h]
theorem right2_t {n : Int} {next pairs words : List (List Int)} (h : apartP n next pairs words) : rightB n next 2 pairs words = true := by simp [rightB, h]
theorem right2_f {n : Int} {next pairs words : List (List Int)} (h : ¬ apartP n next pairs words) : rightB n next 2 pairs words = false := by simp [rightB, h]
theorem right_f {n kind : Int} {next pairs words : List (List Int)} (h1 : kind ≠ 1) (h2 : kind ≠ 2) : rightB n next kind pairs words = false := by simp [rightB, h1, h2]
theorem k_isRight_1 (s t : Int) : Fun Try.prog nz1b [iv s, iv t] (bv true) := by
  refine fun_of mixed czik rfl ⟨rfl, trivial⟩ ?_
  simp only [Bzfc, Azfd, go_sem, yz0, Int.reduceLT, reduceLE, reduceToNat, reduceNeg, Nat.reduceLT, reduceLeDiff, reduceMul, reduceSub, reduceIte, reduceEqDiff, reduceAdd, reduceCtorEq]
theorem k_isRight_2_1 (q p : List Int) : Fun Try.prog nz1c [.ro none 1 (ints q), .rp [.ro none 1 (ints p)] 0] (bv (decide (p = q))) := by
  refine fun_of mixed czim rfl ⟨rfl, trivial⟩ ?_
  simp only [Bzfg, Azfh, go_sem, yz0, Int.reduceLT, reduceLE, reduceToNat, reduceNeg, Nat.reduceLT, reduceLeDiff, reduceMul, reduceSub, reduceIte, reduceEqDiff, reduceAdd, reduceCtorEq]
  intro vs
  refine yz2 (k_Equal p q) qCS trivial ?_
  simp only [go_sem, yz0, Int.reduceLT, reduceLE, reduceToNat, reduceNeg, Nat.reduceLT, reduceLeDiff, reduceMul, reduceSub, reduceIte, reduceEqDiff, reduceAdd, reduceCtorEq]
theorem k_has (list : List (List Int)) (p : List Int) : Fun Try.prog nz5 [.ro none 1 (rwn list), .ro none 1 (ints p)] (bv (decide (p ∈ list))) := by
  refine fun_of mixed czil rfl ⟨rfl, trivial⟩ ?_
  simp only [Bzfe, Azff, go_sem, yz0, Int.reduceLT, reduceLE, reduceToNat, reduceNeg, Nat.reduceLT, reduceLeDiff, reduceMul, reduceSub, reduceIte, reduceEqDiff, reduceAdd, reduceCtorEq]
  intro vs vs2
  refine yz2 (k_ContainsFunc list nz1c [.rp [.ro none 1 (ints p)] 0] (fun q => decide (p = q)) ⟨by simp only [go_sem, yz0, Int.reduceLT, reduceLE, reduceToNat, reduceNeg, Nat.reduceLT, reduceLeDiff, reduceMul, reduceSub, reduceIte, reduceEqDiff, reduceAdd, reduceCtorEq], by intros; simp only [rowIs, boxIs, coe_argN, coe_argNs, coe_ro_o, coeL_nil, yzi, coe_any, coe_val, coe_ro, yzm, yzl, coe_st, yzk, coe_rp, yzn, coe_clo, coe_own0, coe_ptr0, yzh, coeL_rws, coeL_rwn, L_hit, L_miss, L_nil, reduceEqDiff, ne_eq, reduceCtorEq, not_false_eq_true, true_and, and_true, and_self, exists_eq_left, exists_eq_right, List.mem_cons, List.not_mem_nil, or_false, AObj.row.injEq, AObj.box.injEq, exists_eq_left', exists_and_left, exists_eq, Nat.zero_lt_one, Nat.lt_add_one, List.map_cons, List.map_nil, AObj.ver, Nat.reduceLT, not_true_eq_false]⟩ (fun q _ => k_isRight_2_1 q p)) qCS trivial ?_
  have e : (list.any fun q => decide (p = q)) = decide (p ∈ list) := by
    rw [Bool.eq_iff_iff]; simp
  simp only [e, go_sem, yz0, Int.reduceLT, reduceLE, reduceToNat, reduceNeg, Nat.reduceLT, reduceLeDiff, reduceMul, reduceSub, reduceIte, reduceEqDiff, reduceAdd, reduceCtorEq]
theorem every_get {n : Int} (hn : 0 ≤ n) {i : Nat} (hi : i < (every n).length) : ∃ a b : Int, 0 ≤ a ∧ a < b ∧ b < n ∧ (every n).getD i [] = [a, b] := by
  have h := (pairsL_mem hn).1 (getD_mem hi [])
  obtain ⟨a, b, h1, h2, h3, _, h4⟩ := h
  exact ⟨a, b, h1, h2, h3, h4⟩
theorem img2 {next : List (List Int)} {a b : Int} {w : List Int} : (imgL next [a, b] w).length = 1 ↔ atA next a w = atA next b w := by
  simp only [imgL, List.map_cons, List.map_nil, nrm, List.foldl_cons, List.foldl_nil, put]
  split
  · split
    · simp; omega
    · simp; omega
  · simp; omega
theorem k_isRight (n : Int) (next : List (List Int)) (kind : Int) (pairs words : List (List Int)) (A : Aut n next) :
    Fun Try.prog nz38 [autA n next, certA kind pairs words] (bv (rightB n next kind pairs words)) := by
  refine fun_of mixed czhv rfl ⟨rfl, trivial⟩ ?_
  have n1 := A.n1
  have n2 := A.n2
  have l1 := A.l1
  have l2 := A.l2
  have hM := maxLen_le
  have hel := pairsL_len ⟨n1, n2⟩ (p := fun _ _ => true)
  simp only [Azc1, Bzc0, go_sem, yz0, Int.reduceLT, reduceLE, reduceToNat, reduceNeg, Nat.reduceLT, reduceLeDiff, reduceMul, reduceSub, reduceIte, reduceEqDiff, reduceAdd, reduceCtorEq]
  intro vs vs2
  refine call_rowR (k_pairs n next nz1b [] (fun _ _ => true) ⟨n1, n2⟩ ⟨by simp only [go_sem, yz0, Int.reduceLT, reduceLE, reduceToNat, reduceNeg, Nat.reduceLT, reduceLeDiff, reduceMul, reduceSub, reduceIte, reduceEqDiff, reduceAdd, reduceCtorEq], by intros; simp only [rowIs, boxIs, coe_argN, coe_argNs, coe_ro_o, coeL_nil, yzi, coe_any, coe_val, coe_ro, yzm, yzl, coe_st, yzk, coe_rp, yzn, coe_clo, coe_own0, coe_ptr0, yzh, coeL_rws, coeL_rwn, L_hit, L_miss, L_nil, reduceEqDiff, ne_eq, reduceCtorEq, not_false_eq_true, true_and, and_true, and_self, exists_eq_left, exists_eq_right, List.mem_cons, List.not_mem_nil, or_false, AObj.row.injEq, AObj.box.injEq, exists_eq_left', exists_and_left, exists_eq, Nat.zero_lt_one, Nat.lt_add_one, List.map_cons, List.map_nil, AObj.ver, Nat.reduceLT, not_true_eq_false]⟩ (fun s t _ _ _ => k_isRight_1 s t)) qCS rfl ⟨_, rfl⟩ ?_
  rintro xss v rfl
  simp only [Bzbz, Bzby, Bzbw, go_sem, yz0, Int.reduceLT, reduceLE, reduceToNat, reduceNeg, Nat.reduceLT, reduceLeDiff, reduceMul, reduceSub, reduceIte, reduceEqDiff, reduceAdd, reduceCtorEq]
  by_cases hk1 : kind = 1
  · subst hk1
    by_cases hp0 : (0 : Int) < pairs.length
    · have hf : rightB n next 1 pairs words = false := right1_f fun h => by have := h.1; omega
      simp only [Bz9, Bz1w, beq_self_eq_true, decide_eq_true hp0, hf, go_sem, yz0, Int.reduceLT, reduceLE, reduceToNat, reduceNeg, Nat.reduceLT, reduceLeDiff, reduceMul, reduceSub, reduceIte, reduceEqDiff, reduceAdd, reduceCtorEq]
      try (intro _; trivial)
    · simp only [Bz9, beq_self_eq_true, decide_eq_false hp0, go_sem, yz0, Int.reduceLT, reduceLE, reduceToNat, reduceNeg, Nat.reduceLT, reduceLeDiff, reduceMul, reduceSub, reduceIte, reduceEqDiff, reduceAdd, reduceCtorEq]
      intro hMp hMw hMe
      by_cases hle : words.length = (every n).length
      · have e0 : ((words.length : Int) != ((every n).length : Int)) = false := by simp [hle]
        simp only [Bz1w, Bzbr, Bzbp, e0, go_sem, yz0, Int.reduceLT, reduceLE, reduceToNat, reduceNeg, Nat.reduceLT, reduceLeDiff, reduceMul, reduceSub, reduceIte, reduceEqDiff, reduceAdd, reduceCtorEq]
        intro _
        refine wpD_lo (fun i => (every n).length - i) (fun i => i ≤ (every n).length ∧ ∀ j, j < i → wordB next.length (words.getD j []) = true ∧ atA next (((every n).getD j []).getD 0 0) (words.getD j []) = atA next (((every n).getD j []).getD 1 0) (words.getD j []))
          (fun i : Nat => ⟨L .any [(2, .ptr 2 (vs 0 0) 0), (3, .ptr 3 (vs 1 0) 0), (31, .own 14 v), (32, iv (every n).length), (33, iv i)], L .gone [(2, .box (vs 0 0) [iv n, .ro none 1 (rwn next)]), (3, .box (vs 1 0) [iv 1, .ro none 1 (rwn pairs), .ro none 1 (rwn words)]), (14, .row v 1 true (rws (every n)))]⟩) 0 ⟨by simp, fun j hj => by omega⟩ (by simp only [Bz1y, go_sem, yz0, Int.reduceLT, reduceLE, reduceToNat, reduceNeg, Nat.reduceLT, reduceLeDiff, reduceMul, reduceSub, reduceIte, reduceEqDiff, reduceAdd, reduceCtorEq]; try rfl) ?_
        rintro i ⟨hi, hall⟩
        by_cases hlt : (i : Int) < (every n).length
        · have hlt1 : i < (every n).length := by omega
          have hlt2 : i < words.length := by omega
          obtain ⟨a, b, ha, hab, hb, hget⟩ := every_get (by omega) hlt1
          have hni : IntKind.i64.wrap (i : Int) = i := w64 (by omega)
          simp only [Bz1y, Bz6c, Bz6b, Bzbn, Bzbm, rws_getD hlt1, rwn_getD hlt2, decide_eq_true hlt, go_sem, yz0, Int.reduceLT, reduceLE, reduceToNat, reduceNeg, Nat.reduceLT, reduceLeDiff, reduceMul, reduceSub, reduceIte, reduceEqDiff, reduceAdd, reduceCtorEq]
          refine ⟨⟨by omega, hlt1⟩, hlt1, ⟨by omega, hlt2⟩, hlt2, ?_⟩
          intro vs3
          refine yz2 (k_isWord n next (words.getD i []) ⟨l1, l2⟩) qCS trivial ?_
          cases hw : wordB next.length (words.getD i []) with
          | false =>
            have hf : rightB n next 1 pairs words = false := right1_f fun h => by have := (h.2.2 i hlt1).1; rw [hw] at this; cases this
            simp only [Bz1x, hf, go_sem, yz0, Int.reduceLT, reduceLE, reduceToNat, reduceNeg, Nat.reduceLT, reduceLeDiff, reduceMul, reduceSub, reduceIte, reduceEqDiff, reduceAdd, reduceCtorEq]
          | true =>
            simp only [go_sem, yz0, Int.reduceLT, reduceLE, reduceToNat, reduceNeg, Nat.reduceLT, reduceLeDiff, reduceMul, reduceSub, reduceIte, reduceEqDiff, reduceAdd, reduceCtorEq]
            refine call_rowI (k_image n next ((every n).getD i []) (words.getD i []) A (by rw [hget]; intro x hx; simp at hx; omega) (wordB_iff.1 hw).2 (by rw [hget]; simp)) qCS rfl ⟨_, rfl⟩ ?_
            rintro ys v4 rfl
            simp only [go_sem, yz0, Int.reduceLT, reduceLE, reduceToNat, reduceNeg, Nat.reduceLT, reduceLeDiff, reduceMul, reduceSub, reduceIte, reduceEqDiff, reduceAdd, reduceCtorEq]
            intro hM4
            have hcmp := img2 (next := next) (a := a) (b := b) (w := words.getD i [])
            rw [← hget] at hcmp
            have hg0 : ((every n).getD i []).getD 0 0 = a := by rw [hget]; rfl
            have hg1 : ((every n).getD i []).getD 1 0 = b := by rw [hget]; rfl
            by_cases hz : (imgL next ((every n).getD i []) (words.getD i [])).length = 1
            · have e4 : (((imgL next ((every n).getD i []) (words.getD i [])).length : Int) != 1) = false := bneF (by omega)
              simp only [Bz1x, Bzbo, e4, nat1 i _ hlt1 hMe, go_sem, yz0, Int.reduceLT, reduceLE, reduceToNat, reduceNeg, Nat.reduceLT, reduceLeDiff, reduceMul, reduceSub, reduceIte, reduceEqDiff, reduceAdd, reduceCtorEq]
              refine ⟨i + 1, by omega, ⟨by omega, fun j hj => ?_⟩, rfl⟩
              by_cases hji : j < i
              · exact hall j hji
              · have : j = i := by omega
                subst this
                rw [hg0, hg1]
                exact ⟨hw, hcmp.1 hz⟩
            · have e4 : (((imgL next ((every n).getD i []) (words.getD i [])).length : Int) != 1) = true := bneT (by omega)
              have hf : rightB n next 1 pairs words = false := right1_f fun h => hz (hcmp.2 (by have := (h.2.2 i hlt1).2; rwa [hg0, hg1] at this))
              simp only [Bz1x, e4, hf, go_sem, yz0, Int.reduceLT, reduceLE, reduceToNat, reduceNeg, Nat.reduceLT, reduceLeDiff, reduceMul, reduceSub, reduceIte, reduceEqDiff, reduceAdd, reduceCtorEq]
        · have hfin : i = (every n).length := by omega
          have ht : rightB n next 1 pairs words = true := right1_t ⟨by omega, hle, fun j hj => hall j (by omega)⟩
          simp only [Bz1y, Bz6c, Bz6b, Bzbq, decide_eq_false hlt, ht, go_sem, yz0, Int.reduceLT, reduceLE, reduceToNat, reduceNeg, Nat.reduceLT, reduceLeDiff, reduceMul, reduceSub, reduceIte, reduceEqDiff, reduceAdd, reduceCtorEq]
      · have e0 : ((words.length : Int) != ((every n).length : Int)) = true := by simp; omega
        have hf : rightB n next 1 pairs words = false := right1_f fun h => hle h.2.1
        simp only [Bz1w, e0, hf, go_sem, yz0, Int.reduceLT, reduceLE, reduceToNat, reduceNeg, Nat.reduceLT, reduceLeDiff, reduceMul, reduceSub, reduceIte, reduceEqDiff, reduceAdd, reduceCtorEq]
  · have e1 : (kind == 1) = false := beq_false_of_ne hk1
    by_cases hk2 : kind = 2
    · subst hk2
      by_cases hw0 : (0 : Int) < words.length
      · have hf : rightB n next 2 pairs words = false := right2_f fun h => by have := h.1; omega
        simp only [Bz9, Bz21, Bz1z, e1, beq_self_eq_true, decide_eq_true hw0, hf, go_sem, yz0, Int.reduceLT, reduceLE, reduceToNat, reduceNeg, Nat.reduceLT, reduceLeDiff, reduceMul, reduceSub, reduceIte, reduceEqDiff, reduceAdd, reduceCtorEq]
        try (intro _; trivial)
      simp only [Bz9, Bz21, e1, beq_self_eq_true, decide_eq_false hw0, go_sem, yz0, Int.reduceLT, reduceLE, reduceToNat, reduceNeg, Nat.reduceLT, reduceLeDiff, reduceMul, reduceSub, reduceIte, reduceEqDiff, reduceAdd, reduceCtorEq]
      intro hMw hMp
      by_cases hp0 : pairs.length = 0
      · have e0 : ((pairs.length : Int) == 0) = true := by simp [hp0]
        have hf : rightB n next 2 pairs words = false := right2_f fun h => by have := h.2.1; omega
        simp only [Bz1z, e0, hf, go_sem, yz0, Int.reduceLT, reduceLE, reduceToNat, reduceNeg, Nat.reduceLT, reduceLeDiff, reduceMul, reduceSub, reduceIte, reduceEqDiff, reduceAdd, reduceCtorEq]
      have e0 : ((pairs.length : Int) == 0) = false := beqF (by omega)
      simp only [Bz1z, Bzbv, Bzbt, e0, go_sem, yz0, Int.reduceLT, reduceLE, reduceToNat, reduceNeg, Nat.reduceLT, reduceLeDiff, reduceMul, reduceSub, reduceIte, reduceEqDiff, reduceAdd, reduceCtorEq]
      intro _
      refine wpD_lo (fun i => pairs.length - i) (fun i => i ≤ pairs.length ∧ ∀ j, j < i → pairs.getD j [] ∈ every n ∧ (0 < j → cmpL (pairs.getD (j - 1) []) (pairs.getD j []) < 0) ∧ ∀ l : Nat, l < next.length → imgL next (pairs.getD j []) [(l : Int)] ∈ pairs)
        (fun i : Nat => ⟨L .any [(2, .ptr 2 (vs 0 0) 0), (3, .ptr 3 (vs 1 0) 0), (5, .own 14 v), (6, .clo nz5 []), (69, .ro none 1 (rwn pairs)), (70, iv pairs.length), (71, iv i)], L .gone [(2, .box (vs 0 0) [iv n, .ro none 1 (rwn next)]), (3, .box (vs 1 0) [iv 2, .ro none 1 (rwn pairs), .ro none 1 (rwn words)]), (14, .row v 1 true (rws (every n)))]⟩) 0 ⟨by simp, fun j hj => by omega⟩ (by simp only [Bz20, go_sem, yz0, Int.reduceLT, reduceLE, reduceToNat, reduceNeg, Nat.reduceLT, reduceLeDiff, reduceMul, reduceSub, reduceIte, reduceEqDiff, reduceAdd, reduceCtorEq]; try rfl) ?_
      rintro i ⟨hi, hall⟩
      by_cases hlt : (i : Int) < pairs.length
      · have hlt1 : i < pairs.length := by omega
        have hni : IntKind.i64.wrap (i : Int) = i := w64 (by omega)
        simp only [Bz20, Bz6j, Bz6i, Bzbs, rwn_getD hlt1, decide_eq_true hlt, go_sem, yz0, Int.reduceLT, reduceLE, reduceToNat, reduceNeg, Nat.reduceLT, reduceLeDiff, reduceMul, reduceSub, reduceIte, reduceEqDiff, reduceAdd, reduceCtorEq]
        refine ⟨⟨by omega, hlt1⟩, hlt1, ?_⟩
        intro vs3
        refine yz2 (k_has (every n) (pairs.getD i [])) qCS trivial ?_
        by_cases hmem : pairs.getD i [] ∈ every n
        · obtain ⟨a, b, ha, hab, hb, _, hpab⟩ := (pairsL_mem (by omega)).1 hmem
          by_cases h0 : (i : Int) > 0
          · have hi1 : i - 1 < pairs.length := by omega
            have w2 : IntKind.i64.wrap ((i : Int) - 1) = ((i - 1 : Nat) : Int) := by rw [w64 (by omega)]; omega
            simp only [decide_eq_true hmem, decide_eq_true h0, w2, rwn_getD hi1, go_sem, yz0, Int.reduceLT, reduceLE, reduceToNat, reduceNeg, Nat.reduceLT, reduceLeDiff, reduceMul, reduceSub, reduceIte, reduceEqDiff, reduceAdd, reduceCtorEq]
            refine ⟨⟨by omega, hi1⟩, hi1, ?_⟩
            refine yz2 (k_CompareL (pairs.getD (i - 1) []) (pairs.getD i [])) qCS trivial ?_
            by_cases hcm : cmpL (pairs.getD (i - 1) []) (pairs.getD i []) ≥ 0
            · have hf : rightB n next 2 pairs words = false := right2_f fun h => by have := (h.2.2 i hlt1).2.1 (by omega); omega
              simp only [Bzp, decide_eq_true hcm, hf, go_sem, yz0, Int.reduceLT, reduceLE, reduceToNat, reduceNeg, Nat.reduceLT, reduceLeDiff, reduceMul, reduceSub, reduceIte, reduceEqDiff, reduceAdd, reduceCtorEq]
            · simp only [Bzp, Bz6g, decide_eq_false hcm, go_sem, yz0, Int.reduceLT, reduceLE, reduceToNat, reduceNeg, Nat.reduceLT, reduceLeDiff, reduceMul, reduceSub, reduceIte, reduceEqDiff, reduceAdd, reduceCtorEq]
              have hord : 0 < i → cmpL (pairs.getD (i - 1) []) (pairs.getD i []) < 0 := fun _ => by omega
              intro vs4
              refine yz2 (k_letters n next) qCS trivial ?_
              simp only [Bz6f, go_sem, yz0, Int.reduceLT, reduceLE, reduceToNat, reduceNeg, Nat.reduceLT, reduceLeDiff, reduceMul, reduceSub, reduceIte, reduceEqDiff, reduceAdd, reduceCtorEq]
              refine wpD_lo (fun k => next.length - k) (fun k => k ≤ next.length ∧ ∀ l : Nat, l < k → imgL next (pairs.getD i []) [(l : Int)] ∈ pairs)
                (fun k : Nat => ⟨L .any [(2, .ptr 2 (vs 0 0) 0), (3, .ptr 3 (vs 1 0) 0), (5, .own 14 v), (6, .clo nz5 []), (11, .ro none 1 (ints (pairs.getD i []))), (69, .ro none 1 (rwn pairs)), (70, iv pairs.length), (71, iv i), (97, iv next.length), (98, iv k)], L .gone [(2, .box (vs 0 0) [iv n, .ro none 1 (rwn next)]), (3, .box (vs 1 0) [iv 2, .ro none 1 (rwn pairs), .ro none 1 (rwn words)]), (14, .row v 1 true (rws (every n)))]⟩) 0 ⟨by simp, fun j hj => by omega⟩ (by simp only [Bz3, go_sem, yz0, Int.reduceLT, reduceLE, reduceToNat, reduceNeg, Nat.reduceLT, reduceLeDiff, reduceMul, reduceSub, reduceIte, reduceEqDiff, reduceAdd, reduceCtorEq]; try rfl) ?_
              rintro k ⟨hk, hl⟩
              by_cases hkl : (k : Int) < next.length
              · have hkl1 : k < next.length := by omega
                have w3 : IntKind.i64.wrap ((k : Int) + 1) = ((k + 1 : Nat) : Int) := by rw [w64 (by omega)]; omega
                simp only [Bz3, Bzs, Bzr, Bz6d, decide_eq_true hkl, go_sem, yz0, Int.reduceLT, reduceLE, reduceToNat, reduceNeg, Nat.reduceLT, reduceLeDiff, reduceMul, reduceSub, reduceIte, reduceEqDiff, reduceAdd, reduceCtorEq]
                intro vs5
                refine ⟨⟨_, rfl, rfl⟩, ?_⟩
                refine call_rowI (k_image n next (pairs.getD i []) [(k : Int)] A (by rw [hpab]; intro x hx; simp at hx; omega) (by intro x hx; simp at hx; omega) (by rw [hpab]; simp)) (by simp only [List.map_cons, List.map_nil, rowIs, boxIs, coe_argN, coe_argNs, coe_ro_o, coeL_nil, yzi, coe_any, coe_val, coe_ro, yzm, yzl, coe_st, yzk, coe_rp, yzn, coe_clo, coe_own0, coe_ptr0, yzh, coeL_rws, coeL_rwn, L_hit, L_miss, L_nil, reduceEqDiff, ne_eq, reduceCtorEq, not_false_eq_true, true_and, and_true, and_self, exists_eq_left, exists_eq_right, List.mem_cons, List.not_mem_nil, or_false, AObj.row.injEq, AObj.box.injEq, exists_eq_left', exists_and_left, exists_eq, Nat.zero_lt_one, Nat.lt_add_one, List.map_cons, List.map_nil, AObj.ver, Nat.reduceLT, not_true_eq_false]) rfl ⟨_, rfl⟩ ?_
                rintro ys v6 rfl
                simp only [go_sem, yz0, Int.reduceLT, reduceLE, reduceToNat, reduceNeg, Nat.reduceLT, reduceLeDiff, reduceMul, reduceSub, reduceIte, reduceEqDiff, reduceAdd, reduceCtorEq]
                refine yz2 (k_has pairs (imgL next (pairs.getD i []) [(k : Int)])) qCS trivial ?_
                by_cases hin : imgL next (pairs.getD i []) [(k : Int)] ∈ pairs
                · simp only [Bzq, Bz6e, decide_eq_true hin, w3, go_sem, yz0, Int.reduceLT, reduceLE, reduceToNat, reduceNeg, Nat.reduceLT, reduceLeDiff, reduceMul, reduceSub, reduceIte, reduceEqDiff, reduceAdd, reduceCtorEq]
                  refine ⟨k + 1, by omega, ⟨by omega, fun l hl2 => ?_⟩, rfl⟩
                  by_cases hlk : l < k
                  · exact hl l hlk
                  · have : l = k := by omega
                    subst this; exact hin
                · have hf : rightB n next 2 pairs words = false := right2_f fun h => hin ((h.2.2 i hlt1).2.2 k hkl1)
                  simp only [Bzq, decide_eq_false hin, hf, go_sem, yz0, Int.reduceLT, reduceLE, reduceToNat, reduceNeg, Nat.reduceLT, reduceLeDiff, reduceMul, reduceSub, reduceIte, reduceEqDiff, reduceAdd, reduceCtorEq]
              · have hkf : k = next.length := by omega
                simp only [Bz3, Bzs, Bzr, Bz6h, decide_eq_false hkl, nat1 i _ hlt1 hMp, go_sem, yz0, Int.reduceLT, reduceLE, reduceToNat, reduceNeg, Nat.reduceLT, reduceLeDiff, reduceMul, reduceSub, reduceIte, reduceEqDiff, reduceAdd, reduceCtorEq]
                refine ⟨i + 1, by omega, ⟨by omega, fun j hj => ?_⟩, rfl⟩
                by_cases hji : j < i
                · exact hall j hji
                · have : j = i := by omega
                  subst this
                  exact ⟨hmem, hord, fun l hl2 => hl l (by omega)⟩
          · simp only [Bzp, Bz6g, decide_eq_true hmem, decide_eq_false h0, go_sem, yz0, Int.reduceLT, reduceLE, reduceToNat, reduceNeg, Nat.reduceLT, reduceLeDiff, reduceMul, reduceSub, reduceIte, reduceEqDiff, reduceAdd, reduceCtorEq]
            have hord : 0 < i → cmpL (pairs.getD (i - 1) []) (pairs.getD i []) < 0 := fun h => by omega
            intro vs4
            refine yz2 (k_letters n next) qCS trivial ?_
            simp only [Bz6f, go_sem, yz0, Int.reduceLT, reduceLE, reduceToNat, reduceNeg, Nat.reduceLT, reduceLeDiff, reduceMul, reduceSub, reduceIte, reduceEqDiff, reduceAdd, reduceCtorEq]
            refine wpD_lo (fun k => next.length - k) (fun k => k ≤ next.length ∧ ∀ l : Nat, l < k → imgL next (pairs.getD i []) [(l : Int)] ∈ pairs)
              (fun k : Nat => ⟨L .any [(2, .ptr 2 (vs 0 0) 0), (3, .ptr 3 (vs 1 0) 0), (5, .own 14 v), (6, .clo nz5 []), (11, .ro none 1 (ints (pairs.getD i []))), (69, .ro none 1 (rwn pairs)), (70, iv pairs.length), (71, iv i), (97, iv next.length), (98, iv k)], L .gone [(2, .box (vs 0 0) [iv n, .ro none 1 (rwn next)]), (3, .box (vs 1 0) [iv 2, .ro none 1 (rwn pairs), .ro none 1 (rwn words)]), (14, .row v 1 true (rws (every n)))]⟩) 0 ⟨by simp, fun j hj => by omega⟩ (by simp only [Bz3, go_sem, yz0, Int.reduceLT, reduceLE, reduceToNat, reduceNeg, Nat.reduceLT, reduceLeDiff, reduceMul, reduceSub, reduceIte, reduceEqDiff, reduceAdd, reduceCtorEq]; try rfl) ?_
            rintro k ⟨hk, hl⟩
            by_cases hkl : (k : Int) < next.length
            · have hkl1 : k < next.length := by omega
              have w3 : IntKind.i64.wrap ((k : Int) + 1) = ((k + 1 : Nat) : Int) := by rw [w64 (by omega)]; omega
              simp only [Bz3, Bzs, Bzr, Bz6d, decide_eq_true hkl, go_sem, yz0, Int.reduceLT, reduceLE, reduceToNat, reduceNeg, Nat.reduceLT, reduceLeDiff, reduceMul, reduceSub, reduceIte, reduceEqDiff, reduceAdd, reduceCtorEq]
              intro vs5
              refine ⟨⟨_, rfl, rfl⟩, ?_⟩
              refine call_rowI (k_image n next (pairs.getD i []) [(k : Int)] A (by rw [hpab]; intro x hx; simp at hx; omega) (by intro x hx; simp at hx; omega) (by rw [hpab]; simp)) (by simp only [List.map_cons, List.map_nil, rowIs, boxIs, coe_argN, coe_argNs, coe_ro_o, coeL_nil, yzi, coe_any, coe_val, coe_ro, yzm, yzl, coe_st, yzk, coe_rp, yzn, coe_clo, coe_own0, coe_ptr0, yzh, coeL_rws, coeL_rwn, L_hit, L_miss, L_nil, reduceEqDiff, ne_eq, reduceCtorEq, not_false_eq_true, true_and, and_true, and_self, exists_eq_left, exists_eq_right, List.mem_cons, List.not_mem_nil, or_false, AObj.row.injEq, AObj.box.injEq, exists_eq_left', exists_and_left, exists_eq, Nat.zero_lt_one, Nat.lt_add_one, List.map_cons, List.map_nil, AObj.ver, Nat.reduceLT, not_true_eq_false]) rfl ⟨_, rfl⟩ ?_
              rintro ys v6 rfl
              simp only [go_sem, yz0, Int.reduceLT, reduceLE, reduceToNat, reduceNeg, Nat.reduceLT, reduceLeDiff, reduceMul, reduceSub, reduceIte, reduceEqDiff, reduceAdd, reduceCtorEq]
              refine yz2 (k_has pairs (imgL next (pairs.getD i []) [(k : Int)])) qCS trivial ?_
              by_cases hin : imgL next (pairs.getD i []) [(k : Int)] ∈ pairs
              · simp only [Bzq, Bz6e, decide_eq_true hin, w3, go_sem, yz0, Int.reduceLT, reduceLE, reduceToNat, reduceNeg, Nat.reduceLT, reduceLeDiff, reduceMul, reduceSub, reduceIte, reduceEqDiff, reduceAdd, reduceCtorEq]
                refine ⟨k + 1, by omega, ⟨by omega, fun l hl2 => ?_⟩, rfl⟩
                by_cases hlk : l < k
                · exact hl l hlk
                · have : l = k := by omega
                  subst this; exact hin
              · have hf : rightB n next 2 pairs words = false := right2_f fun h => hin ((h.2.2 i hlt1).2.2 k hkl1)
                simp only [Bzq, decide_eq_false hin, hf, go_sem, yz0, Int.reduceLT, reduceLE, reduceToNat, reduceNeg, Nat.reduceLT, reduceLeDiff, reduceMul, reduceSub, reduceIte, reduceEqDiff, reduceAdd, reduceCtorEq]
            · have hkf : k = next.length := by omega
              simp only [Bz3, Bzs, Bzr, Bz6h, decide_eq_false hkl, nat1 i _ hlt1 hMp, go_sem, yz0, Int.reduceLT, reduceLE, reduceToNat, reduceNeg, Nat.reduceLT, reduceLeDiff, reduceMul, reduceSub, reduceIte, reduceEqDiff, reduceAdd, reduceCtorEq]
              refine ⟨i + 1, by omega, ⟨by omega, fun j hj => ?_⟩, rfl⟩
              by_cases hji : j < i
              · exact hall j hji
              · have : j = i := by omega
                subst this
                exact ⟨hmem, hord, fun l hl2 => hl l (by omega)⟩
        · have hf : rightB n next 2 pairs words = false := right2_f fun h => hmem (h.2.2 i hlt1).1
          simp only [Bzp, decide_eq_false hmem, hf, go_sem, yz0, Int.reduceLT, reduceLE, reduceToNat, reduceNeg, Nat.reduceLT, reduceLeDiff, reduceMul, reduceSub, reduceIte, reduceEqDiff, reduceAdd, reduceCtorEq]
      · have hfin : i = pairs.length := by omega
        have ht : rightB n next 2 pairs words = true := right2_t ⟨by omega, by omega, fun j hj => hall j (by omega)⟩
        simp only [Bz20, Bz6j, Bz6i, Bzbu, decide_eq_false hlt, ht, go_sem, yz0, Int.reduceLT, reduceLE, reduceToNat, reduceNeg, Nat.reduceLT, reduceLeDiff, reduceMul, reduceSub, reduceIte, reduceEqDiff, reduceAdd, reduceCtorEq]
    · have e2 : (kind == 2) = false := beq_false_of_ne hk2
      simp only [Bz9, Bz21, Bzbx, e1, e2, right_f hk1 hk2, go_sem, yz0, Int.reduceLT, reduceLE, reduceToNat, reduceNeg, Nat.reduceLT, reduceLeDiff, reduceMul, reduceSub, reduceIte, reduceEqDiff, reduceAdd, reduceCtorEq]
end Go.Ab
namespace Go.Ab
open Go.Proofs
theorem fidx_neg (x : List Int) : ∀ (xs : List (List Int)) (i : Nat), decide (fidx (fun y => decide (y = x)) xs i < 0) = decide (x ∉ xs)
  | [], i => by simp [fidx]
  | y :: xs, i => by
    have h := fidx_neg x xs (i + 1)
    simp only [fidx]
    by_cases hy : y = x
    · have : x ∈ y :: xs := by simp [hy]
      simp [hy]
    · have : (x ∉ y :: xs) ↔ (x ∉ xs) := by simp [Ne.symm hy]
      simp only [hy, decide_false, Bool.false_eq_true, if_false, h]
      exact decide_eq_decide.2 this.symm
def mergeW (n : Int) (next words : List (List Int)) : Prop := words.length = (every n).length ∧
  ∀ i, i < (every n).length → wordB next.length (words.getD i []) = true ∧ atA next (((every n).getD i []).getD 0 0) (words.getD i []) = atA next (((every n).getD i []).getD 1 0) (words.getD i [])
def apartW (n : Int) (next pairs : List (List Int)) : Prop := 0 < pairs.length ∧
  ∀ i, i < pairs.length → pairs.getD i [] ∈ every n ∧ (0 < i → cmpL (pairs.getD (i - 1) []) (pairs.getD i []) < 0) ∧ ∀ l : Nat, l < next.length → imgL next (pairs.getD i []) [(l : Int)] ∈ pairs
open Classical in
noncomputable def mwB (n : Int) (next words : List (List Int)) : Bool := decide (mergeW n next words)
open Classical in
noncomputable def awB (n : Int) (next pairs : List (List Int)) : Bool := decide (apartW n next pairs)
theorem mwB_t {n : Int} {next words : List (List Int)} (h : mergeW n next words) : mwB n next words = true := by simp [mwB, h]
theorem mwB_f {n : Int} {next words : List (List Int)} (h : ¬ mergeW n next words) : mwB n next words = false := by simp [mwB, h]
theorem awB_t {n : Int} {next words : List (List Int)} (h : apartW n next words) : awB n next words = true := by simp [awB, h]
theorem awB_f {n : Int} {next words : List (List Int)} (h : ¬ apartW n next words) : awB n next words = false := by simp [awB, h]
theorem every_iff {n : Int} (hn : 0 ≤ n) {x : List Int} : x ∈ every n ↔ x.length = 2 ∧ setB n x = true := by
  rw [pairsL_mem hn, setB_iff]
  constructor
  · rintro ⟨a, b, h1, h2, h3, _, rfl⟩
    refine ⟨rfl, ?_, fun y hy => ?_⟩
    · simp [SI]; omega
    · simp at hy; omega
  · rintro ⟨h1, h2, h3⟩
    match x, h1, h2, h3 with
    | [a, b], _, h2, h3 =>
      have ha := h3 a (by simp)
      have hb := h3 b (by simp)
      have hab : a < b := by simpa [SI] using h2
      exact ⟨a, b, ha.1, hab, hb.2, rfl, rfl⟩
theorem k_l02Before (p q : List Int) (hp : p.length = 2) (hq : q.length = 2) : Fun Try.prog nz3o [.ro none 1 (ints p), .ro none 1 (ints q)] (bv (decide (cmpL p q < 0))) := by
  refine fun_of mixed cziu rfl ⟨rfl, trivial⟩ ?_
  have p0 : 0 < p.length := by omega
  have p1 : 1 < p.length := by omega
  have q0 : 0 < q.length := by omega
  have q1 : 1 < q.length := by omega
  have hc : decide (cmpL p q < 0) = (decide (p.getD 0 0 < q.getD 0 0) || ((p.getD 0 0 == q.getD 0 0) && decide (p.getD 1 0 < q.getD 1 0))) := by
    match p, q, hp, hq with
    | [a, b], [c, d], _, _ =>
      simp only [cmpL, List.getD_cons_zero, List.getD_cons_succ]
      rcases Int.lt_trichotomy a c with h | h | h
      · simp [cmpI, h]
      · subst h
        rcases Int.lt_trichotomy b d with h | h | h
        · simp [cmpI, h]
        · subst h; simp [cmpI]
        · have h3 : ¬ b < d := by omega
          simp [cmpI, h, h3]
      · have h3 : ¬ a < c := by omega
        have h4 : a ≠ c := by omega
        simp [cmpI, h, h3, h4]
  rw [hc]
  by_cases h1 : p.getD 0 0 < q.getD 0 0
  · simp only [Az2o, Bz2n, yz4 p0, yz4 q0, decide_eq_true h1, Bool.true_or, go_sem, yz0, Int.reduceLT, reduceLE, reduceToNat, reduceNeg, Nat.reduceLT, reduceLeDiff, reduceMul, reduceSub, reduceIte, reduceEqDiff, reduceAdd, reduceCtorEq]
    exact ⟨p0, p0, q0, q0⟩
  · cases h2 : (p.getD 0 0 == q.getD 0 0) with
    | false =>
      simp only [Az2o, Bz2n, yz4 p0, yz4 q0, decide_eq_false h1, h2, Bool.false_or, Bool.false_and, go_sem, yz0, Int.reduceLT, reduceLE, reduceToNat, reduceNeg, Nat.reduceLT, reduceLeDiff, reduceMul, reduceSub, reduceIte, reduceEqDiff, reduceAdd, reduceCtorEq]
      exact ⟨p0, p0, q0, q0, p0, p0, q0, q0⟩
    | true =>
      simp only [Az2o, Bz2n, yz4 p0, yz4 q0, yz4 p1, yz4 q1, decide_eq_false h1, h2, Bool.false_or, Bool.true_and, go_sem, yz0, Int.reduceLT, reduceLE, reduceToNat, reduceNeg, Nat.reduceLT, reduceLeDiff, reduceMul, reduceSub, reduceIte, reduceEqDiff, reduceAdd, reduceCtorEq]
      exact ⟨p0, p0, q0, q0, p0, p0, q0, q0, p1, p1, q1, q1⟩
theorem k_l02Merges (n : Int) (next words : List (List Int)) (A : Aut n next) : Fun Try.prog nz3c [autP n next, .ro none 1 (rwn words)] (bv (mwB n next words)) := by
  refine fun_of mixed czi8 rfl ⟨rfl, trivial⟩ ?_
  have n1 := A.n1
  have n2 := A.n2
  have l2 := A.l2
  have hM := maxLen_le
  have hel := pairsL_len ⟨n1, n2⟩ (p := fun _ _ => true)
  simp only [Azdx, Bzdw, go_sem, yz0, Int.reduceLT, reduceLE, reduceToNat, reduceNeg, Nat.reduceLT, reduceLeDiff, reduceMul, reduceSub, reduceIte, reduceEqDiff, reduceAdd, reduceCtorEq]
  intro vs
  refine call_rowR (k_l02Pairs n ⟨n1, n2⟩) qCS rfl ⟨_, rfl⟩ ?_
  rintro xss v rfl
  simp only [Bzdv, go_sem, yz0, Int.reduceLT, reduceLE, reduceToNat, reduceNeg, Nat.reduceLT, reduceLeDiff, reduceMul, reduceSub, reduceIte, reduceEqDiff, reduceAdd, reduceCtorEq]
  intro hMw hMe
  by_cases hle : words.length = (every n).length
  · have e0 : ((words.length : Int) != ((every n).length : Int)) = false := bneF (by omega)
    simp only [Bz75, Bzdu, Bzds, e0, go_sem, yz0, Int.reduceLT, reduceLE, reduceToNat, reduceNeg, Nat.reduceLT, reduceLeDiff, reduceMul, reduceSub, reduceIte, reduceEqDiff, reduceAdd, reduceCtorEq]
    refine wpD_lo (fun i => (every n).length - i) (fun i => i ≤ (every n).length ∧ ∀ j, j < i → wordB next.length (words.getD j []) = true ∧ atA next (((every n).getD j []).getD 0 0) (words.getD j []) = atA next (((every n).getD j []).getD 1 0) (words.getD j []))
      (fun i : Nat => ⟨L .any [(0, autP n next), (1, .ro none 1 (rwn words)), (5, .own 11 v), (6, iv i)], L .gone [(11, .row v 1 true (rws (every n)))]⟩) 0 ⟨by simp, fun j hj => by omega⟩ (by simp only [Bz2a, go_sem, yz0, Int.reduceLT, reduceLE, reduceToNat, reduceNeg, Nat.reduceLT, reduceLeDiff, reduceMul, reduceSub, reduceIte, reduceEqDiff, reduceAdd, reduceCtorEq]; try rfl) ?_
    rintro i ⟨hi, hall⟩
    by_cases hlt : (i : Int) < (every n).length
    · have hlt1 : i < (every n).length := by omega
      have hlt2 : i < words.length := by omega
      obtain ⟨a, b, ha, hab, hb, hget⟩ := every_get (by omega) hlt1
      have h20 : 0 < ((every n).getD i []).length := by rw [hget]; simp
      have h21 : 1 < ((every n).getD i []).length := by rw [hget]; simp
      have hg0 : ((every n).getD i []).getD 0 0 = a := by rw [hget]; rfl
      have hg1 : ((every n).getD i []).getD 1 0 = b := by rw [hget]; rfl
      simp only [Bz2a, Bz76, Bz77, rwn_getD hlt2, decide_eq_true hlt, go_sem, yz0, Int.reduceLT, reduceLE, reduceToNat, reduceNeg, Nat.reduceLT, reduceLeDiff, reduceMul, reduceSub, reduceIte, reduceEqDiff, reduceAdd, reduceCtorEq]
      intro _ vs2
      refine ⟨⟨by omega, hlt2⟩, hlt2, ?_⟩
      refine yz2 (k_l01Word n next (words.getD i []) (by omega)) qCS trivial ?_
      cases hw : wordB next.length (words.getD i []) with
      | false =>
        have hf : mwB n next words = false := mwB_f fun h => by have := (h.2 i hlt1).1; rw [hw] at this; cases this
        simp only [Bz29, hf, go_sem, yz0, Int.reduceLT, reduceLE, reduceToNat, reduceNeg, Nat.reduceLT, reduceLeDiff, reduceMul, reduceSub, reduceIte, reduceEqDiff, reduceAdd, reduceCtorEq]
      | true =>
        have hww := (wordB_iff.1 hw).2
        simp only [rws_getD hlt1, rwn_getD hlt2, yz4 h20, yz4 h21, hg0, hg1, go_sem, yz0, Int.reduceLT, reduceLE, reduceToNat, reduceNeg, Nat.reduceLT, reduceLeDiff, reduceMul, reduceSub, reduceIte, reduceEqDiff, reduceAdd, reduceCtorEq]
        refine ⟨⟨by omega, hlt1⟩, hlt1, h20, h20, ⟨by omega, hlt2⟩, hlt2, ?_⟩
        refine yz2 (k_l01To n next a (words.getD i []) A ⟨ha, by omega⟩ hww) qCS trivial ?_
        simp only [rws_getD hlt1, rwn_getD hlt2, yz4 h20, yz4 h21, hg0, hg1, go_sem, yz0, Int.reduceLT, reduceLE, reduceToNat, reduceNeg, Nat.reduceLT, reduceLeDiff, reduceMul, reduceSub, reduceIte, reduceEqDiff, reduceAdd, reduceCtorEq]
        refine ⟨⟨by omega, hlt1⟩, hlt1, h21, h21, ⟨by omega, hlt2⟩, hlt2, ?_⟩
        refine yz2 (k_l01To n next b (words.getD i []) A ⟨by omega, hb⟩ hww) qCS trivial ?_
        by_cases he : atA next a (words.getD i []) = atA next b (words.getD i [])
        · simp only [Bz29, Bzdr, bneF he, nat1 i _ hlt1 hMe, go_sem, yz0, Int.reduceLT, reduceLE, reduceToNat, reduceNeg, Nat.reduceLT, reduceLeDiff, reduceMul, reduceSub, reduceIte, reduceEqDiff, reduceAdd, reduceCtorEq]
          refine ⟨i + 1, by omega, ⟨by omega, fun j hj => ?_⟩, rfl⟩
          by_cases hji : j < i
          · exact hall j hji
          · have : j = i := by omega
            subst this
            rw [hg0, hg1]
            exact ⟨hw, he⟩
        · have hf : mwB n next words = false := mwB_f fun h => he (by have := (h.2 i hlt1).2; rwa [hg0, hg1] at this)
          simp only [Bz29, bneT he, hf, go_sem, yz0, Int.reduceLT, reduceLE, reduceToNat, reduceNeg, Nat.reduceLT, reduceLeDiff, reduceMul, reduceSub, reduceIte, reduceEqDiff, reduceAdd, reduceCtorEq]
    · have hfin : i = (every n).length := by omega
      have ht : mwB n next words = true := mwB_t ⟨hle, fun j hj => hall j (by omega)⟩
      simp only [Bz2a, Bz76, Bz77, Bzdt, decide_eq_false hlt, ht, go_sem, yz0, Int.reduceLT, reduceLE, reduceToNat, reduceNeg, Nat.reduceLT, reduceLeDiff, reduceMul, reduceSub, reduceIte, reduceEqDiff, reduceAdd, reduceCtorEq]
      try (intro _; trivial)
  · have e0 : ((words.length : Int) != ((every n).length : Int)) = true := bneT (by omega)
    have hf : mwB n next words = false := mwB_f fun h => hle h.1
    simp only [Bz75, e0, hf, go_sem, yz0, Int.reduceLT, reduceLE, reduceToNat, reduceNeg, Nat.reduceLT, reduceLeDiff, reduceMul, reduceSub, reduceIte, reduceEqDiff, reduceAdd, reduceCtorEq]
theorem k_l02Apart (n : Int) (next pairs : List (List Int)) (A : Aut n next) : Fun Try.prog nz3d [autP n next, .ro none 1 (rwn pairs)] (bv (awB n next pairs)) := by
  refine fun_of mixed czi9 rfl ⟨rfl, trivial⟩ ?_
  have n1 := A.n1
  have n2 := A.n2
  have l2 := A.l2
  have hM := maxLen_le
  simp only [Aze7, Bze6, Bzdy, go_sem, yz0, Int.reduceLT, reduceLE, reduceToNat, reduceNeg, Nat.reduceLT, reduceLeDiff, reduceMul, reduceSub, reduceIte, reduceEqDiff, reduceAdd, reduceCtorEq]
  refine wpD_lo (fun i => pairs.length - i) (fun i => i ≤ pairs.length ∧ ∀ j, j < i → pairs.getD j [] ∈ every n ∧ (0 < j → cmpL (pairs.getD (j - 1) []) (pairs.getD j []) < 0))
    (fun i : Nat => ⟨L .any [(0, autP n next), (1, .ro none 1 (rwn pairs)), (5, iv i)], L .gone []⟩) 0 ⟨by simp, fun j hj => by omega⟩ (by simp only [Bzt, go_sem, yz0, Int.reduceLT, reduceLE, reduceToNat, reduceNeg, Nat.reduceLT, reduceLeDiff, reduceMul, reduceSub, reduceIte, reduceEqDiff, reduceAdd, reduceCtorEq]; try rfl) ?_
  rintro i ⟨hi, hall⟩
  by_cases hlt : (i : Int) < pairs.length
  · have hlt1 : i < pairs.length := by omega
    by_cases hl2 : (pairs.getD i []).length = 2
    · have e2 : (((pairs.getD i []).length : Int) != 2) = false := bneF (by omega)
      simp only [Bzt, Bz2b, Bz2c, rwn_getD hlt1, e2, decide_eq_true hlt, go_sem, yz0, Int.reduceLT, reduceLE, reduceToNat, reduceNeg, Nat.reduceLT, reduceLeDiff, reduceMul, reduceSub, reduceIte, reduceEqDiff, reduceAdd, reduceCtorEq]
      intro hMp vs
      refine ⟨⟨by omega, hlt1⟩, hlt1, ?_⟩
      refine ⟨⟨by omega, hlt1⟩, hlt1, ?_⟩
      refine yz2 (k_l01Set n next (pairs.getD i []) ⟨n1, n2⟩) qCS trivial ?_
      cases hset : setB n (pairs.getD i []) with
      | false =>
        have hf : awB n next pairs = false := awB_f fun h => by have := ((every_iff (by omega)).1 (h.2 i hlt1).1).2; rw [hset] at this; cases this
        simp only [Bza, hf, go_sem, yz0, Int.reduceLT, reduceLE, reduceToNat, reduceNeg, Nat.reduceLT, reduceLeDiff, reduceMul, reduceSub, reduceIte, reduceEqDiff, reduceAdd, reduceCtorEq]
      | true =>
        have hmem : pairs.getD i [] ∈ every n := (every_iff (by omega)).2 ⟨hl2, hset⟩
        by_cases h0 : (i : Int) > 0
        · have hi1 : i - 1 < pairs.length := by omega
          have w2 : IntKind.i64.wrap ((i : Int) - 1) = ((i - 1 : Nat) : Int) := by rw [w64 (by omega)]; omega
          have hprev := ((every_iff (by omega)).1 (hall (i - 1) (by omega)).1).1
          simp only [decide_eq_true h0, w2, rwn_getD hlt1, rwn_getD hi1, go_sem, yz0, Int.reduceLT, reduceLE, reduceToNat, reduceNeg, Nat.reduceLT, reduceLeDiff, reduceMul, reduceSub, reduceIte, reduceEqDiff, reduceAdd, reduceCtorEq]
          refine ⟨⟨by omega, hi1⟩, hi1, ⟨by omega, hlt1⟩, hlt1, ?_⟩
          refine yz2 (k_l02Before (pairs.getD (i - 1) []) (pairs.getD i []) hprev hl2) qCS trivial ?_
          by_cases hcm : cmpL (pairs.getD (i - 1) []) (pairs.getD i []) < 0
          · simp only [Bza, Bz78, decide_eq_true hcm, nat1 i _ hlt1 hMp, go_sem, yz0, Int.reduceLT, reduceLE, reduceToNat, reduceNeg, Nat.reduceLT, reduceLeDiff, reduceMul, reduceSub, reduceIte, reduceEqDiff, reduceAdd, reduceCtorEq]
            refine ⟨i + 1, by omega, ⟨by omega, fun j hj => ?_⟩, rfl⟩
            by_cases hji : j < i
            · exact hall j hji
            · have : j = i := by omega
              subst this
              exact ⟨hmem, fun _ => hcm⟩
          · have hf : awB n next pairs = false := awB_f fun h => hcm ((h.2 i hlt1).2.1 (by omega))
            simp only [Bza, decide_eq_false hcm, hf, go_sem, yz0, Int.reduceLT, reduceLE, reduceToNat, reduceNeg, Nat.reduceLT, reduceLeDiff, reduceMul, reduceSub, reduceIte, reduceEqDiff, reduceAdd, reduceCtorEq]
        · simp only [Bza, Bz78, decide_eq_false h0, nat1 i _ hlt1 hMp, go_sem, yz0, Int.reduceLT, reduceLE, reduceToNat, reduceNeg, Nat.reduceLT, reduceLeDiff, reduceMul, reduceSub, reduceIte, reduceEqDiff, reduceAdd, reduceCtorEq]
          refine ⟨i + 1, by omega, ⟨by omega, fun j hj => ?_⟩, rfl⟩
          have : j = i := by omega
          subst this
          exact ⟨hmem, fun h => by omega⟩
    · have e2 : (((pairs.getD i []).length : Int) != 2) = true := bneT (by omega)
      have hf : awB n next pairs = false := awB_f fun h => hl2 ((every_iff (by omega)).1 (h.2 i hlt1).1).1
      simp only [Bzt, Bz2b, Bz2c, Bza, rwn_getD hlt1, e2, decide_eq_true hlt, hf, go_sem, yz0, Int.reduceLT, reduceLE, reduceToNat, reduceNeg, Nat.reduceLT, reduceLeDiff, reduceMul, reduceSub, reduceIte, reduceEqDiff, reduceAdd, reduceCtorEq]
      intro _
      first | exact ⟨⟨by omega, hlt1⟩, hlt1⟩ | exact ⟨hlt1, hlt1⟩ | (refine ⟨⟨by omega, hlt1⟩, hlt1, ?_⟩; intro _; trivial) | (intro _; exact ⟨⟨by omega, hlt1⟩, hlt1⟩)
  · have hfin : i = pairs.length := by omega
    subst hfin
    simp only [Bzt, Bz2b, Bz2c, Bze5, Bze3, decide_eq_false hlt, go_sem, yz0, Int.reduceLT, reduceLE, reduceToNat, reduceNeg, Nat.reduceLT, reduceLeDiff, reduceMul, reduceSub, reduceIte, reduceEqDiff, reduceAdd, reduceCtorEq]
    intro _
    refine wpD_lo (fun i => pairs.length - i) (fun i => i ≤ pairs.length ∧ ∀ j, j < i → ∀ l : Nat, l < next.length → imgL next (pairs.getD j []) [(l : Int)] ∈ pairs)
      (fun i : Nat => ⟨L .any [(0, autP n next), (1, .ro none 1 (rwn pairs)), (6, iv i)], L .gone []⟩) 0 ⟨by simp, fun j hj => by omega⟩ (by simp only [Bz2f, go_sem, yz0, Int.reduceLT, reduceLE, reduceToNat, reduceNeg, Nat.reduceLT, reduceLeDiff, reduceMul, reduceSub, reduceIte, reduceEqDiff, reduceAdd, reduceCtorEq]; try rfl) ?_
    rintro i ⟨hi, hall2⟩
    by_cases hlt : (i : Int) < pairs.length
    · have hlt1 : i < pairs.length := by omega
      obtain ⟨a, b, ha, hab, hb, _, hpab⟩ := (pairsL_mem (by omega)).1 (hall i hlt1).1
      simp only [Bz2f, Bz79, Bz7c, Bze1, decide_eq_true hlt, go_sem, yz0, Int.reduceLT, reduceLE, reduceToNat, reduceNeg, Nat.reduceLT, reduceLeDiff, reduceMul, reduceSub, reduceIte, reduceEqDiff, reduceAdd, reduceCtorEq]
      intro hMp
      refine wpD_lo (fun k => next.length - k) (fun k => k ≤ next.length ∧ ∀ l : Nat, l < k → imgL next (pairs.getD i []) [(l : Int)] ∈ pairs)
        (fun k : Nat => ⟨L .any [(0, autP n next), (1, .ro none 1 (rwn pairs)), (6, iv i), (7, iv k)], L .gone []⟩) 0 ⟨by simp, fun j hj => by omega⟩ (by simp only [Bz2e, go_sem, yz0, Int.reduceLT, reduceLE, reduceToNat, reduceNeg, Nat.reduceLT, reduceLeDiff, reduceMul, reduceSub, reduceIte, reduceEqDiff, reduceAdd, reduceCtorEq]; try rfl) ?_
      rintro k ⟨hk, hl⟩
      by_cases hkl : (k : Int) < next.length
      · have hkl1 : k < next.length := by omega
        have w3 : IntKind.i64.wrap ((k : Int) + 1) = ((k + 1 : Nat) : Int) := by rw [w64 (by omega)]; omega
        simp only [Bz2e, Bz7a, Bz7b, rwn_getD hlt1, decide_eq_true hkl, go_sem, yz0, Int.reduceLT, reduceLE, reduceToNat, reduceNeg, Nat.reduceLT, reduceLeDiff, reduceMul, reduceSub, reduceIte, reduceEqDiff, reduceAdd, reduceCtorEq]
        intro hMn vs2
        refine ⟨⟨by omega, hlt1⟩, hlt1, ⟨_, rfl, rfl⟩, ?_⟩
        refine call_rowI (k_l01Image n next (pairs.getD i []) [(k : Int)] A (by rw [hpab]; intro x hx; simp at hx; omega) (by intro x hx; simp at hx; omega) (by rw [hpab]; simp)) (by simp only [List.map_cons, List.map_nil, rowIs, boxIs, coe_argN, coe_argNs, coe_ro_o, coeL_nil, yzi, coe_any, coe_val, coe_ro, yzm, yzl, coe_st, yzk, coe_rp, yzn, coe_clo, coe_own0, coe_ptr0, yzh, coeL_rws, coeL_rwn, L_hit, L_miss, L_nil, reduceEqDiff, ne_eq, reduceCtorEq, not_false_eq_true, true_and, and_true, and_self, exists_eq_left, exists_eq_right, List.mem_cons, List.not_mem_nil, or_false, AObj.row.injEq, AObj.box.injEq, exists_eq_left', exists_and_left, exists_eq, Nat.zero_lt_one, Nat.lt_add_one, List.map_cons, List.map_nil, AObj.ver, Nat.reduceLT, not_true_eq_false]) rfl ⟨_, rfl⟩ ?_
        rintro ys v6 rfl
        simp only [Bzdz, go_sem, yz0, Int.reduceLT, reduceLE, reduceToNat, reduceNeg, Nat.reduceLT, reduceLeDiff, reduceMul, reduceSub, reduceIte, reduceEqDiff, reduceAdd, reduceCtorEq]
        intro vs7 hMt
        have hil : (imgL next (pairs.getD i []) [(k : Int)]).length ≤ 2 := by have := nrm_len ((pairs.getD i []).map fun s => atA next s [(k : Int)]); rw [List.length_map, hpab] at this; rw [hpab]; exact this
        by_cases h2l : (imgL next (pairs.getD i []) [(k : Int)]).length = 2
        · have e2 : (((imgL next (pairs.getD i []) [(k : Int)]).length : Int) != 2) = false := bneF (by omega)
          simp only [e2, go_sem, yz0, Int.reduceLT, reduceLE, reduceToNat, reduceNeg, Nat.reduceLT, reduceLeDiff, reduceMul, reduceSub, reduceIte, reduceEqDiff, reduceAdd, reduceCtorEq]
          refine yz2 (k_l01Find pairs (imgL next (pairs.getD i []) [(k : Int)])) qCS trivial ?_
          by_cases hin : imgL next (pairs.getD i []) [(k : Int)] ∈ pairs
          · have hin2 : decide (imgL next (pairs.getD i []) [(k : Int)] ∉ pairs) = false := decide_eq_false (not_not_intro hin)
            simp only [Bz2d, Bze0, fidx_neg, hin2, w3, go_sem, yz0, Int.reduceLT, reduceLE, reduceToNat, reduceNeg, Nat.reduceLT, reduceLeDiff, reduceMul, reduceSub, reduceIte, reduceEqDiff, reduceAdd, reduceCtorEq]
            refine ⟨k + 1, by omega, ⟨by omega, fun l hl2 => ?_⟩, rfl⟩
            by_cases hlk : l < k
            · exact hl l hlk
            · have : l = k := by omega
              subst this; exact hin
          · have hin2 : decide (imgL next (pairs.getD i []) [(k : Int)] ∉ pairs) = true := decide_eq_true hin
            have hf : awB n next pairs = false := awB_f fun h => hin ((h.2 i hlt1).2.2 k hkl1)
            simp only [Bz2d, fidx_neg, hin2, hf, go_sem, yz0, Int.reduceLT, reduceLE, reduceToNat, reduceNeg, Nat.reduceLT, reduceLeDiff, reduceMul, reduceSub, reduceIte, reduceEqDiff, reduceAdd, reduceCtorEq]
        · have e2 : (((imgL next (pairs.getD i []) [(k : Int)]).length : Int) != 2) = true := bneT (by omega)
          have hf : awB n next pairs = false := awB_f fun h => h2l (by
            have h5 := (h.2 i hlt1).2.2 k hkl1
            obtain ⟨j, hj⟩ := List.getElem?_of_mem h5
            have hj2 : j < pairs.length := (List.getElem?_eq_some_iff.1 hj).1
            have h6 := ((every_iff (by omega)).1 (h.2 j hj2).1).1
            rw [List.getD_eq_getElem?_getD, hj] at h6
            exact h6)
          simp only [Bz2d, e2, hf, go_sem, yz0, Int.reduceLT, reduceLE, reduceToNat, reduceNeg, Nat.reduceLT, reduceLeDiff, reduceMul, reduceSub, reduceIte, reduceEqDiff, reduceAdd, reduceCtorEq]
      · have hkf : k = next.length := by omega
        simp only [Bz2e, Bz7a, Bz7b, Bze2, decide_eq_false hkl, nat1 i _ hlt1 hMp, go_sem, yz0, Int.reduceLT, reduceLE, reduceToNat, reduceNeg, Nat.reduceLT, reduceLeDiff, reduceMul, reduceSub, reduceIte, reduceEqDiff, reduceAdd, reduceCtorEq]
        intro _
        refine ⟨i + 1, by omega, ⟨by omega, fun j hj => ?_⟩, rfl⟩
        by_cases hji : j < i
        · exact hall2 j hji
        · have : j = i := by omega
          subst this
          exact fun l hl2 => hl l (by omega)
    · have hfin : i = pairs.length := by omega
      subst hfin
      simp only [Bz2f, Bz79, Bz7c, Bze4, decide_eq_false hlt, go_sem, yz0, Int.reduceLT, reduceLE, reduceToNat, reduceNeg, Nat.reduceLT, reduceLeDiff, reduceMul, reduceSub, reduceIte, reduceEqDiff, reduceAdd, reduceCtorEq]
      intro _ _
      by_cases h0 : pairs.length = 0
      · have hf : awB n next pairs = false := awB_f fun h => by have := h.1; omega
        rw [hf]; simp [h0]
      · have ht : awB n next pairs = true := awB_t ⟨by omega, fun j hj => ⟨(hall j hj).1, (hall j hj).2, hall2 j hj⟩⟩
        rw [ht]; simp; omega
end Go.Ab
namespace Go.Ab
open Go.Proofs
theorem k_l02Right (n : Int) (next : List (List Int)) (kind : Int) (pairs words : List (List Int)) (A : Aut n next) :
    Fun Try.prog nz35 [autP n next, certP kind pairs words] (bv (rightB n next kind pairs words)) := by
  refine fun_of mixed czho rfl ⟨rfl, trivial⟩ ?_
  simp only [Azam, Bzal, Bzaj, go_sem, yz0, Int.reduceLT, reduceLE, reduceToNat, reduceNeg, Nat.reduceLT, reduceLeDiff, reduceMul, reduceSub, reduceIte, reduceEqDiff, reduceAdd, reduceCtorEq]
  by_cases hk1 : kind = 1
  · subst hk1
    by_cases hp0 : pairs.length = 0
    · have e0 : ((pairs.length : Int) == 0) = true := beqT (by omega)
      have er : rightB n next 1 pairs words = mwB n next words := by
        by_cases h : mergeW n next words
        · rw [mwB_t h]; exact right1_t ⟨hp0, h.1, h.2⟩
        · rw [mwB_f h]; exact right1_f fun h2 => h ⟨h2.2.1, h2.2.2⟩
      simp only [Bz8, beq_self_eq_true, e0, go_sem, yz0, Int.reduceLT, reduceLE, reduceToNat, reduceNeg, Nat.reduceLT, reduceLeDiff, reduceMul, reduceSub, reduceIte, reduceEqDiff, reduceAdd, reduceCtorEq]
      intro _ vs
      refine yz2 (k_l02Merges n next words A) qCS trivial ?_
      simp only [er, go_sem, yz0, Int.reduceLT, reduceLE, reduceToNat, reduceNeg, Nat.reduceLT, reduceLeDiff, reduceMul, reduceSub, reduceIte, reduceEqDiff, reduceAdd, reduceCtorEq]
    · have e0 : ((pairs.length : Int) == 0) = false := beqF (by omega)
      have hf : rightB n next 1 pairs words = false := right1_f fun h => hp0 h.1
      simp only [Bz8, beq_self_eq_true, e0, hf, go_sem, yz0, Int.reduceLT, reduceLE, reduceToNat, reduceNeg, Nat.reduceLT, reduceLeDiff, reduceMul, reduceSub, reduceIte, reduceEqDiff, reduceAdd, reduceCtorEq]
      try (intro _; trivial)
  · have e1 : (kind == 1) = false := beqF hk1
    by_cases hk2 : kind = 2
    · subst hk2
      by_cases hw0 : words.length = 0
      · have e0 : ((words.length : Int) == 0) = true := beqT (by omega)
        have er : rightB n next 2 pairs words = awB n next pairs := by
          by_cases h : apartW n next pairs
          · rw [awB_t h]; exact right2_t ⟨hw0, h.1, h.2⟩
          · rw [awB_f h]; exact right2_f fun h2 => h ⟨h2.2.1, h2.2.2⟩
        simp only [Bz8, Bz1q, beq_self_eq_true, e1, e0, go_sem, yz0, Int.reduceLT, reduceLE, reduceToNat, reduceNeg, Nat.reduceLT, reduceLeDiff, reduceMul, reduceSub, reduceIte, reduceEqDiff, reduceAdd, reduceCtorEq]
        intro _ vs
        refine yz2 (k_l02Apart n next pairs A) qCS trivial ?_
        simp only [er, go_sem, yz0, Int.reduceLT, reduceLE, reduceToNat, reduceNeg, Nat.reduceLT, reduceLeDiff, reduceMul, reduceSub, reduceIte, reduceEqDiff, reduceAdd, reduceCtorEq]
      · have e0 : ((words.length : Int) == 0) = false := beqF (by omega)
        have hf : rightB n next 2 pairs words = false := right2_f fun h => hw0 h.1
        simp only [Bz8, Bz1q, beq_self_eq_true, e1, e0, hf, go_sem, yz0, Int.reduceLT, reduceLE, reduceToNat, reduceNeg, Nat.reduceLT, reduceLeDiff, reduceMul, reduceSub, reduceIte, reduceEqDiff, reduceAdd, reduceCtorEq]
        try (intro _; trivial)
    · have e2 : (kind == 2) = false := beqF hk2
      simp only [Bz8, Bz1q, Bzak, e1, e2, right_f hk1 hk2, go_sem, yz0, Int.reduceLT, reduceLE, reduceToNat, reduceNeg, Nat.reduceLT, reduceLeDiff, reduceMul, reduceSub, reduceIte, reduceEqDiff, reduceAdd, reduceCtorEq]
def szC2 (x y : List (List Int)) (l : Int) : Int := if szLL x l < 0 then -1 else szLL y (szLL x l)
theorem szC2_ge {x y : List (List Int)} {l : Int} (h : ¬ szC2 x y l < 0) : 0 ≤ szLL x l ∧ 0 ≤ szLL y (szLL x l) ∧ szC2 x y l = szLL y (szLL x l) := by
  unfold szC2 at h ⊢
  split at h
  · omega
  · rename_i h1
    rw [if_neg h1]
    omega
theorem szLL_neg {x : List (List Int)} {l : Int} (h : szLL x l < 0) : szLL x l = -1 := by
  have gen : ∀ (xss : List (List Int)) (l : Int), 0 ≤ l → szRows xss l < 0 → szRows xss l = -1 := by
    intro xss
    induction xss with
    | nil => intro l h1 h2; simp only [szRows] at h2; omega
    | cons xs r ih =>
      intro l h1 h2
      simp only [szRows] at h2 ⊢
      split at h2
      · rename_i h3; rw [if_pos h3]
      · rename_i h3; rw [if_neg h3]; exact ih _ (by omega) h2
  unfold szLL at h ⊢
  split at h
  · rename_i h1; rw [if_pos h1]
  · rename_i h1; rw [if_neg h1]; exact gen _ _ (by omega) h
theorem k_szCertificate (kind : Int) (x y : List (List Int)) (left : Int) (h : 0 ≤ left ∧ left ≤ 4611686018427387904) :
    Fun Try.prog nz2z [certA kind x y, iv left] (iv (szC2 x y left)) := by
  refine fun_of mixed czhb rfl ⟨rfl, trivial⟩ ?_
  simp only [Az8i, Bz8h, go_sem, yz0, Int.reduceLT, reduceLE, reduceToNat, reduceNeg, Nat.reduceLT, reduceLeDiff, reduceMul, reduceSub, reduceIte, reduceEqDiff, reduceAdd, reduceCtorEq]
  intro vs vs2
  refine yz2 (k_szInt64SS x left h) qCS trivial ?_
  by_cases h1 : szLL x left < 0
  · have e : szC2 x y left = -1 := by unfold szC2; rw [if_pos h1]
    simp only [Bz4z, Bz4w, decide_eq_true h1, e, go_sem, yz0, Int.reduceLT, reduceLE, reduceToNat, reduceNeg, Nat.reduceLT, reduceLeDiff, reduceMul, reduceSub, reduceIte, reduceEqDiff, reduceAdd, reduceCtorEq]
  · have e : szC2 x y left = szLL y (szLL x left) := by unfold szC2; rw [if_neg h1]
    have h2 := (szLL_ge (xss := x) (l := left) (by omega)).2.2
    simp only [Bz4z, Bz4w, Bz8g, decide_eq_false h1, e, go_sem, yz0, Int.reduceLT, reduceLE, reduceToNat, reduceNeg, Nat.reduceLT, reduceLeDiff, reduceMul, reduceSub, reduceIte, reduceEqDiff, reduceAdd, reduceCtorEq]
    intro vs3
    refine yz2 (k_szInt64SS y (szLL x left) ⟨by omega, by omega⟩) qCS trivial ?_
    by_cases h3 : szLL y (szLL x left) < 0
    · simp only [Bz4y, Bz4x, decide_eq_true h3, go_sem, yz0, Int.reduceLT, reduceLE, reduceToNat, reduceNeg, Nat.reduceLT, reduceLeDiff, reduceMul, reduceSub, reduceIte, reduceEqDiff, reduceAdd, reduceCtorEq]
      rw [szLL_neg h3]
    · simp only [Bz4y, Bz4x, Bz8f, decide_eq_false h3, go_sem, yz0, Int.reduceLT, reduceLE, reduceToNat, reduceNeg, Nat.reduceLT, reduceLeDiff, reduceMul, reduceSub, reduceIte, reduceEqDiff, reduceAdd, reduceCtorEq]
theorem k_eqCertificate (k k' : Int) (x y x' y' : List (List Int)) : Fun Try.prog nz31 [certA k x y, certA k' x' y'] (bv (decide (k = k') && (decide (x = x') && decide (y = y')))) := by
  refine fun_of mixed czhi rfl ⟨rfl, trivial⟩ ?_
  simp only [Az9o, Bz9n, go_sem, yz0, Int.reduceLT, reduceLE, reduceToNat, reduceNeg, Nat.reduceLT, reduceLeDiff, reduceMul, reduceSub, reduceIte, reduceEqDiff, reduceAdd, reduceCtorEq]
  intro vs
  by_cases hn : k = k'
  · subst hn
    simp only [Bz5i, Bz9m, bne_self_eq_false, go_sem, yz0, Int.reduceLT, reduceLE, reduceToNat, reduceNeg, Nat.reduceLT, reduceLeDiff, reduceMul, reduceSub, reduceIte, reduceEqDiff, reduceAdd, reduceCtorEq]
    intro vs3
    refine yz2 (k_eqInt64SS x x') qCS (by trivial) ?_
    by_cases h2 : x = x'
    · simp only [Bz5j, Bz9l, decide_eq_true h2, decide_true, go_sem, yz0, Int.reduceLT, reduceLE, reduceToNat, reduceNeg, Nat.reduceLT, reduceLeDiff, reduceMul, reduceSub, reduceIte, reduceEqDiff, reduceAdd, reduceCtorEq]
      intro vs4
      refine yz2 (k_eqInt64SS y y') qCS (by trivial) ?_
      by_cases h3 : y = y'
      · simp only [Bz5k, Bz9k, decide_eq_true h3, decide_true, Bool.and_self, go_sem, yz0, Int.reduceLT, reduceLE, reduceToNat, reduceNeg, Nat.reduceLT, reduceLeDiff, reduceMul, reduceSub, reduceIte, reduceEqDiff, reduceAdd, reduceCtorEq]
      · simp only [Bz5k, decide_eq_false h3, Bool.and_false, go_sem, yz0, Int.reduceLT, reduceLE, reduceToNat, reduceNeg, Nat.reduceLT, reduceLeDiff, reduceMul, reduceSub, reduceIte, reduceEqDiff, reduceAdd, reduceCtorEq]
    · simp only [Bz5j, decide_eq_false h2, Bool.false_and, Bool.and_false, go_sem, yz0, Int.reduceLT, reduceLE, reduceToNat, reduceNeg, Nat.reduceLT, reduceLeDiff, reduceMul, reduceSub, reduceIte, reduceEqDiff, reduceAdd, reduceCtorEq]
  · have hne : (k != k') = true := by simpa using hn
    simp only [Bz5i, hne, decide_eq_false hn, Bool.false_and, go_sem, yz0, Int.reduceLT, reduceLE, reduceToNat, reduceNeg, Nat.reduceLT, reduceLeDiff, reduceMul, reduceSub, reduceIte, reduceEqDiff, reduceAdd, reduceCtorEq]
abbrev Rows2 (P : Program) (g : FuncId) (args : List AVal) (cs : List Int) (x y : List (List Int)) : Prop :=
  Fn P g args fun rows res => ∃ v w, rows = [.row v 1 true (rws x), .row w 1 true (rws y)] ∧ res = .st (cs.map (fun c => iv c) ++ [.own 6000 v, .own 6001 w])
theorem k_toCertificateN (kind : Int) (x y : List (List Int)) (h1 : x.length * 24 ≤ 140737488355328) (h2 : ∀ xs ∈ x, xs.length * 8 ≤ 140737488355328) (h3 : y.length * 24 ≤ 140737488355328) (h4 : ∀ xs ∈ y, xs.length * 8 ≤ 140737488355328) :
    Fn Try.prog nz1 [certA kind x y] (fun rows res => ∃ v w ps qs, rows = [.row v 1 true (rwp ps), .row w 1 true (rwp qs)] ∧ ps.map (·.2) = x ∧ qs.map (·.2) = y ∧ DJ (ps ++ qs) ∧ res = .st [iv kind, .own 6000 v, .own 6001 w]) := by
  refine con_of mixed czhe rfl (by simp) ?_
  simp only [Az90, Bz8z, yzj, yz1, go_sem, yz0, Int.reduceLT, reduceLE, reduceToNat, reduceNeg, Nat.reduceLT, reduceLeDiff, reduceMul, reduceSub, reduceIte, reduceEqDiff, reduceAdd, reduceCtorEq]
  intro vs0 U0 hN0 vs1 U1 hN1
  simp only [Bz8y, Bz8x, yzj, yz1, go_sem, yz0, Int.reduceLT, reduceLE, reduceToNat, reduceNeg, Nat.reduceLT, reduceLeDiff, reduceMul, reduceSub, reduceIte, reduceEqDiff, reduceAdd, reduceCtorEq]
  intro vs2 U2 hN2 vs4 U4 hN4
  refine call_fn (k_toInt64SSn x h1 h2) qCS (by intro e; cases e) ?_
  rintro rows res ⟨v, ps, rfl, hps, hd, rfl⟩
  refine ⟨by simp, by simp only [Option.getD_some, yzp]; rfl, ?_⟩
  simp only [Option.getD_some, List.length_singleton, renL_rwp, Bz8w, yzj, yz1, Nat.not_lt_zero, range1, ren_val, ren_any, ren_ro, rnNm_n, rnNm_sn, rnNm_o, rnNm_s, ren_st, ren_tup, renL_nil, yzu, yz9, renL_rws, renL_rwn, oren_box, oren_row, oren_map, yzd, yza, yze, yzg, yzq, yzs, yz5, yz7, yzf, yzb, yzt, yzr, List.range_zero, yz8, yz6, yzc, gone_nil, yzp, gone_two, AVal.fresh, freshL, yz3, yzo, AObj.fresh, id, Option.isSome_some, or_true, true_or, go_sem, yz0, Int.reduceLT, reduceLE, reduceToNat, reduceNeg, Nat.reduceLT, reduceLeDiff, reduceMul, reduceSub, reduceIte, reduceEqDiff, reduceAdd, reduceCtorEq]
  intro vs5 U5 hN5
  refine call_fn (k_toInt64SSn y h3 h4) qCS (by intro e; cases e) ?_
  rintro rows res ⟨w, qs, rfl, hqs, hdq, rfl⟩
  refine ⟨by simp, by simp only [Option.getD_some, yzp]; rfl, ?_⟩
  simp only [Option.getD_some, List.length_singleton, renL_rwp, Bz8v, yzj, yz1, Nat.not_lt_zero, range1, ren_val, ren_any, ren_ro, rnNm_n, rnNm_sn, rnNm_o, rnNm_s, ren_st, ren_tup, renL_nil, yzu, yz9, renL_rws, renL_rwn, oren_box, oren_row, oren_map, yzd, yza, yze, yzg, yzq, yzs, yz5, yz7, yzf, yzb, yzt, yzr, List.range_zero, yz8, yz6, yzc, gone_nil, yzp, gone_two, AVal.fresh, freshL, yz3, yzo, AObj.fresh, id, Option.isSome_some, or_true, true_or, go_sem, yz0, Int.reduceLT, reduceLE, reduceToNat, reduceNeg, Nat.reduceLT, reduceLeDiff, reduceMul, reduceSub, reduceIte, reduceEqDiff, reduceAdd, reduceCtorEq]
  intro vs6 U6 hN6
  refine ⟨[9, 13], by simp, by simp, by simp, ?_⟩
  simp only [renL_rwp, Nat.not_lt_zero, range1, ren_val, ren_any, ren_ro, rnNm_n, rnNm_sn, rnNm_o, rnNm_s, ren_st, ren_tup, renL_nil, yzu, yz9, renL_rws, renL_rwn, oren_box, oren_row, oren_map, yzd, yza, yze, yzg, yzq, yzs, yz5, yz7, yzf, yzb, yzt, yzr, List.range_zero, yz8, yz6, yzc, gone_nil, yzp, gone_two, AVal.fresh, freshL, yz3, yzo, AObj.fresh, id, Option.isSome_some, or_true, true_or, go_sem, yz0, Int.reduceLT, reduceLE, reduceToNat, reduceNeg, Nat.reduceLT, reduceLeDiff, reduceMul, reduceSub, reduceIte, reduceEqDiff, reduceAdd, reduceCtorEq]
  have hU := hN5.hp 9
  simp only [AObj.uses, go_sem, yz0, Int.reduceLT, reduceLE, reduceToNat, reduceNeg, Nat.reduceLT, reduceLeDiff, reduceMul, reduceSub, reduceIte, reduceEqDiff, reduceAdd, reduceCtorEq] at hU
  have hold := usesL_rwp (rest := []) (by rw [List.append_nil]; exact hU.2)
  refine ⟨⟨fresh_rwp, fresh_rwp⟩, _, _, ps.map (fun p => (vs4 2 p.1, p.2)), qs.map (fun p => (vs5 2 p.1, p.2)), ?_, by rw [← hps, List.map_map]; rfl, by rw [← hqs, List.map_map]; rfl, ?_, rfl⟩
  · have e : ∀ l : List (Nat × List Int), l.map (fun p => (p.1, p.2)) = l := fun l => List.map_id l
    rw [e, e]
  · refine List.pairwise_append.2 ⟨hd.ren fun x y e => (hN4.inj _ _ _ _ e).2, hdq.ren fun x y e => (hN5.inj _ _ _ _ e).2, ?_⟩
    intro p hp q hq
    obtain ⟨q0, _, rfl⟩ := List.mem_map.1 hq
    rcases hold p hp with h | h
    · exact .inl h
    · exact .inr (.inr fun e => hN5.new 2 q0.1 (by have e : p.1 = vs5 2 q0.1 := e; rw [← e]; exact h))
theorem k_toCertificate (kind : Int) (x y : List (List Int)) (h1 : x.length * 24 ≤ 140737488355328) (h2 : ∀ xs ∈ x, xs.length * 8 ≤ 140737488355328) (h3 : y.length * 24 ≤ 140737488355328) (h4 : ∀ xs ∈ y, xs.length * 8 ≤ 140737488355328) :
    Rows2 Try.prog nz1 [certA kind x y] [kind] x y := by
  refine Con.dnr (k_toCertificateN kind x y h1 h2 h3 h4) ?_
  rintro oo r z ⟨rfl, v, w, ps, qs, rfl, hps, hqs, _, rfl⟩
  refine ⟨rfl, v, w, ?_, by simp only [List.map_cons, List.map_nil, List.cons_append, List.nil_append, go_sem, yz0, Int.reduceLT, reduceLE, reduceToNat, reduceNeg, Nat.reduceLT, reduceLeDiff, reduceMul, reduceSub, reduceIte, reduceEqDiff, reduceAdd, reduceCtorEq]⟩
  simp only [List.map_cons, List.map_nil, odn_row, dnL_rwp]
  rw [hps, hqs]
theorem call_certN {P : Program} {σ : St} {g : FuncId} {As args : List AVal} {d : Nat} {s : Nat → Nat} {K : St → Prop} {n : Int} {x y : List (List Int)} (hs : ∀ x y, s x = s y → x = y)
    (h : Fn P g args (fun rows res => ∃ v w ps qs, rows = [.row v 1 true (rwp ps), .row w 1 true (rwp qs)] ∧ ps.map (·.2) = x ∧ qs.map (·.2) = y ∧ DJ (ps ++ qs) ∧ res = .st [iv n, .own 6000 v, .own 6001 w]))
    (hco : CoeL σ.hp [] true args As) (hg : σ.hp d = .gone) (hg2 : σ.hp (d + 1000) = .gone)
    (hk : ∀ v w ps qs, ps.map (·.2) = x → qs.map (·.2) = y → DJ (ps ++ qs) → (∀ p ∈ ps ++ qs, ∃ a, p.1 = s a) → K (St.put ⟨σ.tm, upd (upd σ.hp d (.row v 1 true (rwp ps))) (d + 1000) (.row w 1 true (rwp qs))⟩ (some d) (.st [iv n, .own d v, .own (d + 1000) w]))) : wpCall P false σ g As (some d) s K := by
  refine call_fn h hco (fun e => by cases e) ?_
  rintro rows res ⟨v, w, ps, qs, rfl, hp, hq, hd, rfl⟩
  refine ⟨by simp, ?_, ?_⟩
  · simp only [Option.getD_some, gone_two]; exact ⟨hg, hg2⟩
  · simp only [Option.getD_some, renL_rwp, List.length_cons, List.length_nil, Nat.zero_add, reduceAdd, Nat.not_lt_zero, range1, ren_val, ren_any, ren_ro, rnNm_n, rnNm_sn, rnNm_o, rnNm_s, ren_st, ren_tup, renL_nil, yzu, yz9, renL_rws, renL_rwn, oren_box, oren_row, oren_map, yzd, yza, yze, yzg, yzq, yzs, yz5, yz7, yzf, yzb, yzt, yzr, List.range_zero, yz8, yz6, yzc, gone_nil, yzp, gone_two, AVal.fresh, freshL, yz3, yzo, AObj.fresh, id, Option.isSome_some, or_true, true_or]
    exact hk _ _ _ _ (by rw [List.map_map]; exact hp) (by rw [List.map_map]; exact hq) (by have := hd.ren hs; rw [List.map_append] at this; exact this) (by
      intro p hp
      rw [← List.map_append] at hp
      obtain ⟨q, _, rfl⟩ := List.mem_map.1 hp
      exact ⟨_, rfl⟩)
theorem k_markCertificate (n : Int) (ps qs : List (Nat × List Int)) (hd : DJ (ps ++ qs)) (k : Int) (h : 0 ≤ k ∧ k + (totL ps + totL qs) ≤ 4611686018427387904) (hx : ∀ p ∈ ps, (p.2.length : Int) ≤ 1000000000) (hy : ∀ p ∈ qs, (p.2.length : Int) ≤ 1000000000) :
    Con Try.prog nz33 [] [.st [iv n, .ro (some (some 0)) 1 (rwp ps), .ro (some (some 0)) 1 (rwp qs)], iv k] true (MarkR k (totL ps + totL qs)) := by
  refine con_sh mixed czhk rfl (by simp) ?_
  have t1 := totL_nn ps
  have t2 := totL_nn qs
  simp only [Az9v, Bz9u, yzj, yz1, go_sem, yz0, Int.reduceLT, reduceLE, reduceToNat, reduceNeg, Nat.reduceLT, reduceLeDiff, reduceMul, reduceSub, reduceIte, reduceEqDiff, reduceAdd, reduceCtorEq]
  intro vs U hN vs2 U2 hN2
  refine call_havP (pOf ps) (k_markInt64SS ps (List.pairwise_append.1 hd).1 k ⟨h.1, by omega⟩ hx) ?_ ?_
  · rw [coeHL_cons, coeHL_cons, coeHL_nil, coeH_val]; exact ⟨coeH_rwpP pOf_in, rfl, trivial⟩
  rintro v ⟨k', rfl, h1, h2⟩
  simp only [Bz9t, cl_L, clT, clO, clV_any, clV_val, clV_own, clV_ptr, clV_st, clV_o, clL_ints, clL_rwo, clL_cons, clL_nil, clR_row, clR_box, clR_gone, clL_rwpP (pOf_not hd), yzj, yz1, go_sem, yz0, Int.reduceLT, reduceLE, reduceToNat, reduceNeg, Nat.reduceLT, reduceLeDiff, reduceMul, reduceSub, reduceIte, reduceEqDiff, reduceAdd, reduceCtorEq]
  intro vs3 U3 hN3
  refine call_hav (k_markInt64SS qs (List.pairwise_append.1 hd).2.1 k' ⟨by omega, by omega⟩ hy) ?_ ?_
  · rw [coeHL_cons, coeHL_cons, coeHL_nil, coeH_val]; exact ⟨coeH_rwp, rfl, trivial⟩
  rintro v ⟨k2, rfl, h3, h4⟩
  simp only [Bz9s, cl_L, clT, clO, yzj, yz1, go_sem, yz0, Int.reduceLT, reduceLE, reduceToNat, reduceNeg, Nat.reduceLT, reduceLeDiff, reduceMul, reduceSub, reduceIte, reduceEqDiff, reduceAdd, reduceCtorEq]
  intro vs4 U4 hN4
  refine ⟨[], by simp, by simp, by simp, ?_⟩
  simp only [Nat.not_lt_zero, range1, ren_val, ren_any, ren_ro, rnNm_n, rnNm_sn, rnNm_o, rnNm_s, ren_st, ren_tup, renL_nil, yzu, yz9, renL_rws, renL_rwn, oren_box, oren_row, oren_map, yzd, yza, yze, yzg, yzq, yzs, yz5, yz7, yzf, yzb, yzt, yzr, List.range_zero, yz8, yz6, yzc, gone_nil, yzp, gone_two, AVal.fresh, freshL, yz3, yzo, AObj.fresh, id, Option.isSome_some, or_true, true_or, go_sem, yz0, Int.reduceLT, reduceLE, reduceToNat, reduceNeg, Nat.reduceLT, reduceLeDiff, reduceMul, reduceSub, reduceIte, reduceEqDiff, reduceAdd, reduceCtorEq]
  exact ⟨rfl, rfl, _, ⟨k2, rfl, by omega, by omega⟩, rfl⟩
theorem call_rows2 {P : Program} {pu : Bool} {σ : St} {g : FuncId} {As args : List AVal} {d : Nat} {s : Nat → Nat} {K : St → Prop} {cs : List Int} {x y : List (List Int)} (h : Rows2 P g args cs x y) (hco : CoeL σ.hp [] true args As)
    (hg : σ.hp d = .gone) (hg2 : σ.hp (d + 1000) = .gone)
    (hk : ∀ v w, K (St.put ⟨σ.tm, upd (upd σ.hp d (.row v 1 true (rws x))) (d + 1000) (.row w 1 true (rws y))⟩ (some d) (.st (cs.map (fun c => iv c) ++ [.own d v, .own (d + 1000) w])))) : wpCall P pu σ g As (some d) s K := by
  refine call_fn h hco (fun _ => ⟨_, _, 0, 1, rfl, rfl⟩) ?_
  rintro rows res ⟨v, w, rfl, rfl⟩
  refine ⟨by simp, ?_, ?_⟩
  · simp only [Option.getD_some, gone_two]; exact ⟨hg, hg2⟩
  · have e : (AVal.st (cs.map (fun c => iv c) ++ [.own 6000 v, .own 6001 w])).ren (rid [] d 2) s = .st (cs.map (fun c => iv c) ++ [.own d (s v), .own (d + 1000) (s w)]) := by
      rw [ren_st]
      congr 1
      simp only [renL_eq, List.map_append, List.map_map, List.map_cons, List.map_nil]
      have h0 := yz5 (m := []) (d := d) (n := 1) (v := v) (s := s)
      have h1 := yz7 (m := []) (d := d) (n := 0) (v := w) (s := s)
      rw [h0, h1]
      congr 1
    simp only [Option.getD_some, Nat.not_lt_zero, range1, ren_val, ren_any, ren_ro, rnNm_n, rnNm_sn, rnNm_o, rnNm_s, ren_st, ren_tup, renL_nil, yzu, yz9, renL_rws, renL_rwn, oren_box, oren_row, oren_map, yzd, yza, yze, yzg, yzq, yzs, yz5, yz7, yzf, yzb, yzt, yzr, List.range_zero, yz8, yz6, yzc, gone_nil, yzp, gone_two, AVal.fresh, freshL, yz3, yzo, AObj.fresh, id, Option.isSome_some, or_true, true_or, List.length_cons, List.length_nil, Nat.zero_add, e]
    exact hk _ _
end Go.Ab
namespace Go.Ab
def pairI (n : Int) (p : List Int) : Nat := (fidx (fun q => decide (q = p)) (every n) 0).toNat
def wocW (n : Int) (words : List (List Int)) (set : List Int) : List Int := words.getD (pairI n (set.take 2)) []
def wocR (n : Int) (next words : List (List Int)) : Nat → List Int → List Int → List Int
  | 0, _, out => out
  | F + 1, set, out => if set.length ≤ 1 then out else wocR n next words F (imgL next set (wocW n words set)) (out ++ wocW n words set)
theorem fidx_is {x : List Int} : ∀ {xs : List (List Int)} (k : Nat), x ∈ xs → ∃ i : Nat, fidx (fun q => decide (q = x)) xs k = ((k + i : Nat) : Int) ∧ i < xs.length ∧ xs.getD i [] = x
  | [], _, h => by simp at h
  | y :: xs, k, h => by
    by_cases e : y = x
    · exact ⟨0, by simp [fidx, e], by simp, by simpa using e⟩
    · obtain ⟨i, h1, h2, h3⟩ := fidx_is (xs := xs) (k + 1) (by simpa [Ne.symm e] using h)
      refine ⟨i + 1, ?_, by simp; omega, by simpa using h3⟩
      simp only [fidx, e, decide_false, Bool.false_eq_true, if_false, h1]
      congr 1; omega
theorem nrm_dup {x : Int} {l : List Int} : nrm (x :: x :: l) = nrm (x :: l) := by
  refine SI_ext (nrm_SI _) (nrm_SI _) fun y => ?_
  rw [nrm_mem, nrm_mem]
  simp only [List.mem_cons]
  constructor
  · rintro (h | h | h)
    · exact .inl h
    · exact .inl h
    · exact .inr h
  · rintro (h | h)
    · exact .inl h
    · exact .inr (.inr h)
structure WS1 (n : Int) (set : List Int) : Prop where
  si : SI set
  rg : ∀ x ∈ set, 0 ≤ x ∧ x < n
theorem woc_step {n : Int} {next words : List (List Int)} (A : Aut n next) {set : List Int} (S : WS1 n set) (h2 : 2 ≤ set.length)
    (hm : words.length = (every n).length ∧ ∀ i < words.length, wordB next.length (words.getD i []) = true ∧ (imgL next ((every n).getD i []) (words.getD i [])).length = 1) :
    set.take 2 ∈ every n ∧ pairI n (set.take 2) < words.length ∧ fidx (fun q => decide (q = set.take 2)) (every n) 0 = (pairI n (set.take 2) : Int) ∧ wordB next.length (wocW n words set) = true ∧
      WS1 n (imgL next set (wocW n words set)) ∧ (imgL next set (wocW n words set)).length < set.length ∧ 1 ≤ (imgL next set (wocW n words set)).length := by
  have n1 := A.n1
  match set, h2 with
  | a :: b :: l, _ =>
    have hab : a < b := by
      have := S.si; unfold SI at this
      rw [List.pairwise_cons] at this
      exact this.1 b (by simp)
    have ha := S.rg a (by simp)
    have hb := S.rg b (by simp)
    have hmem : [a, b] ∈ every n := (pairsL_mem (by omega)).2 ⟨a, b, ha.1, hab, hb.2, rfl, rfl⟩
    obtain ⟨i, h1, h3, h4⟩ := fidx_is 0 hmem
    rw [Nat.zero_add] at h1
    have hp : pairI n [a, b] = i := by unfold pairI; rw [h1]; simp
    have hil : i < words.length := by rw [hm.1]; exact h3
    obtain ⟨g1, g2⟩ := hm.2 i hil
    rw [h4, img2] at g2
    have hw : wocW n words (a :: b :: l) = words.getD i [] := by unfold wocW; rw [show (a :: b :: l).take 2 = [a, b] from rfl, hp]
    have hW := wordB_iff.1 g1
    have ht : (a :: b :: l).take 2 = [a, b] := rfl
    rw [hw, ht, hp]
    refine ⟨hmem, hil, h1, g1, ⟨nrm_SI _, fun x hx => ?_⟩, ?_, ?_⟩
    · rw [nrm_mem] at hx
      obtain ⟨s, hs, rfl⟩ := List.mem_map.1 hx
      exact A.at (S.rg s hs) hW.2
    · unfold imgL
      rw [List.map_cons, List.map_cons, g2, nrm_dup]
      have := nrm_len (atA next b (words.getD i []) :: l.map fun s => atA next s (words.getD i []))
      simp only [List.length_cons, List.length_map] at this ⊢
      omega
    · exact List.length_pos_of_mem (nrm_mem.2 (List.mem_map.2 ⟨a, by simp, rfl⟩))
theorem wocR_pre {n : Int} {next words : List (List Int)} : ∀ (F : Nat) (set out : List Int), ∃ t, wocR n next words F set out = out ++ t
  | 0, _, out => ⟨[], by simp [wocR]⟩
  | F + 1, set, out => by
    simp only [wocR]
    split
    · exact ⟨[], by simp⟩
    · obtain ⟨t, h⟩ := wocR_pre F (imgL next set (wocW n words set)) (out ++ wocW n words set)
      exact ⟨wocW n words set ++ t, by rw [h, List.append_assoc]⟩
end Go.Ab
namespace Go.Ab
open Go.Proofs
noncomputable def wocF (n : Int) (next words : List (List Int)) : List Int := wocR n next words n.toNat (allS n) []
noncomputable def wocC (n : Int) (next : List (List Int)) (kind : Int) (pairs words : List (List Int)) : Int :=
  if autB n next = true then if rightB n next kind pairs words = true then if kind = 2 then 4 else if (wocF n next words).length ≤ 400 then 0 else 3 else 8 else 1
theorem wocC_len {n : Int} {next : List (List Int)} {kind : Int} {pairs words : List (List Int)} (h : wocC n next kind pairs words = 0) : (wocF n next words).length ≤ 400 := by
  unfold wocC at h
  split at h
  · split at h
    · split at h
      · omega
      · split at h
        · assumption
        · omega
    · omega
  · omega
theorem right_m {n kind : Int} {next pairs words : List (List Int)} (h : rightB n next kind pairs words = true) (hk : kind ≠ 2) (hn : 1 ≤ n) :
    words.length = (every n).length ∧ ∀ i < words.length, wordB next.length (words.getD i []) = true ∧ (imgL next ((every n).getD i []) (words.getD i [])).length = 1 := by
  by_cases hk1 : kind = 1
  · subst hk1
    have h : mergeP n next pairs words := by
      by_cases hm : mergeP n next pairs words
      · exact hm
      · rw [right1_f hm] at h; cases h
    refine ⟨h.2.1, fun i hi => ?_⟩
    have hi2 : i < (every n).length := by have := h.2.1; omega
    obtain ⟨h1, h2⟩ := h.2.2 i hi2
    obtain ⟨a, b, ha, hab, hb, hget⟩ := every_get (by omega) hi2
    rw [hget] at h2 ⊢
    exact ⟨h1, img2.2 h2⟩
  · rw [right_f hk1 hk] at h; cases h
theorem wocR_one {n : Int} {next words : List (List Int)} {F : Nat} {set out : List Int} (h : set.length ≤ 1) : wocR n next words F set out = out := by
  cases F with
  | zero => rfl
  | succ F => rw [wocR, if_pos h]
theorem wocR_two {n : Int} {next words : List (List Int)} {F : Nat} {set out : List Int} (h : 2 ≤ set.length) (hF : set.length ≤ F) :
    ∃ F', wocR n next words F set out = wocR n next words F' (imgL next set (wocW n words set)) (out ++ wocW n words set) ∧ F = F' + 1 := by
  cases F with
  | zero => omega
  | succ F => exact ⟨F, by rw [wocR, if_neg (by omega)], rfl⟩
theorem k_WordOfCertificate_1 (s t : Int) : Fun Try.prog nz14 [iv s, iv t] (bv true) := by
  refine fun_of mixed czhx rfl ⟨rfl, trivial⟩ ?_
  simp only [Bzca, Azcb, go_sem, yz0, Int.reduceLT, reduceLE, reduceToNat, reduceNeg, Nat.reduceLT, reduceLeDiff, reduceMul, reduceSub, reduceIte, reduceEqDiff, reduceAdd, reduceCtorEq]
theorem k_WordOfCertificate_2 (p set : List Int) (h : 2 ≤ set.length) : Fun Try.prog nz16 [.ro none 1 (ints p), .rp [.ro none 1 (ints set)] 0] (bv (decide (p = set.take 2))) := by
  refine fun_of mixed czi0 rfl ⟨rfl, trivial⟩ ?_
  have h0 : Int.toNat 2 ≤ set.length := h
  have ht : List.drop 0 (List.take (Int.toNat 2) (intsK .i64 set)) = ints (set.take 2) := by rw [List.drop_zero, intsK_take]; rfl
  simp only [Bzcl, Azcm, St.bound, ht, go_sem, yz0, Int.reduceLT, reduceLE, reduceToNat, reduceNeg, Nat.reduceLT, reduceLeDiff, reduceMul, reduceSub, reduceIte, reduceEqDiff, reduceAdd, reduceCtorEq]
  intro vs
  refine ⟨h0, ?_⟩
  refine yz2 (k_Equal p (set.take 2)) (by rw [intsK_take]; exact qCS) trivial ?_
  simp only [go_sem, yz0, Int.reduceLT, reduceLE, reduceToNat, reduceNeg, Nat.reduceLT, reduceLeDiff, reduceMul, reduceSub, reduceIte, reduceEqDiff, reduceAdd, reduceCtorEq]
theorem tf_L {l : List (Nat × AVal)} {h : List (Nat × AObj)} {t q ver k : Nat} {nn : Bool} {cs : List AVal} :
    St.tf ⟨L .any l, L .gone h⟩ t q ver k nn cs = ⟨L .any ((t, .ro (frNm nn cs.length ver) k cs) :: l), L .gone ((q, .gone) :: h)⟩ := by
  have h1 : ∀ x, (if x = t then AVal.ro (frNm nn cs.length ver) k cs else L .any l x) = L .any ((t, .ro (frNm nn cs.length ver) k cs) :: l) x := fun x => by
    by_cases e : x = t <;> simp [L, e, eq_comm]
  have h2 : ∀ x, (if x = q then AObj.gone else L .gone h x) = L .gone ((q, .gone) :: h) x := fun x => by
    by_cases e : x = q <;> simp [L, e, eq_comm]
  exact congr (congrArg St.mk (funext h1)) (funext h2)
theorem gwp_tf {gs : List GStep} {K : St → Prop} {l : List (Nat × AVal)} {h : List (Nat × AObj)} {t q k ver : Nat} {nn : Bool} {cs : List AVal} (ht : L .any l t = .own q ver)
    (hq : L .gone h q = .row ver k nn cs) (hk : gwp gs K ⟨L .any ((t, .ro (frNm nn cs.length ver) k cs) :: l), L .gone ((q, .gone) :: h)⟩) : gwp (.tf t q :: gs) K ⟨L .any l, L .gone h⟩ :=
  ⟨ver, k, nn, cs, ht, hq, by rw [tf_L]; exact hk⟩
structure WocI (n : Int) (next words : List (List Int)) (set out : List Int) : Prop where
  ws : WS1 n set
  ln : out.length + 400 * (set.length - 1) ≤ 4000
  fu : ∃ F, set.length ≤ F ∧ wocR n next words F set out = wocF n next words
theorem wocI_0 {n : Int} {next words : List (List Int)} (A : Aut n next) : WocI n next words (allS n) [] := by
  have n1 := A.n1
  have n2 := A.n2
  refine ⟨⟨?_, allS_in⟩, by rw [allS_len]; simp; omega, n.toNat, by rw [allS_len]; omega, rfl⟩
  unfold SI allS
  rw [List.pairwise_map]
  exact List.pairwise_lt_range.imp fun h => by omega
theorem wocI_s {n : Int} {next words : List (List Int)} (A : Aut n next) {set out : List Int} (I : WocI n next words set out) (h2 : 2 ≤ set.length)
    (hm : words.length = (every n).length ∧ ∀ i < words.length, wordB next.length (words.getD i []) = true ∧ (imgL next ((every n).getD i []) (words.getD i [])).length = 1) :
    WocI n next words (imgL next set (wocW n words set)) (out ++ wocW n words set) ∧ (imgL next set (wocW n words set)).length < set.length := by
  obtain ⟨h1, h3, h4, h5, h6, h7, h8⟩ := woc_step A I.ws h2 hm
  obtain ⟨F, hF, he⟩ := I.fu
  obtain ⟨F', e1, e2⟩ := wocR_two (n := n) (next := next) (words := words) (out := out) h2 hF
  have hw := (wordB_iff.1 h5).1
  have hl := I.ln
  exact ⟨⟨h6, by rw [List.length_append]; omega, F', by omega, by rw [← e1, he]⟩, h7⟩
theorem wocI_long {n : Int} {next words : List (List Int)} {set out : List Int} (I : WocI n next words set out) (h : 400 < out.length) : 400 < (wocF n next words).length := by
  obtain ⟨F, _, he⟩ := I.fu
  obtain ⟨t, ht⟩ := wocR_pre (n := n) (next := next) (words := words) F set out
  rw [← he, ht, List.length_append]; omega
theorem wocI_end {n : Int} {next words : List (List Int)} {set out : List Int} (I : WocI n next words set out) (h : set.length ≤ 1) : out = wocF n next words := by
  obtain ⟨F, _, he⟩ := I.fu
  rw [← he, wocR_one h]
theorem k_WordOfCertificate (n : Int) (next : List (List Int)) (kind : Int) (pairs words : List (List Int)) :
    RowT Try.prog nzc [autA n next, certA kind pairs words] (decide (wocC n next kind pairs words = 0)) (wocF n next words) (wocC n next kind pairs words) := by
  refine con_of mixed czhf rfl (by simp) ?_
  simp only [Az99, Bz98, go_sem, yz0, Int.reduceLT, reduceLE, reduceToNat, reduceNeg, Nat.reduceLT, reduceLeDiff, reduceMul, reduceSub, reduceIte, reduceEqDiff, reduceAdd, reduceCtorEq]
  intro vs vs2
  refine yz2 (k_Valid n next) qCS trivial ?_
  cases hv : autB n next with
  | false =>
    have hc : wocC n next kind pairs words = 1 := by unfold wocC; rw [if_neg (by rw [hv]; decide)]
    rw [hc]
    simp only [Bz59, go_sem, yz0, Int.reduceLT, reduceLE, reduceToNat, reduceNeg, Nat.reduceLT, reduceLeDiff, reduceMul, reduceSub, reduceIte, reduceEqDiff, reduceAdd, reduceCtorEq]
    refine ⟨[], by simp, by simp, by simp, ?_⟩
    simp only [Nat.not_lt_zero, range1, ren_val, ren_any, ren_ro, rnNm_n, rnNm_sn, rnNm_o, rnNm_s, ren_st, ren_tup, renL_nil, yzu, yz9, renL_rws, renL_rwn, oren_box, oren_row, oren_map, yzd, yza, yze, yzg, yzq, yzs, yz5, yz7, yzf, yzb, yzt, yzr, List.range_zero, yz8, yz6, yzc, gone_nil, yzp, gone_two, AVal.fresh, freshL, yz3, yzo, AObj.fresh, id, Option.isSome_some, or_true, true_or, go_sem, yz0, Int.reduceLT, reduceLE, reduceToNat, reduceNeg, Nat.reduceLT, reduceLeDiff, reduceMul, reduceSub, reduceIte, reduceEqDiff, reduceAdd, reduceCtorEq]
    all_goals first | trivial | exact ⟨rfl, rfl⟩
  | true =>
    have A := autB_iff.1 hv
    have n1 := A.n1
    have n2 := A.n2
    simp only [Bz59, go_sem, yz0, Int.reduceLT, reduceLE, reduceToNat, reduceNeg, Nat.reduceLT, reduceLeDiff, reduceMul, reduceSub, reduceIte, reduceEqDiff, reduceAdd, reduceCtorEq]
    intro vs3
    refine yz2 (k_isRight n next kind pairs words A) qCS trivial ?_
    cases hr : rightB n next kind pairs words with
    | false =>
      have hc : wocC n next kind pairs words = 8 := by unfold wocC; rw [if_pos hv, if_neg (by rw [hr]; decide)]
      rw [hc]
      simp only [Bz1h, go_sem, yz0, Int.reduceLT, reduceLE, reduceToNat, reduceNeg, Nat.reduceLT, reduceLeDiff, reduceMul, reduceSub, reduceIte, reduceEqDiff, reduceAdd, reduceCtorEq]
      refine ⟨[], by simp, by simp, by simp, ?_⟩
      simp only [Nat.not_lt_zero, range1, ren_val, ren_any, ren_ro, rnNm_n, rnNm_sn, rnNm_o, rnNm_s, ren_st, ren_tup, renL_nil, yzu, yz9, renL_rws, renL_rwn, oren_box, oren_row, oren_map, yzd, yza, yze, yzg, yzq, yzs, yz5, yz7, yzf, yzb, yzt, yzr, List.range_zero, yz8, yz6, yzc, gone_nil, yzp, gone_two, AVal.fresh, freshL, yz3, yzo, AObj.fresh, id, Option.isSome_some, or_true, true_or, go_sem, yz0, Int.reduceLT, reduceLE, reduceToNat, reduceNeg, Nat.reduceLT, reduceLeDiff, reduceMul, reduceSub, reduceIte, reduceEqDiff, reduceAdd, reduceCtorEq]
      all_goals first | trivial | exact ⟨rfl, rfl⟩
    | true =>
      by_cases hk : kind = 2
      · have hc : wocC n next kind pairs words = 4 := by unfold wocC; rw [if_pos hv, if_pos hr, if_pos hk]
        rw [hc]
        subst hk
        simp only [Bz1h, Bz58, beq_self_eq_true, go_sem, yz0, Int.reduceLT, reduceLE, reduceToNat, reduceNeg, Nat.reduceLT, reduceLeDiff, reduceMul, reduceSub, reduceIte, reduceEqDiff, reduceAdd, reduceCtorEq]
        refine ⟨[], by simp, by simp, by simp, ?_⟩
        simp only [Nat.not_lt_zero, range1, ren_val, ren_any, ren_ro, rnNm_n, rnNm_sn, rnNm_o, rnNm_s, ren_st, ren_tup, renL_nil, yzu, yz9, renL_rws, renL_rwn, oren_box, oren_row, oren_map, yzd, yza, yze, yzg, yzq, yzs, yz5, yz7, yzf, yzb, yzt, yzr, List.range_zero, yz8, yz6, yzc, gone_nil, yzp, gone_two, AVal.fresh, freshL, yz3, yzo, AObj.fresh, id, Option.isSome_some, or_true, true_or, go_sem, yz0, Int.reduceLT, reduceLE, reduceToNat, reduceNeg, Nat.reduceLT, reduceLeDiff, reduceMul, reduceSub, reduceIte, reduceEqDiff, reduceAdd, reduceCtorEq]
        all_goals first | trivial | exact ⟨rfl, rfl⟩
      · have hm := right_m hr hk n1
        have hk2 : (kind == 2) = false := beqF hk
        have hel := pairsL_len ⟨n1, n2⟩ (p := fun _ _ => true)
        simp only [Bz1h, Bz58, Bz97, hk2, go_sem, yz0, Int.reduceLT, reduceLE, reduceToNat, reduceNeg, Nat.reduceLT, reduceLeDiff, reduceMul, reduceSub, reduceIte, reduceEqDiff, reduceAdd, reduceCtorEq]
        intro vs4
        refine call_rowR (k_pairs n next nz14 [] (fun _ _ => true) ⟨n1, n2⟩ ⟨by simp only [go_sem, yz0, Int.reduceLT, reduceLE, reduceToNat, reduceNeg, Nat.reduceLT, reduceLeDiff, reduceMul, reduceSub, reduceIte, reduceEqDiff, reduceAdd, reduceCtorEq], by intros; simp only [rowIs, boxIs, coe_argN, coe_argNs, coe_ro_o, coeL_nil, yzi, coe_any, coe_val, coe_ro, yzm, yzl, coe_st, yzk, coe_rp, yzn, coe_clo, coe_own0, coe_ptr0, yzh, coeL_rws, coeL_rwn, L_hit, L_miss, L_nil, reduceEqDiff, ne_eq, reduceCtorEq, not_false_eq_true, true_and, and_true, and_self, exists_eq_left, exists_eq_right, List.mem_cons, List.not_mem_nil, or_false, AObj.row.injEq, AObj.box.injEq, exists_eq_left', exists_and_left, exists_eq, Nat.zero_lt_one, Nat.lt_add_one, List.map_cons, List.map_nil, AObj.ver, Nat.reduceLT, not_true_eq_false]⟩ (fun s t _ _ _ => k_WordOfCertificate_1 s t)) qCS rfl ⟨_, rfl⟩ ?_
        rintro xss vp rfl
        simp only [Bz96, go_sem, yz0, Int.reduceLT, reduceLE, reduceToNat, reduceNeg, Nat.reduceLT, reduceLeDiff, reduceMul, reduceSub, reduceIte, reduceEqDiff, reduceAdd, reduceCtorEq]
        intro vs5
        refine call_rowI (k_all n next A) qCS rfl ⟨_, rfl⟩ ?_
        rintro xs vq rfl
        simp only [Bz95, go_sem, yz0, Int.reduceLT, reduceLE, reduceToNat, reduceNeg, Nat.reduceLT, reduceLeDiff, reduceMul, reduceSub, reduceIte, reduceEqDiff, reduceAdd, reduceCtorEq]
        refine wpD_lm (fun (_, set, _, _) => set.length) (fun (_, set, _, out) => WocI n next words set out ∧ out.length ≤ 400)
          (fun ((vq, set, vo, out) : Nat × List Int × Nat × List Int) => ⟨L .any [(2, .ptr 2 (vs 0 0) 0), (3, .ptr 3 (vs 1 0) 0), (6, .own 24 vp), (7, .own 25 vo), (8, .ptr 8 (vs5 3 0) 0)],
            L .gone [(2, .box (vs 0 0) [iv n, .ro none 1 (rwn next)]), (3, .box (vs 1 0) [iv kind, .ro none 1 (rwn pairs), .ro none 1 (rwn words)]), (8, .box (vs5 3 0) [.own 27 vq]), (24, .row vp 1 true (rws (every n))), (25, .row vo 1 true (ints out)), (27, .row vq 1 true (ints set))]⟩)
          (_, allS n, _, []) ⟨wocI_0 A, by simp⟩ (by intro u; simp only [Bz1i, List.map_nil, go_sem, yz0, Int.reduceLT, reduceLE, reduceToNat, reduceNeg, Nat.reduceLT, reduceLeDiff, reduceMul, reduceSub, reduceIte, reduceEqDiff, reduceAdd, reduceCtorEq]; rfl) ?_
        rintro ⟨vq, set, vo, out⟩ ⟨I, ho⟩
        have I : WocI n next words set out := I
        have ho : out.length ≤ 400 := ho
        by_cases h2 : 2 ≤ set.length
        · obtain ⟨h1, h3, h4, h5, h6, h7, h8⟩ := woc_step A I.ws h2 hm
          obtain ⟨J, hlt⟩ := wocI_s A I h2 hm
          have hd : (set.length : Int) > 1 := by omega
          simp only [Bz1i, Bz5a, Bz93, decide_eq_true hd, go_sem, yz0, Int.reduceLT, reduceLE, reduceToNat, reduceNeg, Nat.reduceLT, reduceLeDiff, reduceMul, reduceSub, reduceIte, reduceEqDiff, reduceAdd, reduceCtorEq]
          intro hM vs6
          refine yz2 (k_IndexFunc (every n) nz16 [.rp [.ro none 1 (ints set)] 0] _ ⟨by simp only [go_sem, yz0, Int.reduceLT, reduceLE, reduceToNat, reduceNeg, Nat.reduceLT, reduceLeDiff, reduceMul, reduceSub, reduceIte, reduceEqDiff, reduceAdd, reduceCtorEq], by intros; simp only [rowIs, boxIs, coe_argN, coe_argNs, coe_ro_o, coeL_nil, yzi, coe_any, coe_val, coe_ro, yzm, yzl, coe_st, yzk, coe_rp, yzn, coe_clo, coe_own0, coe_ptr0, yzh, coeL_rws, coeL_rwn, L_hit, L_miss, L_nil, reduceEqDiff, ne_eq, reduceCtorEq, not_false_eq_true, true_and, and_true, and_self, exists_eq_left, exists_eq_right, List.mem_cons, List.not_mem_nil, or_false, AObj.row.injEq, AObj.box.injEq, exists_eq_left', exists_and_left, exists_eq, Nat.zero_lt_one, Nat.lt_add_one, List.map_cons, List.map_nil, AObj.ver, Nat.reduceLT, not_true_eq_false]⟩ (fun x _ => k_WordOfCertificate_2 x set h2)) qCS trivial ?_
          have hW : words.getD (pairI n (set.take 2)) [] = wocW n words set := rfl
          have hwl := (wordB_iff.1 h5).1
          simp only [h4, Bz92, rwn_getD h3, hW, go_sem, yz0, Int.reduceLT, reduceLE, reduceToNat, reduceNeg, Nat.reduceLT, reduceLeDiff, reduceMul, reduceSub, reduceIte, reduceEqDiff, reduceAdd, reduceCtorEq]
          intro vs7
          have hsl : set.length ≤ 1000000 := by rcases SI_len I.ws.si I.ws.rg with h9 | h9; omega; rw [h9]; simp
          refine ⟨⟨by omega, h3⟩, h3, by omega, ⟨by omega, h3⟩, h3, ?_⟩
          refine call_rowI (k_image n next set (wocW n words set) A I.ws.rg (wordB_iff.1 h5).2 hsl) qCS rfl ⟨_, rfl⟩ ?_
          rintro ys v8 rfl
          simp only [Bz91, go_sem, yz0, Int.reduceLT, reduceLE, reduceToNat, reduceNeg, Nat.reduceLT, reduceLeDiff, reduceMul, reduceSub, reduceIte, reduceEqDiff, reduceAdd, reduceCtorEq]
          intro hMo
          by_cases ho2 : 400 < ((out ++ wocW n words set).length : Int)
          · have hl := wocI_long J (by omega)
            have hc : wocC n next kind pairs words = 3 := by unfold wocC; rw [if_pos hv, if_pos hr, if_neg hk, if_neg (by omega)]
            rw [hc]
            simp only [Bz5b, decide_eq_true ho2, go_sem, yz0, Int.reduceLT, reduceLE, reduceToNat, reduceNeg, Nat.reduceLT, reduceLeDiff, reduceMul, reduceSub, reduceIte, reduceEqDiff, reduceAdd, reduceCtorEq]
            refine ⟨[], by simp, by simp, by simp, ?_⟩
            simp only [Nat.not_lt_zero, range1, ren_val, ren_any, ren_ro, rnNm_n, rnNm_sn, rnNm_o, rnNm_s, ren_st, ren_tup, renL_nil, yzu, yz9, renL_rws, renL_rwn, oren_box, oren_row, oren_map, yzd, yza, yze, yzg, yzq, yzs, yz5, yz7, yzf, yzb, yzt, yzr, List.range_zero, yz8, yz6, yzc, gone_nil, yzp, gone_two, AVal.fresh, freshL, yz3, yzo, AObj.fresh, id, Option.isSome_some, or_true, true_or, go_sem, yz0, Int.reduceLT, reduceLE, reduceToNat, reduceNeg, Nat.reduceLT, reduceLeDiff, reduceMul, reduceSub, reduceIte, reduceEqDiff, reduceAdd, reduceCtorEq]
            all_goals first | trivial | exact ⟨rfl, rfl⟩
          · simp only [Bz5b, decide_eq_false ho2, go_sem, yz0, Int.reduceLT, reduceLE, reduceToNat, reduceNeg, Nat.reduceLT, reduceLeDiff, reduceMul, reduceSub, reduceIte, reduceEqDiff, reduceAdd, reduceCtorEq]
            refine ⟨(imgL next set (wocW n words set)).length, hlt, fun u => ⟨(u, imgL next set (wocW n words set), vs7 6 0, out ++ wocW n words set), rfl, ⟨J, by dsimp only; omega⟩, rfl⟩⟩
        · have hd : ¬ (set.length : Int) > 1 := by omega
          simp only [Bz1i, Bz5a, Bz94, decide_eq_false hd, go_sem, yz0, Int.reduceLT, reduceLE, reduceToNat, reduceNeg, Nat.reduceLT, reduceLeDiff, reduceMul, reduceSub, reduceIte, reduceEqDiff, reduceAdd, reduceCtorEq]
          intro hM
          have he := wocI_end I (by omega)
          have hc : wocC n next kind pairs words = 0 := by unfold wocC; rw [if_pos hv, if_pos hr, if_neg hk, if_pos (by rw [← he]; exact ho)]
          rw [hc, ← he]
          refine ⟨[25], by simp, by simp, by simp, ?_⟩
          simp only [range1, List.length_singleton, decide_true, if_true, Nat.not_lt_zero, range1, ren_val, ren_any, ren_ro, rnNm_n, rnNm_sn, rnNm_o, rnNm_s, ren_st, ren_tup, renL_nil, yzu, yz9, renL_rws, renL_rwn, oren_box, oren_row, oren_map, yzd, yza, yze, yzg, yzq, yzs, yz5, yz7, yzf, yzb, yzt, yzr, List.range_zero, yz8, yz6, yzc, gone_nil, yzp, gone_two, AVal.fresh, freshL, yz3, yzo, AObj.fresh, id, Option.isSome_some, or_true, true_or, go_sem, yz0, Int.reduceLT, reduceLE, reduceToNat, reduceNeg, Nat.reduceLT, reduceLeDiff, reduceMul, reduceSub, reduceIte, reduceEqDiff, reduceAdd, reduceCtorEq]
          exact ⟨_, rfl, rfl⟩
theorem k_specWordOfCertificate (n : Int) (next : List (List Int)) (kind : Int) (pairs words : List (List Int)) :
    RowC2 Try.prog nzz [autA n next, certA kind pairs words] (if wocC n next kind pairs words = 0 then wocF n next words else []) (wocC n next kind pairs words) := by
  refine con_of mixed czhc rfl (by simp) ?_
  simp only [Az8p, Bz8o, yzj, yz1, go_sem, yz0, Int.reduceLT, reduceLE, reduceToNat, reduceNeg, Nat.reduceLT, reduceLeDiff, reduceMul, reduceSub, reduceIte, reduceEqDiff, reduceAdd, reduceCtorEq]
  rintro vs1 U1 - vs2 U2 -
  refine yz2 (k_l01Ok n next) qCS trivial ?_
  cases hv : autB n next with
  | false =>
    have hc : wocC n next kind pairs words = 1 := by unfold wocC; rw [if_neg (by rw [hv]; decide)]
    rw [hc]
    simp only [Bz50, yzj, yz1, go_sem, yz0, Int.reduceLT, reduceLE, reduceToNat, reduceNeg, Nat.reduceLT, reduceLeDiff, reduceMul, reduceSub, reduceIte, reduceEqDiff, reduceAdd, reduceCtorEq]
    rintro vs3 U3 -
    refine ⟨[12], by simp, by simp, by simp, ?_⟩
    simp only [range1, List.length_singleton, Nat.not_lt_zero, range1, ren_val, ren_any, ren_ro, rnNm_n, rnNm_sn, rnNm_o, rnNm_s, ren_st, ren_tup, renL_nil, yzu, yz9, renL_rws, renL_rwn, oren_box, oren_row, oren_map, yzd, yza, yze, yzg, yzq, yzs, yz5, yz7, yzf, yzb, yzt, yzr, List.range_zero, yz8, yz6, yzc, gone_nil, yzp, gone_two, AVal.fresh, freshL, yz3, yzo, AObj.fresh, id, Option.isSome_some, or_true, true_or, go_sem, yz0, Int.reduceLT, reduceLE, reduceToNat, reduceNeg, Nat.reduceLT, reduceLeDiff, reduceMul, reduceSub, reduceIte, reduceEqDiff, reduceAdd, reduceCtorEq]
    exact ⟨_, rfl, rfl⟩
  | true =>
    have A := autB_iff.1 hv
    have n1 := A.n1
    have n2 := A.n2
    simp only [Bz50, Bz8n, yzj, yz1, go_sem, yz0, Int.reduceLT, reduceLE, reduceToNat, reduceNeg, Nat.reduceLT, reduceLeDiff, reduceMul, reduceSub, reduceIte, reduceEqDiff, reduceAdd, reduceCtorEq]
    rintro vs3 U3 -
    refine yz2 (k_l02Right n next kind pairs words A) qCS trivial ?_
    cases hr : rightB n next kind pairs words with
    | false =>
      have hc : wocC n next kind pairs words = 8 := by unfold wocC; rw [if_pos hv, if_neg (by rw [hr]; decide)]
      rw [hc]
      simp only [Bz1g, yzj, yz1, go_sem, yz0, Int.reduceLT, reduceLE, reduceToNat, reduceNeg, Nat.reduceLT, reduceLeDiff, reduceMul, reduceSub, reduceIte, reduceEqDiff, reduceAdd, reduceCtorEq]
      rintro vs4 U4 -
      refine ⟨[15], by simp, by simp, by simp, ?_⟩
      simp only [range1, List.length_singleton, Nat.not_lt_zero, range1, ren_val, ren_any, ren_ro, rnNm_n, rnNm_sn, rnNm_o, rnNm_s, ren_st, ren_tup, renL_nil, yzu, yz9, renL_rws, renL_rwn, oren_box, oren_row, oren_map, yzd, yza, yze, yzg, yzq, yzs, yz5, yz7, yzf, yzb, yzt, yzr, List.range_zero, yz8, yz6, yzc, gone_nil, yzp, gone_two, AVal.fresh, freshL, yz3, yzo, AObj.fresh, id, Option.isSome_some, or_true, true_or, go_sem, yz0, Int.reduceLT, reduceLE, reduceToNat, reduceNeg, Nat.reduceLT, reduceLeDiff, reduceMul, reduceSub, reduceIte, reduceEqDiff, reduceAdd, reduceCtorEq]
      exact ⟨_, rfl, rfl⟩
    | true =>
      by_cases hk : kind = 2
      · have hc : wocC n next kind pairs words = 4 := by unfold wocC; rw [if_pos hv, if_pos hr, if_pos hk]
        rw [hc]
        subst hk
        simp only [Bz1g, Bz57, Bz51, beq_self_eq_true, yzj, yz1, go_sem, yz0, Int.reduceLT, reduceLE, reduceToNat, reduceNeg, Nat.reduceLT, reduceLeDiff, reduceMul, reduceSub, reduceIte, reduceEqDiff, reduceAdd, reduceCtorEq]
        rintro vs4 U4 - vs5 U5 -
        refine ⟨[19], by simp, by simp, by simp, ?_⟩
        simp only [range1, List.length_singleton, Nat.not_lt_zero, range1, ren_val, ren_any, ren_ro, rnNm_n, rnNm_sn, rnNm_o, rnNm_s, ren_st, ren_tup, renL_nil, yzu, yz9, renL_rws, renL_rwn, oren_box, oren_row, oren_map, yzd, yza, yze, yzg, yzq, yzs, yz5, yz7, yzf, yzb, yzt, yzr, List.range_zero, yz8, yz6, yzc, gone_nil, yzp, gone_two, AVal.fresh, freshL, yz3, yzo, AObj.fresh, id, Option.isSome_some, or_true, true_or, go_sem, yz0, Int.reduceLT, reduceLE, reduceToNat, reduceNeg, Nat.reduceLT, reduceLeDiff, reduceMul, reduceSub, reduceIte, reduceEqDiff, reduceAdd, reduceCtorEq]
        exact ⟨_, rfl, rfl⟩
      · have hm := right_m hr hk n1
        have hk2 : (kind == 2) = false := beqF hk
        have hel := pairsL_len ⟨n1, n2⟩ (p := fun _ _ => true)
        simp only [Bz1g, Bz57, Bz51, Bz8m, hk2, yzj, yz1, go_sem, yz0, Int.reduceLT, reduceLE, reduceToNat, reduceNeg, Nat.reduceLT, reduceLeDiff, reduceMul, reduceSub, reduceIte, reduceEqDiff, reduceAdd, reduceCtorEq]
        rintro vs4 U4 - vs5 U5 -
        refine call_rowR (k_l02Pairs n ⟨n1, n2⟩) qCS rfl ⟨_, rfl⟩ ?_
        rintro xss vp rfl
        simp only [Bz8l, Bz8k, yzj, yz1, go_sem, yz0, Int.reduceLT, reduceLE, reduceToNat, reduceNeg, Nat.reduceLT, reduceLeDiff, reduceMul, reduceSub, reduceIte, reduceEqDiff, reduceAdd, reduceCtorEq]
        rintro vs6 U6 - vs7 U7 -
        refine call_rowI (k_l01All n ⟨by omega, by omega⟩) qCS rfl ⟨_, rfl⟩ ?_
        rintro xs vq rfl
        simp only [Bz8j, yzj, yz1, go_sem, yz0, Int.reduceLT, reduceLE, reduceToNat, reduceNeg, Nat.reduceLT, reduceLeDiff, reduceMul, reduceSub, reduceIte, reduceEqDiff, reduceAdd, reduceCtorEq]
        refine wpD_lp (fun (_, _, set, _, _) => set.length) (fun (q, _, set, _, out) => (q = 26 ∨ q = 43) ∧ WocI n next words set out)
          (fun ((q, v, set, vo, out) : Nat × Nat × List Int × Nat × List Int) => ⟨L .any [(2, .ptr 2 (vs1 0 0) 0), (3, .ptr 3 (vs1 1 0) 0), (6, .own 22 vp), (7, .own 23 vo), (8, .own q v)],
            L .gone [(2, .box (vs1 0 0) [iv n, .ro none 1 (rwn next)]), (3, .box (vs1 1 0) [iv kind, .ro none 1 (rwn pairs), .ro none 1 (rwn words)]), (22, .row vp 1 true (rws (every n))), (23, .row vo 1 true (ints out)),
              (26, if q = 26 then .row v 1 true (ints set) else .gone), (40, .gone), (43, if q = 43 then .row v 1 true (ints set) else .gone), (5000, .gone), (5001, .gone)]⟩)
          (26, _, allS n, _, []) ⟨.inl rfl, wocI_0 A⟩ (by simp only [Bz6, List.map_nil, go_sem, yz0, Int.reduceLT, reduceLE, reduceToNat, reduceNeg, Nat.reduceLT, reduceLeDiff, reduceMul, reduceSub, reduceIte, reduceEqDiff, reduceAdd, reduceCtorEq]; rfl) ?_
        rintro ⟨q, v, set, vo, out⟩ ⟨hq, I⟩
        have I : WocI n next words set out := I
        have hq : q = 26 ∨ q = 43 := hq
        rcases hq with rfl | rfl
        · by_cases h2 : 2 ≤ set.length
          · obtain ⟨h1, h3, h4, h5, h6, h7, h8⟩ := woc_step A I.ws h2 hm
            obtain ⟨J, hlt⟩ := wocI_s A I h2 hm
            have hd : (set.length : Int) > 1 := by omega
            simp only [Bz6, Bzn, reduceEqDiff, if_true, if_false, yzj, yz1, decide_eq_true hd, go_sem, yz0, Int.reduceLT, reduceLE, reduceToNat, reduceNeg, Nat.reduceLT, reduceLeDiff, reduceMul, reduceSub, reduceIte, reduceEqDiff, reduceAdd, reduceCtorEq]
            rintro vs8 U8 - hMl
            simp only [Bz54, yzj, wpD_gh, go_sem, yz0, Int.reduceLT, reduceLE, reduceToNat, reduceNeg, Nat.reduceLT, reduceLeDiff, reduceMul, reduceSub, reduceIte, reduceEqDiff, reduceAdd, reduceCtorEq]
            intro _
            refine ⟨[.tf 8 26], gwp_tf rfl rfl ?_⟩
            have h0 : Int.toNat 2 ≤ set.length := h2
            simp only [gwp_nil, yzj, yz1, frNm_t, St.bound, List.drop_zero, intsK_take, go_sem, yz0, Int.reduceLT, reduceLE, reduceToNat, reduceNeg, Nat.reduceLT, reduceLeDiff, reduceMul, reduceSub, reduceIte, reduceEqDiff, reduceAdd, reduceCtorEq]
            rintro vs10 U10 -
            refine ⟨h2, ?_⟩
            have hW : words.getD (pairI n (set.take 2)) [] = wocW n words set := rfl
            have hwl := (wordB_iff.1 h5).1
            have hln := I.ln
            have hsl : set.length ≤ 1000000 := by rcases SI_len I.ws.si I.ws.rg with h9 | h9; omega; rw [h9]; simp
            refine yz2 (k_l01Find (every n) (set.take 2)) qCS trivial ?_
            simp only [h4, Bz53, rwn_getD h3, hW, yzj, yz1, go_sem, yz0, Int.reduceLT, reduceLE, reduceToNat, reduceNeg, Nat.reduceLT, reduceLeDiff, reduceMul, reduceSub, reduceIte, reduceEqDiff, reduceAdd, reduceCtorEq]
            refine ⟨⟨by omega, h3⟩, h3, ?_⟩
            rintro vs11 U11 -
            refine ⟨by omega, ?_⟩
            simp only [Bz52, yzj, yz1, go_sem, yz0, Int.reduceLT, reduceLE, reduceToNat, reduceNeg, Nat.reduceLT, reduceLeDiff, reduceMul, reduceSub, reduceIte, reduceEqDiff, reduceAdd, reduceCtorEq]
            rintro vs12 U12 -
            refine call_rowI (k_l01Image n next set (wocW n words set) A I.ws.rg (wordB_iff.1 h5).2 hsl) qCS rfl ⟨_, rfl⟩ ?_
            rintro ys v9 rfl
            simp only [go_sem, yz0, Int.reduceLT, reduceLE, reduceToNat, reduceNeg, Nat.reduceLT, reduceLeDiff, reduceMul, reduceSub, reduceIte, reduceEqDiff, reduceAdd, reduceCtorEq]
            exact ⟨(43, _, _, _, _), hlt, ⟨.inr rfl, J⟩, rfl⟩
          · have hd : ¬ (set.length : Int) > 1 := by omega
            simp only [Bz6, Bzn, Bz56, reduceEqDiff, if_true, if_false, yzj, yz1, decide_eq_false hd, go_sem, yz0, Int.reduceLT, reduceLE, reduceToNat, reduceNeg, Nat.reduceLT, reduceLeDiff, reduceMul, reduceSub, reduceIte, reduceEqDiff, reduceAdd, reduceCtorEq]
            rintro vs8 U8 - hMl vs9 U9 - hMo
            have he := wocI_end I (by omega)
            by_cases ho : 400 < (out.length : Int)
            · have hc : wocC n next kind pairs words = 3 := by unfold wocC; rw [if_pos hv, if_pos hr, if_neg hk, if_neg (by rw [← he]; omega)]
              rw [hc]
              simp only [Bzo, decide_eq_true ho, yzj, yz1, go_sem, yz0, Int.reduceLT, reduceLE, reduceToNat, reduceNeg, Nat.reduceLT, reduceLeDiff, reduceMul, reduceSub, reduceIte, reduceEqDiff, reduceAdd, reduceCtorEq]
              rintro vs10 U10 -
              refine ⟨[47], by simp, by simp, by simp, ?_⟩
              simp only [range1, List.length_singleton, Nat.not_lt_zero, range1, ren_val, ren_any, ren_ro, rnNm_n, rnNm_sn, rnNm_o, rnNm_s, ren_st, ren_tup, renL_nil, yzu, yz9, renL_rws, renL_rwn, oren_box, oren_row, oren_map, yzd, yza, yze, yzg, yzq, yzs, yz5, yz7, yzf, yzb, yzt, yzr, List.range_zero, yz8, yz6, yzc, gone_nil, yzp, gone_two, AVal.fresh, freshL, yz3, yzo, AObj.fresh, id, Option.isSome_some, or_true, true_or, go_sem, yz0, Int.reduceLT, reduceLE, reduceToNat, reduceNeg, Nat.reduceLT, reduceLeDiff, reduceMul, reduceSub, reduceIte, reduceEqDiff, reduceAdd, reduceCtorEq]
              exact ⟨_, rfl, rfl⟩
            · have hc : wocC n next kind pairs words = 0 := by unfold wocC; rw [if_pos hv, if_pos hr, if_neg hk, if_pos (by rw [← he]; omega)]
              rw [hc, if_pos rfl, ← he]
              simp only [Bzo, Bz55, decide_eq_false ho, yzj, yz1, go_sem, yz0, Int.reduceLT, reduceLE, reduceToNat, reduceNeg, Nat.reduceLT, reduceLeDiff, reduceMul, reduceSub, reduceIte, reduceEqDiff, reduceAdd, reduceCtorEq]
              rintro vs10 U10 -
              refine ⟨[23], by simp, by simp, by simp, ?_⟩
              simp only [range1, List.length_singleton, Nat.not_lt_zero, range1, ren_val, ren_any, ren_ro, rnNm_n, rnNm_sn, rnNm_o, rnNm_s, ren_st, ren_tup, renL_nil, yzu, yz9, renL_rws, renL_rwn, oren_box, oren_row, oren_map, yzd, yza, yze, yzg, yzq, yzs, yz5, yz7, yzf, yzb, yzt, yzr, List.range_zero, yz8, yz6, yzc, gone_nil, yzp, gone_two, AVal.fresh, freshL, yz3, yzo, AObj.fresh, id, Option.isSome_some, or_true, true_or, go_sem, yz0, Int.reduceLT, reduceLE, reduceToNat, reduceNeg, Nat.reduceLT, reduceLeDiff, reduceMul, reduceSub, reduceIte, reduceEqDiff, reduceAdd, reduceCtorEq]
              exact ⟨_, rfl, rfl⟩
        · by_cases h2 : 2 ≤ set.length
          · obtain ⟨h1, h3, h4, h5, h6, h7, h8⟩ := woc_step A I.ws h2 hm
            obtain ⟨J, hlt⟩ := wocI_s A I h2 hm
            have hd : (set.length : Int) > 1 := by omega
            simp only [Bz6, Bzn, reduceEqDiff, if_true, if_false, yzj, yz1, decide_eq_true hd, go_sem, yz0, Int.reduceLT, reduceLE, reduceToNat, reduceNeg, Nat.reduceLT, reduceLeDiff, reduceMul, reduceSub, reduceIte, reduceEqDiff, reduceAdd, reduceCtorEq]
            rintro vs8 U8 - hMl
            simp only [Bz54, yzj, wpD_gh, go_sem, yz0, Int.reduceLT, reduceLE, reduceToNat, reduceNeg, Nat.reduceLT, reduceLeDiff, reduceMul, reduceSub, reduceIte, reduceEqDiff, reduceAdd, reduceCtorEq]
            intro _
            refine ⟨[.tf 8 43], gwp_tf rfl rfl ?_⟩
            have h0 : Int.toNat 2 ≤ set.length := h2
            simp only [gwp_nil, yzj, yz1, frNm_t, St.bound, List.drop_zero, intsK_take, go_sem, yz0, Int.reduceLT, reduceLE, reduceToNat, reduceNeg, Nat.reduceLT, reduceLeDiff, reduceMul, reduceSub, reduceIte, reduceEqDiff, reduceAdd, reduceCtorEq]
            rintro vs10 U10 -
            refine ⟨h2, ?_⟩
            have hW : words.getD (pairI n (set.take 2)) [] = wocW n words set := rfl
            have hwl := (wordB_iff.1 h5).1
            have hln := I.ln
            have hsl : set.length ≤ 1000000 := by rcases SI_len I.ws.si I.ws.rg with h9 | h9; omega; rw [h9]; simp
            refine yz2 (k_l01Find (every n) (set.take 2)) qCS trivial ?_
            simp only [h4, Bz53, rwn_getD h3, hW, yzj, yz1, go_sem, yz0, Int.reduceLT, reduceLE, reduceToNat, reduceNeg, Nat.reduceLT, reduceLeDiff, reduceMul, reduceSub, reduceIte, reduceEqDiff, reduceAdd, reduceCtorEq]
            refine ⟨⟨by omega, h3⟩, h3, ?_⟩
            rintro vs11 U11 -
            refine ⟨by omega, ?_⟩
            simp only [Bz52, yzj, yz1, go_sem, yz0, Int.reduceLT, reduceLE, reduceToNat, reduceNeg, Nat.reduceLT, reduceLeDiff, reduceMul, reduceSub, reduceIte, reduceEqDiff, reduceAdd, reduceCtorEq]
            rintro vs12 U12 -
            refine call_rowI (k_l01Image n next set (wocW n words set) A I.ws.rg (wordB_iff.1 h5).2 hsl) qCS rfl ⟨_, rfl⟩ ?_
            rintro ys v9 rfl
            simp only [go_sem, yz0, Int.reduceLT, reduceLE, reduceToNat, reduceNeg, Nat.reduceLT, reduceLeDiff, reduceMul, reduceSub, reduceIte, reduceEqDiff, reduceAdd, reduceCtorEq]
            exact ⟨(43, _, _, _, _), hlt, ⟨.inr rfl, J⟩, rfl⟩
          · have hd : ¬ (set.length : Int) > 1 := by omega
            simp only [Bz6, Bzn, Bz56, reduceEqDiff, if_true, if_false, yzj, yz1, decide_eq_false hd, go_sem, yz0, Int.reduceLT, reduceLE, reduceToNat, reduceNeg, Nat.reduceLT, reduceLeDiff, reduceMul, reduceSub, reduceIte, reduceEqDiff, reduceAdd, reduceCtorEq]
            rintro vs8 U8 - hMl vs9 U9 - hMo
            have he := wocI_end I (by omega)
            by_cases ho : 400 < (out.length : Int)
            · have hc : wocC n next kind pairs words = 3 := by unfold wocC; rw [if_pos hv, if_pos hr, if_neg hk, if_neg (by rw [← he]; omega)]
              rw [hc]
              simp only [Bzo, decide_eq_true ho, yzj, yz1, go_sem, yz0, Int.reduceLT, reduceLE, reduceToNat, reduceNeg, Nat.reduceLT, reduceLeDiff, reduceMul, reduceSub, reduceIte, reduceEqDiff, reduceAdd, reduceCtorEq]
              rintro vs10 U10 -
              refine ⟨[47], by simp, by simp, by simp, ?_⟩
              simp only [range1, List.length_singleton, Nat.not_lt_zero, range1, ren_val, ren_any, ren_ro, rnNm_n, rnNm_sn, rnNm_o, rnNm_s, ren_st, ren_tup, renL_nil, yzu, yz9, renL_rws, renL_rwn, oren_box, oren_row, oren_map, yzd, yza, yze, yzg, yzq, yzs, yz5, yz7, yzf, yzb, yzt, yzr, List.range_zero, yz8, yz6, yzc, gone_nil, yzp, gone_two, AVal.fresh, freshL, yz3, yzo, AObj.fresh, id, Option.isSome_some, or_true, true_or, go_sem, yz0, Int.reduceLT, reduceLE, reduceToNat, reduceNeg, Nat.reduceLT, reduceLeDiff, reduceMul, reduceSub, reduceIte, reduceEqDiff, reduceAdd, reduceCtorEq]
              exact ⟨_, rfl, rfl⟩
            · have hc : wocC n next kind pairs words = 0 := by unfold wocC; rw [if_pos hv, if_pos hr, if_neg hk, if_pos (by rw [← he]; omega)]
              rw [hc, if_pos rfl, ← he]
              simp only [Bzo, Bz55, decide_eq_false ho, yzj, yz1, go_sem, yz0, Int.reduceLT, reduceLE, reduceToNat, reduceNeg, Nat.reduceLT, reduceLeDiff, reduceMul, reduceSub, reduceIte, reduceEqDiff, reduceAdd, reduceCtorEq]
              rintro vs10 U10 -
              refine ⟨[23], by simp, by simp, by simp, ?_⟩
              simp only [range1, List.length_singleton, Nat.not_lt_zero, range1, ren_val, ren_any, ren_ro, rnNm_n, rnNm_sn, rnNm_o, rnNm_s, ren_st, ren_tup, renL_nil, yzu, yz9, renL_rws, renL_rwn, oren_box, oren_row, oren_map, yzd, yza, yze, yzg, yzq, yzs, yz5, yz7, yzf, yzb, yzt, yzr, List.range_zero, yz8, yz6, yzc, gone_nil, yzp, gone_two, AVal.fresh, freshL, yz3, yzo, AObj.fresh, id, Option.isSome_some, or_true, true_or, go_sem, yz0, Int.reduceLT, reduceLE, reduceToNat, reduceNeg, Nat.reduceLT, reduceLeDiff, reduceMul, reduceSub, reduceIte, reduceEqDiff, reduceAdd, reduceCtorEq]
              exact ⟨_, rfl, rfl⟩
end Go.Ab
