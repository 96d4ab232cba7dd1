/- Contracts: rows that are compared; all pairs of states. Conditions: none. -/
import Derived.Test.YtgcbdccnhkfjoaaKt
set_option linter.all false
namespace Go.Ab
open Go.Proofs
set_option maxRecDepth 20000
set_option maxHeartbeats 1000000

def cmpI (x y : Int) : Int := if x < y then -1 else if x > y then 1 else 0
def cmpL : List Int → List Int → Int
  | [], [] => 0
  | [], _ :: _ => -1
  | _ :: _, [] => 1
  | x :: xs, y :: ys => if cmpI x y = 0 then cmpL xs ys else cmpI x y

/-- Pairs of s and states from t on. -/
def prow (p : Int → Int → Bool) (s : Int) : Int → Nat → List (List Int)
  | _, 0 => []
  | t, m + 1 => (if p s t = true then [[s, t]] else []) ++ prow p s (t + 1) m
/-- Pairs of states from s on. -/
def pall (p : Int → Int → Bool) (n : Int) : Int → Nat → List (List Int)
  | _, 0 => []
  | s, m + 1 => prow p s (s + 1) (n - (s + 1)).toNat ++ pall p n (s + 1) m
/-- All pairs of which p holds. -/
def pairsL (n : Int) (p : Int → Int → Bool) : List (List Int) := pall p n 0 n.toNat

theorem prow_len {p : Int → Int → Bool} {s : Int} : ∀ (m : Nat) (t : Int), (prow p s t m).length ≤ m
  | 0, t => by simp [prow]
  | m + 1, t => by
    have := prow_len (p := p) (s := s) m (t + 1)
    simp only [prow, List.length_append]
    split <;> simp <;> omega
theorem pall_len {p : Int → Int → Bool} {n : Int} : ∀ (m : Nat) (s : Int), 0 ≤ s → (pall p n s m).length ≤ m * n.toNat
  | 0, s, _ => by simp [pall]
  | m + 1, s, hs => by
    have h1 := pall_len (p := p) (n := n) m (s + 1) (by omega)
    have h2 := prow_len (p := p) (s := s) (n - (s + 1)).toNat (s + 1)
    simp only [pall, List.length_append, Nat.succ_mul]
    omega
theorem pairsL_len {n : Int} (hn : 1 ≤ n ∧ n ≤ 10) {p : Int → Int → Bool} : (pairsL n p).length ≤ 100 := by
  have h := pall_len (p := p) (n := n) n.toNat 0 (by omega)
  have : n.toNat * n.toNat ≤ 10 * 10 := Nat.mul_le_mul (by omega) (by omega)
  unfold pairsL; omega

theorem prow_mem {p : Int → Int → Bool} {s : Int} {x : List Int} : ∀ (m : Nat) (t : Int), x ∈ prow p s t m ↔ ∃ u : Int, t ≤ u ∧ u < t + m ∧ p s u = true ∧ x = [s, u]
  | 0, t => by
    simp only [prow, List.not_mem_nil, false_iff]
    rintro ⟨u, h1, h2, _⟩; omega
  | m + 1, t => by
    have ih := prow_mem (p := p) (s := s) (x := x) m (t + 1)
    simp only [prow, List.mem_append, ih]
    constructor
    · rintro (h | ⟨u, h1, h2, h3⟩)
      · split at h
        · rename_i hp
          exact ⟨t, by omega, by omega, hp, by simpa using h⟩
        · cases h
      · exact ⟨u, by omega, by omega, h3⟩
    · rintro ⟨u, h1, h2, h3, h4⟩
      by_cases hu : u = t
      · subst hu
        left; rw [if_pos h3]; simpa using h4
      · exact .inr ⟨u, by omega, by omega, h3, h4⟩
theorem pall_mem {p : Int → Int → Bool} {n : Int} {x : List Int} : ∀ (m : Nat) (s : Int), s + m = n → (x ∈ pall p n s m ↔ ∃ a b : Int, s ≤ a ∧ a < b ∧ b < n ∧ p a b = true ∧ x = [a, b])
  | 0, s, hm => by
    simp only [pall, List.not_mem_nil, false_iff]
    rintro ⟨a, b, h1, h2, h3, _⟩; omega
  | m + 1, s, hm => by
    have ih := pall_mem (p := p) (n := n) (x := x) m (s + 1) (by omega)
    simp only [pall, List.mem_append, ih, prow_mem]
    constructor
    · rintro (⟨u, h1, h2, h3, h4⟩ | ⟨a, b, h1, h2⟩)
      · exact ⟨s, u, by omega, by omega, by omega, h3, h4⟩
      · exact ⟨a, b, by omega, h2⟩
    · rintro ⟨a, b, h1, h2, h3, h4, h5⟩
      by_cases ha : a = s
      · subst ha; exact .inl ⟨b, by omega, by omega, h4, h5⟩
      · exact .inr ⟨a, b, by omega, h2, h3, h4, h5⟩
theorem pairsL_mem {n : Int} (hn : 0 ≤ n) {p : Int → Int → Bool} {x : List Int} : x ∈ pairsL n p ↔ ∃ a b : Int, 0 ≤ a ∧ a < b ∧ b < n ∧ p a b = true ∧ x = [a, b] := pall_mem _ _ (by omega)

theorem k_pairs (n : Int) (next : List (List Int)) (g : FuncId) (caps : List AVal) (p : Int → Int → Bool) (hn : 1 ≤ n ∧ n ≤ 10) (hc : Caps caps) (h : ∀ s t, 0 ≤ s → s < t → t < n → Fun Try.prog g (iv s :: iv t :: caps) (bv (p s t))) :
    RowR Try.prog n_impl_Automaton_pairs [autA n next, .clo g caps] (fun xss => xss = pairsL n p) := by
  refine rowR_of mixed c_impl_Automaton_pairs rfl ?_
  have hpl := pairsL_len hn (p := p)
  simp only [A_impl_Automaton_pairs, B_impl_Automaton_pairs_1, hc.dn, go_sem, adopt_fun, Int.reduceLT, Int.reduceLE, Int.reduceToNat, Int.reduceNeg, Nat.reduceLT, Nat.reduceLeDiff, Nat.reduceMul, Nat.reduceSub, reduceIte, Nat.reduceEqDiff, Nat.reduceAdd, reduceCtorEq]
  intro vs vs2
  simp only [B_impl_Automaton_pairs_2, B_impl_Automaton_pairs_3, hc.dn, go_sem, adopt_fun, Int.reduceLT, Int.reduceLE, Int.reduceToNat, Int.reduceNeg, Nat.reduceLT, Nat.reduceLeDiff, Nat.reduceMul, Nat.reduceSub, reduceIte, Nat.reduceEqDiff, Nat.reduceAdd, reduceCtorEq]
  refine wpD_lo (fun (_, _, s) => n.toNat - s) (fun (_, acc, s) => (s : Int) ≤ n ∧ acc ++ pall p n s (n.toNat - s) = pairsL n p)
    (fun ((v, acc, s) : Nat × List (List Int) × Nat) => ⟨L .any [(1, .clo g caps), (2, .ptr 2 (vs 0 0) 0), (5, .own 8 v), (10, iv n), (11, iv s)], L .gone [(2, .box (vs 0 0) [iv n, .ro none 1 (rwn next)]), (8, .row v 1 true (rws acc))]⟩)
    (_, [], 0) ⟨by omega, rfl⟩ (by simp only [B_impl_Automaton_pairs_4, hc.dn, go_sem, adopt_fun, Int.reduceLT, Int.reduceLE, Int.reduceToNat, Int.reduceNeg, Nat.reduceLT, Nat.reduceLeDiff, Nat.reduceMul, Nat.reduceSub, reduceIte, Nat.reduceEqDiff, Nat.reduceAdd, reduceCtorEq]; try rfl) ?_
  rintro ⟨v, acc, s⟩ ⟨hs, hacc⟩
  have hs : (s : Int) ≤ n := hs
  by_cases hlt : (s : Int) < n
  · have w0 : IntKind.i64.wrap ((s : Int) + 1) = ((s + 1 : Nat) : Int) := by rw [w64 (by omega)]; omega
    have e1 : n.toNat - s = (n.toNat - (s + 1)) + 1 := by omega
    rw [e1] at hacc
    simp only [pall] at hacc
    simp only [B_impl_Automaton_pairs_4, B_impl_Automaton_pairs_5, B_impl_Automaton_pairs_6, B_impl_Automaton_pairs_7, B_impl_Automaton_pairs_8, w0, decide_eq_true hlt, hc.dn, go_sem, adopt_fun, Int.reduceLT, Int.reduceLE, Int.reduceToNat, Int.reduceNeg, Nat.reduceLT, Nat.reduceLeDiff, Nat.reduceMul, Nat.reduceSub, reduceIte, Nat.reduceEqDiff, Nat.reduceAdd, reduceCtorEq]
    refine wpD_lo (fun (_, _, t) => n.toNat - t) (fun (_, acc', t) => (t : Int) ≤ n ∧ s < t ∧ acc' ++ (prow p s t (n - t).toNat ++ pall p n ((s : Int) + 1) (n.toNat - (s + 1))) = pairsL n p)
      (fun ((v, acc', t) : Nat × List (List Int) × Nat) => ⟨L .any [(1, .clo g caps), (2, .ptr 2 (vs 0 0) 0), (5, .own 8 v), (6, iv s), (7, iv t), (10, iv n), (11, iv s)], L .gone [(2, .box (vs 0 0) [iv n, .ro none 1 (rwn next)]), (8, .row v 1 true (rws acc'))]⟩)
      (_, acc, s + 1) ⟨by omega, by omega, hacc⟩ (by simp only [B_impl_Automaton_pairs_9, hc.dn, go_sem, adopt_fun, Int.reduceLT, Int.reduceLE, Int.reduceToNat, Int.reduceNeg, Nat.reduceLT, Nat.reduceLeDiff, Nat.reduceMul, Nat.reduceSub, reduceIte, Nat.reduceEqDiff, Nat.reduceAdd, reduceCtorEq]; try rfl) ?_
    rintro ⟨v', acc', t⟩ ⟨ht, hst, hacc'⟩
    have ht : (t : Int) ≤ n := ht
    have hst : s < t := hst
    have w1 : IntKind.i64.wrap ((t : Int) + 1) = ((t + 1 : Nat) : Int) := by rw [w64 (by omega)]; omega
    by_cases hlt2 : (t : Int) < n
    · have e2 : (n - (t : Int)).toNat = (n - ((t + 1 : Nat) : Int)).toNat + 1 := by omega
      have e3 : ((t + 1 : Nat) : Int) = (t : Int) + 1 := by omega
      rw [e2] at hacc'
      simp only [prow] at hacc'
      simp only [B_impl_Automaton_pairs_9, B_impl_Automaton_pairs_10, B_impl_Automaton_pairs_11, decide_eq_true hlt2, hc.dn, go_sem, adopt_fun, Int.reduceLT, Int.reduceLE, Int.reduceToNat, Int.reduceNeg, Nat.reduceLT, Nat.reduceLeDiff, Nat.reduceMul, Nat.reduceSub, reduceIte, Nat.reduceEqDiff, Nat.reduceAdd, reduceCtorEq]
      intro vs3
      refine call_fun (h s t (by omega) (by omega) hlt2) (by simp only [rowIs, boxIs, coe_argN, coe_argNs, coe_ro_o, coeL_nil, coeL_cons, coe_any, coe_val, coe_ro, coe_ro_nil, coe_ro_own, coe_st, coe_st_agg, coe_rp, coe_rp_ptr, coe_clo, coe_own0, coe_ptr0, coeL_intsK, coeL_rws, coeL_rwn, L_hit, L_miss, L_nil, Nat.reduceEqDiff, ne_eq, reduceCtorEq, not_false_eq_true, true_and, and_true, and_self, exists_eq_left, exists_eq_right, List.mem_cons, List.not_mem_nil, or_false, AObj.row.injEq, AObj.box.injEq, exists_eq_left', exists_and_left, exists_eq, Nat.zero_lt_one, Nat.lt_add_one, List.map_cons, List.map_nil, AObj.ver, Nat.reduceLT, not_true_eq_false]; exact hc.coe _ _ _) trivial ?_
      cases hp : p s t with
      | true =>
        rw [hp, if_pos rfl] at hacc'
        have hal : acc'.length ≤ 100 := by rw [← hacc', List.length_append] at hpl; omega
        have hr : rws acc' ++ [.ro (some none) 1 [.val (.int .i64 s), .val (.int .i64 t)]] = rws (acc' ++ [[(s : Int), (t : Int)]]) := by simp [rws]
        simp only [B_impl_Automaton_pairs_12, B_impl_Automaton_pairs_13, w1, hr, hc.dn, go_sem, adopt_fun, Int.reduceLT, Int.reduceLE, Int.reduceToNat, Int.reduceNeg, Nat.reduceLT, Nat.reduceLeDiff, Nat.reduceMul, Nat.reduceSub, reduceIte, Nat.reduceEqDiff, Nat.reduceAdd, reduceCtorEq]
        intro vs4
        exact ⟨⟨⟨_, rfl, rfl⟩, _, rfl, rfl⟩, by omega, (vs4 5 0, acc' ++ [[(s : Int), (t : Int)]], t + 1), by dsimp only; omega, ⟨by dsimp only; omega, by dsimp only; omega, by dsimp only; rw [e3, List.append_assoc, ← hacc', ← e3, List.append_assoc]⟩, rfl⟩
      | false =>
        rw [hp, if_neg (by simp), List.nil_append] at hacc'
        simp only [B_impl_Automaton_pairs_12, B_impl_Automaton_pairs_13, w1, hc.dn, go_sem, adopt_fun, Int.reduceLT, Int.reduceLE, Int.reduceToNat, Int.reduceNeg, Nat.reduceLT, Nat.reduceLeDiff, Nat.reduceMul, Nat.reduceSub, reduceIte, Nat.reduceEqDiff, Nat.reduceAdd, reduceCtorEq]
        exact ⟨(_, acc', t + 1), by dsimp only; omega, ⟨by dsimp only; omega, by dsimp only; omega, by dsimp only; rw [e3]; exact hacc'⟩, rfl⟩
    · have ht2 : (t : Int) = n := by omega
      have e2 : (n - (t : Int)).toNat = 0 := by omega
      rw [e2] at hacc'
      simp only [prow, List.nil_append] at hacc'
      simp only [B_impl_Automaton_pairs_9, B_impl_Automaton_pairs_10, B_impl_Automaton_pairs_11, B_impl_Automaton_pairs_14, w0, decide_eq_false hlt2, hc.dn, go_sem, adopt_fun, Int.reduceLT, Int.reduceLE, Int.reduceToNat, Int.reduceNeg, Nat.reduceLT, Nat.reduceLeDiff, Nat.reduceMul, Nat.reduceSub, reduceIte, Nat.reduceEqDiff, Nat.reduceAdd, reduceCtorEq]
      exact ⟨(_, acc', s + 1), by dsimp only; omega, ⟨by dsimp only; omega, by dsimp only; rw [show ((s + 1 : Nat) : Int) = (s : Int) + 1 by omega]; exact hacc'⟩, rfl⟩
  · have hs2 : n.toNat - s = 0 := by omega
    rw [hs2] at hacc
    simp only [pall, List.append_nil] at hacc
    simp only [B_impl_Automaton_pairs_4, B_impl_Automaton_pairs_5, B_impl_Automaton_pairs_6, B_impl_Automaton_pairs_15, decide_eq_false hlt, hc.dn, go_sem, adopt_fun, Int.reduceLT, Int.reduceLE, Int.reduceToNat, Int.reduceNeg, Nat.reduceLT, Nat.reduceLeDiff, Nat.reduceMul, Nat.reduceSub, reduceIte, Nat.reduceEqDiff, Nat.reduceAdd, reduceCtorEq]
    exact ⟨8, v, acc, by omega, rfl, by simp only [go_sem, adopt_fun, Int.reduceLT, Int.reduceLE, Int.reduceToNat, Int.reduceNeg, Nat.reduceLT, Nat.reduceLeDiff, Nat.reduceMul, Nat.reduceSub, reduceIte, Nat.reduceEqDiff, Nat.reduceAdd, reduceCtorEq], hacc⟩

end Go.Ab
