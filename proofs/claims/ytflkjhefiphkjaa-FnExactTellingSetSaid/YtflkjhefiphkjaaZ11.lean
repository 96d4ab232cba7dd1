/- Contracts and what they lean on, part 11. Conditions: none. -/
import Derived.Test.YtflkjhefiphkjaaZ10
set_option maxRecDepth 100000
set_option maxHeartbeats 4000000
set_option linter.all false
open Nat (reduceLeDiff reduceMul reduceSub reduceEqDiff reduceAdd)
open Int (reduceToNat reduceNeg reduceLE)
namespace Go.Ab
open Go.Proofs
theorem k_l06Apart (n o : Int) (next out : List (List Int)) (M : Mach n o next out) (s t : Nat) (hs : (s : Int) < n) (ht : (t : Int) < n) :
    Fn Try.prog nz3d [machP n o next out, iv s, iv t] fun rows res => ∃ v, rows = [.row v 1 true (ints ((apartQ next next out out s t).getD []))] ∧ res = .tup [.own 6000 v, bv (apartQ next next out out s t).isSome] := by
  refine con_of mixed czdu rfl (by simp) ?_
  simp only [Azad, Bzac, go_sem, yz0, Int.reduceLT, reduceLE, reduceToNat, reduceNeg, Nat.reduceLT, reduceLeDiff, reduceMul, reduceSub, reduceIte, reduceEqDiff, reduceAdd, reduceCtorEq]
  intro vs
  simp only [Bzab, go_sem, yz0, Int.reduceLT, reduceLE, reduceToNat, reduceNeg, Nat.reduceLT, reduceLeDiff, reduceMul, reduceSub, reduceIte, reduceEqDiff, reduceAdd, reduceCtorEq]
  intro vs3
  refine call_con (r := 12) (k_find n n o o next next out out M M rfl s t hs ht) rfl (by simp only [Bool.not_true, rowIs, boxIs, yzd, yz7, yze, yz9, yz6, yzi, yzh, yz14, yz4, yz2, yz17, yz5, yz16, yz3, yzj, yzf, yzc, yz1, yzb, yza, L_hit, yz15, L_nil, reduceEqDiff, ne_eq, reduceCtorEq, not_false_eq_true, true_and, and_true, and_self, exists_eq_left, exists_eq_right, List.mem_cons, List.not_mem_nil, or_false, AObj.row.injEq, AObj.box.injEq, exists_eq_left', exists_and_left, exists_eq, Nat.zero_lt_one, Nat.lt_add_one, List.map_cons, List.map_nil, AObj.ver, Nat.reduceLT, not_true_eq_false]) (by simp only [Bool.not_true, rowIs, boxIs, yzd, yz7, yze, yz9, yz6, yzi, yzh, yz14, yz4, yz2, yz17, yz5, yz16, yz3, yzj, yzf, yzc, yz1, yzb, yza, L_hit, yz15, L_nil, reduceEqDiff, ne_eq, reduceCtorEq, not_false_eq_true, true_and, and_true, and_self, exists_eq_left, exists_eq_right, List.mem_cons, List.not_mem_nil, or_false, AObj.row.injEq, AObj.box.injEq, exists_eq_left', exists_and_left, exists_eq, Nat.zero_lt_one, Nat.lt_add_one, List.map_cons, List.map_nil, AObj.ver, Nat.reduceLT, not_true_eq_false]) ?_
  rintro outs rows res ⟨rfl, v, rfl, rfl⟩
  refine ⟨rfl, by simp, by rw [Option.getD_some, yz1g]; simp only [go_sem, yz0, Int.reduceLT, reduceLE, reduceToNat, reduceNeg, Nat.reduceLT, reduceLeDiff, reduceMul, reduceSub, reduceIte, reduceEqDiff, reduceAdd, reduceCtorEq], ?_⟩
  rw [Option.getD_some, callHp_mr (by omega)]
  simp only [Nat.not_lt_zero, range1, yz1v, yz22, ren_ro, rnNm_n, yz21, rnNm_o, rnNm_s, ren_st, yz20, yz1h, yz12, yzl, yz1o, yz1q, yz1p, yz1f, yz1r, yzv, yzz, yzx, yz10, yz1b, yz1a, yzq, yzs, yz11, yzw, yz1c, yz19, List.range_zero, yzu, yzr, yzy, yz1n, yz1g, yz1m, AVal.fresh, freshL, yzk, yz1d, AObj.fresh, id, Option.isSome_some, or_true, true_or, go_sem, yz0, Int.reduceLT, reduceLE, reduceToNat, reduceNeg, Nat.reduceLT, reduceLeDiff, reduceMul, reduceSub, reduceIte, reduceEqDiff, reduceAdd, reduceCtorEq]
  refine ⟨[16], by simp, by simp, by simp, ?_⟩
  simp only [Nat.not_lt_zero, range1, yz1v, yz22, ren_ro, rnNm_n, yz21, rnNm_o, rnNm_s, ren_st, yz20, yz1h, yz12, yzl, yz1o, yz1q, yz1p, yz1f, yz1r, yzv, yzz, yzx, yz10, yz1b, yz1a, yzq, yzs, yz11, yzw, yz1c, yz19, List.range_zero, yzu, yzr, yzy, yz1n, yz1g, yz1m, AVal.fresh, freshL, yzk, yz1d, AObj.fresh, id, Option.isSome_some, or_true, true_or, go_sem, yz0, Int.reduceLT, reduceLE, reduceToNat, reduceNeg, Nat.reduceLT, reduceLeDiff, reduceMul, reduceSub, reduceIte, reduceEqDiff, reduceAdd, reduceCtorEq]
  exact ⟨_, rfl, rfl⟩
theorem call_wordF {P : Program} {pu : Bool} {σ : St} {g : FuncId} {As args : List AVal} {d : Nat} {s : Nat → Nat} {K : St → Prop} {r : List Int} {b : Bool} (h : Fn P g args fun rows res => ∃ v, rows = [.row v 1 true (ints r)] ∧ res = .tup [.own 6000 v, bv b])
    (hco : CoeL σ.hp [] true args As) (hg : σ.hp d = .gone) (h1 : ∀ v, K (St.put ⟨σ.tm, upd σ.hp d (.row v 1 true (ints r))⟩ (some d) (.tup [.own d v, bv b]))) : wpCall P pu σ g As (some d) s K := by
  refine call_fn h hco (fun _ => ⟨_, _, 0, rfl, rfl⟩) ?_
  rintro rows res ⟨v, rfl, rfl⟩
  refine ⟨by simp, ?_, ?_⟩
  · simp only [Option.getD_some, yz1g]; exact hg
  · simp only [Option.getD_some, List.length_singleton, Nat.not_lt_zero, range1, yz1v, yz22, ren_ro, rnNm_n, yz21, rnNm_o, rnNm_s, ren_st, yz20, yz1h, yz12, yzl, yz1o, yz1q, yz1p, yz1f, yz1r, yzv, yzz, yzx, yz10, yz1b, yz1a, yzq, yzs, yz11, yzw, yz1c, yz19, List.range_zero, yzu, yzr, yzy, yz1n, yz1g, yz1m, AVal.fresh, freshL, yzk, yz1d, AObj.fresh, id, Option.isSome_some, or_true, true_or]
    exact h1 _
end Go.Ab
namespace Go.Ab
open Go.Proofs
end Go.Ab
namespace Go.Ab
open Go.Proofs
structure TwI (n m : Int) (A B : List (Nat × List Int)) (top : Int) (low : Int) : Prop where
  a : ∀ p ∈ A, (p.2.length : Int) = m ∧ ∀ x ∈ p.2, 0 ≤ x ∧ x < top
  b : ∀ p ∈ B, (p.2.length : Int) = n ∧ ∀ x ∈ p.2, 0 ≤ x ∧ x < low
end Go.Ab
namespace Go.Ab
open Go.Proofs
end Go.Ab
namespace Go.Ab
def outA (out : List (List Int)) (s l : Int) : Int := (out.getD l.toNat []).getD s.toNat 0
def outsA (next out : List (List Int)) : Int → List Int → List Int
  | _, [] => []
  | s, x :: w => outA out s x :: outsA next out (stepA next s x) w
def lexP : List Int → List Int → Bool
  | x :: v, y :: w => if x = y then lexP v w else decide (x < y)
  | _, _ => false
def befP (v w : List Int) : Bool := if v.length = w.length then lexP v w else decide (v.length < w.length)
end Go.Ab
namespace Go.Ab
open Go.Proofs
theorem k_l06Run (n o : Int) (next out : List (List Int)) (M : Mach n o next out) (s : Int) (hs : 0 ≤ s ∧ s < n) (w : List Int) (hw : IsW next.length w) (hwl : w.length ≤ 1000000) :
    Fn Try.prog nz1p [machP n o next out, iv s, .ro none 1 (ints w)] fun rows res => ∃ v, rows = [.row v 1 true (ints (outsA next out s w))] ∧ res = .tup [.own 6000 v, iv (atA next s w)] := by
  refine con_of mixed czds rfl (by simp) ?_
  generalize hQ : finQ _ = Q
  simp only [Az58, Bz9z, go_sem, yz0, Int.reduceLT, reduceLE, reduceToNat, reduceNeg, Nat.reduceLT, reduceLeDiff, reduceMul, reduceSub, reduceIte, reduceEqDiff, reduceAdd, reduceCtorEq]
  intro vs
  simp only [Bz9y, Bz9w, go_sem, yz0, Int.reduceLT, reduceLE, reduceToNat, reduceNeg, Nat.reduceLT, reduceLeDiff, reduceMul, reduceSub, reduceIte, reduceEqDiff, reduceAdd, reduceCtorEq]
  refine wpD_lo (fun (_, i, _, _) => w.length - i) (fun (_, i, u, r) => i ≤ w.length ∧ (0 ≤ u ∧ u < n) ∧ r ++ outsA next out u (w.drop i) = outsA next out s w ∧ atA next u (w.drop i) = atA next s w ∧ List.length r = i)
    (fun ((va, i, u, r) : Nat × Nat × Int × List Int) => ⟨L .any [(0, machP n o next out), (1, iv u), (2, .ro none 1 (ints w)), (8, .own 10 va), (9, iv i)], L .gone [(10, .row va 1 true (ints r))]⟩)
    (_, 0, s, []) ⟨by omega, hs, rfl, rfl, rfl⟩ (by simp only [Bz2j, go_sem, yz0, Int.reduceLT, reduceLE, reduceToNat, reduceNeg, Nat.reduceLT, reduceLeDiff, reduceMul, reduceSub, reduceIte, reduceEqDiff, reduceAdd, reduceCtorEq]; try rfl) ?_
  rintro ⟨va, i, u, r⟩ ⟨hi, hu, hr, hat, hrl⟩
  have hi : i ≤ w.length := hi
  have hrl : r.length = i := hrl
  by_cases hlt : (i : Int) < w.length
  · have hlt1 : i < w.length := by omega
    rw [drop_getD hlt1 0] at hr hat
    have hx := hw _ (yz1w hlt1 0)
    generalize hxe : w.getD i 0 = x at hr hat hx
    have hxl : x.toNat < next.length := by omega
    have hxo : x.toNat < out.length := by rw [M.len]; exact hxl
    have r1 := M.aut.row _ (yz1w hxl [])
    have r2 := M.row _ (yz1w hxo [])
    have z1 : u.toNat < (next.getD x.toNat []).length := by omega
    have z2 : u.toNat < (out.getD x.toNat []).length := by omega
    have hst := r1.2 _ (yz1w z1 0)
    simp only [Bz2j, Bz57, Bz9v, yz1s hlt1, hxe, rwn_getD hxo, yz1s z2, decide_eq_true hlt, go_sem, yz0, Int.reduceLT, reduceLE, reduceToNat, reduceNeg, Nat.reduceLT, reduceLeDiff, reduceMul, reduceSub, reduceIte, reduceEqDiff, reduceAdd, reduceCtorEq]
    intro hM vs2
    refine ⟨⟨by omega, hlt1⟩, hlt1, ⟨hx.1, hxo⟩, hxo, ⟨hu.1, z2⟩, z2, ⟨_, rfl, rfl⟩, by omega, ?_⟩
    simp only [Bz9t, Bz9u, yz1s hlt1, hxe, rwn_getD hxl, yz1s z1, nat1 i _ hlt1 hM, go_sem, yz0, Int.reduceLT, reduceLE, reduceToNat, reduceNeg, Nat.reduceLT, reduceLeDiff, reduceMul, reduceSub, reduceIte, reduceEqDiff, reduceAdd, reduceCtorEq]
    refine ⟨⟨by omega, hlt1⟩, hlt1, ⟨hx.1, hxl⟩, hxl, ⟨hu.1, z1⟩, z1, ?_⟩
    refine ⟨(vs2 15 0, i + 1, (next.getD x.toNat []).getD u.toNat 0, r ++ [(out.getD x.toNat []).getD u.toNat 0]), by dsimp only; omega, ⟨by dsimp only; omega, hst, ?_, hat, by dsimp only; rw [List.length_append, hrl]; rfl⟩, rfl⟩
    dsimp only
    rw [← hr]
    simp only [outsA, List.append_assoc, List.cons_append, List.nil_append]
    rfl
  · have : i = w.length := by omega
    subst this
    rw [List.drop_length] at hr hat
    simp only [outsA, List.append_nil] at hr
    simp only [Bz2j, Bz57, Bz9x, decide_eq_false hlt, Az58, ← hQ, go_sem, yz0, Int.reduceLT, reduceLE, reduceToNat, reduceNeg, Nat.reduceLT, reduceLeDiff, reduceMul, reduceSub, reduceIte, reduceEqDiff, reduceAdd, reduceCtorEq]
    intro hM
    refine ⟨[10], by simp, by simp, by simp, ?_⟩
    simp only [range1, List.length_singleton, Nat.not_lt_zero, range1, yz1v, yz22, ren_ro, rnNm_n, yz21, rnNm_o, rnNm_s, ren_st, yz20, yz1h, yz12, yzl, yz1o, yz1q, yz1p, yz1f, yz1r, yzv, yzz, yzx, yz10, yz1b, yz1a, yzq, yzs, yz11, yzw, yz1c, yz19, List.range_zero, yzu, yzr, yzy, yz1n, yz1g, yz1m, AVal.fresh, freshL, yzk, yz1d, AObj.fresh, id, Option.isSome_some, or_true, true_or, go_sem, yz0, Int.reduceLT, reduceLE, reduceToNat, reduceNeg, Nat.reduceLT, reduceLeDiff, reduceMul, reduceSub, reduceIte, reduceEqDiff, reduceAdd, reduceCtorEq]
    exact ⟨va, by rw [hr], by rw [← hat]; rfl⟩
end Go.Ab
namespace Go.Ab
theorem lexP_irrefl : ∀ u : List Int, lexP u u = false
  | [] => rfl
  | x :: u => by simp only [lexP, if_pos rfl]; exact lexP_irrefl u
theorem lexP_trans : ∀ {u v w : List Int}, lexP u v = true → lexP v w = true → lexP u w = true
  | [], _, _, h, _ => by simp [lexP] at h
  | _ :: _, [], _, h, _ => by simp [lexP] at h
  | _ :: _, _ :: _, [], _, h => by simp [lexP] at h
  | x :: u, y :: v, z :: w, h1, h2 => by
    simp only [lexP] at h1 h2 ⊢
    by_cases e1 : x = y
    · subst e1
      rw [if_pos rfl] at h1
      by_cases e2 : x = z
      · subst e2
        rw [if_pos rfl] at h2 ⊢
        exact lexP_trans h1 h2
      · rw [if_neg e2] at h2 ⊢; exact h2
    · rw [if_neg e1] at h1
      by_cases e2 : y = z
      · subst e2
        rw [if_neg e1]; exact h1
      · rw [if_neg e2] at h2
        have h1 := of_decide_eq_true h1
        have h2 := of_decide_eq_true h2
        rw [if_neg (by omega)]; exact decide_eq_true (by omega)
theorem lexP_snoc : ∀ {u v : List Int} {x y : Int}, u.length = v.length → lexP u v = true → lexP (u ++ [x]) (v ++ [y]) = true
  | [], _, _, _, _, h => by simp [lexP] at h
  | _ :: _, [], _, _, _, h => by simp [lexP] at h
  | a :: u, b :: v, x, y, hl, h => by
    simp only [lexP, List.cons_append] at h ⊢
    by_cases e : a = b
    · rw [if_pos e] at h ⊢; exact lexP_snoc (by simpa using hl) h
    · rw [if_neg e] at h ⊢; exact h
theorem lexP_last : ∀ {u : List Int} {x y : Int}, x < y → lexP (u ++ [x]) (u ++ [y]) = true
  | [], x, y, h => by
    simp only [List.nil_append, lexP]
    rw [if_neg (by omega)]; exact decide_eq_true h
  | a :: u, x, y, h => by simp only [List.cons_append, lexP, if_pos rfl]; exact lexP_last h
theorem befP_len {u v : List Int} (h : u.length < v.length) : befP u v = true := by
  rw [befP, if_neg (by omega)]; exact decide_eq_true h
theorem befP_le {u v : List Int} (h : befP u v = true) : u.length ≤ v.length := by
  rw [befP] at h
  split at h
  · omega
  · have := of_decide_eq_true h; omega
theorem befP_irrefl (u : List Int) : befP u u = false := by rw [befP, if_pos rfl]; exact lexP_irrefl u
theorem befP_trans {u v w : List Int} (h1 : befP u v = true) (h2 : befP v w = true) : befP u w = true := by
  have l1 := befP_le h1
  have l2 := befP_le h2
  by_cases e : u.length = w.length
  · rw [befP, if_pos (by omega)] at h1 h2 ⊢
    exact lexP_trans h1 h2
  · exact befP_len (by omega)
theorem befP_snoc {u v : List Int} {x y : Int} (h : befP u v = true) : befP (u ++ [x]) (v ++ [y]) = true := by
  have l1 := befP_le h
  by_cases e : u.length = v.length
  · rw [befP, if_pos e] at h
    rw [befP, if_pos (by simp [e])]
    exact lexP_snoc e h
  · exact befP_len (by simp; omega)
theorem befP_last {u : List Int} {x y : Int} (h : x < y) : befP (u ++ [x]) (u ++ [y]) = true := by
  rw [befP, if_pos (by simp)]; exact lexP_last h
def leP (u v : List Int) : Prop := befP u v = true ∨ u = v
theorem leP_trans {u v w : List Int} (h1 : leP u v) (h2 : leP v w) : leP u w := by
  rcases h1 with h1 | rfl
  · rcases h2 with h2 | rfl
    · exact .inl (befP_trans h1 h2)
    · exact .inl h1
  · exact h2
theorem leP_app (u v : List Int) : leP u (u ++ v) := by
  cases v with
  | nil => exact .inr (by simp)
  | cons a v => exact .inl (befP_len (by simp))
theorem leP_not {u v : List Int} (h : leP u v) : befP v u = false := by
  cases hb : befP v u with
  | false => rfl
  | true =>
    rcases h with h | rfl
    · have := befP_trans h hb
      rw [befP_irrefl] at this; cases this
    · rw [befP_irrefl] at hb; cases hb
def pairW (na nb : List (List Int)) : Nat × Nat → List Int → Nat × Nat
  | p, [] => p
  | p, x :: w => pairW na nb (stepP na nb p x.toNat) w
def difW (na nb oa ob : List (List Int)) : Nat × Nat → List Int → Bool
  | _, [] => false
  | p, x :: w => difP oa ob p x.toNat || difW na nb oa ob (stepP na nb p x.toNat) w
theorem pairW_app {na nb : List (List Int)} : ∀ (u v : List Int) (p : Nat × Nat), pairW na nb p (u ++ v) = pairW na nb (pairW na nb p u) v
  | [], _, _ => rfl
  | x :: u, v, p => by simp only [List.cons_append, pairW, pairW_app u v]
theorem difW_app {na nb oa ob : List (List Int)} : ∀ (u v : List Int) (p : Nat × Nat), difW na nb oa ob p (u ++ v) = (difW na nb oa ob p u || difW na nb oa ob (pairW na nb p u) v)
  | [], _, _ => by simp [difW, pairW]
  | x :: u, v, p => by simp only [List.cons_append, difW, pairW, difW_app u v, Bool.or_assoc]
def isWd (k : Nat) (w : List Int) : Prop := ∀ x ∈ w, 0 ≤ x ∧ x < k
structure BI (na nb oa ob : List (List Int)) (p0 : Nat × Nat) (i : Nat) (L : PS) : Prop where
  ok : ∀ q ∈ L, q.1 = pairW na nb p0 q.2 ∧ difW na nb oa ob p0 q.2 = false ∧ isWd na.length q.2
  so : L.Pairwise fun a b => befP a.2 b.2 = true
  par : ∀ q ∈ L, q.2 = [] ∨ ∃ j < i, ∃ y, q.2 = (L.getD j ((0, 0), [])).2 ++ [y]
  cl : ∀ a < i, ∀ x < na.length, difP oa ob (L.getD a ((0, 0), [])).1 x = false ∧ ∃ q ∈ L, q.1 = stepP na nb (L.getD a ((0, 0), [])).1 x ∧ leP q.2 ((L.getD a ((0, 0), [])).2 ++ [(x : Int)])
  le : i ≤ L.length
  nil : ∃ q ∈ L, q.1 = p0 ∧ q.2 = []
theorem so_lt {L : PS} (h : L.Pairwise fun a b => befP a.2 b.2 = true) {i j : Nat} (hij : i < j) (hj : j < L.length) : befP (L.getD i ((0, 0), [])).2 (L.getD j ((0, 0), [])).2 = true := by
  have := (List.pairwise_iff_getElem.1 h) i j (by omega) hj hij
  rw [List.getD_eq_getElem?_getD, List.getElem?_eq_getElem (show i < L.length by omega), List.getD_eq_getElem?_getD, List.getElem?_eq_getElem hj]
  exact this
theorem BI0 {na nb oa ob : List (List Int)} {p0 : Nat × Nat} : BI na nb oa ob p0 0 [(p0, [])] where
  ok := fun q hq => by rw [List.mem_singleton.1 hq]; exact ⟨rfl, rfl, by simp [isWd]⟩
  so := by simp
  par := fun q hq => by rw [List.mem_singleton.1 hq]; exact .inl rfl
  cl := fun a h => by omega
  le := by simp
  nil := ⟨(p0, []), by simp, rfl, rfl⟩
structure BV (na nb oa ob : List (List Int)) (p0 : Nat × Nat) (i : Nat) (L : PS) (x : Nat) (L' : PS) : Prop where
  sub : ∃ t, L' = L ++ t
  ok : ∀ q ∈ L', q.1 = pairW na nb p0 q.2 ∧ difW na nb oa ob p0 q.2 = false ∧ isWd na.length q.2
  so : L'.Pairwise fun a b => befP a.2 b.2 = true
  par : ∀ q ∈ L', q.2 = [] ∨ (∃ j < i, ∃ y, q.2 = (L.getD j ((0, 0), [])).2 ++ [y]) ∨ ∃ y < x, q.2 = (L.getD i ((0, 0), [])).2 ++ [(y : Int)]
  cl : ∀ y < x, ∃ q ∈ L', q.1 = stepP na nb (L.getD i ((0, 0), [])).1 y ∧ leP q.2 ((L.getD i ((0, 0), [])).2 ++ [(y : Int)])
theorem visP_BV {na nb oa ob : List (List Int)} {p0 : Nat × Nat} {i : Nat} {L : PS} (h : BI na nb oa ob p0 i L) (hi : i < L.length) (hd : ∀ x < na.length, difP oa ob (L.getD i ((0, 0), [])).1 x = false) :
    ∀ x, x ≤ na.length → BV na nb oa ob p0 i L x (visP na nb (L.getD i ((0, 0), [])).1 (L.getD i ((0, 0), [])).2 x L)
  | 0, _ => by
    refine ⟨⟨[], by simp [visP]⟩, h.ok, h.so, fun q hq => ?_, fun y hy => by omega⟩
    rcases h.par q hq with e | ⟨j, hj, y, e⟩
    · exact .inl e
    · exact .inr (.inl ⟨j, hj, y, e⟩)
  | x + 1, hx => by
    have V := visP_BV h hi hd x (by omega)
    have hm := yz1w hi ((0, 0), ([] : List Int))
    obtain ⟨k1, k2, k3⟩ := h.ok _ hm
    rw [visP_succ]
    generalize visP na nb (L.getD i ((0, 0), [])).1 (L.getD i ((0, 0), [])).2 x L = L' at V ⊢
    generalize hp : L.getD i ((0, 0), []) = p at V hd k1 k2 k3 ⊢
    have hall : ∀ q ∈ L', befP q.2 (p.2 ++ [(x : Int)]) = true := fun q hq => by
      rcases V.par q hq with e | ⟨j, hj, y, e⟩ | ⟨y, hy, e⟩
      · rw [e]; exact befP_len (by simp)
      · rw [e]
        have := so_lt h.so hj hi
        rw [hp] at this
        exact befP_snoc this
      · rw [e, hp]; exact befP_last (by omega)
    split
    · rename_i hh
      obtain ⟨q, hq, e⟩ := List.mem_map.1 (hasP_iff.1 hh)
      refine ⟨V.sub, V.ok, V.so, fun q hq => ?_, fun y hy => ?_⟩
      · rcases V.par q hq with e | e | ⟨y, hy, e⟩
        · exact .inl e
        · exact .inr (.inl e)
        · exact .inr (.inr ⟨y, by omega, e⟩)
      · rw [hp]
        by_cases ey : y < x
        · have := V.cl y ey; rwa [hp] at this
        · have : y = x := by omega
          subst this
          exact ⟨q, hq, e, .inl (hall q hq)⟩
    · obtain ⟨t, ht⟩ := V.sub
      refine ⟨⟨t ++ [(stepP na nb p.1 x, p.2 ++ [(x : Int)])], by rw [ht, List.append_assoc]⟩, fun q hq => ?_, ?_, fun q hq => ?_, fun y hy => ?_⟩
      · rcases List.mem_append.1 hq with hq | hq
        · exact V.ok q hq
        · rw [List.mem_singleton.1 hq]
          dsimp only
          refine ⟨?_, ?_, fun z hz => ?_⟩
          · rw [pairW_app, ← k1]; simp [pairW]
          · rw [difW_app, k2, ← k1]
            have := hd x (by omega)
            simp [difW, this]
          · rcases List.mem_append.1 hz with hz | hz
            · exact k3 z hz
            · rw [List.mem_singleton.1 hz]; omega
      · rw [List.pairwise_append]
        refine ⟨V.so, by simp, fun a ha b hb => ?_⟩
        rw [List.mem_singleton.1 hb]; exact hall a ha
      · rcases List.mem_append.1 hq with hq | hq
        · rcases V.par q hq with e | e | ⟨y, hy, e⟩
          · exact .inl e
          · exact .inr (.inl e)
          · exact .inr (.inr ⟨y, by omega, e⟩)
        · rw [List.mem_singleton.1 hq]
          exact .inr (.inr ⟨x, by omega, by rw [hp]⟩)
      · rw [hp]
        by_cases ey : y < x
        · obtain ⟨q, hq, h1, h2⟩ := V.cl y ey
          rw [hp] at h1 h2
          exact ⟨q, List.mem_append.2 (.inl hq), h1, h2⟩
        · have : y = x := by omega
          subst this
          exact ⟨_, List.mem_append.2 (.inr (List.mem_singleton.2 rfl)), rfl, .inr rfl⟩
theorem BI_succ {na nb oa ob : List (List Int)} {p0 : Nat × Nat} {i : Nat} {L : PS} (h : BI na nb oa ob p0 i L) (hi : i < L.length) (hd : ∀ x < na.length, difP oa ob (L.getD i ((0, 0), [])).1 x = false) :
    BI na nb oa ob p0 (i + 1) (visP na nb (L.getD i ((0, 0), [])).1 (L.getD i ((0, 0), [])).2 na.length L) := by
  have V := visP_BV h hi hd na.length (Nat.le_refl _)
  generalize visP na nb (L.getD i ((0, 0), [])).1 (L.getD i ((0, 0), [])).2 na.length L = L' at V ⊢
  obtain ⟨t, rfl⟩ := V.sub
  have g : ∀ j, j ≤ i → (L ++ t).getD j ((0, 0), []) = L.getD j ((0, 0), []) := fun j hj => getD_app (by omega) _
  refine ⟨V.ok, V.so, fun q hq => ?_, fun a ha x hx => ?_, by rw [List.length_append]; omega, ?_⟩
  · rcases V.par q hq with e | ⟨j, hj, y, e⟩ | ⟨y, hy, e⟩
    · exact .inl e
    · exact .inr ⟨j, by omega, y, by rw [g j (by omega)]; exact e⟩
    · exact .inr ⟨i, by omega, y, by rw [g i (by omega)]; exact e⟩
  · rw [g a (by omega)]
    by_cases e : a < i
    · obtain ⟨h1, q, hq, h2, h3⟩ := h.cl a e x hx
      exact ⟨h1, q, List.mem_append.2 (.inl hq), h2, h3⟩
    · have : a = i := by omega
      subst this
      exact ⟨hd x hx, V.cl x hx⟩
  · obtain ⟨q, hq, h1⟩ := h.nil
    exact ⟨q, List.mem_append.2 (.inl hq), h1⟩
theorem BI_word {na nb oa ob : List (List Int)} {p0 : Nat × Nat} {i : Nat} {L : PS} (h : BI na nb oa ob p0 i L) (m : Nat) (u : List Int) (hl : u.length = m) (hu : isWd na.length u) :
    (difW na nb oa ob p0 u = false ∧ ∃ q ∈ L, q.1 = pairW na nb p0 u ∧ leP q.2 u) ∨
    ∃ u' y r b, u = u' ++ y :: r ∧ i ≤ b ∧ b < L.length ∧ (L.getD b ((0, 0), [])).1 = pairW na nb p0 u' ∧ leP (L.getD b ((0, 0), [])).2 u' := by
  induction m generalizing u with
  | zero =>
    have : u = [] := List.length_eq_zero_iff.1 hl
    subst this
    obtain ⟨q, hq, h1, h2⟩ := h.nil
    exact .inl ⟨rfl, q, hq, h1, .inr h2⟩
  | succ m ih =>
    have hne : u ≠ [] := fun e => by rw [e] at hl; simp at hl
    obtain ⟨v, x, rfl⟩ : ∃ v x, u = v ++ [x] := ⟨u.dropLast, u.getLast hne, (List.dropLast_concat_getLast hne).symm⟩
    have hvl : v.length = m := by simpa using hl
    have hx := hu x (by simp)
    rcases ih v hvl (fun z hz => hu z (List.mem_append.2 (.inl hz))) with ⟨h1, q, hq, h2, h3⟩ | ⟨u', y, r, b, h1, h2, h3, h4, h5⟩
    · obtain ⟨b, hb, rfl⟩ := List.getElem_of_mem hq
      have hg : L.getD b ((0, 0), []) = L[b] := by rw [List.getD_eq_getElem?_getD, List.getElem?_eq_getElem hb]; rfl
      by_cases e : b < i
      · obtain ⟨c1, q2, hq2, c2, c3⟩ := h.cl b e x.toNat (by omega)
        rw [hg] at c1 c2 c3
        have ex : ((x.toNat : Nat) : Int) = x := by omega
        rw [ex] at c3
        refine .inl ⟨?_, q2, hq2, ?_, ?_⟩
        · rw [difW_app, h1, ← h2]; simp [difW, c1]
        · rw [pairW_app, ← h2, c2]; rfl
        · refine leP_trans c3 ?_
          rcases h3 with h3 | h3
          · exact .inl (befP_snoc h3)
          · rw [h3]; exact .inr rfl
      · exact .inr ⟨v, x, [], b, rfl, by omega, hb, by rw [hg]; exact h2, by rw [hg]; exact h3⟩
    · exact .inr ⟨u', y, r ++ [x], b, by rw [h1]; simp, h2, h3, h4, h5⟩
theorem runP_first {na nb oa ob : List (List Int)} {p0 : Nat × Nat} : ∀ (F i : Nat) (L : PS) (w : List Int), BI na nb oa ob p0 i L → runP na nb oa ob F i L = some w →
    difW na nb oa ob p0 w = true ∧ isWd na.length w ∧ ∀ u, isWd na.length u → befP u w = true → difW na nb oa ob p0 u = false
  | 0, _, _, _, _, h => by simp [runP] at h
  | F + 1, i, L, w, hB, h => by
    simp only [runP] at h
    split at h
    · rename_i hi
      have hm := yz1w hi ((0, 0), ([] : List Int))
      split at h
      · rename_i x hf
        cases h
        have hx : x < na.length := by simpa using List.mem_of_find?_eq_some hf
        have hdx : difP oa ob (L.getD i ((0, 0), [])).1 x = true := List.find?_some hf
        have hbef : ∀ y < x, difP oa ob (L.getD i ((0, 0), [])).1 y = false := fun y hy => by
          obtain ⟨_, la, lb, hab, hno⟩ := List.find?_eq_some_iff_append.1 hf
          have hl : la.length = x := by
            have e1 : (List.range na.length)[la.length]? = some x := by rw [hab]; simp
            have e2 : la.length < na.length := by
              have := congrArg List.length hab
              simp at this; omega
            rw [List.getElem?_range e2] at e1
            simpa using e1
          have e3 : la = List.range x := by
            have e4 : (List.range na.length).take la.length = la := by rw [hab]; simp
            rw [List.take_range, hl, Nat.min_eq_left (by omega)] at e4
            exact e4.symm
          have := hno y (by rw [e3]; simpa using hy)
          simpa using this
        obtain ⟨k1, k2, k3⟩ := hB.ok _ hm
        have hso : ∀ b, i ≤ b → b < L.length → leP (L.getD i ((0, 0), [])).2 (L.getD b ((0, 0), [])).2 := fun b h1 h2 => by
          by_cases e : i = b
          · subst e; exact .inr rfl
          · exact .inl (so_lt hB.so (by omega) h2)
        generalize L.getD i ((0, 0), []) = p at hdx hbef k1 k2 k3 hso ⊢
        refine ⟨?_, fun z hz => ?_, fun u hu hlt => ?_⟩
        · rw [difW_app, k2, ← k1]; simp [difW, hdx]
        · rcases List.mem_append.1 hz with hz | hz
          · exact k3 z hz
          · rw [List.mem_singleton.1 hz]; omega
        · cases hdu : difW na nb oa ob p0 u with
          | false => rfl
          | true =>
            exfalso
            rcases BI_word hB u.length u rfl hu with ⟨h1, _⟩ | ⟨u', y, r, b, rfl, h2, h3, h4, h5⟩
            · rw [hdu] at h1; cases h1
            · have hy := hu y (by simp)
              have hle := leP_trans (hso b h2 h3) h5
              have hua : leP (u' ++ [y]) (u' ++ y :: r) := by
                have : u' ++ y :: r = (u' ++ [y]) ++ r := by simp
                rw [this]; exact leP_app _ _
              rcases hle with hle | hle
              · have := leP_not (leP_trans (.inl (befP_snoc (x := (x : Int)) (y := y) hle)) hua)
                rw [hlt] at this; cases this
              · rw [← hle] at hua hlt hdu
                rcases Int.lt_trichotomy y x with hyx | hyx | hyx
                · have hd0 := hbef y.toNat (by omega)
                  rw [difW_app, k2, ← k1] at hdu
                  simp only [difW, hd0, Bool.false_or] at hdu
                  have hr : r ≠ [] := fun e => by rw [e] at hdu; simp [difW] at hdu
                  have hrl : 0 < r.length := List.length_pos_iff.2 hr
                  have := befP_le hlt
                  rw [List.length_append, List.length_append, List.length_cons, List.length_singleton] at this; omega
                · rw [hyx] at hua
                  have := leP_not hua
                  rw [hyx] at hlt
                  rw [hlt] at this; cases this
                · have := leP_not (leP_trans (.inl (befP_last (u := p.2) hyx)) hua)
                  rw [hlt] at this; cases this
      · rename_i hf
        have hd : ∀ x < na.length, difP oa ob (L.getD i ((0, 0), [])).1 x = false := fdP_none.1 hf
        exact runP_first F (i + 1) _ w (BI_succ hB hi hd) h
    · cases h
theorem apartQ_first {na nb oa ob : List (List Int)} {s t : Nat} {w : List Int} (h : apartQ na nb oa ob s t = some w) :
    difW na nb oa ob (s, t) w = true ∧ isWd na.length w ∧ ∀ u, isWd na.length u → befP u w = true → difW na nb oa ob (s, t) u = false := runP_first 200 0 _ w BI0 h
theorem difW_bis {na nb oa ob : List (List Int)} {R : Nat × Nat → Prop} (B : Bis na nb oa ob R) : ∀ (w : List Int) (p : Nat × Nat), R p → isWd na.length w → difW na nb oa ob p w = false
  | [], _, _, _ => rfl
  | x :: w, p, hp, hw => by
    have hx := hw x (by simp)
    have := B p hp x.toNat (by omega)
    simp only [difW, this.1, Bool.false_or]
    exact difW_bis B w _ this.2 fun y hy => hw y (List.mem_cons_of_mem _ hy)
theorem outs_iff {n o : Int} {next out : List (List Int)} (A : Aut n next) : ∀ (w : List Int) (s t : Nat), s < n.toNat → t < n.toNat → isWd next.length w →
    (outsA next out (s : Int) w = outsA next out (t : Int) w ↔ difW next next out out (s, t) w = false)
  | [], _, _, _, _, _ => by simp [outsA, difW]
  | x :: w, s, t, hs, ht, hw => by
    have hx := hw x (by simp)
    have hxl : x.toNat < next.length := by omega
    have r := A.row _ (yz1w hxl [])
    have zs : s < (next.getD x.toNat []).length := by omega
    have zt : t < (next.getD x.toNat []).length := by omega
    have hs2 := r.2 _ (yz1w zs 0)
    have ht2 := r.2 _ (yz1w zt 0)
    have es : stepA next (s : Int) x = ((stepP next next (s, t) x.toNat).1 : Int) := by
      simp only [stepA, stepP, Int.toNat_natCast]; omega
    have et : stepA next (t : Int) x = ((stepP next next (s, t) x.toNat).2 : Int) := by
      simp only [stepA, stepP, Int.toNat_natCast]; omega
    have ih := outs_iff (o := o) (out := out) A w (stepP next next (s, t) x.toNat).1 (stepP next next (s, t) x.toNat).2 (by simp only [stepP]; omega) (by simp only [stepP]; omega) fun y hy => hw y (List.mem_cons_of_mem _ hy)
    simp only [outsA, difW, List.cons.injEq, es, et, ih, Bool.or_eq_false_iff]
    simp only [outA, difP, Int.toNat_natCast, bne_eq_false_iff_eq]
def eqW (next out : List (List Int)) (j : Nat) (s t : Nat) : Prop := ∀ u, isWd next.length u → u.length ≤ j → outsA next out (s : Int) u = outsA next out (t : Int) u
theorem filter_lt {α : Type} {p q : α → Bool} : ∀ {l : List α}, (∀ x ∈ l, p x = true → q x = true) → (∃ x ∈ l, q x = true ∧ p x = false) → (l.filter p).length < (l.filter q).length
  | [], _, h => by obtain ⟨x, hx, _⟩ := h; simp at hx
  | a :: l, h1, ⟨x, hx, h2, h3⟩ => by
    have hle : ∀ {l : List α}, (∀ x ∈ l, p x = true → q x = true) → (l.filter p).length ≤ (l.filter q).length := by
      intro l
      induction l with
      | nil => intro _; simp
      | cons b l ih =>
        intro h
        have := ih fun x hx => h x (List.mem_cons_of_mem _ hx)
        cases hp : p b with
        | true =>
          have hq := h b (by simp) hp
          rw [List.filter_cons_of_pos hp, List.filter_cons_of_pos hq]; simp; omega
        | false =>
          rw [List.filter_cons_of_neg (by simp [hp])]
          cases hq : q b with
          | true => rw [List.filter_cons_of_pos hq]; simp; omega
          | false => rw [List.filter_cons_of_neg (by simp [hq])]; exact this
    have ht := fun x hx => h1 x (List.mem_cons_of_mem _ hx)
    rcases List.mem_cons.1 hx with rfl | hx
    · rw [List.filter_cons_of_neg (by simp [h3]), List.filter_cons_of_pos h2, List.length_cons]
      exact Nat.lt_succ_of_le (hle ht)
    · have ih := filter_lt ht ⟨x, hx, h2, h3⟩
      cases hp : p a with
      | true =>
        have hq := h1 a (by simp) hp
        rw [List.filter_cons_of_pos hp, List.filter_cons_of_pos hq]; simp; omega
      | false =>
        rw [List.filter_cons_of_neg (by simp [hp])]
        cases hq : q a with
        | true => rw [List.filter_cons_of_pos hq]; simp; omega
        | false => rw [List.filter_cons_of_neg (by simp [hq])]; exact ih
open Classical in
noncomputable def firstW (next out : List (List Int)) (n j : Nat) : List Nat := (List.range n).filter fun s => decide (∀ t < s, ¬ eqW next out j t s)
theorem least_of {P : Nat → Prop} {m : Nat} (h : P m) : ∃ r, r ≤ m ∧ P r ∧ ∀ t < r, ¬ P t := by
  induction m using Nat.strongRecOn with
  | _ m ih =>
    by_cases e : ∃ t, t < m ∧ P t
    · obtain ⟨t, ht, hP⟩ := e
      obtain ⟨r, h1, h2, h3⟩ := ih t ht hP
      exact ⟨r, by omega, h2, h3⟩
    · exact ⟨m, Nat.le_refl _, h, fun t ht hP => e ⟨t, ht, hP⟩⟩
open Classical in
theorem firstW_step {next out : List (List Int)} {n j p q : Nat} (hp : p < n) (hq : q < n) (h1 : eqW next out j p q) (h2 : ¬ eqW next out (j + 1) p q) :
    (firstW next out n j).length < (firstW next out n (j + 1)).length := by
  have mono : ∀ s t, eqW next out (j + 1) s t → eqW next out j s t := fun s t h u hu hl => h u hu (by omega)
  have tr : ∀ {i s t u}, eqW next out i s t → eqW next out i t u → eqW next out i s u := fun a b v hv hl => (a v hv hl).trans (b v hv hl)
  have sy : ∀ {i s t}, eqW next out i s t → eqW next out i t s := fun a v hv hl => (a v hv hl).symm
  refine filter_lt (fun s _ h => decide_eq_true fun t ht he => of_decide_eq_true h t ht (mono _ _ he)) ?_
  obtain ⟨r, hr1, hr2, hr3⟩ := least_of (P := fun t => eqW next out j t p) (m := p) fun _ _ _ => rfl
  have hz : ∃ z, z < n ∧ eqW next out j r z ∧ ¬ eqW next out (j + 1) r z := by
    by_cases e : eqW next out (j + 1) r p
    · exact ⟨q, hq, tr hr2 h1, fun e2 => h2 (tr (sy e) e2)⟩
    · exact ⟨p, hp, hr2, e⟩
  obtain ⟨z, hz1, hz2, hz3⟩ := hz
  obtain ⟨r', h5, h6, h7⟩ := least_of (P := fun t => eqW next out (j + 1) t z) (m := z) fun _ _ _ => rfl
  have hrp : eqW next out j r' p := tr (mono _ _ h6) (tr (sy hz2) hr2)
  have hlt : r < r' := by
    rcases Nat.lt_trichotomy r r' with h | h | h
    · exact h
    · subst h; exact absurd h6 hz3
    · exact absurd hrp (hr3 r' h)
  refine ⟨r', List.mem_range.2 (by omega), decide_eq_true fun t ht he => h7 t ht (tr he h6), decide_eq_false fun h => h r hlt ?_⟩
  exact tr hr2 (sy hrp)
open Classical in
theorem firstW_ge {next out : List (List Int)} {n l : Nat} (hn : 1 ≤ n) (h : ∀ j < l, ∃ p q, p < n ∧ q < n ∧ eqW next out j p q ∧ ¬ eqW next out (j + 1) p q) : ∀ j, j ≤ l → j + 1 ≤ (firstW next out n j).length
  | 0, _ => by
    have : 0 ∈ firstW next out n 0 := List.mem_filter.2 ⟨List.mem_range.2 (by omega), decide_eq_true fun t ht => by omega⟩
    exact List.length_pos_of_mem this
  | j + 1, hj => by
    have ih := firstW_ge hn h j (by omega)
    obtain ⟨p, q, h1, h2, h3, h4⟩ := h j (by omega)
    have := firstW_step h1 h2 h3 h4
    omega
theorem stepP_in {n : Int} {next : List (List Int)} (A : Aut n next) {p : Nat × Nat} {x : Nat} (h : p.1 < n.toNat ∧ p.2 < n.toNat) (hx : x < next.length) : (stepP next next p x).1 < n.toNat ∧ (stepP next next p x).2 < n.toNat := by
  have r := A.row _ (yz1w hx [])
  have z1 : p.1 < (next.getD x []).length := by omega
  have z2 : p.2 < (next.getD x []).length := by omega
  have h1 := r.2 _ (yz1w z1 0)
  have h2 := r.2 _ (yz1w z2 0)
  simp only [stepP]; omega
theorem pairW_in {n : Int} {next : List (List Int)} (A : Aut n next) : ∀ (w : List Int) (p : Nat × Nat), p.1 < n.toNat ∧ p.2 < n.toNat → isWd next.length w → (pairW next next p w).1 < n.toNat ∧ (pairW next next p w).2 < n.toNat
  | [], _, h, _ => h
  | x :: w, p, h, hw => by
    have hx := hw x (by simp)
    exact pairW_in A w _ (stepP_in A h (by omega)) fun y hy => hw y (List.mem_cons_of_mem _ hy)
theorem apartQ_short {n : Int} {next out : List (List Int)} (A : Aut n next) {s t : Nat} (hs : s < n.toNat) (ht : t < n.toNat) {w : List Int} (h : apartQ next next out out s t = some w) : w.length < n.toNat := by
  obtain ⟨h1, h2, h3⟩ := apartQ_first h
  have hG := firstW_ge (next := next) (out := out) (n := n.toNat) (l := w.length) (by omega) (fun j hj => by
    have e : w.take (w.length - (j + 1)) ++ w.drop (w.length - (j + 1)) = w := List.take_append_drop _ _
    generalize hA : w.take (w.length - (j + 1)) = a at e
    generalize hB : w.drop (w.length - (j + 1)) = b at e
    have la : a.length = w.length - (j + 1) := by rw [← hA, List.length_take]; omega
    have lb : b.length = j + 1 := by rw [← hB, List.length_drop]; omega
    have wa : isWd next.length a := fun x hx => h2 x (by rw [← e]; exact List.mem_append.2 (.inl hx))
    have wb : isWd next.length b := fun x hx => h2 x (by rw [← e]; exact List.mem_append.2 (.inr hx))
    have hp := pairW_in A a (s, t) ⟨hs, ht⟩ wa
    refine ⟨_, _, hp.1, hp.2, fun u hu hl => ?_, fun hE => ?_⟩
    · rw [outs_iff (o := 0) A u _ _ hp.1 hp.2 hu]
      have h4 := h3 (a ++ u) (fun x hx => by rcases List.mem_append.1 hx with hx | hx; exact wa x hx; exact hu x hx) (befP_len (by rw [List.length_append]; omega))
      rw [difW_app, Bool.or_eq_false_iff] at h4
      exact h4.2
    · have h4 := hE b wb (by omega)
      rw [outs_iff (o := 0) A b _ _ hp.1 hp.2 wb] at h4
      have h5 := h3 a wa (befP_len (by omega))
      rw [← e, difW_app, h5, Bool.false_or] at h1
      have : difW next next out out (pairW next next (s, t) a) b = false := h4
      rw [h1] at this; cases this) w.length (Nat.le_refl _)
  have hle : (firstW next out n.toNat w.length).length ≤ n.toNat := by
    unfold firstW
    refine Nat.le_trans (List.length_filter_le _ _) ?_
    rw [List.length_range]; exact Nat.le_refl _
  omega
end Go.Ab
namespace Go.Ab
theorem eqvP_outs {n : Int} {next out : List (List Int)} (A : Aut n next) {s t : Nat} (hs : s < n.toNat) (ht : t < n.toNat) : eqvP next out s t = true ↔ ∀ w, isWd next.length w → outsA next out (s : Int) w = outsA next out (t : Int) w := by
  constructor
  · intro h w hw
    obtain ⟨R, B, hR⟩ := (eqvP_iff A ⟨hs, ht⟩).1 h
    exact (outs_iff (o := 0) A w s t hs ht hw).2 (difW_bis B w _ hR hw)
  · intro h
    cases ha : apartQ next next out out s t with
    | none => rw [eqvP, ha]; rfl
    | some w =>
      obtain ⟨h1, h2, _⟩ := apartQ_first ha
      have := (outs_iff (o := 0) A w s t hs ht h2).1 (h w h2)
      rw [h1] at this; cases this
end Go.Ab
namespace Go.Ab
theorem appg_new {α : Type} {xs : List α} {y d : α} : (xs ++ [y]).getD xs.length d = y := by
  simp [List.getD_eq_getElem?_getD]
end Go.Ab
namespace Go.Ab
structure CI (n : Int) (L : List Int) : Prop where
  nd : L.Nodup
  rg : ∀ s ∈ L, 0 ≤ s ∧ s < n
  hd : L.getD 0 1 = 0
theorem CI.len {n : Int} {L : List Int} (h : CI n L) (hn : n ≤ 10) : 1 ≤ L.length ∧ L.length ≤ 10 := by
  have h1 : L ≠ [] := fun e => by have := h.hd; rw [e] at this; simp at this
  have hm : (L.map Int.toNat).Nodup := by
    refine List.Pairwise.map _ ?_ (List.Pairwise.and_mem.1 h.nd)
    rintro a b ⟨ha, hb, hab⟩ e
    have := h.rg a ha
    have := h.rg b hb
    omega
  have := nodup_lt 10 _ hm fun x hx => by
    obtain ⟨s, hs, rfl⟩ := List.mem_map.1 hx
    have := h.rg s hs
    omega
  rw [List.length_map] at this
  exact ⟨List.length_pos_iff.2 h1, this⟩
structure Rel (na oa nb ob : List (List Int)) (R : Int → Int → Prop) : Prop where
  len : na.length = nb.length
  step : ∀ s t, R s t → ∀ x, 0 ≤ x ∧ x < (na.length : Int) → outA oa s x = outA ob t x ∧ R (stepA na s x) (stepA nb t x)
  fn : ∀ s t t', R s t → R s t' → t = t'
  inj : ∀ s s' t, R s t → R s' t → s = s'
def RelL (R : Int → Int → Prop) (L M : List Int) : Prop := L.length = M.length ∧ ∀ i < L.length, R (L.getD i 0) (M.getD i 0)
theorem RelL.snoc {R : Int → Int → Prop} {L M : List Int} (h : RelL R L M) {s t : Int} (hst : R s t) : RelL R (L ++ [s]) (M ++ [t]) := by
  refine ⟨by simp [h.1], fun i hi => ?_⟩
  rw [List.length_append, List.length_singleton] at hi
  by_cases e : i < L.length
  · rw [getD_app e, getD_app (by rw [← h.1]; exact e)]; exact h.2 i e
  · have e1 : i = L.length := by omega
    subst e1
    rw [appg_new]
    rw [h.1, appg_new]; exact hst
end Go.Ab
namespace Go.Ab
end Go.Ab
namespace Go.Ab
open Go.Proofs
abbrev MachR (n o : Int) (xs ys : List (List Int)) (rows : List AObj) (res : AVal) : Prop :=
  ∃ v w ps qs, rows = [.row v 1 true (rwp ps), .row w 1 true (rwp qs)] ∧ ps.map (·.2) = xs ∧ qs.map (·.2) = ys ∧ DJ (ps ++ qs) ∧ res = .st [iv n, iv o, .own 6000 v, .own 6001 w]
abbrev NamM (P : Program) (g : FuncId) (args : List AVal) (n o : Int) (xs ys : List (List Int)) : Prop := Fn P g args (MachR n o xs ys)
end Go.Ab
namespace Go.Ab
open Go.Proofs
end Go.Ab
namespace Go.Ab
open Go.Proofs
abbrev MachS (n o : Int) (xs ys : List (List Int)) (rows : List AObj) (res : AVal) : Prop :=
  ∃ v w, rows = [.row v 1 true (rws xs), .row w 1 true (rws ys)] ∧ res = .st [iv n, iv o, .own 6000 v, .own 6001 w]
theorem NamM.dn {P : Program} {g : FuncId} {args : List AVal} {n o : Int} {xs ys : List (List Int)} (h : NamM P g args n o xs ys) : Fn P g args (MachS n o xs ys) := by
  refine Con.dnr h ?_
  rintro o' r x ⟨rfl, v, w, ps, qs, rfl, rfl, rfl, _, rfl⟩
  refine ⟨rfl, v, w, ?_, ?_⟩
  · simp only [List.map_cons, List.map_nil, AObj.dn, dnL_rwp]
  · simp only [AVal.dn, dnL]
abbrev MachRC (ok : Bool) (n o : Int) (xs ys : List (List Int)) (code : Int) (rows : List AObj) (res : AVal) : Prop :=
  if ok = true then ∃ v w ps qs, rows = [.row v 1 true (rwp ps), .row w 1 true (rwp qs)] ∧ ps.map (·.2) = xs ∧ qs.map (·.2) = ys ∧ DJ (ps ++ qs) ∧ res = .tup [.st [iv n, iv o, .own 6000 v, .own 6001 w], iv code]
  else rows = [] ∧ res = .tup [.st [iv 0, iv 0, nilS, nilS], iv code]
abbrev NamMR (P : Program) (g : FuncId) (args : List AVal) (ok : Bool) (n o : Int) (xs ys : List (List Int)) (code : Int) : Prop := Fn P g args (MachRC ok n o xs ys code)
abbrev MachSC (n o : Int) (xs ys : List (List Int)) (rows : List AObj) (res : AVal) : Prop :=
  ∃ v w, rows = [.row v 1 true (rws xs), .row w 1 true (rws ys)] ∧ res = .tup [.st [iv n, iv o, .own 6000 v, .own 6001 w], iv 0]
theorem NamMR.dn {P : Program} {g : FuncId} {args : List AVal} {ok : Bool} {n o : Int} {xs ys : List (List Int)} {code : Int} (h : NamMR P g args ok n o xs ys code) (hok : ok = true) (hc : code = 0) : Fn P g args (MachSC n o xs ys) := by
  subst hok hc
  refine Con.dnr h ?_
  rintro o' r x ⟨rfl, hR⟩
  unfold MachRC at hR
  rw [if_pos rfl] at hR
  obtain ⟨v, w, ps, qs, rfl, rfl, rfl, _, rfl⟩ := hR
  refine ⟨rfl, v, w, ?_, ?_⟩
  · simp only [List.map_cons, List.map_nil, AObj.dn, dnL_rwp]
  · simp only [AVal.dn, dnL]
end Go.Ab
namespace Go.Ab
open Go.Proofs
end Go.Ab
namespace Go.Ab
open Go.Proofs
end Go.Ab
namespace Go.Ab
open Go.Proofs
theorem k_Machine_outputs (n o : Int) (next out : List (List Int)) (M : Mach n o next out) (s : Int) (hs : 0 ≤ s ∧ s < n) (w : List Int) (hw : IsW next.length w) (hwl : w.length ≤ 1000000) :
    Fn Try.prog nz1v [machA n o next out, iv s, .ro none 1 (ints w)] fun rows res => ∃ v, rows = [.row v 1 true (ints (outsA next out s w))] ∧ res = .tup [.own 6000 v, iv (atA next s w)] := by
  refine con_of mixed cze5 rfl (by simp) ?_
  generalize hQ : finQ _ = Q
  simp only [Az5j, Bzbk, go_sem, yz0, Int.reduceLT, reduceLE, reduceToNat, reduceNeg, Nat.reduceLT, reduceLeDiff, reduceMul, reduceSub, reduceIte, reduceEqDiff, reduceAdd, reduceCtorEq]
  intro vs vs1
  simp only [Bzbj, Bzbh, go_sem, yz0, Int.reduceLT, reduceLE, reduceToNat, reduceNeg, Nat.reduceLT, reduceLeDiff, reduceMul, reduceSub, reduceIte, reduceEqDiff, reduceAdd, reduceCtorEq]
  intro hMw
  refine wpD_lo (fun (_, i, _, _) => w.length - i) (fun (_, i, u, r) => i ≤ w.length ∧ (0 ≤ u ∧ u < n) ∧ r ++ outsA next out u (w.drop i) = outsA next out s w ∧ atA next u (w.drop i) = atA next s w ∧ List.length r = i)
    (fun ((va, i, u, r) : Nat × Nat × Int × List Int) => ⟨L .any [(1, iv u), (3, .ptr 3 (vs 0 0) 0), (8, .own 11 va), (12, .ro none 1 (ints w)), (13, iv w.length), (14, iv i)], L .gone [(3, .box (vs 0 0) [iv n, iv o, .ro none 1 (rwn next), .ro none 1 (rwn out)]), (11, .row va 1 true (ints r))]⟩)
    (_, 0, s, []) ⟨by omega, hs, rfl, rfl, rfl⟩ (by simp only [Bz2q, go_sem, yz0, Int.reduceLT, reduceLE, reduceToNat, reduceNeg, Nat.reduceLT, reduceLeDiff, reduceMul, reduceSub, reduceIte, reduceEqDiff, reduceAdd, reduceCtorEq]; try rfl) ?_
  rintro ⟨va, i, u, r⟩ ⟨hi, hu, hr, hat, hrl⟩
  have hi : i ≤ w.length := hi
  have hrl : r.length = i := hrl
  by_cases hlt : (i : Int) < w.length
  · have hlt1 : i < w.length := by omega
    rw [drop_getD hlt1 0] at hr hat
    have hx := hw _ (yz1w hlt1 0)
    generalize hxe : w.getD i 0 = x at hr hat hx
    have hxl : x.toNat < next.length := by omega
    have hxo : x.toNat < out.length := by rw [M.len]; exact hxl
    have r1 := M.aut.row _ (yz1w hxl [])
    have r2 := M.row _ (yz1w hxo [])
    have z1 : u.toNat < (next.getD x.toNat []).length := by omega
    have z2 : u.toNat < (out.getD x.toNat []).length := by omega
    have hst := r1.2 _ (yz1w z1 0)
    simp only [Bz2q, Bz5i, Bzbg, yz1s hlt1, hxe, rwn_getD hxo, yz1s z2, decide_eq_true hlt, go_sem, yz0, Int.reduceLT, reduceLE, reduceToNat, reduceNeg, Nat.reduceLT, reduceLeDiff, reduceMul, reduceSub, reduceIte, reduceEqDiff, reduceAdd, reduceCtorEq]
    refine ⟨⟨by omega, hlt1⟩, hlt1, ?_⟩
    simp only [Bzbe, Bzbd, Bzbf, yz1s hlt1, hxe, rwn_getD hxo, rwn_getD hxl, yz1s z2, yz1s z1, nat1 i _ hlt1 hMw, go_sem, yz0, Int.reduceLT, reduceLE, reduceToNat, reduceNeg, Nat.reduceLT, reduceLeDiff, reduceMul, reduceSub, reduceIte, reduceEqDiff, reduceAdd, reduceCtorEq]
    intro vs2
    refine ⟨⟨hx.1, hxo⟩, hxo, ⟨hu.1, z2⟩, z2, ⟨_, rfl, rfl⟩, by omega, ⟨hx.1, hxl⟩, hxl, ⟨hu.1, z1⟩, z1, ?_⟩
    refine ⟨(vs2 10 0, i + 1, (next.getD x.toNat []).getD u.toNat 0, r ++ [(out.getD x.toNat []).getD u.toNat 0]), by dsimp only; omega, ⟨by dsimp only; omega, hst, ?_, hat, by dsimp only; rw [List.length_append, hrl]; rfl⟩, rfl⟩
    dsimp only
    rw [← hr]
    simp only [outsA, List.append_assoc, List.cons_append, List.nil_append]
    rfl
  · have : i = w.length := by omega
    subst this
    rw [List.drop_length] at hr hat
    simp only [outsA, List.append_nil] at hr
    simp only [Bz2q, Bz5i, Bzbi, decide_eq_false hlt, Az5j, ← hQ, go_sem, yz0, Int.reduceLT, reduceLE, reduceToNat, reduceNeg, Nat.reduceLT, reduceLeDiff, reduceMul, reduceSub, reduceIte, reduceEqDiff, reduceAdd, reduceCtorEq]
    refine ⟨[11], by simp, by simp, by simp, ?_⟩
    simp only [range1, List.length_singleton, Nat.not_lt_zero, range1, yz1v, yz22, ren_ro, rnNm_n, yz21, rnNm_o, rnNm_s, ren_st, yz20, yz1h, yz12, yzl, yz1o, yz1q, yz1p, yz1f, yz1r, yzv, yzz, yzx, yz10, yz1b, yz1a, yzq, yzs, yz11, yzw, yz1c, yz19, List.range_zero, yzu, yzr, yzy, yz1n, yz1g, yz1m, AVal.fresh, freshL, yzk, yz1d, AObj.fresh, id, Option.isSome_some, or_true, true_or, go_sem, yz0, Int.reduceLT, reduceLE, reduceToNat, reduceNeg, Nat.reduceLT, reduceLeDiff, reduceMul, reduceSub, reduceIte, reduceEqDiff, reduceAdd, reduceCtorEq]
    exact ⟨va, by rw [hr], by rw [← hat]; rfl⟩
end Go.Ab
namespace Go.Ab
def toldB (next out : List (List Int)) (ws : List (List Int)) (s t : Nat) : Bool := ws.any fun w => !decide (outsA next out (s : Int) w = outsA next out (t : Int) w)
def tellI (next out : List (List Int)) (s : Nat) : Nat → List (List Int) → Option (List (List Int))
  | 0, ws => some ws
  | k + 1, ws => match tellI next out s k ws with
    | none => none
    | some ws' => if toldB next out ws' s (s + 1 + k) = true then some ws' else match apartQ next next out out s (s + 1 + k) with
      | none => none
      | some w => some (ws' ++ [w])
def tellO (next out : List (List Int)) (n : Nat) : Nat → Option (List (List Int))
  | 0 => some []
  | s + 1 => match tellO next out n s with
    | none => none
    | some ws => tellI next out s (n - (s + 1)) ws
theorem tellI_none {next out : List (List Int)} {s : Nat} {ws : List (List Int)} {k : Nat} (h : tellI next out s k ws = none) : ∀ d, tellI next out s (k + d) ws = none
  | 0 => h
  | d + 1 => by rw [← Nat.add_assoc, tellI, tellI_none h d]
theorem tellO_none {next out : List (List Int)} {n s : Nat} (h : tellO next out n s = none) : ∀ d, tellO next out n (s + d) = none
  | 0 => h
  | d + 1 => by rw [← Nat.add_assoc, tellO, tellO_none h d]
def keyW (next out : List (List Int)) (ws : List (List Int)) (s : Nat) : List (List Int) := ws.map fun w => outsA next out (s : Int) w
theorem keyW_snoc {next out ws : List (List Int)} {w : List Int} {s t : Nat} : keyW next out (ws ++ [w]) s = keyW next out (ws ++ [w]) t ↔ keyW next out ws s = keyW next out ws t ∧ outsA next out (s : Int) w = outsA next out (t : Int) w := by
  simp only [keyW, List.map_append, List.map_cons, List.map_nil]
  constructor
  · intro h
    have h := List.append_inj h (by simp)
    exact ⟨h.1, by simpa using h.2⟩
  · rintro ⟨h1, h2⟩
    rw [h1, h2]
theorem told_key {next out ws : List (List Int)} {s t : Nat} : toldB next out ws s t = false ↔ keyW next out ws s = keyW next out ws t := by
  simp only [toldB, keyW, List.any_eq_false, List.map_inj_left, Bool.not_eq_true, Bool.not_eq_false', decide_eq_true_eq]
def cntW (next out : List (List Int)) (n : Nat) (ws : List (List Int)) : Nat := ((List.range n).filter fun s => decide (∀ t < s, keyW next out ws t ≠ keyW next out ws s)).length
theorem cntW_le {next out : List (List Int)} {n : Nat} {ws : List (List Int)} : cntW next out n ws ≤ n := by
  have := List.length_filter_le (fun s => decide (∀ t < s, keyW next out ws t ≠ keyW next out ws s)) (List.range n)
  rw [List.length_range] at this; exact this
theorem cntW_nil {next out : List (List Int)} {n : Nat} (h : 1 ≤ n) : 1 ≤ cntW next out n [] := by
  have : 0 ∈ (List.range n).filter fun s => decide (∀ t < s, keyW next out [] t ≠ keyW next out [] s) := by
    rw [List.mem_filter]; exact ⟨List.mem_range.2 (by omega), decide_eq_true (fun t ht => by omega)⟩
  exact List.length_pos_of_mem this
theorem cntW_lt {next out : List (List Int)} {n : Nat} {ws : List (List Int)} {w : List Int} {s t : Nat} (hs : s < n) (ht : t < n) (he : keyW next out ws s = keyW next out ws t) (hd : outsA next out (s : Int) w ≠ outsA next out (t : Int) w) :
    cntW next out n ws < cntW next out n (ws ++ [w]) := by
  unfold cntW
  refine filter_lt ?_ ?_
  · intro x _ hx
    have hx := of_decide_eq_true hx
    refine decide_eq_true fun t ht e => ?_
    exact hx t ht (keyW_snoc.1 e).1
  · obtain ⟨r, hr, h1, h2⟩ := least_of (P := fun r => keyW next out ws r = keyW next out ws s) (m := s) rfl
    obtain ⟨y, hy, hk, ho⟩ : ∃ y, y < n ∧ keyW next out ws y = keyW next out ws r ∧ outsA next out (y : Int) w ≠ outsA next out (r : Int) w := by
      by_cases e : outsA next out (s : Int) w = outsA next out (r : Int) w
      · exact ⟨t, ht, by rw [h1, he], fun e' => hd (by rw [e, e'])⟩
      · exact ⟨s, hs, h1.symm, e⟩
    obtain ⟨u, hu, ⟨g1, g2⟩, g3⟩ := least_of (P := fun u => keyW next out ws u = keyW next out ws r ∧ outsA next out (u : Int) w ≠ outsA next out (r : Int) w) (m := y) ⟨hk, ho⟩
    refine ⟨u, List.mem_range.2 (by omega), decide_eq_true fun v hv e => ?_, decide_eq_false fun h => ?_⟩
    · obtain ⟨e1, e2⟩ := keyW_snoc.1 e
      exact g3 v hv ⟨by rw [e1, g1], by rw [e2]; exact g2⟩
    · have hne : r ≠ u := fun e => g2 (by rw [e])
      have hru : r < u := by
        rcases Nat.lt_or_ge u r with hlt | hge
        · exact absurd (by rw [g1, h1]) (h2 u hlt)
        · omega
      exact h r hru g1.symm
structure TW (n : Int) (next out : List (List Int)) (ws : List (List Int)) : Prop where
  wd : ∀ w ∈ ws, (∀ x ∈ w, 0 ≤ x ∧ x < next.length) ∧ w.length ≤ 100
  ct : ws.length + 1 ≤ cntW next out n.toNat ws
  ne : ∀ w ∈ ws, w ≠ []
theorem TW.len {n : Int} {next out ws : List (List Int)} (A : Aut n next) (T : TW n next out ws) : ws.length ≤ 9 := by
  have h1 := T.ct
  have h2 := cntW_le (next := next) (out := out) (n := n.toNat) (ws := ws)
  have := A.n2
  omega
theorem TW0 {n : Int} {next out : List (List Int)} (A : Aut n next) : TW n next out [] := ⟨by simp, by have := A.n1; simpa using cntW_nil (by omega), by simp⟩
theorem TW.add {n : Int} {next out ws : List (List Int)} (A : Aut n next) (T : TW n next out ws) {s t : Nat} (hs : s < n.toNat) (ht : t < n.toNat) (h : toldB next out ws s t = false) {w : List Int} (hw : apartQ next next out out s t = some w) :
    TW n next out (ws ++ [w]) := by
  obtain ⟨h1, h2, _⟩ := apartQ_first hw
  have h3 := apartQ_short A hs ht hw
  have := A.n2
  refine ⟨fun v hv => ?_, ?_, fun v hv => ?_⟩
  · rcases List.mem_append.1 hv with hv | hv
    · exact T.wd v hv
    · have hv : v = w := by simpa using hv
      rw [hv]; exact ⟨h2, by omega⟩
  · have hd : outsA next out (s : Int) w ≠ outsA next out (t : Int) w := fun e => by
      have := (outs_iff (o := 0) A w s t hs ht h2).1 e
      rw [h1] at this; cases this
    have h4 := cntW_lt hs ht (told_key.1 h) hd
    have h5 := T.ct
    rw [List.length_append, List.length_singleton]; omega
  · rcases List.mem_append.1 hv with hv | hv
    · exact T.ne v hv
    · have hv : v = w := by simpa using hv
      rw [hv]; rintro rfl; simp [difW] at h1
theorem TW.untold {n : Int} {next out ws : List (List Int)} (A : Aut n next) (T : TW n next out ws) {s t : Nat} (hs : s < n.toNat) (ht : t < n.toNat) (h : apartQ next next out out s t = none) : toldB next out ws s t = false := by
  have he : eqvP next out s t = true := by rw [eqvP, h]; rfl
  rw [eqvP_outs A hs ht] at he
  rw [told_key]
  exact List.map_congr_left fun w hw => he w (T.wd w hw).1
theorem TW.inner {n : Int} {next out : List (List Int)} (A : Aut n next) {s : Nat} {ws : List (List Int)} (T : TW n next out ws) : ∀ (k : Nat) (ws' : List (List Int)), s + k < n.toNat → tellI next out s k ws = some ws' → TW n next out ws'
  | 0, ws', _, h => by rw [tellI] at h; cases h; exact T
  | k + 1, ws', hk, h => by
    rw [tellI] at h
    cases h1 : tellI next out s k ws with
    | none => rw [h1] at h; cases h
    | some ws1 =>
      have T1 := TW.inner A T k ws1 (by omega) h1
      rw [h1] at h
      simp only at h
      cases hb : toldB next out ws1 s (s + 1 + k) with
      | true => rw [hb, if_pos rfl] at h; cases h; exact T1
      | false =>
        rw [hb, if_neg (by simp)] at h
        cases ha : apartQ next next out out s (s + 1 + k) with
        | none => rw [ha] at h; cases h
        | some w =>
          rw [ha] at h; cases h
          exact T1.add A (by omega) (by omega) hb ha
theorem TW.outer {n : Int} {next out : List (List Int)} (A : Aut n next) : ∀ (s : Nat) (ws : List (List Int)), s ≤ n.toNat → tellO next out n.toNat s = some ws → TW n next out ws
  | 0, ws, _, h => by rw [tellO] at h; cases h; exact TW0 A
  | s + 1, ws, hs, h => by
    rw [tellO] at h
    cases h1 : tellO next out n.toNat s with
    | none => rw [h1] at h; cases h
    | some ws1 =>
      rw [h1] at h
      exact TW.inner A (TW.outer A s ws1 (by omega) h1) _ ws (by omega) h
end Go.Ab
namespace Go.Ab
open Go.Proofs
theorem k_tellingSet_1 (n o : Int) (next out : List (List Int)) (M : Mach n o next out) (s t : Int) (hs : 0 ≤ s ∧ s < n) (ht : 0 ≤ t ∧ t < n) (w : List Int) (hw : IsW next.length w) (hwl : w.length ≤ 1000000) :
    Fun Try.prog nz1u [.ro none 1 (ints w), machP n o next out, .rp [iv s] 0, .rp [iv t] 0] (bv !(decide (outsA next out s w = outsA next out t w))) := by
  refine fun_of mixed cze4 rfl ⟨rfl, trivial⟩ ?_
  simp only [Azbc, Bzbb, go_sem, yz0, Int.reduceLT, reduceLE, reduceToNat, reduceNeg, Nat.reduceLT, reduceLeDiff, reduceMul, reduceSub, reduceIte, reduceEqDiff, reduceAdd, reduceCtorEq]
  intro vs
  refine call_fn (k_Machine_outputs n o next out M s hs w hw hwl) qCS (fun e => by cases e) ?_
  rintro rows res ⟨v, rfl, rfl⟩
  refine ⟨by simp, by rw [Option.getD_some, yz1g]; simp only [go_sem, yz0, Int.reduceLT, reduceLE, reduceToNat, reduceNeg, Nat.reduceLT, reduceLeDiff, reduceMul, reduceSub, reduceIte, reduceEqDiff, reduceAdd, reduceCtorEq], ?_⟩
  simp only [Option.getD_some, Bzba, Nat.not_lt_zero, range1, yz1v, yz22, ren_ro, rnNm_n, yz21, rnNm_o, rnNm_s, ren_st, yz20, yz1h, yz12, yzl, yz1o, yz1q, yz1p, yz1f, yz1r, yzv, yzz, yzx, yz10, yz1b, yz1a, yzq, yzs, yz11, yzw, yz1c, yz19, List.range_zero, yzu, yzr, yzy, yz1n, yz1g, yz1m, AVal.fresh, freshL, yzk, yz1d, AObj.fresh, id, Option.isSome_some, or_true, true_or, go_sem, yz0, Int.reduceLT, reduceLE, reduceToNat, reduceNeg, Nat.reduceLT, reduceLeDiff, reduceMul, reduceSub, reduceIte, reduceEqDiff, reduceAdd, reduceCtorEq]
  intro vs2
  refine call_fn (k_Machine_outputs n o next out M t ht w hw hwl) qCS (fun e => by cases e) ?_
  rintro rows res ⟨v2, rfl, rfl⟩
  refine ⟨by simp, by rw [Option.getD_some, yz1g]; simp only [go_sem, yz0, Int.reduceLT, reduceLE, reduceToNat, reduceNeg, Nat.reduceLT, reduceLeDiff, reduceMul, reduceSub, reduceIte, reduceEqDiff, reduceAdd, reduceCtorEq], ?_⟩
  simp only [Option.getD_some, Bzb9, Nat.not_lt_zero, range1, yz1v, yz22, ren_ro, rnNm_n, yz21, rnNm_o, rnNm_s, ren_st, yz20, yz1h, yz12, yzl, yz1o, yz1q, yz1p, yz1f, yz1r, yzv, yzz, yzx, yz10, yz1b, yz1a, yzq, yzs, yz11, yzw, yz1c, yz19, List.range_zero, yzu, yzr, yzy, yz1n, yz1g, yz1m, AVal.fresh, freshL, yzk, yz1d, AObj.fresh, id, Option.isSome_some, or_true, true_or, go_sem, yz0, Int.reduceLT, reduceLE, reduceToNat, reduceNeg, Nat.reduceLT, reduceLeDiff, reduceMul, reduceSub, reduceIte, reduceEqDiff, reduceAdd, reduceCtorEq]
  intro vs3
  refine yzg (k_Equal (outsA next out s w) (outsA next out t w)) qCS trivial ?_
  simp only [go_sem, yz0, Int.reduceLT, reduceLE, reduceToNat, reduceNeg, Nat.reduceLT, reduceLeDiff, reduceMul, reduceSub, reduceIte, reduceEqDiff, reduceAdd, reduceCtorEq]
theorem k_Machine_tellingSet (n o : Int) (next out : List (List Int)) (M : Mach n o next out) :
    Fn Try.prog nz35 [machA n o next out] fun rows res =>
      match tellO next out n.toNat n.toNat with
      | some ws => ∃ v ps, rows = [.row v 1 true (rwp ps)] ∧ ps.map (·.2) = ws ∧ DJ ps ∧ res = .tup [.own 6000 v, bv true]
      | none => rows = [] ∧ res = .tup [.val (.slice none 0 0), bv false] := by
  refine con_of mixed czdj rfl (by simp) ?_
  generalize hQ : finQ _ = Q
  have n1 := M.aut.n1
  have n2 := M.aut.n2
  simp only [Az2c, Bz8p, yzp, yz8, go_sem, yz0, Int.reduceLT, reduceLE, reduceToNat, reduceNeg, Nat.reduceLT, reduceLeDiff, reduceMul, reduceSub, reduceIte, reduceEqDiff, reduceAdd, reduceCtorEq]
  intro vs0 U0 hN0 vs1 U1 hN1
  simp only [Bz8o, Bz8m, yzp, yz8, go_sem, yz0, Int.reduceLT, reduceLE, reduceToNat, reduceNeg, Nat.reduceLT, reduceLeDiff, reduceMul, reduceSub, reduceIte, reduceEqDiff, reduceAdd, reduceCtorEq]
  intro vs2 U2 hN2
  refine wpD_lp (fun (_, s, _) => n.toNat - s) (fun (_, s, ps) => (s : Int) ≤ n ∧ tellO next out n.toNat s = some (List.map (·.2) ps) ∧ DJ ps)
    (fun ((v4, s, ps) : Nat × Nat × List (Nat × List Int)) => ⟨L .any [(1, .ptr 1 (vs0 0 0) 0), (4, .own 9 v4), (11, iv n), (12, iv s)],
      L .gone [(1, .box (vs0 0 0) [iv n, iv o, .ro none 1 (rwn next), .ro none 1 (rwn out)]), (9, .row v4 1 true (rwp ps)), (40, .gone), (5000, .gone)]⟩)
    (_, 0, []) ⟨by simp; omega, rfl, by simp [DJ]⟩ (by simp only [Bz2b, rwp_nil, go_sem, yz0, Int.reduceLT, reduceLE, reduceToNat, reduceNeg, Nat.reduceLT, reduceLeDiff, reduceMul, reduceSub, reduceIte, reduceEqDiff, reduceAdd, reduceCtorEq]; try rfl) ?_
  rintro ⟨v4, s, ps0⟩ ⟨hs, hO, hd0⟩
  have hs : (s : Int) ≤ n := hs
  have hO : tellO next out n.toNat s = some (ps0.map (·.2)) := hO
  by_cases hsl : (s : Int) < n
  · have w1 : IntKind.i64.wrap ((s : Int) + 1) = ((s + 1 + 0 : Nat) : Int) := by rw [w64 (by omega)]; simp
    have T0 := TW.outer M.aut s _ (by omega) hO
    simp only [Bz2b, Bz4v, Bz8l, decide_eq_true hsl, yzp, yz8, go_sem, yz0, Int.reduceLT, reduceLE, reduceToNat, reduceNeg, Nat.reduceLT, reduceLeDiff, reduceMul, reduceSub, reduceIte, reduceEqDiff, reduceAdd, reduceCtorEq]
    intro vs3 U3 hN3 vs4 U4 hN4
    simp only [Bz8j, w1, yzp, yz8, go_sem, yz0, Int.reduceLT, reduceLE, reduceToNat, reduceNeg, Nat.reduceLT, reduceLeDiff, reduceMul, reduceSub, reduceIte, reduceEqDiff, reduceAdd, reduceCtorEq]
    intro vs5 U5 hN5
    simp only [Bz8i, yzp, yz8, go_sem, yz0, Int.reduceLT, reduceLE, reduceToNat, reduceNeg, Nat.reduceLT, reduceLeDiff, reduceMul, reduceSub, reduceIte, reduceEqDiff, reduceAdd, reduceCtorEq]
    refine wpD_lp (fun (_, _, k, _) => n.toNat - k) (fun (_, _, k, ps) => s + 1 + k ≤ n.toNat ∧ tellI next out s k (ps0.map (·.2)) = some (List.map (·.2) ps) ∧ DJ ps)
      (fun ((v4, v6, k, ps) : Nat × Nat × Nat × List (Nat × List Int)) => ⟨L .any [(1, .ptr 1 (vs0 0 0) 0), (4, .own 9 v4), (5, .ptr 5 (vs4 1 0) 0), (6, .ptr 6 v6 0), (11, iv n), (12, iv s)],
        L .gone [(1, .box (vs0 0 0) [iv n, iv o, .ro none 1 (rwn next), .ro none 1 (rwn out)]), (5, .box (vs4 1 0) [iv s]), (6, .box v6 [iv ((s + 1 + k : Nat) : Int)]), (9, .row v4 1 true (rwp ps)), (40, .gone), (5000, .gone)]⟩)
      (_, _, 0, ps0) ⟨by omega, rfl, hd0⟩ (by simp only [Bz2a, go_sem, yz0, Int.reduceLT, reduceLE, reduceToNat, reduceNeg, Nat.reduceLT, reduceLeDiff, reduceMul, reduceSub, reduceIte, reduceEqDiff, reduceAdd, reduceCtorEq]; try rfl) ?_
    rintro ⟨v5, v6, k, ps⟩ ⟨hk, hI, hd⟩
    have hk : s + 1 + k ≤ n.toNat := hk
    have hI : tellI next out s k (ps0.map (·.2)) = some (ps.map (·.2)) := hI
    have T := TW.inner M.aut T0 k _ (by omega) hI
    have hl9 := T.len M.aut
    rw [List.length_map] at hl9
    by_cases hkl : (((s + 1 + k : Nat) : Int)) < n
    · have w2 : IntKind.i64.wrap ((((s + 1 + k : Nat) : Int)) + 1) = ((s + 1 + (k + 1) : Nat) : Int) := by rw [w64 (by omega)]; omega
      have hst : s < n.toNat := by omega
      have htt : s + 1 + k < n.toNat := by omega
      simp only [Bz2a, Bz4p, Bz8h, decide_eq_true hkl, yzp, yz8, go_sem, yz0, Int.reduceLT, reduceLE, reduceToNat, reduceNeg, Nat.reduceLT, reduceLeDiff, reduceMul, reduceSub, reduceIte, reduceEqDiff, reduceAdd, reduceCtorEq]
      intro vs6 U6 hN6 vs7 U7 hN7
      refine call_wordR (k_apart n n o o next next out out M M rfl s (s + 1 + k) hsl hkl) qCS rfl ?_ ?_
      · intro w hw v
        obtain ⟨_, hww, _⟩ := apartQ_first hw
        simp only [Bz4r, Bz4q, Bz8g, yzp, yz8, go_sem, yz0, Int.reduceLT, reduceLE, reduceToNat, reduceNeg, Nat.reduceLT, reduceLeDiff, reduceMul, reduceSub, reduceIte, reduceEqDiff, reduceAdd, reduceCtorEq]
        intro vs8 U8 hN8 vs9 U9 hN9
        refine yzg (k_ContainsFunc (ps.map (·.2)) nz1u [machP n o next out, .rp [iv s] 0, .rp [iv ((s + 1 + k : Nat) : Int)] 0] (fun u => !decide (outsA next out (s : Int) u = outsA next out ((s + 1 + k : Nat) : Int) u)) ⟨by simp only [go_sem, yz0, Int.reduceLT, reduceLE, reduceToNat, reduceNeg, Nat.reduceLT, reduceLeDiff, reduceMul, reduceSub, reduceIte, reduceEqDiff, reduceAdd, reduceCtorEq], by intros; simp only [rowIs, boxIs, yzd, yz7, yze, yz9, yz6, yzi, yzh, yz14, yz4, yz2, yz17, yz5, yz16, yz3, yzj, yzf, yzc, yz1, yzb, yza, L_hit, yz15, L_nil, reduceEqDiff, ne_eq, reduceCtorEq, not_false_eq_true, true_and, and_true, and_self, exists_eq_left, exists_eq_right, List.mem_cons, List.not_mem_nil, or_false, AObj.row.injEq, AObj.box.injEq, exists_eq_left', exists_and_left, exists_eq, Nat.zero_lt_one, Nat.lt_add_one, List.map_cons, List.map_nil, AObj.ver, Nat.reduceLT, not_true_eq_false]⟩
          (fun u hu => k_tellingSet_1 n o next out M s ((s + 1 + k : Nat) : Int) ⟨by omega, hsl⟩ ⟨by omega, hkl⟩ u (T.wd u hu).1 (by have := (T.wd u hu).2; omega))) (by simp only [coeL_rwp_t, rowIs, boxIs, yzd, yz7, yze, yz9, yz6, yzi, yzh, yz14, yz4, yz2, yz17, yz5, yz16, yz3, yzj, yzf, yzc, yz1, yzb, yza, L_hit, yz15, L_nil, reduceEqDiff, ne_eq, reduceCtorEq, not_false_eq_true, true_and, and_true, and_self, exists_eq_left, exists_eq_right, List.mem_cons, List.not_mem_nil, or_false, AObj.row.injEq, AObj.box.injEq, exists_eq_left', exists_and_left, exists_eq, Nat.zero_lt_one, Nat.lt_add_one, List.map_cons, List.map_nil, AObj.ver, Nat.reduceLT, not_true_eq_false]) trivial ?_
        have htb : ((ps.map (·.2)).any fun u => !decide (outsA next out (s : Int) u = outsA next out ((s + 1 + k : Nat) : Int) u)) = toldB next out (ps.map (·.2)) s (s + 1 + k) := rfl
        rw [htb]
        simp only [Bz8f, yzp, yz8, wpD_gh, go_sem, yz0, Int.reduceLT, reduceLE, reduceToNat, reduceNeg, Nat.reduceLT, reduceLeDiff, reduceMul, reduceSub, reduceIte, reduceEqDiff, reduceAdd, reduceCtorEq]
        intro hD
        refine ⟨[], ?_⟩
        cases ht : toldB next out (ps.map (·.2)) s (s + 1 + k) with
        | true =>
          have hI2 : tellI next out s (k + 1) (ps0.map (·.2)) = some (ps.map (·.2)) := by simp only [tellI, hI, ht, if_true]
          simp only [gwp_nil, Bz4u, Bool.not_true, yzp, yz8, go_sem, yz0, Int.reduceLT, reduceLE, reduceToNat, reduceNeg, Nat.reduceLT, reduceLeDiff, reduceMul, reduceSub, reduceIte, reduceEqDiff, reduceAdd, reduceCtorEq]
          intro vs10 U10 hN10
          simp only [Bz4s, yzp, yz8, go_sem, yz0, Int.reduceLT, reduceLE, reduceToNat, reduceNeg, Nat.reduceLT, reduceLeDiff, reduceMul, reduceSub, reduceIte, reduceEqDiff, reduceAdd, reduceCtorEq]
          intro vs11 U11 hN11
          simp only [Bz4t, w2, yzp, yz8, go_sem, yz0, Int.reduceLT, reduceLE, reduceToNat, reduceNeg, Nat.reduceLT, reduceLeDiff, reduceMul, reduceSub, reduceIte, reduceEqDiff, reduceAdd, reduceCtorEq]
          intro vs12 U12 hN12
          exact ⟨(_, _, k + 1, ps), by dsimp only; omega, ⟨by dsimp only; omega, hI2, hd⟩, rfl⟩
        | false =>
          have hI2 : tellI next out s (k + 1) (ps0.map (·.2)) = some ((ps ++ [(v, w)]).map (·.2)) := by simp only [tellI, hI, ht, Bool.false_eq_true, if_false, hw, List.map_append, List.map_cons, List.map_nil]
          simp only [gwp_nil, Bool.not_false, yzp, yz8, go_sem, yz0, Int.reduceLT, reduceLE, reduceToNat, reduceNeg, Nat.reduceLT, reduceLeDiff, reduceMul, reduceSub, reduceIte, reduceEqDiff, reduceAdd, reduceCtorEq]
          intro vs10 U10 hN10
          rw [rwp_len]
          refine ⟨by omega, ?_⟩
          have hf : ∀ p ∈ ps, p.2 = [] ∨ p.1 ≠ v := fun p hp => by
            by_cases e : p.2 = []
            · exact .inl e
            · exact .inr (hD 9 v5 1 true (rwp ps) 28 v rfl rfl p.1 1 (ints p.2) (List.mem_map.2 ⟨p, hp, rfl⟩) (by simpa using e))
          simp only [Bz4u, rwp_snoc, yzp, yz8, go_sem, yz0, Int.reduceLT, reduceLE, reduceToNat, reduceNeg, Nat.reduceLT, reduceLeDiff, reduceMul, reduceSub, reduceIte, reduceEqDiff, reduceAdd, reduceCtorEq]
          intro vs11 U11 hN11
          simp only [Bz4s, yzp, yz8, go_sem, yz0, Int.reduceLT, reduceLE, reduceToNat, reduceNeg, Nat.reduceLT, reduceLeDiff, reduceMul, reduceSub, reduceIte, reduceEqDiff, reduceAdd, reduceCtorEq]
          intro vs12 U12 hN12
          simp only [Bz4t, w2, yzp, yz8, go_sem, yz0, Int.reduceLT, reduceLE, reduceToNat, reduceNeg, Nat.reduceLT, reduceLeDiff, reduceMul, reduceSub, reduceIte, reduceEqDiff, reduceAdd, reduceCtorEq]
          intro vs13 U13 hN13
          exact ⟨(_, _, k + 1, ps ++ [(v, w)]), by dsimp only; omega, ⟨by dsimp only; omega, hI2, hd.snoc hf⟩, rfl⟩
      · intro hw
        have hf := T.untold M.aut hst htt hw
        have hI2 : tellI next out s (k + 1) (ps0.map (·.2)) = none := by simp only [tellI, hI, hf, Bool.false_eq_true, if_false, hw]
        have hO2 : tellO next out n.toNat n.toNat = none := by
          have e1 := tellI_none hI2 (n.toNat - (s + 1) - (k + 1))
          rw [show k + 1 + (n.toNat - (s + 1) - (k + 1)) = n.toNat - (s + 1) by omega] at e1
          have e2 : tellO next out n.toNat (s + 1) = none := by simp only [tellO, hO, e1]
          have e3 := tellO_none e2 (n.toNat - (s + 1))
          rw [show s + 1 + (n.toNat - (s + 1)) = n.toNat by omega] at e3
          exact e3
        simp only [Bz4r, Bz4q, Az2c, ← hQ, hO2, yzp, yz8, go_sem, yz0, Int.reduceLT, reduceLE, reduceToNat, reduceNeg, Nat.reduceLT, reduceLeDiff, reduceMul, reduceSub, reduceIte, reduceEqDiff, reduceAdd, reduceCtorEq]
        intro vs8 U8 hN8 vs9 U9 hN9
        refine ⟨[], by simp, by simp, by simp, ?_⟩
        simp only [Nat.not_lt_zero, range1, yz1v, yz22, ren_ro, rnNm_n, yz21, rnNm_o, rnNm_s, ren_st, yz20, yz1h, yz12, yzl, yz1o, yz1q, yz1p, yz1f, yz1r, yzv, yzz, yzx, yz10, yz1b, yz1a, yzq, yzs, yz11, yzw, yz1c, yz19, List.range_zero, yzu, yzr, yzy, yz1n, yz1g, yz1m, AVal.fresh, freshL, yzk, yz1d, AObj.fresh, id, Option.isSome_some, or_true, true_or, go_sem, yz0, Int.reduceLT, reduceLE, reduceToNat, reduceNeg, Nat.reduceLT, reduceLeDiff, reduceMul, reduceSub, reduceIte, reduceEqDiff, reduceAdd, reduceCtorEq]
        try simp
    · have hke : k = n.toNat - (s + 1) := by omega
      have hO2 : tellO next out n.toNat (s + 1) = some (ps.map (·.2)) := by simp only [tellO, hO]; rw [← hke]; exact hI
      simp only [Bz2a, Bz4p, Bz8k, decide_eq_false hkl, yzp, yz8, go_sem, yz0, Int.reduceLT, reduceLE, reduceToNat, reduceNeg, Nat.reduceLT, reduceLeDiff, reduceMul, reduceSub, reduceIte, reduceEqDiff, reduceAdd, reduceCtorEq]
      have w3 : IntKind.i64.wrap ((s : Int) + 1) = ((s + 1 : Nat) : Int) := by rw [w64 (by omega)]; simp
      simp only [w3]
      intro vs6 U6 hN6 vs7 U7 hN7
      exact ⟨(_, s + 1, ps), by dsimp only; omega, ⟨by dsimp only; omega, hO2, hd⟩, rfl⟩
  · have hse : s = n.toNat := by omega
    rw [hse] at hO
    simp only [Bz2b, Bz4v, Bz8n, Az2c, ← hQ, hO, decide_eq_false hsl, yzp, yz8, go_sem, yz0, Int.reduceLT, reduceLE, reduceToNat, reduceNeg, Nat.reduceLT, reduceLeDiff, reduceMul, reduceSub, reduceIte, reduceEqDiff, reduceAdd, reduceCtorEq]
    intro vs3 U3 hN3 vs4 U4 hN4
    refine ⟨[9], by simp, by simp, by simp, ?_⟩
    simp only [range1, List.length_singleton, renL_rwp, Nat.not_lt_zero, range1, yz1v, yz22, ren_ro, rnNm_n, yz21, rnNm_o, rnNm_s, ren_st, yz20, yz1h, yz12, yzl, yz1o, yz1q, yz1p, yz1f, yz1r, yzv, yzz, yzx, yz10, yz1b, yz1a, yzq, yzs, yz11, yzw, yz1c, yz19, List.range_zero, yzu, yzr, yzy, yz1n, yz1g, yz1m, AVal.fresh, freshL, yzk, yz1d, AObj.fresh, id, Option.isSome_some, or_true, true_or, go_sem, yz0, Int.reduceLT, reduceLE, reduceToNat, reduceNeg, Nat.reduceLT, reduceLeDiff, reduceMul, reduceSub, reduceIte, reduceEqDiff, reduceAdd, reduceCtorEq]
    exact ⟨fresh_rwp, v4, ps0, by simp, rfl, hd0, rfl⟩
theorem k_TellingSet (n o : Int) (next out : List (List Int)) : SetR Try.prog nz4 [machA n o next out] (machB n o next out && (tellO next out n.toNat n.toNat).isSome)
    (if machB n o next out = true then (tellO next out n.toNat n.toNat).getD [] else []) (if machB n o next out = true then (if (tellO next out n.toNat n.toNat).isSome = true then 0 else 4) else 1) := by
  refine con_of mixed czd9 rfl (by simp) ?_
  simp only [Az6j, Bz6i, yzp, yz8, go_sem, yz0, Int.reduceLT, reduceLE, reduceToNat, reduceNeg, Nat.reduceLT, reduceLeDiff, reduceMul, reduceSub, reduceIte, reduceEqDiff, reduceAdd, reduceCtorEq]
  intro vs0 U0 hN0 vs1 U1 hN1
  refine yzg (k_ValidMachine n o next out) qCS trivial ?_
  cases hv : machB n o next out with
  | false =>
    simp only [Bz3y, Bool.false_and, yzp, yz8, go_sem, yz0, Int.reduceLT, reduceLE, reduceToNat, reduceNeg, Nat.reduceLT, reduceLeDiff, reduceMul, reduceSub, reduceIte, reduceEqDiff, reduceAdd, reduceCtorEq]
    intros
    refine ⟨[], by simp, by simp, by simp, ?_⟩
    simp only [Bool.false_eq_true, if_false, Nat.not_lt_zero, range1, yz1v, yz22, ren_ro, rnNm_n, yz21, rnNm_o, rnNm_s, ren_st, yz20, yz1h, yz12, yzl, yz1o, yz1q, yz1p, yz1f, yz1r, yzv, yzz, yzx, yz10, yz1b, yz1a, yzq, yzs, yz11, yzw, yz1c, yz19, List.range_zero, yzu, yzr, yzy, yz1n, yz1g, yz1m, AVal.fresh, freshL, yzk, yz1d, AObj.fresh, id, Option.isSome_some, or_true, true_or, go_sem, yz0, Int.reduceLT, reduceLE, reduceToNat, reduceNeg, Nat.reduceLT, reduceLeDiff, reduceMul, reduceSub, reduceIte, reduceEqDiff, reduceAdd, reduceCtorEq]
    try simp
  | true =>
    have M := machB_iff.1 hv
    simp only [Bz3y, Bz6h, Bool.true_and, yzp, yz8, go_sem, yz0, Int.reduceLT, reduceLE, reduceToNat, reduceNeg, Nat.reduceLT, reduceLeDiff, reduceMul, reduceSub, reduceIte, reduceEqDiff, reduceAdd, reduceCtorEq]
    intro vs3 U3 hN3
    have hK := k_Machine_tellingSet n o next out M
    cases hO : tellO next out n.toNat n.toNat with
    | none =>
      rw [hO] at hK
      refine call_fn hK qCS (fun e => by cases e) ?_
      rintro rows res ⟨rfl, rfl⟩
      refine ⟨by simp, by simp, ?_⟩
      simp only [Option.getD_some, Option.isSome_none, Bz40, Bz3z, yzp, yz8, Nat.not_lt_zero, range1, yz1v, yz22, ren_ro, rnNm_n, yz21, rnNm_o, rnNm_s, ren_st, yz20, yz1h, yz12, yzl, yz1o, yz1q, yz1p, yz1f, yz1r, yzv, yzz, yzx, yz10, yz1b, yz1a, yzq, yzs, yz11, yzw, yz1c, yz19, List.range_zero, yzu, yzr, yzy, yz1n, yz1g, yz1m, AVal.fresh, freshL, yzk, yz1d, AObj.fresh, id, Option.isSome_some, or_true, true_or, go_sem, yz0, Int.reduceLT, reduceLE, reduceToNat, reduceNeg, Nat.reduceLT, reduceLeDiff, reduceMul, reduceSub, reduceIte, reduceEqDiff, reduceAdd, reduceCtorEq]
      intros
      refine ⟨[], by simp, by simp, by simp, ?_⟩
      simp only [Bool.false_eq_true, if_false, if_true, Nat.not_lt_zero, range1, yz1v, yz22, ren_ro, rnNm_n, yz21, rnNm_o, rnNm_s, ren_st, yz20, yz1h, yz12, yzl, yz1o, yz1q, yz1p, yz1f, yz1r, yzv, yzz, yzx, yz10, yz1b, yz1a, yzq, yzs, yz11, yzw, yz1c, yz19, List.range_zero, yzu, yzr, yzy, yz1n, yz1g, yz1m, AVal.fresh, freshL, yzk, yz1d, AObj.fresh, id, Option.isSome_some, or_true, true_or, go_sem, yz0, Int.reduceLT, reduceLE, reduceToNat, reduceNeg, Nat.reduceLT, reduceLeDiff, reduceMul, reduceSub, reduceIte, reduceEqDiff, reduceAdd, reduceCtorEq]
      try simp
    | some ws =>
      rw [hO] at hK
      refine call_setB (fun x y e => (hN3.inj _ _ _ _ e).2) hK qCS rfl (fun v ps hps hd _ => ?_)
      simp only [Option.isSome_some, Bz40, Bz3z, Bz6g, yzp, yz8, go_sem, yz0, Int.reduceLT, reduceLE, reduceToNat, reduceNeg, Nat.reduceLT, reduceLeDiff, reduceMul, reduceSub, reduceIte, reduceEqDiff, reduceAdd, reduceCtorEq]
      intros
      refine ⟨[11], by simp, by simp, by simp, ?_⟩
      simp only [if_true, Option.getD_some, range1, List.length_singleton, renL_rwp, Nat.not_lt_zero, range1, yz1v, yz22, ren_ro, rnNm_n, yz21, rnNm_o, rnNm_s, ren_st, yz20, yz1h, yz12, yzl, yz1o, yz1q, yz1p, yz1f, yz1r, yzv, yzz, yzx, yz10, yz1b, yz1a, yzq, yzs, yz11, yzw, yz1c, yz19, List.range_zero, yzu, yzr, yzy, yz1n, yz1g, yz1m, AVal.fresh, freshL, yzk, yz1d, AObj.fresh, id, Option.isSome_some, or_true, true_or, go_sem, yz0, Int.reduceLT, reduceLE, reduceToNat, reduceNeg, Nat.reduceLT, reduceLeDiff, reduceMul, reduceSub, reduceIte, reduceEqDiff, reduceAdd, reduceCtorEq]
      exact ⟨fresh_rwp, v, ps, by simp, hps, hd, rfl⟩
end Go.Ab
namespace Go.Ab
open Go.Proofs
theorem map2_getD {ps : List (Nat × List Int)} {i : Nat} (h : i < ps.length) : (ps.map (·.2)).getD i [] = (ps.getD i (0, [])).2 := by
  rw [List.getD_eq_getElem?_getD, List.getElem?_map, List.getElem?_eq_getElem h, List.getD_eq_getElem?_getD, List.getElem?_eq_getElem h]; rfl
theorem rwpN_getD {ps : List (Nat × List Int)} {i : Nat} (h : i < ps.length) : (rwp ps).getD i .any = .ro (some (some ((ps.getD i (0, [])).1 + 1))) 1 (ints (ps.getD i (0, [])).2) := by
  rw [List.getD_eq_getElem?_getD, rwp, List.getElem?_map, List.getElem?_eq_getElem h, List.getD_eq_getElem?_getD, List.getElem?_eq_getElem h]; rfl
theorem toldB_snoc {next out ws : List (List Int)} {i s t : Nat} (h : i < ws.length) : toldB next out (ws.take (i + 1)) s t = (toldB next out (ws.take i) s t || !decide (outsA next out (s : Int) (ws.getD i []) = outsA next out (t : Int) (ws.getD i []))) := by
  rw [List.take_succ_eq_append_getElem h, List.getD_eq_getElem?_getD, List.getElem?_eq_getElem h]
  simp only [toldB, List.any_append, List.any_cons, List.any_nil, Bool.or_false, Option.getD_some]
theorem toldB_take {next out ws : List (List Int)} {i s t : Nat} (h : toldB next out (ws.take i) s t = true) : toldB next out ws s t = true := by
  simp only [toldB, List.any_eq_true] at h ⊢
  obtain ⟨w, hw, h⟩ := h
  exact ⟨w, List.mem_of_mem_take hw, h⟩
theorem k_l06TellingSet (n o : Int) (next out : List (List Int)) (M : Mach n o next out) :
    Fn Try.prog nz33 [machP n o next out] fun rows res =>
      ∃ v ps, rows = [.row v 1 true (rwp ps)] ∧ ps.map (·.2) = (tellO next out n.toNat n.toNat).getD [] ∧ DJ ps ∧ res = .tup [.own 6000 v, bv (tellO next out n.toNat n.toNat).isSome] := by
  refine con_of mixed czdg rfl (by simp) ?_
  generalize hQ : finQ _ = Q
  have n1 := M.aut.n1
  have n2 := M.aut.n2
  simp only [Az29, Bz85, yzp, yz8, go_sem, yz0, Int.reduceLT, reduceLE, reduceToNat, reduceNeg, Nat.reduceLT, reduceLeDiff, reduceMul, reduceSub, reduceIte, reduceEqDiff, reduceAdd, reduceCtorEq]
  intro vs0 U0 hN0 vs1 U1 hN1
  simp only [Bz84, Bz82, yzp, yz8, go_sem, yz0, Int.reduceLT, reduceLE, reduceToNat, reduceNeg, Nat.reduceLT, reduceLeDiff, reduceMul, reduceSub, reduceIte, reduceEqDiff, reduceAdd, reduceCtorEq]
  intro vs2 U2 hN2
  refine wpD_lp (fun (_, s, _) => n.toNat - s) (fun (_, s, ps) => (s : Int) ≤ n ∧ tellO next out n.toNat s = some (List.map (·.2) ps) ∧ DJ ps)
    (fun ((v4, s, ps) : Nat × Nat × List (Nat × List Int)) => ⟨L .any [(0, machP n o next out), (4, .own 15 v4), (5, iv s)],
      L .gone [(15, .row v4 1 true (rwp ps)), (82, .gone), (5000, .gone)]⟩)
    (_, 0, []) ⟨by simp; omega, rfl, by simp [DJ]⟩ (by simp only [Bz28, rwp_nil, go_sem, yz0, Int.reduceLT, reduceLE, reduceToNat, reduceNeg, Nat.reduceLT, reduceLeDiff, reduceMul, reduceSub, reduceIte, reduceEqDiff, reduceAdd, reduceCtorEq]; try rfl) ?_
  rintro ⟨v4, s, ps0⟩ ⟨hs, hO, hd0⟩
  have hs : (s : Int) ≤ n := hs
  have hO : tellO next out n.toNat s = some (ps0.map (·.2)) := hO
  by_cases hsl : (s : Int) < n
  · have w1 : IntKind.i64.wrap ((s : Int) + 1) = ((s + 1 + 0 : Nat) : Int) := by rw [w64 (by omega)]; simp
    have w1' : IntKind.i64.wrap ((s : Int) + 1) = ((s + 1 : Nat) : Int) := by rw [w64 (by omega)]; simp
    have T0 := TW.outer M.aut s _ (by omega) hO
    simp only [Bz28, Bz4j, Bz81, decide_eq_true hsl, yzp, yz8, go_sem, yz0, Int.reduceLT, reduceLE, reduceToNat, reduceNeg, Nat.reduceLT, reduceLeDiff, reduceMul, reduceSub, reduceIte, reduceEqDiff, reduceAdd, reduceCtorEq]
    intro vs3 U3 hN3 vs4 U4 hN4
    simp only [Bz7z, w1, yzp, yz8, go_sem, yz0, Int.reduceLT, reduceLE, reduceToNat, reduceNeg, Nat.reduceLT, reduceLeDiff, reduceMul, reduceSub, reduceIte, reduceEqDiff, reduceAdd, reduceCtorEq]
    refine wpD_lp (fun (_, k, _) => n.toNat - k) (fun (_, k, ps) => s + 1 + k ≤ n.toNat ∧ tellI next out s k (ps0.map (·.2)) = some (List.map (·.2) ps) ∧ DJ ps)
      (fun ((v4, k, ps) : Nat × Nat × List (Nat × List Int)) => ⟨L .any [(0, machP n o next out), (4, .own 15 v4), (5, iv s), (6, iv ((s + 1 + k : Nat) : Int))],
        L .gone [(15, .row v4 1 true (rwp ps)), (82, .gone), (5000, .gone)]⟩)
      (_, 0, ps0) ⟨by omega, rfl, hd0⟩ (by simp only [Bz27, go_sem, yz0, Int.reduceLT, reduceLE, reduceToNat, reduceNeg, Nat.reduceLT, reduceLeDiff, reduceMul, reduceSub, reduceIte, reduceEqDiff, reduceAdd, reduceCtorEq]; try rfl) ?_
    rintro ⟨v5, k, ps⟩ ⟨hk, hI, hd⟩
    have hk : s + 1 + k ≤ n.toNat := hk
    have hI : tellI next out s k (ps0.map (·.2)) = some (ps.map (·.2)) := hI
    have T := TW.inner M.aut T0 k _ (by omega) hI
    by_cases hkl : (((s + 1 + k : Nat) : Int)) < n
    · have w2 : IntKind.i64.wrap ((((s + 1 + k : Nat) : Int)) + 1) = ((s + 1 + (k + 1) : Nat) : Int) := by rw [w64 (by omega)]; omega
      have hst : s < n.toNat := by omega
      have htt : s + 1 + k < n.toNat := by omega
      simp only [Bz27, Bz4k, Bz7y, Bz7x, decide_eq_true hkl, yzp, yz8, go_sem, yz0, Int.reduceLT, reduceLE, reduceToNat, reduceNeg, Nat.reduceLT, reduceLeDiff, reduceMul, reduceSub, reduceIte, reduceEqDiff, reduceAdd, reduceCtorEq]
      intro vs5 U5 hN5 vs6 U6 hN6 vs7 U7 hN7
      simp only [Bz7u, yzp, yz8, go_sem, yz0, Int.reduceLT, reduceLE, reduceToNat, reduceNeg, Nat.reduceLT, reduceLeDiff, reduceMul, reduceSub, reduceIte, reduceEqDiff, reduceAdd, reduceCtorEq]
      refine wpD_lp (fun (_, i) => ps.length - i) (fun (told, i) => i ≤ ps.length ∧ told = toldB next out ((ps.map (·.2)).take i) s (s + 1 + k))
        (fun ((told, i) : Bool × Nat) => ⟨L .any [(0, machP n o next out), (4, .own 15 v5), (5, iv s), (6, iv ((s + 1 + k : Nat) : Int)), (7, bv told), (8, iv i)],
          L .gone [(15, .row v5 1 true (rwp ps)), (82, .gone), (5000, .gone)]⟩)
        (false, 0) ⟨by simp, rfl⟩ (by simp only [Bz1h, go_sem, yz0, Int.reduceLT, reduceLE, reduceToNat, reduceNeg, Nat.reduceLT, reduceLeDiff, reduceMul, reduceSub, reduceIte, reduceEqDiff, reduceAdd, reduceCtorEq]; try rfl) ?_
      rintro ⟨told, i⟩ ⟨hi, htold⟩
      have hi : i ≤ ps.length := hi
      have htold : told = toldB next out ((ps.map (·.2)).take i) s (s + 1 + k) := htold
      by_cases hgo : told = false ∧ i < ps.length
      · obtain ⟨rfl, hil⟩ := hgo
        have hil1 : (i : Int) < ps.length := by omega
        have hlm : i < (ps.map (·.2)).length := by rw [List.length_map]; exact hil
        have hg : (ps.map (·.2)).getD i [] = (ps.getD i (0, [])).2 := map2_getD hil
        have hsn := toldB_snoc (next := next) (out := out) (s := s) (t := s + 1 + k) hlm
        rw [← htold, Bool.false_or, hg] at hsn
        have hw := T.wd _ (yz1w hlm [])
        rw [hg] at hw
        simp only [Bz1h, Bz1l, Bz7t, rwp_len, rwpN_getD hil, decide_eq_true hil1, yzp, yz8, go_sem, yz0, Int.reduceLT, reduceLE, reduceToNat, reduceNeg, Nat.reduceLT, reduceLeDiff, reduceMul, reduceSub, reduceIte, reduceEqDiff, reduceAdd, reduceCtorEq]
        intro vs8 U8 hN8 hM vs9 U9 hN9
        refine ⟨⟨by omega, hil⟩, hil, ?_⟩
        generalize hu : (ps.getD i (0, [])).2 = u at hw hsn
        refine call_fn (k_l06Run n o next out M s ⟨by omega, hsl⟩ u hw.1 (by have := hw.2; omega)) qCS (fun e => by cases e) ?_
        rintro rows res ⟨va, rfl, rfl⟩
        refine ⟨by simp, by rw [Option.getD_some, yz1g]; simp only [go_sem, yz0, Int.reduceLT, reduceLE, reduceToNat, reduceNeg, Nat.reduceLT, reduceLeDiff, reduceMul, reduceSub, reduceIte, reduceEqDiff, reduceAdd, reduceCtorEq], ?_⟩
        simp only [Option.getD_some, Bz7r, rwpN_getD hil, hu, yzp, yz8, Nat.not_lt_zero, range1, yz1v, yz22, ren_ro, rnNm_n, yz21, rnNm_o, rnNm_s, ren_st, yz20, yz1h, yz12, yzl, yz1o, yz1q, yz1p, yz1f, yz1r, yzv, yzz, yzx, yz10, yz1b, yz1a, yzq, yzs, yz11, yzw, yz1c, yz19, List.range_zero, yzu, yzr, yzy, yz1n, yz1g, yz1m, AVal.fresh, freshL, yzk, yz1d, AObj.fresh, id, Option.isSome_some, or_true, true_or, go_sem, yz0, Int.reduceLT, reduceLE, reduceToNat, reduceNeg, Nat.reduceLT, reduceLeDiff, reduceMul, reduceSub, reduceIte, reduceEqDiff, reduceAdd, reduceCtorEq]
        intro vs10 U10 hN10
        have hil2 : i < (rwp ps).length := by rw [rwp_len]; exact hil
        have hl9 := T.len M.aut
        rw [List.length_map] at hl9
        refine ⟨⟨by omega, hil2⟩, hil2, ?_⟩
        refine call_fn (k_l06Run n o next out M ((s + 1 + k : Nat) : Int) ⟨by omega, hkl⟩ u hw.1 (by have := hw.2; omega)) qCS (fun e => by cases e) ?_
        rintro rows res ⟨vb, rfl, rfl⟩
        refine ⟨by simp, by rw [Option.getD_some, yz1g]; simp only [go_sem, yz0, Int.reduceLT, reduceLE, reduceToNat, reduceNeg, Nat.reduceLT, reduceLeDiff, reduceMul, reduceSub, reduceIte, reduceEqDiff, reduceAdd, reduceCtorEq], ?_⟩
        simp only [Option.getD_some, Bz7q, yzp, yz8, Nat.not_lt_zero, range1, yz1v, yz22, ren_ro, rnNm_n, yz21, rnNm_o, rnNm_s, ren_st, yz20, yz1h, yz12, yzl, yz1o, yz1q, yz1p, yz1f, yz1r, yzv, yzz, yzx, yz10, yz1b, yz1a, yzq, yzs, yz11, yzw, yz1c, yz19, List.range_zero, yzu, yzr, yzy, yz1n, yz1g, yz1m, AVal.fresh, freshL, yzk, yz1d, AObj.fresh, id, Option.isSome_some, or_true, true_or, go_sem, yz0, Int.reduceLT, reduceLE, reduceToNat, reduceNeg, Nat.reduceLT, reduceLeDiff, reduceMul, reduceSub, reduceIte, reduceEqDiff, reduceAdd, reduceCtorEq]
        intro vs11 U11 hN11
        refine yzg (k_l00Same (outsA next out (s : Int) u) (outsA next out ((s + 1 + k : Nat) : Int) u)) qCS trivial ?_
        have w4 : IntKind.i64.wrap ((i : Int) + 1) = ((i + 1 : Nat) : Int) := by rw [w64 (by omega)]; simp
        simp only [Bz7s, w4, yzp, yz8, go_sem, yz0, Int.reduceLT, reduceLE, reduceToNat, reduceNeg, Nat.reduceLT, reduceLeDiff, reduceMul, reduceSub, reduceIte, reduceEqDiff, reduceAdd, reduceCtorEq]
        intro vs12 U12 hN12
        exact ⟨(!decide (outsA next out (s : Int) u = outsA next out ((s + 1 + k : Nat) : Int) u), i + 1), by dsimp only; omega, ⟨by dsimp only; omega, hsn.symm⟩, rfl⟩
      · have hend : told = toldB next out (ps.map (·.2)) s (s + 1 + k) := by
          cases told with
          | true => exact (toldB_take htold.symm).symm
          | false =>
            have : i = ps.length := by
              by_cases e : i < ps.length
              · exact absurd ⟨rfl, e⟩ hgo
              · omega
            rw [htold, this, ← List.length_map (f := (·.2)), List.take_length]
        cases told with
        | true =>
          have hI2 : tellI next out s (k + 1) (ps0.map (·.2)) = some (ps.map (·.2)) := by simp only [tellI, hI, ← hend, if_true]
          by_cases hil : (i : Int) < ps.length
          · simp only [Bz1h, Bz1l, Bz25, Bz24, Bz26, rwp_len, decide_eq_true hil, Bool.not_true, w2, yzp, yz8, go_sem, yz0, Int.reduceLT, reduceLE, reduceToNat, reduceNeg, Nat.reduceLT, reduceLeDiff, reduceMul, reduceSub, reduceIte, reduceEqDiff, reduceAdd, reduceCtorEq]
            intro vs8 U8 hN8 hM vs9 U9 hN9 vs10 U10 hN10
            exact ⟨(_, k + 1, ps), by dsimp only; omega, ⟨by dsimp only; omega, hI2, hd⟩, rfl⟩
          · simp only [Bz1h, Bz1l, Bz25, Bz24, Bz26, rwp_len, decide_eq_false hil, Bool.not_true, w2, yzp, yz8, go_sem, yz0, Int.reduceLT, reduceLE, reduceToNat, reduceNeg, Nat.reduceLT, reduceLeDiff, reduceMul, reduceSub, reduceIte, reduceEqDiff, reduceAdd, reduceCtorEq]
            intro vs8 U8 hN8 hM vs9 U9 hN9 vs10 U10 hN10
            exact ⟨(_, k + 1, ps), by dsimp only; omega, ⟨by dsimp only; omega, hI2, hd⟩, rfl⟩
        | false =>
          have hil : ¬ (i : Int) < ps.length := fun h => hgo ⟨rfl, by omega⟩
          simp only [Bz1h, Bz1l, Bz25, Bz24, Bz7w, rwp_len, decide_eq_false hil, yzp, yz8, go_sem, yz0, Int.reduceLT, reduceLE, reduceToNat, reduceNeg, Nat.reduceLT, reduceLeDiff, reduceMul, reduceSub, reduceIte, reduceEqDiff, reduceAdd, reduceCtorEq]
          intro vs8 U8 hN8 hM vs9 U9 hN9 vs10 U10 hN10
          refine call_wordF (k_l06Apart n o next out M s (s + 1 + k) hsl hkl) qCS rfl (fun v => ?_)
          cases hw : apartQ next next out out s (s + 1 + k) with
          | none =>
            have hI2 : tellI next out s (k + 1) (ps0.map (·.2)) = none := by simp only [tellI, hI, ← hend, Bool.false_eq_true, if_false, hw]
            have hO2 : tellO next out n.toNat n.toNat = none := by
              have e1 := tellI_none hI2 (n.toNat - (s + 1) - (k + 1))
              rw [show k + 1 + (n.toNat - (s + 1) - (k + 1)) = n.toNat - (s + 1) by omega] at e1
              have e2 : tellO next out n.toNat (s + 1) = none := by simp only [tellO, hO, e1]
              have e3 := tellO_none e2 (n.toNat - (s + 1))
              rw [show s + 1 + (n.toNat - (s + 1)) = n.toNat by omega] at e3
              exact e3
            simp only [Option.isSome_none, Option.getD_none, Bz4m, Bz4l, Az29, ← hQ, hO2, yzp, yz8, go_sem, yz0, Int.reduceLT, reduceLE, reduceToNat, reduceNeg, Nat.reduceLT, reduceLeDiff, reduceMul, reduceSub, reduceIte, reduceEqDiff, reduceAdd, reduceCtorEq]
            intro vs11 U11 hN11 vs12 U12 hN12
            refine ⟨[78], by simp, by simp, by simp, ?_⟩
            simp only [range1, List.length_singleton, Nat.not_lt_zero, range1, yz1v, yz22, ren_ro, rnNm_n, yz21, rnNm_o, rnNm_s, ren_st, yz20, yz1h, yz12, yzl, yz1o, yz1q, yz1p, yz1f, yz1r, yzv, yzz, yzx, yz10, yz1b, yz1a, yzq, yzs, yz11, yzw, yz1c, yz19, List.range_zero, yzu, yzr, yzy, yz1n, yz1g, yz1m, AVal.fresh, freshL, yzk, yz1d, AObj.fresh, id, Option.isSome_some, or_true, true_or, go_sem, yz0, Int.reduceLT, reduceLE, reduceToNat, reduceNeg, Nat.reduceLT, reduceLeDiff, reduceMul, reduceSub, reduceIte, reduceEqDiff, reduceAdd, reduceCtorEq]
            exact ⟨_, [], rfl, rfl, by simp [DJ], rfl⟩
          | some w =>
            have hI2 : tellI next out s (k + 1) (ps0.map (·.2)) = some ((ps ++ [(v, w)]).map (·.2)) := by simp only [tellI, hI, ← hend, Bool.false_eq_true, if_false, hw, List.map_append, List.map_cons, List.map_nil]
            have hl9 := T.len M.aut
            rw [List.length_map] at hl9
            simp only [Option.isSome_some, Option.getD_some, Bz4m, Bz4l, Bz7v, yzp, yz8, wpD_gh, go_sem, yz0, Int.reduceLT, reduceLE, reduceToNat, reduceNeg, Nat.reduceLT, reduceLeDiff, reduceMul, reduceSub, reduceIte, reduceEqDiff, reduceAdd, reduceCtorEq]
            intro vs11 U11 hN11 hD
            refine ⟨[], ?_⟩
            have hf : ∀ p ∈ ps, p.2 = [] ∨ p.1 ≠ v := fun p hp => by
              by_cases e : p.2 = []
              · exact .inl e
              · exact .inr (hD 15 v5 1 true (rwp ps) 73 v rfl rfl p.1 1 (ints p.2) (List.mem_map.2 ⟨p, hp, rfl⟩) (by simpa using e))
            simp only [gwp_nil, yzp, yz8, go_sem, yz0, Int.reduceLT, reduceLE, reduceToNat, reduceNeg, Nat.reduceLT, reduceLeDiff, reduceMul, reduceSub, reduceIte, reduceEqDiff, reduceAdd, reduceCtorEq]
            intro vs12 U12 hN12
            rw [rwp_len]
            refine ⟨by omega, ?_⟩
            simp only [Bz26, rwp_snoc, w2, yzp, yz8, go_sem, yz0, Int.reduceLT, reduceLE, reduceToNat, reduceNeg, Nat.reduceLT, reduceLeDiff, reduceMul, reduceSub, reduceIte, reduceEqDiff, reduceAdd, reduceCtorEq]
            intro vs13 U13 hN13
            exact ⟨(_, k + 1, ps ++ [(v, w)]), by dsimp only; omega, ⟨by dsimp only; omega, hI2, hd.snoc hf⟩, rfl⟩
    · have hke : k = n.toNat - (s + 1) := by omega
      have hO2 : tellO next out n.toNat (s + 1) = some (ps.map (·.2)) := by simp only [tellO, hO]; rw [← hke]; exact hI
      simp only [Bz27, Bz4k, Bz80, decide_eq_false hkl, w1', yzp, yz8, go_sem, yz0, Int.reduceLT, reduceLE, reduceToNat, reduceNeg, Nat.reduceLT, reduceLeDiff, reduceMul, reduceSub, reduceIte, reduceEqDiff, reduceAdd, reduceCtorEq]
      intro vs5 U5 hN5 vs6 U6 hN6
      exact ⟨(_, s + 1, ps), by dsimp only; omega, ⟨by dsimp only; omega, hO2, hd⟩, rfl⟩
  · have hse : s = n.toNat := by omega
    rw [hse] at hO
    simp only [Bz28, Bz4j, Bz83, Az29, ← hQ, hO, decide_eq_false hsl, yzp, yz8, go_sem, yz0, Int.reduceLT, reduceLE, reduceToNat, reduceNeg, Nat.reduceLT, reduceLeDiff, reduceMul, reduceSub, reduceIte, reduceEqDiff, reduceAdd, reduceCtorEq]
    intro vs3 U3 hN3 vs4 U4 hN4
    refine ⟨[15], by simp, by simp, by simp, ?_⟩
    simp only [range1, List.length_singleton, renL_rwp, Nat.not_lt_zero, range1, yz1v, yz22, ren_ro, rnNm_n, yz21, rnNm_o, rnNm_s, ren_st, yz20, yz1h, yz12, yzl, yz1o, yz1q, yz1p, yz1f, yz1r, yzv, yzz, yzx, yz10, yz1b, yz1a, yzq, yzs, yz11, yzw, yz1c, yz19, List.range_zero, yzu, yzr, yzy, yz1n, yz1g, yz1m, AVal.fresh, freshL, yzk, yz1d, AObj.fresh, id, Option.isSome_some, or_true, true_or, go_sem, yz0, Int.reduceLT, reduceLE, reduceToNat, reduceNeg, Nat.reduceLT, reduceLeDiff, reduceMul, reduceSub, reduceIte, reduceEqDiff, reduceAdd, reduceCtorEq]
    exact ⟨fresh_rwp, v4, ps0, by simp, rfl, hd0, rfl⟩
theorem k_specTellingSet (n o : Int) (next out : List (List Int)) : SetC2 Try.prog nz8 [machA n o next out]
    (if machB n o next out = true then (tellO next out n.toNat n.toNat).getD [] else []) (if machB n o next out = true then (if (tellO next out n.toNat n.toNat).isSome = true then 0 else 4) else 1) := by
  refine con_of mixed czd7 rfl (by simp) ?_
  simp only [Az68, Bz67, yzp, yz8, go_sem, yz0, Int.reduceLT, reduceLE, reduceToNat, reduceNeg, Nat.reduceLT, reduceLeDiff, reduceMul, reduceSub, reduceIte, reduceEqDiff, reduceAdd, reduceCtorEq]
  intro vs0 U0 hN0 vs1 U1 hN1
  refine yzg (k_l06Ok n o next out) qCS trivial ?_
  cases hv : machB n o next out with
  | false =>
    simp only [Bz3v, yzp, yz8, go_sem, yz0, Int.reduceLT, reduceLE, reduceToNat, reduceNeg, Nat.reduceLT, reduceLeDiff, reduceMul, reduceSub, reduceIte, reduceEqDiff, reduceAdd, reduceCtorEq]
    intros
    refine ⟨[8], by simp, by simp, by simp, ?_⟩
    simp only [Bool.false_eq_true, if_false, range1, List.length_singleton, Nat.not_lt_zero, range1, yz1v, yz22, ren_ro, rnNm_n, yz21, rnNm_o, rnNm_s, ren_st, yz20, yz1h, yz12, yzl, yz1o, yz1q, yz1p, yz1f, yz1r, yzv, yzz, yzx, yz10, yz1b, yz1a, yzq, yzs, yz11, yzw, yz1c, yz19, List.range_zero, yzu, yzr, yzy, yz1n, yz1g, yz1m, AVal.fresh, freshL, yzk, yz1d, AObj.fresh, id, Option.isSome_some, or_true, true_or, go_sem, yz0, Int.reduceLT, reduceLE, reduceToNat, reduceNeg, Nat.reduceLT, reduceLeDiff, reduceMul, reduceSub, reduceIte, reduceEqDiff, reduceAdd, reduceCtorEq]
    exact ⟨_, [], rfl, rfl, by simp [DJ], rfl⟩
  | true =>
    have M := machB_iff.1 hv
    simp only [Bz3v, Bz66, yzp, yz8, go_sem, yz0, Int.reduceLT, reduceLE, reduceToNat, reduceNeg, Nat.reduceLT, reduceLeDiff, reduceMul, reduceSub, reduceIte, reduceEqDiff, reduceAdd, reduceCtorEq]
    intro vs3 U3 hN3
    refine call_setB (fun x y e => (hN3.inj _ _ _ _ e).2) (k_l06TellingSet n o next out M) qCS rfl (fun v ps hps hd _ => ?_)
    cases hO : tellO next out n.toNat n.toNat with
    | none =>
      rw [hO] at hps
      simp only [Option.isSome_none, Bz3x, Bz3w, yzp, yz8, go_sem, yz0, Int.reduceLT, reduceLE, reduceToNat, reduceNeg, Nat.reduceLT, reduceLeDiff, reduceMul, reduceSub, reduceIte, reduceEqDiff, reduceAdd, reduceCtorEq]
      intros
      refine ⟨[15], by simp, by simp, by simp, ?_⟩
      simp only [Bool.false_eq_true, if_false, if_true, Option.getD_none, range1, List.length_singleton, Nat.not_lt_zero, range1, yz1v, yz22, ren_ro, rnNm_n, yz21, rnNm_o, rnNm_s, ren_st, yz20, yz1h, yz12, yzl, yz1o, yz1q, yz1p, yz1f, yz1r, yzv, yzz, yzx, yz10, yz1b, yz1a, yzq, yzs, yz11, yzw, yz1c, yz19, List.range_zero, yzu, yzr, yzy, yz1n, yz1g, yz1m, AVal.fresh, freshL, yzk, yz1d, AObj.fresh, id, Option.isSome_some, or_true, true_or, go_sem, yz0, Int.reduceLT, reduceLE, reduceToNat, reduceNeg, Nat.reduceLT, reduceLeDiff, reduceMul, reduceSub, reduceIte, reduceEqDiff, reduceAdd, reduceCtorEq]
      exact ⟨_, [], rfl, rfl, by simp [DJ], rfl⟩
    | some ws =>
      rw [hO, Option.getD_some] at hps
      simp only [Option.isSome_some, Bz3x, Bz3w, Bz65, yzp, yz8, go_sem, yz0, Int.reduceLT, reduceLE, reduceToNat, reduceNeg, Nat.reduceLT, reduceLeDiff, reduceMul, reduceSub, reduceIte, reduceEqDiff, reduceAdd, reduceCtorEq]
      intros
      refine ⟨[10], by simp, by simp, by simp, ?_⟩
      simp only [if_true, Option.getD_some, range1, List.length_singleton, renL_rwp, Nat.not_lt_zero, range1, yz1v, yz22, ren_ro, rnNm_n, yz21, rnNm_o, rnNm_s, ren_st, yz20, yz1h, yz12, yzl, yz1o, yz1q, yz1p, yz1f, yz1r, yzv, yzz, yzx, yz10, yz1b, yz1a, yzq, yzs, yz11, yzw, yz1c, yz19, List.range_zero, yzu, yzr, yzy, yz1n, yz1g, yz1m, AVal.fresh, freshL, yzk, yz1d, AObj.fresh, id, Option.isSome_some, or_true, true_or, go_sem, yz0, Int.reduceLT, reduceLE, reduceToNat, reduceNeg, Nat.reduceLT, reduceLeDiff, reduceMul, reduceSub, reduceIte, reduceEqDiff, reduceAdd, reduceCtorEq]
      exact ⟨fresh_rwp, v, ps, by simp, hps, hd, rfl⟩
end Go.Ab
namespace Go.Ab
open Go.Proofs
theorem k_FnExactTellingSet (n o : Int) (next out : List (List Int)) : Fun Try.prog nza [.st [iv n, iv o, .ro (some (some 0)) 1 (rwo next), .ro (some (some 0)) 1 (rwo out)]] (bv true) := by
  have KS := k_specTellingSet n o next out
  have KI := k_TellingSet n o next out
  cases hv : machB n o next out with
  | false =>
    rw [hv] at KS KI
    exact law_TellingSet_no n o next out 1 KS KI
  | true =>
    have M := machB_iff.1 hv
    rw [hv] at KS KI
    cases hO : tellO next out n.toNat n.toNat with
    | none =>
      rw [hO] at KS KI
      exact law_TellingSet_no n o next out 4 KS KI
    | some ws =>
      rw [hO] at KS KI
      simp only [if_true, Option.isSome_some, Option.getD_some, Bool.and_self] at KS KI
      have T := TW.outer M.aut n.toNat ws (Nat.le_refl _) hO
      have hl := T.len M.aut
      have hw : ∀ w ∈ ws, w ≠ [] ∧ (w.length : Int) ≤ 1000 := fun w h => ⟨T.ne w h, by have := (T.wd w h).2; omega⟩
      clear T hO hv
      match ws, hl, hw, KS, KI with
      | [], _, hw, KS, KI => exact law_TellingSet_0 n o next out  0 KS KI
      | [y1], _, hw, KS, KI => exact law_TellingSet_1 n o next out y1 0 KS KI (hw y1 (by simp))
      | [y1, y2], _, hw, KS, KI => exact law_TellingSet_2 n o next out y1 y2 0 KS KI (hw y1 (by simp)) (hw y2 (by simp))
      | [y1, y2, y3], _, hw, KS, KI => exact law_TellingSet_3 n o next out y1 y2 y3 0 KS KI (hw y1 (by simp)) (hw y2 (by simp)) (hw y3 (by simp))
      | [y1, y2, y3, y4], _, hw, KS, KI => exact law_TellingSet_4 n o next out y1 y2 y3 y4 0 KS KI (hw y1 (by simp)) (hw y2 (by simp)) (hw y3 (by simp)) (hw y4 (by simp))
      | [y1, y2, y3, y4, y5], _, hw, KS, KI => exact law_TellingSet_5 n o next out y1 y2 y3 y4 y5 0 KS KI (hw y1 (by simp)) (hw y2 (by simp)) (hw y3 (by simp)) (hw y4 (by simp)) (hw y5 (by simp))
      | [y1, y2, y3, y4, y5, y6], _, hw, KS, KI => exact law_TellingSet_6 n o next out y1 y2 y3 y4 y5 y6 0 KS KI (hw y1 (by simp)) (hw y2 (by simp)) (hw y3 (by simp)) (hw y4 (by simp)) (hw y5 (by simp)) (hw y6 (by simp))
      | [y1, y2, y3, y4, y5, y6, y7], _, hw, KS, KI => exact law_TellingSet_7 n o next out y1 y2 y3 y4 y5 y6 y7 0 KS KI (hw y1 (by simp)) (hw y2 (by simp)) (hw y3 (by simp)) (hw y4 (by simp)) (hw y5 (by simp)) (hw y6 (by simp)) (hw y7 (by simp))
      | [y1, y2, y3, y4, y5, y6, y7, y8], _, hw, KS, KI => exact law_TellingSet_8 n o next out y1 y2 y3 y4 y5 y6 y7 y8 0 KS KI (hw y1 (by simp)) (hw y2 (by simp)) (hw y3 (by simp)) (hw y4 (by simp)) (hw y5 (by simp)) (hw y6 (by simp)) (hw y7 (by simp)) (hw y8 (by simp))
      | [y1, y2, y3, y4, y5, y6, y7, y8, y9], _, hw, KS, KI => exact law_TellingSet_9 n o next out y1 y2 y3 y4 y5 y6 y7 y8 y9 0 KS KI (hw y1 (by simp)) (hw y2 (by simp)) (hw y3 (by simp)) (hw y4 (by simp)) (hw y5 (by simp)) (hw y6 (by simp)) (hw y7 (by simp)) (hw y8 (by simp)) (hw y9 (by simp))
      | _ :: _ :: _ :: _ :: _ :: _ :: _ :: _ :: _ :: _ :: _, h, _, _, _ => simp at h
end Go.Ab
namespace Go.Ab
open Go
variable {P : Program}
theorem arg_mach {t : TypeId} {A : AVal} {fs : Array Field} {f1 f2 f3 f4 : Field} (h : P.underlying t = some (.struct fs)) (hfs : fs.toList = [f1, f2, f3, f4]) (ht1 : P.underlying f1.type = some (.int .i64)) (ht2 : P.underlying f2.type = some (.int .i64))
    {e f : TypeId} (h2 : P.underlying f3.type = some (.slice e)) (h3 : P.underlying f4.type = some (.slice e)) (h1 : P.cellsOf e = 1) (he : P.underlying e = some (.slice f)) (hf1 : P.cellsOf f = 1) (hf : P.underlying f = some (.int .i64))
    (hA : ArgShp P t A) : ∃ n o x y, A = .st [iv n, iv o, .ro (some (some 0)) 1 (rwo x), .ro (some (some 0)) 1 (rwo y)] := by
  obtain ⟨As, rfl, hF⟩ := arg_struct h hA
  rw [hfs] at hF
  cases hF with
  | cons hA1 hF =>
    cases hF with
    | cons hA2 hF =>
      cases hF with
      | cons hA3 hF =>
        cases hF with
        | cons hA4 hF =>
          cases hF
          obtain ⟨n, rfl⟩ := shp_int ht1 hA1
          obtain ⟨o, rfl⟩ := shp_int ht2 hA2
          obtain ⟨x, rfl⟩ := shp_rows h2 h1 he hf1 hf hA3
          obtain ⟨y, rfl⟩ := shp_rows h3 h1 he hf1 hf hA4
          exact ⟨n, o, x, y, rfl⟩
end Go.Ab
