/- Contracts and what they lean on, part 10. Conditions: none. -/
import Derived.Test.YtjolahggbdnmbaaZ9
set_option maxRecDepth 100000
set_option maxHeartbeats 4000000
set_option linter.all false
open Nat (reduceLeDiff reduceMul reduceSub reduceEqDiff reduceAdd)
open Int (reduceToNat reduceNeg reduceLE)
namespace Go.Ab
open Go.Proofs
theorem i_andW {x y : Nat} (hx : x < 4611686018427387904) (hy : y < 4611686018427387904) :
    IntKind.i64.wrap ((@HAnd.hAnd (BitVec 64) (BitVec 64) (BitVec 64) (@instHAndOfAndOp (BitVec IntKind.i64.bits) (@BitVec.instAndOp IntKind.i64.bits)) (BitVec.ofInt 64 (x : Int)) (BitVec.ofInt 64 (y : Int))).toNat) = ((x &&& y : Nat) : Int) := by
  have h : (BitVec.ofInt 64 (x : Int) &&& BitVec.ofInt 64 (y : Int)).toNat = x &&& y := by rw [BitVec.toNat_and, bv64 (by omega), bv64 (by omega)]
  show IntKind.i64.wrap ((BitVec.ofInt 64 (x : Int) &&& BitVec.ofInt 64 (y : Int)).toNat : Int) = _
  rw [h]
  have := Nat.lt_of_le_of_lt (Nat.and_le_left (n := x) (m := y)) hx
  exact w64 (by omega)
theorem i_orW {x y : Nat} (hx : x < 4611686018427387904) (hy : y < 4611686018427387904) :
    IntKind.i64.wrap ((@HOr.hOr (BitVec 64) (BitVec 64) (BitVec 64) (@instHOrOfOrOp (BitVec IntKind.i64.bits) (@BitVec.instOrOp IntKind.i64.bits)) (BitVec.ofInt 64 (x : Int)) (BitVec.ofInt 64 (y : Int))).toNat) = ((x ||| y : Nat) : Int) := by
  have h : (BitVec.ofInt 64 (x : Int) ||| BitVec.ofInt 64 (y : Int)).toNat = x ||| y := by rw [BitVec.toNat_or, bv64 (by omega), bv64 (by omega)]
  show IntKind.i64.wrap ((BitVec.ofInt 64 (x : Int) ||| BitVec.ofInt 64 (y : Int)).toNat : Int) = _
  rw [h]
  have := Nat.or_lt_two_pow (n := 62) (x := x) (y := y) hx hy
  exact w64 (by omega)
theorem i_and1 {x : Nat} (hx : x < 4611686018427387904) :
    IntKind.i64.wrap ((@HAnd.hAnd (BitVec 64) (BitVec 64) (BitVec 64) (@instHAndOfAndOp (BitVec IntKind.i64.bits) (@BitVec.instAndOp IntKind.i64.bits)) (BitVec.ofInt 64 (x : Int)) (BitVec.ofInt 64 1)).toNat) = ((x &&& 1 : Nat) : Int) := i_andW (y := 1) hx (by omega)
theorem i_shl {a b : Nat} (h : b < 64) (hl : a * 2 ^ b < 4611686018427387904) : IntKind.i64.wrap ((a : Int) * 2 ^ min b 64) = ((a * 2 ^ b : Nat) : Int) := by
  have h1 : min b 64 = b := by omega
  have h2 : (2 : Int) ^ b = ((2 ^ b : Nat) : Int) := by simp
  rw [h1, h2, ← Int.natCast_mul]
  exact w64 (by omega)
theorem i_shl1 {b : Nat} (h : b < 62) : IntKind.i64.wrap (1 * 2 ^ min b 64) = ((2 ^ b : Nat) : Int) := by
  have := i_shl (a := 1) (b := b) (by omega) (by rw [Nat.one_mul]; exact Nat.pow_lt_pow_right (a := 2) (n := 62) (by omega) h)
  rw [Nat.one_mul] at this; exact this
theorem bit_eq {f s : Nat} : ((((f >>> s &&& 1 : Nat) : Int)) == 1) = f.testBit s := by
  rw [Nat.testBit_eq_decide_div_mod_eq, Nat.and_one_is_mod, Nat.shiftRight_eq_div_pow, Bool.eq_iff_iff, beq_iff_eq, decide_eq_true_iff]
  generalize f / 2 ^ s % 2 = q
  omega
theorem bit_eq0 {f s : Nat} : ((((f >>> s &&& 1 : Nat) : Int)) == 0) = !f.testBit s := by
  rw [← bit_eq]
  have h : f >>> s &&& 1 = 0 ∨ f >>> s &&& 1 = 1 := by rw [Nat.and_one_is_mod]; omega
  rcases h with h | h <;> rw [h] <;> rfl
theorem shr_lt {f s k : Nat} (h : f < k) : f >>> s < k := by rw [Nat.shiftRight_eq_div_pow]; exact Nat.lt_of_le_of_lt (Nat.div_le_self _ _) h
def othT (next out : List (List Int)) (s f x t : Nat) : Nat := ((List.range t).filter fun k => f.testBit k).foldl (othS next out s x) 0
theorem othT_succ {next out : List (List Int)} {s f x t : Nat} : othT next out s f x (t + 1) = if f.testBit t = true then othS next out s x (othT next out s f x t) t else othT next out s f x t := by
  unfold othT
  rw [List.range_succ, List.filter_append]
  cases h : f.testBit t with
  | true => simp [h]
  | false => simp [h]
theorem othT_all {next out : List (List Int)} {s f x n : Nat} (hn : n ≤ 10) (hf : f < 2 ^ n) : othT next out s f x n = othN next out s f x := by
  have h : ∀ d, (List.range (n + d)).filter (fun k => f.testBit k) = (List.range n).filter fun k => f.testBit k := by
    intro d
    induction d with
    | zero => rfl
    | succ d ih =>
      rw [← Nat.add_assoc, List.range_succ, List.filter_append, ih]
      have : f.testBit (n + d) = false := Nat.testBit_lt_two_pow (Nat.lt_of_lt_of_le hf (Nat.pow_le_pow_right (by omega) (by omega)))
      simp [this]
  have h10 := h (10 - n)
  rw [show n + (10 - n) = 10 by omega] at h10
  unfold othT othN bitsN
  rw [h10]
theorem othT_lt {n : Int} {next out : List (List Int)} (A : Aut n next) {s f x : Nat} (hx : x < next.length) : ∀ t : Nat, (t : Int) ≤ n → othT next out s f x t < 2 ^ n.toNat
  | 0, _ => by simp [othT]; exact Nat.two_pow_pos _
  | t + 1, ht => by
    have ih := othT_lt (out := out) (s := s) (f := f) A hx t (by omega)
    rw [othT_succ]
    split
    · unfold othS
      split
      · have h1 := (toN_lt A (s := t) (by omega) hx).1
        unfold toN at h1
        exact Nat.or_lt_two_pow ih (Nat.pow_lt_pow_right (by omega) h1)
      · exact ih
    · exact ih
theorem k_l06Others (n o : Int) (next out : List (List Int)) (M : Mach n o next out) (s f x : Nat) (hs : (s : Int) < n) (hf : f < 2 ^ n.toNat) (hx : x < next.length) :
    Fun Try.prog nz3x [machP n o next out, iv s, iv f, iv x] (.tup [iv (othN next out s f x : Nat), bv !((othN next out s f x).testBit (toN next s x))]) := by
  refine fun_of mixed czkg rfl ⟨rfl, by simp [AVal.fresh, freshL]⟩ ?_
  have n1 := M.aut.n1
  have n2 := M.aut.n2
  have hp : 2 ^ n.toNat ≤ 1024 := Nat.pow_le_pow_right (n := 2) (by omega) (show n.toNat ≤ 10 by omega)
  have hxo : x < out.length := by rw [M.len]; exact hx
  have ra := M.aut.row _ (yzo hx [])
  have ro := M.row _ (yzo hxo [])
  simp only [Azdi, Bzdh, Bzdg, Bzde, go_sem, yz0, Int.reduceLT, reduceLE, reduceToNat, reduceNeg, Nat.reduceLT, reduceLeDiff, reduceMul, reduceSub, reduceIte, reduceEqDiff, reduceAdd, reduceCtorEq]
  refine wpD_lo (fun t => n.toNat - t) (fun t => (t : Int) ≤ n)
    (fun (t : Nat) => ⟨L .any [(0, machP n o next out), (1, iv s), (2, iv f), (3, iv x), (10, iv (othT next out s f x t : Nat)), (11, iv t)], L .gone []⟩)
    0 (by simp; omega) (by simp only [Bze, go_sem, yz0, Int.reduceLT, reduceLE, reduceToNat, reduceNeg, Nat.reduceLT, reduceLeDiff, reduceMul, reduceSub, reduceIte, reduceEqDiff, reduceAdd, reduceCtorEq]; try rfl) ?_
  intro t ht
  have hot := othT_lt (out := out) (s := s) (f := f) M.aut hx t ht
  by_cases htl : (t : Int) < n
  · have hsh := u_shr (f := f) (s := t) (by omega)
    have hand := i_and1 (x := f >>> t) (by have := shr_lt (s := t) hf; omega)
    have hcv : IntKind.u64.wrap ((t : Nat) : Int) = t := u64w (by omega)
    have ht0 : ¬ ((t : Nat) : Int) < 0 := by omega
    have w1 : IntKind.i64.wrap ((t : Int) + 1) = ((t + 1 : Nat) : Int) := by rw [w64 (by omega)]; simp
    have hot2 := othT_lt (out := out) (s := s) (f := f) M.aut hx (t + 1) (by omega)
    cases hb : f.testBit t with
    | false =>
      have hbit : ((((f >>> t &&& 1 : Nat) : Int)) == 1) = false := by rw [bit_eq, hb]
      have hsu : othT next out s f x (t + 1) = othT next out s f x t := by rw [othT_succ, hb]; rfl
      simp only [Bze, Bz11, Bz12, Bz2k, Bz2l, decide_eq_true htl, hcv, ht0, Int.toNat_natCast, hsh, hand, hbit, w1, go_sem, yz0, Int.reduceLT, reduceLE, reduceToNat, reduceNeg, Nat.reduceLT, reduceLeDiff, reduceMul, reduceSub, reduceIte, reduceEqDiff, reduceAdd, reduceCtorEq]
      exact ⟨t + 1, by omega, by omega, by rw [hsu]⟩
    | true =>
      have hbit : ((((f >>> t &&& 1 : Nat) : Int)) == 1) = true := by rw [bit_eq, hb]
      have hto : t < (out.getD x []).length := by omega
      have hso : s < (out.getD x []).length := by omega
      have hta : t < (next.getD x []).length := by omega
      have hv := ra.2 _ (yzo hta 0)
      by_cases he : (out.getD x []).getD t 0 = (out.getD x []).getD s 0
      · have hbe : ((out.getD x []).getD t 0 == (out.getD x []).getD s 0) = true := by rw [he]; simp
        obtain ⟨q, hq⟩ : ∃ q : Nat, (next.getD x []).getD t 0 = q := ⟨((next.getD x []).getD t 0).toNat, by omega⟩
        have hq10 : q < 10 := by omega
        have hcq : IntKind.u64.wrap (q : Int) = q := u64w (by omega)
        have hq0 : ¬ ((q : Nat) : Int) < 0 := by omega
        have hsl := i_shl1 (b := q) (by omega)
        have hpq := Nat.pow_lt_pow_right (a := 2) (by omega) hq10
        have hor := i_orW (x := othT next out s f x t) (y := 2 ^ q) (by omega) (by omega)
        have hsu : othT next out s f x t ||| 2 ^ q = othT next out s f x (t + 1) := by
          rw [othT_succ, if_pos hb]; unfold othS; rw [if_pos he, hq, Int.toNat_natCast]
        simp only [Bze, Bz11, Bz12, Bz2k, Bz2l, decide_eq_true htl, hcv, ht0, Int.toNat_natCast, hsh, hand, hbit, w1, yz19 hxo, yz19 hx, yzg hto, yzg hso, yzg hta, hbe, hq, hcq, hq0, hsl, hor, hsu, go_sem, yz0, Int.reduceLT, reduceLE, reduceToNat, reduceNeg, Nat.reduceLT, reduceLeDiff, reduceMul, reduceSub, reduceIte, reduceEqDiff, reduceAdd, reduceCtorEq]
        exact ⟨⟨by omega, hxo⟩, hxo, ⟨by omega, hto⟩, hto, ⟨by omega, hxo⟩, hxo, ⟨by omega, hso⟩, hso, ⟨by omega, hx⟩, hx, ⟨by omega, hta⟩, hta, t + 1, by omega, by omega, rfl⟩
      · have hbe : ((out.getD x []).getD t 0 == (out.getD x []).getD s 0) = false := by simpa using he
        have hsu : othT next out s f x (t + 1) = othT next out s f x t := by rw [othT_succ, if_pos hb]; unfold othS; rw [if_neg he]
        simp only [Bze, Bz11, Bz12, Bz2k, Bz2l, decide_eq_true htl, hcv, ht0, Int.toNat_natCast, hsh, hand, hbit, w1, yz19 hxo, yzg hto, yzg hso, hbe, go_sem, yz0, Int.reduceLT, reduceLE, reduceToNat, reduceNeg, Nat.reduceLT, reduceLeDiff, reduceMul, reduceSub, reduceIte, reduceEqDiff, reduceAdd, reduceCtorEq]
        exact ⟨⟨by omega, hxo⟩, hxo, ⟨by omega, hto⟩, hto, ⟨by omega, hxo⟩, hxo, ⟨by omega, hso⟩, hso, t + 1, by omega, by omega, by rw [hsu]⟩
  · have hte : t = n.toNat := by omega
    subst hte
    have hall := othT_all (next := next) (out := out) (s := s) (x := x) (n := n.toNat) (by omega) hf
    have hsa : s < (next.getD x []).length := by omega
    have hv := ra.2 _ (yzo hsa 0)
    obtain ⟨q, hq⟩ : ∃ q : Nat, (next.getD x []).getD s 0 = q := ⟨((next.getD x []).getD s 0).toNat, by omega⟩
    have hto : toN next s x = q := by unfold toN; rw [hq, Int.toNat_natCast]
    have hcq : IntKind.u64.wrap (q : Int) = q := u64w (by omega)
    have hq0 : ¬ ((q : Nat) : Int) < 0 := by omega
    have hsh := u_shr (f := othN next out s f x) (s := q) (by omega)
    rw [hall] at hot
    have hand := i_and1 (x := othN next out s f x >>> q) (by have := shr_lt (s := q) hot; omega)
    simp only [Bze, Bz11, Bz12, Bzdf, decide_eq_false htl, hall, yz19 hx, yzg hsa, hq, hcq, hq0, Int.toNat_natCast, hsh, hand, bit_eq0, hto, go_sem, yz0, Int.reduceLT, reduceLE, reduceToNat, reduceNeg, Nat.reduceLT, reduceLeDiff, reduceMul, reduceSub, reduceIte, reduceEqDiff, reduceAdd, reduceCtorEq]
    exact ⟨⟨by omega, hx⟩, hx, ⟨by omega, hsa⟩, hsa⟩
end Go.Ab
namespace Go.Ab
open Go.Proofs
def bls (xs : List Bool) : List AVal := xs.map bv
theorem bls_len {xs : List Bool} : (bls xs).length = xs.length := by simp [bls]
theorem bls_getD {xs : List Bool} {i : Nat} (h : i < xs.length) : (bls xs).getD i .any = bv (xs.getD i false) := by
  rw [List.getD_eq_getElem?_getD, bls, List.getElem?_map, List.getElem?_eq_getElem h, List.getD_eq_getElem?_getD, List.getElem?_eq_getElem h]; rfl
theorem dnL_bls {xs : List Bool} : dnL (bls xs) = bls xs := by simp [dnL_eq, bls, AVal.dn]
theorem bls_rep {n : Nat} : (List.replicate n [AVal.val (.bool false)]).flatten = bls (List.replicate n false) := by
  rw [rep_flat1, bls, List.map_replicate]
theorem bls_set {xs : List Bool} {i : Nat} {b : Bool} (h : i < xs.length) : (bls xs).take i ++ [AVal.val (.bool b)] ++ (bls xs).drop (i + 1) = bls (xs.set i b) := by
  rw [List.set_eq_take_append_cons_drop, if_pos h]
  simp [bls]
def cellN (m : Nat) (p : Nat × Nat) : Nat := p.1 * 2 ^ m + p.2
def seenB (m : Nat) (L : PS) : List Bool := (List.range (m * 2 ^ m)).map fun c => L.any fun p => decide (cellN m p.1 = c)
theorem seenB_len {m : Nat} {L : PS} : (seenB m L).length = m * 2 ^ m := by simp [seenB]
theorem seenB_nil {m : Nat} : seenB m [] = List.replicate (m * 2 ^ m) false := by
  refine List.ext_getElem (by simp [seenB]) fun i h1 h2 => ?_
  simp [seenB]
theorem cellN_lt {m : Nat} {p : Nat × Nat} (h : idD m p) : cellN m p < m * 2 ^ m := by
  have h2 : (p.1 + 1) * 2 ^ m ≤ m * 2 ^ m := Nat.mul_le_mul_right _ h.1
  have := h.2
  unfold cellN
  rw [Nat.add_mul, Nat.one_mul] at h2
  omega
theorem cellN_inj {m : Nat} {p q : Nat × Nat} (hp : idD m p) (hq : idD m q) (h : cellN m p = cellN m q) : p = q := by
  unfold cellN at h
  have h1 : (p.1 * 2 ^ m + p.2) / 2 ^ m = p.1 := by rw [Nat.mul_comm, Nat.mul_add_div (Nat.two_pow_pos m), Nat.div_eq_of_lt hp.2, Nat.add_zero]
  have h2 : (q.1 * 2 ^ m + q.2) / 2 ^ m = q.1 := by rw [Nat.mul_comm, Nat.mul_add_div (Nat.two_pow_pos m), Nat.div_eq_of_lt hq.2, Nat.add_zero]
  have e : p.1 = q.1 := by rw [← h1, ← h2, h]
  rw [e] at h
  exact Prod.ext e (by omega)
theorem seenB_getD {m : Nat} {L : PS} {q : Nat × Nat} (hL : ∀ p ∈ L, idD m p.1) (hq : idD m q) : (seenB m L).getD (cellN m q) false = hasG L q := by
  have hc := cellN_lt hq
  rw [List.getD_eq_getElem?_getD, seenB, List.getElem?_map, List.getElem?_range hc]
  show (L.any fun p => decide (cellN m p.1 = cellN m q)) = hasG L q
  unfold hasG
  rw [Bool.eq_iff_iff, List.any_eq_true, List.any_eq_true]
  constructor
  · rintro ⟨p, hp, h⟩; exact ⟨p, hp, by simpa using cellN_inj (hL p hp) hq (by simpa using h)⟩
  · rintro ⟨p, hp, h⟩; exact ⟨p, hp, by simp only [decide_eq_true_eq] at h ⊢; rw [h]⟩
theorem seenB_set {m : Nat} {L : PS} {q : Nat × Nat} {w : List Int} : (seenB m L).set (cellN m q) true = seenB m (L ++ [(q, w)]) := by
  refine List.ext_getElem (by simp [seenB]) fun i h1 h2 => ?_
  rw [List.getElem_set]
  simp only [seenB, List.getElem_map, List.getElem_range, List.any_append, List.any_cons, List.any_nil, Bool.or_false]
  split
  · rename_i h; simp [h]
  · rename_i h; simp [h]
theorem butV {n s : Nat} (hn : n ≤ 10) (hs : s < n) : IntKind.i64.wrap ((@HAnd.hAnd (BitVec 64) (BitVec 64) (BitVec 64) (@instHAndOfAndOp (BitVec IntKind.i64.bits) (@BitVec.instAndOp IntKind.i64.bits)) (BitVec.ofInt 64 (IntKind.i64.wrap (((2 ^ n : Nat) : Int) - 1))) (@Complement.complement (BitVec 64) (@BitVec.instComplement IntKind.i64.bits) (BitVec.ofInt 64 ((2 ^ s : Nat) : Int)))).toNat) = ((butN n s : Nat) : Int) := by
  have h : ∀ n : Fin 11, ∀ s : Fin 11, s < n → IntKind.i64.wrap ((BitVec.ofInt 64 (IntKind.i64.wrap (((2 ^ n.val : Nat) : Int) - 1)) &&& ~~~ BitVec.ofInt 64 ((2 ^ s.val : Nat) : Int)).toNat) = ((butN n.val s.val : Nat) : Int) := by decide +kernel
  exact h ⟨n, by omega⟩ ⟨s, by omega⟩ hs
theorem but_pos {n s : Nat} (hn : n ≤ 10) (h1 : 1 < n) (hs : s < n) : butN n s ≠ 0 := by
  have h : ∀ n : Fin 11, ∀ s : Fin 11, 1 < n → s < n → butN n s ≠ 0 := by decide +kernel
  exact h ⟨n, by omega⟩ ⟨s, by omega⟩ h1 hs
theorem cell_or {m q f : Nat} (h : f < 2 ^ m) : q * 2 ^ m ||| f = cellN m (q, f) := by
  unfold cellN
  rw [Nat.mul_comm, Nat.two_pow_add_eq_or_of_lt h]
def NoZ (L : PS) : Prop := ∀ p ∈ L, p.1.2 ≠ 0
theorem visG_from {σ : Type} [DecidableEq σ] {δ : σ → Nat → Option σ} {p : σ} {w : List Int} {L : List (σ × List Int)} {x : Nat} : ∀ d : Nat, ∃ t, visG δ p w (x + d) L = visG δ p w x L ++ t
  | 0 => ⟨[], by simp⟩
  | d + 1 => by
    obtain ⟨t, h⟩ := visG_from (δ := δ) (p := p) (w := w) (L := L) (x := x) d
    rw [← Nat.add_assoc]
    simp only [visG]
    cases δ p (x + d) with
    | none => exact ⟨t, h⟩
    | some q =>
      simp only
      split
      · exact ⟨t, h⟩
      · exact ⟨t ++ [(q, w ++ [((x + d : Nat) : Int)])], by rw [h, List.append_assoc]⟩
theorem k_specIdentifyingWord (n o : Int) (next out : List (List Int)) (M : Mach n o next out) (s : Nat) (hs : (s : Int) < n) :
    RowC2 Try.prog nz3n [machA n o next out, iv s] ((identQ next out n.toNat s).getD []) (if (identQ next out n.toNat s).isSome = true then 0 else 6) := by
  refine con_of mixed czju rfl (by simp) ?_
  generalize hQ : finQ _ = Q
  have n1 := M.aut.n1
  have n2 := M.aut.n2
  have l2 := M.aut.l2
  have hv : machB n o next out = true := machB_iff.2 M
  have e1 : (decide (0 ≤ (s : Int)) && decide ((s : Int) ≤ n - 1)) = true := by rw [decide_eq_true (show (0 : Int) ≤ s by omega), decide_eq_true (show (s : Int) ≤ n - 1 by omega)]; rfl
  obtain ⟨m, hm⟩ : ∃ m : Nat, n = m := ⟨n.toNat, by omega⟩
  subst hm
  simp only [Azy, Bz9y, go_sem, yz0, Int.reduceLT, reduceLE, reduceToNat, reduceNeg, Nat.reduceLT, reduceLeDiff, reduceMul, reduceSub, reduceIte, reduceEqDiff, reduceAdd, reduceCtorEq]
  intro vs vs2
  refine yzp (k_l06Ok m o next out) qCS trivial ?_
  simp only [hv, Bz9f, Bz9x, go_sem, yz0, Int.reduceLT, reduceLE, reduceToNat, reduceNeg, Nat.reduceLT, reduceLeDiff, reduceMul, reduceSub, reduceIte, reduceEqDiff, reduceAdd, reduceCtorEq]
  intro vs3
  refine yzp (k_l06State m o next out s ⟨n1, n2⟩) qCS trivial ?_
  simp only [e1, Bz9g, Bz9w, Int.toNat_natCast, go_sem, yz0, Int.reduceLT, reduceLE, reduceToNat, reduceNeg, Nat.reduceLT, reduceLeDiff, reduceMul, reduceSub, reduceIte, reduceEqDiff, reduceAdd, reduceCtorEq]
  by_cases hone : m = 1
  · have hb1 : ((m : Int) == 1) = true := by rw [hone]; rfl
    have hs0 : s = 0 := by omega
    have hid : identQ next out m s = some [] := by
      have hz : (((([((s, butN m s), [])] : PS)).getD 0 ((0, 0), [])).1.2 = 0) := by rw [hone, hs0]; rfl
      obtain ⟨t, ht⟩ := runG_pre (δ := idN next out) (m := next.length) (d := ((0, 0), ([] : List Int))) 11000 0 [((s, butN m s), [])]
      unfold identQ idL
      rw [ht, find_at (by simp) (by simp) hz]; rfl
    simp only [hb1, hid, Bz4y, Azy, ← hQ, go_sem, yz0, Int.reduceLT, reduceLE, reduceToNat, reduceNeg, Nat.reduceLT, reduceLeDiff, reduceMul, reduceSub, reduceIte, reduceEqDiff, reduceAdd, reduceCtorEq]
    intro vs4
    refine ⟨[25], by simp, by simp, by simp, ?_⟩
    simp only [range1, List.length_singleton, Option.isSome_some, Option.getD_some, if_true, Nat.not_lt_zero, range1, yzy, yz12, yz1d, yz1e, yz10, yz1f, yz1c, yz1b, yz11, yzv, yzj, yz5, yzw, yzt, yzr, yzs, yzx, yz6, yz7, yzb, yzd, yzm, yzi, yz4, yzc, yz8, yza, yzk, yzh, List.range_zero, yz2, yz3, yz9, yzu, yzn, yzq, AVal.fresh, freshL, yz1, yzl, AObj.fresh, id, Option.isSome_some, or_true, true_or, go_sem, yz0, Int.reduceLT, reduceLE, reduceToNat, reduceNeg, Nat.reduceLT, reduceLeDiff, reduceMul, reduceSub, reduceIte, reduceEqDiff, reduceAdd, reduceCtorEq]
    exact ⟨_, rfl, rfl⟩
  have hb1 : ((m : Int) == 1) = false := by simpa using (by omega : ¬ (m : Int) = 1)
  have hcm : IntKind.u64.wrap (m : Int) = m := u64w (by omega)
  have hcs : IntKind.u64.wrap (s : Int) = s := u64w (by omega)
  have g1 : ¬ (m : Int) < 0 := by omega
  have g2 : ¬ (s : Int) < 0 := by omega
  have p10 : 2 ^ m ≤ 1024 := Nat.pow_le_pow_right (n := 2) (by omega) (show m ≤ 10 by omega)
  have s1 := i_shl1 (b := m) (by omega)
  have s2 := i_shl1 (b := s) (by omega)
  have s3 := butV (n := m) (s := s) (by omega) (by omega)
  have hmm : m * 2 ^ m ≤ 10 * 1024 := Nat.mul_le_mul (by omega) p10
  have s4 := i_shl (a := m) (b := m) (by omega) (by omega)
  have hsm : s * 2 ^ m ≤ 10 * 1024 := Nat.mul_le_mul (by omega) p10
  have s5 := i_shl (a := s) (b := m) (by omega) (by omega)
  have hbt := (but_bits (n := m) (s := s) (by omega) (by omega)).1
  have s6 := i_orW (x := s * 2 ^ m) (y := butN m s) (by omega) (by omega)
  rw [cell_or hbt] at s6
  have hcl := cellN_lt (m := m) (p := (s, butN m s)) ⟨by omega, hbt⟩
  simp only [hb1, hcm, hcs, g1, g2, s1, s2, s3, Int.toNat_natCast, Bz4y, Bz9v, go_sem, yz0, Int.reduceLT, reduceLE, reduceToNat, reduceNeg, Nat.reduceLT, reduceLeDiff, reduceMul, reduceSub, reduceIte, reduceEqDiff, reduceAdd, reduceCtorEq]
  intro vs4
  simp only [Bz9u, go_sem, yz0, Int.reduceLT, reduceLE, reduceToNat, reduceNeg, Nat.reduceLT, reduceLeDiff, reduceMul, reduceSub, reduceIte, reduceEqDiff, reduceAdd, reduceCtorEq]
  refine ⟨⟨⟨_, rfl, rfl⟩, _, rfl, rfl⟩, ?_⟩
  intro vs5
  have hsb : cellN m (s, butN m s) < (List.replicate (m * 2 ^ m) false).length := by rw [List.length_replicate]; exact hcl
  simp only [Bz9t, hcm, g1, s4, bls_rep, Int.toNat_natCast, go_sem, yz0, Int.reduceLT, reduceLE, reduceToNat, reduceNeg, Nat.reduceLT, reduceLeDiff, reduceMul, reduceSub, reduceIte, reduceEqDiff, reduceAdd, reduceCtorEq]
  intro vs6
  refine ⟨⟨by omega, by omega, by omega, by omega⟩, ?_⟩
  simp only [Bz9s, hcm, g1, s5, s6, bls_len, dnL_bls, bls_set hsb, Int.toNat_natCast, go_sem, yz0, Int.reduceLT, reduceLE, reduceToNat, reduceNeg, Nat.reduceLT, reduceLeDiff, reduceMul, reduceSub, reduceIte, reduceEqDiff, reduceAdd, reduceCtorEq]
  refine ⟨⟨by omega, hsb⟩, hsb, ?_⟩
  have hs0 : (List.replicate (m * 2 ^ m) false).set (cellN m (s, butN m s)) true = seenB m [((s, butN m s), [])] := by
    rw [← seenB_nil, seenB_set (w := ([] : List Int)), List.nil_append]
  simp only [hs0, dnL_bls, Bz9r, Bz9p, go_sem, yz0, Int.reduceLT, reduceLE, reduceToNat, reduceNeg, Nat.reduceLT, reduceLeDiff, reduceMul, reduceSub, reduceIte, reduceEqDiff, reduceAdd, reduceCtorEq]
  have hz0 := but_pos (n := m) (s := s) (by omega) (by omega) (by omega)
  refine wpD_lo (fun (_, _, _, i, _) => 11000 - i)
    (fun (_, _, _, i, L) => IdI m next out s i 0 L ∧ i ≤ List.length L ∧ NoZ L ∧ runG (idN next out) next.length ((0, 0), []) (11000 - i) i L = idL next out m s)
    (fun ((va, vb, vc, i, L) : Nat × Nat × Nat × Nat × PS) => ⟨Go.Ab.L .any [(2, .ptr 2 (vs 0 0) 0), (6, .own 37 va), (7, .own 39 vb), (8, .own 46 vc), (9, iv i)],
      Go.Ab.L .gone [(2, .box (vs 0 0) [iv m, iv o, .ro none 1 (rwn next), .ro none 1 (rwn out)]), (37, .row va 1 true (rws (prs L))), (39, .row vb 1 true (rws (wds L))), (46, .row vc 1 true (bls (seenB m L)))]⟩)
    (_, _, _, 0, [((s, butN m s), [])]) ⟨⟨GI0 ⟨by omega, (but_bits (by omega) (by omega)).1⟩, by simp⟩, by simp, by intro p hp; rw [List.mem_singleton.1 hp]; exact hz0, rfl⟩ (by simp only [Bz23, dnL_bls, go_sem, yz0, Int.reduceLT, reduceLE, reduceToNat, reduceNeg, Nat.reduceLT, reduceLeDiff, reduceMul, reduceSub, reduceIte, reduceEqDiff, reduceAdd, reduceCtorEq]; try rfl) ?_
  rintro ⟨va, vb, vc, i, L⟩ ⟨hI, hi, h0, hR⟩
  have hi : i ≤ L.length := hi
  have h0 : NoZ L := h0
  have hlen := hI.len M.aut
  by_cases hlt : (i : Int) < L.length
  · have hlt1 : i < L.length := by omega
    have hm := yzo hlt1 ((0, 0), ([] : List Int))
    have hfi := hI.gi.rg _ hm
    have hwi := hI.wl _ hm
    simp only [Bz23, Bz4z, Bz9o, Bz9m, yzf, dnL_bls, decide_eq_true hlt, go_sem, yz0, Int.reduceLT, reduceLE, reduceToNat, reduceNeg, Nat.reduceLT, reduceLeDiff, reduceMul, reduceSub, reduceIte, reduceEqDiff, reduceAdd, reduceCtorEq]
    intro hM
    have hpre0 := runG_pre (δ := idN next out) (m := next.length) (d := ((0, 0), ([] : List Int))) (11000 - (i + 1)) (i + 1)
    generalize hfw : L.getD i ((0, 0), []) = fw at hm hfi hwi ⊢
    have hf10 : fw.1.2 < 1024 := Nat.lt_of_lt_of_le hfi.2 p10
    have hfm : fw.1.1 < m := hfi.1
    refine wpD_lo (fun (_, _, _, x, _) => next.length - x)
      (fun (_, _, _, x, L') => x ≤ next.length ∧ L' = visG (idN next out) fw.1 fw.2 x L ∧ NoZ L')
      (fun ((va, vb, vc, x, L') : Nat × Nat × Nat × Nat × PS) => ⟨Go.Ab.L .any [(2, .ptr 2 (vs 0 0) 0), (6, .own 37 va), (7, .own 39 vb), (8, .own 46 vc), (9, iv i), (10, iv x)],
        Go.Ab.L .gone [(2, .box (vs 0 0) [iv m, iv o, .ro none 1 (rwn next), .ro none 1 (rwn out)]), (37, .row va 1 true (rws (prs L'))), (39, .row vb 1 true (rws (wds L'))), (46, .row vc 1 true (bls (seenB m L')))]⟩)
      (_, _, _, 0, L) ⟨by simp, rfl, h0⟩ (by simp only [Bz22, yzf, dnL_bls, go_sem, yz0, Int.reduceLT, reduceLE, reduceToNat, reduceNeg, Nat.reduceLT, reduceLeDiff, reduceMul, reduceSub, reduceIte, reduceEqDiff, reduceAdd, reduceCtorEq]; try rfl) ?_
    rintro ⟨va, vb, vc, x, L'⟩ ⟨hx, rfl, hz1⟩
    have hx : x ≤ next.length := hx
    have hI' := IdI.vis M.aut hI hlt1 x hx
    obtain ⟨t', hpre⟩ := visG_pre (δ := idN next out) (p := fw.1) (w := fw.2) x L
    have hsucc := visY_succ (next := next) (out := out) (p := fw.1) (w := fw.2) (x := x) (L := L)
    rw [hfw] at hI'
    have hz : NoZ (visG (idN next out) fw.1 fw.2 x L) := hz1
    clear hz1
    generalize hV : visG (idN next out) fw.1 fw.2 x L = L' at hI' hpre hsucc hz ⊢
    have hlen' := hI'.len M.aut
    have hi2 : i < L'.length := by rw [hpre, List.length_append]; omega
    have hat : L'.getD i ((0, 0), []) = fw := by rw [hpre, appG_getD hlt1, hfw]
    have hw' := hI'.wl _ (by rw [← hat]; exact yzo hi2 _ : fw ∈ L')
    have hpl : i < (prs L').length := by simpa using hi2
    have hpg : (prs L').getD i [] = [(fw.1.1 : Int), (fw.1.2 : Int)] := by rw [prs_getD hi2, hat]
    have hwl : i < (wds L').length := by simpa using hi2
    have hwg : (wds L').getD i [] = fw.2 := by rw [← hat]; exact wordsP_getD hi2
    have k0 : 0 < [(fw.1.1 : Int), (fw.1.2 : Int)].length := by simp
    have k1 : 1 < [(fw.1.1 : Int), (fw.1.2 : Int)].length := by simp
    by_cases hxl : (x : Int) < next.length
    · have hxl1 : x < next.length := by omega
      have w1 : IntKind.i64.wrap ((x : Int) + 1) = ((x + 1 : Nat) : Int) := by rw [w64 (by omega)]; simp
      have ra := M.aut.row _ (yzo hxl1 [])
      have za : fw.1.1 < (next.getD x []).length := by omega
      have hai := ra.2 _ (yzo za 0)
      obtain ⟨q, hq'⟩ : ∃ q : Nat, (next.getD x []).getD fw.1.1 0 = q := ⟨((next.getD x []).getD fw.1.1 0).toNat, by omega⟩
      have htn : toN next fw.1.1 x = q := by unfold toN; rw [hq', Int.toNat_natCast]
      simp only [Bz22, Bz50, Bz9l, rws_getD hpl, hpg, yzf, dnL_bls, decide_eq_true hxl, go_sem, yz0, Int.reduceLT, reduceLE, reduceToNat, reduceNeg, Nat.reduceLT, reduceLeDiff, reduceMul, reduceSub, reduceIte, reduceEqDiff, reduceAdd, reduceCtorEq]
      have hon2 : othN next out fw.1.1 fw.1.2 x < 2 ^ m := oth_lt (out := out) M.aut (s := fw.1.1) hfi.2 hxl1
      have hk6 := k_l06Others m o next out M fw.1.1 fw.1.2 x (by omega) (by rw [Int.toNat_natCast]; exact hfi.2) hxl1
      rw [htn] at hsucc hk6
      intro hM3 vs7
      refine ⟨⟨by omega, hi2⟩, hi2, ⟨by omega, hi2⟩, hi2, ?_⟩
      refine yzp hk6 qCS (by simp [AVal.plain]) ?_
      generalize othN next out fw.1.1 fw.1.2 x = O at hsucc hon2 ⊢
      simp only [Bz9k, rws_getD hwl, hwg, yzf, dnL_bls, go_sem, yz0, Int.reduceLT, reduceLE, reduceToNat, reduceNeg, Nat.reduceLT, reduceLeDiff, reduceMul, reduceSub, reduceIte, reduceEqDiff, reduceAdd, reduceCtorEq]
      intro vs8
      refine ⟨⟨by omega, hi2⟩, hi2, ?_⟩
      refine call_rowI (k_l00Own fw.2 (by omega)) qCS qGN ⟨_, rfl⟩ ?_
      rintro xs v7 rfl
      simp only [yzf, dnL_bls, go_sem, yz0, Int.reduceLT, reduceLE, reduceToNat, reduceNeg, Nat.reduceLT, reduceLeDiff, reduceMul, reduceSub, reduceIte, reduceEqDiff, reduceAdd, reduceCtorEq]
      refine ⟨⟨_, rfl, rfl⟩, by omega, ?_⟩
      have hOi : idD m (q, O) := ⟨by omega, hon2⟩
      by_cases hO : O = 0
      · subst hO
        have hh : hasG L' (q, 0) = false := by
          cases h : hasG L' (q, 0) with
          | false => rfl
          | true =>
            obtain ⟨p, hp, e⟩ := hasG_iff.1 h
            exact absurd (by rw [e]) (hz p hp)
        rw [hh, Nat.zero_testBit, if_neg (by simp), if_neg (by simp)] at hsucc
        have hid : identQ next out m s = some (fw.2 ++ [(x : Int)]) := by
          obtain ⟨F, hF⟩ : ∃ F, 11000 - i = F + 1 := ⟨10999 - i, by omega⟩
          rw [hF] at hR
          simp only [runG, if_pos hlt1, hfw] at hR
          obtain ⟨t1, h1⟩ := runG_pre (δ := idN next out) (m := next.length) (d := ((0, 0), ([] : List Int))) F (i + 1) (visG (idN next out) fw.1 fw.2 next.length L)
          obtain ⟨t2, h2⟩ := visG_from (δ := idN next out) (p := fw.1) (w := fw.2) (L := L) (x := x + 1) (next.length - (x + 1))
          rw [show x + 1 + (next.length - (x + 1)) = next.length by omega, hsucc] at h2
          unfold identQ
          rw [← hR, h1, h2, List.append_assoc, find_at (i := L'.length) (by simp) (fun p hp => hz p (by rwa [List.take_left] at hp)) (by rw [lastG_getD]), lastG_getD]; rfl
        have z00 : (((0 : Nat) : Int) == 0) = true := rfl
        simp only [Bz52, Bz51, z00, hid, Azy, ← hQ, yzf, dnL_bls, go_sem, yz0, Int.reduceLT, reduceLE, reduceToNat, reduceNeg, Nat.reduceLT, reduceLeDiff, reduceMul, reduceSub, reduceIte, reduceEqDiff, reduceAdd, reduceCtorEq]
        refine ⟨[94], by simp, by simp, by simp, ?_⟩
        simp only [range1, List.length_singleton, Option.isSome_some, Option.getD_some, if_true, Nat.not_lt_zero, range1, yzy, yz12, yz1d, yz1e, yz10, yz1f, yz1c, yz1b, yz11, yzv, yzj, yz5, yzw, yzt, yzr, yzs, yzx, yz6, yz7, yzb, yzd, yzm, yzi, yz4, yzc, yz8, yza, yzk, yzh, List.range_zero, yz2, yz3, yz9, yzu, yzn, yzq, AVal.fresh, freshL, yz1, yzl, AObj.fresh, id, Option.isSome_some, or_true, true_or, go_sem, yz0, Int.reduceLT, reduceLE, reduceToNat, reduceNeg, Nat.reduceLT, reduceLeDiff, reduceMul, reduceSub, reduceIte, reduceEqDiff, reduceAdd, reduceCtorEq]
        exact ⟨_, rfl, rfl⟩
      have hO2 : (((O : Nat) : Int) == 0) = false := by simpa using (by omega : ¬ ((O : Nat) : Int) = 0)
      simp only [Bz52, Bz51, Bz9j, hO2, rws_getD hpl, hpg, yz19 hxl1, yzg za, hq', yzf, dnL_bls, go_sem, yz0, Int.reduceLT, reduceLE, reduceToNat, reduceNeg, Nat.reduceLT, reduceLeDiff, reduceMul, reduceSub, reduceIte, reduceEqDiff, reduceAdd, reduceCtorEq]
      refine ⟨⟨by omega, hxl1⟩, hxl1, ⟨by omega, hi2⟩, hi2, ⟨by omega, za⟩, za, ?_⟩
      have hct := cellN_lt hOi
      have hqm : q * 2 ^ m ≤ 10 * 1024 := Nat.mul_le_mul (by omega) p10
      have s7 := i_shl (a := q) (b := m) (by omega) (by omega)
      have s8 := i_orW (x := q * 2 ^ m) (y := O) (by omega) (by omega)
      rw [cell_or hon2] at s8
      have hsl : cellN m (q, O) < (seenB m L').length := by rw [seenB_len]; exact hct
      have hsg := seenB_getD (m := m) (L := L') (q := (q, O)) hI'.gi.rg hOi
      cases hb : O.testBit q with
      | true =>
        rw [hb, if_pos rfl] at hsucc
        simp only [Bz20, Bz1z, Bz21, w1, Bool.not_true, yzf, dnL_bls, go_sem, yz0, Int.reduceLT, reduceLE, reduceToNat, reduceNeg, Nat.reduceLT, reduceLeDiff, reduceMul, reduceSub, reduceIte, reduceEqDiff, reduceAdd, reduceCtorEq]
        exact ⟨(_, _, _, x + 1, L'), by dsimp only; omega, ⟨by dsimp only; omega, hsucc.symm, hz⟩, rfl⟩
      | false =>
        rw [hb, if_neg (by simp)] at hsucc
        cases hh : hasG L' (q, O) with
        | true =>
          rw [hh, if_pos rfl] at hsucc
          rw [hh] at hsg
          simp only [Bz20, Bz1z, Bz21, w1, hcm, g1, s7, s8, bls_len, bls_getD hsl, hsg, Int.toNat_natCast, Bool.not_true, Bool.not_false, yzf, dnL_bls, go_sem, yz0, Int.reduceLT, reduceLE, reduceToNat, reduceNeg, Nat.reduceLT, reduceLeDiff, reduceMul, reduceSub, reduceIte, reduceEqDiff, reduceAdd, reduceCtorEq]
          refine ⟨⟨by omega, hsl⟩, hsl, ?_⟩
          exact ⟨(_, _, _, x + 1, L'), by dsimp only; omega, ⟨by dsimp only; omega, hsucc.symm, hz⟩, rfl⟩
        | false =>
          rw [hh, if_neg (by simp)] at hsucc
          rw [hh] at hsg
          simp only [Bz20, Bz1z, hcm, g1, s7, s8, bls_len, bls_getD hsl, bls_set hsl, hsg, Int.toNat_natCast, Bool.not_true, Bool.not_false, yzf, dnL_bls, go_sem, yz0, Int.reduceLT, reduceLE, reduceToNat, reduceNeg, Nat.reduceLT, reduceLeDiff, reduceMul, reduceSub, reduceIte, reduceEqDiff, reduceAdd, reduceCtorEq]
          refine ⟨⟨by omega, hsl⟩, hsl, ⟨by omega, hsl⟩, hsl, ?_⟩
          simp only [Bz9i, seenB_set (w := fw.2 ++ [(x : Int)]), yzf, dnL_bls, go_sem, yz0, Int.reduceLT, reduceLE, reduceToNat, reduceNeg, Nat.reduceLT, reduceLeDiff, reduceMul, reduceSub, reduceIte, reduceEqDiff, reduceAdd, reduceCtorEq]
          intro vs9
          refine ⟨⟨⟨_, rfl, rfl⟩, _, rfl, rfl⟩, by omega, ?_⟩
          simp only [Bz9h, yzf, dnL_bls, go_sem, yz0, Int.reduceLT, reduceLE, reduceToNat, reduceNeg, Nat.reduceLT, reduceLeDiff, reduceMul, reduceSub, reduceIte, reduceEqDiff, reduceAdd, reduceCtorEq]
          intro vs10
          refine ⟨by first | omega | (simp only [List.length_map]; omega), ?_⟩
          have hws : wds L' ++ [fw.2 ++ [(x : Int)]] = wds (L' ++ [((q, O), fw.2 ++ [(x : Int)])]) := by
            simp only [wds, List.map_append, List.map_cons, List.map_nil]
          have hr2 : rws (prs L') ++ [.ro (some none) 1 [iv q, iv O]] = rws (prs (L' ++ [((q, O), fw.2 ++ [(x : Int)])])) := by
            simp [rws, prs]
          simp only [Bz21, w1, hr2, hws, yzf, dnL_bls, go_sem, yz0, Int.reduceLT, reduceLE, reduceToNat, reduceNeg, Nat.reduceLT, reduceLeDiff, reduceMul, reduceSub, reduceIte, reduceEqDiff, reduceAdd, reduceCtorEq]
          exact ⟨(_, _, _, x + 1, L' ++ [((q, O), fw.2 ++ [(x : Int)])]), by dsimp only; omega, ⟨by dsimp only; omega, hsucc.symm, fun p hp => by
            rcases List.mem_append.1 hp with h | h
            · exact hz p h
            · rw [List.mem_singleton.1 h]; exact hO⟩, rfl⟩
    · have : x = next.length := by omega
      subst this
      obtain ⟨F, hF⟩ : ∃ F, 11000 - i = F + 1 := ⟨10999 - i, by omega⟩
      have hF2 : 11000 - (i + 1) = F := by omega
      rw [hF] at hR
      simp only [runG, if_pos hlt1, hfw, hV] at hR
      have w1 : IntKind.i64.wrap ((i : Int) + 1) = ((i + 1 : Nat) : Int) := by rw [w64 (by omega)]; simp
      simp only [Bz22, Bz50, Bz9n, w1, decide_eq_false hxl, yzf, dnL_bls, go_sem, yz0, Int.reduceLT, reduceLE, reduceToNat, reduceNeg, Nat.reduceLT, reduceLeDiff, reduceMul, reduceSub, reduceIte, reduceEqDiff, reduceAdd, reduceCtorEq]
      intro _
      exact ⟨(_, _, _, i + 1, L'), by dsimp only; omega, ⟨⟨hI'.gi.succ, hI'.wl⟩, by dsimp only; omega, hz, by dsimp only; rw [hF2]; exact hR⟩, rfl⟩
  · have : i = L.length := by omega
    subst this
    have hend : identQ next out m s = none := by
      obtain ⟨F, hF⟩ : ∃ F, 11000 - L.length = F + 1 := ⟨10999 - L.length, by omega⟩
      rw [hF] at hR
      simp only [runG, Nat.lt_irrefl, if_false] at hR
      unfold identQ
      rw [← hR, List.find?_eq_none.2 fun p hp => by simpa using h0 p hp]; rfl
    simp only [Bz23, Bz4z, Bz9q, decide_eq_false hlt, Azy, hend, ← hQ, yzf, dnL_bls, go_sem, yz0, Int.reduceLT, reduceLE, reduceToNat, reduceNeg, Nat.reduceLT, reduceLeDiff, reduceMul, reduceSub, reduceIte, reduceEqDiff, reduceAdd, reduceCtorEq]
    intro _ vs7
    refine ⟨[147], by simp, by simp, by simp, ?_⟩
    simp only [range1, List.length_singleton, Option.isSome_none, Option.getD_none, Bool.false_eq_true, if_false, Nat.not_lt_zero, range1, yzy, yz12, yz1d, yz1e, yz10, yz1f, yz1c, yz1b, yz11, yzv, yzj, yz5, yzw, yzt, yzr, yzs, yzx, yz6, yz7, yzb, yzd, yzm, yzi, yz4, yzc, yz8, yza, yzk, yzh, List.range_zero, yz2, yz3, yz9, yzu, yzn, yzq, AVal.fresh, freshL, yz1, yzl, AObj.fresh, id, Option.isSome_some, or_true, true_or, go_sem, yz0, Int.reduceLT, reduceLE, reduceToNat, reduceNeg, Nat.reduceLT, reduceLeDiff, reduceMul, reduceSub, reduceIte, reduceEqDiff, reduceAdd, reduceCtorEq]
    exact ⟨_, rfl, rfl⟩
end Go.Ab
namespace Go.Ab
theorem IdI.run {n : Int} {next out : List (List Int)} {s : Nat} (A : Aut n next) : ∀ (F i : Nat) (L : PS), IdI n next out s i 0 L → ∃ i', IdI n next out s i' 0 (runG (idN next out) next.length ((0, 0), []) F i L)
  | 0, i, L, h => ⟨i, h⟩
  | F + 1, i, L, h => by
    simp only [runG]
    split
    · rename_i hi
      have h1 := IdI.vis A h hi next.length (Nat.le_refl _)
      exact IdI.run A F (i + 1) _ ⟨h1.gi.succ, h1.wl⟩
    · exact ⟨i, h⟩
theorem ident_short {n : Int} {next out : List (List Int)} (A : Aut n next) (h5 : n ≤ 5) {s : Nat} (hs : s < n.toNat) {w : List Int} (h : identQ next out n.toNat s = some w) : w.length ≤ 400 := by
  have hb := but_bits (n := n.toNat) (by omega) hs
  obtain ⟨i, hI⟩ := IdI.run (out := out) (s := s) A 11000 0 _ ⟨GI0 ⟨hs, hb.1⟩, by simp⟩
  unfold identQ idL at h
  rw [Option.map_eq_some_iff] at h
  obtain ⟨p, hp, rfl⟩ := h
  have h1 := hI.wl _ (List.mem_of_find?_eq_some hp)
  generalize runG (idN next out) next.length ((0, 0), []) 11000 0 [((s, butN n.toNat s), [])] = L at hI h1
  have h2 := nodup_lt (n.toNat * 2 ^ n.toNat) (L.map fun p => cellN n.toNat p.1) ?_ ?_
  · have h3 : n.toNat * 2 ^ n.toNat ≤ 5 * 32 := Nat.mul_le_mul (by omega) (Nat.pow_le_pow_right (n := 2) (by omega) (show n.toNat ≤ 5 by omega))
    rw [List.length_map] at h2; omega
  · have hd := hI.gi.nd
    rw [List.nodup_iff_pairwise_ne, List.pairwise_map] at hd ⊢
    refine (List.Pairwise.and_mem.1 hd).imp fun {a b} h e => ?_
    obtain ⟨ha, hb, hne⟩ := h
    exact hne (cellN_inj (hI.gi.rg a ha) (hI.gi.rg b hb) e)
  · intro x hx
    obtain ⟨p, hp2, rfl⟩ := List.mem_map.1 hx
    exact cellN_lt (hI.gi.rg p hp2)
theorem toldB_app {next out ws ts : List (List Int)} {s t : Nat} (h : toldB next out ws s t = true) : toldB next out (ws ++ ts) s t = true := by
  simp only [toldB, List.any_append, Bool.or_eq_true] at h ⊢
  exact .inl h
theorem toldB_comm {next out ws : List (List Int)} {s t : Nat} : toldB next out ws s t = toldB next out ws t s := by
  unfold toldB
  congr 1
  funext w
  rw [Bool.eq_iff_iff]
  simp only [Bool.not_eq_true', decide_eq_false_iff_not]
  exact ⟨fun h e => h e.symm, fun h e => h e.symm⟩
theorem tellI_ok {n : Int} {next out : List (List Int)} (A : Aut n next) {s : Nat} {ws : List (List Int)} : ∀ (k : Nat) (ws' : List (List Int)), s + k < n.toNat → tellI next out s k ws = some ws' → (∃ ts, ws' = ws ++ ts) ∧ ∀ j < k, toldB next out ws' s (s + 1 + j) = true
  | 0, ws', _, h => by rw [tellI] at h; cases h; exact ⟨⟨[], by simp⟩, fun j hj => by omega⟩
  | k + 1, ws', hk, h => by
    rw [tellI] at h
    cases h1 : tellI next out s k ws with
    | none => rw [h1] at h; cases h
    | some ws1 =>
      obtain ⟨⟨ts, e⟩, ih⟩ := tellI_ok A k ws1 (by omega) h1
      rw [h1] at h
      simp only at h
      cases hb : toldB next out ws1 s (s + 1 + k) with
      | true =>
        rw [hb, if_pos rfl] at h; cases h
        refine ⟨⟨ts, e⟩, fun j hj => ?_⟩
        rcases Nat.lt_succ_iff_lt_or_eq.1 hj with h | h
        · exact ih j h
        · rw [h]; exact hb
      | false =>
        rw [hb, if_neg (by simp)] at h
        cases ha : apartQ next next out out s (s + 1 + k) with
        | none => rw [ha] at h; cases h
        | some w =>
          rw [ha] at h; cases h
          obtain ⟨w1, w2, _⟩ := apartQ_first ha
          have hd : outsA next out (s : Int) w ≠ outsA next out ((s + 1 + k : Nat) : Int) w := fun e => by
            have := (outs_iff (o := 0) A w s (s + 1 + k) (by omega) (by omega) w2).1 e
            rw [w1] at this; cases this
          refine ⟨⟨ts ++ [w], by rw [e, List.append_assoc]⟩, fun j hj => ?_⟩
          rcases Nat.lt_succ_iff_lt_or_eq.1 hj with h | h
          · exact toldB_app (ih j h)
          · rw [h]
            simp only [toldB, List.any_append, List.any_cons, List.any_nil, Bool.or_eq_true]
            exact .inr (.inl (by simpa using hd))
theorem tellO_ok {n : Int} {next out : List (List Int)} (A : Aut n next) : ∀ (k : Nat) (ws : List (List Int)), k ≤ n.toNat → tellO next out n.toNat k = some ws → ∀ s t, s < k → s < t → t < n.toNat → toldB next out ws s t = true
  | 0, ws, _, h => fun s t hs => by omega
  | k + 1, ws, hk, h => by
    rw [tellO] at h
    cases h1 : tellO next out n.toNat k with
    | none => rw [h1] at h; cases h
    | some ws1 =>
      rw [h1] at h
      have ih := tellO_ok A k ws1 (by omega) h1
      obtain ⟨⟨ts, e⟩, ok⟩ := tellI_ok A _ ws (by omega) h
      intro s t hs hst ht
      rcases Nat.lt_succ_iff_lt_or_eq.1 hs with h | h
      · rw [e]; exact toldB_app (ih s t h hst ht)
      · subst h
        have := ok (t - (s + 1)) (by omega)
        rwa [show s + 1 + (t - (s + 1)) = t by omega] at this
theorem told_all {n : Int} {next out : List (List Int)} (A : Aut n next) {ws : List (List Int)} (h : tellO next out n.toNat n.toNat = some ws) {s t : Nat} (hs : s < n.toNat) (ht : t < n.toNat) (hne : t ≠ s) : toldB next out ws s t = true := by
  rcases Nat.lt_or_ge s t with hlt | hge
  · exact tellO_ok A _ ws (Nat.le_refl _) h s t hs hlt ht
  · rw [toldB_comm]; exact tellO_ok A _ ws (Nat.le_refl _) h t s ht (by omega) hs
theorem tellI_bad {next out : List (List Int)} {s : Nat} {ws : List (List Int)} : ∀ k : Nat, tellI next out s k ws = none → ∃ j, j < k ∧ apartQ next next out out s (s + 1 + j) = none
  | 0, h => by rw [tellI] at h; cases h
  | k + 1, h => by
    rw [tellI] at h
    cases h1 : tellI next out s k ws with
    | none => obtain ⟨j, hj, e⟩ := tellI_bad k h1; exact ⟨j, by omega, e⟩
    | some ws1 =>
      rw [h1] at h
      simp only at h
      split at h
      · cases h
      · cases ha : apartQ next next out out s (s + 1 + k) with
        | none => exact ⟨k, by omega, ha⟩
        | some w => rw [ha] at h; cases h
theorem tellO_bad {next out : List (List Int)} {n : Nat} : ∀ k : Nat, k ≤ n → tellO next out n k = none → ∃ s t, s < t ∧ t < n ∧ apartQ next next out out s t = none
  | 0, _, h => by rw [tellO] at h; cases h
  | k + 1, hk, h => by
    rw [tellO] at h
    cases h1 : tellO next out n k with
    | none => exact tellO_bad k (by omega) h1
    | some ws1 =>
      rw [h1] at h
      obtain ⟨j, hj, e⟩ := tellI_bad _ h
      exact ⟨k, k + 1 + j, by omega, by omega, e⟩
theorem cls_few {n : Int} {next out : List (List Int)} (A : Aut n next) {s t : Nat} (hst : s < t) (he : eqvP next out t s = true) : ∀ k : Nat, t < k → (clsP next out k).1 < k
  | 0, h => by omega
  | k + 1, h => by
    have hl := (clsP_len next out k).2.1
    simp only [clsP]
    generalize hC : clsP next out k = C at hl
    obtain ⟨c, r⟩ := C
    dsimp only at hl ⊢
    by_cases hk : t = k
    · subst hk
      have : ((List.range t).find? (eqvP next out t)).isSome = true := by
        rw [List.find?_isSome]; exact ⟨s, List.mem_range.2 hst, he⟩
      split
      · dsimp only; omega
      · rename_i hn; rw [hn] at this; cases this
    · have ih := cls_few A hst he k (by omega)
      rw [hC] at ih
      dsimp only at ih
      split
      · dsimp only; omega
      · dsimp only; omega
end Go.Ab
namespace Go.Ab
open Go.Proofs
theorem rdI {n o : Int} {next out : List (List Int)} (M : Mach n o next out) : Fn Try.prog nz16 [machA n o next out] (MachSC ((clsP next out n.toNat).1 : Int) o (redN next out n.toNat) (redU next out n.toNat)) :=
  (k_implReduceMachine n o next out).dn (machB_iff.2 M) (by rw [if_pos (machB_iff.2 M)])
theorem id_tailN (n o : Int) (next out : List (List Int)) (M : Mach n o next out) (s a b c : Nat) (hT : tellO next out n.toNat n.toNat = none) :
    wpD Try.prog Bzr (finQ fun σ => σ.tm 4 = bv true) ⟨L .any [(5, .ptr 5 a 0), (6, iv s), (11, .val (.slice none 0 0)), (12, iv 4), (137, bv false)], L .gone [(5, .box a [iv n, iv o, .own 33 b, .own 1033 c]), (33, .row b 1 true (rws next)), (1033, .row c 1 true (rws out))]⟩ := by
  have hv : machB n o next out = true := machB_iff.2 M
  have n1 := M.aut.n1
  have n2 := M.aut.n2
  have hnum := (numP_cls (out := out) M.aut n.toNat (Nat.le_refl _)).2.2.1
  have hfew : ((clsP next out n.toNat).1 : Int) < n := by
    obtain ⟨x, y, hxy, hy, he⟩ := tellO_bad n.toNat (Nat.le_refl _) hT
    have h1 : eqvP next out x y = true := by rw [eqvP, he]; rfl
    have h2 : eqvP next out y x = true := (eqvP_outs M.aut hy (by omega)).2 fun w hw => ((eqvP_outs M.aut (by omega) hy).1 h1 w hw).symm
    have := cls_few M.aut hxy h2 n.toNat hy
    omega
  have z0 : ((4 : Int) != 0) = true := rfl
  have z1 : (((numP next out n.toNat).2.length : Int) == n) = true := by rw [hnum]; simp; omega
  simp only [z0, Bzr, Bz4k, yzf, go_sem, yz0, Int.reduceLT, reduceLE, reduceToNat, reduceNeg, Nat.reduceLT, reduceLeDiff, reduceMul, reduceSub, reduceIte, reduceEqDiff, reduceAdd, reduceCtorEq]
  intro vs
  refine call_rowT (k_EquivalentStates n o next out) qCS qGN (fun _ v4 => ?_) (fun h => by rw [hv] at h; cases h)
  simp only [hv, if_true, Bz89, yzf, go_sem, yz0, Int.reduceLT, reduceLE, reduceToNat, reduceNeg, Nat.reduceLT, reduceLeDiff, reduceMul, reduceSub, reduceIte, reduceEqDiff, reduceAdd, reduceCtorEq]
  intro vs2
  refine call_machC (rdI M) qCS qGN qGN ?_
  intro v5 v6
  simp only [z1, Bz88, decide_eq_true hfew, beq_self_eq_true, yzf, go_sem, yz0, Int.reduceLT, reduceLE, reduceToNat, reduceNeg, Nat.reduceLT, reduceLeDiff, reduceMul, reduceSub, reduceIte, reduceEqDiff, reduceAdd, reduceCtorEq]
def toldT (next out ws : List (List Int)) (s t i : Nat) : Bool := decide (t = s) || toldB next out (ws.take i) s t
theorem id_tailS (n o : Int) (next out : List (List Int)) (M : Mach n o next out) (s a b c d : Nat) (hs : (s : Int) < n) (ws : List (List Int)) (hT : tellO next out n.toNat n.toNat = some ws) :
    wpD Try.prog Bzr (finQ fun σ => σ.tm 4 = bv true) ⟨L .any [(5, .ptr 5 a 0), (6, iv s), (11, .own 52 d), (12, iv 0), (137, bv false)], L .gone [(5, .box a [iv n, iv o, .own 33 b, .own 1033 c]), (33, .row b 1 true (rws next)), (52, .row d 1 true (rws ws)), (1033, .row c 1 true (rws out))]⟩ := by
  have n1 := M.aut.n1
  have n2 := M.aut.n2
  have T := TW.outer M.aut n.toNat ws (Nat.le_refl _) hT
  have hct := T.ct
  have hcl := cntW_le (next := next) (out := out) (n := n.toNat) (ws := ws)
  have z0 : ((0 : Int) != 0) = false := rfl
  simp only [z0, Bzr, Bz4k, Bz8i, Bz8g, yzf, go_sem, yz0, Int.reduceLT, reduceLE, reduceToNat, reduceNeg, Nat.reduceLT, reduceLeDiff, reduceMul, reduceSub, reduceIte, reduceEqDiff, reduceAdd, reduceCtorEq]
  refine wpD_lo (fun t => n.toNat - t) (fun t => (t : Int) ≤ n)
    (fun t : Nat => ⟨L .any [(5, .ptr 5 a 0), (6, iv s), (11, .own 52 d), (23, iv t)], L .gone [(5, .box a [iv n, iv o, .own 33 b, .own 1033 c]), (33, .row b 1 true (rws next)), (52, .row d 1 true (rws ws)), (1033, .row c 1 true (rws out))]⟩)
    0 (by simp; omega) (by simp only [Bz1r, yzf, go_sem, yz0, Int.reduceLT, reduceLE, reduceToNat, reduceNeg, Nat.reduceLT, reduceLeDiff, reduceMul, reduceSub, reduceIte, reduceEqDiff, reduceAdd, reduceCtorEq]; try rfl) ?_
  rintro t ht
  by_cases htl : (t : Int) < n
  · have w1 : IntKind.i64.wrap ((t : Int) + 1) = ((t + 1 : Nat) : Int) := by rw [w64 (by omega)]; simp
    have hts : ((t : Int) == (s : Int)) = decide (t = s) := by
      by_cases e : t = s
      · rw [decide_eq_true e, e]; simp
      · rw [decide_eq_false e]; simpa using (by omega : ¬ (t : Int) = s)
    have h0 : decide (t = s) = toldT next out ws s t 0 := by simp [toldT, toldB]
    simp only [hts, h0, decide_eq_true htl, Bz1r, Bz4l, Bz8f, Bz8d, Bz8a, yzf, go_sem, yz0, Int.reduceLT, reduceLE, reduceToNat, reduceNeg, Nat.reduceLT, reduceLeDiff, reduceMul, reduceSub, reduceIte, reduceEqDiff, reduceAdd, reduceCtorEq]
    refine wpD_lo (fun i => ws.length - i) (fun i => i ≤ ws.length)
      (fun i : Nat => ⟨L .any [(5, .ptr 5 a 0), (6, iv s), (11, .own 52 d), (23, iv t), (24, bv (toldT next out ws s t i)), (25, iv i)], L .gone [(5, .box a [iv n, iv o, .own 33 b, .own 1033 c]), (33, .row b 1 true (rws next)), (52, .row d 1 true (rws ws)), (1033, .row c 1 true (rws out))]⟩)
      0 (by simp) (by simp only [Bzq, yzf, go_sem, yz0, Int.reduceLT, reduceLE, reduceToNat, reduceNeg, Nat.reduceLT, reduceLeDiff, reduceMul, reduceSub, reduceIte, reduceEqDiff, reduceAdd, reduceCtorEq]; try rfl) ?_
    rintro i hi
    by_cases hil : (i : Int) < ws.length
    · have hil1 : i < ws.length := by omega
      have hw := T.wd _ (yzo hil1 [])
      have w2 : IntKind.i64.wrap ((i : Int) + 1) = ((i + 1 : Nat) : Int) := by have := T.len M.aut; rw [w64 (by omega)]; simp
      have hsn : toldT next out ws s t (i + 1) = (toldT next out ws s t i || !decide (outsA next out (s : Int) (ws.getD i []) = outsA next out (t : Int) (ws.getD i []))) := by
        unfold toldT; rw [toldB_snoc hil1, Bool.or_assoc]
      cases hb : toldT next out ws s t i with
      | true =>
        rw [hb, Bool.true_or] at hsn
        simp only [w2, decide_eq_true hil, Bzq, Bz1q, Bz4n, Bz4m, yzf, go_sem, yz0, Int.reduceLT, reduceLE, reduceToNat, reduceNeg, Nat.reduceLT, reduceLeDiff, reduceMul, reduceSub, reduceIte, reduceEqDiff, reduceAdd, reduceCtorEq]
        intros
        exact ⟨i + 1, by omega, by omega, by rw [hsn]⟩
      | false =>
        rw [hb, Bool.false_or] at hsn
        simp only [decide_eq_true hil, rws_getD hil1, Bzq, Bz1q, Bz4n, yzf, go_sem, yz0, Int.reduceLT, reduceLE, reduceToNat, reduceNeg, Nat.reduceLT, reduceLeDiff, reduceMul, reduceSub, reduceIte, reduceEqDiff, reduceAdd, reduceCtorEq]
        intro hM vs
        refine ⟨⟨by omega, hil1⟩, hil1, ?_⟩
        refine yzp (k_f6apart n o next out M s t ⟨by omega, hs⟩ ⟨by omega, htl⟩ (ws.getD i []) hw.1 (by have := hw.2; omega)) qCS trivial ?_
        simp only [w2, Bz4m, yzf, go_sem, yz0, Int.reduceLT, reduceLE, reduceToNat, reduceNeg, Nat.reduceLT, reduceLeDiff, reduceMul, reduceSub, reduceIte, reduceEqDiff, reduceAdd, reduceCtorEq]
        exact ⟨i + 1, by omega, by omega, by rw [hsn]⟩
    · have : i = ws.length := by omega
      subst this
      have hall : toldT next out ws s t ws.length = true := by
        unfold toldT
        by_cases e : t = s
        · rw [decide_eq_true e]; rfl
        · rw [List.take_length, told_all M.aut hT (show s < n.toNat by omega) (show t < n.toNat by omega) e]; simp
      simp only [hall, w1, decide_eq_false hil, Bool.not_true, Bzq, Bz1q, Bz8c, Bz8b, Bz8e, yzf, go_sem, yz0, Int.reduceLT, reduceLE, reduceToNat, reduceNeg, Nat.reduceLT, reduceLeDiff, reduceMul, reduceSub, reduceIte, reduceEqDiff, reduceAdd, reduceCtorEq]
      intros
      exact ⟨t + 1, by omega, by omega, rfl⟩
  · have hlt : ((ws.length : Nat) : Int) < n := by omega
    simp only [decide_eq_false htl, decide_eq_true hlt, Bz1r, Bz4l, Bz8h, yzf, go_sem, yz0, Int.reduceLT, reduceLE, reduceToNat, reduceNeg, Nat.reduceLT, reduceLeDiff, reduceMul, reduceSub, reduceIte, reduceEqDiff, reduceAdd, reduceCtorEq]
end Go.Ab
namespace Go.Ab
open Go.Proofs
abbrev SetU (P : Program) (g : FuncId) (args : List AVal) (ws : List (List Int)) (cc : Int) : Prop := Fn P g args fun rows res => ∃ v, rows = [.row v 1 true (rws ws)] ∧ res = .tup [.own 6000 v, iv cc]
theorem SetC2.dn {P : Program} {g : FuncId} {args : List AVal} {ws : List (List Int)} {cc : Int} (h : SetC2 P g args ws cc) : SetU P g args ws cc := by
  refine Con.dnr h ?_
  rintro o' r x ⟨rfl, v, ps, rfl, rfl, _, rfl⟩
  refine ⟨rfl, v, ?_, ?_⟩
  · simp only [List.map_cons, List.map_nil, AObj.dn, dnL_rwp]
  · simp only [AVal.dn, dnL]
theorem call_setU {P : Program} {pu : Bool} {σ : St} {g : FuncId} {As args : List AVal} {d : Nat} {s : Nat → Nat} {K : St → Prop} {ws : List (List Int)} {cc : Int} (h : SetU P g args ws cc)
    (hco : CoeL σ.hp [] true args As) (hg : σ.hp d = .gone) (h1 : ∀ v, K (St.put ⟨σ.tm, upd σ.hp d (.row v 1 true (rws ws))⟩ (some d) (.tup [.own d v, iv cc]))) : wpCall P pu σ g As (some d) s K := by
  refine call_fn h hco (fun _ => ⟨_, _, 0, rfl, rfl⟩) ?_
  rintro rows res ⟨v, rfl, rfl⟩
  refine ⟨by simp, ?_, ?_⟩
  · simp only [Option.getD_some, yzn]; exact hg
  · simp only [Option.getD_some, List.length_singleton, Nat.not_lt_zero, range1, yzy, yz12, yz1d, yz1e, yz10, yz1f, yz1c, yz1b, yz11, yzv, yzj, yz5, yzw, yzt, yzr, yzs, yzx, yz6, yz7, yzb, yzd, yzm, yzi, yz4, yzc, yz8, yza, yzk, yzh, List.range_zero, yz2, yz3, yz9, yzu, yzn, yzq, AVal.fresh, freshL, yz1, yzl, AObj.fresh, id, Option.isSome_some, or_true, true_or]
    exact h1 _
def allD (next out : List (List Int)) (s : Nat) (w : List Int) (k : Nat) : Bool := (List.range k).all fun t => decide (t = s) || !decide (outsA next out (s : Int) w = outsA next out (t : Int) w)
theorem allD_succ {next out : List (List Int)} {s : Nat} {w : List Int} {k : Nat} : allD next out s w (k + 1) = (allD next out s w k && (decide (k = s) || !decide (outsA next out (s : Int) w = outsA next out (k : Int) w))) := by
  simp [allD, List.range_succ]
theorem allD_iff {next out : List (List Int)} {s n : Nat} {w : List Int} : allD next out s w n = true ↔ ∀ t : Nat, t < n → t ≠ s → outsA next out (t : Int) w ≠ outsA next out (s : Int) w := by
  simp only [allD, List.all_eq_true, List.mem_range, Bool.or_eq_true, decide_eq_true_eq, Bool.not_eq_true', decide_eq_false_iff_not]
  constructor
  · intro h t ht hne e
    rcases h t ht with h1 | h1
    · exact hne h1
    · exact h1 e.symm
  · intro h t ht
    by_cases e : t = s
    · exact .inl e
    · exact .inr fun e2 => h t ht e e2.symm
theorem k_FnIdentify (code more : List Int) (hb : ∀ x ∈ code, 0 ≤ x ∧ x ≤ 255) (hb2 : ∀ x ∈ more, 0 ≤ x ∧ x ≤ 255) :
    Fun Try.prog nz87 [.ro (some (some 0)) 1 (intsK .u8 code), .ro (some (some 0)) 1 (intsK .u8 more)] (bv true) := by
  refine fun_of mixed czjp rfl ⟨rfl, trivial⟩ ?_
  simp only [Az8n, Bz8m, go_sem, yz0, Int.reduceLT, reduceLE, reduceToNat, reduceNeg, Nat.reduceLT, reduceLeDiff, reduceMul, reduceSub, reduceIte, reduceEqDiff, reduceAdd, reduceCtorEq]
  intro vs
  refine yzp (k_f6big code) qCS trivial ?_
  by_cases h1 : (code.length : Int) > 4096
  · simp only [decide_eq_true h1, Bz1p, go_sem, yz0, Int.reduceLT, reduceLE, reduceToNat, reduceNeg, Nat.reduceLT, reduceLeDiff, reduceMul, reduceSub, reduceIte, reduceEqDiff, reduceAdd, reduceCtorEq]
  simp only [decide_eq_false h1, go_sem, yz0, Int.reduceLT, reduceLE, reduceToNat, reduceNeg, Nat.reduceLT, reduceLeDiff, reduceMul, reduceSub, reduceIte, reduceEqDiff, reduceAdd, reduceCtorEq]
  refine yzp (k_f6big more) qCS trivial ?_
  by_cases h2 : (more.length : Int) > 4096
  · simp only [decide_eq_true h2, Bz1p, go_sem, yz0, Int.reduceLT, reduceLE, reduceToNat, reduceNeg, Nat.reduceLT, reduceLeDiff, reduceMul, reduceSub, reduceIte, reduceEqDiff, reduceAdd, reduceCtorEq]
  simp only [decide_eq_false h2, Bz1p, Bz8l, go_sem, yz0, Int.reduceLT, reduceLE, reduceToNat, reduceNeg, Nat.reduceLT, reduceLeDiff, reduceMul, reduceSub, reduceIte, reduceEqDiff, reduceAdd, reduceCtorEq]
  intro vs2
  refine call_sh (k_P6Machine code hb) qCS (fun e => by cases e) ?_
  rintro outs rows res ⟨rfl, n, o, next, out, v, w, M, hn5, rfl, rfl⟩
  refine ⟨rfl, by simp, by rw [Option.getD_some, yzq]; exact ⟨rfl, rfl⟩, ?_⟩
  have n1 := M.aut.n1
  have l1 := M.aut.l1
  have l2 := M.aut.l2
  have hv : machB n o next out = true := machB_iff.2 M
  simp only [Bz8k, Nat.not_lt_zero, range1, yzy, yz12, yz1d, yz1e, yz10, yz1f, yz1c, yz1b, yz11, yzv, yzj, yz5, yzw, yzt, yzr, yzs, yzx, yz6, yz7, yzb, yzd, yzm, yzi, yz4, yzc, yz8, yza, yzk, yzh, List.range_zero, yz2, yz3, yz9, yzu, yzn, yzq, AVal.fresh, freshL, yz1, yzl, AObj.fresh, id, Option.isSome_some, or_true, true_or, go_sem, yz0, Int.reduceLT, reduceLE, reduceToNat, reduceNeg, Nat.reduceLT, reduceLeDiff, reduceMul, reduceSub, reduceIte, reduceEqDiff, reduceAdd, reduceCtorEq]
  intro vs3
  refine call_funE (k_P6Pick more n hb2) qCS ⟨_, 0, rfl, by omega, by omega⟩ ?_
  rintro _ ⟨s0, rfl, hs1, hs2⟩
  obtain ⟨s, rfl⟩ : ∃ s : Nat, s0 = s := ⟨s0.toNat, by omega⟩
  have hs : (s : Int) < n := by omega
  have hsn : s < n.toNat := by omega
  have hok := ident_ok (out := out) M.aut hsn
  have hshort : ∀ w, identQ next out n.toNat s = some w → w.length ≤ 400 := fun w h => ident_short M.aut hn5 hsn h
  have hK := k_IdentifyingWord n o next out M s hs
  have hK1 := k_specIdentifyingWord n o next out M s hs
  have hK2 := k_TellingSet n o next out
  have hK3 := (k_specTellingSet n o next out).dn
  rw [hv, if_pos rfl, if_pos rfl] at hK2 hK3
  simp only [Bz8j, go_sem, yz0, Int.reduceLT, reduceLE, reduceToNat, reduceNeg, Nat.reduceLT, reduceLeDiff, reduceMul, reduceSub, reduceIte, reduceEqDiff, reduceAdd, reduceCtorEq]
  intro vs4
  cases hI : identQ next out n.toNat s with
  | none =>
    rw [hI] at hok hK hK1
    simp only [Option.getD_none, Option.isSome_none, Bool.false_eq_true, if_false] at hK1
    refine call_fn hK qCS (fun e => by cases e) ?_
    rintro rows res ⟨rfl, rfl⟩
    refine ⟨by simp, by simp, ?_⟩
    simp only [identR, Bz4p, Nat.not_lt_zero, range1, yzy, yz12, yz1d, yz1e, yz10, yz1f, yz1c, yz1b, yz11, yzv, yzj, yz5, yzw, yzt, yzr, yzs, yzx, yz6, yz7, yzb, yzd, yzm, yzi, yz4, yzc, yz8, yza, yzk, yzh, List.range_zero, yz2, yz3, yz9, yzu, yzn, yzq, AVal.fresh, freshL, yz1, yzl, AObj.fresh, id, Option.isSome_some, or_true, true_or, go_sem, yz0, Int.reduceLT, reduceLE, reduceToNat, reduceNeg, Nat.reduceLT, reduceLeDiff, reduceMul, reduceSub, reduceIte, reduceEqDiff, reduceAdd, reduceCtorEq]
    intro vs5
    refine call_rowC2 hK1 qCS qGN ?_
    intro v3
    simp only [Bz4o, go_sem, yz0, Int.reduceLT, reduceLE, reduceToNat, reduceNeg, Nat.reduceLT, reduceLeDiff, reduceMul, reduceSub, reduceIte, reduceEqDiff, reduceAdd, reduceCtorEq]
    intro vs6
    cases hT : tellO next out n.toNat n.toNat with
    | none =>
      rw [hT] at hK2 hK3
      simp only [Option.getD_none, Option.isSome_none, Bool.and_false, Bool.false_eq_true, if_false] at hK2 hK3
      refine call_fn hK2 qCS (fun e => by cases e) ?_
      rintro rows res ⟨rfl, rfl⟩
      refine ⟨by simp, by simp, ?_⟩
      simp only [Bzx, yzf, Nat.not_lt_zero, range1, yzy, yz12, yz1d, yz1e, yz10, yz1f, yz1c, yz1b, yz11, yzv, yzj, yz5, yzw, yzt, yzr, yzs, yzx, yz6, yz7, yzb, yzd, yzm, yzi, yz4, yzc, yz8, yza, yzk, yzh, List.range_zero, yz2, yz3, yz9, yzu, yzn, yzq, AVal.fresh, freshL, yz1, yzl, AObj.fresh, id, Option.isSome_some, or_true, true_or, go_sem, yz0, Int.reduceLT, reduceLE, reduceToNat, reduceNeg, Nat.reduceLT, reduceLeDiff, reduceMul, reduceSub, reduceIte, reduceEqDiff, reduceAdd, reduceCtorEq]
      intro vs7
      refine call_setU hK3 qCS qGN ?_
      intro v5
      simp only [Bzw, bne_self_eq_false, yzf, go_sem, yz0, Int.reduceLT, reduceLE, reduceToNat, reduceNeg, Nat.reduceLT, reduceLeDiff, reduceMul, reduceSub, reduceIte, reduceEqDiff, reduceAdd, reduceCtorEq]
      intro vs8
      refine yzp (k_f6ints [] []) (by simp only [List.map_nil, rwn_nil, rowIs, boxIs, coe_argN, yz1a, coe_ro_o, coeL_nil, yz18, coe_any, coe_val, coe_ro, yz16, yz17, coe_st, yz15, coe_rp, yz14, coe_clo, coe_own0, coe_ptr0, yz13, coeL_rws, coeL_rwn, L_hit, L_miss, L_nil, reduceEqDiff, ne_eq, reduceCtorEq, not_false_eq_true, true_and, and_true, and_self, exists_eq_left, exists_eq_right, List.mem_cons, List.not_mem_nil, or_false, AObj.row.injEq, AObj.box.injEq, exists_eq_left', exists_and_left, exists_eq, Nat.zero_lt_one, Nat.lt_add_one, List.map_cons, List.map_nil, AObj.ver, Nat.reduceLT, not_true_eq_false]) trivial ?_
      simp only [decide_true, Bool.not_true, yzf, go_sem, yz0, Int.reduceLT, reduceLE, reduceToNat, reduceNeg, Nat.reduceLT, reduceLeDiff, reduceMul, reduceSub, reduceIte, reduceEqDiff, reduceAdd, reduceCtorEq]
      refine yzp (k_f6rows [] []) (by simp only [List.map_nil, rwn_nil, rowIs, boxIs, coe_argN, yz1a, coe_ro_o, coeL_nil, yz18, coe_any, coe_val, coe_ro, yz16, yz17, coe_st, yz15, coe_rp, yz14, coe_clo, coe_own0, coe_ptr0, yz13, coeL_rws, coeL_rwn, L_hit, L_miss, L_nil, reduceEqDiff, ne_eq, reduceCtorEq, not_false_eq_true, true_and, and_true, and_self, exists_eq_left, exists_eq_right, List.mem_cons, List.not_mem_nil, or_false, AObj.row.injEq, AObj.box.injEq, exists_eq_left', exists_and_left, exists_eq, Nat.zero_lt_one, Nat.lt_add_one, List.map_cons, List.map_nil, AObj.ver, Nat.reduceLT, not_true_eq_false]) trivial ?_
      simp only [decide_true, Bool.not_true, Bzo, Bzv, yzf, go_sem, yz0, Int.reduceLT, reduceLE, reduceToNat, reduceNeg, Nat.reduceLT, reduceLeDiff, reduceMul, reduceSub, reduceIte, reduceEqDiff, reduceAdd, reduceCtorEq]
      intro vs9 hMl
      refine call_rowI (k_P6Word more next.length 6 hb2 (by omega) (by omega)) qCS qGN ⟨[], by simp [IsW6]⟩ ?_
      rintro u v6 hu
      simp only [Bzu, Bzt, Bzs, Bzp, yzf, go_sem, yz0, Int.reduceLT, reduceLE, reduceToNat, reduceNeg, Nat.reduceLT, reduceLeDiff, reduceMul, reduceSub, reduceIte, reduceEqDiff, reduceAdd, reduceCtorEq]
      have hul := hu.1
      refine wpD_lo (fun k => n.toNat - k) (fun k => (k : Int) ≤ n)
        (fun k : Nat => ⟨L .any [(5, .ptr 5 (vs2 2 0) 0), (6, iv s), (8, iv 6), (9, .own 47 v3), (11, .val (.slice none 0 0)), (12, iv 4), (15, .own 84 v6), (16, bv (allD next out s [] k)), (17, bv (allD next out s u k)), (18, iv k)],
          L .gone [(5, .box (vs2 2 0) [iv n, iv o, .own 33 (vs2 1 v), .own 1033 (vs2 1 w)]), (33, .row (vs2 1 v) 1 true (rws next)), (47, .row v3 1 true (ints [])), (84, .row v6 1 true (ints u)), (1033, .row (vs2 1 w) 1 true (rws out))]⟩)
        0 (by simp; omega) (by simp only [Bz0, yzf, go_sem, yz0, Int.reduceLT, reduceLE, reduceToNat, reduceNeg, Nat.reduceLT, reduceLeDiff, reduceMul, reduceSub, reduceIte, reduceEqDiff, reduceAdd, reduceCtorEq]; try rfl) ?_
      rintro k hk
      by_cases hkl : (k : Int) < n
      · have w1 : IntKind.i64.wrap ((k : Int) + 1) = ((k + 1 : Nat) : Int) := by rw [w64 (by omega)]; simp
        have f1 := k_f6apart n o next out M s k ⟨by omega, hs⟩ ⟨by omega, hkl⟩ [] (by intro x hx; cases hx) (by simp)
        have f2 := k_f6apart n o next out M s k ⟨by omega, hs⟩ ⟨by omega, hkl⟩ u hu.2 (by omega)
        have a1 := allD_succ (next := next) (out := out) (s := s) (w := []) (k := k)
        have a2 := allD_succ (next := next) (out := out) (s := s) (w := u) (k := k)
        generalize allD next out s [] k = A at a1 ⊢
        generalize allD next out s u k = U at a2 ⊢
        by_cases hts : k = s
        · have hb1 : ((k : Int) == (s : Int)) = true := by rw [hts]; simp
          rw [decide_eq_true hts, Bool.true_or, Bool.and_true] at a1 a2
          cases A <;> cases U <;>
          · simp only [hb1, w1, decide_eq_true hkl, Bz0, Bz1, Bz4, Bz2, Bz3, yzf, go_sem, yz0, Int.reduceLT, reduceLE, reduceToNat, reduceNeg, Nat.reduceLT, reduceLeDiff, reduceMul, reduceSub, reduceIte, reduceEqDiff, reduceAdd, reduceCtorEq]
            try intros
            exact ⟨k + 1, by omega, by omega, by rw [a1, a2]⟩
        · have hb1 : ((k : Int) == (s : Int)) = false := by simpa using (by omega : ¬ (k : Int) = s)
          rw [decide_eq_false hts, Bool.false_or] at a1 a2
          generalize (!decide (outsA next out (s : Int) [] = outsA next out (k : Int) [])) = D1 at a1 f1
          generalize (!decide (outsA next out (s : Int) u = outsA next out (k : Int) u)) = D2 at a2 f2
          cases A <;> cases U
          · simp only [hb1, w1, decide_eq_true hkl, Bz0, Bz1, Bz4, Bz2, Bz3, yzf, go_sem, yz0, Int.reduceLT, reduceLE, reduceToNat, reduceNeg, Nat.reduceLT, reduceLeDiff, reduceMul, reduceSub, reduceIte, reduceEqDiff, reduceAdd, reduceCtorEq]
            try intros
            exact ⟨k + 1, by omega, by omega, by rw [a1, a2]; rfl⟩
          · simp only [hb1, w1, decide_eq_true hkl, Bz0, Bz1, Bz4, Bz2, yzf, go_sem, yz0, Int.reduceLT, reduceLE, reduceToNat, reduceNeg, Nat.reduceLT, reduceLeDiff, reduceMul, reduceSub, reduceIte, reduceEqDiff, reduceAdd, reduceCtorEq]
            try intros
            refine yzp f2 qCS trivial ?_
            simp only [w1, Bz3, yzf, go_sem, yz0, Int.reduceLT, reduceLE, reduceToNat, reduceNeg, Nat.reduceLT, reduceLeDiff, reduceMul, reduceSub, reduceIte, reduceEqDiff, reduceAdd, reduceCtorEq]
            exact ⟨k + 1, by omega, by omega, by rw [a1, a2]; cases D2 <;> rfl⟩
          · simp only [hb1, w1, decide_eq_true hkl, Bz0, Bz1, Bz4, yzf, go_sem, yz0, Int.reduceLT, reduceLE, reduceToNat, reduceNeg, Nat.reduceLT, reduceLeDiff, reduceMul, reduceSub, reduceIte, reduceEqDiff, reduceAdd, reduceCtorEq]
            try intros
            refine yzp f1 qCS trivial ?_
            simp only [hb1, w1, Bz2, Bz3, yzf, go_sem, yz0, Int.reduceLT, reduceLE, reduceToNat, reduceNeg, Nat.reduceLT, reduceLeDiff, reduceMul, reduceSub, reduceIte, reduceEqDiff, reduceAdd, reduceCtorEq]
            try intros
            exact ⟨k + 1, by omega, by omega, by rw [a1, a2]; cases D1 <;> rfl⟩
          · simp only [hb1, w1, decide_eq_true hkl, Bz0, Bz1, Bz4, yzf, go_sem, yz0, Int.reduceLT, reduceLE, reduceToNat, reduceNeg, Nat.reduceLT, reduceLeDiff, reduceMul, reduceSub, reduceIte, reduceEqDiff, reduceAdd, reduceCtorEq]
            try intros
            refine yzp f1 qCS trivial ?_
            simp only [hb1, w1, Bz2, yzf, go_sem, yz0, Int.reduceLT, reduceLE, reduceToNat, reduceNeg, Nat.reduceLT, reduceLeDiff, reduceMul, reduceSub, reduceIte, reduceEqDiff, reduceAdd, reduceCtorEq]
            try intros
            refine yzp f2 qCS trivial ?_
            simp only [w1, Bz3, yzf, go_sem, yz0, Int.reduceLT, reduceLE, reduceToNat, reduceNeg, Nat.reduceLT, reduceLeDiff, reduceMul, reduceSub, reduceIte, reduceEqDiff, reduceAdd, reduceCtorEq]
            exact ⟨k + 1, by omega, by omega, by rw [a1, a2]; cases D1 <;> cases D2 <;> rfl⟩
      obtain rfl : k = n.toNat := by omega
      have tail := id_tailN n o next out M s (vs2 2 0) (vs2 1 v) (vs2 1 w) hT
      have hU : allD next out s u n.toNat = false := Bool.eq_false_iff.2 fun h => hok u hu.2 (allD_iff.1 h)
      have z0 : ((6 : Int) == 0) = false := rfl
      have z1 : ((6 : Int) != 0) = true := rfl
      simp only [hU, z0, z1, decide_eq_false hkl, Bz0, Bz1, Bza, Bz9, yzf, go_sem, yz0, Int.reduceLT, reduceLE, reduceToNat, reduceNeg, Nat.reduceLT, reduceLeDiff, reduceMul, reduceSub, reduceIte, reduceEqDiff, reduceAdd, reduceCtorEq]
      intros
      exact tail
    | some ws =>
      rw [hT] at hK2 hK3
      simp only [Option.getD_some, Option.isSome_some, Bool.true_and, if_true] at hK2 hK3
      have hK2 : SetU Try.prog nzg [machA n o next out] ws 0 := SetC2.dn (by simpa only [SetR, if_true] using hK2)
      have T := TW.outer M.aut n.toNat ws (Nat.le_refl _) hT
      have hlw := T.len M.aut
      refine call_setU hK2 qCS qGN ?_
      intro v4
      simp only [Bzx, yzf, Nat.not_lt_zero, range1, yzy, yz12, yz1d, yz1e, yz10, yz1f, yz1c, yz1b, yz11, yzv, yzj, yz5, yzw, yzt, yzr, yzs, yzx, yz6, yz7, yzb, yzd, yzm, yzi, yz4, yzc, yz8, yza, yzk, yzh, List.range_zero, yz2, yz3, yz9, yzu, yzn, yzq, AVal.fresh, freshL, yz1, yzl, AObj.fresh, id, Option.isSome_some, or_true, true_or, go_sem, yz0, Int.reduceLT, reduceLE, reduceToNat, reduceNeg, Nat.reduceLT, reduceLeDiff, reduceMul, reduceSub, reduceIte, reduceEqDiff, reduceAdd, reduceCtorEq]
      intro vs7
      refine call_setU hK3 qCS qGN ?_
      intro v5
      simp only [Bzw, bne_self_eq_false, yzf, go_sem, yz0, Int.reduceLT, reduceLE, reduceToNat, reduceNeg, Nat.reduceLT, reduceLeDiff, reduceMul, reduceSub, reduceIte, reduceEqDiff, reduceAdd, reduceCtorEq]
      intro vs8
      refine yzp (k_f6ints [] []) (by simp only [List.map_nil, rwn_nil, rowIs, boxIs, coe_argN, yz1a, coe_ro_o, coeL_nil, yz18, coe_any, coe_val, coe_ro, yz16, yz17, coe_st, yz15, coe_rp, yz14, coe_clo, coe_own0, coe_ptr0, yz13, coeL_rws, coeL_rwn, L_hit, L_miss, L_nil, reduceEqDiff, ne_eq, reduceCtorEq, not_false_eq_true, true_and, and_true, and_self, exists_eq_left, exists_eq_right, List.mem_cons, List.not_mem_nil, or_false, AObj.row.injEq, AObj.box.injEq, exists_eq_left', exists_and_left, exists_eq, Nat.zero_lt_one, Nat.lt_add_one, List.map_cons, List.map_nil, AObj.ver, Nat.reduceLT, not_true_eq_false]) trivial ?_
      simp only [decide_true, Bool.not_true, yzf, go_sem, yz0, Int.reduceLT, reduceLE, reduceToNat, reduceNeg, Nat.reduceLT, reduceLeDiff, reduceMul, reduceSub, reduceIte, reduceEqDiff, reduceAdd, reduceCtorEq]
      refine yzp (k_f6rows ws ws) (by simp only [List.map_nil, rwn_nil, rowIs, boxIs, coe_argN, yz1a, coe_ro_o, coeL_nil, yz18, coe_any, coe_val, coe_ro, yz16, yz17, coe_st, yz15, coe_rp, yz14, coe_clo, coe_own0, coe_ptr0, yz13, coeL_rws, coeL_rwn, L_hit, L_miss, L_nil, reduceEqDiff, ne_eq, reduceCtorEq, not_false_eq_true, true_and, and_true, and_self, exists_eq_left, exists_eq_right, List.mem_cons, List.not_mem_nil, or_false, AObj.row.injEq, AObj.box.injEq, exists_eq_left', exists_and_left, exists_eq, Nat.zero_lt_one, Nat.lt_add_one, List.map_cons, List.map_nil, AObj.ver, Nat.reduceLT, not_true_eq_false]) trivial ?_
      simp only [decide_true, Bool.not_true, Bzo, Bzv, yzf, go_sem, yz0, Int.reduceLT, reduceLE, reduceToNat, reduceNeg, Nat.reduceLT, reduceLeDiff, reduceMul, reduceSub, reduceIte, reduceEqDiff, reduceAdd, reduceCtorEq]
      intro vs9 hMl
      refine call_rowI (k_P6Word more next.length 6 hb2 (by omega) (by omega)) qCS qGN ⟨[], by simp [IsW6]⟩ ?_
      rintro u v6 hu
      simp only [Bzu, Bzt, Bzs, Bzp, yzf, go_sem, yz0, Int.reduceLT, reduceLE, reduceToNat, reduceNeg, Nat.reduceLT, reduceLeDiff, reduceMul, reduceSub, reduceIte, reduceEqDiff, reduceAdd, reduceCtorEq]
      have hul := hu.1
      refine wpD_lo (fun k => n.toNat - k) (fun k => (k : Int) ≤ n)
        (fun k : Nat => ⟨L .any [(5, .ptr 5 (vs2 2 0) 0), (6, iv s), (8, iv 6), (9, .own 47 v3), (11, .own 52 v4), (12, iv 0), (15, .own 84 v6), (16, bv (allD next out s [] k)), (17, bv (allD next out s u k)), (18, iv k)],
          L .gone [(5, .box (vs2 2 0) [iv n, iv o, .own 33 (vs2 1 v), .own 1033 (vs2 1 w)]), (33, .row (vs2 1 v) 1 true (rws next)), (47, .row v3 1 true (ints [])), (52, .row v4 1 true (rws ws)), (84, .row v6 1 true (ints u)), (1033, .row (vs2 1 w) 1 true (rws out))]⟩)
        0 (by simp; omega) (by simp only [Bz0, yzf, go_sem, yz0, Int.reduceLT, reduceLE, reduceToNat, reduceNeg, Nat.reduceLT, reduceLeDiff, reduceMul, reduceSub, reduceIte, reduceEqDiff, reduceAdd, reduceCtorEq]; try rfl) ?_
      rintro k hk
      by_cases hkl : (k : Int) < n
      · have w1 : IntKind.i64.wrap ((k : Int) + 1) = ((k + 1 : Nat) : Int) := by rw [w64 (by omega)]; simp
        have f1 := k_f6apart n o next out M s k ⟨by omega, hs⟩ ⟨by omega, hkl⟩ [] (by intro x hx; cases hx) (by simp)
        have f2 := k_f6apart n o next out M s k ⟨by omega, hs⟩ ⟨by omega, hkl⟩ u hu.2 (by omega)
        have a1 := allD_succ (next := next) (out := out) (s := s) (w := []) (k := k)
        have a2 := allD_succ (next := next) (out := out) (s := s) (w := u) (k := k)
        generalize allD next out s [] k = A at a1 ⊢
        generalize allD next out s u k = U at a2 ⊢
        by_cases hts : k = s
        · have hb1 : ((k : Int) == (s : Int)) = true := by rw [hts]; simp
          rw [decide_eq_true hts, Bool.true_or, Bool.and_true] at a1 a2
          cases A <;> cases U <;>
          · simp only [hb1, w1, decide_eq_true hkl, Bz0, Bz1, Bz4, Bz2, Bz3, yzf, go_sem, yz0, Int.reduceLT, reduceLE, reduceToNat, reduceNeg, Nat.reduceLT, reduceLeDiff, reduceMul, reduceSub, reduceIte, reduceEqDiff, reduceAdd, reduceCtorEq]
            try intros
            exact ⟨k + 1, by omega, by omega, by rw [a1, a2]⟩
        · have hb1 : ((k : Int) == (s : Int)) = false := by simpa using (by omega : ¬ (k : Int) = s)
          rw [decide_eq_false hts, Bool.false_or] at a1 a2
          generalize (!decide (outsA next out (s : Int) [] = outsA next out (k : Int) [])) = D1 at a1 f1
          generalize (!decide (outsA next out (s : Int) u = outsA next out (k : Int) u)) = D2 at a2 f2
          cases A <;> cases U
          · simp only [hb1, w1, decide_eq_true hkl, Bz0, Bz1, Bz4, Bz2, Bz3, yzf, go_sem, yz0, Int.reduceLT, reduceLE, reduceToNat, reduceNeg, Nat.reduceLT, reduceLeDiff, reduceMul, reduceSub, reduceIte, reduceEqDiff, reduceAdd, reduceCtorEq]
            try intros
            exact ⟨k + 1, by omega, by omega, by rw [a1, a2]; rfl⟩
          · simp only [hb1, w1, decide_eq_true hkl, Bz0, Bz1, Bz4, Bz2, yzf, go_sem, yz0, Int.reduceLT, reduceLE, reduceToNat, reduceNeg, Nat.reduceLT, reduceLeDiff, reduceMul, reduceSub, reduceIte, reduceEqDiff, reduceAdd, reduceCtorEq]
            try intros
            refine yzp f2 qCS trivial ?_
            simp only [w1, Bz3, yzf, go_sem, yz0, Int.reduceLT, reduceLE, reduceToNat, reduceNeg, Nat.reduceLT, reduceLeDiff, reduceMul, reduceSub, reduceIte, reduceEqDiff, reduceAdd, reduceCtorEq]
            exact ⟨k + 1, by omega, by omega, by rw [a1, a2]; cases D2 <;> rfl⟩
          · simp only [hb1, w1, decide_eq_true hkl, Bz0, Bz1, Bz4, yzf, go_sem, yz0, Int.reduceLT, reduceLE, reduceToNat, reduceNeg, Nat.reduceLT, reduceLeDiff, reduceMul, reduceSub, reduceIte, reduceEqDiff, reduceAdd, reduceCtorEq]
            try intros
            refine yzp f1 qCS trivial ?_
            simp only [hb1, w1, Bz2, Bz3, yzf, go_sem, yz0, Int.reduceLT, reduceLE, reduceToNat, reduceNeg, Nat.reduceLT, reduceLeDiff, reduceMul, reduceSub, reduceIte, reduceEqDiff, reduceAdd, reduceCtorEq]
            try intros
            exact ⟨k + 1, by omega, by omega, by rw [a1, a2]; cases D1 <;> rfl⟩
          · simp only [hb1, w1, decide_eq_true hkl, Bz0, Bz1, Bz4, yzf, go_sem, yz0, Int.reduceLT, reduceLE, reduceToNat, reduceNeg, Nat.reduceLT, reduceLeDiff, reduceMul, reduceSub, reduceIte, reduceEqDiff, reduceAdd, reduceCtorEq]
            try intros
            refine yzp f1 qCS trivial ?_
            simp only [hb1, w1, Bz2, yzf, go_sem, yz0, Int.reduceLT, reduceLE, reduceToNat, reduceNeg, Nat.reduceLT, reduceLeDiff, reduceMul, reduceSub, reduceIte, reduceEqDiff, reduceAdd, reduceCtorEq]
            try intros
            refine yzp f2 qCS trivial ?_
            simp only [w1, Bz3, yzf, go_sem, yz0, Int.reduceLT, reduceLE, reduceToNat, reduceNeg, Nat.reduceLT, reduceLeDiff, reduceMul, reduceSub, reduceIte, reduceEqDiff, reduceAdd, reduceCtorEq]
            exact ⟨k + 1, by omega, by omega, by rw [a1, a2]; cases D1 <;> cases D2 <;> rfl⟩
      obtain rfl : k = n.toNat := by omega
      have tail := id_tailS n o next out M s (vs2 2 0) (vs2 1 v) (vs2 1 w) v4 hs ws hT
      have hU : allD next out s u n.toNat = false := Bool.eq_false_iff.2 fun h => hok u hu.2 (allD_iff.1 h)
      have z0 : ((6 : Int) == 0) = false := rfl
      have z1 : ((6 : Int) != 0) = true := rfl
      simp only [hU, z0, z1, decide_eq_false hkl, Bz0, Bz1, Bza, Bz9, yzf, go_sem, yz0, Int.reduceLT, reduceLE, reduceToNat, reduceNeg, Nat.reduceLT, reduceLeDiff, reduceMul, reduceSub, reduceIte, reduceEqDiff, reduceAdd, reduceCtorEq]
      intros
      exact tail
  | some w2 =>
    rw [hI] at hok hK hK1
    simp only [Option.getD_some, Option.isSome_some, if_true] at hK1
    have hws := hshort w2 hI
    obtain ⟨i1, i2, i3⟩ := hok
    refine call_fn hK qCS (fun e => by cases e) ?_
    rintro rows res ⟨rfl, rfl⟩
    refine ⟨by simp, by simp, ?_⟩
    simp only [identR, Bz4p, Nat.not_lt_zero, range1, yzy, yz12, yz1d, yz1e, yz10, yz1f, yz1c, yz1b, yz11, yzv, yzj, yz5, yzw, yzt, yzr, yzs, yzx, yz6, yz7, yzb, yzd, yzm, yzi, yz4, yzc, yz8, yza, yzk, yzh, List.range_zero, yz2, yz3, yz9, yzu, yzn, yzq, AVal.fresh, freshL, yz1, yzl, AObj.fresh, id, Option.isSome_some, or_true, true_or, go_sem, yz0, Int.reduceLT, reduceLE, reduceToNat, reduceNeg, Nat.reduceLT, reduceLeDiff, reduceMul, reduceSub, reduceIte, reduceEqDiff, reduceAdd, reduceCtorEq]
    intro vs5
    refine call_rowC2 hK1 qCS qGN ?_
    intro v3
    simp only [Bz4o, go_sem, yz0, Int.reduceLT, reduceLE, reduceToNat, reduceNeg, Nat.reduceLT, reduceLeDiff, reduceMul, reduceSub, reduceIte, reduceEqDiff, reduceAdd, reduceCtorEq]
    intro vs6
    cases hT : tellO next out n.toNat n.toNat with
    | none =>
      rw [hT] at hK2 hK3
      simp only [Option.getD_none, Option.isSome_none, Bool.and_false, Bool.false_eq_true, if_false] at hK2 hK3
      refine call_fn hK2 qCS (fun e => by cases e) ?_
      rintro rows res ⟨rfl, rfl⟩
      refine ⟨by simp, by simp, ?_⟩
      simp only [Bzx, yzf, Nat.not_lt_zero, range1, yzy, yz12, yz1d, yz1e, yz10, yz1f, yz1c, yz1b, yz11, yzv, yzj, yz5, yzw, yzt, yzr, yzs, yzx, yz6, yz7, yzb, yzd, yzm, yzi, yz4, yzc, yz8, yza, yzk, yzh, List.range_zero, yz2, yz3, yz9, yzu, yzn, yzq, AVal.fresh, freshL, yz1, yzl, AObj.fresh, id, Option.isSome_some, or_true, true_or, go_sem, yz0, Int.reduceLT, reduceLE, reduceToNat, reduceNeg, Nat.reduceLT, reduceLeDiff, reduceMul, reduceSub, reduceIte, reduceEqDiff, reduceAdd, reduceCtorEq]
      intro vs7
      refine call_setU hK3 qCS qGN ?_
      intro v5
      simp only [Bzw, bne_self_eq_false, yzf, go_sem, yz0, Int.reduceLT, reduceLE, reduceToNat, reduceNeg, Nat.reduceLT, reduceLeDiff, reduceMul, reduceSub, reduceIte, reduceEqDiff, reduceAdd, reduceCtorEq]
      intro vs8
      refine yzp (k_f6ints w2 w2) (by simp only [List.map_nil, rwn_nil, rowIs, boxIs, coe_argN, yz1a, coe_ro_o, coeL_nil, yz18, coe_any, coe_val, coe_ro, yz16, yz17, coe_st, yz15, coe_rp, yz14, coe_clo, coe_own0, coe_ptr0, yz13, coeL_rws, coeL_rwn, L_hit, L_miss, L_nil, reduceEqDiff, ne_eq, reduceCtorEq, not_false_eq_true, true_and, and_true, and_self, exists_eq_left, exists_eq_right, List.mem_cons, List.not_mem_nil, or_false, AObj.row.injEq, AObj.box.injEq, exists_eq_left', exists_and_left, exists_eq, Nat.zero_lt_one, Nat.lt_add_one, List.map_cons, List.map_nil, AObj.ver, Nat.reduceLT, not_true_eq_false]) trivial ?_
      simp only [decide_true, Bool.not_true, yzf, go_sem, yz0, Int.reduceLT, reduceLE, reduceToNat, reduceNeg, Nat.reduceLT, reduceLeDiff, reduceMul, reduceSub, reduceIte, reduceEqDiff, reduceAdd, reduceCtorEq]
      refine yzp (k_f6rows [] []) (by simp only [List.map_nil, rwn_nil, rowIs, boxIs, coe_argN, yz1a, coe_ro_o, coeL_nil, yz18, coe_any, coe_val, coe_ro, yz16, yz17, coe_st, yz15, coe_rp, yz14, coe_clo, coe_own0, coe_ptr0, yz13, coeL_rws, coeL_rwn, L_hit, L_miss, L_nil, reduceEqDiff, ne_eq, reduceCtorEq, not_false_eq_true, true_and, and_true, and_self, exists_eq_left, exists_eq_right, List.mem_cons, List.not_mem_nil, or_false, AObj.row.injEq, AObj.box.injEq, exists_eq_left', exists_and_left, exists_eq, Nat.zero_lt_one, Nat.lt_add_one, List.map_cons, List.map_nil, AObj.ver, Nat.reduceLT, not_true_eq_false]) trivial ?_
      simp only [decide_true, Bool.not_true, Bzo, Bzv, yzf, go_sem, yz0, Int.reduceLT, reduceLE, reduceToNat, reduceNeg, Nat.reduceLT, reduceLeDiff, reduceMul, reduceSub, reduceIte, reduceEqDiff, reduceAdd, reduceCtorEq]
      intro vs9 hMl
      refine call_rowI (k_P6Word more next.length 6 hb2 (by omega) (by omega)) qCS qGN ⟨[], by simp [IsW6]⟩ ?_
      rintro u v6 hu
      simp only [Bzu, Bzt, Bzs, Bzp, yzf, go_sem, yz0, Int.reduceLT, reduceLE, reduceToNat, reduceNeg, Nat.reduceLT, reduceLeDiff, reduceMul, reduceSub, reduceIte, reduceEqDiff, reduceAdd, reduceCtorEq]
      have hul := hu.1
      refine wpD_lo (fun k => n.toNat - k) (fun k => (k : Int) ≤ n)
        (fun k : Nat => ⟨L .any [(5, .ptr 5 (vs2 2 0) 0), (6, iv s), (8, iv 0), (9, .own 47 v3), (11, .val (.slice none 0 0)), (12, iv 4), (15, .own 84 v6), (16, bv (allD next out s w2 k)), (17, bv (allD next out s u k)), (18, iv k)],
          L .gone [(5, .box (vs2 2 0) [iv n, iv o, .own 33 (vs2 1 v), .own 1033 (vs2 1 w)]), (33, .row (vs2 1 v) 1 true (rws next)), (47, .row v3 1 true (ints w2)), (84, .row v6 1 true (ints u)), (1033, .row (vs2 1 w) 1 true (rws out))]⟩)
        0 (by simp; omega) (by simp only [Bz0, yzf, go_sem, yz0, Int.reduceLT, reduceLE, reduceToNat, reduceNeg, Nat.reduceLT, reduceLeDiff, reduceMul, reduceSub, reduceIte, reduceEqDiff, reduceAdd, reduceCtorEq]; try rfl) ?_
      rintro k hk
      by_cases hkl : (k : Int) < n
      · have w1 : IntKind.i64.wrap ((k : Int) + 1) = ((k + 1 : Nat) : Int) := by rw [w64 (by omega)]; simp
        have f1 := k_f6apart n o next out M s k ⟨by omega, hs⟩ ⟨by omega, hkl⟩ w2 i1 (by omega)
        have f2 := k_f6apart n o next out M s k ⟨by omega, hs⟩ ⟨by omega, hkl⟩ u hu.2 (by omega)
        have a1 := allD_succ (next := next) (out := out) (s := s) (w := w2) (k := k)
        have a2 := allD_succ (next := next) (out := out) (s := s) (w := u) (k := k)
        generalize allD next out s w2 k = A at a1 ⊢
        generalize allD next out s u k = U at a2 ⊢
        by_cases hts : k = s
        · have hb1 : ((k : Int) == (s : Int)) = true := by rw [hts]; simp
          rw [decide_eq_true hts, Bool.true_or, Bool.and_true] at a1 a2
          cases A <;> cases U <;>
          · simp only [hb1, w1, decide_eq_true hkl, Bz0, Bz1, Bz4, Bz2, Bz3, yzf, go_sem, yz0, Int.reduceLT, reduceLE, reduceToNat, reduceNeg, Nat.reduceLT, reduceLeDiff, reduceMul, reduceSub, reduceIte, reduceEqDiff, reduceAdd, reduceCtorEq]
            try intros
            exact ⟨k + 1, by omega, by omega, by rw [a1, a2]⟩
        · have hb1 : ((k : Int) == (s : Int)) = false := by simpa using (by omega : ¬ (k : Int) = s)
          rw [decide_eq_false hts, Bool.false_or] at a1 a2
          generalize (!decide (outsA next out (s : Int) w2 = outsA next out (k : Int) w2)) = D1 at a1 f1
          generalize (!decide (outsA next out (s : Int) u = outsA next out (k : Int) u)) = D2 at a2 f2
          cases A <;> cases U
          · simp only [hb1, w1, decide_eq_true hkl, Bz0, Bz1, Bz4, Bz2, Bz3, yzf, go_sem, yz0, Int.reduceLT, reduceLE, reduceToNat, reduceNeg, Nat.reduceLT, reduceLeDiff, reduceMul, reduceSub, reduceIte, reduceEqDiff, reduceAdd, reduceCtorEq]
            try intros
            exact ⟨k + 1, by omega, by omega, by rw [a1, a2]; rfl⟩
          · simp only [hb1, w1, decide_eq_true hkl, Bz0, Bz1, Bz4, Bz2, yzf, go_sem, yz0, Int.reduceLT, reduceLE, reduceToNat, reduceNeg, Nat.reduceLT, reduceLeDiff, reduceMul, reduceSub, reduceIte, reduceEqDiff, reduceAdd, reduceCtorEq]
            try intros
            refine yzp f2 qCS trivial ?_
            simp only [w1, Bz3, yzf, go_sem, yz0, Int.reduceLT, reduceLE, reduceToNat, reduceNeg, Nat.reduceLT, reduceLeDiff, reduceMul, reduceSub, reduceIte, reduceEqDiff, reduceAdd, reduceCtorEq]
            exact ⟨k + 1, by omega, by omega, by rw [a1, a2]; cases D2 <;> rfl⟩
          · simp only [hb1, w1, decide_eq_true hkl, Bz0, Bz1, Bz4, yzf, go_sem, yz0, Int.reduceLT, reduceLE, reduceToNat, reduceNeg, Nat.reduceLT, reduceLeDiff, reduceMul, reduceSub, reduceIte, reduceEqDiff, reduceAdd, reduceCtorEq]
            try intros
            refine yzp f1 qCS trivial ?_
            simp only [hb1, w1, Bz2, Bz3, yzf, go_sem, yz0, Int.reduceLT, reduceLE, reduceToNat, reduceNeg, Nat.reduceLT, reduceLeDiff, reduceMul, reduceSub, reduceIte, reduceEqDiff, reduceAdd, reduceCtorEq]
            try intros
            exact ⟨k + 1, by omega, by omega, by rw [a1, a2]; cases D1 <;> rfl⟩
          · simp only [hb1, w1, decide_eq_true hkl, Bz0, Bz1, Bz4, yzf, go_sem, yz0, Int.reduceLT, reduceLE, reduceToNat, reduceNeg, Nat.reduceLT, reduceLeDiff, reduceMul, reduceSub, reduceIte, reduceEqDiff, reduceAdd, reduceCtorEq]
            try intros
            refine yzp f1 qCS trivial ?_
            simp only [hb1, w1, Bz2, yzf, go_sem, yz0, Int.reduceLT, reduceLE, reduceToNat, reduceNeg, Nat.reduceLT, reduceLeDiff, reduceMul, reduceSub, reduceIte, reduceEqDiff, reduceAdd, reduceCtorEq]
            try intros
            refine yzp f2 qCS trivial ?_
            simp only [w1, Bz3, yzf, go_sem, yz0, Int.reduceLT, reduceLE, reduceToNat, reduceNeg, Nat.reduceLT, reduceLeDiff, reduceMul, reduceSub, reduceIte, reduceEqDiff, reduceAdd, reduceCtorEq]
            exact ⟨k + 1, by omega, by omega, by rw [a1, a2]; cases D1 <;> cases D2 <;> rfl⟩
      obtain rfl : k = n.toNat := by omega
      have tail := id_tailN n o next out M s (vs2 2 0) (vs2 1 v) (vs2 1 w) hT
      have hA : allD next out s w2 n.toNat = true := allD_iff.2 i2
      have z0 : ((0 : Int) == 0) = true := rfl
      have z1 : ((0 : Int) != 0) = false := rfl
      have hU : allD next out s u n.toNat = true → befP u w2 = false := fun h => i3 u hu.2 (allD_iff.1 h)
      cases hUv : allD next out s u n.toNat with
      | false =>
        simp only [hA, z0, z1, decide_eq_false hkl, Bool.not_true, Bz0, Bz1, Bza, Bz9, yzf, go_sem, yz0, Int.reduceLT, reduceLE, reduceToNat, reduceNeg, Nat.reduceLT, reduceLeDiff, reduceMul, reduceSub, reduceIte, reduceEqDiff, reduceAdd, reduceCtorEq]
        intros
        exact tail
      | true =>
        simp only [hA, z0, z1, decide_eq_false hkl, Bool.not_true, Bz0, Bz1, Bza, yzf, go_sem, yz0, Int.reduceLT, reduceLE, reduceToNat, reduceNeg, Nat.reduceLT, reduceLeDiff, reduceMul, reduceSub, reduceIte, reduceEqDiff, reduceAdd, reduceCtorEq]
        intro vs10
        refine yzp (k_f6before u w2) qCS trivial ?_
        simp only [hU hUv, z1, Bz9, yzf, go_sem, yz0, Int.reduceLT, reduceLE, reduceToNat, reduceNeg, Nat.reduceLT, reduceLeDiff, reduceMul, reduceSub, reduceIte, reduceEqDiff, reduceAdd, reduceCtorEq]
        exact tail
    | some ws =>
      rw [hT] at hK2 hK3
      simp only [Option.getD_some, Option.isSome_some, Bool.true_and, if_true] at hK2 hK3
      have hK2 : SetU Try.prog nzg [machA n o next out] ws 0 := SetC2.dn (by simpa only [SetR, if_true] using hK2)
      have T := TW.outer M.aut n.toNat ws (Nat.le_refl _) hT
      have hlw := T.len M.aut
      refine call_setU hK2 qCS qGN ?_
      intro v4
      simp only [Bzx, yzf, Nat.not_lt_zero, range1, yzy, yz12, yz1d, yz1e, yz10, yz1f, yz1c, yz1b, yz11, yzv, yzj, yz5, yzw, yzt, yzr, yzs, yzx, yz6, yz7, yzb, yzd, yzm, yzi, yz4, yzc, yz8, yza, yzk, yzh, List.range_zero, yz2, yz3, yz9, yzu, yzn, yzq, AVal.fresh, freshL, yz1, yzl, AObj.fresh, id, Option.isSome_some, or_true, true_or, go_sem, yz0, Int.reduceLT, reduceLE, reduceToNat, reduceNeg, Nat.reduceLT, reduceLeDiff, reduceMul, reduceSub, reduceIte, reduceEqDiff, reduceAdd, reduceCtorEq]
      intro vs7
      refine call_setU hK3 qCS qGN ?_
      intro v5
      simp only [Bzw, bne_self_eq_false, yzf, go_sem, yz0, Int.reduceLT, reduceLE, reduceToNat, reduceNeg, Nat.reduceLT, reduceLeDiff, reduceMul, reduceSub, reduceIte, reduceEqDiff, reduceAdd, reduceCtorEq]
      intro vs8
      refine yzp (k_f6ints w2 w2) (by simp only [List.map_nil, rwn_nil, rowIs, boxIs, coe_argN, yz1a, coe_ro_o, coeL_nil, yz18, coe_any, coe_val, coe_ro, yz16, yz17, coe_st, yz15, coe_rp, yz14, coe_clo, coe_own0, coe_ptr0, yz13, coeL_rws, coeL_rwn, L_hit, L_miss, L_nil, reduceEqDiff, ne_eq, reduceCtorEq, not_false_eq_true, true_and, and_true, and_self, exists_eq_left, exists_eq_right, List.mem_cons, List.not_mem_nil, or_false, AObj.row.injEq, AObj.box.injEq, exists_eq_left', exists_and_left, exists_eq, Nat.zero_lt_one, Nat.lt_add_one, List.map_cons, List.map_nil, AObj.ver, Nat.reduceLT, not_true_eq_false]) trivial ?_
      simp only [decide_true, Bool.not_true, yzf, go_sem, yz0, Int.reduceLT, reduceLE, reduceToNat, reduceNeg, Nat.reduceLT, reduceLeDiff, reduceMul, reduceSub, reduceIte, reduceEqDiff, reduceAdd, reduceCtorEq]
      refine yzp (k_f6rows ws ws) (by simp only [List.map_nil, rwn_nil, rowIs, boxIs, coe_argN, yz1a, coe_ro_o, coeL_nil, yz18, coe_any, coe_val, coe_ro, yz16, yz17, coe_st, yz15, coe_rp, yz14, coe_clo, coe_own0, coe_ptr0, yz13, coeL_rws, coeL_rwn, L_hit, L_miss, L_nil, reduceEqDiff, ne_eq, reduceCtorEq, not_false_eq_true, true_and, and_true, and_self, exists_eq_left, exists_eq_right, List.mem_cons, List.not_mem_nil, or_false, AObj.row.injEq, AObj.box.injEq, exists_eq_left', exists_and_left, exists_eq, Nat.zero_lt_one, Nat.lt_add_one, List.map_cons, List.map_nil, AObj.ver, Nat.reduceLT, not_true_eq_false]) trivial ?_
      simp only [decide_true, Bool.not_true, Bzo, Bzv, yzf, go_sem, yz0, Int.reduceLT, reduceLE, reduceToNat, reduceNeg, Nat.reduceLT, reduceLeDiff, reduceMul, reduceSub, reduceIte, reduceEqDiff, reduceAdd, reduceCtorEq]
      intro vs9 hMl
      refine call_rowI (k_P6Word more next.length 6 hb2 (by omega) (by omega)) qCS qGN ⟨[], by simp [IsW6]⟩ ?_
      rintro u v6 hu
      simp only [Bzu, Bzt, Bzs, Bzp, yzf, go_sem, yz0, Int.reduceLT, reduceLE, reduceToNat, reduceNeg, Nat.reduceLT, reduceLeDiff, reduceMul, reduceSub, reduceIte, reduceEqDiff, reduceAdd, reduceCtorEq]
      have hul := hu.1
      refine wpD_lo (fun k => n.toNat - k) (fun k => (k : Int) ≤ n)
        (fun k : Nat => ⟨L .any [(5, .ptr 5 (vs2 2 0) 0), (6, iv s), (8, iv 0), (9, .own 47 v3), (11, .own 52 v4), (12, iv 0), (15, .own 84 v6), (16, bv (allD next out s w2 k)), (17, bv (allD next out s u k)), (18, iv k)],
          L .gone [(5, .box (vs2 2 0) [iv n, iv o, .own 33 (vs2 1 v), .own 1033 (vs2 1 w)]), (33, .row (vs2 1 v) 1 true (rws next)), (47, .row v3 1 true (ints w2)), (52, .row v4 1 true (rws ws)), (84, .row v6 1 true (ints u)), (1033, .row (vs2 1 w) 1 true (rws out))]⟩)
        0 (by simp; omega) (by simp only [Bz0, yzf, go_sem, yz0, Int.reduceLT, reduceLE, reduceToNat, reduceNeg, Nat.reduceLT, reduceLeDiff, reduceMul, reduceSub, reduceIte, reduceEqDiff, reduceAdd, reduceCtorEq]; try rfl) ?_
      rintro k hk
      by_cases hkl : (k : Int) < n
      · have w1 : IntKind.i64.wrap ((k : Int) + 1) = ((k + 1 : Nat) : Int) := by rw [w64 (by omega)]; simp
        have f1 := k_f6apart n o next out M s k ⟨by omega, hs⟩ ⟨by omega, hkl⟩ w2 i1 (by omega)
        have f2 := k_f6apart n o next out M s k ⟨by omega, hs⟩ ⟨by omega, hkl⟩ u hu.2 (by omega)
        have a1 := allD_succ (next := next) (out := out) (s := s) (w := w2) (k := k)
        have a2 := allD_succ (next := next) (out := out) (s := s) (w := u) (k := k)
        generalize allD next out s w2 k = A at a1 ⊢
        generalize allD next out s u k = U at a2 ⊢
        by_cases hts : k = s
        · have hb1 : ((k : Int) == (s : Int)) = true := by rw [hts]; simp
          rw [decide_eq_true hts, Bool.true_or, Bool.and_true] at a1 a2
          cases A <;> cases U <;>
          · simp only [hb1, w1, decide_eq_true hkl, Bz0, Bz1, Bz4, Bz2, Bz3, yzf, go_sem, yz0, Int.reduceLT, reduceLE, reduceToNat, reduceNeg, Nat.reduceLT, reduceLeDiff, reduceMul, reduceSub, reduceIte, reduceEqDiff, reduceAdd, reduceCtorEq]
            try intros
            exact ⟨k + 1, by omega, by omega, by rw [a1, a2]⟩
        · have hb1 : ((k : Int) == (s : Int)) = false := by simpa using (by omega : ¬ (k : Int) = s)
          rw [decide_eq_false hts, Bool.false_or] at a1 a2
          generalize (!decide (outsA next out (s : Int) w2 = outsA next out (k : Int) w2)) = D1 at a1 f1
          generalize (!decide (outsA next out (s : Int) u = outsA next out (k : Int) u)) = D2 at a2 f2
          cases A <;> cases U
          · simp only [hb1, w1, decide_eq_true hkl, Bz0, Bz1, Bz4, Bz2, Bz3, yzf, go_sem, yz0, Int.reduceLT, reduceLE, reduceToNat, reduceNeg, Nat.reduceLT, reduceLeDiff, reduceMul, reduceSub, reduceIte, reduceEqDiff, reduceAdd, reduceCtorEq]
            try intros
            exact ⟨k + 1, by omega, by omega, by rw [a1, a2]; rfl⟩
          · simp only [hb1, w1, decide_eq_true hkl, Bz0, Bz1, Bz4, Bz2, yzf, go_sem, yz0, Int.reduceLT, reduceLE, reduceToNat, reduceNeg, Nat.reduceLT, reduceLeDiff, reduceMul, reduceSub, reduceIte, reduceEqDiff, reduceAdd, reduceCtorEq]
            try intros
            refine yzp f2 qCS trivial ?_
            simp only [w1, Bz3, yzf, go_sem, yz0, Int.reduceLT, reduceLE, reduceToNat, reduceNeg, Nat.reduceLT, reduceLeDiff, reduceMul, reduceSub, reduceIte, reduceEqDiff, reduceAdd, reduceCtorEq]
            exact ⟨k + 1, by omega, by omega, by rw [a1, a2]; cases D2 <;> rfl⟩
          · simp only [hb1, w1, decide_eq_true hkl, Bz0, Bz1, Bz4, yzf, go_sem, yz0, Int.reduceLT, reduceLE, reduceToNat, reduceNeg, Nat.reduceLT, reduceLeDiff, reduceMul, reduceSub, reduceIte, reduceEqDiff, reduceAdd, reduceCtorEq]
            try intros
            refine yzp f1 qCS trivial ?_
            simp only [hb1, w1, Bz2, Bz3, yzf, go_sem, yz0, Int.reduceLT, reduceLE, reduceToNat, reduceNeg, Nat.reduceLT, reduceLeDiff, reduceMul, reduceSub, reduceIte, reduceEqDiff, reduceAdd, reduceCtorEq]
            try intros
            exact ⟨k + 1, by omega, by omega, by rw [a1, a2]; cases D1 <;> rfl⟩
          · simp only [hb1, w1, decide_eq_true hkl, Bz0, Bz1, Bz4, yzf, go_sem, yz0, Int.reduceLT, reduceLE, reduceToNat, reduceNeg, Nat.reduceLT, reduceLeDiff, reduceMul, reduceSub, reduceIte, reduceEqDiff, reduceAdd, reduceCtorEq]
            try intros
            refine yzp f1 qCS trivial ?_
            simp only [hb1, w1, Bz2, yzf, go_sem, yz0, Int.reduceLT, reduceLE, reduceToNat, reduceNeg, Nat.reduceLT, reduceLeDiff, reduceMul, reduceSub, reduceIte, reduceEqDiff, reduceAdd, reduceCtorEq]
            try intros
            refine yzp f2 qCS trivial ?_
            simp only [w1, Bz3, yzf, go_sem, yz0, Int.reduceLT, reduceLE, reduceToNat, reduceNeg, Nat.reduceLT, reduceLeDiff, reduceMul, reduceSub, reduceIte, reduceEqDiff, reduceAdd, reduceCtorEq]
            exact ⟨k + 1, by omega, by omega, by rw [a1, a2]; cases D1 <;> cases D2 <;> rfl⟩
      obtain rfl : k = n.toNat := by omega
      have tail := id_tailS n o next out M s (vs2 2 0) (vs2 1 v) (vs2 1 w) v4 hs ws hT
      have hA : allD next out s w2 n.toNat = true := allD_iff.2 i2
      have z0 : ((0 : Int) == 0) = true := rfl
      have z1 : ((0 : Int) != 0) = false := rfl
      have hU : allD next out s u n.toNat = true → befP u w2 = false := fun h => i3 u hu.2 (allD_iff.1 h)
      cases hUv : allD next out s u n.toNat with
      | false =>
        simp only [hA, z0, z1, decide_eq_false hkl, Bool.not_true, Bz0, Bz1, Bza, Bz9, yzf, go_sem, yz0, Int.reduceLT, reduceLE, reduceToNat, reduceNeg, Nat.reduceLT, reduceLeDiff, reduceMul, reduceSub, reduceIte, reduceEqDiff, reduceAdd, reduceCtorEq]
        intros
        exact tail
      | true =>
        simp only [hA, z0, z1, decide_eq_false hkl, Bool.not_true, Bz0, Bz1, Bza, yzf, go_sem, yz0, Int.reduceLT, reduceLE, reduceToNat, reduceNeg, Nat.reduceLT, reduceLeDiff, reduceMul, reduceSub, reduceIte, reduceEqDiff, reduceAdd, reduceCtorEq]
        intro vs10
        refine yzp (k_f6before u w2) qCS trivial ?_
        simp only [hU hUv, z1, Bz9, yzf, go_sem, yz0, Int.reduceLT, reduceLE, reduceToNat, reduceNeg, Nat.reduceLT, reduceLeDiff, reduceMul, reduceSub, reduceIte, reduceEqDiff, reduceAdd, reduceCtorEq]
        exact tail
end Go.Ab
