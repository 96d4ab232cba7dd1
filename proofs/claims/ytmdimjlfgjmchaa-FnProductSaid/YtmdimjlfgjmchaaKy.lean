/- Contracts: sets as bits. Conditions: none. -/
import Derived.Test.YtmdimjlfgjmchaaPc
set_option linter.all false
namespace Go.Ab
open Go.Proofs
set_option maxRecDepth 20000
set_option maxHeartbeats 1000000

abbrev fv (f : Nat) : AVal := .val (.int .u64 (f : Int))

theorem u64w {n : Nat} (h : n < 18446744073709551616) : IntKind.u64.wrap (n : Int) = n := IntWalk.u64_in _ (by omega)
theorem bv64 {x : Nat} (h : x < 18446744073709551616) : (BitVec.ofInt 64 (x : Int)).toNat = x := by
  rw [BitVec.ofInt_natCast, BitVec.toNat_ofNat, Nat.mod_eq_of_lt h]
theorem u_or {x y : Nat} (hx : x < 18446744073709551616) (hy : y < 18446744073709551616) :
    IntKind.u64.wrap ((BitVec.ofInt 64 (x : Int) ||| BitVec.ofInt 64 (y : Int)).toNat) = ((x ||| y : Nat) : Int) := by
  have h : (BitVec.ofInt 64 (x : Int) ||| BitVec.ofInt 64 (y : Int)).toNat = x ||| y := by rw [BitVec.toNat_or, bv64 hx, bv64 hy]
  show IntKind.u64.wrap ((BitVec.ofInt 64 (x : Int) ||| BitVec.ofInt 64 (y : Int)).toNat : Int) = _
  rw [h]; exact u64w (Nat.or_lt_two_pow (n := 64) hx hy)
theorem u_and {x y : Nat} (hx : x < 18446744073709551616) (hy : y < 18446744073709551616) :
    IntKind.u64.wrap ((BitVec.ofInt 64 (x : Int) &&& BitVec.ofInt 64 (y : Int)).toNat) = ((x &&& y : Nat) : Int) := by
  have h : (BitVec.ofInt 64 (x : Int) &&& BitVec.ofInt 64 (y : Int)).toNat = x &&& y := by rw [BitVec.toNat_and, bv64 hx, bv64 hy]
  show IntKind.u64.wrap ((BitVec.ofInt 64 (x : Int) &&& BitVec.ofInt 64 (y : Int)).toNat : Int) = _
  rw [h]; exact u64w (Nat.lt_of_le_of_lt Nat.and_le_left hx)
/-- As the walk writes it. -/
theorem u_and1 {x : Nat} (hx : x < 18446744073709551616) :
    IntKind.u64.wrap ((@HAnd.hAnd (BitVec 64) (BitVec 64) (BitVec 64) (@instHAndOfAndOp (BitVec IntKind.u64.bits) (@BitVec.instAndOp IntKind.u64.bits)) (BitVec.ofInt 64 (x : Int)) (BitVec.ofInt 64 1)).toNat) = ((x &&& 1 : Nat) : Int) := u_and (y := 1) hx (by omega)
theorem u_andW {x y : Nat} (hx : x < 18446744073709551616) (hy : y < 18446744073709551616) :
    IntKind.u64.wrap ((@HAnd.hAnd (BitVec 64) (BitVec 64) (BitVec 64) (@instHAndOfAndOp (BitVec IntKind.u64.bits) (@BitVec.instAndOp IntKind.u64.bits)) (BitVec.ofInt 64 (x : Int)) (BitVec.ofInt 64 (y : Int))).toNat) = ((x &&& y : Nat) : Int) := u_and hx hy
theorem u_orW {x y : Nat} (hx : x < 18446744073709551616) (hy : y < 18446744073709551616) :
    IntKind.u64.wrap ((@HOr.hOr (BitVec 64) (BitVec 64) (BitVec 64) (@instHOrOfOrOp (BitVec IntKind.u64.bits) (@BitVec.instOrOp IntKind.u64.bits)) (BitVec.ofInt 64 (x : Int)) (BitVec.ofInt 64 (y : Int))).toNat) = ((x ||| y : Nat) : Int) := u_or hx hy
theorem u_shl {b : Nat} (h : b < 64) : IntKind.u64.wrap (1 * 2 ^ min b 64) = ((2 ^ b : Nat) : Int) := by
  have h1 : min b 64 = b := by omega
  have h2 : (2 : Int) ^ b = ((2 ^ b : Nat) : Int) := by simp
  rw [h1, Int.one_mul, h2]
  exact u64w (Nat.pow_lt_pow_right (a := 2) (n := 64) (by omega) h)
theorem u_shr {f s : Nat} (h : s ≤ 64) : ((f : Int)).fdiv (2 ^ min s 64) = ((f >>> s : Nat) : Int) := by
  have h1 : min s 64 = s := by omega
  have h2 : (2 : Int) ^ s = ((2 ^ s : Nat) : Int) := by simp
  rw [h1, h2, Nat.shiftRight_eq_div_pow, Int.fdiv_eq_ediv_of_nonneg _ (Int.natCast_nonneg _)]
  rfl

def bitsTo (f s : Nat) : List Int := ((List.range s).filter fun k => f.testBit k).map fun (k : Nat) => (k : Int)
theorem bitsTo_succ {f s : Nat} : bitsTo f (s + 1) = if f.testBit s = true then bitsTo f s ++ [(s : Int)] else bitsTo f s := by
  unfold bitsTo
  rw [List.range_succ, List.filter_append]
  cases h : f.testBit s with
  | true => simp [h]
  | false => simp [h]
theorem bitsTo_len {f s : Nat} : (bitsTo f s).length ≤ s := by
  unfold bitsTo
  rw [List.length_map]
  have := List.length_filter_le (fun k => f.testBit k) (List.range s)
  rw [List.length_range] at this; exact this
theorem bitsTo_add {f s : Nat} (h : f < 2 ^ s) : ∀ d, bitsTo f (s + d) = bitsTo f s
  | 0 => rfl
  | d + 1 => by
    rw [show s + (d + 1) = s + d + 1 by omega, bitsTo_succ, Nat.testBit_lt_two_pow (Nat.lt_of_lt_of_le h (Nat.pow_le_pow_right (by omega) (by omega))), if_neg (by simp), bitsTo_add h d]
theorem dec_beqN {a k : Nat} : decide (a = k) = Nat.beq a k := by
  rw [Bool.eq_iff_iff, decide_eq_true_iff, Nat.beq_eq]
theorem shr_zero {f s : Nat} : f >>> s = 0 ↔ f < 2 ^ s := by
  rw [Nat.shiftRight_eq_div_pow, Nat.div_eq_zero_iff]
  have := Nat.two_pow_pos s
  omega

theorem k_flock_set (f : Nat) (h : f < 1024) : RowI Try.prog n_impl_flock_set [fv f] (fun ys => ys = bitsTo f 10) := by
  refine rowI_of mixed c_impl_flock_set rfl ?_
  simp only [A_impl_flock_set, B_impl_flock_set_1, B_impl_flock_set_2, B_impl_flock_set_3, go_sem, adopt_fun, Int.reduceLT, Int.reduceLE, Int.reduceToNat, Int.reduceNeg, Nat.reduceLT, Nat.reduceLeDiff, Nat.reduceMul, Nat.reduceSub, reduceIte, Nat.reduceEqDiff, Nat.reduceAdd, reduceCtorEq]
  intro vs
  refine wpD_lo (fun (_, s) => 10 - s) (fun (_, s) => s ≤ 10) (fun ((v, s) : Nat × Nat) => ⟨L .any [(0, fv f), (3, .own 5 v), (4, iv s)], L .gone [(5, .row v 1 true (ints (bitsTo f s)))]⟩)
    (_, 0) (by simp) (by simp only [B_impl_flock_set_4, go_sem, adopt_fun, Int.reduceLT, Int.reduceLE, Int.reduceToNat, Int.reduceNeg, Nat.reduceLT, Nat.reduceLeDiff, Nat.reduceMul, Nat.reduceSub, reduceIte, Nat.reduceEqDiff, Nat.reduceAdd, reduceCtorEq]; try rfl) ?_
  rintro ⟨v, s⟩ hs
  have hs : s ≤ 10 := hs
  have hs0 : ¬ ((s : Nat) : Int) < 0 := by omega
  have hsh := u_shr (f := f) (s := s) (by omega)
  have hlt : f >>> s < 18446744073709551616 := by rw [Nat.shiftRight_eq_div_pow]; exact Nat.lt_of_le_of_lt (Nat.div_le_self _ _) (by omega)
  by_cases hz : (0 : Int) < ((f >>> s : Nat) : Int)
  · have hs10 : s < 10 := by
      by_cases e : s < 10
      · exact e
      · have : f >>> s = 0 := shr_zero.2 (Nat.lt_of_lt_of_le (show f < 2 ^ 10 from h) (Nat.pow_le_pow_right (by omega) (by omega)))
        omega
    have hand := u_and1 hlt
    have hbit : ((((f >>> s &&& 1 : Nat) : Int)) == 1) = f.testBit s := by
      rw [Nat.testBit_eq_decide_div_mod_eq, Nat.and_one_is_mod, Nat.shiftRight_eq_div_pow, Bool.eq_iff_iff, beq_iff_eq, decide_eq_true_iff]
      generalize f / 2 ^ s % 2 = q
      omega
    have w1 : IntKind.i64.wrap ((s : Int) + 1) = ((s + 1 : Nat) : Int) := by rw [w64 (by omega)]; simp
    cases hb : f.testBit s with
    | true =>
      rw [hb] at hbit
      have hr : bitsTo f s ++ [(s : Int)] = bitsTo f (s + 1) := by rw [bitsTo_succ, if_pos hb]
      have hl := bitsTo_len (f := f) (s := s)
      simp only [B_impl_flock_set_4, B_impl_flock_set_5, B_impl_flock_set_6, B_impl_flock_set_7, B_impl_flock_set_8, hs0, hsh, hand, hbit, w1, hr, decide_eq_true hz, go_sem, adopt_fun, Int.reduceLT, Int.reduceLE, Int.reduceToNat, Int.reduceNeg, Nat.reduceLT, Nat.reduceLeDiff, Nat.reduceMul, Nat.reduceSub, reduceIte, Nat.reduceEqDiff, Nat.reduceAdd, reduceCtorEq]
      intro vs2
      exact ⟨⟨_, rfl, rfl⟩, by omega, (_, s + 1), by dsimp only; omega, by dsimp only; omega, rfl⟩
    | false =>
      rw [hb] at hbit
      have hr : bitsTo f s = bitsTo f (s + 1) := by rw [bitsTo_succ, if_neg (by simp [hb])]
      simp only [B_impl_flock_set_4, B_impl_flock_set_5, B_impl_flock_set_6, B_impl_flock_set_7, B_impl_flock_set_8, hs0, hsh, hand, hbit, w1, decide_eq_true hz, go_sem, adopt_fun, Int.reduceLT, Int.reduceLE, Int.reduceToNat, Int.reduceNeg, Nat.reduceLT, Nat.reduceLeDiff, Nat.reduceMul, Nat.reduceSub, reduceIte, Nat.reduceEqDiff, Nat.reduceAdd, reduceCtorEq]
      refine ⟨(v, s + 1), by dsimp only; omega, by dsimp only; omega, ?_⟩
      dsimp only
      rw [← hr]
  · have he : bitsTo f 10 = bitsTo f s := by
      have h1 : f >>> s = 0 := Nat.eq_zero_of_not_pos fun e => hz (Int.natCast_pos.2 e)
      have h2 := bitsTo_add (shr_zero.1 h1) (10 - s)
      rw [show s + (10 - s) = 10 by omega] at h2; exact h2
    simp only [B_impl_flock_set_4, B_impl_flock_set_5, B_impl_flock_set_6, B_impl_flock_set_9, hs0, hsh, decide_eq_false hz, he, go_sem, adopt_fun, Int.reduceLT, Int.reduceLE, Int.reduceToNat, Int.reduceNeg, Nat.reduceLT, Nat.reduceLeDiff, Nat.reduceMul, Nat.reduceSub, reduceIte, Nat.reduceEqDiff, Nat.reduceAdd, reduceCtorEq]
    exact ⟨5, v, _, by omega, rfl, by simp only [go_sem, adopt_fun, Int.reduceLT, Int.reduceLE, Int.reduceToNat, Int.reduceNeg, Nat.reduceLT, Nat.reduceLeDiff, Nat.reduceMul, Nat.reduceSub, reduceIte, Nat.reduceEqDiff, Nat.reduceAdd, reduceCtorEq], rfl⟩

theorem getD_snoc {α β : Type} (xs : List α) (g : β → α → β) (o : β) (d : α) {i : Nat} (h : i < xs.length) : g ((xs.take i).foldl g o) (xs.getD i d) = (xs.take (i + 1)).foldl g o := by
  rw [List.take_succ_eq_append_getElem h, List.foldl_append, List.getD_eq_getElem?_getD, List.getElem?_eq_getElem h]; rfl

theorem maskN_lt {set : List Int} (h : ∀ s ∈ set, 0 ≤ s ∧ s < 10) : maskN set < 1024 := fold_lt (fun s : Int => s.toNat) set 0 (fun x hx => by have := h x hx; omega) (by omega)

theorem k_flockOf (set : List Int) (h : ∀ s ∈ set, 0 ≤ s ∧ s < 10) : Fun Try.prog n_impl_flockOf [.ro none 1 (ints set)] (fv (maskN set)) := by
  refine fun_of mixed c_impl_flockOf rfl ⟨rfl, trivial⟩ ?_
  simp only [A_impl_flockOf, B_impl_flockOf_1, B_impl_flockOf_2, B_impl_flockOf_3, go_sem, adopt_fun, Int.reduceLT, Int.reduceLE, Int.reduceToNat, Int.reduceNeg, Nat.reduceLT, Nat.reduceLeDiff, Nat.reduceMul, Nat.reduceSub, reduceIte, Nat.reduceEqDiff, Nat.reduceAdd, reduceCtorEq]
  intro hM
  have hM2 := maxLen_le
  refine wpD_lo (fun i => set.length - i) (fun i => i ≤ set.length)
    (fun i : Nat => ⟨L .any [(3, fv (maskN (set.take i))), (6, .ro none 1 (ints set)), (7, iv set.length), (8, iv i)], L .gone []⟩) 0 (by simp) (by simp only [B_impl_flockOf_4, go_sem, adopt_fun, Int.reduceLT, Int.reduceLE, Int.reduceToNat, Int.reduceNeg, Nat.reduceLT, Nat.reduceLeDiff, Nat.reduceMul, Nat.reduceSub, reduceIte, Nat.reduceEqDiff, Nat.reduceAdd, reduceCtorEq]; try rfl) ?_
  rintro i hi
  by_cases hlt : (i : Int) < set.length
  · have hlt1 : i < set.length := by omega
    have hs := h _ (getD_mem hlt1 0)
    have hs0 : ¬ set.getD i 0 < 0 := by omega
    have h1 := maskN_lt (set := set.take i) (fun s hs => h s (List.mem_of_mem_take hs))
    have h2 := pow_lt10 (k := (set.getD i 0).toNat) (by omega)
    have hsl := u_shl (b := (set.getD i 0).toNat) (by omega)
    have hor := u_orW (x := maskN (set.take i)) (y := 2 ^ (set.getD i 0).toNat) (by omega) (by omega)
    have hr : maskN (set.take i) ||| 2 ^ (set.getD i 0).toNat = maskN (set.take (i + 1)) := getD_snoc set (fun o s => o ||| 2 ^ s.toNat) 0 0 hlt1
    simp only [B_impl_flockOf_4, B_impl_flockOf_5, B_impl_flockOf_6, B_impl_flockOf_7, B_impl_flockOf_8, intsK_getD hlt1, hs0, hsl, hor, hr, nat1 i _ hlt1 hM, decide_eq_true hlt, go_sem, adopt_fun, Int.reduceLT, Int.reduceLE, Int.reduceToNat, Int.reduceNeg, Nat.reduceLT, Nat.reduceLeDiff, Nat.reduceMul, Nat.reduceSub, reduceIte, Nat.reduceEqDiff, Nat.reduceAdd, reduceCtorEq]
    exact ⟨⟨by omega, hlt1⟩, hlt1, i + 1, by omega, by omega, rfl⟩
  · have : i = set.length := by omega
    subst this
    simp only [B_impl_flockOf_4, B_impl_flockOf_5, B_impl_flockOf_6, B_impl_flockOf_9, decide_eq_false hlt, List.take_length, go_sem, adopt_fun, Int.reduceLT, Int.reduceLE, Int.reduceToNat, Int.reduceNeg, Nat.reduceLT, Nat.reduceLeDiff, Nat.reduceMul, Nat.reduceSub, reduceIte, Nat.reduceEqDiff, Nat.reduceAdd, reduceCtorEq]

theorem k_isSmall (f : Nat) (h : f < 1024) : Fun Try.prog n_impl_isSmall [fv f] (bv (smallN f)) := by
  refine fun_of mixed c_impl_isSmall rfl ⟨rfl, trivial⟩ ?_
  by_cases h0 : f = 0
  · subst h0
    simp only [A_impl_isSmall, B_impl_isSmall_1, go_sem, adopt_fun, Int.reduceLT, Int.reduceLE, Int.reduceToNat, Int.reduceNeg, Nat.reduceLT, Nat.reduceLeDiff, Nat.reduceMul, Nat.reduceSub, reduceIte, Nat.reduceEqDiff, Nat.reduceAdd, reduceCtorEq]
    rfl
  · have e : IntKind.u64.wrap ((f : Int) - 1) = ((f - 1 : Nat) : Int) := by rw [show (f : Int) - 1 = ((f - 1 : Nat) : Int) by omega]; exact u64w (by omega)
    have hand := u_andW (x := f) (y := f - 1) (by omega) (by omega)
    have hb : ((((f &&& (f - 1) : Nat)) : Int) == 0) = smallN f := by
      unfold smallN
      rw [← dec_beqN, Bool.eq_iff_iff, beq_iff_eq, decide_eq_true_iff]; omega
    simp only [A_impl_isSmall, B_impl_isSmall_1, e, hand, hb, go_sem, adopt_fun, Int.reduceLT, Int.reduceLE, Int.reduceToNat, Int.reduceNeg, Nat.reduceLT, Nat.reduceLeDiff, Nat.reduceMul, Nat.reduceSub, reduceIte, Nat.reduceEqDiff, Nat.reduceAdd, reduceCtorEq]

theorem k_IndexFuncF (xs : List Nat) (g : FuncId) (caps : List AVal) (p : Nat → Bool) (hc : Caps caps) (h : ∀ x ∈ xs, Fun Try.prog g (fv x :: caps) (bv (p x))) :
    Fun Try.prog n_slices_IndexFunc_Lflock [.ro none 1 (intsK .u64 (xs.map fun (x : Nat) => (x : Int))), .clo g caps] (iv (fidx p xs 0)) := by
  refine fun_of mixed c_slices_IndexFunc_Lflock rfl ⟨rfl, trivial⟩ ?_
  simp only [A_slices_IndexFunc_Lflock, B_slices_IndexFunc_Lflock_1, hc.dn, go_sem, adopt_fun, Int.reduceLT, Int.reduceLE, Int.reduceToNat, Int.reduceNeg, Nat.reduceLT, Nat.reduceLeDiff, Nat.reduceMul, Nat.reduceSub, reduceIte, Nat.reduceEqDiff, Nat.reduceAdd, reduceCtorEq]
  intro hM
  have hM2 := maxLen_le
  have hM : (xs.length : Int) ≤ maxLen := by simpa using hM
  simp only [B_slices_IndexFunc_Lflock_2, hc.dn, go_sem, adopt_fun, Int.reduceLT, Int.reduceLE, Int.reduceToNat, Int.reduceNeg, Nat.reduceLT, Nat.reduceLeDiff, Nat.reduceMul, Nat.reduceSub, reduceIte, Nat.reduceEqDiff, Nat.reduceAdd, reduceCtorEq]
  refine wpD_lo (fun i => xs.length - i) (fun i => i ≤ xs.length ∧ fidx p (xs.drop i) i = fidx p xs 0)
    (fun i : Nat => ⟨L .any [(0, .ro none 1 (intsK .u64 (xs.map fun (x : Nat) => (x : Int)))), (1, .clo g caps), (7, iv xs.length), (8, iv i)], L .gone []⟩) 0 (by simp) (by simp only [B_slices_IndexFunc_Lflock_3, hc.dn, go_sem, adopt_fun, Int.reduceLT, Int.reduceLE, Int.reduceToNat, Int.reduceNeg, Nat.reduceLT, Nat.reduceLeDiff, Nat.reduceMul, Nat.reduceSub, reduceIte, Nat.reduceEqDiff, Nat.reduceAdd, reduceCtorEq]; try rfl) ?_
  rintro i ⟨hi, he⟩
  by_cases hlt : (i : Int) < xs.length
  · have hlt' : i < xs.length := by omega
    have hlm : i < (xs.map fun (x : Nat) => (x : Int)).length := by simpa using hlt'
    have hg : (xs.map fun (x : Nat) => (x : Int)).getD i 0 = ((xs.getD i 0 : Nat) : Int) := by
      rw [List.getD_eq_getElem?_getD, List.getElem?_map, List.getElem?_eq_getElem hlt', List.getD_eq_getElem?_getD, List.getElem?_eq_getElem hlt']; rfl
    have w1 : IntKind.i64.wrap ((i : Int) + 1) = ((i + 1 : Nat) : Int) := by rw [w64 (by omega)]; simp
    rw [drop_getD hlt' 0] at he
    simp only [fidx] at he
    simp only [B_slices_IndexFunc_Lflock_3, B_slices_IndexFunc_Lflock_4, B_slices_IndexFunc_Lflock_5, B_slices_IndexFunc_Lflock_6, intsK_getD hlm, hg, decide_eq_true hlt, hc.dn, go_sem, adopt_fun, Int.reduceLT, Int.reduceLE, Int.reduceToNat, Int.reduceNeg, Nat.reduceLT, Nat.reduceLeDiff, Nat.reduceMul, Nat.reduceSub, reduceIte, Nat.reduceEqDiff, Nat.reduceAdd, reduceCtorEq]
    intro vs
    refine ⟨⟨by omega, hlt'⟩, hlt', ?_⟩
    refine call_fun (h _ (getD_mem hlt' 0)) (by simp only [rowIs, boxIs, coe_argN, coe_argNs, coe_ro_o, coeL_nil, coeL_cons, coe_any, coe_val, coe_ro, coe_ro_nil, coe_ro_own, coe_st, coe_st_agg, coe_rp, coe_rp_ptr, coe_clo, coe_own0, coe_ptr0, coeL_intsK, coeL_rws, coeL_rwn, L_hit, L_miss, L_nil, Nat.reduceEqDiff, ne_eq, reduceCtorEq, not_false_eq_true, true_and, and_true, and_self, exists_eq_left, exists_eq_right, List.mem_cons, List.not_mem_nil, or_false, AObj.row.injEq, AObj.box.injEq, exists_eq_left', exists_and_left, exists_eq, Nat.zero_lt_one, Nat.lt_add_one, List.map_cons, List.map_nil, AObj.ver, Nat.reduceLT, not_true_eq_false]; exact hc.coe _ _ _) trivial ?_
    simp only [B_slices_IndexFunc_Lflock_7, B_slices_IndexFunc_Lflock_8, w1, hc.dn, go_sem, adopt_fun, Int.reduceLT, Int.reduceLE, Int.reduceToNat, Int.reduceNeg, Nat.reduceLT, Nat.reduceLeDiff, Nat.reduceMul, Nat.reduceSub, reduceIte, Nat.reduceEqDiff, Nat.reduceAdd, reduceCtorEq]
    refine ⟨fun hp => ?_, fun hp => ⟨i + 1, by omega, ⟨by omega, ?_⟩, rfl⟩⟩
    · rw [hp] at he; simp at he; rw [← he]
    · rw [hp] at he; simpa using he
  · have : i = xs.length := by omega
    subst this
    rw [List.drop_length] at he
    simp only [fidx] at he
    simp only [B_slices_IndexFunc_Lflock_3, B_slices_IndexFunc_Lflock_4, B_slices_IndexFunc_Lflock_5, B_slices_IndexFunc_Lflock_9, decide_eq_false hlt, hc.dn, go_sem, adopt_fun, Int.reduceLT, Int.reduceLE, Int.reduceToNat, Int.reduceNeg, Nat.reduceLT, Nat.reduceLeDiff, Nat.reduceMul, Nat.reduceSub, reduceIte, Nat.reduceEqDiff, Nat.reduceAdd, reduceCtorEq]
    rw [← he]

/-- What a part of a set leads to. -/
def stepTo (row set : List Int) : Nat := set.foldl (fun o s => o ||| 2 ^ (row.getD s.toNat 0).toNat) 0
theorem stepTo_all {row : List Int} {f : Nat} : stepTo row (bitsTo f 10) = stepN row f := by
  unfold stepTo stepN bitsTo bitsN
  rw [List.foldl_map]
  rfl

theorem k_step (n : Int) (next : List (List Int)) (A : Aut n next) (f l : Nat) (hf : f < 2 ^ n.toNat) (hl : l < next.length) :
    Fun Try.prog n_impl_Automaton_step [autA n next, fv f, iv l] (fv (stepN (next.getD l []) f)) := by
  refine fun_of mixed c_impl_Automaton_step rfl ⟨rfl, trivial⟩ ?_
  have n1 := A.n1
  have n2 := A.n2
  have hf10 : f < 1024 := Nat.lt_of_lt_of_le hf (Nat.pow_le_pow_right (by omega) (show n.toNat ≤ 10 by omega))
  have hrow := A.row _ (getD_mem hl [])
  have hset : ∀ s ∈ bitsTo f 10, 0 ≤ s ∧ s < n := fun s hs => by
    unfold bitsTo at hs
    obtain ⟨k, hk, rfl⟩ := List.mem_map.1 hs
    have := bits_lt hf (show k ∈ bitsN f from hk)
    omega
  have hto : ∀ s ∈ bitsTo f 10, ((next.getD l []).getD s.toNat 0).toNat < 10 := fun s hs => by
    have h1 := hset s hs
    have := hrow.2 _ (getD_mem (show s.toNat < (next.getD l []).length by omega) 0)
    omega
  simp only [A_impl_Automaton_step, B_impl_Automaton_step_1, go_sem, adopt_fun, Int.reduceLT, Int.reduceLE, Int.reduceToNat, Int.reduceNeg, Nat.reduceLT, Nat.reduceLeDiff, Nat.reduceMul, Nat.reduceSub, reduceIte, Nat.reduceEqDiff, Nat.reduceAdd, reduceCtorEq]
  intro vs
  simp only [B_impl_Automaton_step_2, go_sem, adopt_fun, Int.reduceLT, Int.reduceLE, Int.reduceToNat, Int.reduceNeg, Nat.reduceLT, Nat.reduceLeDiff, Nat.reduceMul, Nat.reduceSub, reduceIte, Nat.reduceEqDiff, Nat.reduceAdd, reduceCtorEq]
  intro vs2
  refine call_rowI (k_flock_set f hf10) qCS rfl ⟨_, rfl⟩ ?_
  rintro ys v rfl
  simp only [B_impl_Automaton_step_3, go_sem, adopt_fun, Int.reduceLT, Int.reduceLE, Int.reduceToNat, Int.reduceNeg, Nat.reduceLT, Nat.reduceLeDiff, Nat.reduceMul, Nat.reduceSub, reduceIte, Nat.reduceEqDiff, Nat.reduceAdd, reduceCtorEq]
  intro hM
  have hM2 := maxLen_le
  generalize hS : bitsTo f 10 = set at hset hto hM ⊢
  refine wpD_lo (fun i => set.length - i) (fun i => i ≤ set.length)
    (fun i : Nat => ⟨L .any [(2, iv l), (3, .ptr 3 (vs 0 0) 0), (7, fv (stepTo (next.getD l []) (set.take i))), (11, .own 11 v), (12, iv set.length), (13, iv i)], L .gone [(3, .box (vs 0 0) [iv n, .ro none 1 (rwn next)]), (11, .row v 1 true (ints set))]⟩) 0 (by simp) (by simp only [B_impl_Automaton_step_4, go_sem, adopt_fun, Int.reduceLT, Int.reduceLE, Int.reduceToNat, Int.reduceNeg, Nat.reduceLT, Nat.reduceLeDiff, Nat.reduceMul, Nat.reduceSub, reduceIte, Nat.reduceEqDiff, Nat.reduceAdd, reduceCtorEq]; try rfl) ?_
  rintro i hi
  by_cases hlt : (i : Int) < set.length
  · have hlt1 : i < set.length := by omega
    have hs := hset _ (getD_mem hlt1 0)
    have ht := hto _ (getD_mem hlt1 0)
    have hc : (set.getD i 0).toNat < (next.getD l []).length := by omega
    have hv := hrow.2 _ (getD_mem hc 0)
    have hs0 : ¬ (next.getD l []).getD (set.getD i 0).toNat 0 < 0 := by omega
    have h1 : stepTo (next.getD l []) (set.take i) < 1024 := fold_lt (fun s : Int => ((next.getD l []).getD s.toNat 0).toNat) (set.take i) 0 (fun x hx => hto x (List.mem_of_mem_take hx)) (by omega)
    have h2 := pow_lt10 ht
    have hsl := u_shl (b := ((next.getD l []).getD (set.getD i 0).toNat 0).toNat) (by omega)
    have hor := u_orW (x := stepTo (next.getD l []) (set.take i)) (y := 2 ^ ((next.getD l []).getD (set.getD i 0).toNat 0).toNat) (by omega) (by omega)
    have hr : stepTo (next.getD l []) (set.take i) ||| 2 ^ ((next.getD l []).getD (set.getD i 0).toNat 0).toNat = stepTo (next.getD l []) (set.take (i + 1)) := getD_snoc set (fun o s => o ||| 2 ^ ((next.getD l []).getD s.toNat 0).toNat) 0 0 hlt1
    simp only [B_impl_Automaton_step_4, B_impl_Automaton_step_5, B_impl_Automaton_step_6, intsK_getD hlt1, decide_eq_true hlt, go_sem, adopt_fun, Int.reduceLT, Int.reduceLE, Int.reduceToNat, Int.reduceNeg, Nat.reduceLT, Nat.reduceLeDiff, Nat.reduceMul, Nat.reduceSub, reduceIte, Nat.reduceEqDiff, Nat.reduceAdd, reduceCtorEq]
    refine ⟨⟨by omega, hlt1⟩, hlt1, ?_⟩
    simp only [B_impl_Automaton_step_7, B_impl_Automaton_step_8, rwn_getD hl, intsK_getD hc, hs0, hsl, hor, hr, nat1 i _ hlt1 hM, go_sem, adopt_fun, Int.reduceLT, Int.reduceLE, Int.reduceToNat, Int.reduceNeg, Nat.reduceLT, Nat.reduceLeDiff, Nat.reduceMul, Nat.reduceSub, reduceIte, Nat.reduceEqDiff, Nat.reduceAdd, reduceCtorEq]
    refine ⟨⟨by omega, hl⟩, hl, ⟨hs.1, hc⟩, hc, i + 1, by omega, by omega, rfl⟩
  · have : i = set.length := by omega
    subst this
    simp only [B_impl_Automaton_step_4, B_impl_Automaton_step_5, B_impl_Automaton_step_9, decide_eq_false hlt, List.take_length, go_sem, adopt_fun, Int.reduceLT, Int.reduceLE, Int.reduceToNat, Int.reduceNeg, Nat.reduceLT, Nat.reduceLeDiff, Nat.reduceMul, Nat.reduceSub, reduceIte, Nat.reduceEqDiff, Nat.reduceAdd, reduceCtorEq]
    rw [← hS, stepTo_all]
end Go.Ab
