/- The law FnExtend, as its row says it: called with any two lists of bytes it returns true, changes nothing and does not panic. Conditions: none. -/
import Derived.Test.YtbaiaaegcfobgaaGreatRows
import Derived.ProofKit
import Derived.Test.YtbaiaaegcfobgaaGreatZ12
set_option maxRecDepth 100000
set_option maxHeartbeats 4000000
set_option linter.all false
open Nat renaming reduceLeDiff → J0, reduceMul → J1, reduceSub → J2, reduceEqDiff → J3, reduceAdd → J4, reduceLT → J5
open Int renaming reduceToNat → J6, reduceNeg → J7, reduceLE → J8, reduceLT → J9
open List renaming getD_eq_getElem?_getD → Y0, map_cons → Y1, getElem?_eq_getElem → Y2, mem_map → Y3, mem_append → Y4, length_append → Y5, length_map → Y6, length_singleton → Y7, mem_cons → Y8, mem_singleton → Y9, range → Ya, map_nil → Yb, map_append → Yc, getElem?_map → Yd, length_cons → Ye, length → Yf, map_congr_left → Yg, eq_nil_of_length_eq_zero → Yh, not_mem_nil → Yi, map_map → Yj, length_take → Yk, replicate → Yl, mem_range → Ym, getElem?_eq_some_iff → Yn, all_eq_true → Yo, length_drop → Yp, getElem_map → Yq, getElem?_take → Yr, foldl_cons → Ys, mem_cons_of_mem → Yt, cons_append → Yu, getElem?_append_right → Yv, mem_of_getElem? → Yw, pairwise_cons → Yx, getElem_mem → Yy, mem_flatMap → Yz, getElem?_append_left → Y10, take_length → Y11, pairwise_append → Y12, append_assoc → Y13, drop_length → Y14, getElem?_drop → Y15, nodup_cons → Y16, length_nil → Y17, ext_getElem → Y18, nodup_append → Y19, take_succ_eq_append_getElem → Y1a, getElem_of_mem → Y1b, getElem?_eq_none → Y1c, mem_of_mem_take → Y1d, contains_iff_mem → Y1e, filter_cons_of_pos → Y1f, pairwise_iff_getElem → Y1g
open Nat renaming le_refl → Y1h, lt_of_lt_of_le → Y1i, zero_le → Y1j, pow_le_pow_right → Y1k, sub_self → Y1l, le_trans → Y1m, add_mul → Y1n, zero_add → Y1o, add_zero → Y1p, mul_le_mul_right → Y1q, two_pow_pos → Y1r, shiftRight_eq_div_pow → Y1s
open Int renaming toNat_natCast → Y1t, le_refl → Y1u
open Option renaming isSome_some → Y1v, map_eq_some_iff → Y1w, getD_some → Y1x, isSome_iff_exists → Y1y, map_some → Y1z
open Bool renaming and_eq_true → Y20, not_true → Y21, or_eq_true → Y22, false_eq_true → Y23, not_eq_true' → Y24
open Array renaming length_toList → Y25, getElem?_toList → Y26, getElem?_eq_getElem → Y27, getD_eq_getD_getElem? → Y28, getElem?_append_left → Y29
namespace Go.Proofs.YtbaiaaegcfobgaaGreat
open Go Go.Ab Go.ChangeShapes Go.WideShapes Go.ChangeAt Go.RowKit
theorem fnExtend_own:ownKnob Tryz.prog.godebug=none:=by kernel_rfl
theorem fnExtend_law:∀ As,ArgsShp Tryz.prog Tryz.f3.params.toList As→Fun Tryz.prog 3 As (bv true) :=
 two_bytes (t:=22) (e:=5) Tryz.underlying22 Tryz.underlying5 (by kernel_rfl) fun code more hc hm=>yzdc code more hc hm
set_option maxRecDepth 100000 in
theorem fnExtend_lifted (os:Os) (started:os.Started) (H:Type) (enc:TypeId×Value→H) :
  ReturnsInHanded {} Tryz.checked os 3 .any (Rows.fnExtendSpec.pre6 enc Tryz.prog Tryz.f3 Rows.fnExtendRow.domain false) (Rows.fnExtendSpec.post enc Tryz.prog Tryz.f3 false true false false):=by
 refine returnsInHanded_of_change (C:=Tryz.checked) fnExtend_own started (by kernel_rfl) Tryz.func3
  (ChangeSpec.witness6 (enc:=enc) (C:=Tryz.checked) false ⟨#[],#[.slice none 0 0,.slice none 0 0],[]⟩ 8 (by kernel_rfl) (by kernel_rfl) (by kernel_rfl) (by kernel_rfl)) ?_
 intro W base args ds gs before hval hW _ _
 refine law_post (good:=fun t=>[22,5].contains t) (tb:=4) rfl (by kernel_rfl) (of_decide_eq_true (by kernel_rfl)) (by kernel_rfl) Tryz.underlying4 ?_ hW (good_of (by kernel_rfl)) (of_decide_eq_true (by kernel_rfl)) hval fnExtend_law
 intro hl
 match ds,hl with
 | [d,d'],_=>exact ⟨rfl,rfl,rfl⟩
theorem fnExtend_holds:Rows.FnExtendSaid :=
 OpenClaim.holds_of_wide 3 Tryz.f3 rfl rfl rfl rfl rfl rfl rfl ⟨rfl,rfl,rfl,rfl,rfl⟩ rfl rfl rfl rfl rfl (by kernel_rfl) Tryz.func3 (by kernel_rfl)
  (of_decide_eq_true (by kernel_rfl)) (by unfold Func.isWrapper;first | (rw [if_pos (by decide +kernel)];kernel_rfl) | (rw [if_neg (by decide +kernel)];exact ⟨rfl,rfl⟩))
  (fun os started H enc _=>fnExtend_lifted os started H enc)
#print axioms fnExtend_holds
end Go.Proofs.YtbaiaaegcfobgaaGreat
