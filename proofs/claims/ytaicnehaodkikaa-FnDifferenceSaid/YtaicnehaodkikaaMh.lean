/- Contracts: the program's numbers of classes. Conditions: none. -/
import Derived.Test.YtaicnehaodkikaaMf
import Derived.Test.YtaicnehaodkikaaPf
set_option linter.all false
namespace Go.Ab
open Go.Proofs
set_option maxRecDepth 20000
set_option maxHeartbeats 2000000

theorem call_wordR {P : Program} {pu : Bool} {σ : St} {g : FuncId} {As args : List AVal} {d : Nat} {s : Nat → Nat} {K : St → Prop} {r : Option (List Int)} (h : WordR P g args r)
    (hco : CoeL σ.hp [] true args As) (hg : σ.hp d = .gone)
    (h1 : ∀ w, r = some w → ∀ v, K (St.put ⟨σ.tm, upd σ.hp d (.row v 1 true (ints w))⟩ (some d) (.tup [.own d v, bv true])))
    (h2 : r = none → K (St.put ⟨σ.tm, σ.hp⟩ (some d) (.tup [nilS, bv false]))) : wpCall P pu σ g As (some d) s K := by
  refine call_fn h hco (fun _ => ?_) ?_
  · cases r with
    | some w => exact ⟨_, _, 0, rfl, rfl⟩
    | none => exact ⟨_, _, rfl, rfl⟩
  · intro rows res hR
    cases r with
    | some w =>
      obtain ⟨v, rfl, rfl⟩ := hR
      refine ⟨by simp, ?_, ?_⟩
      · simp only [Option.getD_some, gone_one]; exact hg
      · simp only [Option.getD_some, List.length_singleton, Nat.not_lt_zero, range1, ren_val, ren_any, ren_ro, rnNm_n, rnNm_sn, rnNm_o, rnNm_s, ren_st, ren_tup, renL_nil, renL_cons, renL_intsK, renL_rws, renL_rwn, oren_box, oren_row, oren_map, ren_own_e0, ren_own_e1, ren_own_e2, ren_ptr_e0, ren_mp_e0, ren_mp_e1, ren_own_r0, ren_own_r1, ren_own_r2, ren_ptr_r0, ren_mp_r0, ren_mp_r1, List.range_zero, callHp_nil, callHp_one, callHp_two, gone_nil, gone_one, gone_two, AVal.fresh, freshL, fresh_intsK, fresh_rws, AObj.fresh, id, Option.isSome_some, or_true, true_or]
        exact h1 w rfl _
    | none =>
      obtain ⟨rfl, rfl⟩ := hR
      refine ⟨by simp, by simp, ?_⟩
      simp only [Nat.not_lt_zero, range1, ren_val, ren_any, ren_ro, rnNm_n, rnNm_sn, rnNm_o, rnNm_s, ren_st, ren_tup, renL_nil, renL_cons, renL_intsK, renL_rws, renL_rwn, oren_box, oren_row, oren_map, ren_own_e0, ren_own_e1, ren_own_e2, ren_ptr_e0, ren_mp_e0, ren_mp_e1, ren_own_r0, ren_own_r1, ren_own_r2, ren_ptr_r0, ren_mp_r0, ren_mp_r1, List.range_zero, callHp_nil, callHp_one, callHp_two, gone_nil, gone_one, gone_two, AVal.fresh, freshL, fresh_intsK, fresh_rws, AObj.fresh, id, Option.isSome_some, or_true, true_or]
      exact h2 rfl

theorem repP_hit {next out : List (List Int)} {s t : Nat} (ht : t < s) (h1 : eqvP next out s t = true) (h0 : ∀ u < t, eqvP next out s u = false) : (List.range s).find? (eqvP next out s) = some t := by
  rw [List.find?_eq_some_iff_append]
  refine ⟨h1, List.range t, (List.range (s - t - 1)).map (t + 1 + ·), ?_, fun u hu => by rw [h0 u (List.mem_range.1 hu)]; rfl⟩
  obtain ⟨e, rfl⟩ : ∃ e, s = t + 1 + e := ⟨s - t - 1, by omega⟩
  rw [List.range_add, List.range_succ, List.append_assoc, show t + 1 + e - t - 1 = e by omega]; rfl
theorem repP_all {next out : List (List Int)} {s : Nat} (h0 : ∀ u < s, eqvP next out s u = false) : (List.range s).find? (eqvP next out s) = none := by
  rw [List.find?_eq_none]
  intro u hu
  rw [h0 u (List.mem_range.1 hu)]; simp

end Go.Ab
