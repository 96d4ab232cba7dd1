/- Contracts: the reference's ImageOf; what the proofs of the exact laws have in common. Conditions: none. -/
import Derived.Test.YtmdimjlfgjmchaaKq
set_option linter.all false
namespace Go.Ab
open Go.Proofs
set_option maxRecDepth 20000
set_option maxHeartbeats 1000000

/-- A call that makes an automaton whose rows have names. -/
theorem call_autN {P : Program} {σ : St} {g : FuncId} {As args : List AVal} {d : Nat} {s : Nat → Nat} {K : St → Prop} {n : Int} {next : List (List Int)} (hs : ∀ x y, s x = s y → x = y)
    (h : Fn P g args (fun rows res => ∃ v ps, rows = [.row v 1 true (rwp ps)] ∧ ps.map (·.2) = next ∧ DJ ps ∧ res = .st [iv n, .own 6000 v])) (hco : CoeL σ.hp [] true args As) (hg : σ.hp d = .gone)
    (hk : ∀ v ps, ps.map (·.2) = next → DJ ps → K (St.put ⟨σ.tm, upd σ.hp d (.row v 1 true (rwp ps))⟩ (some d) (.st [iv n, .own d v]))) : wpCall P false σ g As (some d) s K := by
  refine call_fn h hco (fun e => by cases e) ?_
  rintro rows res ⟨v, ps, rfl, hp, hd, rfl⟩
  refine ⟨by simp, ?_, ?_⟩
  · simp only [Option.getD_some, gone_one]; exact hg
  · simp only [Option.getD_some, renL_rwp, List.length_singleton, Nat.not_lt_zero, range1, ren_val, ren_any, ren_ro, rnNm_n, rnNm_sn, rnNm_o, rnNm_s, ren_st, ren_tup, renL_nil, renL_cons, renL_intsK, renL_rws, renL_rwn, oren_box, oren_row, oren_map, ren_own_e0, ren_own_e1, ren_own_e2, ren_ptr_e0, ren_mp_e0, ren_mp_e1, ren_own_r0, ren_own_r1, ren_own_r2, ren_ptr_r0, ren_mp_r0, ren_mp_r1, List.range_zero, callHp_nil, callHp_one, callHp_two, gone_nil, gone_one, gone_two, AVal.fresh, freshL, fresh_intsK, fresh_rws, AObj.fresh, id, Option.isSome_some, or_true, true_or]
    exact hk _ _ (by rw [List.map_map]; exact hp) (hd.ren hs)

end Go.Ab
