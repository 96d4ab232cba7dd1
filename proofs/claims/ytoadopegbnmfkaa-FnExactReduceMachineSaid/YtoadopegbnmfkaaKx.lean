/- Contracts: CheckCertificate, and what its law does with certificates. Conditions: none. -/
import Derived.Test.YtoadopegbnmfkaaKw
set_option linter.all false
namespace Go.Ab
open Go.Proofs
set_option maxRecDepth 20000
set_option maxHeartbeats 1000000

/-- What is left behind two rows of rows. -/
def szC2 (x y : List (List Int)) (l : Int) : Int := if szLL x l < 0 then -1 else szLL y (szLL x l)
theorem szC2_ge {x y : List (List Int)} {l : Int} (h : ¬ szC2 x y l < 0) : 0 ≤ szLL x l ∧ 0 ≤ szLL y (szLL x l) ∧ szC2 x y l = szLL y (szLL x l) := by
  unfold szC2 at h ⊢
  split at h
  · omega
  · rename_i h1
    rw [if_neg h1]
    omega
theorem szLL_neg {x : List (List Int)} {l : Int} (h : szLL x l < 0) : szLL x l = -1 := by
  have gen : ∀ (xss : List (List Int)) (l : Int), 0 ≤ l → szRows xss l < 0 → szRows xss l = -1 := by
    intro xss
    induction xss with
    | nil => intro l h1 h2; simp only [szRows] at h2; omega
    | cons xs r ih =>
      intro l h1 h2
      simp only [szRows] at h2 ⊢
      split at h2
      · rename_i h3; rw [if_pos h3]
      · rename_i h3; rw [if_neg h3]; exact ih _ (by omega) h2
  unfold szLL at h ⊢
  split at h
  · rename_i h1; rw [if_pos h1]
  · rename_i h1; rw [if_neg h1]; exact gen _ _ (by omega) h

abbrev Rows2 (P : Program) (g : FuncId) (args : List AVal) (cs : List Int) (x y : List (List Int)) : Prop :=
  Fn P g args fun rows res => ∃ v w, rows = [.row v 1 true (rws x), .row w 1 true (rws y)] ∧ res = .st (cs.map (fun c => iv c) ++ [.own 6000 v, .own 6001 w])

theorem call_rows2 {P : Program} {pu : Bool} {σ : St} {g : FuncId} {As args : List AVal} {d : Nat} {s : Nat → Nat} {K : St → Prop} {cs : List Int} {x y : List (List Int)} (h : Rows2 P g args cs x y) (hco : CoeL σ.hp [] true args As)
    (hg : σ.hp d = .gone) (hg2 : σ.hp (d + 1000) = .gone)
    (hk : ∀ v w, K (St.put ⟨σ.tm, upd (upd σ.hp d (.row v 1 true (rws x))) (d + 1000) (.row w 1 true (rws y))⟩ (some d) (.st (cs.map (fun c => iv c) ++ [.own d v, .own (d + 1000) w])))) : wpCall P pu σ g As (some d) s K := by
  refine call_fn h hco (fun _ => ⟨_, _, 0, 1, rfl, rfl⟩) ?_
  rintro rows res ⟨v, w, rfl, rfl⟩
  refine ⟨by simp, ?_, ?_⟩
  · simp only [Option.getD_some, gone_two]; exact ⟨hg, hg2⟩
  · have e : (AVal.st (cs.map (fun c => iv c) ++ [.own 6000 v, .own 6001 w])).ren (rid [] d 2) s = .st (cs.map (fun c => iv c) ++ [.own d (s v), .own (d + 1000) (s w)]) := by
      rw [ren_st]
      congr 1
      simp only [renL_eq, List.map_append, List.map_map, List.map_cons, List.map_nil]
      have h0 := ren_own_r0 (m := []) (d := d) (n := 1) (v := v) (s := s)
      have h1 := ren_own_r1 (m := []) (d := d) (n := 0) (v := w) (s := s)
      rw [h0, h1]
      congr 1
    simp only [Option.getD_some, Nat.not_lt_zero, range1, ren_val, ren_any, ren_ro, rnNm_n, rnNm_sn, rnNm_o, rnNm_s, ren_st, ren_tup, renL_nil, renL_cons, renL_intsK, renL_rws, renL_rwn, oren_box, oren_row, oren_map, ren_own_e0, ren_own_e1, ren_own_e2, ren_ptr_e0, ren_mp_e0, ren_mp_e1, ren_own_r0, ren_own_r1, ren_own_r2, ren_ptr_r0, ren_mp_r0, ren_mp_r1, List.range_zero, callHp_nil, callHp_one, callHp_two, gone_nil, gone_one, gone_two, AVal.fresh, freshL, fresh_intsK, fresh_rws, AObj.fresh, id, Option.isSome_some, or_true, true_or, List.length_cons, List.length_nil, Nat.zero_add, e]
    exact hk _ _
end Go.Ab
