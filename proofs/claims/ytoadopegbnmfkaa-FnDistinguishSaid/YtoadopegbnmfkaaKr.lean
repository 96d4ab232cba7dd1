/- Contracts: the reference's ImageOf; what the proofs of the exact laws have in common. Conditions: none. -/
import Derived.Test.YtoadopegbnmfkaaKq
set_option linter.all false
namespace Go.Ab
open Go.Proofs
set_option maxRecDepth 20000
set_option maxHeartbeats 1000000

/-- A function that gives a new row and a code. -/
abbrev RowC2 (P : Program) (g : FuncId) (args : List AVal) (xs : List Int) (code : Int) : Prop := Fn P g args fun rows res => ∃ v, rows = [.row v 1 true (ints xs)] ∧ res = .tup [.own 6000 v, iv code]
theorem call_rowC2 {P : Program} {pu : Bool} {σ : St} {g : FuncId} {As args : List AVal} {d : Nat} {s : Nat → Nat} {K : St → Prop} {xs : List Int} {code : Int} (h : RowC2 P g args xs code)
    (hco : CoeL σ.hp [] true args As) (hg : σ.hp d = .gone) (h1 : ∀ v, K (St.put ⟨σ.tm, upd σ.hp d (.row v 1 true (ints xs))⟩ (some d) (.tup [.own d v, iv code]))) : wpCall P pu σ g As (some d) s K := by
  refine call_fn h hco (fun _ => ⟨_, _, 0, rfl, rfl⟩) ?_
  rintro rows res ⟨v, rfl, rfl⟩
  refine ⟨by simp, ?_, ?_⟩
  · simp only [Option.getD_some, gone_one]; exact hg
  · simp only [Option.getD_some, List.length_singleton, Nat.not_lt_zero, range1, ren_val, ren_any, ren_ro, rnNm_n, rnNm_sn, rnNm_o, rnNm_s, ren_st, ren_tup, renL_nil, renL_cons, renL_intsK, renL_rws, renL_rwn, oren_box, oren_row, oren_map, ren_own_e0, ren_own_e1, ren_own_e2, ren_ptr_e0, ren_mp_e0, ren_mp_e1, ren_own_r0, ren_own_r1, ren_own_r2, ren_ptr_r0, ren_mp_r0, ren_mp_r1, List.range_zero, callHp_nil, callHp_one, callHp_two, gone_nil, gone_one, gone_two, AVal.fresh, freshL, fresh_intsK, fresh_rws, AObj.fresh, id, Option.isSome_some, or_true, true_or]
    exact h1 _

/-- What an image is, and where there is none. -/
abbrev imO (n : Int) (next : List (List Int)) (set w : List Int) : List Int := if autB n next && (setB n set && wordB next.length w) then nrm (set.map fun s => atA next s w) else []

/-- A call that makes an automaton whose rows have names. -/
theorem call_autN {P : Program} {σ : St} {g : FuncId} {As args : List AVal} {d : Nat} {s : Nat → Nat} {K : St → Prop} {n : Int} {next : List (List Int)} (hs : ∀ x y, s x = s y → x = y)
    (h : Fn P g args (fun rows res => ∃ v ps, rows = [.row v 1 true (rwp ps)] ∧ ps.map (·.2) = next ∧ DJ ps ∧ res = .st [iv n, .own 6000 v])) (hco : CoeL σ.hp [] true args As) (hg : σ.hp d = .gone)
    (hk : ∀ v ps, ps.map (·.2) = next → DJ ps → K (St.put ⟨σ.tm, upd σ.hp d (.row v 1 true (rwp ps))⟩ (some d) (.st [iv n, .own d v]))) : wpCall P false σ g As (some d) s K := by
  refine call_fn h hco (fun e => by cases e) ?_
  rintro rows res ⟨v, ps, rfl, hp, hd, rfl⟩
  refine ⟨by simp, ?_, ?_⟩
  · simp only [Option.getD_some, gone_one]; exact hg
  · simp only [Option.getD_some, renL_rwp, List.length_singleton, Nat.not_lt_zero, range1, ren_val, ren_any, ren_ro, rnNm_n, rnNm_sn, rnNm_o, rnNm_s, ren_st, ren_tup, renL_nil, renL_cons, renL_intsK, renL_rws, renL_rwn, oren_box, oren_row, oren_map, ren_own_e0, ren_own_e1, ren_own_e2, ren_ptr_e0, ren_mp_e0, ren_mp_e1, ren_own_r0, ren_own_r1, ren_own_r2, ren_ptr_r0, ren_mp_r0, ren_mp_r1, List.range_zero, callHp_nil, callHp_one, callHp_two, gone_nil, gone_one, gone_two, AVal.fresh, freshL, fresh_intsK, fresh_rws, AObj.fresh, id, Option.isSome_some, or_true, true_or]
    exact hk _ _ (by rw [List.map_map]; exact hp) (hd.ren hs)

theorem szRows_tot : ∀ (ps : List (Nat × List Int)) (l : Int), 0 ≤ szRows (ps.map (·.2)) l → 0 ≤ l → totL ps ≤ l
  | [], l, _, h => by simpa [totL] using h
  | p :: ps, l, h, hl => by
    simp only [List.map_cons, szRows] at h
    split at h
    · omega
    · have := szRows_tot ps _ h (by omega)
      simp only [totL]; omega
theorem szLL_tot {ps : List (Nat × List Int)} {l : Int} (h : 0 ≤ szLL (ps.map (·.2)) l) (hl : 0 ≤ l) : totL ps ≤ l := by
  unfold szLL at h
  split at h
  · omega
  · have := szRows_tot ps _ h (by omega); omega
theorem coeL_rwp_t {hp : Nat → AObj} {m : List Nat} {len : Bool} {ps : List (Nat × List Int)} : CoeL hp m len (rwn (ps.map (·.2))) (rwp ps) = True := eq_true coeL_rwp
theorem coeL_rws_t {hp : Nat → AObj} {m : List Nat} {len : Bool} : ∀ {xss : List (List Int)}, CoeL hp m len (rwn xss) (rws xss) = True
  | [] => by simp [rwn, rws, CoeL]
  | xs :: xss => by
    have h := coeL_rws_t (hp := hp) (m := m) (len := len) (xss := xss)
    simp only [rwn, rws, List.map_cons] at h ⊢
    rw [coeL_cons, coe_ro, h]
    exact eq_true ⟨⟨by omega, coeL_ints⟩, trivial⟩

/-- A call that gives one new row, with what is in it. -/
theorem call_rowE {P : Program} {pu : Bool} {σ : St} {g : FuncId} {As args : List AVal} {d : Nat} {s : Nat → Nat} {K : St → Prop} {xs : List Int} (h : RowI P g args fun ys => ys = xs) (hco : CoeL σ.hp [] true args As) (hg : σ.hp d = .gone)
    (hk : ∀ v, K (St.put ⟨σ.tm, upd σ.hp d (.row v 1 true (ints xs))⟩ (some d) (.own d v))) : wpCall P pu σ g As (some d) s K := by
  refine call_rowI h hco hg ⟨_, rfl⟩ ?_
  rintro ys v rfl
  exact hk v

/-- One row of numbers is handed over and comes back with other numbers. -/
theorem call_mark {P : Program} {σ : St} {g : FuncId} {A : AVal} {x y : Value} {d : Option Nat} {s : Nat → Nat} {K : St → Prop} {r v : Nat} {xs ys : List Int}
    (h : Con P g [.row 0 1 true (ints xs)] [.own 5000 0, .val x] true fun outs rows res => outs = [.row 0 1 true (ints ys)] ∧ rows = [] ∧ res = .val y) (hr : σ.hp r = .row v 1 true (ints xs)) (hA : A = .val x)
    (hk : K (St.put ⟨σ.tm, upd σ.hp r (.row v 1 true (ints ys))⟩ d (.val y))) : wpCall P false σ g [.own r v, A] d s K := by
  subst hA
  refine call_rowM h hr coeL_ints (by simp only [rowIs, boxIs, coe_argN, coe_argNs, coe_ro_o, coeL_nil, coeL_cons, coe_any, coe_val, coe_ro, coe_ro_nil, coe_ro_own, coe_st, coe_st_agg, coe_rp, coe_rp_ptr, coe_clo, coe_own0, coe_ptr0, coeL_intsK, coeL_rws, coeL_rwn, L_hit, L_miss, L_nil, Nat.reduceEqDiff, ne_eq, reduceCtorEq, not_false_eq_true, true_and, and_true, and_self, exists_eq_left, exists_eq_right, List.mem_cons, List.not_mem_nil, or_false, AObj.row.injEq, AObj.box.injEq, exists_eq_left', exists_and_left, exists_eq, Nat.zero_lt_one, Nat.lt_add_one, List.map_cons, List.map_nil, AObj.ver, Nat.reduceLT, not_true_eq_false]) ?_
  rintro outs rows res ⟨rfl, rfl, rfl⟩
  refine ⟨rfl, _, rfl, ?_⟩
  have e : sv σ.hp [r] s 0 = v := by simp [sv, hr, AObj.ver]
  rw [oren_row, e, renL_intsK, ren_val]
  exact hk

theorem dec10 : decide ((1 : Int) < 0) = false := by decide
theorem clR_row {p : Nat → Bool} {v k : Nat} {nn : Bool} {cs : List AVal} : AObj.cl p (.row v k nn cs) = .row v k nn (clL p cs) := rfl
theorem clR_box {p : Nat → Bool} {v : Nat} {cs : List AVal} : AObj.cl p (.box v cs) = .box v (clL p cs) := rfl
theorem clR_gone {p : Nat → Bool} : AObj.cl p .gone = .gone := rfl
end Go.Ab
