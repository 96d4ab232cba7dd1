/- Contracts: the reference's ImageOf; what the proofs of the exact laws have in common. Conditions: none. -/
import Derived.Test.YtoadopegbnmfkaaKq
set_option linter.all false
namespace Go.Ab
open Go.Proofs
set_option maxRecDepth 20000
set_option maxHeartbeats 1000000

theorem szRows_tot : ∀ (ps : List (Nat × List Int)) (l : Int), 0 ≤ szRows (ps.map (·.2)) l → 0 ≤ l → totL ps ≤ l
  | [], l, _, h => by simpa [totL] using h
  | p :: ps, l, h, hl => by
    simp only [List.map_cons, szRows] at h
    split at h
    · omega
    · have := szRows_tot ps _ h (by omega)
      simp only [totL]; omega
theorem szLL_tot {ps : List (Nat × List Int)} {l : Int} (h : 0 ≤ szLL (ps.map (·.2)) l) (hl : 0 ≤ l) : totL ps ≤ l := by
  unfold szLL at h
  split at h
  · omega
  · have := szRows_tot ps _ h (by omega); omega
theorem coeL_rwp_t {hp : Nat → AObj} {m : List Nat} {len : Bool} {ps : List (Nat × List Int)} : CoeL hp m len (rwn (ps.map (·.2))) (rwp ps) = True := eq_true coeL_rwp
/-- One row of numbers is handed over and comes back with other numbers. -/
theorem call_mark {P : Program} {σ : St} {g : FuncId} {A : AVal} {x y : Value} {d : Option Nat} {s : Nat → Nat} {K : St → Prop} {r v : Nat} {xs ys : List Int}
    (h : Con P g [.row 0 1 true (ints xs)] [.own 5000 0, .val x] true fun outs rows res => outs = [.row 0 1 true (ints ys)] ∧ rows = [] ∧ res = .val y) (hr : σ.hp r = .row v 1 true (ints xs)) (hA : A = .val x)
    (hk : K (St.put ⟨σ.tm, upd σ.hp r (.row v 1 true (ints ys))⟩ d (.val y))) : wpCall P false σ g [.own r v, A] d s K := by
  subst hA
  refine call_rowM h hr coeL_ints qCS ?_
  rintro outs rows res ⟨rfl, rfl, rfl⟩
  refine ⟨rfl, _, rfl, ?_⟩
  have e : sv σ.hp [r] s 0 = v := by simp [sv, hr, AObj.ver]
  rw [oren_row, e, renL_intsK, ren_val]
  exact hk

theorem dec10 : decide ((1 : Int) < 0) = false := by decide
theorem clR_row {p : Nat → Bool} {v k : Nat} {nn : Bool} {cs : List AVal} : AObj.cl p (.row v k nn cs) = .row v k nn (clL p cs) := rfl
theorem clR_box {p : Nat → Bool} {v : Nat} {cs : List AVal} : AObj.cl p (.box v cs) = .box v (clL p cs) := rfl
theorem clR_gone {p : Nat → Bool} : AObj.cl p .gone = .gone := rfl
end Go.Ab
