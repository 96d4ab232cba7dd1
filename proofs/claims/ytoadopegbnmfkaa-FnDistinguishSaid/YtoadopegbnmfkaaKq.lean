/- Contracts of the functions that mark memory, and look at the marks. Conditions: none. -/
import Derived.Test.YtoadopegbnmfkaaKo
set_option linter.all false
namespace Go.Ab
open Go.Proofs
set_option maxRecDepth 20000
set_option maxHeartbeats 1000000

/-- Numbers from k on. -/
def seqI (k : Int) : Nat → List Int
  | 0 => []
  | m + 1 => k :: seqI (k + 1) m
theorem seqI_len : ∀ (m : Nat) (k : Int), (seqI k m).length = m
  | 0, _ => rfl
  | m + 1, k => by simp [seqI, seqI_len m]
theorem seqI_snoc : ∀ (m : Nat) (k : Int), seqI k m ++ [k + m] = seqI k (m + 1)
  | 0, k => by simp [seqI]
  | m + 1, k => by
    have := seqI_snoc m (k + 1)
    simp only [seqI, List.cons_append] at this ⊢
    rw [← this]
    congr 3
    omega

/-- One row is handed over, with plain values. -/
theorem call_rowM {P : Program} {σ : St} {g : FuncId} {As args : List AVal} {d : Option Nat} {s : Nat → Nat} {K : St → Prop} {r v : Nat} {cs cs' : List AVal} {nn : Bool} {R : List AObj → List AObj → AVal → Prop}
    (h : Con P g [.row 0 1 nn cs'] (.own 5000 0 :: args) true R) (hr : σ.hp r = .row v 1 nn cs) (hco : CoeL σ.hp [r] false cs' cs) (ha : CoeL σ.hp [r] false args As)
    (hk : ∀ outs rows res, R outs rows res → rows = [] ∧ ∃ o, outs = [o] ∧ K (St.put ⟨σ.tm, upd σ.hp r (o.ren (rid [r] (d.getD 0) 0) (sv σ.hp [r] s))⟩ d (res.ren (rid [r] (d.getD 0) 0) (sv σ.hp [r] s)))) :
    wpCall P false σ g (.own r v :: As) d s K := by
  refine .inl ⟨[r], [.row 0 1 nn cs'], .own 5000 0 :: args, true, R, h, ⟨by simp, rfl, by simp, by simp [hr], ?_⟩, ?_, (fun e => by cases e), ?_⟩
  · intro j B r' hB hr'
    cases j with
    | succ j => simp at hB
    | zero =>
      simp at hB hr'; subst hB; subst hr'
      simp only [ObjCoe, hr]
      exact ⟨trivial, v, cs, rfl, hco⟩
  · rw [coeL_cons]
    refine ⟨?_, ha⟩
    simp only [Coe]
    exact ⟨0, r, v, rfl, rfl, rfl, rfl, by rw [hr]; rfl⟩
  · intro outs rows res hR
    obtain ⟨rfl, o, rfl, hK⟩ := hk outs rows res hR
    refine ⟨rfl, by simp, by simp, ?_⟩
    rw [callHp_m]
    exact hK

def totL : List (Nat × List Int) → Int
  | [] => 0
  | p :: ps => p.2.length + totL ps
theorem totL_nn : ∀ ps, 0 ≤ totL ps
  | [] => by simp [totL]
  | p :: ps => by have := totL_nn ps; simp only [totL]; omega

/-- It gives a number that is not less. -/
abbrev MarkR (k m : Int) (outs rows : List AObj) (res : AVal) : Prop := outs = [] ∧ rows = [] ∧ ∃ v, (∃ k', v = Value.int .i64 k' ∧ k ≤ k' ∧ k' ≤ k + m) ∧ res = .val v

end Go.Ab
