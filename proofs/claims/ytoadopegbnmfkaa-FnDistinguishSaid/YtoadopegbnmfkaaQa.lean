/- Contracts: orders of states, and automata with their states in another order. Conditions: none. -/
import Derived.Test.YtoadopegbnmfkaaKt
set_option linter.all false
namespace Go.Ab
open Go.Proofs
set_option maxRecDepth 20000
set_option maxHeartbeats 1000000

/-- Whether a list has each of so many states once. -/
def ordB (n : Int) (order : List Int) : Bool := (List.range n.toNat).all (fun s => order.contains (s : Int)) && decide ((order.length : Int) = n)
theorem ordB_iff {n : Int} {order : List Int} (hn : 1 ≤ n) : ordB n order = true ↔ (∀ s : Int, 0 ≤ s ∧ s < n → s ∈ order) ∧ (order.length : Int) = n := by
  simp only [ordB, Bool.and_eq_true, List.all_eq_true, decide_eq_true_eq, List.contains_iff_mem]
  constructor
  · rintro ⟨h1, h2⟩
    refine ⟨fun s hs => ?_, h2⟩
    have := h1 s.toNat (List.mem_range.2 (by omega))
    rwa [show ((s.toNat : Nat) : Int) = s by omega] at this
  · rintro ⟨h1, h2⟩
    exact ⟨fun s hs => h1 s (by have := List.mem_range.1 hs; omega), h2⟩
theorem fidx_lt0 {xs : List Int} {x : Int} : decide (fidx (fun y => x == y) xs 0 < 0) = !xs.contains x := by
  have h := fidx_ge (fun y => x == y) xs 0
  rw [← List.contains_eq_any_beq] at h
  rw [← h]
  by_cases e : 0 ≤ fidx (fun y => x == y) xs 0
  · rw [decide_eq_true e, decide_eq_false (by omega)]; rfl
  · rw [decide_eq_false e, decide_eq_true (by omega)]; rfl

theorem sub_len : ∀ {l1 l2 : List Int}, l1.Nodup → (∀ x ∈ l1, x ∈ l2) → l1.length ≤ l2.length
  | [], _, _, _ => by simp
  | x :: l1, l2, hd, h => by
    rw [List.nodup_cons] at hd
    have h1 := List.length_erase_of_mem (h x (by simp))
    have h0 := List.length_pos_of_mem (h x (by simp))
    have := sub_len (l2 := l2.erase x) hd.2 (fun y hy => (List.mem_erase_of_ne (fun e => hd.1 (by rw [← e]; exact hy))).2 (h y (by simp [hy])))
    simp only [List.length_cons]; omega
theorem SI_nd {l : List Int} (h : SI l) : l.Nodup := by
  unfold SI at h
  exact h.imp fun h => by omega

theorem ord_eq {n : Int} (hn : 1 ≤ n) {l : List Int} : (decide ((l.length : Int) = n) && (decide (((nrm l).length : Int) = n) && allIn l 0 (n - 1))) = ordB n l := by
  rw [Bool.eq_iff_iff, Bool.and_eq_true, Bool.and_eq_true, decide_eq_true_iff, decide_eq_true_iff, allIn_iff, ordB_iff hn]
  have nd := SI_nd (nrm_SI l)
  constructor
  · rintro ⟨h1, h2, h3⟩
    refine ⟨fun s hs => ?_, h1⟩
    by_cases hm : s ∈ l
    · exact hm
    · have ho : Once n (s :: nrm l) := ⟨List.nodup_cons.2 ⟨fun h => hm (nrm_mem.1 h), nd⟩, fun x hx => by
        rcases List.mem_cons.1 hx with rfl | hx
        · exact hs
        · have := h3 x (nrm_mem.1 hx); omega⟩
      have := ho.len hn
      simp only [List.length_cons] at this; omega
  · rintro ⟨h1, h2⟩
    have ha : (allS n).Nodup := SI_nd (allS_SI n)
    have h4 := nrm_len l
    have h5 := sub_len ha (l2 := nrm l) (fun x hx => nrm_mem.2 (h1 x (allS_in x hx)))
    rw [allS_len] at h5
    refine ⟨h2, by omega, fun x hx => ?_⟩
    by_cases hr : 0 ≤ x ∧ x < n
    · omega
    · exfalso
      have h6 := sub_len (l1 := x :: allS n) (List.nodup_cons.2 ⟨fun h => hr (allS_in x h), ha⟩) (l2 := nrm l) (fun y hy => by
        rcases List.mem_cons.1 hy with rfl | hy
        · exact nrm_mem.2 hx
        · exact nrm_mem.2 (h1 y (allS_in y hy)))
      rw [List.length_cons, allS_len] at h6
      omega

end Go.Ab
