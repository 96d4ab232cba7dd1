/- Plain laws: restrictions to closed sets. Conditions: none. -/
import Derived.Test.YtmdimjlfgjmchaaPk
import Derived.Test.YtmdimjlfgjmchaaQb
set_option linter.all false
namespace Go.Ab
set_option maxRecDepth 20000

/-- A set of states that no letter leaves. -/
structure ClS (n : Int) (next : List (List Int)) (set : List Int) : Prop where
  rg : ∀ x ∈ set, 0 ≤ x ∧ x < n
  cl : ∀ x ∈ set, ∀ row ∈ next, row.getD x.toNat 0 ∈ set

theorem renR_len {set row : List Int} : (renR set row).length = set.length := by simp [renR]
theorem renR_getD {set row : List Int} {j : Nat} (h : j < set.length) : (renR set row).getD j 0 = fidx (fun y => row.getD (set.getD j 0).toNat 0 == y) set 0 := by
  rw [List.getD_eq_getElem?_getD, renR, List.getElem?_map, List.getElem?_eq_getElem h, List.getD_eq_getElem?_getD (l := set), List.getElem?_eq_getElem h]; rfl
theorem map_getD {next : List (List Int)} {g : List Int → List Int} {l : Nat} (h : l < next.length) : (next.map g).getD l [] = g (next.getD l []) := by
  rw [List.getD_eq_getElem?_getD, List.getElem?_map, List.getElem?_eq_getElem h, List.getD_eq_getElem?_getD, List.getElem?_eq_getElem h]; rfl

theorem rest_step {n : Int} {next : List (List Int)} {set : List Int} (C : ClS n next set) {j l : Int} (hj : 0 ≤ j ∧ j < set.length) (hl : 0 ≤ l ∧ l < next.length) :
    (0 ≤ stepA (next.map (renR set)) j l ∧ stepA (next.map (renR set)) j l < set.length) ∧ set.getD (stepA (next.map (renR set)) j l).toNat 0 = stepA next (set.getD j.toNat 0) l := by
  have hj1 : j.toNat < set.length := by omega
  have hl1 : l.toNat < next.length := by omega
  have hm := C.cl _ (getD_mem hj1 0) _ (getD_mem hl1 [])
  obtain ⟨i, h1, h2, h3⟩ := fidx_eq 0 hm
  unfold stepA
  rw [map_getD hl1, renR_getD hj1, h1, Nat.zero_add, Int.toNat_natCast, h3]
  exact ⟨by omega, rfl⟩

theorem rest_at {n : Int} {next : List (List Int)} {set : List Int} (C : ClS n next set) : ∀ (w : List Int) {j : Int}, 0 ≤ j ∧ j < set.length → IsW next.length w →
    (0 ≤ atA (next.map (renR set)) j w ∧ atA (next.map (renR set)) j w < set.length) ∧ set.getD (atA (next.map (renR set)) j w).toNat 0 = atA next (set.getD j.toNat 0) w
  | [], _, hj, _ => ⟨hj, rfl⟩
  | l :: w, j, hj, hw => by
    have h1 := rest_step C hj (hw l (by simp))
    have h2 := rest_at C w h1.1 (fun x hx => hw x (by simp [hx]))
    rw [h1.2] at h2
    exact h2

theorem Aut.rest {n : Int} {next : List (List Int)} {set : List Int} (A : Aut n next) (C : ClS n next set) (h0 : 1 ≤ set.length) (h1 : set.length ≤ 10) : Aut set.length (next.map (renR set)) := by
  have l1 := A.l1
  have l2 := A.l2
  refine ⟨by omega, by omega, by rw [List.length_map]; omega, by rw [List.length_map]; omega, ?_⟩
  intro row hr
  obtain ⟨row, hr', rfl⟩ := List.mem_map.1 hr
  refine ⟨by rw [renR_len], fun x hx => ?_⟩
  obtain ⟨s, hs, rfl⟩ := List.mem_map.1 hx
  obtain ⟨i, h1, h2, h3⟩ := fidx_eq 0 (C.cl s hs row hr')
  simp only [h1, Nat.zero_add]
  omega

theorem ClS.reach {n s : Int} {next : List (List Int)} (A : Aut n next) (hs : 0 ≤ s ∧ s < n) : ClS n next (nrm (reachL n next s)) := by
  refine ⟨fun x hx => (reach_once A hs).rg x (nrm_mem.1 hx), fun x hx row hr => ?_⟩
  rw [nrm_mem] at hx ⊢
  exact (reach_closed A hs).2 x hx row hr

theorem actA_getD {n : Int} {next : List (List Int)} {w : List Int} {i : Nat} (h : (i : Int) < n) : (actA n next w).getD i 0 = atA next i w := by
  rw [List.getD_eq_getElem?_getD, actA, List.getElem?_map, List.getElem?_range (by omega)]; rfl
end Go.Ab
