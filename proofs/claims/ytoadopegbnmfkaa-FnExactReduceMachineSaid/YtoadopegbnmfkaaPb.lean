/- The states that are reached: the list that grows while it is looked through. Conditions: none. -/
import Derived.Test.YtoadopegbnmfkaaKo
set_option linter.all false
namespace Go.Ab
set_option maxRecDepth 20000

theorem put_len_new {x : Int} : ∀ {xs : List Int}, x ∉ xs → (put xs x).length = xs.length + 1
  | [], _ => by simp [put]
  | y :: xs, h => by
    have h1 : x ≠ y := fun e => h (by simp [e])
    have h2 : x ∉ xs := fun e => h (by simp [e])
    simp only [put]
    split
    · split
      · simp
      · omega
    · have := put_len_new (x := x) (xs := xs) h2
      simp only [List.length_cons]; omega

theorem nrm_len_nd {l : List Int} (h : l.Nodup) : (nrm l).length = l.length := by
  have gen : ∀ (l acc : List Int), l.Nodup → (∀ x ∈ l, x ∉ acc) → (l.foldl put acc).length = acc.length + l.length := by
    intro l
    induction l with
    | nil => intro acc _ _; simp
    | cons x l ih =>
      intro acc h1 h2
      rw [List.nodup_cons] at h1
      rw [List.foldl_cons, ih (put acc x) h1.2 (fun y hy hm => ?_), put_len_new (h2 x (by simp)), List.length_cons]
      · omega
      · rcases put_mem.1 hm with rfl | hm
        · exact h1.1 hy
        · exact h2 y (by simp [hy]) hm
  have := gen l [] h (by simp)
  simpa [nrm] using this

/-- Different states, each once. -/
structure Once (n : Int) (l : List Int) : Prop where
  nd : l.Nodup
  rg : ∀ x ∈ l, 0 ≤ x ∧ x < n
theorem Once.len {n : Int} {l : List Int} (hn : 1 ≤ n) (h : Once n l) : (l.length : Int) ≤ n := by
  have h1 := nrm_len_nd h.nd
  rcases SI_len (nrm_SI l) (fun x hx => h.rg x (nrm_mem.1 hx)) with h2 | h2
  · omega
  · rw [h2] at h1; simp at h1; omega

theorem Once.snoc {n : Int} {l : List Int} {x : Int} (h : Once n l) (hx : 0 ≤ x ∧ x < n) (hm : x ∉ l) : Once n (l ++ [x]) := by
  refine ⟨?_, ?_⟩
  · rw [List.nodup_append]
    refine ⟨h.nd, by simp, ?_⟩
    intro a ha b hb
    have : b = x := by simpa using hb
    subst this
    rintro rfl
    exact hm ha
  · intro y hy
    rcases List.mem_append.1 hy with hy | hy
    · exact h.rg y hy
    · have : y = x := by simpa using hy
      subst this; exact hx

/-- A number that is put behind others, if it is not there. -/
def addL (l : List Int) (x : Int) : List Int := if l.contains x = true then l else l ++ [x]
theorem Once.add {n : Int} {l : List Int} {x : Int} (h : Once n l) (hx : 0 ≤ x ∧ x < n) : Once n (addL l x) := by
  unfold addL
  split
  · exact h
  · rename_i h1
    exact h.snoc hx (by simpa using h1)

end Go.Ab
