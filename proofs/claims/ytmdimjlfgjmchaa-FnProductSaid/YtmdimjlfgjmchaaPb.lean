/- The states that are reached: the list that grows while it is looked through. Conditions: none. -/
import Derived.Test.YtmdimjlfgjmchaaKo
set_option linter.all false
namespace Go.Ab
set_option maxRecDepth 20000

theorem put_len_new {x : Int} : ∀ {xs : List Int}, x ∉ xs → (put xs x).length = xs.length + 1
  | [], _ => by simp [put]
  | y :: xs, h => by
    have h1 : x ≠ y := fun e => h (by simp [e])
    have h2 : x ∉ xs := fun e => h (by simp [e])
    simp only [put]
    split
    · split
      · simp
      · omega
    · have := put_len_new (x := x) (xs := xs) h2
      simp only [List.length_cons]; omega

theorem nrm_len_nd {l : List Int} (h : l.Nodup) : (nrm l).length = l.length := by
  have gen : ∀ (l acc : List Int), l.Nodup → (∀ x ∈ l, x ∉ acc) → (l.foldl put acc).length = acc.length + l.length := by
    intro l
    induction l with
    | nil => intro acc _ _; simp
    | cons x l ih =>
      intro acc h1 h2
      rw [List.nodup_cons] at h1
      rw [List.foldl_cons, ih (put acc x) h1.2 (fun y hy hm => ?_), put_len_new (h2 x (by simp)), List.length_cons]
      · omega
      · rcases put_mem.1 hm with rfl | hm
        · exact h1.1 hy
        · exact h2 y (by simp [hy]) hm
  have := gen l [] h (by simp)
  simpa [nrm] using this

/-- Different states, each once. -/
structure Once (n : Int) (l : List Int) : Prop where
  nd : l.Nodup
  rg : ∀ x ∈ l, 0 ≤ x ∧ x < n
theorem Once.len {n : Int} {l : List Int} (hn : 1 ≤ n) (h : Once n l) : (l.length : Int) ≤ n := by
  have h1 := nrm_len_nd h.nd
  rcases SI_len (nrm_SI l) (fun x hx => h.rg x (nrm_mem.1 hx)) with h2 | h2
  · omega
  · rw [h2] at h1; simp at h1; omega

theorem Once.snoc {n : Int} {l : List Int} {x : Int} (h : Once n l) (hx : 0 ≤ x ∧ x < n) (hm : x ∉ l) : Once n (l ++ [x]) := by
  refine ⟨?_, ?_⟩
  · rw [List.nodup_append]
    refine ⟨h.nd, by simp, ?_⟩
    intro a ha b hb
    have : b = x := by simpa using hb
    subst this
    rintro rfl
    exact hm ha
  · intro y hy
    rcases List.mem_append.1 hy with hy | hy
    · exact h.rg y hy
    · have : y = x := by simpa using hy
      subst this; exact hx

/-- A number that is put behind others, if it is not there. -/
def addL (l : List Int) (x : Int) : List Int := if l.contains x = true then l else l ++ [x]
theorem Once.add {n : Int} {l : List Int} {x : Int} (h : Once n l) (hx : 0 ≤ x ∧ x < n) : Once n (addL l x) := by
  unfold addL
  split
  · exact h
  · rename_i h1
    exact h.snoc hx (by simpa using h1)

/-- All letters from one state. -/
def visK (s : Int) : List (List Int) → List Int → List Int
  | [], l => l
  | row :: rs, l => visK s rs (addL l (row.getD s.toNat 0))

theorem Once.vis {n s : Int} (hs : 0 ≤ s ∧ s < n) : ∀ {rs : List (List Int)} {l : List Int}, (∀ row ∈ rs, (row.length : Int) = n ∧ ∀ x ∈ row, 0 ≤ x ∧ x < n) → Once n l → Once n (visK s rs l)
  | [], _, _, h => h
  | row :: rs, l, hr, h => by
    have h1 := hr row (by simp)
    have h2 : s.toNat < row.length := by omega
    exact Once.vis (rs := rs) hs (fun r hm => hr r (by simp [hm])) (h.add (h1.2 _ (getD_mem h2 0)))

theorem vis_pre {s : Int} : ∀ {rs : List (List Int)} {l : List Int}, ∃ t, visK s rs l = l ++ t
  | [], l => ⟨[], by simp [visK]⟩
  | row :: rs, l => by
    obtain ⟨t, ht⟩ := vis_pre (s := s) (rs := rs) (l := addL l (row.getD s.toNat 0))
    simp only [visK]
    rw [ht]
    unfold addL
    split
    · exact ⟨t, rfl⟩
    · exact ⟨[row.getD s.toNat 0] ++ t, by simp⟩

/-- From state i of the list on. -/
def runL (next : List (List Int)) : Nat → List Int → Nat → List Int
  | 0, l, _ => l
  | f + 1, l, i => if i < l.length then runL next f (visK (l.getD i 0) next l) (i + 1) else l

/-- The states that are reached, in the order in which they are met. -/
def reachL (n : Int) (next : List (List Int)) (s : Int) : List Int := runL next (n.toNat + 1) [s] 0

theorem run_once {n : Int} {next : List (List Int)} (A : Aut n next) : ∀ (f : Nat) {l : List Int} {i : Nat}, Once n l → Once n (runL next f l i)
  | 0, l, i, h => h
  | f + 1, l, i, h => by
    simp only [runL]
    split
    · rename_i hi
      exact run_once A f (Once.vis (h.rg _ (getD_mem hi 0)) A.row h)
    · exact h
theorem one_once {n s : Int} (hs : 0 ≤ s ∧ s < n) : Once n [s] := by
  refine ⟨by simp, fun x hx => ?_⟩
  have : x = s := by simpa using hx
  subst this; exact hs
theorem reach_once {n s : Int} {next : List (List Int)} (A : Aut n next) (hs : 0 ≤ s ∧ s < n) : Once n (reachL n next s) := run_once A _ (one_once hs)

theorem run_step {n : Int} {next : List (List Int)} (A : Aut n next) {l : List Int} {i : Nat} {R : List Int} (h : Once n l) (hi : i < l.length) (hR : runL next (n.toNat - i + 1) l i = R) :
    runL next (n.toNat - (i + 1) + 1) (visK (l.getD i 0) next l) (i + 1) = R := by
  have h1 := h.len A.n1
  have e : n.toNat - i + 1 = (n.toNat - (i + 1) + 1) + 1 := by omega
  rw [e] at hR
  simp only [runL] at hR
  rw [if_pos hi] at hR
  exact hR
theorem run_end {n : Int} {next : List (List Int)} {l : List Int} {i : Nat} {R : List Int} (hi : l.length ≤ i) (hR : runL next (n.toNat - i + 1) l i = R) : l = R := by
  simp only [runL] at hR
  rw [if_neg (by omega)] at hR
  exact hR
end Go.Ab
