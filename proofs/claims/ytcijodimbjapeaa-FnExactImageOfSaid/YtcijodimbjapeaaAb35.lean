/- Library functions that write one row of numbers where it lies: from a law of the call to a contract. Conditions: none. -/
import Derived.Test.YtcijodimbjapeaaAb32
import Derived.Sort.Grow
set_option linter.all false
namespace Go.Ab
open Go Go.Sort
set_option maxRecDepth 20000

/-- The world behind such a call. -/
def Left1 (w w' : World) (g off : Nat) (ys : List Int) : Prop := ∃ n os, w' = grow (putRow (Value.int .i64) (Sort.ahead w n) g off ys.toArray) os

section
variable {w w' : World} {g off : Nat} {ys : List Int}

theorem Left1.ne (h : Left1 w w' g off ys) {b : Nat} (hb : b < w.heap.size) (hne : b ≠ g) : w'.heap[b]? = w.heap[b]? := by
  obtain ⟨n, os, rfl⟩ := h
  have h1 : b < (w.heap.modify g (onCells (putCells (Value.int .i64) off ys.toArray))).size := by rw [Array.size_modify]; exact hb
  show (w.heap.modify g (onCells (putCells (Value.int .i64) off ys.toArray)) ++ os)[b]? = _
  rw [Array.getElem?_append_left h1, Array.getElem?_modify, if_neg (Ne.symm hne)]

theorem Left1.at (h : Left1 w w' g off ys) {cells : Array Value} {t : TypeId} (hb : w.heap[g]? = some (.cells cells t (0, 0))) : w'.heap[g]? = some (.cells (putCells (Value.int .i64) off ys.toArray cells) t (0, 0)) := by
  obtain ⟨n, os, rfl⟩ := h
  have hlt : g < w.heap.size := block_lt_of_some hb
  have h1 : g < (w.heap.modify g (onCells (putCells (Value.int .i64) off ys.toArray))).size := by rw [Array.size_modify]; exact hlt
  show (w.heap.modify g (onCells (putCells (Value.int .i64) off ys.toArray)) ++ os)[g]? = _
  rw [Array.getElem?_append_left h1, Array.getElem?_modify, if_pos rfl, hb]; rfl

theorem Left1.size (h : Left1 w w' g off ys) : w.heap.size ≤ w'.heap.size := by
  obtain ⟨n, os, rfl⟩ := h
  show w.heap.size ≤ (w.heap.modify g (onCells (putCells (Value.int .i64) off ys.toArray)) ++ os).size
  rw [Array.size_append, Array.size_modify]; omega
theorem Left1.os (h : Left1 w w' g off ys) : w'.os = w.os := by obtain ⟨n, os, rfl⟩ := h; rfl
theorem Left1.tape (h : Left1 w w' g off ys) : w'.tape = w.tape := by obtain ⟨n, os, rfl⟩ := h; rfl
theorem Left1.output (h : Left1 w w' g off ys) : w'.output = w.output := by obtain ⟨n, os, rfl⟩ := h; rfl

theorem putCells_row {cells : Array Value} (hfit : off + ys.length ≤ cells.size) {m : Nat} (hm : m ≤ ys.length) :
    (((putCells (Value.int .i64) off ys.toArray cells).toList.drop off).take m) = (ys.take m).map fun x => Value.int .i64 x := by
  apply List.ext_getElem?
  intro j
  rw [List.getElem?_take, List.getElem?_map, List.getElem?_take]
  by_cases hj : j < m
  · rw [if_pos hj, if_pos hj, List.getElem?_drop, Array.getElem?_toList]
    have h1 : off + j < cells.size := by omega
    simp only [putCells, Array.getElem?_mapIdx, Array.getElem?_eq_getElem h1, Option.map_some, List.size_toArray]
    have h2 : off ≤ off + j ∧ off + j < off + ys.length := by omega
    have h3 : off + j - off = j := by omega
    rw [if_pos h2, h3, List.getElem?_eq_getElem (show j < ys.length by omega)]
    simp only [Option.map_some]
    have h4 : ys.toArray[j]! = ys[j] := by rw [getElem!_pos _ j (by simp; omega)]; simp
    rw [h4]
  · rw [if_neg hj, if_neg hj]; rfl

theorem repL_ints {c : Cz} : ∀ {xs : List Int}, RepL c (ints xs) (xs.map fun x => Value.int .i64 x)
  | [] => by simp [RepL]
  | x :: xs => by
    simp only [List.map_cons, RepL, Rep]
    exact ⟨trivial, repL_ints⟩

theorem repL_ints_eq {c : Cz} : ∀ {xs : List Int} {vs : List Value}, RepL c (ints xs) vs → vs = xs.map fun x => Value.int .i64 x
  | [], [], _ => rfl
  | [], _ :: _, h => by simp [RepL] at h
  | _ :: _, [], h => by simp [RepL] at h
  | x :: xs, v :: vs, h => by
    simp only [List.map_cons, RepL, Rep] at h ⊢
    rw [h.1, repL_ints_eq h.2]

theorem holds_row {c : Cz} {zs : List Int} {cells : Array Value} {t : TypeId} (hb : c.w.heap[g]? = some (.cells cells t (0, 0))) (hr : RepL c (ints zs) ((cells.toList.drop off).take zs.length)) :
    Holds (Value.int .i64) c.w g off zs.toArray := by
  have he := repL_ints_eq hr
  intro j hj
  have hj' : j < zs.length := by simpa using hj
  have h1 : ((cells.toList.drop off).take zs.length)[j]? = some (Value.int .i64 zs[j]) := by
    rw [he, List.getElem?_map, List.getElem?_eq_getElem hj']; rfl
  rw [List.getElem?_take, if_pos hj', List.getElem?_drop, Array.getElem?_toList] at h1
  have h4 : zs.toArray[j]! = zs[j] := by rw [getElem!_pos _ j hj]; simp
  refine ⟨?_, ?_⟩
  · rw [cell_of_row c.w g (off + j) cells t (0, 0) hb, h1, h4]
  · unfold World.frozen?
    simp [hb]
end

section
variable {P : Program} {f : FuncId}

theorem inrow_core {w0 : World} {outsB : Nat → Prop} {c : Cz} (G : Good w0 outsB c) {zs ys : List Int} {nn : Bool} {n cap g off m ver : Nat} {cells : Array Value} {t : TypeId} {w' : World}
    (hr : c.hp 5000 = .row 0 1 nn (ints zs)) (hloc : c.loc 5000 = .slice (some ⟨g, off, none⟩) n cap) (hn : zs.length = n) (hcap : n ≤ cap) (hcm : cap ≤ maxLen) (hc0 : cap ≠ 0)
    (hheap : c.w.heap[g]? = some (.cells cells t (0, 0))) (hfit : off + cap * 1 ≤ cells.size) (hL : Left1 c.w w' g off ys) (hys : ys.length = zs.length) (hm : m ≤ ys.length)
    (hver : (m = n ∧ ver = 0) ∨ ¬ c.used ver) :
    Good w0 outsB (c.upd w' 5000 (.row ver 1 nn (ints (ys.take m))) (.slice (some ⟨g, off, none⟩) m cap) ver) ∧ Keeps c (c.upd w' 5000 (.row ver 1 nn (ints (ys.take m))) (.slice (some ⟨g, off, none⟩) m cap) ver) := by
  have hblk : blockOf (c.loc 5000) = some g := by rw [hloc]; simp [blockOf, hc0]
  refine G.upd w' 5000 _ _ ver hL.os hL.tape hL.output hL.size ?_ ?_ ?_ ?_
  · intro b hb hne
    refine hL.ne hb fun e => hne ⟨by rw [hr]; simp, by rw [hblk, e]⟩
  · intro b hb
    simp only [blockOf, hc0, if_false, Option.some.injEq] at hb
    subst hb
    exact ⟨.inl ⟨by rw [hr]; simp, hblk⟩, Nat.lt_of_lt_of_le (block_lt_of_some hheap) hL.size⟩
  · rcases hver with ⟨h1, h2⟩ | h
    · refine .inr (.inr ⟨by rw [hr, h2]; rfl, by rw [hloc, h1], ?_⟩)
      rw [h2]; exact (G.verU 5000 0 (by rw [hr]; rfl)).1
    · exact .inr (.inl ⟨rfl, h⟩)
  · intro K
    refine ⟨some ⟨g, off, none⟩, m, cap, rfl, by omega, ?_, by omega, hcm, fun _ => by simp, .inr ⟨g, off, t, _, rfl, hL.at hheap, ?_, ?_⟩⟩
    · simp; omega
    · simp only [putCells, Array.size_mapIdx]; exact hfit
    · rw [Nat.mul_one, putCells_row (by omega) hm]
      exact repL_ints

/-- It gives nothing: the row holds other numbers. -/
theorem con_inrow (hfn : ∃ fn, P.funcs[f]? = some fn ∧ fn.body.isSome = true ∧ isNumG fn = false) (zs ys : List Int) (hF : ys.length = zs.length)
    (H : ∀ g off cap w, Holds (Value.int .i64) w g off zs.toArray → g < w.heap.size → zs.length ≤ maxLen → zs.length ≤ cap →
      Calls P f #[.slice (some ⟨g, off, none⟩) zs.length cap] w fun e w' => e = .returned (.tuple #[]) ∧ Left1 w w' g off ys)
    (H0 : ∀ p cap w, Calls P f #[.slice p 0 cap] w fun e w' => e = .returned (.tuple #[]) ∧ w' = w) (nn : Bool) :
    Con P f [.row 0 1 nn (ints zs)] [.own 5000 0] true fun outs rows res => outs = [.row 0 1 nn (ints ys)] ∧ rows = [] ∧ res = .tup [] := by
  refine ⟨hfn, fun c0 outsB vs G hhp hrep => ?_⟩
  have hr : c0.hp 5000 = .row 0 1 nn (ints zs) := by rw [hhp]; rfl
  have hne : ∀ r, r ≠ 5000 → c0.hp r = .gone := by
    intro r h
    rw [hhp]
    by_cases hg : outHp [.row 0 1 nn (ints zs)] [] r = .gone
    · exact hg
    · rcases outHp_live hg with ⟨j, rfl, _, hj, _⟩ | ⟨i, _, _, hi, _⟩
      · simp at hj; subst hj; exact absurd rfl h
      · simp at hi
  match vs, hrep with
  | [v], hrep =>
  simp only [RepL, Rep, and_true] at hrep
  have hv : v = c0.loc 5000 := hrep.2 (by rw [hr]; rfl)
  have hO := G.obj 5000
  rw [hr] at hO
  obtain ⟨base, n, cap, hloc, _, hl, hnc, hcm, hnn, hcase⟩ := hO
  have hlen : zs.length = n := by simpa using hl
  have hupd : ∀ (c1 : Cz) (xs : List Int), (∀ r, c1.hp r = if r = 5000 then .row 0 1 nn (ints xs) else c0.hp r) → c1.hp = outHp [.row 0 1 nn (ints xs)] [] := by
    intro c1 xs h
    funext r
    rw [h r]
    by_cases e : r = 5000
    · subst e; rfl
    · rw [if_neg e, hne r e]
      by_cases hg : outHp [AObj.row 0 1 nn (ints xs)] [] r = .gone
      · exact hg.symm
      · rcases outHp_live hg with ⟨j, rfl, _, hj, _⟩ | ⟨i, _, _, hi, _⟩
        · simp at hj; subst hj; exact absurd rfl e
        · simp at hi
  have hold : ∀ c1 : Cz, c1.ext = c0.ext → ∀ b, c1.ext b → (true = true ∧ c0.ext b) ∨ outsB b := fun c1 h b hb => .inl ⟨rfl, h ▸ hb⟩
  by_cases h0 : zs = []
  · have hn0 : n = 0 := by rw [← hlen, h0]; rfl
    subst hn0
    rw [hv, hloc]
    refine (H0 base cap c0.w).mono ?_
    rintro e w' ⟨rfl, rfl⟩
    have hF0 : ys = [] := List.eq_nil_of_length_eq_zero (by rw [hF, h0]; rfl)
    refine ⟨_, c0, _, _, _, ⟨rfl, rfl, rfl⟩, rfl, rfl, G, ?_, ?_, hold c0 rfl, fun _ h => h, fun _ _ _ h => ⟨h, rfl⟩, fun _ h => h⟩
    · rw [hhp, hF0, h0]
    · simp [Rep, RepL]
  · have hn0 : n ≠ 0 := by rw [← hlen]; exact fun e => h0 (List.eq_nil_of_length_eq_zero e)
    have hc0 : cap ≠ 0 := by omega
    rcases hcase with h | ⟨g, off, t, cells, rfl, hheap, hfit, hrepr⟩
    · exact absurd h hc0
    rw [hv, hloc, ← hlen]
    refine (H g off cap c0.w (holds_row hheap (by rw [hlen]; simpa using hrepr)) (block_lt_of_some hheap) (by omega) (by omega)).mono ?_
    rintro e w' ⟨rfl, hL⟩
    obtain ⟨G1, K1⟩ := inrow_core G hr hloc hlen hnc hcm hc0 hheap hfit hL (hF) (m := n) (ver := 0) (by rw [hF]; omega) (.inl ⟨rfl, rfl⟩)
    have htake : ys.take n = ys := List.take_of_length_le (by rw [hF]; omega)
    rw [htake] at G1 K1
    refine ⟨_, _, _, _, _, ⟨rfl, rfl, rfl⟩, rfl, rfl, G1, hupd _ _ fun r => rfl, ?_, hold _ rfl, fun _ h => h, ?_, fun _ h => .inl h⟩
    · simp [Rep, RepL]
    · intro r u hu h
      have := K1.loc r u hu h
      exact this

/-- It gives a first part of the row, which holds other numbers. -/
theorem con_inrowS (hfn : ∃ fn, P.funcs[f]? = some fn ∧ fn.body.isSome = true ∧ isNumG fn = false) (zs ys : List Int) (k : Nat) (hF : ys.length = zs.length) (hk : k ≤ zs.length)
    (H : ∀ g off cap w, Holds (Value.int .i64) w g off zs.toArray → g < w.heap.size → zs.length ≤ maxLen → zs.length ≤ cap →
      Calls P f #[.slice (some ⟨g, off, none⟩) zs.length cap] w fun e w' => e = .returned (.slice (some ⟨g, off, none⟩) k cap) ∧ Left1 w w' g off ys)
    (H0 : ∀ p cap w, Calls P f #[.slice p 0 cap] w fun e w' => e = .returned (.slice p 0 cap) ∧ w' = w) (nn : Bool) :
    Con P f [.row 0 1 nn (ints zs)] [.own 5000 0] true fun outs rows res => ∃ v, outs = [.row v 1 nn (ints (ys.take k))] ∧ rows = [] ∧ res = .own 5000 v := by
  refine ⟨hfn, fun c0 outsB vs G hhp hrep => ?_⟩
  have hr : c0.hp 5000 = .row 0 1 nn (ints zs) := by rw [hhp]; rfl
  have hne : ∀ r, r ≠ 5000 → c0.hp r = .gone := by
    intro r h
    rw [hhp]
    by_cases hg : outHp [.row 0 1 nn (ints zs)] [] r = .gone
    · exact hg
    · rcases outHp_live hg with ⟨j, rfl, _, hj, _⟩ | ⟨i, _, _, hi, _⟩
      · simp at hj; subst hj; exact absurd rfl h
      · simp at hi
  match vs, hrep with
  | [v], hrep =>
  simp only [RepL, Rep, and_true] at hrep
  have hv : v = c0.loc 5000 := hrep.2 (by rw [hr]; rfl)
  have hO := G.obj 5000
  rw [hr] at hO
  obtain ⟨base, n, cap, hloc, _, hl, hnc, hcm, hnn, hcase⟩ := hO
  have hlen : zs.length = n := by simpa using hl
  have hupd : ∀ (c1 : Cz) (u : Nat) (xs : List Int), (∀ r, c1.hp r = if r = 5000 then .row u 1 nn (ints xs) else c0.hp r) → c1.hp = outHp [.row u 1 nn (ints xs)] [] := by
    intro c1 u xs h
    funext r
    rw [h r]
    by_cases e : r = 5000
    · subst e; rfl
    · rw [if_neg e, hne r e]
      by_cases hg : outHp [AObj.row u 1 nn (ints xs)] [] r = .gone
      · exact hg.symm
      · rcases outHp_live hg with ⟨j, rfl, _, hj, _⟩ | ⟨i, _, _, hi, _⟩
        · simp at hj; subst hj; exact absurd rfl e
        · simp at hi
  have hold : ∀ c1 : Cz, c1.ext = c0.ext → ∀ b, c1.ext b → (true = true ∧ c0.ext b) ∨ outsB b := fun c1 h b hb => .inl ⟨rfl, h ▸ hb⟩
  by_cases h0 : zs = []
  · have hn0 : n = 0 := by rw [← hlen, h0]; rfl
    subst hn0
    rw [hv, hloc]
    refine (H0 base cap c0.w).mono ?_
    rintro e w' ⟨rfl, rfl⟩
    have hF0 : ys = [] := List.eq_nil_of_length_eq_zero (by rw [hF, h0]; rfl)
    refine ⟨_, c0, _, _, _, ⟨0, rfl, rfl, rfl⟩, rfl, rfl, G, ?_, ?_, hold c0 rfl, fun _ h => h, fun _ _ _ h => ⟨h, rfl⟩, fun _ h => h⟩
    · rw [hhp, hF0, h0, List.take_nil]
    · simp only [Rep]; rw [hr]; exact ⟨(G.verU 5000 0 (by rw [hr]; rfl)).1, fun _ => hloc.symm⟩
  · have hn0 : n ≠ 0 := by rw [← hlen]; exact fun e => h0 (List.eq_nil_of_length_eq_zero e)
    have hc0 : cap ≠ 0 := by omega
    rcases hcase with h | ⟨g, off, t, cells, rfl, hheap, hfit, hrepr⟩
    · exact absurd h hc0
    rw [hv, hloc, ← hlen]
    refine (H g off cap c0.w (holds_row hheap (by rw [hlen]; simpa using hrepr)) (block_lt_of_some hheap) (by omega) (by omega)).mono ?_
    rintro e w' ⟨rfl, hL⟩
    obtain ⟨u, hu⟩ := G.fin
    have hnu : ¬ c0.used u := fun h => absurd (hu u h) (Nat.lt_irrefl _)
    obtain ⟨G1, K1⟩ := inrow_core G hr hloc hlen hnc hcm hc0 hheap hfit hL (hF) (m := k) (ver := u) (by rw [hF]; exact hk) (.inr hnu)
    refine ⟨_, _, _, _, _, ⟨u, rfl, rfl, rfl⟩, rfl, rfl, G1, hupd _ _ _ fun r => rfl, ?_, hold _ rfl, fun _ h => h, ?_, fun _ h => .inl h⟩
    · simp only [Rep]
      refine ⟨.inr rfl, fun _ => ?_⟩
      simp only [Cz.upd, if_true]
    · intro r u' hu' h
      exact K1.loc r u' hu' h
end
end Go.Ab
