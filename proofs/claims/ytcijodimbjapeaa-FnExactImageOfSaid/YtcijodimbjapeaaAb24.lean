/- Regions with open order are right. Conditions: none. -/
import Derived.Test.YtcijodimbjapeaaAb23
set_option linter.all false
namespace Go.Ab
set_option maxRecDepth 20000

section
variable {P : Program} {w0 : World} {outsC : Nat → Prop} {N : Nat} {c0 : Cz}

/-- What has been drawn does not count. -/
theorem Sim.drawn {σ : St} {a : Act} {c : Cz} (S : Sim w0 outsC N σ a c) (H0 : Hist c0 c) (n : Nat) :
    Sim w0 outsC N σ a { c with w := { c.w with drawn := n } } ∧ Hist c0 { c with w := { c.w with drawn := n } } := by
  have G := S.good
  have K : Keeps c { c with w := { c.w with drawn := n } } := ⟨fun _ h => ⟨h, rfl⟩, fun _ _ h => h, fun _ h => h, fun _ _ _ h => ⟨h, rfl⟩, rfl⟩
  refine ⟨⟨?_, S.hp, S.size, fun t => (S.tm t).keeps K, S.defers⟩, H0.step K rfl rfl⟩
  exact ⟨G.base, fun r => (G.obj r).keeps K fun _ _ => rfl, G.inj, G.own, G.verU, G.verInj, G.outExt, G.nam, G.namInj, G.fin, G.os, G.tape, G.output, G.size, G.frame⟩

theorem edges_mem {o : Oper} {e : Edge} (h : e ∈ o.after) (hb : Region.binds .any e = true) : e.on ∈ edges o := by
  simp only [edges, List.mem_map, List.mem_filter]
  exact ⟨e, ⟨Array.mem_toList_iff.2 h, hb⟩, rfl⟩

theorem mem_edges {o : Oper} {j : Nat} (h : j ∈ edges o) : ∃ e ∈ o.after, Region.binds .any e = true ∧ e.on = j := by
  simp only [edges, List.mem_map, List.mem_filter] at h
  obtain ⟨e, ⟨h1, h2⟩, h3⟩ := h
  exact ⟨e, Array.mem_toList_iff.1 h1, h2, h3⟩

/-- The listed are closed: what stands ahead of one of them is listed. -/
def Closed (ops : Array Oper) (listed : Array Bool) : Prop := ∀ i o, ops[i]? = some o → listed.getD i true = true → ∀ j ∈ edges o, listed.getD j false = true

theorem getD_tf {l : Array Bool} {j : Nat} (h : l.getD j false = true) : l.getD j true = true := by
  by_cases hj : j < l.size
  · simp [Array.getD, hj] at h ⊢; exact h
  · simp [Array.getD, hj] at h

/-- k stands ahead of i. -/
inductive Ahead (ops : Array Oper) : Nat → Nat → Prop where
  | one {i k : Nat} {o : Oper} : ops[i]? = some o → k ∈ edges o → Ahead ops i k
  | step {i j k : Nat} {o : Oper} : ops[i]? = some o → j ∈ edges o → Ahead ops j k → Ahead ops i k

theorem ancs_ahead {ops : Array Oper} : ∀ (os : List Oper) (acc : List (List Nat)), (∀ j, os[j]? = ops[acc.length + j]?) → (∀ i k, k ∈ acc.getD i [] → Ahead ops i k) → ∀ i k, k ∈ (ancs os acc).getD i [] → Ahead ops i k
  | [], _, _, h, i, k, hk => h i k hk
  | o :: os, acc, ho, h, i, k, hk => by
    simp only [ancs] at hk
    refine ancs_ahead os _ (fun j => ?_) (fun i k hk => ?_) i k hk
    · have := ho (j + 1)
      simp only [List.length_append, List.length_singleton]
      rw [show acc.length + 1 + j = acc.length + (j + 1) by omega, ← this]
      rfl
    · rw [List.getD_eq_getElem?_getD] at hk
      by_cases e : i < acc.length
      · rw [List.getElem?_append_left e, ← List.getD_eq_getElem?_getD] at hk
        exact h i k hk
      · rw [List.getElem?_append_right (by omega)] at hk
        by_cases e2 : i = acc.length
        · have h0 : ops[i]? = some o := by have := ho 0; simp at this; rw [e2]; exact this.symm
          rw [e2, Nat.sub_self] at hk
          simp only [List.getElem?_cons_zero, Option.getD_some, List.mem_eraseDups, List.mem_flatMap, List.mem_cons] at hk
          obtain ⟨j, hj, rfl | hk⟩ := hk
          · exact .one h0 hj
          · exact .step h0 hj (h j k hk)
        · obtain ⟨q, hq⟩ : ∃ q, i - acc.length = q + 1 := ⟨i - acc.length - 1, by omega⟩
          rw [hq] at hk
          simp at hk

theorem ahead_listed {ops : Array Oper} {listed : Array Bool} (hcl : Closed ops listed) {i k : Nat} (h : Ahead ops i k) : (∀ o, ops[i]? = some o → ∀ j ∈ edges o, listed.getD j false = true) → listed.getD k false = true := by
  induction h with
  | one ho hj => intro h; exact h _ ho _ hj
  | step ho hj _ ih => intro h; exact ih fun o' ho' => hcl _ o' ho' (getD_tf (h _ ho _ hj))

theorem enum_mem {α : Type} : ∀ (xs : List α) (i : Nat) (p : Nat × α), p ∈ enum i xs ↔ i ≤ p.1 ∧ xs[p.1 - i]? = some p.2
  | [], i, p => by simp [enum]
  | x :: xs, i, p => by
    simp only [enum, List.mem_cons, enum_mem xs (i + 1) p]
    constructor
    · rintro (rfl | ⟨h1, h2⟩)
      · simp
      · refine ⟨by omega, ?_⟩
        have : p.1 - i = (p.1 - (i + 1)) + 1 := by omega
        rw [this]; simpa using h2
    · rintro ⟨h1, h2⟩
      by_cases e : p.1 = i
      · left
        rw [e, Nat.sub_self] at h2
        simp at h2
        exact Prod.ext e h2.symm
      · right
        refine ⟨by omega, ?_⟩
        have : p.1 - i = (p.1 - (i + 1)) + 1 := by omega
        rw [this] at h2; simpa using h2

theorem enum_sorted {α : Type} : ∀ (xs : List α) (i : Nat), (enum i xs).Pairwise fun p q => p.1 < q.1
  | [], i => by simp [enum]
  | x :: xs, i => by
    simp only [enum, List.pairwise_cons]
    exact ⟨fun p hp => by have := ((enum_mem xs (i + 1) p).1 hp).1; omega, enum_sorted xs (i + 1)⟩

theorem enum_length {α : Type} : ∀ (xs : List α) (i : Nat), (enum i xs).length = xs.length
  | [], i => rfl
  | x :: xs, i => by simp [enum, enum_length xs (i + 1)]

/-- ANY ORDER. -/
theorem any_sound {ops : Array Oper} {xs : List AOp} {vs : Nat → Nat → Nat} {K : St → Prop} {Q : Exit → Act → World → Prop} (hlen : ops.toList.length = xs.length) (hget : ∀ (i : Nat) o y, ops.toList[i]? = some o → xs[i]? = some y → ∃ x, cOper P N ops o = some x ∧ (y = x ∨ ∃ wb nos, y = x.mb wb nos)) (hdr : drB ops xs = true)
    (hinj : ∀ i j i' j', vs i j = vs i' j' → i = i' ∧ j = j') (hQ : ∀ σ a c, Sim w0 outsC N σ a c → Hist c0 c → K σ → Q .normal a c.w) :
    ∀ (fuel : Nat) (listed : Array Bool) (rest : List (Nat × AOp)) (σ : St) (a : Act) (c : Cz), rest.length = fuel → listed.size = ops.size →
      (∀ i, listed.getD i true = false ↔ ∃ x, (i, x) ∈ rest) → (∀ p ∈ rest, xs[p.1]? = some p.2) → rest.Pairwise (fun p q => p.1 < q.1) → Closed ops listed →
      Sim w0 outsC N σ a c → Hist c0 c → (∀ p ∈ rest, ∀ j, ¬ c.used (vs p.1 j)) → wpL P vs rest σ K → Go.wpAny P .any ops Q fuel listed a c.w := by
  have hsz : xs.length = ops.size := by simpa using hlen.symm
  have hdr' : ∀ i, i < ops.size → (∀ o, ops[i]? = some o → ∀ j ∈ edges o, j < i) ∧ ∀ y, xs[i]? = some y → ∀ k, k < i → Ahead ops i k ∨ ∀ x, xs[k]? = some x → comm x y = true := by
    intro i hi
    unfold drB at hdr
    simp only [] at hdr
    rw [List.all_eq_true] at hdr
    have h := hdr i (List.mem_range.2 hi)
    rw [Bool.and_eq_true] at h
    refine ⟨fun o ho j hj => ?_, fun y hy k hk => ?_⟩
    · have h1 := h.1
      simp only [ho, List.all_eq_true, decide_eq_true_eq] at h1
      exact h1 j hj
    · have h1 := h.2
      simp only [hy, List.all_eq_true] at h1
      have h2 := h1 k (List.mem_range.2 hk)
      rw [Bool.or_eq_true] at h2
      rcases h2 with h2 | h2
      · left
        refine ancs_ahead ops.toList [] (fun j => by simp) (fun i k hk => by simp at hk) i k ?_
        simpa using h2
      · right
        intro x hx
        simp only [hx] at h2; exact h2
  intro fuel
  induction fuel with
  | zero =>
    intro listed rest σ a c hrl hls hun hrx hso hcl S H0 hnew h
    have : rest = [] := List.eq_nil_of_length_eq_zero hrl
    subst this
    refine ⟨?_, hQ σ a c S H0 h⟩
    cases hr : Region.ready .any ops listed with
    | nil => rfl
    | cons i is =>
      exfalso
      have hi : i ∈ Region.ready .any ops listed := by rw [hr]; simp
      obtain ⟨h1, _⟩ := mem_ready.1 hi
      obtain ⟨x, hx⟩ := (hun i).1 h1
      simp at hx
  | succ fuel ih =>
    intro listed rest σ a c hrl hls hun hrx hso hcl S H0 hnew h
    have hlt : ∀ i, listed.getD i true = false → i < ops.size := by
      intro i hi
      by_cases h1 : i < listed.size
      · omega
      · simp [Array.getD, h1] at hi
    have hft : ∀ j, j < ops.size → listed.getD j true ≠ false → listed.getD j false = true := by
      intro j hj hne
      have : j < listed.size := by omega
      simp [Array.getD, this] at hne ⊢
      exact hne
    refine ⟨fun hr => ?_, fun i hi => ?_⟩
    · exfalso
      cases hre : rest with
      | nil => rw [hre] at hrl; simp at hrl
      | cons p rest' =>
        obtain ⟨i, x⟩ := p
        have hun1 := (hun i).2 ⟨x, by rw [hre]; simp⟩
        have hi := hlt i hun1
        have hmem : i ∈ Region.ready .any ops listed := by
          refine mem_ready.2 ⟨hun1, ops[i], Array.getElem?_eq_getElem hi, fun e he hb => ?_⟩
          have hej := (hdr' i hi).1 _ (Array.getElem?_eq_getElem hi) e.on (edges_mem he hb)
          refine hft e.on (by omega) fun hu => ?_
          obtain ⟨x', hx'⟩ := (hun e.on).1 hu
          rw [hre] at hx' hso
          rcases List.mem_cons.1 hx' with e1 | e1
          · simp only [Prod.mk.injEq] at e1; omega
          · have := (List.pairwise_cons.1 hso).1 _ e1
            simp only at this; omega
        rw [hr] at hmem; simp at hmem
    · obtain ⟨h1, o, ho, hall⟩ := mem_ready.1 hi
      obtain ⟨y, hy⟩ := (hun i).1 h1
      have hilt := hlt i h1
      obtain ⟨pre, post, hsplit⟩ := List.append_of_mem hy
      subst hsplit
      have hxi : xs[i]? = some y := hrx _ hy
      have hedge : ∀ o', ops[i]? = some o' → ∀ j ∈ edges o', listed.getD j false = true := by
        intro o' ho' j hj
        rw [ho] at ho'
        simp only [Option.some.injEq] at ho'; subst ho'
        obtain ⟨e, he, hb, rfl⟩ := mem_edges hj
        exact hall e he hb
      have hpre : ∀ p ∈ pre, comm p.2 y = true ∧ ∀ j, ¬ c.used (vs p.1 j) := by
        intro p hp
        refine ⟨?_, hnew p (by simp [hp])⟩
        have hlt1 : p.1 < i := by
          rw [List.pairwise_append] at hso
          exact hso.2.2 p hp (i, y) (by simp)
        have hxp : xs[p.1]? = some p.2 := hrx p (by simp [hp])
        rcases (hdr' i hilt).2 y hxi p.1 hlt1 with h2 | h2
        · exfalso
          have h3 := getD_tf (ahead_listed hcl h2 hedge)
          have h4 := (hun p.1).2 ⟨p.2, by simp [hp]⟩
          rw [h4] at h3; cases h3
        · exact h2 _ hxp
      have hI : Inv c.used σ.tm σ.hp y := by
        refine ⟨fun t _ => Rep.uses S.good _ _ (S.tm t), fun r v _ _ => ?_⟩
        have := ObjRep.uses S.good r
        rw [S.hp] at this; exact this
      have h2 := pull pre σ hpre hI h
      have h3 : Ab.wpOp false (wpCall P true) (vs i) y σ (fun σ' => wpL P vs (pre ++ post) σ' K) := wpOp_iff.2 h2
      obtain ⟨y0, hco, hy0⟩ := hget i o y (by simpa using ho) hxi
      have h3 : Ab.wpOp false (wpCall P true) (vs i) y0 σ (fun σ' => wpL P vs (pre ++ post) σ' K) := by
        rcases hy0 with rfl | ⟨wb, nos, rfl⟩
        · exact h3
        · exact mb_wp h3
      have h4 := op_sound (Q := Q) (i := i) ho hco S H0 (fun j => hnew (i, y) hy j) (fun j j' e => (hinj i j i j' e).2) h3
      refine Go.wpOp_mono ?_ h4
      rintro a' w' ⟨σ', c', hk, S', rfl, H', hu⟩
      have hsub : ∀ p, p ∈ pre ++ post → p ∈ pre ++ (i, y) :: post := by
        intro p hp
        rcases List.mem_append.1 hp with h5 | h5
        · exact List.mem_append.2 (.inl h5)
        · exact List.mem_append.2 (.inr (List.mem_cons_of_mem _ h5))
      have hne : ∀ p, p ∈ pre ++ post → p.1 ≠ i := by
        intro p hp e
        rw [List.pairwise_append, List.pairwise_cons] at hso
        rcases List.mem_append.1 hp with h5 | h5
        · have := hso.2.2 p h5 (i, y) (by simp)
          simp only at this; omega
        · have := hso.2.1.1 p h5
          simp only at this; omega
      refine ih (listed.setIfInBounds i true) (pre ++ post) σ' a' c' ?_ (by simpa using hls) ?_ (fun p hp => hrx p (hsub p hp)) ?_ ?_ S' H' ?_ hk
      · simp at hrl ⊢; omega
      · intro k
        by_cases e : k = i
        · subst e
          constructor
          · intro h5
            have : k < listed.size := by omega
            simp [Array.getD, this] at h5
          · rintro ⟨x, hx⟩
            exact absurd rfl (hne _ hx)
        · rw [getD_set_ne true (Ne.symm e), hun k]
          constructor
          · rintro ⟨x, hx⟩
            refine ⟨x, ?_⟩
            rcases List.mem_append.1 hx with h5 | h5
            · exact List.mem_append.2 (.inl h5)
            · rcases List.mem_cons.1 h5 with h6 | h6
              · simp only [Prod.mk.injEq] at h6; exact absurd h6.1 e
              · exact List.mem_append.2 (.inr h6)
          · rintro ⟨x, hx⟩
            exact ⟨x, hsub _ hx⟩
      · rw [List.pairwise_append] at hso ⊢
        exact ⟨hso.1, (List.pairwise_cons.1 hso.2.1).2, fun p hp q hq => hso.2.2 p hp q (List.mem_cons_of_mem _ hq)⟩
      · intro k o' ho' hk' j hj
        refine getD_set_true ?_
        by_cases e : k = i
        · subst e; exact hedge o' ho' j hj
        · rw [getD_set_ne true (Ne.symm e)] at hk'
          exact hcl k o' ho' hk' j hj
      · intro p hp j hused
        rcases hu _ hused with h5 | ⟨z, h5⟩
        · exact hnew p (hsub p hp) j h5
        · exact hne p hp (hinj _ _ _ _ h5).1

theorem draw_ok (hm : P.follows .mixedOrders = true) : DrawOK P N drV := by
  intro w0 outsC c0 id ops xs ys hxs hdr σ a c Q K hQ S H0 h
  obtain ⟨S', H'⟩ := S.drawn H0 (c.w.drawn + 1)
  obtain ⟨vs, hnew, hfree⟩ := new_vs S'
  refine wp_region_any hm ?_
  obtain ⟨hlen, hget⟩ := cRegion_get hxs
  have hy : drB ops ys = true ∧ (ys = xs ∨ ys = vary ops xs) := by
    unfold drV at hdr
    by_cases h1 : drB ops xs = true
    · rw [if_pos h1] at hdr; simp only [Option.some.injEq] at hdr; subst hdr; exact ⟨h1, .inl rfl⟩
    · rw [if_neg h1] at hdr
      by_cases h2 : drB ops (vary ops xs) = true
      · rw [if_pos h2] at hdr; simp only [Option.some.injEq] at hdr; subst hdr; exact ⟨h2, .inr rfl⟩
      · rw [if_neg h2] at hdr; cases hdr
  have hyl : ops.toList.length = ys.length := by
    rcases hy.2 with e | e
    · rw [e]; exact hlen
    · rw [e]; simp only [vary, List.length_mapIdx]; exact hlen
  have hget : ∀ (i : Nat) o y, ops.toList[i]? = some o → ys[i]? = some y → ∃ x, cOper P N ops o = some x ∧ (y = x ∨ ∃ wb nos, y = x.mb wb nos) := by
    intro i o y ho hyi
    rcases hy.2 with e | e
    · rw [e] at hyi; exact ⟨y, hget i o y ho hyi, .inl rfl⟩
    · rw [e] at hyi
      simp only [vary, List.getElem?_mapIdx, Option.map_eq_some_iff] at hyi
      obtain ⟨x, hx, rfl⟩ := hyi
      exact ⟨x, hget i o x ho hx, .inr ⟨_, _, rfl⟩⟩
  have hsz : ys.length = ops.size := by simpa using hyl.symm
  have h1 := wpL_of ys 0 σ (h vs _ hnew)
  refine any_sound hyl hget hy.1 hnew.inj hQ ops.size _ (enum 0 ys) σ a { c with w := { c.w with drawn := c.w.drawn + 1 } } (by rw [enum_length, hsz]) (by simp) ?_ ?_ (enum_sorted ys 0) ?_ S' H' (fun p _ j => hfree _ _) h1
  · intro i
    by_cases hi : i < ops.size
    · have e1 : (Array.replicate ops.size false).getD i true = false := by simp [Array.getD, hi]
      simp only [e1, true_iff]
      exact ⟨ys[i], (enum_mem ys 0 _).2 ⟨Nat.zero_le _, by simp⟩⟩
    · constructor
      · intro h2; simp [Array.getD, hi] at h2
      · rintro ⟨x, hx⟩
        have h3 := ((enum_mem ys 0 _).1 hx).2
        have h4 := (List.getElem?_eq_some_iff.1 h3).1
        simp only at h4; omega
  · intro p hp
    simpa using ((enum_mem ys 0 p).1 hp).2
  · intro i o ho h2
    have hi := (Array.getElem?_eq_some_iff.1 ho).1
    simp [Array.getD, hi] at h2

end
end Go.Ab
