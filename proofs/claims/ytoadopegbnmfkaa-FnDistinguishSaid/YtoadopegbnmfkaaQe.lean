/- What the proofs of exact laws with an automaton as result have in common. Conditions: none. -/
import Derived.Test.YtoadopegbnmfkaaQc
import Derived.Test.YtoadopegbnmfkaaQd
set_option linter.all false
namespace Go.Ab
open Go.Proofs
set_option maxRecDepth 20000
set_option maxHeartbeats 2000000

theorem call_namT {P : Program} {σ : St} {g : FuncId} {As args : List AVal} {d : Nat} {s : Nat → Nat} {K : St → Prop} {ok : Bool} {m : Int} {xss : List (List Int)} {code : Int} (hs : ∀ x y, s x = s y → x = y) (h : NamR P g args ok m xss code)
    (hco : CoeL σ.hp [] true args As) (hg : σ.hp d = .gone)
    (h1 : ok = true → ∀ v ps, ps.map (·.2) = xss → DJ ps → (∀ p ∈ ps, ∃ y, p.1 = s y) → K (St.put ⟨σ.tm, upd σ.hp d (.row v 1 true (rwp ps))⟩ (some d) (.tup [.st [iv m, .own d v], iv code])))
    (h2 : ok = false → K (St.put ⟨σ.tm, σ.hp⟩ (some d) (.tup [.st [iv 0, nilS], iv code]))) : wpCall P false σ g As (some d) s K := by
  refine call_fn h hco (fun e => by cases e) ?_
  intro rows res hR
  cases ok with
  | true =>
    simp only [if_true] at hR
    obtain ⟨v, ps, rfl, hp, hd, rfl⟩ := hR
    refine ⟨by simp, ?_, ?_⟩
    · simp only [Option.getD_some, gone_one]; exact hg
    · simp only [Option.getD_some, renL_rwp, List.length_singleton, Nat.not_lt_zero, range1, ren_val, ren_any, ren_ro, rnNm_n, rnNm_sn, rnNm_o, rnNm_s, ren_st, ren_tup, renL_nil, renL_cons, renL_intsK, renL_rws, renL_rwn, oren_box, oren_row, oren_map, ren_own_e0, ren_own_e1, ren_own_e2, ren_ptr_e0, ren_mp_e0, ren_mp_e1, ren_own_r0, ren_own_r1, ren_own_r2, ren_ptr_r0, ren_mp_r0, ren_mp_r1, List.range_zero, callHp_nil, callHp_one, callHp_two, gone_nil, gone_one, gone_two, AVal.fresh, freshL, fresh_intsK, fresh_rws, AObj.fresh, id, Option.isSome_some, or_true, true_or]
      exact h1 rfl _ _ (by rw [List.map_map]; exact hp) (hd.ren hs) (fun p hp => by obtain ⟨q, _, rfl⟩ := List.mem_map.1 hp; exact ⟨q.1, rfl⟩)
  | false =>
    simp only [Bool.false_eq_true, if_false] at hR
    obtain ⟨rfl, rfl⟩ := hR
    refine ⟨by simp, by simp, ?_⟩
    simp only [Nat.not_lt_zero, range1, ren_val, ren_any, ren_ro, rnNm_n, rnNm_sn, rnNm_o, rnNm_s, ren_st, ren_tup, renL_nil, renL_cons, renL_intsK, renL_rws, renL_rwn, oren_box, oren_row, oren_map, ren_own_e0, ren_own_e1, ren_own_e2, ren_ptr_e0, ren_mp_e0, ren_mp_e1, ren_own_r0, ren_own_r1, ren_own_r2, ren_ptr_r0, ren_mp_r0, ren_mp_r1, List.range_zero, callHp_nil, callHp_one, callHp_two, gone_nil, gone_one, gone_two, AVal.fresh, freshL, fresh_intsK, fresh_rws, AObj.fresh, id, Option.isSome_some, or_true, true_or]
    exact h2 rfl

theorem ws3 {ws : List (List Int)} (h1 : 1 ≤ ws.length) (h2 : ws.length ≤ 3) : (∃ a, ws = [a]) ∨ (∃ a b, ws = [a, b]) ∨ ∃ a b c, ws = [a, b, c] := by
  match ws, h1, h2 with
  | [a], _, _ => exact .inl ⟨a, rfl⟩
  | [a, b], _, _ => exact .inr (.inl ⟨a, b, rfl⟩)
  | [a, b, c], _, _ => exact .inr (.inr ⟨a, b, c, rfl⟩)
  | _ :: _ :: _ :: _ :: _, _, h => simp at h
  | [], h, _ => simp at h

theorem nam1 {ps : List (Nat × List Int)} {a : List Int} (h : ps.map (·.2) = [a]) (_ : DJ ps) (_ : a ≠ []) : ∃ p, ps = [(p, a)] := by
  match ps, h with
  | [(p, x)], h => simp at h; subst h; exact ⟨p, rfl⟩
  | _ :: _ :: _, h => simp at h
  | [], h => simp at h
theorem nam2 {ps : List (Nat × List Int)} {a b : List Int} (h : ps.map (·.2) = [a, b]) (hd : DJ ps) (ha : a ≠ []) (hb : b ≠ []) : ∃ p q, ps = [(p, a), (q, b)] ∧ p ≠ q := by
  match ps, h, hd with
  | [(p, x), (q, y)], h, hd =>
    simp at h; obtain ⟨rfl, rfl⟩ := h
    refine ⟨p, q, rfl, ?_⟩
    simp [DJ, ha, hb] at hd; exact hd
  | [_], h, _ => simp at h
  | _ :: _ :: _ :: _, h, _ => simp at h
  | [], h, _ => simp at h
theorem nam3 {ps : List (Nat × List Int)} {a b c : List Int} (h : ps.map (·.2) = [a, b, c]) (hd : DJ ps) (ha : a ≠ []) (hb : b ≠ []) (hc : c ≠ []) : ∃ p q r, ps = [(p, a), (q, b), (r, c)] ∧ p ≠ q ∧ p ≠ r ∧ q ≠ r := by
  match ps, h, hd with
  | [(p, x), (q, y), (r, z)], h, hd =>
    simp at h; obtain ⟨rfl, rfl, rfl⟩ := h
    refine ⟨p, q, r, rfl, ?_⟩
    simp [DJ, ha, hb, hc] at hd; exact ⟨hd.1.1, hd.1.2, hd.2⟩
  | [_], h, _ => simp at h
  | [_, _], h, _ => simp at h
  | _ :: _ :: _ :: _ :: _, h, _ => simp at h
  | [], h, _ => simp at h

theorem ints_ne {a : List Int} (h : a ≠ []) : ints a ≠ [] := fun e => h (by simpa using e)
theorem wo_any {n : Nat} : AVal.wo n .any = .any := by simp only [AVal.wo]
theorem rwp_cons {p : Nat} {x : List Int} {ps : List (Nat × List Int)} : rwp ((p, x) :: ps) = .ro (some (some (p + 1))) 1 (ints x) :: rwp ps := rfl
theorem rwn_cons {x : List Int} {xs : List (List Int)} : rwn (x :: xs) = .ro none 1 (ints x) :: rwn xs := rfl
theorem rwn_nil : rwn [] = [] := rfl

end Go.Ab
