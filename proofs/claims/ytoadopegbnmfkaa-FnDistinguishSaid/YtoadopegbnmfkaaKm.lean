/- Contracts of the functions with which the exact laws measure, copy and compare what comes in. Conditions: none. -/
import Derived.Test.YtoadopegbnmfkaaKe
import Derived.Test.YtoadopegbnmfkaaM7
set_option linter.all false
namespace Go.Ab
open Go.Proofs
set_option maxRecDepth 20000
set_option maxHeartbeats 1000000

def szRows : List (List Int) → Int → Int
  | [], l => l
  | xs :: r, l => if l - xs.length < 0 then -1 else szRows r (l - xs.length)
def szLL (xss : List (List Int)) (l : Int) : Int := if l - xss.length < 0 then -1 else szRows xss (l - xss.length)

theorem szRows_ge : ∀ (xss : List (List Int)) (l : Int), 0 ≤ szRows xss l → 0 ≤ l → (∀ xs ∈ xss, (xs.length : Int) ≤ l) ∧ szRows xss l ≤ l
  | [], l, _, _ => ⟨by simp, by simp [szRows]⟩
  | xs :: r, l, h, hl => by
    simp only [szRows] at h ⊢
    split at h
    · omega
    · rename_i hlt
      obtain ⟨h1, h2⟩ := szRows_ge r _ h (by omega)
      rw [if_neg hlt]
      refine ⟨?_, by omega⟩
      intro ys hy
      rcases List.mem_cons.1 hy with rfl | hy
      · omega
      · have := h1 ys hy; omega

theorem szLL_ge {xss : List (List Int)} {l : Int} (h : 0 ≤ szLL xss l) : (xss.length : Int) ≤ l ∧ (∀ xs ∈ xss, (xs.length : Int) ≤ l) ∧ szLL xss l ≤ l := by
  unfold szLL at h ⊢
  split at h
  · omega
  · rename_i hlt
    obtain ⟨h1, h2⟩ := szRows_ge xss _ h (by omega)
    rw [if_neg hlt]
    exact ⟨by omega, fun xs hx => by have := h1 xs hx; omega, by omega⟩

theorem take_eq_step' {α : Type} {xs ys : List α} {i : Nat} (d : α) (h : i < xs.length) (h' : i < ys.length) (he : xs.take i = ys.take i) (hx : xs.getD i d = ys.getD i d) : xs.take (i + 1) = ys.take (i + 1) := by
  rw [List.getD_eq_getElem?_getD, List.getD_eq_getElem?_getD, List.getElem?_eq_getElem h, List.getElem?_eq_getElem h'] at hx
  simp only [Option.getD_some] at hx
  rw [List.take_succ_eq_append_getElem h, List.take_succ_eq_append_getElem h', he, hx]

theorem intsK_take {k : IntKind} {xs : List Int} {i : Nat} : (intsK k xs).take i = intsK k (xs.take i) := by simp [List.map_take]
theorem intsK_drop {k : IntKind} {xs : List Int} {i : Nat} : (intsK k xs).drop i = intsK k (xs.drop i) := by simp [List.map_drop]
theorem intsK_cat {k : IntKind} {xs ys : List Int} : intsK k xs ++ intsK k ys = intsK k (xs ++ ys) := by simp
theorem fill_step {α : Type} (xs : List α) (z d : α) (i : Nat) (h : i < xs.length) :
    ((xs.take i ++ List.replicate (xs.length - i) z).take i ++ [xs.getD i d]) ++ (xs.take i ++ List.replicate (xs.length - i) z).drop (i + 1) = xs.take (i + 1) ++ List.replicate (xs.length - (i + 1)) z := by
  have h1 : (xs.take i).length = i := by simp; omega
  have h2 : (xs.take i ++ List.replicate (xs.length - i) z).take i = xs.take i := by rw [List.take_append_of_le_length (by omega), List.take_of_length_le (by omega)]
  have h3 : (xs.take i ++ List.replicate (xs.length - i) z).drop (i + 1) = List.replicate (xs.length - (i + 1)) z := by
    rw [List.drop_append, h1, List.drop_eq_nil_of_le (by omega), List.nil_append, List.drop_replicate]
    congr 1; omega
  rw [h2, h3, List.take_succ_eq_append_getElem h]
  congr 2
  rw [List.getD_eq_getElem?_getD, List.getElem?_eq_getElem h]; rfl

abbrev nilS : AVal := .val (.slice none 0 0)
theorem rws_fill (xss : List (List Int)) (i : Nat) (h : i < xss.length) :
    ((rws (xss.take i) ++ List.replicate (xss.length - i) nilS).take i ++ [.ro (some none) 1 (ints (xss.getD i []))]) ++ (rws (xss.take i) ++ List.replicate (xss.length - i) nilS).drop (i + 1) = rws (xss.take (i + 1)) ++ List.replicate (xss.length - (i + 1)) nilS := by
  have h1 : (rws (xss.take i)).length = i := by simp [rws]; omega
  have h2 : (rws (xss.take i) ++ List.replicate (xss.length - i) nilS).take i = rws (xss.take i) := by rw [List.take_append_of_le_length (by omega), List.take_of_length_le (by omega)]
  have h3 : (rws (xss.take i) ++ List.replicate (xss.length - i) nilS).drop (i + 1) = List.replicate (xss.length - (i + 1)) nilS := by
    rw [List.drop_append, h1, List.drop_eq_nil_of_le (by omega), List.nil_append, List.drop_replicate]
    congr 1; omega
  rw [h2, h3, List.take_succ_eq_append_getElem h, rws_snoc]
  congr 3
  rw [List.getD_eq_getElem?_getD, List.getElem?_eq_getElem h]; rfl

theorem dnL_repNil {m : Nat} : dnL (List.replicate m nilS) = List.replicate m nilS := by simp [dnL_eq, AVal.dn]
theorem rep_flat1 {α : Type} {m : Nat} {a : α} : (List.replicate m [a]).flatten = List.replicate m a := by
  induction m with
  | zero => rfl
  | succ m ih => rw [List.replicate_succ, List.flatten_cons, ih]; rfl
theorem dnL_take {cs : List AVal} {i : Nat} : dnL (cs.take i) = (dnL cs).take i := by simp [dnL_eq, List.map_take]
theorem dnL_drop {cs : List AVal} {i : Nat} : dnL (cs.drop i) = (dnL cs).drop i := by simp [dnL_eq, List.map_drop]

theorem rwp_fill (ps : List (Nat × List Int)) (m i : Nat) (hp : ps.length = i) (hm : i < m) (n : Nat) (xs : List Int) :
    ((rwp ps ++ List.replicate (m - i) nilS).take i ++ [.ro (some (some (n + 1))) 1 (ints xs)]) ++ (rwp ps ++ List.replicate (m - i) nilS).drop (i + 1) = rwp (ps ++ [(n, xs)]) ++ List.replicate (m - (i + 1)) nilS := by
  have h1 : (rwp ps).length = i := by rw [rwp_len]; exact hp
  have h2 : (rwp ps ++ List.replicate (m - i) nilS).take i = rwp ps := by rw [List.take_append_of_le_length (by omega), List.take_of_length_le (by omega)]
  have h3 : (rwp ps ++ List.replicate (m - i) nilS).drop (i + 1) = List.replicate (m - (i + 1)) nilS := by
    rw [List.drop_append, h1, List.drop_eq_nil_of_le (by omega), List.nil_append, List.drop_replicate]
    congr 1; omega
  rw [h2, h3, rwp_snoc]

/-- Version s of a row that a call makes. -/
theorem call_rowIs {P : Program} {pu : Bool} {σ : St} {g : FuncId} {As args : List AVal} {d : Nat} {s : Nat → Nat} {K : St → Prop} {Q : List Int → Prop} (h : RowI P g args Q) (hco : CoeL σ.hp [] true args As) (hg : σ.hp d = .gone) (hex : ∃ xs, Q xs)
    (hk : ∀ xs v, Q xs → K (St.put ⟨σ.tm, upd σ.hp d (.row (s v) 1 true (ints xs))⟩ (some d) (.own d (s v)))) : wpCall P pu σ g As (some d) s K := by
  refine call_fn h hco (fun _ => ?_) ?_
  · obtain ⟨xs, hx⟩ := hex
    exact ⟨_, _, ints xs, 0, ⟨xs, rfl, hx⟩, flat_intsK, rfl, rfl⟩
  · rintro rows res ⟨cs, v, ⟨xs, rfl, hx⟩, hf, rfl, rfl⟩
    refine ⟨by simp, ?_, ?_⟩
    · rw [Option.getD_some, gone_one]; exact hg
    · rw [Option.getD_some, callHp_one, oren_row, renL_flat (ints xs) hf, List.length_singleton, ren_own_r0]
      exact hk xs v hx

end Go.Ab
