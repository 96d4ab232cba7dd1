/- Proofs of functions: objects in lists, calls that make a row. Conditions: none. -/
import Derived.Test.YtcijodimbjapeaaAb26
set_option linter.all false
namespace Go.Ab
set_option maxRecDepth 20000

theorem upd_L {l : List (Nat × AObj)} {d : Nat} {o : AObj} : upd (L .gone l) d o = L .gone ((d, o) :: l) := rfl

def goneL (hp : Nat → AObj) : List Nat → Nat → AObj
  | [] => hp
  | r :: rs => upd (goneL hp rs) r .gone

theorem goneL_nil {hp : Nat → AObj} : goneL hp [] = hp := rfl
theorem goneL_cons {hp : Nat → AObj} {r : Nat} {rs : List Nat} : goneL hp (r :: rs) = upd (goneL hp rs) r .gone := rfl

theorem goneL_eq {hp : Nat → AObj} : ∀ (rs : List Nat), (fun n => if n ∈ rs then .gone else hp n) = goneL hp rs
  | [] => by funext n; simp [goneL]
  | r :: rs => by
    rw [goneL_cons, ← goneL_eq rs]
    funext n
    unfold upd
    by_cases h : n = r
    · subst h; simp
    · simp [h]

/-- The objects behind an instruction, in the form of updates. -/
def AI.hq (σ : St) (ver : Nat) (d : Nat) : AI → Nat → AObj
  | .box x => upd σ.hp d (.box ver (σ.ev x).cells)
  | .new z => upd σ.hp d (.box ver (z.map .val))
  | .bsl k _ xs => upd (goneL σ.hp (owned (xs.flatMap fun x => (σ.ev x).cells))) d (.row ver k true ((xs.flatMap fun x => (σ.ev x).cells).map (frz σ.hp)))
  | .bsln _ k xs => upd (goneL σ.hp (owned (xs.flatMap fun x => (σ.ev x).cells))) d (.row ver k true ((xs.flatMap fun x => (σ.ev x).cells).map (frz σ.hp)))
  | .sto _ x v => match σ.ev x with
    | .ptr r _ off => (match σ.hp r with
      | .box ver' cs => upd σ.hp r (.box ver' (putAt cs off (σ.ev v).cells))
      | .row ver' k nn cs => upd (goneL σ.hp (owned (σ.ev v).cells)) r (.row ver' k nn (putAt cs off ((σ.ev v).cells.map (frz σ.hp))))
      | _ => σ.hp)
    | _ => σ.hp
  | .app k _ s x => match σ.ev s with
    | .own r _ => (match σ.hp r with
      | .row _ _ nn cs => upd σ.hp r (.row ver k (nn || decide ((σ.slc (σ.ev x)).length ≠ 0)) (cs ++ σ.slc (σ.ev x)))
      | _ => σ.hp)
    | _ => if (σ.slc (σ.ev x)).length = 0 then σ.hp else upd σ.hp d (.row ver k true (σ.slc (σ.ev x)))
  | .mks k _ z l _ => match σ.ev l with
    | .val (.int _ n) => upd σ.hp d (.row ver k true (List.replicate n.toNat (z.map .val)).flatten)
    | _ => σ.hp
  | .slc k x lo hi => match σ.ev x with
    | .own r _ => (match σ.hp r with
      | .row _ _ nn cs => (match σ.bound 0 lo, σ.bound (cs.length / k) hi with | some l, some h => upd σ.hp r (.row ver k nn ((cs.take (h * k)).drop (l * k))) | _, _ => σ.hp)
      | _ => σ.hp)
    | _ => σ.hp
  | .slc0 k x => upd σ.hp d (.row ver k (σ.nn (σ.ev x)) [])
  | .mkm => upd σ.hp d (.map ver [] [])
  | .mup _ x i v => match σ.ev x, σ.ev i with
    | .mp r _, .val k => (match σ.hp r with
      | .map ver' ks vs => (match findKeyAt k ks 0 with
        | some (some j) => upd (goneL σ.hp (owned [σ.ev v])) r (.map ver' ks (vs.set j (frz σ.hp (σ.ev v))))
        | _ => upd (goneL σ.hp (owned [σ.ev v])) r (.map ver' (ks ++ [k]) (vs ++ [frz σ.hp (σ.ev v)])))
      | _ => σ.hp)
    | _, _ => σ.hp
  | _ => σ.hp

theorem upd_gone {hp : Nat → AObj} {r : Nat} {o : AObj} {rs : List Nat} : (fun n => if n = r then o else if n ∈ rs then .gone else hp n) = upd (goneL hp rs) r o := by
  rw [← goneL_eq]; rfl

theorem hpw_eq (σ : St) (ver d : Nat) (x : AI) : x.hpw σ ver d = x.hq σ ver d := by
  cases x with
  | bsl k fz xs => exact upd_gone
  | bsln nos k xs => exact upd_gone
  | sto n x v =>
    simp only [AI.hpw, AI.hq]
    cases hx : σ.ev x with
    | ptr r v' off =>
      simp only []
      cases hr : σ.hp r with
      | row v k nn cs => exact upd_gone
      | _ => rfl
    | _ => rfl
  | mup kd x i v =>
    simp only [AI.hpw, AI.hq]
    cases hx : σ.ev x with
    | mp r v' =>
      cases hi : σ.ev i with
      | val k =>
        simp only []
        cases hr : σ.hp r with
        | map v ks vs =>
          simp only []
          cases hk : findKeyAt k ks 0 with
          | none => exact upd_gone
          | some q => cases q <;> exact upd_gone
        | _ => rfl
      | _ => rfl
    | _ => rfl
  | _ => rfl

mutual
/-- A value that leads to no object and has no name. -/
def AVal.flat : AVal → Prop
  | .any => True
  | .val _ => True
  | .ro nm _ cs => (nm = none ∨ nm = some none ∨ nm = some (some 0)) ∧ flatL cs
  | .own _ _ => False
  | .st cs => flatL cs
  | .tup cs => flatL cs
  | .ptr _ _ _ => False
  | .rp cs _ => flatL cs
  | .mp _ _ => False
  | .clo _ cs => flatL cs
def flatL : List AVal → Prop
  | [] => True
  | A :: cs => A.flat ∧ flatL cs
end

mutual
theorem ren_flat {f : Nat → Option Nat} {s : Nat → Nat} : ∀ (A : AVal), A.flat → A.ren f s = A
  | .any, _ => by simp only [AVal.ren]
  | .val _, _ => by simp only [AVal.ren]
  | .ro nm k cs, h => by
    simp only [AVal.flat] at h
    obtain ⟨rfl | rfl | rfl, h⟩ := h <;> simp only [AVal.ren, renL_flat cs h, rnNm]
  | .own _ _, h => by simp only [AVal.flat] at h
  | .st cs, h => by simp only [AVal.flat] at h; simp only [AVal.ren, renL_flat cs h]
  | .tup cs, h => by simp only [AVal.flat] at h; simp only [AVal.ren, renL_flat cs h]
  | .ptr _ _ _, h => by simp only [AVal.flat] at h
  | .rp cs _, h => by simp only [AVal.flat] at h; simp only [AVal.ren, renL_flat cs h]
  | .mp _ _, h => by simp only [AVal.flat] at h
  | .clo _ cs, h => by simp only [AVal.flat] at h; simp only [AVal.ren, renL_flat cs h]
theorem renL_flat {f : Nat → Option Nat} {s : Nat → Nat} : ∀ (cs : List AVal), flatL cs → renL f s cs = cs
  | [], _ => by simp only [renL]
  | A :: cs, h => by
    simp only [flatL] at h
    simp only [renL, ren_flat A h.1, renL_flat cs h.2]
end

theorem flat_ints (xs : List Int) : flatL (ints xs) := by
  induction xs with
  | nil => simp [flatL]
  | cons x xs ih => simp only [ints, List.map_cons, flatL, AVal.flat, true_and]; exact ih

/-- A contract of a function that changes nothing and gives one new row. -/
def RowF (P : Program) (g : FuncId) (args : List AVal) (k : Nat) (nn : Bool) (cs : List AVal) : Prop := Con P g [] args false fun outs rows res => outs = [] ∧ ∃ v, rows = [.row v k nn cs] ∧ res = .own 6000 v

theorem fresh_vals {cs : List AVal} (h : ∀ A ∈ cs, ∃ x, A = .val x) : freshL cs := (freshL_iff cs).2 fun A hA => by obtain ⟨x, rfl⟩ := h A hA; simp [AVal.fresh]

theorem flat_vals : ∀ {cs : List AVal}, (∀ A ∈ cs, ∃ x, A = .val x) → flatL cs
  | [], _ => by simp [flatL]
  | A :: cs, h => by
    obtain ⟨x, hx⟩ := h A (by simp)
    subst hx
    simp only [flatL, AVal.flat, true_and]
    exact flat_vals fun B hB => h B (by simp [hB])

theorem vals_ints (xs : List Int) : ∀ A ∈ ints xs, ∃ x, A = .val x := by
  intro A hA
  simp only [ints, List.mem_map] at hA
  obtain ⟨x, _, rfl⟩ := hA
  exact ⟨_, rfl⟩

/-- What is asked of the end of a function that gives one new row of plain values. -/
theorem row_of {P : Program} {g : FuncId} {F : AFn} (hm : P.follows .mixedOrders = true) (hF : cFn drV P g F) {args : List AVal} {k : Nat} {nn : Bool} {cs : List AVal} (hargs : args.length = F.nparams)
    (hv : ∀ A ∈ cs, ∃ x, A = .val x) (h : wpD P F.code (finQ fun σ => (∀ x ∈ F.res, σ.there x) ∧ ∃ r v, r < 5000 ∧ σ.value F.res = .own r v ∧ σ.hp r = .row v k nn cs) (St.init args [])) : RowF P g args k nn cs := by
  refine con_of_wp (draw_ok hm) hF hargs (by simp) (wpC_of_wpD _ _ _ _ (fun e σ he => ?_) h)
  have : ((∀ x ∈ F.res, σ.there x) ∧ ∃ r v, r < 5000 ∧ σ.value F.res = .own r v ∧ σ.hp r = .row v k nn cs) → ∃ ids, Ret 0 false ids (fun outs rows res => outs = [] ∧ ∃ v, rows = [.row v k nn cs] ∧ res = .own 6000 v) F.res σ := by
    rintro ⟨h1, r, v, hr, h2, h3⟩
    have e1 : expo [r] r = some 6000 := by
      unfold expo
      rw [if_neg (by omega)]
      simp [List.idxOf?, List.findIdx?, List.findIdx?.go]
    refine ⟨[r], h1, ⟨rfl, v, ?_, ?_⟩, by omega, by simp, by simp, by simpa using hr, fun _ => ⟨?_, ?_, fun j hj => by omega⟩⟩
    · simp only [List.map_cons, List.map_nil, h3, AObj.ren, renL_flat cs (flat_vals hv), id]
    · rw [h2]; simp only [AVal.ren, e1, id, Option.getD_some]
    · rw [h2]; simp [AVal.fresh]
    · intro n hn
      simp only [List.mem_singleton] at hn
      subst hn
      rw [h3]; exact fresh_vals hv
  cases e with
  | exit _ => exact he
  | normal => exact this he
  | ret => exact this he

theorem ev_t {σ : St} {n : Nat} : St.ev σ (.t n) = σ.tm n := rfl
theorem ev_c {σ : St} {v : Value} : St.ev σ (.c v) = .val v := rfl
theorem ev_f {σ : St} {g : FuncId} : St.ev σ (.f g) = .clo g [] := rfl
theorem frz_ints {hp : Nat → AObj} {xs : List Int} : (ints xs).map (frz hp) = ints xs := by simp [ints, frz]
theorem one_ints {hp : Nat → AObj} {xs : List Int} : (∀ A ∈ ints xs, One hp A) = True := by
  refine eq_true ?_
  intro A hA
  simp only [ints, List.mem_map] at hA
  obtain ⟨x, _, rfl⟩ := hA
  rfl
theorem owned_ints {xs : List Int} : owned (ints xs) = [] := by
  induction xs with
  | nil => rfl
  | cons x xs ih => exact ih
theorem upd_hit {hp : Nat → AObj} {d : Nat} {o : AObj} : upd hp d o d = o := by simp [upd]
theorem upd_miss {hp : Nat → AObj} {d n : Nat} {o : AObj} (h : n ≠ d) : upd hp d o n = hp n := by simp [upd, h]
theorem one_iv {hp : Nat → AObj} {k : IntKind} {n : Int} : One hp (.val (.int k n)) = True := by simp [One, Value.oneCell']
theorem one_bv {hp : Nat → AObj} {b : Bool} : One hp (.val (.bool b)) = True := by simp [One, Value.oneCell']
theorem one_str {hp : Nat → AObj} {b : ByteArray} : One hp (.val (.string b)) = True := by simp [One, Value.oneCell']
theorem one_nil {hp : Nat → AObj} : One hp (.val (.slice none 0 0)) = True := by simp [One, Value.oneCell']
theorem one_ro {hp : Nat → AObj} {nm : Option (Option Nat)} {k : Nat} {cs : List AVal} : One hp (.ro nm k cs) = True := by simp [One]
theorem ints_app {xs ys : List Int} : ints xs ++ ints ys = ints (xs ++ ys) := by simp [ints]

theorem ints_rep {n : Nat} {x : Int} : (List.replicate n [AVal.val (.int .i64 x)]).flatten = ints (List.replicate n x) := by
  induction n with
  | zero => rfl
  | succ n ih => rw [List.replicate_succ, List.replicate_succ, List.flatten_cons, ih]; rfl
theorem ints_set {xs : List Int} {i : Nat} {x : Int} (h : i < xs.length) : (ints xs).take i ++ (AVal.val (.int .i64 x) :: (ints xs).drop (i + 1)) = ints (xs.set i x) := by
  rw [List.set_eq_take_append_cons_drop, if_pos h]
  simp [ints]

theorem fill_next (xs : List Int) (z : Int) (i : Nat) (h : i < xs.length) : (ints (xs.take i ++ List.replicate (xs.length - i) z)).take i ++ [AVal.val (.int .i64 (xs.getD i 0))] ++
    (ints (xs.take i ++ List.replicate (xs.length - i) z)).drop (i + 1) = ints (xs.take (i + 1) ++ List.replicate (xs.length - (i + 1)) z) := by
  obtain ⟨k, hk⟩ : ∃ k, xs.length - i = k + 1 := ⟨xs.length - i - 1, by omega⟩
  have hk2 : xs.length - (i + 1) = k := by omega
  have hl : (xs.take i).length = i := by simp; omega
  have e1 : (xs.take i ++ List.replicate (xs.length - i) z).take i = xs.take i := by rw [List.take_append_of_le_length (by omega), List.take_of_length_le (by omega)]
  have e2 : (xs.take i ++ List.replicate (xs.length - i) z).drop (i + 1) = List.replicate k z := by
    rw [List.drop_append, hl, hk]
    have : i + 1 - i = 1 := by omega
    rw [this]
    simp [List.replicate_succ]; omega
  have e3 : xs.take (i + 1) = xs.take i ++ [xs.getD i 0] := by
    rw [List.take_add_one]
    simp [List.getD_eq_getElem?_getD, h]
  have f1 : (ints (xs.take i ++ List.replicate (xs.length - i) z)).take i = ints (xs.take i) := by rw [ints, ← List.map_take, e1]
  have f2 : (ints (xs.take i ++ List.replicate (xs.length - i) z)).drop (i + 1) = ints (List.replicate k z) := by rw [ints, ← List.map_drop, e2]
  rw [f1, f2, hk2, e3]
  simp [ints]

theorem callHp_one {hp : Nat → AObj} {d : Nat} {s : Nat → Nat} {o : AObj} : callHp hp [] d s [] [o] = upd hp d (o.ren (rid [] d 1) s) := by
  funext n
  by_cases h : n = d
  · have h1 : rid [] d [o].length 6000 = some n := by
      have := rid_new (m := []) (d := d) (nr := 1) (i := 0) (by omega)
      simpa [newId, h] using this
    rw [callHp_at (by simp) (by simp) h1, sv_nil]
    simp [upd, h, outHp]
  · rw [callHp_not]
    · simp [upd, h]
    · rintro ⟨q, hq⟩
      obtain ⟨i, hi, e⟩ := rid_nil hq
      simp at hi
      subst hi
      exact h (by simpa [newId] using e)

theorem call_row {P : Program} {pu : Bool} {σ : St} {g : FuncId} {As args : List AVal} {k d : Nat} {nn : Bool} {cs : List AVal} {s : Nat → Nat} {K : St → Prop} (h : RowF P g args k nn cs) (hco : CoeL σ.hp [] true args As)
    (hf : flatL cs) (hg : σ.hp d = .gone) (hk : ∀ v, K (St.put ⟨σ.tm, upd σ.hp d (.row v k nn cs)⟩ (some d) (.own d v))) : wpCall P pu σ g As (some d) s K := by
  refine .inl ⟨[], [], args, false, _, h, ⟨by simp, rfl, by simp, by simp, by simp⟩, hco, fun _ => ⟨rfl, [], [.row 0 k nn cs], .own 6000 0, rfl, 0, rfl, rfl⟩, ?_⟩
  rintro outs rows res ⟨rfl, v, rfl, rfl⟩
  refine ⟨rfl, by simp, ?_, ?_⟩
  · intro i hi
    simp at hi; subst hi
    simpa [newId] using hg
  · have h1 := hk (sv σ.hp [] s v)
    have e1 : (AVal.own 6000 v).ren (rid [] ((some d).getD 0) [AObj.row v k nn cs].length) (sv σ.hp [] s) = .own d (sv σ.hp [] s v) := by
      have := rid_new (m := []) (d := d) (nr := 1) (i := 0) (by omega)
      simp only [AVal.ren, Option.getD_some, List.length_singleton]
      rw [show (6000 : Nat) = 6000 + 0 from rfl, this]
      simp [newId]
    rw [e1]
    simp only [Option.getD_some]
    rw [callHp_one]
    simp only [AObj.ren, renL_flat cs hf]
    rw [sv_nil] at h1 ⊢
    exact h1

end Go.Ab
