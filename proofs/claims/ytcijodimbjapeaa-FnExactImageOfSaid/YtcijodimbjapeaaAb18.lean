/- From a function's body to its contract. Conditions: none. -/
import Derived.Test.YtcijodimbjapeaaAb17
set_option linter.all false
namespace Go.Ab
set_option maxRecDepth 20000

/-- Numbered from i on. -/
def enum {α : Type} (i : Nat) : List α → List (Nat × α)
  | [] => []
  | x :: xs => (i, x) :: enum (i + 1) xs

theorem L_enum {α : Type} (z : α) : ∀ (xs : List α) (i n : Nat), L z (enum i xs) n = if n < i then z else xs.getD (n - i) z
  | [], i, n => by simp [enum, L]
  | x :: xs, i, n => by
    simp only [enum, L]
    by_cases h : n = i
    · subst h
      rw [if_pos rfl, if_neg (by omega), Nat.sub_self]; rfl
    · rw [if_neg h, L_enum z xs (i + 1) n]
      by_cases h2 : n < i
      · rw [if_pos (by omega), if_pos h2]
      · rw [if_neg (by omega), if_neg h2]
        obtain ⟨k, hk⟩ : ∃ k, k = n - (i + 1) := ⟨_, rfl⟩
        have h3 : n - i = k + 1 := by omega
        rw [h3, ← hk]; rfl

theorem L_enum_in {ins : List AObj} (h : ins.length ≤ 1000) : L .gone (enum 5000 ins) = outHp ins [] := by
  funext n
  rw [L_enum]
  have e : outHp ins [] n = if n < 5000 then .gone else if n < 6000 then ins.getD (n - 5000) .gone else if n < 7000 then ([] : List AObj).getD (n - 6000) .gone else .gone := rfl
  rw [e]
  by_cases h1 : n < 5000
  · rw [if_pos h1, if_pos h1]
  · rw [if_neg h1, if_neg h1]
    by_cases h2 : n < 6000
    · rw [if_pos h2]
    · rw [if_neg h2]
      have h3 : ins.getD (n - 5000) .gone = .gone := by
        rw [List.getD_eq_getElem?_getD, List.getElem?_eq_none (by omega)]; rfl
      rw [h3]
      by_cases h4 : n < 7000
      · rw [if_pos h4]; simp
      · rw [if_neg h4]

/-- The state in which a function begins. -/
def St.init (args : List AVal) (ins : List AObj) : St := { tm := L .any (enum 0 args), hp := L .gone (enum 5000 ins) }

/-- The value of some results, as a function hands them back. -/
def resVal : List Value → Value
  | [v] => v
  | vs => .tuple vs.toArray

def resOne (tmps : Array Value) : ResultVar → Sem Value
  | .tmp t => pure (tmps.getD t undef)
  | .cell a t => do loadVar t (← asAddr (tmps.getD a undef))

theorem run_results {P : Program} {w0 : World} {outs : Nat → Prop} {N : Nat} {σ : St} {a : Act} {c : Cz} (S : Sim w0 outs N σ a c) {fn : Func} {rs : List ARes} (h : cRes P fn.results.toList = some rs) (hth : ∀ x ∈ rs, σ.there x) :
    ∃ v, (results fn a.tmps).run P c.w = .ok v c.w ∧ Rep c (σ.value rs) v := by
  have gen : ∀ (l : List ResultVar) (rs : List ARes), cRes P l = some rs → (∀ x ∈ rs, σ.there x) → ∃ vs, (l.mapM (resOne a.tmps)).run P c.w = .ok vs c.w ∧ RepL c (rs.map σ.value1) vs := by
    intro l
    induction l with
    | nil => intro rs h _; simp [cRes] at h; subst h; exact ⟨[], by simp, by simp [RepL]⟩
    | cons x l ih =>
      intro rs h hth
      simp only [cRes] at h
      split at h
      · rename_i y ys hy hys
        simp only [Option.some.injEq] at h; subst h
        obtain ⟨vs, hvs, hrep⟩ := ih ys hys fun z hz => hth z (by simp [hz])
        have hone : ∃ v, (resOne a.tmps x).run P c.w = .ok v c.w ∧ Rep c (σ.value1 y) v := by
          have hy2 := hth y (by simp)
          cases x with
          | tmp t =>
            simp only [cRes1, Option.some.injEq] at hy; subst hy
            exact ⟨_, rfl, S.tm t⟩
          | cell q t =>
            simp only [cRes1] at hy
            split at hy
            · rename_i hsz
              simp only [Option.some.injEq] at hy; subst hy
              simp only [St.there] at hy2
              split at hy2
              · rename_i cs off hat
                obtain ⟨ad, u, h1, h2, h3⟩ := load1_sound S (S.tm q) hsz hat hy2
                refine ⟨u, ?_, ?_⟩
                · simp [resOne, h1, asAddr, h2]
                · simp only [St.value1, hat]; exact h3
              · exact hy2.elim
            · rename_i n hsz
              split at hy
              · cases hy
              · rename_i hn
                simp only [Option.some.injEq] at hy; subst hy
                simp only [St.there] at hy2
                split at hy2
                · rename_i cs off hat
                  obtain ⟨ad, u, h1, h2, h3⟩ := loadn_sound S (S.tm q) hsz (by omega) hat hy2
                  refine ⟨u, ?_, ?_⟩
                  · simp [resOne, h1, asAddr, h2]
                  · simp only [St.value1, hat]; exact h3
                · exact hy2.elim
            · cases hy
        obtain ⟨v, hv, hr⟩ := hone
        refine ⟨v :: vs, ?_, by simp only [List.map_cons, RepL]; exact ⟨hr, hrep⟩⟩
        simp only [List.mapM_cons, Sem.run_bind, hv, hvs, Sem.run_pure, Result.andThen_ok]
      · cases h
  obtain ⟨vs, hvs, hrep⟩ := gen _ _ h hth
  have e : results fn a.tmps = (do
      let vs ← fn.results.mapM (resOne a.tmps)
      pure (if h : vs.size = 1 then vs[0] else .tuple vs)) := by
    unfold results
    congr 2
  refine ⟨resVal vs, ?_, ?_⟩
  · rw [e, Array.mapM_eq_mapM_toList]
    simp only [Sem.run_bind, Sem.run_map, hvs, Result.andThen_ok, Sem.run_pure]
    cases vs with
    | nil => simp [resVal]
    | cons t rs =>
      cases rs with
      | nil => simp [resVal]
      | cons t' rs => simp [resVal]
  · have hlen := hrep.length
    cases rs with
    | nil => cases vs <;> simp_all [St.value, Rep, resVal, RepL]
    | cons x rs =>
      cases rs with
      | nil =>
        cases vs with
        | nil => simp at hlen
        | cons v vs =>
          cases vs with
          | nil => simp only [List.map_cons, List.map_nil, RepL] at hrep; exact hrep.1
          | cons v' vs => simp at hlen
      | cons x' rs =>
        cases vs with
        | nil => simp at hlen
        | cons v vs =>
          cases vs with
          | nil => simp at hlen
          | cons v' vs => simp only [St.value, Rep, resVal]; exact ⟨_, rfl, by simpa using hrep⟩

/-- The number that an object that is handed back had. -/
def orig (ids : List Nat) (n : Nat) : Nat := if n < 6000 then n else ids.getD (n - 6000) 0

theorem expo_in {ids : List Nat} {j : Nat} (hj : j < 1000) : expo ids (5000 + j) = some (5000 + j) := by
  unfold expo; rw [if_pos (by omega), if_pos (by omega)]

theorem expo_id {ids : List Nat} (hnd : ids.Nodup) {i n : Nat} (h : ids[i]? = some n) (hn : n < 5000) : expo ids n = some (6000 + i) := by
  unfold expo
  rw [if_neg (by omega)]
  have hm : ids.idxOf? n = some i := by
    obtain ⟨h1, h2⟩ := List.getElem?_eq_some_iff.1 h
    rw [List.idxOf?_eq_some_iff]
    refine ⟨h1, by simp [h2], ?_⟩
    intro j hj
    have : ids[j] ≠ ids[i] := fun e => by
      have := (List.getElem_inj hnd).1 e
      omega
    rw [h2] at this
    simpa using this
  rw [hm]

theorem expo_some {ids : List Nat} {n k : Nat} (h : expo ids n = some k) : (∃ j, n = 5000 + j ∧ j < 1000 ∧ k = 5000 + j) ∨ ∃ i, k = 6000 + i ∧ ids[i]? = some n := by
  unfold expo at h
  by_cases h1 : 5000 ≤ n
  · rw [if_pos h1] at h
    by_cases h2 : n < 6000
    · rw [if_pos h2] at h
      simp only [Option.some.injEq] at h
      obtain ⟨j, hj⟩ : ∃ j, j = n - 5000 := ⟨_, rfl⟩
      exact .inl ⟨j, by omega, by omega, by omega⟩
    · rw [if_neg h2] at h; cases h
  · rw [if_neg h1] at h
    right
    split at h
    · rename_i i hi
      simp only [Option.some.injEq] at h
      obtain ⟨h3, h4, _⟩ := List.idxOf?_eq_some_iff.1 hi
      exact ⟨i, h.symm, by rw [List.getElem?_eq_getElem h3]; simpa using h4⟩
    · cases h

theorem con_of_wp {P : Program} {dr : Array Oper → List AOp → Option (List AOp)} {g : FuncId} {F : AFn} (hdr : DrawOK P F.ntmps dr) (hF : cFn dr P g F) {ins : List AObj} {args : List AVal} {sh : Bool} {R : List AObj → List AObj → AVal → Prop}
    (hargs : args.length = F.nparams) (hins : ins.length ≤ 1000)
    (h : wpC P F.code (fun e σ => match e with | .exit _ => False | _ => ∃ ids, Ret ins.length sh ids R F.res σ) (St.init args ins)) : Con P g ins args sh R := by
  obtain ⟨fn, code, hfn, hbody, hnum, hnp, hnt, hres, hcode⟩ := hF
  refine ⟨⟨fn, hfn, by rw [hbody]; rfl, hnum⟩, ?_⟩
  intro c0 outsB vs G0 hhp hrep
  have hvl : vs.length = F.nparams := by rw [← hargs]; exact hrep.length.symm
  refine calls_of_wp hfn hbody ?_
  have S : Sim c0.w outsB F.ntmps (St.init args ins) { tmps := vs.toArray ++ Array.replicate (fn.ntmps - vs.toArray.size) undef, defers := [] } c0 := by
    refine ⟨G0, ?_, ?_, ?_, rfl⟩
    · rw [hhp]; exact (L_enum_in hins).symm
    · simp; omega
    · intro n
      show Rep c0 (L .any (enum 0 args) n) _
      rw [L_enum, if_neg (by omega), Nat.sub_zero]
      rcases Nat.lt_or_ge n args.length with hn | hn
      · obtain ⟨v, hv, hr⟩ := hrep.get (List.getElem?_eq_getElem hn)
        have h2 : (vs.toArray ++ Array.replicate (fn.ntmps - vs.toArray.size) undef).getD n undef = v := by
          have hlt : n < vs.length := by omega
          have h3 : vs[n] = v := by
            rw [List.getElem?_eq_getElem hlt] at hv; simpa using hv
          rw [Array.getD_eq_getD_getElem?, Array.getElem?_append_left (by simpa using hlt)]
          simp [hlt, h3]
        rw [h2, List.getD_eq_getElem?_getD, List.getElem?_eq_getElem hn]
        exact hr
      · rw [List.getD_eq_getElem?_getD, List.getElem?_eq_none hn]; simp [Rep]
  refine wp_mono (code_sound hdr F.code code hcode _ _ _ c0 S ⟨fun _ h => h, fun _ _ _ h => ⟨h, rfl⟩, rfl, rfl, rfl⟩ h) ?_
  rintro e a' w' ⟨ae, σ, c', rfl, hq, S', H', rfl⟩
  have fin : (∃ ids, Ret ins.length sh ids R F.res σ) → a'.defers = [] ∧ ∃ v, (results fn a'.tmps).run P c'.w = .ok v c'.w ∧ ∃ v' c1 outs rows res, R outs rows res ∧ Ending.returned v = .returned v' ∧ c1.w = c'.w ∧ Good c0.w outsB c1 ∧ c1.hp = outHp outs rows ∧ Rep c1 res v' ∧
      (∀ b, c1.ext b → (sh = true ∧ c0.ext b) ∨ outsB b) ∧ (∀ b, c1.old b → c0.old b) ∧ (∀ r v, c0.used v → (c1.hp r).ver = some v → (c0.hp r).ver = some v ∧ c1.loc r = c0.loc r) ∧ (∀ v, c0.used v → c1.used v) := by
    rintro ⟨ids, hth, hR, hn1, hn2, hnd, hlow, hfresh⟩
    obtain ⟨rv, hrun, hval⟩ := run_results S' hres hth
    refine ⟨S'.defers, rv, hrun, ?_⟩
    have G := S'.good
    have hobj : ∀ n, c'.hp n = σ.hp n := fun n => by rw [S'.hp]
    -- the state under the contract's numbers
    let outs := (List.range ins.length).map fun j => (σ.hp (5000 + j)).ren (expo ids) id
    let rows := ids.map fun n => (σ.hp n).ren (expo ids) id
    let c1 : Cz := { c' with hp := outHp outs rows, loc := fun n => c'.loc (orig ids n), ext := fun b => (sh = true ∧ c'.ext b) ∨ outsB b }
    have hlive : ∀ n, c1.hp n ≠ .gone → c1.hp n = (c'.hp (orig ids n)).ren (expo ids) id ∧ ((∃ j, n = 5000 + j ∧ j < ins.length ∧ orig ids n = n) ∨ ∃ i, n = 6000 + i ∧ ids[i]? = some (orig ids n)) := by
      intro n hn
      rcases outHp_live hn with ⟨j, rfl, hj, hjl, he⟩ | ⟨i, rfl, hi, hil, he⟩
      · have hjl' : j < ins.length := by simpa [outs] using hjl
        have ho : orig ids (5000 + j) = 5000 + j := by unfold orig; rw [if_pos (by omega)]
        refine ⟨?_, .inl ⟨j, rfl, hjl', ho⟩⟩
        show outHp outs rows (5000 + j) = _
        rw [he, ho, hobj]
        simp [outs, List.getD_eq_getElem?_getD, hjl']
      · have hil' : i < ids.length := by simpa [rows] using hil
        have ho : orig ids (6000 + i) = ids[i] := by
          unfold orig
          rw [if_neg (by omega)]
          have : 6000 + i - 6000 = i := by omega
          rw [this, List.getD_eq_getElem?_getD, List.getElem?_eq_getElem hil']; rfl
        refine ⟨?_, .inr ⟨i, rfl, by rw [ho]; exact List.getElem?_eq_getElem hil'⟩⟩
        show outHp outs rows (6000 + i) = _
        rw [he, ho, hobj]
        simp [rows, List.getD_eq_getElem?_getD, hil']
    have hlg : ∀ n, c1.hp n ≠ .gone → c'.hp (orig ids n) ≠ .gone := by
      intro n hn
      have := (hlive n hn).1
      rw [this, ne_eq, AObj.ren_gone] at hn
      exact hn
    have horig : ∀ n n', c1.hp n ≠ .gone → c1.hp n' ≠ .gone → orig ids n = orig ids n' → n = n' := by
      intro n n' h1 h2 h3
      rcases (hlive n h1).2 with ⟨j, rfl, hj, ho⟩ | ⟨i, rfl, hi⟩ <;> rcases (hlive n' h2).2 with ⟨j', rfl, hj', ho'⟩ | ⟨i', rfl, hi'⟩
      · rw [ho, ho'] at h3; exact h3
      · have := hlow _ (List.mem_of_getElem? hi')
        rw [ho] at h3; omega
      · have := hlow _ (List.mem_of_getElem? hi)
        rw [ho'] at h3; omega
      · rw [← h3] at hi'
        obtain ⟨p1, q1⟩ := List.getElem?_eq_some_iff.1 hi
        obtain ⟨p2, q2⟩ := List.getElem?_eq_some_iff.1 hi'
        have := (List.getElem_inj hnd).1 (q1.trans q2.symm)
        rw [this]
    have htk : ∀ b, ¬ c'.taken b → ¬ c1.taken b := by
      rintro b hnt ⟨n, h1, h2⟩
      exact hnt ⟨orig ids n, hlg n h1, h2⟩
    have hv1 : ∀ n v, (c1.hp n).ver = some v → (c'.hp (orig ids n)).ver = some v := by
      intro n v hv
      rw [(hlive n (ver_ne_gone hv)).1, AObj.ren_ver] at hv
      simpa using hv
    have RR : Ren (!sh) (expo ids) id c' c1 := by
      refine ⟨?_, fun n b hb => hb, fun v hv => hv, ?_, fun _ h => h⟩
      · rintro b ⟨h1, h2, h3⟩ hnamed
        refine ⟨⟨?_, h2, htk b h3⟩, rfl⟩
        rcases h1 with h1 | h1
        · cases hsh : sh with
          | true => exact .inl (.inl ⟨hsh, h1⟩)
          | false =>
            obtain ⟨n, hn⟩ := hnamed (by rw [hsh]; rfl)
            rcases (G.nam n b hn).2.1 with h4 | h4
            · exact .inr h4
            · exact .inl (.inr h4)
        · exact .inr h1
      · intro r r' v hf _ hv
        have hv' : (c1.hp r').ver = some v := hv
        have ho : orig ids r' = r := by
          rcases expo_some hf with ⟨j, rfl, hj, rfl⟩ | ⟨i, rfl, hi⟩
          · unfold orig; rw [if_pos (by omega)]
          · unfold orig
            rw [if_neg (by omega)]
            have : 6000 + i - 6000 = i := by omega
            rw [this, List.getD_eq_getElem?_getD, hi]; rfl
        have h5 := hv1 r' v hv'
        rw [ho] at h5
        refine ⟨h5, ?_⟩
        show c'.loc (orig ids r') = _
        rw [ho]
    have hfr : ∀ n, c1.hp n ≠ .gone → ((!sh) = true → (c'.hp (orig ids n)).fresh) := by
      intro n hn hs
      have hs' : sh = false := by simpa using hs
      obtain ⟨_, h6, h7⟩ := hfresh hs'
      rw [hobj]
      rcases (hlive n hn).2 with ⟨j, rfl, hj, ho⟩ | ⟨i, rfl, hi⟩
      · rw [ho]; exact h7 j hj
      · exact h6 _ (List.mem_of_getElem? hi)
    refine ⟨_, c1, outs, rows, (σ.value F.res).ren (expo ids) id, hR, rfl, rfl, ?_, rfl, Rep.ren RR _ _ (fun hs => (hfresh (by simpa using hs)).1) hval, ?_, (fun b hb => by rw [← H'.old]; exact hb), ?_, fun v hv => H'.used v hv⟩
    · refine ⟨G.base, ?_, ?_, ?_, ?_, ?_, fun b hb => ⟨.inr hb, (G.outExt b hb).2⟩, ?_, G.namInj, G.fin, G.os, G.tape, G.output, G.size, G.frame⟩
      · intro n
        by_cases hn : c1.hp n = .gone
        · rw [hn]; trivial
        · rw [(hlive n hn).1]
          exact (G.obj (orig ids n)).ren RR (hfr n hn) fun _ _ => rfl
      · intro n n' b h1 h2 h3 h4
        exact horig n n' h1 h2 (G.inj _ _ b (hlg n h1) (hlg n' h2) h3 h4)
      · intro n b h1 h2
        exact G.own _ b (hlg n h1) h2
      · intro n v hv
        exact G.verU _ _ (hv1 n v hv)
      · intro n n' v h1 h2
        exact horig n n' (ver_ne_gone h1) (ver_ne_gone h2) (G.verInj _ _ v (hv1 n v h1) (hv1 n' v h2))
      · intro n b hb
        obtain ⟨h1, h2, h3, h4⟩ := G.nam n b hb
        exact ⟨h1, h2, h3, htk b h4⟩
    · rintro b (⟨hsh, hb⟩ | hb)
      · rw [H'.ext] at hb; exact .inl ⟨hsh, hb⟩
      · exact .inr hb
    · intro r v hu hv
      have h5 := hv1 r v hv
      obtain ⟨h6, h7⟩ := H'.loc _ v hu h5
      have hge : 5000 ≤ orig ids r := by
        have h8 := ver_ne_gone h6
        rw [hhp] at h8
        rcases outHp_live h8 with ⟨j, hj, _⟩ | ⟨i, hi, _⟩ <;> omega
      rcases (hlive r (ver_ne_gone hv)).2 with ⟨j, rfl, hj, ho⟩ | ⟨i, rfl, hi⟩
      · rw [ho] at h6 h7
        refine ⟨h6, ?_⟩
        show c'.loc (orig ids (5000 + j)) = _
        rw [ho]; exact h7
      · have := hlow _ (List.mem_of_getElem? hi)
        omega
  cases ae with
  | normal => exact fin hq
  | exit id => exact hq.elim
  | ret => exact fin hq

end Go.Ab
