/- From the contract of a law to what its row asks. Conditions: none. -/
import Derived.Test.YtcijodimbjapeaaAb28
import Derived.Below
import Derived.Carry
import Derived.ChangeOld
import Derived.OpenShut
import Derived.ChangeCalls
import Derived.RowKit
set_option linter.all false
namespace Go.Ab
set_option maxRecDepth 20000

section
variable {H : Type} {enc : TypeId × Value → H} {P : Program}

/-- What stands for an argument of type t. -/
def ArgShp (P : Program) (t : TypeId) (A : AVal) : Prop := Shp P t [A] ∧ (∀ fs, P.underlying t ≠ some (.struct fs)) ∨ ∃ As fs, P.underlying t = some (.struct fs) ∧ A = .st As ∧ Shp P t As

inductive ArgsShp (P : Program) : List TypeId → List AVal → Prop where
  | nil : ArgsShp P [] []
  | cons {t : TypeId} {ts : List TypeId} {A : AVal} {As : List AVal} : ArgShp P t A → ArgsShp P ts As → ArgsShp P (t :: ts) (A :: As)

theorem start_below {W : World} {c1 : Cz} (G : Good W (fun _ => False) c1) : RowKit.Below W.heap.size W c1.w :=
  ⟨G.os, G.tape, G.output, G.size, fun k hk => G.frame k hk (fun h => h)⟩

/-- The arguments of a law, read. -/
theorem law_calls {W : World} {ts : List TypeId} {args : Array Value} {ds : List (DataW H)} {ps : List MemPlace}
    (hread : ∀ (j : Nat) (t : TypeId) (v : Value) (d : DataW H) (p : List MemPlace), ts[j]? = some t → args[j]? = some v → DataW.Trod enc P W 0 (fun _ => true) true t v d p → ∃ A, ArgShp P t A ∧ Rep (Cz.start W) A v)
    (hA : DataW.TrodAll enc P W 0 (fun _ => true) true ts args.toList ds ps) : ∃ As, ArgsShp P ts As ∧ RepL (Cz.start W) As args.toList := by
  have key : ∀ (ts' : List TypeId) (vs : List Value) (off : Nat) (ds : List (DataW H)) (ps : List MemPlace), (∀ (i : Nat) t, ts'[i]? = some t → ts[off + i]? = some t) → (∀ (i : Nat) v, vs[i]? = some v → args[off + i]? = some v) →
      DataW.TrodAll enc P W 0 (fun _ => true) true ts' vs ds ps → ∃ As, ArgsShp P ts' As ∧ RepL (Cz.start W) As vs := by
    intro ts'
    induction ts' with
    | nil =>
      intro vs off ds ps _ _ h
      cases vs with
      | nil => exact ⟨[], .nil, by simp [RepL]⟩
      | cons v vs => cases ds <;> simp [DataW.TrodAll] at h
    | cons t ts' ih =>
      intro vs off ds ps ht hv h
      cases vs with
      | nil => simp [DataW.TrodAll] at h
      | cons v vs =>
        cases ds with
        | nil => simp [DataW.TrodAll] at h
        | cons d ds =>
          simp only [DataW.TrodAll] at h
          obtain ⟨p, q, h1, h2, _⟩ := h
          obtain ⟨A, hA, hR⟩ := hread off t v d p (by simpa using ht 0 t rfl) (by simpa using hv 0 v rfl) h1
          obtain ⟨As, hAs, hRs⟩ := ih vs (off + 1) ds q (fun i t' ht' => by have := ht (i + 1) t' (by simpa using ht'); rw [← this]; congr 1; omega)
            (fun i v' hv' => by have := hv (i + 1) v' (by simpa using hv'); rw [← this]; congr 1; omega) h2
          exact ⟨A :: As, .cons hA hAs, by simp only [RepL]; exact ⟨hR, hRs⟩⟩
  exact key ts args.toList 0 ds ps (fun i t h => by simpa using h) (fun i v hv => by simpa using hv) hA

/-- The types that are looked at are simple ones. -/
def GoodTypes (P : Program) (good : TypeId → Bool) : Prop := ∀ t, good t = true → (∃ k, P.underlying t = some (.int k)) ∨ P.underlying t = some .bool ∨ P.underlying t = some .string ∨
  (∃ e, P.underlying t = some (.slice e) ∧ good e = true ∧ 0 < P.cellsOf e) ∨ ∃ fs, P.underlying t = some (.struct fs) ∧ (∀ f ∈ fs.toList, good f.type = true) ∧ contig P fs.toList 0 (P.cellsOf t) = true

def goodOK (P : Program) (l : List TypeId) : Bool := l.all fun t => match P.underlying t with
  | some (.int _) => true
  | some .bool => true
  | some .string => true
  | some (.slice e) => l.contains e && decide (0 < P.cellsOf e)
  | some (.struct fs) => fs.toList.all (fun f => l.contains f.type) && contig P fs.toList 0 (P.cellsOf t)
  | _ => false

theorem good_of {l : List TypeId} (h : goodOK P l = true) : GoodTypes P (fun t => l.contains t) := by
  intro t ht
  unfold goodOK at h
  rw [List.all_eq_true] at h
  have h1 := h t (by simpa using ht)
  split at h1
  · rename_i k hk; exact .inl ⟨k, hk⟩
  · rename_i hk; exact .inr (.inl hk)
  · rename_i hk; exact .inr (.inr (.inl hk))
  · rename_i e hk
    simp only [Bool.and_eq_true, decide_eq_true_eq] at h1
    exact .inr (.inr (.inr (.inl ⟨e, hk, h1.1, h1.2⟩)))
  · rename_i fs hk
    simp only [Bool.and_eq_true, List.all_eq_true] at h1
    exact .inr (.inr (.inr (.inr ⟨fs, hk, h1.1, h1.2⟩)))
  · cases h1

theorem read_arg {W : World} {r : Reach} {base : Nat} {good : TypeId → Bool} (hgood : GoodTypes P good) {t : TypeId} (hg : good t = true) {v : Value} (hok : Value.okWide P W r base t v) {d : DataW H} {p : List MemPlace}
    (h : DataW.Trod enc P W 0 (fun _ => true) true t v d p) : ∃ A, ArgShp P t A ∧ Rep (Cz.start W) A v := by
  obtain ⟨fuel, h⟩ := h
  obtain ⟨As, hS, hR⟩ := trod_rep good hgood fuel t _ _ hg h
  have one : (∀ cs, v ≠ .agg cs) → (∀ fs, P.underlying t ≠ some (.struct fs)) → ∃ A, ArgShp P t A ∧ Rep (Cz.start W) A v := by
    intro hv hns
    have e : v.cells.toList = [v] := by
      cases v with
      | agg cs => exact absurd rfl (hv cs)
      | _ => rfl
    rw [e] at hR
    match As, hS, hR with
    | [A], hS, hR => exact ⟨A, .inl ⟨hS, hns⟩, by simpa [RepL] using hR⟩
    | [], _, hR => simp [RepL] at hR
    | _ :: _ :: _, _, hR => simp [RepL] at hR
  rcases hgood t hg with ⟨k, ht⟩ | ht | ht | ⟨e, ht, _⟩ | ⟨fs, ht, _⟩
  · obtain ⟨n, rfl⟩ := WideShapes.okWide_int ht hok
    exact one (fun _ h => by cases h) (fun fs h => by rw [ht] at h; cases h)
  · obtain ⟨b, rfl, _⟩ := RowKit.open_bool ht hok ⟨fuel, h⟩
    exact one (fun _ h => by cases h) (fun fs h => by rw [ht] at h; cases h)
  · obtain ⟨s, rfl⟩ := WideShapes.okWide_string ht hok
    exact one (fun _ h => by cases h) (fun fs h => by rw [ht] at h; cases h)
  · obtain ⟨a, len, cap, rfl⟩ := WideShapes.okWide_slice ht hok
    exact one (fun _ h => by cases h) (fun fs h => by rw [ht] at h; cases h)
  · obtain ⟨cs, rfl, _⟩ := WideShapes.okWide_struct ht hok
    exact ⟨.st As, .inr ⟨As, fs, ht, rfl, hS⟩, by simp only [Rep]; exact ⟨cs, rfl, hR⟩⟩

/-- A law that gives true, called. -/
theorem law_true {W : World} {f : FuncId} {args : Array Value} {As : List AVal} (hcon : Fun P f As (bv true)) (hR : RepL (Cz.start W) As args.toList) :
    Calls P f args W fun e W' => e = .returned (.bool true) ∧ RowKit.Below W.heap.size W W' := by
  have h := hcon.2 (Cz.start W) (fun _ => False) args.toList (start_good W) (start_outHp W) hR
  have e : args.toList.toArray = args := by simp
  rw [e] at h
  refine h.mono ?_
  rintro e W' ⟨v, c1, outs, rows, res, ⟨_, _, rfl⟩, he, rfl, G, _, hrep, _⟩
  have : v = .bool true := by simpa [Rep] using hrep
  subst this
  exact ⟨he, start_below G⟩

theorem below_all (hl : laidOutB P = true) {W W' : World} (hb : RowKit.Below W.heap.size W W') : ∀ (ts : List TypeId) (vs : List Value) (ds : List (DataW H)) (ps : List MemPlace), (∀ t ∈ ts, P.readableRec t = true ∧ t < P.types.size) → (∀ x ∈ ps, x.block < W.heap.size) →
    DataW.TrodAll enc P W 0 (fun _ => true) true ts vs ds ps → DataW.TrodAll enc P W' 0 (fun b => decide (b < W.heap.size)) true ts vs ds ps
  | [], [], [], ps, _, _, h => h
  | [], _ :: _, _, _, _, _, h => by simp [DataW.TrodAll] at h
  | [], [], _ :: _, _, _, _, h => by simp [DataW.TrodAll] at h
  | _ :: _, [], _, _, _, _, h => by simp [DataW.TrodAll] at h
  | _ :: _, _ :: _, [], _, _, _, h => by simp [DataW.TrodAll] at h
  | t :: ts, v :: vs, d :: ds, ps, hr, hlt, h => by
    simp only [DataW.TrodAll] at h ⊢
    obtain ⟨p, q, h1, h2, rfl⟩ := h
    obtain ⟨r1, r2⟩ := hr t (by simp)
    exact ⟨p, q, RowKit.Below.trod hl r1 r2 h1 hb fun x hx => hlt x (by simp [hx]), below_all hl hb ts vs ds q (fun t' ht => hr t' (by simp [ht])) (fun x hx => hlt x (by simp [hx])) h2, rfl⟩

/-- WHAT A LAW's ROW ASKS OF ITS CALL. -/
theorem law_post {fn : Func} {s : ChangeSpec} {f : FuncId} {W : World} {args : Array Value} {ds gs : List (DataW H)} {before : List MemPlace} {tb : TypeId} {fresh handsOn : Bool} (hv : s.vars = []) (hl : laidOutB P = true)
    (hr : ∀ t ∈ fn.params.toList, P.readableRec t = true ∧ t < P.types.size) (hres : fn.resultTypes = #[tb]) (hb : P.underlying tb = some .bool)
    (hs : ds.length = fn.params.size → (s.fn H ds).results = [.lit (.bool true)] ∧ (s.fn H ds).args = ds ∧ (s.fn H ds).vars = [])
    (hW : DataW.Whole enc P fn.params.toList s.vars false W args.toList ds gs before)
    {good : TypeId → Bool} (hgood : GoodTypes P good) (hgp : ∀ t ∈ fn.params.toList, good t = true) {base : Nat} (hval : ∀ (j : Nat) t v, fn.params[j]? = some t → args[j]? = some v → Value.okWide P W .any base t v)
    (hcon : ∀ As, ArgsShp P fn.params.toList As → Fun P f As (bv true)) :
    Calls P f args W fun e W' => ∃ v, e = .returned v ∧ s.post enc P fn false fresh handsOn false W args v W' := by
  have hW' := hW
  obtain ⟨p, q, hA, hV, rfl, _, _⟩ := hW
  rw [hv] at hV
  have hgs : gs = [] ∧ q = [] := by
    cases gs with
    | nil => exact ⟨rfl, hV⟩
    | cons g gs => simp [DataW.TrodVars] at hV
  obtain ⟨rfl, rfl⟩ := hgs
  obtain ⟨As, h1, h2⟩ := law_calls (fun j t v d p ht hv h => read_arg hgood (hgp t (List.mem_of_getElem? ht)) (hval j t v (by simpa using ht) hv) h) hA
  refine (law_true (hcon As h1) h2).mono ?_
  rintro e W' ⟨he, hbel⟩
  have hlen : ds.length = fn.params.size := by
    have := (trodAll_length hA).2
    simpa using this
  obtain ⟨s1, s2, s3⟩ := hs hlen
  refine ⟨_, he, ds, [], p ++ [], [], p, [], hW', ?_, ?_, ?_, hbel.frame _, fun h => by cases h⟩
  · rw [List.append_nil, s1, hres]
    exact trodAll_cons_mk (RowKit.shut_bool hb _) ChangeShapes.trodAll_mk0
  · rw [List.append_nil, s2]
    exact below_all hl hbel _ _ _ _ hr (fun x hx => hA.lt x hx) hA
  · rw [List.append_nil, s3, hv]; rfl

end
end Go.Ab
