/- Arguments and rows. Conditions: none. -/
import Derived.Test.YtmdimjlfgjmchaaM5
import Derived.ChangeArms
import Derived.ChangeSlices
import Derived.Below
import Derived.Carry
import Derived.ChangeOld
import Derived.OpenShut
import Derived.ChangeCalls
import Derived.RowKit
set_option linter.all false

/-! Arguments of a row, as abstract values. -/
namespace Go.Ab
set_option maxRecDepth 20000

/-- The state at a row's start: all that is there stays as it is. -/
def Cz.start (W : World) : Cz :=
  { w := W, base := W.heap.size, ext := fun b => b < W.heap.size, hp := fun _ => .gone, loc := fun _ => undef, names := fun _ => none, used := fun _ => False, old := fun b => b < W.heap.size }

theorem start_taken {W : World} {b : Nat} : ¬ (Cz.start W).taken b := by rintro ⟨r, h, _⟩; exact h rfl

theorem start_imm {W : World} {b : Nat} (h : b < W.heap.size) : (Cz.start W).imm b := ⟨.inl h, h, start_taken⟩

theorem start_good (W : World) : Good W (fun _ => False) (Cz.start W) := by
  refine ⟨⟨rfl, fun _ h => h⟩, fun _ => trivial, ?_, ?_, ?_, ?_, ?_, ?_, ?_, ⟨0, fun v h => h.elim⟩, rfl, rfl, rfl, Nat.le_refl _, fun _ _ _ => rfl⟩
  · intro r r' b h; exact absurd rfl h
  · intro r b h; exact absurd rfl h
  · intro r v h; simp [Cz.start, AObj.ver] at h
  · intro r r' v h; simp [Cz.start, AObj.ver] at h
  · intro b h; exact h.elim
  · intro n b h; simp [Cz.start] at h
  · intro n n' b h; simp [Cz.start] at h

theorem start_outHp (W : World) : (Cz.start W).hp = outHp [] [] := by
  funext n
  simp [Cz.start, outHp]

theorem cell_lt {W : World} {b off : Nat} {v : Value} (h : W.cell? ⟨b, off, none⟩ = some v) : b < W.heap.size := by
  unfold World.cell? at h
  by_cases hb : b < W.heap.size
  · exact hb
  · have h1 : W.heap[b]? = none := Array.getElem?_eq_none (by omega)
    simp only [h1] at h; cases h

mutual
/-- What stands for cells that are read at a type. -/
inductive Shp (P : Program) : TypeId → List AVal → Prop where
  | int {t : TypeId} {k : IntKind} {n : Int} : P.underlying t = some (.int k) → (Lit.int k n).wf = true → Shp P t [.val (.int k n)]
  | bool {t : TypeId} {b : Bool} : P.underlying t = some .bool → Shp P t [.val (.bool b)]
  | string {t : TypeId} {s : ByteArray} : P.underlying t = some .string → s.size ≤ maxLen → Shp P t [.val (.string s)]
  | slice {t e : TypeId} {xss : List (List AVal)} : P.underlying t = some (.slice e) → (∀ xs ∈ xss, Shp P e xs) → (∀ xs ∈ xss, xs.length = P.cellsOf e) → xss.length ≤ maxLen → Shp P t [.ro (some (some 0)) (P.cellsOf e) xss.flatten]
  | struct {t : TypeId} {fs : Array Field} {As : List AVal} : P.underlying t = some (.struct fs) → ShpF P fs.toList As → Shp P t As
inductive ShpF (P : Program) : List Field → List AVal → Prop where
  | nil : ShpF P [] []
  | cons {f : Field} {fs : List Field} {As Bs : List AVal} : Shp P f.type As → ShpF P fs Bs → ShpF P (f :: fs) (As ++ Bs)
end

/-- The fields lie one behind the other, from a cell on. -/
def contig (P : Program) : List Field → Nat → Nat → Bool
  | [], off, n => off == n
  | f :: fs, off, n => f.offset == off && contig P fs (off + P.cellsOf f.type) n

section
variable {H : Type} {enc : TypeId × Value → H} {P : Program} {W : World} {sp : Nat → Bool} {held : Bool}

theorem RepAt.append {c : Cz} {b : Nat} : ∀ {xs ys : List AVal} {off : Nat}, RepAt c b off xs → RepAt c b (off + xs.length) ys → RepAt c b off (xs ++ ys)
  | [], _, _, _, h => by simpa using h
  | x :: xs, ys, off, h, h' => by
    simp only [RepAt, List.cons_append] at h ⊢
    refine ⟨h.1, RepAt.append h.2 ?_⟩
    have e : off + 1 + xs.length = off + (x :: xs).length := by simp; omega
    rw [e]; exact h'

theorem RepAt.flatten {c : Cz} {b k : Nat} : ∀ {xss : List (List AVal)} {off : Nat}, (∀ i xs, xss[i]? = some xs → xs.length = k ∧ RepAt c b (off + i * k) xs) → RepAt c b off xss.flatten
  | [], _, _ => by simp [RepAt]
  | xs :: xss, off, h => by
    obtain ⟨h1, h2⟩ := h 0 xs rfl
    rw [List.flatten_cons]
    refine RepAt.append (by simpa using h2) (RepAt.flatten (k := k) fun i ys hi => ?_)
    obtain ⟨h3, h4⟩ := h (i + 1) ys (by simpa using hi)
    refine ⟨h3, ?_⟩
    rw [h1]
    have e : off + k + i * k = off + (i + 1) * k := by rw [Nat.add_mul]; omega
    rw [e]; exact h4

theorem cells_at {a : Addr} {k : Nat} {cs : List Value} {As : List AVal} (ha : a.spot = none) (h : W.cells? 0 a k = some cs) (hr : RepL (Cz.start W) As cs) : RepAt (Cz.start W) a.block a.off As := by
  have h1 : (List.range k).mapM (fun i => W.cell? (a.add i)) = some cs := by
    unfold World.cells? at h; simpa using h
  have h2 : ∀ i v, cs[i]? = some v → W.cell? ⟨a.block, a.off + i, none⟩ = some v := by
    intro i v hi
    have hlt := (List.getElem?_eq_some_iff.1 hi).1
    have hl := mapM_some_length h1
    have := mapM_some_get h1 i i (by rw [List.getElem?_range]; rw [List.length_range] at hl; omega)
    rw [hi] at this
    have e : a.add i = ⟨a.block, a.off + i, none⟩ := by obtain ⟨b, o, q⟩ := a; simp only at ha; subst ha; exact addr_add _ _ _
    rw [e] at this; exact this
  have key : ∀ (As : List AVal) (cs : List Value) (off : Nat), RepL (Cz.start W) As cs → (∀ i v, cs[i]? = some v → W.cell? ⟨a.block, off + i, none⟩ = some v) → RepAt (Cz.start W) a.block off As := by
    intro As
    induction As with
    | nil => intro cs off _ _; simp [RepAt]
    | cons A As ih =>
      intro cs off hr hc
      cases cs with
      | nil => simp [RepL] at hr
      | cons v cs =>
        simp only [RepL] at hr
        simp only [RepAt]
        refine ⟨⟨v, (by have := hc 0 v rfl; exact this), hr.1⟩, ih cs (off + 1) hr.2 fun i u hi => ?_⟩
        have := hc (i + 1) u (by simpa using hi)
        rw [← this]; congr 2; omega
  exact key As cs a.off hr h2

theorem flat_len {α : Type} {k : Nat} : ∀ {xss : List (List α)}, (∀ (i : Nat) (As : List α), xss[i]? = some As → As.length = k) → xss.flatten.length = xss.length * k
  | [], _ => by simp
  | x :: xss, h => by
    rw [List.flatten_cons, List.length_append, h 0 x rfl, flat_len (k := k) fun i As hi => h (i + 1) As (by simpa using hi), List.length_cons, Nat.add_mul]
    omega

/-- ARGUMENTS OF SIMPLE TYPES READ AS ABSTRACT VALUES. good: the types that are looked at. -/
theorem trod_rep (good : TypeId → Bool) (hgood : ∀ t, good t = true → (∃ k, P.underlying t = some (.int k)) ∨ P.underlying t = some .bool ∨ P.underlying t = some .string ∨ (∃ e, P.underlying t = some (.slice e) ∧ good e = true ∧ 0 < P.cellsOf e) ∨ ∃ fs, P.underlying t = some (.struct fs) ∧ (∀ f ∈ fs.toList, good f.type = true) ∧ contig P fs.toList 0 (P.cellsOf t) = true) :
    ∀ (fuel : Nat) (t : TypeId) (cs : List Value) (x : DataW H × List MemPlace), good t = true → DataW.trod enc P W 0 sp held fuel t cs = some x → ∃ As, Shp P t As ∧ RepL (Cz.start W) As cs := by
  intro fuel
  induction fuel with
  | zero => intro t cs x _ h; simp [DataW.trod] at h
  | succ fuel ih =>
    intro t cs x hg h
    rcases hgood t hg with ⟨k, ht⟩ | ht | ht | ⟨e, ht, hge, hpos⟩ | ⟨fs, ht, hgf, hcon⟩
    · unfold DataW.trod at h
      rw [ht] at h
      split at h <;> simp_all
      rename_i k' n hk
      obtain ⟨⟨rfl, hw⟩, _⟩ := h
      exact ⟨[.val (.int _ n)], .int ht hw, by simp [RepL, Rep]⟩
    · unfold DataW.trod at h
      rw [ht] at h
      split at h <;> simp_all
      rename_i b
      exact ⟨[.val (.bool b)], .bool ht, by simp [RepL, Rep]⟩
    · unfold DataW.trod at h
      rw [ht] at h
      split at h <;> simp_all
      rename_i s
      exact ⟨[.val (.string s)], .string ht h.1, by simp [RepL, Rep]⟩
    · rcases DataW.trod_slice ht h with ⟨rfl, _⟩ | ⟨a, len, cap, elems, rest, n, hn, rfl, _, _, hl, hc, hel, helem, _, _⟩
      · refine ⟨[.ro (some (some 0)) (P.cellsOf e) ([] : List (List AVal)).flatten], .slice ht (by simp) (by simp) (by simp), ?_⟩
        simp only [RepL, Rep, and_true]
        exact ⟨none, 0, 0, rfl, hpos, by simp, ⟨Nat.le_refl _, by simp⟩, (by intro n e; cases e; exact ⟨fun h => (by cases h), .inl (by simp)⟩), .inl (by simp)⟩
      · have hn' : n = fuel := by omega
        subst hn'
        have hel2 : ∀ i, i < len → ∃ cs As, W.cells? 0 (a.add (i * P.cellsOf e)) (P.cellsOf e) = some cs ∧ Shp P e As ∧ RepL (Cz.start W) As cs := by
          intro i hi
          have h1 := helem i hi
          rw [List.getElem?_eq_getElem (by omega), Option.bind_eq_some_iff] at h1
          obtain ⟨cs, h2, h3⟩ := h1
          obtain ⟨As, h4, h5⟩ := ih e cs _ hge h3
          exact ⟨cs, As, h2, h4, h5⟩
        have hex : ∃ xss : List (List AVal), xss.length = len ∧ ∀ i As, xss[i]? = some As → ∃ cs, W.cells? 0 (a.add (i * P.cellsOf e)) (P.cellsOf e) = some cs ∧ Shp P e As ∧ RepL (Cz.start W) As cs := by
          have : ∀ m, m ≤ len → ∃ xss : List (List AVal), xss.length = m ∧ ∀ i As, xss[i]? = some As → ∃ cs, W.cells? 0 (a.add (i * P.cellsOf e)) (P.cellsOf e) = some cs ∧ Shp P e As ∧ RepL (Cz.start W) As cs := by
            intro m
            induction m with
            | zero => intro _; exact ⟨[], rfl, by simp⟩
            | succ m ihm =>
              intro hm
              obtain ⟨xss, h1, h2⟩ := ihm (by omega)
              obtain ⟨cs, As, h3, h4, h5⟩ := hel2 m (by omega)
              refine ⟨xss ++ [As], by simp [h1], fun i Bs hi => ?_⟩
              by_cases hlt : i < xss.length
              · rw [List.getElem?_append_left hlt] at hi; exact h2 i Bs hi
              · have hi2 := (List.getElem?_eq_some_iff.1 hi).1
                have : i = m := by simp at hi2; omega
                subst this
                rw [List.getElem?_append_right (by omega), h1, Nat.sub_self] at hi
                simp only [List.getElem?_cons_zero, Option.some.injEq] at hi
                subst hi
                exact ⟨cs, h3, h4, h5⟩
          exact this len (Nat.le_refl _)
        obtain ⟨xss, hxl, hxs⟩ := hex
        have hlen : ∀ (i : Nat) (As : List AVal), xss[i]? = some As → As.length = P.cellsOf e := by
          intro i As hi
          obtain ⟨cs, h1, _, h2⟩ := hxs i As hi
          rw [h2.length]
          unfold World.cells? at h1
          simp only [Nat.zero_le, if_true] at h1
          rw [mapM_some_length h1, List.length_range]
        have hflat : xss.flatten.length = len * P.cellsOf e := by
          rw [flat_len hlen, hxl]
        refine ⟨[.ro (some (some 0)) (P.cellsOf e) xss.flatten], .slice ht ?_ ?_ (by omega), ?_⟩
        · intro xs hm
          obtain ⟨i, hi⟩ := List.getElem?_of_mem hm
          obtain ⟨_, _, h2, _⟩ := hxs i xs hi
          exact h2
        · intro xs hm
          obtain ⟨i, hi⟩ := List.getElem?_of_mem hm
          exact hlen i xs hi
        · simp only [RepL, Rep, and_true]
          have key : xss.flatten.length = 0 ∨ ∃ b off, some a = some (⟨b, off, none⟩ : Addr) ∧ (Cz.start W).imm b ∧ RepAt (Cz.start W) b off xss.flatten := ?_
          · refine ⟨some a, len, cap, rfl, hpos, hflat, ⟨hl, hc⟩, ?_, key⟩
            intro n e; cases e
            refine ⟨fun h => (by cases h), ?_⟩
            rcases key with h | ⟨b, off, h1, h2, _⟩
            · exact .inl h
            · exact .inr ⟨b, off, h1, h2.2.1⟩
          by_cases h0 : len = 0
          · left; rw [hflat, h0, Nat.zero_mul]
          · right
            obtain ⟨cs0, As0, h1, _, h2⟩ := hel2 0 (by omega)
            have hfirst : ∃ v, W.cell? (a.add 0) = some v := by
              unfold World.cells? at h1
              simp only [Nat.zero_le, if_true] at h1
              have h3 := mapM_some_length h1
              rw [List.length_range] at h3
              have h4 := mapM_some_get h1 0 0 (by rw [List.getElem?_range]; exact hpos)
              rw [List.getElem?_eq_getElem (by omega)] at h4
              refine ⟨cs0[0]'(by omega), ?_⟩
              rw [← h4]; simp [Addr.add]
            obtain ⟨v, hv⟩ := hfirst
            obtain ⟨b, off, spot⟩ := a
            have hs : spot = none := by simpa [Addr.add] using World.cell?_spot hv
            subst hs
            rw [addr_add, Nat.add_zero] at hv
            refine ⟨b, off, rfl, start_imm (cell_lt hv), RepAt.flatten (k := P.cellsOf e) fun i As hi => ⟨hlen i As hi, ?_⟩⟩
            obtain ⟨cs, h3, _, h4⟩ := hxs i As hi
            rw [addr_add] at h3
            exact cells_at rfl h3 h4
    · unfold DataW.trod at h
      rw [ht] at h
      simp only [] at h
      split at h
      · rename_i hlen
        simp only [Option.map_eq_some_iff] at h
        obtain ⟨xs, hxs, _⟩ := h
        have key : ∀ (fl : List Field) (off : Nat) (ys : List (DataW H × List MemPlace)), (∀ f ∈ fl, good f.type = true) → contig P fl off (P.cellsOf t) = true →
            fl.mapM (fun f => DataW.trod enc P W 0 sp held fuel f.type ((cs.drop f.offset).take (P.cellsOf f.type))) = some ys → off ≤ cs.length → ∃ As, ShpF P fl As ∧ RepL (Cz.start W) As (cs.drop off) := by
          intro fl
          induction fl with
          | nil =>
            intro off ys _ hc _ _
            simp only [contig, beq_iff_eq] at hc
            refine ⟨[], .nil, ?_⟩
            rw [List.drop_of_length_le (by omega)]; simp [RepL]
          | cons f fl ihf =>
            intro off ys hg hc hm hoff
            simp only [contig, Bool.and_eq_true, beq_iff_eq] at hc
            obtain ⟨hc1, hc2⟩ := hc
            rw [List.mapM_cons] at hm
            simp only [Option.bind_eq_bind, Option.bind_eq_some_iff] at hm
            obtain ⟨y, hy, ys', hys, _⟩ := hm
            obtain ⟨As, hA, hR⟩ := ih f.type _ _ (hg f (by simp)) hy
            have hle : off + P.cellsOf f.type ≤ cs.length := by
              have : ∀ (fl : List Field) (o n : Nat), contig P fl o n = true → o ≤ n := by
                intro fl
                induction fl with
                | nil => intro o n h; simp only [contig, beq_iff_eq] at h; omega
                | cons g fl ihg =>
                  intro o n h
                  simp only [contig, Bool.and_eq_true] at h
                  have := ihg _ _ h.2; omega
              have := this _ _ _ hc2; omega
            obtain ⟨Bs, hB, hS⟩ := ihf (off + P.cellsOf f.type) ys' (fun g hgm => hg g (by simp [hgm])) hc2 hys hle
            refine ⟨As ++ Bs, .cons hA hB, ?_⟩
            rw [hc1] at hR
            have e : cs.drop off = (cs.drop off).take (P.cellsOf f.type) ++ cs.drop (off + P.cellsOf f.type) := by
              rw [← List.drop_drop, List.take_append_drop]
            rw [e]
            exact RepL.append hR hS
        obtain ⟨As, h1, h2⟩ := key fs.toList 0 xs hgf hcon hxs (Nat.zero_le _)
        exact ⟨As, .struct ht h1, by simpa using h2⟩
      · cases h

end
end Go.Ab

/-! From the contract of a law to what its row asks. -/
namespace Go.Ab
set_option maxRecDepth 20000

section
variable {H : Type} {enc : TypeId × Value → H} {P : Program}

/-- What stands for an argument of type t. -/
def ArgShp (P : Program) (t : TypeId) (A : AVal) : Prop := Shp P t [A] ∧ (∀ fs, P.underlying t ≠ some (.struct fs)) ∨ ∃ As fs, P.underlying t = some (.struct fs) ∧ A = .st As ∧ Shp P t As

inductive ArgsShp (P : Program) : List TypeId → List AVal → Prop where
  | nil : ArgsShp P [] []
  | cons {t : TypeId} {ts : List TypeId} {A : AVal} {As : List AVal} : ArgShp P t A → ArgsShp P ts As → ArgsShp P (t :: ts) (A :: As)

theorem start_below {W : World} {c1 : Cz} (G : Good W (fun _ => False) c1) : RowKit.Below W.heap.size W c1.w :=
  ⟨G.os, G.tape, G.output, G.size, fun k hk => G.frame k hk (fun h => h)⟩

/-- The arguments of a law, read. -/
theorem law_calls {W : World} {ts : List TypeId} {args : Array Value} {ds : List (DataW H)} {ps : List MemPlace}
    (hread : ∀ (j : Nat) (t : TypeId) (v : Value) (d : DataW H) (p : List MemPlace), ts[j]? = some t → args[j]? = some v → DataW.Trod enc P W 0 (fun _ => true) true t v d p → ∃ A, ArgShp P t A ∧ Rep (Cz.start W) A v)
    (hA : DataW.TrodAll enc P W 0 (fun _ => true) true ts args.toList ds ps) : ∃ As, ArgsShp P ts As ∧ RepL (Cz.start W) As args.toList := by
  have key : ∀ (ts' : List TypeId) (vs : List Value) (off : Nat) (ds : List (DataW H)) (ps : List MemPlace), (∀ (i : Nat) t, ts'[i]? = some t → ts[off + i]? = some t) → (∀ (i : Nat) v, vs[i]? = some v → args[off + i]? = some v) →
      DataW.TrodAll enc P W 0 (fun _ => true) true ts' vs ds ps → ∃ As, ArgsShp P ts' As ∧ RepL (Cz.start W) As vs := by
    intro ts'
    induction ts' with
    | nil =>
      intro vs off ds ps _ _ h
      cases vs with
      | nil => exact ⟨[], .nil, by simp [RepL]⟩
      | cons v vs => cases ds <;> simp [DataW.TrodAll] at h
    | cons t ts' ih =>
      intro vs off ds ps ht hv h
      cases vs with
      | nil => simp [DataW.TrodAll] at h
      | cons v vs =>
        cases ds with
        | nil => simp [DataW.TrodAll] at h
        | cons d ds =>
          simp only [DataW.TrodAll] at h
          obtain ⟨p, q, h1, h2, _⟩ := h
          obtain ⟨A, hA, hR⟩ := hread off t v d p (by simpa using ht 0 t rfl) (by simpa using hv 0 v rfl) h1
          obtain ⟨As, hAs, hRs⟩ := ih vs (off + 1) ds q (fun i t' ht' => by have := ht (i + 1) t' (by simpa using ht'); rw [← this]; congr 1; omega)
            (fun i v' hv' => by have := hv (i + 1) v' (by simpa using hv'); rw [← this]; congr 1; omega) h2
          exact ⟨A :: As, .cons hA hAs, by simp only [RepL]; exact ⟨hR, hRs⟩⟩
  exact key ts args.toList 0 ds ps (fun i t h => by simpa using h) (fun i v hv => by simpa using hv) hA

/-- The types that are looked at are simple ones. -/
def GoodTypes (P : Program) (good : TypeId → Bool) : Prop := ∀ t, good t = true → (∃ k, P.underlying t = some (.int k)) ∨ P.underlying t = some .bool ∨ P.underlying t = some .string ∨
  (∃ e, P.underlying t = some (.slice e) ∧ good e = true ∧ 0 < P.cellsOf e) ∨ ∃ fs, P.underlying t = some (.struct fs) ∧ (∀ f ∈ fs.toList, good f.type = true) ∧ contig P fs.toList 0 (P.cellsOf t) = true

def goodOK (P : Program) (l : List TypeId) : Bool := l.all fun t => match P.underlying t with
  | some (.int _) => true
  | some .bool => true
  | some .string => true
  | some (.slice e) => l.contains e && decide (0 < P.cellsOf e)
  | some (.struct fs) => fs.toList.all (fun f => l.contains f.type) && contig P fs.toList 0 (P.cellsOf t)
  | _ => false

theorem good_of {l : List TypeId} (h : goodOK P l = true) : GoodTypes P (fun t => l.contains t) := by
  intro t ht
  unfold goodOK at h
  rw [List.all_eq_true] at h
  have h1 := h t (by simpa using ht)
  split at h1
  · rename_i k hk; exact .inl ⟨k, hk⟩
  · rename_i hk; exact .inr (.inl hk)
  · rename_i hk; exact .inr (.inr (.inl hk))
  · rename_i e hk
    simp only [Bool.and_eq_true, decide_eq_true_eq] at h1
    exact .inr (.inr (.inr (.inl ⟨e, hk, h1.1, h1.2⟩)))
  · rename_i fs hk
    simp only [Bool.and_eq_true, List.all_eq_true] at h1
    exact .inr (.inr (.inr (.inr ⟨fs, hk, h1.1, h1.2⟩)))
  · cases h1

theorem read_arg {W : World} {r : Reach} {base : Nat} {good : TypeId → Bool} (hgood : GoodTypes P good) {t : TypeId} (hg : good t = true) {v : Value} (hok : Value.okWide P W r base t v) {d : DataW H} {p : List MemPlace}
    (h : DataW.Trod enc P W 0 (fun _ => true) true t v d p) : ∃ A, ArgShp P t A ∧ Rep (Cz.start W) A v := by
  obtain ⟨fuel, h⟩ := h
  obtain ⟨As, hS, hR⟩ := trod_rep good hgood fuel t _ _ hg h
  have one : (∀ cs, v ≠ .agg cs) → (∀ fs, P.underlying t ≠ some (.struct fs)) → ∃ A, ArgShp P t A ∧ Rep (Cz.start W) A v := by
    intro hv hns
    have e : v.cells.toList = [v] := by
      cases v with
      | agg cs => exact absurd rfl (hv cs)
      | _ => rfl
    rw [e] at hR
    match As, hS, hR with
    | [A], hS, hR => exact ⟨A, .inl ⟨hS, hns⟩, by simpa [RepL] using hR⟩
    | [], _, hR => simp [RepL] at hR
    | _ :: _ :: _, _, hR => simp [RepL] at hR
  rcases hgood t hg with ⟨k, ht⟩ | ht | ht | ⟨e, ht, _⟩ | ⟨fs, ht, _⟩
  · obtain ⟨n, rfl⟩ := WideShapes.okWide_int ht hok
    exact one (fun _ h => by cases h) (fun fs h => by rw [ht] at h; cases h)
  · obtain ⟨b, rfl, _⟩ := RowKit.open_bool ht hok ⟨fuel, h⟩
    exact one (fun _ h => by cases h) (fun fs h => by rw [ht] at h; cases h)
  · obtain ⟨s, rfl⟩ := WideShapes.okWide_string ht hok
    exact one (fun _ h => by cases h) (fun fs h => by rw [ht] at h; cases h)
  · obtain ⟨a, len, cap, rfl⟩ := WideShapes.okWide_slice ht hok
    exact one (fun _ h => by cases h) (fun fs h => by rw [ht] at h; cases h)
  · obtain ⟨cs, rfl, _⟩ := WideShapes.okWide_struct ht hok
    exact ⟨.st As, .inr ⟨As, fs, ht, rfl, hS⟩, by simp only [Rep]; exact ⟨cs, rfl, hR⟩⟩

/-- A law that gives true, called. -/
theorem law_true {W : World} {f : FuncId} {args : Array Value} {As : List AVal} (hcon : Fun P f As (bv true)) (hR : RepL (Cz.start W) As args.toList) :
    Calls P f args W fun e W' => e = .returned (.bool true) ∧ RowKit.Below W.heap.size W W' := by
  have h := hcon.2 (Cz.start W) (fun _ => False) args.toList (start_good W) (start_outHp W) hR
  have e : args.toList.toArray = args := by simp
  rw [e] at h
  refine h.mono ?_
  rintro e W' ⟨v, c1, outs, rows, res, ⟨_, _, rfl⟩, he, rfl, G, _, hrep, _⟩
  have : v = .bool true := by simpa [Rep] using hrep
  subst this
  exact ⟨he, start_below G⟩

theorem below_all (hl : laidOutB P = true) {W W' : World} (hb : RowKit.Below W.heap.size W W') : ∀ (ts : List TypeId) (vs : List Value) (ds : List (DataW H)) (ps : List MemPlace), (∀ t ∈ ts, P.readableRec t = true ∧ t < P.types.size) → (∀ x ∈ ps, x.block < W.heap.size) →
    DataW.TrodAll enc P W 0 (fun _ => true) true ts vs ds ps → DataW.TrodAll enc P W' 0 (fun b => decide (b < W.heap.size)) true ts vs ds ps
  | [], [], [], ps, _, _, h => h
  | [], _ :: _, _, _, _, _, h => by simp [DataW.TrodAll] at h
  | [], [], _ :: _, _, _, _, h => by simp [DataW.TrodAll] at h
  | _ :: _, [], _, _, _, _, h => by simp [DataW.TrodAll] at h
  | _ :: _, _ :: _, [], _, _, _, h => by simp [DataW.TrodAll] at h
  | t :: ts, v :: vs, d :: ds, ps, hr, hlt, h => by
    simp only [DataW.TrodAll] at h ⊢
    obtain ⟨p, q, h1, h2, rfl⟩ := h
    obtain ⟨r1, r2⟩ := hr t (by simp)
    exact ⟨p, q, RowKit.Below.trod hl r1 r2 h1 hb fun x hx => hlt x (by simp [hx]), below_all hl hb ts vs ds q (fun t' ht => hr t' (by simp [ht])) (fun x hx => hlt x (by simp [hx])) h2, rfl⟩

/-- WHAT A LAW's ROW ASKS OF ITS CALL. -/
theorem law_post {fn : Func} {s : ChangeSpec} {f : FuncId} {W : World} {args : Array Value} {ds gs : List (DataW H)} {before : List MemPlace} {tb : TypeId} {fresh handsOn : Bool} (hv : s.vars = []) (hl : laidOutB P = true)
    (hr : ∀ t ∈ fn.params.toList, P.readableRec t = true ∧ t < P.types.size) (hres : fn.resultTypes = #[tb]) (hb : P.underlying tb = some .bool)
    (hs : ds.length = fn.params.size → (s.fn H ds).results = [.lit (.bool true)] ∧ (s.fn H ds).args = ds ∧ (s.fn H ds).vars = [])
    (hW : DataW.Whole enc P fn.params.toList s.vars false W args.toList ds gs before)
    {good : TypeId → Bool} (hgood : GoodTypes P good) (hgp : ∀ t ∈ fn.params.toList, good t = true) {base : Nat} (hval : ∀ (j : Nat) t v, fn.params[j]? = some t → args[j]? = some v → Value.okWide P W .any base t v)
    (hcon : ∀ As, ArgsShp P fn.params.toList As → Fun P f As (bv true)) :
    Calls P f args W fun e W' => ∃ v, e = .returned v ∧ s.post enc P fn false fresh handsOn false W args v W' := by
  have hW' := hW
  obtain ⟨p, q, hA, hV, rfl, _, _⟩ := hW
  rw [hv] at hV
  have hgs : gs = [] ∧ q = [] := by
    cases gs with
    | nil => exact ⟨rfl, hV⟩
    | cons g gs => simp [DataW.TrodVars] at hV
  obtain ⟨rfl, rfl⟩ := hgs
  obtain ⟨As, h1, h2⟩ := law_calls (fun j t v d p ht hv h => read_arg hgood (hgp t (List.mem_of_getElem? ht)) (hval j t v (by simpa using ht) hv) h) hA
  refine (law_true (hcon As h1) h2).mono ?_
  rintro e W' ⟨he, hbel⟩
  have hlen : ds.length = fn.params.size := by
    have := (trodAll_length hA).2
    simpa using this
  obtain ⟨s1, s2, s3⟩ := hs hlen
  refine ⟨_, he, ds, [], p ++ [], [], p, [], hW', ?_, ?_, ?_, hbel.frame _, fun h => by cases h⟩
  · rw [List.append_nil, s1, hres]
    exact trodAll_cons_mk (RowKit.shut_bool hb _) ChangeShapes.trodAll_mk0
  · rw [List.append_nil, s2]
    exact below_all hl hbel _ _ _ _ hr (fun x hx => hA.lt x hx) hA
  · rw [List.append_nil, s3, hv]; rfl

end
end Go.Ab
