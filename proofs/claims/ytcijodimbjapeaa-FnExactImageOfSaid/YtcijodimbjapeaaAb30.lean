/- Proofs of functions: rules in which names are forgotten, contracts of every form, and what is handed over. Conditions: none. -/
import Derived.Test.YtcijodimbjapeaaAb27
set_option linter.all false
namespace Go.Ab
set_option maxRecDepth 20000

abbrev intsK (k : IntKind) (xs : List Int) : List AVal := xs.map fun x => .val (.int k x)
/-- Rows of numbers, as new ones and as lent ones. -/
def rws (xss : List (List Int)) : List AVal := xss.map fun xs => .ro (some none) 1 (ints xs)
def rwn (xss : List (List Int)) : List AVal := xss.map fun xs => .ro none 1 (ints xs)

def pickT (f : Nat → AVal) : List Nat → List (Nat × AVal)
  | [] => []
  | k :: ks => (k, (f k).dn) :: pickT f ks

def pickO (f : Nat → AObj) : List Nat → List (Nat × AObj)
  | [] => []
  | k :: ks => match f k with
    | .gone => pickO f ks
    | o => (k, o.dn) :: pickO f ks

def St.kd (σ : St) (ts hs : List Nat) : St := ⟨L .any (pickT σ.tm ts), L .gone (pickO σ.hp hs)⟩

theorem adopt_L {l : List (Nat × AVal)} {h : List (Nat × AObj)} {b off r k ver v : Nat} {cs : List AVal} (hb : L .gone h b = .box v cs) (ho : cs[off]? = some (.val (.slice none 0 0))) (hr : L .gone h r = .gone) (hk : k ≠ 0) :
    St.adopt ⟨L .any l, L .gone h⟩ b off r k ver = ⟨L .any l, L .gone ((b, .box v (cs.set off (.own r ver))) :: (r, .row ver k false []) :: h)⟩ := by
  unfold St.adopt
  simp only [hb, ho, hr, if_neg hk]
  rfl

theorem adopt_fun {h : List (Nat × AObj)} {b r : Nat} {o o' : AObj} : (fun n => if n = b then o else if n = r then o' else L .gone h n) = L .gone ((b, o) :: (r, o') :: h) := rfl

theorem kd_L {l : List (Nat × AVal)} {h : List (Nat × AObj)} {ts hs : List Nat} : St.kd ⟨L .any l, L .gone h⟩ ts hs = ⟨L .any (pickT (L .any l) ts), L .gone (pickO (L .gone h) hs)⟩ := rfl

theorem wpOps_nil {fa : Bool} {CK : St → FuncId → List AVal → Option Nat → (Nat → Nat) → (St → Prop) → Prop} {vs : Nat → Nat → Nat} {i : Nat} {σ : St} {K : St → Prop} : Ab.wpOps fa CK vs i [] σ K = K σ := rfl
theorem wpOps_L {fa : Bool} {CK : St → FuncId → List AVal → Option Nat → (Nat → Nat) → (St → Prop) → Prop} {vs : Nat → Nat → Nat} {i : Nat} {o : AOp} {os : List AOp} {l : List (Nat × AVal)} {h : List (Nat × AObj)} {K : St → Prop} :
    Ab.wpOps fa CK vs i (o :: os) ⟨L .any l, L .gone h⟩ K = Ab.wpOp fa CK (vs i) o ⟨L .any l, L .gone h⟩ (fun σ' => Ab.wpOps fa CK vs (i + 1) os σ' K) := rfl

/-- What a guard lets by; the ways are looked at when it is known which. -/
def grdP (A : AVal) (w : Bool) (f g : Unit → Prop) : Prop :=
  match A with
  | .val (.bool b) => (b = w → f ()) ∧ (b ≠ w → g ())
  | .val (.tuple _) => g ()
  | _ => False
def cndP (A : AVal) (f g : Unit → Prop) : Prop :=
  match A with
  | .val (.bool t) => (t = true → f ()) ∧ (t = false → g ())
  | _ => False
@[congr] theorem grdP_congr {A A' : AVal} {w : Bool} {f g : Unit → Prop} (h : A = A') : grdP A w f g = grdP A' w f g := by rw [h]
@[congr] theorem cndP_congr {A A' : AVal} {f g : Unit → Prop} (h : A = A') : cndP A f g = cndP A' f g := by rw [h]
theorem wpOp_n {fa : Bool} {CK : St → FuncId → List AVal → Option Nat → (Nat → Nat) → (St → Prop) → Prop} {s : Nat → Nat} {d : Option Nat} {y : AIns} {σ : St} {K : St → Prop} : Ab.wpOp fa CK s ⟨d, none, y⟩ σ K = Ab.wpIns fa CK s d σ K y := rfl
theorem wpOp_g {fa : Bool} {CK : St → FuncId → List AVal → Option Nat → (Nat → Nat) → (St → Prop) → Prop} {s : Nat → Nat} {d : Option Nat} {y : AIns} {σ : St} {K : St → Prop} {t : Nat} {w : Bool} :
    Ab.wpOp fa CK s ⟨d, some (t, w), y⟩ σ K = grdP (σ.tm t) w (fun _ => Ab.wpIns fa CK s d σ K y) (fun _ => K (σ.put d (.val (.tuple #[])))) := rfl
theorem grd_tt {f g : Unit → Prop} : grdP (.val (.bool true)) true f g = f () := by simp [grdP]
theorem grd_ff {f g : Unit → Prop} : grdP (.val (.bool false)) false f g = f () := by simp [grdP]
theorem grd_tf {f g : Unit → Prop} : grdP (.val (.bool true)) false f g = g () := by simp [grdP]
theorem grd_ft {f g : Unit → Prop} : grdP (.val (.bool false)) true f g = g () := by simp [grdP]
theorem grd_u {f g : Unit → Prop} {w : Bool} {x : Array Value} : grdP (.val (.tuple x)) w f g = g () := rfl
theorem grd_b {f g : Unit → Prop} {w b : Bool} : grdP (.val (.bool b)) w f g = ((b = w → f ()) ∧ (b ≠ w → g ())) := rfl
theorem cnd_t {f g : Unit → Prop} : cndP (.val (.bool true)) f g = f () := by simp [cndP]
theorem cnd_f {f g : Unit → Prop} : cndP (.val (.bool false)) f g = g () := by simp [cndP]
theorem cnd_b {f g : Unit → Prop} {b : Bool} : cndP (.val (.bool b)) f g = ((b = true → f ()) ∧ (b = false → g ())) := rfl
theorem wpD_condL {P : Program} {Q : AEx → St → Prop} {σ : St} {a b : AC} {c : AOpd} : wpD P (.cond c a b) Q σ = cndP (σ.ev c) (fun _ => wpD P a Q σ) (fun _ => wpD P b Q σ) := rfl

theorem pickT_eq {f : Nat → AVal} : ∀ (ks : List Nat) (n : Nat), (L .any (pickL .any f ks) n).dn = L .any (pickT f ks) n
  | [], n => by simp [pickL, pickT, L, AVal.dn]
  | k :: ks, n => by
    simp only [pickL, pickT, L]
    by_cases h : n = k
    · simp [h]
    · simp only [h, if_false]; exact pickT_eq ks n

theorem pickO_miss {f : Nat → AObj} : ∀ (ks : List Nat) (n : Nat), f n = .gone → L .gone (pickO f ks) n = .gone
  | [], n, _ => rfl
  | k :: ks, n, h => by
    simp only [pickO]
    split
    · exact pickO_miss ks n h
    · rename_i hk
      simp only [L]
      by_cases e : n = k
      · subst e; exact absurd h hk
      · rw [if_neg e]; exact pickO_miss ks n h

theorem pickO_eq {f : Nat → AObj} : ∀ (ks : List Nat) (n : Nat), (L .gone (pickL .gone f ks) n).dn = L .gone (pickO f ks) n
  | [], n => by simp [pickL, pickO, L, AObj.dn]
  | k :: ks, n => by
    simp only [pickL, pickO, L]
    by_cases h : n = k
    · subst h
      simp only [if_true]
      split
      · rename_i e; rw [pickO_miss ks n e, e]; rfl
      · simp only [L, if_true]
    · simp only [h, if_false]
      split
      · exact pickO_eq ks n
      · simp only [L, h, if_false]; exact pickO_eq ks n

theorem kd_eq (σ : St) (ts hs : List Nat) : (σ.keep ts hs).dn = σ.kd ts hs := by
  unfold St.keep St.dn St.kd
  congr 1
  · funext n; exact pickT_eq ts n
  · funext n; exact pickO_eq hs n

section
variable {P : Program} {Q : AEx → St → Prop} {σ : St} {a b : AC}

theorem wpD_kpd {ts hs : List Nat} : wpD P (.kp ts hs (.dn a)) Q σ = wpD P a Q (σ.kd ts hs) := by rw [← kd_eq]; rfl

theorem wpD_dnret : wpD P (.dn .ret) Q σ = Q .ret σ.dn := rfl

/-- A loop. -/
theorem wpD_lo {α : Type} {ts hs : List Nat} (m : α → Nat) (inv : α → Prop) (S : α → St) (x0 : α) (h0 : inv x0) (hS : σ.kd ts hs = S x0)
    (h : ∀ x, inv x → wpD P a (loopQ (fun σ' => ∃ y, m y < m x ∧ inv y ∧ σ'.kd ts hs = S y) Q) (S x)) : wpD P (.loop (.kp ts hs (.dn a))) Q σ := by
  refine ⟨fun n σ => ∃ x, m x = n ∧ inv x ∧ σ.kd ts hs = S x, ⟨m x0, x0, rfl, h0, hS⟩, ?_⟩
  rintro n σ' ⟨x, rfl, hx, hS⟩
  show wpD P a _ (σ'.keep ts hs).dn
  rw [kd_eq, hS]
  refine wpD_mono _ _ _ _ (fun e σ'' he => ?_) (h x hx)
  cases e with
  | normal =>
    obtain ⟨y, h1, h2, h3⟩ := he
    exact ⟨m y, h1, y, rfl, h2, h3⟩
  | exit i => exact he
  | ret => exact he

/-- A loop, at whose head an object may come to another number. -/
theorem wpD_lm {α : Type} {ts hs : List Nat} {p q : Nat} (m : α → Nat) (inv : α → Prop) (S : α → St) (x0 : α) (h0 : inv x0) (hS : ∀ u, (σ.mv p q u).kd ts hs = S x0)
    (h : ∀ x, inv x → wpD P a (loopQ (fun σ' => ∃ k, k < m x ∧ ∀ u, ∃ y, m y = k ∧ inv y ∧ (σ'.mv p q u).kd ts hs = S y) Q) (S x)) : wpD P (.loop (.mv p q (.kp ts hs (.dn a)))) Q σ := by
  refine ⟨fun n σ => ∀ u, ∃ x, m x = n ∧ inv x ∧ (σ.mv p q u).kd ts hs = S x, ⟨m x0, fun u => ⟨x0, rfl, h0, hS u⟩⟩, ?_⟩
  intro n σ' hI u
  obtain ⟨x, rfl, hx, hS⟩ := hI u
  show wpD P a _ ((σ'.mv p q u).keep ts hs).dn
  rw [kd_eq, hS]
  refine wpD_mono _ _ _ _ (fun e σ'' he => ?_) (h x hx)
  cases e with
  | normal =>
    obtain ⟨k, h1, h2⟩ := he
    exact ⟨k, h1, h2⟩
  | exit i => exact he
  | ret => exact he

/-- A place where the ways meet again. -/
theorem wpD_cut {α : Type} {ts hs : List Nat} (inv : α → Prop) (S : α → St)
    (h1 : wpD P a (seqQ (fun _ σ' => ∃ x, inv x ∧ σ'.kd ts hs = S x) Q) σ) (h2 : ∀ x, inv x → wpD P b Q (S x)) : wpD P (.seq a (.kp ts hs (.dn b))) Q σ := by
  rw [wpD_seq]
  refine wpD_mono _ _ _ _ (fun e σ' he => ?_) h1
  cases e with
  | normal =>
    obtain ⟨x, hx, hS⟩ := he
    show wpD P (.kp ts hs (.dn b)) Q σ'
    rw [wpD_kpd, hS]
    exact h2 x hx
  | exit i => exact he
  | ret => exact he
end

def mvT (a v b m : Nat) : List (Nat × AVal) → List (Nat × AVal)
  | [] => []
  | (k, A) :: l => (k, A.mv a v b m) :: mvT a v b m l
def mvO (a v b m : Nat) : List (Nat × AObj) → List (Nat × AObj)
  | [] => []
  | (k, o) :: l => (k, o.mv a v b m) :: mvO a v b m l
theorem mvT_eq {a v b m : Nat} : ∀ (l : List (Nat × AVal)) (n : Nat), L .any (mvT a v b m l) n = (L .any l n).mv a v b m
  | [], n => by simp [mvT, L, AVal.mv]
  | (k, A) :: l, n => by
    simp only [mvT, L]
    split
    · rfl
    · exact mvT_eq l n
theorem mvO_eq {a v b m : Nat} : ∀ (l : List (Nat × AObj)) (n : Nat), L .gone (mvO a v b m l) n = (L .gone l n).mv a v b m
  | [], n => by simp [mvO, L, AObj.mv]
  | (k, A) :: l, n => by
    simp only [mvO, L]
    split
    · rfl
    · exact mvO_eq l n
theorem mv_L {l : List (Nat × AVal)} {h : List (Nat × AObj)} {a b m : Nat} : St.mv ⟨L .any l, L .gone h⟩ a b m = match (L .gone h a).ver with
    | none => ⟨L .any l, L .gone h⟩
    | some v => if a = b then ⟨L .any l, L .gone h⟩ else ⟨L .any (mvT a v b m l), L .gone ((a, .gone) :: (b, ((L .gone h a).mv a v b m).wv m) :: mvO a v b m h)⟩ := by
  unfold St.mv
  show (match (L .gone h a).ver with | none => _ | some v => _) = _
  cases (L .gone h a).ver with
  | none => rfl
  | some v =>
    simp only []
    split
    · rfl
    · congr 1
      · funext n; exact (mvT_eq l n).symm
      · funext n
        simp only [L]
        split
        · rfl
        · split
          · rfl
          · exact (mvO_eq h n).symm
theorem mvV_any {a v b m : Nat} : AVal.mv a v b m .any = .any := by simp only [AVal.mv]
theorem mvV_val {a v b m : Nat} {x : Value} : AVal.mv a v b m (.val x) = .val x := by simp only [AVal.mv]
theorem mvV_ro {a v b m : Nat} {nm : Option (Option Nat)} {k : Nat} {cs : List AVal} : AVal.mv a v b m (.ro nm k cs) = .ro nm k (mvL a v b m cs) := by simp only [AVal.mv]
theorem mvV_own {a v b m r u : Nat} : AVal.mv a v b m (.own r u) = if r = a then (if u = v then .own b m else .any) else if r = b then .any else .own r u := by simp only [AVal.mv]
theorem mvV_ptr {a v b m r u off : Nat} : AVal.mv a v b m (.ptr r u off) = if r = a then (if u = v then .ptr b m off else .any) else if r = b then .any else .ptr r u off := by simp only [AVal.mv]
theorem mvV_mp {a v b m r u : Nat} : AVal.mv a v b m (.mp r u) = if r = a then (if u = v then .mp b m else .any) else if r = b then .any else .mp r u := by simp only [AVal.mv]
theorem mvV_st {a v b m : Nat} {cs : List AVal} : AVal.mv a v b m (.st cs) = .st (mvL a v b m cs) := by simp only [AVal.mv]
theorem mvV_tup {a v b m : Nat} {cs : List AVal} : AVal.mv a v b m (.tup cs) = .tup (mvL a v b m cs) := by simp only [AVal.mv]
theorem mvV_rp {a v b m o : Nat} {cs : List AVal} : AVal.mv a v b m (.rp cs o) = .rp (mvL a v b m cs) o := by simp only [AVal.mv]
theorem mvV_clo {a v b m : Nat} {g : FuncId} {cs : List AVal} : AVal.mv a v b m (.clo g cs) = .clo g (mvL a v b m cs) := by simp only [AVal.mv]
theorem mvL_nil {a v b m : Nat} : mvL a v b m [] = [] := by simp only [mvL]
theorem mvL_cons {a v b m : Nat} {A : AVal} {cs : List AVal} : mvL a v b m (A :: cs) = A.mv a v b m :: mvL a v b m cs := by simp only [mvL]
theorem mvL_ints {a v b m : Nat} {k : IntKind} {xs : List Int} : mvL a v b m (intsK k xs) = intsK k xs := by simp [mvL_eq, intsK, AVal.mv]
theorem mvL_rws {a v b m : Nat} {xss : List (List Int)} : mvL a v b m (rws xss) = rws xss := by
  simp only [mvL_eq, rws, List.map_map]
  exact List.map_congr_left fun xs _ => by simp [AVal.mv, ints, mvL_eq]
theorem mvL_rwn {a v b m : Nat} {xss : List (List Int)} : mvL a v b m (rwn xss) = rwn xss := by
  simp only [mvL_eq, rwn, List.map_map]
  exact List.map_congr_left fun xs _ => by simp [AVal.mv, ints, mvL_eq]
theorem dn_tm {σ : St} {n : Nat} : σ.dn.tm n = (σ.tm n).dn := rfl
theorem dn_hp {σ : St} {n : Nat} : σ.dn.hp n = (σ.hp n).dn := rfl
theorem dn_any : AVal.dn .any = .any := by simp only [AVal.dn]
theorem dn_val {v : Value} : AVal.dn (.val v) = .val v := by simp only [AVal.dn]
theorem dn_ro {nm : Option (Option Nat)} {k : Nat} {cs : List AVal} : AVal.dn (.ro nm k cs) = .ro (dnNm nm) k (dnL cs) := by simp only [AVal.dn]
theorem dn_own {r v : Nat} : AVal.dn (.own r v) = .own r v := by simp only [AVal.dn]
theorem dn_st {cs : List AVal} : AVal.dn (.st cs) = .st (dnL cs) := by simp only [AVal.dn]
theorem dn_tup {cs : List AVal} : AVal.dn (.tup cs) = .tup (dnL cs) := by simp only [AVal.dn]
theorem dn_ptr {r v o : Nat} : AVal.dn (.ptr r v o) = .ptr r v o := by simp only [AVal.dn]
theorem dn_rp {cs : List AVal} {o : Nat} : AVal.dn (.rp cs o) = .rp (dnL cs) o := by simp only [AVal.dn]
theorem dn_mp {r v : Nat} : AVal.dn (.mp r v) = .mp r v := by simp only [AVal.dn]
theorem dn_clo {g : FuncId} {cs : List AVal} : AVal.dn (.clo g cs) = .clo g (dnL cs) := by simp only [AVal.dn]
theorem dnL_nil : dnL [] = [] := by simp only [dnL]
theorem dnL_cons {A : AVal} {cs : List AVal} : dnL (A :: cs) = A.dn :: dnL cs := by simp only [dnL]
theorem dnL_app {cs ds : List AVal} : dnL (cs ++ ds) = dnL cs ++ dnL ds := by simp [dnL_eq]
theorem dnL_ints {k : IntKind} {xs : List Int} : dnL (intsK k xs) = intsK k xs := by simp [dnL_eq, intsK, AVal.dn]
theorem dnNm_n : dnNm none = none := rfl
theorem dnNm_sn : dnNm (some none) = some none := rfl
theorem dnNm_o : dnNm (some (some 0)) = some (some 0) := rfl
theorem dnNm_s {n : Nat} : dnNm (some (some (n + 1))) = some none := rfl
theorem isNew_sn : isNew (some none) = true := rfl
theorem isNew_s {n : Nat} : isNew (some (some (n + 1))) = true := rfl
theorem rnNm_n {s : Nat → Nat} : rnNm s none = none := rfl
theorem rnNm_sn {s : Nat → Nat} : rnNm s (some none) = some none := rfl
theorem rnNm_o {s : Nat → Nat} : rnNm s (some (some 0)) = some (some 0) := rfl
theorem rnNm_s {s : Nat → Nat} {n : Nat} : rnNm s (some (some (n + 1))) = some (some (s n + 1)) := rfl
theorem dnL_rws {xss : List (List Int)} : dnL (rws xss) = rws xss := by
  simp only [dnL_eq, rws, List.map_map]
  exact List.map_congr_left fun xs _ => by simp [AVal.dn, ints, dnL_eq, dnNm]
theorem dnL_rwn {xss : List (List Int)} : dnL (rwn xss) = rwn xss := by
  simp only [dnL_eq, rwn, List.map_map]
  exact List.map_congr_left fun xs _ => by simp [AVal.dn, ints, dnL_eq, dnNm]
theorem odn_box {v : Nat} {cs : List AVal} : AObj.dn (.box v cs) = .box v (dnL cs) := rfl
theorem odn_row {v k : Nat} {nn : Bool} {cs : List AVal} : AObj.dn (.row v k nn cs) = .row v k nn (dnL cs) := rfl
theorem odn_map {v : Nat} {ks : List Value} {vs : List AVal} : AObj.dn (.map v ks vs) = .map v ks (dnL vs) := rfl

theorem rws_snoc {xss : List (List Int)} {xs : List Int} : rws xss ++ [.ro (some none) 1 (ints xs)] = rws (xss ++ [xs]) := by simp [rws]
theorem rws_nil : rws [] = [] := rfl
theorem rws_one {xs : List Int} : [AVal.ro (some none) 1 (ints xs)] = rws [xs] := rfl
theorem rws_app {xss yss : List (List Int)} : rws xss ++ rws yss = rws (xss ++ yss) := by simp [rws]
theorem rws_len {xss : List (List Int)} : (rws xss).length = xss.length := by simp [rws]
theorem rwn_len {xss : List (List Int)} : (rwn xss).length = xss.length := by simp [rwn]
theorem rws_getD {xss : List (List Int)} {i : Nat} (h : i < xss.length) : (rws xss).getD i .any = .ro (some none) 1 (ints (xss.getD i [])) := by
  simp [rws, List.getD_eq_getElem?_getD, h]
theorem rwn_getD {xss : List (List Int)} {i : Nat} (h : i < xss.length) : (rwn xss).getD i .any = .ro none 1 (ints (xss.getD i [])) := by
  simp [rwn, List.getD_eq_getElem?_getD, h]
theorem intsK_getD {k : IntKind} {xs : List Int} {i : Nat} (h : i < xs.length) : (intsK k xs).getD i .any = .val (.int k (xs.getD i 0)) := by
  simp [List.getD_eq_getElem?_getD, h]
theorem intsK_app {k : IntKind} {xs ys : List Int} : intsK k xs ++ intsK k ys = intsK k (xs ++ ys) := by simp
theorem intsK_snoc {k : IntKind} {xs : List Int} {x : Int} : intsK k xs ++ [AVal.val (.int k x)] = intsK k (xs ++ [x]) := by simp
theorem intsK_one {k : IntKind} {x : Int} : [AVal.val (.int k x)] = intsK k [x] := rfl

theorem one_intsK {hp : Nat → AObj} {k : IntKind} {xs : List Int} : (∀ A ∈ intsK k xs, One hp A) = True := by
  refine eq_true ?_
  intro A hA
  simp only [List.mem_map] at hA
  obtain ⟨x, _, rfl⟩ := hA
  rfl
theorem one_rws {hp : Nat → AObj} {xss : List (List Int)} : (∀ A ∈ rws xss, One hp A) = True := by
  refine eq_true ?_
  intro A hA
  simp only [rws, List.mem_map] at hA
  obtain ⟨x, _, rfl⟩ := hA
  exact trivial
theorem one_rwn {hp : Nat → AObj} {xss : List (List Int)} : (∀ A ∈ rwn xss, One hp A) = True := by
  refine eq_true ?_
  intro A hA
  simp only [rwn, List.mem_map] at hA
  obtain ⟨x, _, rfl⟩ := hA
  exact trivial
theorem frz_intsK {hp : Nat → AObj} {k : IntKind} {xs : List Int} : (intsK k xs).map (frz hp) = intsK k xs := by simp [frz]
theorem frz_rws {hp : Nat → AObj} {xss : List (List Int)} : (rws xss).map (frz hp) = rws xss := by simp [rws, frz]
theorem owned_intsK {k : IntKind} {xs : List Int} : owned (intsK k xs) = [] := by
  induction xs with
  | nil => rfl
  | cons x xs ih => exact ih
theorem owned_rws {xss : List (List Int)} : owned (rws xss) = [] := by
  induction xss with
  | nil => rfl
  | cons x xs ih => exact ih

theorem range1 : List.range 1 = [0] := rfl
theorem nodup_one {a : Nat} : [a].Nodup = True := by simp
def isRow : AObj → Nat → Prop
  | .row v' _ _ _, v => v' = v
  | _, _ => False
def isMap : AObj → Nat → Prop
  | .map v' _ _, v => v' = v
  | _, _ => False
theorem one_own {hp : Nat → AObj} {r v : Nat} : One hp (.own r v) = isRow (hp r) v := by
  simp only [One]
  cases hp r with
  | row v' k nn cs =>
    simp only [isRow, AObj.row.injEq]
    exact propext ⟨fun ⟨_, _, _, h⟩ => h.1, fun h => ⟨k, nn, cs, h, rfl, rfl, rfl⟩⟩
  | _ => simp [isRow]
theorem one_mp {hp : Nat → AObj} {r v : Nat} : One hp (.mp r v) = isMap (hp r) v := by
  simp only [One]
  cases hp r with
  | map v' ks vs =>
    simp only [isMap, AObj.map.injEq]
    exact propext ⟨fun ⟨_, _, h⟩ => h.1, fun h => ⟨ks, vs, h, rfl, rfl⟩⟩
  | _ => simp [isMap]
theorem one_ptr {hp : Nat → AObj} {r v o : Nat} : One hp (.ptr r v o) = ((hp r).ver = some v) := rfl
theorem one_rp {hp : Nat → AObj} {cs : List AVal} {o : Nat} : One hp (.rp cs o) = True := by simp [One]
theorem one_clo {hp : Nat → AObj} {g : FuncId} {cs : List AVal} : One hp (.clo g cs) = True := by simp [One]

/-! What is handed over. -/
section
variable {hp : Nat → AObj} {m : List Nat} {len : Bool}
theorem coeL_nil : CoeL hp m len [] [] = True := by simp [CoeL]
theorem coeL_cons {B A : AVal} {Bs As : List AVal} : CoeL hp m len (B :: Bs) (A :: As) = (Coe hp m len B A ∧ CoeL hp m len Bs As) := by
  simp only [CoeL]
  refine propext ⟨?_, fun h => ⟨A, As, rfl, h.1, h.2⟩⟩
  rintro ⟨A', As', e, h1, h2⟩
  simp only [List.cons.injEq] at e
  obtain ⟨rfl, rfl⟩ := e
  exact ⟨h1, h2⟩
theorem coe_any {A : AVal} : Coe hp m len .any A = True := by simp [Coe]
theorem coe_val {x y : Value} : Coe hp m len (.val x) (.val y) = (y = x) := by simp [Coe]
theorem coe_ro {k : Nat} {nm : Option (Option Nat)} {cs cs' : List AVal} : Coe hp m len (.ro none k cs) (.ro nm k cs') = (0 < k ∧ CoeL hp m len cs cs') := by
  simp only [Coe]
  refine propext ⟨?_, fun h => ⟨.inl trivial, h.1, .inl ⟨nm, cs', rfl, h.2⟩⟩⟩
  rintro ⟨_, hk, ⟨nm', cs'', e, h⟩ | ⟨e, _⟩ | ⟨_, r, v, nn, cs'', e, _⟩⟩
  · cases e; exact ⟨hk, h⟩
  · cases e
  · cases e
theorem coe_ro_nil {k : Nat} {cs : List AVal} : Coe hp m len (.ro none k cs) (.val (.slice none 0 0)) = (0 < k ∧ cs = []) := by
  simp [Coe]
/-- An object is a row with this version and size of its elements, and something is so of its cells. -/
def rowIs : AObj → Nat → Nat → (List AVal → Prop) → Prop
  | .row v' k' _ cs, v, k, p => v' = v ∧ k' = k ∧ p cs
  | _, _, _, _ => False
def boxIs : AObj → Nat → (List AVal → Prop) → Prop
  | .box v' cs, v, p => v' = v ∧ p cs
  | _, _, _ => False
theorem rowIs_ex {o : AObj} {v k : Nat} {p : List AVal → Prop} : rowIs o v k p ↔ ∃ nn cs, o = .row v k nn cs ∧ p cs := by
  cases o with
  | row v' k' nn cs =>
    simp only [rowIs, AObj.row.injEq]
    exact ⟨fun ⟨h1, h2, h3⟩ => ⟨nn, cs, ⟨h1, h2, rfl, rfl⟩, h3⟩, fun ⟨_, _, ⟨h1, h2, _, h4⟩, h5⟩ => ⟨h1, h2, h4 ▸ h5⟩⟩
  | _ => simp [rowIs]
theorem boxIs_ex {o : AObj} {v : Nat} {p : List AVal → Prop} : boxIs o v p ↔ ∃ cs, o = .box v cs ∧ p cs := by
  cases o with
  | box v' cs =>
    simp only [boxIs, AObj.box.injEq]
    exact ⟨fun ⟨h1, h3⟩ => ⟨cs, ⟨h1, rfl⟩, h3⟩, fun ⟨_, ⟨h1, h4⟩, h5⟩ => ⟨h1, h4 ▸ h5⟩⟩
  | _ => simp [boxIs]
theorem coe_ro_own {k r v : Nat} {cs : List AVal} : Coe hp m true (.ro none k cs) (.own r v) = (0 < k ∧ r ∉ m ∧ rowIs (hp r) v k (CoeL hp m true cs)) := by
  rw [propext rowIs_ex]
  simp only [Coe]
  refine propext ⟨?_, fun ⟨hk, hr, nn, cs', h1, h2⟩ => ⟨.inl trivial, hk, .inr (.inr ⟨trivial, r, v, nn, cs', rfl, hr, h1, h2⟩)⟩⟩
  rintro ⟨_, hk, ⟨nm', cs'', e, h⟩ | ⟨e, _⟩ | ⟨_, r', v', nn, cs'', e, h1, h2, h3⟩⟩
  · cases e
  · cases e
  · cases e; exact ⟨hk, h1, nn, cs'', h2, h3⟩
theorem coeL_self : ∀ {cs : List AVal}, (∀ A ∈ cs, ∃ x, A = .val x) → CoeL hp m len cs cs
  | [], _ => by simp [CoeL]
  | A :: cs, h => by
    rw [coeL_cons]
    obtain ⟨x, rfl⟩ := h A (by simp)
    exact ⟨by simp [Coe], coeL_self fun B hB => h B (by simp [hB])⟩
/-- What may be nil is not, if it is empty. -/
def argN {α : Type} (xs : List α) : Option (Option Nat) := if xs.length = 0 then some none else none
theorem dn_argN {α : Type} {xs : List α} : dnNm (argN xs) = argN xs := by unfold argN; split <;> rfl
theorem argN_nn {α : Type} {xs : List α} : (isNew (argN xs) = true ∨ 0 < xs.length) = True := by
  refine eq_true ?_
  unfold argN
  by_cases h : xs.length = 0
  · left; rw [if_pos h]; rfl
  · right; omega
theorem coe_argN' {xs : List Int} {x : Option Nat} (hx : isNew (some x) = true) : Coe hp m len (.ro (argN xs) 1 (ints xs)) (.ro (some x) 1 (ints xs)) = True := by
  refine eq_true ?_
  simp only [Coe]
  refine ⟨?_, by omega, .inl ⟨some x, ints xs, rfl, coeL_self fun A hA => ?_⟩⟩
  · unfold argN
    by_cases h : xs.length = 0
    · rw [if_pos h]
      have : xs = [] := List.eq_nil_of_length_eq_zero h
      subst this
      exact .inr (.inr ⟨rfl, rfl, .inl ⟨some x, 1, ints [], rfl, hx⟩⟩)
    · rw [if_neg h]; exact .inl rfl
  · simp only [List.mem_map] at hA
    obtain ⟨x, _, rfl⟩ := hA
    exact ⟨_, rfl⟩
theorem coe_argN {xs : List Int} : Coe hp m len (.ro (argN xs) 1 (ints xs)) (.ro (some none) 1 (ints xs)) = True := coe_argN' rfl
theorem coe_argNs {xs : List Int} {x : Nat} : Coe hp m len (.ro (argN xs) 1 (ints xs)) (.ro (some (some (x + 1))) 1 (ints xs)) = True := coe_argN' rfl
theorem coe_ro_o {k : Nat} {cs cs' : List AVal} : Coe hp m len (.ro (some (some 0)) k cs) (.ro (some (some 0)) k cs') = (0 < k ∧ CoeL hp m len cs cs') := by
  simp only [Coe]
  refine propext ⟨?_, fun h => ⟨.inr (.inl ⟨trivial, .inr ⟨k, cs', rfl⟩⟩), h.1, .inl ⟨some (some 0), cs', rfl, h.2⟩⟩⟩
  rintro ⟨_, hk, ⟨nm', cs'', e, h⟩ | ⟨e, _⟩ | ⟨_, r, v, nn, cs'', e, _⟩⟩
  · cases e; exact ⟨hk, h⟩
  · cases e
  · cases e
theorem coe_st {cs cs' : List AVal} : Coe hp m len (.st cs) (.st cs') = CoeL hp m len cs cs' := by
  simp only [Coe]
  refine propext ⟨?_, fun h => .inl ⟨cs', rfl, h⟩⟩
  rintro (⟨cs'', e, h⟩ | ⟨vs, e, _⟩)
  · cases e; exact h
  · cases e
theorem coe_st_agg {cs : List AVal} {vs : Array Value} : Coe hp m len (.st cs) (.val (.agg vs)) = CoeL hp m len cs (vs.toList.map .val) := by
  simp only [Coe]
  refine propext ⟨?_, fun h => .inr ⟨vs, rfl, h⟩⟩
  rintro (⟨cs'', e, h⟩ | ⟨vs', e, h⟩)
  · cases e
  · cases e; exact h
theorem coe_rp {cs cs' : List AVal} {off : Nat} : Coe hp m len (.rp cs off) (.rp cs' off) = CoeL hp m len cs cs' := by
  simp only [Coe]
  refine propext ⟨?_, fun h => .inl ⟨cs', rfl, h⟩⟩
  rintro (⟨cs'', e, h⟩ | ⟨_, r, v, cs'', e, _⟩)
  · cases e; exact h
  · cases e
theorem coe_rp_ptr {cs : List AVal} {r v off : Nat} : Coe hp m true (.rp cs off) (.ptr r v off) = (r ∉ m ∧ boxIs (hp r) v (CoeL hp m true cs)) := by
  rw [propext boxIs_ex]
  simp only [Coe]
  refine propext ⟨?_, fun ⟨h1, cs', h2, h3⟩ => .inr ⟨trivial, r, v, cs', rfl, h1, h2, h3⟩⟩
  rintro (⟨cs'', e, h⟩ | ⟨_, r', v', cs'', e, h1, h2, h3⟩)
  · cases e
  · cases e; exact ⟨h1, cs'', h2, h3⟩
theorem coe_clo {g : FuncId} {cs cs' : List AVal} : Coe hp m len (.clo g cs) (.clo g cs') = CoeL hp m len cs cs' := by
  simp only [Coe]
  refine propext ⟨?_, fun h => ⟨cs', rfl, h⟩⟩
  rintro ⟨cs'', e, h⟩
  cases e; exact h
theorem coe_own0 {r v : Nat} : Coe hp [r] len (.own 5000 0) (.own r v) = ((hp r).ver = some v) := by
  simp only [Coe]
  refine propext ⟨?_, fun h => ⟨0, r, v, rfl, rfl, rfl, rfl, h⟩⟩
  rintro ⟨j, r', v', h1, h2, h3, e, h4⟩
  cases e; exact h4
theorem coe_ptr0 {r v off : Nat} : Coe hp [r] len (.ptr 5000 0 off) (.ptr r v off) = ((hp r).ver = some v) := by
  simp only [Coe]
  refine propext ⟨?_, fun h => ⟨0, r, v, rfl, rfl, rfl, rfl, h⟩⟩
  rintro ⟨j, r', v', h1, h2, h3, e, h4⟩
  cases e; exact h4
theorem coe_ptr1 {r r1 v off : Nat} (hne : True) : Coe hp [r1, r] len (.ptr 5001 1 off) (.ptr r v off) = ((hp r).ver = some v) := by
  simp only [Coe]
  refine propext ⟨?_, fun h => ⟨1, r, v, rfl, rfl, rfl, rfl, h⟩⟩
  rintro ⟨j, r', v', h1, h2, h3, e, h4⟩
  cases e; exact h4
theorem coe_ptr0' {r r1 v off : Nat} : Coe hp [r, r1] len (.ptr 5000 0 off) (.ptr r v off) = ((hp r).ver = some v) := by
  simp only [Coe]
  refine propext ⟨?_, fun h => ⟨0, r, v, rfl, rfl, rfl, rfl, h⟩⟩
  rintro ⟨j, r', v', h1, h2, h3, e, h4⟩
  cases e; exact h4
theorem coeL_intsK {k : IntKind} {xs : List Int} : CoeL hp m len (intsK k xs) (intsK k xs) = True := by
  refine eq_true (coeL_self fun A hA => ?_)
  simp only [List.mem_map] at hA
  obtain ⟨x, _, rfl⟩ := hA
  exact ⟨_, rfl⟩
theorem coeL_rws : ∀ {xss : List (List Int)}, CoeL hp m len (rwn xss) (rws xss) = True
  | [] => coeL_nil
  | xs :: xss => by
    have h := coeL_rws (xss := xss)
    simp only [rws, rwn, List.map_cons] at h ⊢
    rw [coeL_cons, h, coe_ro]
    simp [coeL_intsK (k := .i64)]
theorem coeL_rwn : ∀ {xss : List (List Int)}, CoeL hp m len (rwn xss) (rwn xss) = True
  | [] => coeL_nil
  | xs :: xss => by
    have h := coeL_rwn (xss := xss)
    simp only [rwn, List.map_cons] at h ⊢
    rw [coeL_cons, h, coe_ro]
    simp [coeL_intsK (k := .i64)]
end

/-! What is new. -/
theorem fresh_intsK {k : IntKind} {xs : List Int} : freshL (intsK k xs) = True := by
  refine eq_true (fresh_vals fun A hA => ?_)
  simp only [List.mem_map] at hA
  obtain ⟨x, _, rfl⟩ := hA
  exact ⟨_, rfl⟩
theorem fresh_rws {xss : List (List Int)} : freshL (rws xss) = True := by
  refine eq_true ((freshL_iff _).2 fun A hA => ?_)
  simp only [rws, List.mem_map] at hA
  obtain ⟨x, _, rfl⟩ := hA
  simp only [AVal.fresh]
  exact ⟨.inr rfl, of_eq_true (fresh_intsK (k := .i64) (xs := x))⟩

/-! Under other numbers. -/
theorem ren_val {f : Nat → Option Nat} {s : Nat → Nat} {v : Value} : AVal.ren f s (.val v) = .val v := by simp only [AVal.ren]
theorem ren_any {f : Nat → Option Nat} {s : Nat → Nat} : AVal.ren f s .any = .any := by simp only [AVal.ren]
theorem ren_ro {f : Nat → Option Nat} {s : Nat → Nat} {nm : Option (Option Nat)} {k : Nat} {cs : List AVal} : AVal.ren f s (.ro nm k cs) = .ro (rnNm s nm) k (renL f s cs) := by simp only [AVal.ren]
theorem ren_st {f : Nat → Option Nat} {s : Nat → Nat} {cs : List AVal} : AVal.ren f s (.st cs) = .st (renL f s cs) := by simp only [AVal.ren]
theorem ren_tup {f : Nat → Option Nat} {s : Nat → Nat} {cs : List AVal} : AVal.ren f s (.tup cs) = .tup (renL f s cs) := by simp only [AVal.ren]
theorem ren_own {f : Nat → Option Nat} {s : Nat → Nat} {r v r' : Nat} (h : f r = some r') : AVal.ren f s (.own r v) = .own r' (s v) := by simp only [AVal.ren, h]
theorem ren_ptr {f : Nat → Option Nat} {s : Nat → Nat} {r v r' o : Nat} (h : f r = some r') : AVal.ren f s (.ptr r v o) = .ptr r' (s v) o := by simp only [AVal.ren, h]
theorem ren_mp {f : Nat → Option Nat} {s : Nat → Nat} {r v r' : Nat} (h : f r = some r') : AVal.ren f s (.mp r v) = .mp r' (s v) := by simp only [AVal.ren, h]
theorem renL_nil {f : Nat → Option Nat} {s : Nat → Nat} : renL f s [] = [] := by simp only [renL]
theorem renL_cons {f : Nat → Option Nat} {s : Nat → Nat} {A : AVal} {cs : List AVal} : renL f s (A :: cs) = A.ren f s :: renL f s cs := by simp only [renL]
theorem renL_intsK {f : Nat → Option Nat} {s : Nat → Nat} {k : IntKind} {xs : List Int} : renL f s (intsK k xs) = intsK k xs := by simp [renL_eq, AVal.ren]
theorem renL_rws {f : Nat → Option Nat} {s : Nat → Nat} {xss : List (List Int)} : renL f s (rws xss) = rws xss := by
  simp only [renL_eq, rws, List.map_map]
  exact List.map_congr_left fun xs _ => by simp [AVal.ren, ints, renL_eq, rnNm]
theorem renL_rwn {f : Nat → Option Nat} {s : Nat → Nat} {xss : List (List Int)} : renL f s (rwn xss) = rwn xss := by
  simp only [renL_eq, rwn, List.map_map]
  exact List.map_congr_left fun xs _ => by simp [AVal.ren, ints, renL_eq, rnNm]
theorem oren_box {f : Nat → Option Nat} {s : Nat → Nat} {v : Nat} {cs : List AVal} : AObj.ren f s (.box v cs) = .box (s v) (renL f s cs) := rfl
theorem oren_row {f : Nat → Option Nat} {s : Nat → Nat} {v k : Nat} {nn : Bool} {cs : List AVal} : AObj.ren f s (.row v k nn cs) = .row (s v) k nn (renL f s cs) := rfl
theorem oren_map {f : Nat → Option Nat} {s : Nat → Nat} {v : Nat} {ks : List Value} {vs : List AVal} : AObj.ren f s (.map v ks vs) = .map (s v) ks (renL f s vs) := rfl

theorem rid0 {m : List Nat} {d n : Nat} : rid m d (n + 1) 6000 = some d := by
  have := rid_new (m := m) (d := d) (nr := n + 1) (i := 0) (by omega)
  simpa [newId] using this
theorem rid1 {m : List Nat} {d n : Nat} : rid m d (n + 2) 6001 = some (d + 1000) := by
  have := rid_new (m := m) (d := d) (nr := n + 2) (i := 1) (by omega)
  simpa [newId] using this
theorem rid2 {m : List Nat} {d n : Nat} : rid m d (n + 3) 6002 = some (d + 2000) := by
  have := rid_new (m := m) (d := d) (nr := n + 3) (i := 2) (by omega)
  simpa [newId] using this

theorem expo0 {r : Nat} {l : List Nat} (h : r < 5000) : expo (r :: l) r = some 6000 := by
  unfold expo
  rw [if_neg (by omega)]
  simp [List.idxOf?, List.findIdx?, List.findIdx?.go]
theorem expo1 {r r0 : Nat} {l : List Nat} (h : r < 5000) (h0 : r0 ≠ r) : expo (r0 :: r :: l) r = some 6001 := by
  unfold expo
  rw [if_neg (by omega)]
  simp [List.idxOf?, List.findIdx?, List.findIdx?.go, h0]
theorem expo2 {r r0 r1 : Nat} {l : List Nat} (h : r < 5000) (h0 : r0 ≠ r) (h1 : r1 ≠ r) : expo (r0 :: r1 :: r :: l) r = some 6002 := by
  unfold expo
  rw [if_neg (by omega)]
  simp [List.idxOf?, List.findIdx?, List.findIdx?.go, h0, h1]
theorem expo_5 {ids : List Nat} {j : Nat} (h : 5000 ≤ j ∧ j < 6000) : expo ids j = some j := by
  unfold expo
  rw [if_pos h.1, if_pos h.2]

theorem ren_own_e0 {r v : Nat} {l : List Nat} {s : Nat → Nat} (h : r < 5000) : AVal.ren (expo (r :: l)) s (.own r v) = .own 6000 (s v) := ren_own (expo0 h)
theorem ren_own_e1 {r r0 v : Nat} {l : List Nat} {s : Nat → Nat} (h : r < 5000) (h0 : r0 ≠ r) : AVal.ren (expo (r0 :: r :: l)) s (.own r v) = .own 6001 (s v) := ren_own (expo1 h h0)
theorem ren_own_e2 {r r0 r1 v : Nat} {l : List Nat} {s : Nat → Nat} (h : r < 5000) (h0 : r0 ≠ r) (h1 : r1 ≠ r) : AVal.ren (expo (r0 :: r1 :: r :: l)) s (.own r v) = .own 6002 (s v) := ren_own (expo2 h h0 h1)
theorem ren_ptr_e0 {r v o : Nat} {l : List Nat} {s : Nat → Nat} (h : r < 5000) : AVal.ren (expo (r :: l)) s (.ptr r v o) = .ptr 6000 (s v) o := ren_ptr (expo0 h)
theorem ren_mp_e0 {r v : Nat} {l : List Nat} {s : Nat → Nat} (h : r < 5000) : AVal.ren (expo (r :: l)) s (.mp r v) = .mp 6000 (s v) := ren_mp (expo0 h)
theorem ren_mp_e1 {r r0 v : Nat} {l : List Nat} {s : Nat → Nat} (h : r < 5000) (h0 : r0 ≠ r) : AVal.ren (expo (r0 :: r :: l)) s (.mp r v) = .mp 6001 (s v) := ren_mp (expo1 h h0)
theorem ren_own_r0 {m : List Nat} {d n v : Nat} {s : Nat → Nat} : AVal.ren (rid m d (n + 1)) s (.own 6000 v) = .own d (s v) := ren_own rid0
theorem ren_own_r1 {m : List Nat} {d n v : Nat} {s : Nat → Nat} : AVal.ren (rid m d (n + 2)) s (.own 6001 v) = .own (d + 1000) (s v) := ren_own rid1
theorem ren_own_r2 {m : List Nat} {d n v : Nat} {s : Nat → Nat} : AVal.ren (rid m d (n + 3)) s (.own 6002 v) = .own (d + 2000) (s v) := ren_own rid2
theorem ren_ptr_r0 {m : List Nat} {d n v o : Nat} {s : Nat → Nat} : AVal.ren (rid m d (n + 1)) s (.ptr 6000 v o) = .ptr d (s v) o := ren_ptr rid0
theorem ren_mp_r0 {m : List Nat} {d n v : Nat} {s : Nat → Nat} : AVal.ren (rid m d (n + 1)) s (.mp 6000 v) = .mp d (s v) := ren_mp rid0
theorem ren_mp_r1 {m : List Nat} {d n v : Nat} {s : Nat → Nat} : AVal.ren (rid m d (n + 2)) s (.mp 6001 v) = .mp (d + 1000) (s v) := ren_mp rid1

/-- What is asked of slots for what a call makes. -/
theorem gone_one {hp : Nat → AObj} {d : Nat} {o : AObj} : (∀ i, i < [o].length → hp (newId d i) = .gone) = (hp d = .gone) := by
  refine propext ⟨fun h => by simpa [newId] using h 0 (by simp), fun h i hi => ?_⟩
  have : i = 0 := by simpa using hi
  subst this; simpa [newId] using h
theorem gone_two {hp : Nat → AObj} {d : Nat} {o o' : AObj} : (∀ i, i < [o, o'].length → hp (newId d i) = .gone) = (hp d = .gone ∧ hp (d + 1000) = .gone) := by
  refine propext ⟨fun h => ⟨by simpa [newId] using h 0 (by simp), by simpa [newId] using h 1 (by simp)⟩, fun h i hi => ?_⟩
  have hi' : i < 2 := by simpa using hi
  have : i = 0 ∨ i = 1 := by omega
  rcases this with rfl | rfl
  · simpa [newId] using h.1
  · simpa [newId] using h.2
theorem gone_nil {hp : Nat → AObj} {d : Nat} : (∀ i, i < ([] : List AObj).length → hp (newId d i) = .gone) = True := by simp

end Go.Ab
