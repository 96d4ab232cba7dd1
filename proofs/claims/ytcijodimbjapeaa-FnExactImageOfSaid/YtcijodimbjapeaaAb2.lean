/- The instructions of the abstract semantics: what each asks, gives and does. Conditions: none. -/
import Derived.Test.YtcijodimbjapeaaAb1
set_option linter.all false
namespace Go.Ab

inductive AOpd where
  | t (n : Nat)
  | c (v : Value)
  | f (g : FuncId)
  deriving Inhabited

inductive AI where
  | mov (x : AOpd)
  | pick (c a b : AOpd)
  | bin (op : BinOp) (x y : AOpd)
  | beq (neg : Bool) (x y : AOpd)
  | isnil (neg : Bool) (x : AOpd)
  | isnilp (neg : Bool) (x : AOpd)
  | un (op : UnOp) (x : AOpd)
  | cvi (k : IntKind) (x : AOpd)
  | cvbs (x : AOpd)
  | box (x : AOpd)
  | new (z : List Value)
  | bsl (k : Nat) (fz : Bool) (xs : List AOpd)
  | bst (z : List Value) (ps : List (Nat × Nat × AOpd))
  | ld (x : AOpd)
  | lda (n : Nat) (x : AOpd)
  | sto (n : Nat) (x v : AOpd)
  | nilck (x : AOpd)
  | fad (off : Nat) (x : AOpd)
  | fld (off : Nat) (x : AOpd)
  | flda (off n : Nat) (x : AOpd)
  | iad (k : Nat) (x i : AOpd)
  | idx (x i : AOpd)
  | len (x : AOpd)
  | lens (x : AOpd)
  | lenm (x : AOpd)
  | app (k bytes : Nat) (s x : AOpd)
  | mks (k bytes : Nat) (z : List Value) (l c : AOpd)
  | slc (k : Nat) (x : AOpd) (lo hi : Option AOpd)
  | slc0 (k : Nat) (x : AOpd)
  | sls (x : AOpd) (lo hi : Option AOpd)
  | mkm
  | lkp (kd : Nat) (ok : Bool) (z : AVal) (x i : AOpd)
  | mup (kd : Nat) (x i v : AOpd)
  | mkf (g : FuncId) (caps : List AOpd)
  | ext (i : Nat) (x : AOpd)
  | mx (big : Bool) (x y : AOpd)
  | ldb (x : AOpd)
  | fadb (off : Nat) (x : AOpd)
  | bsln (nos : List Nat) (k : Nat) (xs : List AOpd)
  deriving Inhabited

/-- A state: abstract values of the temporaries, abstract objects. -/
structure St where
  tm : Nat → AVal
  hp : Nat → AObj

def St.ev (σ : St) : AOpd → AVal
  | .t n => σ.tm n
  | .c v => .val v
  | .f g => .clo g []

def St.put (σ : St) (d : Option Nat) (A : AVal) : St :=
  match d with
  | some d => { σ with tm := fun n => if n = d then A else σ.tm n }
  | none => σ

def St.seth (σ : St) (r : Nat) (o : AObj) : St := { σ with hp := fun n => if n = r then o else σ.hp n }

/-- The cells of a value, as a variable holds them. -/
def AVal.cells : AVal → List AVal
  | .st cs => cs
  | .val (.agg vs) => vs.toList.map .val
  | A => [A]

/-- Holds just one cell, and it is known of what kind. -/
def One (hp : Nat → AObj) : AVal → Prop
  | .val x => x.oneCell' = true
  | .ro _ _ _ => True
  | .rp _ _ => True
  | .clo _ _ => True
  | .own r ver => ∃ k nn cs, hp r = .row ver k nn cs
  | .ptr r ver _ => (hp r).ver = some ver
  | .mp r ver => ∃ ks vs, hp r = .map ver ks vs
  | _ => False

/-- What becomes of a row that is put into another one: nobody writes it any more. -/
def frz (hp : Nat → AObj) : AVal → AVal
  | .own r ver => match hp r with
    | .row _ k nn cs => .ro (frNm nn cs.length ver) k cs
    | _ => .any
  | A => A

/-- The rows among some cells. -/
def owned : List AVal → List Nat
  | [] => []
  | .own r _ :: cs => r :: owned cs
  | _ :: cs => owned cs

def binV (op : BinOp) : Value → Value → Option Value
  | .int k a, .int k' b =>
    match op with
    | .shl => if b < 0 then none else some (.int k (k.wrap (a * 2 ^ (min b.toNat k.bits))))
    | .shr => if b < 0 then none else some (.int k (a.fdiv (2 ^ (min b.toNat k.bits))))
    | _ =>
      if k ≠ k' then none else
      match op with
      | .add => some (.int k (k.wrap (a + b)))
      | .sub => some (.int k (k.wrap (a - b)))
      | .mul => some (.int k (k.wrap (a * b)))
      | .quo => if b = 0 then none else some (.int k (k.wrap (a.tdiv b)))
      | .rem => if b = 0 then none else some (.int k (a.tmod b))
      | .and => some (.int k (k.wrap (BitVec.ofInt k.bits a &&& BitVec.ofInt k.bits b).toNat))
      | .or => some (.int k (k.wrap (BitVec.ofInt k.bits a ||| BitVec.ofInt k.bits b).toNat))
      | .xor => some (.int k (k.wrap (BitVec.ofInt k.bits a ^^^ BitVec.ofInt k.bits b).toNat))
      | .andNot => some (.int k (k.wrap (BitVec.ofInt k.bits a &&& ~~~ BitVec.ofInt k.bits b).toNat))
      | .eql => some (.bool (a == b))
      | .neq => some (.bool (a != b))
      | .lss => some (.bool (decide (a < b)))
      | .leq => some (.bool (decide (a ≤ b)))
      | .gtr => some (.bool (decide (b < a)))
      | .geq => some (.bool (decide (b ≤ a)))
      | _ => none
  | .string a, .string b =>
    match op with
    | .add => if a.size + b.size ≤ maxLen then some (.string (a ++ b)) else none
    | .eql => some (.bool (a.toList == b.toList))
    | .neq => some (.bool !(a.toList == b.toList))
    | .lss => some (.bool (Op.bytesLess a.toList b.toList))
    | .leq => some (.bool (Op.bytesLess a.toList b.toList || a.toList == b.toList))
    | .gtr => some (.bool !(Op.bytesLess a.toList b.toList || a.toList == b.toList))
    | .geq => some (.bool !(Op.bytesLess a.toList b.toList))
    | _ => none
  | _, _ => none

def unV (op : UnOp) : Value → Option Value
  | .int k n => match op with
    | .neg => some (.int k (k.wrap (0 - n)))
    | _ => none
  | .bool b => match op with
    | .not => some (.bool !b)
    | _ => none
  | _ => none

/-- The byte in a cell. -/
def byteOfCell : AVal → Option UInt8
  | .val (.int .u8 n) => some (UInt8.ofNat n.toNat)
  | _ => none

/-- The cells of a slice value, and how many cells an element has; none if it is not known. -/
def St.sl (σ : St) : AVal → Option (Nat × List AVal)
  | .ro _ k cs => some (k, cs)
  | .own r ver => match σ.hp r with
    | .row ver' k _ cs => if ver' = ver then some (k, cs) else none
    | _ => none
  | _ => none

/-- It is known not to be nil. -/
def St.nn (σ : St) : AVal → Bool
  | .own r _ => match σ.hp r with
    | .row _ _ nn _ => nn
    | _ => false
  | _ => false

/-- The cells of a slice value; none where they are not known. -/
def St.slc (σ : St) (A : AVal) : List AVal := ((σ.sl A).getD (1, [])).2

/-- The cells to which a pointer leads. -/
def St.at (σ : St) : AVal → Option (List AVal × Nat)
  | .ptr r ver off => match σ.hp r with
    | .box ver' cs => if ver' = ver then some (cs, off) else none
    | .row ver' _ _ cs => if ver' = ver then some (cs, off) else none
    | _ => none
  | .rp cs off => some (cs, off)
  | _ => none

def putAt (cs : List AVal) (off : Nat) (new : List AVal) : List AVal := cs.take off ++ new ++ cs.drop (off + new.length)

/-- The number of a bound of a slice expression; n if it is not there. -/
def St.bound (σ : St) (n : Nat) : Option AOpd → Option Nat
  | none => some n
  | some x => match σ.ev x with
    | .val (.int _ i) => if 0 ≤ i then some i.toNat else none
    | _ => none

/-- Keys that are compared at once. -/
def sameKey : Value → Value → Option Bool
  | .int k a, .int k' b => if k = k' then some (a == b) else none
  | .string a, .string b => some (a == b)
  | .bool a, .bool b => some (a == b)
  | _, _ => none

def keyIs : Nat → Value → Bool
  | 0, .int _ _ => true
  | 1, .string _ => true
  | 2, .bool _ => true
  | _, _ => false

/-- The place of a key among keys: none if two cannot be compared. -/
def findKeyAt (k : Value) : List Value → Nat → Option (Option Nat)
  | [], _ => some none
  | x :: xs, i => match sameKey k x with
    | some true => some (some i)
    | some false => findKeyAt k xs (i + 1)
    | none => none

def St.mapAt (σ : St) : AVal → Option (List Value × List AVal)
  | .mp r ver => match σ.hp r with
    | .map ver' ks vs => if ver' = ver then some (ks, vs) else none
    | _ => none
  | _ => none

/-- What an instruction asks of the state. -/
def AI.pre (σ : St) (d : Nat) : AI → Prop
  | .mov _ => True
  | .pick c _ _ => match σ.ev c with | .val (.bool _) => True | _ => False
  | .bin op x y => match σ.ev x, σ.ev y with | .val a, .val b => (binV op a b).isSome = true | _, _ => False
  | .beq _ x y => match σ.ev x, σ.ev y with | .val (.bool _), .val (.bool _) => True | _, _ => False
  | .isnil _ x => match σ.ev x with
    | .val (.slice none 0 0) => True
    | .ro nm _ cs => isNew nm = true ∨ 0 < cs.length
    | .own r ver => ∃ k cs, σ.hp r = .row ver k true cs
    | _ => False
  | .isnilp _ x => match σ.ev x with
    | .val (.pointer none) => True
    | .ptr r ver _ => (σ.hp r).ver = some ver
    | .rp _ _ => True
    | _ => False
  | .un op x => match σ.ev x with | .val a => (unV op a).isSome = true | _ => False
  | .cvi _ x => match σ.ev x with | .val (.int _ _) => True | _ => False
  | .cvbs x => match σ.sl (σ.ev x) with | some (k, cs) => k = 1 ∧ ∀ A ∈ cs, (byteOfCell A).isSome = true | _ => False
  | .box x => σ.hp d = .gone ∧ ∀ A ∈ (σ.ev x).cells, One σ.hp A
  | .new _ => σ.hp d = .gone
  | .bsl k fz xs => (fz = false → ∀ x ∈ xs, ∃ v, σ.ev x = .val v ∧ v.oneCell' = true) ∧ σ.hp d = .gone ∧ (∀ x ∈ xs, (σ.ev x).cells.length = k ∧ ∀ A ∈ (σ.ev x).cells, One σ.hp A) ∧ (owned (xs.flatMap fun x => (σ.ev x).cells)).Nodup
  | .bsln nos k xs => (∀ r ∈ nos, r ∉ owned (xs.flatMap fun x => (σ.ev x).cells)) ∧ σ.hp d = .gone ∧ (∀ x ∈ xs, (σ.ev x).cells.length = k ∧ ∀ A ∈ (σ.ev x).cells, One σ.hp A) ∧ (owned (xs.flatMap fun x => (σ.ev x).cells)).Nodup
  | .bst _ ps => ∀ p ∈ ps, (σ.ev p.2.2).cells.length = p.2.1 ∧ ∀ A ∈ (σ.ev p.2.2).cells, One σ.hp A
  | .ld x => match σ.at (σ.ev x) with | some (cs, off) => off < cs.length | none => False
  | .lda n x => match σ.at (σ.ev x) with | some (cs, off) => off + n ≤ cs.length | none => False
  | .sto n x v => match σ.ev x with
    | .ptr r ver off => (match σ.hp r with
      | .box ver' cs => ver' = ver ∧ off + n ≤ cs.length
      | .row ver' _ _ cs => ver' = ver ∧ off + n ≤ cs.length ∧ (owned (σ.ev v).cells).Nodup ∧ r ∉ owned (σ.ev v).cells
      | _ => False) ∧ (σ.ev v).cells.length = n ∧ ∀ A ∈ (σ.ev v).cells, One σ.hp A
    | _ => False
  | .nilck x => match σ.ev x with | .ptr r ver _ => (σ.hp r).ver = some ver ∧ ∀ v ks vs, σ.hp r ≠ .map v ks vs | .rp _ _ => True | _ => False
  | .fad _ x => match σ.ev x with | .ptr r ver _ => (σ.hp r).ver = some ver | .rp _ _ => True | _ => False
  | .fld off x => match σ.ev x with | .st cs => off < cs.length | .val (.agg vs) => off < vs.size | _ => False
  | .flda off n x => match σ.ev x with | .st cs => off + n ≤ cs.length | _ => False
  | .iad k x i => match σ.ev i with
    | .val (.int _ n) => (match σ.sl (σ.ev x) with | some (k', cs) => k' = k ∧ 0 ≤ n ∧ n.toNat * k < cs.length | none => False)
    | _ => False
  | .idx x i => match σ.ev x, σ.ev i with | .val (.string s), .val (.int _ n) => 0 ≤ n ∧ n.toNat < s.size | _, _ => False
  | .len x => match σ.ev x with
    | .val (.slice none 0 0) => True
    | A => (σ.sl A).isSome = true
  | .lens x => match σ.ev x with | .val (.string _) => True | _ => False
  | .lenm x => (σ.mapAt (σ.ev x)).isSome = true
  | .app k bytes s x =>
    (match σ.ev x with
    | .val (.slice none 0 0) => True
    | A => match σ.sl A with | some (k', xs) => k' = k ∧ ∀ A ∈ xs, One σ.hp A | none => False) ∧
    (match σ.ev s with
    | .val (.slice none 0 0) => σ.hp d = .gone ∧ ((σ.slc (σ.ev x)).length / k) * bytes ≤ 140737488355328
    | .own r ver => (match σ.hp r with
      | .row ver' k' _ cs => ver' = ver ∧ k' = k ∧ ((cs.length + (σ.slc (σ.ev x)).length) / k) * bytes ≤ 140737488355328
      | _ => False)
    | _ => False)
  | .mks _ bytes _ l c => match σ.ev l, σ.ev c with
    | .val (.int .i64 n), .val (.int .i64 m) => σ.hp d = .gone ∧ 0 ≤ n ∧ n ≤ m ∧ m * bytes ≤ 140737488355328 ∧ m ≤ 9223372036854775807
    | _, _ => False
  | .slc k x lo hi => match σ.sl (σ.ev x) with
    | some (k', cs) => k' = k ∧ (match σ.bound 0 lo, σ.bound (cs.length / k) hi with | some l, some h => l ≤ h ∧ h * k ≤ cs.length | _, _ => False)
    | none => False
  | .slc0 k x => match σ.sl (σ.ev x) with | some (k', _) => k' = k ∧ σ.hp d = .gone | none => False
  | .sls x lo hi => match σ.ev x with
    | .val (.string s) => (match σ.bound 0 lo, σ.bound s.size hi with | some l, some h => l ≤ h ∧ h ≤ s.size | _, _ => False)
    | _ => False
  | .mkm => σ.hp d = .gone
  | .lkp kd _ _ x i => match σ.ev i, σ.mapAt (σ.ev x) with | .val k, some (ks, _) => keyIs kd k = true ∧ (findKeyAt k ks 0).isSome = true | _, _ => False
  | .mup kd x i v => match σ.ev x, σ.ev i with
    | .mp r ver, .val k => (match σ.hp r with
      | .map ver' ks _ => ver' = ver ∧ (findKeyAt k ks 0).isSome = true ∧ keyIs kd k = true
      | _ => False) ∧ ∀ r v', σ.ev v = .own r v' → ∃ k nn l, σ.hp r = .row v' k nn l
    | _, _ => False
  | .mkf _ _ => True
  | .ext i x => match σ.ev x with | .tup cs => i < cs.length | _ => False
  | .mx _ x y => match σ.ev x, σ.ev y with | .val (.int _ _), .val (.int _ _) => True | _, _ => False
  | .ldb x => match σ.ev x with
    | .ptr r ver off => (match σ.hp r with | .box v cs => v = ver ∧ off < cs.length | _ => False)
    | .rp cs off => off < cs.length
    | _ => False
  | .fadb _ x => match σ.ev x with
    | .ptr r ver _ => (match σ.hp r with | .box v _ => v = ver | _ => False)
    | .rp _ _ => True
    | _ => False

/-- What it gives. -/
def AI.out (σ : St) (ver : Nat) (d : Nat) : AI → AVal
  | .mov x => σ.ev x
  | .pick c a b => match σ.ev c with | .val (.bool t) => if t then σ.ev a else σ.ev b | _ => .any
  | .bin op x y => match σ.ev x, σ.ev y with | .val a, .val b => (match binV op a b with | some v => .val v | none => .any) | _, _ => .any
  | .beq neg x y => match σ.ev x, σ.ev y with | .val (.bool a), .val (.bool b) => .val (.bool (if neg then !(a == b) else a == b)) | _, _ => .any
  | .isnil neg x => match σ.ev x with
    | .val (.slice none 0 0) => .val (.bool !neg)
    | _ => .val (.bool neg)
  | .isnilp neg x => match σ.ev x with
    | .val (.pointer none) => .val (.bool !neg)
    | _ => .val (.bool neg)
  | .un op x => match σ.ev x with | .val a => (match unV op a with | some v => .val v | none => .any) | _ => .any
  | .cvi k x => match σ.ev x with | .val (.int _ n) => .val (.int k (k.wrap n)) | _ => .any
  | .cvbs x => match σ.sl (σ.ev x) with | some (_, cs) => .val (.string ⟨(cs.filterMap byteOfCell).toArray⟩) | _ => .any
  | .box _ => .ptr d ver 0
  | .new _ => .ptr d ver 0
  | .bsl _ _ _ => .own d ver
  | .bsln _ _ _ => .own d ver
  | .bst z ps => .st (ps.foldl (fun cs p => putAt cs p.1 (σ.ev p.2.2).cells) (z.map .val))
  | .ld x => match σ.at (σ.ev x) with | some (cs, off) => cs.getD off .any | none => .any
  | .lda n x => match σ.at (σ.ev x) with | some (cs, off) => .st ((cs.drop off).take n) | none => .any
  | .sto _ _ _ => .any
  | .nilck x => σ.ev x
  | .fad off x => match σ.ev x with | .ptr r v o => .ptr r v (o + off) | .rp cs o => .rp cs (o + off) | _ => .any
  | .fld off x => match σ.ev x with | .st cs => cs.getD off .any | .val (.agg vs) => .val (vs.getD off (.bool false)) | _ => .any
  | .flda off n x => match σ.ev x with | .st cs => .st ((cs.drop off).take n) | _ => .any
  | .iad k x i => match σ.ev x, σ.ev i with
    | .ro _ _ cs, .val (.int _ n) => .rp cs (n.toNat * k)
    | .own r v, .val (.int _ n) => .ptr r v (n.toNat * k)
    | _, _ => .any
  | .idx x i => match σ.ev x, σ.ev i with | .val (.string s), .val (.int _ n) => .val (.int .u8 (s.data.getD n.toNat 0).toNat) | _, _ => .any
  | .len x => match σ.ev x with
    | .val (.slice none 0 0) => .val (.int .i64 0)
    | A => match σ.sl A with | some (k, cs) => .val (.int .i64 ((cs.length / k : Nat) : Int)) | none => .any
  | .lens x => match σ.ev x with | .val (.string s) => .val (.int .i64 s.size) | _ => .any
  | .lenm x => match σ.mapAt (σ.ev x) with | some (ks, _) => .val (.int .i64 ks.length) | none => .any
  | .app _ _ s x => match σ.ev s with
    | .own r _ => .own r ver
    | _ => if (σ.slc (σ.ev x)).length = 0 then .val (.slice none 0 0) else .own d ver
  | .mks _ _ _ _ _ => .own d ver
  | .slc k x lo hi => match σ.ev x with
    | .ro nm _ cs => (match σ.bound 0 lo, σ.bound (cs.length / k) hi with | some l, some h => .ro nm k ((cs.take (h * k)).drop (l * k)) | _, _ => .any)
    | .own r _ => .own r ver
    | _ => .any
  | .slc0 _ _ => .own d ver
  | .sls x lo hi => match σ.ev x with
    | .val (.string s) => (match σ.bound 0 lo, σ.bound s.size hi with | some l, some h => .val (.string (s.extract l h)) | _, _ => .any)
    | _ => .any
  | .mkm => .mp d ver
  | .lkp _ ok z x i => match σ.ev i, σ.mapAt (σ.ev x) with
    | .val k, some (ks, vs) => (match findKeyAt k ks 0 with
      | some (some j) => if ok then .tup [vs.getD j .any, .val (.bool true)] else vs.getD j .any
      | _ => if ok then .tup [z, .val (.bool false)] else z)
    | _, _ => .any
  | .mup _ _ _ _ => .any
  | .mkf g caps => .clo g (caps.map σ.ev)
  | .ext i x => match σ.ev x with | .tup cs => cs.getD i .any | _ => .any
  | .mx big x y => match σ.ev x, σ.ev y with | .val (.int k a), .val (.int _ b) => .val (.int k (if big then (if b > a then b else a) else (if b < a then b else a))) | _, _ => .any
  | .ldb x => match σ.at (σ.ev x) with | some (cs, off) => cs.getD off .any | none => .any
  | .fadb off x => match σ.ev x with | .ptr r v o => .ptr r v (o + off) | .rp cs o => .rp cs (o + off) | _ => .any

/-- The objects behind it. -/
def AI.hpw (σ : St) (ver : Nat) (d : Nat) : AI → Nat → AObj
  | .box x => fun n => if n = d then .box ver (σ.ev x).cells else σ.hp n
  | .new z => fun n => if n = d then .box ver (z.map .val) else σ.hp n
  | .bsl k _ xs => fun n => if n = d then .row ver k true ((xs.flatMap fun x => (σ.ev x).cells).map (frz σ.hp)) else if n ∈ owned (xs.flatMap fun x => (σ.ev x).cells) then .gone else σ.hp n
  | .bsln _ k xs => fun n => if n = d then .row ver k true ((xs.flatMap fun x => (σ.ev x).cells).map (frz σ.hp)) else if n ∈ owned (xs.flatMap fun x => (σ.ev x).cells) then .gone else σ.hp n
  | .sto _ x v => match σ.ev x with
    | .ptr r _ off => (match σ.hp r with
      | .box ver' cs => fun n => if n = r then .box ver' (putAt cs off (σ.ev v).cells) else σ.hp n
      | .row ver' k nn cs => fun n => if n = r then .row ver' k nn (putAt cs off ((σ.ev v).cells.map (frz σ.hp))) else if n ∈ owned (σ.ev v).cells then .gone else σ.hp n
      | _ => σ.hp)
    | _ => σ.hp
  | .app k _ s x => match σ.ev s with
    | .own r _ => (match σ.hp r with
      | .row _ _ nn cs => fun n => if n = r then .row ver k (nn || decide ((σ.slc (σ.ev x)).length ≠ 0)) (cs ++ σ.slc (σ.ev x)) else σ.hp n
      | _ => σ.hp)
    | _ => if (σ.slc (σ.ev x)).length = 0 then σ.hp else fun n => if n = d then .row ver k true (σ.slc (σ.ev x)) else σ.hp n
  | .mks k _ z l _ => match σ.ev l with
    | .val (.int _ n) => fun j => if j = d then .row ver k true (List.replicate n.toNat (z.map .val)).flatten else σ.hp j
    | _ => σ.hp
  | .slc k x lo hi => match σ.ev x with
    | .own r _ => (match σ.hp r with
      | .row _ _ nn cs => (match σ.bound 0 lo, σ.bound (cs.length / k) hi with | some l, some h => fun n => if n = r then .row ver k nn ((cs.take (h * k)).drop (l * k)) else σ.hp n | _, _ => σ.hp)
      | _ => σ.hp)
    | _ => σ.hp
  | .slc0 k x => fun n => if n = d then .row ver k (σ.nn (σ.ev x)) [] else σ.hp n
  | .mkm => fun n => if n = d then .map ver [] [] else σ.hp n
  | .mup _ x i v => match σ.ev x, σ.ev i with
    | .mp r _, .val k => (match σ.hp r with
      | .map ver' ks vs => (match findKeyAt k ks 0 with
        | some (some j) => fun n => if n = r then .map ver' ks (vs.set j (frz σ.hp (σ.ev v))) else if n ∈ owned [σ.ev v] then .gone else σ.hp n
        | _ => fun n => if n = r then .map ver' (ks ++ [k]) (vs ++ [frz σ.hp (σ.ev v)]) else if n ∈ owned [σ.ev v] then .gone else σ.hp n)
      | _ => σ.hp)
    | _, _ => σ.hp
  | _ => σ.hp

/-- What is known besides. -/
def AI.fact (σ : St) : AI → Prop
  | .len x => match σ.sl (σ.ev x) with | some (k, cs) => cs.length / k ≤ maxLen | none => True
  | _ => True

/-- Reads through a pointer to a variable alone. -/
def AI.bx : AI → Bool
  | .ldb _ | .fadb _ _ => true
  | _ => false

/-- The same, for a pointer to a variable alone. -/
def AI.mb (wb : Bool) (nos : List Nat) : AI → AI
  | .ld x => if wb = true then .ldb x else .ld x
  | .fad off x => if wb = true then .fadb off x else .fad off x
  | .bsl k true xs => .bsln nos k xs
  | x => x

theorem mb_pre {σ : St} {d : Nat} {wb : Bool} {nos : List Nat} {x : AI} (h : (x.mb wb nos).pre σ d) : x.pre σ d := by
  cases x with
  | ld x =>
    cases wb with
    | false => exact h
    | true =>
    simp only [AI.pre, AI.mb, if_true] at h ⊢
    split at h
    · rename_i r ver off e
      simp only [St.at, e]
      split at h
      · rename_i v cs hr; rw [hr]; simp only [h.1, if_true]; exact h.2
      · exact h.elim
    · rename_i cs off e; simp only [St.at, e]; exact h
    · exact h.elim
  | fad off x =>
    cases wb with
    | false => exact h
    | true =>
    simp only [AI.pre, AI.mb, if_true] at h ⊢
    split at h
    · rename_i r ver off e
      split at h
      · rename_i v cs hr
        show (σ.hp r).ver = some ver
        rw [hr]; simp [h]
      · exact h.elim
    · trivial
    · exact h.elim
  | bsl k fz xs =>
    cases fz with
    | false => exact h
    | true => exact ⟨(fun e => by cases e), h.2⟩
  | _ => exact h

theorem mb_out {σ : St} {ver d : Nat} {wb : Bool} {nos : List Nat} {x : AI} : (x.mb wb nos).out σ ver d = x.out σ ver d := by
  cases x with
  | ld x => cases wb <;> rfl
  | fad off x => cases wb <;> rfl
  | bsl k fz xs => cases fz <;> rfl
  | _ => rfl
theorem mb_hpw {σ : St} {ver d : Nat} {wb : Bool} {nos : List Nat} {x : AI} : (x.mb wb nos).hpw σ ver d = x.hpw σ ver d := by
  cases x with
  | ld x => cases wb <;> rfl
  | fad off x => cases wb <;> rfl
  | bsl k fz xs => cases fz <;> rfl
  | _ => rfl
theorem mb_fact {σ : St} {wb : Bool} {nos : List Nat} {x : AI} : (x.mb wb nos).fact σ = x.fact σ := by
  cases x with
  | ld x => cases wb <;> rfl
  | fad off x => cases wb <;> rfl
  | bsl k fz xs => cases fz <;> rfl
  | _ => rfl

def AI.eff (σ : St) (ver : Nat) (d : Option Nat) (x : AI) : St :=
  St.put { tm := σ.tm, hp := x.hpw σ ver (d.getD 0) } d (x.out σ ver (d.getD 0))

end Go.Ab
