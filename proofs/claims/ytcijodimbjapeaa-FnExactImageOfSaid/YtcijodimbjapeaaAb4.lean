/- From the model's operations to the instructions: the translation, and what it takes of the program. Conditions: none. -/
import Derived.Test.YtcijodimbjapeaaAb3
set_option linter.all false
namespace Go.Ab

def cOpd : Operand → Option AOpd
  | .tmp t => some (.t t)
  | .const v => some (.c v)
  | .func f => some (.f f)
  | .global _ => none

def cOpds (xs : List Operand) : Option (List AOpd) := xs.mapM cOpd

/-- The size of a value's variable: none: not known; some none: one cell; some (some n): a struct or array of n cells. -/
def cSize (P : Program) (t : TypeId) : Option (Option Nat) :=
  match P.underlying t, P.info? t with
  | some (.struct _), some i => some (some i.size)
  | some (.array _ _), some i => some (some i.size)
  | some _, some i => if i.size = 1 then some none else none
  | _, _ => none

/-- A slice's element: cells, bytes, zero. -/
def cElem (P : Program) (t : TypeId) : Option (Nat × Nat × Value) :=
  match P.underlying t with
  | some (.slice e) => match P.info? e with
    | some i => match i.zero with
      | some z => if 0 < i.size ∧ z.cells.size = i.size ∧ 0 < i.bytes then some (i.size, i.bytes, z) else none
      | none => none
    | none => none
  | _ => none

def isNilSl : Operand → Bool
  | .const (.slice none 0 0) => true
  | _ => false
def isNilPtr : Operand → Bool
  | .const (.pointer none) => true
  | _ => false

def isSlice (P : Program) (t : TypeId) : Bool := match P.underlying t with | some (.slice _) => true | _ => false
def isPtr (P : Program) (t : TypeId) : Bool := match P.underlying t with | some (.pointer _) => true | _ => false
def isInt (P : Program) (t : TypeId) : Bool := match P.underlying t with | some (.int _) => true | _ => false
def isStr (P : Program) (t : TypeId) : Bool := match P.underlying t with | some .string => true | _ => false
def isBool (P : Program) (t : TypeId) : Bool := match P.underlying t with | some .bool => true | _ => false

def kindOf (P : Program) (t : TypeId) : Nat := if isInt P t = true then 0 else if isStr P t = true then 1 else 2

/-- The parts of a slice's literal, all there and in order. -/
def cParts : Nat → List (Nat × Operand) → Option (List AOpd)
  | _, [] => some []
  | i, (j, x) :: ps => if i = j then (match cOpd x, cParts (i + 1) ps with | some a, some as => some (a :: as) | _, _ => none) else none

/-- Whether the elements of a slice may be slices, or hold some. -/
def mayOwn (P : Program) (t : TypeId) : Bool := match P.underlying t with
  | some (.slice e) => match P.underlying e with
    | some (.int _) => false
    | some .string => false
    | some .bool => false
    | _ => true
  | _ => true

def cFields (P : Program) (fs : Array Field) : List (Nat × Operand) → Option (List (Nat × Nat × AOpd))
  | [] => some []
  | (j, x) :: ps => match fs[j]? with
    | some f => match P.info? f.type, cOpd x, cFields P fs ps with
      | some i, some a, some as => some ((f.offset, i.size, a) :: as)
      | _, _, _ => none
    | none => none

def cBound : Option Operand → Option (Option AOpd)
  | none => some none
  | some x => (cOpd x).map some

def isZero : Option Operand → Bool
  | some (.const (.int _ 0)) => true
  | _ => false

/-- The one function that the model treats apart. -/
def isNumG (fn : Func) : Bool := match fn.name.toList with
  | _ :: _ :: _ :: _ :: _ :: _ :: _ :: _ :: r :: u :: m :: _ => decide (r.toNat = 78 ∧ u.toNat = 117 ∧ m.toNat = 109)
  | _ => false

def dstBad (N : Nat) : Option Nat → Bool
  | some d => decide (N ≤ d)
  | none => false

def cOp1 (P : Program) (o : Oper) : Option AIns :=
  match o.op, o.dst with
  | .move x, some _ => (cOpd x).map fun a => .i (.mov a)
  | .assign x, some _ => (cOpd x).map fun a => .i (.mov a)
  | .pick c a b, some _ => match cOpd c, cOpd a, cOpd b with
    | some c, some a, some b => some (.i (.pick c a b))
    | _, _, _ => none
  | .binOp op t x y _, some _ => match cOpd x, cOpd y with
    | some a, some b =>
      if isSlice P t = true then
        (if isNilSl y = true then (match op with | .eql => some (.i (.isnil false a)) | .neq => some (.i (.isnil true a)) | _ => none) else none)
      else if isPtr P t = true then
        (if isNilPtr y = true then (match op with | .eql => some (.i (.isnilp false a)) | .neq => some (.i (.isnilp true a)) | _ => none) else none)
      else if isBool P t = true then (match op with | .eql => some (.i (.beq false a b)) | .neq => some (.i (.beq true a b)) | _ => none)
      else some (.i (.bin op a b))
    | _, _ => none
  | .unOp op _ x, some _ => (cOpd x).map fun a => .i (.un op a)
  | .convert src dst x, some _ => match P.underlying src, P.underlying dst, cOpd x with
    | some (.int _), some (.int k), some a => some (.i (.cvi k a))
    | some (.slice e), some .string, some a => (match P.underlying e with | some (.int .u8) => some (.i (.cvbs a)) | _ => none)
    | _, _, _ => none
  | .box _ x, some _ => (cOpd x).map fun a => .i (.box a)
  | .alloc e, some _ => match P.info? e with
    | some i => (match i.zero with | some z => some (.i (.new z.cells.toList)) | none => none)
    | none => none
  | .buildSlice t len ps, some _ => match cElem P t, cParts 0 ps.toList with
    | some (k, _, _), some xs => if xs.length = len ∧ len * k ≤ 2 ^ 24 then some (.i (.bsl k (mayOwn P t) xs)) else none
    | _, _ => none
  | .build t ps, some _ => match P.underlying t, P.info? t with
    | some (.struct fs), some i => (match i.zero with
      | some z => (match cFields P fs ps.toList, fs.toList.mapM (fun f => (P.info? f.type).map fun i => (f.offset, i.size)) with
        | some as, some _ => if as.all (fun p => decide (p.1 + p.2.1 ≤ z.cells.size)) then some (.i (.bst z.cells.toList as)) else none
        | _, _ => none)
      | none => none)
    | _, _ => none
  | .load t x, some _ => match cSize P t, cOpd x with
    | some none, some a => some (.i (.ld a))
    | some (some n), some a => if n = 0 then none else some (.i (.lda n a))
    | _, _ => none
  | .store t x v, none => match cSize P t, cOpd x, cOpd v with
    | some none, some a, some b => some (.i (.sto 1 a b))
    | some (some n), some a, some b => if n = 0 then none else some (.i (.sto n a b))
    | _, _, _ => none
  | .nilCheck x, some _ => (cOpd x).map fun a => .i (.nilck a)
  | .fieldAddr s x f, some _ => match P.underlying s, cOpd x with
    | some (.struct fs), some a => (match fs[f]? with
      | some fl => (match P.info? fl.type with | some i => if i.size = 0 then none else some (.i (.fad fl.offset a)) | none => none)
      | none => none)
    | _, _ => none
  | .field s x f, some _ => match P.underlying s, cOpd x with
    | some (.struct fs), some a => (match fs[f]? with
      | some fl => (match cSize P fl.type with
        | some none => some (.i (.fld fl.offset a))
        | some (some n) => some (.i (.flda fl.offset n a))
        | none => none)
      | none => none)
    | _, _ => none
  | .indexAddr t x ix, some _ => match cElem P t, cOpd x, cOpd ix with
    | some (k, _, _), some a, some b => some (.i (.iad k a b))
    | _, _, _ => none
  | .index t x ix, some _ => match cOpd x, cOpd ix with
    | some a, some b => if isStr P t = true then some (.i (.idx a b)) else none
    | _, _ => none
  | .slice t x lo hi mx, some _ => match cOpd x, cBound lo, cBound hi with
    | some a, some l, some h =>
      if isStr P t = true then (match mx with | none => some (.i (.sls a l h)) | some _ => none) else
      (match cElem P t, mx with
      | some (k, _, _), none => some (.i (.slc k a l h))
      | some (k, _, _), some _ => if (lo.isNone ∨ isZero lo = true) ∧ isZero hi = true ∧ isZero mx = true then some (.i (.slc0 k a)) else none
      | _, _ => none)
    | _, _, _ => none
  | .makeSlice t l c, some _ => match cElem P t, cOpd l, cOpd c with
    | some (k, by_, z), some a, some b => some (.i (.mks k by_ z.cells.toList a b))
    | _, _, _ => none
  | .makeMap _ none, some _ => some (.i .mkm)
  | .lookup t x ix ok, some _ => match P.underlying t, cOpd x, cOpd ix with
    | some (.map k e), some a, some b =>
      if isInt P k = true ∨ isStr P k = true ∨ isBool P k = true then
        (match P.info? e with
        | some i => (match i.zero with
          | some (.agg vs) => some (.i (.lkp (kindOf P k) ok (.st (vs.toList.map .val)) a b))
          | some z => some (.i (.lkp (kindOf P k) ok (.val z) a b))
          | none => none)
        | none => none)
      else none
    | _, _, _ => none
  | .mapUpdate t m k v, none => match P.underlying t, cOpd m, cOpd k, cOpd v with
    | some (.map kt _), some a, some b, some c => if isInt P kt = true ∨ isStr P kt = true ∨ isBool P kt = true then some (.i (.mup (kindOf P kt) a b c)) else none
    | _, _, _, _ => none
  | .insert t m k v, none => match P.underlying t, cOpd m, cOpd k, cOpd v with
    | some (.map kt _), some a, some b, some c => if isInt P kt = true ∨ isStr P kt = true ∨ isBool P kt = true then some (.i (.mup (kindOf P kt) a b c)) else none
    | _, _, _, _ => none
  | .makeFunc (.func g) first caps, some _ => if first.size = 0 then (cOpds caps.toList).map fun cs => .i (.mkf g cs) else none
  | .extract x i, some _ => (cOpd x).map fun a => .i (.ext i a)
  | .call { callee := .builtin .len, args := args, argTypes := ts }, some _ => match args.toList, ts.toList with
    | [x], [t] => match P.underlying t, cOpd x with
      | some (.slice _), some a => some (.i (.len a))
      | some .string, some a => some (.i (.lens a))
      | some (.map _ _), some a => some (.i (.lenm a))
      | _, _ => none
    | _, _ => none
  | .call { callee := .builtin .append, args := args, argTypes := ts }, some _ => match args.toList, ts.toList with
    | [s, x], [t, t'] => (match cElem P t, cOpd s, cOpd x with
      | some (k, by_, _), some a, some b => if t' = t then some (.i (.app k by_ a b)) else none
      | _, _, _ => none)
    | _, _ => none
  | .call { callee := .builtin .max, args := args, argTypes := _ }, some _ => match args.toList with
    | [x, y] => (match cOpd x, cOpd y with | some a, some b => some (.i (.mx true a b)) | _, _ => none)
    | _ => none
  | .call { callee := .builtin .min, args := args, argTypes := _ }, some _ => match args.toList with
    | [x, y] => (match cOpd x, cOpd y with | some a, some b => some (.i (.mx false a b)) | _, _ => none)
    | _ => none
  | .call { callee := .value (.func f), args := args, argTypes := _ }, _ => (cOpds args.toList).map fun as => .call f as
  | .call { callee := .value (.tmp t), args := args, argTypes := _ }, _ => (cOpds args.toList).map fun as => .calv (.t t) as
  | _, _ => none

def cOp (P : Program) (N : Nat) (o : Oper) : Option AIns := if dstBad N o.dst = true then none else cOp1 P o

end Go.Ab
