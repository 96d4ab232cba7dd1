/- Contracts and what they lean on, part 1. Conditions: none. -/
import Derived.Below
import Derived.Calls
set_option maxRecDepth 100000
set_option maxHeartbeats 4000000
set_option linter.all false
open Nat renaming reduceLeDiff → xx0, reduceMul → xx1, reduceSub → xx2, reduceEqDiff → xx3, reduceAdd → xx4, reduceLT → xx5
open Int renaming reduceToNat → xx6, reduceNeg → xx7, reduceLE → xx8, reduceLT → xx9
namespace Go.Ab
theorem heap_old_ab (w:World) (o:Obj) (i:Nat) (h:i<w.heap.size):(w.alloc o).heap[i]?=w.heap[i]?:=by
  show (w.heap.push o)[i]?=_
  rw [Array.getElem?_push,if_neg (by omega)]
inductive AVal where
  | any
  | val (v:Value)
  | ro (nm:Option (Option Nat)) (k:Nat) (cs:List AVal)
  | own (r ver:Nat)
  | st (cs:List AVal)
  | tup (cs:List AVal)
  | ptr (r ver off:Nat)
  | rp (cs:List AVal) (off:Nat)
  | mp (r ver:Nat)
  | clo (f:FuncId) (caps:List AVal)
  deriving Inhabited
inductive AObj where
  | gone
  | box (ver:Nat) (cs:List AVal)
  | row (ver k:Nat) (nn:Bool) (cs:List AVal)
  | map (ver:Nat) (ks:List Value) (vs:List AVal)
  | it (ver:Nat) (d:Option (Bool×List Value×List AVal))
  deriving Inhabited
def itd (f:List AVal→List AVal):Option (Bool×List Value×List AVal)→Option (Bool×List Value×List AVal)
  | none=>none
  | some (b,ks,vs)=>some (b,ks,f vs)
def AObj.ver:AObj→Option Nat
  | .gone=>none
  | .box v _=>some v
  | .row v _ _ _=>some v
  | .map v _ _=>some v
  | .it v _=>some v
@[simp] theorem AObj.ver_gone:AObj.gone.ver=none:=rfl
@[simp] theorem AObj.ver_box (v cs):(AObj.box v cs).ver=some v:=rfl
@[simp] theorem AObj.ver_row (v k nn cs):(AObj.row v k nn cs).ver=some v:=rfl
@[simp] theorem AObj.ver_map (v ks vs):(AObj.map v ks vs).ver=some v:=rfl
@[simp] theorem AObj.ver_it (v d):(AObj.it v d).ver=some v:=rfl
structure Cz where
  w:World
  base:Nat
  ext:Nat→Prop
  hp:Nat→AObj
  loc:Nat→Value
  names:Nat→Option Nat
  used:Nat→Prop
  old:Nat→Prop
def baseOf:Value→Option Addr
  | .slice a _ _=>a
  | .pointer a=>a
  | _=>none
def blockOf:Value→Option Nat
  | .slice (some a) _ cap=>if cap=0 then none else some a.block
  | .pointer (some a)=>some a.block
  | .map r=>r
  | _=>none
def Cz.fit (c:Cz) (b m:Nat):Prop:=∃ t,∃ cells:Array Value,c.w.heap[b]?=some (.cells cells t (0,0))∧m≤cells.size
def Cz.nmd (c:Cz):Option Nat→Nat→Nat→Prop
  | none,b,m=>(∃ n,c.names n=some b)∧c.fit b m
  | some 0,b,_=>c.old b
  | some (n+1),b,m=>c.names n=some b∧c.fit b m
def isNew:Option (Option Nat)→Bool
  | none=>false
  | some (some 0)=>false
  | _=>true
def dnNm:Option (Option Nat)→Option (Option Nat)
  | none=>none
  | some (some 0)=>some (some 0)
  | some _=>some none
theorem Cz.nmd_ex {c:Cz} {n:Option Nat} {b m:Nat} (h0:isNew (some n)=true) (h:c.nmd n b m):(∃ n,c.names n=some b)∧c.fit b m:=by
  cases n with
  | none=>exact h
  | some n=>cases n with
    | zero=>cases h0
    | succ n=>exact ⟨⟨n,h.1⟩,h.2⟩
def Cz.taken (c:Cz) (b:Nat):Prop:=∃ r,c.hp r≠.gone∧blockOf (c.loc r)=some b
def Cz.imm (c:Cz) (b:Nat):Prop:=(c.ext b∨c.base≤b)∧b<c.w.heap.size∧¬ c.taken b
mutual
def Rep (c:Cz):AVal→Value→Prop
  | .any,_=>True
  | .val x,v=>v=x
  | .ro nm k cs,v=>∃ base len cap,v=.slice base len cap∧0<k∧cs.length=len * k∧(len≤cap∧cap≤maxLen) ∧
      (∀ n,nm=some n→(isNew nm=true→base≠none)∧(cs.length=0∨∃ b off,base=some ⟨b,off,none⟩∧c.nmd n b (off+cap * k))) ∧
      (cs.length=0∨∃ b off,base=some ⟨b,off,none⟩∧c.imm b∧RepAt c b off cs)
  | .own r ver,v=>c.used ver∧((c.hp r).ver=some ver→v=c.loc r)
  | .st cs,v=>∃ vs:Array Value,v=.agg vs∧RepL c cs vs.toList
  | .tup cs,v=>∃ vs:Array Value,v=.tuple vs∧RepL c cs vs.toList
  | .ptr r ver off,v=>c.used ver∧((c.hp r).ver=some ver→∃ b o,baseOf (c.loc r)=some ⟨b,o,none⟩∧v=.pointer (some ⟨b,o+off,none⟩))
  | .rp cs off,v=>∃ b o,v=.pointer (some ⟨b,o+off,none⟩)∧c.imm b∧RepAt c b o cs
  | .mp r ver,v=>c.used ver∧((c.hp r).ver=some ver→v=c.loc r)
  | .clo f caps,v=>∃ vs:Array Value,v=.func (.func f) #[] vs∧RepL c caps vs.toList
def RepAt (c:Cz) (b:Nat):Nat→List AVal→Prop
  | _,[]=>True
  | off,A :: cs=>(∃ v,c.w.cell? ⟨b,off,none⟩=some v∧Rep c A v)∧RepAt c b (off+1) cs
def RepL (c:Cz):List AVal→List Value→Prop
  | [],[]=>True
  | A :: cs,v :: vs=>Rep c A v∧RepL c cs vs
  | _,_=>False
end
structure Keeps (c c':Cz):Prop where
  imm:∀ b,c.imm b→c'.imm b∧c'.w.heap[b]?=c.w.heap[b]?
  names:∀ n b,c.names n=some b→c'.names n=some b
  used:∀ v,c.used v→c'.used v
  loc:∀ r v,c.used v→(c'.hp r).ver=some v→(c.hp r).ver=some v∧(c'.loc r=c.loc r)
  old:c'.old=c.old
theorem Cz.fit_of {c c':Cz} {b m:Nat} (h:c.fit b m) (e:c'.w.heap[b]?=c.w.heap[b]?):c'.fit b m:=by
  obtain ⟨t,cells,h1,h2⟩:=h
  exact ⟨t,cells,e.trans h1,h2⟩
theorem Keeps.nmd {c c':Cz} (K:Keeps c c') {n:Option Nat} {b m:Nat} (h:c.nmd n b m) (e:c'.w.heap[b]?=c.w.heap[b]?):c'.nmd n b m:=by
  cases n with
  | none=>obtain ⟨⟨n,h⟩,hf⟩:=h;exact ⟨⟨n,K.names _ _ h⟩,Cz.fit_of hf e⟩
  | some n=>cases n with
    | zero=>show c'.old b;rw [K.old];exact h
    | succ n=>exact ⟨K.names _ _ h.1,Cz.fit_of h.2 e⟩
theorem Keeps.refl (c:Cz):Keeps c c:=⟨fun _ h=>⟨h,rfl⟩,fun _ _ h=>h,fun _ h=>h,fun _ _ _ h=>⟨h,rfl⟩,rfl⟩
theorem Keeps.trans {a b c:Cz} (h:Keeps a b) (k:Keeps b c):Keeps a c where
  imm b' hb:=⟨(k.imm _ (h.imm _ hb).1).1,((k.imm _ (h.imm _ hb).1).2).trans (h.imm _ hb).2⟩
  names n b' hn:=k.names _ _ (h.names _ _ hn)
  used v hv:=k.used _ (h.used _ hv)
  loc r v hv hr:=by
    obtain ⟨h1,h2⟩:=k.loc r v (h.used _ hv) hr
    obtain ⟨h3,h4⟩:=h.loc r v hv h1
    exact ⟨h3,h2.trans h4⟩
  old:=k.old.trans h.old
mutual
theorem Rep.keeps {c c':Cz} (K:Keeps c c'):∀ (A:AVal) (v:Value),Rep c A v→Rep c' A v
  | .any,_,_=>by simp [Rep]
  | .val x,v,h=>by simpa [Rep] using h
  | .ro nm k cs,v,h=>by
    simp only [Rep] at h ⊢
    obtain ⟨base,len,cap,hv,hk,hl,hm,hn,hc⟩:=h
    refine ⟨base,len,cap,hv,hk,hl,hm,?_,?_⟩
    · intro n e
      refine ⟨(hn n e).1,?_⟩
      rcases (hn n e).2 with h0 | ⟨b,off,hb,hnm⟩
      · exact .inl h0
      · rcases hc with hc | ⟨b',off',hb',hi,_⟩
        · exact .inl hc
        · rw [hb] at hb'
          cases hb'
          exact .inr ⟨b,off,hb,K.nmd hnm (K.imm b hi).2⟩
    · rcases hc with hc | ⟨b,off,hb,hi,hr⟩
      · exact .inl hc
      · exact .inr ⟨b,off,hb,(K.imm b hi).1,RepAt.keeps K hi cs off hr⟩
  | .own r ver,v,h=>by
    simp only [Rep] at h ⊢
    refine ⟨K.used _ h.1,fun hr=>?_⟩
    obtain ⟨h1,h2⟩:=K.loc r ver h.1 hr
    exact (h.2 h1).trans h2.symm
  | .st cs,v,h=>by
    simp only [Rep] at h ⊢
    obtain ⟨vs,hv,hl⟩:=h
    exact ⟨vs,hv,RepL.keeps K cs vs.toList hl⟩
  | .tup cs,v,h=>by
    simp only [Rep] at h ⊢
    obtain ⟨vs,hv,hl⟩:=h
    exact ⟨vs,hv,RepL.keeps K cs vs.toList hl⟩
  | .ptr r ver off,v,h=>by
    simp only [Rep] at h ⊢
    refine ⟨K.used _ h.1,fun hr=>?_⟩
    obtain ⟨h1,h2⟩:=K.loc r ver h.1 hr
    rw [h2];exact h.2 h1
  | .rp cs off,v,h=>by
    simp only [Rep] at h ⊢
    obtain ⟨b,o,hv,hi,hr⟩:=h
    exact ⟨b,o,hv,(K.imm b hi).1,RepAt.keeps K hi cs o hr⟩
  | .mp r ver,v,h=>by
    simp only [Rep] at h ⊢
    refine ⟨K.used _ h.1,fun hr=>?_⟩
    obtain ⟨h1,h2⟩:=K.loc r ver h.1 hr
    exact (h.2 h1).trans h2.symm
  | .clo f caps,v,h=>by
    simp only [Rep] at h ⊢
    obtain ⟨vs,hv,hl⟩:=h
    exact ⟨vs,hv,RepL.keeps K caps vs.toList hl⟩
theorem RepAt.keeps {c c':Cz} (K:Keeps c c') {b:Nat} (hb:c.imm b):∀ (cs:List AVal) (off:Nat),RepAt c b off cs→RepAt c' b off cs
  | [],_,_=>by simp [RepAt]
  | A :: cs,off,h=>by
    simp only [RepAt] at h ⊢
    obtain ⟨⟨v,hv,hr⟩,ht⟩:=h
    refine ⟨⟨v,?_,Rep.keeps K A v hr⟩,RepAt.keeps K hb cs (off+1) ht⟩
    rw [World.cell?_of_block (w:=c.w) (K.imm b hb).2];exact hv
theorem RepL.keeps {c c':Cz} (K:Keeps c c'):∀ (cs:List AVal) (vs:List Value),RepL c cs vs→RepL c' cs vs
  | [],[],_=>by simp [RepL]
  | [],_ :: _,h=>by simp [RepL] at h
  | _ :: _,[],h=>by simp [RepL] at h
  | A :: cs,v :: vs,h=>by
    simp only [RepL] at h ⊢
    exact ⟨Rep.keeps K A v h.1,RepL.keeps K cs vs h.2⟩
end
theorem RepL.length {c:Cz}:∀ {cs:List AVal} {vs:List Value},RepL c cs vs→cs.length=vs.length
  | [],[],_=>rfl
  | [],_ :: _,h=>by simp [RepL] at h
  | _ :: _,[],h=>by simp [RepL] at h
  | A :: cs,v :: vs,h=>by simp only [RepL] at h;simp [RepL.length h.2]
theorem RepL.get {c:Cz}:∀ {cs:List AVal} {vs:List Value},RepL c cs vs→∀ {i:Nat} {A:AVal},cs[i]?=some A→∃ v,vs[i]?=some v∧Rep c A v
  | [],[],_,i,A,h=>by simp at h
  | [],_ :: _,h,_,_,_=>by simp [RepL] at h
  | _ :: _,[],h,_,_,_=>by simp [RepL] at h
  | B :: cs,v :: vs,h,0,A,e=>by simp only [RepL] at h;simp at e;subst e;exact ⟨v,rfl,h.1⟩
  | B :: cs,v :: vs,h,i+1,A,e=>by simp only [RepL] at h;simp at e ⊢;exact RepL.get h.2 e
theorem RepL.of_get {c:Cz}:∀ {cs:List AVal} {vs:List Value},cs.length=vs.length→(∀ (i:Nat) (A:AVal) (v:Value),cs[i]?=some A→vs[i]?=some v→Rep c A v)→RepL c cs vs
  | [],[],_,_=>by simp [RepL]
  | [],_ :: _,h,_=>by simp at h
  | _ :: _,[],h,_=>by simp at h
  | A :: cs,v :: vs,h,f=>by
    simp only [RepL]
    exact ⟨f 0 A v rfl rfl,RepL.of_get (by simpa using h) fun i B u hB hu=>f (i+1) B u (by simpa using hB) (by simpa using hu)⟩
theorem RepL.append {c:Cz} {cs ds:List AVal} {vs us:List Value} (h:RepL c cs vs) (k:RepL c ds us):RepL c (cs ++ ds) (vs ++ us):=by
  induction cs generalizing vs with
  | nil=>cases vs <;> simp_all [RepL]
  | cons A cs ih =>
    cases vs with
    | nil=>simp [RepL] at h
    | cons v vs=>simp only [RepL] at h;simp only [List.cons_append,RepL];exact ⟨h.1,ih h.2⟩
theorem RepL.take {c:Cz} {cs:List AVal} {vs:List Value} (h:RepL c cs vs) (n:Nat):RepL c (cs.take n) (vs.take n):=by
  induction n generalizing cs vs with
  | zero=>simp [RepL]
  | succ n ih=>cases cs <;> cases vs <;> simp_all [RepL]
theorem RepL.drop {c:Cz} {cs:List AVal} {vs:List Value} (h:RepL c cs vs) (n:Nat):RepL c (cs.drop n) (vs.drop n):=by
  induction n generalizing cs vs with
  | zero=>simpa using h
  | succ n ih=>cases cs <;> cases vs <;> simp_all [RepL]
theorem RepAt.get {c:Cz} {b:Nat}:∀ {cs:List AVal} {off:Nat},RepAt c b off cs→∀ {i:Nat} {A:AVal},cs[i]?=some A→∃ v,c.w.cell? ⟨b,off+i,none⟩=some v∧Rep c A v
  | [],_,_,i,A,h=>by simp at h
  | B :: cs,off,h,0,A,e=>by simp only [RepAt] at h;simp at e;subst e;simpa using h.1
  | B :: cs,off,h,i+1,A,e=>by
    simp only [RepAt] at h;simp at e
    have:=RepAt.get h.2 e
    simpa [Nat.add_assoc,Nat.add_comm 1 i] using this
theorem RepAt.of_get {c:Cz} {b:Nat}:∀ {cs:List AVal} {off:Nat},(∀ i A,cs[i]?=some A→∃ v,c.w.cell? ⟨b,off+i,none⟩=some v∧Rep c A v)→RepAt c b off cs
  | [],_,_=>by simp [RepAt]
  | A :: cs,off,f=>by
    simp only [RepAt]
    refine ⟨by simpa using f 0 A rfl,RepAt.of_get fun i B hB=>?_⟩
    have:=f (i+1) B (by simpa using hB)
    simpa [Nat.add_assoc,Nat.add_comm 1 i] using this
theorem RepAt.of_row {c:Cz} {b:Nat} {cells:Array Value} {t:TypeId} {fr:Nat×Nat} (hb:c.w.heap[b]?=some (.cells cells t fr)) {off:Nat} {cs:List AVal}
    (h:RepL c cs ((cells.toList.drop off).take cs.length)):RepAt c b off cs:=by
  refine RepAt.of_get fun i A hA=>?_
  obtain ⟨v,hv,hr⟩:=h.get hA
  refine ⟨v,?_,hr⟩
  rw [cell_of_row c.w b (off+i) cells t fr hb]
  rw [List.getElem?_take] at hv
  split at hv
  · simpa using hv
  · simp at hv
theorem RepAt.drop {c:Cz} {b:Nat} {cs:List AVal} {off:Nat} (h:RepAt c b off cs) (n:Nat):RepAt c b (off+n) (cs.drop n):=by
  refine RepAt.of_get fun i A hA=>?_
  obtain ⟨v,hv,hr⟩:=h.get (i:=n+i) (by simpa using hA)
  exact ⟨v,by rw [Nat.add_assoc];exact hv,hr⟩
theorem RepAt.take {c:Cz} {b:Nat} {cs:List AVal} {off:Nat} (h:RepAt c b off cs) (n:Nat):RepAt c b off (cs.take n):=by
  refine RepAt.of_get fun i A hA=>?_
  rw [List.getElem?_take] at hA
  split at hA
  · exact h.get hA
  · simp at hA
end Go.Ab
namespace Go.Ab
def EntsOk (ents:Array MapEntry) (clock:Nat) (ks:List Value):Prop :=
  ents.toList.map (·.key)=ks∧(ents.toList.map (·.born)).Nodup∧∀ e∈ents.toList,e.born<clock
def ItIs (ents:Array MapEntry) (seen:Array Nat) (es:List MapEntry):Bool→Prop
  | false=>es=(ents.filter fun e=>!seen.contains e.born).toList
  | true=>∃ e,es=e :: (ents.filter fun e=>!seen.contains e.born).toList∧e∈ents.toList∧∃ seen':Array Nat,seen=seen'.push e.born
def ItRep (c:Cz) (b:Nat) (cur:Bool) (ks:List Value) (vs:List AVal):Prop :=
  ∃ m since c0 clock,∃ seen:Array Nat,∃ ents:Array MapEntry,∃ es:List MapEntry,c.w.heap[b]?=some (.mapIter (some m) since seen c0)∧c.imm m∧c.w.heap[m]?=some (.map ents clock) ∧
    ((ents.toList.map (·.born)).Nodup∧(∀ e∈ents.toList,e.born<since)∧(since≤c0∧since≤clock∧(cur=true→c0=clock))∧ItIs ents seen es cur∧es.map (·.key)=ks)∧RepL c vs (es.map (·.val))
def ObjRep (c:Cz) (v:Value):AObj→Prop
  | .gone=>True
  | .box _ cs=>∃ b t,∃ cells:Array Value,v=.pointer (some ⟨b,0,none⟩)∧c.w.heap[b]?=some (.cells cells t (0,0))∧RepL c cs cells.toList
  | .row _ k nn cs=>∃ base n cap,v=.slice base n cap∧0<k∧cs.length=n * k∧n≤cap∧cap≤maxLen∧(nn=true→base≠none) ∧
      (cap=0∨∃ g off t,∃ cells:Array Value,base=some ⟨g,off,none⟩∧c.w.heap[g]?=some (.cells cells t (0,0))∧off+cap * k≤cells.size∧RepL c cs ((cells.toList.drop off).take (n * k)))
  | .map _ ks vs=>∃ b clock,∃ ents:Array MapEntry,v=.map (some b)∧c.w.heap[b]?=some (.map ents clock)∧EntsOk ents clock ks∧RepL c vs (ents.toList.map (·.val))
  | .it _ none=>∃ b,v=.pointer (some ⟨b,0,none⟩)∧b<c.w.heap.size
  | .it _ (some (cur,ks,vs))=>∃ b,v=.pointer (some ⟨b,0,none⟩)∧b<c.w.heap.size∧ItRep c b cur ks vs
theorem block_lt_of_some {w:World} {b:Nat} {o:Obj} (h:w.heap[b]?=some o):b<w.heap.size:=(Array.getElem?_eq_some_iff.1 h).1
theorem ObjRep.lt {c:Cz} {v:Value} {o:AObj} (ho:o≠.gone) (h:ObjRep c v o) {b:Nat} (hb:blockOf v=some b):b<c.w.heap.size:=by
  cases o with
  | gone=>exact absurd rfl ho
  | box ver cs =>
    obtain ⟨g,t,cells,rfl,hg,_⟩:=h
    simp only [blockOf,Option.some.injEq] at hb
    subst hb;exact block_lt_of_some hg
  | row ver k nn cs =>
    obtain ⟨base,n,cap,rfl,_,_,_,_,_,hc⟩:=h
    rcases hc with hc | ⟨g,off,t,cells,rfl,hg,_⟩
    · subst hc;cases base <;> simp [blockOf] at hb
    · simp only [blockOf] at hb
      split at hb
      · simp at hb
      · simp only [Option.some.injEq] at hb;subst hb;exact block_lt_of_some hg
  | map ver ks vs =>
    obtain ⟨g,clock,ents,rfl,hg,_⟩:=h
    simp only [blockOf,Option.some.injEq] at hb
    subst hb;exact block_lt_of_some hg
  | it ver d =>
    cases d with
    | none =>
      obtain ⟨g,rfl,hg⟩:=h
      simp only [blockOf,Option.some.injEq] at hb
      subst hb;exact hg
    | some d =>
      obtain ⟨cur,ks,vs⟩:=d
      obtain ⟨g,rfl,hg,_⟩:=h
      simp only [blockOf,Option.some.injEq] at hb
      subst hb;exact hg
theorem lt_of_same {w w':World} {b:Nat} (h:b<w.heap.size) (e:w'.heap[b]?=w.heap[b]?):b<w'.heap.size:=by
  rw [Array.getElem?_eq_getElem h] at e
  exact block_lt_of_some e
theorem ObjRep.it_none {c c':Cz} {v:Value} {ver ver':Nat} {d:Option (Bool×List Value×List AVal)} (h:ObjRep c v (.it ver d)) (hb:∀ b,blockOf v=some b→c'.w.heap[b]?=c.w.heap[b]?):ObjRep c' v (.it ver' none):=by
  cases d with
  | none =>
    obtain ⟨g,rfl,hg⟩:=h
    exact ⟨g,rfl,lt_of_same hg (hb g rfl)⟩
  | some d =>
    obtain ⟨cur,ks,vs⟩:=d
    obtain ⟨g,rfl,hg,_⟩:=h
    exact ⟨g,rfl,lt_of_same hg (hb g rfl)⟩
theorem ItRep.of {c c':Cz} {b:Nat} {cur:Bool} {ks:List Value} {vs vs':List AVal} (hb:c'.w.heap[b]?=c.w.heap[b]?) (hi:∀ m,c.imm m→c'.imm m∧c'.w.heap[m]?=c.w.heap[m]?)
    (hv:∀ us:List Value,RepL c vs us→RepL c' vs' us) (h:ItRep c b cur ks vs):ItRep c' b cur ks vs':=by
  obtain ⟨m,since,c0,clock,seen,ents,es,h1,h2,h3,h4,h5⟩:=h
  exact ⟨m,since,c0,clock,seen,ents,es,hb.trans h1,(hi m h2).1,(hi m h2).2.trans h3,h4,hv _ h5⟩
theorem ObjRep.keeps {c c':Cz} (K:Keeps c c') {v:Value} {o:AObj} (h:ObjRep c v o) (hb:∀ b,blockOf v=some b→c'.w.heap[b]?=c.w.heap[b]?):ObjRep c' v o:=by
  cases o with
  | gone=>trivial
  | box ver cs =>
    obtain ⟨g,t,cells,rfl,hg,hr⟩:=h
    exact ⟨g,t,cells,rfl,by rw [hb g rfl];exact hg,RepL.keeps K _ _ hr⟩
  | row ver k nn cs =>
    obtain ⟨base,n,cap,rfl,h1,h2,h3,h4,h5,hc⟩:=h
    refine ⟨base,n,cap,rfl,h1,h2,h3,h4,h5,?_⟩
    rcases hc with hc | ⟨g,off,t,cells,rfl,hg,h6,h7⟩
    · exact .inl hc
    · by_cases h0:cap=0
      · exact .inl h0
      · exact .inr ⟨g,off,t,cells,rfl,by rw [hb g (by simp [blockOf,h0])];exact hg,h6,RepL.keeps K _ _ h7⟩
  | map ver ks vs =>
    obtain ⟨g,clock,ents,rfl,hg,h1,h2⟩:=h
    exact ⟨g,clock,ents,rfl,by rw [hb g rfl];exact hg,h1,RepL.keeps K _ _ h2⟩
  | it ver d =>
    cases d with
    | none =>
      obtain ⟨g,rfl,hg⟩:=h
      exact ⟨g,rfl,lt_of_same hg (hb g rfl)⟩
    | some d =>
      obtain ⟨cur,ks,vs⟩:=d
      obtain ⟨g,rfl,hg,hi⟩:=h
      exact ⟨g,rfl,lt_of_same hg (hb g rfl),hi.of (hb g rfl) K.imm fun us=>RepL.keeps K _ us⟩
structure Good (w0:World) (outs:Nat→Prop) (c:Cz):Prop where
  base:c.base=w0.heap.size∧∀ b,c.old b→b<c.base
  obj:∀ r,ObjRep c (c.loc r) (c.hp r)
  inj:∀ r r' b,c.hp r≠.gone→c.hp r'≠.gone→blockOf (c.loc r)=some b→blockOf (c.loc r')=some b→r=r'
  own:∀ r b,c.hp r≠.gone→blockOf (c.loc r)=some b→c.base≤b∨outs b
  verU:∀ r v,(c.hp r).ver=some v→c.used v∧c.names v=none
  verInj:∀ r r' v,(c.hp r).ver=some v→(c.hp r').ver=some v→r=r'
  outExt:∀ b,outs b→c.ext b∧¬ c.old b
  nam:∀ n b,c.names n=some b→c.used n∧(c.base≤b∨outs b)∧b<c.w.heap.size∧¬ c.taken b
  namInj:∀ n n' b,c.names n=some b→c.names n'=some b→n=n'
  fin:∃ m,∀ v,c.used v→v<m
  os:c.w.os=w0.os
  tape:c.w.tape=w0.tape∧w0.drawn≤c.w.drawn
  output:c.w.output=w0.output
  size:w0.heap.size≤c.w.heap.size
  frame:∀ b,b<w0.heap.size→¬ outs b→c.w.heap[b]?=w0.heap[b]?
theorem ver_ne_gone {o:AObj} {v:Nat} (h:o.ver=some v):o≠.gone:=by rintro rfl;simp at h
def Cz.upd (c:Cz) (w':World) (r:Nat) (ao:AObj) (v':Value) (ver:Nat):Cz :=
  { c with w:=w',hp:=fun n=>if n=r then ao else c.hp n,loc:=fun n=>if n=r then v' else c.loc n,used:=fun v=>c.used v∨v=ver }
theorem Good.upd {w0:World} {outs:Nat→Prop} {c:Cz} (G:Good w0 outs c) (w':World) (r:Nat) (ao:AObj) (v':Value) (ver:Nat)
    (hos:w'.os=c.w.os) (htape:w'.tape=c.w.tape) (hout:w'.output=c.w.output) (hsz:c.w.heap.size≤w'.heap.size)
    (hw:∀ b,b<c.w.heap.size→¬ (c.hp r≠.gone∧blockOf (c.loc r)=some b)→w'.heap[b]?=c.w.heap[b]?)
    (hb:∀ b,blockOf v'=some b→((c.hp r≠.gone∧blockOf (c.loc r)=some b)∨c.w.heap.size≤b)∧b<w'.heap.size)
    (hver:ao=.gone∨(ao.ver=some ver∧¬ c.used ver)∨(ao.ver=(c.hp r).ver∧v'=c.loc r∧c.used ver))
    (hobj:Keeps c (c.upd w' r ao v' ver)→ObjRep (c.upd w' r ao v' ver) v' ao) (hdr:c.w.drawn≤w'.drawn:=by first | exact Nat.le_refl _ | exact Nat.le_succ _ | assumption) :
    Good w0 outs (c.upd w' r ao v' ver)∧Keeps c (c.upd w' r ao v' ver):=by
  have htk:∀ b,b<c.w.heap.size→¬ c.taken b→¬ (c.upd w' r ao v' ver).taken b:=by
    rintro b hlt hnt ⟨r',hr',hbl⟩
    by_cases e:r'=r
    · subst e
      simp only [Cz.upd,if_true] at hr' hbl
      rcases (hb b hbl).1 with ⟨h1,h2⟩ | h1
      · exact hnt ⟨r',h1,h2⟩
      · omega
    · simp only [Cz.upd,if_neg e] at hr' hbl
      exact hnt ⟨r',hr',hbl⟩
  have K:Keeps c (c.upd w' r ao v' ver):=by
    refine ⟨?_,fun n b h=>h,fun v h=>.inl h,?_,rfl⟩
    · rintro b ⟨h1,h2,h3⟩
      refine ⟨⟨h1,Nat.lt_of_lt_of_le h2 hsz,htk b h2 h3⟩,hw b h2 fun h=>h3 ⟨r,h.1,h.2⟩⟩
    · intro r' v hu hr'
      by_cases e:r'=r
      · subst e
        simp only [Cz.upd,if_true] at hr' ⊢
        rcases hver with h | ⟨h,hn⟩ | ⟨h,hl,_⟩
        · subst h;simp at hr'
        · rw [h] at hr';simp only [Option.some.injEq] at hr';subst hr';exact absurd hu hn
        · exact ⟨h ▸ hr',hl⟩
      · simp only [Cz.upd,if_neg e] at hr' ⊢
        exact ⟨hr',trivial⟩
  refine ⟨?_,K⟩
  have hlt:∀ r',c.hp r'≠.gone→∀ b,blockOf (c.loc r')=some b→b<c.w.heap.size:=fun r' h b hb'=>(G.obj r').lt h hb'
  refine ⟨G.base,?_,?_,?_,?_,?_,G.outExt,?_,G.namInj,?_,hos.trans G.os,⟨htape.trans G.tape.1,Nat.le_trans G.tape.2 hdr⟩,hout.trans G.output,Nat.le_trans G.size hsz,?_⟩
  · intro r'
    by_cases e:r'=r
    · subst e;simpa only [Cz.upd,if_true] using hobj K
    · have h1:(c.upd w' r ao v' ver).loc r'=c.loc r':=by simp only [Cz.upd,if_neg e]
      have h2:(c.upd w' r ao v' ver).hp r'=c.hp r':=by simp only [Cz.upd,if_neg e]
      rw [h1,h2]
      by_cases hg:c.hp r'=.gone
      · rw [hg];trivial
      · refine (G.obj r').keeps K fun b hb'=>hw b (hlt r' hg b hb') ?_
        rintro ⟨h3,h4⟩
        exact e (G.inj r' r b hg h3 hb' h4)
  · intro r1 r2 b h1 h2 h3 h4
    by_cases e1:r1=r <;> by_cases e2:r2=r
    · rw [e1,e2]
    · subst e1
      simp only [Cz.upd,if_true,if_neg e2] at h1 h2 h3 h4
      rcases (hb b h3).1 with ⟨h5,h6⟩ | h5
      · exact G.inj _ _ b h5 h2 h6 h4
      · have:=hlt r2 h2 b h4;omega
    · subst e2
      simp only [Cz.upd,if_true,if_neg e1] at h1 h2 h3 h4
      rcases (hb b h4).1 with ⟨h5,h6⟩ | h5
      · exact G.inj _ _ b h1 h5 h3 h6
      · have:=hlt r1 h1 b h3;omega
    · simp only [Cz.upd,if_neg e1,if_neg e2] at h1 h2 h3 h4
      exact G.inj _ _ b h1 h2 h3 h4
  · intro r' b h1 h2
    by_cases e:r'=r
    · subst e
      simp only [Cz.upd,if_true] at h1 h2
      rcases (hb b h2).1 with ⟨h5,h6⟩ | h5
      · exact G.own _ b h5 h6
      · left;show c.base≤b;rw [G.base.1];exact Nat.le_trans G.size h5
    · simp only [Cz.upd,if_neg e] at h1 h2
      exact G.own r' b h1 h2
  · intro r' v h
    by_cases e:r'=r
    · subst e
      simp only [Cz.upd,if_true] at h
      rcases hver with h' | ⟨h',hn⟩ | ⟨h',_,_⟩
      · subst h';simp at h
      · rw [h'] at h;simp only [Option.some.injEq] at h;subst h
        refine ⟨.inr rfl,?_⟩
        cases hnm:c.names ver with
        | none=>exact hnm
        | some b=>exact absurd (G.nam _ _ hnm).1 hn
      · rw [h'] at h;exact ⟨.inl (G.verU _ _ h).1,(G.verU _ _ h).2⟩
    · simp only [Cz.upd,if_neg e] at h
      exact ⟨.inl (G.verU _ _ h).1,(G.verU _ _ h).2⟩
  · intro r1 r2 v h1 h2
    by_cases e1:r1=r <;> by_cases e2:r2=r
    · rw [e1,e2]
    · subst e1
      simp only [Cz.upd,if_true,if_neg e2] at h1 h2
      rcases hver with h | ⟨h,hn⟩ | ⟨h,_,_⟩
      · subst h;simp at h1
      · rw [h] at h1;simp only [Option.some.injEq] at h1;subst h1
        exact absurd (G.verU _ _ h2).1 hn
      · rw [h] at h1;exact G.verInj _ _ v h1 h2
    · subst e2
      simp only [Cz.upd,if_true,if_neg e1] at h1 h2
      rcases hver with h | ⟨h,hn⟩ | ⟨h,_,_⟩
      · subst h;simp at h2
      · rw [h] at h2;simp only [Option.some.injEq] at h2;subst h2
        exact absurd (G.verU _ _ h1).1 hn
      · rw [h] at h2;exact G.verInj _ _ v h1 h2
    · simp only [Cz.upd,if_neg e1,if_neg e2] at h1 h2
      exact G.verInj _ _ v h1 h2
  · intro n b h
    obtain ⟨h1,h2,h3,h4⟩:=G.nam n b h
    exact ⟨.inl h1,h2,Nat.lt_of_lt_of_le h3 hsz,htk b h3 h4⟩
  · obtain ⟨m,hm⟩:=G.fin
    refine ⟨max m (ver+1),?_⟩
    rintro v (h | rfl)
    · exact Nat.lt_of_lt_of_le (hm v h) (Nat.le_max_left _ _)
    · exact Nat.lt_of_lt_of_le (Nat.lt_succ_self _) (Nat.le_max_right _ _)
  · intro b hb1 hb2
    rw [← G.frame b hb1 hb2]
    refine hw b (Nat.lt_of_lt_of_le hb1 G.size) ?_
    rintro ⟨h1,h2⟩
    rcases G.own r b h1 h2 with h | h
    · rw [G.base.1] at h;omega
    · exact hb2 h
def frNm (nn:Bool) (n ver:Nat):Option (Option Nat):=if nn=true∨n≠0 then some (some (ver+1)) else none
theorem frNm_t (n ver:Nat):frNm true n ver=some (some (ver+1)):=by simp [frNm]
theorem frNm_pos {nn:Bool} {n ver:Nat} (h:n≠0):frNm nn n ver=some (some (ver+1)):=by simp [frNm,h]
def Cz.frz (c:Cz) (r:Nat) (nm:Nat→Option Nat):Cz :=
  { c with hp:=fun n=>if n=r then .gone else c.hp n,names:=nm }
theorem Good.frz {w0:World} {outs:Nat→Prop} {c:Cz} (G:Good w0 outs c) {r ver k:Nat} {nn:Bool} {cs:List AVal} (hr:c.hp r=.row ver k nn cs) :
    ∃ nm,Good w0 outs (c.frz r nm)∧Keeps c (c.frz r nm)∧Rep (c.frz r nm) (.ro (frNm nn cs.length ver) k cs) (c.loc r):=by
  have hu:=G.verU r ver (by rw [hr];rfl)
  have hg:c.hp r≠.gone:=by rw [hr];simp
  have hO:=G.obj r
  rw [hr] at hO
  obtain ⟨base,n,cap,hv,hk,hl,hn,hm,hnn,hc⟩:=hO
  by_cases h0:cs.length=0
  · have K:Keeps c (c.frz r c.names):=by
      refine ⟨?_,fun n b h=>h,fun v h=>h,?_,rfl⟩
      · rintro b ⟨h1,h2,h3⟩
        refine ⟨⟨h1,h2,?_⟩,rfl⟩
        rintro ⟨r',h4,h5⟩
        by_cases e:r'=r
        · simp [Cz.frz,e] at h4
        · simp only [Cz.frz,if_neg e] at h4 h5;exact h3 ⟨r',h4,h5⟩
      · intro r' v _ h
        by_cases e:r'=r
        · simp [Cz.frz,e] at h
        · simp only [Cz.frz,if_neg e] at h ⊢;exact ⟨h,trivial⟩
    refine ⟨c.names,?_,K,?_⟩
    · refine ⟨G.base,?_,?_,?_,?_,?_,G.outExt,?_,G.namInj,G.fin,G.os,G.tape,G.output,G.size,G.frame⟩
      · intro r'
        by_cases e:r'=r
        · simp [Cz.frz,e,ObjRep]
        · have:=(G.obj r').keeps K fun b _=>rfl
          simpa only [Cz.frz,if_neg e] using this
      · intro r1 r2 b h1 h2 h3 h4
        by_cases e1:r1=r <;> by_cases e2:r2=r <;> simp only [Cz.frz,e1,e2,if_true,if_false] at h1 h2 h3 h4 <;> first | exact absurd rfl h1 | exact absurd rfl h2 | exact G.inj _ _ b h1 h2 h3 h4
      · intro r' b h1 h2
        by_cases e:r'=r
        · simp [Cz.frz,e] at h1
        · simp only [Cz.frz,if_neg e] at h1 h2;exact G.own _ _ h1 h2
      · intro r' v h
        by_cases e:r'=r
        · simp [Cz.frz,e] at h
        · simp only [Cz.frz,if_neg e] at h;exact G.verU _ _ h
      · intro r1 r2 v h1 h2
        by_cases e1:r1=r
        · simp [Cz.frz,e1] at h1
        · by_cases e2:r2=r
          · simp [Cz.frz,e2] at h2
          · simp only [Cz.frz,if_neg e1,if_neg e2] at h1 h2;exact G.verInj _ _ v h1 h2
      · intro n' b h
        obtain ⟨h1,h2,h3,h4⟩:=G.nam n' b h
        refine ⟨h1,h2,h3,?_⟩
        rintro ⟨r',h5,h6⟩
        by_cases e:r'=r
        · simp [Cz.frz,e] at h5
        · simp only [Cz.frz,if_neg e] at h5 h6;exact h4 ⟨r',h5,h6⟩
    · simp only [Rep]
      refine ⟨base,n,cap,hv,hk,hl,⟨hn,hm⟩,fun _ e=>⟨fun _=>?_,.inl h0⟩,.inl h0⟩
      cases nn with
      | true=>exact hnn rfl
      | false=>rw [h0] at e;simp [frNm] at e
  · have hnpos:0<n:=by
      rcases Nat.eq_zero_or_pos n with h | h
      · rw [h] at hl;simp at hl;exact absurd hl (by intro e;exact h0 (by simp [e]))
      · exact h
    have hcap:cap≠0:=by omega
    rcases hc with hc | ⟨g,off,t,cells,rfl,hheap,hfit,hrep⟩
    · exact absurd hc hcap
    have hblk:blockOf (c.loc r)=some g:=by rw [hv];simp [blockOf,hcap]
    have hgl:g<c.w.heap.size:=block_lt_of_some hheap
    have hnt:∀ r',r'≠r→c.hp r'≠.gone→blockOf (c.loc r')≠some g:=fun r' e h1 h2=>e (G.inj r' r g h1 hg h2 hblk)
    have hnm:∀ n' b,c.names n'=some b→n'≠ver:=by
      intro n' b h e;subst e;rw [hu.2] at h;cases h
    have K:Keeps c (c.frz r fun x=>if x=ver then some g else c.names x):=by
      refine ⟨?_,?_,fun v h=>h,?_,rfl⟩
      · rintro b ⟨h1,h2,h3⟩
        refine ⟨⟨h1,h2,?_⟩,rfl⟩
        rintro ⟨r',h4,h5⟩
        by_cases e:r'=r
        · simp [Cz.frz,e] at h4
        · simp only [Cz.frz,if_neg e] at h4 h5;exact h3 ⟨r',h4,h5⟩
      · intro n' b h
        simp only [Cz.frz,if_neg (hnm n' b h)];exact h
      · intro r' v _ h
        by_cases e:r'=r
        · simp [Cz.frz,e] at h
        · simp only [Cz.frz,if_neg e] at h ⊢;exact ⟨h,trivial⟩
    refine ⟨_,?_,K,?_⟩
    · refine ⟨G.base,?_,?_,?_,?_,?_,G.outExt,?_,?_,G.fin,G.os,G.tape,G.output,G.size,G.frame⟩
      · intro r'
        by_cases e:r'=r
        · simp [Cz.frz,e,ObjRep]
        · have:=(G.obj r').keeps K fun b _=>rfl
          simpa only [Cz.frz,if_neg e] using this
      · intro r1 r2 b h1 h2 h3 h4
        by_cases e1:r1=r <;> by_cases e2:r2=r <;> simp only [Cz.frz,e1,e2,if_true,if_false] at h1 h2 h3 h4 <;> first | exact absurd rfl h1 | exact absurd rfl h2 | exact G.inj _ _ b h1 h2 h3 h4
      · intro r' b h1 h2
        by_cases e:r'=r
        · simp [Cz.frz,e] at h1
        · simp only [Cz.frz,if_neg e] at h1 h2;exact G.own _ _ h1 h2
      · intro r' v h
        by_cases e:r'=r
        · simp [Cz.frz,e] at h
        · simp only [Cz.frz,if_neg e] at h
          refine ⟨(G.verU _ _ h).1,?_⟩
          have hne:v≠ver:=fun e2=>e (G.verInj r' r v h (by rw [hr,e2];rfl))
          simp only [Cz.frz,if_neg hne];exact (G.verU _ _ h).2
      · intro r1 r2 v h1 h2
        by_cases e1:r1=r
        · simp [Cz.frz,e1] at h1
        · by_cases e2:r2=r
          · simp [Cz.frz,e2] at h2
          · simp only [Cz.frz,if_neg e1,if_neg e2] at h1 h2;exact G.verInj _ _ v h1 h2
      · intro n' b h
        by_cases e:n'=ver
        · subst e
          simp only [Cz.frz,if_true,Option.some.injEq] at h;subst h
          refine ⟨hu.1,G.own r g hg hblk,hgl,?_⟩
          rintro ⟨r',h5,h6⟩
          by_cases e:r'=r
          · simp [Cz.frz,e] at h5
          · simp only [Cz.frz,if_neg e] at h5 h6;exact hnt r' e h5 h6
        · simp only [Cz.frz,if_neg e] at h
          obtain ⟨h1,h2,h3,h4⟩:=G.nam n' b h
          refine ⟨h1,h2,h3,?_⟩
          rintro ⟨r',h5,h6⟩
          by_cases e:r'=r
          · simp [Cz.frz,e] at h5
          · simp only [Cz.frz,if_neg e] at h5 h6;exact h4 ⟨r',h5,h6⟩
      · intro n1 n2 b h1 h2
        by_cases e1:n1=ver <;> by_cases e2:n2=ver <;> simp only [Cz.frz,e1,e2,if_true,if_false,Option.some.injEq] at h1 h2
        · rw [e1,e2]
        · subst h1;exact absurd ⟨r,hg,hblk⟩ (G.nam _ _ h2).2.2.2
        · subst h2;exact absurd ⟨r,hg,hblk⟩ (G.nam _ _ h1).2.2.2
        · exact G.namInj _ _ b h1 h2
    · simp only [Rep]
      refine ⟨some ⟨g,off,none⟩,n,cap,hv,hk,hl,⟨hn,hm⟩,?_,?_⟩
      · intro n' e
        rw [frNm_pos h0] at e
        simp only [Option.some.injEq] at e;subst e
        refine ⟨fun _=>by simp,?_⟩
        exact .inr ⟨g,off,rfl,by simp [Cz.frz],t,cells,hheap,hfit⟩
      · refine .inr ⟨g,off,rfl,⟨?_,hgl,?_⟩,?_⟩
        · rcases G.own r g hg hblk with h | h
          · exact .inr h
          · exact .inl (G.outExt g h).1
        · rintro ⟨r',h5,h6⟩
          by_cases e:r'=r
          · simp [Cz.frz,e] at h5
          · simp only [Cz.frz,if_neg e] at h5 h6;exact hnt r' e h5 h6
        · refine RepAt.of_row (c:=c.frz r fun x=>if x=ver then some g else c.names x) (t:=t) (cells:=cells) (fr:=(0,0)) hheap ?_
          rw [hl];exact RepL.keeps K _ _ hrep
end Go.Ab
namespace Go.Ab
inductive AOpd where
  | t (n:Nat)
  | c (v:Value)
  | f (g:FuncId)
  deriving Inhabited
inductive AI where
  | mov (x:AOpd)
  | pick (c a b:AOpd)
  | bin (op:BinOp) (x y:AOpd)
  | beq (neg:Bool) (x y:AOpd)
  | isnil (neg:Bool) (x:AOpd)
  | isnilp (neg:Bool) (x:AOpd)
  | un (op:UnOp) (x:AOpd)
  | cvi (k:IntKind) (x:AOpd)
  | cvbs (x:AOpd)
  | box (x:AOpd)
  | new (z:List Value)
  | bsl (k:Nat) (fz:Bool) (xs:List AOpd)
  | bst (z:List Value) (ps:List (Nat×Nat×AOpd))
  | bsv (z:List Value) (ps:List (Nat×Nat×AOpd))
  | ld (x:AOpd)
  | lda (n:Nat) (x:AOpd)
  | sto (n:Nat) (x v:AOpd)
  | nilck (x:AOpd)
  | fad (off:Nat) (x:AOpd)
  | fld (off:Nat) (x:AOpd)
  | flda (off n:Nat) (x:AOpd)
  | iad (k:Nat) (x i:AOpd)
  | idx (x i:AOpd)
  | len (x:AOpd)
  | lens (x:AOpd)
  | lenm (x:AOpd)
  | app (k bytes:Nat) (s x:AOpd)
  | mks (k bytes:Nat) (z:List Value) (l c:AOpd)
  | slc (k:Nat) (x:AOpd) (lo hi:Option AOpd)
  | slc0 (k:Nat) (x:AOpd)
  | sls (x:AOpd) (lo hi:Option AOpd)
  | mkm
  | lkp (kd:Nat) (ok:Bool) (z:AVal) (x i:AOpd)
  | mup (kd:Nat) (x i v:AOpd)
  | mkf (g:FuncId) (caps:List AOpd)
  | ext (i:Nat) (x:AOpd)
  | mx (big:Bool) (x y:AOpd)
  | ldb (x:AOpd)
  | fadb (off:Nat) (x:AOpd)
  | bsln (nos:List Nat) (k:Nat) (xs:List AOpd)
  | ldab (nos:List Nat) (n:Nat) (x:AOpd)
  | iadr (k:Nat) (x i:AOpd)
  | slcr (k:Nat) (x:AOpd) (lo hi:Option AOpd)
  | bslm (nos:List Nat) (k:Nat) (xs:List AOpd)
  | appn (rd:List Nat) (k bytes:Nat) (s x:AOpd)
  | ston (t n:Nat) (x v:AOpd)
  deriving Inhabited
structure St where
  tm:Nat→AVal
  hp:Nat→AObj
def St.ev (σ:St):AOpd→AVal
  | .t n=>σ.tm n
  | .c v=>.val v
  | .f g=>.clo g []
def St.put (σ:St) (d:Option Nat) (A:AVal):St :=
  match d with
  | some d=>{ σ with tm:=fun n=>if n=d then A else σ.tm n }
  | none=>σ
def St.seth (σ:St) (r:Nat) (o:AObj):St:={ σ with hp:=fun n=>if n=r then o else σ.hp n }
def AVal.cells:AVal→List AVal
  | .st cs=>cs
  | .val (.agg vs)=>vs.toList.map .val
  | A=>[A]
def One (hp:Nat→AObj):AVal→Prop
  | .val x=>x.oneCell'=true
  | .ro _ _ _=>True
  | .rp _ _=>True
  | .clo _ _=>True
  | .own r ver=>∃ k nn cs,hp r=.row ver k nn cs
  | .ptr r ver _=>(hp r).ver=some ver
  | .mp r ver=>∃ ks vs,hp r=.map ver ks vs
  | _=>False
def frz (hp:Nat→AObj):AVal→AVal
  | .own r ver=>match hp r with
    | .row _ k nn cs=>.ro (frNm nn cs.length ver) k cs
    | _=>.any
  | A=>A
def owned:List AVal→List Nat
  | []=>[]
  | .own r _ :: cs=>r :: owned cs
  | _ :: cs=>owned cs
def binV (op:BinOp):Value→Value→Option Value
  | .int k a,.int k' b =>
    match op with
    | .shl=>if b<0 then none else some (.int k (k.wrap (a * 2 ^ (min b.toNat k.bits))))
    | .shr=>if b<0 then none else some (.int k (a.fdiv (2 ^ (min b.toNat k.bits))))
    | _ =>
      if k≠k' then none else
      match op with
      | .add=>some (.int k (k.wrap (a+b)))
      | .sub=>some (.int k (k.wrap (a - b)))
      | .mul=>some (.int k (k.wrap (a * b)))
      | .quo=>if b=0 then none else some (.int k (k.wrap (a.tdiv b)))
      | .rem=>if b=0 then none else some (.int k (a.tmod b))
      | .and=>some (.int k (k.wrap (BitVec.ofInt k.bits a &&& BitVec.ofInt k.bits b).toNat))
      | .or=>some (.int k (k.wrap (BitVec.ofInt k.bits a ||| BitVec.ofInt k.bits b).toNat))
      | .xor=>some (.int k (k.wrap (BitVec.ofInt k.bits a ^^^ BitVec.ofInt k.bits b).toNat))
      | .andNot=>some (.int k (k.wrap (BitVec.ofInt k.bits a &&& ~~~ BitVec.ofInt k.bits b).toNat))
      | .eql=>some (.bool (a == b))
      | .neq=>some (.bool (a != b))
      | .lss=>some (.bool (decide (a<b)))
      | .leq=>some (.bool (decide (a≤b)))
      | .gtr=>some (.bool (decide (b<a)))
      | .geq=>some (.bool (decide (b≤a)))
      | _=>none
  | .string a,.string b =>
    match op with
    | .add=>if a.size+b.size≤maxLen then some (.string (a ++ b)) else none
    | .eql=>some (.bool (a.toList == b.toList))
    | .neq=>some (.bool !(a.toList == b.toList))
    | .lss=>some (.bool (Op.bytesLess a.toList b.toList))
    | .leq=>some (.bool (Op.bytesLess a.toList b.toList || a.toList == b.toList))
    | .gtr=>some (.bool !(Op.bytesLess a.toList b.toList || a.toList == b.toList))
    | .geq=>some (.bool !(Op.bytesLess a.toList b.toList))
    | _=>none
  | _,_=>none
def unV (op:UnOp):Value→Option Value
  | .int k n=>match op with
    | .neg=>some (.int k (k.wrap (0 - n)))
    | _=>none
  | .bool b=>match op with
    | .not=>some (.bool !b)
    | _=>none
  | _=>none
def byteOfCell:AVal→Option UInt8
  | .val (.int .u8 n)=>some (UInt8.ofNat n.toNat)
  | _=>none
def St.sl (σ:St):AVal→Option (Nat×List AVal)
  | .ro _ k cs=>some (k,cs)
  | .own r ver=>match σ.hp r with
    | .row ver' k _ cs=>if ver'=ver then some (k,cs) else none
    | _=>none
  | _=>none
def St.nn (σ:St):AVal→Bool
  | .own r _=>match σ.hp r with
    | .row _ _ nn _=>nn
    | _=>false
  | _=>false
def St.slc (σ:St) (A:AVal):List AVal:=((σ.sl A).getD (1,[])).2
def St.at (σ:St):AVal→Option (List AVal×Nat)
  | .ptr r ver off=>match σ.hp r with
    | .box ver' cs=>if ver'=ver then some (cs,off) else none
    | .row ver' _ _ cs=>if ver'=ver then some (cs,off) else none
    | _=>none
  | .rp cs off=>some (cs,off)
  | _=>none
def putAt (cs:List AVal) (off:Nat) (new:List AVal):List AVal:=cs.take off ++ new ++ cs.drop (off+new.length)
def St.bound (σ:St) (n:Nat):Option AOpd→Option Nat
  | none=>some n
  | some x=>match σ.ev x with
    | .val (.int _ i)=>if 0≤i then some i.toNat else none
    | _=>none
def pairOf:Value→Option (IntKind×Int×IntKind×Int)
  | .agg xs=>match xs.toList with | [.int k a,.int k' b]=>some (k,a,k',b) | _=>none
  | _=>none
def samePair:Option (IntKind×Int×IntKind×Int)→Option (IntKind×Int×IntKind×Int)→Option Bool
  | some (k,a,k',b),some (l,c,l',d)=>if k=l∧k'=l' then some (a == c && b == d) else none
  | _,_=>none
def sameKey:Value→Value→Option Bool
  | .int k a,.int k' b=>if k=k' then some (a == b) else none
  | .string a,.string b=>some (a == b)
  | .bool a,.bool b=>some (a == b)
  | .agg xs,.agg ys=>samePair (pairOf (.agg xs)) (pairOf (.agg ys))
  | _,_=>none
def AVal.keyV:AVal→AVal
  | .st [.val a,.val b]=>.val (.agg #[a,b])
  | A=>A
theorem keyV_val {v:Value}:(AVal.val v).keyV=.val v:=rfl
theorem keyV_st {a b:Value}:(AVal.st [.val a,.val b]).keyV=.val (.agg #[a,b]):=rfl
def keyIs:Nat→Value→Bool
  | 0,.int _ _=>true
  | 1,.string _=>true
  | 2,.bool _=>true
  | 3,.agg xs=>(pairOf (.agg xs)).isSome
  | _,_=>false
def findKeyAt (k:Value):List Value→Nat→Option (Option Nat)
  | [],_=>some none
  | x :: xs,i=>match sameKey k x with
    | some true=>some (some i)
    | some false=>findKeyAt k xs (i+1)
    | none=>none
def St.mapAt (σ:St):AVal→Option (List Value×List AVal)
  | .mp r ver=>match σ.hp r with
    | .map ver' ks vs=>if ver'=ver then some (ks,vs) else none
    | _=>none
  | _=>none
def noObj:AVal→Prop
  | .val _=>True
  | .ro _ _ _=>True
  | .rp _ _=>True
  | .clo _ _=>True
  | _=>False
def noPtr:AVal→Prop
  | .ptr _ _ _=>False
  | .mp _ _=>False
  | _=>True
def PV:AVal→Prop
  | .val x=>∃ v,AVal.val x=.val v∧v.oneCell'=true
  | .ro _ _ _=>True
  | _=>False
def AI.pre (σ:St) (d:Nat):AI→Prop
  | .mov _=>True
  | .pick c _ _=>match σ.ev c with | .val (.bool _)=>True | _=>False
  | .bin op x y=>match σ.ev x,σ.ev y with | .val a,.val b=>(binV op a b).isSome=true | _,_=>False
  | .beq _ x y=>match σ.ev x,σ.ev y with | .val (.bool _),.val (.bool _)=>True | _,_=>False
  | .isnil _ x=>match σ.ev x with
    | .val (.slice none 0 0)=>True
    | .ro nm _ cs=>isNew nm=true∨0<cs.length
    | .own r ver=>∃ k cs,σ.hp r=.row ver k true cs
    | _=>False
  | .isnilp _ x=>match σ.ev x with
    | .val (.pointer none)=>True
    | .ptr r ver _=>(σ.hp r).ver=some ver
    | .rp _ _=>True
    | _=>False
  | .un op x=>match σ.ev x with | .val a=>(unV op a).isSome=true | _=>False
  | .cvi _ x=>match σ.ev x with | .val (.int _ _)=>True | _=>False
  | .cvbs x=>match σ.sl (σ.ev x) with | some (k,cs)=>k=1∧∀ A∈cs,(byteOfCell A).isSome=true | _=>False
  | .box x=>σ.hp d=.gone∧∀ A∈(σ.ev x).cells,One σ.hp A
  | .new _=>σ.hp d=.gone
  | .bsl k fz xs=>(fz=false→if k=1 then ∀ x∈xs,∃ v,σ.ev x=.val v∧v.oneCell'=true else ∀ x∈xs,∀ A∈(σ.ev x).cells,PV A)∧σ.hp d=.gone∧(∀ x∈xs,(σ.ev x).cells.length=k∧∀ A∈(σ.ev x).cells,One σ.hp A)∧(owned (xs.flatMap fun x=>(σ.ev x).cells)).Nodup
  | .bsln nos k xs=>(∀ r∈nos,r ∉ owned (xs.flatMap fun x=>(σ.ev x).cells))∧σ.hp d=.gone∧(∀ x∈xs,(σ.ev x).cells.length=k∧∀ A∈(σ.ev x).cells,One σ.hp A)∧(owned (xs.flatMap fun x=>(σ.ev x).cells)).Nodup
  | .bst _ ps=>∀ p∈ps,(σ.ev p.2.2).cells.length=p.2.1∧∀ A∈(σ.ev p.2.2).cells,One σ.hp A
  | .bsv _ ps=>∀ p∈ps,p.2.1=1∧∃ v,σ.ev p.2.2=.val v∧v.oneCell'=true
  | .ld x=>match σ.at (σ.ev x) with | some (cs,off)=>off<cs.length | none=>False
  | .lda n x=>match σ.at (σ.ev x) with | some (cs,off)=>off+n≤cs.length | none=>False
  | .sto n x v=>match σ.ev x with
    | .ptr r ver off=>(match σ.hp r with
      | .box ver' cs=>ver'=ver∧off+n≤cs.length
      | .row ver' _ _ cs=>ver'=ver∧off+n≤cs.length∧(owned (σ.ev v).cells).Nodup∧r ∉ owned (σ.ev v).cells
      | _=>False)∧(σ.ev v).cells.length=n∧∀ A∈(σ.ev v).cells,One σ.hp A
    | _=>False
  | .nilck x=>match σ.ev x with | .ptr r ver _=>(σ.hp r).ver=some ver∧∀ v ks vs,σ.hp r≠.map v ks vs | .rp _ _=>True | _=>False
  | .fad _ x=>match σ.ev x with | .ptr r ver _=>(σ.hp r).ver=some ver | .rp _ _=>True | _=>False
  | .fld off x=>match σ.ev x with | .st cs=>off<cs.length | .val (.agg vs)=>off<vs.size | _=>False
  | .flda off n x=>match σ.ev x with | .st cs=>off+n≤cs.length | _=>False
  | .iad k x i=>match σ.ev i with
    | .val (.int _ n)=>(match σ.sl (σ.ev x) with | some (k',cs)=>k'=k∧0≤n∧n.toNat * k<cs.length | none=>False)
    | _=>False
  | .idx x i=>match σ.ev x,σ.ev i with | .val (.string s),.val (.int _ n)=>0≤n∧n.toNat<s.size | _,_=>False
  | .len x=>match σ.ev x with
    | .val (.slice none 0 0)=>True
    | A=>(σ.sl A).isSome=true
  | .lens x=>match σ.ev x with | .val (.string _)=>True | _=>False
  | .lenm x=>(σ.mapAt (σ.ev x)).isSome=true
  | .app k bytes s x =>
    (match σ.ev x with
    | .val (.slice none 0 0)=>True
    | A=>match σ.sl A with | some (k',xs)=>k'=k∧∀ A∈xs,One σ.hp A | none=>False) ∧
    (match σ.ev s with
    | .val (.slice none 0 0)=>σ.hp d=.gone∧((σ.slc (σ.ev x)).length / k) * bytes≤140737488355328
    | .own r ver=>(match σ.hp r with
      | .row ver' k' _ cs=>ver'=ver∧k'=k∧((cs.length+(σ.slc (σ.ev x)).length) / k) * bytes≤140737488355328
      | _=>False)
    | _=>False)
  | .mks _ bytes _ l c=>match σ.ev l,σ.ev c with
    | .val (.int .i64 n),.val (.int .i64 m)=>σ.hp d=.gone∧0≤n∧n≤m∧m * bytes≤140737488355328∧m≤9223372036854775807
    | _,_=>False
  | .slc k x lo hi=>match σ.sl (σ.ev x) with
    | some (k',cs)=>k'=k∧(match σ.bound 0 lo,σ.bound (cs.length / k) hi with | some l,some h=>l≤h∧h * k≤cs.length | _,_=>False)
    | none=>False
  | .slc0 k x=>match σ.sl (σ.ev x) with | some (k',_)=>k'=k∧σ.hp d=.gone | none=>False
  | .sls x lo hi=>match σ.ev x with
    | .val (.string s)=>(match σ.bound 0 lo,σ.bound s.size hi with | some l,some h=>l≤h∧h≤s.size | _,_=>False)
    | _=>False
  | .mkm=>σ.hp d=.gone
  | .lkp kd _ _ x i=>match (σ.ev i).keyV,σ.mapAt (σ.ev x) with | .val k,some (ks,_)=>keyIs kd k=true∧(findKeyAt k ks 0).isSome=true | _,_=>False
  | .mup kd x i v=>match σ.ev x,(σ.ev i).keyV with
    | .mp r ver,.val k=>(match σ.hp r with
      | .map ver' ks _=>ver'=ver∧(findKeyAt k ks 0).isSome=true∧keyIs kd k=true
      | _=>False)∧∀ r v',σ.ev v=.own r v'→∃ k nn l,σ.hp r=.row v' k nn l
    | _,_=>False
  | .mkf _ _=>True
  | .ext i x=>match σ.ev x with | .tup cs=>i<cs.length | _=>False
  | .mx _ x y=>match σ.ev x,σ.ev y with | .val (.int _ _),.val (.int _ _)=>True | _,_=>False
  | .ldb x=>match σ.ev x with
    | .ptr r ver off=>(match σ.hp r with | .box v cs=>v=ver∧off<cs.length | _=>False)
    | .rp cs off=>off<cs.length
    | _=>False
  | .fadb _ x=>match σ.ev x with
    | .ptr r ver _=>(match σ.hp r with | .box v _=>v=ver | _=>False)
    | .rp _ _=>True
    | _=>False
  | .ldab nos n x=>match σ.ev x with
    | .ptr r ver off=>r ∉ nos∧(match σ.hp r with | .box v cs=>v=ver∧off+n≤cs.length | _=>False)
    | .rp cs off=>off+n≤cs.length
    | _=>False
  | .iadr k x i=>match σ.ev i with
    | .val (.int _ n)=>(match σ.ev x with | .ro _ k' cs=>k'=k∧0≤n∧n.toNat * k<cs.length | _=>False)
    | _=>False
  | .slcr k x lo hi=>match σ.ev x with
    | .ro _ k' cs=>k'=k∧(match σ.bound 0 lo,σ.bound (cs.length / k) hi with | some l,some h=>l≤h∧h * k≤cs.length | _,_=>False)
    | _=>False
  | .bslm nos k xs=>((∀ r∈nos,r ∉ owned (xs.flatMap fun x=>(σ.ev x).cells))∧σ.hp d=.gone∧(∀ x∈xs,(σ.ev x).cells.length=k∧∀ A∈(σ.ev x).cells,One σ.hp A)∧(owned (xs.flatMap fun x=>(σ.ev x).cells)).Nodup)∧∀ x∈xs,∀ A∈(σ.ev x).cells,noPtr A
  | .appn rd k bytes s x =>
    (match σ.ev x with
    | .val (.slice none 0 0)=>True
    | A=>match σ.sl A with | some (k',xs)=>k'=k∧∀ A∈xs,One σ.hp A∧noObj A | none=>False) ∧
    (match σ.ev x with | .own r _=>r∈rd | _=>True) ∧
    (match σ.ev s with
    | .own r ver=>(match σ.hp r with
      | .row ver' k' _ cs=>ver'=ver∧k'=k∧((cs.length+(σ.slc (σ.ev x)).length) / k) * bytes≤140737488355328
      | _=>False)
    | _=>False)
  | .ston t n x v=>match σ.ev x with
    | .ptr r ver off=>r=t∧(match σ.hp r with
      | .box ver' cs=>ver'=ver∧off+n≤cs.length
      | _=>False)∧(σ.ev v).cells.length=n∧∀ A∈(σ.ev v).cells,One σ.hp A
    | _=>False
def AI.out (σ:St) (ver:Nat) (d:Nat):AI→AVal
  | .mov x=>σ.ev x
  | .pick c a b=>match σ.ev c with | .val (.bool t)=>if t then σ.ev a else σ.ev b | _=>.any
  | .bin op x y=>match σ.ev x,σ.ev y with | .val a,.val b=>(match binV op a b with | some v=>.val v | none=>.any) | _,_=>.any
  | .beq neg x y=>match σ.ev x,σ.ev y with | .val (.bool a),.val (.bool b)=>.val (.bool (if neg then !(a == b) else a == b)) | _,_=>.any
  | .isnil neg x=>match σ.ev x with
    | .val (.slice none 0 0)=>.val (.bool !neg)
    | _=>.val (.bool neg)
  | .isnilp neg x=>match σ.ev x with
    | .val (.pointer none)=>.val (.bool !neg)
    | _=>.val (.bool neg)
  | .un op x=>match σ.ev x with | .val a=>(match unV op a with | some v=>.val v | none=>.any) | _=>.any
  | .cvi k x=>match σ.ev x with | .val (.int _ n)=>.val (.int k (k.wrap n)) | _=>.any
  | .cvbs x=>match σ.sl (σ.ev x) with | some (_,cs)=>.val (.string ⟨(cs.filterMap byteOfCell).toArray⟩) | _=>.any
  | .box _=>.ptr d ver 0
  | .new _=>.ptr d ver 0
  | .bsl _ _ _=>.own d ver
  | .bsln _ _ _=>.own d ver
  | .bst z ps=>.st (ps.foldl (fun cs p=>putAt cs p.1 (σ.ev p.2.2).cells) (z.map .val))
  | .bsv z ps=>.st (ps.foldl (fun cs p=>putAt cs p.1 (σ.ev p.2.2).cells) (z.map .val))
  | .ld x=>match σ.at (σ.ev x) with | some (cs,off)=>cs.getD off .any | none=>.any
  | .lda n x=>match σ.at (σ.ev x) with | some (cs,off)=>.st ((cs.drop off).take n) | none=>.any
  | .sto _ _ _=>.any
  | .nilck x=>σ.ev x
  | .fad off x=>match σ.ev x with | .ptr r v o=>.ptr r v (o+off) | .rp cs o=>.rp cs (o+off) | _=>.any
  | .fld off x=>match σ.ev x with | .st cs=>cs.getD off .any | .val (.agg vs)=>.val (vs.getD off (.bool false)) | _=>.any
  | .flda off n x=>match σ.ev x with | .st cs=>.st ((cs.drop off).take n) | _=>.any
  | .iad k x i=>match σ.ev x,σ.ev i with
    | .ro _ _ cs,.val (.int _ n)=>.rp cs (n.toNat * k)
    | .own r v,.val (.int _ n)=>.ptr r v (n.toNat * k)
    | _,_=>.any
  | .idx x i=>match σ.ev x,σ.ev i with | .val (.string s),.val (.int _ n)=>.val (.int .u8 (s.data.getD n.toNat 0).toNat) | _,_=>.any
  | .len x=>match σ.ev x with
    | .val (.slice none 0 0)=>.val (.int .i64 0)
    | A=>match σ.sl A with | some (k,cs)=>.val (.int .i64 ((cs.length / k:Nat):Int)) | none=>.any
  | .lens x=>match σ.ev x with | .val (.string s)=>.val (.int .i64 s.size) | _=>.any
  | .lenm x=>match σ.mapAt (σ.ev x) with | some (ks,_)=>.val (.int .i64 ks.length) | none=>.any
  | .app _ _ s x=>match σ.ev s with
    | .own r _=>.own r ver
    | _=>if (σ.slc (σ.ev x)).length=0 then .val (.slice none 0 0) else .own d ver
  | .mks _ _ _ _ _=>.own d ver
  | .slc k x lo hi=>match σ.ev x with
    | .ro nm _ cs=>(match σ.bound 0 lo,σ.bound (cs.length / k) hi with | some l,some h=>.ro nm k ((cs.take (h * k)).drop (l * k)) | _,_=>.any)
    | .own r _=>.own r ver
    | _=>.any
  | .slc0 _ _=>.own d ver
  | .sls x lo hi=>match σ.ev x with
    | .val (.string s)=>(match σ.bound 0 lo,σ.bound s.size hi with | some l,some h=>.val (.string (s.extract l h)) | _,_=>.any)
    | _=>.any
  | .mkm=>.mp d ver
  | .lkp _ ok z x i=>match (σ.ev i).keyV,σ.mapAt (σ.ev x) with
    | .val k,some (ks,vs)=>(match findKeyAt k ks 0 with
      | some (some j)=>if ok then .tup [vs.getD j .any,.val (.bool true)] else vs.getD j .any
      | _=>if ok then .tup [z,.val (.bool false)] else z)
    | _,_=>.any
  | .mup _ _ _ _=>.any
  | .mkf g caps=>.clo g (caps.map σ.ev)
  | .ext i x=>match σ.ev x with | .tup cs=>cs.getD i .any | _=>.any
  | .mx big x y=>match σ.ev x,σ.ev y with | .val (.int k a),.val (.int _ b)=>.val (.int k (if big then (if b > a then b else a) else (if b<a then b else a))) | _,_=>.any
  | .ldb x=>match σ.at (σ.ev x) with | some (cs,off)=>cs.getD off .any | none=>.any
  | .fadb off x=>match σ.ev x with | .ptr r v o=>.ptr r v (o+off) | .rp cs o=>.rp cs (o+off) | _=>.any
  | .ldab _ n x=>match σ.at (σ.ev x) with | some (cs,off)=>.st ((cs.drop off).take n) | none=>.any
  | .iadr k x i=>match σ.ev x,σ.ev i with
    | .ro _ _ cs,.val (.int _ n)=>.rp cs (n.toNat * k)
    | _,_=>.any
  | .slcr k x lo hi=>match σ.ev x with
    | .ro nm _ cs=>(match σ.bound 0 lo,σ.bound (cs.length / k) hi with | some l,some h=>.ro nm k ((cs.take (h * k)).drop (l * k)) | _,_=>.any)
    | _=>.any
  | .bslm _ _ _=>.own d ver
  | .appn _ _ _ s _=>match σ.ev s with
    | .own r _=>.own r ver
    | _=>.any
  | .ston _ _ _ _=>.any
def AI.hpw (σ:St) (ver:Nat) (d:Nat):AI→Nat→AObj
  | .box x=>fun n=>if n=d then .box ver (σ.ev x).cells else σ.hp n
  | .new z=>fun n=>if n=d then .box ver (z.map .val) else σ.hp n
  | .bsl k _ xs=>fun n=>if n=d then .row ver k true ((xs.flatMap fun x=>(σ.ev x).cells).map (frz σ.hp)) else if n∈owned (xs.flatMap fun x=>(σ.ev x).cells) then .gone else σ.hp n
  | .bsln _ k xs=>fun n=>if n=d then .row ver k true ((xs.flatMap fun x=>(σ.ev x).cells).map (frz σ.hp)) else if n∈owned (xs.flatMap fun x=>(σ.ev x).cells) then .gone else σ.hp n
  | .bslm _ k xs=>fun n=>if n=d then .row ver k true ((xs.flatMap fun x=>(σ.ev x).cells).map (frz σ.hp)) else if n∈owned (xs.flatMap fun x=>(σ.ev x).cells) then .gone else σ.hp n
  | .ston _ _ x v=>match σ.ev x with
    | .ptr r _ off=>(match σ.hp r with
      | .box ver' cs=>fun n=>if n=r then .box ver' (putAt cs off (σ.ev v).cells) else σ.hp n
      | _=>σ.hp)
    | _=>σ.hp
  | .appn _ k _ s x=>match σ.ev s with
    | .own r _=>(match σ.hp r with
      | .row _ _ nn cs=>fun n=>if n=r then .row ver k (nn || decide ((σ.slc (σ.ev x)).length≠0)) (cs ++ σ.slc (σ.ev x)) else σ.hp n
      | _=>σ.hp)
    | _=>σ.hp
  | .sto _ x v=>match σ.ev x with
    | .ptr r _ off=>(match σ.hp r with
      | .box ver' cs=>fun n=>if n=r then .box ver' (putAt cs off (σ.ev v).cells) else σ.hp n
      | .row ver' k nn cs=>fun n=>if n=r then .row ver' k nn (putAt cs off ((σ.ev v).cells.map (frz σ.hp))) else if n∈owned (σ.ev v).cells then .gone else σ.hp n
      | _=>σ.hp)
    | _=>σ.hp
  | .app k _ s x=>match σ.ev s with
    | .own r _=>(match σ.hp r with
      | .row _ _ nn cs=>fun n=>if n=r then .row ver k (nn || decide ((σ.slc (σ.ev x)).length≠0)) (cs ++ σ.slc (σ.ev x)) else σ.hp n
      | _=>σ.hp)
    | _=>if (σ.slc (σ.ev x)).length=0 then σ.hp else fun n=>if n=d then .row ver k true (σ.slc (σ.ev x)) else σ.hp n
  | .mks k _ z l _=>match σ.ev l with
    | .val (.int _ n)=>fun j=>if j=d then .row ver k true (List.replicate n.toNat (z.map .val)).flatten else σ.hp j
    | _=>σ.hp
  | .slc k x lo hi=>match σ.ev x with
    | .own r _=>(match σ.hp r with
      | .row _ _ nn cs=>(match σ.bound 0 lo,σ.bound (cs.length / k) hi with | some l,some h=>fun n=>if n=r then .row ver k nn ((cs.take (h * k)).drop (l * k)) else σ.hp n | _,_=>σ.hp)
      | _=>σ.hp)
    | _=>σ.hp
  | .slc0 k x=>fun n=>if n=d then .row ver k (σ.nn (σ.ev x)) [] else σ.hp n
  | .mkm=>fun n=>if n=d then .map ver [] [] else σ.hp n
  | .mup _ x i v=>match σ.ev x,(σ.ev i).keyV with
    | .mp r _,.val k=>(match σ.hp r with
      | .map ver' ks vs=>(match findKeyAt k ks 0 with
        | some (some j)=>fun n=>if n=r then .map ver' ks (vs.set j (frz σ.hp (σ.ev v))) else if n∈owned [σ.ev v] then .gone else σ.hp n
        | _=>fun n=>if n=r then .map ver' (ks ++ [k]) (vs ++ [frz σ.hp (σ.ev v)]) else if n∈owned [σ.ev v] then .gone else σ.hp n)
      | _=>σ.hp)
    | _,_=>σ.hp
  | _=>σ.hp
def AI.fact (σ:St):AI→Prop
  | .len x=>match σ.sl (σ.ev x) with | some (k,cs)=>cs.length / k≤maxLen | none=>True
  | _=>True
def AI.bx:AI→Bool
  | .ldb _ | .fadb _ _ | .ldab _ _ _=>true
  | _=>false
def AI.mb (wb:Bool) (nos:List Nat):AI→AI
  | .ld x=>if wb=true then .ldb x else .ld x
  | .fad off x=>if wb=true then .fadb off x else .fad off x
  | .bsl k true xs=>.bsln nos k xs
  | x=>x
def AI.mp:AI→AI
  | .bsl k true xs=>.bsl k false xs
  | .bst z ps=>.bsv z ps
  | x=>x
theorem one_cells {v:Value} (h:v.oneCell'=true):(AVal.val v).cells=[.val v]:=by
  cases v <;> first | rfl | simp [Value.oneCell'] at h
theorem mp_pre {σ:St} {d:Nat} {x:AI} (h:x.mp.pre σ d):x.pre σ d:=by
  cases x with
  | bsl k fz xs =>
    cases fz with
    | false=>exact h
    | true=>exact ⟨(fun e=>by cases e),h.2⟩
  | bst z ps =>
    intro p hp
    obtain ⟨h1,v,h2,h3⟩:=h p hp
    rw [h2,one_cells h3,h1]
    refine ⟨rfl,fun A hA=>?_⟩
    rw [List.mem_singleton] at hA
    subst hA;exact h3
  | _=>exact h
theorem mp_out {σ:St} {ver d:Nat} {x:AI}:x.mp.out σ ver d=x.out σ ver d:=by
  cases x with
  | bsl k fz xs=>cases fz <;> rfl
  | _=>rfl
theorem mp_hpw {σ:St} {ver d:Nat} {x:AI}:x.mp.hpw σ ver d=x.hpw σ ver d:=by
  cases x with
  | bsl k fz xs=>cases fz <;> rfl
  | _=>rfl
theorem mp_fact {σ:St} {x:AI}:x.mp.fact σ=x.fact σ:=by
  cases x with
  | bsl k fz xs=>cases fz <;> rfl
  | _=>rfl
theorem mb_pre {σ:St} {d:Nat} {wb:Bool} {nos:List Nat} {x:AI} (h:(x.mb wb nos).pre σ d):x.pre σ d:=by
  cases x with
  | ld x =>
    cases wb with
    | false=>exact h
    | true =>
    simp only [AI.pre,AI.mb,if_true] at h ⊢
    split at h
    · rename_i r ver off e
      simp only [St.at,e]
      split at h
      · rename_i v cs hr;rw [hr];simp only [h.1,if_true];exact h.2
      · exact h.elim
    · rename_i cs off e;simp only [St.at,e];exact h
    · exact h.elim
  | fad off x =>
    cases wb with
    | false=>exact h
    | true =>
    simp only [AI.pre,AI.mb,if_true] at h ⊢
    split at h
    · rename_i r ver off e
      split at h
      · rename_i v cs hr
        show (σ.hp r).ver=some ver
        rw [hr];simp [h]
      · exact h.elim
    · trivial
    · exact h.elim
  | bsl k fz xs =>
    cases fz with
    | false=>exact h
    | true=>exact ⟨(fun e=>by cases e),h.2⟩
  | _=>exact h
theorem mb_out {σ:St} {ver d:Nat} {wb:Bool} {nos:List Nat} {x:AI}:(x.mb wb nos).out σ ver d=x.out σ ver d:=by
  cases x with
  | ld x=>cases wb <;> rfl
  | fad off x=>cases wb <;> rfl
  | bsl k fz xs=>cases fz <;> rfl
  | _=>rfl
theorem mb_hpw {σ:St} {ver d:Nat} {wb:Bool} {nos:List Nat} {x:AI}:(x.mb wb nos).hpw σ ver d=x.hpw σ ver d:=by
  cases x with
  | ld x=>cases wb <;> rfl
  | fad off x=>cases wb <;> rfl
  | bsl k fz xs=>cases fz <;> rfl
  | _=>rfl
theorem mb_fact {σ:St} {wb:Bool} {nos:List Nat} {x:AI}:(x.mb wb nos).fact σ=x.fact σ:=by
  cases x with
  | ld x=>cases wb <;> rfl
  | fad off x=>cases wb <;> rfl
  | bsl k fz xs=>cases fz <;> rfl
  | _=>rfl
def AOpd.tl:AOpd→List Nat
  | .t n=>[n]
  | _=>[]
def AI.m2 (wb:Bool) (sts nos:List Nat) (ab la:Bool):AI→AI
  | .ld x=>if wb=true then .ldb x else .ld x
  | .lda n x=>if wb=true then .ldab sts n x else .lda n x
  | .fad off x=>if wb=true then .fadb off x else .fad off x
  | .iad k x i=>if wb=true then .iadr k x i else .iad k x i
  | .slc k x lo hi=>.slcr k x lo hi
  | .bsl k true xs=>.bslm nos k xs
  | .app k by' s x=>if ab=true then .appn x.tl k by' s x else .app k by' s x
  | .sto n (.t t) v=>if la=true then .ston t n (.t t) v else .sto n (.t t) v
  | x=>x
theorem m2_ok {σ:St} {d ver:Nat} {wb ab la:Bool} {sts nos:List Nat} {x:AI} (h:(x.m2 wb sts nos ab la).pre σ d) :
    x.pre σ d∧(x.m2 wb sts nos ab la).out σ ver d=x.out σ ver d∧(x.m2 wb sts nos ab la).hpw σ ver d=x.hpw σ ver d:=by
  cases x with
  | ld x =>
    cases wb with
    | false=>exact ⟨h,rfl,rfl⟩
    | true=>exact ⟨mb_pre (x:=.ld x) (wb:=true) (nos:=[]) h,rfl,rfl⟩
  | fad off x =>
    cases wb with
    | false=>exact ⟨h,rfl,rfl⟩
    | true=>exact ⟨mb_pre (x:=.fad off x) (wb:=true) (nos:=[]) h,rfl,rfl⟩
  | lda n x =>
    cases wb with
    | false=>exact ⟨h,rfl,rfl⟩
    | true =>
      refine ⟨?_,rfl,rfl⟩
      simp only [AI.m2,AI.pre,if_true] at h ⊢
      split at h
      · rename_i r ver' off e
        obtain ⟨_,h⟩:=h
        simp only [St.at,e]
        split at h
        · rename_i v cs hr;rw [hr];simp only [h.1,if_true];exact h.2
        · exact h.elim
      · rename_i cs off e;simp only [St.at,e];exact h
      · exact h.elim
  | iad k x i =>
    cases wb with
    | false=>exact ⟨h,rfl,rfl⟩
    | true =>
      simp only [AI.m2,AI.pre,if_true] at h
      split at h
      · rename_i n e
        split at h
        · rename_i nm k' cs e2
          refine ⟨?_,?_,rfl⟩
          · simp only [AI.pre,e,e2,St.sl];exact h
          · simp only [AI.m2,AI.out,if_true,e,e2]
        · exact h.elim
      · exact h.elim
  | slc k x lo hi =>
    simp only [AI.m2,AI.pre] at h
    split at h
    · rename_i nm k' cs e
      refine ⟨?_,?_,?_⟩
      · simp only [AI.pre,e,St.sl];exact h
      · simp only [AI.m2,AI.out,e]
      · simp only [AI.m2,AI.hpw,e]
    · exact h.elim
  | bsl k fz xs =>
    cases fz with
    | false=>exact ⟨h,rfl,rfl⟩
    | true=>exact ⟨⟨(fun e=>by cases e),h.1.2⟩,rfl,rfl⟩
  | app k by' s x =>
    cases ab with
    | false=>exact ⟨h,rfl,rfl⟩
    | true =>
      obtain ⟨h1,_,h2⟩:=h
      have h3:match σ.ev x with
          | .val (.slice none 0 0)=>True
          | A=>match σ.sl A with | some (k',xs)=>k'=k∧∀ A∈xs,One σ.hp A | none=>False:=by
        by_cases hnil:σ.ev x=.val (.slice none 0 0)
        · rw [hnil];trivial
        · have h1':match σ.sl (σ.ev x) with | some (k',xs)=>k'=k∧∀ A∈xs,One σ.hp A∧noObj A | none=>False:=by
            split at h1
            · rename_i h3;exact absurd h3 hnil
            · exact h1
          split
          · trivial
          · split at h1'
            · exact ⟨h1'.1,fun A hA=>(h1'.2 A hA).1⟩
            · exact h1'.elim
      split at h2
      · rename_i r v e
        refine ⟨⟨h3,?_⟩,?_,?_⟩
        · simp only [e];exact h2
        · simp only [AI.m2,AI.out,if_true,e]
        · simp only [AI.m2,AI.hpw,if_true,e]
      · exact h2.elim
  | sto n x v =>
    cases x with
    | t t =>
      cases la with
      | false=>exact ⟨h,rfl,rfl⟩
      | true =>
        simp only [AI.m2,AI.pre,if_true] at h
        split at h
        · rename_i r ver' off e
          obtain ⟨_,h1,h2⟩:=h
          split at h1
          · rename_i v' cs hr
            refine ⟨?_,rfl,?_⟩
            · simp only [AI.pre,e,hr];exact ⟨h1,h2⟩
            · simp only [AI.m2,AI.hpw,if_true,e,hr]
          · exact h1.elim
        · exact h.elim
    | _=>exact ⟨h,rfl,rfl⟩
  | _=>exact ⟨h,rfl,rfl⟩
theorem m2_fact {σ:St} {wb ab la:Bool} {sts nos:List Nat} {x:AI}:(x.m2 wb sts nos ab la).fact σ=x.fact σ:=by
  cases x with
  | ld x=>cases wb <;> rfl
  | fad off x=>cases wb <;> rfl
  | lda n x=>cases wb <;> rfl
  | iad k x i=>cases wb <;> rfl
  | bsl k fz xs=>cases fz <;> rfl
  | app k by' s x=>cases ab <;> rfl
  | sto n x v=>cases x <;> cases la <;> rfl
  | _=>rfl
def AI.eff (σ:St) (ver:Nat) (d:Option Nat) (x:AI):St :=
  St.put { tm:=σ.tm,hp:=x.hpw σ ver (d.getD 0) } d (x.out σ ver (d.getD 0))
end Go.Ab
namespace Go.Ab
def AI.opds:AI→List AOpd
  | .mov x | .isnil _ x | .isnilp _ x | .un _ x | .cvi _ x | .cvbs x | .box x | .ld x | .lda _ x | .nilck x | .fad _ x | .fld _ x | .flda _ _ x | .len x | .lens x | .lenm x | .slc0 _ x | .ext _ x | .ldb x | .fadb _ x | .ldab _ _ x=>[x]
  | .pick c a b=>[c,a,b]
  | .bin _ x y | .beq _ x y | .iad _ x y | .idx x y | .app _ _ x y | .mks _ _ _ x y | .lkp _ _ _ x y | .mx _ x y | .sto _ x y | .iadr _ x y | .appn _ _ _ x y | .ston _ _ x y=>[x,y]
  | .new _ | .mkm=>[]
  | .bsl _ _ xs | .bsln _ _ xs | .bslm _ _ xs | .mkf _ xs=>xs
  | .bst _ ps | .bsv _ ps=>ps.map (·.2.2)
  | .slc _ x lo hi | .sls x lo hi | .slcr _ x lo hi=>[x] ++ lo.toList ++ hi.toList
  | .mup _ x i v=>[x,i,v]
def free (nos:List Nat):AVal→Prop
  | .own r _=>r ∉ nos
  | .ptr r _ _=>r ∉ nos
  | .mp r _=>r ∉ nos
  | _=>True
inductive CM where
  | n
  | h
  | m (nos:List Nat)
inductive AIns where
  | i (x:AI)
  | call (g:FuncId) (xs:List AOpd)
  | calv (f:AOpd) (xs:List AOpd)
  | calh (g:FuncId) (xs:List AOpd)
  | calvh (f:AOpd) (xs:List AOpd)
  | calm (nos:List Nat) (g:FuncId) (xs:List AOpd)
  | r (nos:List Nat) (x:AI)
  | it (k:Nat) (x:AOpd)
  deriving Inhabited
structure AOp where
  dst:Option Nat
  grd:Option (Nat×Bool)
  ins:AIns
  deriving Inhabited
inductive AC where
  | skip
  | reg (draw:Bool) (ops:List AOp)
  | kp (ts hs:List Nat) (a:AC)
  | dn (a:AC)
  | gh (a:AC)
  | mv (x y:Nat) (a:AC)
  | regi (draw:Bool) (ops:List AOp)
  | ad (b off r k:Nat) (a:AC)
  | seq (a b:AC)
  | cond (c:AOpd) (a b:AC)
  | block (id:Nat) (a:AC)
  | loop (a:AC)
  | exit (id:Nat)
  | ret
  | stuck
  deriving Inhabited
inductive AEx where
  | normal
  | exit (id:Nat)
  | ret
def L {α:Type} (z:α):List (Nat×α)→Nat→α
  | [],_=>z
  | (k,a) :: l,n=>if n=k then a else L z l n
def pickL {α:Type} (z:α) (f:Nat→α):List Nat→List (Nat×α)
  | []=>[]
  | k :: ks=>(k,f k) :: pickL z f ks
def St.keep (σ:St) (ts hs:List Nat):St:={ tm:=L .any (pickL .any σ.tm ts),hp:=L .gone (pickL .gone σ.hp hs) }
mutual
def AVal.dn:AVal→AVal
  | .any=>.any
  | .val v=>.val v
  | .ro nm k cs=>.ro (dnNm nm) k (dnL cs)
  | .own r v=>.own r v
  | .st cs=>.st (dnL cs)
  | .tup cs=>.tup (dnL cs)
  | .ptr r v off=>.ptr r v off
  | .rp cs off=>.rp (dnL cs) off
  | .mp r v=>.mp r v
  | .clo g caps=>.clo g (dnL caps)
def dnL:List AVal→List AVal
  | []=>[]
  | A :: cs=>A.dn :: dnL cs
end
theorem dnL_eq:∀ cs:List AVal,dnL cs=cs.map AVal.dn
  | []=>by simp [dnL]
  | A :: cs=>by simp [dnL,dnL_eq cs]
def AObj.dn:AObj→AObj
  | .gone=>.gone
  | .box v cs=>.box v (dnL cs)
  | .row v k nn cs=>.row v k nn (dnL cs)
  | .map v ks vs=>.map v ks (dnL vs)
  | .it v d=>.it v (itd dnL d)
def St.dn (σ:St):St:={ tm:=fun n=>(σ.tm n).dn,hp:=fun r=>(σ.hp r).dn }
theorem AObj.dn_ver (o:AObj):o.dn.ver=o.ver:=by cases o <;> rfl
theorem AObj.dn_gone {o:AObj}:o.dn=.gone↔o=.gone:=by cases o <;> simp [AObj.dn]
mutual
theorem Rep.dn {c:Cz}:∀ (A:AVal) (v:Value),Rep c A v→Rep c A.dn v
  | .any,_,_=>by simp [AVal.dn,Rep]
  | .val x,v,h=>by simpa [AVal.dn,Rep] using h
  | .ro nm k cs,v,h=>by
    simp only [AVal.dn,Rep] at h ⊢
    obtain ⟨base,len,cap,hv,hk,hl,hm,hn,hc⟩:=h
    refine ⟨base,len,cap,hv,hk,by rw [dnL_eq,List.length_map];exact hl,hm,?_,?_⟩
    · intro n e
      rw [dnL_eq,List.length_map]
      match nm,hn,e with
      | some (some 0),hn,e =>
        simp only [dnNm,Option.some.injEq] at e;subst e
        exact hn _ rfl
      | some none,hn,e =>
        simp only [dnNm,Option.some.injEq] at e;subst e
        exact hn _ rfl
      | some (some (n0+1)),hn,e =>
        simp only [dnNm,Option.some.injEq] at e;subst e
        obtain ⟨h1,h2⟩:=hn _ rfl
        refine ⟨fun _=>h1 rfl,?_⟩
        rcases h2 with h0 | ⟨b,off,hb,hnm⟩
        · exact .inl h0
        · exact .inr ⟨b,off,hb,⟨n0,hnm.1⟩,hnm.2⟩
    · rcases hc with hc | ⟨b,off,hb,hi,hr⟩
      · left;rw [dnL_eq,List.length_map];exact hc
      · exact .inr ⟨b,off,hb,hi,RepAt.dn cs off hr⟩
  | .own r ver,v,h=>by simpa only [AVal.dn] using h
  | .st cs,v,h=>by
    simp only [AVal.dn,Rep] at h ⊢
    obtain ⟨vs,hv,hl⟩:=h
    exact ⟨vs,hv,RepL.dn cs vs.toList hl⟩
  | .tup cs,v,h=>by
    simp only [AVal.dn,Rep] at h ⊢
    obtain ⟨vs,hv,hl⟩:=h
    exact ⟨vs,hv,RepL.dn cs vs.toList hl⟩
  | .ptr r ver off,v,h=>by simpa only [AVal.dn] using h
  | .rp cs off,v,h=>by
    simp only [AVal.dn,Rep] at h ⊢
    obtain ⟨b,o,hv,hi,hr⟩:=h
    exact ⟨b,o,hv,hi,RepAt.dn cs o hr⟩
  | .mp r ver,v,h=>by simpa only [AVal.dn] using h
  | .clo g caps,v,h=>by
    simp only [AVal.dn,Rep] at h ⊢
    obtain ⟨vs,hv,hl⟩:=h
    exact ⟨vs,hv,RepL.dn caps vs.toList hl⟩
theorem RepAt.dn {c:Cz} {b:Nat}:∀ (cs:List AVal) (off:Nat),RepAt c b off cs→RepAt c b off (dnL cs)
  | [],_,_=>by simp [dnL,RepAt]
  | A :: cs,off,h=>by
    simp only [dnL,RepAt] at h ⊢
    obtain ⟨⟨v,hv,hr⟩,ht⟩:=h
    exact ⟨⟨v,hv,Rep.dn A v hr⟩,RepAt.dn cs (off+1) ht⟩
theorem RepL.dn {c:Cz}:∀ (cs:List AVal) (vs:List Value),RepL c cs vs→RepL c (dnL cs) vs
  | [],[],_=>by simp [dnL,RepL]
  | [],_ :: _,h=>by simp [RepL] at h
  | _ :: _,[],h=>by simp [RepL] at h
  | A :: cs,v :: vs,h=>by
    simp only [dnL,RepL] at h ⊢
    exact ⟨Rep.dn A v h.1,RepL.dn cs vs h.2⟩
end
theorem ObjRep.dn {c:Cz} {v:Value} {o:AObj} (h:ObjRep c v o):ObjRep c v o.dn:=by
  cases o with
  | gone=>trivial
  | box ver cs =>
    obtain ⟨g,t,cells,rfl,hg,hr⟩:=h
    exact ⟨g,t,cells,rfl,hg,RepL.dn _ _ hr⟩
  | row ver k nn cs =>
    obtain ⟨base,n,cap,rfl,h1,h2,h3,h4,h5,hc⟩:=h
    refine ⟨base,n,cap,rfl,h1,by rw [dnL_eq,List.length_map];exact h2,h3,h4,h5,?_⟩
    rcases hc with hc | ⟨g,off,t,cells,rfl,hg,h6,h7⟩
    · exact .inl hc
    · exact .inr ⟨g,off,t,cells,rfl,hg,h6,RepL.dn _ _ h7⟩
  | map ver ks vs =>
    obtain ⟨g,clock,ents,rfl,hg,h1,h2⟩:=h
    exact ⟨g,clock,ents,rfl,hg,h1,RepL.dn _ _ h2⟩
  | it ver d =>
    cases d with
    | none=>exact h
    | some d =>
      obtain ⟨cur,ks,vs⟩:=d
      obtain ⟨g,rfl,hg,hi⟩:=h
      exact ⟨g,rfl,hg,hi.of rfl (fun m hm=>⟨hm,rfl⟩) fun us=>RepL.dn _ us⟩
def St.adopt (σ:St) (b off r k ver:Nat):St:=match σ.hp b with
  | .box v cs=>(match cs[off]? with
    | some (.val (.slice none 0 0))=>(match σ.hp r with
      | .gone=>if k=0 then σ else { tm:=σ.tm,hp:=fun n=>if n=b then .box v (cs.set off (.own r ver)) else if n=r then .row ver k false [] else σ.hp n }
      | _=>σ)
    | _=>σ)
  | _=>σ
def AI.wp (fa:Bool) (σ:St) (ver:Nat) (d:Option Nat) (x:AI) (K:St→Prop):Prop:=x.pre σ (d.getD 0)∧((fa=true→x.fact σ)→K (x.eff σ ver d))
def wpIt (ver:Nat) (d:Option Nat) (σ:St) (K:St→Prop):Nat→AVal→Prop
  | 0,.mp r v=>match σ.hp r with
    | .map v' ks vs=>v'=v∧σ.hp (d.getD 0)=.gone∧K (St.put ⟨σ.tm,fun n=>if n=d.getD 0 then .it ver (some (false,ks,vs)) else if n=r then .gone else σ.hp n⟩ d (.own (d.getD 0) ver))
    | _=>False
  | 1,.own r v=>match σ.hp r with
    | .it v' (some (cur,ks,vs))=>v'=v ∧
      ((if cur then ks.tail else ks)=[]→K (σ.put d (.tup [.val (.bool false)]))) ∧
      ∀ (j:Nat) (k:Value) (A:AVal),(if cur then ks.tail else ks)[j]?=some k→(if cur then vs.tail else vs)[j]?=some A →
        K ((σ.seth r (.it v (some (true,k :: (if cur then ks.tail else ks).eraseIdx j,A :: (if cur then vs.tail else vs).eraseIdx j)))).put d (.tup [.val (.bool true),.val k,A]))
    | _=>False
  | 2,.own r v=>match σ.hp r with
    | .it v' (some (true,k :: _,A :: _))=>v'=v∧K (σ.put d (.tup [.val k,A]))
    | _=>False
  | _,_=>False
def wpIns (fa:Bool) (CK:CM→St→FuncId→List AVal→Option Nat→(Nat→Nat)→(St→Prop)→Prop) (s:Nat→Nat) (d:Option Nat) (σ:St) (K:St→Prop):AIns→Prop
  | .i x=>x.wp fa σ (s 0) d K
  | .call g xs=>CK .n σ g (xs.map σ.ev) d s K
  | .calh g xs=>CK .h σ g (xs.map σ.ev) d s K
  | .calm nos g xs=>CK (.m nos) σ g (xs.map σ.ev) d s K
  | .r nos x=>(∀ o∈x.opds,free nos (σ.ev o))∧x.wp fa σ (s 0) d K
  | .calv f xs=>match σ.ev f with
    | .clo g caps=>CK .n σ g (xs.map σ.ev ++ caps) d s K
    | _=>False
  | .calvh f xs=>match σ.ev f with
    | .clo g caps=>CK .h σ g (xs.map σ.ev ++ caps) d s K
    | _=>False
  | .it k x=>wpIt (s 0) d σ K k (σ.ev x)
def wpOp (fa:Bool) (CK:CM→St→FuncId→List AVal→Option Nat→(Nat→Nat)→(St→Prop)→Prop) (s:Nat→Nat) (o:AOp) (σ:St) (K:St→Prop):Prop :=
  match o.grd with
  | none=>wpIns fa CK s o.dst σ K o.ins
  | some (t,want)=>match σ.tm t with
    | .val (.bool b)=>(b=want→wpIns fa CK s o.dst σ K o.ins)∧(b≠want→K (σ.put o.dst (.val (.tuple #[]))))
    | .val (.tuple _)=>K (σ.put o.dst (.val (.tuple #[])))
    | _=>False
def wpOps (fa:Bool) (CK:CM→St→FuncId→List AVal→Option Nat→(Nat→Nat)→(St→Prop)→Prop) (vs:Nat→Nat→Nat):Nat→List AOp→St→(St→Prop)→Prop
  | _,[],σ,K=>K σ
  | i,o :: os,σ,K=>wpOp fa CK (vs i) o σ fun σ'=>wpOps fa CK vs (i+1) os σ' K
end Go.Ab
namespace Go.Ab
def cOpd:Operand→Option AOpd
  | .tmp t=>some (.t t)
  | .const v=>some (.c v)
  | .func f=>some (.f f)
  | .global _=>none
def cOpds (xs:List Operand):Option (List AOpd):=xs.mapM cOpd
def cSize (P:Program) (t:TypeId):Option (Option Nat) :=
  match P.underlying t,P.info? t with
  | some (.struct _),some i=>some (some i.size)
  | some (.array _ _),some i=>some (some i.size)
  | some _,some i=>if i.size=1 then some none else none
  | _,_=>none
def cElem (P:Program) (t:TypeId):Option (Nat×Nat×Value) :=
  match P.underlying t with
  | some (.slice e)=>match P.info? e with
    | some i=>match i.zero with
      | some z=>if 0<i.size∧z.cells.size=i.size∧0<i.bytes then some (i.size,i.bytes,z) else none
      | none=>none
    | none=>none
  | _=>none
def isNilSl:Operand→Bool
  | .const (.slice none 0 0)=>true
  | _=>false
def isNilPtr:Operand→Bool
  | .const (.pointer none)=>true
  | _=>false
def isSlice (P:Program) (t:TypeId):Bool:=match P.underlying t with | some (.slice _)=>true | _=>false
def isPtr (P:Program) (t:TypeId):Bool:=match P.underlying t with | some (.pointer _)=>true | _=>false
def isInt (P:Program) (t:TypeId):Bool:=match P.underlying t with | some (.int _)=>true | _=>false
def isStr (P:Program) (t:TypeId):Bool:=match P.underlying t with | some .string=>true | _=>false
def isBool (P:Program) (t:TypeId):Bool:=match P.underlying t with | some .bool=>true | _=>false
def isPairKey (P:Program) (t:TypeId):Bool:=match P.underlying t with
  | some (.struct fs)=>!P.stoodInHeld t && (match fs.toList with
    | [f, g] => decide (f.name ≠ "_") && decide (g.name ≠ "_") && decide (f.offset = 0) && decide (g.offset = 1) && isInt P f.type && isInt P g.type
    | _=>false)
  | _=>false
def kindOf (P:Program) (t:TypeId):Nat:=if isInt P t=true then 0 else if isStr P t=true then 1 else if isBool P t=true then 2 else 3
def cParts:Nat→List (Nat×Operand)→Option (List AOpd)
  | _,[]=>some []
  | i,(j,x) :: ps=>if i=j then (match cOpd x,cParts (i+1) ps with | some a,some as=>some (a :: as) | _,_=>none) else none
def mayOwn (P:Program) (t:TypeId):Bool:=match P.underlying t with
  | some (.slice e)=>match P.underlying e with
    | some (.int _)=>false
    | some .string=>false
    | some .bool=>false
    | _=>true
  | _=>true
def cFields (P:Program) (fs:Array Field):List (Nat×Operand)→Option (List (Nat×Nat×AOpd))
  | []=>some []
  | (j,x) :: ps=>match fs[j]? with
    | some f=>match P.info? f.type,cOpd x,cFields P fs ps with
      | some i,some a,some as=>some ((f.offset,i.size,a) :: as)
      | _,_,_=>none
    | none=>none
def cBound:Option Operand→Option (Option AOpd)
  | none=>some none
  | some x=>(cOpd x).map some
def isZero:Option Operand→Bool
  | some (.const (.int _ 0))=>true
  | _=>false
def isNumG (fn:Func):Bool:=match fn.name.toList with
  | _ :: _ :: _ :: _ :: _ :: _ :: _ :: _ :: r :: u :: m :: _=>decide (r.toNat=78∧u.toNat=117∧m.toNat=109)
  | _=>false
def dstBad (N:Nat):Option Nat→Bool
  | some d=>decide (N≤d)
  | none=>false
def cOp1 (P:Program) (o:Oper):Option AIns :=
  match o.op,o.dst with
  | .move x,some _=>(cOpd x).map fun a=>.i (.mov a)
  | .assign x,some _=>(cOpd x).map fun a=>.i (.mov a)
  | .pick c a b,some _=>match cOpd c,cOpd a,cOpd b with
    | some c,some a,some b=>some (.i (.pick c a b))
    | _,_,_=>none
  | .binOp op t x y _,some _=>match cOpd x,cOpd y with
    | some a,some b =>
      if isSlice P t=true then
        (if isNilSl y=true then (match op with | .eql=>some (.i (.isnil false a)) | .neq=>some (.i (.isnil true a)) | _=>none) else none)
      else if isPtr P t=true then
        (if isNilPtr y=true then (match op with | .eql=>some (.i (.isnilp false a)) | .neq=>some (.i (.isnilp true a)) | _=>none) else none)
      else if isBool P t=true then (match op with | .eql=>some (.i (.beq false a b)) | .neq=>some (.i (.beq true a b)) | _=>none)
      else some (.i (.bin op a b))
    | _,_=>none
  | .unOp op _ x,some _=>(cOpd x).map fun a=>.i (.un op a)
  | .convert src dst x,some _=>match P.underlying src,P.underlying dst,cOpd x with
    | some (.int _),some (.int k),some a=>some (.i (.cvi k a))
    | some (.slice e),some .string,some a=>(match P.underlying e with | some (.int .u8)=>some (.i (.cvbs a)) | _=>none)
    | _,_,_=>none
  | .box _ x,some _=>(cOpd x).map fun a=>.i (.box a)
  | .alloc e,some _=>match P.info? e with
    | some i=>(match i.zero with | some z=>some (.i (.new z.cells.toList)) | none=>none)
    | none=>none
  | .buildSlice t len ps,some _=>match cElem P t,cParts 0 ps.toList with
    | some (k,_,_),some xs=>if xs.length=len∧len * k≤2 ^ 24 then some (.i (.bsl k (mayOwn P t) xs)) else none
    | _,_=>none
  | .build t ps,some _=>match P.underlying t,P.info? t with
    | some (.struct fs),some i=>(match i.zero with
      | some z=>(match cFields P fs ps.toList,fs.toList.mapM (fun f=>(P.info? f.type).map fun i=>(f.offset,i.size)) with
        | some as,some _=>if as.all (fun p=>decide (p.1+p.2.1≤z.cells.size)) then some (.i (.bst z.cells.toList as)) else none
        | _,_=>none)
      | none=>none)
    | _,_=>none
  | .load t x,some _=>match cSize P t,cOpd x with
    | some none,some a=>some (.i (.ld a))
    | some (some n),some a=>if n=0 then none else some (.i (.lda n a))
    | _,_=>none
  | .store t x v,none=>match cSize P t,cOpd x,cOpd v with
    | some none,some a,some b=>some (.i (.sto 1 a b))
    | some (some n),some a,some b=>if n=0 then none else some (.i (.sto n a b))
    | _,_,_=>none
  | .nilCheck x,some _=>(cOpd x).map fun a=>.i (.nilck a)
  | .fieldAddr s x f,some _=>match P.underlying s,cOpd x with
    | some (.struct fs),some a=>(match fs[f]? with
      | some fl=>(match P.info? fl.type with | some i=>if i.size=0 then none else some (.i (.fad fl.offset a)) | none=>none)
      | none=>none)
    | _,_=>none
  | .field s x f,some _=>match P.underlying s,cOpd x with
    | some (.struct fs),some a=>(match fs[f]? with
      | some fl=>(match cSize P fl.type with
        | some none=>some (.i (.fld fl.offset a))
        | some (some n)=>some (.i (.flda fl.offset n a))
        | none=>none)
      | none=>none)
    | _,_=>none
  | .indexAddr t x ix,some _=>match cElem P t,cOpd x,cOpd ix with
    | some (k,_,_),some a,some b=>some (.i (.iad k a b))
    | _,_,_=>none
  | .index t x ix,some _=>match cOpd x,cOpd ix with
    | some a,some b=>if isStr P t=true then some (.i (.idx a b)) else none
    | _,_=>none
  | .slice t x lo hi mx,some _=>match cOpd x,cBound lo,cBound hi with
    | some a,some l,some h =>
      if isStr P t=true then (match mx with | none=>some (.i (.sls a l h)) | some _=>none) else
      (match cElem P t,mx with
      | some (k,_,_),none=>some (.i (.slc k a l h))
      | some (k,_,_),some _=>if (lo.isNone∨isZero lo=true)∧isZero hi=true∧isZero mx=true then some (.i (.slc0 k a)) else none
      | _,_=>none)
    | _,_,_=>none
  | .makeSlice t l c,some _=>match cElem P t,cOpd l,cOpd c with
    | some (k,by_,z),some a,some b=>some (.i (.mks k by_ z.cells.toList a b))
    | _,_,_=>none
  | .makeMap _ none,some _=>some (.i .mkm)
  | .lookup t x ix ok,some _=>match P.underlying t,cOpd x,cOpd ix with
    | some (.map k e),some a,some b =>
      if isInt P k=true∨isStr P k=true∨isBool P k=true∨isPairKey P k=true then
        (match P.info? e with
        | some i=>(match i.zero with
          | some (.agg vs)=>some (.i (.lkp (kindOf P k) ok (.st (vs.toList.map .val)) a b))
          | some z=>some (.i (.lkp (kindOf P k) ok (.val z) a b))
          | none=>none)
        | none=>none)
      else none
    | _,_,_=>none
  | .mapUpdate t m k v,none=>match P.underlying t,cOpd m,cOpd k,cOpd v with
    | some (.map kt _),some a,some b,some c=>if isInt P kt=true∨isStr P kt=true∨isBool P kt=true∨isPairKey P kt=true then some (.i (.mup (kindOf P kt) a b c)) else none
    | _,_,_,_=>none
  | .insert t m k v,none=>match P.underlying t,cOpd m,cOpd k,cOpd v with
    | some (.map kt _),some a,some b,some c=>if isInt P kt=true∨isStr P kt=true∨isBool P kt=true∨isPairKey P kt=true then some (.i (.mup (kindOf P kt) a b c)) else none
    | _,_,_,_=>none
  | .makeFunc (.func g) first caps,some _=>if first.size=0 then (cOpds caps.toList).map fun cs=>.i (.mkf g cs) else none
  | .extract x i,some _=>(cOpd x).map fun a=>.i (.ext i a)
  | .call { callee:=.builtin .len,args:=args,argTypes:=ts },some _=>match args.toList,ts.toList with
    | [x],[t]=>match P.underlying t,cOpd x with
      | some (.slice _),some a=>some (.i (.len a))
      | some .string,some a=>some (.i (.lens a))
      | some (.map _ _),some a=>some (.i (.lenm a))
      | _,_=>none
    | _,_=>none
  | .call { callee:=.builtin .append,args:=args,argTypes:=ts },some _=>match args.toList,ts.toList with
    | [s,x],[t,t']=>(match cElem P t,cOpd s,cOpd x with
      | some (k,by_,_),some a,some b=>if t'=t then some (.i (.app k by_ a b)) else none
      | _,_,_=>none)
    | _,_=>none
  | .call { callee:=.builtin .max,args:=args,argTypes:=_ },some _=>match args.toList with
    | [x,y]=>(match cOpd x,cOpd y with | some a,some b=>some (.i (.mx true a b)) | _,_=>none)
    | _=>none
  | .call { callee:=.builtin .min,args:=args,argTypes:=_ },some _=>match args.toList with
    | [x,y]=>(match cOpd x,cOpd y with | some a,some b=>some (.i (.mx false a b)) | _,_=>none)
    | _=>none
  | .call { callee:=.value (.func f),args:=args,argTypes:=_ },_=>(cOpds args.toList).map fun as=>.call f as
  | .call { callee:=.value (.tmp t),args:=args,argTypes:=_ },_=>(cOpds args.toList).map fun as=>.calv (.t t) as
  | .range t x,some _=>match P.underlying t,cOpd x with
    | some (.map _ _),some a=>some (.it 0 a)
    | _,_=>none
  | .next x false,some _=>(cOpd x).map fun a=>.it 1 a
  | .entry x,some _=>(cOpd x).map fun a=>.it 2 a
  | _,_=>none
def cOp (P:Program) (N:Nat) (o:Oper):Option AIns:=if dstBad N o.dst=true then none else cOp1 P o
end Go.Ab
namespace Go.Ab
structure Sim (w0:World) (outs:Nat→Prop) (N:Nat) (σ:St) (a:Act) (c:Cz):Prop where
  good:Good w0 outs c
  hp:c.hp=σ.hp
  size:a.tmps.size=N
  tm:∀ n,Rep c (σ.tm n) (a.tmps.getD n undef)
  defers:a.defers=[]
theorem Sim.put {w0:World} {outs:Nat→Prop} {N:Nat} {σ:St} {a:Act} {c c':Cz} {hp':Nat→AObj} {A:AVal} {v:Value} {d:Option Nat}
    (S:Sim w0 outs N σ a c) (K:Keeps c c') (G:Good w0 outs c') (hh:c'.hp=hp') (hr:Rep c' A v) (hd:∀ n,d=some n→n<N) :
    Sim w0 outs N (St.put { tm:=σ.tm,hp:=hp' } d A) (a.put d v) c':=by
  cases d with
  | none=>exact ⟨G,hh,S.size,fun n=>(S.tm n).keeps K,S.defers⟩
  | some d =>
    refine ⟨G,hh,by simpa [Act.put] using S.size,fun n=>?_,S.defers⟩
    have hlt:=hd d rfl
    rw [← S.size] at hlt
    by_cases e:n=d
    · subst e
      simp only [St.put,if_true,Act.put,Array.getD_eq_getD_getElem?,Array.getElem?_setIfInBounds_self_of_lt hlt,Option.getD_some]
      exact hr
    · have e':d≠n:=fun h=>e h.symm
      simp only [St.put,if_neg e,Act.put,Array.getD_eq_getD_getElem?,Array.getElem?_setIfInBounds_ne e']
      have:=(S.tm n).keeps K
      rwa [Array.getD_eq_getD_getElem?] at this
theorem Sim.ev {w0:World} {outs:Nat→Prop} {N:Nat} {σ:St} {a:Act} {c:Cz} (S:Sim w0 outs N σ a c) {x:Operand} {y:AOpd} (h:cOpd x=some y) :
    Rep c (σ.ev y) (a.eval x):=by
  cases x with
  | tmp t=>simp only [cOpd,Option.some.injEq] at h;subst h;exact S.tm t
  | const v=>simp only [cOpd,Option.some.injEq] at h;subst h;simp [St.ev,Rep,Act.eval]
  | func f=>simp only [cOpd,Option.some.injEq] at h;subst h;exact ⟨#[],rfl,by simp [RepL]⟩
  | global g=>simp [cOpd] at h
theorem Sim.evs {w0:World} {outs:Nat→Prop} {N:Nat} {σ:St} {a:Act} {c:Cz} (S:Sim w0 outs N σ a c):∀ {xs:List Operand} {ys:List AOpd},cOpds xs=some ys →
    RepL c (ys.map σ.ev) (xs.map a.eval)
  | [],ys,h=>by simp [cOpds] at h;subst h;simp [RepL]
  | x :: xs,ys,h=>by
    simp only [cOpds,List.mapM_cons,Option.bind_eq_bind,Option.bind_eq_some_iff,Option.pure_def,Option.some.injEq] at h
    obtain ⟨y,hy,ys',hys,rfl⟩:=h
    simp only [List.map_cons,RepL]
    exact ⟨S.ev hy,S.evs hys⟩
def Ex1 (P:Program) (w0:World) (outs:Nat→Prop) (o:Oper) (a:Act) (c:Cz) (hp':Nat→AObj) (A:AVal) (ver:Nat):Prop :=
  ∃ v c',((execOp a.eval o).run P c.w=.ok (.value v) c'.w∨(v=undef∧(execOp a.eval o).run P c.w=.ok .skip c'.w))∧Good w0 outs c'∧Keeps c c'∧c'.hp=hp'∧Rep c' A v ∧
    (∀ u,c'.used u→c.used u∨u=ver)∧c'.ext=c.ext∧c'.base=c.base
theorem Ex1.still {P:Program} {w0:World} {outs:Nat→Prop} {N:Nat} {σ:St} {o:Oper} {a:Act} {c:Cz} {A:AVal} {ver:Nat} (S:Sim w0 outs N σ a c) {v:Value}
    (h:(execOp a.eval o).run P c.w=.ok (.value v) c.w) (hr:Rep c A v):Ex1 P w0 outs o a c σ.hp A ver :=
  ⟨v,c,.inl h,S.good,Keeps.refl c,S.hp,hr,fun _ h=>.inl h,rfl,rfl⟩
section
variable {P:Program} {w0:World} {outs:Nat→Prop} {N:Nat} {σ:St} {o:Oper} {a:Act} {c:Cz} {ver:Nat}
theorem rep_val {c:Cz} {x v:Value} (h:Rep c (.val x) v):v=x:=by simpa [Rep] using h
theorem yzy {c:Cz} {x:Value}:Rep c (.val x) x:=by simp [Rep]
theorem rep_keyV {c:Cz} {A:AVal} {v:Value} (h:Rep c A v):Rep c A.keyV v:=by
  unfold AVal.keyV
  split
  · rename_i a b
    simp only [Rep] at h
    obtain ⟨vs,rfl,h⟩:=h
    obtain ⟨l⟩:=vs
    match l,h with
    | [x,y],h =>
      simp only [RepL,Rep,and_true] at h
      obtain ⟨rfl,rfl⟩:=h
      simp only [Rep]
    | [],h=>simp [RepL] at h
    | [_],h=>simp [RepL] at h
    | _ :: _ :: _ :: _,h=>simp [RepL] at h
  · exact h
theorem ex_mov {x:Operand} {y:AOpd} (S:Sim w0 outs N σ a c) (ho:o.op=.move x∨o.op=.assign x) (hx:cOpd x=some y) :
    Ex1 P w0 outs o a c σ.hp (AI.out σ ver (o.dst.getD 0) (.mov y)) ver:=by
  refine Ex1.still S (v:=a.eval x) ?_ (S.ev hx)
  rcases ho with ho | ho <;> simp [execOp,ho]
theorem ex_pick {x1 x2 x3:Operand} {y1 y2 y3:AOpd} (S:Sim w0 outs N σ a c) (ho:o.op=.pick x1 x2 x3) (h1:cOpd x1=some y1) (h2:cOpd x2=some y2) (h3:cOpd x3=some y3)
    (hp:AI.pre σ (o.dst.getD 0) (.pick y1 y2 y3)):Ex1 P w0 outs o a c σ.hp (AI.out σ ver (o.dst.getD 0) (.pick y1 y2 y3)) ver:=by
  have e1:=S.ev h1;have e2:=S.ev h2;have e3:=S.ev h3
  simp only [AI.pre] at hp
  split at hp
  · rename_i b hb
    rw [hb] at e1
    have e1':=rep_val e1
    refine Ex1.still S (v:=if b then a.eval x2 else a.eval x3) ?_ ?_
    · cases b <;> simp [execOp,ho,e1',asBool]
    · simp only [AI.out,hb]
      cases b <;> simp <;> assumption
  · exact hp.elim
theorem ex_bin {op:BinOp} {t t':TypeId} {x1 x2:Operand} {y1 y2:AOpd} (S:Sim w0 outs N σ a c) (ho:o.op=.binOp op t x1 x2 t') (h1:cOpd x1=some y1) (h2:cOpd x2=some y2)
    (hp:AI.pre σ (o.dst.getD 0) (.bin op y1 y2)):Ex1 P w0 outs o a c σ.hp (AI.out σ ver (o.dst.getD 0) (.bin op y1 y2)) ver:=by
  have e1:=S.ev h1;have e2:=S.ev h2
  simp only [AI.pre] at hp
  split at hp
  · rename_i u v hu hv
    rw [hu] at e1;rw [hv] at e2
    have e1':=rep_val e1;have e2':=rep_val e2
    obtain ⟨r,hr⟩:=Option.isSome_iff_exists.1 hp
    refine Ex1.still S (v:=r) ?_ ?_
    · simp only [execOp,ho,e1',e2']
      unfold binV at hr
      split at hr
      · rename_i k p k' q
        have hg:(eqGuard op t x1 x2 (.int k p) (.int k' q)).run P c.w=.ok () c.w:=by
          unfold eqGuard;cases op <;> simp
        simp only [Sem.run_bind,hg,Result.andThen_ok]
        by_cases hk:k=k'
        · subst hk
          cases op <;> simp [binOp,Op.shift,Op.intArith,Op.intDiv,Op.intBits,Op.intCmp] at hr ⊢ <;>
            (first
              | (rw [← hr];done)
              | (rw [← hr.2];intro h7;exact absurd h7 (by omega))
              | (rw [← hr.2,if_neg (by omega)];done)
              | (rw [← hr.2];simp [hr.1];done))
        · cases op <;> simp [binOp,Op.shift,hk] at hr ⊢ <;>
            (first
              | (rw [← hr.2];intro h7;exact absurd h7 (by omega))
              | (rw [← hr.2,if_neg (by omega)];done))
      · rename_i p q
        have hg:(eqGuard op t x1 x2 (.string p) (.string q)).run P c.w=.ok () c.w:=by
          unfold eqGuard;cases op <;> simp
        simp only [Sem.run_bind,hg,Result.andThen_ok]
        cases op <;> simp [binOp,Op.stringOp] at hr ⊢ <;>
          (first
            | (rw [← hr];done)
            | (obtain ⟨h5,h6⟩:=hr
               simp only [maxLen] at h5
               rw [← h6,if_neg (by omega)]))
      · cases hr
    · simp only [AI.out,hu,hv,hr];exact yzy
  · exact hp.elim
theorem run_equalIn_bool {t:TypeId} (ht:P.underlying t=some .bool) (d:Nat) (u v:Bool) (w:World):(Op.equalIn (d+1) t (.bool u) (.bool v)).run P w=.ok (u == v) w:=by
  simp [Op.equalIn,underlying,ht]
theorem ex_beq {op:BinOp} {t t':TypeId} {x1 x2:Operand} {y1 y2:AOpd} (neg:Bool) (S:Sim w0 outs N σ a c) (ho:o.op=.binOp op t x1 x2 t') (hop:op=if neg then .neq else .eql)
    (ht:P.underlying t=some .bool) (h1:cOpd x1=some y1) (h2:cOpd x2=some y2)
    (hp:AI.pre σ (o.dst.getD 0) (.beq neg y1 y2)):Ex1 P w0 outs o a c σ.hp (AI.out σ ver (o.dst.getD 0) (.beq neg y1 y2)) ver:=by
  have e1:=S.ev h1;have e2:=S.ev h2
  simp only [AI.pre] at hp
  split at hp
  · rename_i u v hu hv
    rw [hu] at e1;rw [hv] at e2
    have e1':=rep_val e1;have e2':=rep_val e2
    refine Ex1.still S (v:=.bool (if neg then !(u == v) else u == v)) ?_ ?_
    · simp only [execOp,ho,e1',e2']
      have he:(Op.equal t (.bool u) (.bool v)).run P c.w=.ok (u == v) c.w:=run_equalIn_bool ht 9999 u v c.w
      cases neg
      · subst hop
        simp [eqGuard,binOp,he]
      · subst hop
        simp [eqGuard,binOp,he]
    · simp only [AI.out,hu,hv];exact yzy
  · exact hp.elim
theorem ex_un {op:UnOp} {t:TypeId} {x1:Operand} {y1:AOpd} (S:Sim w0 outs N σ a c) (ho:o.op=.unOp op t x1) (h1:cOpd x1=some y1)
    (hp:AI.pre σ (o.dst.getD 0) (.un op y1)):Ex1 P w0 outs o a c σ.hp (AI.out σ ver (o.dst.getD 0) (.un op y1)) ver:=by
  have e1:=S.ev h1
  simp only [AI.pre] at hp
  split at hp
  · rename_i u hu
    rw [hu] at e1
    have e1':=rep_val e1
    obtain ⟨r,hr⟩:=Option.isSome_iff_exists.1 hp
    refine Ex1.still S (v:=r) ?_ ?_
    · simp only [execOp,ho,e1']
      unfold unV at hr
      split at hr
      · cases op <;> simp [Op.unary,Op.intArith] at hr ⊢;exact hr
      · cases op <;> simp [Op.unary] at hr ⊢;exact hr
      · cases hr
    · simp only [AI.out,hu,hr];exact yzy
  · exact hp.elim
theorem ex_cvi {t1 t2:TypeId} {k k':IntKind} {x1:Operand} {y1:AOpd} (S:Sim w0 outs N σ a c) (ho:o.op=.convert t1 t2 x1) (ht1:P.underlying t1=some (.int k')) (ht2:P.underlying t2=some (.int k)) (h1:cOpd x1=some y1)
    (hp:AI.pre σ (o.dst.getD 0) (.cvi k y1)):Ex1 P w0 outs o a c σ.hp (AI.out σ ver (o.dst.getD 0) (.cvi k y1)) ver:=by
  have e1:=S.ev h1
  simp only [AI.pre] at hp
  split at hp
  · rename_i k2 n hu
    rw [hu] at e1
    have e1':=rep_val e1
    refine Ex1.still S (v:=.int k (k.wrap n)) ?_ ?_
    · simp [execOp,ho,e1',convert,underlying,ht1,ht2,Conv.intToInt]
    · simp only [AI.out,hu];exact yzy
  · exact hp.elim
theorem ex_mkf {g:FuncId} {first caps:Array Operand} {ys:List AOpd} (S:Sim w0 outs N σ a c) (ho:o.op=.makeFunc (.func g) first caps) (hf:first.size=0) (h1:cOpds caps.toList=some ys) :
    Ex1 P w0 outs o a c σ.hp (AI.out σ ver (o.dst.getD 0) (.mkf g ys)) ver:=by
  have e1:=S.evs h1
  have hf':first=#[]:=Array.eq_empty_of_size_eq_zero hf
  refine Ex1.still S (v:=.func (.func g) #[] (caps.map a.eval)) ?_ ?_
  · simp [execOp,ho,hf',Instr.makeFunc]
  · simp only [AI.out,Rep];exact ⟨_,rfl,by simpa using e1⟩
theorem ex_ext {i:Nat} {x1:Operand} {y1:AOpd} (S:Sim w0 outs N σ a c) (ho:o.op=.extract x1 i) (h1:cOpd x1=some y1)
    (hp:AI.pre σ (o.dst.getD 0) (.ext i y1)):Ex1 P w0 outs o a c σ.hp (AI.out σ ver (o.dst.getD 0) (.ext i y1)) ver:=by
  have e1:=S.ev h1
  simp only [AI.pre] at hp
  split at hp
  · rename_i cs hu
    rw [hu] at e1
    simp only [Rep] at e1
    obtain ⟨vs,hv,hl⟩:=e1
    obtain ⟨v,hv',hr⟩:=hl.get (List.getElem?_eq_getElem hp)
    refine Ex1.still S (v:=v) ?_ ?_
    · simp only [execOp,ho,hv,Instr.extract]
      have:vs[i]?=some v:=by simpa using hv'
      simp [this]
    · simp only [AI.out,hu,List.getD_eq_getElem?_getD,List.getElem?_eq_getElem hp,Option.getD_some];exact hr
  · exact hp.elim
theorem ex_idx {t:TypeId} {x1 x2:Operand} {y1 y2:AOpd} (S:Sim w0 outs N σ a c) (ho:o.op=.index t x1 x2) (ht:P.underlying t=some .string) (h1:cOpd x1=some y1) (h2:cOpd x2=some y2)
    (hp:AI.pre σ (o.dst.getD 0) (.idx y1 y2)):Ex1 P w0 outs o a c σ.hp (AI.out σ ver (o.dst.getD 0) (.idx y1 y2)) ver:=by
  have e1:=S.ev h1;have e2:=S.ev h2
  simp only [AI.pre] at hp
  split at hp
  · rename_i s k n hu hv
    rw [hu] at e1;rw [hv] at e2
    have e1':=rep_val e1;have e2':=rep_val e2
    obtain ⟨h0,hlt⟩:=hp
    have hs:s[n.toNat]?=some (s.data.getD n.toNat 0):=by
      rw [getElem?_pos s n.toNat hlt]
      show some (s.data[n.toNat]'hlt)=_
      have hlt':n.toNat<s.data.size:=hlt
      simp [hlt',Array.getElem?_eq_getElem hlt']
    refine Ex1.still S (v:=.int .u8 (s.data.getD n.toNat 0).toNat) ?_ ?_
    · simp [execOp,ho,e1',e2',Instr.index,asIntOf,underlying,ht,h0,hs]
    · simp only [AI.out,hu,hv];exact yzy
  · exact hp.elim
end
end Go.Ab
namespace Go.Ab
section
variable {P:Program} {w0:World} {outs:Nat→Prop} {N:Nat} {σ:St} {o:Oper} {a:Act} {c:Cz} {ver:Nat}
theorem addr_add (b o n:Nat):(⟨b,o,none⟩:Addr).add n=⟨b,o+n,none⟩:=by
  unfold Addr.add;split <;> simp_all
theorem at_cells (G:Good w0 outs c) (hc:c.hp=σ.hp) {A:AVal} {v:Value} (h:Rep c A v) {cs:List AVal} {off:Nat} (hat:σ.at A=some (cs,off)) :
    ∃ b o,(v=.pointer (some ⟨b,o+off,none⟩)∨cs=[])∧RepAt c b o cs:=by
  cases A with
  | ptr r v' off' =>
    simp only [St.at] at hat
    simp only [Rep] at h
    rw [← hc] at hat
    have hO:=G.obj r
    split at hat
    · rename_i ver' cs' hr
      split at hat
      · rename_i e
        simp only [Option.some.injEq,Prod.mk.injEq] at hat
        obtain ⟨rfl,rfl⟩:=hat
        subst e
        rw [hr] at hO h
        obtain ⟨b,o,hb,hv⟩:=h.2 rfl
        obtain ⟨g,t,cells,hl,hg,hrep⟩:=hO
        rw [hl] at hb
        simp only [baseOf,Option.some.injEq,Addr.mk.injEq] at hb
        obtain ⟨rfl,rfl,-⟩:=hb
        refine ⟨g,0,.inl hv,RepAt.of_row hg ?_⟩
        rw [hrep.length,List.drop_zero,List.take_of_length_le (Nat.le_refl _)];exact hrep
      · cases hat
    · rename_i ver' k nn cs' hr
      split at hat
      · rename_i e
        simp only [Option.some.injEq,Prod.mk.injEq] at hat
        obtain ⟨rfl,rfl⟩:=hat
        subst e
        rw [hr] at hO h
        obtain ⟨b,o,hb,hv⟩:=h.2 rfl
        obtain ⟨base,n,cap,hl,hk,hlen,hn,hm,hnn,hcase⟩:=hO
        rcases hcase with h0 | ⟨g,off2,t,cells,rfl,hg,hfit,hrep⟩
        · refine ⟨b,o,.inr ?_,?_⟩
          · have:n=0:=by omega
            subst this;simp at hlen;exact hlen
          · have:n=0:=by omega
            subst this;simp at hlen;subst hlen;simp [RepAt]
        · rw [hl] at hb
          simp only [baseOf,Option.some.injEq,Addr.mk.injEq] at hb
          obtain ⟨rfl,rfl,-⟩:=hb
          refine ⟨g,off2,.inl hv,RepAt.of_row hg ?_⟩
          rw [hlen];exact hrep
      · cases hat
    · cases hat
  | rp cs' off' =>
    simp only [St.at,Option.some.injEq,Prod.mk.injEq] at hat
    obtain ⟨rfl,rfl⟩:=hat
    simp only [Rep] at h
    obtain ⟨b,o,hv,hi,hr⟩:=h
    exact ⟨b,o,.inl hv,hr⟩
  | _=>simp [St.at] at hat
theorem run_isAgg_false {t:TypeId} (h:cSize P t=some none) (w:World):(isAgg t).run P w=.ok false w:=by
  unfold cSize at h
  split at h
  · simp at h
  · simp at h
  · rename_i d i h1 h2 hd hi
    simp only [isAgg,underlying]
    cases d <;> simp_all
  · cases h
theorem run_isAgg_true {t:TypeId} {n:Nat} (h:cSize P t=some (some n)) (w:World):(isAgg t).run P w=.ok true w∧(sizeOf t).run P w=.ok n w:=by
  unfold cSize at h
  split at h
  · rename_i fs i h1 h2
    simp only [Option.some.injEq] at h;subst h
    simp [isAgg,underlying,h1,sizeOf,typeInfo,h2]
  · rename_i fs i h1 h2 h3
    simp only [Option.some.injEq] at h;subst h
    simp [isAgg,underlying,h2,sizeOf,typeInfo,h3]
  · split at h <;> simp at h
  · cases h
theorem ex_ld {t:TypeId} {x1:Operand} {y1:AOpd} (S:Sim w0 outs N σ a c) (ho:o.op=.load t x1) (ht:cSize P t=some none) (h1:cOpd x1=some y1)
    (hp:AI.pre σ (o.dst.getD 0) (.ld y1)):Ex1 P w0 outs o a c σ.hp (AI.out σ ver (o.dst.getD 0) (.ld y1)) ver:=by
  have e1:=S.ev h1
  simp only [AI.pre] at hp
  split at hp
  · rename_i cs off hat
    obtain ⟨b,p,hv,hr⟩:=at_cells S.good S.hp e1 hat
    have hv:a.eval x1=.pointer (some ⟨b,p+off,none⟩):=by
      rcases hv with hv | hv
      · exact hv
      · subst hv;simp at hp
    obtain ⟨v,hcell,hrep⟩:=hr.get (List.getElem?_eq_getElem hp)
    refine Ex1.still S (v:=v) ?_ ?_
    · simp [execOp,ho,hv,Instr.loadAt,Instr.sureAddr,loadVar,run_isAgg_false ht,hcell]
    · simp only [AI.out,hat,List.getD_eq_getElem?_getD,List.getElem?_eq_getElem hp,Option.getD_some];exact hrep
  · exact hp.elim
theorem ex_lda {t:TypeId} {n:Nat} {x1:Operand} {y1:AOpd} (S:Sim w0 outs N σ a c) (ho:o.op=.load t x1) (ht:cSize P t=some (some n)) (h1:cOpd x1=some y1) (hn:0<n)
    (hp:AI.pre σ (o.dst.getD 0) (.lda n y1)):Ex1 P w0 outs o a c σ.hp (AI.out σ ver (o.dst.getD 0) (.lda n y1)) ver:=by
  have e1:=S.ev h1
  simp only [AI.pre] at hp
  split at hp
  · rename_i cs off hat
    obtain ⟨b,p,hv,hr⟩:=at_cells S.good S.hp e1 hat
    have hv:a.eval x1=.pointer (some ⟨b,p+off,none⟩):=by
      rcases hv with hv | hv
      · exact hv
      · subst hv;simp at hp;omega
    have hc:∀ j,j<n→∃ v,c.w.cell? ((⟨b,p+off,none⟩:Addr).add j)=some v∧Rep c ((cs.drop off).getD j .any) v:=by
      intro j hj
      have hlt:off+j<cs.length:=by omega
      obtain ⟨v,hcell,hrep⟩:=hr.get (List.getElem?_eq_getElem hlt)
      refine ⟨v,?_,?_⟩
      · rw [addr_add,Nat.add_assoc];exact hcell
      · simp only [List.getD_eq_getElem?_getD,List.getElem?_drop,List.getElem?_eq_getElem hlt,Option.getD_some];exact hrep
    let f:Nat→Value:=fun j=>(c.w.cell? ((⟨b,p+off,none⟩:Addr).add j)).getD undef
    have hf:∀ j,j<n→c.w.cell? ((⟨b,p+off,none⟩:Addr).add j)=some (f j):=by
      intro j hj;obtain ⟨v,hv,_⟩:=hc j hj;simp [f,hv]
    have hrun:=run_loadCells (P:=P) (w:=c.w) ⟨b,p+off,none⟩ n f hf
    refine Ex1.still S (v:=.agg ((List.range n).map f).toArray) ?_ ?_
    · simp [execOp,ho,hv,Instr.loadAt,Instr.sureAddr,loadVar,run_isAgg_true ht,hrun]
    · simp only [AI.out,hat,Rep]
      refine ⟨_,rfl,RepL.of_get ?_ ?_⟩
      · simp;omega
      · intro i A v hA hv'
        have hi:i<n:=by
          have:=(List.getElem?_eq_some_iff.1 hA).1;simp at this;omega
        obtain ⟨u,hu,hrep⟩:=hc i hi
        have e2:v=u:=by
          have h5:=hf i hi
          rw [hu] at h5
          have h6:u=f i:=by simpa using h5
          have h7:v=f i:=by simpa [hi] using hv'.symm
          rw [h6,h7]
        rw [e2]
        have e3:A=(cs.drop off).getD i .any:=by
          rw [List.getElem?_take] at hA
          rw [if_pos hi] at hA
          simp only [List.getD_eq_getElem?_getD,hA,Option.getD_some]
        rw [e3];exact hrep
  · exact hp.elim
theorem ex_nilck {x1:Operand} {y1:AOpd} (S:Sim w0 outs N σ a c) (ho:o.op=.nilCheck x1) (h1:cOpd x1=some y1)
    (hp:AI.pre σ (o.dst.getD 0) (.nilck y1)):Ex1 P w0 outs o a c σ.hp (AI.out σ ver (o.dst.getD 0) (.nilck y1)) ver:=by
  have e1:=S.ev h1
  have hv:∃ b p,a.eval x1=.pointer (some ⟨b,p,none⟩):=by
    simp only [AI.pre] at hp
    split at hp
    · rename_i r v off hu
      rw [hu] at e1
      simp only [Rep] at e1
      rw [← S.hp] at hp
      obtain ⟨b,p,_,hv⟩:=e1.2 hp.1
      exact ⟨b,_,hv⟩
    · rename_i cs off hu
      rw [hu] at e1
      simp only [Rep] at e1
      obtain ⟨b,p,hv,_⟩:=e1
      exact ⟨b,_,hv⟩
    · exact hp.elim
  obtain ⟨b,p,hv⟩:=hv
  refine Ex1.still S (v:=a.eval x1) ?_ (by simpa only [AI.out] using e1)
  simp [execOp,ho,hv]
theorem ex_fad {s:TypeId} {f:Nat} {fs:Array Field} {fl:Field} {i:TypeInfo} {x1:Operand} {y1:AOpd} (S:Sim w0 outs N σ a c) (ho:o.op=.fieldAddr s x1 f) (ht:P.underlying s=some (.struct fs)) (hf:fs[f]?=some fl)
    (hi:P.info? fl.type=some i) (h0:i.size≠0) (h1:cOpd x1=some y1)
    (hp:AI.pre σ (o.dst.getD 0) (.fad fl.offset y1)):Ex1 P w0 outs o a c σ.hp (AI.out σ ver (o.dst.getD 0) (.fad fl.offset y1)) ver:=by
  have e1:=S.ev h1
  have hv:∃ b p,a.eval x1=.pointer (some ⟨b,p,none⟩)∧Rep c (AI.out σ ver (o.dst.getD 0) (.fad fl.offset y1)) (.pointer (some ⟨b,p+fl.offset,none⟩)):=by
    simp only [AI.pre] at hp
    split at hp
    · rename_i r v off hu
      rw [hu] at e1
      simp only [Rep] at e1
      rw [← S.hp] at hp
      obtain ⟨b,p,hb,hv⟩:=e1.2 hp
      refine ⟨b,_,hv,?_⟩
      simp only [AI.out,hu,Rep]
      exact ⟨e1.1,fun _=>⟨b,p,hb,by rw [Nat.add_assoc]⟩⟩
    · rename_i cs off hu
      rw [hu] at e1
      simp only [Rep] at e1
      obtain ⟨b,p,hv,hr⟩:=e1
      refine ⟨b,_,hv,?_⟩
      simp only [AI.out,hu,Rep]
      exact ⟨b,p,by rw [Nat.add_assoc],hr⟩
    · exact hp.elim
  obtain ⟨b,p,hv,hr⟩:=hv
  refine Ex1.still S (v:=.pointer (some ⟨b,p+fl.offset,none⟩)) ?_ hr
  simp [execOp,ho,hv,Instr.fieldAt,underlying,ht,hf,Instr.sureAddr,fieldPlace,sizeOf,typeInfo,hi,h0,addr_add]
theorem ex_fld {s:TypeId} {f:Nat} {fs:Array Field} {fl:Field} {x1:Operand} {y1:AOpd} (S:Sim w0 outs N σ a c) (ho:o.op=.field s x1 f) (ht:P.underlying s=some (.struct fs)) (hf:fs[f]?=some fl)
    (hsz:cSize P fl.type=some none) (h1:cOpd x1=some y1)
    (hp:AI.pre σ (o.dst.getD 0) (.fld fl.offset y1)):Ex1 P w0 outs o a c σ.hp (AI.out σ ver (o.dst.getD 0) (.fld fl.offset y1)) ver:=by
  have e1:=S.ev h1
  simp only [AI.pre] at hp
  split at hp
  · rename_i cs hu
    rw [hu] at e1
    simp only [Rep] at e1
    obtain ⟨vs,hv,hl⟩:=e1
    obtain ⟨v,hv',hr⟩:=hl.get (List.getElem?_eq_getElem hp)
    have hv'':vs[fl.offset]?=some v:=by simpa using hv'
    refine Ex1.still S (v:=v) ?_ ?_
    · simp [execOp,ho,hv,Instr.field,underlying,ht,hf,asAgg,part,run_isAgg_false hsz,hv'']
    · simp only [AI.out,hu,List.getD_eq_getElem?_getD,List.getElem?_eq_getElem hp,Option.getD_some];exact hr
  · rename_i vs hu
    rw [hu] at e1
    have e1':=rep_val e1
    have hv'':vs[fl.offset]?=some (vs[fl.offset]'hp):=Array.getElem?_eq_getElem hp
    refine Ex1.still S (v:=vs[fl.offset]'hp) ?_ ?_
    · simp [execOp,ho,e1',Instr.field,underlying,ht,hf,asAgg,part,run_isAgg_false hsz,hv'']
    · simp only [AI.out,hu,Array.getD_eq_getD_getElem?,hv'',Option.getD_some];exact yzy
  · exact hp.elim
theorem ex_flda {s:TypeId} {f n:Nat} {fs:Array Field} {fl:Field} {x1:Operand} {y1:AOpd} (S:Sim w0 outs N σ a c) (ho:o.op=.field s x1 f) (ht:P.underlying s=some (.struct fs)) (hf:fs[f]?=some fl)
    (hsz:cSize P fl.type=some (some n)) (h1:cOpd x1=some y1)
    (hp:AI.pre σ (o.dst.getD 0) (.flda fl.offset n y1)):Ex1 P w0 outs o a c σ.hp (AI.out σ ver (o.dst.getD 0) (.flda fl.offset n y1)) ver:=by
  have e1:=S.ev h1
  simp only [AI.pre] at hp
  split at hp
  · rename_i cs hu
    rw [hu] at e1
    simp only [Rep] at e1
    obtain ⟨vs,hv,hl⟩:=e1
    refine Ex1.still S (v:=.agg (vs.extract fl.offset (fl.offset+n))) ?_ ?_
    · simp [execOp,ho,hv,Instr.field,underlying,ht,hf,asAgg,part,run_isAgg_true hsz]
    · simp only [AI.out,hu,Rep]
      refine ⟨_,rfl,?_⟩
      have h2:=(hl.drop fl.offset).take n
      simpa [List.extract_eq_take_drop] using h2
  · exact hp.elim
theorem cElem_spec {t:TypeId} {k by_:Nat} {z:Value} (h:cElem P t=some (k,by_,z)) :
    ∃ e i,P.underlying t=some (.slice e)∧P.info? e=some i∧i.zero=some z∧i.size=k∧i.bytes=by_∧0<k∧z.cells.size=k∧0<by_:=by
  unfold cElem at h
  split at h
  · rename_i e ht
    split at h
    · rename_i i hi
      split at h
      · rename_i z' hz
        split at h
        · rename_i hk
          simp only [Option.some.injEq,Prod.mk.injEq] at h
          obtain ⟨rfl,rfl,rfl⟩:=h
          exact ⟨e,i,ht,hi,hz,rfl,rfl,hk.1,hk.2.1,hk.2.2⟩
        · cases h
      · cases h
    · cases h
  · cases h
theorem sl_cells (G:Good w0 outs c) (hc:c.hp=σ.hp) {A:AVal} {v:Value} (h:Rep c A v) {k:Nat} {cs:List AVal} (hsl:σ.sl A=some (k,cs)) :
    ∃ base len cap,v=.slice base len cap∧0<k∧cs.length=len * k∧(len≤cap∧cap≤maxLen) ∧
      (cs.length=0∨∃ b off,base=some ⟨b,off,none⟩∧RepAt c b off cs∧b<c.w.heap.size):=by
  cases A with
  | ro nm k' cs' =>
    simp only [St.sl,Option.some.injEq,Prod.mk.injEq] at hsl
    obtain ⟨rfl,rfl⟩:=hsl
    simp only [Rep] at h
    obtain ⟨base,len,cap,hv,hk,hl,hm,_,hcase⟩:=h
    refine ⟨base,len,cap,hv,hk,hl,hm,?_⟩
    rcases hcase with h0 | ⟨b,off,hb,hi,hr⟩
    · exact .inl h0
    · exact .inr ⟨b,off,hb,hr,hi.2.1⟩
  | own r v' =>
    simp only [St.sl] at hsl
    simp only [Rep] at h
    rw [← hc] at hsl
    have hO:=G.obj r
    split at hsl
    · rename_i ver' k' nn cs' hr
      split at hsl
      · rename_i e
        simp only [Option.some.injEq,Prod.mk.injEq] at hsl
        obtain ⟨rfl,rfl⟩:=hsl
        subst e
        rw [hr] at hO h
        have hv:=h.2 rfl
        obtain ⟨base,n,cap,hl,hk,hlen,hn,hm,hnn,hcase⟩:=hO
        refine ⟨base,n,cap,hv.trans hl,hk,hlen,⟨hn,hm⟩,?_⟩
        rcases hcase with h0 | ⟨g,off2,t,cells,rfl,hg,hfit,hrep⟩
        · left
          have:n=0:=by omega
          subst this;simpa using hlen
        · refine .inr ⟨g,off2,rfl,RepAt.of_row hg ?_,block_lt_of_some hg⟩
          rw [hlen];exact hrep
      · cases hsl
    · cases hsl
  | _=>simp [St.sl] at hsl
theorem ex_iad {t:TypeId} {k by_:Nat} {z:Value} {x1 x2:Operand} {y1 y2:AOpd} (S:Sim w0 outs N σ a c) (ho:o.op=.indexAddr t x1 x2) (ht:cElem P t=some (k,by_,z)) (h1:cOpd x1=some y1) (h2:cOpd x2=some y2)
    (hp:AI.pre σ (o.dst.getD 0) (.iad k y1 y2)):Ex1 P w0 outs o a c σ.hp (AI.out σ ver (o.dst.getD 0) (.iad k y1 y2)) ver:=by
  obtain ⟨e,i,hu,hi,_,hsz,_,hk0,_,_⟩:=cElem_spec ht
  have e1:=S.ev h1;have e2:=S.ev h2
  simp only [AI.pre] at hp
  split at hp
  · rename_i kk n hn
    rw [hn] at e2
    have e2':=rep_val e2
    split at hp
    · rename_i k' cs hsl
      obtain ⟨rfl,h0,hlt⟩:=hp
      obtain ⟨base,len,cap,hv,_,hl,hm,hcase⟩:=sl_cells S.good S.hp e1 hsl
      rcases hcase with h00 | ⟨b,off,rfl,hr,hbl⟩
      · omega
      · have hn':n<(len:Int):=by
          have:n.toNat<len:=by
            rw [hl] at hlt;exact Nat.lt_of_mul_lt_mul_right hlt
          omega
        refine Ex1.still S (v:=.pointer (some ⟨b,off+n.toNat * k',none⟩)) ?_ ?_
        · simp [execOp,ho,hv,e2',Instr.indexAt,asIntOf,underlying,hu,h0,hn',sizeOf,typeInfo,hi,hsz,addr_add]
        · simp only [AI.out,hn]
          cases hA:σ.ev y1 with
          | ro nm k2 cs2 =>
            rw [hA] at hsl e1
            simp only [St.sl,Option.some.injEq,Prod.mk.injEq] at hsl
            obtain ⟨rfl,rfl⟩:=hsl
            simp only [Rep] at e1 ⊢
            obtain ⟨base',len',cap',hv',_,_,_,_,hcase'⟩:=e1
            rw [hv] at hv'
            simp only [Value.slice.injEq] at hv'
            obtain ⟨rfl,rfl,rfl⟩:=hv'
            rcases hcase' with h00 | ⟨b',off',hb',hi',hr'⟩
            · omega
            · simp only [Option.some.injEq,Addr.mk.injEq] at hb'
              obtain ⟨rfl,rfl,-⟩:=hb'
              exact ⟨_,_,rfl,hi',hr'⟩
          | own r v' =>
            rw [hA] at e1
            simp only [Rep] at e1 ⊢
            refine ⟨e1.1,fun hver=>?_⟩
            rw [e1.2 hver] at hv
            exact ⟨b,off,by rw [hv];rfl,rfl⟩
          | _=>rw [hA] at hsl;simp [St.sl] at hsl
    · exact hp.elim
  · exact hp.elim
theorem div_len {n k:Nat} {l:Nat} (h:l=n * k) (hk:0<k):l / k=n:=by subst h;exact Nat.mul_div_cancel _ hk
theorem ex_len {t e:TypeId} {x1:Operand} {y1:AOpd} {args:Array Operand} {ts:Array TypeId} (S:Sim w0 outs N σ a c) (ho:o.op=.call { callee:=.builtin .len,args:=args,argTypes:=ts }) (ha:args.toList=[x1]) (hts:ts.toList=[t])
    (ht:P.underlying t=some (.slice e)) (h1:cOpd x1=some y1) (hp:AI.pre σ (o.dst.getD 0) (.len y1)) :
    Ex1 P w0 outs o a c σ.hp (AI.out σ ver (o.dst.getD 0) (.len y1)) ver∧AI.fact σ (.len y1):=by
  have e1:=S.ev h1
  have ha':args=#[x1]:=by cases args;simp at ha;simp [ha]
  have hts':ts=#[t]:=by cases ts;simp at hts;simp [hts]
  subst ha' hts'
  have run:∀ (b:Option Addr) (n m:Nat),a.eval x1=.slice b n m→(execOp a.eval o).run P c.w=.ok (.value (.int .i64 n)) c.w:=by
    intro b n m hv
    simp [execOp,ho,resolve,invoke,builtin,Builtin.len_,underlying,ht,hv,goInt]
  by_cases hnil:σ.ev y1=.val (.slice none 0 0)
  · rw [hnil] at e1
    have e1':=rep_val e1
    refine ⟨Ex1.still S (run _ _ _ e1') ?_,?_⟩
    · simp only [AI.out,hnil];exact yzy
    · simp [AI.fact,hnil,St.sl]
  · have hsl:(σ.sl (σ.ev y1)).isSome=true:=by
      simp only [AI.pre] at hp
      exact hp
    obtain ⟨⟨k,cs⟩,hsl⟩:=Option.isSome_iff_exists.1 hsl
    obtain ⟨base,len,cap,hv,hk,hl,hm,_⟩:=sl_cells S.good S.hp e1 hsl
    have hout:AI.out σ ver (o.dst.getD 0) (.len y1)=.val (.int .i64 (len:Int)):=by
      simp only [AI.out,hsl,div_len hl hk]
    refine ⟨Ex1.still S (run _ _ _ hv) ?_,?_⟩
    · rw [hout];exact yzy
    · simp only [AI.fact,hsl,div_len hl hk];exact Nat.le_trans hm.1 hm.2
theorem ex_lens {t:TypeId} {x1:Operand} {y1:AOpd} {args:Array Operand} {ts:Array TypeId} (S:Sim w0 outs N σ a c) (ho:o.op=.call { callee:=.builtin .len,args:=args,argTypes:=ts }) (ha:args.toList=[x1]) (hts:ts.toList=[t])
    (ht:P.underlying t=some .string) (h1:cOpd x1=some y1) (hp:AI.pre σ (o.dst.getD 0) (.lens y1)) :
    Ex1 P w0 outs o a c σ.hp (AI.out σ ver (o.dst.getD 0) (.lens y1)) ver:=by
  have e1:=S.ev h1
  have ha':args=#[x1]:=by cases args;simp at ha;simp [ha]
  have hts':ts=#[t]:=by cases ts;simp at hts;simp [hts]
  subst ha' hts'
  simp only [AI.pre] at hp
  split at hp
  · rename_i s hu
    rw [hu] at e1
    have e1':=rep_val e1
    refine Ex1.still S (v:=.int .i64 s.size) ?_ ?_
    · simp [execOp,ho,resolve,invoke,builtin,Builtin.len_,underlying,ht,e1',goInt]
    · simp only [AI.out,hu];exact yzy
  · exact hp.elim
theorem map_cells (G:Good w0 outs c) (hc:c.hp=σ.hp) {A:AVal} {v:Value} (h:Rep c A v) {ks:List Value} {vs:List AVal} (hat:σ.mapAt A=some (ks,vs)) :
    ∃ b clock,∃ ents:Array MapEntry,v=.map (some b)∧c.w.heap[b]?=some (.map ents clock)∧ents.toList.map (·.key)=ks∧RepL c vs (ents.toList.map (·.val)):=by
  cases A with
  | mp r v' =>
    simp only [St.mapAt] at hat
    simp only [Rep] at h
    rw [← hc] at hat
    have hO:=G.obj r
    split at hat
    · rename_i ver' ks' vs' hr
      split at hat
      · rename_i e
        simp only [Option.some.injEq,Prod.mk.injEq] at hat
        obtain ⟨rfl,rfl⟩:=hat
        subst e
        rw [hr] at hO h
        obtain ⟨b,clock,ents,hl,hb,hk,hv⟩:=hO
        exact ⟨b,clock,ents,(h.2 rfl).trans hl,hb,hk.1,hv⟩
      · cases hat
    · cases hat
  | _=>simp [St.mapAt] at hat
theorem ex_lenm {t k e:TypeId} {x1:Operand} {y1:AOpd} {args:Array Operand} {ts:Array TypeId} (S:Sim w0 outs N σ a c) (ho:o.op=.call { callee:=.builtin .len,args:=args,argTypes:=ts }) (ha:args.toList=[x1]) (hts:ts.toList=[t])
    (ht:P.underlying t=some (.map k e)) (h1:cOpd x1=some y1) (hp:AI.pre σ (o.dst.getD 0) (.lenm y1)) :
    Ex1 P w0 outs o a c σ.hp (AI.out σ ver (o.dst.getD 0) (.lenm y1)) ver:=by
  have e1:=S.ev h1
  have ha':args=#[x1]:=by cases args;simp at ha;simp [ha]
  have hts':ts=#[t]:=by cases ts;simp at hts;simp [hts]
  subst ha' hts'
  obtain ⟨⟨ks,vs⟩,hat⟩:=Option.isSome_iff_exists.1 hp
  obtain ⟨b,clock,ents,hv,hb,hk,_⟩:=map_cells S.good S.hp e1 hat
  refine Ex1.still S (v:=.int .i64 ks.length) ?_ ?_
  · have:(getObj b).run P c.w=.ok (.map ents clock) c.w:=by simp [getObj,Sem.run,hb]
    simp [execOp,ho,resolve,invoke,builtin,Builtin.len_,underlying,ht,hv,goInt,this,← hk]
  · simp only [AI.out,hat];exact yzy
theorem run_equalIn_sl {t e:TypeId} (ht:P.underlying t=some (.slice e)) (d:Nat) (b:Option Addr) (n m:Nat) (w:World) :
    (Op.equalIn (d+1) t (.slice b n m) (.slice none 0 0)).run P w=.ok b.isNone w:=by
  cases b <;> simp [Op.equalIn,underlying,ht]
theorem ex_isnil {op:BinOp} {t t' e:TypeId} {x1 x2:Operand} {y1:AOpd} (neg:Bool) (S:Sim w0 outs N σ a c) (ho:o.op=.binOp op t x1 x2 t') (hop:op=if neg then .neq else .eql)
    (ht:P.underlying t=some (.slice e)) (h1:cOpd x1=some y1) (h2:x2=.const (.slice none 0 0))
    (hp:AI.pre σ (o.dst.getD 0) (.isnil neg y1)):Ex1 P w0 outs o a c σ.hp (AI.out σ ver (o.dst.getD 0) (.isnil neg y1)) ver:=by
  have e1:=S.ev h1
  subst h2
  have run:∀ (b:Option Addr) (n m:Nat),a.eval x1=.slice b n m→(execOp a.eval o).run P c.w=.ok (.value (.bool (if neg then !b.isNone else b.isNone))) c.w:=by
    intro b n m hv
    have he:(Op.equal t (.slice b n m) (.slice none 0 0)).run P c.w=.ok b.isNone c.w:=run_equalIn_sl ht 9999 b n m c.w
    have hn:a.eval (.const (.slice none 0 0))=.slice none 0 0:=rfl
    cases neg <;> subst hop <;> simp [execOp,ho,hv,hn,eqGuard,binOp,he]
  simp only [AI.pre] at hp
  split at hp
  · rename_i hu
    rw [hu] at e1
    have e1':=rep_val e1
    refine Ex1.still S (run _ _ _ e1') ?_
    simp only [AI.out,hu];cases neg <;> exact yzy
  · rename_i nm k cs hu
    rw [hu] at e1
    simp only [Rep] at e1
    obtain ⟨base,len,cap,hv,_,_,_,hnm,hcase⟩:=e1
    have hb:base≠none:=by
      rcases hp with h | h
      · cases hn:nm with
        | none=>rw [hn] at h;cases h
        | some n=>exact (hnm n hn).1 h
      · rcases hcase with h0 | ⟨b,off,rfl,_⟩
        · omega
        · simp
    obtain ⟨b,rfl⟩:=Option.ne_none_iff_exists'.1 hb
    refine Ex1.still S (run _ _ _ hv) ?_
    simp only [AI.out,hu];cases neg <;> exact yzy
  · rename_i r v hu
    rw [hu] at e1
    simp only [Rep] at e1
    obtain ⟨k,cs,hr⟩:=hp
    rw [← S.hp] at hr
    have hO:=S.good.obj r
    rw [hr] at hO e1
    obtain ⟨base,n,cap,hl,_,_,_,_,hnn,_⟩:=hO
    obtain ⟨b,rfl⟩:=Option.ne_none_iff_exists'.1 (hnn rfl)
    refine Ex1.still S (run _ _ _ ((e1.2 rfl).trans hl)) ?_
    simp only [AI.out,hu];cases neg <;> exact yzy
  · exact hp.elim
theorem run_equalIn_ptr {t e:TypeId} (ht:P.underlying t=some (.pointer e)) (d:Nat) (b:Option Addr) (w:World) :
    (Op.equalIn (d+1) t (.pointer b) (.pointer none)).run P w=.ok b.isNone w:=by
  cases b <;> simp [Op.equalIn,underlying,ht]
theorem ex_isnilp {op:BinOp} {t t' e:TypeId} {x1 x2:Operand} {y1:AOpd} (neg:Bool) (S:Sim w0 outs N σ a c) (ho:o.op=.binOp op t x1 x2 t') (hop:op=if neg then .neq else .eql)
    (ht:P.underlying t=some (.pointer e)) (h1:cOpd x1=some y1) (h2:x2=.const (.pointer none))
    (hp:AI.pre σ (o.dst.getD 0) (.isnilp neg y1)):Ex1 P w0 outs o a c σ.hp (AI.out σ ver (o.dst.getD 0) (.isnilp neg y1)) ver:=by
  have e1:=S.ev h1
  subst h2
  have run:∀ (b:Option Addr),a.eval x1=.pointer b→(execOp a.eval o).run P c.w=.ok (.value (.bool (if neg then !b.isNone else b.isNone))) c.w:=by
    intro b hv
    have he:(Op.equal t (.pointer b) (.pointer none)).run P c.w=.ok b.isNone c.w:=run_equalIn_ptr ht 9999 b c.w
    have hn:a.eval (.const (.pointer none))=.pointer none:=rfl
    cases neg <;> subst hop <;> simp [execOp,ho,hv,hn,eqGuard,binOp,he]
  simp only [AI.pre] at hp
  split at hp
  · rename_i hu
    rw [hu] at e1
    have e1':=rep_val e1
    refine Ex1.still S (run _ e1') ?_
    simp only [AI.out,hu];cases neg <;> exact yzy
  · rename_i r v off hu
    rw [hu] at e1
    simp only [Rep] at e1
    rw [← S.hp] at hp
    obtain ⟨b,p,_,hv⟩:=e1.2 hp
    refine Ex1.still S (run _ hv) ?_
    simp only [AI.out,hu];cases neg <;> exact yzy
  · rename_i cs off hu
    rw [hu] at e1
    simp only [Rep] at e1
    obtain ⟨b,p,hv,_⟩:=e1
    refine Ex1.still S (run _ hv) ?_
    simp only [AI.out,hu];cases neg <;> exact yzy
  · exact hp.elim
theorem bound_spec (S:Sim w0 outs N σ a c) {n:Nat} {x:Option Operand} {y:Option AOpd} (hx:cBound x=some y) {l:Nat} (hl:σ.bound n y=some l) :
    (x=none∧l=n)∨∃ x' kk,x=some x'∧a.eval x'=.int kk (l:Int):=by
  cases x with
  | none=>simp only [cBound,Option.some.injEq] at hx;subst hx;simp only [St.bound,Option.some.injEq] at hl;exact .inl ⟨rfl,hl.symm⟩
  | some x' =>
    simp only [cBound,Option.map_eq_some_iff] at hx
    obtain ⟨y',hy,rfl⟩:=hx
    have e1:=S.ev hy
    simp only [St.bound] at hl
    split at hl
    · rename_i kk i hu
      rw [hu] at e1
      have e1':=rep_val e1
      split at hl
      · rename_i h0
        simp only [Option.some.injEq] at hl
        subst hl
        exact .inr ⟨x',kk,rfl,by rw [e1',Int.toNat_of_nonneg h0]⟩
      · cases hl
    · cases hl
theorem run_bounds {isSl:Bool} {len cap l h:Nat} {lo hi:Option Operand} (hlo:(lo=none∧l=0)∨∃ x' kk,lo=some x'∧a.eval x'=.int kk (l:Int))
    (hhi:(hi=none∧h=len)∨∃ x' kk,hi=some x'∧a.eval x'=.int kk (h:Int)) (h1:l≤h) (h2:h≤cap) (w:World) :
    (Instr.sliceBounds isSl len cap (lo.map a.eval) (hi.map a.eval) none).run P w=.ok (l,h,cap) w:=by
  have sb:∀ (kk:IntKind) (m y:Nat) (code:BoundsCode),m≤y→(Instr.sliceBound (.int kk (m:Int)) y code).run P w=.ok m w:=by
    intro kk m y code hm
    have:(0:Int)≤(m:Int)∧(m:Int)≤(y:Int):=⟨by omega,by omega⟩
    simp [Instr.sliceBound,asIntOf,hm]
  rcases hlo with ⟨rfl,rfl⟩ | ⟨x1,k1,rfl,e1⟩ <;> rcases hhi with ⟨rfl,rfl⟩ | ⟨x2,k2,rfl,e2⟩ <;> simp [Instr.sliceBounds, *]
theorem ex_sls {t:TypeId} {x1:Operand} {lo hi:Option Operand} {y1:AOpd} {l h:Option AOpd} (S:Sim w0 outs N σ a c) (ho:o.op=.slice t x1 lo hi none) (ht:P.underlying t=some .string)
    (h1:cOpd x1=some y1) (h2:cBound lo=some l) (h3:cBound hi=some h)
    (hp:AI.pre σ (o.dst.getD 0) (.sls y1 l h)):Ex1 P w0 outs o a c σ.hp (AI.out σ ver (o.dst.getD 0) (.sls y1 l h)) ver:=by
  have e1:=S.ev h1
  simp only [AI.pre] at hp
  split at hp
  · rename_i s hu
    rw [hu] at e1
    have e1':=rep_val e1
    split at hp
    · rename_i l' h' hl hh
      have b1:=bound_spec S h2 hl
      have b2:=bound_spec S h3 hh
      have hr:=run_bounds (P:=P) (isSl:=false) (cap:=s.size) b1 b2 hp.1 hp.2 c.w
      refine Ex1.still S (v:=.string (s.extract l' h')) ?_ ?_
      · simp only [execOp,ho,Option.map_none]
        simp [Instr.sliceAt,underlying,ht,e1',Instr.slice,hr]
      · simp only [AI.out,hu,hl,hh];exact yzy
    · exact hp.elim
  · exact hp.elim
end
end Go.Ab
