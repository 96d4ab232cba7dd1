/- Contracts and what they lean on, part 3. Conditions: none. -/
import Derived.Orders
import Derived.Maps.RangeRun
import Derived.Test.YtmmpllmppgelgaaDoorZ2
set_option maxRecDepth 100000
set_option maxHeartbeats 4000000
set_option linter.all false
open Nat renaming reduceLeDiff → xx0, reduceMul → xx1, reduceSub → xx2, reduceEqDiff → xx3, reduceAdd → xx4, reduceLT → xx5
open Int renaming reduceToNat → xx6, reduceNeg → xx7, reduceLE → xx8, reduceLT → xx9
namespace Go.Ab
def outHp (outs rows:List AObj):Nat→AObj:=fun n =>
  if n<5000 then .gone else if n<6000 then outs.getD (n - 5000) .gone else if n<7000 then rows.getD (n - 6000) .gone else .gone
def Con (P:Program) (g:FuncId) (ins:List AObj) (args:List AVal) (sh:Bool) (R:List AObj→List AObj→AVal→Prop):Prop :=
  (∃ fn,P.funcs[g]?=some fn∧fn.body.isSome=true∧isNumG fn=false)∧∀ (c0:Cz) (outsB:Nat→Prop) (vs:List Value),Good c0.w outsB c0→c0.hp=outHp ins []→RepL c0 args vs →
    Calls P g vs.toArray c0.w fun e w'=>∃ v c1 outs rows res,R outs rows res∧e=.returned v∧c1.w=w'∧Good c0.w outsB c1∧c1.hp=outHp outs rows∧Rep c1 res v ∧
      (∀ b,c1.ext b→(sh=true∧c0.ext b)∨outsB b)∧(∀ b,c1.old b→c0.old b)∧(∀ r v,c0.used v→(c1.hp r).ver=some v→(c0.hp r).ver=some v∧c1.loc r=c0.loc r)∧(∀ v,c0.used v→c1.used v)
mutual
def Coe (hp:Nat→AObj) (m:List Nat) (len:Bool):AVal→AVal→Prop
  | .any,_=>True
  | .val x,A=>A=.val x
  | .ro nm k cs,A=>(nm=none∨(nm=some (some 0)∧(cs=[]∨∃ k' cs',A=.ro (some (some 0)) k' cs'))∨(nm=some none∧cs=[]∧((∃ nm' k' cs',A=.ro nm' k' cs'∧isNew nm'=true)∨∃ r v k' cs',A=.own r v∧hp r=.row v k' true cs')))∧0<k∧((∃ nm' cs',A=.ro nm' k cs'∧CoeL hp m len cs cs')∨(A=.val (.slice none 0 0)∧cs=[])∨(len=true∧∃ r v nn cs',A=.own r v∧r ∉ m∧hp r=.row v k nn cs'∧CoeL hp m len cs cs'))
  | .own r v,A=>∃ j r' v',r=5000+j∧v=j∧m[j]?=some r'∧A=.own r' v'∧(hp r').ver=some v'
  | .st cs,A=>(∃ cs',A=.st cs'∧CoeL hp m len cs cs')∨(∃ vs:Array Value,A=.val (.agg vs)∧CoeL hp m len cs (vs.toList.map .val))
  | .tup _,_=>False
  | .ptr r v off,A=>∃ j r' v',r=5000+j∧v=j∧m[j]?=some r'∧A=.ptr r' v' off∧(hp r').ver=some v'
  | .rp cs off,A=>(∃ cs',A=.rp cs' off∧CoeL hp m len cs cs')∨(len=true∧∃ r v cs',A=.ptr r v off∧r ∉ m∧hp r=.box v cs'∧CoeL hp m len cs cs')
  | .mp r v,A=>∃ j r' v',r=5000+j∧v=j∧m[j]?=some r'∧A=.mp r' v'∧(hp r').ver=some v'
  | .clo f caps,A=>∃ caps',A=.clo f caps'∧CoeL hp m len caps caps'
def CoeL (hp:Nat→AObj) (m:List Nat) (len:Bool):List AVal→List AVal→Prop
  | [],As=>As=[]
  | B :: Bs,As=>∃ A As',As=A :: As'∧Coe hp m len B A∧CoeL hp m len Bs As'
end
theorem CoeL.length {hp:Nat→AObj} {m:List Nat} {len:Bool}:∀ (Bs As:List AVal),CoeL hp m len Bs As→Bs.length=As.length
  | [],As,h=>by simp only [CoeL] at h;subst h;rfl
  | B :: Bs,As,h=>by
    simp only [CoeL] at h
    obtain ⟨A,As',rfl,_,h2⟩:=h
    simp [CoeL.length Bs As' h2]
def ObjCoe (hp:Nat→AObj) (m:List Nat) (len:Bool) (j:Nat):AObj→AObj→Prop
  | .box v cs,A=>v=j∧∃ v' cs',A=.box v' cs'∧CoeL hp m len cs cs'
  | .row v k nn cs,A=>v=j∧∃ v' cs',A=.row v' k nn cs'∧CoeL hp m len cs cs'
  | .map v ks vs,A=>v=j∧∃ v' vs',A=.map v' ks vs'∧CoeL hp m len vs vs'
  | .it _ _,_=>False
  | .gone,_=>False
def lentB (c:Cz) (m:List Nat) (b:Nat):Prop:=∃ r,r∈m∧blockOf (c.loc r)=some b
def Cz.entry (c:Cz) (m:List Nat) (ins:List AObj) (len:Bool):Cz :=
  { w:=c.w,base:=c.w.heap.size,ext:=fun b=>c.imm b∨(len=true∧c.taken b)∨lentB c m b,hp:=outHp ins [],
    loc:=fun n=>c.loc (m.getD (n - 5000) 0),names:=fun _=>none,used:=fun v=>v<ins.length,old:=c.old }
theorem outHp_live {outs rows:List AObj} {n:Nat} (h:outHp outs rows n≠.gone):(∃ j,n=5000+j∧j<1000∧j<outs.length∧outHp outs rows n=outs.getD j .gone)∨(∃ i,n=6000+i∧i<1000∧i<rows.length∧outHp outs rows n=rows.getD i .gone):=by
  have e:outHp outs rows n=if n<5000 then .gone else if n<6000 then outs.getD (n - 5000) .gone else if n<7000 then rows.getD (n - 6000) .gone else .gone:=rfl
  have nn:∀ (l:List AObj) (q:Nat),l.getD q .gone≠.gone→q<l.length:=by
    intro l q hq
    rcases Nat.lt_or_ge q l.length with h3 | h3
    · exact h3
    · rw [List.getD_eq_getElem?_getD,List.getElem?_eq_none h3] at hq
      exact absurd rfl hq
  by_cases h1:n<5000
  · rw [e,if_pos h1] at h;exact absurd rfl h
  · rw [if_neg h1] at e
    by_cases h2:n<6000
    · rw [if_pos h2] at e
      rw [e] at h
      have h3:=nn _ _ h
      obtain ⟨j,hj⟩:∃ j,j=n - 5000:=⟨_,rfl⟩
      rw [← hj] at e h3
      exact .inl ⟨j,by omega,by omega,h3,e⟩
    · rw [if_neg h2] at e
      by_cases h3:n<7000
      · rw [if_pos h3] at e
        rw [e] at h
        have h4:=nn _ _ h
        obtain ⟨j,hj⟩:∃ j,j=n - 6000:=⟨_,rfl⟩
        rw [← hj] at e h4
        exact .inr ⟨j,by omega,by omega,h4,e⟩
      · rw [if_neg h3] at e;exact absurd e h
section
variable {w0:World} {outs:Nat→Prop} {c:Cz} {m:List Nat} {ins:List AObj} {len:Bool}
structure Handed (hp:Nat→AObj) (m:List Nat) (ins:List AObj) (len:Bool):Prop where
  short:ins.length≤1000
  length:ins.length=m.length
  nodup:m.Nodup
  live:∀ r∈m,hp r≠.gone
  objs:∀ (j:Nat) (B:AObj) (r:Nat),ins[j]?=some B→m[j]?=some r→ObjCoe hp m len j B (hp r)
theorem entry_live (H:Handed c.hp m ins len) {n:Nat} (h:(c.entry m ins len).hp n≠.gone):∃ j B r,n=5000+j∧ins[j]?=some B∧m[j]?=some r∧(c.entry m ins len).hp n=B∧(c.entry m ins len).loc n=c.loc r:=by
  rcases outHp_live h with ⟨j,rfl,_,hj,he⟩ | ⟨i,rfl,_,hi,_⟩
  · have hjm:j<m.length:=by rw [← H.length];exact hj
    refine ⟨j,ins[j],m[j],rfl,List.getElem?_eq_getElem hj,List.getElem?_eq_getElem hjm,?_,?_⟩
    · show outHp ins [] (5000+j)=_
      rw [he];simp [List.getD_eq_getElem?_getD,hj]
    · show c.loc (m.getD (5000+j - 5000) 0)=_
      have:5000+j - 5000=j:=by omega
      rw [this];simp [List.getD_eq_getElem?_getD,hjm]
  · simp at hi
theorem entry_taken (H:Handed c.hp m ins len) {b:Nat} (h:(c.entry m ins len).taken b):∃ r,r∈m∧c.hp r≠.gone∧blockOf (c.loc r)=some b:=by
  obtain ⟨n,h1,h2⟩:=h
  obtain ⟨j,B,r,rfl,_,hr,_,hl⟩:=entry_live H h1
  rw [hl] at h2
  have hm:r∈m:=List.mem_of_getElem? hr
  exact ⟨r,hm,H.live r hm,h2⟩
theorem entry_imm (H:Handed c.hp m ins len) {b:Nat} (h:c.imm b):(c.entry m ins len).imm b:=by
  refine ⟨.inl (.inl h),h.2.1,fun ht=>?_⟩
  obtain ⟨r,_,h1,h2⟩:=entry_taken H ht
  exact h.2.2 ⟨r,h1,h2⟩
theorem entry_lent (G:Good w0 outs c) (H:Handed c.hp m ins len) (hl:len=true) {r b:Nat} (hr:c.hp r≠.gone) (hm:r ∉ m) (hb:blockOf (c.loc r)=some b):(c.entry m ins len).imm b:=by
  refine ⟨.inl (.inr (.inl ⟨hl,r,hr,hb⟩)),(G.obj r).lt hr hb,fun ht=>?_⟩
  obtain ⟨r',h1,h2,h3⟩:=entry_taken H ht
  exact hm (G.inj r r' b hr h2 hb h3 ▸ h1)
mutual
theorem Coe.rep (G:Good w0 outs c) (H:Handed c.hp m ins len):∀ (B A:AVal) (v:Value),Coe c.hp m len B A→Rep c A v→Rep (c.entry m ins len) B v
  | .any,_,_,_,_=>by simp [Rep]
  | .val x,A,v,h,hr=>by
    simp only [Coe] at h;subst h;simpa [Rep] using hr
  | .ro nm k cs,A,v,h,hr=>by
    simp only [Coe] at h
    obtain ⟨hnm,hk,h⟩:=h
    have key:∀ (base:Option Addr) (n cap:Nat),v=.slice base n cap→∀ x,nm=some x→(isNew nm=true→base≠none)∧(cs.length=0∨∃ b off,base=some ⟨b,off,none⟩∧(c.entry m ins len).nmd x b (off+cap * k)):=by
      intro base n cap hv x e
      rcases hnm with h0 | ⟨h0,h2⟩ | ⟨_,h1,h2⟩
      · rw [h0] at e;cases e
      · rw [h0] at e;cases e
        refine ⟨fun h=>(by rw [h0] at h;cases h),?_⟩
        rcases h2 with h2 | ⟨k',cs',rfl⟩
        · left;rw [h2];rfl
        · rcases h with h | ⟨h,_⟩ | ⟨_,_,_,_,_,h,_⟩
          · obtain ⟨nm',cs'',e2,hc⟩:=h
            simp only [AVal.ro.injEq] at e2
            obtain ⟨_,_,rfl⟩:=e2
            simp only [Rep] at hr
            obtain ⟨base',n',cap',hv',_,_,_,h4,_⟩:=hr
            rw [hv] at hv'
            simp only [Value.slice.injEq] at hv'
            obtain ⟨rfl,_,_⟩:=hv'
            rcases (h4 _ rfl).2 with h5 | ⟨b,off,hb,ho⟩
            · left;rw [CoeL.length cs cs' hc];exact h5
            · exact .inr ⟨b,off,hb,ho⟩
          · cases h
          · cases h
      · refine ⟨fun _=>?_,.inl (by rw [h1];rfl)⟩
        rcases h2 with ⟨nm',k',cs',rfl,h3⟩ | ⟨r,v',k',cs',rfl,h3⟩
        · simp only [Rep] at hr
          obtain ⟨base',n',cap',hv',_,_,_,h4,_⟩:=hr
          rw [hv] at hv'
          simp only [Value.slice.injEq] at hv'
          rw [hv'.1]
          cases hn':nm' with
          | none=>rw [hn'] at h3;cases h3
          | some y=>exact (h4 y hn').1 h3
        · simp only [Rep] at hr
          have hO:=G.obj r
          rw [h3] at hO hr
          obtain ⟨base',n',cap',hl',_,_,_,_,h4,_⟩:=hO
          have:=hr.2 rfl
          rw [hv,hl'] at this
          simp only [Value.slice.injEq] at this
          rw [this.1];exact h4 rfl
    rcases h with h | ⟨rfl,rfl⟩ | ⟨hl,r,ver,nn,cs',rfl,hm,hrow,hc⟩
    · obtain ⟨nm',cs',rfl,hc⟩:=h
      have hr0:=hr
      simp only [Rep] at hr ⊢
      obtain ⟨base,n,cap,hv,_,hlen,hb,_,hcase⟩:=hr
      refine ⟨base,n,cap,hv,hk,by rw [CoeL.length cs cs' hc];exact hlen,hb,key base n cap hv,?_⟩
      rcases hcase with h0 | ⟨b,off,hbase,hi,hat⟩
      · left;rw [CoeL.length cs cs' hc];exact h0
      · exact .inr ⟨b,off,hbase,entry_imm H hi,CoeL.repAt G H cs cs' off hc hat⟩
    · simp only [Rep] at hr ⊢
      refine ⟨none,0,0,hr,hk,by simp,⟨Nat.le_refl _,by simp⟩,?_,.inl rfl⟩
      rcases hnm with h0 | ⟨h0,_⟩ | ⟨_,_,⟨nm',k',cs',e,_⟩ | ⟨r,v',k',cs',e,_⟩⟩
      · intro n e;rw [h0] at e;cases e
      · intro n e;rw [h0];exact ⟨fun h=>(by cases h),.inl rfl⟩
      · cases e
      · cases e
    · have key':=key
      simp only [Rep] at hr ⊢
      have hO:=G.obj r
      rw [hrow] at hO hr
      have hv:=hr.2 rfl
      obtain ⟨base,n,cap,hloc,_,hlen,hnc,hcm,_,hcase⟩:=hO
      refine ⟨base,n,cap,hv.trans hloc,hk,by rw [CoeL.length cs cs' hc];exact hlen,⟨hnc,hcm⟩,key' base n cap (hv.trans hloc),?_⟩
      rcases hcase with h0 | ⟨g,off,t,cells,rfl,hg,hfit,hrep⟩
      · left
        have:n=0:=by omega
        rw [CoeL.length cs cs' hc,hlen,this];simp
      · by_cases h0:cap=0
        · left
          have:n=0:=by omega
          rw [CoeL.length cs cs' hc,hlen,this];simp
        · have hat:RepAt c g off cs':=RepAt.of_row hg (by rw [hlen];exact hrep)
          exact .inr ⟨g,off,rfl,entry_lent G H hl (by rw [hrow];simp) hm (by rw [hloc];simp [blockOf,h0]),CoeL.repAt G H cs cs' off hc hat⟩
  | .own r ver,A,v,h,hr=>by
    simp only [Coe] at h
    obtain ⟨j,r',v',rfl,hj,hm,rfl,hver⟩:=h
    obtain rfl:j=ver:=hj.symm
    simp only [Rep] at hr ⊢
    have hjm:j<m.length:=(List.getElem?_eq_some_iff.1 hm).1
    refine ⟨show j<ins.length by rw [H.length];exact hjm,fun _=>?_⟩
    rw [hr.2 hver]
    show c.loc r'=c.loc (m.getD (5000+j - 5000) 0)
    have:5000+j - 5000=j:=by omega
    rw [this,List.getD_eq_getElem?_getD,hm];rfl
  | .st cs,A,v,h,hr=>by
    simp only [Coe] at h
    rcases h with ⟨cs',rfl,hc⟩ | ⟨vs,rfl,hc⟩
    · simp only [Rep] at hr ⊢
      obtain ⟨vs,hv,hl⟩:=hr
      exact ⟨vs,hv,CoeL.repL G H cs cs' vs.toList hc hl⟩
    · simp only [Rep] at hr ⊢
      exact ⟨vs,hr,CoeL.repL G H cs _ vs.toList hc (repL_vals _)⟩
  | .tup _,_,_,h,_=>by simp [Coe] at h
  | .ptr r ver off,A,v,h,hr=>by
    simp only [Coe] at h
    obtain ⟨j,r',v',rfl,hj,hm,rfl,hver⟩:=h
    obtain rfl:j=ver:=hj.symm
    simp only [Rep] at hr ⊢
    have hjm:j<m.length:=(List.getElem?_eq_some_iff.1 hm).1
    refine ⟨show j<ins.length by rw [H.length];exact hjm,fun _=>?_⟩
    have hloc:(c.entry m ins len).loc (5000+j)=c.loc r':=by
      show c.loc (m.getD (5000+j - 5000) 0)=c.loc r'
      have:5000+j - 5000=j:=by omega
      rw [this,List.getD_eq_getElem?_getD,hm];rfl
    rw [hloc];exact hr.2 hver
  | .rp cs off,A,v,h,hr=>by
    simp only [Coe] at h
    rcases h with ⟨cs',rfl,hc⟩ | ⟨hl,r,ver,cs',rfl,hm,hbox,hc⟩
    · simp only [Rep] at hr ⊢
      obtain ⟨b,o,hv,hi,hat⟩:=hr
      exact ⟨b,o,hv,entry_imm H hi,CoeL.repAt G H cs cs' o hc hat⟩
    · simp only [Rep] at hr ⊢
      have hO:=G.obj r
      rw [hbox] at hO hr
      obtain ⟨b,o,hb,hv⟩:=hr.2 rfl
      obtain ⟨g,t,cells,hloc,hg,hrep⟩:=hO
      rw [hloc] at hb
      simp only [baseOf,Option.some.injEq,Addr.mk.injEq] at hb
      obtain ⟨rfl,rfl,-⟩:=hb
      refine ⟨g,0,hv,entry_lent G H hl (by rw [hbox];simp) hm (by rw [hloc];rfl),CoeL.repAt G H cs cs' 0 hc (RepAt.of_row hg ?_)⟩
      rw [hrep.length,List.drop_zero,List.take_of_length_le (Nat.le_refl _)];exact hrep
  | .mp r ver,A,v,h,hr=>by
    simp only [Coe] at h
    obtain ⟨j,r',v',rfl,hj,hm,rfl,hver⟩:=h
    obtain rfl:j=ver:=hj.symm
    simp only [Rep] at hr ⊢
    have hjm:j<m.length:=(List.getElem?_eq_some_iff.1 hm).1
    refine ⟨show j<ins.length by rw [H.length];exact hjm,fun _=>?_⟩
    rw [hr.2 hver]
    show c.loc r'=c.loc (m.getD (5000+j - 5000) 0)
    have:5000+j - 5000=j:=by omega
    rw [this,List.getD_eq_getElem?_getD,hm];rfl
  | .clo f caps,A,v,h,hr=>by
    simp only [Coe] at h
    obtain ⟨caps',rfl,hc⟩:=h
    simp only [Rep] at hr ⊢
    obtain ⟨vs,hv,hl⟩:=hr
    exact ⟨vs,hv,CoeL.repL G H caps caps' vs.toList hc hl⟩
theorem CoeL.repAt (G:Good w0 outs c) (H:Handed c.hp m ins len) {b:Nat}:∀ (Bs As:List AVal) (off:Nat),CoeL c.hp m len Bs As→RepAt c b off As→RepAt (c.entry m ins len) b off Bs
  | [],As,off,_,_=>by simp [RepAt]
  | B :: Bs,As,off,h,hr=>by
    simp only [CoeL] at h
    obtain ⟨A,As',rfl,h1,h2⟩:=h
    simp only [RepAt] at hr ⊢
    obtain ⟨⟨v,hv,hrep⟩,ht⟩:=hr
    exact ⟨⟨v,hv,Coe.rep G H B A v h1 hrep⟩,CoeL.repAt G H Bs As' (off+1) h2 ht⟩
theorem CoeL.repL (G:Good w0 outs c) (H:Handed c.hp m ins len):∀ (Bs As:List AVal) (vs:List Value),CoeL c.hp m len Bs As→RepL c As vs→RepL (c.entry m ins len) Bs vs
  | [],As,vs,h,hr=>by
    simp only [CoeL] at h;subst h
    cases vs <;> simp_all [RepL]
  | B :: Bs,As,vs,h,hr=>by
    simp only [CoeL] at h
    obtain ⟨A,As',rfl,h1,h2⟩:=h
    cases vs with
    | nil=>simp [RepL] at hr
    | cons v vs =>
      simp only [RepL] at hr ⊢
      exact ⟨Coe.rep G H B A v h1 hr.1,CoeL.repL G H Bs As' vs h2 hr.2⟩
end
theorem entry_good (G:Good w0 outs c) (H:Handed c.hp m ins len):Good (c.entry m ins len).w (fun b=>lentB c m b) (c.entry m ins len):=by
  have hobj:∀ (j:Nat) (B:AObj) (r:Nat),ins[j]?=some B→m[j]?=some r→ObjRep (c.entry m ins len) (c.loc r) B:=by
    intro j B r hB hr
    have hO:=G.obj r
    have hco:=H.objs j B r hB hr
    cases B with
    | gone=>exact hco.elim
    | box v cs =>
      obtain ⟨_,v',cs',he,hc⟩:=hco
      rw [he] at hO
      obtain ⟨g,t,cells,hl,hg,hrep⟩:=hO
      exact ⟨g,t,cells,hl,hg,CoeL.repL G H _ _ _ hc hrep⟩
    | row v k nn cs =>
      obtain ⟨_,v',cs',he,hc⟩:=hco
      rw [he] at hO
      obtain ⟨base,n,cap,hl,hk,hlen,hnc,hcm,hnn,hcase⟩:=hO
      refine ⟨base,n,cap,hl,hk,by rw [CoeL.length _ _ hc];exact hlen,hnc,hcm,hnn,?_⟩
      rcases hcase with h0 | ⟨g,off,t,cells,hb,hg,hfit,hrep⟩
      · exact .inl h0
      · exact .inr ⟨g,off,t,cells,hb,hg,hfit,CoeL.repL G H _ _ _ hc hrep⟩
    | map v ks vs =>
      obtain ⟨_,v',vs',he,hc⟩:=hco
      rw [he] at hO
      obtain ⟨b,clock,ents,hl,hb,hks,hrep⟩:=hO
      exact ⟨b,clock,ents,hl,hb,hks,CoeL.repL G H _ _ _ hc hrep⟩
    | it v d=>exact hco.elim
  have hver:∀ (j:Nat) (B:AObj) (r:Nat),ins[j]?=some B→m[j]?=some r→B.ver=some j:=by
    intro j B r hB hr
    have hco:=H.objs j B r hB hr
    cases B with
    | gone=>exact hco.elim
    | box v cs=>rw [← hco.1];rfl
    | row v k nn cs=>rw [← hco.1];rfl
    | map v ks vs=>rw [← hco.1];rfl
    | it v d=>exact hco.elim
  have hold:∀ b,c.old b→b<c.w.heap.size:=fun b h=>Nat.lt_of_lt_of_le (G.base.2 b h) (by rw [G.base.1];exact G.size)
  refine ⟨⟨rfl,hold⟩,?_,?_,?_,?_,?_,?_,?_,?_,?_,rfl,⟨rfl,Nat.le_refl _⟩,rfl,Nat.le_refl _,fun _ _ _=>rfl⟩
  · intro n
    by_cases h:(c.entry m ins len).hp n=.gone
    · rw [h];trivial
    · obtain ⟨j,B,r,rfl,hB,hr,he,hl⟩:=entry_live H h
      rw [he,hl];exact hobj j B r hB hr
  · intro n1 n2 b h1 h2 h3 h4
    obtain ⟨j1,B1,r1,rfl,hB1,hr1,_,hl1⟩:=entry_live H h1
    obtain ⟨j2,B2,r2,rfl,hB2,hr2,_,hl2⟩:=entry_live H h2
    rw [hl1] at h3;rw [hl2] at h4
    have e:=G.inj r1 r2 b (H.live _ (List.mem_of_getElem? hr1)) (H.live _ (List.mem_of_getElem? hr2)) h3 h4
    subst e
    have e2:j1=j2:=by
      obtain ⟨p1,q1⟩:=List.getElem?_eq_some_iff.1 hr1
      obtain ⟨p2,q2⟩:=List.getElem?_eq_some_iff.1 hr2
      exact (List.getElem_inj H.nodup).1 (q1.trans q2.symm)
    rw [e2]
  · intro n b h1 h2
    obtain ⟨j,B,r,rfl,hB,hr,_,hl⟩:=entry_live H h1
    rw [hl] at h2
    exact .inr ⟨r,List.mem_of_getElem? hr,h2⟩
  · intro n v h
    obtain ⟨j,B,r,rfl,hB,hr,he,_⟩:=entry_live H (ver_ne_gone h)
    rw [he,hver j B r hB hr] at h
    simp only [Option.some.injEq] at h;subst h
    exact ⟨(List.getElem?_eq_some_iff.1 hB).1,rfl⟩
  · intro n1 n2 v h1 h2
    obtain ⟨j1,B1,r1,rfl,hB1,hr1,he1,_⟩:=entry_live H (ver_ne_gone h1)
    obtain ⟨j2,B2,r2,rfl,hB2,hr2,he2,_⟩:=entry_live H (ver_ne_gone h2)
    rw [he1,hver _ _ _ hB1 hr1] at h1
    rw [he2,hver _ _ _ hB2 hr2] at h2
    simp only [Option.some.injEq] at h1 h2
    rw [h1,h2]
  · intro b h
    refine ⟨.inr (.inr h),fun ho=>?_⟩
    obtain ⟨r,hr1,hr2⟩:=h
    rcases G.own r b (H.live r hr1) hr2 with h | h
    · have:=G.base.2 b ho;omega
    · exact (G.outExt b h).2 ho
  · intro n b h;cases h
  · intro n n' b h;cases h
  · exact ⟨ins.length,fun v h=>h⟩
end
end Go.Ab
namespace Go.Ab
def newId (d i:Nat):Nat:=d+1000 * i
def rid (m:List Nat) (d nr:Nat):Nat→Option Nat:=fun n =>
  if n<5000 then none else if n<6000 then m[n - 5000]? else if n<6000+nr then some (newId d (n - 6000)) else none
def sv (hp:Nat→AObj) (m:List Nat) (s:Nat→Nat):Nat→Nat:=fun v=>if v<m.length then ((hp (m.getD v 0)).ver).getD 0 else s v
open Classical in
noncomputable def callHp (hp:Nat→AObj) (m:List Nat) (d:Nat) (s:Nat→Nat) (outs rows:List AObj):Nat→AObj:=fun n =>
  if h:∃ q,rid m d rows.length q=some n then (outHp outs rows (Classical.choose h)).ren (rid m d rows.length) (sv hp m s) else hp n
theorem rid_cases {m:List Nat} {d nr q n:Nat} (h:rid m d nr q=some n):(∃ j,q=5000+j∧j<1000∧m[j]?=some n)∨(∃ i,q=6000+i∧i<nr∧n=newId d i):=by
  unfold rid at h
  by_cases h1:q<5000
  · rw [if_pos h1] at h;cases h
  · rw [if_neg h1] at h
    by_cases h2:q<6000
    · rw [if_pos h2] at h
      obtain ⟨j,hj⟩:∃ j,j=q - 5000:=⟨_,rfl⟩
      rw [← hj] at h
      exact .inl ⟨j,by omega,by omega,h⟩
    · rw [if_neg h2] at h
      by_cases h3:q<6000+nr
      · rw [if_pos h3] at h
        obtain ⟨j,hj⟩:∃ j,j=q - 6000:=⟨_,rfl⟩
        rw [← hj] at h
        simp only [Option.some.injEq] at h
        exact .inr ⟨j,by omega,by omega,h.symm⟩
      · rw [if_neg h3] at h;cases h
theorem rid_m {m:List Nat} {d nr j n:Nat} (hj:j<1000) (h:m[j]?=some n):rid m d nr (5000+j)=some n:=by
  unfold rid
  rw [if_neg (by omega),if_pos (by omega)]
  have:5000+j - 5000=j:=by omega
  rw [this];exact h
theorem rid_new {m:List Nat} {d nr i:Nat} (h:i<nr):rid m d nr (6000+i)=some (newId d i):=by
  unfold rid
  rw [if_neg (by omega),if_neg (by omega),if_pos (by omega)]
  have:6000+i - 6000=i:=by omega
  rw [this]
section
variable {P:Program} {w0:World} {outsC:Nat→Prop} {c:Cz} {m:List Nat} {ins:List AObj} {sh:Bool} {d:Nat} {s:Nat→Nat} {outs rows:List AObj}
theorem rid_inj (hm:m.Nodup) (hnew:∀ i,i<rows.length→newId d i ∉ m) {q q' n:Nat} (h:rid m d rows.length q=some n) (h':rid m d rows.length q'=some n):q=q':=by
  rcases rid_cases h with ⟨j,rfl,hj,h1⟩ | ⟨i,rfl,hi,h1⟩ <;> rcases rid_cases h' with ⟨j',rfl,hj',h2⟩ | ⟨i',rfl,hi',h2⟩
  · obtain ⟨p1,q1⟩:=List.getElem?_eq_some_iff.1 h1
    obtain ⟨p2,q2⟩:=List.getElem?_eq_some_iff.1 h2
    have:=(List.getElem_inj hm).1 (q1.trans q2.symm)
    rw [this]
  · exact absurd (List.mem_of_getElem? h1) (h2 ▸ hnew i' hi')
  · exact absurd (List.mem_of_getElem? h2) (h1 ▸ hnew i hi)
  · have:newId d i=newId d i':=h1.symm.trans h2
    unfold newId at this
    have:i=i':=by omega
    rw [this]
theorem callHp_at (hm:m.Nodup) (hnew:∀ i,i<rows.length→newId d i ∉ m) {hp:Nat→AObj} {q n:Nat} (h:rid m d rows.length q=some n) :
    callHp hp m d s outs rows n=(outHp outs rows q).ren (rid m d rows.length) (sv hp m s):=by
  have hex:∃ q,rid m d rows.length q=some n:=⟨q,h⟩
  unfold callHp
  rw [dif_pos hex,rid_inj hm hnew (Classical.choose_spec hex) h]
theorem callHp_not {hp:Nat→AObj} {n:Nat} (h:¬ ∃ q,rid m d rows.length q=some n):callHp hp m d s outs rows n=hp n:=by
  unfold callHp;rw [dif_neg h]
open Classical in
noncomputable def Cz.back (c c1:Cz) (m:List Nat) (d:Nat) (s:Nat→Nat) (outs rows:List AObj):Cz :=
  { w:=c1.w,base:=c.base,ext:=c.ext,hp:=callHp c.hp m d s outs rows,
    loc:=fun n=>if h:∃ q,rid m d rows.length q=some n then c1.loc (Classical.choose h) else c.loc n,
    names:=fun x=>if h:∃ y,c1.names y≠none∧x=sv c.hp m s y then c1.names (Classical.choose h) else c.names x,old:=c.old,
    used:=fun x=>c.used x∨∃ y,c1.used y∧x=sv c.hp m s y }
open Classical in
theorem back_good {c1:Cz} (G:Good w0 outsC c) (H:Handed c.hp m ins (!sh)) (hs:∀ y,¬ c.used (s y)) (hsi:∀ y y',s y=s y'→y=y')
    (G1:Good (c.entry m ins (!sh)).w (fun b=>lentB c m b) c1) (h1:c1.hp=outHp outs rows) (hext:∀ b,c1.ext b→(sh=true∧(c.entry m ins (!sh)).ext b)∨lentB c m b)
    (hkeep:∀ r v,(c.entry m ins (!sh)).used v→(c1.hp r).ver=some v→((c.entry m ins (!sh)).hp r).ver=some v∧c1.loc r=(c.entry m ins (!sh)).loc r)
    (hold:∀ b,c1.old b→(c.entry m ins (!sh)).old b) (hlen:outs.length=m.length) (hr:rows.length≤1000) (hnew:∀ i,i<rows.length→c.hp (newId d i)=.gone) :
    Good w0 outsC (c.back c1 m d s outs rows)∧Keeps c (c.back c1 m d s outs rows)∧Ren false (rid m d rows.length) (sv c.hp m s) c1 (c.back c1 m d s outs rows):=by
  have hml:m.length≤1000:=by rw [← H.length];exact H.short
  have hnm:∀ i,i<rows.length→newId d i ∉ m:=fun i hi hmem=>H.live _ hmem (hnew i hi)
  have hbase:c1.base=c.w.heap.size:=G1.base.1
  have hsize:c.w.heap.size≤c1.w.heap.size:=G1.size
  have hver:∀ v,v<m.length→(c.hp (m.getD v 0)).ver=some (sv c.hp m s v):=by
    intro v hv
    have hmem:m.getD v 0∈m:=by
      rw [List.getD_eq_getElem?_getD,List.getElem?_eq_getElem hv];exact List.getElem_mem hv
    have hl:=H.live _ hmem
    unfold sv
    rw [if_pos hv]
    cases ho:c.hp (m.getD v 0) with
    | gone=>exact absurd ho hl
    | _=>rfl
  have hsv:∀ v,¬ v<m.length→sv c.hp m s v=s v:=by intro v hv;unfold sv;rw [if_neg hv]
  have hsvi:∀ v v',sv c.hp m s v=sv c.hp m s v'→v=v':=by
    intro v v' e
    by_cases hv:v<m.length <;> by_cases hv':v'<m.length
    · have e1:=hver v hv
      have e2:=hver v' hv'
      rw [e] at e1
      have e3:=G.verInj _ _ _ e1 e2
      rw [List.getD_eq_getElem?_getD,List.getElem?_eq_getElem hv,List.getD_eq_getElem?_getD,List.getElem?_eq_getElem hv'] at e3
      exact (List.getElem_inj H.nodup).1 e3
    · rw [hsv v' hv'] at e
      exact absurd (e ▸ (G.verU _ _ (hver v hv)).1) (hs v')
    · rw [hsv v hv] at e
      exact absurd (e.symm ▸ (G.verU _ _ (hver v' hv')).1) (hs v)
    · rw [hsv v hv,hsv v' hv'] at e;exact hsi _ _ e
  have hloc:∀ q n,rid m d rows.length q=some n→(c.back c1 m d s outs rows).loc n=c1.loc q:=by
    intro q n h
    have hex:∃ q,rid m d rows.length q=some n:=⟨q,h⟩
    show (if h:∃ q,rid m d rows.length q=some n then c1.loc (Classical.choose h) else c.loc n)=_
    rw [dif_pos hex,rid_inj H.nodup hnm (Classical.choose_spec hex) h]
  have hlocn:∀ n,(¬ ∃ q,rid m d rows.length q=some n)→(c.back c1 m d s outs rows).loc n=c.loc n:=by
    intro n h
    show (if h:∃ q,rid m d rows.length q=some n then c1.loc (Classical.choose h) else c.loc n)=_
    rw [dif_neg h]
  have hhp:∀ q n,rid m d rows.length q=some n→(c.back c1 m d s outs rows).hp n=(c1.hp q).ren (rid m d rows.length) (sv c.hp m s):=by
    intro q n h;rw [h1];exact callHp_at H.nodup hnm h
  have hhpn:∀ n,(¬ ∃ q,rid m d rows.length q=some n)→(c.back c1 m d s outs rows).hp n=c.hp n:=fun n h=>callHp_not h
  have hnames:∀ y b,c1.names y=some b→(c.back c1 m d s outs rows).names (sv c.hp m s y)=some b:=by
    intro y b h
    have hex:∃ y',c1.names y'≠none∧sv c.hp m s y=sv c.hp m s y':=⟨y,by rw [h];simp,rfl⟩
    show (if h:∃ y',c1.names y'≠none∧sv c.hp m s y=sv c.hp m s y' then c1.names (Classical.choose h) else c.names (sv c.hp m s y))=_
    rw [dif_pos hex]
    have:=hsvi _ _ (Classical.choose_spec hex).2
    rw [← this];exact h
  have hnames':∀ x b,(c.back c1 m d s outs rows).names x=some b→(∃ y,x=sv c.hp m s y∧c1.names y=some b)∨c.names x=some b:=by
    intro x b h
    by_cases hex:∃ y',c1.names y'≠none∧x=sv c.hp m s y'
    · left
      obtain ⟨y,hy,rfl⟩:=hex
      obtain ⟨b',hb'⟩:=Option.ne_none_iff_exists'.1 hy
      rw [hnames y b' hb'] at h
      exact ⟨y,rfl,hb'.trans h⟩
    · right
      have:(c.back c1 m d s outs rows).names x=c.names x:=by
        show (if h:∃ y',c1.names y'≠none∧x=sv c.hp m s y' then c1.names (Classical.choose h) else c.names x)=_
        rw [dif_neg hex]
      rw [this] at h;exact h
  have hframe:∀ b,b<c.w.heap.size→¬ lentB c m b→c1.w.heap[b]?=c.w.heap[b]?:=fun b h1 h2=>G1.frame b h1 h2
  have hlentT:∀ b,lentB c m b→c.taken b:=fun b ⟨r,hr1,hr2⟩=>⟨r,H.live r hr1,hr2⟩
  have hown1:∀ q b,c1.hp q≠.gone→blockOf (c1.loc q)=some b→c.w.heap.size≤b∨lentB c m b:=by
    intro q b h2 h3
    rcases G1.own q b h2 h3 with h | h
    · rw [hbase] at h;exact .inl h
    · exact .inr h
  have hunt:∀ n b,(¬ ∃ q,rid m d rows.length q=some n)→c.hp n≠.gone→blockOf (c.loc n)=some b→b<c.w.heap.size∧¬ lentB c m b:=by
    intro n b h2 h3 h4
    refine ⟨(G.obj n).lt h3 h4,?_⟩
    rintro ⟨r,hr1,hr2⟩
    have:=G.inj n r b h3 (H.live r hr1) h4 hr2
    subst this
    obtain ⟨j,hj⟩:=List.getElem?_of_mem hr1
    exact h2 ⟨5000+j,rid_m (by have:=(List.getElem?_eq_some_iff.1 hj).1;omega) hj⟩
  have htaken:∀ b,(c.back c1 m d s outs rows).taken b→(∃ q,c1.hp q≠.gone∧blockOf (c1.loc q)=some b)∨(∃ n,(¬ ∃ q,rid m d rows.length q=some n)∧c.hp n≠.gone∧blockOf (c.loc n)=some b):=by
    rintro b ⟨n,h2,h3⟩
    by_cases hex:∃ q,rid m d rows.length q=some n
    · obtain ⟨q,hq⟩:=hex
      rw [hhp q n hq,ne_eq,AObj.ren_gone] at h2
      rw [hloc q n hq] at h3
      exact .inl ⟨q,h2,h3⟩
    · rw [hhpn n hex] at h2
      rw [hlocn n hex] at h3
      exact .inr ⟨n,hex,h2,h3⟩
  have htk1:∀ b,b<c.w.heap.size→¬ c.taken b→¬ (c.back c1 m d s outs rows).taken b:=by
    intro b hb hnt ht
    rcases htaken b ht with ⟨q,h2,h3⟩ | ⟨n,_,h2,h3⟩
    · rcases hown1 q b h2 h3 with h | h
      · omega
      · exact hnt (hlentT b h)
    · exact hnt ⟨n,h2,h3⟩
  have htk2:∀ b,¬ c1.taken b→(c.w.heap.size≤b∨lentB c m b∨¬ c.taken b)→¬ (c.back c1 m d s outs rows).taken b:=by
    intro b hnt hcase ht
    rcases htaken b ht with ⟨q,h2,h3⟩ | ⟨n,hn,h2,h3⟩
    · exact hnt ⟨q,h2,h3⟩
    · obtain ⟨h4,h5⟩:=hunt n b hn h2 h3
      rcases hcase with h | h | h
      · omega
      · exact h5 h
      · exact h ⟨n,h2,h3⟩
  have hside:∀ b,lentB c m b→c.base≤b∨outsC b:=by
    rintro b ⟨r,hr1,hr2⟩
    exact G.own r b (H.live r hr1) hr2
  have K:Keeps c (c.back c1 m d s outs rows):=by
    refine ⟨?_,?_,fun v h=>.inl h,?_,rfl⟩
    · rintro b ⟨h2,h3,h4⟩
      exact ⟨⟨h2,Nat.lt_of_lt_of_le h3 hsize,htk1 b h3 h4⟩,hframe b h3 fun h=>h4 (hlentT b h)⟩
    · intro n b h
      by_cases hex:∃ y',c1.names y'≠none∧n=sv c.hp m s y'
      · obtain ⟨y,hy,rfl⟩:=hex
        by_cases hv:y<m.length
        · rw [(G.verU _ _ (hver y hv)).2] at h;cases h
        · rw [hsv y hv] at h
          exact absurd (G.nam _ _ h).1 (hs y)
      · show (if h:∃ y',c1.names y'≠none∧n=sv c.hp m s y' then c1.names (Classical.choose h) else c.names n)=_
        rw [dif_neg hex];exact h
    · intro r v hu hv
      by_cases hex:∃ q,rid m d rows.length q=some r
      · obtain ⟨q,hq⟩:=hex
        rw [hhp q r hq,AObj.ren_ver,Option.map_eq_some_iff] at hv
        obtain ⟨y,hy,rfl⟩:=hv
        by_cases hyl:y<m.length
        · obtain ⟨h5,h6⟩:=hkeep q y (show y<ins.length by rw [H.length];exact hyl) hy
          obtain ⟨j,B,r',rfl,hB,hr',he,hl⟩:=entry_live H (ver_ne_gone h5)
          have hco:=H.objs j B r' hB hr'
          have hBv:B.ver=some j:=by
            cases B with
            | gone=>exact hco.elim
            | box v cs=>rw [← hco.1];rfl
            | row v k nn cs=>rw [← hco.1];rfl
            | map v ks vs=>rw [← hco.1];rfl
            | it v d=>exact hco.elim
          rw [he,hBv] at h5
          simp only [Option.some.injEq] at h5;subst h5
          have hrr:r'=r:=by
            have h7:=rid_m (d:=d) (nr:=rows.length) (by omega) hr'
            rw [h7] at hq;simpa using hq
          subst hrr
          have hg:m.getD j 0=r':=by rw [List.getD_eq_getElem?_getD,hr'];rfl
          have h8:=hver j hyl
          rw [hg] at h8
          refine ⟨h8,?_⟩
          rw [hloc _ _ hq,h6,hl]
        · rw [hsv y hyl] at hu
          exact absurd hu (hs y)
      · rw [hhpn r hex] at hv
        exact ⟨hv,hlocn r hex⟩
  have R:Ren false (rid m d rows.length) (sv c.hp m s) c1 (c.back c1 m d s outs rows):=by
    refine ⟨?_,hnames,fun v h=>.inr ⟨v,h,rfl⟩,?_,hold⟩
    · rintro b ⟨h2,h3,h4⟩ _
      refine ⟨⟨?_,h3,?_⟩,rfl⟩
      · rcases h2 with h | h
        · rcases hext b h with ⟨hsh,h5⟩ | h5
          · rcases h5 with h5 | ⟨h5,_⟩ | h5
            · exact h5.1
            · rw [hsh] at h5;cases h5
            · rcases hside b h5 with h | h
              · exact .inr h
              · exact .inl (G.outExt b h).1
          · rcases hside b h5 with h | h
            · exact .inr h
            · exact .inl (G.outExt b h).1
        · rw [hbase] at h
          right
          show c.base≤b
          rw [G.base.1];exact Nat.le_trans G.size h
      · refine htk2 b h4 ?_
        rcases h2 with h | h
        · rcases hext b h with ⟨hsh,h5⟩ | h5
          · rcases h5 with h5 | ⟨h5,_⟩ | h5
            · exact .inr (.inr h5.2.2)
            · rw [hsh] at h5;cases h5
            · exact .inr (.inl h5)
          · exact .inr (.inl h5)
        · rw [hbase] at h;exact .inl h
    · intro r r' v hf hu hv
      rw [hhp r r' hf,AObj.ren_ver,Option.map_eq_some_iff] at hv
      obtain ⟨u,hu',e⟩:=hv
      rw [← hsvi _ _ e]
      exact ⟨hu',hloc r r' hf⟩
  refine ⟨?_,K,R⟩
  refine ⟨G.base,?_,?_,?_,?_,?_,G.outExt,?_,?_,?_,G1.os.trans G.os,⟨G1.tape.1.trans G.tape.1,Nat.le_trans G.tape.2 G1.tape.2⟩,G1.output.trans G.output,Nat.le_trans G.size hsize,?_⟩
  · intro n
    by_cases hex:∃ q,rid m d rows.length q=some n
    · obtain ⟨q,hq⟩:=hex
      rw [hhp q n hq,hloc q n hq]
      exact (G1.obj q).ren R (fun h=>by cases h) fun b _=>rfl
    · rw [hhpn n hex,hlocn n hex]
      by_cases hg:c.hp n=.gone
      · rw [hg];trivial
      · refine (G.obj n).keeps K fun b hb=>?_
        obtain ⟨h4,h5⟩:=hunt n b hex hg hb
        exact hframe b h4 h5
  · intro n1 n2 b h2 h3 h4 h5
    by_cases e1:∃ q,rid m d rows.length q=some n1 <;> by_cases e2:∃ q,rid m d rows.length q=some n2
    · obtain ⟨q1,hq1⟩:=e1
      obtain ⟨q2,hq2⟩:=e2
      rw [hhp _ _ hq1,ne_eq,AObj.ren_gone] at h2
      rw [hhp _ _ hq2,ne_eq,AObj.ren_gone] at h3
      rw [hloc _ _ hq1] at h4
      rw [hloc _ _ hq2] at h5
      have:=G1.inj q1 q2 b h2 h3 h4 h5
      subst this
      rw [hq1] at hq2;simpa using hq2
    · obtain ⟨q1,hq1⟩:=e1
      rw [hhp _ _ hq1,ne_eq,AObj.ren_gone] at h2
      rw [hhpn _ e2] at h3
      rw [hloc _ _ hq1] at h4
      rw [hlocn _ e2] at h5
      obtain ⟨h6,h7⟩:=hunt n2 b e2 h3 h5
      rcases hown1 q1 b h2 h4 with h | h
      · omega
      · exact absurd h h7
    · obtain ⟨q2,hq2⟩:=e2
      rw [hhp _ _ hq2,ne_eq,AObj.ren_gone] at h3
      rw [hhpn _ e1] at h2
      rw [hloc _ _ hq2] at h5
      rw [hlocn _ e1] at h4
      obtain ⟨h6,h7⟩:=hunt n1 b e1 h2 h4
      rcases hown1 q2 b h3 h5 with h | h
      · omega
      · exact absurd h h7
    · rw [hhpn _ e1] at h2
      rw [hhpn _ e2] at h3
      rw [hlocn _ e1] at h4
      rw [hlocn _ e2] at h5
      exact G.inj n1 n2 b h2 h3 h4 h5
  · intro n b h2 h3
    by_cases e1:∃ q,rid m d rows.length q=some n
    · obtain ⟨q1,hq1⟩:=e1
      rw [hhp _ _ hq1,ne_eq,AObj.ren_gone] at h2
      rw [hloc _ _ hq1] at h3
      rcases hown1 q1 b h2 h3 with h | h
      · left;show c.base≤b;rw [G.base.1];exact Nat.le_trans G.size h
      · exact hside b h
    · rw [hhpn _ e1] at h2
      rw [hlocn _ e1] at h3
      exact G.own n b h2 h3
  · intro n v h
    by_cases e1:∃ q,rid m d rows.length q=some n
    · obtain ⟨q1,hq1⟩:=e1
      rw [hhp _ _ hq1,AObj.ren_ver,Option.map_eq_some_iff] at h
      obtain ⟨u,hu,rfl⟩:=h
      obtain ⟨h2,h3⟩:=G1.verU _ _ hu
      refine ⟨.inr ⟨u,h2,rfl⟩,?_⟩
      cases hn:(c.back c1 m d s outs rows).names (sv c.hp m s u) with
      | none=>rfl
      | some b =>
        exfalso
        rcases hnames' _ b hn with ⟨y,e,h4⟩ | h4
        · rw [← hsvi _ _ e,h3] at h4;cases h4
        · by_cases hv:u<m.length
          · rw [(G.verU _ _ (hver u hv)).2] at h4;cases h4
          · rw [hsv u hv] at h4
            exact hs u (G.nam _ _ h4).1
    · rw [hhpn _ e1] at h
      obtain ⟨h2,h3⟩:=G.verU _ _ h
      refine ⟨.inl h2,?_⟩
      cases hn:(c.back c1 m d s outs rows).names v with
      | none=>rfl
      | some b =>
        exfalso
        rcases hnames' _ b hn with ⟨y,rfl,h4⟩ | h4
        · by_cases hv:y<m.length
          · have e:=G.verInj _ _ _ h (hver y hv)
            refine e1 ⟨5000+y,rid_m (by omega) ?_⟩
            rw [e,List.getD_eq_getElem?_getD,List.getElem?_eq_getElem hv];rfl
          · rw [hsv y hv] at h2
            exact hs y h2
        · rw [h3] at h4;cases h4
  · intro n1 n2 v h2 h3
    by_cases e1:∃ q,rid m d rows.length q=some n1 <;> by_cases e2:∃ q,rid m d rows.length q=some n2
    · obtain ⟨q1,hq1⟩:=e1
      obtain ⟨q2,hq2⟩:=e2
      rw [hhp _ _ hq1,AObj.ren_ver,Option.map_eq_some_iff] at h2
      rw [hhp _ _ hq2,AObj.ren_ver,Option.map_eq_some_iff] at h3
      obtain ⟨u1,hu1,r1⟩:=h2
      obtain ⟨u2,hu2,r2⟩:=h3
      have:=hsvi _ _ (r1.trans r2.symm)
      subst this
      have:=G1.verInj _ _ _ hu1 hu2
      subst this
      rw [hq1] at hq2;simpa using hq2
    · obtain ⟨q1,hq1⟩:=e1
      rw [hhp _ _ hq1,AObj.ren_ver,Option.map_eq_some_iff] at h2
      obtain ⟨u1,hu1,r1⟩:=h2
      rw [hhpn _ e2] at h3
      exfalso
      by_cases hv:u1<m.length
      · have e:=G.verInj _ _ _ h3 (r1 ▸ hver u1 hv)
        refine e2 ⟨5000+u1,rid_m (by omega) ?_⟩
        rw [e,List.getD_eq_getElem?_getD,List.getElem?_eq_getElem hv];rfl
      · rw [hsv u1 hv] at r1
        exact hs u1 (r1.symm ▸ (G.verU _ _ h3).1)
    · obtain ⟨q2,hq2⟩:=e2
      rw [hhp _ _ hq2,AObj.ren_ver,Option.map_eq_some_iff] at h3
      obtain ⟨u1,hu1,r1⟩:=h3
      rw [hhpn _ e1] at h2
      exfalso
      by_cases hv:u1<m.length
      · have e:=G.verInj _ _ _ h2 (r1 ▸ hver u1 hv)
        refine e1 ⟨5000+u1,rid_m (by omega) ?_⟩
        rw [e,List.getD_eq_getElem?_getD,List.getElem?_eq_getElem hv];rfl
      · rw [hsv u1 hv] at r1
        exact hs u1 (r1.symm ▸ (G.verU _ _ h2).1)
    · rw [hhpn _ e1] at h2
      rw [hhpn _ e2] at h3
      exact G.verInj _ _ _ h2 h3
  · intro x b h
    rcases hnames' x b h with ⟨y,rfl,h2⟩ | h2
    · obtain ⟨h3,h4,h5,h6⟩:=G1.nam y b h2
      refine ⟨.inr ⟨y,h3,rfl⟩,?_,h5,?_⟩
      · rcases h4 with h4 | h4
        · rw [hbase] at h4;left;show c.base≤b;rw [G.base.1];exact Nat.le_trans G.size h4
        · exact hside b h4
      · refine htk2 b h6 ?_
        rcases h4 with h4 | h4
        · rw [hbase] at h4;exact .inl h4
        · exact .inr (.inl h4)
    · obtain ⟨h3,h4,h5,h6⟩:=G.nam x b h2
      exact ⟨.inl h3,h4,Nat.lt_of_lt_of_le h5 hsize,htk1 b h5 h6⟩
  · intro x x' b h h'
    have hcross:∀ y x b,c1.names y=some b→c.names x=some b→False:=by
      intro y x b h2 h3
      obtain ⟨_,h4,_,_⟩:=G1.nam y b h2
      obtain ⟨_,_,h5,h6⟩:=G.nam x b h3
      rcases h4 with h4 | h4
      · rw [hbase] at h4;omega
      · exact h6 (hlentT b h4)
    rcases hnames' x b h with ⟨y,rfl,h2⟩ | h2 <;> rcases hnames' x' b h' with ⟨y',rfl,h3⟩ | h3
    · rw [G1.namInj _ _ b h2 h3]
    · exact (hcross _ _ _ h2 h3).elim
    · exact (hcross _ _ _ h3 h2).elim
    · exact G.namInj _ _ b h2 h3
  · obtain ⟨m1,hm1⟩:=G.fin
    obtain ⟨m2,hm2⟩:=G1.fin
    have hbd:∀ k,∃ M,∀ y,y<k→sv c.hp m s y<M:=by
      intro k
      induction k with
      | zero=>exact ⟨0,fun y hy=>by omega⟩
      | succ k ih =>
        obtain ⟨M,hM⟩:=ih
        refine ⟨max M (sv c.hp m s k+1),fun y hy=>?_⟩
        rcases Nat.lt_or_ge y k with h | h
        · exact Nat.lt_of_lt_of_le (hM y h) (Nat.le_max_left _ _)
        · have:y=k:=by omega
          subst this
          exact Nat.lt_of_lt_of_le (Nat.lt_succ_self _) (Nat.le_max_right _ _)
    obtain ⟨M,hM⟩:=hbd m2
    refine ⟨max m1 M,?_⟩
    rintro v (h | ⟨y,hy,rfl⟩)
    · exact Nat.lt_of_lt_of_le (hm1 v h) (Nat.le_max_left _ _)
    · exact Nat.lt_of_lt_of_le (hM y (hm2 y hy)) (Nat.le_max_right _ _)
  · intro b hb hn
    rw [← G.frame b hb hn]
    refine hframe b (Nat.lt_of_lt_of_le hb G.size) fun h=>?_
    rcases hside b h with h | h
    · rw [G.base.1] at h;omega
    · exact hn h
end
end Go.Ab
namespace Go.Ab
mutual
def AVal.cl (p:Nat→Bool):AVal→AVal
  | .any=>.any
  | .val v=>.val v
  | .ro nm k []=>.ro nm k []
  | .ro (some (some 0)) k (A :: cs)=>.ro (some (some 0)) k (clL p (A :: cs))
  | .ro (some (some (n+1))) k (A :: cs)=>if p n=true then .any else .ro (some (some (n+1))) k (clL p (A :: cs))
  | .ro _ _ (_ :: _)=>.any
  | .own r v=>.own r v
  | .st cs=>.st (clL p cs)
  | .tup cs=>.tup (clL p cs)
  | .ptr r v off=>.ptr r v off
  | .rp _ _=>.any
  | .mp r v=>.mp r v
  | .clo g caps=>.clo g (clL p caps)
def clL (p:Nat→Bool):List AVal→List AVal
  | []=>[]
  | A :: cs=>AVal.cl p A :: clL p cs
end
theorem clL_eq (p:Nat→Bool):∀ cs:List AVal,clL p cs=cs.map (AVal.cl p)
  | []=>by simp [clL]
  | A :: cs=>by simp [clL,clL_eq p cs]
def AObj.cl (p:Nat→Bool):AObj→AObj
  | .gone=>.gone
  | .box v cs=>.box v (clL p cs)
  | .row v k nn cs=>.row v k nn (clL p cs)
  | .map v ks vs=>.map v ks (clL p vs)
  | .it v _=>.it v none
theorem AObj.cl_ver (p:Nat→Bool) (o:AObj):(o.cl p).ver=o.ver:=by cases o <;> rfl
theorem AObj.cl_gone {p:Nat→Bool} {o:AObj}:o.cl p=.gone↔o=.gone:=by cases o <;> simp [AObj.cl]
def St.cl (p:Nat→Bool) (σ:St):St:=⟨fun t=>(σ.tm t).cl p,fun r=>(σ.hp r).cl p⟩
def okNm (p:Nat→Bool):Option Nat→Prop
  | none=>∀ n,p n=true
  | some 0=>True
  | some (n+1)=>p n=true
mutual
def CoeH (p:Nat→Bool) (hp:Nat→AObj):AVal→AVal→Prop
  | .any,_=>True
  | .val x,A=>A=.val x
  | .ro nm k cs,A=>0<k∧((∃ cs',A=.ro nm k cs'∧(cs=[]∨∀ x,nm=some x→okNm p x)∧CoeHL p hp cs cs')∨(nm=some (some 0)∧∃ r v nn cs',A=.own r v∧hp r=.row v k nn cs'∧CoeHL p hp cs cs'))
  | .st cs,A=>∃ cs',A=.st cs'∧CoeHL p hp cs cs'
  | _,_=>False
def CoeHL (p:Nat→Bool) (hp:Nat→AObj):List AVal→List AVal→Prop
  | [],As=>As=[]
  | B :: Bs,As=>∃ A As',As=A :: As'∧CoeH p hp B A∧CoeHL p hp Bs As'
end
theorem CoeHL.length {p:Nat→Bool} {hp:Nat→AObj}:∀ (Bs As:List AVal),CoeHL p hp Bs As→Bs.length=As.length
  | [],As,h=>by simp only [CoeHL] at h;subst h;rfl
  | B :: Bs,As,h=>by
    simp only [CoeHL] at h
    obtain ⟨A,As',rfl,_,h2⟩:=h
    simp [CoeHL.length Bs As' h2]
def Cz.enh (p:Nat→Bool) (c:Cz):Cz :=
  { w:=c.w,base:=c.w.heap.size,ext:=fun b=>c.imm b∨c.taken b,hp:=fun _=>.gone,loc:=c.loc,names:=fun n=>if p n=true then c.names n else none,used:=c.used,old:=fun b=>c.old b∨c.taken b }
def Cz.named (c:Cz) (p:Nat→Bool) (b:Nat):Prop:=∃ n,p n=true∧c.names n=some b
section
variable {w0:World} {outs:Nat→Prop} {c:Cz} {p:Nat→Bool}
theorem enh_taken {b:Nat}:¬ (c.enh p).taken b:=by rintro ⟨r,h,_⟩;exact h rfl
theorem enh_imm (G:Good w0 outs c) {b:Nat} (h:c.imm b∨c.taken b):(c.enh p).imm b:=by
  refine ⟨.inl h,?_,enh_taken⟩
  rcases h with h | ⟨r,h1,h2⟩
  · exact h.2.1
  · exact (G.obj r).lt h1 h2
theorem named_imm (G:Good w0 outs c) {b:Nat} (h:c.named p b):c.imm b:=by
  obtain ⟨n,_,hn⟩:=h
  obtain ⟨_,h1,h2,h3⟩:=G.nam n b hn
  refine ⟨?_,h2,h3⟩
  rcases h1 with h1 | h1
  · exact .inr h1
  · exact .inl (G.outExt b h1).1
theorem named_old (G:Good w0 outs c) {b:Nat} (h:c.named p b):¬ c.old b:=by
  obtain ⟨n,_,hn⟩:=h
  obtain ⟨_,h1,_,_⟩:=G.nam n b hn
  intro ho
  rcases h1 with h1 | h1
  · have:=G.base.2 b ho;omega
  · exact (G.outExt b h1).2 ho
theorem enh_names {n b:Nat} (h:(c.enh p).names n=some b):p n=true∧c.names n=some b:=by
  have h:(if p n=true then c.names n else none)=some b:=h
  split at h
  · rename_i hp;exact ⟨hp,h⟩
  · cases h
theorem enh_good (G:Good w0 outs c):Good (c.enh p).w (c.named p) (c.enh p):=by
  refine ⟨⟨rfl,?_⟩,fun _=>trivial,?_,?_,?_,?_,?_,?_,?_,G.fin,rfl,⟨rfl,Nat.le_refl _⟩,rfl,Nat.le_refl _,fun _ _ _=>rfl⟩
  · rintro b (h | ⟨r,h1,h2⟩)
    · exact Nat.lt_of_lt_of_le (G.base.2 b h) (by rw [G.base.1];exact G.size)
    · exact (G.obj r).lt h1 h2
  · intro r r' b h;exact absurd rfl h
  · intro r b h;exact absurd rfl h
  · intro r v h;cases h
  · intro r r' v h;cases h
  · intro b h
    refine ⟨.inl (named_imm G h),?_⟩
    rintro (h1 | h1)
    · exact named_old G h h1
    · exact (named_imm G h).2.2 h1
  · intro n b h
    obtain ⟨hp,h⟩:=enh_names h
    exact ⟨(G.nam n b h).1,.inr ⟨n,hp,h⟩,(G.nam n b h).2.2.1,enh_taken⟩
  · intro n n' b h h'
    exact G.namInj n n' b (enh_names h).2 (enh_names h').2
theorem enh_nmd {n:Option Nat} {b m:Nat} (ok:okNm p n) (h:c.nmd n b m):(c.enh p).nmd n b m:=by
  cases n with
  | none =>
    obtain ⟨⟨n,hn⟩,hf⟩:=h
    exact ⟨⟨n,by show (if p n=true then c.names n else none)=some b;rw [if_pos (ok n)];exact hn⟩,hf⟩
  | some n=>cases n with
    | zero=>exact .inl h
    | succ n=>exact ⟨by show (if p n=true then c.names n else none)=some b;rw [if_pos (show p n=true from ok)];exact h.1,h.2⟩
mutual
theorem CoeH.rep (G:Good w0 outs c):∀ (B A:AVal) (v:Value),CoeH p c.hp B A→Rep c A v→Rep (c.enh p) B v
  | .any,_,_,_,_=>by simp [Rep]
  | .val x,A,v,h,hr=>by simp only [CoeH] at h;subst h;simpa [Rep] using hr
  | .ro nm k cs,A,v,h,hr=>by
    simp only [CoeH] at h
    obtain ⟨hk,h⟩:=h
    rcases h with ⟨cs',rfl,hok,hc⟩ | ⟨rfl,r,ver,nn,cs',rfl,hrow,hc⟩
    · simp only [Rep] at hr ⊢
      obtain ⟨base,n,cap,hv,_,hlen,hb,hnm,hcase⟩:=hr
      refine ⟨base,n,cap,hv,hk,by rw [CoeHL.length cs cs' hc];exact hlen,hb,?_,?_⟩
      · intro x e
        refine ⟨(hnm x e).1,?_⟩
        rcases hok with hok | hok
        · left;rw [hok];rfl
        rcases (hnm x e).2 with h0 | ⟨b,off,h1,h2⟩
        · left;rw [CoeHL.length cs cs' hc];exact h0
        · exact .inr ⟨b,off,h1,enh_nmd (hok x e) h2⟩
      · rcases hcase with h0 | ⟨b,off,hbase,hi,hat⟩
        · left;rw [CoeHL.length cs cs' hc];exact h0
        · exact .inr ⟨b,off,hbase,enh_imm G (.inl hi),CoeHL.repAt G cs cs' off hc hat⟩
    · simp only [Rep] at hr ⊢
      have hO:=G.obj r
      rw [hrow] at hO hr
      have hv:=hr.2 rfl
      obtain ⟨base,n,cap,hloc,_,hlen,hnc,hcm,_,hcase⟩:=hO
      have key:cs.length=0∨∃ b off,base=some ⟨b,off,none⟩∧c.taken b∧RepAt (c.enh p) b off cs:=by
        rcases hcase with h0 | ⟨g,off,t,cells,rfl,hg,hfit,hrep⟩
        · left
          have:n=0:=by omega
          rw [CoeHL.length cs cs' hc,hlen,this];simp
        · by_cases h0:cap=0
          · left
            have:n=0:=by omega
            rw [CoeHL.length cs cs' hc,hlen,this];simp
          · have hat:RepAt c g off cs':=RepAt.of_row hg (by rw [hlen];exact hrep)
            exact .inr ⟨g,off,rfl,⟨r,by rw [hrow];simp,by rw [hloc];simp [blockOf,h0]⟩,CoeHL.repAt G cs cs' off hc hat⟩
      refine ⟨base,n,cap,hv.trans hloc,hk,by rw [CoeHL.length cs cs' hc];exact hlen,⟨hnc,hcm⟩,?_,?_⟩
      · intro x e
        simp only [Option.some.injEq] at e;subst e
        refine ⟨(fun h=>by cases h),?_⟩
        rcases key with h0 | ⟨b,off,h1,h2,_⟩
        · exact .inl h0
        · exact .inr ⟨b,off,h1,.inr h2⟩
      · rcases key with h0 | ⟨b,off,h1,h2,h3⟩
        · exact .inl h0
        · exact .inr ⟨b,off,h1,enh_imm G (.inr h2),h3⟩
  | .st cs,A,v,h,hr=>by
    simp only [CoeH] at h
    obtain ⟨cs',rfl,hc⟩:=h
    simp only [Rep] at hr ⊢
    obtain ⟨vs,hv,hl⟩:=hr
    exact ⟨vs,hv,CoeHL.repL G cs cs' vs.toList hc hl⟩
  | .own _ _,_,_,h,_=>by simp only [CoeH] at h
  | .tup _,_,_,h,_=>by simp only [CoeH] at h
  | .ptr _ _ _,_,_,h,_=>by simp only [CoeH] at h
  | .rp _ _,_,_,h,_=>by simp only [CoeH] at h
  | .mp _ _,_,_,h,_=>by simp only [CoeH] at h
  | .clo _ _,_,_,h,_=>by simp only [CoeH] at h
theorem CoeHL.repAt (G:Good w0 outs c) {b:Nat}:∀ (Bs As:List AVal) (off:Nat),CoeHL p c.hp Bs As→RepAt c b off As→RepAt (c.enh p) b off Bs
  | [],_,_,_,_=>by simp [RepAt]
  | B :: Bs,As,off,h,hr=>by
    simp only [CoeHL] at h
    obtain ⟨A,As',rfl,h1,h2⟩:=h
    simp only [RepAt] at hr ⊢
    obtain ⟨⟨v,hv,hA⟩,ht⟩:=hr
    exact ⟨⟨v,hv,CoeH.rep G B A v h1 hA⟩,CoeHL.repAt G Bs As' (off+1) h2 ht⟩
theorem CoeHL.repL (G:Good w0 outs c):∀ (Bs As:List AVal) (vs:List Value),CoeHL p c.hp Bs As→RepL c As vs→RepL (c.enh p) Bs vs
  | [],As,vs,h,hr=>by simp only [CoeHL] at h;subst h;cases vs <;> simp_all [RepL]
  | B :: Bs,As,vs,h,hr=>by
    simp only [CoeHL] at h
    obtain ⟨A,As',rfl,h1,h2⟩:=h
    cases vs with
    | nil=>simp [RepL] at hr
    | cons v vs =>
      simp only [RepL] at hr ⊢
      exact ⟨CoeH.rep G B A v h1 hr.1,CoeHL.repL G Bs As' vs h2 hr.2⟩
end
structure Kept (p:Nat→Bool) (c c':Cz):Prop where
  imm:∀ b,c.imm b→(c.old b∨∃ n,p n=false∧c.names n=some b)→c'.imm b∧c'.w.heap[b]?=c.w.heap[b]?
  nam:∀ n b,p n=false→c.names n=some b→c'.names n=some b
  used:∀ v,c.used v→c'.used v
  loc:∀ r v,c.used v→(c'.hp r).ver=some v→(c.hp r).ver=some v∧c'.loc r=c.loc r
  old:c'.old=c.old
mutual
theorem Rep.cl {c c':Cz} (K:Kept p c c'):∀ (A:AVal) (v:Value),Rep c A v→Rep c' (A.cl p) v
  | .any,_,_=>by simp [AVal.cl,Rep]
  | .val x,v,h=>by simpa [AVal.cl,Rep] using h
  | .ro nm k [],v,h=>by
    simp only [AVal.cl,Rep] at h ⊢
    obtain ⟨base,len,cap,hv,hk,hl,hm,hn,_⟩:=h
    exact ⟨base,len,cap,hv,hk,hl,hm,fun n e=>⟨(hn n e).1,.inl rfl⟩,.inl rfl⟩
  | .ro none k (A :: cs),v,h=>by simp [AVal.cl,Rep]
  | .ro (some none) k (A :: cs),v,h=>by simp [AVal.cl,Rep]
  | .ro (some (some (n+1))) k (A :: cs),v,h=>by
    simp only [AVal.cl]
    by_cases hp:p n=true
    · rw [if_pos hp];simp [Rep]
    · rw [if_neg hp]
      have hpf:p n=false:=by simpa using hp
      simp only [Rep] at h ⊢
      obtain ⟨base,len,cap,hv,hk,hl,hm,hn,hc⟩:=h
      rcases hc with hc | ⟨b,off,hb,hi,hr⟩
      · simp at hc
      · rcases (hn _ rfl).2 with h0 | ⟨b',off',hb',hnm⟩
        · simp at h0
        · rw [hb] at hb'
          cases hb'
          have hkk:=K.imm b hi (.inr ⟨n,hpf,hnm.1⟩)
          refine ⟨base,len,cap,hv,hk,by rw [clL_eq,List.length_map];exact hl,hm,?_,.inr ⟨b,off,hb,hkk.1,RepAt.cl K hkk.2 (A :: cs) off hr⟩⟩
          intro n0 e
          simp only [Option.some.injEq] at e;subst e
          exact ⟨(hn _ rfl).1,.inr ⟨b,off,hb,K.nam n b hpf hnm.1,Cz.fit_of hnm.2 hkk.2⟩⟩
  | .ro (some (some 0)) k (A :: cs),v,h=>by
    simp only [AVal.cl]
    simp only [Rep] at h ⊢
    obtain ⟨base,len,cap,hv,hk,hl,hm,hn,hc⟩:=h
    refine ⟨base,len,cap,hv,hk,by rw [clL_eq,List.length_map];exact hl,hm,?_,?_⟩
    · intro n0 e
      simp only [Option.some.injEq] at e;subst e
      refine ⟨(hn _ rfl).1,?_⟩
      rcases (hn _ rfl).2 with h0 | ⟨b,off,hb,hnm⟩
      · simp at h0
      · exact .inr ⟨b,off,hb,by show c'.old b;rw [K.old];exact hnm⟩
    · rcases hc with hc | ⟨b,off,hb,hi,hr⟩
      · simp at hc
      · rcases (hn _ rfl).2 with h0 | ⟨b',off',hb',hnm⟩
        · simp at h0
        · rw [hb] at hb'
          cases hb'
          exact .inr ⟨b,off,hb,(K.imm b hi (.inl hnm)).1,RepAt.cl K (K.imm b hi (.inl hnm)).2 (A :: cs) off hr⟩
  | .own r ver,v,h=>by
    simp only [AVal.cl,Rep] at h ⊢
    refine ⟨K.used _ h.1,fun hr=>?_⟩
    obtain ⟨h1,h2⟩:=K.loc r ver h.1 hr
    exact (h.2 h1).trans h2.symm
  | .st cs,v,h=>by
    simp only [AVal.cl,Rep] at h ⊢
    obtain ⟨vs,hv,hl⟩:=h
    exact ⟨vs,hv,RepL.cl K cs vs.toList hl⟩
  | .tup cs,v,h=>by
    simp only [AVal.cl,Rep] at h ⊢
    obtain ⟨vs,hv,hl⟩:=h
    exact ⟨vs,hv,RepL.cl K cs vs.toList hl⟩
  | .ptr r ver off,v,h=>by
    simp only [AVal.cl,Rep] at h ⊢
    refine ⟨K.used _ h.1,fun hr=>?_⟩
    obtain ⟨h1,h2⟩:=K.loc r ver h.1 hr
    rw [h2];exact h.2 h1
  | .rp cs off,v,h=>by simp [AVal.cl,Rep]
  | .mp r ver,v,h=>by
    simp only [AVal.cl,Rep] at h ⊢
    refine ⟨K.used _ h.1,fun hr=>?_⟩
    obtain ⟨h1,h2⟩:=K.loc r ver h.1 hr
    exact (h.2 h1).trans h2.symm
  | .clo f caps,v,h=>by
    simp only [AVal.cl,Rep] at h ⊢
    obtain ⟨vs,hv,hl⟩:=h
    exact ⟨vs,hv,RepL.cl K caps vs.toList hl⟩
theorem RepAt.cl {c c':Cz} (K:Kept p c c') {b:Nat} (hb:c'.w.heap[b]?=c.w.heap[b]?):∀ (cs:List AVal) (off:Nat),RepAt c b off cs→RepAt c' b off (clL p cs)
  | [],_,_=>by simp [clL,RepAt]
  | A :: cs,off,h=>by
    simp only [clL,RepAt] at h ⊢
    obtain ⟨⟨v,hv,hr⟩,ht⟩:=h
    refine ⟨⟨v,?_,Rep.cl K A v hr⟩,RepAt.cl K hb cs (off+1) ht⟩
    rw [World.cell?_of_block (w:=c.w) hb];exact hv
theorem RepL.cl {c c':Cz} (K:Kept p c c'):∀ (cs:List AVal) (vs:List Value),RepL c cs vs→RepL c' (clL p cs) vs
  | [],[],_=>by simp [clL,RepL]
  | [],_ :: _,h=>by simp [RepL] at h
  | _ :: _,[],h=>by simp [RepL] at h
  | A :: cs,v :: vs,h=>by
    simp only [clL,RepL] at h ⊢
    exact ⟨Rep.cl K A v h.1,RepL.cl K cs vs h.2⟩
end
theorem ObjRep.cl {c c':Cz} (K:Kept p c c') {v:Value} {o:AObj} (h:ObjRep c v o) (hb:∀ b,blockOf v=some b→c'.w.heap[b]?=c.w.heap[b]?):ObjRep c' v (o.cl p):=by
  cases o with
  | gone=>trivial
  | box ver cs =>
    obtain ⟨g,t,cells,rfl,hg,hr⟩:=h
    exact ⟨g,t,cells,rfl,by rw [hb g rfl];exact hg,RepL.cl K _ _ hr⟩
  | row ver k nn cs =>
    obtain ⟨base,n,cap,rfl,h1,h2,h3,h4,h5,hc⟩:=h
    refine ⟨base,n,cap,rfl,h1,by rw [clL_eq,List.length_map];exact h2,h3,h4,h5,?_⟩
    rcases hc with hc | ⟨g,off,t,cells,rfl,hg,h6,h7⟩
    · exact .inl hc
    · by_cases h0:cap=0
      · exact .inl h0
      · exact .inr ⟨g,off,t,cells,rfl,by rw [hb g (by simp [blockOf,h0])];exact hg,h6,RepL.cl K _ _ h7⟩
  | map ver ks vs =>
    obtain ⟨g,clock,ents,rfl,hg,h1,h2⟩:=h
    exact ⟨g,clock,ents,rfl,by rw [hb g rfl];exact hg,h1,RepL.cl K _ _ h2⟩
  | it ver d=>exact h.it_none hb
def Cz.beh (p:Nat→Bool) (c:Cz) (w':World):Cz:={ c with w:=w',hp:=fun r=>(c.hp r).cl p,names:=fun n=>if p n=true then none else c.names n }
theorem beh_names {p:Nat→Bool} {c:Cz} {w':World} {n b:Nat} (h:(Cz.beh p c w').names n=some b):p n=false∧c.names n=some b:=by
  have h:(if p n=true then none else c.names n)=some b:=h
  split at h
  · cases h
  · rename_i hp;exact ⟨by simpa using hp,h⟩
theorem beh_good (G:Good w0 outs c) {c1:Cz} (G1:Good c.w (c.named p) c1):Good w0 outs (c.beh p c1.w)∧Kept p c (c.beh p c1.w):=by
  have hne:∀ b,b<c.w.heap.size→¬ c.named p b→c1.w.heap[b]?=c.w.heap[b]?:=fun b h1 h2=>G1.frame b h1 h2
  have hgo:∀ r,(c.beh p c1.w).hp r≠.gone↔c.hp r≠.gone:=fun r=>not_congr AObj.cl_gone
  have hver:∀ r,((c.beh p c1.w).hp r).ver=(c.hp r).ver:=fun r=>AObj.cl_ver _ _
  have htk:∀ b,(c.beh p c1.w).taken b↔c.taken b:=fun b=>⟨fun ⟨r,h1,h2⟩=>⟨r,(hgo r).1 h1,h2⟩,fun ⟨r,h1,h2⟩=>⟨r,(hgo r).2 h1,h2⟩⟩
  have hsz:c.w.heap.size≤c1.w.heap.size:=G1.size
  have htn:∀ b,c.taken b→¬ c.named p b:=fun b ht hn=>(named_imm G hn).2.2 ht
  have K:Kept p c (c.beh p c1.w):=by
    refine ⟨?_,?_,fun v h=>h,?_,rfl⟩
    · rintro b ⟨h1,h2,h3⟩ ho
      refine ⟨⟨h1,Nat.lt_of_lt_of_le h2 hsz,fun h=>h3 ((htk b).1 h)⟩,hne b h2 fun hn=>?_⟩
      rcases ho with ho | ⟨n,hpn,hnm⟩
      · exact named_old G hn ho
      · obtain ⟨n',hpn',hnm'⟩:=hn
        rw [G.namInj n n' b hnm hnm',hpn'] at hpn;cases hpn
    · intro n b hpn hnm
      show (if p n=true then none else c.names n)=some b
      rw [if_neg (by rw [hpn];simp)];exact hnm
    · intro r v _ h
      rw [hver] at h;exact ⟨h,rfl⟩
  refine ⟨⟨G.base,?_,?_,?_,?_,?_,G.outExt,?_,?_,G.fin,?_,?_,?_,?_,?_⟩,K⟩
  · intro r
    by_cases hg:c.hp r=.gone
    · have:(c.beh p c1.w).hp r=.gone:=AObj.cl_gone.2 hg
      rw [this];trivial
    · refine (G.obj r).cl K fun b hb=>hne b ((G.obj r).lt hg hb) (htn b ⟨r,hg,hb⟩)
  · intro r r' b h1 h2 h3 h4;exact G.inj r r' b ((hgo r).1 h1) ((hgo r').1 h2) h3 h4
  · intro r b h1 h2;exact G.own r b ((hgo r).1 h1) h2
  · intro r v h
    rw [hver] at h
    refine ⟨(G.verU r v h).1,?_⟩
    show (if p v=true then none else c.names v)=none
    rw [(G.verU r v h).2];split <;> rfl
  · intro r r' v h1 h2
    rw [hver] at h1 h2
    exact G.verInj r r' v h1 h2
  · intro n b h
    obtain ⟨_,h⟩:=beh_names h
    obtain ⟨g1,g2,g3,g4⟩:=G.nam n b h
    exact ⟨g1,g2,Nat.lt_of_lt_of_le g3 hsz,fun h=>g4 ((htk b).1 h)⟩
  · intro n n' b h h'
    exact G.namInj n n' b (beh_names h).2 (beh_names h').2
  · exact G1.os.trans G.os
  · exact ⟨G1.tape.1.trans G.tape.1,Nat.le_trans G.tape.2 G1.tape.2⟩
  · exact G1.output.trans G.output
  · exact Nat.le_trans G.size hsz
  · intro b hb hn
    rw [← G.frame b hb hn]
    refine hne b (Nat.lt_of_lt_of_le hb G.size) ?_
    rintro ⟨n,_,hnm⟩
    rcases (G.nam n b hnm).2.1 with h | h
    · rw [G.base.1] at h;omega
    · exact hn h
end
end Go.Ab
namespace Go.Ab
def wpCall0 (P:Program) (pu:Bool) (σ:St) (g:FuncId) (As:List AVal) (d:Option Nat) (s:Nat→Nat) (K:St→Prop):Prop :=
  ∃ (m:List Nat) (ins:List AObj) (args:List AVal) (sh:Bool) (R:List AObj→List AObj→AVal→Prop),Con P g ins args sh R∧Handed σ.hp m ins (!sh)∧CoeL σ.hp m (!sh) args As∧(pu=true→m=[]∧∃ outs rows res,R outs rows res) ∧
    ∀ outs rows res,R outs rows res→outs.length=m.length∧rows.length≤1000∧(∀ i,i<rows.length→σ.hp (newId (d.getD 0) i)=.gone) ∧
      K (St.put { tm:=σ.tm,hp:=callHp σ.hp m (d.getD 0) s outs rows } d (res.ren (rid m (d.getD 0) rows.length) (sv σ.hp m s)))
def wpCallH (P:Program) (σ:St) (g:FuncId) (As:List AVal) (d:Option Nat) (K:St→Prop):Prop :=
  ∃ (p:Nat→Bool) (args:List AVal) (Q:Value→Prop),Con P g [] args true (fun outs rows res=>outs=[]∧rows=[]∧∃ v,Q v∧res=.val v)∧CoeHL p σ.hp args As∧∀ v,Q v→K (St.put (σ.cl p) d (.val v))
def wpCall (P:Program) (pu:Bool) (σ:St) (g:FuncId) (As:List AVal) (d:Option Nat) (s:Nat→Nat) (K:St→Prop):Prop :=
  wpCall0 P pu σ g As d s K∨(pu=false∧wpCallH P σ g As d K)
def wpCallN (P:Program) (nos:List Nat) (σ:St) (g:FuncId) (As:List AVal) (d:Option Nat) (s:Nat→Nat) (K:St→Prop):Prop :=
  ∃ (m:List Nat) (ins:List AObj) (args:List AVal) (sh:Bool) (R:List AObj→List AObj→AVal→Prop),Con P g ins args sh R∧Handed σ.hp m ins (!sh)∧CoeL σ.hp m (!sh) args As∧((∀ r∈m,r∈nos)∧∃ outs rows res,R outs rows res) ∧
    ∀ outs rows res,R outs rows res→outs.length=m.length∧rows=[]∧K (St.put { tm:=σ.tm,hp:=callHp σ.hp m (d.getD 0) s outs [] } d (res.ren (rid m (d.getD 0) 0) (sv σ.hp m s)))
theorem wpCallN_call {P:Program} {nos:List Nat} {σ:St} {g:FuncId} {As:List AVal} {d:Option Nat} {s:Nat→Nat} {K:St→Prop} (h:wpCallN P nos σ g As d s K):wpCall P false σ g As d s K:=by
  obtain ⟨m,ins,args,sh,R,h1,h2,h3,_,h5⟩:=h
  refine .inl ⟨m,ins,args,sh,R,h1,h2,h3,(fun e=>by cases e),fun outs rows res hR=>?_⟩
  obtain ⟨k1,rfl,k3⟩:=h5 outs rows res hR
  exact ⟨k1,by simp,by simp,k3⟩
def wpCk (P:Program) (pu:Bool):CM→St→FuncId→List AVal→Option Nat→(Nat→Nat)→(St→Prop)→Prop
  | .n=>wpCall P pu
  | .h=>wpCall P false
  | .m nos=>wpCallN P nos
theorem wpCk_f {P:Program}:wpCk P false .n=wpCall P false:=rfl
theorem wpCk_t {P:Program}:wpCk P true .n=wpCall P true:=rfl
theorem wpCk_h {P:Program} {pu:Bool}:wpCk P pu .h=wpCall P false:=rfl
theorem wpCk_m {P:Program} {pu:Bool} {nos:List Nat}:wpCk P pu (.m nos)=wpCallN P nos:=rfl
structure Hist (c0 c:Cz):Prop where
  used:∀ v,c0.used v→c.used v
  loc:∀ r v,c0.used v→(c.hp r).ver=some v→(c0.hp r).ver=some v∧c.loc r=c0.loc r
  ext:c.ext=c0.ext
  base:c.base=c0.base
  old:c.old=c0.old
theorem Hist.step {c0 c c':Cz} (h:Hist c0 c) (K:Keeps c c') (he:c'.ext=c.ext) (hb:c'.base=c.base):Hist c0 c':=by
  refine ⟨fun v hv=>K.used v (h.used v hv),fun r v hv hr=>?_,he.trans h.ext,hb.trans h.base,K.old.trans h.old⟩
  obtain ⟨h1,h2⟩:=K.loc r v (h.used v hv) hr
  obtain ⟨h3,h4⟩:=h.loc r v hv h1
  exact ⟨h3,h2.trans h4⟩
def cGuard (ops:Array Oper):Option (Nat×Bool)→Option (Option (Nat×Bool))
  | none=>some none
  | some (j,w)=>((ops[j]?).bind (·.dst)).map fun t=>some (t,w)
def cOper (P:Program) (N:Nat) (ops:Array Oper) (o:Oper):Option AOp :=
  match cGuard ops o.guard,cOp P N o with
  | some g,some x=>some ⟨o.dst,g,x⟩
  | _,_=>none
section
variable {P:Program} {w0:World} {outsC:Nat→Prop} {N:Nat} {σ:St} {o:Oper} {a:Act} {c c0:Cz} {s:Nat→Nat}
theorem calls_sound {pu:Bool} {g:FuncId} {As:List AVal} {K:St→Prop} {vs:List Value} (S:Sim w0 outsC N σ a c) (H0:Hist c0 c) (hs:∀ y,¬ c.used (s y)) (hsi:∀ y y',s y=s y'→y=y')
    (hd:∀ d,o.dst=some d→d<N) (hv:RepL c As vs) (h:wpCall P pu σ g As o.dst s K) :
    (∃ fn,P.funcs[g]?=some fn∧fn.body.isSome=true∧isNumG fn=false)∧Calls P g vs.toArray c.w fun e w'=>∃ v,e=.returned v∧∃ σ' c',K σ'∧Sim w0 outsC N σ' (a.put o.dst v) c'∧c'.w=w'∧Hist c0 c'∧(∀ u,c'.used u→c.used u∨∃ y,u=s y):=by
  rcases h with h | ⟨_,h⟩
  rotate_left
  · obtain ⟨p,args,Q,hcon,hco,hK⟩:=h
    refine ⟨hcon.1,?_⟩
    have G:=S.good
    rw [← S.hp] at hco
    have hargs:=CoeHL.repL G _ _ _ hco hv
    refine (hcon.2 (c.enh p) (c.named p) vs (enh_good G) (by funext n;show AObj.gone=outHp [] [] n;simp [outHp]) hargs).mono ?_
    rintro e w' ⟨v,c1,outs,rows,res,⟨rfl,rfl,x,hQ,rfl⟩,he,hw,G1,_,hrep,_⟩
    have hvx:v=x:=by simpa [Rep] using hrep
    subst hvx
    obtain ⟨G2,K2⟩:=beh_good G G1
    have S2:Sim w0 outsC N (σ.cl p) a (c.beh p c1.w):=⟨G2,by show (fun r=>(c.hp r).cl p)=_;rw [S.hp];rfl,S.size,fun n=>Rep.cl K2 _ _ (S.tm n),S.defers⟩
    refine ⟨v,he,_,c.beh p c1.w,hK v hQ,S2.put (Keeps.refl _) G2 S2.hp (by simp [Rep]) hd,hw,⟨H0.used,?_,H0.ext,H0.base,H0.old⟩,fun u hu=>.inl hu⟩
    intro r u hu h
    have h':((c.hp r).cl p).ver=some u:=h
    rw [AObj.cl_ver] at h'
    exact H0.loc r u hu h'
  obtain ⟨m,ins,args,sh,R,hcon,hH,hco,_,hK⟩:=h
  refine ⟨hcon.1,?_⟩
  rw [← S.hp] at hH hco
  have hG0:=entry_good S.good hH
  have hargs:=CoeL.repL S.good hH _ _ _ hco hv
  refine (hcon.2 (c.entry m ins (!sh)) (fun b=>lentB c m b) vs hG0 rfl hargs).mono ?_
  rintro e w' ⟨v,c1,outs,rows,res,hR,he,hw,G1,hhp,hrep,hext,hold,hkeep,_⟩
  obtain ⟨hl,hr,hnew,hk⟩:=hK outs rows res hR
  rw [← S.hp] at hnew hk
  obtain ⟨G2,K2,R2⟩:=back_good S.good hH hs hsi G1 hhp hext hkeep hold hl hr hnew
  refine ⟨v,he,_,_,hk,S.put K2 G2 rfl (Rep.ren R2 _ _ (fun h=>by cases h) hrep) hd,hw,H0.step K2 rfl rfl,?_⟩
  rintro u (hu | ⟨y,hy,rfl⟩)
  · exact .inl hu
  · unfold sv
    by_cases hyl:y<m.length
    · rw [if_pos hyl]
      left
      have hmem:m.getD y 0∈m:=by
        rw [List.getD_eq_getElem?_getD,List.getElem?_eq_getElem hyl];exact List.getElem_mem hyl
      have hlive:=hH.live _ hmem
      cases ho:c.hp (m.getD y 0) with
      | gone=>exact absurd ho hlive
      | box v' cs=>exact (S.good.verU _ _ (by rw [ho];rfl)).1
      | row v' k nn cs=>exact (S.good.verU _ _ (by rw [ho];rfl)).1
      | map v' ks vs'=>exact (S.good.verU _ _ (by rw [ho];rfl)).1
      | it v' d=>exact (S.good.verU _ _ (by rw [ho];rfl)).1
    · rw [if_neg hyl];exact .inr ⟨y,rfl⟩
theorem numG_name {fn : Func} (h : isNumG fn = false) : (fn.name == "runtime.NumGoroutine") = false := by
  cases hn : fn.name == "runtime.NumGoroutine" with
  | false=>rfl
  | true =>
    have : fn.name = "runtime.NumGoroutine" := by simpa using hn
    unfold isNumG at h
    rw [this] at h
    exact absurd h (by decide)
theorem run_callFunc {g:FuncId} {w:World} {args:Array Value} (h:∃ fn,P.funcs[g]?=some fn∧fn.body.isSome=true∧isNumG fn=false):(callFunc g args).run P w=.ok (.enter g args) w:=by
  obtain ⟨fn,h1,h2,h3⟩:=h
  have h4:=numG_name h3
  obtain ⟨b,hb⟩:=Option.isSome_iff_exists.1 h2
  simp [callFunc,h1,hb]
  intro h5
  simp [h5] at h4
def Post (w0:World) (outsC:Nat→Prop) (N:Nat) (c0 c:Cz) (s:Nat→Nat) (K:St→Prop):Act→World→Prop:=fun a' w' =>
  ∃ σ' c',K σ'∧Sim w0 outsC N σ' a' c'∧c'.w=w'∧Hist c0 c'∧(∀ u,c'.used u→c.used u∨∃ y,u=s y)
theorem cOp_it {k:Nat} {y:AOpd} (h:cOp P N o=some (.it k y)):(∃ t x kt et,k=0∧o.op=.range t x∧P.underlying t=some (.map kt et)∧cOpd x=some y)∨(∃ x,k=1∧o.op=.next x false∧cOpd x=some y)∨(∃ x,k=2∧o.op=.entry x∧cOpd x=some y):=by
  unfold cOp at h
  by_cases hb:dstBad N o.dst=true
  · rw [if_pos hb] at h;cases h
  · rw [if_neg hb] at h
    unfold cOp1 at h
    split at h <;> first
      | (cases h;done)
      | (rename_i ho _;split at h <;> first | (cases h;done) | (rename_i ht hx;cases h;exact .inl ⟨_,_,_,_,rfl,ho,ht,hx⟩))
      | (rename_i ho _;simp only [Option.map_eq_some_iff] at h;obtain ⟨b,hb',e⟩:=h;cases e;exact .inr (.inl ⟨_,rfl,ho,hb'⟩))
      | (rename_i ho _;simp only [Option.map_eq_some_iff] at h;obtain ⟨b,hb',e⟩:=h;cases e;exact .inr (.inr ⟨_,rfl,ho,hb'⟩))
      | (exfalso;simp only [Option.map_eq_some_iff] at h;obtain ⟨b,hb',e⟩:=h;cases e;done)
      | (exfalso;repeat' split at h) <;> first | (cases h;done) | (simp at h;done)
theorem filter_born:∀ (l:List MapEntry) (j:Nat) (e:MapEntry),(l.map (·.born)).Nodup→l[j]?=some e→l.filter (fun x=>x.born != e.born)=l.eraseIdx j
  | [],_,_,_,h=>by simp at h
  | x :: l,0,e,hn,h=>by
    simp only [List.getElem?_cons_zero,Option.some.injEq] at h
    subst h
    rw [List.map_cons,List.nodup_cons] at hn
    rw [List.filter_cons,List.eraseIdx_cons_zero,bne_self_eq_false,if_neg Bool.false_ne_true]
    refine List.filter_eq_self.2 fun y hy=>?_
    simp only [bne_iff_ne,ne_eq]
    intro h
    exact hn.1 (h ▸ List.mem_map.2 ⟨y,hy,rfl⟩)
  | x :: l,j+1,e,hn,h=>by
    simp only [List.getElem?_cons_succ] at h
    rw [List.map_cons,List.nodup_cons] at hn
    have hx:(x.born != e.born)=true:=by
      simp only [bne_iff_ne,ne_eq]
      intro h'
      exact hn.1 (h' ▸ List.mem_map.2 ⟨e,List.mem_of_getElem? h,rfl⟩)
    rw [List.filter_cons,if_pos hx,List.eraseIdx_cons_succ,filter_born l j e hn.2 h]
theorem RepL.get_back {c:Cz}:∀ {cs:List AVal} {vs:List Value} {i:Nat} {v:Value},RepL c cs vs→vs[i]?=some v→∃ A,cs[i]?=some A∧Rep c A v
  | [],[],_,_,_,e=>by simp at e
  | [],_ :: _,_,_,h,_=>by simp [RepL] at h
  | _ :: _,[],_,_,h,_=>by simp [RepL] at h
  | A :: cs,x :: vs,0,v,h,e=>by
    simp only [RepL] at h
    simp at e;subst e
    exact ⟨A,rfl,h.1⟩
  | A :: cs,x :: vs,i+1,v,h,e=>by
    simp only [RepL] at h
    simpa using RepL.get_back (i:=i) (v:=v) h.2 (by simpa using e)
theorem RepL.erase {c:Cz}:∀ {cs:List AVal} {vs:List Value},RepL c cs vs→∀ i,RepL c (cs.eraseIdx i) (vs.eraseIdx i)
  | [],[],_,i=>by simp [RepL]
  | [],_ :: _,h,_=>by simp [RepL] at h
  | _ :: _,[],h,_=>by simp [RepL] at h
  | A :: cs,x :: vs,h,0=>by simp only [RepL] at h;exact h.2
  | A :: cs,x :: vs,h,i+1=>by
    simp only [RepL,List.eraseIdx_cons_succ] at h ⊢
    exact ⟨h.1,RepL.erase h.2 i⟩
theorem it_sound {k:Nat} {y:AOpd} {K:St→Prop} {Q:Exit→Act→World→Prop} (hins:cOp P N o=some (.it k y)) (S:Sim w0 outsC N σ a c) (H0:Hist c0 c) (hs0:¬ c.used (s 0))
    (hd:∀ d,o.dst=some d→d<N) (h:wpIt (s 0) o.dst σ K k (σ.ev y)):o.wp P a c.w (Post w0 outsC N c0 c s K) Q:=by
  rcases cOp_it hins with ⟨t,x,kt,et,rfl,hop,ht,hx⟩ | ⟨x,rfl,hop,hx⟩ | ⟨x,rfl,hop,hx⟩
  · have e1:=S.ev hx
    unfold wpIt at h
    split at h <;> (try (exact h.elim)) <;> (try (rename_i hh _;exact absurd hh (by decide)))
    · rename_i r v heq0 heq
      rw [heq] at e1
      split at h
      · rename_i v' ks vs hr
        obtain ⟨rfl,hdg,hK⟩:=h
        rw [← S.hp] at hr hdg
        simp only [Rep] at e1
        have hev:=e1.2 (by rw [hr];rfl)
        have hO:=S.good.obj r
        rw [hr] at hO
        obtain ⟨b,clock,ents,hloc,hb,⟨hks,hnb,hlb⟩,hvs⟩:=hO
        have hrg:c.hp r≠.gone:=by rw [hr];simp
        have hne:o.dst.getD 0≠r:=fun e=>hrg (e ▸ hdg)
        have hbl:blockOf (c.loc r)=some b:=by rw [hloc];rfl
        obtain ⟨G1,K1⟩:=S.good.upd c.w r .gone (c.loc r) v' rfl rfl rfl (Nat.le_refl _) (fun _ _ _=>rfl) (fun q hq=>⟨.inl ⟨hrg,hq⟩,by rw [hbl] at hq;cases hq;exact block_lt_of_some hb⟩) (.inl rfl) (fun _=>trivial)
        have himm:(c.upd c.w r .gone (c.loc r) v').imm b:=by
          refine ⟨?_,block_lt_of_some hb,?_⟩
          · rcases S.good.own r b hrg hbl with h | h
            · exact .inr h
            · exact .inl (S.good.outExt b h).1
          · rintro ⟨r',h1,h2⟩
            by_cases e:r'=r
            · subst e;simp [Cz.upd] at h1
            · simp only [Cz.upd,if_neg e] at h1 h2
              exact e (S.good.inj _ _ _ h1 hrg h2 hbl)
        have hs1:¬ (c.upd c.w r .gone (c.loc r) v').used (s 0):=by
          rintro (h | h)
          · exact hs0 h
          · exact hs0 (h ▸ e1.1)
        have hdg1:(c.upd c.w r .gone (c.loc r) v').hp (o.dst.getD 0)=.gone:=by simp only [Cz.upd,if_neg hne];exact hdg
        obtain ⟨G2,K2⟩:=G1.new hdg1 hs1 (.mapIter (some b) clock #[] clock) (.it (s 0) (some (false,ks,vs))) (.pointer (some ⟨c.w.heap.size,0,none⟩)) rfl (c.w.alloc (.mapIter (some b) clock #[] clock)) rfl rfl rfl rfl
          (by intro q hq;simp only [blockOf,Option.some.injEq] at hq;exact hq.symm)
          (fun K2=>by
            have hh:=(K2.imm b himm)
            refine ⟨c.w.heap.size,rfl,by show _<(c.w.heap.push _).size;simp,b,clock,clock,clock,#[],ents,ents.toList,heap_alloc_new c.w _,hh.1,hh.2.trans hb,⟨hnb,hlb,⟨Nat.le_refl _,Nat.le_refl _,fun _=>rfl⟩,by simp only [ItIs,Array.toList_filter];exact (List.filter_eq_self.2 (by simp)).symm,hks⟩,RepL.keeps K2 _ _ (RepL.keeps K1 _ _ hvs)⟩)
        have hrun:(execOp a.eval o).run P c.w=.ok (.value (.pointer (some ⟨c.w.heap.size,0,none⟩))) (c.w.alloc (.mapIter (some b) clock #[] clock)):=by
          have:=run_range_map (P:=P) c.w t kt et b ents clock ht hb
          simp only [execOp,hop,hev,hloc]
          simp [this]
        unfold Oper.wp
        rw [hrun]
        refine ⟨_,_,hK,S.put (K1.trans K2) G2 (by simp only [Cz.upd,S.hp]) ?_ hd,rfl,H0.step (K1.trans K2) rfl rfl,?_⟩
        · simp only [Rep]
          exact ⟨.inr rfl,fun _=>by simp [Cz.upd]⟩
        · rintro u ((h | rfl) | rfl)
          · exact .inl h
          · exact .inl e1.1
          · exact .inr ⟨0,rfl⟩
      · exact h.elim
  · have e1:=S.ev hx
    unfold wpIt at h
    split at h <;> (try (exact h.elim)) <;> (try (rename_i hh _;exact absurd hh (by decide)))
    · rename_i r v heq0 heq
      rw [heq] at e1
      split at h
      · rename_i v' cur ks vs hr
        obtain ⟨rfl,hend,hgo⟩:=h
        rw [← S.hp] at hr
        simp only [Rep] at e1
        have hev:=e1.2 (by rw [hr];rfl)
        have hO:=S.good.obj r
        rw [hr] at hO
        obtain ⟨b,hloc,hbl,m,since,c0',clock,seen,ents,es,h1,h2,h3,⟨hnb,hold,⟨hsc,hsk,_⟩,hit,hks⟩,hvs⟩:=hO
        have hrg:c.hp r≠.gone:=by rw [hr];simp
        have hblk:blockOf (c.loc r)=some b:=by rw [hloc];rfl
        have hleft:∃ es1,es1=(leftOf ents seen).toList∧es1.map (·.key)=(if cur=true then ks.tail else ks)∧RepL c (if cur=true then vs.tail else vs) (es1.map (·.val)):=by
          cases cur with
          | false=>exact ⟨es,hit,hks,hvs⟩
          | true =>
            obtain ⟨e,he,_,_⟩:=hit
            subst he
            refine ⟨_,rfl,by rw [← hks];rfl,?_⟩
            cases vs with
            | nil=>simp [RepL] at hvs
            | cons A vs =>
              simp only [List.map_cons,RepL] at hvs
              exact hvs.2
        obtain ⟨es1,hes1,hk1,hv1⟩:=hleft
        generalize (if cur=true then ks.tail else ks)=ks1 at hend hgo hk1
        generalize (if cur=true then vs.tail else vs)=vs1 at hgo hv1
        rcases run_next_at (P:=P) c.w o.type b m since c0' seen ents clock h1 h3 hold hsc with ⟨h0,hrun⟩ | ⟨e,he,w1,hw1,hrun⟩
        · have hks0:ks1=[]:=by
            rw [← hk1,hes1,List.eq_nil_of_length_eq_zero (l:=(leftOf ents seen).toList) (by simpa using h0)];rfl
          have hr':(execOp a.eval o).run P c.w=.ok (.value (.tuple #[.bool false])) c.w:=by
            simp only [execOp,hop,hev,hloc];simp [hrun]
          unfold Oper.wp
          rw [hr']
          exact ⟨_,c,hend hks0,S.put (Keeps.refl c) S.good S.hp (by simp [Rep,RepL]) hd,rfl,H0,fun u hu=>.inl hu⟩
        · obtain ⟨j,hj⟩:=List.getElem?_of_mem (hes1 ▸ he:e∈es1)
          have hkj:ks1[j]?=some e.key:=by rw [← hk1,List.getElem?_map,hj];rfl
          have hvj:(es1.map (·.val))[j]?=some e.val:=by rw [List.getElem?_map,hj];rfl
          obtain ⟨A,hA,hrA⟩:=RepL.get_back hv1 hvj
          have hr':(execOp a.eval o).run P c.w=.ok (.value (.tuple #[.bool true,e.key,e.val])) (ChangeMaps.setBlock w1 b (.mapIter (some m) since (seen.push e.born) clock)):=by
            simp only [execOp,hop,hev,hloc];simp [hrun]
          have hheap:w1.heap=c.w.heap:=by rcases hw1 with rfl | rfl <;> rfl
          have hmem:e∈ents.toList:=by
            rw [leftOf,Array.toList_filter,List.mem_filter] at he
            exact he.1
          have hlft:(ents.filter fun x=>!(seen.push e.born).contains x.born).toList=es1.eraseIdx j:=by
            rw [← filter_born es1 j e ?_ hj,hes1,leftOf,Array.toList_filter,Array.toList_filter,List.filter_filter]
            · refine List.filter_congr fun x _=>?_
              rw [Array.contains_push]
              cases hc1:seen.contains x.born <;> cases hc2:(x.born == e.born) <;> simp_all [bne]
            · rw [hes1,leftOf,Array.toList_filter]
              exact hnb.sublist (List.filter_sublist.map _)
          obtain ⟨G1,K1⟩:=S.good.upd (ChangeMaps.setBlock w1 b (.mapIter (some m) since (seen.push e.born) clock)) r (.it v' (some (true,e.key :: ks1.eraseIdx j,A :: vs1.eraseIdx j))) (c.loc r) v'
            (by rcases hw1 with rfl | rfl <;> rfl) (by rcases hw1 with rfl | rfl <;> rfl) (by rcases hw1 with rfl | rfl <;> rfl) (by simp [ChangeMaps.setBlock,hheap])
            (fun q _ hq=>by
              show (w1.heap.setIfInBounds b _)[q]?=_
              rw [hheap,Array.getElem?_setIfInBounds_ne (by intro e;subst e;exact hq ⟨hrg,hblk⟩)])
            (fun q hq=>⟨.inl ⟨hrg,hq⟩,by
              rw [hblk] at hq;cases hq
              show b<(w1.heap.setIfInBounds b _).size
              simpa [hheap] using hbl⟩)
            (.inr (.inr ⟨by rw [hr];rfl,rfl,e1.1⟩))
            (fun K=>by
              refine ⟨b,hloc,?_,m,since,clock,clock,seen.push e.born,ents,e :: es1.eraseIdx j,?_,(K.imm m h2).1,(K.imm m h2).2.trans h3,⟨hnb,hold,⟨hsk,hsk,fun _=>rfl⟩,⟨e,by rw [hlft],hmem,seen,rfl⟩,?_⟩,?_⟩
              · show b<(w1.heap.setIfInBounds b _).size
                simpa [hheap] using hbl
              · show (w1.heap.setIfInBounds b _)[b]?=_
                rw [Array.getElem?_setIfInBounds_self_of_lt (by rw [hheap];exact hbl)]
              · rw [List.map_cons,← hk1,ChangeMaps.map_eraseIdx]
              · rw [List.map_cons,ChangeMaps.map_eraseIdx]
                simp only [RepL]
                exact ⟨Rep.keeps K _ _ hrA,(RepL.keeps K _ _ hv1).erase j⟩)
            (hdr:=by rcases hw1 with rfl | rfl;exact Nat.le_refl _;exact Nat.le_succ _)
          unfold Oper.wp
          rw [hr']
          refine ⟨_,_,hgo j e.key A hkj hA,S.put K1 G1 (by simp only [Cz.upd,S.hp]) ?_ hd,rfl,H0.step K1 rfl rfl,?_⟩
          · simp only [Rep]
            exact ⟨_,rfl,by simp only [RepL,Rep];exact ⟨trivial,trivial,Rep.keeps K1 _ _ hrA,trivial⟩⟩
          · rintro u (h | rfl)
            · exact .inl h
            · exact .inl e1.1
      · exact h.elim
  · have e1:=S.ev hx
    unfold wpIt at h
    split at h <;> (try (exact h.elim)) <;> (try (rename_i hh _;exact absurd hh (by decide)))
    · rename_i r v heq0 heq
      rw [heq] at e1
      split at h
      · rename_i v' k ks A vs hr
        obtain ⟨rfl,hK⟩:=h
        rw [← S.hp] at hr
        simp only [Rep] at e1
        have hev:=e1.2 (by rw [hr];rfl)
        have hO:=S.good.obj r
        rw [hr] at hO
        obtain ⟨b,hloc,hbl,m,since,c0',clock,seen,ents,es,h1,h2,h3,⟨hnb,hold,⟨_,_,hcc⟩,hit,hks⟩,hvs⟩:=hO
        obtain rfl:=hcc rfl
        obtain ⟨e,rfl,hmem,seen',rfl⟩:=hit
        simp only [List.map_cons,List.cons.injEq] at hks
        obtain ⟨rfl,_⟩:=hks
        simp only [List.map_cons,RepL] at hvs
        have hrun:=run_entry_at (P:=P) c.w b m since seen' ents _ e h1 h3 hmem hnb
        have hr':(execOp a.eval o).run P c.w=.ok (.value (.tuple #[e.key,e.val])) c.w:=by
          simp only [execOp,hop,hev,hloc];simp [hrun]
        unfold Oper.wp
        rw [hr']
        refine ⟨_,c,hK,S.put (Keeps.refl c) S.good S.hp ?_ hd,rfl,H0,fun u hu=>.inl hu⟩
        simp only [Rep]
        exact ⟨_,rfl,by simp only [RepL,Rep];exact ⟨trivial,hvs.1,trivial⟩⟩
      · exact h.elim
theorem op_sound {fa pu:Bool} {ops:Array Oper} {i:Nat} {x:AOp} {K:St→Prop} {Q:Exit→Act→World→Prop} (ho:ops[i]?=some o) (hc:cOper P N ops o=some x) (S:Sim w0 outsC N σ a c) (H0:Hist c0 c)
    (hs:∀ y,¬ c.used (s y)) (hsi:∀ y y',s y=s y'→y=y') (h:wpOp fa (wpCk P pu) s x σ K):Go.wpOp P ops Q i (Post w0 outsC N c0 c s K) a c.w:=by
  unfold cOper at hc
  split at hc
  · rename_i g ins hg hins
    simp only [Option.some.injEq] at hc;subst hc
    have hd:∀ d,o.dst=some d→d<N:=by
      intro d e
      unfold cOp at hins
      by_cases hb:dstBad N o.dst=true
      · rw [if_pos hb] at hins;cases hins
      · rw [e] at hb;simp [dstBad] at hb;exact hb
    have go:wpIns fa (wpCk P pu) s o.dst σ K ins→o.wp P a c.w (Post w0 outsC N c0 c s K) Q:=by
      intro hgo
      cases ins with
      | i y =>
        obtain ⟨hpre,hk⟩:=hgo
        obtain ⟨⟨v,c',hrun,G',K',hhp,hrep,hu,hx,hb⟩,hfact,_⟩:=sound_i hins S (hs 0) hpre
        have hS:=S.put K' G' hhp hrep hd
        have hpost:∀ w',c'.w=w'→Post w0 outsC N c0 c s K (a.put o.dst v) w':=fun w' e =>
          ⟨_,c',hk (fun _=>hfact),hS,e,H0.step K' hx hb,fun u hu'=>by rcases hu u hu' with h | h;exact .inl h;exact .inr ⟨0,h⟩⟩
        unfold Oper.wp
        rcases hrun with hrun | ⟨rfl,hrun⟩
        · rw [hrun];exact hpost _ rfl
        · rw [hrun];exact hpost _ rfl
      | call g xs =>
        have hop:∃ args ts,o.op=.call { callee:=.value (.func g),args:=args,argTypes:=ts }∧cOpds args.toList=some xs:=by
          unfold cOp at hins
          by_cases hb:dstBad N o.dst=true
          · rw [if_pos hb] at hins;cases hins
          · rw [if_neg hb] at hins
            unfold cOp1 at hins
            split at hins <;> first
              | (rename_i ho' _;simp only [Option.map_eq_some_iff] at hins;obtain ⟨b,hb',e⟩:=hins;cases e;exact ⟨_,_,ho',hb'⟩)
              | (rename_i ho';simp only [Option.map_eq_some_iff] at hins;obtain ⟨b,hb',e⟩:=hins;cases e;exact ⟨_,_,ho',hb'⟩)
              | (exfalso;simp only [Option.map_eq_some_iff] at hins;obtain ⟨b,hb',e⟩:=hins;cases e;done)
              | (exfalso;repeat' split at hins) <;> first | (cases hins;done) | (simp at hins;done)
        obtain ⟨args,ts,hop,hxs⟩:=hop
        obtain ⟨hfn,hcalls⟩:=calls_sound (o:=o) (pu:=pu) S H0 hs hsi hd (S.evs hxs) hgo
        have hrun:(execOp a.eval o).run P c.w=.ok (.enter g (args.toList.map a.eval).toArray) c.w:=by
          have h1:=run_callFunc (w:=c.w) (args:=(args.toList.map a.eval).toArray) hfn
          have h2:args.map a.eval=(args.toList.map a.eval).toArray:=by apply Array.ext';simp
          simp only [execOp,hop,resolve,Sem.run_bind]
          have h3:a.eval (.func g)=.func (.func g) #[] #[]:=rfl
          simp [h3,Deferred.ofValue,invoke,h2,h1]
        unfold Oper.wp
        rw [hrun]
        simp only [Oper.upon]
        refine hcalls.mono ?_
        rintro e w' ⟨v,rfl,σ',c',h1,h2,h3,h4,h5⟩
        exact ⟨σ',c',h1,h2,h3,h4,h5⟩
      | calh g xs =>
        exfalso
        unfold cOp at hins
        by_cases hb:dstBad N o.dst=true
        · rw [if_pos hb] at hins;cases hins
        · rw [if_neg hb] at hins
          unfold cOp1 at hins
          split at hins <;> first
            | (simp only [Option.map_eq_some_iff] at hins;obtain ⟨b,hb',e⟩:=hins;cases e;done)
            | (repeat' split at hins) <;> first | (cases hins;done) | (simp at hins;done)
      | calvh f xs =>
        exfalso
        unfold cOp at hins
        by_cases hb:dstBad N o.dst=true
        · rw [if_pos hb] at hins;cases hins
        · rw [if_neg hb] at hins
          unfold cOp1 at hins
          split at hins <;> first
            | (simp only [Option.map_eq_some_iff] at hins;obtain ⟨b,hb',e⟩:=hins;cases e;done)
            | (repeat' split at hins) <;> first | (cases hins;done) | (simp at hins;done)
      | calm nos g xs =>
        exfalso
        unfold cOp at hins
        by_cases hb:dstBad N o.dst=true
        · rw [if_pos hb] at hins;cases hins
        · rw [if_neg hb] at hins
          unfold cOp1 at hins
          split at hins <;> first
            | (simp only [Option.map_eq_some_iff] at hins;obtain ⟨b,hb',e⟩:=hins;cases e;done)
            | (repeat' split at hins) <;> first | (cases hins;done) | (simp at hins;done)
      | r nos x =>
        exfalso
        unfold cOp at hins
        by_cases hb:dstBad N o.dst=true
        · rw [if_pos hb] at hins;cases hins
        · rw [if_neg hb] at hins
          unfold cOp1 at hins
          split at hins <;> first
            | (simp only [Option.map_eq_some_iff] at hins;obtain ⟨b,hb',e⟩:=hins;cases e;done)
            | (repeat' split at hins) <;> first | (cases hins;done) | (simp at hins;done)
      | it k x=>exact it_sound hins S H0 (hs 0) hd hgo
      | calv f xs =>
        simp only [wpIns] at hgo
        split at hgo
        · rename_i g caps hf
          have hop:∃ t args ts,f=.t t∧o.op=.call { callee:=.value (.tmp t),args:=args,argTypes:=ts }∧cOpds args.toList=some xs:=by
            unfold cOp at hins
            by_cases hb:dstBad N o.dst=true
            · rw [if_pos hb] at hins;cases hins
            · rw [if_neg hb] at hins
              unfold cOp1 at hins
              split at hins <;> first
                | (rename_i ho' _;simp only [Option.map_eq_some_iff] at hins;obtain ⟨b,hb',e⟩:=hins;cases e;exact ⟨_,_,_,rfl,ho',hb'⟩)
                | (rename_i ho';simp only [Option.map_eq_some_iff] at hins;obtain ⟨b,hb',e⟩:=hins;cases e;exact ⟨_,_,_,rfl,ho',hb'⟩)
                | (exfalso;simp only [Option.map_eq_some_iff] at hins;obtain ⟨b,hb',e⟩:=hins;cases e;done)
                | (exfalso;repeat' split at hins) <;> first | (cases hins;done) | (simp at hins;done)
          obtain ⟨t,args,ts,rfl,hop,hxs⟩:=hop
          have hfr:=S.tm t
          have hf':σ.tm t=.clo g caps:=hf
          rw [hf'] at hfr
          simp only [Rep] at hfr
          obtain ⟨vs,hvs,hcl⟩:=hfr
          obtain ⟨hfn,hcalls⟩:=calls_sound (o:=o) S H0 hs hsi hd ((S.evs hxs).append hcl) hgo
          have hrun:(execOp a.eval o).run P c.w=.ok (.enter g (args.toList.map a.eval ++ vs.toList).toArray) c.w:=by
            have h1:=run_callFunc (w:=c.w) (args:=(args.toList.map a.eval ++ vs.toList).toArray) hfn
            have h2:args.map a.eval ++ vs=(args.toList.map a.eval ++ vs.toList).toArray:=by apply Array.ext';simp
            have h3:a.eval (.tmp t)=.func (.func g) #[] vs:=hvs
            simp only [execOp,hop,resolve,Sem.run_bind]
            simp [h3,Deferred.ofValue,invoke,h2,h1]
          unfold Oper.wp
          rw [hrun]
          simp only [Oper.upon]
          refine hcalls.mono ?_
          rintro e w' ⟨v,rfl,σ',c',h1,h2,h3,h4,h5⟩
          exact ⟨σ',c',h1,h2,h3,h4,h5⟩
        · exact hgo.elim
    unfold Go.wpOp
    simp only [ho]
    cases hgd:o.guard with
    | none =>
      have hg':g=none:=by rw [hgd] at hg;simpa [cGuard] using hg.symm
      subst hg'
      have hw:Region.wanted o (yielded ops a.tmps)=true:=by simp [Region.wanted,hgd]
      rw [if_pos hw]
      exact .inl (go h)
    | some jw =>
      obtain ⟨j,want⟩:=jw
      rw [hgd] at hg
      simp only [cGuard,Option.map_eq_some_iff] at hg
      obtain ⟨t,ht,rfl⟩:=hg
      simp only [wpOp] at h
      split at h
      · rename_i b hb
        have hr:=S.tm t
        rw [hb] at hr
        have hr':=rep_val hr
        have hy:yielded ops a.tmps j=some b:=by
          have htn:a.tmps[t]?=some (.bool b):=by
            rw [Array.getD_eq_getD_getElem?] at hr'
            cases hq:a.tmps[t]? with
            | none=>rw [hq] at hr';simp [undef] at hr'
            | some u=>rw [hq] at hr';simpa using hr'
          simp [yielded,ht,htn]
        by_cases hbw:b=want
        · have hw:Region.wanted o (yielded ops a.tmps)=true:=by simp [Region.wanted,hgd,hy,hbw]
          rw [if_pos hw]
          exact .inl (go (h.1 hbw))
        · have hw:¬ Region.wanted o (yielded ops a.tmps)=true:=by simp [Region.wanted,hgd,hy,hbw]
          rw [if_neg hw]
          have hS:=S.put (d:=o.dst) (A:=.val (.tuple #[])) (v:=undef) (Keeps.refl c) S.good S.hp (by simp [Rep,undef]) hd
          exact ⟨_,c,h.2 hbw,hS,rfl,H0,fun u hu=>.inl hu⟩
      · rename_i ts hb
        have hr:=S.tm t
        rw [hb] at hr
        have hr':=rep_val hr
        have hy:yielded ops a.tmps j=none:=by
          rw [Array.getD_eq_getD_getElem?] at hr'
          cases hq:a.tmps[t]? with
          | none=>simp [yielded,ht,hq]
          | some u =>
            rw [hq] at hr'
            have hu:u=.tuple ts:=by simpa using hr'
            simp [yielded,ht,hq,hu]
        have hw:¬ Region.wanted o (yielded ops a.tmps)=true:=by simp [Region.wanted,hgd,hy]
        rw [if_neg hw]
        have hS:=S.put (d:=o.dst) (A:=.val (.tuple #[])) (v:=undef) (Keeps.refl c) S.good S.hp (by simp [Rep,undef]) hd
        exact ⟨_,c,h,hS,rfl,H0,fun u hu=>.inl hu⟩
      · exact h.elim
  · cases hc
end
end Go.Ab
namespace Go.Ab
mutual
def AVal.wo (n:Nat):AVal→AVal
  | .any=>.any
  | .val v=>.val v
  | .ro nm k []=>.ro nm k []
  | .ro (some (some 0)) k (A :: cs)=>.ro (some (some 0)) k (woL n (A :: cs))
  | .ro (some (some (n'+1))) k (A :: cs)=>if n'=n then .any else .ro (some (some (n'+1))) k (woL n (A :: cs))
  | .ro _ _ (_ :: _)=>.any
  | .own r v=>.own r v
  | .st cs=>.st (woL n cs)
  | .tup cs=>.tup (woL n cs)
  | .ptr r v off=>.ptr r v off
  | .rp _ _=>.any
  | .mp r v=>.mp r v
  | .clo g caps=>.clo g (woL n caps)
def woL (n:Nat):List AVal→List AVal
  | []=>[]
  | A :: cs=>AVal.wo n A :: woL n cs
end
theorem woL_eq (n:Nat):∀ cs:List AVal,woL n cs=cs.map (AVal.wo n)
  | []=>by simp [woL]
  | A :: cs=>by simp [woL,woL_eq n cs]
def AObj.wo (n:Nat):AObj→AObj
  | .gone=>.gone
  | .box v cs=>.box v (woL n cs)
  | .row v k nn cs=>.row v k nn (woL n cs)
  | .map v ks vs=>.map v ks (woL n vs)
  | .it v _=>.it v none
theorem AObj.wo_ver (n:Nat) (o:AObj):(o.wo n).ver=o.ver:=by cases o <;> rfl
theorem AObj.wo_gone {n:Nat} {o:AObj}:o.wo n=.gone↔o=.gone:=by cases o <;> simp [AObj.wo]
def St.thaw (σ:St) (r i q n m k':Nat) (cs':List AVal):St :=
  ⟨fun t=>(σ.tm t).wo n,fun x=>if x=q then .row m k' true (woL n cs') else if x=r then (match σ.hp r with | .row v k nn cs=>.row v k nn ((woL n cs).set i (.own q m)) | o=>o) else (σ.hp x).wo n⟩
def St.tt (σ:St) (t i q n m k k':Nat) (cs cs':List AVal):St :=
  ⟨fun x=>if x=t then .ro (some (some 0)) k ((woL n cs).set i (.own q m)) else (σ.tm x).wo n,fun x=>if x=q then .row m k' true (woL n cs') else (σ.hp x).wo n⟩
def St.rf (σ:St) (r i q ver k':Nat) (nn':Bool) (cs':List AVal):St :=
  ⟨σ.tm,fun x=>if x=r then (match σ.hp r with | .row v k nn cs=>.row v k nn (cs.set i (.ro (frNm nn' cs'.length ver) k' cs')) | o=>o) else if x=q then .gone else σ.hp x⟩
def St.tf (σ:St) (t q ver k:Nat) (nn:Bool) (cs:List AVal):St :=
  ⟨fun x=>if x=t then .ro (frNm nn cs.length ver) k cs else σ.tm x,fun x=>if x=q then .gone else σ.hp x⟩
def St.tw (σ:St) (t q n m k':Nat) (cs':List AVal):St :=
  ⟨fun x=>if x=t then .own q m else (σ.tm x).wo n,fun x=>if x=q then .row m k' true (woL n cs') else (σ.hp x).wo n⟩
def St.tr (σ:St) (t i q ver k k':Nat) (nn':Bool) (cs cs':List AVal):St :=
  ⟨fun x=>if x=t then .ro (some (some 0)) k (cs.set i (.ro (frNm nn' cs'.length ver) k' cs')) else σ.tm x,fun x=>if x=q then .gone else σ.hp x⟩
def St.fb (σ:St) (r i q ver k':Nat) (nn':Bool) (cs':List AVal):St :=
  ⟨σ.tm,fun x=>if x=r then (match σ.hp r with | .box v cs=>.box v (cs.set i (.ro (frNm nn' cs'.length ver) k' cs')) | o=>o) else if x=q then .gone else σ.hp x⟩
inductive GStep where
  | dn
  | fb (r i q:Nat)
  | thaw (r i q:Nat)
  | rf (r i q:Nat)
  | tt (t i q:Nat)
  | tf (t q:Nat)
  | tr (t i q:Nat)
  | tw (t q:Nat)
  deriving Inhabited
def gwp:List GStep→(St→Prop)→St→Prop
  | [],K,σ=>K σ
  | .dn :: gs,K,σ=>gwp gs K σ.dn
  | .thaw r i q :: gs,K,σ=>∃ v k nn cs n k' cs',σ.hp r=.row v k nn cs∧cs[i]?=some (.ro (some (some (n+1))) k' cs')∧cs'≠[]∧σ.hp q=.gone∧∀ m,gwp gs K (σ.thaw r i q n m k' cs')
  | .rf r i q :: gs,K,σ=>∃ v k nn cs ver k' nn' cs',σ.hp r=.row v k nn cs∧cs[i]?=some (.own q ver)∧q≠r∧σ.hp q=.row ver k' nn' cs' ∧
      ((∀ n k'' cs'',AVal.ro (some (some (n+1))) k'' cs''∈cs→cs''≠[]→n≠ver)→gwp gs K (σ.rf r i q ver k' nn' cs'))
  | .tt t i q :: gs,K,σ=>∃ k cs n k' cs',σ.tm t=.ro (some (some 0)) k cs∧cs[i]?=some (.ro (some (some (n+1))) k' cs')∧cs'≠[]∧σ.hp q=.gone∧∀ m,gwp gs K (σ.tt t i q n m k k' cs cs')
  | .tf t q :: gs,K,σ=>∃ ver k nn cs,σ.tm t=.own q ver∧σ.hp q=.row ver k nn cs∧gwp gs K (σ.tf t q ver k nn cs)
  | .tr t i q :: gs,K,σ=>∃ k cs ver k' nn' cs',σ.tm t=.ro (some (some 0)) k cs∧cs[i]?=some (.own q ver)∧σ.hp q=.row ver k' nn' cs' ∧
      ((∀ n k'' cs'',AVal.ro (some (some (n+1))) k'' cs''∈cs→cs''≠[]→n≠ver)→gwp gs K (σ.tr t i q ver k k' nn' cs cs'))
  | .tw t q :: gs,K,σ=>∃ n k' cs',σ.tm t=.ro (some (some (n+1))) k' cs'∧cs'≠[]∧σ.hp q=.gone∧∀ m,gwp gs K (σ.tw t q n m k' cs')
  | .fb r i q :: gs,K,σ=>∃ v cs ver k' nn' cs',σ.hp r=.box v cs∧cs[i]?=some (.own q ver)∧q≠r∧σ.hp q=.row ver k' nn' cs'∧gwp gs K (σ.fb r i q ver k' nn' cs')
theorem gwp_nil {K:St→Prop} {σ:St}:gwp [] K σ=K σ:=rfl
theorem gwp_mono {K K':St→Prop} (hK:∀ σ,K σ→K' σ):∀ (gs:List GStep) (σ:St),gwp gs K σ→gwp gs K' σ
  | [],σ,h=>hK σ h
  | .dn :: gs,σ,h=>gwp_mono hK gs _ h
  | .thaw r i q :: gs,σ,⟨v,k,nn,cs,n,k',cs',h1,h2,h3,h4,h5⟩=>⟨v,k,nn,cs,n,k',cs',h1,h2,h3,h4,fun m=>gwp_mono hK gs _ (h5 m)⟩
  | .rf r i q :: gs,σ,⟨v,k,nn,cs,ver,k',nn',cs',h1,h2,h3,h4,h5⟩=>⟨v,k,nn,cs,ver,k',nn',cs',h1,h2,h3,h4,fun hn=>gwp_mono hK gs _ (h5 hn)⟩
  | .tt t i q :: gs,σ,⟨k,cs,n,k',cs',h1,h2,h3,h4,h5⟩=>⟨k,cs,n,k',cs',h1,h2,h3,h4,fun m=>gwp_mono hK gs _ (h5 m)⟩
  | .tf t q :: gs,σ,⟨ver,k,nn,cs,h1,h2,h3⟩=>⟨ver,k,nn,cs,h1,h2,gwp_mono hK gs _ h3⟩
  | .tw t q :: gs,σ,⟨n,k',cs',h1,h2,h3,h4⟩=>⟨n,k',cs',h1,h2,h3,fun m=>gwp_mono hK gs _ (h4 m)⟩
  | .tr t i q :: gs,σ,⟨k,cs,ver,k',nn',cs',h1,h2,h3,h4⟩=>⟨k,cs,ver,k',nn',cs',h1,h2,h3,fun hn=>gwp_mono hK gs _ (h4 hn)⟩
  | .fb r i q :: gs,σ,⟨v,cs,ver,k',nn',cs',h1,h2,h3,h4,h5⟩=>⟨v,cs,ver,k',nn',cs',h1,h2,h3,h4,gwp_mono hK gs _ h5⟩
def St.Dist (σ:St):Prop:=∀ r v k nn cs q u,σ.hp r=.row v k nn cs→(σ.hp q).ver=some u→∀ n k'' cs'',AVal.ro (some (some (n+1))) k'' cs''∈cs→cs''≠[]→n≠u
structure Less (n g:Nat) (c c':Cz):Prop where
  imm:∀ b,c.imm b→b≠g→c'.imm b∧c'.w.heap[b]?=c.w.heap[b]?
  names:∀ n' b,c.names n'=some b→n'≠n→c'.names n'=some b
  used:∀ v,c.used v→c'.used v
  loc:∀ r v,c.used v→(c'.hp r).ver=some v→(c.hp r).ver=some v∧c'.loc r=c.loc r
  only:∀ n',c.names n'=some g→n'=n
  old:∀ b,c.old b→b≠g∧c'.old b
mutual
theorem Rep.wo {n g:Nat} {c c':Cz} (K:Less n g c c'):∀ (A:AVal) (v:Value),Rep c A v→Rep c' (A.wo n) v
  | .any,_,_=>by simp [AVal.wo,Rep]
  | .val x,v,h=>by simpa [AVal.wo,Rep] using h
  | .ro nm k [],v,h=>by
    simp only [AVal.wo,Rep] at h ⊢
    obtain ⟨base,len,cap,hv,hk,hl,hm,hn,_⟩:=h
    exact ⟨base,len,cap,hv,hk,hl,hm,fun n e=>⟨(hn n e).1,.inl rfl⟩,.inl rfl⟩
  | .ro none k (A :: cs),v,h=>by simp [AVal.wo,Rep]
  | .ro (some none) k (A :: cs),v,h=>by simp [AVal.wo,Rep]
  | .ro (some (some 0)) k (A :: cs),v,h=>by
    simp only [AVal.wo]
    simp only [Rep] at h ⊢
    obtain ⟨base,len,cap,hv,hk,hl,hm,hn,hc⟩:=h
    refine ⟨base,len,cap,hv,hk,by rw [woL_eq,List.length_map];exact hl,hm,?_,?_⟩
    · intro n0 e
      simp only [Option.some.injEq] at e;subst e
      refine ⟨(hn _ rfl).1,?_⟩
      rcases (hn _ rfl).2 with h0 | ⟨b,off,hb,hnm⟩
      · simp at h0
      · exact .inr ⟨b,off,hb,(K.old b hnm).2⟩
    · rcases hc with hc | ⟨b,off,hb,hi,hr⟩
      · simp at hc
      · rcases (hn _ rfl).2 with h0 | ⟨b',off',hb',hnm⟩
        · simp at h0
        · rw [hb] at hb'
          cases hb'
          have hg:b≠g:=(K.old b hnm).1
          exact .inr ⟨b,off,hb,(K.imm b hi hg).1,RepAt.wo K (K.imm b hi hg).2 (A :: cs) off hr⟩
  | .ro (some (some (n'+1))) k (A :: cs),v,h=>by
    simp only [AVal.wo]
    split
    · simp [Rep]
    · rename_i hne
      simp only [Rep] at h ⊢
      obtain ⟨base,len,cap,hv,hk,hl,hm,hn,hc⟩:=h
      refine ⟨base,len,cap,hv,hk,by rw [woL_eq,List.length_map];exact hl,hm,?_,?_⟩
      · intro n0 e
        simp only [Option.some.injEq] at e;subst e
        refine ⟨(hn _ rfl).1,?_⟩
        rcases (hn _ rfl).2 with h0 | ⟨b,off,hb,hnm,hf⟩
        · simp at h0
        · rcases hc with hc | ⟨b',off',hb',hi,_⟩
          · simp at hc
          · rw [hb] at hb'
            cases hb'
            have hg:b≠g:=fun e=>hne (K.only n' (e ▸ hnm))
            exact .inr ⟨b,off,hb,K.names _ _ hnm hne,Cz.fit_of hf (K.imm b hi hg).2⟩
      · rcases hc with hc | ⟨b,off,hb,hi,hr⟩
        · simp at hc
        · rcases (hn _ rfl).2 with h0 | ⟨b',off',hb',hnm,_⟩
          · simp at h0
          · rw [hb] at hb'
            cases hb'
            have hg:b≠g:=fun e=>hne (K.only n' (e ▸ hnm))
            exact .inr ⟨b,off,hb,(K.imm b hi hg).1,RepAt.wo K (K.imm b hi hg).2 (A :: cs) off hr⟩
  | .own r ver,v,h=>by
    simp only [AVal.wo,Rep] at h ⊢
    refine ⟨K.used _ h.1,fun hr=>?_⟩
    obtain ⟨h1,h2⟩:=K.loc r ver h.1 hr
    exact (h.2 h1).trans h2.symm
  | .st cs,v,h=>by
    simp only [AVal.wo,Rep] at h ⊢
    obtain ⟨vs,hv,hl⟩:=h
    exact ⟨vs,hv,RepL.wo K cs vs.toList hl⟩
  | .tup cs,v,h=>by
    simp only [AVal.wo,Rep] at h ⊢
    obtain ⟨vs,hv,hl⟩:=h
    exact ⟨vs,hv,RepL.wo K cs vs.toList hl⟩
  | .ptr r ver off,v,h=>by
    simp only [AVal.wo,Rep] at h ⊢
    refine ⟨K.used _ h.1,fun hr=>?_⟩
    obtain ⟨h1,h2⟩:=K.loc r ver h.1 hr
    rw [h2];exact h.2 h1
  | .rp cs off,v,h=>by simp [AVal.wo,Rep]
  | .mp r ver,v,h=>by
    simp only [AVal.wo,Rep] at h ⊢
    refine ⟨K.used _ h.1,fun hr=>?_⟩
    obtain ⟨h1,h2⟩:=K.loc r ver h.1 hr
    exact (h.2 h1).trans h2.symm
  | .clo f caps,v,h=>by
    simp only [AVal.wo,Rep] at h ⊢
    obtain ⟨vs,hv,hl⟩:=h
    exact ⟨vs,hv,RepL.wo K caps vs.toList hl⟩
theorem RepAt.wo {n g:Nat} {c c':Cz} (K:Less n g c c') {b:Nat} (hb:c'.w.heap[b]?=c.w.heap[b]?):∀ (cs:List AVal) (off:Nat),RepAt c b off cs→RepAt c' b off (woL n cs)
  | [],_,_=>by simp [woL,RepAt]
  | A :: cs,off,h=>by
    simp only [woL,RepAt] at h ⊢
    obtain ⟨⟨v,hv,hr⟩,ht⟩:=h
    refine ⟨⟨v,?_,Rep.wo K A v hr⟩,RepAt.wo K hb cs (off+1) ht⟩
    rw [World.cell?_of_block (w:=c.w) hb];exact hv
theorem RepL.wo {n g:Nat} {c c':Cz} (K:Less n g c c'):∀ (cs:List AVal) (vs:List Value),RepL c cs vs→RepL c' (woL n cs) vs
  | [],[],_=>by simp [woL,RepL]
  | [],_ :: _,h=>by simp [RepL] at h
  | _ :: _,[],h=>by simp [RepL] at h
  | A :: cs,v :: vs,h=>by
    simp only [woL,RepL] at h ⊢
    exact ⟨Rep.wo K A v h.1,RepL.wo K cs vs h.2⟩
end
theorem ObjRep.wo {n g:Nat} {c c':Cz} (K:Less n g c c') {v:Value} {o:AObj} (h:ObjRep c v o) (hb:∀ b,blockOf v=some b→c'.w.heap[b]?=c.w.heap[b]?):ObjRep c' v (o.wo n):=by
  cases o with
  | gone=>trivial
  | box ver cs =>
    obtain ⟨g,t,cells,rfl,hg,hr⟩:=h
    exact ⟨g,t,cells,rfl,by rw [hb g rfl];exact hg,RepL.wo K _ _ hr⟩
  | row ver k nn cs =>
    obtain ⟨base,n,cap,rfl,h1,h2,h3,h4,h5,hc⟩:=h
    refine ⟨base,n,cap,rfl,h1,by rw [woL_eq,List.length_map];exact h2,h3,h4,h5,?_⟩
    rcases hc with hc | ⟨g,off,t,cells,rfl,hg,h6,h7⟩
    · exact .inl hc
    · by_cases h0:cap=0
      · exact .inl h0
      · exact .inr ⟨g,off,t,cells,rfl,by rw [hb g (by simp [blockOf,h0])];exact hg,h6,RepL.wo K _ _ h7⟩
  | map ver ks vs =>
    obtain ⟨g,clock,ents,rfl,hg,h1,h2⟩:=h
    exact ⟨g,clock,ents,rfl,by rw [hb g rfl];exact hg,h1,RepL.wo K _ _ h2⟩
  | it ver d=>exact h.it_none hb
theorem RepL.put {c:Cz} {A:AVal} {x:Value}:∀ {cs:List AVal} {vs:List Value} {i:Nat},RepL c cs vs→vs[i]?=some x→Rep c A x→RepL c (cs.set i A) vs
  | [],[],_,_,h,_=>by simp at h
  | [],_ :: _,_,h,_,_=>by simp [RepL] at h
  | _ :: _,[],_,h,_,_=>by simp [RepL] at h
  | C :: cs,v :: vs,0,h,e,hA=>by
    simp only [RepL,List.set_cons_zero] at h ⊢
    simp at e;subst e
    exact ⟨hA,h.2⟩
  | C :: cs,v :: vs,i+1,h,e,hA=>by
    simp only [RepL,List.set_cons_succ] at h ⊢
    exact ⟨h.1,RepL.put h.2 (by simpa using e) hA⟩
theorem row_cell {w0:World} {outs:Nat→Prop} {c:Cz} (G:Good w0 outs c) {r v k:Nat} {nn:Bool} {cs:List AVal} (hr:c.hp r=.row v k nn cs) {i:Nat} {A:AVal} (hi:cs[i]?=some A) :
    ∃ base n cap g off t,∃ cells:Array Value,∃ x,c.loc r=.slice base n cap∧0<k∧cs.length=n * k∧n≤cap∧cap≤maxLen∧(nn=true→base≠none)∧base=some ⟨g,off,none⟩∧c.w.heap[g]?=some (.cells cells t (0,0)) ∧
      off+cap * k≤cells.size∧RepL c cs ((cells.toList.drop off).take (n * k))∧((cells.toList.drop off).take (n * k))[i]?=some x∧Rep c A x:=by
  have hO:=G.obj r
  rw [hr] at hO
  obtain ⟨base,n,cap,hv,hk,hl,hn,hm,hnn,hc⟩:=hO
  rcases hc with hc | ⟨g,off,t,cells,hb,hheap,hfit,hrep⟩
  · have h0:n=0:=by omega
    rw [h0] at hl
    have:cs=[]:=List.eq_nil_of_length_eq_zero (by omega)
    subst this
    simp at hi
  · obtain ⟨x,hx,hA⟩:=hrep.get hi
    exact ⟨base,n,cap,g,off,t,cells,x,hv,hk,hl,hn,hm,hnn,hb,hheap,hfit,hrep,hx,hA⟩
section
variable {w0:World} {outsC:Nat→Prop} {N:Nat} {c0:Cz}
theorem Sim.dist {σ:St} {a:Act} {c:Cz} (S:Sim w0 outsC N σ a c):σ.Dist:=by
  intro r v k nn cs q u hr hq n k'' cs'' hmem hne e
  have G:=S.good
  rw [← S.hp] at hr hq
  obtain ⟨j,hj⟩:=List.getElem?_of_mem hmem
  obtain ⟨_,_,_,_,_,_,_,x,_,_,_,_,_,_,_,_,_,_,_,hA⟩:=row_cell G hr hj
  simp only [Rep] at hA
  obtain ⟨_,_,_,_,_,_,_,hnm,_⟩:=hA
  rcases (hnm _ rfl).2 with h0 | ⟨b,_,_,hb,_⟩
  · exact hne (List.eq_nil_of_length_eq_zero h0)
  · have h1:=(G.verU q u hq).2
    have hb':c.names n=some b:=hb
    rw [e,h1] at hb';cases hb'
theorem Sim.thaw {σ:St} {a:Act} {c:Cz} (S:Sim w0 outsC N σ a c) (H0:Hist c0 c) {r i q v k n k':Nat} {nn:Bool} {cs cs':List AVal} (hr:σ.hp r=.row v k nn cs)
    (hi:cs[i]?=some (.ro (some (some (n+1))) k' cs')) (hne:cs'≠[]) (hq:σ.hp q=.gone):∃ m c',Sim w0 outsC N (σ.thaw r i q n m k' cs') a c'∧Hist c0 c'∧c'.w=c.w:=by
  have G:=S.good
  obtain ⟨m,hm⟩:=G.fin
  have hnu:¬ c.used m:=fun h=>absurd (hm m h) (Nat.lt_irrefl _)
  have hqr:q≠r:=by rintro rfl;rw [hr] at hq;cases hq
  rw [← S.hp] at hr hq
  obtain ⟨base,nr,cap,gr,off,t,cells,x,hloc,hk,hl,hncap,hcapm,hnn,hbase,hheap,hfit,hrep,hx,hA⟩:=row_cell G hr hi
  simp only [Rep] at hA
  obtain ⟨base',len',cap',hxv,hk',hl',hm',hnm',hc'⟩:=hA
  have hlen0:cs'.length≠0:=fun e=>hne (List.eq_nil_of_length_eq_zero e)
  have hcap0:cap'≠0:=by
    intro e
    have:len'=0:=by omega
    rw [this] at hl';simp at hl';exact hne hl'
  rcases hc' with h0 | ⟨g,off',hb',himm,hrepA⟩
  · exact absurd h0 hlen0
  obtain ⟨hbn,h1⟩:=hnm' _ rfl
  have hbn:=hbn rfl
  rcases h1 with h0 | ⟨g',off'',hb'',hnmd,t',cells',hf1,hf2⟩
  · exact absurd h0 hlen0
  rw [hb'] at hb''
  cases hb''
  have hng:c.names n=some g:=hnmd
  obtain ⟨hgu,hgo,hgl,hgt⟩:=G.nam n g hng
  let c':Cz:={ c with hp:=(σ.thaw r i q n m k' cs').hp,loc:=fun x'=>if x'=q then x else c.loc x',names:=fun x'=>if x'=n then none else c.names x',used:=fun x'=>c.used x'∨x'=m }
  have hpq:c'.hp q=.row m k' true (woL n cs'):=by show (if q=q then _ else _)=_;rw [if_pos rfl]
  have hpr:c'.hp r=.row v k nn ((woL n cs).set i (.own q m)):=by
    show (if r=q then _ else if r=r then _ else _)=_
    rw [if_neg (Ne.symm hqr),if_pos rfl,← S.hp,hr]
  have hpx:∀ y,y≠q→y≠r→c'.hp y=(c.hp y).wo n:=fun y h1 h2=>by
    show (if y=q then _ else if y=r then _ else _)=_
    rw [if_neg h1,if_neg h2,S.hp]
  have hver:∀ y,y≠q→(c'.hp y).ver=(c.hp y).ver:=fun y h1=>by
    by_cases h2:y=r
    · subst h2;rw [hpr,hr];rfl
    · rw [hpx y h1 h2,AObj.wo_ver]
  have hgone:∀ y,y≠q→(c'.hp y≠.gone↔c.hp y≠.gone):=fun y h1=>by
    by_cases h2:y=r
    · subst h2;rw [hpr,hr];simp
    · rw [hpx y h1 h2,ne_eq,AObj.wo_gone]
  have hlocy:∀ y,y≠q→c'.loc y=c.loc y:=fun y h=>if_neg h
  have hlocq:c'.loc q=x:=if_pos rfl
  have hblkq:blockOf x=some g:=by rw [hxv,hb'];simp [blockOf,hcap0]
  have htk:∀ b,c'.taken b↔(c.taken b∨b=g):=by
    intro b
    constructor
    · rintro ⟨y,h1,h2⟩
      by_cases e:y=q
      · subst e;rw [hlocq,hblkq] at h2;exact .inr (by simpa using h2.symm)
      · rw [hlocy y e] at h2;exact .inl ⟨y,(hgone y e).1 h1,h2⟩
    · rintro (⟨y,h1,h2⟩ | rfl)
      · have e:y≠q:=by rintro rfl;exact h1 hq
        exact ⟨y,(hgone y e).2 h1,by rw [hlocy y e];exact h2⟩
      · exact ⟨q,by rw [hpq];simp,by rw [hlocq];exact hblkq⟩
  have K:Less n g c c':=by
    refine ⟨?_,?_,fun v h=>.inl h,?_,fun n' h=>G.namInj n' n g h hng,fun b hb=>⟨fun e=>?_,hb⟩⟩
    rotate_left 3
    · rw [e] at hb
      rcases hgo with h | h
      · have:=G.base.2 g hb;omega
      · exact (G.outExt g h).2 hb
    · rintro b ⟨h1,h2,h3⟩ hbg
      exact ⟨⟨h1,h2,fun h=>by rcases (htk b).1 h with h | h;exact h3 h;exact hbg h⟩,rfl⟩
    · intro n' b h hn'
      show (if n'=n then none else c.names n')=_
      rw [if_neg hn'];exact h
    · intro y u hu hy
      by_cases e:y=q
      · subst e;rw [hpq] at hy
        have:m=u:=by simpa using hy
        subst this;exact absurd hu hnu
      · rw [hver y e] at hy;exact ⟨hy,hlocy y e⟩
  have Gr:∀ y,y≠q→y≠r→ObjRep c' (c'.loc y) (c'.hp y):=fun y h1 h2=>by
    rw [hlocy y h1,hpx y h1 h2]
    exact ObjRep.wo K (G.obj y) fun _ _=>rfl
  refine ⟨m,c',⟨?_,rfl,S.size,fun t=>Rep.wo K _ _ (S.tm t),S.defers⟩,⟨fun u hu=>.inl (H0.used u hu),?_,H0.ext,H0.base,H0.old⟩,rfl⟩
  · refine ⟨G.base,?_,?_,?_,?_,?_,G.outExt,?_,?_,?_,G.os,G.tape,G.output,G.size,G.frame⟩
    · intro y
      by_cases e1:y=q
      · subst e1
        rw [hlocq,hpq]
        refine ⟨base',len',cap',hxv,hk',by rw [woL_eq,List.length_map];exact hl',hm'.1,hm'.2,fun _=>hbn,.inr ⟨g,off',t',cells',hb',hf1,hf2,?_⟩⟩
        have h3:RepL c cs' ((cells'.toList.drop off').take (len' * k')):=by
          refine RepL.of_get ?_ ?_
          · rw [List.length_take,List.length_drop,hl']
            have h9:cells'.toList.length=cells'.size:=by simp
            have:len' * k'≤cap' * k':=Nat.mul_le_mul_right _ hm'.1
            rw [h9];omega
          · intro j B u hB hu
            obtain ⟨u',hu',hr'⟩:=hrepA.get hB
            rw [cell_of_row c.w g (off'+j) cells' t' (0,0) hf1] at hu'
            rw [List.getElem?_take] at hu
            split at hu
            · rw [List.getElem?_drop,Array.getElem?_toList] at hu
              rw [hu'] at hu
              simp only [Option.some.injEq] at hu
              subst hu;exact hr'
            · cases hu
        exact RepL.wo K _ _ h3
      · by_cases e2:y=r
        · subst e2
          rw [hlocy y e1,hpr,hloc]
          refine ⟨base,nr,cap,rfl,hk,by rw [List.length_set,woL_eq,List.length_map];exact hl,hncap,hcapm,hnn,.inr ⟨gr,off,t,cells,hbase,hheap,hfit,?_⟩⟩
          refine RepL.put (RepL.wo K _ _ hrep) hx ?_
          simp only [Rep]
          exact ⟨.inr rfl,fun _=>hlocq.symm⟩
        · exact Gr y e1 e2
    · intro y y' b h1 h2 h3 h4
      by_cases e1:y=q <;> by_cases e2:y'=q
      · rw [e1,e2]
      · subst e1
        rw [hlocq,hblkq] at h3
        have:g=b:=by simpa using h3
        subst this
        rw [hlocy y' e2] at h4
        exact absurd ⟨y',(hgone y' e2).1 h2,h4⟩ hgt
      · subst e2
        rw [hlocq,hblkq] at h4
        have:g=b:=by simpa using h4
        subst this
        rw [hlocy y e1] at h3
        exact absurd ⟨y,(hgone y e1).1 h1,h3⟩ hgt
      · rw [hlocy y e1] at h3
        rw [hlocy y' e2] at h4
        exact G.inj y y' b ((hgone y e1).1 h1) ((hgone y' e2).1 h2) h3 h4
    · intro y b h1 h2
      by_cases e1:y=q
      · subst e1
        rw [hlocq,hblkq] at h2
        have:g=b:=by simpa using h2
        subst this;exact hgo
      · rw [hlocy y e1] at h2
        exact G.own y b ((hgone y e1).1 h1) h2
    · intro y u h
      by_cases e1:y=q
      · subst e1
        rw [hpq] at h
        have:m=u:=by simpa using h
        subst this
        refine ⟨.inr rfl,?_⟩
        show (if m=n then none else c.names m)=none
        split
        · rfl
        · cases hcm:c.names m with
          | none=>rfl
          | some b=>exact absurd (G.nam m b hcm).1 hnu
      · rw [hver y e1] at h
        refine ⟨.inl (G.verU y u h).1,?_⟩
        show (if u=n then none else c.names u)=none
        split
        · rfl
        · exact (G.verU y u h).2
    · intro y y' u h1 h2
      by_cases e1:y=q <;> by_cases e2:y'=q
      · rw [e1,e2]
      · subst e1
        rw [hpq] at h1
        have:m=u:=by simpa using h1
        subst this
        rw [hver y' e2] at h2
        exact absurd (G.verU y' m h2).1 hnu
      · subst e2
        rw [hpq] at h2
        have:m=u:=by simpa using h2
        subst this
        rw [hver y e1] at h1
        exact absurd (G.verU y m h1).1 hnu
      · rw [hver y e1] at h1
        rw [hver y' e2] at h2
        exact G.verInj y y' u h1 h2
    · intro n' b h
      have h':(if n'=n then none else c.names n')=some b:=h
      split at h'
      · cases h'
      · rename_i hn'
        obtain ⟨h1,h2,h3,h4⟩:=G.nam n' b h'
        refine ⟨.inl h1,h2,h3,fun ht=>?_⟩
        rcases (htk b).1 ht with h | h
        · exact h4 h
        · exact hn' (G.namInj n' n b h' (h ▸ hng))
    · intro n1 n2 b h1 h2
      have h1':(if n1=n then none else c.names n1)=some b:=h1
      have h2':(if n2=n then none else c.names n2)=some b:=h2
      split at h1'
      · cases h1'
      · split at h2'
        · cases h2'
        · exact G.namInj n1 n2 b h1' h2'
    · refine ⟨m+1,?_⟩
      rintro u (h | rfl)
      · exact Nat.lt_succ_of_lt (hm u h)
      · exact Nat.lt_succ_self _
  · intro y u hu hy
    by_cases e:y=q
    · subst e
      rw [hpq] at hy
      have:m=u:=by simpa using hy
      subst this;exact absurd (H0.used m hu) hnu
    · rw [hver y e] at hy
      obtain ⟨h1,h2⟩:=H0.loc y u hu hy
      exact ⟨h1,(hlocy y e).trans h2⟩
theorem RepAt.put {c:Cz} {b:Nat} {A:AVal} {x:Value}:∀ {cs:List AVal} {off i:Nat},RepAt c b off cs→c.w.cell? ⟨b,off+i,none⟩=some x→Rep c A x→RepAt c b off (cs.set i A)
  | [],_,_,_,_,_=>by simp [RepAt]
  | C :: cs,off,0,h,e,hA=>by
    simp only [RepAt,List.set_cons_zero] at h ⊢
    exact ⟨⟨x,by simpa using e,hA⟩,h.2⟩
  | C :: cs,off,i+1,h,e,hA=>by
    simp only [RepAt,List.set_cons_succ] at h ⊢
    exact ⟨h.1,RepAt.put h.2 (by rw [← e];congr 2;omega) hA⟩
theorem Sim.tt {σ:St} {a:Act} {c:Cz} (S:Sim w0 outsC N σ a c) (H0:Hist c0 c) {t0 i q n k k':Nat} {cs cs':List AVal} (hr:σ.tm t0=.ro (some (some 0)) k cs) (hi:cs[i]?=some (.ro (some (some (n+1))) k' cs')) (hne:cs'≠[]) (hq:σ.hp q=.gone):∃ m c',Sim w0 outsC N (σ.tt t0 i q n m k k' cs cs') a c'∧Hist c0 c'∧c'.w=c.w:=by
  have G:=S.good
  obtain ⟨m,hm⟩:=G.fin
  have hnu:¬ c.used m:=fun h=>absurd (hm m h) (Nat.lt_irrefl _)
  rw [← S.hp] at hq
  have hT:=S.tm t0
  rw [hr] at hT
  generalize hx0:a.tmps.getD t0 undef=x0 at hT
  simp only [Rep] at hT
  obtain ⟨baseT,lenT,capT,hvT,hkT,hlT,hmT,hnT,hcT⟩:=hT
  rcases hcT with h0 | ⟨gT,offT,hbT,hiT,hatT⟩
  · have:cs=[]:=List.eq_nil_of_length_eq_zero h0
    rw [this] at hi;simp at hi
  obtain ⟨x,hxT,hA⟩:=hatT.get hi
  have hoT:c.old gT:=by
    rcases (hnT _ rfl).2 with h0 | ⟨b,off,h1,h2⟩
    · have:cs=[]:=List.eq_nil_of_length_eq_zero h0
      rw [this] at hi;simp at hi
    · rw [hbT] at h1;cases h1;exact h2
  simp only [Rep] at hA
  obtain ⟨base',len',cap',hxv,hk',hl',hm',hnm',hc'⟩:=hA
  have hlen0:cs'.length≠0:=fun e=>hne (List.eq_nil_of_length_eq_zero e)
  have hcap0:cap'≠0:=by
    intro e
    have:len'=0:=by omega
    rw [this] at hl';simp at hl';exact hne hl'
  rcases hc' with h0 | ⟨g,off',hb',himm,hrepA⟩
  · exact absurd h0 hlen0
  obtain ⟨hbn,h1⟩:=hnm' _ rfl
  have hbn:=hbn rfl
  rcases h1 with h0 | ⟨g',off'',hb'',hnmd,t',cells',hf1,hf2⟩
  · exact absurd h0 hlen0
  rw [hb'] at hb''
  cases hb''
  have hng:c.names n=some g:=hnmd
  obtain ⟨hgu,hgo,hgl,hgt⟩:=G.nam n g hng
  let c':Cz:={ c with hp:=(σ.tt t0 i q n m k k' cs cs').hp,loc:=fun x'=>if x'=q then x else c.loc x',names:=fun x'=>if x'=n then none else c.names x',used:=fun x'=>c.used x'∨x'=m }
  have hpq:c'.hp q=.row m k' true (woL n cs'):=by show (if q=q then _ else _)=_;rw [if_pos rfl]
  have hpx:∀ y,y≠q→c'.hp y=(c.hp y).wo n:=fun y h1=>by
    show (if y=q then _ else _)=_
    rw [if_neg h1,S.hp]
  have hver:∀ y,y≠q→(c'.hp y).ver=(c.hp y).ver:=fun y h1=>by
    rw [hpx y h1,AObj.wo_ver]
  have hgone:∀ y,y≠q→(c'.hp y≠.gone↔c.hp y≠.gone):=fun y h1=>by
    rw [hpx y h1,ne_eq,AObj.wo_gone]
  have hlocy:∀ y,y≠q→c'.loc y=c.loc y:=fun y h=>if_neg h
  have hlocq:c'.loc q=x:=if_pos rfl
  have hblkq:blockOf x=some g:=by rw [hxv,hb'];simp [blockOf,hcap0]
  have htk:∀ b,c'.taken b↔(c.taken b∨b=g):=by
    intro b
    constructor
    · rintro ⟨y,h1,h2⟩
      by_cases e:y=q
      · subst e;rw [hlocq,hblkq] at h2;exact .inr (by simpa using h2.symm)
      · rw [hlocy y e] at h2;exact .inl ⟨y,(hgone y e).1 h1,h2⟩
    · rintro (⟨y,h1,h2⟩ | rfl)
      · have e:y≠q:=by rintro rfl;exact h1 hq
        exact ⟨y,(hgone y e).2 h1,by rw [hlocy y e];exact h2⟩
      · exact ⟨q,by rw [hpq];simp,by rw [hlocq];exact hblkq⟩
  have K:Less n g c c':=by
    refine ⟨?_,?_,fun v h=>.inl h,?_,fun n' h=>G.namInj n' n g h hng,fun b hb=>⟨fun e=>?_,hb⟩⟩
    rotate_left 3
    · rw [e] at hb
      rcases hgo with h | h
      · have:=G.base.2 g hb;omega
      · exact (G.outExt g h).2 hb
    · rintro b ⟨h1,h2,h3⟩ hbg
      exact ⟨⟨h1,h2,fun h=>by rcases (htk b).1 h with h | h;exact h3 h;exact hbg h⟩,rfl⟩
    · intro n' b h hn'
      show (if n'=n then none else c.names n')=_
      rw [if_neg hn'];exact h
    · intro y u hu hy
      by_cases e:y=q
      · subst e;rw [hpq] at hy
        have:m=u:=by simpa using hy
        subst this;exact absurd hu hnu
      · rw [hver y e] at hy;exact ⟨hy,hlocy y e⟩
  have Gr:∀ y,y≠q→ObjRep c' (c'.loc y) (c'.hp y):=fun y h1=>by
    rw [hlocy y h1,hpx y h1]
    exact ObjRep.wo K (G.obj y) fun _ _=>rfl
  refine ⟨m,c',⟨?_,rfl,S.size,fun t=>?_,S.defers⟩,⟨fun u hu=>.inl (H0.used u hu),?_,H0.ext,H0.base,H0.old⟩,rfl⟩
  rotate_left
  · show Rep c' (if t=t0 then .ro (some (some 0)) k ((woL n cs).set i (.own q m)) else (σ.tm t).wo n) _
    split
    · rename_i e;subst e
      rw [hx0]
      simp only [Rep]
      obtain ⟨hgT,hoT'⟩:=K.old gT hoT
      obtain ⟨him,hhp⟩:=K.imm gT hiT hgT
      refine ⟨baseT,lenT,capT,hvT,hkT,by rw [List.length_set,woL_eq,List.length_map];exact hlT,hmT,?_,.inr ⟨gT,offT,hbT,him,?_⟩⟩
      · intro n0 e
        simp only [Option.some.injEq] at e;subst e
        exact ⟨(fun h=>by cases h),.inr ⟨gT,offT,hbT,hoT'⟩⟩
      · refine RepAt.put (RepAt.wo K hhp cs offT hatT) (x:=x) ?_ ?_
        · exact hxT
        · simp only [Rep]
          exact ⟨.inr rfl,fun _=>hlocq.symm⟩
    · exact Rep.wo K _ _ (S.tm t)
  rotate_right
  · refine ⟨G.base,?_,?_,?_,?_,?_,G.outExt,?_,?_,?_,G.os,G.tape,G.output,G.size,G.frame⟩
    · intro y
      by_cases e1:y=q
      · subst e1
        rw [hlocq,hpq]
        refine ⟨base',len',cap',hxv,hk',by rw [woL_eq,List.length_map];exact hl',hm'.1,hm'.2,fun _=>hbn,.inr ⟨g,off',t',cells',hb',hf1,hf2,?_⟩⟩
        have h3:RepL c cs' ((cells'.toList.drop off').take (len' * k')):=by
          refine RepL.of_get ?_ ?_
          · rw [List.length_take,List.length_drop,hl']
            have h9:cells'.toList.length=cells'.size:=by simp
            have:len' * k'≤cap' * k':=Nat.mul_le_mul_right _ hm'.1
            rw [h9];omega
          · intro j B u hB hu
            obtain ⟨u',hu',hr'⟩:=hrepA.get hB
            rw [cell_of_row c.w g (off'+j) cells' t' (0,0) hf1] at hu'
            rw [List.getElem?_take] at hu
            split at hu
            · rw [List.getElem?_drop,Array.getElem?_toList] at hu
              rw [hu'] at hu
              simp only [Option.some.injEq] at hu
              subst hu;exact hr'
            · cases hu
        exact RepL.wo K _ _ h3
      · exact Gr y e1
    · intro y y' b h1 h2 h3 h4
      by_cases e1:y=q <;> by_cases e2:y'=q
      · rw [e1,e2]
      · subst e1
        rw [hlocq,hblkq] at h3
        have:g=b:=by simpa using h3
        subst this
        rw [hlocy y' e2] at h4
        exact absurd ⟨y',(hgone y' e2).1 h2,h4⟩ hgt
      · subst e2
        rw [hlocq,hblkq] at h4
        have:g=b:=by simpa using h4
        subst this
        rw [hlocy y e1] at h3
        exact absurd ⟨y,(hgone y e1).1 h1,h3⟩ hgt
      · rw [hlocy y e1] at h3
        rw [hlocy y' e2] at h4
        exact G.inj y y' b ((hgone y e1).1 h1) ((hgone y' e2).1 h2) h3 h4
    · intro y b h1 h2
      by_cases e1:y=q
      · subst e1
        rw [hlocq,hblkq] at h2
        have:g=b:=by simpa using h2
        subst this;exact hgo
      · rw [hlocy y e1] at h2
        exact G.own y b ((hgone y e1).1 h1) h2
    · intro y u h
      by_cases e1:y=q
      · subst e1
        rw [hpq] at h
        have:m=u:=by simpa using h
        subst this
        refine ⟨.inr rfl,?_⟩
        show (if m=n then none else c.names m)=none
        split
        · rfl
        · cases hcm:c.names m with
          | none=>rfl
          | some b=>exact absurd (G.nam m b hcm).1 hnu
      · rw [hver y e1] at h
        refine ⟨.inl (G.verU y u h).1,?_⟩
        show (if u=n then none else c.names u)=none
        split
        · rfl
        · exact (G.verU y u h).2
    · intro y y' u h1 h2
      by_cases e1:y=q <;> by_cases e2:y'=q
      · rw [e1,e2]
      · subst e1
        rw [hpq] at h1
        have:m=u:=by simpa using h1
        subst this
        rw [hver y' e2] at h2
        exact absurd (G.verU y' m h2).1 hnu
      · subst e2
        rw [hpq] at h2
        have:m=u:=by simpa using h2
        subst this
        rw [hver y e1] at h1
        exact absurd (G.verU y m h1).1 hnu
      · rw [hver y e1] at h1
        rw [hver y' e2] at h2
        exact G.verInj y y' u h1 h2
    · intro n' b h
      have h':(if n'=n then none else c.names n')=some b:=h
      split at h'
      · cases h'
      · rename_i hn'
        obtain ⟨h1,h2,h3,h4⟩:=G.nam n' b h'
        refine ⟨.inl h1,h2,h3,fun ht=>?_⟩
        rcases (htk b).1 ht with h | h
        · exact h4 h
        · exact hn' (G.namInj n' n b h' (h ▸ hng))
    · intro n1 n2 b h1 h2
      have h1':(if n1=n then none else c.names n1)=some b:=h1
      have h2':(if n2=n then none else c.names n2)=some b:=h2
      split at h1'
      · cases h1'
      · split at h2'
        · cases h2'
        · exact G.namInj n1 n2 b h1' h2'
    · refine ⟨m+1,?_⟩
      rintro u (h | rfl)
      · exact Nat.lt_succ_of_lt (hm u h)
      · exact Nat.lt_succ_self _
  · intro y u hu hy
    by_cases e:y=q
    · subst e
      rw [hpq] at hy
      have:m=u:=by simpa using hy
      subst this;exact absurd (H0.used m hu) hnu
    · rw [hver y e] at hy
      obtain ⟨h1,h2⟩:=H0.loc y u hu hy
      exact ⟨h1,(hlocy y e).trans h2⟩
theorem Sim.rf {σ:St} {a:Act} {c:Cz} (S:Sim w0 outsC N σ a c) (H0:Hist c0 c) {r i q v k ver k':Nat} {nn nn':Bool} {cs cs':List AVal} (hr:σ.hp r=.row v k nn cs)
    (hi:cs[i]?=some (.own q ver)) (hqr:q≠r) (hq:σ.hp q=.row ver k' nn' cs') :
    (∀ n k'' cs'',AVal.ro (some (some (n+1))) k'' cs''∈cs→cs''≠[]→n≠ver)∧∃ c',Sim w0 outsC N (σ.rf r i q ver k' nn' cs') a c'∧Hist c0 c'∧c'.w=c.w:=by
  have G:=S.good
  rw [← S.hp] at hr hq
  obtain ⟨base,nr,cap,gr,off,t,cells,x,hloc,hk,hl,hncap,hcapm,hnn,hbase,hheap,hfit,hrep,hx,hA⟩:=row_cell G hr hi
  refine ⟨?_,?_⟩
  · intro n k'' cs'' hmem hne e
    obtain ⟨j,hj⟩:=List.getElem?_of_mem hmem
    obtain ⟨u,_,hu⟩:=hrep.get hj
    simp only [Rep] at hu
    obtain ⟨_,_,_,_,_,_,_,hnm,_⟩:=hu
    rcases (hnm _ rfl).2 with h0 | ⟨b,_,_,hb,_⟩
    · exact hne (List.eq_nil_of_length_eq_zero h0)
    · have h1:=(G.verU q ver (by rw [hq];rfl)).2
      have hb':c.names n=some b:=hb
      rw [e,h1] at hb';cases hb'
  · obtain ⟨nm,G1,K1,hro⟩:=G.frz hq
    simp only [Rep] at hA
    have hxq:x=c.loc q:=hA.2 (by rw [hq];rfl)
    have hr1:(c.frz q nm).hp r=.row v k nn cs:=by simp only [Cz.frz,if_neg (Ne.symm hqr)];exact hr
    have hl1:(c.frz q nm).loc r=c.loc r:=rfl
    have hu1:(c.frz q nm).used v:=(G1.verU r v (by rw [hr1];rfl)).1
    have h2:=G1.upd c.w r (.row v k nn (cs.set i (.ro (frNm nn' cs'.length ver) k' cs'))) (c.loc r) v rfl rfl rfl (Nat.le_refl _) (fun _ _ _=>rfl)
      (by intro b' h;exact ⟨.inl ⟨by rw [hr1];simp,h⟩,(G1.obj r).lt (by rw [hr1];simp) h⟩)
      (.inr (.inr ⟨by rw [hr1];rfl,rfl,hu1⟩)) (fun K=>by
        refine ⟨base,nr,cap,hloc,hk,by rw [List.length_set];exact hl,hncap,hcapm,hnn,.inr ⟨gr,off,t,cells,hbase,hheap,hfit,?_⟩⟩
        refine RepL.put (RepL.keeps (K1.trans K) _ _ hrep) hx ?_
        rw [hxq];exact hro.keeps K)
    obtain ⟨G2,K2⟩:=h2
    refine ⟨_,⟨G2,?_,S.size,fun t=>(S.tm t).keeps (K1.trans K2),S.defers⟩,H0.step (K1.trans K2) rfl rfl,rfl⟩
    funext y
    show (if y=r then _ else if y=q then _ else c.hp y)=(if y=r then _ else if y=q then _ else σ.hp y)
    rw [← S.hp,hr]
theorem Sim.fb {σ:St} {a:Act} {c:Cz} (S:Sim w0 outsC N σ a c) (H0:Hist c0 c) {r i q v ver k':Nat} {nn':Bool} {cs cs':List AVal} (hr:σ.hp r=.box v cs)
    (hi:cs[i]?=some (.own q ver)) (hqr:q≠r) (hq:σ.hp q=.row ver k' nn' cs'):∃ c',Sim w0 outsC N (σ.fb r i q ver k' nn' cs') a c'∧Hist c0 c'∧c'.w=c.w:=by
  have G:=S.good
  rw [← S.hp] at hr hq
  have hO:=G.obj r
  rw [hr] at hO
  obtain ⟨g,t,cells,hloc,hheap,hrep⟩:=hO
  obtain ⟨x,hx,hA⟩:=hrep.get hi
  obtain ⟨nm,G1,K1,hro⟩:=G.frz hq
  simp only [Rep] at hA
  have hxq:x=c.loc q:=hA.2 (by rw [hq];rfl)
  have hr1:(c.frz q nm).hp r=.box v cs:=by simp only [Cz.frz,if_neg (Ne.symm hqr)];exact hr
  have hu1:(c.frz q nm).used v:=(G1.verU r v (by rw [hr1];rfl)).1
  have h2:=G1.upd c.w r (.box v (cs.set i (.ro (frNm nn' cs'.length ver) k' cs'))) (c.loc r) v rfl rfl rfl (Nat.le_refl _) (fun _ _ _=>rfl)
    (by intro b' h;exact ⟨.inl ⟨by rw [hr1];simp,h⟩,(G1.obj r).lt (by rw [hr1];simp) h⟩)
    (.inr (.inr ⟨by rw [hr1];rfl,rfl,hu1⟩)) (fun K=>by
      refine ⟨g,t,cells,hloc,hheap,?_⟩
      refine RepL.put (RepL.keeps (K1.trans K) _ _ hrep) hx ?_
      rw [hxq];exact hro.keeps K)
  obtain ⟨G2,K2⟩:=h2
  refine ⟨_,⟨G2,?_,S.size,fun t=>(S.tm t).keeps (K1.trans K2),S.defers⟩,H0.step (K1.trans K2) rfl rfl,rfl⟩
  funext y
  show (if y=r then _ else if y=q then _ else c.hp y)=(if y=r then _ else if y=q then _ else σ.hp y)
  rw [← S.hp,hr]
theorem Sim.tf {σ:St} {a:Act} {c:Cz} (S:Sim w0 outsC N σ a c) (H0:Hist c0 c) {t q ver k:Nat} {nn:Bool} {cs:List AVal} (ht:σ.tm t=.own q ver) (hq:σ.hp q=.row ver k nn cs) :
    ∃ c',Sim w0 outsC N (σ.tf t q ver k nn cs) a c'∧Hist c0 c'∧c'.w=c.w:=by
  have G:=S.good
  rw [← S.hp] at hq
  obtain ⟨nm,G1,K1,hro⟩:=G.frz hq
  have hx:=S.tm t
  rw [ht] at hx
  simp only [Rep] at hx
  have hxq:=hx.2 (by rw [hq];rfl)
  refine ⟨_,⟨G1,?_,S.size,fun y=>?_,S.defers⟩,H0.step K1 rfl rfl,rfl⟩
  · funext y
    show (if y=q then _ else c.hp y)=(if y=q then _ else σ.hp y)
    rw [← S.hp]
  · show Rep _ (if y=t then _ else σ.tm y) _
    split
    · rename_i e
      subst e
      rw [hxq];exact hro
    · exact (S.tm y).keeps K1
theorem Sim.tw {σ:St} {a:Act} {c:Cz} (S:Sim w0 outsC N σ a c) (H0:Hist c0 c) {t0 q n k':Nat} {cs':List AVal} (hr:σ.tm t0=.ro (some (some (n+1))) k' cs') (hne:cs'≠[]) (hq:σ.hp q=.gone):∃ m c',Sim w0 outsC N (σ.tw t0 q n m k' cs') a c'∧Hist c0 c'∧c'.w=c.w:=by
  have G:=S.good
  obtain ⟨m,hm⟩:=G.fin
  have hnu:¬ c.used m:=fun h=>absurd (hm m h) (Nat.lt_irrefl _)
  rw [← S.hp] at hq
  have hT:=S.tm t0
  rw [hr] at hT
  generalize hx0:a.tmps.getD t0 undef=x at hT
  simp only [Rep] at hT
  obtain ⟨base',len',cap',hxv,hk',hl',hm',hnm',hc'⟩:=hT
  have hlen0:cs'.length≠0:=fun e=>hne (List.eq_nil_of_length_eq_zero e)
  have hcap0:cap'≠0:=by
    intro e
    have:len'=0:=by omega
    rw [this] at hl';simp at hl';exact hne hl'
  rcases hc' with h0 | ⟨g,off',hb',himm,hrepA⟩
  · exact absurd h0 hlen0
  obtain ⟨hbn,h1⟩:=hnm' _ rfl
  have hbn:=hbn rfl
  rcases h1 with h0 | ⟨g',off'',hb'',hnmd,t',cells',hf1,hf2⟩
  · exact absurd h0 hlen0
  rw [hb'] at hb''
  cases hb''
  have hng:c.names n=some g:=hnmd
  obtain ⟨hgu,hgo,hgl,hgt⟩:=G.nam n g hng
  let c':Cz:={ c with hp:=(σ.tw t0 q n m k' cs').hp,loc:=fun x'=>if x'=q then x else c.loc x',names:=fun x'=>if x'=n then none else c.names x',used:=fun x'=>c.used x'∨x'=m }
  have hpq:c'.hp q=.row m k' true (woL n cs'):=by show (if q=q then _ else _)=_;rw [if_pos rfl]
  have hpx:∀ y,y≠q→c'.hp y=(c.hp y).wo n:=fun y h1=>by
    show (if y=q then _ else _)=_
    rw [if_neg h1,S.hp]
  have hver:∀ y,y≠q→(c'.hp y).ver=(c.hp y).ver:=fun y h1=>by
    rw [hpx y h1,AObj.wo_ver]
  have hgone:∀ y,y≠q→(c'.hp y≠.gone↔c.hp y≠.gone):=fun y h1=>by
    rw [hpx y h1,ne_eq,AObj.wo_gone]
  have hlocy:∀ y,y≠q→c'.loc y=c.loc y:=fun y h=>if_neg h
  have hlocq:c'.loc q=x:=if_pos rfl
  have hblkq:blockOf x=some g:=by rw [hxv,hb'];simp [blockOf,hcap0]
  have htk:∀ b,c'.taken b↔(c.taken b∨b=g):=by
    intro b
    constructor
    · rintro ⟨y,h1,h2⟩
      by_cases e:y=q
      · subst e;rw [hlocq,hblkq] at h2;exact .inr (by simpa using h2.symm)
      · rw [hlocy y e] at h2;exact .inl ⟨y,(hgone y e).1 h1,h2⟩
    · rintro (⟨y,h1,h2⟩ | rfl)
      · have e:y≠q:=by rintro rfl;exact h1 hq
        exact ⟨y,(hgone y e).2 h1,by rw [hlocy y e];exact h2⟩
      · exact ⟨q,by rw [hpq];simp,by rw [hlocq];exact hblkq⟩
  have K:Less n g c c':=by
    refine ⟨?_,?_,fun v h=>.inl h,?_,fun n' h=>G.namInj n' n g h hng,fun b hb=>⟨fun e=>?_,hb⟩⟩
    rotate_left 3
    · rw [e] at hb
      rcases hgo with h | h
      · have:=G.base.2 g hb;omega
      · exact (G.outExt g h).2 hb
    · rintro b ⟨h1,h2,h3⟩ hbg
      exact ⟨⟨h1,h2,fun h=>by rcases (htk b).1 h with h | h;exact h3 h;exact hbg h⟩,rfl⟩
    · intro n' b h hn'
      show (if n'=n then none else c.names n')=_
      rw [if_neg hn'];exact h
    · intro y u hu hy
      by_cases e:y=q
      · subst e;rw [hpq] at hy
        have:m=u:=by simpa using hy
        subst this;exact absurd hu hnu
      · rw [hver y e] at hy;exact ⟨hy,hlocy y e⟩
  have Gr:∀ y,y≠q→ObjRep c' (c'.loc y) (c'.hp y):=fun y h1=>by
    rw [hlocy y h1,hpx y h1]
    exact ObjRep.wo K (G.obj y) fun _ _=>rfl
  refine ⟨m,c',⟨?_,rfl,S.size,fun t=>?_,S.defers⟩,⟨fun u hu=>.inl (H0.used u hu),?_,H0.ext,H0.base,H0.old⟩,rfl⟩
  rotate_left
  · show Rep c' (if t=t0 then .own q m else (σ.tm t).wo n) _
    split
    · rename_i e;subst e
      rw [hx0]
      simp only [Rep]
      exact ⟨.inr rfl,fun _=>hlocq.symm⟩
    · exact Rep.wo K _ _ (S.tm t)
  rotate_right
  · refine ⟨G.base,?_,?_,?_,?_,?_,G.outExt,?_,?_,?_,G.os,G.tape,G.output,G.size,G.frame⟩
    · intro y
      by_cases e1:y=q
      · subst e1
        rw [hlocq,hpq]
        refine ⟨base',len',cap',hxv,hk',by rw [woL_eq,List.length_map];exact hl',hm'.1,hm'.2,fun _=>hbn,.inr ⟨g,off',t',cells',hb',hf1,hf2,?_⟩⟩
        have h3:RepL c cs' ((cells'.toList.drop off').take (len' * k')):=by
          refine RepL.of_get ?_ ?_
          · rw [List.length_take,List.length_drop,hl']
            have h9:cells'.toList.length=cells'.size:=by simp
            have:len' * k'≤cap' * k':=Nat.mul_le_mul_right _ hm'.1
            rw [h9];omega
          · intro j B u hB hu
            obtain ⟨u',hu',hr'⟩:=hrepA.get hB
            rw [cell_of_row c.w g (off'+j) cells' t' (0,0) hf1] at hu'
            rw [List.getElem?_take] at hu
            split at hu
            · rw [List.getElem?_drop,Array.getElem?_toList] at hu
              rw [hu'] at hu
              simp only [Option.some.injEq] at hu
              subst hu;exact hr'
            · cases hu
        exact RepL.wo K _ _ h3
      · exact Gr y e1
    · intro y y' b h1 h2 h3 h4
      by_cases e1:y=q <;> by_cases e2:y'=q
      · rw [e1,e2]
      · subst e1
        rw [hlocq,hblkq] at h3
        have:g=b:=by simpa using h3
        subst this
        rw [hlocy y' e2] at h4
        exact absurd ⟨y',(hgone y' e2).1 h2,h4⟩ hgt
      · subst e2
        rw [hlocq,hblkq] at h4
        have:g=b:=by simpa using h4
        subst this
        rw [hlocy y e1] at h3
        exact absurd ⟨y,(hgone y e1).1 h1,h3⟩ hgt
      · rw [hlocy y e1] at h3
        rw [hlocy y' e2] at h4
        exact G.inj y y' b ((hgone y e1).1 h1) ((hgone y' e2).1 h2) h3 h4
    · intro y b h1 h2
      by_cases e1:y=q
      · subst e1
        rw [hlocq,hblkq] at h2
        have:g=b:=by simpa using h2
        subst this;exact hgo
      · rw [hlocy y e1] at h2
        exact G.own y b ((hgone y e1).1 h1) h2
    · intro y u h
      by_cases e1:y=q
      · subst e1
        rw [hpq] at h
        have:m=u:=by simpa using h
        subst this
        refine ⟨.inr rfl,?_⟩
        show (if m=n then none else c.names m)=none
        split
        · rfl
        · cases hcm:c.names m with
          | none=>rfl
          | some b=>exact absurd (G.nam m b hcm).1 hnu
      · rw [hver y e1] at h
        refine ⟨.inl (G.verU y u h).1,?_⟩
        show (if u=n then none else c.names u)=none
        split
        · rfl
        · exact (G.verU y u h).2
    · intro y y' u h1 h2
      by_cases e1:y=q <;> by_cases e2:y'=q
      · rw [e1,e2]
      · subst e1
        rw [hpq] at h1
        have:m=u:=by simpa using h1
        subst this
        rw [hver y' e2] at h2
        exact absurd (G.verU y' m h2).1 hnu
      · subst e2
        rw [hpq] at h2
        have:m=u:=by simpa using h2
        subst this
        rw [hver y e1] at h1
        exact absurd (G.verU y m h1).1 hnu
      · rw [hver y e1] at h1
        rw [hver y' e2] at h2
        exact G.verInj y y' u h1 h2
    · intro n' b h
      have h':(if n'=n then none else c.names n')=some b:=h
      split at h'
      · cases h'
      · rename_i hn'
        obtain ⟨h1,h2,h3,h4⟩:=G.nam n' b h'
        refine ⟨.inl h1,h2,h3,fun ht=>?_⟩
        rcases (htk b).1 ht with h | h
        · exact h4 h
        · exact hn' (G.namInj n' n b h' (h ▸ hng))
    · intro n1 n2 b h1 h2
      have h1':(if n1=n then none else c.names n1)=some b:=h1
      have h2':(if n2=n then none else c.names n2)=some b:=h2
      split at h1'
      · cases h1'
      · split at h2'
        · cases h2'
        · exact G.namInj n1 n2 b h1' h2'
    · refine ⟨m+1,?_⟩
      rintro u (h | rfl)
      · exact Nat.lt_succ_of_lt (hm u h)
      · exact Nat.lt_succ_self _
  · intro y u hu hy
    by_cases e:y=q
    · subst e
      rw [hpq] at hy
      have:m=u:=by simpa using hy
      subst this;exact absurd (H0.used m hu) hnu
    · rw [hver y e] at hy
      obtain ⟨h1,h2⟩:=H0.loc y u hu hy
      exact ⟨h1,(hlocy y e).trans h2⟩
theorem Sim.tr {σ:St} {a:Act} {c:Cz} (S:Sim w0 outsC N σ a c) (H0:Hist c0 c) {t0 i q k ver k':Nat} {nn':Bool} {cs cs':List AVal} (ht:σ.tm t0=.ro (some (some 0)) k cs)
    (hi:cs[i]?=some (.own q ver)) (hq:σ.hp q=.row ver k' nn' cs') :
    (∀ n k'' cs'',AVal.ro (some (some (n+1))) k'' cs''∈cs→cs''≠[]→n≠ver)∧∃ c',Sim w0 outsC N (σ.tr t0 i q ver k k' nn' cs cs') a c'∧Hist c0 c'∧c'.w=c.w:=by
  have G:=S.good
  rw [← S.hp] at hq
  have hT:=S.tm t0
  rw [ht] at hT
  refine ⟨?_,?_⟩
  · intro n k'' cs'' hmem hne e
    obtain ⟨j,hj⟩:=List.getElem?_of_mem hmem
    simp only [Rep] at hT
    obtain ⟨baseT,lenT,capT,hvT,hkT,hlT,hmT,hnT,hcT⟩:=hT
    rcases hcT with h0 | ⟨gT,offT,hbT,hiT,hatT⟩
    · have:cs=[]:=List.eq_nil_of_length_eq_zero h0
      rw [this] at hi;simp at hi
    obtain ⟨u,_,hu⟩:=hatT.get hj
    simp only [Rep] at hu
    obtain ⟨_,_,_,_,_,_,_,hnm,_⟩:=hu
    rcases (hnm _ rfl).2 with h0 | ⟨b,_,_,hb,_⟩
    · exact hne (List.eq_nil_of_length_eq_zero h0)
    · have h1:=(G.verU q ver (by rw [hq];rfl)).2
      have hb':c.names n=some b:=hb
      rw [e,h1] at hb';cases hb'
  · obtain ⟨nm,G1,K1,hro⟩:=G.frz hq
    have hT1:=hT.keeps K1
    refine ⟨_,⟨G1,?_,S.size,fun y=>?_,S.defers⟩,H0.step K1 rfl rfl,rfl⟩
    · funext y
      show (if y=q then _ else c.hp y)=(if y=q then _ else σ.hp y)
      rw [← S.hp]
    · show Rep _ (if y=t0 then _ else σ.tm y) _
      split
      · rename_i e
        subst e
        simp only [Rep] at hT hT1 ⊢
        obtain ⟨baseS,lenS,capS,hvS,hkS,hlS,hmS,hnS,hcS⟩:=hT
        obtain ⟨baseT,lenT,capT,hvT,hkT,hlT,hmT,hnT,hcT⟩:=hT1
        rcases hcS with h0 | ⟨gS,offS,hbS,hiS,hatS⟩
        · have:cs=[]:=List.eq_nil_of_length_eq_zero h0
          rw [this] at hi;simp at hi
        rcases hcT with h0 | ⟨gT,offT,hbT,hiT,hatT⟩
        · have:cs=[]:=List.eq_nil_of_length_eq_zero h0
          rw [this] at hi;simp at hi
        rw [hvS] at hvT
        obtain ⟨x,hxS,hA⟩:=hatS.get hi
        simp only [Rep] at hA
        have hxq:=hA.2 (by rw [hq];rfl)
        refine ⟨baseT,lenT,capT,by rw [hvS];exact hvT,hkT,by rw [List.length_set];exact hlT,hmT,?_,.inr ⟨gT,offT,hbT,hiT,?_⟩⟩
        · intro n0 e
          obtain ⟨z1,z2⟩:=hnT n0 e
          exact ⟨z1,by rw [List.length_set];exact z2⟩
        · refine RepAt.put hatT (x:=x) ?_ ?_
          · have:gS=gT∧offS=offT:=by
              simp only [Value.slice.injEq] at hvT
              obtain ⟨e1,_,_⟩:=hvT
              rw [hbS,hbT] at e1
              simp only [Option.some.injEq] at e1
              simp only [Addr.mk.injEq] at e1
              exact ⟨e1.1,e1.2.1⟩
            rw [← this.1,← this.2]
            exact hxS
          · rw [hxq];exact hro
      · exact (S.tm y).keeps K1
end
mutual
def AVal.mv (a v b m:Nat):AVal→AVal
  | .any=>.any
  | .val x=>.val x
  | .ro nm k cs=>.ro nm k (mvL a v b m cs)
  | .own r u=>if r=a then (if u=v then .own b m else .any) else if r=b then .any else .own r u
  | .st cs=>.st (mvL a v b m cs)
  | .tup cs=>.tup (mvL a v b m cs)
  | .ptr r u off=>if r=a then (if u=v then .ptr b m off else .any) else if r=b then .any else .ptr r u off
  | .rp cs off=>.rp (mvL a v b m cs) off
  | .mp r u=>if r=a then (if u=v then .mp b m else .any) else if r=b then .any else .mp r u
  | .clo g caps=>.clo g (mvL a v b m caps)
def mvL (a v b m:Nat):List AVal→List AVal
  | []=>[]
  | A :: cs=>AVal.mv a v b m A :: mvL a v b m cs
end
theorem mvL_eq (a v b m:Nat):∀ cs:List AVal,mvL a v b m cs=cs.map (AVal.mv a v b m)
  | []=>by simp [mvL]
  | A :: cs=>by simp [mvL,mvL_eq a v b m cs]
def AObj.mv (a v b m:Nat):AObj→AObj
  | .gone=>.gone
  | .box u cs=>.box u (mvL a v b m cs)
  | .row u k nn cs=>.row u k nn (mvL a v b m cs)
  | .map u ks vs=>.map u ks (mvL a v b m vs)
  | .it u d=>.it u (itd (mvL a v b m) d)
def AObj.wv (m:Nat):AObj→AObj
  | .gone=>.gone
  | .box _ cs=>.box m cs
  | .row _ k nn cs=>.row m k nn cs
  | .map _ ks vs=>.map m ks vs
  | .it _ d=>.it m d
theorem AObj.mv_ver (a v b m:Nat) (o:AObj):(o.mv a v b m).ver=o.ver:=by cases o <;> rfl
theorem AObj.mv_gone {a v b m:Nat} {o:AObj}:o.mv a v b m=.gone↔o=.gone:=by cases o <;> simp [AObj.mv]
theorem AObj.wv_gone {m:Nat} {o:AObj}:o.wv m=.gone↔o=.gone:=by cases o <;> simp [AObj.wv]
theorem AObj.wv_ver {m:Nat} {o:AObj} (h:o≠.gone):(o.wv m).ver=some m:=by cases o <;> simp_all [AObj.wv]
def St.mv (σ:St) (a b m:Nat):St :=
  match (σ.hp a).ver with
  | none=>σ
  | some v=>if a=b then σ else ⟨fun t=>(σ.tm t).mv a v b m,fun r=>if r=a then .gone else if r=b then ((σ.hp a).mv a v b m).wv m else (σ.hp r).mv a v b m⟩
structure Mv (a v b m:Nat) (c c':Cz):Prop where
  imm:∀ x,c.imm x→c'.imm x∧c'.w.heap[x]?=c.w.heap[x]?
  names:∀ n x,c.names n=some x→c'.names n=some x
  used:∀ u,c.used u→c'.used u
  new:c'.used m∧¬ c.used m
  ver:(c.hp a).ver=some v
  loc:∀ r u,r≠a→r≠b→(c'.hp r).ver=some u→(c.hp r).ver=some u∧c'.loc r=c.loc r
  gone:c'.hp a=.gone
  atb:c'.loc b=c.loc a
  old:c'.old=c.old
mutual
theorem Rep.mv {a v b m:Nat} {c c':Cz} (K:Mv a v b m c c'):∀ (A:AVal) (x:Value),Rep c A x→Rep c' (A.mv a v b m) x
  | .any,_,_=>by simp [AVal.mv,Rep]
  | .val x,_,h=>by simpa [AVal.mv,Rep] using h
  | .ro nm k cs,x,h=>by
    simp only [AVal.mv,Rep] at h ⊢
    obtain ⟨base,len,cap,hv,hk,hl,hm,hn,hc⟩:=h
    refine ⟨base,len,cap,hv,hk,by rw [mvL_eq,List.length_map];exact hl,hm,?_,?_⟩
    · intro n e
      refine ⟨(hn n e).1,?_⟩
      rcases (hn n e).2 with h0 | ⟨y,off,hb,hnm⟩
      · left;rw [mvL_eq,List.length_map];exact h0
      · rcases hc with hc | ⟨b',off',hb',hi,_⟩
        · left;rw [mvL_eq,List.length_map];exact hc
        · rw [hb] at hb'
          cases hb'
          refine .inr ⟨y,off,hb,?_⟩
          have hh:=(K.imm y hi).2
          cases n with
          | none=>obtain ⟨⟨n,h⟩,hf⟩:=hnm;exact ⟨⟨n,K.names _ _ h⟩,Cz.fit_of hf hh⟩
          | some n=>cases n with
            | zero=>show c'.old y;rw [K.old];exact hnm
            | succ n=>exact ⟨K.names _ _ hnm.1,Cz.fit_of hnm.2 hh⟩
    · rcases hc with hc | ⟨y,off,hb,hi,hr⟩
      · left;rw [mvL_eq,List.length_map];exact hc
      · exact .inr ⟨y,off,hb,(K.imm y hi).1,RepAt.mv K (K.imm y hi).2 cs off hr⟩
  | .own r u,x,h=>by
    simp only [AVal.mv]
    simp only [Rep] at h
    split
    · rename_i e;subst e
      split
      · rename_i e;subst e
        simp only [Rep]
        exact ⟨K.new.1,fun _=>by rw [K.atb];exact h.2 K.ver⟩
      · simp [Rep]
    · rename_i e1
      split
      · simp [Rep]
      · rename_i e2
        simp only [Rep]
        refine ⟨K.used _ h.1,fun hr=>?_⟩
        obtain ⟨h1,h2⟩:=K.loc r u e1 e2 hr
        rw [h2];exact h.2 h1
  | .st cs,x,h=>by
    simp only [AVal.mv,Rep] at h ⊢
    obtain ⟨vs,hv,hl⟩:=h
    exact ⟨vs,hv,RepL.mv K cs vs.toList hl⟩
  | .tup cs,x,h=>by
    simp only [AVal.mv,Rep] at h ⊢
    obtain ⟨vs,hv,hl⟩:=h
    exact ⟨vs,hv,RepL.mv K cs vs.toList hl⟩
  | .ptr r u off,x,h=>by
    simp only [AVal.mv]
    simp only [Rep] at h
    split
    · rename_i e;subst e
      split
      · rename_i e;subst e
        simp only [Rep]
        exact ⟨K.new.1,fun _=>by rw [K.atb];exact h.2 K.ver⟩
      · simp [Rep]
    · rename_i e1
      split
      · simp [Rep]
      · rename_i e2
        simp only [Rep]
        refine ⟨K.used _ h.1,fun hr=>?_⟩
        obtain ⟨h1,h2⟩:=K.loc r u e1 e2 hr
        rw [h2];exact h.2 h1
  | .rp cs off,x,h=>by
    simp only [AVal.mv,Rep] at h ⊢
    obtain ⟨y,o,hv,hi,hr⟩:=h
    exact ⟨y,o,hv,(K.imm y hi).1,RepAt.mv K (K.imm y hi).2 cs o hr⟩
  | .mp r u,x,h=>by
    simp only [AVal.mv]
    simp only [Rep] at h
    split
    · rename_i e;subst e
      split
      · rename_i e;subst e
        simp only [Rep]
        exact ⟨K.new.1,fun _=>by rw [K.atb];exact h.2 K.ver⟩
      · simp [Rep]
    · rename_i e1
      split
      · simp [Rep]
      · rename_i e2
        simp only [Rep]
        refine ⟨K.used _ h.1,fun hr=>?_⟩
        obtain ⟨h1,h2⟩:=K.loc r u e1 e2 hr
        rw [h2];exact h.2 h1
  | .clo f caps,x,h=>by
    simp only [AVal.mv,Rep] at h ⊢
    obtain ⟨vs,hv,hl⟩:=h
    exact ⟨vs,hv,RepL.mv K caps vs.toList hl⟩
theorem RepAt.mv {a v b m:Nat} {c c':Cz} (K:Mv a v b m c c') {y:Nat} (hb:c'.w.heap[y]?=c.w.heap[y]?):∀ (cs:List AVal) (off:Nat),RepAt c y off cs→RepAt c' y off (mvL a v b m cs)
  | [],_,_=>by simp [mvL,RepAt]
  | A :: cs,off,h=>by
    simp only [mvL,RepAt] at h ⊢
    obtain ⟨⟨x,hx,hr⟩,ht⟩:=h
    refine ⟨⟨x,?_,Rep.mv K A x hr⟩,RepAt.mv K hb cs (off+1) ht⟩
    rw [World.cell?_of_block (w:=c.w) hb];exact hx
theorem RepL.mv {a v b m:Nat} {c c':Cz} (K:Mv a v b m c c'):∀ (cs:List AVal) (vs:List Value),RepL c cs vs→RepL c' (mvL a v b m cs) vs
  | [],[],_=>by simp [mvL,RepL]
  | [],_ :: _,h=>by simp [RepL] at h
  | _ :: _,[],h=>by simp [RepL] at h
  | A :: cs,x :: vs,h=>by
    simp only [mvL,RepL] at h ⊢
    exact ⟨Rep.mv K A x h.1,RepL.mv K cs vs h.2⟩
end
theorem ObjRep.mv {a v b m:Nat} {c c':Cz} (K:Mv a v b m c c') {x:Value} {o:AObj} (h:ObjRep c x o) (hw:c'.w=c.w):ObjRep c' x (o.mv a v b m):=by
  cases o with
  | gone=>trivial
  | box ver cs =>
    obtain ⟨g,t,cells,rfl,hg,hr⟩:=h
    exact ⟨g,t,cells,rfl,by rw [hw];exact hg,RepL.mv K _ _ hr⟩
  | row ver k nn cs =>
    obtain ⟨base,n,cap,rfl,h1,h2,h3,h4,h5,hc⟩:=h
    refine ⟨base,n,cap,rfl,h1,by rw [mvL_eq,List.length_map];exact h2,h3,h4,h5,?_⟩
    rcases hc with hc | ⟨g,off,t,cells,rfl,hg,h6,h7⟩
    · exact .inl hc
    · exact .inr ⟨g,off,t,cells,rfl,by rw [hw];exact hg,h6,RepL.mv K _ _ h7⟩
  | map ver ks vs =>
    obtain ⟨g,clock,ents,rfl,hg,h1,h2⟩:=h
    exact ⟨g,clock,ents,rfl,by rw [hw];exact hg,h1,RepL.mv K _ _ h2⟩
  | it ver d =>
    cases d with
    | none=>obtain ⟨g,rfl,hg⟩:=h;exact ⟨g,rfl,by rw [hw];exact hg⟩
    | some d =>
      obtain ⟨cur,ks,vs⟩:=d
      obtain ⟨g,rfl,hg,hi⟩:=h
      exact ⟨g,rfl,by rw [hw];exact hg,hi.of (by rw [hw]) K.imm fun us=>RepL.mv K _ us⟩
theorem ObjRep.wv {c:Cz} {x:Value} {o:AObj} {m:Nat} (h:ObjRep c x o):ObjRep c x (o.wv m):=by
  cases o with
  | it u d=>cases d <;> exact h
  | _=>exact h
section
variable {w0:World} {outsC:Nat→Prop} {N:Nat} {c0:Cz}
theorem Sim.mv {σ:St} {t:Act} {c:Cz} (S:Sim w0 outsC N σ t c) (H0:Hist c0 c) (a b:Nat):∃ m c',Sim w0 outsC N (σ.mv a b m) t c'∧Hist c0 c'∧c'.w=c.w:=by
  have G:=S.good
  obtain ⟨m,hm⟩:=G.fin
  have hnu:¬ c.used m:=fun h=>absurd (hm m h) (Nat.lt_irrefl _)
  refine ⟨m,?_⟩
  unfold St.mv
  split
  · exact ⟨c,S,H0,rfl⟩
  · rename_i v hv
    rw [← S.hp] at hv
    by_cases hab:a=b
    · rw [if_pos hab];exact ⟨c,S,H0,rfl⟩
    rw [if_neg hab]
    have hga:c.hp a≠.gone:=ver_ne_gone hv
    let hp':Nat→AObj:=fun r=>if r=a then .gone else if r=b then ((σ.hp a).mv a v b m).wv m else (σ.hp r).mv a v b m
    let c':Cz:={ c with hp:=hp',loc:=fun r=>if r=b then c.loc a else c.loc r,used:=fun u=>c.used u∨u=m }
    have pa:c'.hp a=.gone:=if_pos rfl
    have pb:c'.hp b=((c.hp a).mv a v b m).wv m:=by
      show (if b=a then _ else if b=b then _ else _)=_
      rw [if_neg (Ne.symm hab),if_pos rfl,S.hp]
    have pr:∀ r,r≠a→r≠b→c'.hp r=(c.hp r).mv a v b m:=fun r h1 h2=>by
      show (if r=a then _ else if r=b then _ else _)=_
      rw [if_neg h1,if_neg h2,S.hp]
    have lb:c'.loc b=c.loc a:=if_pos rfl
    have lr:∀ r,r≠b→c'.loc r=c.loc r:=fun r h=>if_neg h
    have hgb:((c.hp a).mv a v b m).wv m≠.gone:=by rw [ne_eq,AObj.wv_gone,AObj.mv_gone];exact hga
    have hvb:(c'.hp b).ver=some m:=by rw [pb];exact AObj.wv_ver (by rw [ne_eq,AObj.mv_gone];exact hga)
    have back:∀ r,c'.hp r≠.gone→∃ r',c.hp r'≠.gone∧c.loc r'=c'.loc r∧(r'=if r=b then a else r):=by
      intro r h
      by_cases e2:r=b
      · subst e2;exact ⟨a,hga,lb.symm,(if_pos rfl).symm⟩
      · by_cases e1:r=a
        · subst e1;exact absurd pa h
        · rw [pr r e1 e2,ne_eq,AObj.mv_gone] at h
          exact ⟨r,h,(lr r e2).symm,(if_neg e2).symm⟩
    have htk:∀ x,¬ c.taken x→¬ c'.taken x:=by
      rintro x hx ⟨r,h1,h2⟩
      obtain ⟨r',h3,h4,_⟩:=back r h1
      exact hx ⟨r',h3,by rw [h4];exact h2⟩
    have hrv:∀ r u,r≠a→r≠b→(c'.hp r).ver=some u→(c.hp r).ver=some u:=fun r u h1 h2 h=>by
      rw [pr r h1 h2,AObj.mv_ver] at h;exact h
    have K:Mv a v b m c c':=by
      refine ⟨?_,fun n x h=>h,fun u h=>.inl h,⟨.inr rfl,hnu⟩,hv,?_,pa,lb,rfl⟩
      · rintro x ⟨h1,h2,h3⟩;exact ⟨⟨h1,h2,htk x h3⟩,rfl⟩
      · intro r u h1 h2 h;exact ⟨hrv r u h1 h2 h,lr r h2⟩
    refine ⟨c',⟨?_,rfl,S.size,fun n=>Rep.mv K _ _ (S.tm n),S.defers⟩,⟨fun u hu=>.inl (H0.used u hu),?_,H0.ext,H0.base,H0.old⟩,rfl⟩
    · refine ⟨G.base,?_,?_,?_,?_,?_,G.outExt,?_,G.namInj,?_,G.os,G.tape,G.output,G.size,G.frame⟩
      · intro r
        by_cases e1:r=a
        · subst e1;rw [pa];trivial
        · by_cases e2:r=b
          · subst e2
            rw [pb,lb]
            exact ((G.obj a).mv K rfl).wv
          · rw [pr r e1 e2,lr r e2];exact (G.obj r).mv K rfl
      · intro r r' x h1 h2 h3 h4
        obtain ⟨q,g1,g2,g3⟩:=back r h1
        obtain ⟨q',g1',g2',g3'⟩:=back r' h2
        have e:=G.inj q q' x g1 g1' (by rw [g2];exact h3) (by rw [g2'];exact h4)
        have ha1:r≠a:=fun e=>h1 (e ▸ pa)
        have ha2:r'≠a:=fun e=>h2 (e ▸ pa)
        rw [g3,g3'] at e
        by_cases e1:r=b <;> by_cases e2:r'=b <;> simp only [e1,e2,if_true,if_false] at e ⊢
        · exact absurd e.symm ha2
        · exact absurd e ha1
        · exact e
      · intro r x h1 h2
        obtain ⟨q,g1,g2,_⟩:=back r h1
        exact G.own q x g1 (by rw [g2];exact h2)
      · intro r u h
        by_cases e2:r=b
        · subst e2
          rw [hvb] at h
          have:m=u:=by simpa using h
          subst this
          refine ⟨.inr rfl,?_⟩
          show c.names m=none
          cases hcm:c.names m with
          | none=>rfl
          | some x=>exact absurd (G.nam m x hcm).1 hnu
        · by_cases e1:r=a
          · subst e1;rw [pa] at h;cases h
          · exact ⟨.inl (G.verU r u (hrv r u e1 e2 h)).1,(G.verU r u (hrv r u e1 e2 h)).2⟩
      · intro r r' u h1 h2
        by_cases e1:r=b <;> by_cases e2:r'=b
        · rw [e1,e2]
        · subst e1
          rw [hvb] at h1
          have:m=u:=by simpa using h1
          subst this
          have ha2:r'≠a:=by rintro rfl;rw [pa] at h2;cases h2
          exact absurd (G.verU r' m (hrv r' m ha2 e2 h2)).1 hnu
        · subst e2
          rw [hvb] at h2
          have:m=u:=by simpa using h2
          subst this
          have ha2:r≠a:=by rintro rfl;rw [pa] at h1;cases h1
          exact absurd (G.verU r m (hrv r m ha2 e1 h1)).1 hnu
        · have ha1:r≠a:=by rintro rfl;rw [pa] at h1;cases h1
          have ha2:r'≠a:=by rintro rfl;rw [pa] at h2;cases h2
          exact G.verInj r r' u (hrv r u ha1 e1 h1) (hrv r' u ha2 e2 h2)
      · intro n x h
        obtain ⟨h1,h2,h3,h4⟩:=G.nam n x h
        exact ⟨.inl h1,h2,h3,htk x h4⟩
      · refine ⟨m+1,?_⟩
        rintro u (h | rfl)
        · exact Nat.lt_succ_of_lt (hm u h)
        · exact Nat.lt_succ_self _
    · intro r u hu h
      by_cases e2:r=b
      · subst e2
        rw [hvb] at h
        have:m=u:=by simpa using h
        subst this;exact absurd (H0.used m hu) hnu
      · by_cases e1:r=a
        · subst e1;rw [pa] at h;cases h
        · obtain ⟨h1,h2⟩:=H0.loc r u hu (hrv r u e1 e2 h)
          exact ⟨h1,(lr r e2).trans h2⟩
end
end Go.Ab
