/- Contracts and what they lean on, part 4. Conditions: none. -/
import Derived.Test.YtmmpllmppgelgaaDoorZ3
set_option maxRecDepth 100000
set_option maxHeartbeats 4000000
set_option linter.all false
open Nat renaming reduceLeDiff → xx0, reduceMul → xx1, reduceSub → xx2, reduceEqDiff → xx3, reduceAdd → xx4, reduceLT → xx5
open Int renaming reduceToNat → xx6, reduceNeg → xx7, reduceLE → xx8, reduceLT → xx9
namespace Go.Ab
mutual
def AVal.uses (U:Nat→Prop):AVal→Prop
  | .any=>True
  | .val _=>True
  | .ro nm _ cs=>(∀ n,nm=some (some (n+1))→cs.length=0∨U n)∧usesL U cs
  | .own _ v=>U v
  | .st cs=>usesL U cs
  | .tup cs=>usesL U cs
  | .ptr _ v _=>U v
  | .rp cs _=>usesL U cs
  | .mp _ v=>U v
  | .clo _ caps=>usesL U caps
def usesL (U:Nat→Prop):List AVal→Prop
  | []=>True
  | A :: cs=>AVal.uses U A∧usesL U cs
end
def AObj.uses (U:Nat→Prop):AObj→Prop
  | .gone=>True
  | .box v cs=>U v∧usesL U cs
  | .row v _ _ cs=>U v∧usesL U cs
  | .map v _ vs=>U v∧usesL U vs
  | .it v none=>U v
  | .it v (some (_,_,vs))=>U v∧usesL U vs
mutual
theorem Rep.uses {w0:World} {outs:Nat→Prop} {c:Cz} (G:Good w0 outs c):∀ (A:AVal) (v:Value),Rep c A v→A.uses c.used
  | .any,_,_=>by simp [AVal.uses]
  | .val _,_,_=>by simp [AVal.uses]
  | .ro nm k cs,v,h=>by
    simp only [Rep] at h
    obtain ⟨base,len,cap,_,_,_,_,hn,hc⟩:=h
    simp only [AVal.uses]
    refine ⟨?_,?_⟩
    · intro n e
      rcases (hn _ e).2 with h0 | ⟨b,off,_,hb⟩
      · exact .inl h0
      · exact .inr (G.nam n b hb.1).1
    · rcases hc with h0 | ⟨b,off,_,_,hr⟩
      · have:cs=[]:=List.eq_nil_of_length_eq_zero h0
        subst this;simp [usesL]
      · exact RepAt.uses G cs b off hr
  | .own _ _,_,h=>by simp only [Rep] at h;simp only [AVal.uses];exact h.1
  | .st cs,v,h=>by
    simp only [Rep] at h;obtain ⟨vs,_,hl⟩:=h
    simp only [AVal.uses];exact RepL.uses G cs vs.toList hl
  | .tup cs,v,h=>by
    simp only [Rep] at h;obtain ⟨vs,_,hl⟩:=h
    simp only [AVal.uses];exact RepL.uses G cs vs.toList hl
  | .ptr _ _ _,_,h=>by simp only [Rep] at h;simp only [AVal.uses];exact h.1
  | .rp cs off,v,h=>by
    simp only [Rep] at h;obtain ⟨b,o,_,_,hr⟩:=h
    simp only [AVal.uses];exact RepAt.uses G cs b o hr
  | .mp _ _,_,h=>by simp only [Rep] at h;simp only [AVal.uses];exact h.1
  | .clo _ caps,v,h=>by
    simp only [Rep] at h;obtain ⟨vs,_,hl⟩:=h
    simp only [AVal.uses];exact RepL.uses G caps vs.toList hl
theorem RepAt.uses {w0:World} {outs:Nat→Prop} {c:Cz} (G:Good w0 outs c):∀ (cs:List AVal) (b off:Nat),RepAt c b off cs→usesL c.used cs
  | [],_,_,_=>by simp [usesL]
  | A :: cs,b,off,h=>by
    simp only [RepAt] at h
    obtain ⟨⟨v,_,hr⟩,ht⟩:=h
    simp only [usesL];exact ⟨Rep.uses G A v hr,RepAt.uses G cs b (off+1) ht⟩
theorem RepL.uses {w0:World} {outs:Nat→Prop} {c:Cz} (G:Good w0 outs c):∀ (cs:List AVal) (vs:List Value),RepL c cs vs→usesL c.used cs
  | [],_,_=>by simp [usesL]
  | _ :: _,[],h=>by simp [RepL] at h
  | A :: cs,v :: vs,h=>by
    simp only [RepL] at h
    simp only [usesL];exact ⟨Rep.uses G A v h.1,RepL.uses G cs vs h.2⟩
end
theorem ObjRep.uses {w0:World} {outs:Nat→Prop} {c:Cz} (G:Good w0 outs c) (r:Nat):(c.hp r).uses c.used:=by
  have hO:=G.obj r
  have hv:=G.verU r
  cases ho:c.hp r with
  | gone=>trivial
  | box v cs =>
    rw [ho] at hO hv
    obtain ⟨_,_,_,_,_,hl⟩:=hO
    exact ⟨(hv v rfl).1,RepL.uses G _ _ hl⟩
  | row v k nn cs =>
    rw [ho] at hO hv
    obtain ⟨base,n,cap,_,hk,hlen,hnc,_,_,hc⟩:=hO
    refine ⟨(hv v rfl).1,?_⟩
    rcases hc with h0 | ⟨_,_,_,_,_,_,_,hl⟩
    · have:n=0:=by omega
      subst this
      have:cs=[]:=List.eq_nil_of_length_eq_zero (by omega)
      subst this;simp [usesL]
    · exact RepL.uses G _ _ hl
  | map v ks vs =>
    rw [ho] at hO hv
    obtain ⟨_,_,_,_,_,_,hl⟩:=hO
    exact ⟨(hv v rfl).1,RepL.uses G _ _ hl⟩
  | it v d =>
    rw [ho] at hO hv
    cases d with
    | none=>exact (hv v rfl).1
    | some d =>
      obtain ⟨cur,ks,vs⟩:=d
      obtain ⟨_,_,_,_,_,_,_,_,_,_,_,_,_,_,hl⟩:=hO
      exact ⟨(hv v rfl).1,RepL.uses G _ _ hl⟩
structure New (vs:Nat→Nat→Nat) (U:Nat→Prop) (σ:St):Prop where
  inj:∀ i j i' j',vs i j=vs i' j'→i=i'∧j=j'
  new:∀ i j,¬ U (vs i j)
  tm:∀ t,(σ.tm t).uses U
  hp:∀ r,(σ.hp r).uses U
def wpC (P:Program):AC→(AEx→St→Prop)→St→Prop
  | .skip,Q,σ=>Q .normal σ
  | .reg draw ops,Q,σ=>∀ vs U,New vs U σ→wpOps (!draw) (wpCk P draw) vs 0 ops σ (Q .normal)
  | .kp ts hs a,Q,σ=>wpC P a Q (σ.keep ts hs)
  | .regi draw ops,Q,σ=>∀ vs U,New vs U σ→wpOps (!draw) (wpCk P draw) vs 0 ops σ (Q .normal)
  | .gh a,Q,σ=>σ.Dist→∃ gs,gwp gs (fun σ'=>wpC P a Q σ') σ
  | .mv x y a,Q,σ=>∀ m,wpC P a Q (σ.mv x y m)
  | .dn a,Q,σ=>wpC P a Q σ.dn
  | .ad b off r k a,Q,σ=>∀ ver,wpC P a Q (σ.adopt b off r k ver)
  | .seq a b,Q,σ=>wpC P a (fun e σ'=>match e with | .normal=>wpC P b Q σ' | e=>Q e σ') σ
  | .cond c a b,Q,σ=>match σ.ev c with
    | .val (.bool t)=>(t=true→wpC P a Q σ)∧(t=false→wpC P b Q σ)
    | _=>False
  | .block id a,Q,σ=>wpC P a (fun e σ'=>match e with | .exit i=>if i=id then Q .normal σ' else Q (.exit i) σ' | e=>Q e σ') σ
  | .loop a,Q,σ=>∃ I:Nat→St→Prop,(∃ n,I n σ)∧∀ n σ',I n σ'→wpC P a (fun e σ''=>match e with | .normal=>∃ k,k<n∧I k σ'' | e=>Q e σ'') σ'
  | .exit id,Q,σ=>Q (.exit id) σ
  | .ret,Q,σ=>Q .ret σ
  | .stuck,_,_=>False
def AC.erase:AC→AC
  | .kp _ _ a=>a.erase
  | .dn a=>a.erase
  | .gh a=>a.erase
  | .mv _ _ a=>a.erase
  | .regi draw ops=>.reg draw ops
  | .ad _ _ _ _ a=>a.erase
  | .seq a b=>.seq a.erase b.erase
  | .cond c a b=>.cond c a.erase b.erase
  | .block id a=>.block id a.erase
  | .loop a=>.loop a.erase
  | a=>a
def cRegion (P:Program) (N:Nat) (ops:Array Oper):List Oper→Option (List AOp)
  | []=>some []
  | o :: os=>match cOper P N ops o,cRegion P N ops os with
    | some x,some xs=>some (x :: xs)
    | _,_=>none
def cReg (dr:Array Oper→List AOp→Option (List AOp)) (P:Program) (N:Nat) (ops:Array Oper) (draw:Bool):AC:=match cRegion P N ops ops.toList with
  | some xs=>if draw=true then (match dr ops xs with | some ys=>.reg true ys | none=>.stuck) else .reg false xs
  | none=>.stuck
theorem cReg_or (dr:Array Oper→List AOp→Option (List AOp)) (P:Program) (N:Nat) (ops:Array Oper) (draw:Bool) :
    cReg dr P N ops draw=.stuck∨∃ xs ys,cReg dr P N ops draw=.reg draw ys∧cRegion P N ops ops.toList=some xs∧(draw=true→dr ops xs=some ys)∧(draw=false→ys=xs):=by
  unfold cReg
  cases h:cRegion P N ops ops.toList with
  | none=>exact .inl rfl
  | some xs =>
    cases draw with
    | false=>exact .inr ⟨xs,xs,rfl,rfl,(fun e=>by cases e),fun _=>rfl⟩
    | true =>
      cases hd:dr ops xs with
      | none=>exact .inl (by simp [hd])
      | some ys=>exact .inr ⟨xs,ys,by simp [hd],rfl,fun _=>hd,(fun e=>by cases e)⟩
def cCode (dr:Array Oper→List AOp→Option (List AOp)) (P:Program) (N:Nat):Code→Option AC
  | .skip=>some .skip
  | .region _ ops draw=>some (cReg dr P N ops draw)
  | .seq a b=>match cCode dr P N a,cCode dr P N b with
    | some x,some y=>some (.seq x y)
    | _,_=>none
  | .cond c a b=>match cOpd c,cCode dr P N a,cCode dr P N b with
    | some c,some x,some y=>some (.cond c x y)
    | _,_,_=>some .stuck
  | .block id a=>(cCode dr P N a).map (.block id)
  | .loop a=>(cCode dr P N a).map .loop
  | .exit id=>some (.exit id)
  | .ret=>some .ret
  | _=>some .stuck
theorem cRegion_get {P:Program} {N:Nat} {ops:Array Oper}:∀ {os:List Oper} {xs:List AOp},cRegion P N ops os=some xs→os.length=xs.length∧∀ (i:Nat) o x,os[i]?=some o→xs[i]?=some x→cOper P N ops o=some x
  | [],xs,h=>by simp [cRegion] at h;subst h;simp
  | o :: os,xs,h=>by
    simp only [cRegion] at h
    split at h
    · rename_i x xs' h1 h2
      simp only [Option.some.injEq] at h;subst h
      obtain ⟨h3,h4⟩:=cRegion_get h2
      refine ⟨by simp [h3],fun i o' x' ho hx=>?_⟩
      cases i with
      | zero=>simp at ho hx;subst ho hx;exact h1
      | succ i=>exact h4 i o' x' (by simpa using ho) (by simpa using hx)
    · cases h
def AEx.conc:AEx→Exit
  | .normal=>.normal
  | .exit id=>.exit id
  | .ret=>.ret
theorem wp_loop_ix {P:Program} {Q:Exit→Act→World→Prop} {a:Act} {w:World} {c:Code} (I:Nat→Act→World→Prop) (h₀:∃ n,I n a w)
    (round:∀ n a w,I n a w→c.wp P (Exit.then (fun a' w'=>∃ k,k<n∧I k a' w') Q) a w):(Code.loop c).wp P Q a w:=by
  intro b k cs
  have key:∀ n a w,I n a w→∃ e a' w',Q e a' w'∧Arrives P (lone (b.at a (.code c :: .inLoop c :: k)) cs w) b k cs e a' w':=by
    intro n
    induction n using Nat.strongRecOn with
    | _ n ih =>
      intro a w hI
      obtain ⟨e,a₁,w₁,hq,harr⟩:=round n a w hI b (.inLoop c :: k) cs
      cases e with
      | normal =>
        obtain ⟨m,hlt,hI₁⟩:=hq
        obtain ⟨e₂,a₂,w₂,hq₂,harr₂⟩:=ih m hlt a₁ w₁ hI₁
        exact ⟨e₂,a₂,w₂,hq₂,.of_steps (Steps.trans harr (.one step_inLoop)) harr₂⟩
      | exit id=>exact ⟨_,a₁,w₁,hq,.pass (x:=.inLoop c) rfl (fun _ _=>.inl (by simp)) harr⟩
      | goto l=>exact ⟨_,a₁,w₁,hq,.pass (x:=.inLoop c) rfl (fun _ _=>.inl (by simp)) harr⟩
      | ret=>exact ⟨_,a₁,w₁,hq,.pass (x:=.inLoop c) rfl (fun _ _=>.inl (by simp)) harr⟩
      | panic ch=>exact ⟨_,a₁,w₁,hq,.pass (x:=.inLoop c) rfl (fun _ _=>.inl (by simp)) harr⟩
      | outgrown=>exact ⟨_,a₁,w₁,hq,.pass (x:=.inLoop c) rfl (fun _ _=>.inl (by simp)) harr⟩
  obtain ⟨n,hn⟩:=h₀
  obtain ⟨e,a',w',hq,harr⟩:=key n a w hn
  exact ⟨e,a',w',hq,.of_steps (.one step_loop) harr⟩
section
variable {P:Program} {w0:World} {outsC:Nat→Prop} {N:Nat} {c0:Cz}
theorem Sim.drop {σ:St} {a:Act} {c:Cz} (S:Sim w0 outsC N σ a c) (H0:Hist c0 c) (σ':St) (ht:∀ n,σ'.tm n=.any∨σ'.tm n=σ.tm n) (hh:∀ r,σ'.hp r=.gone∨σ'.hp r=σ.hp r) :
    ∃ c',Sim w0 outsC N σ' a c'∧Hist c0 c'∧c'.w=c.w:=by
  have G:=S.good
  have hg:∀ r,σ'.hp r≠.gone→σ'.hp r=c.hp r:=by
    intro r h;rcases hh r with h1 | h1
    · exact absurd h1 h
    · rw [h1,S.hp]
  have hg':∀ r,σ'.hp r≠.gone→c.hp r≠.gone:=fun r h=>hg r h ▸ h
  have htk:∀ b,¬ c.taken b→¬ ({ c with hp:=σ'.hp }:Cz).taken b:=fun b h ⟨r,h1,h2⟩=>h ⟨r,hg' r h1,h2⟩
  have K:Keeps c { c with hp:=σ'.hp }:=by
    refine ⟨fun b ⟨h1,h2,h3⟩=>⟨⟨h1,h2,htk b h3⟩,rfl⟩,fun _ _ h=>h,fun _ h=>h,?_,rfl⟩
    intro r v _ h
    have h':(σ'.hp r).ver=some v:=h
    rw [hg r (ver_ne_gone h')] at h'
    exact ⟨h',rfl⟩
  refine ⟨{ c with hp:=σ'.hp },⟨?_,rfl,S.size,?_,S.defers⟩,H0.step K rfl rfl,rfl⟩
  · refine ⟨G.base,?_,?_,?_,?_,?_,G.outExt,?_,G.namInj,G.fin,G.os,G.tape,G.output,G.size,G.frame⟩
    · intro r
      show ObjRep _ (c.loc r) (σ'.hp r)
      by_cases h:σ'.hp r=.gone
      · rw [h];trivial
      · rw [hg r h];exact (G.obj r).keeps K fun _ _=>rfl
    · intro r r' b h1 h2 h3 h4;exact G.inj r r' b (hg' r h1) (hg' r' h2) h3 h4
    · intro r b h1 h2;exact G.own r b (hg' r h1) h2
    · intro r v h
      have h':(σ'.hp r).ver=some v:=h
      rw [hg r (ver_ne_gone h')] at h'
      exact G.verU r v h'
    · intro r r' v h1 h2
      have h1':(σ'.hp r).ver=some v:=h1
      have h2':(σ'.hp r').ver=some v:=h2
      rw [hg r (ver_ne_gone h1')] at h1'
      rw [hg r' (ver_ne_gone h2')] at h2'
      exact G.verInj r r' v h1' h2'
    · intro n b h
      obtain ⟨h1,h2,h3,h4⟩:=G.nam n b h
      exact ⟨h1,h2,h3,htk b h4⟩
  · intro n
    rcases ht n with h | h
    · rw [h];simp [Rep]
    · rw [h];exact (S.tm n).keeps K
theorem Sim.dn {σ:St} {a:Act} {c:Cz} (S:Sim w0 outsC N σ a c) (H0:Hist c0 c):∃ c',Sim w0 outsC N σ.dn a c'∧Hist c0 c'∧c'.w=c.w:=by
  have G:=S.good
  have hv:∀ r,(σ.dn.hp r).ver=(c.hp r).ver:=fun r=>by rw [S.hp];exact AObj.dn_ver _
  have hg:∀ r,σ.dn.hp r≠.gone↔c.hp r≠.gone:=fun r=>by rw [S.hp];exact not_congr AObj.dn_gone
  have htk:∀ b,¬ c.taken b→¬ ({ c with hp:=σ.dn.hp }:Cz).taken b:=fun b h ⟨r,h1,h2⟩=>h ⟨r,(hg r).1 h1,h2⟩
  have K:Keeps c { c with hp:=σ.dn.hp }:=by
    refine ⟨fun b ⟨h1,h2,h3⟩=>⟨⟨h1,h2,htk b h3⟩,rfl⟩,fun _ _ h=>h,fun _ h=>h,?_,rfl⟩
    intro r v _ h
    have h':(σ.dn.hp r).ver=some v:=h
    rw [hv] at h'
    exact ⟨h',rfl⟩
  refine ⟨{ c with hp:=σ.dn.hp },⟨?_,rfl,S.size,fun n=>(Rep.dn _ _ (S.tm n)).keeps K,S.defers⟩,H0.step K rfl rfl,rfl⟩
  refine ⟨G.base,?_,?_,?_,?_,?_,G.outExt,?_,G.namInj,G.fin,G.os,G.tape,G.output,G.size,G.frame⟩
  · intro r
    have h1:=(G.obj r).dn
    rw [S.hp] at h1
    exact h1.keeps K fun _ _=>rfl
  · intro r r' b h1 h2 h3 h4;exact G.inj r r' b ((hg r).1 h1) ((hg r').1 h2) h3 h4
  · intro r b h1 h2;exact G.own r b ((hg r).1 h1) h2
  · intro r v h
    have h':(σ.dn.hp r).ver=some v:=h
    rw [hv] at h'
    exact G.verU r v h'
  · intro r r' v h1 h2
    have h1':(σ.dn.hp r).ver=some v:=h1
    have h2':(σ.dn.hp r').ver=some v:=h2
    rw [hv] at h1' h2'
    exact G.verInj r r' v h1' h2'
  · intro n b h
    obtain ⟨h1,h2,h3,h4⟩:=G.nam n b h
    exact ⟨h1,h2,h3,htk b h4⟩
theorem gwp_sound {a:Act} {K:St→Prop}:∀ (gs:List GStep) (σ:St) (c:Cz),Sim w0 outsC N σ a c→Hist c0 c→gwp gs K σ→∃ σ' c',K σ'∧Sim w0 outsC N σ' a c'∧Hist c0 c'∧c'.w=c.w
  | [],σ,c,S,H0,h=>⟨σ,c,h,S,H0,rfl⟩
  | .dn :: gs,σ,c,S,H0,h=>by
    obtain ⟨c1,S1,H1,e1⟩:=S.dn H0
    obtain ⟨σ',c',h1,h2,h3,h4⟩:=gwp_sound gs _ c1 S1 H1 h
    exact ⟨σ',c',h1,h2,h3,h4.trans e1⟩
  | .thaw r i q :: gs,σ,c,S,H0,⟨v,k,nn,cs,n,k',cs',hr,hi,hne,hq,h⟩=>by
    obtain ⟨m,c1,S1,H1,e1⟩:=S.thaw H0 hr hi hne hq
    obtain ⟨σ',c',h1,h2,h3,h4⟩:=gwp_sound gs _ c1 S1 H1 (h m)
    exact ⟨σ',c',h1,h2,h3,h4.trans e1⟩
  | .tt t i q :: gs,σ,c,S,H0,⟨k,cs,n,k',cs',hr,hi,hne,hq,h⟩=>by
    obtain ⟨m,c1,S1,H1,e1⟩:=S.tt H0 hr hi hne hq
    obtain ⟨σ',c',h1,h2,h3,h4⟩:=gwp_sound gs _ c1 S1 H1 (h m)
    exact ⟨σ',c',h1,h2,h3,h4.trans e1⟩
  | .rf r i q :: gs,σ,c,S,H0,⟨v,k,nn,cs,ver,k',nn',cs',hr,hi,hne,hq,h⟩=>by
    obtain ⟨hd,c1,S1,H1,e1⟩:=S.rf H0 hr hi hne hq
    obtain ⟨σ',c',h1,h2,h3,h4⟩:=gwp_sound gs _ c1 S1 H1 (h hd)
    exact ⟨σ',c',h1,h2,h3,h4.trans e1⟩
  | .tf t q :: gs,σ,c,S,H0,⟨ver,k,nn,cs,ht,hq,h⟩=>by
    obtain ⟨c1,S1,H1,e1⟩:=S.tf H0 ht hq
    obtain ⟨σ',c',h1,h2,h3,h4⟩:=gwp_sound gs _ c1 S1 H1 h
    exact ⟨σ',c',h1,h2,h3,h4.trans e1⟩
  | .tw t q :: gs,σ,c,S,H0,⟨n,k',cs',ht,hne,hq,h⟩=>by
    obtain ⟨m,c1,S1,H1,e1⟩:=S.tw H0 ht hne hq
    obtain ⟨σ',c',h1,h2,h3,h4⟩:=gwp_sound gs _ c1 S1 H1 (h m)
    exact ⟨σ',c',h1,h2,h3,h4.trans e1⟩
  | .tr t i q :: gs,σ,c,S,H0,⟨k,cs,ver,k',nn',cs',ht,hi,hq,h⟩=>by
    obtain ⟨hd,c1,S1,H1,e1⟩:=S.tr H0 ht hi hq
    obtain ⟨σ',c',h1,h2,h3,h4⟩:=gwp_sound gs _ c1 S1 H1 (h hd)
    exact ⟨σ',c',h1,h2,h3,h4.trans e1⟩
  | .fb r i q :: gs,σ,c,S,H0,⟨v,cs,ver,k',nn',cs',hr,hi,hne,hq,h⟩=>by
    obtain ⟨c1,S1,H1,e1⟩:=S.fb H0 hr hi hne hq
    obtain ⟨σ',c',h1,h2,h3,h4⟩:=gwp_sound gs _ c1 S1 H1 h
    exact ⟨σ',c',h1,h2,h3,h4.trans e1⟩
theorem RepL.set' {c:Cz} {A:AVal}:∀ {cs:List AVal} {vs:List Value} {i:Nat} {B:AVal},RepL c cs vs→cs[i]?=some B→(∀ v,Rep c B v→Rep c A v)→RepL c (cs.set i A) vs
  | [],[],_,_,_,h,_=>by simp at h
  | [],_ :: _,_,_,h,_,_=>by simp [RepL] at h
  | _ :: _,[],_,_,h,_,_=>by simp [RepL] at h
  | C :: cs,v :: vs,0,B,h,e,hB=>by
    simp only [RepL,List.set_cons_zero] at h ⊢
    simp at e;subst e
    exact ⟨hB v h.1,h.2⟩
  | C :: cs,v :: vs,i+1,B,h,e,hB=>by
    simp only [RepL,List.set_cons_succ] at h ⊢
    exact ⟨h.1,RepL.set' h.2 (by simpa using e) hB⟩
theorem Sim.adopt {σ:St} {a:Act} {c:Cz} (S:Sim w0 outsC N σ a c) (H0:Hist c0 c) (b off r k:Nat):∃ ver c',Sim w0 outsC N (σ.adopt b off r k ver) a c'∧Hist c0 c'∧c'.w=c.w:=by
  have G:=S.good
  obtain ⟨m,hm⟩:=G.fin
  have hnu:¬ c.used m:=fun h=>absurd (hm m h) (Nat.lt_irrefl _)
  refine ⟨m,?_⟩
  unfold St.adopt
  split
  · rename_i v cs hb
    split
    · rename_i hoff
      split
      · rename_i hr
        by_cases hk:k=0
        · rw [if_pos hk];exact ⟨c,S,H0,rfl⟩
        · rw [if_neg hk]
          have hne:b≠r:=by intro e;subst e;rw [hb] at hr;cases hr
          have hr':c.hp r=.gone:=by rw [S.hp];exact hr
          have hb':c.hp b=.box v cs:=by rw [S.hp];exact hb
          have h1:=G.upd c.w r (.row m k false []) (.slice none 0 0) m rfl rfl rfl (Nat.le_refl _) (fun _ _ _=>rfl) (by intro b' h;simp [blockOf] at h) (.inr (.inl ⟨rfl,hnu⟩))
            (fun _=>⟨none,0,0,rfl,by omega,by simp,Nat.le_refl _,Nat.zero_le _,(by intro e;cases e),.inl rfl⟩)
          obtain ⟨G1,K1⟩:=h1
          have hb1:(c.upd c.w r (.row m k false []) (.slice none 0 0) m).hp b=.box v cs:=by simp only [Cz.upd,if_neg hne];exact hb'
          have hl1:(c.upd c.w r (.row m k false []) (.slice none 0 0) m).loc b=c.loc b:=by simp only [Cz.upd,if_neg hne]
          have hu1:(c.upd c.w r (.row m k false []) (.slice none 0 0) m).used v:=(G1.verU b v (by rw [hb1];rfl)).1
          have h2:=G1.upd c.w b (.box v (cs.set off (.own r m))) (c.loc b) v rfl rfl rfl (Nat.le_refl _) (fun _ _ _=>rfl)
            (by intro b' h;exact ⟨.inl ⟨by rw [hb1];simp,by rw [hl1];exact h⟩,(G1.obj b).lt (by rw [hb1];simp) (by rw [hl1];exact h)⟩)
            (.inr (.inr ⟨by rw [hb1];rfl,hl1.symm,hu1⟩)) (fun K=>by
              have hO:=G1.obj b
              rw [hb1,hl1] at hO
              obtain ⟨g,t,cells,hg,hh,hrep⟩:=hO
              refine ⟨g,t,cells,hg,hh,?_⟩
              refine RepL.set' (RepL.keeps K _ _ hrep) hoff fun x hx=>?_
              simp only [Rep] at hx ⊢
              refine ⟨.inl (.inr rfl),fun _=>?_⟩
              rw [hx]
              simp only [Cz.upd,if_neg (Ne.symm hne),if_true])
          obtain ⟨G2,K2⟩:=h2
          refine ⟨_,⟨G2,?_,S.size,fun t=>(S.tm t).keeps (K1.trans K2),S.defers⟩,H0.step (K1.trans K2) rfl rfl,rfl⟩
          show (fun n=>if n=b then _ else (fun n=>if n=r then _ else c.hp n) n)=_
          rw [S.hp]
      · exact ⟨c,S,H0,rfl⟩
    · exact ⟨c,S,H0,rfl⟩
  · exact ⟨c,S,H0,rfl⟩
theorem keep_tm {σ:St} (ts hs:List Nat):(∀ n,(σ.keep ts hs).tm n=.any∨(σ.keep ts hs).tm n=σ.tm n)∧(∀ r,(σ.keep ts hs).hp r=.gone∨(σ.keep ts hs).hp r=σ.hp r):=by
  have gen:∀ {α:Type} (z:α) (f:Nat→α) (l:List Nat) (n:Nat),L z (pickL z f l) n=z∨L z (pickL z f l) n=f n:=by
    intro α z f l n
    induction l with
    | nil=>left;rfl
    | cons k l ih =>
      simp only [pickL,L]
      by_cases h:n=k
      · rw [if_pos h,h];right;rfl
      · rw [if_neg h];exact ih
  exact ⟨fun n=>gen _ _ _ n,fun n=>gen _ _ _ n⟩
def Out (w0:World) (outsC:Nat→Prop) (N:Nat) (c0:Cz) (Q:AEx→St→Prop):Exit→Act→World→Prop:=fun e a' w' =>
  ∃ ae σ' c',e=ae.conc∧Q ae σ'∧Sim w0 outsC N σ' a' c'∧Hist c0 c'∧c'.w=w'
theorem new_vs {σ:St} {a:Act} {c:Cz} (S:Sim w0 outsC N σ a c):∃ vs,New vs c.used σ∧∀ i j,¬ c.used (vs i j):=by
  obtain ⟨m,hm⟩:=S.good.fin
  have hinj:∀ i j i' j':Nat,m+((i+j) * (i+j)+i)=m+((i'+j') * (i'+j')+i')→i=i'∧j=j':=by
    intro i j i' j' h
    have h1:(i+j) * (i+j)+i=(i'+j') * (i'+j')+i':=by omega
    have h2:i+j=i'+j':=by
      rcases Nat.lt_trichotomy (i+j) (i'+j') with h3 | h3 | h3
      · exfalso
        have h4:(i+j+1) * (i+j+1)≤(i'+j') * (i'+j'):=Nat.mul_le_mul h3 h3
        have h5:(i+j+1) * (i+j+1)=(i+j) * (i+j)+2 * (i+j)+1:=by
          rw [Nat.add_mul,Nat.mul_add];omega
        omega
      · exact h3
      · exfalso
        have h4:(i'+j'+1) * (i'+j'+1)≤(i+j) * (i+j):=Nat.mul_le_mul h3 h3
        have h5:(i'+j'+1) * (i'+j'+1)=(i'+j') * (i'+j')+2 * (i'+j')+1:=by
          rw [Nat.add_mul,Nat.mul_add];omega
        omega
    rw [h2] at h1
    omega
  have hnew:∀ i j:Nat,¬ c.used (m+((i+j) * (i+j)+i)):=by
    intro i j hu
    have:=hm _ hu
    omega
  refine ⟨fun i j=>m+((i+j) * (i+j)+i),⟨hinj,hnew,fun t=>Rep.uses S.good _ _ (S.tm t),fun r=>by rw [← S.hp];exact ObjRep.uses S.good r⟩,hnew⟩
theorem ops_sound {fa pu:Bool} {ops:Array Oper} {vs:Nat→Nat→Nat} (hinj:∀ i j i' j',vs i j=vs i' j'→i=i'∧j=j') {K:St→Prop} {Q:Exit→Act→World→Prop}
    (hQ:∀ σ a c,Sim w0 outsC N σ a c→Hist c0 c→K σ→Q .normal a c.w) :
    ∀ (xs:List AOp) (i:Nat) (σ:St) (a:Act) (c:Cz),i+xs.length=ops.size→(∀ (j:Nat) o x,ops[i+j]?=some o→xs[j]?=some x→cOper P N ops o=some x) →
      Sim w0 outsC N σ a c→Hist c0 c→(∀ i' j,i≤i'→¬ c.used (vs i' j))→wpOps fa (wpCk P pu) vs i xs σ K→Go.wpOps P ops Q (List.range' i xs.length) a c.w
  | [],i,σ,a,c,_,_,S,H0,_,h=>by
    simp only [List.length_nil,List.range'_zero,Go.wpOps]
    exact hQ σ a c S H0 h
  | x :: xs,i,σ,a,c,hlen,hc,S,H0,hnew,h=>by
    have hi:i<ops.size:=by simp at hlen;omega
    have ho:ops[i]?=some ops[i]:=Array.getElem?_eq_getElem hi
    simp only [List.length_cons,List.range'_succ]
    rw [Go.wpOps_cons]
    have h1:=op_sound (Q:=Q) (i:=i) ho (hc 0 _ _ (by simpa using ho) rfl) S H0 (fun y=>hnew i y (Nat.le_refl _)) (fun y y' e=>(hinj i y i y' e).2) h
    refine Go.wpOp_mono ?_ h1
    rintro a' w' ⟨σ',c',hk,S',rfl,H',hu⟩
    refine ops_sound hinj hQ xs (i+1) σ' a' c' (by simp at hlen;omega) (fun j o x' ho' hx=>hc (j+1) o x' (by rw [← ho'];congr 1;omega) (by simpa using hx)) S' H' ?_ hk
    intro i' j hle hused
    rcases hu _ hused with h2 | ⟨y,h2⟩
    · exact hnew i' j (by omega) h2
    · have:=(hinj _ _ _ _ h2).1;omega
end
end Go.Ab
namespace Go.Ab
def DrawOK (P:Program) (N:Nat) (dr:Array Oper→List AOp→Option (List AOp)):Prop :=
  ∀ (w0:World) (outsC:Nat→Prop) (c0:Cz) (id:Nat) (ops:Array Oper) (xs ys:List AOp),cRegion P N ops ops.toList=some xs→dr ops xs=some ys →
    ∀ (σ:St) (a:Act) (c:Cz) (Q:Exit→Act→World→Prop) (K:St→Prop),(∀ σ a c,Sim w0 outsC N σ a c→Hist c0 c→K σ→Q .normal a c.w)→Sim w0 outsC N σ a c→Hist c0 c →
      (∀ vs U,New vs U σ→wpOps false (wpCk P true) vs 0 ys σ K)→(Code.region id ops true).wp P Q a c.w
section
variable {P:Program} {w0:World} {outsC:Nat→Prop} {N:Nat} {c0:Cz} {dr:Array Oper→List AOp→Option (List AOp)}
theorem reg_sound (hdr:DrawOK P N dr) {draw:Bool} {xs:List AOp} {code:Code} (hc:cCode dr P N code=some (.reg draw xs)) {Q:AEx→St→Prop} {σ:St} {a:Act} {c:Cz} (S:Sim w0 outsC N σ a c) (H0:Hist c0 c)
    (h:∀ vs U,New vs U σ→wpOps (!draw) (wpCk P draw) vs 0 xs σ (Q .normal)):code.wp P (Out w0 outsC N c0 Q) a c.w:=by
  cases code with
  | region id ops draw' =>
    rcases cReg_or dr P N ops draw' with e | ⟨xs0,xs',e,hxs,hok,hsame⟩
    · simp [cCode,AC.erase,e] at hc
    · simp only [cCode,AC.erase,e,Option.some.injEq,AC.reg.injEq] at hc
      obtain ⟨rfl,rfl⟩:=hc
      by_cases hd:draw'=true
      · subst hd
        exact hdr w0 outsC c0 id ops _ _ hxs (hok rfl) σ a c _ (Q .normal) (fun σ' a' c' S' H' hk=>⟨.normal,σ',c',rfl,hk,S',H',rfl⟩) S H0 h
      · have:draw'=false:=by simpa using hd
        subst this
        have:=hsame rfl
        subst this
        obtain ⟨vs,hnew,hfree⟩:=new_vs S
        obtain ⟨hl,hg⟩:=cRegion_get hxs
        have hsz:xs'.length=ops.size:=by simpa using hl.symm
        have h1:=ops_sound (Q:=Out w0 outsC N c0 Q) (ops:=ops) hnew.inj (fun σ' a' c' S' H' hk=>⟨.normal,σ',c',rfl,hk,S',H',rfl⟩) xs' 0 σ a c (by omega)
          (fun j o x ho hx=>hg j o x (by simpa using ho) hx) S H0 (fun i' j _=>hfree i' j) (h vs _ hnew)
        refine wp_region ?_
        rw [hsz] at h1
        rw [List.range_eq_range']
        exact h1
  | seq x y=>simp only [cCode,AC.erase] at hc;split at hc <;> simp at hc
  | cond q x y=>simp only [cCode,AC.erase] at hc;split at hc <;> simp at hc
  | block id x=>simp [cCode,AC.erase] at hc
  | loop x=>simp [cCode,AC.erase] at hc
  | _=>simp [cCode,AC.erase] at hc
theorem code_sound (hdr:DrawOK P N dr):∀ (ac:AC) (code:Code),cCode dr P N code=some ac.erase→∀ (Q:AEx→St→Prop) (σ:St) (a:Act) (c:Cz),Sim w0 outsC N σ a c→Hist c0 c→wpC P ac Q σ →
    code.wp P (Out w0 outsC N c0 Q) a c.w
  | .kp ts hs x,code,hc,Q,σ,a,c,S,H0,h=>by
    obtain ⟨h1,h2⟩:=keep_tm (σ:=σ) ts hs
    obtain ⟨c',S',H',hw⟩:=S.drop H0 (σ.keep ts hs) h1 h2
    rw [← hw]
    exact code_sound hdr x code hc Q _ a c' S' H' h
  | .stuck,_,_,_,_,_,_,_,_,h=>h.elim
  | .ad b off r k x,code,hc,Q,σ,a,c,S,H0,h=>by
    obtain ⟨ver,c',S',H',hw⟩:=S.adopt H0 b off r k
    rw [← hw]
    exact code_sound hdr x code hc Q _ a c' S' H' (h ver)
  | .dn x,code,hc,Q,σ,a,c,S,H0,h=>by
    obtain ⟨c',S',H',hw⟩:=S.dn H0
    rw [← hw]
    exact code_sound hdr x code hc Q _ a c' S' H' h
  | .skip,code,hc,Q,σ,a,c,S,H0,h=>by
    cases code with
    | skip=>exact wp_skip ⟨.normal,σ,c,rfl,h,S,H0,rfl⟩
    | region id ops draw=>rcases cReg_or dr P N ops draw with e | ⟨_,_,e,_⟩ <;> simp [cCode,AC.erase,e] at hc
    | seq x y=>simp only [cCode,AC.erase] at hc;split at hc <;> simp at hc
    | cond q x y=>simp only [cCode,AC.erase] at hc;split at hc <;> simp at hc
    | block id x=>simp [cCode,AC.erase] at hc
    | loop x=>simp [cCode,AC.erase] at hc
    | _=>simp [cCode,AC.erase] at hc
  | .reg draw xs,code,hc,Q,σ,a,c,S,H0,h=>reg_sound hdr hc S H0 h
  | .regi draw xs,code,hc,Q,σ,a,c,S,H0,h=>reg_sound hdr hc S H0 h
  | .mv p q x,code,hc,Q,σ,a,c,S,H0,h=>by
    obtain ⟨m,c',S',H',hw⟩:=S.mv H0 p q
    rw [← hw]
    exact code_sound hdr x code hc Q _ a c' S' H' (h m)
  | .gh x,code,hc,Q,σ,a,c,S,H0,h=>by
    obtain ⟨gs,h1⟩:=h S.dist
    obtain ⟨σ',c',h2,S',H',hw⟩:=gwp_sound gs σ c S H0 h1
    rw [← hw]
    exact code_sound hdr x code hc Q _ a c' S' H' h2
  | .seq x y,code,hc,Q,σ,a,c,S,H0,h=>by
    cases code with
    | seq p q =>
      simp only [cCode,AC.erase] at hc
      split at hc
      · rename_i x' y' hx hy
        simp only [Option.some.injEq,AC.seq.injEq] at hc
        obtain ⟨rfl,rfl⟩:=hc
        refine wp_seq ?_
        refine wp_mono (code_sound hdr x p hx _ σ a c S H0 h) ?_
        rintro e a' w' ⟨ae,σ',c',rfl,hq,S',H',rfl⟩
        cases ae with
        | normal=>exact code_sound hdr y q hy Q σ' a' c' S' H' hq
        | exit id=>exact ⟨.exit id,σ',c',rfl,hq,S',H',rfl⟩
        | ret=>exact ⟨.ret,σ',c',rfl,hq,S',H',rfl⟩
      · cases hc
    | region id ops draw=>rcases cReg_or dr P N ops draw with e | ⟨_,_,e,_⟩ <;> simp [cCode,AC.erase,e] at hc
    | cond q x y=>simp only [cCode,AC.erase] at hc;split at hc <;> simp at hc
    | block id x=>simp [cCode,AC.erase] at hc
    | loop x=>simp [cCode,AC.erase] at hc
    | _=>simp [cCode,AC.erase] at hc
  | .cond q x y,code,hc,Q,σ,a,c,S,H0,h=>by
    cases code with
    | cond q' p1 p2 =>
      simp only [cCode,AC.erase] at hc
      split at hc
      · rename_i q'' x' y' hq hx hy
        simp only [Option.some.injEq,AC.cond.injEq] at hc
        obtain ⟨rfl,rfl,rfl⟩:=hc
        have e1:=S.ev hq
        simp only [wpC] at h
        split at h
        · rename_i t ht
          rw [ht] at e1
          refine wp_cond_split (rep_val e1) (fun e=>?_) (fun e=>?_)
          · exact code_sound hdr x p1 hx Q σ a c S H0 (h.1 e)
          · exact code_sound hdr y p2 hy Q σ a c S H0 (h.2 e)
        · exact h.elim
      · cases hc
    | region id ops draw=>rcases cReg_or dr P N ops draw with e | ⟨_,_,e,_⟩ <;> simp [cCode,AC.erase,e] at hc
    | seq x y=>simp only [cCode,AC.erase] at hc;split at hc <;> simp at hc
    | block id x=>simp [cCode,AC.erase] at hc
    | loop x=>simp [cCode,AC.erase] at hc
    | _=>simp [cCode,AC.erase] at hc
  | .block id x,code,hc,Q,σ,a,c,S,H0,h=>by
    cases code with
    | block id' p =>
      simp only [cCode,AC.erase,Option.map_eq_some_iff] at hc
      obtain ⟨x',hx,e⟩:=hc
      simp only [AC.block.injEq] at e
      obtain ⟨rfl,rfl⟩:=e
      refine wp_block ?_
      refine wp_mono (code_sound hdr x p hx _ σ a c S H0 h) ?_
      rintro e a' w' ⟨ae,σ',c',rfl,hq,S',H',rfl⟩
      cases ae with
      | normal=>exact ⟨.normal,σ',c',rfl,hq,S',H',rfl⟩
      | exit i =>
        simp only [AEx.conc,Exit.inBlock]
        by_cases hi:i=id'
        · rw [if_pos hi];simp only [if_pos hi] at hq;exact ⟨.normal,σ',c',rfl,hq,S',H',rfl⟩
        · rw [if_neg hi];simp only [if_neg hi] at hq;exact ⟨.exit i,σ',c',rfl,hq,S',H',rfl⟩
      | ret=>exact ⟨.ret,σ',c',rfl,hq,S',H',rfl⟩
    | region id ops draw=>rcases cReg_or dr P N ops draw with e | ⟨_,_,e,_⟩ <;> simp [cCode,AC.erase,e] at hc
    | seq x y=>simp only [cCode,AC.erase] at hc;split at hc <;> simp at hc
    | cond q x y=>simp only [cCode,AC.erase] at hc;split at hc <;> simp at hc
    | loop x=>simp [cCode,AC.erase] at hc
    | _=>simp [cCode,AC.erase] at hc
  | .loop x,code,hc,Q,σ,a,c,S,H0,h=>by
    cases code with
    | loop p =>
      simp only [cCode,AC.erase,Option.map_eq_some_iff] at hc
      obtain ⟨x',hx,e⟩:=hc
      simp only [AC.loop.injEq] at e
      subst e
      simp only [wpC] at h
      obtain ⟨I,⟨n,hn⟩,hround⟩:=h
      refine wp_loop_ix (fun n a' w'=>∃ σ' c',I n σ'∧Sim w0 outsC N σ' a' c'∧Hist c0 c'∧c'.w=w') ⟨n,σ,c,hn,S,H0,rfl⟩ ?_
      rintro n a' w' ⟨σ',c',hI,S',H',rfl⟩
      refine wp_mono (code_sound hdr x p hx _ σ' a' c' S' H' (hround n σ' hI)) ?_
      rintro e a'' w'' ⟨ae,σ'',c'',rfl,hq,S'',H'',rfl⟩
      cases ae with
      | normal =>
        obtain ⟨k,hk,hI'⟩:=hq
        exact ⟨k,hk,σ'',c'',hI',S'',H'',rfl⟩
      | exit i=>exact ⟨.exit i,σ'',c'',rfl,hq,S'',H'',rfl⟩
      | ret=>exact ⟨.ret,σ'',c'',rfl,hq,S'',H'',rfl⟩
    | region id ops draw=>rcases cReg_or dr P N ops draw with e | ⟨_,_,e,_⟩ <;> simp [cCode,AC.erase,e] at hc
    | seq x y=>simp only [cCode,AC.erase] at hc;split at hc <;> simp at hc
    | cond q x y=>simp only [cCode,AC.erase] at hc;split at hc <;> simp at hc
    | block id x=>simp [cCode,AC.erase] at hc
    | _=>simp [cCode,AC.erase] at hc
  | .exit id,code,hc,Q,σ,a,c,S,H0,h=>by
    cases code with
    | exit id' =>
      simp only [cCode,AC.erase,Option.some.injEq,AC.exit.injEq] at hc
      subst hc
      exact wp_exit ⟨.exit id',σ,c,rfl,h,S,H0,rfl⟩
    | region id ops draw=>rcases cReg_or dr P N ops draw with e | ⟨_,_,e,_⟩ <;> simp [cCode,AC.erase,e] at hc
    | seq x y=>simp only [cCode,AC.erase] at hc;split at hc <;> simp at hc
    | cond q x y=>simp only [cCode,AC.erase] at hc;split at hc <;> simp at hc
    | block id x=>simp [cCode,AC.erase] at hc
    | loop x=>simp [cCode,AC.erase] at hc
    | _=>simp [cCode,AC.erase] at hc
  | .ret,code,hc,Q,σ,a,c,S,H0,h=>by
    cases code with
    | ret=>exact wp_ret ⟨.ret,σ,c,rfl,h,S,H0,rfl⟩
    | region id ops draw=>rcases cReg_or dr P N ops draw with e | ⟨_,_,e,_⟩ <;> simp [cCode,AC.erase,e] at hc
    | seq x y=>simp only [cCode,AC.erase] at hc;split at hc <;> simp at hc
    | cond q x y=>simp only [cCode,AC.erase] at hc;split at hc <;> simp at hc
    | block id x=>simp [cCode,AC.erase] at hc
    | loop x=>simp [cCode,AC.erase] at hc
    | _=>simp [cCode,AC.erase] at hc
end
inductive ARes where
  | tmp (t:Nat)
  | cell (n:Option Nat) (t:Nat)
  deriving Inhabited
def cRes1 (P:Program):ResultVar→Option ARes
  | .tmp t=>some (.tmp t)
  | .cell a t=>match cSize P t with
    | some none=>some (.cell none a)
    | some (some n)=>if n=0 then none else some (.cell (some n) a)
    | none=>none
def cRes (P:Program):List ResultVar→Option (List ARes)
  | []=>some []
  | r :: rs=>match cRes1 P r,cRes P rs with
    | some x,some xs=>some (x :: xs)
    | _,_=>none
structure AFn where
  ntmps:Nat
  nparams:Nat
  code:AC
  res:List ARes
def cFn (dr:Array Oper→List AOp→Option (List AOp)) (P:Program) (g:FuncId) (F:AFn):Prop :=
  ∃ fn code,P.funcs[g]?=some fn∧fn.body=some code∧isNumG fn=false∧F.nparams≤F.ntmps∧fn.ntmps=F.ntmps∧cRes P fn.results.toList=some F.res∧cCode dr P F.ntmps code=some F.code.erase
def St.value1 (σ:St):ARes→AVal
  | .tmp t=>σ.tm t
  | .cell none t=>match σ.at (σ.tm t) with
    | some (cs,off)=>cs.getD off .any
    | none=>.any
  | .cell (some n) t=>match σ.at (σ.tm t) with
    | some (cs,off)=>.st ((cs.drop off).take n)
    | none=>.any
def St.there (σ:St):ARes→Prop
  | .tmp _=>True
  | .cell none t=>match σ.at (σ.tm t) with
    | some (cs,off)=>off<cs.length
    | none=>False
  | .cell (some n) t=>match σ.at (σ.tm t) with
    | some (cs,off)=>off+n≤cs.length
    | none=>False
def St.value (σ:St):List ARes→AVal
  | [t]=>σ.value1 t
  | ts=>.tup (ts.map σ.value1)
def expo (ids:List Nat):Nat→Option Nat:=fun n =>
  if 5000≤n then (if n<6000 then some n else none) else match ids.idxOf? n with
    | some i=>some (6000+i)
    | none=>none
def Ret (nin:Nat) (sh:Bool) (ids:List Nat) (R:List AObj→List AObj→AVal→Prop) (res:List ARes) (σ:St):Prop :=
  (∀ x∈res,σ.there x) ∧
  R ((List.range nin).map fun j=>(σ.hp (5000+j)).ren (expo ids) id) (ids.map fun n=>(σ.hp n).ren (expo ids) id) ((σ.value res).ren (expo ids) id) ∧
  nin≤1000∧ids.length≤1000∧ids.Nodup∧(∀ n∈ids,n<5000) ∧
  (sh=false→(σ.value res).fresh∧(∀ n∈ids,(σ.hp n).fresh)∧∀ j,j<nin→(σ.hp (5000+j)).fresh)
section
variable {P:Program} {w0:World} {outs:Nat→Prop} {N:Nat} {σ:St} {a:Act} {c:Cz}
theorem load1_sound (S:Sim w0 outs N σ a c) {t:TypeId} {A:AVal} {pv:Value} (hr:Rep c A pv) (ht:cSize P t=some none) {cs:List AVal} {off:Nat} (hat:σ.at A=some (cs,off)) (hlt:off<cs.length) :
    ∃ ad u,pv=.pointer (some ad)∧(loadVar t ad).run P c.w=.ok u c.w∧Rep c (cs.getD off .any) u:=by
  obtain ⟨b,p,hv,hr⟩:=at_cells S.good S.hp hr hat
  have hv:pv=.pointer (some ⟨b,p+off,none⟩):=by
    rcases hv with hv | hv
    · exact hv
    · subst hv;simp at hlt
  obtain ⟨v,hcell,hrep⟩:=hr.get (List.getElem?_eq_getElem hlt)
  refine ⟨_,v,hv,?_,?_⟩
  · simp [loadVar,run_isAgg_false ht,hcell]
  · simp only [List.getD_eq_getElem?_getD,List.getElem?_eq_getElem hlt,Option.getD_some];exact hrep
theorem loadn_sound (S:Sim w0 outs N σ a c) {t:TypeId} {n:Nat} {A:AVal} {pv:Value} (hr:Rep c A pv) (ht:cSize P t=some (some n)) (hn:0<n) {cs:List AVal} {off:Nat} (hat:σ.at A=some (cs,off)) (hlt:off+n≤cs.length) :
    ∃ ad u,pv=.pointer (some ad)∧(loadVar t ad).run P c.w=.ok u c.w∧Rep c (.st ((cs.drop off).take n)) u:=by
  obtain ⟨b,p,hv,hr⟩:=at_cells S.good S.hp hr hat
  have hv:pv=.pointer (some ⟨b,p+off,none⟩):=by
    rcases hv with hv | hv
    · exact hv
    · subst hv;simp at hlt;omega
  obtain ⟨vs,h5,h6,h7⟩:=((hr.drop off).take n).vals
  have hlen:vs.length=n:=by rw [h6,List.length_take,List.length_drop];omega
  have hrun:=run_loadCells_list (P:=P) (w:=c.w) ⟨b,p+off,none⟩ vs (fun j v hj=>by rw [addr_add];exact h7 j v hj)
  rw [hlen] at hrun
  refine ⟨_,.agg vs.toArray,hv,?_,?_⟩
  · simp [loadVar,run_isAgg_true ht,hrun]
  · simp only [Rep];exact ⟨_,rfl,by simpa using h5⟩
end
end Go.Ab
namespace Go.Ab
def enum {α:Type} (i:Nat):List α→List (Nat×α)
  | []=>[]
  | x :: xs=>(i,x) :: enum (i+1) xs
theorem L_enum {α:Type} (z:α):∀ (xs:List α) (i n:Nat),L z (enum i xs) n=if n<i then z else xs.getD (n - i) z
  | [],i,n=>by simp [enum,L]
  | x :: xs,i,n=>by
    simp only [enum,L]
    by_cases h:n=i
    · subst h
      rw [if_pos rfl,if_neg (by omega),Nat.sub_self];rfl
    · rw [if_neg h,L_enum z xs (i+1) n]
      by_cases h2:n<i
      · rw [if_pos (by omega),if_pos h2]
      · rw [if_neg (by omega),if_neg h2]
        obtain ⟨k,hk⟩:∃ k,k=n - (i+1):=⟨_,rfl⟩
        have h3:n - i=k+1:=by omega
        rw [h3,← hk];rfl
theorem L_enum_in {ins:List AObj} (h:ins.length≤1000):L .gone (enum 5000 ins)=outHp ins []:=by
  funext n
  rw [L_enum]
  have e:outHp ins [] n=if n<5000 then .gone else if n<6000 then ins.getD (n - 5000) .gone else if n<7000 then ([]:List AObj).getD (n - 6000) .gone else .gone:=rfl
  rw [e]
  by_cases h1:n<5000
  · rw [if_pos h1,if_pos h1]
  · rw [if_neg h1,if_neg h1]
    by_cases h2:n<6000
    · rw [if_pos h2]
    · rw [if_neg h2]
      have h3:ins.getD (n - 5000) .gone=.gone:=by
        rw [List.getD_eq_getElem?_getD,List.getElem?_eq_none (by omega)];rfl
      rw [h3]
      by_cases h4:n<7000
      · rw [if_pos h4];simp
      · rw [if_neg h4]
def St.init (args:List AVal) (ins:List AObj):St:={ tm:=L .any (enum 0 args),hp:=L .gone (enum 5000 ins) }
def resVal:List Value→Value
  | [v]=>v
  | vs=>.tuple vs.toArray
def resOne (tmps:Array Value):ResultVar→Sem Value
  | .tmp t=>pure (tmps.getD t undef)
  | .cell a t=>do loadVar t (← asAddr (tmps.getD a undef))
theorem run_results {P:Program} {w0:World} {outs:Nat→Prop} {N:Nat} {σ:St} {a:Act} {c:Cz} (S:Sim w0 outs N σ a c) {fn:Func} {rs:List ARes} (h:cRes P fn.results.toList=some rs) (hth:∀ x∈rs,σ.there x) :
    ∃ v,(results fn a.tmps).run P c.w=.ok v c.w∧Rep c (σ.value rs) v:=by
  have gen:∀ (l:List ResultVar) (rs:List ARes),cRes P l=some rs→(∀ x∈rs,σ.there x)→∃ vs,(l.mapM (resOne a.tmps)).run P c.w=.ok vs c.w∧RepL c (rs.map σ.value1) vs:=by
    intro l
    induction l with
    | nil=>intro rs h _;simp [cRes] at h;subst h;exact ⟨[],by simp,by simp [RepL]⟩
    | cons x l ih =>
      intro rs h hth
      simp only [cRes] at h
      split at h
      · rename_i y ys hy hys
        simp only [Option.some.injEq] at h;subst h
        obtain ⟨vs,hvs,hrep⟩:=ih ys hys fun z hz=>hth z (by simp [hz])
        have hone:∃ v,(resOne a.tmps x).run P c.w=.ok v c.w∧Rep c (σ.value1 y) v:=by
          have hy2:=hth y (by simp)
          cases x with
          | tmp t =>
            simp only [cRes1,Option.some.injEq] at hy;subst hy
            exact ⟨_,rfl,S.tm t⟩
          | cell q t =>
            simp only [cRes1] at hy
            split at hy
            · rename_i hsz
              simp only [Option.some.injEq] at hy;subst hy
              simp only [St.there] at hy2
              split at hy2
              · rename_i cs off hat
                obtain ⟨ad,u,h1,h2,h3⟩:=load1_sound S (S.tm q) hsz hat hy2
                refine ⟨u,?_,?_⟩
                · simp [resOne,h1,asAddr,h2]
                · simp only [St.value1,hat];exact h3
              · exact hy2.elim
            · rename_i n hsz
              split at hy
              · cases hy
              · rename_i hn
                simp only [Option.some.injEq] at hy;subst hy
                simp only [St.there] at hy2
                split at hy2
                · rename_i cs off hat
                  obtain ⟨ad,u,h1,h2,h3⟩:=loadn_sound S (S.tm q) hsz (by omega) hat hy2
                  refine ⟨u,?_,?_⟩
                  · simp [resOne,h1,asAddr,h2]
                  · simp only [St.value1,hat];exact h3
                · exact hy2.elim
            · cases hy
        obtain ⟨v,hv,hr⟩:=hone
        refine ⟨v :: vs,?_,by simp only [List.map_cons,RepL];exact ⟨hr,hrep⟩⟩
        simp only [List.mapM_cons,Sem.run_bind,hv,hvs,Sem.run_pure,Result.andThen_ok]
      · cases h
  obtain ⟨vs,hvs,hrep⟩:=gen _ _ h hth
  have e:results fn a.tmps=(do
      let vs ← fn.results.mapM (resOne a.tmps)
      pure (if h:vs.size=1 then vs[0] else .tuple vs)):=by
    unfold results
    congr 2
  refine ⟨resVal vs,?_,?_⟩
  · rw [e,Array.mapM_eq_mapM_toList]
    simp only [Sem.run_bind,Sem.run_map,hvs,Result.andThen_ok,Sem.run_pure]
    cases vs with
    | nil=>simp [resVal]
    | cons t rs =>
      cases rs with
      | nil=>simp [resVal]
      | cons t' rs=>simp [resVal]
  · have hlen:=hrep.length
    cases rs with
    | nil=>cases vs <;> simp_all [St.value,Rep,resVal,RepL]
    | cons x rs =>
      cases rs with
      | nil =>
        cases vs with
        | nil=>simp at hlen
        | cons v vs =>
          cases vs with
          | nil=>simp only [List.map_cons,List.map_nil,RepL] at hrep;exact hrep.1
          | cons v' vs=>simp at hlen
      | cons x' rs =>
        cases vs with
        | nil=>simp at hlen
        | cons v vs =>
          cases vs with
          | nil=>simp at hlen
          | cons v' vs=>simp only [St.value,Rep,resVal];exact ⟨_,rfl,by simpa using hrep⟩
def orig (ids:List Nat) (n:Nat):Nat:=if n<6000 then n else ids.getD (n - 6000) 0
theorem expo_some {ids:List Nat} {n k:Nat} (h:expo ids n=some k):(∃ j,n=5000+j∧j<1000∧k=5000+j)∨∃ i,k=6000+i∧ids[i]?=some n:=by
  unfold expo at h
  by_cases h1:5000≤n
  · rw [if_pos h1] at h
    by_cases h2:n<6000
    · rw [if_pos h2] at h
      simp only [Option.some.injEq] at h
      obtain ⟨j,hj⟩:∃ j,j=n - 5000:=⟨_,rfl⟩
      exact .inl ⟨j,by omega,by omega,by omega⟩
    · rw [if_neg h2] at h;cases h
  · rw [if_neg h1] at h
    right
    split at h
    · rename_i i hi
      simp only [Option.some.injEq] at h
      obtain ⟨h3,h4,_⟩:=List.idxOf?_eq_some_iff.1 hi
      exact ⟨i,h.symm,by rw [List.getElem?_eq_getElem h3];simpa using h4⟩
    · cases h
theorem con_of_wp {P:Program} {dr:Array Oper→List AOp→Option (List AOp)} {g:FuncId} {F:AFn} (hdr:DrawOK P F.ntmps dr) (hF:cFn dr P g F) {ins:List AObj} {args:List AVal} {sh:Bool} {R:List AObj→List AObj→AVal→Prop}
    (hargs:args.length=F.nparams) (hins:ins.length≤1000)
    (h:wpC P F.code (fun e σ=>match e with | .exit _=>False | _=>∃ ids,Ret ins.length sh ids R F.res σ) (St.init args ins)):Con P g ins args sh R:=by
  obtain ⟨fn,code,hfn,hbody,hnum,hnp,hnt,hres,hcode⟩:=hF
  refine ⟨⟨fn,hfn,by rw [hbody];rfl,hnum⟩,?_⟩
  intro c0 outsB vs G0 hhp hrep
  have hvl:vs.length=F.nparams:=by rw [← hargs];exact hrep.length.symm
  refine calls_of_wp hfn hbody ?_
  have S:Sim c0.w outsB F.ntmps (St.init args ins) { tmps:=vs.toArray ++ Array.replicate (fn.ntmps - vs.toArray.size) undef,defers:=[] } c0:=by
    refine ⟨G0,?_,?_,?_,rfl⟩
    · rw [hhp];exact (L_enum_in hins).symm
    · simp;omega
    · intro n
      show Rep c0 (L .any (enum 0 args) n) _
      rw [L_enum,if_neg (by omega),Nat.sub_zero]
      rcases Nat.lt_or_ge n args.length with hn | hn
      · obtain ⟨v,hv,hr⟩:=hrep.get (List.getElem?_eq_getElem hn)
        have h2:(vs.toArray ++ Array.replicate (fn.ntmps - vs.toArray.size) undef).getD n undef=v:=by
          have hlt:n<vs.length:=by omega
          have h3:vs[n]=v:=by
            rw [List.getElem?_eq_getElem hlt] at hv;simpa using hv
          rw [Array.getD_eq_getD_getElem?,Array.getElem?_append_left (by simpa using hlt)]
          simp [hlt,h3]
        rw [h2,List.getD_eq_getElem?_getD,List.getElem?_eq_getElem hn]
        exact hr
      · rw [List.getD_eq_getElem?_getD,List.getElem?_eq_none hn];simp [Rep]
  refine wp_mono (code_sound hdr F.code code hcode _ _ _ c0 S ⟨fun _ h=>h,fun _ _ _ h=>⟨h,rfl⟩,rfl,rfl,rfl⟩ h) ?_
  rintro e a' w' ⟨ae,σ,c',rfl,hq,S',H',rfl⟩
  have fin:(∃ ids,Ret ins.length sh ids R F.res σ)→a'.defers=[]∧∃ v,(results fn a'.tmps).run P c'.w=.ok v c'.w∧∃ v' c1 outs rows res,R outs rows res∧Ending.returned v=.returned v'∧c1.w=c'.w∧Good c0.w outsB c1∧c1.hp=outHp outs rows∧Rep c1 res v' ∧
      (∀ b,c1.ext b→(sh=true∧c0.ext b)∨outsB b)∧(∀ b,c1.old b→c0.old b)∧(∀ r v,c0.used v→(c1.hp r).ver=some v→(c0.hp r).ver=some v∧c1.loc r=c0.loc r)∧(∀ v,c0.used v→c1.used v):=by
    rintro ⟨ids,hth,hR,hn1,hn2,hnd,hlow,hfresh⟩
    obtain ⟨rv,hrun,hval⟩:=run_results S' hres hth
    refine ⟨S'.defers,rv,hrun,?_⟩
    have G:=S'.good
    have hobj:∀ n,c'.hp n=σ.hp n:=fun n=>by rw [S'.hp]
    let outs:=(List.range ins.length).map fun j=>(σ.hp (5000+j)).ren (expo ids) id
    let rows:=ids.map fun n=>(σ.hp n).ren (expo ids) id
    let c1:Cz:={ c' with hp:=outHp outs rows,loc:=fun n=>c'.loc (orig ids n),ext:=fun b=>(sh=true∧c'.ext b)∨outsB b }
    have hlive:∀ n,c1.hp n≠.gone→c1.hp n=(c'.hp (orig ids n)).ren (expo ids) id∧((∃ j,n=5000+j∧j<ins.length∧orig ids n=n)∨∃ i,n=6000+i∧ids[i]?=some (orig ids n)):=by
      intro n hn
      rcases outHp_live hn with ⟨j,rfl,hj,hjl,he⟩ | ⟨i,rfl,hi,hil,he⟩
      · have hjl':j<ins.length:=by simpa [outs] using hjl
        have ho:orig ids (5000+j)=5000+j:=by unfold orig;rw [if_pos (by omega)]
        refine ⟨?_,.inl ⟨j,rfl,hjl',ho⟩⟩
        show outHp outs rows (5000+j)=_
        rw [he,ho,hobj]
        simp [outs,List.getD_eq_getElem?_getD,hjl']
      · have hil':i<ids.length:=by simpa [rows] using hil
        have ho:orig ids (6000+i)=ids[i]:=by
          unfold orig
          rw [if_neg (by omega)]
          have:6000+i - 6000=i:=by omega
          rw [this,List.getD_eq_getElem?_getD,List.getElem?_eq_getElem hil'];rfl
        refine ⟨?_,.inr ⟨i,rfl,by rw [ho];exact List.getElem?_eq_getElem hil'⟩⟩
        show outHp outs rows (6000+i)=_
        rw [he,ho,hobj]
        simp [rows,List.getD_eq_getElem?_getD,hil']
    have hlg:∀ n,c1.hp n≠.gone→c'.hp (orig ids n)≠.gone:=by
      intro n hn
      have:=(hlive n hn).1
      rw [this,ne_eq,AObj.ren_gone] at hn
      exact hn
    have horig:∀ n n',c1.hp n≠.gone→c1.hp n'≠.gone→orig ids n=orig ids n'→n=n':=by
      intro n n' h1 h2 h3
      rcases (hlive n h1).2 with ⟨j,rfl,hj,ho⟩ | ⟨i,rfl,hi⟩ <;> rcases (hlive n' h2).2 with ⟨j',rfl,hj',ho'⟩ | ⟨i',rfl,hi'⟩
      · rw [ho,ho'] at h3;exact h3
      · have:=hlow _ (List.mem_of_getElem? hi')
        rw [ho] at h3;omega
      · have:=hlow _ (List.mem_of_getElem? hi)
        rw [ho'] at h3;omega
      · rw [← h3] at hi'
        obtain ⟨p1,q1⟩:=List.getElem?_eq_some_iff.1 hi
        obtain ⟨p2,q2⟩:=List.getElem?_eq_some_iff.1 hi'
        have:=(List.getElem_inj hnd).1 (q1.trans q2.symm)
        rw [this]
    have htk:∀ b,¬ c'.taken b→¬ c1.taken b:=by
      rintro b hnt ⟨n,h1,h2⟩
      exact hnt ⟨orig ids n,hlg n h1,h2⟩
    have hv1:∀ n v,(c1.hp n).ver=some v→(c'.hp (orig ids n)).ver=some v:=by
      intro n v hv
      rw [(hlive n (ver_ne_gone hv)).1,AObj.ren_ver] at hv
      simpa using hv
    have RR:Ren (!sh) (expo ids) id c' c1:=by
      refine ⟨?_,fun n b hb=>hb,fun v hv=>hv,?_,fun _ h=>h⟩
      · rintro b ⟨h1,h2,h3⟩ hnamed
        refine ⟨⟨?_,h2,htk b h3⟩,rfl⟩
        rcases h1 with h1 | h1
        · cases hsh:sh with
          | true=>exact .inl (.inl ⟨hsh,h1⟩)
          | false =>
            obtain ⟨n,hn⟩:=hnamed (by rw [hsh];rfl)
            rcases (G.nam n b hn).2.1 with h4 | h4
            · exact .inr h4
            · exact .inl (.inr h4)
        · exact .inr h1
      · intro r r' v hf _ hv
        have hv':(c1.hp r').ver=some v:=hv
        have ho:orig ids r'=r:=by
          rcases expo_some hf with ⟨j,rfl,hj,rfl⟩ | ⟨i,rfl,hi⟩
          · unfold orig;rw [if_pos (by omega)]
          · unfold orig
            rw [if_neg (by omega)]
            have:6000+i - 6000=i:=by omega
            rw [this,List.getD_eq_getElem?_getD,hi];rfl
        have h5:=hv1 r' v hv'
        rw [ho] at h5
        refine ⟨h5,?_⟩
        show c'.loc (orig ids r')=_
        rw [ho]
    have hfr:∀ n,c1.hp n≠.gone→((!sh)=true→(c'.hp (orig ids n)).fresh):=by
      intro n hn hs
      have hs':sh=false:=by simpa using hs
      obtain ⟨_,h6,h7⟩:=hfresh hs'
      rw [hobj]
      rcases (hlive n hn).2 with ⟨j,rfl,hj,ho⟩ | ⟨i,rfl,hi⟩
      · rw [ho];exact h7 j hj
      · exact h6 _ (List.mem_of_getElem? hi)
    refine ⟨_,c1,outs,rows,(σ.value F.res).ren (expo ids) id,hR,rfl,rfl,?_,rfl,Rep.ren RR _ _ (fun hs=>(hfresh (by simpa using hs)).1) hval,?_,(fun b hb=>by rw [← H'.old];exact hb),?_,fun v hv=>H'.used v hv⟩
    · refine ⟨G.base,?_,?_,?_,?_,?_,fun b hb=>⟨.inr hb,(G.outExt b hb).2⟩,?_,G.namInj,G.fin,G.os,G.tape,G.output,G.size,G.frame⟩
      · intro n
        by_cases hn:c1.hp n=.gone
        · rw [hn];trivial
        · rw [(hlive n hn).1]
          exact (G.obj (orig ids n)).ren RR (hfr n hn) fun _ _=>rfl
      · intro n n' b h1 h2 h3 h4
        exact horig n n' h1 h2 (G.inj _ _ b (hlg n h1) (hlg n' h2) h3 h4)
      · intro n b h1 h2
        exact G.own _ b (hlg n h1) h2
      · intro n v hv
        exact G.verU _ _ (hv1 n v hv)
      · intro n n' v h1 h2
        exact horig n n' (ver_ne_gone h1) (ver_ne_gone h2) (G.verInj _ _ v (hv1 n v h1) (hv1 n' v h2))
      · intro n b hb
        obtain ⟨h1,h2,h3,h4⟩:=G.nam n b hb
        exact ⟨h1,h2,h3,htk b h4⟩
    · rintro b (⟨hsh,hb⟩ | hb)
      · rw [H'.ext] at hb;exact .inl ⟨hsh,hb⟩
      · exact .inr hb
    · intro r v hu hv
      have h5:=hv1 r v hv
      obtain ⟨h6,h7⟩:=H'.loc _ v hu h5
      have hge:5000≤orig ids r:=by
        have h8:=ver_ne_gone h6
        rw [hhp] at h8
        rcases outHp_live h8 with ⟨j,hj,_⟩ | ⟨i,hi,_⟩ <;> omega
      rcases (hlive r (ver_ne_gone hv)).2 with ⟨j,rfl,hj,ho⟩ | ⟨i,rfl,hi⟩
      · rw [ho] at h6 h7
        refine ⟨h6,?_⟩
        show c'.loc (orig ids (5000+j))=_
        rw [ho];exact h7
      · have:=hlow _ (List.mem_of_getElem? hi)
        omega
  cases ae with
  | normal=>exact fin hq
  | exit id=>exact hq.elim
  | ret=>exact fin hq
end Go.Ab
namespace Go.Ab
inductive Cl where
  | n | l | a | w | b | c | x | m
  deriving DecidableEq
def AI.cl:AI→Cl
  | .mov _ | .pick _ _ _ | .bin _ _ _ | .beq _ _ _ | .un _ _ | .cvi _ _ | .mkf _ _ | .ext _ _ | .idx _ _ | .sls _ _ _ | .fld _ _ | .flda _ _ _ | .mx _ _ _ | .lens _ | .bsv _ _ | .iadr _ _ _ | .slcr _ _ _ _=>.n
  | .isnil _ _ | .isnilp _ _ | .ld _ | .lda _ _ | .nilck _ | .fad _ _ | .iad _ _ _ | .len _ | .lenm _ | .lkp _ _ _ _ _ | .cvbs _ | .bst _ _ | .ldb _ | .fadb _ _ | .ldab _ _ _=>.l
  | .new _ | .mkm | .mks _ _ _ _ _ | .bsl _ false _=>.a
  | .app _ _ _ _ | .appn _ _ _ _ _=>.w
  | .bsl _ true _ | .bsln _ _ _ | .bslm _ _ _=>.b
  | .box _ | .sto _ _ _ | .ston _ _ _ _ | .slc _ _ _ _ | .slc0 _ _=>.x
  | .mup _ _ _ _=>.m
def AIns.cl:AIns→Cl
  | .i x=>x.cl
  | .r _ x=>x.cl
  | _=>.c
def isH:AIns→Bool
  | .calh _ _=>true
  | .it _ _=>true
  | .calvh _ _=>true
  | _=>false
def AIns.opds:AIns→List AOpd
  | .i x=>x.opds
  | .call _ xs=>xs
  | .calv f xs=>f :: xs
  | .calh _ xs=>xs
  | .it _ x=>[x]
  | .calvh f xs=>f :: xs
  | .calm _ _ xs=>xs
  | .r _ x=>x.opds
def Sp (P:Program) (s:Nat→Nat) (d:Nat) (tm:Nat→AVal) (hp:Nat→AObj) (k:AVal→(Nat→AObj)→Prop) (g:FuncId) (As:List AVal):Prop :=
  ∃ (ins:List AObj) (args:List AVal) (sh:Bool) (R:List AObj→List AObj→AVal→Prop),Con P g ins args sh R∧ins=[]∧CoeL hp [] (!sh) args As∧(∃ outs rows res,R outs rows res) ∧
    ∀ outs rows res,R outs rows res→outs.length=0∧rows.length≤1000∧(∀ i,i<rows.length→hp (newId d i)=.gone)∧k (res.ren (rid [] d rows.length) s) (callHp hp [] d s outs rows)
def SpM (P:Program) (nos:List Nat) (s:Nat→Nat) (d:Nat) (tm:Nat→AVal) (hp:Nat→AObj) (k:AVal→(Nat→AObj)→Prop) (g:FuncId) (As:List AVal):Prop :=
  ∃ (m:List Nat) (ins:List AObj) (args:List AVal) (sh:Bool) (R:List AObj→List AObj→AVal→Prop),Con P g ins args sh R∧Handed hp m ins (!sh)∧CoeL hp m (!sh) args As∧((∀ r∈m,r∈nos)∧∃ outs rows res,R outs rows res) ∧
    ∀ outs rows res,R outs rows res→outs.length=m.length∧rows=[]∧k (res.ren (rid m d 0) (sv hp m s)) (callHp hp m d s outs [])
def Si (P:Program) (s:Nat→Nat) (d:Nat) (tm:Nat→AVal) (hp:Nat→AObj) (k:AVal→(Nat→AObj)→Prop):AIns→Prop
  | .i x=>x.pre ⟨tm,hp⟩ d∧k (x.out ⟨tm,hp⟩ (s 0) d) (x.hpw ⟨tm,hp⟩ (s 0) d)
  | .call g xs=>Sp P s d tm hp k g (xs.map (St.ev ⟨tm,hp⟩))
  | .calv f xs=>match St.ev ⟨tm,hp⟩ f with
    | .clo g caps=>Sp P s d tm hp k g (xs.map (St.ev ⟨tm,hp⟩) ++ caps)
    | _=>False
  | .calh _ _=>False
  | .it _ _=>False
  | .calvh _ _=>False
  | .calm nos g xs=>SpM P nos s d tm hp k g (xs.map (St.ev ⟨tm,hp⟩))
  | .r nos x=>(∀ o∈x.opds,free nos (St.ev ⟨tm,hp⟩ o))∧x.pre ⟨tm,hp⟩ d∧k (x.out ⟨tm,hp⟩ (s 0) d) (x.hpw ⟨tm,hp⟩ (s 0) d)
theorem sv_nil (hp:Nat→AObj) (s:Nat→Nat):sv hp [] s=s:=by funext v;simp [sv]
theorem wpCall_iff {P:Program} {σ:St} {g:FuncId} {As:List AVal} {d:Option Nat} {s:Nat→Nat} {K:St→Prop} :
    wpCall P true σ g As d s K↔Sp P s (d.getD 0) σ.tm σ.hp (fun A hp'=>K (St.put ⟨σ.tm,hp'⟩ d A)) g As:=by
  constructor
  · rintro (⟨m,ins,args,sh,R,h1,h2,h3,h4,h5⟩ | ⟨hf,_⟩)
    rotate_left
    · cases hf
    obtain ⟨hm,hex⟩:=h4 rfl
    subst hm
    have hi:ins=[]:=List.eq_nil_of_length_eq_zero (by have:=h2.length;simpa using this)
    refine ⟨ins,args,sh,R,h1,hi,h3,hex,?_⟩
    intro outs rows res hR
    obtain ⟨h6,h7,h8,h9⟩:=h5 outs rows res hR
    rw [sv_nil] at h9
    exact ⟨by simpa using h6,h7,h8,h9⟩
  · rintro ⟨ins,args,sh,R,h1,rfl,h3,hex,h5⟩
    refine .inl ⟨[],[],args,sh,R,h1,⟨by simp,rfl,by simp,by simp,by simp⟩,h3,fun _=>⟨rfl,hex⟩,?_⟩
    intro outs rows res hR
    obtain ⟨h6,h7,h8,h9⟩:=h5 outs rows res hR
    rw [sv_nil]
    exact ⟨by simpa using h6,h7,h8,h9⟩
theorem wpIns_iff {P:Program} {σ:St} {d:Option Nat} {s:Nat→Nat} {K:St→Prop} {ins:AIns} (hn:isH ins=false) :
    wpIns false (wpCk P true) s d σ K ins↔Si P s (d.getD 0) σ.tm σ.hp (fun A hp'=>K (St.put ⟨σ.tm,hp'⟩ d A)) ins:=by
  cases ins with
  | i x => simp only [wpIns,Si,AI.wp,AI.eff];constructor
           · rintro ⟨h1,h2⟩;exact ⟨h1,h2 (by simp)⟩
           · rintro ⟨h1,h2⟩;exact ⟨h1,fun _=>h2⟩
  | call g xs=>exact wpCall_iff
  | calm nos g xs=>exact Iff.rfl
  | r nos x => simp only [wpIns,Si,AI.wp,AI.eff];constructor
               · rintro ⟨h0,h1,h2⟩;exact ⟨h0,h1,h2 (by simp)⟩
               · rintro ⟨h0,h1,h2⟩;exact ⟨h0,h1,fun _=>h2⟩
  | calh g xs=>cases hn
  | it k y=>cases hn
  | calvh f xs=>cases hn
  | calv f xs =>
    simp only [wpIns,Si]
    cases h:σ.ev f with
    | clo g caps =>
      have h':St.ev ⟨σ.tm,σ.hp⟩ f=.clo g caps:=h
      simp only [h'];exact wpCall_iff
    | _ =>
      have h':=h
      simp [show St.ev ⟨σ.tm,σ.hp⟩ f=_ from h']
theorem ev_hp {tm:Nat→AVal} (hp hp':Nat→AObj) (o:AOpd):St.ev ⟨tm,hp⟩ o=St.ev ⟨tm,hp'⟩ o:=by cases o <;> rfl
theorem i_tm {tm tm':Nat→AVal} {hp:Nat→AObj} {ver d:Nat} {x:AI} (h:∀ o∈x.opds,St.ev ⟨tm,hp⟩ o=St.ev ⟨tm',hp⟩ o) :
    x.pre ⟨tm,hp⟩ d=x.pre ⟨tm',hp⟩ d∧x.out ⟨tm,hp⟩ ver d=x.out ⟨tm',hp⟩ ver d∧x.hpw ⟨tm,hp⟩ ver d=x.hpw ⟨tm',hp⟩ ver d:=by
  have e1:∀ A,St.sl ⟨tm,hp⟩ A=St.sl ⟨tm',hp⟩ A:=fun _=>rfl
  have e2:∀ A,St.at ⟨tm,hp⟩ A=St.at ⟨tm',hp⟩ A:=fun _=>rfl
  have e3:∀ A,St.mapAt ⟨tm,hp⟩ A=St.mapAt ⟨tm',hp⟩ A:=fun _=>rfl
  have e4:∀ A,St.nn ⟨tm,hp⟩ A=St.nn ⟨tm',hp⟩ A:=fun _=>rfl
  have e5:∀ A,St.slc ⟨tm,hp⟩ A=St.slc ⟨tm',hp⟩ A:=fun _=>rfl
  have e6:∀ (n:Nat) (o:Option AOpd),(∀ y,o=some y→St.ev ⟨tm,hp⟩ y=St.ev ⟨tm',hp⟩ y)→St.bound ⟨tm,hp⟩ n o=St.bound ⟨tm',hp⟩ n o:=by
    intro n o ho
    cases o with
    | none=>rfl
    | some y=>simp only [St.bound,ho y rfl]
  cases x with
  | bsl k fz xs =>
    simp only [AI.opds] at h
    have h1:(xs.flatMap fun y=>(St.ev ⟨tm,hp⟩ y).cells)=xs.flatMap fun y=>(St.ev ⟨tm',hp⟩ y).cells:=by
      rw [List.flatMap_def,List.flatMap_def]
      congr 1
      exact List.map_congr_left fun y hy=>by rw [h y hy]
    have h2:(∀ y∈xs,∃ v,St.ev ⟨tm,hp⟩ y=.val v∧v.oneCell'=true)=∀ y∈xs,∃ v,St.ev ⟨tm',hp⟩ y=.val v∧v.oneCell'=true:=by
      apply propext;constructor
      · intro hh y hy;rw [← h y hy];exact hh y hy
      · intro hh y hy;rw [h y hy];exact hh y hy
    have h3:(∀ y∈xs,(St.ev ⟨tm,hp⟩ y).cells.length=k∧∀ A∈(St.ev ⟨tm,hp⟩ y).cells,One hp A)=∀ y∈xs,(St.ev ⟨tm',hp⟩ y).cells.length=k∧∀ A∈(St.ev ⟨tm',hp⟩ y).cells,One hp A:=by
      apply propext;constructor
      · intro hh y hy;rw [← h y hy];exact hh y hy
      · intro hh y hy;rw [h y hy];exact hh y hy
    have h4:(∀ y∈xs,∀ A∈(St.ev ⟨tm,hp⟩ y).cells,PV A)=∀ y∈xs,∀ A∈(St.ev ⟨tm',hp⟩ y).cells,PV A:=by
      apply propext;constructor
      · intro hh y hy;rw [← h y hy];exact hh y hy
      · intro hh y hy;rw [h y hy];exact hh y hy
    refine ⟨?_,rfl,?_⟩
    · simp only [AI.pre,h1,h2,h3,h4]
    · simp only [AI.hpw,h1]
  | bsln nos k xs =>
    simp only [AI.opds] at h
    have h1:(xs.flatMap fun y=>(St.ev ⟨tm,hp⟩ y).cells)=xs.flatMap fun y=>(St.ev ⟨tm',hp⟩ y).cells:=by
      rw [List.flatMap_def,List.flatMap_def]
      congr 1
      exact List.map_congr_left fun y hy=>by rw [h y hy]
    have h3:(∀ y∈xs,(St.ev ⟨tm,hp⟩ y).cells.length=k∧∀ A∈(St.ev ⟨tm,hp⟩ y).cells,One hp A)=∀ y∈xs,(St.ev ⟨tm',hp⟩ y).cells.length=k∧∀ A∈(St.ev ⟨tm',hp⟩ y).cells,One hp A:=by
      apply propext;constructor
      · intro hh y hy;rw [← h y hy];exact hh y hy
      · intro hh y hy;rw [h y hy];exact hh y hy
    refine ⟨?_,rfl,?_⟩
    · simp only [AI.pre,h1,h3]
    · simp only [AI.hpw,h1]
  | bslm nos k xs =>
    simp only [AI.opds] at h
    have h1:(xs.flatMap fun y=>(St.ev ⟨tm,hp⟩ y).cells)=xs.flatMap fun y=>(St.ev ⟨tm',hp⟩ y).cells:=by
      rw [List.flatMap_def,List.flatMap_def]
      congr 1
      exact List.map_congr_left fun y hy=>by rw [h y hy]
    have h3:(∀ y∈xs,(St.ev ⟨tm,hp⟩ y).cells.length=k∧∀ A∈(St.ev ⟨tm,hp⟩ y).cells,One hp A)=∀ y∈xs,(St.ev ⟨tm',hp⟩ y).cells.length=k∧∀ A∈(St.ev ⟨tm',hp⟩ y).cells,One hp A:=by
      apply propext;constructor
      · intro hh y hy;rw [← h y hy];exact hh y hy
      · intro hh y hy;rw [h y hy];exact hh y hy
    have h5:(∀ y∈xs,∀ A∈(St.ev ⟨tm,hp⟩ y).cells,noPtr A)=∀ y∈xs,∀ A∈(St.ev ⟨tm',hp⟩ y).cells,noPtr A:=by
      apply propext;constructor
      · intro hh y hy;rw [← h y hy];exact hh y hy
      · intro hh y hy;rw [h y hy];exact hh y hy
    refine ⟨?_,rfl,?_⟩
    · simp only [AI.pre,h1,h3,h5]
    · simp only [AI.hpw,h1]
  | bst z ps =>
    simp only [AI.opds,List.mem_map,forall_exists_index,and_imp,forall_apply_eq_imp_iff₂] at h
    refine ⟨?_,?_,rfl⟩
    · simp only [AI.pre]
      apply propext;constructor
      · intro hh p hp';rw [← h p hp'];exact hh p hp'
      · intro hh p hp';rw [h p hp'];exact hh p hp'
    · simp only [AI.out]
      congr 1
      generalize z.map AVal.val=cs
      induction ps generalizing cs with
      | nil=>rfl
      | cons p ps ih =>
        simp only [List.foldl_cons,h p (by simp)]
        exact ih (fun q hq=>h q (by simp [hq])) _
  | bsv z ps =>
    simp only [AI.opds,List.mem_map,forall_exists_index,and_imp,forall_apply_eq_imp_iff₂] at h
    refine ⟨?_,?_,rfl⟩
    · simp only [AI.pre]
      apply propext;constructor
      · intro hh p hp';rw [← h p hp'];exact hh p hp'
      · intro hh p hp';rw [h p hp'];exact hh p hp'
    · simp only [AI.out]
      congr 1
      generalize z.map AVal.val=cs
      induction ps generalizing cs with
      | nil=>rfl
      | cons p ps ih =>
        simp only [List.foldl_cons,h p (by simp)]
        exact ih (fun q hq=>h q (by simp [hq])) _
  | mkf g xs =>
    simp only [AI.opds] at h
    refine ⟨rfl,?_,rfl⟩
    simp only [AI.out]
    congr 1
    exact List.map_congr_left h
  | slc k x lo hi =>
    simp only [AI.opds,List.mem_append,Option.mem_toList,List.mem_singleton] at h
    have hx:=h x (.inl (.inl rfl))
    have hlo:∀ n,St.bound ⟨tm,hp⟩ n lo=St.bound ⟨tm',hp⟩ n lo:=fun n=>e6 n lo fun y e=>h y (.inl (.inr (by simp [e])))
    have hhi:∀ n,St.bound ⟨tm,hp⟩ n hi=St.bound ⟨tm',hp⟩ n hi:=fun n=>e6 n hi fun y e=>h y (.inr (by simp [e]))
    refine ⟨?_,?_,?_⟩
    · simp only [AI.pre,hx,hlo,hhi,e1]
    · simp only [AI.out,hx,hlo,hhi]
    · simp only [AI.hpw,hx,hlo,hhi]
  | slcr k x lo hi =>
    simp only [AI.opds,List.mem_append,Option.mem_toList,List.mem_singleton] at h
    have hx:=h x (.inl (.inl rfl))
    have hlo:∀ n,St.bound ⟨tm,hp⟩ n lo=St.bound ⟨tm',hp⟩ n lo:=fun n=>e6 n lo fun y e=>h y (.inl (.inr (by simp [e])))
    have hhi:∀ n,St.bound ⟨tm,hp⟩ n hi=St.bound ⟨tm',hp⟩ n hi:=fun n=>e6 n hi fun y e=>h y (.inr (by simp [e]))
    refine ⟨?_,?_,rfl⟩
    · simp only [AI.pre,hx,hlo,hhi,e1]
    · simp only [AI.out,hx,hlo,hhi]
  | sls x lo hi =>
    simp only [AI.opds,List.mem_append,Option.mem_toList,List.mem_singleton] at h
    have hx:=h x (.inl (.inl rfl))
    have hlo:∀ n,St.bound ⟨tm,hp⟩ n lo=St.bound ⟨tm',hp⟩ n lo:=fun n=>e6 n lo fun y e=>h y (.inl (.inr (by simp [e])))
    have hhi:∀ n,St.bound ⟨tm,hp⟩ n hi=St.bound ⟨tm',hp⟩ n hi:=fun n=>e6 n hi fun y e=>h y (.inr (by simp [e]))
    refine ⟨?_,?_,rfl⟩
    · simp only [AI.pre,hx,hlo,hhi]
    · simp only [AI.out,hx,hlo,hhi]
  | _ =>
    simp only [AI.opds,List.mem_cons,List.not_mem_nil,or_false,forall_eq_or_imp,forall_eq] at h
    first
      | exact ⟨rfl,rfl,rfl⟩
      | (refine ⟨?_,?_,?_⟩ <;> simp only [AI.pre,AI.out,AI.hpw,h,e1,e2,e3,e4,e5])
end Go.Ab
namespace Go.Ab
def Old (U:Nat→Prop) (hp hp':Nat→AObj):Prop:=∀ r v,U v→(hp' r).ver=some v→hp r=hp' r
section
variable {U:Nat→Prop} {hp hp':Nat→AObj} {tm:Nat→AVal}
theorem usesL_mem:∀ {cs:List AVal},usesL U cs→∀ A∈cs,A.uses U
  | [],_,A,h=>by simp at h
  | B :: cs,h,A,hA=>by
    simp only [usesL] at h
    rcases List.mem_cons.1 hA with rfl | hA
    · exact h.1
    · exact usesL_mem h.2 A hA
theorem usesL_of_mem:∀ {cs:List AVal},(∀ A∈cs,A.uses U)→usesL U cs
  | [],_=>by simp [usesL]
  | B :: cs,h=>by simp only [usesL];exact ⟨h B (by simp),usesL_of_mem fun A hA=>h A (by simp [hA])⟩
theorem uses_cells {A:AVal} (h:A.uses U):∀ B∈A.cells,B.uses U:=by
  cases A with
  | st cs=>exact usesL_mem (cs:=cs) (by simpa only [AVal.uses] using h)
  | val x =>
    cases x with
    | agg vs=>intro B hB;simp only [AVal.cells,List.mem_map] at hB;obtain ⟨v,_,rfl⟩:=hB;simp [AVal.uses]
    | _=>intro B hB;simp only [AVal.cells,List.mem_singleton] at hB;subst hB;exact h
  | _=>intro B hB;simp only [AVal.cells,List.mem_singleton] at hB;subst hB;exact h
theorem sl_old (hO:Old U hp hp') {A:AVal} (hA:A.uses U) {x:Nat×List AVal} (h:St.sl ⟨tm,hp'⟩ A=some x):St.sl ⟨tm,hp⟩ A=some x:=by
  cases A with
  | own r v =>
    simp only [AVal.uses] at hA
    simp only [St.sl] at h ⊢
    split at h
    · rename_i ver' k nn cs hr
      split at h
      · rename_i e
        subst e
        rw [hO r _ hA (by rw [hr];rfl),hr]
        simpa using h
      · cases h
    · cases h
  | _=>exact h
theorem at_old (hO:Old U hp hp') {A:AVal} (hA:A.uses U) {x:List AVal×Nat} (h:St.at ⟨tm,hp'⟩ A=some x):St.at ⟨tm,hp⟩ A=some x:=by
  cases A with
  | ptr r v off =>
    simp only [AVal.uses] at hA
    simp only [St.at] at h ⊢
    split at h
    · rename_i ver' cs hr
      split at h
      · rename_i e
        subst e
        rw [hO r _ hA (by rw [hr];rfl),hr]
        simpa using h
      · cases h
    · rename_i ver' k nn cs hr
      split at h
      · rename_i e
        subst e
        rw [hO r _ hA (by rw [hr];rfl),hr]
        simpa using h
      · cases h
    · cases h
  | _=>exact h
theorem mapAt_old (hO:Old U hp hp') {A:AVal} (hA:A.uses U) {x:List Value×List AVal} (h:St.mapAt ⟨tm,hp'⟩ A=some x):St.mapAt ⟨tm,hp⟩ A=some x:=by
  cases A with
  | mp r v =>
    simp only [AVal.uses] at hA
    simp only [St.mapAt] at h ⊢
    split at h
    · rename_i ver' ks vs hr
      split at h
      · rename_i e
        subst e
        rw [hO r _ hA (by rw [hr];rfl),hr]
        simpa using h
      · cases h
    · cases h
  | _=>exact h
theorem one_old (hO:Old U hp hp') {A:AVal} (hA:A.uses U) (h:One hp' A):One hp A:=by
  cases A with
  | own r v =>
    simp only [AVal.uses] at hA
    obtain ⟨k,nn,cs,hr⟩:=h
    exact ⟨k,nn,cs,by rw [hO r v hA (by rw [hr];rfl)];exact hr⟩
  | ptr r v off =>
    simp only [AVal.uses] at hA
    simp only [One] at h ⊢
    rw [hO r v hA h];exact h
  | mp r v =>
    simp only [AVal.uses] at hA
    obtain ⟨ks,vs,hr⟩:=h
    exact ⟨ks,vs,by rw [hO r v hA (by rw [hr];rfl)];exact hr⟩
  | _=>exact h
theorem l_old {x:AI} (hx:x.cl=.l∨x.cl=.n) {ver d:Nat} (hO:Old U hp hp') (hu:∀ o∈x.opds,(St.ev ⟨tm,hp'⟩ o).uses U) (hpre:x.pre ⟨tm,hp'⟩ d) :
    x.pre ⟨tm,hp⟩ d∧x.out ⟨tm,hp⟩ ver d=x.out ⟨tm,hp'⟩ ver d:=by
  have e0:∀ o,St.ev ⟨tm,hp⟩ o=St.ev ⟨tm,hp'⟩ o:=fun o=>ev_hp _ _ o
  cases x with
  | mov a=>exact ⟨trivial,rfl⟩
  | pick a b c=>exact ⟨by simpa only [AI.pre,e0] using hpre,by simp only [AI.out,e0]⟩
  | bin op a b=>exact ⟨by simpa only [AI.pre,e0] using hpre,by simp only [AI.out,e0]⟩
  | beq n a b=>exact ⟨by simpa only [AI.pre,e0] using hpre,by simp only [AI.out,e0]⟩
  | un op a=>exact ⟨by simpa only [AI.pre,e0] using hpre,by simp only [AI.out,e0]⟩
  | cvi k a=>exact ⟨by simpa only [AI.pre,e0] using hpre,by simp only [AI.out,e0]⟩
  | mkf g xs=>exact ⟨trivial,by simp only [AI.out];congr 1⟩
  | ext i a=>exact ⟨by simpa only [AI.pre,e0] using hpre,by simp only [AI.out,e0]⟩
  | idx a b=>exact ⟨by simpa only [AI.pre,e0] using hpre,by simp only [AI.out,e0]⟩
  | sls a lo hi =>
    have e1:∀ n o,St.bound ⟨tm,hp⟩ n o=St.bound ⟨tm,hp'⟩ n o:=by intro n o;cases o <;> simp only [St.bound,e0]
    exact ⟨by simpa only [AI.pre,e0,e1] using hpre,by simp only [AI.out,e0,e1]⟩
  | fld off a=>exact ⟨by simpa only [AI.pre,e0] using hpre,by simp only [AI.out,e0]⟩
  | flda off n a=>exact ⟨by simpa only [AI.pre,e0] using hpre,by simp only [AI.out,e0]⟩
  | mx b a c=>exact ⟨by simpa only [AI.pre,e0] using hpre,by simp only [AI.out,e0]⟩
  | lens a=>exact ⟨by simpa only [AI.pre,e0] using hpre,by simp only [AI.out,e0]⟩
  | isnil n a =>
    have hua:=hu a (by simp [AI.opds])
    refine ⟨?_,by simp only [AI.out,e0]⟩
    simp only [AI.pre,e0] at hpre ⊢
    split at hpre
    · trivial
    · exact hpre
    · rename_i r v h
      rw [h] at hua
      simp only [AVal.uses] at hua
      obtain ⟨k,cs,hr⟩:=hpre
      exact ⟨k,cs,by rw [hO r v hua (by rw [hr];rfl)];exact hr⟩
    · exact hpre.elim
  | isnilp n a =>
    have hua:=hu a (by simp [AI.opds])
    refine ⟨?_,by simp only [AI.out,e0]⟩
    simp only [AI.pre,e0] at hpre ⊢
    split at hpre
    · trivial
    · rename_i r v off h
      rw [h] at hua
      simp only [AVal.uses] at hua
      rw [hO r v hua hpre];exact hpre
    · trivial
    · exact hpre.elim
  | nilck a =>
    have hua:=hu a (by simp [AI.opds])
    refine ⟨?_,by simp only [AI.out,e0]⟩
    simp only [AI.pre,e0] at hpre ⊢
    split at hpre
    · rename_i r v off h
      rw [h] at hua
      simp only [AVal.uses] at hua
      rw [hO r v hua hpre.1];exact hpre
    · trivial
    · exact hpre.elim
  | fad off a =>
    have hua:=hu a (by simp [AI.opds])
    refine ⟨?_,by simp only [AI.out,e0]⟩
    simp only [AI.pre,e0] at hpre ⊢
    split at hpre
    · rename_i r v off h
      rw [h] at hua
      simp only [AVal.uses] at hua
      rw [hO r v hua hpre];exact hpre
    · trivial
    · exact hpre.elim
  | ld a =>
    have hua:=hu a (by simp [AI.opds])
    simp only [AI.pre,AI.out,e0] at hpre ⊢
    split at hpre
    · rename_i cs off h
      have h2:=at_old hO hua h
      rw [h2];exact ⟨hpre,rfl⟩
    · exact hpre.elim
  | lda n a =>
    have hua:=hu a (by simp [AI.opds])
    simp only [AI.pre,AI.out,e0] at hpre ⊢
    split at hpre
    · rename_i cs off h
      have h2:=at_old hO hua h
      rw [h2];exact ⟨hpre,rfl⟩
    · exact hpre.elim
  | iad k a i =>
    have hua:=hu a (by simp [AI.opds])
    refine ⟨?_,by simp only [AI.out,e0]⟩
    simp only [AI.pre,e0] at hpre ⊢
    split at hpre
    · rename_i h1
      split at hpre
      · rename_i k' cs h
        simp only [sl_old hO hua h];exact hpre
      · exact hpre.elim
    · exact hpre.elim
  | len a =>
    have hua:=hu a (by simp [AI.opds])
    by_cases hnil:St.ev ⟨tm,hp'⟩ a=.val (.slice none 0 0)
    · simp only [AI.pre,AI.out,e0,hnil];exact ⟨trivial,trivial⟩
    · simp only [AI.pre,AI.out,e0] at hpre ⊢
      obtain ⟨x,hx2⟩:=Option.isSome_iff_exists.1 hpre
      have h2:=sl_old hO hua hx2
      rw [h2,hx2];exact ⟨rfl,rfl⟩
  | bsv z ps=>exact ⟨hpre,rfl⟩
  | lenm a =>
    have hua:=hu a (by simp [AI.opds])
    simp only [AI.pre,AI.out,e0] at hpre ⊢
    obtain ⟨x,hx2⟩:=Option.isSome_iff_exists.1 hpre
    have h2:=mapAt_old hO hua hx2
    rw [h2,hx2];exact ⟨rfl,rfl⟩
  | lkp kd ok z a i =>
    have hua:=hu a (by simp [AI.opds])
    simp only [AI.pre,AI.out,e0] at hpre ⊢
    split at hpre
    · rename_i k ks vs h1 h
      have h2:=mapAt_old hO hua h
      simp only [h1,h2,h];exact ⟨hpre,trivial⟩
    · exact hpre.elim
  | cvbs a =>
    have hua:=hu a (by simp [AI.opds])
    simp only [AI.pre,AI.out,e0] at hpre ⊢
    split at hpre
    · rename_i k cs h
      have h2:=sl_old hO hua h
      simp only [h2,h];exact ⟨hpre,trivial⟩
    · exact hpre.elim
  | ldb a =>
    have hua:=hu a (by simp [AI.opds])
    simp only [AI.pre,AI.out,e0] at hpre ⊢
    split at hpre
    · rename_i r v off h
      rw [h] at hua
      simp only [AVal.uses] at hua
      split at hpre
      · rename_i v' cs hr
        have h2:hp r=hp' r:=hO r v hua (by rw [hr];simp [AObj.ver,hpre.1])
        simp only [h,St.at,h2,hr];exact ⟨hpre,trivial⟩
      · exact hpre.elim
    · rename_i cs off h
      simp only [h,St.at];exact ⟨hpre,trivial⟩
    · exact hpre.elim
  | iadr k a i=>exact ⟨by simpa only [AI.pre,e0] using hpre,by simp only [AI.out,e0]⟩
  | slcr k a lo hi =>
    have e1:∀ n o,St.bound ⟨tm,hp⟩ n o=St.bound ⟨tm,hp'⟩ n o:=by intro n o;cases o <;> simp only [St.bound,e0]
    exact ⟨by simpa only [AI.pre,e0,e1] using hpre,by simp only [AI.out,e0,e1]⟩
  | ldab nos n a =>
    have hua:=hu a (by simp [AI.opds])
    simp only [AI.pre,AI.out,e0] at hpre ⊢
    split at hpre
    · rename_i r v off h
      rw [h] at hua
      simp only [AVal.uses] at hua
      obtain ⟨hno,hpre⟩:=hpre
      split at hpre
      · rename_i v' cs hr
        have h2:hp r=hp' r:=hO r v hua (by rw [hr];simp [AObj.ver,hpre.1])
        simp only [h,St.at,h2,hr];exact ⟨⟨hno,hpre⟩,trivial⟩
      · exact hpre.elim
    · rename_i cs off h
      simp only [h,St.at];exact ⟨hpre,trivial⟩
    · exact hpre.elim
  | fadb off a =>
    have hua:=hu a (by simp [AI.opds])
    simp only [AI.pre,AI.out,e0] at hpre ⊢
    split at hpre
    · rename_i r v off h
      rw [h] at hua
      simp only [AVal.uses] at hua
      split at hpre
      · rename_i v' cs hr
        have h2:hp r=hp' r:=hO r v hua (by rw [hr];simp [AObj.ver,hpre])
        simp only [h,h2,hr];exact ⟨hpre,trivial⟩
      · exact hpre.elim
    · rename_i cs off h
      exact ⟨trivial,trivial⟩
    · exact hpre.elim
  | bst z ps =>
    refine ⟨?_,?_⟩
    · simp only [AI.pre,e0] at hpre ⊢
      intro p hm
      refine ⟨(hpre p hm).1,fun A hA=>one_old hO ?_ ((hpre p hm).2 A hA)⟩
      exact uses_cells (hu p.2.2 (by simp only [AI.opds,List.mem_map];exact ⟨p,hm,rfl⟩)) A hA
    · simp only [AI.out,e0]
  | bsl k fz xs=>cases fz <;> rcases hx with h | h <;> simp [AI.cl] at h
  | _=>rcases hx with h | h <;> simp [AI.cl] at h
theorem l_hpw {x:AI} (hx:x.cl=.l∨x.cl=.n) {ver d:Nat}:x.hpw ⟨tm,hp⟩ ver d=hp:=by
  cases x with
  | bsl k fz xs=>cases fz <;> rcases hx with h | h <;> simp [AI.cl] at h
  | _=>first | rfl | (rcases hx with h | h <;> simp [AI.cl] at h)
theorem plain_own:∀ {cs:List AVal},(∀ A∈cs,PV A)→owned cs=[]∧∀ q:Nat→AObj,cs.map (frz q)=cs
  | [],_=>⟨rfl,fun _=>rfl⟩
  | A :: cs,h=>by
    have h0:=h A (by simp)
    obtain ⟨h1,h2⟩:=plain_own (cs:=cs) fun B hB=>h B (by simp [hB])
    cases A with
    | val v=>exact ⟨h1,fun q=>by rw [List.map_cons,h2 q];rfl⟩
    | ro nm k l=>exact ⟨h1,fun q=>by rw [List.map_cons,h2 q];rfl⟩
    | _=>exact h0.elim
theorem a_made {x:AI} (hx:x.cl=.a) {ver d:Nat} (h:x.pre ⟨tm,hp⟩ d):hp d=.gone∧∃ o:AObj,o.ver=some ver ∧
    (∀ q:Nat→AObj,(x.hpw ⟨tm,q⟩ ver d=fun n=>if n=d then o else q n)∧x.out ⟨tm,q⟩ ver d=x.out ⟨tm,hp⟩ ver d∧(q d=.gone→x.pre ⟨tm,q⟩ d)):=by
  cases x with
  | new z=>exact ⟨h,.box ver (z.map .val),rfl,fun q=>⟨rfl,rfl,fun h=>h⟩⟩
  | mkm=>exact ⟨h,.map ver [] [],rfl,fun q=>⟨rfl,rfl,fun h=>h⟩⟩
  | mks k b z l c =>
    simp only [AI.pre] at h
    split at h
    · rename_i n m hn hm
      refine ⟨h.1,.row ver k true (List.replicate n.toNat (z.map .val)).flatten,rfl,fun q=>⟨?_,rfl,fun hq=>?_⟩⟩
      · have:St.ev ⟨tm,q⟩ l=.val (.int .i64 n):=by rw [ev_hp q hp];exact hn
        simp only [AI.hpw,this]
      · have h1:St.ev ⟨tm,q⟩ l=.val (.int .i64 n):=by rw [ev_hp q hp];exact hn
        have h2:St.ev ⟨tm,q⟩ c=.val (.int .i64 m):=by rw [ev_hp q hp];exact hm
        simp only [AI.pre,h1,h2]
        exact ⟨hq,h.2⟩
    · exact h.elim
  | bsl k fz xs =>
    cases fz with
    | true=>simp [AI.cl] at hx
    | false =>
      obtain ⟨h1,h2,h3,h4⟩:=h
      have h1:=h1 rfl
      have hcells:∀ y∈xs,∀ A∈(St.ev ⟨tm,hp⟩ y).cells,PV A:=by
        split at h1
        · intro y hy A hA
          obtain ⟨v,hv,ho⟩:=h1 y hy
          rw [hv,one_cells ho,List.mem_singleton] at hA
          rw [hA];exact ⟨v,rfl,ho⟩
        · exact h1
      obtain ⟨h5,h6⟩:=plain_own (cs:=xs.flatMap fun y=>(St.ev ⟨tm,hp⟩ y).cells) fun A hA=>by
        obtain ⟨y,hy,hA⟩:=List.mem_flatMap.1 hA
        exact hcells y hy A hA
      have e0:∀ q:Nat→AObj,(xs.flatMap fun y=>(St.ev ⟨tm,q⟩ y).cells)=xs.flatMap fun y=>(St.ev ⟨tm,hp⟩ y).cells:=by
        intro q
        first | rfl | (congr 1;done) | (congr 1;funext y;rw [ev_hp q hp])
      refine ⟨h2,.row ver k true (xs.flatMap fun y=>(St.ev ⟨tm,hp⟩ y).cells),rfl,fun q=>⟨?_,rfl,fun hq=>?_⟩⟩
      · simp only [AI.hpw,e0,h5,h6,List.not_mem_nil,if_false]
      · refine ⟨fun _=>?_,hq,fun y hy=>?_,by rw [e0];exact h4⟩
        · split at h1
          · rename_i hk
            rw [if_pos hk]
            intro y hy;rw [ev_hp q hp];exact h1 y hy
          · rename_i hk
            rw [if_neg hk]
            intro y hy;rw [ev_hp q hp];exact h1 y hy
        · rw [ev_hp q hp]
          refine ⟨(h3 y hy).1,fun A hA=>?_⟩
          have h9:=hcells y hy A hA
          cases A with
          | val v=>obtain ⟨u,e,ho⟩:=h9;cases e;exact ho
          | ro nm k l=>trivial
          | _=>exact h9.elim
  | _=>simp [AI.cl] at hx
end
end Go.Ab
namespace Go.Ab
section
variable {U:Nat→Prop} {hp hp':Nat→AObj} {tm:Nat→AVal}
def upd (hp:Nat→AObj) (d:Nat) (o:AObj):Nat→AObj:=fun n=>if n=d then o else hp n
theorem upd_comm {r d:Nat} {A o:AObj} (h:r≠d):(fun n=>if n=r then A else upd hp d o n)=upd (fun n=>if n=r then A else hp n) d o:=by
  funext n
  by_cases e1:n=r
  · subst e1;simp [upd,h]
  · by_cases e2:n=d
    · subst e2;simp [upd,e1]
    · simp [upd,e1,e2]
theorem any_uses:∀ A:AVal,A.uses fun _=>True:=by
  intro A
  have h:∀ A:AVal,A.uses (fun _=>True):=by
    intro A
    induction A using AVal.rec (motive_2:=fun cs=>usesL (fun _=>True) cs) with
    | any=>simp [AVal.uses]
    | val _=>simp [AVal.uses]
    | ro nm k cs ih=>simp only [AVal.uses];exact ⟨fun _ _=>.inr trivial,ih⟩
    | own r v=>simp [AVal.uses]
    | st cs ih=>simpa only [AVal.uses] using ih
    | tup cs ih=>simpa only [AVal.uses] using ih
    | ptr _ _ _=>simp [AVal.uses]
    | rp cs off ih=>simpa only [AVal.uses] using ih
    | mp _ _=>simp [AVal.uses]
    | clo f cs ih=>simpa only [AVal.uses] using ih
    | nil=>simp [usesL]
    | cons A cs ih1 ih2=>simp only [usesL];exact ⟨ih1,ih2⟩
  exact h A
theorem n_hp {x:AI} (hx:x.cl=.n) {ver d:Nat}:x.pre ⟨tm,hp⟩ d=x.pre ⟨tm,hp'⟩ d∧x.out ⟨tm,hp⟩ ver d=x.out ⟨tm,hp'⟩ ver d:=by
  have e0:∀ o,St.ev ⟨tm,hp⟩ o=St.ev ⟨tm,hp'⟩ o:=fun o=>ev_hp _ _ o
  have e1:∀ n o,St.bound ⟨tm,hp⟩ n o=St.bound ⟨tm,hp'⟩ n o:=by intro n o;cases o <;> simp only [St.bound,e0]
  cases x with
  | bsl k fz xs=>cases fz <;> simp [AI.cl] at hx
  | mkf g xs=>exact ⟨rfl,by simp only [AI.out];congr 1⟩
  | _=>first
    | (simp [AI.cl] at hx;done)
    | exact ⟨by simp only [AI.pre,e0,e1],by simp only [AI.out,e0,e1]⟩
theorem old_of_grow (h:∀ r,hp r≠.gone→hp' r=hp r):Old (fun _=>True) hp' hp:=by
  intro r v _ hv
  exact h r (ver_ne_gone hv)
theorem upd_grow {d:Nat} {o:AObj} (hd:hp d=.gone):∀ r,hp r≠.gone→upd hp d o r=hp r:=by
  intro r hr
  unfold upd
  rw [if_neg]
  intro e;subst e;exact hr hd
theorem upd_old {d ver:Nat} {o:AObj} (ho:o.ver=some ver) (hn:¬ U ver):Old U hp (upd hp d o):=by
  intro r v hu hv
  unfold upd at hv ⊢
  by_cases e:r=d
  · rw [if_pos e,ho] at hv
    simp only [Option.some.injEq] at hv;subst hv;exact absurd hu hn
  · rw [if_neg e]
theorem w_made0 {x:AI} (hx:x.cl=.w) (hna:∀ rd k b s y,x≠.appn rd k b s y) {ver d:Nat} (h:x.pre ⟨tm,hp⟩ d) :
    (¬ U ver→Old U hp (x.hpw ⟨tm,hp⟩ ver d))∧(∀ r,x.hpw ⟨tm,hp⟩ ver d r=.gone→hp r=.gone) ∧
    ∀ d' o,hp d'=.gone→d'≠d→x.pre ⟨tm,upd hp d' o⟩ d∧x.out ⟨tm,upd hp d' o⟩ ver d=x.out ⟨tm,hp⟩ ver d∧x.hpw ⟨tm,upd hp d' o⟩ ver d=upd (x.hpw ⟨tm,hp⟩ ver d) d' o:=by
  cases x with
  | app k by' s y =>
    have e0:∀ d' o a,St.ev ⟨tm,upd hp d' o⟩ a=St.ev ⟨tm,hp⟩ a:=fun _ _ a=>ev_hp _ _ a
    simp only [AI.pre] at h
    obtain ⟨h1,h2⟩:=h
    have hsl:∀ d' o,hp d'=.gone→St.slc ⟨tm,upd hp d' o⟩ (St.ev ⟨tm,hp⟩ y)=St.slc ⟨tm,hp⟩ (St.ev ⟨tm,hp⟩ y) ∧
        (match St.ev ⟨tm,hp⟩ y with
        | .val (.slice none 0 0)=>True
        | A=>match St.sl ⟨tm,upd hp d' o⟩ A with | some (k',xs)=>k'=k∧∀ A∈xs,One (upd hp d' o) A | none=>False):=by
      intro d' o hd
      have hg:=old_of_grow (upd_grow (o:=o) hd)
      by_cases hnil:St.ev ⟨tm,hp⟩ y=.val (.slice none 0 0)
      · rw [hnil];exact ⟨rfl,trivial⟩
      · have h1':match St.sl ⟨tm,hp⟩ (St.ev ⟨tm,hp⟩ y) with | some (k',xs)=>k'=k∧∀ A∈xs,One hp A | none=>False:=by
          split at h1
          · rename_i h3;exact absurd h3 hnil
          · exact h1
        split at h1'
        · rename_i k' xs h3
          have h4:=sl_old (tm:=tm) hg (any_uses _) h3
          refine ⟨by unfold St.slc;rw [h3,h4],?_⟩
          split
          · trivial
          · rw [h4];exact ⟨h1'.1,fun A hA=>one_old hg (any_uses _) (h1'.2 A hA)⟩
        · exact h1'.elim
    split at h2
    · rename_i hs
      by_cases hz:(St.slc ⟨tm,hp⟩ (St.ev ⟨tm,hp⟩ y)).length=0
      · refine ⟨fun _=>?_,fun r hr=>?_,fun d' o hd hne=>?_⟩
        · simp only [AI.hpw,hs,hz,if_true];exact fun _ _ _ _=>rfl
        · simp only [AI.hpw,hs,hz,if_true] at hr;exact hr
        · obtain ⟨h5,h6⟩:=hsl d' o hd
          refine ⟨?_,?_,?_⟩
          · simp only [AI.pre,e0,hs,h5]
            refine ⟨h6,?_,h2.2⟩
            unfold upd;rw [if_neg (Ne.symm hne)];exact h2.1
          · simp only [AI.out,e0,hs,h5]
          · simp only [AI.hpw,e0,hs,h5,hz,if_true]
      · refine ⟨fun hn=>?_,fun r hr=>?_,fun d' o hd hne=>?_⟩
        · simp only [AI.hpw,hs,hz,if_false]
          exact upd_old (o:=.row ver k true _) rfl hn
        · simp only [AI.hpw,hs,hz,if_false] at hr
          split at hr
          · cases hr
          · exact hr
        · obtain ⟨h5,h6⟩:=hsl d' o hd
          refine ⟨?_,?_,?_⟩
          · simp only [AI.pre,e0,hs,h5]
            refine ⟨h6,?_,h2.2⟩
            unfold upd;rw [if_neg (Ne.symm hne)];exact h2.1
          · simp only [AI.out,e0,hs,h5]
          · simp only [AI.hpw,e0,hs,h5,hz,if_false]
            exact upd_comm (by omega)
    · rename_i r v hs
      split at h2
      · rename_i ver' k' nn cs hr
        obtain ⟨rfl,rfl,h7⟩:=h2
        refine ⟨fun hn=>?_,fun q hq=>?_,fun d' o hd hne=>?_⟩
        · simp only [AI.hpw,hs,hr]
          exact upd_old (o:=.row ver k' _ _) rfl hn
        · simp only [AI.hpw,hs,hr] at hq
          split at hq
          · cases hq
          · exact hq
        · obtain ⟨h5,h6⟩:=hsl d' o hd
          have hrd:r≠d':=by intro e;subst e;rw [hr] at hd;cases hd
          have hr':upd hp d' o r=.row ver' k' nn cs:=by unfold upd;rw [if_neg hrd];exact hr
          refine ⟨?_,?_,?_⟩
          · simp only [AI.pre,e0,hs,h5,hr']
            exact ⟨h6,trivial,trivial,h7⟩
          · simp only [AI.out,e0,hs]
          · simp only [AI.hpw,e0,hs,h5,hr,hr']
            exact upd_comm (by omega)
      · exact h2.elim
    · exact h2.elim
  | appn rd k b s y=>exact absurd rfl (hna rd k b s y)
  | bsl k fz xs=>cases fz <;> simp [AI.cl] at hx
  | _=>simp [AI.cl] at hx
theorem appn_pre {rd:List Nat} {k b d:Nat} {s y:AOpd} (h:AI.pre ⟨tm,hp⟩ d (.appn rd k b s y)) :
    AI.pre ⟨tm,hp⟩ d (.app k b s y)∧(match St.ev ⟨tm,hp⟩ y with | .own r _=>r∈rd | _=>True)∧(∃ r v k' nn cs,St.ev ⟨tm,hp⟩ s=.own r v∧hp r=.row v k' nn cs)∧(∀ A∈St.slc ⟨tm,hp⟩ (St.ev ⟨tm,hp⟩ y),noObj A) ∧
      (St.ev ⟨tm,hp⟩ y=.val (.slice none 0 0)∨∃ x,St.sl ⟨tm,hp⟩ (St.ev ⟨tm,hp⟩ y)=some x):=by
  obtain ⟨h1,h2,h3⟩:=h
  have hA:(match St.ev ⟨tm,hp⟩ y with
      | .val (.slice none 0 0)=>True
      | A=>match St.sl ⟨tm,hp⟩ A with | some (k',xs)=>k'=k∧∀ A∈xs,One hp A | none=>False)∧(∀ A∈St.slc ⟨tm,hp⟩ (St.ev ⟨tm,hp⟩ y),noObj A)∧(St.ev ⟨tm,hp⟩ y=.val (.slice none 0 0)∨∃ x,St.sl ⟨tm,hp⟩ (St.ev ⟨tm,hp⟩ y)=some x):=by
    by_cases hnil:St.ev ⟨tm,hp⟩ y=.val (.slice none 0 0)
    · rw [hnil];exact ⟨trivial,by intro A hA;simp [St.slc,St.sl] at hA,.inl rfl⟩
    · have h1':match St.sl ⟨tm,hp⟩ (St.ev ⟨tm,hp⟩ y) with | some (k',xs)=>k'=k∧∀ A∈xs,One hp A∧noObj A | none=>False:=by
        split at h1
        · rename_i h3;exact absurd h3 hnil
        · exact h1
      cases hs:St.sl ⟨tm,hp⟩ (St.ev ⟨tm,hp⟩ y) with
      | none=>rw [hs] at h1';exact h1'.elim
      | some x =>
        rw [hs] at h1'
        refine ⟨?_,fun A hA=>(h1'.2 A (by simpa [St.slc,hs] using hA)).2,.inr ⟨x,rfl⟩⟩
        split
        · trivial
        · rw [hs];exact ⟨h1'.1,fun A hA=>(h1'.2 A hA).1⟩
  cases hs:St.ev ⟨tm,hp⟩ s with
  | own r v =>
    rw [hs] at h3
    cases hr:hp r with
    | row v' k' nn cs =>
      simp only [hr] at h3
      obtain ⟨rfl,h4⟩:=h3
      refine ⟨⟨hA.1,?_⟩,h2,⟨r,v',k',nn,cs,rfl,hr⟩,hA.2.1,hA.2.2⟩
      simp only [hs,hr];exact ⟨trivial,h4⟩
    | _=>simp only [hr] at h3
  | _=>simp only [hs] at h3
theorem pre_appn {rd:List Nat} {k b d:Nat} {s y:AOpd} (h0:AI.pre ⟨tm,hp⟩ d (.app k b s y)) (h2:match St.ev ⟨tm,hp⟩ y with | .own r _=>r∈rd | _=>True)
    (h3:∃ r v k' nn cs,St.ev ⟨tm,hp⟩ s=.own r v∧hp r=.row v k' nn cs) (h4:∀ A∈St.slc ⟨tm,hp⟩ (St.ev ⟨tm,hp⟩ y),noObj A):AI.pre ⟨tm,hp⟩ d (.appn rd k b s y):=by
  obtain ⟨h1,h5⟩:=h0
  obtain ⟨r,v,k',nn,cs,hs,hr⟩:=h3
  have h5':=h5
  rw [hs] at h5'
  simp only [hr] at h5'
  refine ⟨?_,h2,?_⟩
  · by_cases hnil:St.ev ⟨tm,hp⟩ y=.val (.slice none 0 0)
    · rw [hnil];trivial
    · have h1':match St.sl ⟨tm,hp⟩ (St.ev ⟨tm,hp⟩ y) with | some (k',xs)=>k'=k∧∀ A∈xs,One hp A | none=>False:=by
        split at h1
        · rename_i h3;exact absurd h3 hnil
        · exact h1
      cases hsl:St.sl ⟨tm,hp⟩ (St.ev ⟨tm,hp⟩ y) with
      | none=>rw [hsl] at h1';exact h1'.elim
      | some x =>
        rw [hsl] at h1'
        split
        · trivial
        · rw [hsl];exact ⟨h1'.1,fun A hA=>⟨h1'.2 A hA,h4 A (by simpa [St.slc,hsl] using hA)⟩⟩
  · simp only [hs,hr];exact h5'
theorem appn_hw {rd:List Nat} {k b d ver:Nat} {s y:AOpd} (h3:∃ r v k' nn cs,St.ev ⟨tm,hp⟩ s=.own r v∧hp r=.row v k' nn cs) :
    AI.hpw ⟨tm,hp⟩ ver d (.appn rd k b s y)=AI.hpw ⟨tm,hp⟩ ver d (.app k b s y)∧AI.out ⟨tm,hp⟩ ver d (.appn rd k b s y)=AI.out ⟨tm,hp⟩ ver d (.app k b s y):=by
  obtain ⟨r,v,k',nn,cs,hs,hr⟩:=h3
  constructor
  · simp only [AI.hpw,hs,hr]
  · simp only [AI.out,hs]
theorem w_made {x:AI} (hx:x.cl=.w) {ver d:Nat} (h:x.pre ⟨tm,hp⟩ d) :
    (¬ U ver→Old U hp (x.hpw ⟨tm,hp⟩ ver d))∧(∀ r,x.hpw ⟨tm,hp⟩ ver d r=.gone→hp r=.gone) ∧
    ∀ d' o,hp d'=.gone→d'≠d→x.pre ⟨tm,upd hp d' o⟩ d∧x.out ⟨tm,upd hp d' o⟩ ver d=x.out ⟨tm,hp⟩ ver d∧x.hpw ⟨tm,upd hp d' o⟩ ver d=upd (x.hpw ⟨tm,hp⟩ ver d) d' o:=by
  by_cases e:∃ rd k b s y,x=.appn rd k b s y
  · obtain ⟨rd,k,b,s,y,rfl⟩:=e
    obtain ⟨h0,h2,h3,h4,h5⟩:=appn_pre h
    obtain ⟨w1,w2,w3⟩:=w_made0 (U:=U) (x:=.app k b s y) (ver:=ver) rfl (by simp) h0
    obtain ⟨a1,a2⟩:=appn_hw (ver:=ver) (d:=d) (rd:=rd) (k:=k) (b:=b) (y:=y) h3
    rw [a1,a2]
    refine ⟨w1,w2,fun d' o hd hne=>?_⟩
    obtain ⟨w4,w5,w6⟩:=w3 d' o hd hne
    have e0:∀ a,St.ev ⟨tm,upd hp d' o⟩ a=St.ev ⟨tm,hp⟩ a:=fun a=>ev_hp _ _ a
    have hg:=old_of_grow (upd_grow (o:=o) hd)
    have h3':∃ r v k' nn cs,St.ev ⟨tm,upd hp d' o⟩ s=.own r v∧upd hp d' o r=.row v k' nn cs:=by
      obtain ⟨r,v,k',nn,cs,hs,hr⟩:=h3
      refine ⟨r,v,k',nn,cs,by rw [e0];exact hs,?_⟩
      rw [upd_grow hd r (by rw [hr];simp)];exact hr
    have hsl:St.slc ⟨tm,upd hp d' o⟩ (St.ev ⟨tm,hp⟩ y)=St.slc ⟨tm,hp⟩ (St.ev ⟨tm,hp⟩ y):=by
      rcases h5 with h5 | ⟨x,hx2⟩
      · rw [h5];rfl
      · unfold St.slc;rw [hx2,sl_old (tm:=tm) hg (any_uses _) hx2]
    obtain ⟨b1,b2⟩:=appn_hw (tm:=tm) (hp:=upd hp d' o) (ver:=ver) (d:=d) (rd:=rd) (k:=k) (b:=b) (y:=y) h3'
    refine ⟨pre_appn w4 (by rw [e0];exact h2) h3' (by rw [e0,hsl];exact h4),by rw [b2];exact w5,by rw [b1];exact w6⟩
  · exact w_made0 hx (fun rd k b s y he=>e ⟨rd,k,b,s,y,he⟩) h
theorem b_old {x:AI} (hx:x.cl=.b) {ver d:Nat} (hn:¬ U ver):Old U hp (x.hpw ⟨tm,hp⟩ ver d):=by
  cases x with
  | bsl k fz xs =>
    intro r v hu hv
    simp only [AI.hpw] at hv ⊢
    by_cases e:r=d
    · rw [if_pos e] at hv
      simp only [AObj.ver,Option.some.injEq] at hv;subst hv;exact absurd hu hn
    · rw [if_neg e] at hv ⊢
      split at hv
      · cases hv
      · rename_i h;rw [if_neg h]
  | bsln nos k xs =>
    intro r v hu hv
    simp only [AI.hpw] at hv ⊢
    by_cases e:r=d
    · rw [if_pos e] at hv
      simp only [AObj.ver,Option.some.injEq] at hv;subst hv;exact absurd hu hn
    · rw [if_neg e] at hv ⊢
      split at hv
      · cases hv
      · rename_i h;rw [if_neg h]
  | bslm nos k xs =>
    intro r v hu hv
    simp only [AI.hpw] at hv ⊢
    by_cases e:r=d
    · rw [if_pos e] at hv
      simp only [AObj.ver,Option.some.injEq] at hv;subst hv;exact absurd hu hn
    · rw [if_neg e] at hv ⊢
      split at hv
      · cases hv
      · rename_i h;rw [if_neg h]
  | _=>simp [AI.cl] at hx
theorem owned_mem' {r:Nat}:∀ {cs:List AVal},r∈owned cs→∃ v,AVal.own r v∈cs
  | [],h=>by simp [owned] at h
  | A :: cs,h=>by
    have key:r∈owned cs→∃ v,AVal.own r v∈A :: cs:=fun h=>by
      obtain ⟨v,hv⟩:=owned_mem' h
      exact ⟨v,List.mem_cons_of_mem _ hv⟩
    cases A with
    | own r' v' =>
      simp only [owned,List.mem_cons] at h
      rcases h with rfl | h
      · exact ⟨v',by simp⟩
      · exact key h
    | _=>exact key (by simpa only [owned] using h)
theorem keep_box {y:AI} (hy:y.cl=.w∨y.cl=.b∨y.cl=.m) {ver d r v:Nat} {cs:List AVal} (h:y.pre ⟨tm,hp⟩ d) (hr:hp r=.box v cs):y.hpw ⟨tm,hp⟩ ver d r=hp r:=by
  cases y with
  | app k by' s y =>
    simp only [AI.pre] at h
    obtain ⟨_,h2⟩:=h
    split at h2
    · rename_i hs
      simp only [AI.hpw,hs]
      split
      · rfl
      · show (if r=d then _ else hp r)=hp r
        rw [if_neg]
        intro e;subst e
        have h2':hp r=.gone:=h2.1
        rw [hr] at h2';cases h2'
    · rename_i r' v' hs
      simp only [AI.hpw,hs]
      split at h2
      · rename_i ver' k' nn cs' hr'
        simp only [hr']
        rw [if_neg]
        intro e;subst e
        rw [hr] at hr';cases hr'
      · exact h2.elim
    · exact h2.elim
  | bsl k fz xs =>
    obtain ⟨h1,h2,h3,h4⟩:=h
    simp only [AI.hpw]
    rw [if_neg,if_neg]
    · intro hm
      obtain ⟨v',hv'⟩:=owned_mem' hm
      obtain ⟨x,hx,hxc⟩:=List.mem_flatMap.1 hv'
      obtain ⟨k',nn,cs',hr'⟩:=(h3 x hx).2 _ hxc
      have hr'':hp r=.row v' k' nn cs':=hr'
      rw [hr] at hr'';cases hr''
    · intro e;subst e
      have h2':hp r=.gone:=h2
      rw [hr] at h2';cases h2'
  | bsln nos k xs =>
    obtain ⟨h1,h2,h3,h4⟩:=h
    simp only [AI.hpw]
    rw [if_neg,if_neg]
    · intro hm
      obtain ⟨v',hv'⟩:=owned_mem' hm
      obtain ⟨x,hx,hxc⟩:=List.mem_flatMap.1 hv'
      obtain ⟨k',nn,cs',hr'⟩:=(h3 x hx).2 _ hxc
      have hr'':hp r=.row v' k' nn cs':=hr'
      rw [hr] at hr'';cases hr''
    · intro e;subst e
      have h2':hp r=.gone:=h2
      rw [hr] at h2';cases h2'
  | bslm nos k xs =>
    obtain ⟨⟨h1,h2,h3,h4⟩,_⟩:=h
    simp only [AI.hpw]
    rw [if_neg,if_neg]
    · intro hm
      obtain ⟨v',hv'⟩:=owned_mem' hm
      obtain ⟨x,hx,hxc⟩:=List.mem_flatMap.1 hv'
      obtain ⟨k',nn,cs',hr'⟩:=(h3 x hx).2 _ hxc
      have hr'':hp r=.row v' k' nn cs':=hr'
      rw [hr] at hr'';cases hr''
    · intro e;subst e
      have h2':hp r=.gone:=h2
      rw [hr] at h2';cases h2'
  | appn rd k b s y =>
    obtain ⟨_,_,⟨r',v',k',nn,cs',hs,hr'⟩,_⟩:=appn_pre h
    simp only [AI.hpw,hs,hr']
    rw [if_neg]
    intro e;subst e
    rw [hr] at hr';cases hr'
  | mup kd x i v =>
    simp only [AI.pre] at h
    split at h
    · rename_i r' w k hA hk
      obtain ⟨hm,hown⟩:=h
      split at hm
      · rename_i ver' ks vs hr'
        have hne:r≠r':=fun e=>by subst e;rw [hr] at hr';cases hr'
        have hno:r ∉ owned [St.ev ⟨tm,hp⟩ v]:=fun hm2=>by
          obtain ⟨v2,hv2⟩:=owned_mem' hm2
          rw [List.mem_singleton] at hv2
          obtain ⟨k',nn,l,h5⟩:=hown r v2 hv2.symm
          have h5':hp r=.row v2 k' nn l:=h5
          rw [hr] at h5';cases h5'
        simp only [AI.hpw,hA,hk,hr']
        rcases findKeyAt k ks 0 with _ | _ | j <;> simp only [if_neg hne,if_neg hno]
      · exact hm.elim
    · exact h.elim
  | _=>rcases hy with h | h | h <;> simp [AI.cl] at h
theorem bn_made {nos:List Nat} {k:Nat} {xs:List AOpd} {d ver d':Nat} {o:AObj} (h:AI.pre ⟨tm,hp⟩ d (.bsln nos k xs)) (hd:hp d'=.gone) (hne:d'≠d) :
    AI.pre ⟨tm,upd hp d' o⟩ d (.bsln nos k xs)∧AI.hpw ⟨tm,upd hp d' o⟩ ver d (.bsln nos k xs)=upd (AI.hpw ⟨tm,hp⟩ ver d (.bsln nos k xs)) d' o:=by
  have e0:∀ a,St.ev ⟨tm,upd hp d' o⟩ a=St.ev ⟨tm,hp⟩ a:=fun a=>ev_hp _ _ a
  have ef:(xs.flatMap fun y=>(St.ev ⟨tm,upd hp d' o⟩ y).cells)=xs.flatMap fun y=>(St.ev ⟨tm,hp⟩ y).cells:=by
    rw [List.flatMap_def,List.flatMap_def]
    exact congrArg List.flatten (List.map_congr_left fun y _=>by rw [e0])
  obtain ⟨h1,h2,h3,h4⟩:=h
  have hrow:∀ r v,AVal.own r v∈(xs.flatMap fun y=>(St.ev ⟨tm,hp⟩ y).cells)→r≠d':=by
    intro r v hm e
    obtain ⟨x,hx,hxc⟩:=List.mem_flatMap.1 hm
    obtain ⟨k',nn,cs',hr'⟩:=(h3 x hx).2 _ hxc
    have hr'':hp r=.row v k' nn cs':=hr'
    rw [e,hd] at hr'';cases hr''
  have hno:d' ∉ owned (xs.flatMap fun y=>(St.ev ⟨tm,hp⟩ y).cells):=fun hm=>by
    obtain ⟨v,hv⟩:=owned_mem' hm
    exact hrow _ _ hv rfl
  refine ⟨⟨by rw [ef];exact h1,?_,fun y hy=>?_,by rw [ef];exact h4⟩,?_⟩
  · show upd hp d' o d=.gone
    unfold upd;rw [if_neg (Ne.symm hne)];exact h2
  · rw [e0]
    refine ⟨(h3 y hy).1,fun A hA=>?_⟩
    exact one_old (U:=fun _=>True) (old_of_grow (upd_grow (o:=o) hd)) (any_uses A) ((h3 y hy).2 A hA)
  · have efr:(xs.flatMap fun y=>(St.ev ⟨tm,hp⟩ y).cells).map (frz (upd hp d' o))=(xs.flatMap fun y=>(St.ev ⟨tm,hp⟩ y).cells).map (frz hp):=by
      refine List.map_congr_left fun B hB=>?_
      cases B with
      | own r v =>
        have:upd hp d' o r=hp r:=by unfold upd;rw [if_neg (hrow r v hB)]
        simp only [frz,this]
      | _=>rfl
    simp only [AI.hpw,ef,efr]
    funext n
    unfold upd
    by_cases e1:n=d
    · subst e1;simp [Ne.symm hne]
    · by_cases e2:n=d'
      · subst e2;simp [e1,hno]
      · simp [e1,e2]
theorem bx_pre {x:AI} (hx:x.bx=true) {d ver:Nat} {hp':Nat→AObj} (hk:∀ r v cs,hp r=.box v cs→hp' r=hp r) (h:x.pre ⟨tm,hp⟩ d) :
    x.pre ⟨tm,hp'⟩ d∧x.out ⟨tm,hp'⟩ ver d=x.out ⟨tm,hp⟩ ver d:=by
  have e0:∀ o,St.ev ⟨tm,hp'⟩ o=St.ev ⟨tm,hp⟩ o:=fun o=>ev_hp _ _ o
  cases x with
  | ldb a =>
    simp only [AI.pre,AI.out,e0] at h ⊢
    split at h
    · rename_i r v off he
      split at h
      · rename_i v' cs hr
        have h2:=(hk r v' cs hr).trans hr
        simp only [he,St.at,h2,hr];exact ⟨h,trivial⟩
      · exact h.elim
    · rename_i cs off he
      simp only [he,St.at];exact ⟨h,trivial⟩
    · exact h.elim
  | fadb off a =>
    simp only [AI.pre,AI.out,e0] at h ⊢
    split at h
    · rename_i r v off he
      split at h
      · rename_i v' cs hr
        have h2:=(hk r v' cs hr).trans hr
        simp only [he,h2];exact ⟨h,trivial⟩
      · exact h.elim
    · rename_i cs off he
      exact ⟨trivial,trivial⟩
    · exact h.elim
  | ldab nos n a =>
    simp only [AI.pre,AI.out,e0] at h ⊢
    split at h
    · rename_i r v off he
      obtain ⟨hno,h⟩:=h
      split at h
      · rename_i v' cs hr
        have h2:=(hk r v' cs hr).trans hr
        simp only [he,St.at,h2,hr];exact ⟨⟨hno,h⟩,trivial⟩
      · exact h.elim
    · rename_i cs off he
      simp only [he,St.at];exact ⟨h,trivial⟩
    · exact h.elim
  | _=>simp [AI.bx] at hx
theorem bx_l {x:AI} (hx:x.bx=true):x.cl=.l:=by cases x <;> simp [AI.bx] at hx <;> rfl
theorem cl_ne_c (x:AI):x.cl≠.c:=by
  cases x with
  | bsl k fz xs=>cases fz <;> simp [AI.cl]
  | _=>simp [AI.cl]
def commC:Cl→Cl→Bool
  | .n,_ | _,.n=>true
  | .a,.m | .l,.l | .l,.a | .l,.c | .a,.l | .a,.a | .a,.c | .w,.l | .w,.a | .b,.l | .c,.l | .c,.a=>true
  | _,_=>false
theorem m_swap {y:AI} (hy:y.cl=.m) {ver d dx vx:Nat} {o:AObj} (ho:o.ver=some vx) (hvx:¬ U vx) (hg:hp dx=.gone) (hu:∀ x∈y.opds,(St.ev ⟨tm,hp⟩ x).uses U) (h:y.pre ⟨tm,upd hp dx o⟩ d) :
    y.pre ⟨tm,hp⟩ d∧y.out ⟨tm,hp⟩ ver d=y.out ⟨tm,upd hp dx o⟩ ver d∧y.hpw ⟨tm,hp⟩ ver d dx=.gone∧y.hpw ⟨tm,upd hp dx o⟩ ver d=upd (y.hpw ⟨tm,hp⟩ ver d) dx o:=by
  cases y with
  | mup kd x i v =>
    have e0:∀ a,St.ev ⟨tm,upd hp dx o⟩ a=St.ev ⟨tm,hp⟩ a:=fun a=>ev_hp _ _ a
    have old:∀ r w,U w→(upd hp dx o r).ver=some w→r≠dx∧upd hp dx o r=hp r:=by
      intro r w hw hr
      by_cases e:r=dx
      · subst e
        simp only [upd,if_true,ho,Option.some.injEq] at hr
        exact absurd hw (hr ▸ hvx)
      · exact ⟨e,by simp only [upd,if_neg e]⟩
    simp only [AI.pre,e0] at h
    split at h
    · rename_i r w k hA hk
      obtain ⟨hm,hown⟩:=h
      have hUx:=hu x (by simp [AI.opds])
      have hUv:=hu v (by simp [AI.opds])
      rw [hA] at hUx
      split at hm
      · rename_i ver' ks vs hrr
        obtain ⟨rfl,hfs,hki⟩:=hm
        obtain ⟨hrd,hr⟩:=old r ver' (by simpa only [AVal.uses] using hUx) (by rw [hrr];rfl)
        rw [hr] at hrr
        have hown2:∀ r2 v2,St.ev ⟨tm,hp⟩ v=.own r2 v2→r2≠dx∧upd hp dx o r2=hp r2∧∃ k nn l,hp r2=.row v2 k nn l:=by
          intro r2 v2 e
          obtain ⟨k',nn,l,h5⟩:=hown r2 v2 e
          rw [e] at hUv
          obtain ⟨h6,h7⟩:=old r2 v2 (by simpa only [AVal.uses] using hUv) (by rw [h5];rfl)
          exact ⟨h6,h7,k',nn,l,by rw [← h7];exact h5⟩
        have hno:dx ∉ owned [St.ev ⟨tm,hp⟩ v]:=by
          intro hm
          obtain ⟨v2,hv2⟩:=owned_mem' hm
          rw [List.mem_singleton] at hv2
          exact (hown2 dx v2 hv2.symm).1 rfl
        have hfr:frz (upd hp dx o) (St.ev ⟨tm,hp⟩ v)=frz hp (St.ev ⟨tm,hp⟩ v):=by
          cases hev:St.ev ⟨tm,hp⟩ v with
          | own r2 v2=>simp only [frz,(hown2 r2 v2 hev).2.1]
          | _=>rfl
        have hu1:upd hp dx o r=.map ver' ks vs:=by rw [hr];exact hrr
        have swap:∀ A:AObj,(fun n=>if n=r then A else if n∈owned [St.ev ⟨tm,hp⟩ v] then AObj.gone else upd hp dx o n)=upd (fun n=>if n=r then A else if n∈owned [St.ev ⟨tm,hp⟩ v] then .gone else hp n) dx o:=by
          intro A
          funext n
          by_cases e1:n=dx
          · subst e1
            simp only [upd,if_true,if_neg (Ne.symm hrd),if_neg hno]
          · simp only [upd,if_neg e1]
        refine ⟨?_,rfl,?_,?_⟩
        · simp only [AI.pre,hA,hk,hrr]
          exact ⟨⟨trivial,hfs,hki⟩,fun r2 v2 e=>(hown2 r2 v2 e).2.2⟩
        · simp only [AI.hpw,hA,hk,hrr]
          rcases findKeyAt k ks 0 with _ | _ | j <;> simp only [if_neg (Ne.symm hrd),if_neg hno,hg]
        · simp only [AI.hpw,e0,hA,hk,hrr,hu1,hfr]
          rcases findKeyAt k ks 0 with _ | _ | j <;> exact swap _
      · exact hm.elim
    · exact h.elim
  | bsl k fz xs=>cases fz <;> simp [AI.cl] at hy
  | _=>simp [AI.cl] at hy
theorem det_swap {x y:AI} {vx vy dx dy:Nat} (hc:commC x.cl y.cl=true) (hu:∀ o∈y.opds,(St.ev ⟨tm,hp⟩ o).uses U) (hvx:¬ U vx) (hd:dx≠dy∨x.cl=.n∨y.cl=.n∨x.cl=.l∨y.cl=.l∨y.cl=.m)
    (h1:x.pre ⟨tm,hp⟩ dx) (h2:y.pre ⟨tm,x.hpw ⟨tm,hp⟩ vx dx⟩ dy) :
    y.pre ⟨tm,hp⟩ dy∧x.pre ⟨tm,y.hpw ⟨tm,hp⟩ vy dy⟩ dx∧x.out ⟨tm,y.hpw ⟨tm,hp⟩ vy dy⟩ vx dx=x.out ⟨tm,hp⟩ vx dx ∧
    y.out ⟨tm,hp⟩ vy dy=y.out ⟨tm,x.hpw ⟨tm,hp⟩ vx dx⟩ vy dy∧x.hpw ⟨tm,y.hpw ⟨tm,hp⟩ vy dy⟩ vx dx=y.hpw ⟨tm,x.hpw ⟨tm,hp⟩ vx dx⟩ vy dy:=by
  have hold:x.cl=.l∨x.cl=.a∨x.cl=.w∨x.cl=.b→Old U hp (x.hpw ⟨tm,hp⟩ vx dx):=by
    rintro (h | h | h | h)
    · rw [l_hpw (.inl h)];exact fun _ _ _ _=>rfl
    · obtain ⟨_,o,ho,hh⟩:=a_made h (ver:=vx) h1
      rw [(hh hp).1];exact upd_old ho hvx
    · exact (w_made h h1).1 hvx
    · exact b_old h hvx
  by_cases hxn:x.cl=.n
  · have e1:∀ q,x.hpw ⟨tm,q⟩ vx dx=q:=fun q=>l_hpw (.inr hxn)
    rw [e1] at h2 ⊢
    refine ⟨h2,?_,?_,rfl,?_⟩
    · rw [(n_hp (ver:=vx) hxn).1];exact h1
    · exact (n_hp (ver:=vx) (d:=dx) hxn).2
    · rw [e1]
  by_cases hyl:y.cl=.l∨y.cl=.n
  · have e1:∀ q,y.hpw ⟨tm,q⟩ vy dy=q:=fun q=>l_hpw hyl
    rw [e1,e1]
    have hh:y.pre ⟨tm,hp⟩ dy∧y.out ⟨tm,hp⟩ vy dy=y.out ⟨tm,x.hpw ⟨tm,hp⟩ vx dx⟩ vy dy:=by
      rcases hyl with h | h
      · refine l_old (.inl h) (hold ?_) (fun o ho=>hu o ho) h2
        cases hx:x.cl <;> simp [hx,h,commC] at hc ⊢
        · exact hxn hx
        · exact cl_ne_c x hx
      · have h3:=n_hp (tm:=tm) (hp:=hp) (hp':=x.hpw ⟨tm,hp⟩ vx dx) (ver:=vy) (d:=dy) h
        exact ⟨by rw [h3.1];exact h2,h3.2⟩
    exact ⟨hh.1,h1,rfl,hh.2,rfl⟩
  by_cases hym:y.cl=.m
  · have hxa:x.cl=.a:=by
      cases hx:x.cl <;> simp [hx,hym,commC] at hc hxn ⊢
    obtain ⟨hgx,ox,hox,hhx⟩:=a_made hxa (ver:=vx) h1
    have e2:∀ q,x.hpw ⟨tm,q⟩ vx dx=upd q dx ox:=fun q=>(hhx q).1
    rw [e2] at h2
    obtain ⟨m1,m2,m3,m4⟩:=m_swap (ver:=vy) hym hox hvx hgx hu h2
    rw [e2,e2]
    exact ⟨m1,(hhx _).2.2 m3,(hhx _).2.1,m2,m4.symm⟩
  have hya:y.cl=.a:=by
    cases hx:x.cl <;> cases hy:y.cl <;> simp [hx,hy,commC] at hc hxn hyl hym ⊢
    all_goals (exfalso;cases y <;> simp [AI.cl] at hy;try (rename_i q _;cases q <;> simp [AI.cl] at hy))
  obtain ⟨hg1,o,ho,hh⟩:=a_made hya (ver:=vy) h2
  have hxk:x.cl=.l∨x.cl=.a∨x.cl=.w:=by
    cases hx:x.cl <;> simp [hx,hya,commC] at hc hxn ⊢
    exfalso;cases x <;> simp [AI.cl] at hx;rename_i q _;cases q <;> simp [AI.cl] at hx
  have key:hp dy=.gone∧∀ o,x.pre ⟨tm,upd hp dy o⟩ dx∧x.out ⟨tm,upd hp dy o⟩ vx dx=x.out ⟨tm,hp⟩ vx dx∧x.hpw ⟨tm,upd hp dy o⟩ vx dx=upd (x.hpw ⟨tm,hp⟩ vx dx) dy o:=by
    rcases hxk with h | h | h
    · rw [l_hpw (.inl h)] at hg1 ⊢
      refine ⟨hg1,fun o=>?_⟩
      have h3:=l_old (U:=fun _=>True) (tm:=tm) (ver:=vx) (.inl h) (old_of_grow (upd_grow (o:=o) hg1)) (fun _ _=>any_uses _) h1
      exact ⟨h3.1,h3.2,l_hpw (.inl h)⟩
    · have hne:dx≠dy:=by
        rcases hd with h5 | h5 | h5 | h5 | h5 | h5
        · exact h5
        · rw [h] at h5;cases h5
        · rw [hya] at h5;cases h5
        · rw [h] at h5;cases h5
        · rw [hya] at h5;cases h5
        · rw [hya] at h5;cases h5
      obtain ⟨hgx,ox,hox,hhx⟩:=a_made h (ver:=vx) h1
      have hgy:hp dy=.gone:=by
        rw [(hhx hp).1] at hg1
        simp only [if_neg (Ne.symm hne)] at hg1;exact hg1
      refine ⟨hgy,fun o=>⟨(hhx _).2.2 ?_,(hhx _).2.1,?_⟩⟩
      · unfold upd;rw [if_neg hne];exact hgx
      · rw [(hhx _).1,(hhx hp).1]
        exact upd_comm (by omega)
    · have hne:dx≠dy:=by
        rcases hd with h5 | h5 | h5 | h5 | h5 | h5
        · exact h5
        · rw [h] at h5;cases h5
        · rw [hya] at h5;cases h5
        · rw [h] at h5;cases h5
        · rw [hya] at h5;cases h5
        · rw [hya] at h5;cases h5
      obtain ⟨_,h6,h7⟩:=w_made (U:=U) h (ver:=vx) h1
      have hgy:=h6 _ hg1
      exact ⟨hgy,fun o=>h7 dy o hgy (Ne.symm hne)⟩
  obtain ⟨hgy,hk⟩:=key
  have e2:∀ q,y.hpw ⟨tm,q⟩ vy dy=upd q dy o:=fun q=>(hh q).1
  rw [e2,e2]
  obtain ⟨k1,k2,k3⟩:=hk o
  exact ⟨(hh hp).2.2 hgy,k1,k2,(hh hp).2.1,k3⟩
def eff (k:Nat) (o:AObj) (S:List Nat) (hp:Nat→AObj):Nat→AObj:=fun n=>if n=k then o else if n∈S then .gone else hp n
theorem eff_comm {kx ky:Nat} {ox oy:AObj} {Sx Sy:List Nat} {hp:Nat→AObj} (h1:kx≠ky) (h2:kx ∉ Sy) (h3:ky ∉ Sx) :
    eff kx ox Sx (eff ky oy Sy hp)=eff ky oy Sy (eff kx ox Sx hp):=by
  funext n;unfold eff
  by_cases a:n=kx
  · subst a;simp only [if_true,if_neg h1,if_neg h2]
  · by_cases b:n=ky
    · subst b;simp only [if_true,if_neg a,if_neg h3]
    · simp only [if_neg a,if_neg b]
      split <;> split <;> rfl
structure Eff (U:Nat→Prop) (tm:Nat→AVal) (x:AI) (ver d:Nat) (hp:Nat→AObj) (k:Nat) (o:AObj) (S R:List Nat):Prop where
  same:∀ q:Nat→AObj,(∀ r,r=k∨r∈S∨r∈R→q r=hp r)→x.pre ⟨tm,q⟩ d∧x.out ⟨tm,q⟩ ver d=x.out ⟨tm,hp⟩ ver d∧x.hpw ⟨tm,q⟩ ver d=eff k o S q
  key:(k=d∧hp d=.gone)∨∃ v,U v∧(hp k).ver=some v
  live:∀ r,r∈S∨r∈R→∃ v,U v∧(hp r).ver=some v
theorem eff_swap {Ux:Nat→Prop} {x y:AI} {vx vy dx dy kx ky:Nat} {ox oy:AObj} {Sx Sy Rx Ry:List Nat} (Ex:Eff Ux tm x vx dx hp kx ox Sx Rx) (hox:ox.ver=some vx) (hvx:¬ U vx)
    (Ey:Eff U tm y vy dy (x.hpw ⟨tm,hp⟩ vx dx) ky oy Sy Ry) (hdy:ky=dy→x.hpw ⟨tm,hp⟩ vx dx dy=.gone→dy ∉ Sx) (hR:∀ r∈Rx,r≠ky∧r ∉ Sy) :
    y.pre ⟨tm,hp⟩ dy∧x.pre ⟨tm,y.hpw ⟨tm,hp⟩ vy dy⟩ dx∧x.out ⟨tm,y.hpw ⟨tm,hp⟩ vy dy⟩ vx dx=x.out ⟨tm,hp⟩ vx dx ∧
    y.out ⟨tm,hp⟩ vy dy=y.out ⟨tm,x.hpw ⟨tm,hp⟩ vx dx⟩ vy dy∧x.hpw ⟨tm,y.hpw ⟨tm,hp⟩ vy dy⟩ vx dx=y.hpw ⟨tm,x.hpw ⟨tm,hp⟩ vx dx⟩ vy dy:=by
  have e1:x.hpw ⟨tm,hp⟩ vx dx=eff kx ox Sx hp:=(Ex.same hp (fun _ _=>rfl)).2.2
  rw [e1] at Ey hdy ⊢
  have alive:∀ r,(∃ v,U v∧(eff kx ox Sx hp r).ver=some v)→r≠kx∧r ∉ Sx∧eff kx ox Sx hp r=hp r:=by
    rintro r ⟨v,hu,hv⟩
    unfold eff at hv ⊢
    by_cases a:r=kx
    · rw [if_pos a,hox] at hv
      simp only [Option.some.injEq] at hv;subst hv;exact absurd hu hvx
    · by_cases b:r∈Sx
      · rw [if_neg a,if_pos b] at hv;cases hv
      · exact ⟨a,b,by rw [if_neg a,if_neg b]⟩
  have ky':ky≠kx∧ky ∉ Sx∧eff kx ox Sx hp ky=hp ky:=by
    rcases Ey.key with ⟨rfl,hg⟩ | h
    · have a:ky≠kx:=fun e=>by
        rw [e] at hg;simp only [eff,if_true] at hg;rw [hg] at hox;cases hox
      have b:=hdy rfl hg
      exact ⟨a,b,by unfold eff;rw [if_neg a,if_neg b]⟩
    · exact alive ky h
  obtain ⟨y1,y2,y3⟩:=Ey.same hp (fun r hr=>by
    rcases hr with rfl | hr
    · exact ky'.2.2.symm
    · exact (alive r (Ey.live r hr)).2.2.symm)
  have y4:=(Ey.same _ (fun _ _=>rfl)).2.2
  obtain ⟨x1,x2,x3⟩:=Ex.same (eff ky oy Sy hp) (fun r hr=>by
    unfold eff
    rw [if_neg,if_neg]
    · intro hm
      have h:=alive r (Ey.live r (.inl hm))
      rcases hr with rfl | hr | hr
      · exact h.1 rfl
      · exact h.2.1 hr
      · exact (hR r hr).2 hm
    · rintro rfl
      rcases hr with e | hr | hr
      · exact ky'.1 e
      · exact ky'.2.1 hr
      · exact (hR r hr).1 rfl)
  refine ⟨y1,by rw [y3];exact x1,by rw [y3];exact x2,y2,?_⟩
  rw [y3,x3,y4]
  exact eff_comm (Ne.symm ky'.1) (fun hm=>(alive kx (Ey.live kx (.inl hm))).1 rfl) ky'.2.1
theorem mem_owned {r v:Nat}:∀ {cs:List AVal},AVal.own r v∈cs→r∈owned cs
  | [],h=>by simp at h
  | A :: cs,h=>by
    rcases List.mem_cons.1 h with h | h
    · subst h;simp [owned]
    · have:=mem_owned h
      cases A <;> simp only [owned] <;> first | exact this | exact List.mem_cons_of_mem _ this
theorem bslm_eff {nos:List Nat} {k:Nat} {xs:List AOpd} {d ver:Nat} (h:AI.pre ⟨tm,hp⟩ d (.bslm nos k xs)) (hu:∀ o∈xs,(St.ev ⟨tm,hp⟩ o).uses U) :
    Eff U tm (.bslm nos k xs) ver d hp d (.row ver k true ((xs.flatMap fun x=>(St.ev ⟨tm,hp⟩ x).cells).map (frz hp))) (owned (xs.flatMap fun x=>(St.ev ⟨tm,hp⟩ x).cells)) []:=by
  obtain ⟨⟨h1,h2,h3,h4⟩,h5⟩:=h
  refine ⟨fun q hq=>?_,.inl ⟨rfl,h2⟩,fun r hr=>?_⟩
  · have e0:∀ a,St.ev ⟨tm,q⟩ a=St.ev ⟨tm,hp⟩ a:=fun a=>ev_hp _ _ a
    have ef:(xs.flatMap fun y=>(St.ev ⟨tm,q⟩ y).cells)=xs.flatMap fun y=>(St.ev ⟨tm,hp⟩ y).cells:=by
      rw [List.flatMap_def,List.flatMap_def]
      exact congrArg List.flatten (List.map_congr_left fun y _=>by rw [e0])
    have hrow:∀ r v,AVal.own r v∈(xs.flatMap fun y=>(St.ev ⟨tm,hp⟩ y).cells)→q r=hp r:=fun r v hm=>hq r (.inr (.inl (mem_owned hm)))
    refine ⟨⟨⟨by rw [ef];exact h1,(hq d (.inl rfl)).trans h2,fun y hy=>?_,by rw [ef];exact h4⟩,fun y hy=>by rw [e0];exact h5 y hy⟩,rfl,?_⟩
    · rw [e0]
      refine ⟨(h3 y hy).1,fun A hA=>?_⟩
      have hA1:=(h3 y hy).2 A hA
      have hA2:=h5 y hy A hA
      cases A with
      | own r v =>
        obtain ⟨k',nn,cs',hr'⟩:=hA1
        exact ⟨k',nn,cs',(hrow r v (List.mem_flatMap.2 ⟨y,hy,hA⟩)).trans hr'⟩
      | ptr _ _ _=>exact hA2.elim
      | mp _ _=>exact hA2.elim
      | _=>exact hA1
    · have efr:(xs.flatMap fun y=>(St.ev ⟨tm,hp⟩ y).cells).map (frz q)=(xs.flatMap fun y=>(St.ev ⟨tm,hp⟩ y).cells).map (frz hp):=by
        refine List.map_congr_left fun B hB=>?_
        cases B with
        | own r v=>simp only [frz,hrow r v hB]
        | _=>rfl
      simp only [AI.hpw,ef,efr];rfl
  · rcases hr with hr | hr
    · obtain ⟨v,hv⟩:=owned_mem' hr
      obtain ⟨x,hx,hxc⟩:=List.mem_flatMap.1 hv
      obtain ⟨k',nn,cs',hr'⟩:=(h3 x hx).2 _ hxc
      have hr'':hp r=.row v k' nn cs':=hr'
      refine ⟨v,?_,by rw [hr''];rfl⟩
      have:=uses_cells (hu x hx) _ hxc
      simpa only [AVal.uses] using this
    · simp at hr
theorem appn_eff {rd:List Nat} {k b:Nat} {s y:AOpd} {d ver:Nat} (h:AI.pre ⟨tm,hp⟩ d (.appn rd k b s y)) (hu:∀ o∈[s,y],(St.ev ⟨tm,hp⟩ o).uses U) :
    ∃ r o R,Eff U tm (.appn rd k b s y) ver d hp r o [] R∧o.ver=some ver∧(∃ v,U v∧(hp r).ver=some v)∧∀ q∈R,q∈rd:=by
  obtain ⟨h0,h2,⟨r,v,k',nn,cs,hs,hr⟩,h4,h5⟩:=appn_pre h
  have hus:=hu s (by simp)
  rw [hs] at hus
  have hv:U v:=by simpa only [AVal.uses] using hus
  have key:∃ R:List Nat,(∀ q∈R,q∈rd∧∃ v,U v∧(hp q).ver=some v)∧∀ q:Nat→AObj,(∀ r∈R,q r=hp r)→St.sl ⟨tm,q⟩ (St.ev ⟨tm,hp⟩ y)=St.sl ⟨tm,hp⟩ (St.ev ⟨tm,hp⟩ y):=by
    have huy:=hu y (by simp)
    rcases h5 with h5 | ⟨x,hx⟩
    · rw [h5];exact ⟨[],by simp,fun _ _=>rfl⟩
    · cases hy:St.ev ⟨tm,hp⟩ y with
      | own q w =>
        rw [hy] at h2 huy hx
        have hw:U w:=by simpa only [AVal.uses] using huy
        refine ⟨[q],fun q' hq'=>?_,fun p hp'=>?_⟩
        · rw [List.mem_singleton.1 hq']
          refine ⟨h2,w,hw,?_⟩
          simp only [St.sl] at hx
          split at hx
          · rename_i ver' k'' nn' cs' hr'
            split at hx
            · rename_i e;rw [hr',← e];rfl
            · cases hx
          · cases hx
        · simp only [St.sl,hp' q (by simp)]
      | _=>exact ⟨[],by simp,fun _ _=>rfl⟩
  obtain ⟨R,hR1,hR2⟩:=key
  obtain ⟨_,h6⟩:=h0
  rw [hs] at h6
  simp only [hr] at h6
  refine ⟨r,.row ver k (nn || decide ((St.slc ⟨tm,hp⟩ (St.ev ⟨tm,hp⟩ y)).length≠0)) (cs ++ St.slc ⟨tm,hp⟩ (St.ev ⟨tm,hp⟩ y)),R,⟨fun q hq=>?_,.inr ⟨v,hv,by rw [hr];rfl⟩,fun q hq=>?_⟩,rfl,⟨v,hv,by rw [hr];rfl⟩,fun q hq=>(hR1 q hq).1⟩
  · have e0:∀ a,St.ev ⟨tm,q⟩ a=St.ev ⟨tm,hp⟩ a:=fun a=>ev_hp _ _ a
    have hr':q r=.row v k' nn cs:=(hq r (.inl rfl)).trans hr
    have hsl:=hR2 q fun r hr=>hq r (.inr (.inr hr))
    have hslc:St.slc ⟨tm,q⟩ (St.ev ⟨tm,hp⟩ y)=St.slc ⟨tm,hp⟩ (St.ev ⟨tm,hp⟩ y):=by unfold St.slc;rw [hsl]
    refine ⟨?_,?_,?_⟩
    · obtain ⟨g1,g2,g3⟩:=h
      refine ⟨?_,by rw [e0];exact g2,?_⟩
      · rw [e0]
        by_cases hnil:St.ev ⟨tm,hp⟩ y=.val (.slice none 0 0)
        · rw [hnil];trivial
        · have g1':match St.sl ⟨tm,hp⟩ (St.ev ⟨tm,hp⟩ y) with | some (k',xs)=>k'=k∧∀ A∈xs,One hp A∧noObj A | none=>False:=by
            split at g1
            · rename_i h3;exact absurd h3 hnil
            · exact g1
          cases hss:St.sl ⟨tm,hp⟩ (St.ev ⟨tm,hp⟩ y) with
          | none=>rw [hss] at g1';exact g1'.elim
          | some x =>
            rw [hss] at g1'
            rw [hss] at hsl
            split
            · trivial
            · rw [hsl]
              refine ⟨g1'.1,fun A hA=>⟨?_,(g1'.2 A hA).2⟩⟩
              have a1:=(g1'.2 A hA).1
              have a2:=(g1'.2 A hA).2
              cases A with
              | val _=>exact a1
              | ro _ _ _=>exact a1
              | rp _ _=>exact a1
              | clo _ _=>exact a1
              | _=>exact a2.elim
      · simp only [e0,hs,hr',hslc];exact h6
    · simp only [AI.out,e0,hs]
    · simp only [AI.hpw,e0,hs,hr',hslc]
      funext n;unfold eff;simp
  · rcases hq with hq | hq
    · simp at hq
    · exact (hR1 q hq).2
theorem mup_eff {kd:Nat} {x i v:AOpd} {d ver:Nat} (h:AI.pre ⟨tm,hp⟩ d (.mup kd x i v)) (hu:∀ o∈[x,i,v],(St.ev ⟨tm,hp⟩ o).uses U) :
    ∃ r o S,Eff U tm (.mup kd x i v) ver d hp r o S []∧∃ w,U w∧(hp r).ver=some w:=by
  simp only [AI.pre] at h
  split at h
  · rename_i r w k hA hk
    obtain ⟨hm,hown⟩:=h
    split at hm
    · rename_i ver' ks vs hr
      obtain ⟨rfl,hfs,hki⟩:=hm
      have hux:=hu x (by simp)
      rw [hA] at hux
      have hw:U ver':=by simpa only [AVal.uses] using hux
      refine ⟨r,(match findKeyAt k ks 0 with
        | some (some j)=>.map ver' ks (vs.set j (frz hp (St.ev ⟨tm,hp⟩ v)))
        | _=>.map ver' (ks ++ [k]) (vs ++ [frz hp (St.ev ⟨tm,hp⟩ v)])),owned [St.ev ⟨tm,hp⟩ v],⟨fun q hq=>?_,.inr ⟨ver',hw,by rw [hr];rfl⟩,fun p hp'=>?_⟩,ver',hw,by rw [hr];rfl⟩
      · have e0:∀ a,St.ev ⟨tm,q⟩ a=St.ev ⟨tm,hp⟩ a:=fun a=>ev_hp _ _ a
        have hr':q r=.map ver' ks vs:=(hq r (.inl rfl)).trans hr
        have hfr:frz q (St.ev ⟨tm,hp⟩ v)=frz hp (St.ev ⟨tm,hp⟩ v):=by
          cases hev:St.ev ⟨tm,hp⟩ v with
          | own r2 v2=>simp only [frz,hq r2 (.inr (.inl (by rw [hev];simp [owned])))]
          | _=>rfl
        refine ⟨?_,rfl,?_⟩
        · simp only [AI.pre,e0,hA,hk,hr']
          refine ⟨⟨trivial,hfs,hki⟩,fun r2 v2 e=>?_⟩
          obtain ⟨k',nn,l,h5⟩:=hown r2 v2 e
          exact ⟨k',nn,l,(hq r2 (.inr (.inl (by rw [e];simp [owned])))).trans h5⟩
        · simp only [AI.hpw,e0,hA,hk,hr',hfr]
          rcases findKeyAt k ks 0 with _ | _ | j <;> rfl
      · rcases hp' with hp' | hp'
        · obtain ⟨v2,hv2⟩:=owned_mem' hp'
          rw [List.mem_singleton] at hv2
          obtain ⟨k',nn,l,h5⟩:=hown p v2 hv2.symm
          have h5':hp p=.row v2 k' nn l:=h5
          refine ⟨v2,?_,by rw [h5'];rfl⟩
          have huv:=hu v (by simp)
          rw [← hv2] at huv
          simpa only [AVal.uses] using huv
        · simp at hp'
    · exact hm.elim
  · exact h.elim
theorem a_eff {y:AI} (hy:y.cl=.a) {ver d:Nat} (h:y.pre ⟨tm,hp⟩ d):∃ o,Eff U tm y ver d hp d o [] []:=by
  obtain ⟨hg,o,ho,hh⟩:=a_made hy (ver:=ver) h
  refine ⟨o,⟨fun q hq=>⟨(hh q).2.2 ((hq d (.inl rfl)).trans hg),(hh q).2.1,?_⟩,.inl ⟨rfl,hg⟩,fun r hr=>by simp at hr⟩⟩
  rw [(hh q).1];funext n;unfold eff;simp
def dIn (nos:List Nat):Option Nat→Bool
  | some d=>nos.contains d
  | none=>false
def spB:AI→Option Nat→AI→Bool
  | .bslm nos _ _,dy,.bslm _ _ _=>dIn nos dy
  | .bslm _ _ _,_,.appn _ _ _ _ _=>true
  | .bslm _ _ _,_,.mup _ _ _ _=>true
  | .appn rd _ _ _ _,_,.bslm ny _ _=>rd.all fun r=>ny.contains r
  | .ldab nos _ _,_,.ston t _ _ _=>nos.contains t
  | .bslm nos _ _,dy,y=>y.cl == .a && dIn nos dy
  | _,_,_=>false
theorem sp_swap {x y:AI} {vx vy dx:Nat} {dy:Option Nat} (hc:spB x dy y=true) (hux:∀ o∈x.opds,(St.ev ⟨tm,hp⟩ o).uses fun _=>True) (hu:∀ o∈y.opds,(St.ev ⟨tm,hp⟩ o).uses U) (hvx:¬ U vx)
    (h1:x.pre ⟨tm,hp⟩ dx) (h2:y.pre ⟨tm,x.hpw ⟨tm,hp⟩ vx dx⟩ (dy.getD 0)) :
    y.pre ⟨tm,hp⟩ (dy.getD 0)∧x.pre ⟨tm,y.hpw ⟨tm,hp⟩ vy (dy.getD 0)⟩ dx∧x.out ⟨tm,y.hpw ⟨tm,hp⟩ vy (dy.getD 0)⟩ vx dx=x.out ⟨tm,hp⟩ vx dx ∧
    y.out ⟨tm,hp⟩ vy (dy.getD 0)=y.out ⟨tm,x.hpw ⟨tm,hp⟩ vx dx⟩ vy (dy.getD 0)∧x.hpw ⟨tm,y.hpw ⟨tm,hp⟩ vy (dy.getD 0)⟩ vx dx=y.hpw ⟨tm,x.hpw ⟨tm,hp⟩ vx dx⟩ vy (dy.getD 0):=by
  have hu':∀ (q:Nat→AObj) o,o∈y.opds→(St.ev ⟨tm,q⟩ o).uses U:=fun q o ho=>by rw [ev_hp q hp];exact hu o ho
  cases x with
  | bslm nos k xs =>
    have Ex:=bslm_eff (ver:=vx) h1 (fun o ho=>hux o ho)
    have nw:dIn nos dy=true→dy.getD 0 ∉ owned (xs.flatMap fun x=>(St.ev ⟨tm,hp⟩ x).cells):=fun e=>by
      cases dy with
      | none=>cases e
      | some d=>exact h1.1.1 d (by simpa [dIn] using e)
    have viaA:y.cl=.a→dIn nos dy=true→∃ o,Eff U tm y vy (dy.getD 0) (AI.hpw ⟨tm,hp⟩ vx dx (.bslm nos k xs)) (dy.getD 0) o [] []:=fun hy _=>a_eff (U:=U) hy (ver:=vy) h2
    cases y with
    | bslm ny k2 ys=>exact eff_swap Ex rfl hvx (bslm_eff (ver:=vy) h2 (fun o ho=>hu' _ o ho)) (fun _ _=>nw hc) (by simp)
    | appn rd k2 b s z =>
      obtain ⟨r,o,R,Ey,_,⟨v,hv,hr⟩,_⟩:=appn_eff (ver:=vy) h2 (fun o ho=>hu' _ o ho)
      refine eff_swap Ex rfl hvx Ey (fun e hg=>?_) (by simp)
      rw [e,hg] at hr;cases hr
    | mup kd a i v =>
      obtain ⟨r,o,S,Ey,w,hw,hr⟩:=mup_eff (ver:=vy) h2 (fun o ho=>hu' _ o ho)
      refine eff_swap Ex rfl hvx Ey (fun e hg=>?_) (by simp)
      rw [e,hg] at hr;cases hr
    | _ =>
      simp only [spB,Bool.and_eq_true] at hc
      obtain ⟨o,Ey⟩:=viaA (by simpa using hc.1) hc.2
      exact eff_swap Ex rfl hvx Ey (fun _ _=>nw hc.2) (by simp)
  | appn rd k b s z =>
    cases y with
    | bslm ny k2 ys =>
      obtain ⟨r,o,R,Ex,ho,_,hR⟩:=appn_eff (U:=fun _=>True) (ver:=vx) h1 (fun o ho=>hux o ho)
      have Ey:=bslm_eff (ver:=vy) h2 (fun o ho=>hu' _ o ho)
      refine eff_swap Ex ho hvx Ey (fun _ _=>by simp) (fun q hq=>⟨fun e=>?_,?_⟩)
      · obtain ⟨w,_,hw⟩:=Ex.live q (.inr hq)
        have hg:=h2.1.2.1
        rw [(Ex.same hp (fun _ _=>rfl)).2.2] at hg
        rw [← e] at hg
        change (if q=r then o else if q∈([]:List Nat) then AObj.gone else hp q)=AObj.gone at hg
        split at hg
        · rw [hg] at ho;cases ho
        · have hg':hp q=.gone:=by simpa using hg
          rw [hg'] at hw;cases hw
      · have:=List.all_eq_true.1 hc q (hR q hq)
        exact h2.1.1 q (by simpa using this)
    | _=>simp [spB] at hc
  | ldab nos n a =>
    cases y with
    | ston t n2 b v =>
      have e1:∀ q,(AI.ldab nos n a).hpw ⟨tm,q⟩ vx dx=q:=fun q=>rfl
      rw [e1] at h2 ⊢
      have ht:t∈nos:=by simpa [spB] using hc
      have hk:∀ r,r ∉ nos→AI.hpw ⟨tm,hp⟩ vy (dy.getD 0) (.ston t n2 b v) r=hp r:=by
        intro r hr
        simp only [AI.pre] at h2
        simp only [AI.hpw]
        split at h2
        · rename_i r' ver off he
          obtain ⟨e3,h3,_⟩:=h2
          subst e3
          split at h3
          · rename_i ver' cs hr'
            have hne:r≠r':=fun e=>hr (e ▸ ht)
            simp only [he,hr',if_neg hne]
          · exact h3.elim
        · exact h2.elim
      have e0:∀ o,St.ev ⟨tm,AI.hpw ⟨tm,hp⟩ vy (dy.getD 0) (.ston t n2 b v)⟩ o=St.ev ⟨tm,hp⟩ o:=fun o=>ev_hp _ _ o
      have h3:AI.pre ⟨tm,AI.hpw ⟨tm,hp⟩ vy (dy.getD 0) (.ston t n2 b v)⟩ dx (.ldab nos n a)∧AI.out ⟨tm,AI.hpw ⟨tm,hp⟩ vy (dy.getD 0) (.ston t n2 b v)⟩ vx dx (.ldab nos n a)=AI.out ⟨tm,hp⟩ vx dx (.ldab nos n a):=by
        simp only [AI.pre,AI.out,e0] at h1 ⊢
        split at h1
        · rename_i r v' off he
          obtain ⟨hno,h1⟩:=h1
          have h4:=hk r hno
          split at h1
          · rename_i v'' cs hr
            simp only [he,St.at,h4,hr];exact ⟨⟨hno,h1⟩,trivial⟩
          · exact h1.elim
        · rename_i cs off he
          simp only [he,St.at];exact ⟨h1,trivial⟩
        · exact h1.elim
      exact ⟨h2,h3.1,h3.2,rfl,rfl⟩
    | _=>simp [spB] at hc
  | _=>cases y <;> simp [spB] at hc
end
end Go.Ab
namespace Go.Ab
section
variable {P:Program} {U:Nat→Prop} {hp hp':Nat→AObj} {tm:Nat→AVal}
mutual
theorem coe_old (hO:Old U hp hp') (hU:∀ r v,U v→(hp r).ver=some v→(hp r).uses U) {len:Bool}:∀ (B A:AVal),A.uses U→Coe hp' [] len B A→Coe hp [] len B A
  | .any,_,_,_=>by simp only [Coe]
  | .val x,A,_,h=>by simpa only [Coe] using h
  | .ro nm k cs,A,hu,h=>by
    simp only [Coe] at h ⊢
    obtain ⟨h1,h2,h3⟩:=h
    refine ⟨?_,h2,?_⟩
    · rcases h1 with h1 | h1 | ⟨h1,h1',h5 | ⟨r,v,k',cs',rfl,h5⟩⟩
      · exact .inl h1
      · exact .inr (.inl h1)
      · exact .inr (.inr ⟨h1,h1',.inl h5⟩)
      · refine .inr (.inr ⟨h1,h1',.inr ⟨r,v,k',cs',rfl,?_⟩⟩)
        simp only [AVal.uses] at hu
        rw [hO r v hu (by rw [h5];rfl)];exact h5
    rcases h3 with ⟨nm',cs',rfl,h4⟩ | h3 | ⟨hl,r,v,nn,cs',rfl,h5,h6,h7⟩
    · refine .inl ⟨nm',cs',rfl,coeL_old hO hU cs cs' ?_ h4⟩
      simp only [AVal.uses] at hu;exact hu.2
    · exact .inr (.inl h3)
    · simp only [AVal.uses] at hu
      have h8:=hO r v hu (by rw [h6];rfl)
      refine .inr (.inr ⟨hl,r,v,nn,cs',rfl,h5,h8.trans h6,coeL_old hO hU cs cs' ?_ h7⟩)
      have h9:=hU r v hu (by rw [h8,h6];rfl)
      rw [h8,h6] at h9
      exact h9.2
  | .own r v,A,_,h=>by
    simp only [Coe] at h
    obtain ⟨j,r',v',_,_,h3,_⟩:=h
    simp at h3
  | .st cs,A,hu,h=>by
    simp only [Coe] at h ⊢
    rcases h with ⟨cs',rfl,h4⟩ | ⟨vs,rfl,h4⟩
    · exact .inl ⟨cs',rfl,coeL_old hO hU cs cs' (by simpa only [AVal.uses] using hu) h4⟩
    · refine .inr ⟨vs,rfl,coeL_old hO hU cs _ ?_ h4⟩
      exact usesL_of_mem fun A hA=>by simp only [List.mem_map] at hA;obtain ⟨v,_,rfl⟩:=hA;simp [AVal.uses]
  | .tup _,_,_,h=>by simp only [Coe] at h
  | .ptr r v off,A,_,h=>by
    simp only [Coe] at h
    obtain ⟨j,r',v',_,_,h3,_⟩:=h
    simp at h3
  | .rp cs off,A,hu,h=>by
    simp only [Coe] at h ⊢
    rcases h with ⟨cs',rfl,h4⟩ | ⟨hl,r,v,cs',rfl,h5,h6,h7⟩
    · exact .inl ⟨cs',rfl,coeL_old hO hU cs cs' (by simpa only [AVal.uses] using hu) h4⟩
    · simp only [AVal.uses] at hu
      have h8:=hO r v hu (by rw [h6];rfl)
      refine .inr ⟨hl,r,v,cs',rfl,h5,h8.trans h6,coeL_old hO hU cs cs' ?_ h7⟩
      have h9:=hU r v hu (by rw [h8,h6];rfl)
      rw [h8,h6] at h9
      exact h9.2
  | .mp r v,A,_,h=>by
    simp only [Coe] at h
    obtain ⟨j,r',v',_,_,h3,_⟩:=h
    simp at h3
  | .clo f caps,A,hu,h=>by
    simp only [Coe] at h ⊢
    obtain ⟨cs',rfl,h4⟩:=h
    exact ⟨cs',rfl,coeL_old hO hU caps cs' (by simpa only [AVal.uses] using hu) h4⟩
theorem coeL_old (hO:Old U hp hp') (hU:∀ r v,U v→(hp r).ver=some v→(hp r).uses U) {len:Bool}:∀ (Bs As:List AVal),usesL U As→CoeL hp' [] len Bs As→CoeL hp [] len Bs As
  | [],_,_,h=>by simpa only [CoeL] using h
  | B :: Bs,As,hu,h=>by
    simp only [CoeL] at h ⊢
    obtain ⟨A,As',rfl,h1,h2⟩:=h
    simp only [usesL] at hu
    exact ⟨A,As',rfl,coe_old hO hU B A hu.1 h1,coeL_old hO hU Bs As' hu.2 h2⟩
end
theorem anyObj_uses (o:AObj):o.uses fun _=>True:=by
  cases o with
  | gone=>trivial
  | box v cs=>exact ⟨trivial,usesL_of_mem fun A _=>any_uses A⟩
  | row v k nn cs=>exact ⟨trivial,usesL_of_mem fun A _=>any_uses A⟩
  | map v ks vs=>exact ⟨trivial,usesL_of_mem fun A _=>any_uses A⟩
  | it v d=>cases d with
    | none=>trivial
    | some d=>exact ⟨trivial,usesL_of_mem fun A _=>any_uses A⟩
theorem coeL_grow (h:∀ r,hp r≠.gone→hp' r=hp r) {len:Bool} {Bs As:List AVal} (hc:CoeL hp [] len Bs As):CoeL hp' [] len Bs As :=
  coeL_old (old_of_grow h) (fun r _ _ _=>anyObj_uses _) Bs As (usesL_of_mem fun A _=>any_uses A) hc
section
variable {d:Nat} {s:Nat→Nat} {outs rows:List AObj}
theorem rid_nil {q n:Nat} (h:rid [] d rows.length q=some n):∃ i,i<rows.length∧n=newId d i:=by
  rcases rid_cases h with ⟨j,_,_,h1⟩ | ⟨i,_,h1,h2⟩
  · simp at h1
  · exact ⟨i,h1,h2⟩
theorem call_grow (hi:∀ i,i<rows.length→hp (newId d i)=.gone):∀ r,hp r≠.gone→callHp hp [] d s outs rows r=hp r:=by
  intro r hr
  refine callHp_not ?_
  rintro ⟨q,hq⟩
  obtain ⟨i,h1,rfl⟩:=rid_nil hq
  exact hr (hi i h1)
theorem call_old (hs:∀ j,¬ U (s j)):Old U hp (callHp hp [] d s outs rows):=by
  intro r v hu hv
  by_cases h:∃ q,rid [] d rows.length q=some r
  · unfold callHp at hv
    rw [dif_pos h,AObj.ren_ver,sv_nil,Option.map_eq_some_iff] at hv
    obtain ⟨y,_,rfl⟩:=hv
    exact absurd hu (hs y)
  · exact (callHp_not h).symm
theorem call_gone (hi:∀ i,i<rows.length→hp (newId d i)=.gone) {r:Nat} (h:callHp hp [] d s outs rows r=.gone):hp r=.gone:=by
  by_cases h1:hp r=.gone
  · exact h1
  · rw [call_grow hi r h1] at h;exact absurd h h1
theorem call_upd {d':Nat} {o:AObj} (hn:∀ i,i<rows.length→newId d i≠d'):callHp (upd hp d' o) [] d s outs rows=upd (callHp hp [] d s outs rows) d' o:=by
  funext n
  by_cases h:∃ q,rid [] d rows.length q=some n
  · obtain ⟨q,hq⟩:=h
    obtain ⟨i,h1,h2⟩:=rid_nil hq
    have hne:n≠d':=by rw [h2];exact hn i h1
    unfold upd
    rw [if_neg hne]
    unfold callHp
    rw [dif_pos ⟨q,hq⟩,dif_pos ⟨q,hq⟩,sv_nil,sv_nil]
  · rw [callHp_not h]
    unfold upd
    by_cases e:n=d'
    · rw [if_pos e,if_pos e]
    · rw [if_neg e,if_neg e,callHp_not h]
end
theorem sp_mono {s:Nat→Nat} {d:Nat} {k k':AVal→(Nat→AObj)→Prop} {g:FuncId} {As:List AVal} (h:∀ A q,k A q→k' A q) (hh:Sp P s d tm hp k g As):Sp P s d tm hp k' g As:=by
  obtain ⟨ins,args,sh,R,h1,h2,h3,h4,h5⟩:=hh
  exact ⟨ins,args,sh,R,h1,h2,h3,h4,fun outs rows res hR=>⟨(h5 outs rows res hR).1,(h5 outs rows res hR).2.1,(h5 outs rows res hR).2.2.1,h _ _ (h5 outs rows res hR).2.2.2⟩⟩
theorem spM_mono {nos:List Nat} {s:Nat→Nat} {d:Nat} {k k':AVal→(Nat→AObj)→Prop} {g:FuncId} {As:List AVal} (h:∀ A q,k A q→k' A q) (hh:SpM P nos s d tm hp k g As):SpM P nos s d tm hp k' g As:=by
  obtain ⟨m,ins,args,sh,R,h1,h2,h3,h4,h5⟩:=hh
  exact ⟨m,ins,args,sh,R,h1,h2,h3,h4,fun outs rows res hR=>⟨(h5 outs rows res hR).1,(h5 outs rows res hR).2.1,h _ _ (h5 outs rows res hR).2.2⟩⟩
theorem si_mono {s:Nat→Nat} {d:Nat} {k k':AVal→(Nat→AObj)→Prop} {y:AIns} (h:∀ A q,k A q→k' A q) (hh:Si P s d tm hp k y):Si P s d tm hp k' y:=by
  cases y with
  | i x=>exact ⟨hh.1,h _ _ hh.2⟩
  | call g xs=>exact sp_mono (tm:=tm) h hh
  | calh g xs=>exact hh.elim
  | it k y=>exact hh.elim
  | calvh f xs=>exact hh.elim
  | calm nos g xs=>exact spM_mono (tm:=tm) h hh
  | r nos x=>exact ⟨hh.1,hh.2.1,h _ _ hh.2.2⟩
  | calv f xs =>
    simp only [Si] at hh ⊢
    split at hh
    · exact sp_mono (tm:=tm) h hh
    · exact hh.elim
def isM:AIns→Bool
  | .calm _ _ _=>true
  | _=>false
def AIns.er:AIns→AIns
  | .r _ x=>.i x
  | y=>y
def Fr (tm:Nat→AVal):AIns→Prop
  | .r nos x=>∀ o∈x.opds,free nos (St.ev ⟨tm,fun _=>.gone⟩ o)
  | _=>True
theorem si_er {s:Nat→Nat} {d:Nat} {k:AVal→(Nat→AObj)→Prop} {y:AIns}:Si P s d tm hp k y↔Fr tm y∧Si P s d tm hp k y.er:=by
  cases y with
  | r nos x =>
    have e:(∀ o∈x.opds,free nos (St.ev ⟨tm,hp⟩ o))↔∀ o∈x.opds,free nos (St.ev ⟨tm,fun _=>AObj.gone⟩ o):=by
      constructor <;> intro h o ho
      · rw [ev_hp _ hp];exact h o ho
      · rw [ev_hp _ fun _=>.gone];exact h o ho
    simp only [Si,Fr,AIns.er,e]
  | _=>simp only [Fr,AIns.er,true_and]
def isR:AIns→Bool
  | .r _ _=>true
  | _=>false
theorem er_r (y:AIns):isR y.er=false:=by cases y <;> rfl
theorem er_m (y:AIns):isM y.er=isM y:=by cases y <;> rfl
theorem er_cl (y:AIns):y.er.cl=y.cl:=by cases y <;> rfl
theorem er_opds (y:AIns):y.er.opds=y.opds:=by cases y <;> rfl
theorem si_call {y:AIns} (hm:isM y=false) (hy:y.cl=.c):(∃ g As,((∀ o∈y.opds,(St.ev ⟨tm,hp⟩ o).uses U)→usesL U As)∧∀ s d q k,Si P s d tm q k y↔Sp P s d tm q k g As)∨∀ s d q k,¬ Si P s d tm q k y:=by
  cases y with
  | i x=>exact absurd hy (cl_ne_c x)
  | call g xs =>
    refine .inl ⟨g,xs.map (St.ev ⟨tm,hp⟩),?_,?_⟩
    · intro h
      refine usesL_of_mem fun A hA=>?_
      simp only [List.mem_map] at hA
      obtain ⟨o,ho,rfl⟩:=hA
      exact h o ho
    · intro s d q k
      have:xs.map (St.ev ⟨tm,q⟩)=xs.map (St.ev ⟨tm,hp⟩):=List.map_congr_left fun o _=>ev_hp _ _ o
      simp only [Si,this]
  | calm nos g xs=>cases hm
  | r nos x=>exact absurd hy (cl_ne_c x)
  | calh g xs=>exact .inr fun _ _ _ _ h=>h
  | it k y=>exact .inr fun _ _ _ _ h=>h
  | calvh f xs=>exact .inr fun _ _ _ _ h=>h
  | calv f xs =>
    cases hf:St.ev ⟨tm,hp⟩ f with
    | clo g caps =>
      refine .inl ⟨g,xs.map (St.ev ⟨tm,hp⟩) ++ caps,?_,?_⟩
      · intro h
        refine usesL_of_mem fun A hA=>?_
        simp only [List.mem_append,List.mem_map] at hA
        rcases hA with ⟨o,ho,rfl⟩ | hA
        · exact h o (by simp [AIns.opds,ho])
        · have h1:=h f (by simp [AIns.opds])
          rw [hf] at h1
          simp only [AVal.uses] at h1
          exact usesL_mem h1 A hA
      · intro s d q k
        have:xs.map (St.ev ⟨tm,q⟩)=xs.map (St.ev ⟨tm,hp⟩):=List.map_congr_left fun o _=>ev_hp _ _ o
        have h2:St.ev ⟨tm,q⟩ f=.clo g caps:=(ev_hp _ _ f).trans hf
        simp only [Si,this,h2]
    | _ =>
      refine .inr fun s d q k h=>?_
      have h2:=(ev_hp q hp f).trans hf
      simp [Si,h2] at h
theorem si_old {s:Nat→Nat} {d:Nat} {k:AVal→(Nat→AObj)→Prop} {y:AIns} (hmm:isM y=false) (hs:∀ j,¬ U (s j)) (hy:y.cl≠.x∧y.cl≠.m) (h:Si P s d tm hp k y):Si P s d tm hp (fun A q=>k A q∧Old U hp q) y:=by
  by_cases hc:y.cl=.c
  · rcases si_call (P:=P) (U:=U) (tm:=tm) (hp:=hp) hmm hc with ⟨g,As,_,hiff⟩ | hno
    · rw [hiff] at h ⊢
      obtain ⟨ins,args,sh,R,h1,h2,h3,h4,h5⟩:=h
      refine ⟨ins,args,sh,R,h1,h2,h3,h4,fun outs rows res hR=>?_⟩
      obtain ⟨h6,h7,h8,h9⟩:=h5 outs rows res hR
      exact ⟨h6,h7,h8,h9,call_old hs⟩
    · exact absurd h (hno _ _ _ _)
  · cases y with
    | calm nos g xs=>exact absurd rfl hc
    | r nos x =>
      obtain ⟨h0,h1,h2⟩:=h
      refine ⟨h0,h1,h2,?_⟩
      have hy:x.cl≠.x∧x.cl≠.m:=hy
      cases hx:x.cl with
      | n=>rw [l_hpw (.inr hx)];exact fun _ _ _ _=>rfl
      | l=>rw [l_hpw (.inl hx)];exact fun _ _ _ _=>rfl
      | a =>
        obtain ⟨_,o,ho,hh⟩:=a_made hx (ver:=s 0) h1
        rw [(hh hp).1];exact upd_old ho (hs 0)
      | w=>exact (w_made hx h1).1 (hs 0)
      | b=>exact b_old hx (hs 0)
      | c=>exact absurd hx (cl_ne_c x)
      | x=>exact absurd hx hy.1
      | m=>exact absurd hx hy.2
    | i x =>
      obtain ⟨h1,h2⟩:=h
      refine ⟨h1,h2,?_⟩
      cases hx:x.cl with
      | n=>rw [l_hpw (.inr hx)];exact fun _ _ _ _=>rfl
      | l=>rw [l_hpw (.inl hx)];exact fun _ _ _ _=>rfl
      | a =>
        obtain ⟨_,o,ho,hh⟩:=a_made hx (ver:=s 0) h1
        rw [(hh hp).1];exact upd_old ho (hs 0)
      | w=>exact (w_made hx h1).1 (hs 0)
      | b=>exact b_old hx (hs 0)
      | c=>exact absurd hx (cl_ne_c x)
      | x=>exact absurd hx hy.1
      | m=>exact absurd hx hy.2
    | call g xs=>exact absurd rfl hc
    | calv f xs=>exact absurd rfl hc
    | calh g xs=>exact absurd rfl hc
    | it k y=>exact absurd rfl hc
    | calvh f xs=>exact absurd rfl hc
theorem si_some {s:Nat→Nat} {d:Nat} {k:AVal→(Nat→AObj)→Prop} {y:AIns} (h:Si P s d tm hp k y):∃ A q,k A q:=by
  cases hmm:isM y with
  | true =>
    cases y with
    | calm nos g xs =>
      obtain ⟨m,ins,args,sh,R,h1,h2,h3,⟨_,outs,rows,res,hR⟩,h5⟩:=h
      exact ⟨_,_,(h5 outs rows res hR).2.2⟩
    | _=>cases hmm
  | false =>
  by_cases hc:y.cl=.c
  · rcases si_call (P:=P) (U:=fun _=>True) (tm:=tm) (hp:=hp) hmm hc with ⟨g,As,_,hiff⟩ | hno
    · rw [hiff] at h
      obtain ⟨ins,args,sh,R,h1,h2,h3,⟨outs,rows,res,hR⟩,h5⟩:=h
      exact ⟨_,_,(h5 outs rows res hR).2.2.2⟩
    · exact absurd h (hno _ _ _ _)
  · cases y with
    | i x=>exact ⟨_,_,h.2⟩
    | r nos x=>exact ⟨_,_,h.2.2⟩
    | calm nos g xs=>exact absurd rfl hc
    | call g xs=>exact absurd rfl hc
    | calv f xs=>exact absurd rfl hc
    | calh g xs=>exact absurd rfl hc
    | it k y=>exact absurd rfl hc
    | calvh f xs=>exact absurd rfl hc
theorem si_bx {x:AI} {y:AIns} {sx sy:Nat→Nat} {dx dy:Nat} {k:AVal→AVal→(Nat→AObj)→Prop} (hre:isR y=false) (hx:x.bx=true) (hy:y.cl=.w∨y.cl=.b∨y.cl=.m)
    (h:Si P sx dx tm hp (fun A q=>Si P sy dy tm q (k A) y) (.i x)):Si P sy dy tm hp (fun B q=>Si P sx dx tm q (fun A q'=>k A B q') (.i x)) y:=by
  cases y with
  | call g xs=>rcases hy with h | h | h <;> cases h
  | calv f xs=>rcases hy with h | h | h <;> cases h
  | calh g xs=>rcases hy with h | h | h <;> cases h
  | it k y=>rcases hy with h | h | h <;> cases h
  | calvh f xs=>rcases hy with h | h | h <;> cases h
  | calm nos g xs=>rcases hy with h | h | h <;> cases h
  | r nos y=>cases hre
  | i y =>
    have e1:∀ q,x.hpw ⟨tm,q⟩ (sx 0) dx=q:=fun q=>l_hpw (.inl (bx_l hx))
    obtain ⟨h1,h2,h3⟩:=h
    rw [e1] at h2 h3
    have hb:=bx_pre (tm:=tm) (ver:=sx 0) hx (hp':=y.hpw ⟨tm,hp⟩ (sy 0) dy) (fun r v cs hr=>keep_box hy h2 hr) h1
    refine ⟨h2,hb.1,?_⟩
    rw [e1,hb.2];exact h3
theorem si_bn {nos:List Nat} {kk:Nat} {xs:List AOpd} {y:AIns} {sx sy:Nat→Nat} {dx dy:Nat} {k:AVal→AVal→(Nat→AObj)→Prop} (hre:isR y=false) (hy:y.cl=.a) (hm:dy∈nos) (hne:dx≠dy)
    (h:Si P sx dx tm hp (fun A q=>Si P sy dy tm q (k A) y) (.i (.bsln nos kk xs))):Si P sy dy tm hp (fun B q=>Si P sx dx tm q (fun A q'=>k A B q') (.i (.bsln nos kk xs))) y:=by
  cases y with
  | call g xs=>cases hy
  | calv f xs=>cases hy
  | calh g xs=>cases hy
  | it k y=>cases hy
  | calvh f xs=>cases hy
  | calm nos g xs=>cases hy
  | r nos y=>cases hre
  | i y =>
    obtain ⟨h1,h2,h3⟩:=h
    obtain ⟨hg1,o,ho,hh⟩:=a_made (x:=y) hy (ver:=sy 0) h2
    have hgy:hp dy=.gone:=by
      simp only [AI.hpw] at hg1
      rw [if_neg (Ne.symm hne),if_neg (h1.1 dy hm)] at hg1
      exact hg1
    have e2:∀ q,y.hpw ⟨tm,q⟩ (sy 0) dy=upd q dy o:=fun q=>(hh q).1
    obtain ⟨b1,b2⟩:=bn_made (ver:=sx 0) (o:=o) h1 hgy (Ne.symm hne)
    refine ⟨(hh hp).2.2 hgy,?_,?_⟩
    · rw [e2];exact b1
    · rw [e2,b2,(hh hp).2.1]
      rw [e2] at h3
      exact h3
theorem si_sp {x y:AI} {sx sy:Nat→Nat} {dx:Nat} {dy:Option Nat} {k:AVal→AVal→(Nat→AObj)→Prop} (hc:spB x dy y=true) (hu:∀ o∈y.opds,(St.ev ⟨tm,hp⟩ o).uses U) (hsx:∀ j,¬ U (sx j))
    (h:Si P sx dx tm hp (fun A q=>Si P sy (dy.getD 0) tm q (k A) (.i y)) (.i x)):Si P sy (dy.getD 0) tm hp (fun B q=>Si P sx dx tm q (fun A q'=>k A B q') (.i x)) (.i y):=by
  obtain ⟨h1,h2,h3⟩:=h
  obtain ⟨k1,k2,k3,k4,k5⟩:=sp_swap (vy:=sy 0) hc (fun o _=>any_uses _) hu (hsx 0) h1 h2
  refine ⟨k1,k2,?_⟩
  rw [k3,k4,k5];exact h3
theorem si_swap {x y:AIns} {sx sy:Nat→Nat} {dx dy:Nat} {k:AVal→AVal→(Nat→AObj)→Prop} (hrx:isR x=false∧isM x=false) (hry:isR y=false∧isM y=false) (hc:commC x.cl y.cl=true) (hu:∀ o∈y.opds,(St.ev ⟨tm,hp⟩ o).uses U)
    (hU:y.cl=.c→∀ r v,U v→(hp r).ver=some v→(hp r).uses U) (hsx:∀ j,¬ U (sx j)) (hd:(dx≠dy∧dx<1000∧dy<1000)∨x.cl=.n∨y.cl=.n∨x.cl=.l∨y.cl=.l∨y.cl=.m)
    (h:Si P sx dx tm hp (fun A q=>Si P sy dy tm q (k A) y) x):Si P sy dy tm hp (fun B q=>Si P sx dx tm q (fun A q'=>k A B q') x) y:=by
  by_cases hyc:y.cl=.c
  · rcases si_call (P:=P) (U:=U) (tm:=tm) (hp:=hp) hry.2 hyc with ⟨g,As,hAs,hiff⟩ | hno
    · rw [hiff]
      cases x with
      | i x =>
        obtain ⟨h1,h2⟩:=h
        rw [hiff] at h2
        have hxk:x.cl=.n∨x.cl=.l∨x.cl=.a:=by
          have e:(AIns.i x).cl=x.cl:=rfl
          cases hx:x.cl <;> simp [e,hx,hyc,commC] at hc ⊢
        by_cases hxa:x.cl=.a
        · obtain ⟨hg,o,ho,hh⟩:=a_made hxa (ver:=sx 0) h1
          have e1:∀ q,x.hpw ⟨tm,q⟩ (sx 0) dx=upd q dx o:=fun q=>(hh q).1
          rw [e1] at h2
          have hoo:o≠.gone:=ver_ne_gone ho
          obtain ⟨ins,args,sh,R,k1,k2,k3,k4,k5⟩:=h2
          refine ⟨ins,args,sh,R,k1,k2,coeL_old (upd_old ho (hsx 0)) (hU hyc) _ _ (hAs hu) k3,k4,fun outs rows res hR=>?_⟩
          obtain ⟨h6,h7,h8,h9⟩:=k5 outs rows res hR
          have hne:∀ i,i<rows.length→newId dy i≠dx:=by
            intro i hi e
            have:=h8 i hi
            rw [e] at this
            unfold upd at this
            rw [if_pos rfl] at this;exact hoo this
          have hi:∀ i,i<rows.length→hp (newId dy i)=.gone:=by
            intro i hi
            have:=h8 i hi
            unfold upd at this
            rw [if_neg (hne i hi)] at this;exact this
          refine ⟨h6,h7,hi,?_⟩
          have hgx:callHp hp [] dy sy outs rows dx=.gone:=by
            rw [callHp_not]
            · exact hg
            · rintro ⟨q,hq⟩
              obtain ⟨i,h10,h11⟩:=rid_nil hq
              exact hne i h10 h11.symm
          refine ⟨(hh _).2.2 hgx,?_⟩
          rw [e1,(hh _).2.1,← call_upd hne]
          exact h9
        · have hxl:x.cl=.l∨x.cl=.n:=by
            rcases hxk with h3 | h3 | h3
            · exact .inr h3
            · exact .inl h3
            · exact absurd h3 hxa
          have e1:∀ q,x.hpw ⟨tm,q⟩ (sx 0) dx=q:=fun q=>l_hpw hxl
          rw [e1] at h2
          obtain ⟨ins,args,sh,R,k1,k2,k3,k4,k5⟩:=h2
          refine ⟨ins,args,sh,R,k1,k2,k3,k4,fun outs rows res hR=>?_⟩
          obtain ⟨h6,h7,h8,h9⟩:=k5 outs rows res hR
          have h10:=l_old (U:=fun _=>True) (tm:=tm) (ver:=sx 0) hxl (old_of_grow (call_grow (s:=sy) (outs:=outs) h8)) (fun _ _=>any_uses _) h1
          refine ⟨h6,h7,h8,h10.1,?_⟩
          rw [e1,h10.2];exact h9
      | call g' xs=>rw [hyc] at hc;exact absurd hc (by simp [AIns.cl,commC])
      | calv f xs=>rw [hyc] at hc;exact absurd hc (by simp [AIns.cl,commC])
      | calh g xs=>rw [hyc] at hc;exact absurd hc (by simp [AIns.cl,commC])
      | it k y=>rw [hyc] at hc;exact absurd hc (by simp [AIns.cl,commC])
      | calvh f xs=>rw [hyc] at hc;exact absurd hc (by simp [AIns.cl,commC])
      | calm nos g xs=>cases hrx.2
      | r nos x=>cases hrx.1
    · obtain ⟨A,q,h1⟩:=si_some h
      exact absurd h1 (hno _ _ _ _)
  cases y with
  | call g xs=>exact absurd rfl hyc
  | calv f xs=>exact absurd rfl hyc
  | calh g xs=>exact absurd rfl hyc
  | it k y=>exact absurd rfl hyc
  | calvh f xs=>exact absurd rfl hyc
  | calm nos g xs=>cases hry.2
  | r nos x=>cases hry.1
  | i y =>
    by_cases hxc:x.cl=.c
    · rcases si_call (P:=P) (U:=U) (tm:=tm) (hp:=hp) hrx.2 hxc with ⟨g,As,hAs,hiff⟩ | hno
      · rw [hiff] at h
        obtain ⟨ins,args,sh,R,k1,k2,k3,k4,k5⟩:=h
        obtain ⟨o0,r0,z0,hR0⟩:=k4
        have hyk:y.cl=.n∨y.cl=.l∨y.cl=.a:=by
          have e:(AIns.i y).cl=y.cl:=rfl
          cases hx:y.cl <;> simp [e,hx,hxc,commC] at hc ⊢
        by_cases hya:y.cl=.a
        · have hdd:dx≠dy∧dx<1000∧dy<1000:=by
            have e:(AIns.i y).cl=y.cl:=rfl
            rcases hd with h3 | h3 | h3 | h3 | h3 | h3
            · exact h3
            · rw [hxc] at h3;cases h3
            · rw [e,hya] at h3;cases h3
            · rw [hxc] at h3;cases h3
            · rw [e,hya] at h3;cases h3
            · rw [e,hya] at h3;cases h3
          have hne:∀ i,newId dx i≠dy:=by intro i;unfold newId;omega
          obtain ⟨_,_,h8,h9,_⟩:=k5 o0 r0 z0 hR0
          have hgy:hp dy=.gone:=call_gone h8 (a_made hya (ver:=sy 0) h9).1
          obtain ⟨_,o,ho,hh0⟩:=a_made hya (ver:=sy 0) h9
          have hpre:y.pre ⟨tm,hp⟩ dy:=(hh0 hp).2.2 hgy
          obtain ⟨_,o,ho,hh⟩:=a_made hya (ver:=sy 0) hpre
          have e1:∀ q,y.hpw ⟨tm,q⟩ (sy 0) dy=upd q dy o:=fun q=>(hh q).1
          refine ⟨hpre,?_⟩
          show Si P sx dx tm (y.hpw ⟨tm,hp⟩ (sy 0) dy) _ x
          rw [e1,hiff]
          refine ⟨ins,args,sh,R,k1,k2,coeL_grow (upd_grow hgy) k3,⟨o0,r0,z0,hR0⟩,fun outs rows res hR=>?_⟩
          obtain ⟨h6,h7,h8,h9,h10⟩:=k5 outs rows res hR
          refine ⟨h6,h7,fun i hi=>?_,?_⟩
          · unfold upd;rw [if_neg (hne i)];exact h8 i hi
          · rw [call_upd fun i _=>hne i]
            rw [e1,(hh _).2.1] at h10
            exact h10
        · have hyl:y.cl=.l∨y.cl=.n:=by
            rcases hyk with h3 | h3 | h3
            · exact .inr h3
            · exact .inl h3
            · exact absurd h3 hya
          have e1:∀ q,y.hpw ⟨tm,q⟩ (sy 0) dy=q:=fun q=>l_hpw hyl
          have hrd:∀ outs rows,y.pre ⟨tm,callHp hp [] dx sx outs rows⟩ dy→y.pre ⟨tm,hp⟩ dy∧y.out ⟨tm,hp⟩ (sy 0) dy=y.out ⟨tm,callHp hp [] dx sx outs rows⟩ (sy 0) dy :=
            fun outs rows h9=>l_old (tm:=tm) hyl (call_old hsx) hu h9
          obtain ⟨_,_,h8,h9,_⟩:=k5 o0 r0 z0 hR0
          refine ⟨(hrd _ _ h9).1,?_⟩
          show Si P sx dx tm (y.hpw ⟨tm,hp⟩ (sy 0) dy) _ x
          rw [e1,hiff]
          refine ⟨ins,args,sh,R,k1,k2,k3,⟨o0,r0,z0,hR0⟩,fun outs rows res hR=>?_⟩
          obtain ⟨h6,h7,h8,h9,h10⟩:=k5 outs rows res hR
          rw [e1,← (hrd _ _ h9).2] at h10
          exact ⟨h6,h7,h8,h10⟩
      · exact absurd h (hno _ _ _ _)
    · cases x with
      | call g xs=>exact absurd rfl hxc
      | calv f xs=>exact absurd rfl hxc
      | calh g xs=>exact absurd rfl hxc
      | it k y=>exact absurd rfl hxc
      | calvh f xs=>exact absurd rfl hxc
      | calm nos g xs=>cases hrx.2
      | r nos x=>cases hrx.1
      | i x =>
        obtain ⟨h1,h2,h3⟩:=h
        obtain ⟨k1,k2,k3,k4,k5⟩:=det_swap (vy:=sy 0) (dy:=dy) hc hu (hsx 0) (hd.imp (fun h=>h.1) id) h1 h2
        refine ⟨k1,k2,?_⟩
        rw [k3,k4,k5];exact h3
def okR:AI→Bool
  | .ld _ | .lda _ _ | .nilck _ | .fad _ _ | .iad _ _ _ | .ldb _ | .fadb _ _ | .ldab _ _ _=>true
  | _=>false
theorem okR_l {a:AI} (h:okR a=true):a.cl=.l:=by cases a <;> simp [okR] at h <;> rfl
theorem sl_f {nos:List Nat} {q:Nat→AObj} (hq:∀ r,r ∉ nos→q r=hp r) {A:AVal} (h:free nos A):St.sl ⟨tm,q⟩ A=St.sl ⟨tm,hp⟩ A:=by
  cases A with
  | own r v=>simp only [St.sl,hq r h]
  | _=>rfl
theorem at_f {nos:List Nat} {q:Nat→AObj} (hq:∀ r,r ∉ nos→q r=hp r) {A:AVal} (h:free nos A):St.at ⟨tm,q⟩ A=St.at ⟨tm,hp⟩ A:=by
  cases A with
  | ptr r v off=>simp only [St.at,hq r h]
  | _=>rfl
theorem lf {a:AI} {nos:List Nat} {q:Nat→AObj} {ver d:Nat} (ha:okR a=true) (h0:∀ o∈a.opds,free nos (St.ev ⟨tm,hp⟩ o)) (hq:∀ r,r ∉ nos→q r=hp r) :
    (a.pre ⟨tm,q⟩ d↔a.pre ⟨tm,hp⟩ d)∧a.out ⟨tm,q⟩ ver d=a.out ⟨tm,hp⟩ ver d:=by
  have e0:∀ o,St.ev ⟨tm,q⟩ o=St.ev ⟨tm,hp⟩ o:=fun o=>ev_hp _ _ o
  cases a with
  | ld x =>
    have h:=h0 x (by simp [AI.opds])
    refine ⟨?_,?_⟩ <;> simp only [AI.pre,AI.out,e0,at_f (tm:=tm) hq h]
  | lda n x =>
    have h:=h0 x (by simp [AI.opds])
    refine ⟨?_,?_⟩ <;> simp only [AI.pre,AI.out,e0,at_f (tm:=tm) hq h]
  | nilck x =>
    have h:=h0 x (by simp [AI.opds])
    refine ⟨?_,by simp only [AI.out,e0]⟩
    simp only [AI.pre,e0]
    cases hA:St.ev ⟨tm,hp⟩ x with
    | ptr r v off=>rw [hA] at h;simp only [hq r h]
    | _=>exact Iff.rfl
  | fad off x =>
    have h:=h0 x (by simp [AI.opds])
    refine ⟨?_,by simp only [AI.out,e0]⟩
    simp only [AI.pre,e0]
    cases hA:St.ev ⟨tm,hp⟩ x with
    | ptr r v off=>rw [hA] at h;simp only [hq r h]
    | _=>exact Iff.rfl
  | iad k x i =>
    have h:=h0 x (by simp [AI.opds])
    refine ⟨?_,by simp only [AI.out,e0]⟩
    simp only [AI.pre,e0,sl_f (tm:=tm) hq h]
  | ldb x =>
    have h:=h0 x (by simp [AI.opds])
    simp only [AI.pre,AI.out,e0,at_f (tm:=tm) hq h]
    refine ⟨?_,trivial⟩
    cases hA:St.ev ⟨tm,hp⟩ x with
    | ptr r v off=>rw [hA] at h;simp only [hq r h]
    | _=>exact Iff.rfl
  | fadb off x =>
    have h:=h0 x (by simp [AI.opds])
    refine ⟨?_,by simp only [AI.out,e0]⟩
    simp only [AI.pre,e0]
    cases hA:St.ev ⟨tm,hp⟩ x with
    | ptr r v off=>rw [hA] at h;simp only [hq r h]
    | _=>exact Iff.rfl
  | ldab ns n x =>
    have h:=h0 x (by simp [AI.opds])
    simp only [AI.pre,AI.out,e0,at_f (tm:=tm) hq h]
    refine ⟨?_,trivial⟩
    cases hA:St.ev ⟨tm,hp⟩ x with
    | ptr r v off=>rw [hA] at h;simp only [hq r h]
    | _=>exact Iff.rfl
  | _=>simp [okR] at ha
theorem callHp_off {m nos:List Nat} {d:Nat} {s:Nat→Nat} {outs:List AObj} (hm:∀ r∈m,r∈nos):∀ r,r ∉ nos→callHp hp m d s outs [] r=hp r:=by
  intro r hr
  refine callHp_not ?_
  rintro ⟨q,hq⟩
  rcases rid_cases hq with ⟨j,_,_,h1⟩ | ⟨i,_,h1,_⟩
  · exact hr (hm r (List.mem_of_getElem? h1))
  · simp at h1
theorem si_rc {a:AI} {nx ny:List Nat} {g:FuncId} {xs:List AOpd} {sx sy:Nat→Nat} {dx dy:Nat} {k:AVal→AVal→(Nat→AObj)→Prop} (ha:okR a=true) (hs:∀ r∈ny,r∈nx)
    (h:Si P sx dx tm hp (fun A q=>Si P sy dy tm q (k A) (.calm ny g xs)) (.r nx a)):Si P sy dy tm hp (fun B q=>Si P sx dx tm q (fun A q'=>k A B q') (.r nx a)) (.calm ny g xs):=by
  obtain ⟨h0,h1,m,ins,args,sh,R,c1,c2,c3,c4,c5⟩:=h
  have e1:∀ q,a.hpw ⟨tm,q⟩ (sx 0) dx=q:=fun q=>l_hpw (.inl (okR_l ha))
  rw [e1] at c2 c3 c5
  have e2:xs.map (St.ev ⟨tm,a.hpw ⟨tm,hp⟩ (sx 0) dx⟩)=xs.map (St.ev ⟨tm,hp⟩):=List.map_congr_left fun o _=>ev_hp _ _ o
  refine ⟨m,ins,args,sh,R,c1,c2,c3,c4,fun outs rows res hR=>?_⟩
  obtain ⟨d1,d2,d3⟩:=c5 outs rows res hR
  have hl:=lf (tm:=tm) (ver:=sx 0) (d:=dx) ha h0 (callHp_off (d:=dy) (s:=sy) (outs:=outs) fun r hr=>hs r (c4.1 r hr))
  refine ⟨d1,d2,fun o ho=>by rw [ev_hp _ hp];exact h0 o ho,hl.1.2 h1,?_⟩
  rw [e1,hl.2];exact d3
theorem si_cr {b:AI} {nx ny:List Nat} {g:FuncId} {xs:List AOpd} {sx sy:Nat→Nat} {dx dy:Nat} {k:AVal→AVal→(Nat→AObj)→Prop} (hb:okR b=true) (hs:∀ r∈nx,r∈ny)
    (h:Si P sx dx tm hp (fun A q=>Si P sy dy tm q (k A) (.r ny b)) (.calm nx g xs)):Si P sy dy tm hp (fun B q=>Si P sx dx tm q (fun A q'=>k A B q') (.calm nx g xs)) (.r ny b):=by
  obtain ⟨m,ins,args,sh,R,c1,c2,c3,⟨c4,o0,r0,z0,hR0⟩,c5⟩:=h
  have e1:∀ q,b.hpw ⟨tm,q⟩ (sy 0) dy=q:=fun q=>l_hpw (.inl (okR_l hb))
  have key:∀ outs,(∀ o∈b.opds,free ny (St.ev ⟨tm,callHp hp m dx sx outs []⟩ o))→(∀ o∈b.opds,free ny (St.ev ⟨tm,hp⟩ o))∧(b.pre ⟨tm,callHp hp m dx sx outs []⟩ dy↔b.pre ⟨tm,hp⟩ dy)∧b.out ⟨tm,callHp hp m dx sx outs []⟩ (sy 0) dy=b.out ⟨tm,hp⟩ (sy 0) dy:=by
    intro outs h0
    have h0':∀ o∈b.opds,free ny (St.ev ⟨tm,hp⟩ o):=fun o ho=>by rw [ev_hp hp];exact h0 o ho
    exact ⟨h0',lf hb h0' (callHp_off fun r hr=>hs r (c4 r hr))⟩
  obtain ⟨_,_,f0,f1,_⟩:=c5 o0 r0 z0 hR0
  obtain ⟨k1,k2,k3⟩:=key o0 f0
  refine ⟨k1,k2.1 f1,?_⟩
  rw [e1]
  refine ⟨m,ins,args,sh,R,c1,c2,c3,⟨c4,o0,r0,z0,hR0⟩,fun outs rows res hR=>?_⟩
  obtain ⟨d1,d2,d3,d4,d5⟩:=c5 outs rows res hR
  refine ⟨d1,d2,?_⟩
  rw [e1,(key outs d3).2.2] at d5
  exact d5
theorem si_nc {a:AI} {ny:List Nat} {g:FuncId} {xs:List AOpd} {sx sy:Nat→Nat} {dx dy:Nat} {k:AVal→AVal→(Nat→AObj)→Prop} (ha:a.cl=.n)
    (h:Si P sx dx tm hp (fun A q=>Si P sy dy tm q (k A) (.calm ny g xs)) (.i a)):Si P sy dy tm hp (fun B q=>Si P sx dx tm q (fun A q'=>k A B q') (.i a)) (.calm ny g xs):=by
  obtain ⟨h1,m,ins,args,sh,R,c1,c2,c3,c4,c5⟩:=h
  have e1:∀ q,a.hpw ⟨tm,q⟩ (sx 0) dx=q:=fun q=>l_hpw (.inr ha)
  rw [e1] at c2 c3 c5
  have e2:xs.map (St.ev ⟨tm,a.hpw ⟨tm,hp⟩ (sx 0) dx⟩)=xs.map (St.ev ⟨tm,hp⟩):=List.map_congr_left fun o _=>ev_hp _ _ o
  refine ⟨m,ins,args,sh,R,c1,c2,c3,c4,fun outs rows res hR=>?_⟩
  obtain ⟨d1,d2,d3⟩:=c5 outs rows res hR
  have hl:=n_hp (tm:=tm) (hp:=hp) (hp':=callHp hp m dy sy outs []) (ver:=sx 0) (d:=dx) ha
  refine ⟨d1,d2,by rw [← hl.1];exact h1,?_⟩
  rw [e1,← hl.2];exact d3
mutual
theorem coe_gr {m:List Nat} (h:∀ r,hp r≠.gone→hp' r=hp r) {len:Bool}:∀ (B A:AVal),Coe hp m len B A→Coe hp' m len B A
  | .any,_,_=>by simp only [Coe]
  | .val x,A,h1=>by simpa only [Coe] using h1
  | .ro nm k cs,A,h1=>by
    simp only [Coe] at h1 ⊢
    obtain ⟨h1,h2,h3⟩:=h1
    refine ⟨?_,h2,?_⟩
    · rcases h1 with h1 | h1 | ⟨h1,h1',h5 | ⟨r,v,k',cs',rfl,h5⟩⟩
      · exact .inl h1
      · exact .inr (.inl h1)
      · exact .inr (.inr ⟨h1,h1',.inl h5⟩)
      · exact .inr (.inr ⟨h1,h1',.inr ⟨r,v,k',cs',rfl,by rw [h r (by rw [h5];simp)];exact h5⟩⟩)
    rcases h3 with ⟨nm',cs',rfl,h4⟩ | h3 | ⟨hl,r,v,nn,cs',rfl,h5,h6,h7⟩
    · exact .inl ⟨nm',cs',rfl,coeL_gr h cs cs' h4⟩
    · exact .inr (.inl h3)
    · exact .inr (.inr ⟨hl,r,v,nn,cs',rfl,h5,by rw [h r (by rw [h6];simp)];exact h6,coeL_gr h cs cs' h7⟩)
  | .own r v,A,h1=>by
    simp only [Coe] at h1 ⊢
    obtain ⟨j,r',v',h2,h3,h4,h5,h6⟩:=h1
    exact ⟨j,r',v',h2,h3,h4,h5,by rw [h r' (ver_ne_gone h6)];exact h6⟩
  | .st cs,A,h1=>by
    simp only [Coe] at h1 ⊢
    rcases h1 with ⟨cs',rfl,h4⟩ | ⟨vs,rfl,h4⟩
    · exact .inl ⟨cs',rfl,coeL_gr h cs cs' h4⟩
    · exact .inr ⟨vs,rfl,coeL_gr h cs _ h4⟩
  | .tup _,_,h1=>by simp only [Coe] at h1
  | .ptr r v off,A,h1=>by
    simp only [Coe] at h1 ⊢
    obtain ⟨j,r',v',h2,h3,h4,h5,h6⟩:=h1
    exact ⟨j,r',v',h2,h3,h4,h5,by rw [h r' (ver_ne_gone h6)];exact h6⟩
  | .rp cs off,A,h1=>by
    simp only [Coe] at h1 ⊢
    rcases h1 with ⟨cs',rfl,h4⟩ | ⟨hl,r,v,cs',rfl,h5,h6,h7⟩
    · exact .inl ⟨cs',rfl,coeL_gr h cs cs' h4⟩
    · exact .inr ⟨hl,r,v,cs',rfl,h5,by rw [h r (by rw [h6];simp)];exact h6,coeL_gr h cs cs' h7⟩
  | .mp r v,A,h1=>by
    simp only [Coe] at h1 ⊢
    obtain ⟨j,r',v',h2,h3,h4,h5,h6⟩:=h1
    exact ⟨j,r',v',h2,h3,h4,h5,by rw [h r' (ver_ne_gone h6)];exact h6⟩
  | .clo f caps,A,h1=>by
    simp only [Coe] at h1 ⊢
    obtain ⟨cs',rfl,h4⟩:=h1
    exact ⟨cs',rfl,coeL_gr h caps cs' h4⟩
theorem coeL_gr {m:List Nat} (h:∀ r,hp r≠.gone→hp' r=hp r) {len:Bool}:∀ (Bs As:List AVal),CoeL hp m len Bs As→CoeL hp' m len Bs As
  | [],_,h1=>by simpa only [CoeL] using h1
  | B :: Bs,As,h1=>by
    simp only [CoeL] at h1 ⊢
    obtain ⟨A,As',rfl,h2,h3⟩:=h1
    exact ⟨A,As',rfl,coe_gr h B A h2,coeL_gr h Bs As' h3⟩
end
theorem handed_gr {m:List Nat} (h:∀ r,hp r≠.gone→hp' r=hp r) {len:Bool} {ins:List AObj} (H:Handed hp m ins len):Handed hp' m ins len:=by
  refine ⟨H.short,H.length,H.nodup,fun r hr=>by rw [h r (H.live r hr)];exact H.live r hr,fun j B r hB hr=>?_⟩
  have h1:=H.objs j B r hB hr
  rw [h r (H.live r (List.mem_of_getElem? hr))]
  cases B with
  | gone=>exact h1
  | box v cs =>
    simp only [ObjCoe] at h1 ⊢
    obtain ⟨h2,v',cs',h3,h4⟩:=h1
    exact ⟨h2,v',cs',h3,coeL_gr h _ _ h4⟩
  | row v k nn cs =>
    simp only [ObjCoe] at h1 ⊢
    obtain ⟨h2,v',cs',h3,h4⟩:=h1
    exact ⟨h2,v',cs',h3,coeL_gr h _ _ h4⟩
  | map v ks vs =>
    simp only [ObjCoe] at h1 ⊢
    obtain ⟨h2,v',cs',h3,h4⟩:=h1
    exact ⟨h2,v',cs',h3,coeL_gr h _ _ h4⟩
  | it v d=>exact h1
theorem sv_updM {m:List Nat} {s:Nat→Nat} {d':Nat} {o:AObj} (hd:d' ∉ m):sv (upd hp d' o) m s=sv hp m s:=by
  funext v
  unfold sv
  split
  · rename_i hv
    have hm:m.getD v 0∈m:=by
      rw [List.getD_eq_getElem?_getD,List.getElem?_eq_getElem hv];exact List.getElem_mem hv
    have hne:m.getD v 0≠d':=fun e=>hd (e ▸ hm)
    unfold upd
    rw [if_neg hne]
  · rfl
theorem call_updM {m:List Nat} {d d':Nat} {s:Nat→Nat} {o:AObj} {outs:List AObj} (hd:d' ∉ m):callHp (upd hp d' o) m d s outs []=upd (callHp hp m d s outs []) d' o:=by
  funext n
  by_cases h:∃ q,rid m d ([]:List AObj).length q=some n
  · obtain ⟨q,hq⟩:=h
    have hne:n≠d':=by
      rcases rid_cases hq with ⟨j,_,_,h1⟩ | ⟨i,_,h1,_⟩
      · exact fun e=>hd (e ▸ List.mem_of_getElem? h1)
      · simp at h1
    unfold upd
    rw [if_neg hne]
    have e:=sv_updM (hp:=hp) (s:=s) (o:=o) hd
    unfold upd at e
    unfold callHp
    rw [dif_pos ⟨q,hq⟩,dif_pos ⟨q,hq⟩,e]
  · rw [callHp_not h]
    unfold upd
    by_cases e:n=d'
    · rw [if_pos e,if_pos e]
    · rw [if_neg e,if_neg e,callHp_not h]
theorem si_ca {nx:List Nat} {g:FuncId} {xs ys:List AOpd} {sx sy:Nat→Nat} {dx dy:Nat} {k:AVal→AVal→(Nat→AObj)→Prop} (hd:dy ∉ nx)
    (h:Si P sx dx tm hp (fun A q=>Si P sy dy tm q (k A) (.i (.bsl 1 false ys))) (.calm nx g xs)):Si P sy dy tm hp (fun B q=>Si P sx dx tm q (fun A q'=>k A B q') (.calm nx g xs)) (.i (.bsl 1 false ys)):=by
  obtain ⟨m,ins,args,sh,R,c1,c2,c3,⟨c4,o0,r0,z0,hR0⟩,c5⟩:=h
  have hdm:dy ∉ m:=fun e=>hd (c4 dy e)
  have e0:∀ q o,St.ev ⟨tm,q⟩ o=St.ev ⟨tm,hp⟩ o:=fun q o=>ev_hp _ _ o
  obtain ⟨_,_,f1,_⟩:=c5 o0 r0 z0 hR0
  have hpl:∀ x∈ys,∃ v,St.ev ⟨tm,hp⟩ x=.val v∧v.oneCell'=true:=by
    have h1:=f1.1 rfl
    simp only [if_true] at h1
    intro x hx
    have:=h1 x hx
    rwa [e0] at this
  have hoff:=callHp_off (hp:=hp) (d:=dx) (s:=sx) (outs:=o0) c4 dy hd
  have hg:hp dy=.gone:=by rw [← hoff];exact f1.2.1
  obtain ⟨C,hC⟩:∃ C,C=ys.flatMap fun x=>(St.ev ⟨tm,hp⟩ x).cells:=⟨_,rfl⟩
  have hfl:∀ q,(ys.flatMap fun x=>(St.ev ⟨tm,q⟩ x).cells)=C:=fun q=>by rw [hC];congr 1
  have hval:∀ A∈C,∃ v,A=.val v:=by
    intro A hA
    rw [hC] at hA
    obtain ⟨x,hx,hA⟩:=List.mem_flatMap.1 hA
    obtain ⟨v,hv,hv1⟩:=hpl x hx
    rw [hv,one_cells hv1] at hA
    exact ⟨v,by simpa using hA⟩
  have hown:owned C=[]:=by
    have gen:∀ l:List AVal,(∀ A∈l,∃ v,A=.val v)→owned l=[]:=by
      intro l
      induction l with
      | nil=>intro _;rfl
      | cons A l ih =>
        intro hl
        obtain ⟨v,rfl⟩:=hl A (by simp)
        exact ih fun B hB=>hl B (by simp [hB])
    exact gen C hval
  have hfz:∀ q,C.map (frz q)=C:=by
    intro q
    have gen:∀ l:List AVal,(∀ A∈l,∃ v,A=.val v)→l.map (frz q)=l:=by
      intro l
      induction l with
      | nil=>intro _;rfl
      | cons A l ih =>
        intro hl
        obtain ⟨v,rfl⟩:=hl A (by simp)
        rw [List.map_cons,ih fun B hB=>hl B (by simp [hB])];rfl
    exact gen C hval
  have hpre:∀ q:Nat→AObj,q dy=.gone→AI.pre ⟨tm,q⟩ dy (.bsl 1 false ys):=by
    intro q hq
    refine ⟨fun _=>by simp only [if_true];intro x hx;rw [e0];exact hpl x hx,hq,fun x hx=>?_,?_⟩
    · obtain ⟨v,hv,hv1⟩:=hpl x hx
      rw [e0,hv,one_cells hv1]
      refine ⟨rfl,fun A hA=>?_⟩
      obtain rfl:A=.val v:=by simpa using hA
      exact hv1
    · rw [hfl,hown];exact List.nodup_nil
  have hw:∀ q:Nat→AObj,AI.hpw ⟨tm,q⟩ (sy 0) dy (.bsl 1 false ys)=upd q dy (.row (sy 0) 1 true C):=by
    intro q
    funext n
    simp only [AI.hpw]
    rw [hfl,hown,hfz]
    unfold upd
    simp
  refine ⟨hpre hp hg,?_⟩
  rw [hw]
  have hgr:∀ r,hp r≠.gone→upd hp dy (.row (sy 0) 1 true C) r=hp r:=by
    intro r hr
    unfold upd
    rw [if_neg fun e=>hr (by rw [e];exact hg)]
  have e2:∀ q,xs.map (St.ev ⟨tm,q⟩)=xs.map (St.ev ⟨tm,hp⟩):=fun q=>List.map_congr_left fun o _=>e0 q o
  refine ⟨m,ins,args,sh,R,c1,handed_gr hgr c2,?_,⟨c4,o0,r0,z0,hR0⟩,fun outs rows res hR=>?_⟩
  · rw [e2];exact coeL_gr hgr _ _ c3
  · obtain ⟨d1,d2,d3,d4⟩:=c5 outs rows res hR
    refine ⟨d1,d2,?_⟩
    rw [hw] at d4
    rw [sv_updM hdm,call_updM hdm]
    exact d4
end
end Go.Ab
namespace Go.Ab
def AOp.rds (o:AOp):List Nat:=(o.ins.opds.filterMap fun | .t n=>some n | _=>none) ++ (match o.grd with | some (t,_)=>[t] | none=>[])
def To (P:Program) (s:Nat→Nat) (d:Nat) (tm:Nat→AVal) (hp:Nat→AObj) (k:AVal→(Nat→AObj)→Prop) (o:AOp):Prop :=
  match o.grd with
  | none=>Si P s d tm hp k o.ins
  | some (t,want)=>match tm t with
    | .val (.bool b)=>(b=want→Si P s d tm hp k o.ins)∧(b≠want→k (.val (.tuple #[])) hp)
    | .val (.tuple _)=>k (.val (.tuple #[])) hp
    | _=>False
def isLN:Cl→Bool
  | .l | .n=>true
  | _=>false
def notX:Cl→Bool
  | .x=>false
  | .m=>false
  | _=>true
def isBx:AIns→Bool
  | .i x=>x.bx
  | _=>false
def isWB:Cl→Bool
  | .w | .b=>true
  | _=>false
def isSp:AIns→AOp→Bool
  | .i x,y=>(match y.ins with | .i z=>spB x y.dst z | _=>false)
  | _,_=>false
def isWBM:Cl→Bool
  | .w | .b | .m=>true
  | _=>false
def isBn:AIns→AOp→Bool
  | .i (.bsln nos _ _),y=>y.ins.cl == .a && (match y.dst with | some d=>nos.contains d | none=>false)
  | _,_=>false
def AOp.er (o:AOp):AOp:={ o with ins:=o.ins.er }
def commE (x y:AOp):Bool :=
  (commC x.ins.cl y.ins.cl || (isBx x.ins && isWBM y.ins.cl) || isBn x.ins y || isSp x.ins y) && notX x.ins.cl && (match x.dst with | some d=>!y.rds.contains d && y.dst != some d | none=>true) && (match y.dst with | some d=>!x.rds.contains d | none=>true) &&
  (isLN x.ins.cl || (isLN y.ins.cl || y.ins.cl == .m) || (match x.dst,y.dst with | some a,some b=>decide (a<1000) && decide (b<1000) | _,_=>false)) && (!isH x.ins && !isH y.ins)
def commA (x y:AOp):Bool:=commE x.er y.er && (!isM x.ins && !isM y.ins)
def commM (x y:AOp):Bool :=
  (match x.ins,y.ins with
    | .r nx a,.calm ny _ _=>okR a && ny.all fun r=>nx.contains r
    | .calm nx _ _,.r ny b=>okR b && nx.all fun r=>ny.contains r
    | .i a,.calm _ _ _=>a.cl == .n
    | .calm nx _ _,.i (.bsl 1 false _)=>(match y.dst with | some d=>!nx.contains d | none=>false)
    | _,_=>false) && (match x.dst with | some d=>!y.rds.contains d && y.dst != some d | none=>true) && (match y.dst with | some d=>!x.rds.contains d | none=>true)
def commN (x y:AOp):Bool :=
  y.ins.cl == .n && (match x.dst with | some d=>!y.rds.contains d && y.dst != some d | none=>true) && (match y.dst with | some d=>!x.rds.contains d | none=>true) && (!isH x.ins && !isH y.ins)
def comm (x y:AOp):Bool:=(commA x y || commM x y) || commN x y
section
variable {P:Program} {U:Nat→Prop} {hp hp':Nat→AObj} {tm:Nat→AVal}
theorem wpOp_iff {σ:St} {s:Nat→Nat} {K:St→Prop} {o:AOp} (hn:isH o.ins=false) :
    Ab.wpOp false (wpCk P true) s o σ K↔To P s (o.dst.getD 0) σ.tm σ.hp (fun A q=>K (St.put ⟨σ.tm,q⟩ o.dst A)) o:=by
  unfold Ab.wpOp To
  cases o.grd with
  | none=>exact wpIns_iff hn
  | some g =>
    obtain ⟨t,want⟩:=g
    simp only []
    cases h:σ.tm t with
    | val v =>
      cases v with
      | bool b=>simp only [wpIns_iff hn]
      | tuple _=>exact Iff.rfl
      | _=>simp
    | _=>simp
theorem to_mono {s:Nat→Nat} {d:Nat} {k k':AVal→(Nat→AObj)→Prop} {o:AOp} (h:∀ A q,k A q→k' A q) (hh:To P s d tm hp k o):To P s d tm hp k' o:=by
  unfold To at hh ⊢
  split
  · rename_i hg;simp only [hg] at hh;exact si_mono h hh
  · rename_i t w hg
    simp only [hg] at hh
    split at hh
    · rename_i b hb
      exact ⟨fun e=>si_mono h (hh.1 e),fun e=>h _ _ (hh.2 e)⟩
    · exact h _ _ hh
    · exact hh.elim
theorem si_tm {tm':Nat→AVal} {s:Nat→Nat} {d:Nat} {k:AVal→(Nat→AObj)→Prop} {y:AIns} (h:∀ o∈y.opds,St.ev ⟨tm,hp⟩ o=St.ev ⟨tm',hp⟩ o):Si P s d tm hp k y↔Si P s d tm' hp k y:=by
  cases y with
  | i x =>
    obtain ⟨h1,h2,h3⟩:=i_tm (ver:=s 0) (d:=d) h
    simp only [Si,h1,h2,h3]
  | call g xs =>
    have:xs.map (St.ev ⟨tm,hp⟩)=xs.map (St.ev ⟨tm',hp⟩):=List.map_congr_left h
    simp only [Si,this];exact Iff.rfl
  | calv f xs =>
    have h1:xs.map (St.ev ⟨tm,hp⟩)=xs.map (St.ev ⟨tm',hp⟩):=List.map_congr_left fun o ho=>h o (by simp [AIns.opds,ho])
    have h2:=h f (by simp [AIns.opds])
    simp only [Si,h1,h2];exact Iff.rfl
  | calh g xs=>exact Iff.rfl
  | it k y=>exact Iff.rfl
  | calvh f xs=>exact Iff.rfl
  | calm nos g xs =>
    have:xs.map (St.ev ⟨tm,hp⟩)=xs.map (St.ev ⟨tm',hp⟩):=List.map_congr_left h
    simp only [Si,this];exact Iff.rfl
  | r nos x =>
    obtain ⟨h1,h2,h3⟩:=i_tm (ver:=s 0) (d:=d) h
    have h4:(∀ o∈x.opds,free nos (St.ev ⟨tm,hp⟩ o))↔∀ o∈x.opds,free nos (St.ev ⟨tm',hp⟩ o):=by
      constructor <;> intro hh o ho
      · rw [← h o ho];exact hh o ho
      · rw [h o ho];exact hh o ho
    simp only [Si,h1,h2,h3,h4]
theorem rds_ev {o:AOp} {tm':Nat→AVal} (h:∀ t∈o.rds,tm t=tm' t):∀ x∈o.ins.opds,St.ev ⟨tm,hp⟩ x=St.ev ⟨tm',hp⟩ x:=by
  intro x hx
  cases x with
  | t n =>
    refine h n ?_
    simp only [AOp.rds,List.mem_append,List.mem_filterMap]
    exact .inl ⟨.t n,hx,rfl⟩
  | _=>rfl
theorem rds_grd {o:AOp} {t:Nat} {w:Bool} (hg:o.grd=some (t,w)):t∈o.rds:=by
  simp [AOp.rds,hg]
theorem to_tm {tm':Nat→AVal} {s:Nat→Nat} {d:Nat} {k:AVal→(Nat→AObj)→Prop} {o:AOp} (h:∀ t∈o.rds,tm t=tm' t):To P s d tm hp k o↔To P s d tm' hp k o:=by
  have h1:=si_tm (P:=P) (s:=s) (d:=d) (k:=k) (rds_ev (hp:=hp) h)
  unfold To
  cases hg:o.grd with
  | none=>exact h1
  | some g =>
    obtain ⟨t,w⟩:=g
    simp only [h t (rds_grd hg),h1]
theorem to_old {s:Nat→Nat} {d:Nat} {k:AVal→(Nat→AObj)→Prop} {o:AOp} (hmm:isM o.ins=false) (hs:∀ j,¬ U (s j)) (hy:o.ins.cl≠.x∧o.ins.cl≠.m) (h:To P s d tm hp k o):To P s d tm hp (fun A q=>k A q∧Old U hp q) o:=by
  unfold To at h ⊢
  cases hg:o.grd with
  | none=>simp only [hg] at h ⊢;exact si_old hmm hs hy h
  | some g =>
    obtain ⟨t,w⟩:=g
    simp only [hg] at h ⊢
    split at h
    · rename_i b hb
      exact ⟨fun e=>si_old hmm hs hy (h.1 e),fun e=>⟨h.2 e,fun _ _ _ _=>rfl⟩⟩
    · exact ⟨h,fun _ _ _ _=>rfl⟩
    · exact h.elim
structure Inv (U:Nat→Prop) (tm:Nat→AVal) (hp:Nat→AObj) (y:AOp):Prop where
  tm:∀ t∈y.rds,(tm t).uses U
  hp:y.ins.cl=.c→isM y.ins=false→∀ r v,U v→(hp r).ver=some v→(hp r).uses U
theorem Inv.ev {y:AOp} (h:Inv U tm hp y):∀ o∈y.ins.opds,(St.ev ⟨tm,hp⟩ o).uses U:=by
  intro o ho
  cases o with
  | t n =>
    refine h.tm n ?_
    simp only [AOp.rds,List.mem_append,List.mem_filterMap]
    exact .inl ⟨.t n,ho,rfl⟩
  | c v=>simp [St.ev,AVal.uses]
  | f g=>simp [St.ev,AVal.uses,usesL]
theorem to_some {s:Nat→Nat} {d:Nat} {k:AVal→(Nat→AObj)→Prop} {o:AOp} (h:To P s d tm hp k o):∃ A q,k A q:=by
  unfold To at h
  cases hg:o.grd with
  | none=>simp only [hg] at h;exact si_some h
  | some g =>
    obtain ⟨t,w⟩:=g
    simp only [hg] at h
    split at h
    · rename_i b hb
      by_cases e:b=w
      · exact si_some (h.1 e)
      · exact ⟨_,_,h.2 e⟩
    · exact ⟨_,_,h⟩
    · exact h.elim
theorem er_swap {xi yi:AIns} {dx dy:Option Nat} {sx sy:Nat→Nat} (hrx:isR xi=false∧isM xi=false) (hry:isR yi=false∧isM yi=false)
    (hcc:((commC xi.cl yi.cl=true∨(isBx xi=true∧isWBM yi.cl=true))∨isBn xi ⟨dy,none,yi⟩=true)∨isSp xi ⟨dy,none,yi⟩=true)
    (hd:(dx.getD 0≠dy.getD 0∧dx.getD 0<1000∧dy.getD 0<1000)∨xi.cl=.n∨yi.cl=.n∨xi.cl=.l∨yi.cl=.l∨yi.cl=.m)
    (hev:∀ o∈yi.opds,(St.ev ⟨tm,hp⟩ o).uses U) (hhp:yi.cl=.c→∀ r v,U v→(hp r).ver=some v→(hp r).uses U) (hsx:∀ j,¬ U (sx j)) {k:AVal→AVal→(Nat→AObj)→Prop}
    (h:Si P sx (dx.getD 0) tm hp (fun A q=>Si P sy (dy.getD 0) tm q (k A) yi) xi):Si P sy (dy.getD 0) tm hp (fun B q=>Si P sx (dx.getD 0) tm q (fun A q'=>k A B q') xi) yi:=by
  rcases hcc with ((hcc | ⟨hb,hw⟩) | hbn) | hsp
  · exact si_swap hrx hry hcc hev hhp hsx hd h
  · cases xi with
    | i x'=>exact si_bx hry.1 hb (by cases hy:yi.cl <;> simp [isWBM,hy] at hw <;> simp) h
    | _=>simp [isBx] at hb
  · cases xi with
    | i x' =>
      cases x' with
      | bsln nos kk xs =>
        simp only [isBn,Bool.and_eq_true] at hbn
        obtain ⟨h1,h2⟩:=hbn
        have hya:yi.cl=.a:=by simpa using h1
        have hne:dx.getD 0≠dy.getD 0:=by
          rcases hd with h | h | h | h | h | h
          · exact h.1
          · cases h
          · rw [hya] at h;cases h
          · cases h
          · rw [hya] at h;cases h
          · rw [hya] at h;cases h
        refine si_bn hry.1 hya ?_ hne h
        cases dy with
        | some d=>simpa using h2
        | none=>cases h2
      | _=>simp [isBn] at hbn
    | _=>simp [isBn] at hbn
  · cases xi with
    | i x' =>
      cases yi with
      | i y' =>
        simp only [isSp] at hsp
        exact si_sp hsp hev hsx h
      | _=>simp [isSp] at hsp
    | _=>simp [isSp] at hsp
theorem ins_swap {x y:AOp} {sx sy:Nat→Nat} (hc:(commA x y || commM x y)=true) (hI:Inv U tm hp y) (hsx:∀ j,¬ U (sx j)) {k:AVal→AVal→(Nat→AObj)→Prop}
    (h:Si P sx (x.dst.getD 0) tm hp (fun A q=>Si P sy (y.dst.getD 0) tm q (k A) y.ins) x.ins):Si P sy (y.dst.getD 0) tm hp (fun B q=>Si P sx (x.dst.getD 0) tm q (fun A q'=>k A B q') x.ins) y.ins:=by
  rw [Bool.or_eq_true] at hc
  rcases hc with hc | hc
  · simp only [commA,Bool.and_eq_true,Bool.not_eq_true'] at hc
    obtain ⟨hc,hmx,hmy⟩:=hc
    have hcc:((commC x.ins.er.cl y.ins.er.cl=true∨(isBx x.ins.er=true∧isWBM y.ins.er.cl=true))∨isBn x.ins.er y.er=true)∨isSp x.ins.er y.er=true:=by
      simp only [commE,Bool.and_eq_true,Bool.or_eq_true] at hc;exact hc.1.1.1.1.1
    have hd:(x.dst.getD 0≠y.dst.getD 0∧x.dst.getD 0<1000∧y.dst.getD 0<1000)∨x.ins.er.cl=.n∨y.ins.er.cl=.n∨x.ins.er.cl=.l∨y.ins.er.cl=.l∨y.ins.er.cl=.m:=by
      simp only [commE,Bool.and_eq_true,Bool.or_eq_true,beq_iff_eq] at hc
      obtain ⟨⟨⟨⟨_,h1⟩,_⟩,h2⟩,_⟩:=hc
      have e1:x.er.ins=x.ins.er:=rfl
      have e2:y.er.ins=y.ins.er:=rfl
      have e3:x.er.dst=x.dst:=rfl
      have e4:y.er.dst=y.dst:=rfl
      rw [e1,e2,e3,e4] at h2
      rw [e3,e4] at h1
      rcases h2 with (h2 | h2) | h2
      · cases hx:x.ins.er.cl <;> simp [hx,isLN] at h2 ⊢
      · rcases h2 with h2 | h2
        · cases hx:y.ins.er.cl <;> simp [hx,isLN] at h2 ⊢
        · simp [h2]
      · left
        split at h2
        · rename_i a b ha hb
          rw [ha,hb] at h1
          simp only [Bool.and_eq_true,decide_eq_true_eq,bne_iff_ne,ne_eq,Option.some.injEq] at h1 h2
          rw [ha,hb]
          exact ⟨fun e=>h1.2 e.symm,h2⟩
        · cases h2
    have h1:=si_er.1 h
    obtain ⟨A,q,hy⟩:=si_some h
    have hfy:=(si_er.1 hy).1
    have eb:∀ z,isBn z y.er=isBn z ⟨y.dst,none,y.ins.er⟩:=fun z=>by
      cases z with
      | i a=>cases a <;> rfl
      | _=>rfl
    have es:∀ z,isSp z y.er=isSp z ⟨y.dst,none,y.ins.er⟩:=fun z=>by cases z <;> rfl
    rw [eb,es] at hcc
    have h2:=er_swap (dx:=x.dst) (dy:=y.dst) ⟨er_r _,(er_m _).trans hmx⟩ ⟨er_r _,(er_m _).trans hmy⟩ hcc hd (by rw [er_opds];exact hI.ev) (fun e=>hI.hp (by rw [er_cl] at e;exact e) hmy) hsx (k:=k) (si_mono (fun A q hq=>(si_er.1 hq).2) h1.2)
    exact si_er.2 ⟨hfy,si_mono (fun B q hq=>si_er.2 ⟨h1.1,hq⟩) h2⟩
  · simp only [commM,Bool.and_eq_true] at hc
    obtain ⟨⟨hc,_⟩,_⟩:=hc
    split at hc
    · rename_i nx a ny g xs hx hy
      rw [hx,hy] at h
      rw [hx,hy]
      rw [Bool.and_eq_true] at hc
      exact si_rc hc.1 (fun r hr=>by simpa using List.all_eq_true.1 hc.2 r hr) h
    · rename_i nx g xs ny b hx hy
      rw [hx,hy] at h
      rw [hx,hy]
      rw [Bool.and_eq_true] at hc
      exact si_cr hc.1 (fun r hr=>by simpa using List.all_eq_true.1 hc.2 r hr) h
    · rename_i a ny g xs hx hy
      rw [hx,hy] at h
      rw [hx,hy]
      exact si_nc (by simpa using hc) h
    · rename_i nx g xs ys hx hy
      rw [hx,hy] at h
      rw [hx,hy]
      split at hc
      · rename_i d hd
        rw [hd] at h ⊢
        exact si_ca (by simpa using hc) h
      · cases hc
    · cases hc
theorem to_swap {x y:AOp} {sx sy:Nat→Nat} {k:AVal→AVal→(Nat→AObj)→Prop} (hc:(commA x y || commM x y)=true) (hI:Inv U tm hp y) (hsx:∀ j,¬ U (sx j))
    (h:To P sx (x.dst.getD 0) tm hp (fun A q=>To P sy (y.dst.getD 0) tm q (k A) y) x):To P sy (y.dst.getD 0) tm hp (fun B q=>To P sx (x.dst.getD 0) tm q (fun A q'=>k A B q') x) y:=by
  have hss:∀ {k:AVal→AVal→(Nat→AObj)→Prop},Si P sx (x.dst.getD 0) tm hp (fun A q=>Si P sy (y.dst.getD 0) tm q (k A) y.ins) x.ins →
      Si P sy (y.dst.getD 0) tm hp (fun B q=>Si P sx (x.dst.getD 0) tm q (fun A q'=>k A B q') x.ins) y.ins:=fun h=>ins_swap hc hI hsx h
  have hy:(y.grd=none)∨∃ t w b,y.grd=some (t,w)∧tm t=.val b∧((∃ u,b=.bool u)∨∃ u,b=.tuple u):=by
    cases hg:y.grd with
    | none=>exact .inl rfl
    | some g =>
      obtain ⟨t,w⟩:=g
      obtain ⟨A,q,h1⟩:=to_some h
      unfold To at h1
      simp only [hg] at h1
      split at h1
      · rename_i b hb;exact .inr ⟨t,w,.bool b,rfl,hb,.inl ⟨b,rfl⟩⟩
      · rename_i b hb;exact .inr ⟨t,w,.tuple b,rfl,hb,.inr ⟨b,rfl⟩⟩
      · exact h1.elim
  have hx:(x.grd=none)∨∃ t w b,x.grd=some (t,w)∧tm t=.val b∧((∃ u,b=.bool u)∨∃ u,b=.tuple u):=by
    cases hg:x.grd with
    | none=>exact .inl rfl
    | some g =>
      obtain ⟨t,w⟩:=g
      have h1:=h
      unfold To at h1
      simp only [hg] at h1
      split at h1
      · rename_i b hb;exact .inr ⟨t,w,.bool b,rfl,hb,.inl ⟨b,rfl⟩⟩
      · rename_i b hb;exact .inr ⟨t,w,.tuple b,rfl,hb,.inr ⟨b,rfl⟩⟩
      · exact h1.elim
  have run:∀ (o:AOp),((o.grd=none)∨∃ t w b,o.grd=some (t,w)∧tm t=.val b∧((∃ u,b=.bool u)∨∃ u,b=.tuple u)) →
      (∀ s d q k,To P s d tm q k o↔Si P s d tm q k o.ins)∨(∀ s d q k,To P s d tm q k o↔k (.val (.tuple #[])) q):=by
    intro o ho
    rcases ho with ho | ⟨t,w,b,ho,hb,⟨b,rfl⟩ | ⟨b,rfl⟩⟩
    · left;intro s d q k;unfold To;rw [ho]
    · by_cases e:b=w
      · left;intro s d q k;unfold To;rw [ho];simp [hb,e]
      · right;intro s d q k;unfold To;rw [ho];simp [hb,e]
    · right;intro s d q k;unfold To;rw [ho];simp [hb]
  rcases run x hx with rx | rx <;> rcases run y hy with ry | ry
  · rw [ry]
    refine si_mono (fun B q hq=>(rx _ _ _ _).2 hq) (hss (k:=k) ?_)
    exact si_mono (fun A q hq=>(ry _ _ _ _).1 hq) ((rx _ _ _ _).1 h)
  · rw [ry,rx]
    exact si_mono (fun A q hq=>(ry _ _ _ _).1 hq) ((rx _ _ _ _).1 h)
  · rw [rx] at h
    exact to_mono (fun B q hq=>(rx _ _ _ _).2 hq) h
  · rw [ry,rx]
    rw [rx,ry] at h
    exact h
theorem wpIt_mono {ver:Nat} {d:Option Nat} {σ:St} {K K':St→Prop} (h:∀ σ,K σ→K' σ) {k:Nat} {A:AVal} (hh:wpIt ver d σ K k A):wpIt ver d σ K' k A:=by
  unfold wpIt at hh ⊢
  split at hh
  · split at hh
    · exact ⟨hh.1,hh.2.1,h _ hh.2.2⟩
    · exact hh.elim
  · split at hh
    · exact ⟨hh.1,fun e=>h _ (hh.2.1 e),fun j k A e1 e2=>h _ (hh.2.2 j k A e1 e2)⟩
    · exact hh.elim
  · split at hh
    · exact ⟨hh.1,h _ hh.2⟩
    · exact hh.elim
  · exact hh.elim
theorem wpIns_monoX {P:Program} {fa pu:Bool} {s:Nat→Nat} {d:Option Nat} {σ:St} {K K':St→Prop} {y:AIns} (h:∀ σ,K σ→K' σ) (hh:Ab.wpIns fa (wpCk P pu) s d σ K y):Ab.wpIns fa (wpCk P pu) s d σ K' y:=by
  have hc:∀ pu g As,wpCall P pu σ g As d s K→wpCall P pu σ g As d s K':=by
    rintro pu g As (⟨m,ins,args,sh,R,h1,h2,h3,h4,h5⟩ | ⟨hp,p,args,Q,h1,h2,h3⟩)
    · exact .inl ⟨m,ins,args,sh,R,h1,h2,h3,h4,fun outs rows res hR=>⟨(h5 outs rows res hR).1,(h5 outs rows res hR).2.1,(h5 outs rows res hR).2.2.1,h _ (h5 outs rows res hR).2.2.2⟩⟩
    · exact .inr ⟨hp,p,args,Q,h1,h2,fun v hv=>h _ (h3 v hv)⟩
  cases y with
  | i x=>exact ⟨hh.1,fun hf=>h _ (hh.2 hf)⟩
  | call g xs=>exact hc _ _ _ hh
  | calh g xs=>exact hc _ _ _ hh
  | it k y=>exact wpIt_mono h hh
  | calvh f xs =>
    simp only [Ab.wpIns] at hh ⊢
    split at hh
    · exact hc _ _ _ hh
    · exact hh.elim
  | calm nos g xs =>
    obtain ⟨m,ins,args,sh,R,h1,h2,h3,h4,h5⟩:=hh
    exact ⟨m,ins,args,sh,R,h1,h2,h3,h4,fun outs rows res hR=>⟨(h5 outs rows res hR).1,(h5 outs rows res hR).2.1,h _ (h5 outs rows res hR).2.2⟩⟩
  | r nos x=>exact ⟨hh.1,hh.2.1,fun hf=>h _ (hh.2.2 hf)⟩
  | calv f xs =>
    simp only [Ab.wpIns] at hh ⊢
    split at hh
    · exact hc _ _ _ hh
    · exact hh.elim
theorem wpOp_monoX {P:Program} {fa pu:Bool} {s:Nat→Nat} {o:AOp} {σ:St} {K K':St→Prop} (h:∀ σ,K σ→K' σ) (hh:Ab.wpOp fa (wpCk P pu) s o σ K):Ab.wpOp fa (wpCk P pu) s o σ K':=by
  unfold Ab.wpOp at hh ⊢
  split
  · rename_i hg;simp only [hg] at hh;exact wpIns_monoX h hh
  · rename_i t w hg
    simp only [hg] at hh
    split at hh
    · exact ⟨fun e=>wpIns_monoX h (hh.1 e),fun e=>h _ (hh.2 e)⟩
    · exact h _ hh
    · exact hh.elim
def wpL (P:Program) (vs:Nat→Nat→Nat):List (Nat×AOp)→St→(St→Prop)→Prop
  | [],σ,K=>K σ
  | (i,o) :: os,σ,K=>if isH o.ins=true then Ab.wpOp false (wpCk P true) (vs i) o σ (fun σ'=>wpL P vs os σ' K) else To P (vs i) (o.dst.getD 0) σ.tm σ.hp (fun A q=>wpL P vs os (St.put ⟨σ.tm,q⟩ o.dst A) K) o
theorem wpL_of {vs:Nat→Nat→Nat} {K:St→Prop}:∀ (xs:List AOp) (i:Nat) (σ:St),Ab.wpOps false (wpCk P true) vs i xs σ K→wpL P vs (enum i xs) σ K
  | [],_,_,h=>h
  | x :: xs,i,σ,h=>by
    simp only [enum,wpL]
    cases hx:isH x.ins with
    | true=>rw [if_pos rfl];exact wpOp_monoX (fun σ' hq=>wpL_of xs (i+1) σ' hq) h
    | false=>rw [if_neg (by simp)];exact to_mono (fun A q hq=>wpL_of xs (i+1) _ hq) ((wpOp_iff hx).1 h)
theorem put_tm {σ:St} {dst:Option Nat} {A:AVal} {t:Nat} (h:∀ d,dst=some d→t≠d):(St.put σ dst A).tm t=σ.tm t:=by
  cases dst with
  | none=>rfl
  | some d=>simp only [St.put];rw [if_neg (h d rfl)]
theorem put_hp {σ:St} {dst:Option Nat} {A:AVal}:(St.put σ dst A).hp=σ.hp:=by cases dst <;> rfl
theorem put_comm {q1 q2 q':Nat→AObj} {dx dy:Option Nat} {A B:AVal} (h:∀ d,dx=some d→dy≠some d) :
    St.put ⟨(St.put ⟨tm,q1⟩ dx A).tm,q'⟩ dy B=St.put ⟨(St.put ⟨tm,q2⟩ dy B).tm,q'⟩ dx A:=by
  cases dx with
  | none=>cases dy <;> rfl
  | some a =>
    cases dy with
    | none=>rfl
    | some b =>
      have hne:a≠b:=fun e=>h a rfl (by rw [e])
      simp only [St.put]
      congr 1
      funext n
      by_cases e1:n=b
      · subst e1
        rw [if_pos rfl,if_neg (Ne.symm hne),if_pos rfl]
      · rw [if_neg e1]
        by_cases e2:n=a
        · rw [if_pos e2,if_pos e2]
        · rw [if_neg e2,if_neg e2,if_neg e1]
theorem pullA {vs:Nat→Nat→Nat} {y:AOp} {j:Nat} {post:List (Nat×AOp)} {K:St→Prop}:∀ (pre:List (Nat×AOp)) (σ:St),(∀ p∈pre,(commA p.2 y || commM p.2 y)=true∧∀ i,¬ U (vs p.1 i))→Inv U σ.tm σ.hp y →
    wpL P vs (pre ++ (j,y) :: post) σ K→wpL P vs ((j,y) :: (pre ++ post)) σ K
  | [],_,_,_,h=>h
  | (i,x) :: pre,σ,hpre,hI,h=>by
    obtain ⟨hc,hn⟩:=hpre (i,x) (by simp)
    simp only [] at hc hn
    have hcc:(isH x.ins=false∧isH y.ins=false)∧(x.ins.cl≠.x∧x.ins.cl≠.m)∧(isM x.ins=true→isM y.ins=true∨y.ins.cl≠.c) ∧
        (match x.dst with | some d=>!y.rds.contains d && y.dst != some d | none=>true)=true∧(match y.dst with | some d=>!x.rds.contains d | none=>true)=true:=by
      have hc2:=hc
      rw [Bool.or_eq_true] at hc2
      rcases hc2 with hc2 | hc2
      · simp only [commA,commE,Bool.and_eq_true,Bool.not_eq_true'] at hc2
        obtain ⟨⟨⟨⟨⟨⟨_,hx⟩,h1⟩,h2⟩,_⟩,hHx,hHy⟩,hmx,hmy⟩:=hc2
        have er:∀ o:AOp,o.er.rds=o.rds:=fun o=>by simp only [AOp.rds,AOp.er,er_opds]
        have eh:∀ z:AIns,isH z.er=isH z:=fun z=>by cases z <;> rfl
        rw [show x.er.ins=x.ins.er from rfl,eh] at hHx
        rw [show y.er.ins=y.ins.er from rfl,eh] at hHy
        rw [show x.er.ins=x.ins.er from rfl,er_cl] at hx
        rw [er] at h1 h2
        refine ⟨⟨hHx,hHy⟩,by constructor <;> (intro e;rw [e] at hx;simp [notX] at hx),(fun e=>by rw [hmx] at e;cases e),h1,h2⟩
      · simp only [commM,Bool.and_eq_true] at hc2
        obtain ⟨⟨hc2,h1⟩,h2⟩:=hc2
        split at hc2
        · rename_i nx a ny g xs hx hy
          rw [Bool.and_eq_true] at hc2
          have:=okR_l hc2.1
          rw [hx,hy]
          exact ⟨⟨rfl,rfl⟩,by simp [AIns.cl,this],fun e=>(by cases e),h1,h2⟩
        · rename_i nx g xs ny b hx hy
          rw [Bool.and_eq_true] at hc2
          have:=okR_l hc2.1
          rw [hx,hy]
          exact ⟨⟨rfl,rfl⟩,by simp [AIns.cl],fun _=>.inr (by simp [AIns.cl,this]),h1,h2⟩
        · rename_i a ny g xs hx hy
          have:a.cl=.n:=by simpa using hc2
          rw [hx,hy]
          exact ⟨⟨rfl,rfl⟩,by simp [AIns.cl,this],fun e=>(by cases e),h1,h2⟩
        · rename_i nx g xs ys hx hy
          rw [hx,hy]
          exact ⟨⟨rfl,rfl⟩,by simp [AIns.cl],fun _=>.inr (by simp [AIns.cl,AI.cl]),h1,h2⟩
        · cases hc2
    obtain ⟨⟨hHx,hHy⟩,hxx,hmc,h1,h2⟩:=hcc
    simp only [List.cons_append,wpL,hHx,Bool.false_eq_true,if_false] at h
    have hd1:∀ d,x.dst=some d→d ∉ y.rds∧y.dst≠some d:=by
      intro d e
      rw [e] at h1
      simpa using h1
    have hd2:∀ d,y.dst=some d→d ∉ x.rds:=by
      intro d e
      rw [e] at h2
      simpa using h2
    have h3:To P (vs i) (x.dst.getD 0) σ.tm σ.hp (fun A q=>wpL P vs (pre ++ (j,y) :: post) (St.put ⟨σ.tm,q⟩ x.dst A) K∧(y.ins.cl=.c→isM y.ins=false→Old U σ.hp q)) x:=by
      cases hmx:isM x.ins with
      | false=>exact to_mono (fun A q hq=>⟨hq.1,fun _ _=>hq.2⟩) (to_old hmx hn hxx h)
      | true =>
        refine to_mono (fun A q hq=>⟨hq,fun e1 e2=>?_⟩) h
        rcases hmc hmx with e | e
        · rw [e2] at e;cases e
        · exact absurd e1 e
    have h4:To P (vs i) (x.dst.getD 0) σ.tm σ.hp (fun A q=>To P (vs j) (y.dst.getD 0) σ.tm q (fun B q'=>wpL P vs (pre ++ post) (St.put ⟨(St.put ⟨σ.tm,q⟩ x.dst A).tm,q'⟩ y.dst B) K) y) x:=by
      refine to_mono (fun A q hq=>?_) h3
      obtain ⟨hq,ho⟩:=hq
      have htm:∀ t∈y.rds,(St.put ⟨σ.tm,q⟩ x.dst A).tm t=σ.tm t:=fun t ht=>put_tm fun d e he=>(hd1 d e).1 (he ▸ ht)
      have hI':Inv U (St.put ⟨σ.tm,q⟩ x.dst A).tm (St.put ⟨σ.tm,q⟩ x.dst A).hp y:=by
        refine ⟨fun t ht=>by rw [htm t ht];exact hI.tm t ht,fun e1 e2 r v hu hv=>?_⟩
        rw [put_hp] at hv ⊢
        have hv:(q r).ver=some v:=hv
        show (q r).uses U
        have h5:=ho e1 e2 r v hu hv
        rw [← h5] at hv
        have h6:=hI.hp e1 e2 r v hu hv
        rw [h5] at h6;exact h6
      have h7:=pullA pre _ (fun p hp=>hpre p (by simp [hp])) hI' hq
      simp only [wpL,hHy,Bool.false_eq_true,if_false] at h7
      rw [put_hp] at h7
      exact (to_tm htm).1 h7
    have h5:=to_swap (k:=fun A B q'=>wpL P vs (pre ++ post) (St.put ⟨(St.put ⟨σ.tm,σ.hp⟩ x.dst A).tm,q'⟩ y.dst B) K) hc hI hn (to_mono (fun A q hq=>to_mono (fun B q' hq'=>by
      have e:St.put ⟨(St.put ⟨σ.tm,q⟩ x.dst A).tm,q'⟩ y.dst B=St.put ⟨(St.put ⟨σ.tm,σ.hp⟩ x.dst A).tm,q'⟩ y.dst B:=by
        congr 2
        cases x.dst <;> rfl
      rw [← e];exact hq') hq) h4)
    simp only [List.cons_append,wpL,hHy,Bool.false_eq_true,if_false]
    refine to_mono (fun B q hq=>?_) h5
    show wpL P vs ((i,x) :: (pre ++ post)) _ K
    simp only [wpL,hHx,Bool.false_eq_true,if_false]
    rw [put_hp]
    have htm:∀ t∈x.rds,σ.tm t=(St.put ⟨σ.tm,q⟩ y.dst B).tm t:=fun t ht=>(put_tm (σ:=⟨σ.tm,q⟩) fun d e he=>hd2 d e (he ▸ ht)).symm
    refine (to_tm htm).1 (to_mono (fun A q' hq'=>?_) hq)
    rw [put_comm (q2:=q) (fun d e=>(hd1 d e).2)] at hq'
    exact hq'
theorem to_n {y:AOp} (hy:y.ins.cl=.n) (s:Nat→Nat) (d:Nat) (tm:Nat→AVal):∃ (p:Prop) (B:AVal),∀ (q:Nat→AObj) (k:AVal→(Nat→AObj)→Prop),To P s d tm q k y↔p∧k B q:=by
  obtain ⟨dst,grd,ins⟩:=y
  have fin:(∃ (p:Prop) (B:AVal),∀ (q:Nat→AObj) (k:AVal→(Nat→AObj)→Prop),Si P s d tm q k ins↔p∧k B q)→∃ (p:Prop) (B:AVal),∀ (q:Nat→AObj) (k:AVal→(Nat→AObj)→Prop),To P s d tm q k ⟨dst,grd,ins⟩↔p∧k B q:=by
    rintro ⟨p,B,hb⟩
    unfold To
    cases grd with
    | none=>exact ⟨p,B,hb⟩
    | some g =>
      obtain ⟨t,w⟩:=g
      simp only []
      cases tm t with
      | val v =>
        cases v with
        | bool b =>
          by_cases e:b=w
          · exact ⟨p,B,fun q k=>⟨fun h=>(hb q k).1 (h.1 e),fun h=>⟨fun _=>(hb q k).2 h,fun h2=>absurd e h2⟩⟩⟩
          · exact ⟨True,_,fun q k=>⟨fun h=>⟨trivial,h.2 e⟩,fun h=>⟨fun h2=>absurd h2 e,fun _=>h.2⟩⟩⟩
        | tuple _=>exact ⟨True,_,fun q k=>⟨fun h=>⟨trivial,h⟩,fun h=>h.2⟩⟩
        | _=>exact ⟨False,.any,fun q k=>⟨fun h=>h.elim,fun h=>h.1.elim⟩⟩
      | _=>exact ⟨False,.any,fun q k=>⟨fun h=>h.elim,fun h=>h.1.elim⟩⟩
  have base:∀ x:AI,x.cl=.n→∃ (p:Prop) (B:AVal),∀ (q:Nat→AObj) (k:AVal→(Nat→AObj)→Prop),Si P s d tm q k (.i x)↔p∧k B q:=by
    intro x hx
    refine ⟨x.pre ⟨tm,fun _=>.gone⟩ d,x.out ⟨tm,fun _=>.gone⟩ (s 0) d,fun q k=>?_⟩
    have h:=n_hp (tm:=tm) (hp:=q) (hp':=fun _=>.gone) (ver:=s 0) (d:=d) hx
    have h2:x.hpw ⟨tm,q⟩ (s 0) d=q:=l_hpw (.inr hx)
    simp only [Si,h.1,h.2,h2]
  cases ins with
  | i x=>exact fin (base x hy)
  | r nos x =>
    obtain ⟨p,B,hb⟩:=base x hy
    refine fin ⟨Fr tm (.r nos x)∧p,B,fun q k=>?_⟩
    rw [si_er]
    show _∧Si P s d tm q k (.i x)↔_
    rw [hb,and_assoc]
  | call g xs=>cases hy
  | calv f xs=>cases hy
  | calh g xs=>cases hy
  | it k y=>cases hy
  | calvh f xs=>cases hy
  | calm nos g xs=>cases hy
theorem pullN {vs:Nat→Nat→Nat} {y:AOp} {j:Nat} {post:List (Nat×AOp)} {K:St→Prop}:∀ (pre:List (Nat×AOp)) (σ:St),(∀ p∈pre,commN p.2 y=true) →
    wpL P vs (pre ++ (j,y) :: post) σ K→wpL P vs ((j,y) :: (pre ++ post)) σ K
  | [],_,_,h=>h
  | (i,x) :: pre,σ,hpre,h=>by
    have hc':=hpre (i,x) (by simp)
    simp only [commN,Bool.and_eq_true,Bool.not_eq_true',beq_iff_eq] at hc'
    obtain ⟨⟨⟨hyn,h1⟩,h2⟩,hHx,hHy⟩:=hc'
    simp only [List.cons_append,wpL,hHx,Bool.false_eq_true,if_false] at h
    have hd1:∀ d,x.dst=some d→d ∉ y.rds∧y.dst≠some d:=by
      intro d e
      rw [e] at h1
      simpa using h1
    have hd2:∀ d,y.dst=some d→d ∉ x.rds:=by
      intro d e
      rw [e] at h2
      simpa using h2
    obtain ⟨p,B,hb⟩:=to_n (P:=P) hyn (vs j) (y.dst.getD 0) σ.tm
    have h4:To P (vs i) (x.dst.getD 0) σ.tm σ.hp (fun A q=>p∧wpL P vs (pre ++ post) (St.put ⟨(St.put ⟨σ.tm,q⟩ x.dst A).tm,q⟩ y.dst B) K) x:=by
      refine to_mono (fun A q hq=>?_) h
      have htm:∀ t∈y.rds,(St.put ⟨σ.tm,q⟩ x.dst A).tm t=σ.tm t:=fun t ht=>put_tm fun d e he=>(hd1 d e).1 (he ▸ ht)
      have h7:=pullN pre _ (fun p hp=>hpre p (by simp [hp])) hq
      simp only [wpL,hHy,Bool.false_eq_true,if_false] at h7
      rw [put_hp] at h7
      exact (hb _ _).1 ((to_tm htm).1 h7)
    obtain ⟨_,_,hp,_⟩:=to_some h4
    simp only [List.cons_append,wpL,hHy,Bool.false_eq_true,if_false]
    refine (hb _ _).2 ⟨hp,?_⟩
    show wpL P vs ((i,x) :: (pre ++ post)) _ K
    simp only [wpL,hHx,Bool.false_eq_true,if_false]
    rw [put_hp]
    have htm:∀ t∈x.rds,σ.tm t=(St.put ⟨σ.tm,σ.hp⟩ y.dst B).tm t:=fun t ht=>(put_tm (σ:=⟨σ.tm,σ.hp⟩) fun d e he=>hd2 d e (he ▸ ht)).symm
    refine (to_tm htm).1 (to_mono (fun A q' hq'=>?_) h4)
    have hq':=hq'.2
    have e:St.put ⟨(St.put ⟨σ.tm,q'⟩ x.dst A).tm,q'⟩ y.dst B=St.put ⟨(St.put ⟨σ.tm,σ.hp⟩ x.dst A).tm,q'⟩ y.dst B:=by
      congr 2
      cases x.dst <;> rfl
    rw [e,put_comm (q2:=σ.hp) (fun d e=>(hd1 d e).2)] at hq'
    exact hq'
theorem pull {vs:Nat→Nat→Nat} {y:AOp} {j:Nat} {post:List (Nat×AOp)} {K:St→Prop} (pre:List (Nat×AOp)) (σ:St) (hpre:∀ p∈pre,comm p.2 y=true∧∀ i,¬ U (vs p.1 i)) (hI:Inv U σ.tm σ.hp y)
    (h:wpL P vs (pre ++ (j,y) :: post) σ K):wpL P vs ((j,y) :: (pre ++ post)) σ K:=by
  by_cases hn:y.ins.cl=.n
  · refine pullN pre σ (fun p hp=>?_) h
    have h1:=(hpre p hp).1
    simp only [comm,Bool.or_eq_true] at h1
    rcases h1 with (h1 | h1) | h1
    · simp only [commA,commE,Bool.and_eq_true,Bool.not_eq_true'] at h1
      obtain ⟨⟨⟨⟨⟨⟨_,_⟩,k1⟩,k2⟩,_⟩,hHx,hHy⟩,_⟩:=h1
      have er:∀ o:AOp,o.er.rds=o.rds:=fun o=>by simp only [AOp.rds,AOp.er,er_opds]
      have eh:∀ z:AIns,isH z.er=isH z:=fun z=>by cases z <;> rfl
      rw [show (p.2).er.ins=(p.2).ins.er from rfl,eh] at hHx
      rw [show y.er.ins=y.ins.er from rfl,eh] at hHy
      rw [er] at k1 k2
      simp only [commN,Bool.and_eq_true,beq_iff_eq,Bool.not_eq_true']
      exact ⟨⟨⟨hn,k1⟩,k2⟩,hHx,hHy⟩
    · simp only [commM,Bool.and_eq_true] at h1
      obtain ⟨⟨h1,_⟩,_⟩:=h1
      split at h1
      · rename_i hy;rw [hy] at hn;cases hn
      · rename_i b _ hy
        rw [Bool.and_eq_true] at h1
        rw [hy] at hn
        have h2:b.cl=.n:=hn
        rw [okR_l h1.1] at h2;cases h2
      · rename_i hy;rw [hy] at hn;cases hn
      · rename_i hy;rw [hy] at hn;cases hn
      · cases h1
    · exact h1
  · refine pullA pre σ (fun p hp=>⟨?_,(hpre p hp).2⟩) hI h
    have h1:=(hpre p hp).1
    simp only [comm] at h1
    rw [Bool.or_eq_true] at h1
    rcases h1 with h1 | h1
    · exact h1
    · simp only [commN,Bool.and_eq_true,beq_iff_eq] at h1
      exact absurd h1.1.1.1 hn
end
def edges (o:Oper):List Nat:=(o.after.toList.filter (Region.binds .any)).map (·.on)
def ancs:List Oper→List (List Nat)→List (List Nat)
  | [],acc=>acc
  | o :: os,acc=>ancs os (acc ++ [((edges o).flatMap fun j=>j :: acc.getD j []).eraseDups])
def drB (ops:Array Oper) (xs:List AOp):Bool :=
  let an:=ancs ops.toList []
  (List.range ops.size).all fun i =>
    (match ops[i]? with | some o=>(edges o).all (fun j=>decide (j<i)) | none=>true) &&
    (match xs[i]? with
      | some y=>(List.range i).all fun k=>(an.getD i []).contains k || (match xs[k]? with | some x=>comm x y | none=>true)
      | none=>true)
def AIns.mb (wb:Bool) (nos:List Nat):AIns→AIns
  | .i x=>.i (x.mb wb nos)
  | y=>y
def AOp.mb (wb:Bool) (nos:List Nat) (o:AOp):AOp:={ o with ins:=o.ins.mb wb nos }
theorem mb_wp {P:Program} {fa pu wb:Bool} {nos:List Nat} {s:Nat→Nat} {o:AOp} {σ:St} {K:St→Prop} (h:Ab.wpOp fa (wpCk P pu) s (o.mb wb nos) σ K):Ab.wpOp fa (wpCk P pu) s o σ K:=by
  have key:∀ d y,Ab.wpIns fa (wpCk P pu) s d σ K (AIns.mb wb nos y)→Ab.wpIns fa (wpCk P pu) s d σ K y:=by
    intro d y h
    cases y with
    | i x =>
      refine ⟨mb_pre h.1,fun hf=>?_⟩
      have h2:=h.2 (by rw [mb_fact];exact hf)
      simp only [AI.eff,mb_out,mb_hpw] at h2 ⊢
      exact h2
    | _=>exact h
  unfold Ab.wpOp at h ⊢
  have hg:(o.mb wb nos).grd=o.grd:=rfl
  rw [hg] at h
  cases hgd:o.grd with
  | none=>rw [hgd] at h;exact key _ _ h
  | some g =>
    obtain ⟨t,w⟩:=g
    rw [hgd] at h
    simp only [] at h ⊢
    split at h
    · exact ⟨fun e=>key _ _ (h.1 e),h.2⟩
    · exact h
    · exact h.elim
def AIns.mp:AIns→AIns
  | .i x=>.i x.mp
  | y=>y
def AOp.mp (o:AOp):AOp:={ o with ins:=o.ins.mp }
theorem mp_wp {P:Program} {fa pu:Bool} {s:Nat→Nat} {o:AOp} {σ:St} {K:St→Prop} (h:Ab.wpOp fa (wpCk P pu) s o.mp σ K):Ab.wpOp fa (wpCk P pu) s o σ K:=by
  have key:∀ d y,Ab.wpIns fa (wpCk P pu) s d σ K (AIns.mp y)→Ab.wpIns fa (wpCk P pu) s d σ K y:=by
    intro d y h
    cases y with
    | i x =>
      refine ⟨mp_pre h.1,fun hf=>?_⟩
      have h2:=h.2 (by rw [mp_fact];exact hf)
      simp only [AI.eff,mp_out,mp_hpw] at h2 ⊢
      exact h2
    | _=>exact h
  unfold Ab.wpOp at h ⊢
  have hg:o.mp.grd=o.grd:=rfl
  rw [hg] at h
  cases hgd:o.grd with
  | none=>rw [hgd] at h;exact key _ _ h
  | some g =>
    obtain ⟨t,w⟩:=g
    rw [hgd] at h
    simp only [] at h ⊢
    split at h
    · exact ⟨fun e=>key _ _ (h.1 e),h.2⟩
    · exact h
    · exact h.elim
def vary (ops:Array Oper) (xs:List AOp):List AOp :=
  let an:=ancs ops.toList []
  xs.mapIdx fun k x =>
    let ys:=(List.range ops.size).filterMap fun i=>if decide (k<i) && !(an.getD i []).contains k then xs[i]? else none
    x.mb (ys.any fun y=>isWB y.ins.cl) (ys.filterMap fun y=>if y.ins.cl == .a then y.dst else none)
def AIns.m2 (wb:Bool) (sts nos:List Nat) (ab la:Bool):AIns→AIns
  | .i x=>.i (x.m2 wb sts nos ab la)
  | y=>y
def AOp.m2 (wb:Bool) (sts nos:List Nat) (ab la:Bool) (o:AOp):AOp:={ o with ins:=o.ins.m2 wb sts nos ab la }
theorem m2_wp {P:Program} {fa pu wb ab la:Bool} {sts nos:List Nat} {s:Nat→Nat} {o:AOp} {σ:St} {K:St→Prop} (h:Ab.wpOp fa (wpCk P pu) s (o.m2 wb sts nos ab la) σ K):Ab.wpOp fa (wpCk P pu) s o σ K:=by
  have key:∀ d y,Ab.wpIns fa (wpCk P pu) s d σ K (AIns.m2 wb sts nos ab la y)→Ab.wpIns fa (wpCk P pu) s d σ K y:=by
    intro d y h
    cases y with
    | i x =>
      obtain ⟨h1,h2,h3⟩:=m2_ok (ver:=s 0) h.1
      refine ⟨h1,fun hf=>?_⟩
      have h4:=h.2 (by rw [m2_fact];exact hf)
      simp only [AI.eff,h2,h3] at h4 ⊢
      exact h4
    | _=>exact h
  unfold Ab.wpOp at h ⊢
  have hg:(o.m2 wb sts nos ab la).grd=o.grd:=rfl
  rw [hg] at h
  cases hgd:o.grd with
  | none=>rw [hgd] at h;exact key _ _ h
  | some g =>
    obtain ⟨t,w⟩:=g
    rw [hgd] at h
    simp only [] at h ⊢
    split at h
    · exact ⟨fun e=>key _ _ (h.1 e),h.2⟩
    · exact h
    · exact h.elim
def stoT:AOp→List Nat
  | ⟨_,_,.i (.sto _ (.t t) _)⟩=>[t]
  | _=>[]
def appR:AOp→List Nat
  | ⟨_,_,.i (.app _ _ _ x)⟩=>x.tl
  | _=>[]
def isLda:AOp→Bool
  | ⟨_,_,.i (.lda _ _)⟩=>true
  | _=>false
def vary2 (ops:Array Oper) (xs:List AOp):List AOp :=
  let an:=ancs ops.toList []
  xs.mapIdx fun k x =>
    let ys:=(List.range ops.size).filterMap fun i=>if decide (k<i) && !(an.getD i []).contains k then xs[i]? else none
    let zs:=(List.range ops.size).filterMap fun i=>if decide (i<k) && !(an.getD k []).contains i then xs[i]? else none
    x.m2 (ys.any fun y=>isWBM y.ins.cl || !(stoT y).isEmpty) (ys.flatMap stoT) (ys.filterMap (fun y=>if y.ins.cl == .a || isWBM y.ins.cl then y.dst else none) ++ zs.flatMap appR) (ys.any fun y=>y.ins.cl == .b) (zs.any isLda)
def AOp.hb (o:AOp):AOp:=match o.ins with
  | .call g xs=>{ o with ins:=.calh g xs }
  | .calv f xs=>{ o with ins:=.calvh f xs }
  | _=>o
theorem hb_wp {P:Program} {s:Nat→Nat} {o:AOp} {σ:St} {K:St→Prop} (h:Ab.wpOp false (wpCk P true) s o.hb σ K):∃ pu,Ab.wpOp false (wpCk P pu) s o σ K:=by
  obtain ⟨d,g,ins⟩:=o
  cases ins with
  | call f xs =>
    refine ⟨false,?_⟩
    have key:∀ d,Ab.wpIns false (wpCk P true) s d σ K (.calh f xs)→Ab.wpIns false (wpCk P false) s d σ K (.call f xs):=fun d h=>h
    unfold Ab.wpOp at h ⊢
    simp only [AOp.hb] at h ⊢
    cases g with
    | none=>exact key _ h
    | some g =>
      obtain ⟨t,w⟩:=g
      simp only [] at h ⊢
      split at h
      · exact ⟨fun e=>key _ (h.1 e),h.2⟩
      · exact h
      · exact h.elim
  | calv f xs =>
    refine ⟨false,?_⟩
    have key:∀ d,Ab.wpIns false (wpCk P true) s d σ K (.calvh f xs)→Ab.wpIns false (wpCk P false) s d σ K (.calv f xs):=fun d h=>h
    unfold Ab.wpOp at h ⊢
    simp only [AOp.hb] at h ⊢
    cases g with
    | none=>exact key _ h
    | some g =>
      obtain ⟨t,w⟩:=g
      simp only [] at h ⊢
      split at h
      · exact ⟨fun e=>key _ (h.1 e),h.2⟩
      · exact h
      · exact h.elim
  | _=>exact ⟨true,h⟩
def chain (ops:Array Oper) (xs:List AOp):List AOp :=
  let an:=ancs ops.toList []
  xs.mapIdx fun i x=>if ((List.range i).all fun k=>(an.getD i []).contains k) && ((List.range ops.size).all fun j=>decide (j≤i) || (an.getD j []).contains i) then x.hb else x
def AIns.mm (nos:List Nat) (gs:List FuncId):AIns→AIns
  | .i x=>if okR x=true then .r nos x else .i x
  | .call g xs=>if gs.contains g=true then .calm nos g xs else .call g xs
  | y=>y
def AOp.mm (nos:List Nat) (gs:List FuncId) (o:AOp):AOp:={ o with ins:=o.ins.mm nos gs }
theorem mm_wp {P:Program} {nos:List Nat} {gs:List FuncId} {s:Nat→Nat} {o:AOp} {σ:St} {K:St→Prop} (h:Ab.wpOp false (wpCk P true) s (o.mm nos gs) σ K):∃ pu,Ab.wpOp false (wpCk P pu) s o σ K:=by
  obtain ⟨d,g,ins⟩:=o
  have lift:(∃ pu,∀ d,Ab.wpIns false (wpCk P true) s d σ K (ins.mm nos gs)→Ab.wpIns false (wpCk P pu) s d σ K ins)→∃ pu,Ab.wpOp false (wpCk P pu) s ⟨d,g,ins⟩ σ K:=by
    rintro ⟨pu,key⟩
    refine ⟨pu,?_⟩
    unfold Ab.wpOp at h ⊢
    simp only [AOp.mm] at h
    cases g with
    | none=>exact key _ h
    | some g =>
      obtain ⟨t,w⟩:=g
      simp only [] at h ⊢
      split at h
      · exact ⟨fun e=>key _ (h.1 e),h.2⟩
      · exact h
      · exact h.elim
  refine lift ?_
  cases ins with
  | i x =>
    refine ⟨true,fun d h=>?_⟩
    simp only [AIns.mm] at h
    split at h
    · exact h.2
    · exact h
  | call f xs =>
    by_cases e:gs.contains f=true
    · refine ⟨false,fun d h=>?_⟩
      simp only [AIns.mm,if_pos e] at h
      exact wpCallN_call h
    · refine ⟨true,fun d h=>?_⟩
      simp only [AIns.mm,if_neg e] at h
      exact h
  | _=>exact ⟨true,fun d h=>h⟩
theorem m3_wp {P:Program} {wb ab la:Bool} {sts ns nos:List Nat} {gs:List FuncId} {s:Nat→Nat} {o:AOp} {σ:St} {K:St→Prop} (h:Ab.wpOp false (wpCk P true) s ((o.m2 wb sts ns ab la).mm nos gs) σ K):∃ pu,Ab.wpOp false (wpCk P pu) s o σ K:=by
  obtain ⟨pu,h⟩:=mm_wp h
  exact ⟨pu,m2_wp h⟩
def drV0 (ops:Array Oper) (xs:List AOp):Option (List AOp):=if drB ops (chain ops xs)=true then some (chain ops xs) else if drB ops xs=true then some xs else if drB ops (vary ops xs)=true then some (vary ops xs) else if drB ops (vary2 ops xs)=true then some (vary2 ops xs) else if drB ops (xs.map AOp.mp)=true then some (xs.map AOp.mp) else if drB ops (vary2 ops (xs.map AOp.mp))=true then some (vary2 ops (xs.map AOp.mp)) else none
def drV (no:Option (List Nat×List FuncId)) (ops:Array Oper) (xs:List AOp):Option (List AOp):=match no with
  | none=>drV0 ops xs
  | some (nos,gs)=>if drB ops (xs.map (AOp.mm nos gs))=true then some (xs.map (AOp.mm nos gs)) else if drB ops ((vary2 ops xs).map (AOp.mm nos gs))=true then some ((vary2 ops xs).map (AOp.mm nos gs)) else drV0 ops xs
end Go.Ab
namespace Go.Ab
section
variable {P:Program} {w0:World} {outsC:Nat→Prop} {N:Nat} {c0:Cz}
theorem Sim.drawn {σ:St} {a:Act} {c:Cz} (S:Sim w0 outsC N σ a c) (H0:Hist c0 c) (n:Nat) (hn:c.w.drawn≤n) :
    Sim w0 outsC N σ a { c with w:={ c.w with drawn:=n } }∧Hist c0 { c with w:={ c.w with drawn:=n } }:=by
  have G:=S.good
  have K:Keeps c { c with w:={ c.w with drawn:=n } }:=⟨fun _ h=>⟨h,rfl⟩,fun _ _ h=>h,fun _ h=>h,fun _ _ _ h=>⟨h,rfl⟩,rfl⟩
  refine ⟨⟨?_,S.hp,S.size,fun t=>(S.tm t).keeps K,S.defers⟩,H0.step K rfl rfl⟩
  exact ⟨G.base,fun r=>(G.obj r).keeps K fun _ _=>rfl,G.inj,G.own,G.verU,G.verInj,G.outExt,G.nam,G.namInj,G.fin,G.os,⟨G.tape.1,Nat.le_trans G.tape.2 hn⟩,G.output,G.size,G.frame⟩
theorem edges_mem {o:Oper} {e:Edge} (h:e∈o.after) (hb:Region.binds .any e=true):e.on∈edges o:=by
  simp only [edges,List.mem_map,List.mem_filter]
  exact ⟨e,⟨Array.mem_toList_iff.2 h,hb⟩,rfl⟩
theorem mem_edges {o:Oper} {j:Nat} (h:j∈edges o):∃ e∈o.after,Region.binds .any e=true∧e.on=j:=by
  simp only [edges,List.mem_map,List.mem_filter] at h
  obtain ⟨e,⟨h1,h2⟩,h3⟩:=h
  exact ⟨e,Array.mem_toList_iff.1 h1,h2,h3⟩
def Closed (ops:Array Oper) (listed:Array Bool):Prop:=∀ i o,ops[i]?=some o→listed.getD i true=true→∀ j∈edges o,listed.getD j false=true
theorem getD_tf {l:Array Bool} {j:Nat} (h:l.getD j false=true):l.getD j true=true:=by
  by_cases hj:j<l.size
  · simp [Array.getD,hj] at h ⊢;exact h
  · simp [Array.getD,hj] at h
inductive Ahead (ops:Array Oper):Nat→Nat→Prop where
  | one {i k:Nat} {o:Oper}:ops[i]?=some o→k∈edges o→Ahead ops i k
  | step {i j k:Nat} {o:Oper}:ops[i]?=some o→j∈edges o→Ahead ops j k→Ahead ops i k
theorem ancs_ahead {ops:Array Oper}:∀ (os:List Oper) (acc:List (List Nat)),(∀ j,os[j]?=ops[acc.length+j]?)→(∀ i k,k∈acc.getD i []→Ahead ops i k)→∀ i k,k∈(ancs os acc).getD i []→Ahead ops i k
  | [],_,_,h,i,k,hk=>h i k hk
  | o :: os,acc,ho,h,i,k,hk=>by
    simp only [ancs] at hk
    refine ancs_ahead os _ (fun j=>?_) (fun i k hk=>?_) i k hk
    · have:=ho (j+1)
      simp only [List.length_append,List.length_singleton]
      rw [show acc.length+1+j=acc.length+(j+1) by omega,← this]
      rfl
    · rw [List.getD_eq_getElem?_getD] at hk
      by_cases e:i<acc.length
      · rw [List.getElem?_append_left e,← List.getD_eq_getElem?_getD] at hk
        exact h i k hk
      · rw [List.getElem?_append_right (by omega)] at hk
        by_cases e2:i=acc.length
        · have h0:ops[i]?=some o:=by have:=ho 0;simp at this;rw [e2];exact this.symm
          rw [e2,Nat.sub_self] at hk
          simp only [List.getElem?_cons_zero,Option.getD_some,List.mem_eraseDups,List.mem_flatMap,List.mem_cons] at hk
          obtain ⟨j,hj,rfl | hk⟩:=hk
          · exact .one h0 hj
          · exact .step h0 hj (h j k hk)
        · obtain ⟨q,hq⟩:∃ q,i - acc.length=q+1:=⟨i - acc.length - 1,by omega⟩
          rw [hq] at hk
          simp at hk
theorem ahead_listed {ops:Array Oper} {listed:Array Bool} (hcl:Closed ops listed) {i k:Nat} (h:Ahead ops i k):(∀ o,ops[i]?=some o→∀ j∈edges o,listed.getD j false=true)→listed.getD k false=true:=by
  induction h with
  | one ho hj=>intro h;exact h _ ho _ hj
  | step ho hj _ ih=>intro h;exact ih fun o' ho'=>hcl _ o' ho' (getD_tf (h _ ho _ hj))
theorem enum_mem {α:Type}:∀ (xs:List α) (i:Nat) (p:Nat×α),p∈enum i xs↔i≤p.1∧xs[p.1 - i]?=some p.2
  | [],i,p=>by simp [enum]
  | x :: xs,i,p=>by
    simp only [enum,List.mem_cons,enum_mem xs (i+1) p]
    constructor
    · rintro (rfl | ⟨h1,h2⟩)
      · simp
      · refine ⟨by omega,?_⟩
        have:p.1 - i=(p.1 - (i+1))+1:=by omega
        rw [this];simpa using h2
    · rintro ⟨h1,h2⟩
      by_cases e:p.1=i
      · left
        rw [e,Nat.sub_self] at h2
        simp at h2
        exact Prod.ext e h2.symm
      · right
        refine ⟨by omega,?_⟩
        have:p.1 - i=(p.1 - (i+1))+1:=by omega
        rw [this] at h2;simpa using h2
theorem enum_sorted {α:Type}:∀ (xs:List α) (i:Nat),(enum i xs).Pairwise fun p q=>p.1<q.1
  | [],i=>by simp [enum]
  | x :: xs,i=>by
    simp only [enum,List.pairwise_cons]
    exact ⟨fun p hp=>by have:=((enum_mem xs (i+1) p).1 hp).1;omega,enum_sorted xs (i+1)⟩
theorem enum_length {α:Type}:∀ (xs:List α) (i:Nat),(enum i xs).length=xs.length
  | [],i=>rfl
  | x :: xs,i=>by simp [enum,enum_length xs (i+1)]
theorem any_sound {ops:Array Oper} {xs:List AOp} {vs:Nat→Nat→Nat} {K:St→Prop} {Q:Exit→Act→World→Prop} (hlen:ops.toList.length=xs.length) (hget:∀ (i:Nat) o y,ops.toList[i]?=some o→xs[i]?=some y→∃ x,cOper P N ops o=some x∧(y=x∨(∃ wb nos,y=x.mb wb nos)∨y=x.hb∨y=x.mp∨(∃ wb sts nos ab la,y=x.m2 wb sts nos ab la)∨(∃ nos gs,y=x.mm nos gs)∨(∃ wb sts ns ab la nos gs,y=(x.m2 wb sts ns ab la).mm nos gs)∨∃ wb sts nos ab la,y=x.mp.m2 wb sts nos ab la)) (hdr:drB ops xs=true)
    (hinj:∀ i j i' j',vs i j=vs i' j'→i=i'∧j=j') (hQ:∀ σ a c,Sim w0 outsC N σ a c→Hist c0 c→K σ→Q .normal a c.w) :
    ∀ (fuel:Nat) (listed:Array Bool) (rest:List (Nat×AOp)) (σ:St) (a:Act) (c:Cz),rest.length=fuel→listed.size=ops.size →
      (∀ i,listed.getD i true=false↔∃ x,(i,x)∈rest)→(∀ p∈rest,xs[p.1]?=some p.2)→rest.Pairwise (fun p q=>p.1<q.1)→Closed ops listed →
      Sim w0 outsC N σ a c→Hist c0 c→(∀ p∈rest,∀ j,¬ c.used (vs p.1 j))→wpL P vs rest σ K→Go.wpAny P .any ops Q fuel listed a c.w:=by
  have hsz:xs.length=ops.size:=by simpa using hlen.symm
  have hdr':∀ i,i<ops.size→(∀ o,ops[i]?=some o→∀ j∈edges o,j<i)∧∀ y,xs[i]?=some y→∀ k,k<i→Ahead ops i k∨∀ x,xs[k]?=some x→comm x y=true:=by
    intro i hi
    unfold drB at hdr
    simp only [] at hdr
    rw [List.all_eq_true] at hdr
    have h:=hdr i (List.mem_range.2 hi)
    rw [Bool.and_eq_true] at h
    refine ⟨fun o ho j hj=>?_,fun y hy k hk=>?_⟩
    · have h1:=h.1
      simp only [ho,List.all_eq_true,decide_eq_true_eq] at h1
      exact h1 j hj
    · have h1:=h.2
      simp only [hy,List.all_eq_true] at h1
      have h2:=h1 k (List.mem_range.2 hk)
      rw [Bool.or_eq_true] at h2
      rcases h2 with h2 | h2
      · left
        refine ancs_ahead ops.toList [] (fun j=>by simp) (fun i k hk=>by simp at hk) i k ?_
        simpa using h2
      · right
        intro x hx
        simp only [hx] at h2;exact h2
  intro fuel
  induction fuel with
  | zero =>
    intro listed rest σ a c hrl hls hun hrx hso hcl S H0 hnew h
    have:rest=[]:=List.eq_nil_of_length_eq_zero hrl
    subst this
    refine ⟨?_,hQ σ a c S H0 h⟩
    cases hr:Region.ready .any ops listed with
    | nil=>rfl
    | cons i is =>
      exfalso
      have hi:i∈Region.ready .any ops listed:=by rw [hr];simp
      obtain ⟨h1,_⟩:=mem_ready.1 hi
      obtain ⟨x,hx⟩:=(hun i).1 h1
      simp at hx
  | succ fuel ih =>
    intro listed rest σ a c hrl hls hun hrx hso hcl S H0 hnew h
    have hlt:∀ i,listed.getD i true=false→i<ops.size:=by
      intro i hi
      by_cases h1:i<listed.size
      · omega
      · simp [Array.getD,h1] at hi
    have hft:∀ j,j<ops.size→listed.getD j true≠false→listed.getD j false=true:=by
      intro j hj hne
      have:j<listed.size:=by omega
      simp [Array.getD,this] at hne ⊢
      exact hne
    refine ⟨fun hr=>?_,fun i hi=>?_⟩
    · exfalso
      cases hre:rest with
      | nil=>rw [hre] at hrl;simp at hrl
      | cons p rest' =>
        obtain ⟨i,x⟩:=p
        have hun1:=(hun i).2 ⟨x,by rw [hre];simp⟩
        have hi:=hlt i hun1
        have hmem:i∈Region.ready .any ops listed:=by
          refine mem_ready.2 ⟨hun1,ops[i],Array.getElem?_eq_getElem hi,fun e he hb=>?_⟩
          have hej:=(hdr' i hi).1 _ (Array.getElem?_eq_getElem hi) e.on (edges_mem he hb)
          refine hft e.on (by omega) fun hu=>?_
          obtain ⟨x',hx'⟩:=(hun e.on).1 hu
          rw [hre] at hx' hso
          rcases List.mem_cons.1 hx' with e1 | e1
          · simp only [Prod.mk.injEq] at e1;omega
          · have:=(List.pairwise_cons.1 hso).1 _ e1
            simp only at this;omega
        rw [hr] at hmem;simp at hmem
    · obtain ⟨h1,o,ho,hall⟩:=mem_ready.1 hi
      obtain ⟨y,hy⟩:=(hun i).1 h1
      have hilt:=hlt i h1
      obtain ⟨pre,post,hsplit⟩:=List.append_of_mem hy
      subst hsplit
      have hxi:xs[i]?=some y:=hrx _ hy
      have hedge:∀ o',ops[i]?=some o'→∀ j∈edges o',listed.getD j false=true:=by
        intro o' ho' j hj
        rw [ho] at ho'
        simp only [Option.some.injEq] at ho';subst ho'
        obtain ⟨e,he,hb,rfl⟩:=mem_edges hj
        exact hall e he hb
      have hpre:∀ p∈pre,comm p.2 y=true∧∀ j,¬ c.used (vs p.1 j):=by
        intro p hp
        refine ⟨?_,hnew p (by simp [hp])⟩
        have hlt1:p.1<i:=by
          rw [List.pairwise_append] at hso
          exact hso.2.2 p hp (i,y) (by simp)
        have hxp:xs[p.1]?=some p.2:=hrx p (by simp [hp])
        rcases (hdr' i hilt).2 y hxi p.1 hlt1 with h2 | h2
        · exfalso
          have h3:=getD_tf (ahead_listed hcl h2 hedge)
          have h4:=(hun p.1).2 ⟨p.2,by simp [hp]⟩
          rw [h4] at h3;cases h3
        · exact h2 _ hxp
      have hI:Inv c.used σ.tm σ.hp y:=by
        refine ⟨fun t _=>Rep.uses S.good _ _ (S.tm t),fun _ _ r v _ _=>?_⟩
        have:=ObjRep.uses S.good r
        rw [S.hp] at this;exact this
      have h2:=pull pre σ hpre hI h
      have h3:Ab.wpOp false (wpCk P true) (vs i) y σ (fun σ'=>wpL P vs (pre ++ post) σ' K):=by
        simp only [wpL] at h2
        cases hyH:isH y.ins with
        | true=>rw [hyH,if_pos rfl] at h2;exact h2
        | false=>rw [hyH,if_neg (by simp)] at h2;exact (wpOp_iff hyH).2 h2
      obtain ⟨y0,hco,hy0⟩:=hget i o y (by simpa using ho) hxi
      have h3:∃ pu,Ab.wpOp false (wpCk P pu) (vs i) y0 σ (fun σ'=>wpL P vs (pre ++ post) σ' K):=by
        rcases hy0 with rfl | ⟨wb,nos,rfl⟩ | rfl | rfl | ⟨wb,sts,nos,ab,la,rfl⟩ | ⟨nos,gs,rfl⟩ | ⟨wb,sts,ns,ab,la,nos,gs,rfl⟩ | ⟨wb,sts,nos,ab,la,rfl⟩
        · exact ⟨true,h3⟩
        · exact ⟨true,mb_wp h3⟩
        · exact hb_wp h3
        · exact ⟨true,mp_wp h3⟩
        · exact ⟨true,m2_wp h3⟩
        · exact mm_wp h3
        · exact m3_wp h3
        · exact ⟨true,mp_wp (m2_wp h3)⟩
      obtain ⟨pu,h3⟩:=h3
      have h4:=op_sound (Q:=Q) (i:=i) ho hco S H0 (fun j=>hnew (i,y) hy j) (fun j j' e=>(hinj i j i j' e).2) h3
      refine Go.wpOp_mono ?_ h4
      rintro a' w' ⟨σ',c',hk,S',rfl,H',hu⟩
      have hsub:∀ p,p∈pre ++ post→p∈pre ++ (i,y) :: post:=by
        intro p hp
        rcases List.mem_append.1 hp with h5 | h5
        · exact List.mem_append.2 (.inl h5)
        · exact List.mem_append.2 (.inr (List.mem_cons_of_mem _ h5))
      have hne:∀ p,p∈pre ++ post→p.1≠i:=by
        intro p hp e
        rw [List.pairwise_append,List.pairwise_cons] at hso
        rcases List.mem_append.1 hp with h5 | h5
        · have:=hso.2.2 p h5 (i,y) (by simp)
          simp only at this;omega
        · have:=hso.2.1.1 p h5
          simp only at this;omega
      refine ih (listed.setIfInBounds i true) (pre ++ post) σ' a' c' ?_ (by simpa using hls) ?_ (fun p hp=>hrx p (hsub p hp)) ?_ ?_ S' H' ?_ hk
      · simp at hrl ⊢;omega
      · intro k
        by_cases e:k=i
        · subst e
          constructor
          · intro h5
            have:k<listed.size:=by omega
            simp [Array.getD,this] at h5
          · rintro ⟨x,hx⟩
            exact absurd rfl (hne _ hx)
        · rw [getD_set_ne true (Ne.symm e),hun k]
          constructor
          · rintro ⟨x,hx⟩
            refine ⟨x,?_⟩
            rcases List.mem_append.1 hx with h5 | h5
            · exact List.mem_append.2 (.inl h5)
            · rcases List.mem_cons.1 h5 with h6 | h6
              · simp only [Prod.mk.injEq] at h6;exact absurd h6.1 e
              · exact List.mem_append.2 (.inr h6)
          · rintro ⟨x,hx⟩
            exact ⟨x,hsub _ hx⟩
      · rw [List.pairwise_append] at hso ⊢
        exact ⟨hso.1,(List.pairwise_cons.1 hso.2.1).2,fun p hp q hq=>hso.2.2 p hp q (List.mem_cons_of_mem _ hq)⟩
      · intro k o' ho' hk' j hj
        refine getD_set_true ?_
        by_cases e:k=i
        · subst e;exact hedge o' ho' j hj
        · rw [getD_set_ne true (Ne.symm e)] at hk'
          exact hcl k o' ho' hk' j hj
      · intro p hp j hused
        rcases hu _ hused with h5 | ⟨z,h5⟩
        · exact hnew p (hsub p hp) j h5
        · exact hne p hp (hinj _ _ _ _ h5).1
theorem draw_ok {no:Option (List Nat×List FuncId)} (hm:P.follows .mixedOrders=true):DrawOK P N (drV no):=by
  intro w0 outsC c0 id ops xs ys hxs hdr σ a c Q K hQ S H0 h
  obtain ⟨S',H'⟩:=S.drawn H0 (c.w.drawn+1) (Nat.le_succ _)
  obtain ⟨vs,hnew,hfree⟩:=new_vs S'
  refine wp_region_any hm ?_
  obtain ⟨hlen,hget⟩:=cRegion_get hxs
  have hy0:∀ ys,drV0 ops xs=some ys→drB ops ys=true∧(ys=xs∨ys=vary ops xs∨ys=chain ops xs∨ys=xs.map AOp.mp∨ys=vary2 ops xs∨ys=vary2 ops (xs.map AOp.mp)):=by
    intro ys hdr
    unfold drV0 at hdr
    by_cases h0:drB ops (chain ops xs)=true
    · rw [if_pos h0] at hdr;simp only [Option.some.injEq] at hdr;subst hdr;exact ⟨h0,.inr (.inr (.inl rfl))⟩
    rw [if_neg h0] at hdr
    by_cases h1:drB ops xs=true
    · rw [if_pos h1] at hdr;simp only [Option.some.injEq] at hdr;subst hdr;exact ⟨h1,.inl rfl⟩
    · rw [if_neg h1] at hdr
      by_cases h2:drB ops (vary ops xs)=true
      · rw [if_pos h2] at hdr;simp only [Option.some.injEq] at hdr;subst hdr;exact ⟨h2,.inr (.inl rfl)⟩
      · rw [if_neg h2] at hdr
        by_cases h4:drB ops (vary2 ops xs)=true
        · rw [if_pos h4] at hdr;simp only [Option.some.injEq] at hdr;subst hdr;exact ⟨h4,.inr (.inr (.inr (.inr (.inl rfl))))⟩
        rw [if_neg h4] at hdr
        by_cases h3:drB ops (xs.map AOp.mp)=true
        · rw [if_pos h3] at hdr;simp only [Option.some.injEq] at hdr;subst hdr;exact ⟨h3,.inr (.inr (.inr (.inl rfl)))⟩
        · rw [if_neg h3] at hdr
          by_cases h7:drB ops (vary2 ops (xs.map AOp.mp))=true
          · rw [if_pos h7] at hdr;simp only [Option.some.injEq] at hdr;subst hdr;exact ⟨h7,.inr (.inr (.inr (.inr (.inr rfl))))⟩
          · rw [if_neg h7] at hdr;cases hdr
  have hy:drB ops ys=true∧((ys=xs∨ys=vary ops xs∨ys=chain ops xs∨ys=xs.map AOp.mp∨ys=vary2 ops xs∨ys=vary2 ops (xs.map AOp.mp))∨(∃ nos gs,ys=xs.map (AOp.mm nos gs))∨∃ nos gs,ys=(vary2 ops xs).map (AOp.mm nos gs)):=by
    cases no with
    | none=>obtain ⟨a,b⟩:=hy0 ys hdr;exact ⟨a,.inl b⟩
    | some p =>
      obtain ⟨nos,gs⟩:=p
      simp only [drV] at hdr
      by_cases h5:drB ops (xs.map (AOp.mm nos gs))=true
      · rw [if_pos h5] at hdr;simp only [Option.some.injEq] at hdr;subst hdr;exact ⟨h5,.inr (.inl ⟨nos,gs,rfl⟩)⟩
      · rw [if_neg h5] at hdr
        by_cases h6:drB ops ((vary2 ops xs).map (AOp.mm nos gs))=true
        · rw [if_pos h6] at hdr;simp only [Option.some.injEq] at hdr;subst hdr;exact ⟨h6,.inr (.inr ⟨nos,gs,rfl⟩)⟩
        · rw [if_neg h6] at hdr
          obtain ⟨a,b⟩:=hy0 ys hdr;exact ⟨a,.inl b⟩
  have hyl:ops.toList.length=ys.length:=by
    rcases hy.2 with (e | e | e | e | e | e) | ⟨nos,gs,e⟩ | ⟨nos,gs,e⟩
    · rw [e];exact hlen
    · rw [e];simp only [vary,List.length_mapIdx];exact hlen
    · rw [e];simp only [chain,List.length_mapIdx];exact hlen
    · rw [e,List.length_map];exact hlen
    · rw [e];simp only [vary2,List.length_mapIdx];exact hlen
    · rw [e];simp only [vary2,List.length_mapIdx,List.length_map];exact hlen
    · rw [e,List.length_map];exact hlen
    · rw [e,List.length_map];simp only [vary2,List.length_mapIdx];exact hlen
  have hget:∀ (i:Nat) o y,ops.toList[i]?=some o→ys[i]?=some y→∃ x,cOper P N ops o=some x∧(y=x∨(∃ wb nos,y=x.mb wb nos)∨y=x.hb∨y=x.mp∨(∃ wb sts nos ab la,y=x.m2 wb sts nos ab la)∨(∃ nos gs,y=x.mm nos gs)∨(∃ wb sts ns ab la nos gs,y=(x.m2 wb sts ns ab la).mm nos gs)∨∃ wb sts nos ab la,y=x.mp.m2 wb sts nos ab la):=by
    intro i o y ho hyi
    rcases hy.2 with (e | e | e | e | e | e) | ⟨nos,gs,e⟩ | ⟨nos,gs,e⟩
    · rw [e] at hyi;exact ⟨y,hget i o y ho hyi,.inl rfl⟩
    · rw [e] at hyi
      simp only [vary,List.getElem?_mapIdx,Option.map_eq_some_iff] at hyi
      obtain ⟨x,hx,rfl⟩:=hyi
      exact ⟨x,hget i o x ho hx,.inr (.inl ⟨_,_,rfl⟩)⟩
    · rw [e] at hyi
      simp only [chain,List.getElem?_mapIdx,Option.map_eq_some_iff] at hyi
      obtain ⟨x,hx,rfl⟩:=hyi
      refine ⟨x,hget i o x ho hx,?_⟩
      split
      · exact .inr (.inr (.inl rfl))
      · exact .inl rfl
    · rw [e,List.getElem?_map,Option.map_eq_some_iff] at hyi
      obtain ⟨x,hx,rfl⟩:=hyi
      exact ⟨x,hget i o x ho hx,.inr (.inr (.inr (.inl rfl)))⟩
    · rw [e] at hyi
      simp only [vary2,List.getElem?_mapIdx,Option.map_eq_some_iff] at hyi
      obtain ⟨x,hx,rfl⟩:=hyi
      exact ⟨x,hget i o x ho hx,.inr (.inr (.inr (.inr (.inl ⟨_,_,_,_,_,rfl⟩))))⟩
    · rw [e] at hyi
      simp only [vary2,List.getElem?_mapIdx,List.getElem?_map,Option.map_eq_some_iff] at hyi
      obtain ⟨_,⟨x,hx,rfl⟩,rfl⟩:=hyi
      exact ⟨x,hget i o x ho hx,.inr (.inr (.inr (.inr (.inr (.inr (.inr ⟨_,_,_,_,_,rfl⟩))))))⟩
    · rw [e,List.getElem?_map,Option.map_eq_some_iff] at hyi
      obtain ⟨x,hx,rfl⟩:=hyi
      exact ⟨x,hget i o x ho hx,.inr (.inr (.inr (.inr (.inr (.inl ⟨_,_,rfl⟩)))))⟩
    · rw [e,List.getElem?_map,Option.map_eq_some_iff] at hyi
      obtain ⟨x',hx',rfl⟩:=hyi
      simp only [vary2,List.getElem?_mapIdx,Option.map_eq_some_iff] at hx'
      obtain ⟨x,hx,rfl⟩:=hx'
      exact ⟨x,hget i o x ho hx,.inr (.inr (.inr (.inr (.inr (.inr (.inl ⟨_,_,_,_,_,_,_,rfl⟩))))))⟩
  have hsz:ys.length=ops.size:=by simpa using hyl.symm
  have h1:=wpL_of ys 0 σ (h vs _ hnew)
  refine any_sound hyl hget hy.1 hnew.inj hQ ops.size _ (enum 0 ys) σ a { c with w:={ c.w with drawn:=c.w.drawn+1 } } (by rw [enum_length,hsz]) (by simp) ?_ ?_ (enum_sorted ys 0) ?_ S' H' (fun p _ j=>hfree _ _) h1
  · intro i
    by_cases hi:i<ops.size
    · have e1:(Array.replicate ops.size false).getD i true=false:=by simp [Array.getD,hi]
      simp only [e1,true_iff]
      exact ⟨ys[i],(enum_mem ys 0 _).2 ⟨Nat.zero_le _,by simp⟩⟩
    · constructor
      · intro h2;simp [Array.getD,hi] at h2
      · rintro ⟨x,hx⟩
        have h3:=((enum_mem ys 0 _).1 hx).2
        have h4:=(List.getElem?_eq_some_iff.1 h3).1
        simp only at h4;omega
  · intro p hp
    simpa using ((enum_mem ys 0 p).1 hp).2
  · intro i o ho h2
    have hi:=(Array.getElem?_eq_some_iff.1 ho).1
    simp [Array.getD,hi] at h2
end
end Go.Ab
