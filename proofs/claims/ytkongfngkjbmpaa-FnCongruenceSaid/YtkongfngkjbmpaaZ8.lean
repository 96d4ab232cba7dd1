/- Contracts and what they lean on, part 8. Conditions: none. -/
import Derived.Test.YtkongfngkjbmpaaZ7
set_option maxRecDepth 100000
set_option maxHeartbeats 4000000
set_option linter.all false
open Nat renaming reduceLeDiff → xx0, reduceMul → xx1, reduceSub → xx2, reduceEqDiff → xx3, reduceAdd → xx4, reduceLT → xx5
open Int renaming reduceToNat → xx6, reduceNeg → xx7, reduceLE → xx8, reduceLT → xx9
namespace Go.Ab
theorem fold_bit {α:Type} (g:α→Nat) (t:Nat):∀ (l:List α) (o:Nat),(l.foldl (fun o s=>o ||| 2 ^ g s) o).testBit t=true↔o.testBit t=true∨∃ x∈l,g x=t
  | [],o=>by simp
  | x :: l,o=>by
    rw [List.foldl_cons,fold_bit g t l,Nat.testBit_or,Nat.testBit_two_pow,Bool.or_eq_true,decide_eq_true_eq]
    simp only [List.mem_cons,exists_eq_or_imp,or_assoc]
theorem step_bit {row:List Int} {f t:Nat}:(stepN row f).testBit t=true↔∃ s∈bitsN f,(row.getD s 0).toNat=t:=by
  unfold stepN
  rw [fold_bit (fun s=>(row.getD s 0).toNat)]
  simp
def imN (next:List (List Int)) (f:Nat) (w:List Int):Nat:=w.foldl (fun f l=>stepN (next.getD l.toNat []) f) f
theorem imN_snoc {next:List (List Int)} {f:Nat} {w:List Int} {x:Int}:imN next f (w ++ [x])=stepN (next.getD x.toNat []) (imN next f w):=by simp [imN]
def SndT (next:List (List Int)) (f0:Nat) (L:TS):Prop:=∀ p∈L,p.1=imN next f0 p.2
theorem SndT.vis {next:List (List Int)} {f0 f:Nat} {w:List Int} (hf:f=imN next f0 w):∀ (x:Nat) {L:TS},SndT next f0 L→SndT next f0 (visT next f w x L)
  | 0,_,h=>h
  | x+1,L,h=>by
    have h1:=SndT.vis hf x h
    rw [visT_succ]
    split
    · exact h1
    · intro p hp
      rcases List.mem_append.1 hp with hp | hp
      · exact h1 p hp
      · have hp:p=(stepN (next.getD x []) f,w ++ [(x:Int)]):=by simpa using hp
        rw [hp,imN_snoc,← hf];rfl
theorem SndT.run {next:List (List Int)} {f0:Nat}:∀ (F i:Nat) {L:TS},SndT next f0 L→SndT next f0 (runT next F i L)
  | 0,_,_,h=>h
  | F+1,i,L,h=>by
    simp only [runT]
    split
    · rename_i hi
      exact SndT.run F (i+1) (SndT.vis (h _ (yz2 hi _)) _ h)
    · exact h
theorem visT_pre {next:List (List Int)} {f:Nat} {w:List Int}:∀ (x:Nat) (L:TS),∃ t,visT next f w x L=L ++ t
  | 0,L=>⟨[],by simp [visT]⟩
  | x+1,L=>by
    obtain ⟨t,h⟩:=visT_pre (next:=next) (f:=f) (w:=w) x L
    rw [visT_succ]
    split
    · exact ⟨t,h⟩
    · exact ⟨t ++ [(stepN (next.getD x []) f,w ++ [(x:Int)])],by rw [← List.append_assoc,← h]⟩
theorem hasT_app {L t:TS} {f:Nat} (h:hasT L f=true):hasT (L ++ t) f=true:=by
  rw [hasT_iff] at h ⊢;rw [List.map_append];exact List.mem_append.2 (.inl h)
theorem visT_has {next:List (List Int)} {f:Nat} {w:List Int}:∀ (x:Nat) (L:TS) (y:Nat),y<x→hasT (visT next f w x L) (stepN (next.getD y []) f)=true
  | 0,_,_,h=>by omega
  | x+1,L,y,h=>by
    rw [visT_succ]
    by_cases e:y=x
    · subst e
      split
      · assumption
      · rw [hasT_iff];simp
    · have h1:=visT_has (next:=next) (f:=f) (w:=w) x L y (by omega)
      split
      · exact h1
      · exact hasT_app h1
theorem runT_pre {next:List (List Int)}:∀ (F i:Nat) (L:TS),∃ t,runT next F i L=L ++ t
  | 0,_,L=>⟨[],by simp [runT]⟩
  | F+1,i,L=>by
    simp only [runT]
    split
    · obtain ⟨t,h⟩:=visT_pre (next:=next) (f:=(L.getD i (0,[])).1) (w:=(L.getD i (0,[])).2) next.length L
      obtain ⟨t',h'⟩:=runT_pre (next:=next) F (i+1) (visT next (L.getD i (0,[])).1 (L.getD i (0,[])).2 next.length L)
      exact ⟨t ++ t',by rw [h',h,List.append_assoc]⟩
    · exact ⟨[],by simp⟩
def CloT (next:List (List Int)) (L:TS) (k:Nat):Prop:=∀ j<k,∀ x<next.length,hasT L (stepN (next.getD x []) (L.getD j (0,[])).1)=true
theorem run_clo {n:Int} {next:List (List Int)} (A:Aut n next):∀ (F i:Nat) (L:TS),TI n.toNat next.length L→i≤L.length→1025≤F+i→CloT next L i→CloT next (runT next F i L) (runT next F i L).length
  | 0,i,L,h,hi,hF,hc=>by
    have h1:=h.len
    have:2 ^ n.toNat≤1024:=Nat.pow_le_pow_right (n:=2) (by omega) (show n.toNat≤10 by have:=A.n2;omega)
    omega
  | F+1,i,L,h,hi,hF,hc=>by
    simp only [runT]
    split
    · rename_i hi1
      have h1:=(visT_ok A h hi1 next.length (Nat.le_refl _)).1
      obtain ⟨t,ht⟩:=visT_pre (next:=next) (f:=(L.getD i (0,[])).1) (w:=(L.getD i (0,[])).2) next.length L
      refine run_clo A F (i+1) _ h1 (by rw [ht,List.length_append];omega) (by omega) ?_
      intro j hj x hx
      have hg:(visT next (L.getD i (0,[])).1 (L.getD i (0,[])).2 next.length L).getD j (0,[])=L.getD j (0,[]):=by rw [ht];exact getD_app (by omega) _
      rw [hg]
      by_cases e:j=i
      · subst e;exact visT_has _ _ _ hx
      · have:=hc j (by omega) x hx
        rw [ht];exact hasT_app this
    · have:i=L.length:=by omega
      rw [← this];exact hc
theorem tour_mem {n:Int} {next:List (List Int)} (A:Aut n next) {f:Nat} (hf:f<2 ^ n.toNat):∀ (k:Nat) (w:List Int),w.length=k→(∀ x∈w,0≤x∧x<next.length)→hasT (tourT next f) (imN next f w)=true
  | 0,w,hk,_=>by
    obtain rfl:w=[]:=List.eq_nil_of_length_eq_zero hk
    obtain ⟨t,ht⟩:=runT_pre (next:=next) 1100 0 [(f,[])]
    unfold tourT;rw [ht]
    rw [hasT_iff];simp [imN]
  | k+1,w,hk,hw=>by
    have hne:w≠[]:=fun e=>by rw [e] at hk;simp at hk
    have e:=List.dropLast_concat_getLast hne
    have hl:=hw _ (List.getLast_mem hne)
    have h1:=tour_mem A hf k w.dropLast (by rw [List.length_dropLast];omega) (fun x hx=>hw x (List.dropLast_subset w hx))
    have hc:=run_clo A 1100 0 _ (TI0 (m:=next.length) hf) (by omega) (by omega) (fun j hj=>by omega)
    have hm:=hasT_iff.1 h1
    obtain ⟨p,hp,he⟩:=List.mem_map.1 hm
    obtain ⟨j,hj,hg⟩:=List.getElem_of_mem hp
    have h2:hasT (tourT next f) (stepN (next.getD (w.getLast hne).toNat []) ((tourT next f).getD j (0,[])).1)=true:=hc j hj (w.getLast hne).toNat (by omega)
    have hgd:(tourT next f).getD j (0,[])=p:=by
      rw [List.getD_eq_getElem?_getD,List.getElem?_eq_getElem hj];exact hg
    rw [hgd,he] at h2
    rw [← e,imN_snoc];exact h2
theorem small_bits (f:Nat) (hf:f<1024):smallN f=decide ((bitsN f).length≤1) :=
  have h:∀ f:Fin 1024,smallN f=decide ((bitsN f).length≤1):=by decide +kernel
  h ⟨f,hf⟩
theorem small_iff {f:Nat} (hf:f<1024):smallN f=true↔∀ s∈bitsN f,∀ t∈bitsN f,s=t:=by
  rw [small_bits f hf,decide_eq_true_eq]
  have hn:(bitsN f).Nodup:=List.nodup_range.filter _
  constructor
  · intro h s hs t ht
    match hb:bitsN f with
    | []=>rw [hb] at hs;simp at hs
    | [x]=>rw [hb] at hs ht;simp at hs ht;rw [hs,ht]
    | x :: y :: l=>rw [hb] at h;simp at h
  · intro h
    match hb:bitsN f with
    | []=>simp
    | [x]=>simp
    | x :: y :: l =>
      rw [hb] at hn h
      have:=h x (by simp) y (by simp)
      rw [this] at hn;simp at hn
theorem stepA_bit {n:Int} {next:List (List Int)} (A:Aut n next) {f:Nat} (hf:f<2 ^ n.toNat) {l:Int} (hl:0≤l∧l<next.length) {t:Nat} :
    t∈bitsN (stepN (next.getD l.toNat []) f)↔∃ s∈bitsN f,stepA next (s:Int) l=(t:Int):=by
  have n1:=A.n1
  have n2:=A.n2
  rw [mem_bits,step_bit]
  have key:∀ s∈bitsN f,((next.getD l.toNat []).getD s 0).toNat=t↔stepA next (s:Int) l=(t:Int):=by
    intro s hs
    have h1:=bits_lt hf hs
    have h2:=A.step (s:=(s:Int)) (by omega) hl
    unfold stepA at h2 ⊢
    rw [Int.toNat_natCast] at h2 ⊢
    omega
  constructor
  · rintro ⟨_,s,hs,h⟩
    exact ⟨s,hs,(key s hs).1 h⟩
  · rintro ⟨s,hs,h⟩
    have h1:=bits_lt hf hs
    have h2:=A.step (s:=(s:Int)) (by omega) hl
    refine ⟨by omega,s,hs,(key s hs).2 h⟩
theorem imN_bit {n:Int} {next:List (List Int)} (A:Aut n next):∀ (w:List Int) {f:Nat},f<2 ^ n.toNat→(∀ x∈w,0≤x∧x<next.length)→imN next f w<2 ^ n.toNat∧∀ t:Nat,t∈bitsN (imN next f w)↔∃ s∈bitsN f,atA next (s:Int) w=(t:Int)
  | [],f,hf,_=>by
    refine ⟨hf,fun t=>?_⟩
    simp only [imN,atA,List.foldl_nil]
    constructor
    · intro h;exact ⟨t,h,rfl⟩
    · rintro ⟨s,hs,h⟩
      have:s=t:=by omega
      rw [← this];exact hs
  | l :: w,f,hf,hw=>by
    have hl:=hw l (by simp)
    have hl1:l.toNat<next.length:=by omega
    obtain ⟨h1,h2⟩:=imN_bit A w (stepN_lt A hl1 hf) (fun x hx=>hw x (by simp [hx]))
    refine ⟨h1,fun t=>?_⟩
    have e:imN next f (l :: w)=imN next (stepN (next.getD l.toNat []) f) w:=rfl
    rw [e,h2]
    constructor
    · rintro ⟨s,hs,h⟩
      obtain ⟨s',hs',h'⟩:=(stepA_bit A hf hl).1 hs
      refine ⟨s',hs',?_⟩
      show atA next (stepA next s' l) w=t
      rw [h'];exact h
    · rintro ⟨s',hs',h⟩
      have h3:=bits_lt hf hs'
      have h4:=A.step (s:=(s':Int)) (by omega) hl
      refine ⟨(stepA next (s':Int) l).toNat,(stepA_bit A hf hl).2 ⟨s',hs',by omega⟩,?_⟩
      rw [show (((stepA next (s':Int) l).toNat:Nat):Int)=stepA next (s':Int) l by omega]
      exact h
def CanR (n:Int) (next:List (List Int)):Prop:=∃ w,IsW next.length w∧∀ s t:Int,0≤s∧s<n→0≤t∧t<n→atA next s w=atA next t w
theorem all_bits {n:Int} (hn:1≤n∧n≤10) {s:Nat}:s∈bitsN (2 ^ n.toNat - 1)↔(s:Int)<n:=by
  rw [mem_bits,Nat.testBit_two_pow_sub_one,decide_eq_true_eq];omega
theorem small_can {n:Int} {next:List (List Int)} (A:Aut n next) {w:List Int} (hw:IsW next.length w):smallN (imN next (2 ^ n.toNat - 1) w)=true↔∀ s t:Int,0≤s∧s<n→0≤t∧t<n→atA next s w=atA next t w:=by
  have n1:=A.n1
  have n2:=A.n2
  have hp:=Nat.two_pow_pos n.toNat
  have hN:2 ^ n.toNat≤1024:=Nat.pow_le_pow_right (n:=2) (by omega) (show n.toNat≤10 by omega)
  obtain ⟨h1,h2⟩:=imN_bit A w (f:=2 ^ n.toNat - 1) (by omega) hw
  rw [small_iff (by omega)]
  constructor
  · intro h s t hs ht
    have a0:=A.at (w:=w) hs hw
    have at':=A.at (w:=w) ht hw
    have a1:=(h2 (atA next s w).toNat).2 ⟨s.toNat,(all_bits ⟨n1,n2⟩).2 (by omega),by rw [show ((s.toNat:Nat):Int)=s by omega];omega⟩
    have a2:=(h2 (atA next t w).toNat).2 ⟨t.toNat,(all_bits ⟨n1,n2⟩).2 (by omega),by rw [show ((t.toNat:Nat):Int)=t by omega];omega⟩
    have:=h _ a1 _ a2
    omega
  · intro h s hs t ht
    obtain ⟨s',hs',e1⟩:=(h2 s).1 hs
    obtain ⟨t',ht',e2⟩:=(h2 t).1 ht
    have b1:=(all_bits ⟨n1,n2⟩).1 hs'
    have b2:=(all_bits ⟨n1,n2⟩).1 ht'
    have:=h s' t' (by omega) (by omega)
    omega
theorem tour_can {n:Int} {next:List (List Int)} (A:Aut n next):(firstT (tourT next (2 ^ n.toNat - 1))).isSome=true↔CanR n next:=by
  have hp:=Nat.two_pow_pos n.toNat
  have hf:2 ^ n.toNat - 1<2 ^ n.toNat:=by omega
  have hT:=(runT_ok A 1100 0 _ (TI0 (m:=next.length) hf)).1
  have hS:SndT next (2 ^ n.toNat - 1) (tourT next (2 ^ n.toNat - 1)):=SndT.run 1100 0 (fun p hp=>by
    have:p=(2 ^ n.toNat - 1,[]):=by simpa using hp
    rw [this];rfl)
  unfold firstT
  rw [List.find?_isSome]
  constructor
  · rintro ⟨p,hp,hs⟩
    have hw:=(hT.wd p hp).1
    rw [hS p hp,small_can A hw] at hs
    exact ⟨p.2,hw,hs⟩
  · rintro ⟨w,hw,h⟩
    have h1:=tour_mem A hf w.length w rfl hw
    obtain ⟨p,hp,he⟩:=List.mem_map.1 (hasT_iff.1 h1)
    refine ⟨p,hp,?_⟩
    rw [he,small_can A hw];exact h
theorem fidx_eq {q:Int}:∀ {xs:List Int} (k:Nat),q∈xs→∃ i:Nat,fidx (fun y=>q == y) xs k=((k+i:Nat):Int)∧i<xs.length∧xs.getD i 0=q
  | [],_,h=>by simp at h
  | x :: xs,k,h=>by
    by_cases e:q=x
    · exact ⟨0,by simp [fidx,e],by simp,by simpa using e.symm⟩
    · obtain ⟨i,h1,h2,h3⟩:=fidx_eq (xs:=xs) (k+1) (by simpa [e] using h)
      have e1:(q == x)=false:=beq_false_of_ne e
      refine ⟨i+1,?_,by simp;omega,by simpa using h3⟩
      simp only [fidx,e1,Bool.false_eq_true,if_false,h1]
      congr 1;omega
end Go.Ab
namespace Go.Ab
open Go.Proofs
structure LeastP (n:Int) (next:List (List Int)) (s t:Nat) (ys:List Int):Prop where
  dv:divB ys n=true
  cg:congP next ys
  st:ys.getD s 0=ys.getD t 0
  mn:∀ C:List Int,RspC n.toNat next C C→C.getD s 0=C.getD t 0→∀ i j:Nat,i<n.toNat→j<n.toNat→ys.getD i 0=ys.getD j 0→C.getD i 0=C.getD j 0
theorem allS_getD {n:Int} {i:Nat} (h:(i:Int)<n):(allS n).getD i 0=i:=by
  unfold allS
  rw [List.getD_eq_getElem?_getD,List.getElem?_map,List.getElem?_range (by omega)];rfl
theorem LeastP.of {n:Int} {next:List (List Int)} (A:Aut n next) {s t:Nat} {us ys:List Int} (hs:(s:Int)<n) (ht:(t:Int)<n) (J:JoinP n.toNat next (allS n) s t us) (T:TidP us ys) (hl:ys.length=us.length):LeastP n next s t ys:=by
  have n1:=A.n1
  have hul:us.length=n.toNat:=by rw [J.ln];simp [allS]
  have hal:∀ i j:Nat,i<n.toNat→j<n.toNat→(allS n).getD i 0=(allS n).getD j 0→i=j:=fun i j hi hj e=>by
    rw [allS_getD (by omega),allS_getD (by omega)] at e;omega
  refine ⟨T.div hl (by omega),fun row hrow i j hi hj he=>?_,(T.eq s t (by omega) (by omega)).2 J.st,fun C hC he i j hi hj hij=>?_⟩
  · have hi':i<n.toNat:=by omega
    have hj':j<n.toNat:=by omega
    have h1:=J.cg us LeC.refl (fun row _ a b ha hb e=>by rw [hal a b ha hb e]) row hrow i j hi' hj' ((T.eq i j hi hj).1 he)
    have hr:=A.row row hrow
    have r1:=hr.2 _ (yz2 (show i<row.length by omega) 0)
    have r2:=hr.2 _ (yz2 (show j<row.length by omega) 0)
    exact (T.eq _ _ (by omega) (by omega)).2 h1
  · exact J.mn C hC (fun a b ha hb e=>by rw [hal a b ha hb e]) he i j hi hj ((T.eq i j (by omega) (by omega)).1 hij)
theorem k_LeastCongruence_1 (n:Int) (next:List (List Int)) (s t:Int) (hn:1≤n∧n≤10):Fun Try.prog nzp [autP n next,.rp [iv s] 0,.rp [iv t] 0] (bv ((decide (0≤s) && decide (s≤n - 1)) && (decide (0≤t) && decide (t≤n - 1)))):=by
  refine fun_of mixed czev rfl ⟨rfl,trivial⟩ ?_
  simp only [Bz97,Az98,go_sem,yz0,xx9,xx8,xx6,xx7,xx5,xx0,xx1,xx2,reduceIte,xx3,xx4,reduceCtorEq]
  intro vs
  refine yzi (k_isState n next s hn) qCS trivial ?_
  cases h:(decide (0≤s) && decide (s≤n - 1)) with
  | false=>simp only [Bool.false_and,go_sem,yz0,xx9,xx8,xx6,xx7,xx5,xx0,xx1,xx2,reduceIte,xx3,xx4,reduceCtorEq]
  | true =>
    simp only [Bool.true_and,go_sem,yz0,xx9,xx8,xx6,xx7,xx5,xx0,xx1,xx2,reduceIte,xx3,xx4,reduceCtorEq]
    refine yzi (k_isState n next t hn) qCS trivial ?_
    simp only [go_sem,yz0,xx9,xx8,xx6,xx7,xx5,xx0,xx1,xx2,reduceIte,xx3,xx4,reduceCtorEq]
theorem k_LeastCongruence (n:Int) (next:List (List Int)) (A:Aut n next) (s t:Int) (hs:0≤s∧s<n) (ht:0≤t∧t<n) :
    Fn Try.prog nz2a [autA n next,iv s,iv t] fun rows res=>∃ v ys,LeastP n next s.toNat t.toNat ys∧rows=[.row v 1 true (ints ys)]∧res=.tup [.own 6000 v,iv 0]:=by
  refine con_of mixed czel rfl (by simp) ?_
  have n1:=A.n1
  have n2:=A.n2
  have hv:autB n next=true:=autB_iff.2 A
  have hb:((decide (0≤s) && decide (s≤n - 1)) && (decide (0≤t) && decide (t≤n - 1)))=true:=by simp only [Bool.and_eq_true,decide_eq_true_eq];omega
  have e0:codeI true true=0:=by simp [codeI]
  have e1:((0:Int) != 0)=false:=rfl
  generalize hQ:finQ _=Q
  simp only [Az36,Bz79,go_sem,yz0,xx9,xx8,xx6,xx7,xx5,xx0,xx1,xx2,reduceIte,xx3,xx4,reduceCtorEq]
  intro vs vs2
  refine yzi (k_code n next nzp [autP n next,.rp [iv s] 0,.rp [iv t] 0] _ ⟨by simp only [go_sem,yz0,xx9,xx8,xx6,xx7,xx5,xx0,xx1,xx2,reduceIte,xx3,xx4,reduceCtorEq],by intros;simp only [rowIs,boxIs,coe_argN,coe_argNs,coe_ro_o,coeL_nil,yz5,coe_any,coe_val,coe_ro,coe_ro_nil,coe_ro_own,coe_st,coe_st_agg,coe_rp,coe_rp_ptr,coe_clo,coe_own0,coe_ptr0,coeL_intsK,coeL_rws,coeL_rwn,L_hit,L_miss,L_nil,xx3,ne_eq,reduceCtorEq,not_false_eq_true,true_and,and_true,and_self,exists_eq_left,exists_eq_right,List.mem_cons,List.not_mem_nil,or_false,AObj.row.injEq,AObj.box.injEq,exists_eq_left',exists_and_left,exists_eq,Nat.zero_lt_one,Nat.lt_add_one,List.map_cons,List.map_nil,AObj.ver,xx5,not_true_eq_false]⟩ (fun _=>k_LeastCongruence_1 n next s t ⟨n1,n2⟩)) qCS trivial ?_
  rw [hv,hb]
  simp only [e0,e1,Bz73,Bz72,Bz78,go_sem,yz0,xx9,xx8,xx6,xx7,xx5,xx0,xx1,xx2,reduceIte,xx3,xx4,reduceCtorEq]
  intro vs3
  refine call_rowI (k_action n next [] A (by intro x hx;simp at hx)) (by simp only [List.map_nil,rowIs,boxIs,coe_argN,coe_argNs,coe_ro_o,coeL_nil,yz5,coe_any,coe_val,coe_ro,coe_ro_nil,coe_ro_own,coe_st,coe_st_agg,coe_rp,coe_rp_ptr,coe_clo,coe_own0,coe_ptr0,coeL_intsK,coeL_rws,coeL_rwn,L_hit,L_miss,L_nil,xx3,ne_eq,reduceCtorEq,not_false_eq_true,true_and,and_true,and_self,exists_eq_left,exists_eq_right,List.mem_cons,List.not_mem_nil,or_false,AObj.row.injEq,AObj.box.injEq,exists_eq_left',exists_and_left,exists_eq,Nat.zero_lt_one,Nat.lt_add_one,List.map_cons,List.map_nil,AObj.ver,xx5,not_true_eq_false]) qWS ⟨_,rfl⟩ ?_
  rintro xs v rfl
  have hact:actA n next []=allS n:=rfl
  rw [hact]
  simp only [Bz77,go_sem,yz0,xx9,xx8,xx6,xx7,xx5,xx0,xx1,xx2,reduceIte,xx3,xx4,reduceCtorEq]
  intro vs4
  simp only [Bz76,Bz75,go_sem,yz0,xx9,xx8,xx6,xx7,xx5,xx0,xx1,xx2,reduceIte,xx3,xx4,reduceCtorEq]
  intro vs5
  have hal:((allS n).length:Int)=n:=by simp [allS];omega
  have hax:∀ x∈allS n,0≤x∧x<n:=fun x hx=>by
    simp only [allS,List.mem_map,List.mem_range] at hx
    obtain ⟨i,hi,rfl⟩:=hx
    omega
  refine call_join (n:=n) (next:=next) (cl:=allS n) (r0:=9) (r1:=18) (r2:=3) (r3:=10) (v0:=vs3 2 0) (v1:=v) (v2:=vs 0 0) (v3:=vs4 0 0) (k_join n next A _ (allS n) s t (Nat.le_refl _) hal hax hs ht) (by simp) (by simp only [go_sem,yz0,xx9,xx8,xx6,xx7,xx5,xx0,xx1,xx2,reduceIte,xx3,xx4,reduceCtorEq]) (by simp only [go_sem,yz0,xx9,xx8,xx6,xx7,xx5,xx0,xx1,xx2,reduceIte,xx3,xx4,reduceCtorEq]) (by simp only [go_sem,yz0,xx9,xx8,xx6,xx7,xx5,xx0,xx1,xx2,reduceIte,xx3,xx4,reduceCtorEq]) (by simp only [go_sem,yz0,xx9,xx8,xx6,xx7,xx5,xx0,xx1,xx2,reduceIte,xx3,xx4,reduceCtorEq]) ?_
  intro us J
  have hul:us.length=(allS n).length:=J.ln
  simp only [Bz74,go_sem,yz0,xx9,xx8,xx6,xx7,xx5,xx0,xx1,xx2,reduceIte,xx3,xx4,reduceCtorEq]
  intro vs6
  refine call_rowI (k_numberedD us (by omega)) qCS qWS (tid_ex us) ?_
  rintro ys v25 ⟨T,hyl⟩
  simp only [← hQ,Az36,go_sem,yz0,xx9,xx8,xx6,xx7,xx5,xx0,xx1,xx2,reduceIte,xx3,xx4,reduceCtorEq]
  have LP:LeastP n next s.toNat t.toNat ys:=LeastP.of A (by omega) (by omega) J T hyl
  refine ⟨[25],by simp,by simp,by simp,by simp [AVal.fresh,freshL],by simp [go_sem,yz0,xx9,xx8,xx6,xx7,xx5,xx0,xx1,xx2,reduceIte,xx3,xx4,reduceCtorEq,Nat.not_lt_zero,range1,ren_val,ren_any,ren_ro,rnNm_n,rnNm_sn,rnNm_o,rnNm_s,ren_st,ren_tup,renL_nil,yzj,yz9,renL_rws,renL_rwn,oren_box,oren_row,oren_map,yze,yzf,yzd,yzg,yzo,yzl,yz6,yza,yzb,yzc,yzn,yzm,List.range_zero,yz8,yz7,yzh,gone_nil,gone_one,gone_two,AVal.fresh,freshL,yz4,yzp,AObj.fresh,id,Option.isSome_some,or_true,true_or],by simp,by simp,v25,ys,LP,?_,?_⟩
  · simp only [Nat.not_lt_zero,range1,ren_val,ren_any,ren_ro,rnNm_n,rnNm_sn,rnNm_o,rnNm_s,ren_st,ren_tup,renL_nil,yzj,yz9,renL_rws,renL_rwn,oren_box,oren_row,oren_map,yze,yzf,yzd,yzg,yzo,yzl,yz6,yza,yzb,yzc,yzn,yzm,List.range_zero,yz8,yz7,yzh,gone_nil,gone_one,gone_two,AVal.fresh,freshL,yz4,yzp,AObj.fresh,id,Option.isSome_some,or_true,true_or,go_sem,yz0,xx9,xx8,xx6,xx7,xx5,xx0,xx1,xx2,reduceIte,xx3,xx4,reduceCtorEq]
  · simp only [Nat.not_lt_zero,range1,ren_val,ren_any,ren_ro,rnNm_n,rnNm_sn,rnNm_o,rnNm_s,ren_st,ren_tup,renL_nil,yzj,yz9,renL_rws,renL_rwn,oren_box,oren_row,oren_map,yze,yzf,yzd,yzg,yzo,yzl,yz6,yza,yzb,yzc,yzn,yzm,List.range_zero,yz8,yz7,yzh,gone_nil,gone_one,gone_two,AVal.fresh,freshL,yz4,yzp,AObj.fresh,id,Option.isSome_some,or_true,true_or,go_sem,yz0,xx9,xx8,xx6,xx7,xx5,xx0,xx1,xx2,reduceIte,xx3,xx4,reduceCtorEq]
theorem quo_at {n k:Int} {next:List (List Int)} (A:Aut n next) {cl:List Int} (D:Div cl n k) (C:congP next cl):∀ (w:List Int) {s:Int},0≤s∧s<n→IsW next.length w →
    atA (quoL cl k.toNat next) (cl.getD s.toNat 0) w=cl.getD (atA next s w).toNat 0
  | [],s,_,_=>rfl
  | l :: w,s,hs,hw=>by
    have hl:=hw l (by simp)
    have hll:l.toNat<next.length:=by omega
    have h1:=quo_step A D C (yz2 hll []) (s:=s.toNat) (by omega)
    have h2:=(A.step hs hl).2.2
    have ih:=quo_at A D C w h2 (fun x hx=>hw x (by simp [hx]))
    have e1:atA (quoL cl k.toNat next) (cl.getD s.toNat 0) (l :: w)=atA (quoL cl k.toNat next) (stepA (quoL cl k.toNat next) (cl.getD s.toNat 0) l) w:=rfl
    have e2:atA next s (l :: w)=atA next (stepA next s l) w:=rfl
    have e3:stepA (quoL cl k.toNat next) (cl.getD s.toNat 0) l=cl.getD (stepA next s l).toNat 0:=by
      unfold stepA
      rw [quoL_getD hll];exact h1
    rw [e1,e2,e3];exact ih
theorem quo_can {n k:Int} {next:List (List Int)} (A:Aut n next) {cl:List Int} (D:Div cl n k) (C:congP next cl) (h:CanR n next):CanR k (quoL cl k.toNat next):=by
  obtain ⟨w,hw,hc⟩:=h
  refine ⟨w,by simpa [quoL] using hw,fun c d hc1 hd1=>?_⟩
  obtain ⟨_,g2,g3⟩:=fst_ok (D.on c hc1.1 hc1.2)
  obtain ⟨_,f2,f3⟩:=fst_ok (D.on d hd1.1 hd1.2)
  have hln:=D.ln
  have q1:=quo_at A D C w (s:=(fstI cl c:Int)) (by omega) hw
  have q2:=quo_at A D C w (s:=(fstI cl d:Int)) (by omega) hw
  rw [Int.toNat_natCast,g3] at q1
  rw [Int.toNat_natCast,f3] at q2
  have h1:=hc (fstI cl c:Int) (fstI cl d:Int) (by omega) (by omega)
  rw [q1,q2,h1]
end Go.Ab
namespace Go.Ab
open Go.Proofs
abbrev fv (f:Nat):AVal:=.val (.int .u64 (f:Int))
theorem u64w {n:Nat} (h:n<18446744073709551616):IntKind.u64.wrap (n:Int)=n:=IntWalk.u64_in _ (by omega)
theorem bv64 {x:Nat} (h:x<18446744073709551616):(BitVec.ofInt 64 (x:Int)).toNat=x:=by
  rw [BitVec.ofInt_natCast,BitVec.toNat_ofNat,Nat.mod_eq_of_lt h]
theorem u_or {x y:Nat} (hx:x<18446744073709551616) (hy:y<18446744073709551616) :
    IntKind.u64.wrap ((BitVec.ofInt 64 (x:Int) ||| BitVec.ofInt 64 (y:Int)).toNat)=((x ||| y:Nat):Int):=by
  have h:(BitVec.ofInt 64 (x:Int) ||| BitVec.ofInt 64 (y:Int)).toNat=x ||| y:=by rw [BitVec.toNat_or,bv64 hx,bv64 hy]
  show IntKind.u64.wrap ((BitVec.ofInt 64 (x:Int) ||| BitVec.ofInt 64 (y:Int)).toNat:Int)=_
  rw [h];exact u64w (Nat.or_lt_two_pow (n:=64) hx hy)
theorem u_and {x y:Nat} (hx:x<18446744073709551616) (hy:y<18446744073709551616) :
    IntKind.u64.wrap ((BitVec.ofInt 64 (x:Int) &&& BitVec.ofInt 64 (y:Int)).toNat)=((x &&& y:Nat):Int):=by
  have h:(BitVec.ofInt 64 (x:Int) &&& BitVec.ofInt 64 (y:Int)).toNat=x &&& y:=by rw [BitVec.toNat_and,bv64 hx,bv64 hy]
  show IntKind.u64.wrap ((BitVec.ofInt 64 (x:Int) &&& BitVec.ofInt 64 (y:Int)).toNat:Int)=_
  rw [h];exact u64w (Nat.lt_of_le_of_lt Nat.and_le_left hx)
theorem u_and1 {x:Nat} (hx:x<18446744073709551616) :
    IntKind.u64.wrap ((@HAnd.hAnd (BitVec 64) (BitVec 64) (BitVec 64) (@instHAndOfAndOp (BitVec IntKind.u64.bits) (@BitVec.instAndOp IntKind.u64.bits)) (BitVec.ofInt 64 (x:Int)) (BitVec.ofInt 64 1)).toNat)=((x &&& 1:Nat):Int):=u_and (y:=1) hx (by omega)
theorem u_andW {x y:Nat} (hx:x<18446744073709551616) (hy:y<18446744073709551616) :
    IntKind.u64.wrap ((@HAnd.hAnd (BitVec 64) (BitVec 64) (BitVec 64) (@instHAndOfAndOp (BitVec IntKind.u64.bits) (@BitVec.instAndOp IntKind.u64.bits)) (BitVec.ofInt 64 (x:Int)) (BitVec.ofInt 64 (y:Int))).toNat)=((x &&& y:Nat):Int):=u_and hx hy
theorem u_orW {x y:Nat} (hx:x<18446744073709551616) (hy:y<18446744073709551616) :
    IntKind.u64.wrap ((@HOr.hOr (BitVec 64) (BitVec 64) (BitVec 64) (@instHOrOfOrOp (BitVec IntKind.u64.bits) (@BitVec.instOrOp IntKind.u64.bits)) (BitVec.ofInt 64 (x:Int)) (BitVec.ofInt 64 (y:Int))).toNat)=((x ||| y:Nat):Int):=u_or hx hy
theorem u_shl {b:Nat} (h:b<64):IntKind.u64.wrap (1 * 2 ^ min b 64)=((2 ^ b:Nat):Int):=by
  have h1:min b 64=b:=by omega
  have h2:(2:Int) ^ b=((2 ^ b:Nat):Int):=by simp
  rw [h1,Int.one_mul,h2]
  exact u64w (Nat.pow_lt_pow_right (a:=2) (n:=64) (by omega) h)
theorem u_shr {f s:Nat} (h:s≤64):((f:Int)).fdiv (2 ^ min s 64)=((f >>> s:Nat):Int):=by
  have h1:min s 64=s:=by omega
  have h2:(2:Int) ^ s=((2 ^ s:Nat):Int):=by simp
  rw [h1,h2,Nat.shiftRight_eq_div_pow,Int.fdiv_eq_ediv_of_nonneg _ (Int.natCast_nonneg _)]
  rfl
def bitsTo (f s:Nat):List Int:=((List.range s).filter fun k=>f.testBit k).map fun (k:Nat)=>(k:Int)
theorem bitsTo_succ {f s:Nat}:bitsTo f (s+1)=if f.testBit s=true then bitsTo f s ++ [(s:Int)] else bitsTo f s:=by
  unfold bitsTo
  rw [List.range_succ,List.filter_append]
  cases h:f.testBit s with
  | true=>simp [h]
  | false=>simp [h]
theorem bitsTo_len {f s:Nat}:(bitsTo f s).length≤s:=by
  unfold bitsTo
  rw [List.length_map]
  have:=List.length_filter_le (fun k=>f.testBit k) (List.range s)
  rw [List.length_range] at this;exact this
theorem bitsTo_add {f s:Nat} (h:f<2 ^ s):∀ d,bitsTo f (s+d)=bitsTo f s
  | 0=>rfl
  | d+1=>by
    rw [show s+(d+1)=s+d+1 by omega,bitsTo_succ,Nat.testBit_lt_two_pow (Nat.lt_of_lt_of_le h (Nat.pow_le_pow_right (by omega) (by omega))),if_neg (by simp),bitsTo_add h d]
theorem dec_beqN {a k:Nat}:decide (a=k)=Nat.beq a k:=by
  rw [Bool.eq_iff_iff,decide_eq_true_iff,Nat.beq_eq]
theorem shr_zero {f s:Nat}:f >>> s=0↔f<2 ^ s:=by
  rw [Nat.shiftRight_eq_div_pow,Nat.div_eq_zero_iff]
  have:=Nat.two_pow_pos s
  omega
theorem k_flock_set (f:Nat) (h:f<1024):RowI Try.prog nz2r [fv f] (fun ys=>ys=bitsTo f 10):=by
  refine rowI_of mixed czfn rfl ?_
  simp only [Azd6,Bzd5,Bzd4,Bzd2,go_sem,yz0,xx9,xx8,xx6,xx7,xx5,xx0,xx1,xx2,reduceIte,xx3,xx4,reduceCtorEq]
  intro vs
  refine wpD_lo (fun (_,s)=>10 - s) (fun (_,s)=>s≤10) (fun ((v,s):Nat×Nat)=>⟨L .any [(0,fv f),(3,.own 5 v),(4,iv s)],L .gone [(5,.row v 1 true (ints (bitsTo f s)))]⟩)
    (_,0) (by simp) (by simp only [Bzj,go_sem,yz0,xx9,xx8,xx6,xx7,xx5,xx0,xx1,xx2,reduceIte,xx3,xx4,reduceCtorEq];try rfl) ?_
  rintro ⟨v,s⟩ hs
  have hs:s≤10:=hs
  have hs0:¬ ((s:Nat):Int)<0:=by omega
  have hsh:=u_shr (f:=f) (s:=s) (by omega)
  have hlt:f >>> s<18446744073709551616:=by rw [Nat.shiftRight_eq_div_pow];exact Nat.lt_of_le_of_lt (Nat.div_le_self _ _) (by omega)
  by_cases hz:(0:Int)<((f >>> s:Nat):Int)
  · have hs10:s<10:=by
      by_cases e:s<10
      · exact e
      · have:f >>> s=0:=shr_zero.2 (Nat.lt_of_lt_of_le (show f<2 ^ 10 from h) (Nat.pow_le_pow_right (by omega) (by omega)))
        omega
    have hand:=u_and1 hlt
    have hbit:((((f >>> s &&& 1:Nat):Int)) == 1)=f.testBit s:=by
      rw [Nat.testBit_eq_decide_div_mod_eq,Nat.and_one_is_mod,Nat.shiftRight_eq_div_pow,Bool.eq_iff_iff,beq_iff_eq,decide_eq_true_iff]
      generalize f / 2 ^ s % 2=q
      omega
    have w1:IntKind.i64.wrap ((s:Int)+1)=((s+1:Nat):Int):=by rw [w64 (by omega)];simp
    cases hb:f.testBit s with
    | true =>
      rw [hb] at hbit
      have hr:bitsTo f s ++ [(s:Int)]=bitsTo f (s+1):=by rw [bitsTo_succ,if_pos hb]
      have hl:=bitsTo_len (f:=f) (s:=s)
      simp only [Bzj,Bz21,Bz22,Bz5l,Bz5m,hs0,hsh,hand,hbit,w1,hr,decide_eq_true hz,go_sem,yz0,xx9,xx8,xx6,xx7,xx5,xx0,xx1,xx2,reduceIte,xx3,xx4,reduceCtorEq]
      intro vs2
      exact ⟨⟨_,rfl,rfl⟩,by omega,(_,s+1),by dsimp only;omega,by dsimp only;omega,rfl⟩
    | false =>
      rw [hb] at hbit
      have hr:bitsTo f s=bitsTo f (s+1):=by rw [bitsTo_succ,if_neg (by simp [hb])]
      simp only [Bzj,Bz21,Bz22,Bz5l,Bz5m,hs0,hsh,hand,hbit,w1,decide_eq_true hz,go_sem,yz0,xx9,xx8,xx6,xx7,xx5,xx0,xx1,xx2,reduceIte,xx3,xx4,reduceCtorEq]
      refine ⟨(v,s+1),by dsimp only;omega,by dsimp only;omega,?_⟩
      dsimp only
      rw [← hr]
  · have he:bitsTo f 10=bitsTo f s:=by
      have h1:f >>> s=0:=Nat.eq_zero_of_not_pos fun e=>hz (Int.natCast_pos.2 e)
      have h2:=bitsTo_add (shr_zero.1 h1) (10 - s)
      rw [show s+(10 - s)=10 by omega] at h2;exact h2
    simp only [Bzj,Bz21,Bz22,Bzd3,hs0,hsh,decide_eq_false hz,he,go_sem,yz0,xx9,xx8,xx6,xx7,xx5,xx0,xx1,xx2,reduceIte,xx3,xx4,reduceCtorEq]
    exact ⟨5,v,_,by omega,rfl,by simp only [go_sem,yz0,xx9,xx8,xx6,xx7,xx5,xx0,xx1,xx2,reduceIte,xx3,xx4,reduceCtorEq],rfl⟩
theorem getD_snoc {α β:Type} (xs:List α) (g:β→α→β) (o:β) (d:α) {i:Nat} (h:i<xs.length):g ((xs.take i).foldl g o) (xs.getD i d)=(xs.take (i+1)).foldl g o:=by
  rw [List.take_succ_eq_append_getElem h,List.foldl_append,List.getD_eq_getElem?_getD,List.getElem?_eq_getElem h];rfl
theorem maskN_lt {set:List Int} (h:∀ s∈set,0≤s∧s<10):maskN set<1024:=fold_lt (fun s:Int=>s.toNat) set 0 (fun x hx=>by have:=h x hx;omega) (by omega)
theorem k_flockOf (set:List Int) (h:∀ s∈set,0≤s∧s<10):Fun Try.prog nz2p [.ro none 1 (ints set)] (fv (maskN set)):=by
  refine fun_of mixed czfj rfl ⟨rfl,trivial⟩ ?_
  simp only [Azcv,Bzcu,Bzct,Bzcr,go_sem,yz0,xx9,xx8,xx6,xx7,xx5,xx0,xx1,xx2,reduceIte,xx3,xx4,reduceCtorEq]
  intro hM
  have hM2:=maxLen_le
  refine wpD_lo (fun i=>set.length - i) (fun i=>i≤set.length)
    (fun i:Nat=>⟨L .any [(3,fv (maskN (set.take i))),(6,.ro none 1 (ints set)),(7,iv set.length),(8,iv i)],L .gone []⟩) 0 (by simp) (by simp only [Bz20,go_sem,yz0,xx9,xx8,xx6,xx7,xx5,xx0,xx1,xx2,reduceIte,xx3,xx4,reduceCtorEq];try rfl) ?_
  rintro i hi
  by_cases hlt:(i:Int)<set.length
  · have hlt1:i<set.length:=by omega
    have hs:=h _ (yz2 hlt1 0)
    have hs0:¬ set.getD i 0<0:=by omega
    have h1:=maskN_lt (set:=set.take i) (fun s hs=>h s (List.mem_of_mem_take hs))
    have h2:=pow_lt10 (k:=(set.getD i 0).toNat) (by omega)
    have hsl:=u_shl (b:=(set.getD i 0).toNat) (by omega)
    have hor:=u_orW (x:=maskN (set.take i)) (y:=2 ^ (set.getD i 0).toNat) (by omega) (by omega)
    have hr:maskN (set.take i) ||| 2 ^ (set.getD i 0).toNat=maskN (set.take (i+1)):=getD_snoc set (fun o s=>o ||| 2 ^ s.toNat) 0 0 hlt1
    simp only [Bz20,Bz5e,Bz5d,Bzcp,Bzcq,yz1 hlt1,hs0,hsl,hor,hr,nat1 i _ hlt1 hM,decide_eq_true hlt,go_sem,yz0,xx9,xx8,xx6,xx7,xx5,xx0,xx1,xx2,reduceIte,xx3,xx4,reduceCtorEq]
    exact ⟨⟨by omega,hlt1⟩,hlt1,i+1,by omega,by omega,rfl⟩
  · have:i=set.length:=by omega
    subst this
    simp only [Bz20,Bz5e,Bz5d,Bzcs,decide_eq_false hlt,List.take_length,go_sem,yz0,xx9,xx8,xx6,xx7,xx5,xx0,xx1,xx2,reduceIte,xx3,xx4,reduceCtorEq]
theorem k_isSmall (f:Nat) (h:f<1024):Fun Try.prog nz3 [fv f] (bv (smallN f)):=by
  refine fun_of mixed czfk rfl ⟨rfl,trivial⟩ ?_
  by_cases h0:f=0
  · subst h0
    simp only [Az5k,Bz5j,go_sem,yz0,xx9,xx8,xx6,xx7,xx5,xx0,xx1,xx2,reduceIte,xx3,xx4,reduceCtorEq]
    rfl
  · have e:IntKind.u64.wrap ((f:Int) - 1)=((f - 1:Nat):Int):=by rw [show (f:Int) - 1=((f - 1:Nat):Int) by omega];exact u64w (by omega)
    have hand:=u_andW (x:=f) (y:=f - 1) (by omega) (by omega)
    have hb:((((f &&& (f - 1):Nat)):Int) == 0)=smallN f:=by
      unfold smallN
      rw [← dec_beqN,Bool.eq_iff_iff,beq_iff_eq,decide_eq_true_iff];omega
    simp only [Az5k,Bz5j,e,hand,hb,go_sem,yz0,xx9,xx8,xx6,xx7,xx5,xx0,xx1,xx2,reduceIte,xx3,xx4,reduceCtorEq]
theorem k_IndexFuncF (xs:List Nat) (g:FuncId) (caps:List AVal) (p:Nat→Bool) (hc:Caps caps) (h:∀ x∈xs,Fun Try.prog g (fv x :: caps) (bv (p x))) :
    Fun Try.prog nz10 [.ro none 1 (intsK .u64 (xs.map fun (x:Nat)=>(x:Int))),.clo g caps] (iv (fidx p xs 0)):=by
  refine fun_of mixed czfv rfl ⟨rfl,trivial⟩ ?_
  simp only [Aze1,Bze0,hc.dn,go_sem,yz0,xx9,xx8,xx6,xx7,xx5,xx0,xx1,xx2,reduceIte,xx3,xx4,reduceCtorEq]
  intro hM
  have hM2:=maxLen_le
  have hM:(xs.length:Int)≤maxLen:=by simpa using hM
  simp only [Bzdy,hc.dn,go_sem,yz0,xx9,xx8,xx6,xx7,xx5,xx0,xx1,xx2,reduceIte,xx3,xx4,reduceCtorEq]
  refine wpD_lo (fun i=>xs.length - i) (fun i=>i≤xs.length∧fidx p (xs.drop i) i=fidx p xs 0)
    (fun i:Nat=>⟨L .any [(0,.ro none 1 (intsK .u64 (xs.map fun (x:Nat)=>(x:Int)))),(1,.clo g caps),(7,iv xs.length),(8,iv i)],L .gone []⟩) 0 (by simp) (by simp only [Bz24,hc.dn,go_sem,yz0,xx9,xx8,xx6,xx7,xx5,xx0,xx1,xx2,reduceIte,xx3,xx4,reduceCtorEq];try rfl) ?_
  rintro i ⟨hi,he⟩
  by_cases hlt:(i:Int)<xs.length
  · have hlt':i<xs.length:=by omega
    have hlm:i<(xs.map fun (x:Nat)=>(x:Int)).length:=by simpa using hlt'
    have hg:(xs.map fun (x:Nat)=>(x:Int)).getD i 0=((xs.getD i 0:Nat):Int):=by
      rw [List.getD_eq_getElem?_getD,List.getElem?_map,List.getElem?_eq_getElem hlt',List.getD_eq_getElem?_getD,List.getElem?_eq_getElem hlt'];rfl
    have w1:IntKind.i64.wrap ((i:Int)+1)=((i+1:Nat):Int):=by rw [w64 (by omega)];simp
    rw [drop_getD hlt' 0] at he
    simp only [fidx] at he
    simp only [Bz24,Bz5p,Bz5o,Bzdw,yz1 hlm,hg,decide_eq_true hlt,hc.dn,go_sem,yz0,xx9,xx8,xx6,xx7,xx5,xx0,xx1,xx2,reduceIte,xx3,xx4,reduceCtorEq]
    intro vs
    refine ⟨⟨by omega,hlt'⟩,hlt',?_⟩
    refine yzi (h _ (yz2 hlt' 0)) (by simp only [rowIs,boxIs,coe_argN,coe_argNs,coe_ro_o,coeL_nil,yz5,coe_any,coe_val,coe_ro,coe_ro_nil,coe_ro_own,coe_st,coe_st_agg,coe_rp,coe_rp_ptr,coe_clo,coe_own0,coe_ptr0,coeL_intsK,coeL_rws,coeL_rwn,L_hit,L_miss,L_nil,xx3,ne_eq,reduceCtorEq,not_false_eq_true,true_and,and_true,and_self,exists_eq_left,exists_eq_right,List.mem_cons,List.not_mem_nil,or_false,AObj.row.injEq,AObj.box.injEq,exists_eq_left',exists_and_left,exists_eq,Nat.zero_lt_one,Nat.lt_add_one,List.map_cons,List.map_nil,AObj.ver,xx5,not_true_eq_false];exact hc.coe _ _ _) trivial ?_
    simp only [Bzdv,Bzdx,w1,hc.dn,go_sem,yz0,xx9,xx8,xx6,xx7,xx5,xx0,xx1,xx2,reduceIte,xx3,xx4,reduceCtorEq]
    refine ⟨fun hp=>?_,fun hp=>⟨i+1,by omega,⟨by omega,?_⟩,rfl⟩⟩
    · rw [hp] at he;simp at he;rw [← he]
    · rw [hp] at he;simpa using he
  · have:i=xs.length:=by omega
    subst this
    rw [List.drop_length] at he
    simp only [fidx] at he
    simp only [Bz24,Bz5p,Bz5o,Bzdz,decide_eq_false hlt,hc.dn,go_sem,yz0,xx9,xx8,xx6,xx7,xx5,xx0,xx1,xx2,reduceIte,xx3,xx4,reduceCtorEq]
    rw [← he]
def stepTo (row set:List Int):Nat:=set.foldl (fun o s=>o ||| 2 ^ (row.getD s.toNat 0).toNat) 0
theorem stepTo_all {row:List Int} {f:Nat}:stepTo row (bitsTo f 10)=stepN row f:=by
  unfold stepTo stepN bitsTo bitsN
  rw [List.foldl_map]
  rfl
theorem k_step (n:Int) (next:List (List Int)) (A:Aut n next) (f l:Nat) (hf:f<2 ^ n.toNat) (hl:l<next.length) :
    Fun Try.prog nz2v [autA n next,fv f,iv l] (fv (stepN (next.getD l []) f)):=by
  refine fun_of mixed czft rfl ⟨rfl,trivial⟩ ?_
  have n1:=A.n1
  have n2:=A.n2
  have hf10:f<1024:=Nat.lt_of_lt_of_le hf (Nat.pow_le_pow_right (by omega) (show n.toNat≤10 by omega))
  have hrow:=A.row _ (yz2 hl [])
  have hset:∀ s∈bitsTo f 10,0≤s∧s<n:=fun s hs=>by
    unfold bitsTo at hs
    obtain ⟨k,hk,rfl⟩:=List.mem_map.1 hs
    have:=bits_lt hf (show k∈bitsN f from hk)
    omega
  have hto:∀ s∈bitsTo f 10,((next.getD l []).getD s.toNat 0).toNat<10:=fun s hs=>by
    have h1:=hset s hs
    have:=hrow.2 _ (yz2 (show s.toNat<(next.getD l []).length by omega) 0)
    omega
  simp only [Azdq,Bzdp,go_sem,yz0,xx9,xx8,xx6,xx7,xx5,xx0,xx1,xx2,reduceIte,xx3,xx4,reduceCtorEq]
  intro vs
  simp only [Bzdo,go_sem,yz0,xx9,xx8,xx6,xx7,xx5,xx0,xx1,xx2,reduceIte,xx3,xx4,reduceCtorEq]
  intro vs2
  refine call_rowI (k_flock_set f hf10) qCS rfl ⟨_,rfl⟩ ?_
  rintro ys v rfl
  simp only [Bzdm,go_sem,yz0,xx9,xx8,xx6,xx7,xx5,xx0,xx1,xx2,reduceIte,xx3,xx4,reduceCtorEq]
  intro hM
  have hM2:=maxLen_le
  generalize hS:bitsTo f 10=set at hset hto hM ⊢
  refine wpD_lo (fun i=>set.length - i) (fun i=>i≤set.length)
    (fun i:Nat=>⟨L .any [(2,iv l),(3,.ptr 3 (vs 0 0) 0),(7,fv (stepTo (next.getD l []) (set.take i))),(11,.own 11 v),(12,iv set.length),(13,iv i)],L .gone [(3,.box (vs 0 0) [iv n,.ro none 1 (rwn next)]),(11,.row v 1 true (ints set))]⟩) 0 (by simp) (by simp only [Bz23,go_sem,yz0,xx9,xx8,xx6,xx7,xx5,xx0,xx1,xx2,reduceIte,xx3,xx4,reduceCtorEq];try rfl) ?_
  rintro i hi
  by_cases hlt:(i:Int)<set.length
  · have hlt1:i<set.length:=by omega
    have hs:=hset _ (yz2 hlt1 0)
    have ht:=hto _ (yz2 hlt1 0)
    have hc:(set.getD i 0).toNat<(next.getD l []).length:=by omega
    have hv:=hrow.2 _ (yz2 hc 0)
    have hs0:¬ (next.getD l []).getD (set.getD i 0).toNat 0<0:=by omega
    have h1:stepTo (next.getD l []) (set.take i)<1024:=fold_lt (fun s:Int=>((next.getD l []).getD s.toNat 0).toNat) (set.take i) 0 (fun x hx=>hto x (List.mem_of_mem_take hx)) (by omega)
    have h2:=pow_lt10 ht
    have hsl:=u_shl (b:=((next.getD l []).getD (set.getD i 0).toNat 0).toNat) (by omega)
    have hor:=u_orW (x:=stepTo (next.getD l []) (set.take i)) (y:=2 ^ ((next.getD l []).getD (set.getD i 0).toNat 0).toNat) (by omega) (by omega)
    have hr:stepTo (next.getD l []) (set.take i) ||| 2 ^ ((next.getD l []).getD (set.getD i 0).toNat 0).toNat=stepTo (next.getD l []) (set.take (i+1)):=getD_snoc set (fun o s=>o ||| 2 ^ ((next.getD l []).getD s.toNat 0).toNat) 0 0 hlt1
    simp only [Bz23,Bz5n,Bzdl,yz1 hlt1,decide_eq_true hlt,go_sem,yz0,xx9,xx8,xx6,xx7,xx5,xx0,xx1,xx2,reduceIte,xx3,xx4,reduceCtorEq]
    refine ⟨⟨by omega,hlt1⟩,hlt1,?_⟩
    simp only [Bzdj,Bzdk,rwn_getD hl,yz1 hc,hs0,hsl,hor,hr,nat1 i _ hlt1 hM,go_sem,yz0,xx9,xx8,xx6,xx7,xx5,xx0,xx1,xx2,reduceIte,xx3,xx4,reduceCtorEq]
    refine ⟨⟨by omega,hl⟩,hl,⟨hs.1,hc⟩,hc,i+1,by omega,by omega,rfl⟩
  · have:i=set.length:=by omega
    subst this
    simp only [Bz23,Bz5n,Bzdn,decide_eq_false hlt,List.take_length,go_sem,yz0,xx9,xx8,xx6,xx7,xx5,xx0,xx1,xx2,reduceIte,xx3,xx4,reduceCtorEq]
    rw [← hS,stepTo_all]
end Go.Ab
namespace Go.Ab
open Go.Proofs
abbrev keysF (L:TS):List Value:=L.map fun p=>Value.int .u64 (p.1:Int)
abbrev setsI (L:TS):List Int:=L.map fun p=>(p.1:Int)
theorem fkF_not {f:Nat}:∀ {L:TS} (i:Nat),hasT L f=false→findKeyAt (.int .u64 (f:Int)) (keysF L) i=some none
  | [],_,_=>rfl
  | p :: L,i,h=>by
    simp only [hasT,List.any_cons,Bool.or_eq_false_iff] at h
    have h1:((f:Int) == (p.1:Int))=false:=by
      have:p.1≠f:=fun e=>by rw [e,Nat.beq_refl] at h;cases h.1
      exact beq_false_of_ne fun e=>this (by omega)
    have h2:=fkF_not (f:=f) (L:=L) (i+1) h.2
    simp only [List.map_cons,findKeyAt,sameKey,h1,if_true]
    exact h2
theorem fkF_mem {f:Nat}:∀ {L:TS} (i:Nat),hasT L f=true→∃ j,findKeyAt (.int .u64 (f:Int)) (keysF L) i=some (some (i+j))∧j<L.length
  | [],_,h=>by cases h
  | p :: L,i,h=>by
    by_cases e:p.1=f
    · refine ⟨0,?_,by simp⟩
      have h1:((f:Int) == (p.1:Int))=true:=by rw [e];exact beq_self_eq_true _
      simp only [List.map_cons,findKeyAt,sameKey,h1,if_true,Nat.add_zero]
    · have h0:Nat.beq p.1 f=false:=by rw [← dec_beqN];exact decide_eq_false e
      simp only [hasT,List.any_cons,h0,Bool.false_or] at h
      have h1:((f:Int) == (p.1:Int))=false:=beq_false_of_ne fun e'=>e (by omega)
      obtain ⟨j,h2,h3⟩:=fkF_mem (f:=f) (L:=L) (i+1) h
      refine ⟨j+1,?_,by simp;omega⟩
      simp only [List.map_cons,findKeyAt,sameKey,h1,if_true]
      rw [h2];congr 2;omega
theorem fkF_at:∀ {L:TS} (i k:Nat),(L.map (·.1)).Nodup→i<L.length→findKeyAt (.int .u64 ((L.getD i (0,[])).1:Int)) (keysF L) k=some (some (k+i))
  | [],_,_,_,h=>by simp at h
  | p :: L,0,k,_,_=>by
    simp only [List.getD_cons_zero,List.map_cons,findKeyAt,sameKey,beq_self_eq_true,if_true,Nat.add_zero]
  | p :: L,i+1,k,hd,h=>by
    rw [List.map_cons,List.nodup_cons] at hd
    have hi:i<L.length:=by simpa using h
    have hm:=yz2 hi (0,([]:List Int))
    have h1:(((L.getD i (0,[])).1:Int) == (p.1:Int))=false:=beq_false_of_ne fun e=>hd.1 (List.mem_map.2 ⟨_,hm,by omega⟩)
    have h2:=fkF_at (L:=L) i (k+1) hd.2 hi
    simp only [List.getD_cons_succ,List.map_cons,findKeyAt,sameKey,h1,if_true]
    rw [h2];congr 2;omega
theorem setsI_getD {L:TS} {i:Nat} (h:i<L.length):(setsI L).getD i 0=((L.getD i (0,[])).1:Int):=by
  rw [List.getD_eq_getElem?_getD,List.getElem?_map,List.getElem?_eq_getElem h,List.getD_eq_getElem?_getD,List.getElem?_eq_getElem h];rfl
theorem words_getD {L:TS} {i:Nat} (h:i<L.length):(L.map (·.2)).getD i []=(L.getD i (0,[])).2:=by
  rw [List.getD_eq_getElem?_getD,List.getElem?_map,List.getElem?_eq_getElem h,List.getD_eq_getElem?_getD,List.getElem?_eq_getElem h];rfl
theorem k_tour (n:Int) (next:List (List Int)) (A:Aut n next) (f:Nat) (hf:f<2 ^ n.toNat) :
    Fn Try.prog nz2o [autA n next,fv f] (fun rows res=>∃ v w,rows=[.row v 1 true (intsK .u64 (setsI (tourT next f))),.map w (keysF (tourT next f)) (rws ((tourT next f).map (·.2)))]∧res=.st [.own 6000 v,.mp 6001 w]):=by
  refine con_of mixed czfi rfl (by simp) ?_
  have n1:=A.n1
  have n2:=A.n2
  have l2:=A.l2
  have hN:2 ^ n.toNat≤1024:=Nat.pow_le_pow_right (n:=2) (by omega) (show n.toNat≤10 by omega)
  have f0:∀ k:Value,findKeyAt k [] 0=some none:=fun _=>rfl
  generalize hQ:finQ _=Q
  simp only [Az5c,Bzco,f0,go_sem,yz0,xx9,xx8,xx6,xx7,xx5,xx0,xx1,xx2,reduceIte,xx3,xx4,reduceCtorEq]
  intro vs vs2
  refine ⟨⟨_,rfl,rfl⟩,?_⟩
  simp only [Bzcn,Bzcl,go_sem,yz0,xx9,xx8,xx6,xx7,xx5,xx0,xx1,xx2,reduceIte,xx3,xx4,reduceCtorEq]
  refine ⟨fun r v' e=>by cases e;exact ⟨_,_,_,rfl⟩,?_⟩
  refine wpD_lo (fun (_,_,_,i,_)=>1100 - i)
    (fun (_,_,_,i,L)=>TI n.toNat next.length L∧i≤List.length L∧runT next (1100 - i) i L=tourT next f)
    (fun ((v5,va,vm,i,L):Nat×Nat×Nat×Nat×TS)=>⟨Go.Ab.L .any [(2,.ptr 2 (vs 0 0) 0),(4,.ptr 4 (vs 1 0) 0),(5,.ptr 5 v5 0),(6,iv i)],
      Go.Ab.L .gone [(2,.box (vs 0 0) [iv n,.ro none 1 (rwn next)]),(4,.box (vs 1 0) [nilS,.val (.map none)]),(5,.box v5 [.own 13 va,.mp 14 vm]),(13,.row va 1 true (intsK .u64 (setsI L))),(14,.map vm (keysF L) (rws (L.map (·.2))))]⟩)
    (_,_,_,0,[(f,[])]) ⟨TI0 hf,by simp,rfl⟩ (by simp only [Bz1z,go_sem,yz0,xx9,xx8,xx6,xx7,xx5,xx0,xx1,xx2,reduceIte,xx3,xx4,reduceCtorEq];try rfl) ?_
  rintro ⟨v5,va,vm,i,L⟩ ⟨hI,hi,hR⟩
  have hi:i≤L.length:=hi
  have hlen:=hI.len
  by_cases hlt:(i:Int)<L.length
  · have hlt1:i<L.length:=by omega
    have hls:i<(setsI L).length:=by simpa using hlt1
    have hm:=yz2 hlt1 (0,([]:List Int))
    have hfi:=hI.rg _ hm
    have hwi:=hI.wd _ hm
    simp only [Bz1z,Bz56,Bzck,yz1 hls,setsI_getD hlt1,dnL_rws,decide_eq_true hlt,go_sem,yz0,xx9,xx8,xx6,xx7,xx5,xx0,xx1,xx2,reduceIte,xx3,xx4,reduceCtorEq]
    intro hM
    refine ⟨⟨by omega,hlt1⟩,hlt1,?_⟩
    simp only [Bzci,go_sem,yz0,xx9,xx8,xx6,xx7,xx5,xx0,xx1,xx2,reduceIte,xx3,xx4,reduceCtorEq]
    intro vs3
    refine yzi (k_letters n next) qCS trivial ?_
    simp only [Bzch,go_sem,yz0,xx9,xx8,xx6,xx7,xx5,xx0,xx1,xx2,reduceIte,xx3,xx4,reduceCtorEq]
    have hM2:=maxLen_le
    generalize hfw:L.getD i (0,[])=fw at hm hfi hwi ⊢
    refine wpD_lo (fun (_,_,_,x,_)=>next.length - x)
      (fun (_,_,_,x,L')=>x≤next.length∧L'=visT next fw.1 fw.2 x L)
      (fun ((v5,va,vm,x,L'):Nat×Nat×Nat×Nat×TS)=>⟨Go.Ab.L .any [(2,.ptr 2 (vs 0 0) 0),(4,.ptr 4 (vs 1 0) 0),(5,.ptr 5 v5 0),(6,iv i),(7,fv fw.1),(32,iv next.length),(33,iv x)],
        Go.Ab.L .gone [(2,.box (vs 0 0) [iv n,.ro none 1 (rwn next)]),(4,.box (vs 1 0) [nilS,.val (.map none)]),(5,.box v5 [.own 13 va,.mp 14 vm]),(13,.row va 1 true (intsK .u64 (setsI L'))),(14,.map vm (keysF L') (rws (L'.map (·.2))))]⟩)
      (_,_,_,0,L) ⟨by simp,rfl⟩ (by simp only [Bz1y,dnL_rws,go_sem,yz0,xx9,xx8,xx6,xx7,xx5,xx0,xx1,xx2,reduceIte,xx3,xx4,reduceCtorEq];try rfl) ?_
    rintro ⟨v5,va,vm,x,L'⟩ ⟨hx,rfl⟩
    have hx:x≤next.length:=hx
    obtain ⟨hI',t,hpre⟩:=visT_ok A hI hlt1 x hx
    rw [hfw] at hI' hpre
    generalize hV:visT next fw.1 fw.2 x L=L' at hI' hpre ⊢
    have hlen':=hI'.len
    have hi2:i<L'.length:=by rw [hpre,List.length_append];omega
    have hat:L'.getD i (0,[])=fw:=by rw [hpre,getD_app hlt1,hfw]
    by_cases hxl:(x:Int)<next.length
    · have hxl1:x<next.length:=by omega
      have hto:=stepN_lt A hxl1 hfi
      have w1:IntKind.i64.wrap ((x:Int)+1)=((x+1:Nat):Int):=by rw [w64 (by omega)];simp
      simp only [Bz1y,Bz5b,Bzcg,dnL_rws,decide_eq_true hxl,go_sem,yz0,xx9,xx8,xx6,xx7,xx5,xx0,xx1,xx2,reduceIte,xx3,xx4,reduceCtorEq]
      simp only [Bzcf,dnL_rws,go_sem,yz0,xx9,xx8,xx6,xx7,xx5,xx0,xx1,xx2,reduceIte,xx3,xx4,reduceCtorEq]
      intro vs4
      refine yzi (k_step n next A fw.1 x hfi hxl1) qCS trivial ?_
      have hsucc:=visT_succ (next:=next) (f:=fw.1) (w:=fw.2) (x:=x) (L:=L)
      rw [hV] at hsucc
      generalize stepN (next.getD x []) fw.1=to at hto hsucc ⊢
      cases hh:hasT L' to with
      | true =>
        rw [hh,if_pos rfl] at hsucc
        obtain ⟨j,hj1,hj2⟩:=fkF_mem 0 hh
        rw [Nat.zero_add] at hj1
        simp only [Bz59,Bz58,Bz57,Bz5a,hj1,w1,dnL_rws,go_sem,yz0,xx9,xx8,xx6,xx7,xx5,xx0,xx1,xx2,reduceIte,xx3,xx4,reduceCtorEq]
        exact ⟨(_,_,_,x+1,_),by dsimp only;omega,⟨by dsimp only;omega,hsucc.symm⟩,rfl⟩
      | false =>
        rw [hh,if_neg (by simp)] at hsucc
        have hj1:=fkF_not 0 hh
        have hk:=fkF_at i 0 hI'.nd hi2
        rw [hat,Nat.zero_add] at hk
        have hwl:i<(L'.map (·.2)).length:=by simpa using hi2
        have hwg:=words_getD hi2
        rw [hat] at hwg
        simp only [Bz59,Bz58,Bz57,hj1,hk,rws_getD hwl,hwg,dnL_rws,go_sem,yz0,xx9,xx8,xx6,xx7,xx5,xx0,xx1,xx2,reduceIte,xx3,xx4,reduceCtorEq]
        intro vs5
        refine call_rowI (k_Clone fw.2 (by omega)) qCS qGN ⟨_,rfl⟩ ?_
        rintro xs v7 rfl
        simp only [hj1,dnL_rws,go_sem,yz0,xx9,xx8,xx6,xx7,xx5,xx0,xx1,xx2,reduceIte,xx3,xx4,reduceCtorEq]
        refine ⟨⟨_,rfl,rfl⟩,by omega,⟨fun r v' e=>by cases e;exact ⟨_,_,_,rfl⟩,?_⟩⟩
        simp only [Bzce,Bz5a,w1,dnL_rws,go_sem,yz0,xx9,xx8,xx6,xx7,xx5,xx0,xx1,xx2,reduceIte,xx3,xx4,reduceCtorEq]
        intro vs6
        exact ⟨⟨_,rfl,rfl⟩,by omega,(v5,vs6 4 0,vm,x+1,L' ++ [(to,fw.2 ++ [(x:Int)])]),by dsimp only;omega,⟨by dsimp only;omega,hsucc.symm⟩,by simp only [List.map_append,List.map_cons,List.map_nil]⟩
    · have:x=next.length:=by omega
      subst this
      simp only [Bz1y,Bz5b,Bzcj,dnL_rws,nat1 i _ hlt1 hM,decide_eq_false hxl,go_sem,yz0,xx9,xx8,xx6,xx7,xx5,xx0,xx1,xx2,reduceIte,xx3,xx4,reduceCtorEq]
      obtain ⟨F,hF⟩:∃ F,1100 - i=F+1:=⟨1099 - i,by omega⟩
      have hF2:1100 - (i+1)=F:=by omega
      rw [hF] at hR
      simp only [runT,if_pos hlt1,hfw,hV] at hR
      exact ⟨(_,_,_,i+1,L'),by dsimp only;omega,⟨hI',by dsimp only;omega,by dsimp only;rw [hF2];exact hR⟩,rfl⟩
  · have:i=L.length:=by omega
    subst this
    have hend:L=tourT next f:=by
      obtain ⟨F,hF⟩:∃ F,1100 - L.length=F+1:=⟨1099 - L.length,by omega⟩
      rw [← hR,hF];simp only [runT,Nat.lt_irrefl,if_false]
    simp only [Bz1z,Bz56,Bzcm,decide_eq_false hlt,Az5c,← hQ,go_sem,yz0,xx9,xx8,xx6,xx7,xx5,xx0,xx1,xx2,reduceIte,xx3,xx4,reduceCtorEq]
    intro hM
    refine ⟨[13,14],by simp,by simp,by simp,?_⟩
    simp only [hend,Nat.not_lt_zero,range1,ren_val,ren_any,ren_ro,rnNm_n,rnNm_sn,rnNm_o,rnNm_s,ren_st,ren_tup,renL_nil,yzj,yz9,renL_rws,renL_rwn,oren_box,oren_row,oren_map,yze,yzf,yzd,yzg,yzo,yzl,yz6,yza,yzb,yzc,yzn,yzm,List.range_zero,yz8,yz7,yzh,gone_nil,gone_one,gone_two,AVal.fresh,freshL,yz4,yzp,AObj.fresh,id,Option.isSome_some,or_true,true_or,go_sem,yz0,xx9,xx8,xx6,xx7,xx5,xx0,xx1,xx2,reduceIte,xx3,xx4,reduceCtorEq]
    exact ⟨va,vm,rfl,rfl⟩
theorem k_IndexFuncT (T:TS) (h:∀ p∈T,p.1<1024) :
    Fun Try.prog nz10 [.ro none 1 (intsK .u64 (setsI T)),.clo nz3 []] (iv (fidx smallN (T.map (·.1)) 0)):=by
  have hx:=k_IndexFuncF (T.map (·.1)) nz3 [] smallN ⟨by simp only [go_sem,yz0,xx9,xx8,xx6,xx7,xx5,xx0,xx1,xx2,reduceIte,xx3,xx4,reduceCtorEq],by intros;simp only [rowIs,boxIs,coe_argN,coe_argNs,coe_ro_o,coeL_nil,yz5,coe_any,coe_val,coe_ro,coe_ro_nil,coe_ro_own,coe_st,coe_st_agg,coe_rp,coe_rp_ptr,coe_clo,coe_own0,coe_ptr0,coeL_intsK,coeL_rws,coeL_rwn,L_hit,L_miss,L_nil,xx3,ne_eq,reduceCtorEq,not_false_eq_true,true_and,and_true,and_self,exists_eq_left,exists_eq_right,List.mem_cons,List.not_mem_nil,or_false,AObj.row.injEq,AObj.box.injEq,exists_eq_left',exists_and_left,exists_eq,Nat.zero_lt_one,Nat.lt_add_one,List.map_cons,List.map_nil,AObj.ver,xx5,not_true_eq_false]⟩ (fun x hx=>by
    obtain ⟨p,hp,rfl⟩:=List.mem_map.1 hx
    exact k_isSmall p.1 (h p hp))
  rw [List.map_map] at hx
  exact hx
theorem firstT_idx {f:Nat} {w:List Int}:∀ {T:TS} (k:Nat),firstT T=some (f,w)→∃ i,fidx smallN (T.map (·.1)) k=((k+i:Nat):Int)∧i<T.length∧T.getD i (0,[])=(f,w)
  | [],_,h=>by cases h
  | p :: T,k,h=>by
    simp only [firstT,List.find?_cons] at h
    cases hs:smallN p.1 with
    | true =>
      rw [hs] at h
      simp only [Option.some.injEq] at h
      exact ⟨0,by simp only [List.map_cons,fidx,hs,if_true,Nat.add_zero],by simp,by simpa using h⟩
    | false =>
      rw [hs] at h
      obtain ⟨i,h1,h2,h3⟩:=firstT_idx (T:=T) (k+1) h
      refine ⟨i+1,?_,by simp;omega,by simpa using h3⟩
      simp only [List.map_cons,fidx,hs,Bool.false_eq_true,if_false,h1]
      congr 1;omega
theorem k_first (N m:Nat) (T:TS) (hI:TI N m T) (hN:2 ^ N≤1024) (f:Nat) (w:List Int) (hf:firstT T=some (f,w)) :
    Con Try.prog nzx [.row 0 1 true (intsK .u64 (setsI T)),.map 1 (keysF T) (rwn (T.map (·.2)))] [.st [.own 5000 0,.mp 5001 1],.clo nz3 []] true
      fun outs rows res=>outs=[.row 0 1 true (intsK .u64 (setsI T)),.map 1 (keysF T) (rwn (T.map (·.2)))]∧rows=[]∧res=.tup [.ro none 1 (ints w),iv 0]:=by
  refine con_sh mixed czcx rfl (by simp) ?_
  obtain ⟨i,h1,h2,h3⟩:=firstT_idx 0 hf
  rw [Nat.zero_add] at h1
  have hls:i<(setsI T).length:=by simpa using h2
  have hsg:=setsI_getD h2
  have hk:=fkF_at i 0 hI.nd h2
  rw [h3,Nat.zero_add] at hk
  rw [h3] at hsg
  have hwl:i<(T.map (·.2)).length:=by simpa using h2
  have hwg:=words_getD h2
  rw [h3] at hwg
  simp only [Az5i,Bz5h,go_sem,yz0,xx9,xx8,xx6,xx7,xx5,xx0,xx1,xx2,reduceIte,xx3,xx4,reduceCtorEq]
  intro vs vs2
  refine yzi (k_IndexFuncT T (fun p hp=>by have:=hI.rg p hp;omega)) qCS trivial ?_
  have hi0:¬ (i:Int)<0:=by omega
  simp only [h1,Bz5g,Bz5f,Bzcw,decide_eq_false hi0,yz1 hls,hsg,hk,rwn_getD hwl,hwg,go_sem,yz0,xx9,xx8,xx6,xx7,xx5,xx0,xx1,xx2,reduceIte,xx3,xx4,reduceCtorEq]
  refine ⟨⟨by omega,h2⟩,h2,[],by simp,by simp,by simp,?_⟩
  simp only [List.nil_append,List.cons_append,Nat.add_zero,xx4,Nat.not_lt_zero,range1,ren_val,ren_any,ren_ro,rnNm_n,rnNm_sn,rnNm_o,rnNm_s,ren_st,ren_tup,renL_nil,yzj,yz9,renL_rws,renL_rwn,oren_box,oren_row,oren_map,yze,yzf,yzd,yzg,yzo,yzl,yz6,yza,yzb,yzc,yzn,yzm,List.range_zero,yz8,yz7,yzh,gone_nil,gone_one,gone_two,AVal.fresh,freshL,yz4,yzp,AObj.fresh,id,Option.isSome_some,or_true,true_or,go_sem,yz0,xx9,xx8,xx6,xx7,xx5,xx0,xx1,xx2,reduceIte,xx3,xx4,reduceCtorEq]
theorem callHp_m2 {hp:Nat→AObj} {r q d:Nat} {s:Nat→Nat} {o0 o1:AObj} (hne:r≠q) :
    callHp hp [r,q] d s [o0,o1] []=upd (upd hp r (o0.ren (rid [r,q] d 0) (sv hp [r,q] s))) q (o1.ren (rid [r,q] d 0) (sv hp [r,q] s)):=by
  funext n
  by_cases h:n=q
  · have h1:rid [r,q] d ([]:List AObj).length 5001=some n:=by rw [h];exact rid_m (j:=1) (by omega) rfl
    rw [callHp_at (by simp [hne]) (by simp) h1]
    simp [upd,h,outHp]
  · by_cases h':n=r
    · have h1:rid [r,q] d ([]:List AObj).length 5000=some n:=by rw [h'];exact rid_m (j:=0) (by omega) rfl
      rw [callHp_at (by simp [hne]) (by simp) h1]
      simp [upd,h,h',outHp,hne]
    · rw [callHp_not]
      · simp [upd,h,h']
      · rintro ⟨x,hx⟩
        rcases rid_cases hx with ⟨j,rfl,_,h3⟩ | ⟨i,rfl,h3,_⟩
        · match j,h3 with
          | 0,h3=>simp at h3;exact h' h3.symm
          | 1,h3=>simp at h3;exact h h3.symm
          | j+2,h3=>simp at h3
        · simp at h3
theorem call_rm {P:Program} {σ:St} {g:FuncId} {As args:List AVal} {d:Nat} {s:Nat→Nat} {K:St→Prop} {r q v u:Nat} {cs cs':List AVal} {ks:List Value} {vs vs':List AVal} {R:AVal}
    (h:Con P g [.row 0 1 true cs,.map 1 ks vs] (.st [.own 5000 0,.mp 5001 1] :: args) true fun outs rows res=>outs=[.row 0 1 true cs,.map 1 ks vs]∧rows=[]∧res=R)
    (hr:σ.hp r=.row v 1 true cs') (hq:σ.hp q=.map u ks vs') (hne:r≠q) (hc:CoeL σ.hp [r,q] false cs cs') (hv:CoeL σ.hp [r,q] false vs vs') (ha:CoeL σ.hp [r,q] false args As)
    (hk:K (St.put ⟨σ.tm,upd (upd σ.hp r ((AObj.row 0 1 true cs).ren (rid [r,q] d 0) (sv σ.hp [r,q] s))) q ((AObj.map 1 ks vs).ren (rid [r,q] d 0) (sv σ.hp [r,q] s))⟩ (some d) (R.ren (rid [r,q] d 0) (sv σ.hp [r,q] s)))):wpCall P false σ g (.st [.own r v,.mp q u] :: As) (some d) s K:=by
  refine .inl ⟨[r,q],_,_,true,_,h,⟨by simp,rfl,by simp [hne],?_,?_⟩,?_,(fun e=>by cases e),?_⟩
  · intro x hx
    simp only [List.mem_cons,List.not_mem_nil,or_false] at hx
    rcases hx with rfl | rfl
    · simp [hr]
    · simp [hq]
  · intro j B r' hB hr'
    match j,hB,hr' with
    | 0,hB,hr' =>
      simp at hB hr';subst hB;subst hr'
      simp only [ObjCoe,hr]
      exact ⟨trivial,v,cs',rfl,hc⟩
    | 1,hB,hr' =>
      simp at hB hr';subst hB;subst hr'
      simp only [ObjCoe,hq]
      exact ⟨trivial,u,vs',rfl,hv⟩
    | j+2,hB,hr'=>simp at hB
  · rw [yz5]
    refine ⟨?_,ha⟩
    rw [coe_st,yz5,yz5,coeL_nil]
    simp only [Coe]
    exact ⟨⟨0,r,v,rfl,rfl,rfl,rfl,by rw [hr];rfl⟩,⟨1,q,u,rfl,rfl,rfl,rfl,by rw [hq];rfl⟩,trivial⟩
  · rintro outs rows res ⟨rfl,rfl,rfl⟩
    refine ⟨rfl,by simp,by simp,?_⟩
    rw [Option.getD_some,callHp_m2 hne]
    exact hk
theorem maskN_all {n:Int} (h:1≤n∧n≤10):maskN (allS n)=2 ^ n.toNat - 1:=by
  obtain ⟨k,rfl⟩:∃ k:Nat,n=k:=⟨n.toNat,by omega⟩
  have h2:k=1∨k=2∨k=3∨k=4∨k=5∨k=6∨k=7∨k=8∨k=9∨k=10:=by omega
  rcases h2 with rfl | rfl | rfl | rfl | rfl | rfl | rfl | rfl | rfl | rfl <;> decide
end Go.Ab
namespace Go.Ab
open Go.Proofs
theorem firstT_no:∀ {T:TS} (k:Nat),firstT T=none→fidx smallN (T.map (·.1)) k=-1
  | [],_,_=>rfl
  | p :: T,k,h=>by
    simp only [firstT,List.find?_cons] at h
    cases hs:smallN p.1 with
    | true=>rw [hs] at h;cases h
    | false =>
      rw [hs] at h
      have h1:=firstT_no (T:=T) (k+1) h
      simp only [List.map_cons,fidx,hs,Bool.false_eq_true,if_false,h1]
theorem k_firstN (N m:Nat) (T:TS) (hI:TI N m T) (hN:2 ^ N≤1024) (hf:firstT T=none) :
    Con Try.prog nzx [.row 0 1 true (intsK .u64 (setsI T)),.map 1 (keysF T) (rwn (T.map (·.2)))] [.st [.own 5000 0,.mp 5001 1],.clo nz3 []] true
      fun outs rows res=>outs=[.row 0 1 true (intsK .u64 (setsI T)),.map 1 (keysF T) (rwn (T.map (·.2)))]∧rows=[]∧res=.tup [.val (.slice none 0 0),iv 6]:=by
  refine con_sh mixed czcx rfl (by simp) ?_
  have h1:=firstT_no 0 hf
  simp only [Az5i,Bz5h,go_sem,yz0,xx9,xx8,xx6,xx7,xx5,xx0,xx1,xx2,reduceIte,xx3,xx4,reduceCtorEq]
  intro vs vs2
  refine yzi (k_IndexFuncT T (fun p hp=>by have:=hI.rg p hp;omega)) qCS trivial ?_
  have hi0:((-1:Int)<0):=by omega
  simp only [h1,Bz5g,Bz5f,decide_eq_true hi0,go_sem,yz0,xx9,xx8,xx6,xx7,xx5,xx0,xx1,xx2,reduceIte,xx3,xx4,reduceCtorEq]
  refine ⟨[],by simp,by simp,by simp,?_⟩
  simp only [List.nil_append,List.cons_append,Nat.add_zero,xx4,Nat.not_lt_zero,range1,ren_val,ren_any,ren_ro,rnNm_n,rnNm_sn,rnNm_o,rnNm_s,ren_st,ren_tup,renL_nil,yzj,yz9,renL_rws,renL_rwn,oren_box,oren_row,oren_map,yze,yzf,yzd,yzg,yzo,yzl,yz6,yza,yzb,yzc,yzn,yzm,List.range_zero,yz8,yz7,yzh,gone_nil,gone_one,gone_two,AVal.fresh,freshL,yz4,yzp,AObj.fresh,id,Option.isSome_some,or_true,true_or,go_sem,yz0,xx9,xx8,xx6,xx7,xx5,xx0,xx1,xx2,reduceIte,xx3,xx4,reduceCtorEq]
def shortR (next:List (List Int)) (n:Int):AVal:=match firstT (tourT next (2 ^ n.toNat - 1)) with
  | some (_,w)=>.tup [.ro none 1 (ints w),iv 0]
  | none=>.tup [.val (.slice none 0 0),iv 6]
theorem k_ShortestB (n:Int) (next:List (List Int)) (A:Aut n next) :
    Con Try.prog nz2j [] [autA n next] true fun outs rows res=>outs=[]∧rows=[]∧res=shortR next n:=by
  refine con_sh mixed czf7 rfl (by simp) ?_
  have n1:=A.n1
  have n2:=A.n2
  have hv:autB n next=true:=autB_iff.2 A
  have hp:=Nat.two_pow_pos n.toNat
  have hN:2 ^ n.toNat≤1024:=Nat.pow_le_pow_right (n:=2) (by omega) (show n.toNat≤10 by omega)
  simp only [Azb3,Bzb2,go_sem,yz0,xx9,xx8,xx6,xx7,xx5,xx0,xx1,xx2,reduceIte,xx3,xx4,reduceCtorEq]
  intro vs vs2
  refine yzi (k_Valid n next) qCS trivial ?_
  simp only [hv,Bzb0,Bzb1,go_sem,yz0,xx9,xx8,xx6,xx7,xx5,xx0,xx1,xx2,reduceIte,xx3,xx4,reduceCtorEq]
  intro vs3
  refine call_rowI (k_all n next A) qCS rfl ⟨_,rfl⟩ ?_
  rintro xs v rfl
  simp only [go_sem,yz0,xx9,xx8,xx6,xx7,xx5,xx0,xx1,xx2,reduceIte,xx3,xx4,reduceCtorEq]
  refine yzi (k_flockOf (allS n) (fun s hs=>by have:=allS_in s hs;omega)) qCS trivial ?_
  rw [maskN_all ⟨n1,n2⟩]
  simp only [go_sem,yz0,xx9,xx8,xx6,xx7,xx5,xx0,xx1,xx2,reduceIte,xx3,xx4,reduceCtorEq]
  refine call_fn (k_tour n next A (2 ^ n.toNat - 1) (by omega)) qCS (fun e=>by cases e) ?_
  rintro rows res ⟨v1,v2,rfl,rfl⟩
  refine ⟨by simp,by rw [Option.getD_some,gone_two];simp only [go_sem,yz0,xx9,xx8,xx6,xx7,xx5,xx0,xx1,xx2,reduceIte,xx3,xx4,reduceCtorEq],?_⟩
  have hT:=(runT_ok A 1100 0 _ (TI0 (m:=next.length) (show 2 ^ n.toNat - 1<2 ^ n.toNat by omega))).1
  simp only [Option.getD_some,Nat.not_lt_zero,range1,ren_val,ren_any,ren_ro,rnNm_n,rnNm_sn,rnNm_o,rnNm_s,ren_st,ren_tup,renL_nil,yzj,yz9,renL_rws,renL_rwn,oren_box,oren_row,oren_map,yze,yzf,yzd,yzg,yzo,yzl,yz6,yza,yzb,yzc,yzn,yzm,List.range_zero,yz8,yz7,yzh,gone_nil,gone_one,gone_two,AVal.fresh,freshL,yz4,yzp,AObj.fresh,id,Option.isSome_some,or_true,true_or,go_sem,yz0,xx9,xx8,xx6,xx7,xx5,xx0,xx1,xx2,reduceIte,xx3,xx4,reduceCtorEq]
  unfold shortR
  cases hf:firstT (tourT next (2 ^ n.toNat - 1)) with
  | some p =>
    obtain ⟨f,w⟩:=p
    refine call_rm (k_first n.toNat next.length (tourT next (2 ^ n.toNat - 1)) hT hN f w hf) rfl rfl (by omega) qCS qCS qCS ?_
    simp only [Nat.not_lt_zero,range1,ren_val,ren_any,ren_ro,rnNm_n,rnNm_sn,rnNm_o,rnNm_s,ren_st,ren_tup,renL_nil,yzj,yz9,renL_rws,renL_rwn,oren_box,oren_row,oren_map,yze,yzf,yzd,yzg,yzo,yzl,yz6,yza,yzb,yzc,yzn,yzm,List.range_zero,yz8,yz7,yzh,gone_nil,gone_one,gone_two,AVal.fresh,freshL,yz4,yzp,AObj.fresh,id,Option.isSome_some,or_true,true_or,go_sem,yz0,xx9,xx8,xx6,xx7,xx5,xx0,xx1,xx2,reduceIte,xx3,xx4,reduceCtorEq]
    exact ⟨[],by simp,by simp,by simp,rfl⟩
  | none =>
    refine call_rm (k_firstN n.toNat next.length (tourT next (2 ^ n.toNat - 1)) hT hN hf) rfl rfl (by omega) qCS qCS qCS ?_
    simp only [Nat.not_lt_zero,range1,ren_val,ren_any,ren_ro,rnNm_n,rnNm_sn,rnNm_o,rnNm_s,ren_st,ren_tup,renL_nil,yzj,yz9,renL_rws,renL_rwn,oren_box,oren_row,oren_map,yze,yzf,yzd,yzg,yzo,yzl,yz6,yza,yzb,yzc,yzn,yzm,List.range_zero,yz8,yz7,yzh,gone_nil,gone_one,gone_two,AVal.fresh,freshL,yz4,yzp,AObj.fresh,id,Option.isSome_some,or_true,true_or,go_sem,yz0,xx9,xx8,xx6,xx7,xx5,xx0,xx1,xx2,reduceIte,xx3,xx4,reduceCtorEq]
    exact ⟨[],by simp,by simp,by simp,rfl⟩
theorem k_CanReset (n:Int) (next:List (List Int)) (A:Aut n next) :
    Fun Try.prog nzn [autA n next] (.tup [bv (firstT (tourT next (2 ^ n.toNat - 1))).isSome,iv 0]):=by
  refine fun_of mixed czeq rfl ⟨rfl,by simp [AVal.fresh,freshL]⟩ ?_
  simp only [Az8a,Bz89,go_sem,yz0,xx9,xx8,xx6,xx7,xx5,xx0,xx1,xx2,reduceIte,xx3,xx4,reduceCtorEq]
  intro vs vs2
  refine call_sh (k_ShortestB n next A) qCS (fun e=>by cases e) ?_
  rintro outs rows res ⟨rfl,rfl,rfl⟩
  refine ⟨rfl,by simp,by simp,?_⟩
  unfold shortR
  cases hf:firstT (tourT next (2 ^ n.toNat - 1)) with
  | some p =>
    obtain ⟨f,w⟩:=p
    have e1:((0:Int) == 1)=false:=rfl
    simp only [e1,Bz3d,Bz3b,Bz3c,Option.getD_some,Option.isSome_some,Nat.not_lt_zero,range1,ren_val,ren_any,ren_ro,rnNm_n,rnNm_sn,rnNm_o,rnNm_s,ren_st,ren_tup,renL_nil,yzj,yz9,renL_rws,renL_rwn,oren_box,oren_row,oren_map,yze,yzf,yzd,yzg,yzo,yzl,yz6,yza,yzb,yzc,yzn,yzm,List.range_zero,yz8,yz7,yzh,gone_nil,gone_one,gone_two,AVal.fresh,freshL,yz4,yzp,AObj.fresh,id,Option.isSome_some,or_true,true_or,go_sem,yz0,xx9,xx8,xx6,xx7,xx5,xx0,xx1,xx2,reduceIte,xx3,xx4,reduceCtorEq]
  | none =>
    have e1:((6:Int) == 1)=false:=rfl
    have e2:((6:Int) == 0)=false:=rfl
    simp only [e1,e2,Bz3d,Bz3b,Bz3c,Option.getD_some,Option.isSome_none,Nat.not_lt_zero,range1,ren_val,ren_any,ren_ro,rnNm_n,rnNm_sn,rnNm_o,rnNm_s,ren_st,ren_tup,renL_nil,yzj,yz9,renL_rws,renL_rwn,oren_box,oren_row,oren_map,yze,yzf,yzd,yzg,yzo,yzl,yz6,yza,yzb,yzc,yzn,yzm,List.range_zero,yz8,yz7,yzh,gone_nil,gone_one,gone_two,AVal.fresh,freshL,yz4,yzp,AObj.fresh,id,Option.isSome_some,or_true,true_or,go_sem,yz0,xx9,xx8,xx6,xx7,xx5,xx0,xx1,xx2,reduceIte,xx3,xx4,reduceCtorEq]
end Go.Ab
namespace Go.Ab
structure ClS (n:Int) (next:List (List Int)) (set:List Int):Prop where
  rg:∀ x∈set,0≤x∧x<n
  cl:∀ x∈set,∀ row∈next,row.getD x.toNat 0∈set
theorem renR_len {set row:List Int}:(renR set row).length=set.length:=by simp [renR]
theorem Aut.rest {n:Int} {next:List (List Int)} {set:List Int} (A:Aut n next) (C:ClS n next set) (h0:1≤set.length) (h1:set.length≤10):Aut set.length (next.map (renR set)):=by
  have l1:=A.l1
  have l2:=A.l2
  refine ⟨by omega,by omega,by rw [List.length_map];omega,by rw [List.length_map];omega,?_⟩
  intro row hr
  obtain ⟨row,hr',rfl⟩:=List.mem_map.1 hr
  refine ⟨by rw [renR_len],fun x hx=>?_⟩
  obtain ⟨s,hs,rfl⟩:=List.mem_map.1 hx
  obtain ⟨i,h1,h2,h3⟩:=fidx_eq 0 (C.cl s hs row hr')
  simp only [h1,Nat.zero_add]
  omega
theorem actA_getD {n:Int} {next:List (List Int)} {w:List Int} {i:Nat} (h:(i:Int)<n):(actA n next w).getD i 0=atA next i w:=by
  rw [List.getD_eq_getElem?_getD,actA,List.getElem?_map,List.getElem?_range (by omega)];rfl
end Go.Ab
namespace Go.Ab
open Go.Proofs
theorem k_a2Map (xs:List Int) (n:Int) (h:∀ x∈xs,0≤x∧x<n) (hl:(xs.length:Int)=n):Fun Try.prog nzm [.ro none 1 (ints xs),iv n] (bv true):=by
  refine fun_of mixed czep rfl ⟨rfl,trivial⟩ ?_
  simp only [Az88,Bz87,Bz85,go_sem,yz0,xx9,xx8,xx6,xx7,xx5,xx0,xx1,xx2,reduceIte,xx3,xx4,reduceCtorEq]
  refine wpD_lo (fun i=>xs.length - i) (fun i=>i≤xs.length)
    (fun (i:Nat)=>⟨L .any [(0,.ro none 1 (ints xs)),(1,iv n),(5,iv i)],L .gone []⟩)
    0 (by simp) (by simp only [Bz1a,go_sem,yz0,xx9,xx8,xx6,xx7,xx5,xx0,xx1,xx2,reduceIte,xx3,xx4,reduceCtorEq];try rfl) ?_
  intro i hi
  by_cases hlt:(i:Int)<xs.length
  · have hlt1:i<xs.length:=by omega
    have hx:=h _ (yz2 hlt1 0)
    have g1:¬ xs.getD i 0<0:=by omega
    have g2:¬ xs.getD i 0 ≥ n:=by omega
    simp only [Bz1a,Bz3a,Bz84,yz1 hlt1,decide_eq_true hlt,decide_eq_false g1,decide_eq_false g2,go_sem,yz0,xx9,xx8,xx6,xx7,xx5,xx0,xx1,xx2,reduceIte,xx3,xx4,reduceCtorEq]
    intro hM
    refine ⟨⟨by omega,hlt1⟩,hlt1,⟨by omega,hlt1⟩,hlt1,?_⟩
    simp only [Bz82,Bz83,nat1 i _ hlt1 hM,go_sem,yz0,xx9,xx8,xx6,xx7,xx5,xx0,xx1,xx2,reduceIte,xx3,xx4,reduceCtorEq]
    exact ⟨i+1,by omega,by omega,rfl⟩
  · have e1:((xs.length:Int) == n)=true:=by rw [hl];simp
    simp only [Bz1a,Bz3a,Bz86,e1,decide_eq_false hlt,go_sem,yz0,xx9,xx8,xx6,xx7,xx5,xx0,xx1,xx2,reduceIte,xx3,xx4,reduceCtorEq]
end Go.Ab
namespace Go.Ab
open Go.Proofs
theorem actA_rg2 {n:Int} {next:List (List Int)} (A:Aut n next) {w:List Int} (hw:IsW next.length w):((actA n next w).length:Int)=n∧∀ x∈actA n next w,0≤x∧x<n:=by
  have:=A.n1
  refine ⟨by simp [actA];omega,fun x hx=>?_⟩
  simp only [actA,List.mem_map,List.mem_range] at hx
  obtain ⟨s,hs,rfl⟩:=hx
  exact A.at (by omega) hw
theorem k_FnCongruence (code more:List Int) (hb:∀ x∈code,0≤x∧x≤255) (hb2:∀ x∈more,0≤x∧x≤255) :
    Fun Try.prog nz5u [.ro (some (some 0)) 1 (intsK .u8 code),.ro (some (some 0)) 1 (intsK .u8 more)] (bv true):=by
  refine fun_of mixed czeg rfl ⟨rfl,trivial⟩ ?_
  simp only [Az6o,Bz6n,go_sem,yz0,xx9,xx8,xx6,xx7,xx5,xx0,xx1,xx2,reduceIte,xx3,xx4,reduceCtorEq]
  intro vs
  refine yzi (k_a2Long code more) qCS trivial ?_
  simp only [Bz5v,Bz6m,go_sem,yz0,xx9,xx8,xx6,xx7,xx5,xx0,xx1,xx2,reduceIte,xx3,xx4,reduceCtorEq]
  intro _ vs2
  refine call_fn (k_A2Alike code hb) (by simp only [coe_argN,rowIs,boxIs,coe_argN,coe_argNs,coe_ro_o,coeL_nil,yz5,coe_any,coe_val,coe_ro,coe_ro_nil,coe_ro_own,coe_st,coe_st_agg,coe_rp,coe_rp_ptr,coe_clo,coe_own0,coe_ptr0,coeL_intsK,coeL_rws,coeL_rwn,L_hit,L_miss,L_nil,xx3,ne_eq,reduceCtorEq,not_false_eq_true,true_and,and_true,and_self,exists_eq_left,exists_eq_right,List.mem_cons,List.not_mem_nil,or_false,AObj.row.injEq,AObj.box.injEq,exists_eq_left',exists_and_left,exists_eq,Nat.zero_lt_one,Nat.lt_add_one,List.map_cons,List.map_nil,AObj.ver,xx5,not_true_eq_false]) (fun e=>by cases e) ?_
  rintro rows res ⟨n,next,cl,v,w,A,n6,hd,hc,rfl,rfl⟩
  refine ⟨by simp,by rw [Option.getD_some,gone_two];simp only [go_sem,yz0,xx9,xx8,xx6,xx7,xx5,xx0,xx1,xx2,reduceIte,xx3,xx4,reduceCtorEq],?_⟩
  have n1:=A.n1
  have n2:=A.n2
  have l2:=A.l2
  have D:=Div.of hd
  generalize hk:usedS 0 cl=k at D
  have hk1:=D.pos n1
  have hkn:=D.le
  have hcl:=D.ln
  have Q:=quo_aut A D
  have hbc:congB next cl=true:=congB_t hc
  have e00:((0:Int) != 0)=false:=rfl
  simp only [Option.getD_some,Bz6l,Nat.not_lt_zero,range1,ren_val,ren_any,ren_ro,rnNm_n,rnNm_sn,rnNm_o,rnNm_s,ren_st,ren_tup,renL_nil,yzj,yz9,renL_rws,renL_rwn,oren_box,oren_row,oren_map,yze,yzf,yzd,yzg,yzo,yzl,yz6,yza,yzb,yzc,yzn,yzm,List.range_zero,yz8,yz7,yzh,gone_nil,gone_one,gone_two,AVal.fresh,freshL,yz4,yzp,AObj.fresh,id,Option.isSome_some,or_true,true_or,go_sem,yz0,xx9,xx8,xx6,xx7,xx5,xx0,xx1,xx2,reduceIte,xx3,xx4,reduceCtorEq]
  intro vs3
  refine call_funE (k_a2At more 0 n hb2 (by omega)) qCS ⟨_,0,rfl,by omega,.inr rfl⟩ ?_
  rintro _ ⟨s,rfl,s1,s2⟩
  simp only [Bz6k,go_sem,yz0,xx9,xx8,xx6,xx7,xx5,xx0,xx1,xx2,reduceIte,xx3,xx4,reduceCtorEq]
  intro vs4
  refine call_funE (k_a2At more 1 n hb2 (by omega)) qCS ⟨_,0,rfl,by omega,.inr rfl⟩ ?_
  rintro _ ⟨t,rfl,t1,t2⟩
  have hs:0≤s∧s<n:=by omega
  have ht:0≤t∧t<n:=by omega
  simp only [Bz6j,go_sem,yz0,xx9,xx8,xx6,xx7,xx5,xx0,xx1,xx2,reduceIte,xx3,xx4,reduceCtorEq]
  intro vs5
  refine call_rowI (k_A2Word more n next hb2 A.l1) qCS qWS ⟨[],by simp [IsW8]⟩ ?_
  rintro u v47 hu8
  have hu:IsW next.length u:=hu8.2
  simp only [Bz6i,go_sem,yz0,xx9,xx8,xx6,xx7,xx5,xx0,xx1,xx2,reduceIte,xx3,xx4,reduceCtorEq]
  intro vs6
  refine call_fn (k_LeastCongruence n next A s t hs ht) qCS (fun e=>by cases e) ?_
  rintro rows res ⟨v52,ys,LP,rfl,rfl⟩
  refine ⟨by simp,by rw [Option.getD_some,gone_one];simp only [go_sem,yz0,xx9,xx8,xx6,xx7,xx5,xx0,xx1,xx2,reduceIte,xx3,xx4,reduceCtorEq],?_⟩
  have D2:=Div.of LP.dv
  have hyl:=D2.ln
  have hby:congB next ys=true:=congB_t LP.cg
  simp only [Option.getD_some,Bz6h,Nat.not_lt_zero,range1,ren_val,ren_any,ren_ro,rnNm_n,rnNm_sn,rnNm_o,rnNm_s,ren_st,ren_tup,renL_nil,yzj,yz9,renL_rws,renL_rwn,oren_box,oren_row,oren_map,yze,yzf,yzd,yzg,yzo,yzl,yz6,yza,yzb,yzc,yzn,yzm,List.range_zero,yz8,yz7,yzh,gone_nil,gone_one,gone_two,AVal.fresh,freshL,yz4,yzp,AObj.fresh,id,Option.isSome_some,or_true,true_or,go_sem,yz0,xx9,xx8,xx6,xx7,xx5,xx0,xx1,xx2,reduceIte,xx3,xx4,reduceCtorEq]
  intro vs7
  have hC1:=k_IsCongruence n next cl A hd
  rw [hbc] at hC1
  refine call_fun2 hC1 qCS ?_
  have hlen:((ys.length:Int) != cl.length)=false:=by rw [hyl,hcl];exact bne_self_eq_false _
  simp only [e00,hlen,Bool.not_true,Bz6g,Bz5w,Bz6f,go_sem,yz0,xx9,xx8,xx6,xx7,xx5,xx0,xx1,xx2,reduceIte,xx3,xx4,reduceCtorEq]
  intro _ _ vs8
  have hC2:=k_IsCongruence n next ys A LP.dv
  rw [hby] at hC2
  refine call_fun2 hC2 qCS ?_
  have hsy:s.toNat<ys.length:=by omega
  have hty:t.toNat<ys.length:=by omega
  have hst:(ys.getD s.toNat 0 != ys.getD t.toNat 0)=false:=by rw [LP.st];exact bne_self_eq_false _
  simp only [e00,Bool.not_true,yz1 hsy,yz1 hty,hst,Bz6e,Bz5x,go_sem,yz0,xx9,xx8,xx6,xx7,xx5,xx0,xx1,xx2,reduceIte,xx3,xx4,reduceCtorEq]
  refine ⟨⟨hs.1,hsy⟩,hsy,⟨ht.1,hty⟩,hty,?_⟩
  have hrsp:RspC n.toNat next cl cl:=fun row hrow i j hi hj he=>hc row hrow i j (by omega) (by omega) he
  have hsc:s.toNat<cl.length:=by omega
  have htc:t.toNat<cl.length:=by omega
  have hrest:∀ σ:St,σ.kd [5,6,9] [5,34,47,1034,5000,5001]=⟨L .any [(5,.ptr 5 (vs2 5 0) 0),(6,.own 1034 (vs2 1 w)),(9,.own 47 v47)],
      L .gone [(5,.box (vs2 5 0) [iv n,.own 34 (vs2 1 v)]),(34,.row (vs2 1 v) 1 true (rws next)),(47,.row v47 1 true (ints u)),(1034,.row (vs2 1 w) 1 true (ints cl))]⟩ →
      wpD Try.prog Bz34 (finQ fun σ=>σ.tm 4=bv true) σ:=by
    intro σ hσ
    rw [Bz34,wpD_kpd,hσ]
    simp only [go_sem,yz0,xx9,xx8,xx6,xx7,xx5,xx0,xx1,xx2,reduceIte,xx3,xx4,reduceCtorEq]
    intro vs10
    refine call_fn (k_QuotientOf n k next cl A hd D hc) qCS (fun e=>by cases e) ?_
    rintro rows res ⟨v146,rfl,rfl⟩
    refine ⟨by simp,by rw [Option.getD_some,gone_one];simp only [go_sem,yz0,xx9,xx8,xx6,xx7,xx5,xx0,xx1,xx2,reduceIte,xx3,xx4,reduceCtorEq],?_⟩
    simp only [Option.getD_some,Bz6c,Nat.not_lt_zero,range1,ren_val,ren_any,ren_ro,rnNm_n,rnNm_sn,rnNm_o,rnNm_s,ren_st,ren_tup,renL_nil,yzj,yz9,renL_rws,renL_rwn,oren_box,oren_row,oren_map,yze,yzf,yzd,yzg,yzo,yzl,yz6,yza,yzb,yzc,yzn,yzm,List.range_zero,yz8,yz7,yzh,gone_nil,gone_one,gone_two,AVal.fresh,freshL,yz4,yzp,AObj.fresh,id,Option.isSome_some,or_true,true_or,go_sem,yz0,xx9,xx8,xx6,xx7,xx5,xx0,xx1,xx2,reduceIte,xx3,xx4,reduceCtorEq]
    intro vs11
    have hu4:u.length≤400:=by have:=hu8.1;omega
    refine call_tupI (k_ActionOf n next u A hu hu4) qCS qWS ⟨_,rfl⟩ ?_
    rintro xs v152 hxs
    simp only [Bz6b,go_sem,yz0,xx9,xx8,xx6,xx7,xx5,xx0,xx1,xx2,reduceIte,xx3,xx4,reduceCtorEq]
    intro vs12
    have hql:(quoL cl k.toNat next).length=next.length:=by simp [quoL]
    have huq:IsW (quoL cl k.toNat next).length u:=by rw [hql];exact hu
    refine call_tupI (k_ActionOf k _ u Q huq hu4) qCS qWS ⟨_,rfl⟩ ?_
    rintro ys2 v158 hys
    have xa:=actA_rg2 A hu
    have ya:=actA_rg2 Q huq
    rw [← hxs] at xa
    rw [← hys] at ya
    have hx1:∀ i:Nat,(i:Int)<n→xs.getD i 0=atA next i u:=fun i h=>by rw [hxs];exact actA_getD h
    have hy1:∀ c:Int,0≤c∧c<k→ys2.getD c.toNat 0=atA (quoL cl k.toNat next) c u:=fun c h=>by
      rw [hys]
      have h1:=actA_getD (n:=k) (next:=quoL cl k.toNat next) (w:=u) (i:=c.toNat) (by omega)
      rw [h1];congr 1;omega
    clear hxs hys
    simp only [e00,Bz6a,go_sem,yz0,xx9,xx8,xx6,xx7,xx5,xx0,xx1,xx2,reduceIte,xx3,xx4,reduceCtorEq]
    intro vs13
    refine yzi (k_a2Map xs n xa.2 xa.1) qCS trivial ?_
    simp only [go_sem,yz0,xx9,xx8,xx6,xx7,xx5,xx0,xx1,xx2,reduceIte,xx3,xx4,reduceCtorEq]
    refine yzi (k_a2Map ys2 k ya.2 ya.1) qCS trivial ?_
    simp only [Bool.not_true,Bz62,Bz69,Bz66,go_sem,yz0,xx9,xx8,xx6,xx7,xx5,xx0,xx1,xx2,reduceIte,xx3,xx4,reduceCtorEq]
    refine wpD_lo (fun i=>n.toNat - i) (fun i=>(i:Int)≤n)
      (fun (i:Nat)=>⟨L .any [(5,.ptr 5 (vs2 5 0) 0),(6,.own 1034 (vs2 1 w)),(18,.ptr 18 (vs10 6 0) 0),(20,.own 152 v152),(22,.own 158 v158),(24,iv i)],
        L .gone [(5,.box (vs2 5 0) [iv n,.own 34 (vs2 1 v)]),(18,.box (vs10 6 0) [iv k,.own 146 (vs10 2 v146)]),(34,.row (vs2 1 v) 1 true (rws next)),(47,.row v47 1 true (ints u)),(146,.row (vs10 2 v146) 1 true (rws (quoL cl k.toNat next))),(152,.row v152 1 true (ints xs)),(158,.row v158 1 true (ints ys2)),(1034,.row (vs2 1 w) 1 true (ints cl))]⟩)
      0 (by simp;omega) (by simp only [Bz13,dnL_rws,go_sem,yz0,xx9,xx8,xx6,xx7,xx5,xx0,xx1,xx2,reduceIte,xx3,xx4,reduceCtorEq];try rfl) ?_
    intro i hi
    by_cases hil:(i:Int)<n
    · have hic:i<cl.length:=by omega
      have hix:i<xs.length:=by omega
      have hxr:=xa.2 _ (yz2 hix 0)
      have hxc:(xs.getD i 0).toNat<cl.length:=by omega
      have hci:=D.at hil
      have hcy:(cl.getD i 0).toNat<ys2.length:=by omega
      have wi:IntKind.i64.wrap ((i:Int)+1)=((i+1:Nat):Int):=by rw [w64 (by omega)];simp
      have hge:decide (cl.getD i 0 ≥ k)=false:=decide_eq_false (by omega)
      have hne:(cl.getD (xs.getD i 0).toNat 0 != ys2.getD (cl.getD i 0).toNat 0)=false:=by
        have h1:=quo_at A D hc u (s:=(i:Int)) (by omega) hu
        rw [Int.toNat_natCast] at h1
        rw [hy1 _ hci,h1,hx1 i hil]
        exact bne_self_eq_false _
      simp only [Bz13,Bz32,Bz65,Bz63,Bz64,decide_eq_true hil,yz1 hic,yz1 hix,yz1 hxc,yz1 hcy,hge,hne,wi,dnL_rws,go_sem,yz0,xx9,xx8,xx6,xx7,xx5,xx0,xx1,xx2,reduceIte,xx3,xx4,reduceCtorEq]
      exact ⟨⟨by omega,hic⟩,hic,⟨by omega,hix⟩,hix,⟨hxr.1,hxc⟩,hxc,⟨by omega,hic⟩,hic,⟨hci.1,hcy⟩,hcy,i+1,by omega,by omega,rfl⟩
    · simp only [Bz13,Bz32,Bz68,decide_eq_false hil,dnL_rws,go_sem,yz0,xx9,xx8,xx6,xx7,xx5,xx0,xx1,xx2,reduceIte,xx3,xx4,reduceCtorEq]
      intro vs14
      have h1:=tour_can A
      have h2:=tour_can Q
      have h3:CanR n next→CanR k (quoL cl k.toNat next):=quo_can A D hc
      rw [← h1,← h2] at h3
      have hA:=k_CanReset n next A
      have hB:=k_CanReset k _ Q
      generalize (firstT (tourT next (2 ^ n.toNat - 1))).isSome=can at h3 hA
      generalize (firstT (tourT (quoL cl k.toNat next) (2 ^ k.toNat - 1))).isSome=small at h3 hB
      refine call_fun2 hA qCS ?_
      simp only [Bz67,dnL_rws,go_sem,yz0,xx9,xx8,xx6,xx7,xx5,xx0,xx1,xx2,reduceIte,xx3,xx4,reduceCtorEq]
      intro vs15
      refine call_fun2 hB qCS ?_
      have e01:((0:Int) == 0)=true:=rfl
      cases can with
      | false=>simp only [e01,Bool.not_false,Bz33,go_sem,yz0,xx9,xx8,xx6,xx7,xx5,xx0,xx1,xx2,reduceIte,xx3,xx4,reduceCtorEq]
      | true =>
        rw [h3 rfl]
        simp only [e01,Bool.not_true,Bz33,go_sem,yz0,xx9,xx8,xx6,xx7,xx5,xx0,xx1,xx2,reduceIte,xx3,xx4,reduceCtorEq]
  simp only [Bz6d,Bz61,go_sem,yz0,xx9,xx8,xx6,xx7,xx5,xx0,xx1,xx2,reduceIte,xx3,xx4,reduceCtorEq]
  refine wpD_lo (fun i=>n.toNat - i) (fun i=>(i:Int)≤n)
    (fun (i:Nat)=>⟨L .any [(5,.ptr 5 (vs2 5 0) 0),(6,.own 1034 (vs2 1 w)),(7,iv s),(8,iv t),(9,.own 47 v47),(10,.own 52 (vs6 3 v52)),(16,iv i)],
      L .gone [(5,.box (vs2 5 0) [iv n,.own 34 (vs2 1 v)]),(34,.row (vs2 1 v) 1 true (rws next)),(47,.row v47 1 true (ints u)),(52,.row (vs6 3 v52) 1 true (ints ys)),(1034,.row (vs2 1 w) 1 true (ints cl))]⟩)
    0 (by simp;omega) (by simp only [Bzc,dnL_rws,go_sem,yz0,xx9,xx8,xx6,xx7,xx5,xx0,xx1,xx2,reduceIte,xx3,xx4,reduceCtorEq];try rfl) ?_
  intro i hi
  by_cases hil:(i:Int)<ys.length
  · by_cases hst2:cl.getD s.toNat 0=cl.getD t.toNat 0
    · have hiy:i<ys.length:=by omega
      have hic:i<cl.length:=by omega
      have wi:IntKind.i64.wrap ((i:Int)+1)=((i+1:Nat):Int):=by rw [w64 (by omega)];simp
      have hst3:(cl.getD s.toNat 0 == cl.getD t.toNat 0)=true:=beqT hst2
      simp only [Bzc,Bz11,Bz60,Bz5y,decide_eq_true hil,yz1 hsc,yz1 htc,hst3,dnL_rws,go_sem,yz0,xx9,xx8,xx6,xx7,xx5,xx0,xx1,xx2,reduceIte,xx3,xx4,reduceCtorEq]
      refine ⟨⟨hs.1,hsc⟩,hsc,⟨ht.1,htc⟩,htc,?_⟩
      refine wpD_lo (fun j=>i - j) (fun j=>j≤i)
        (fun (j:Nat)=>⟨L .any [(5,.ptr 5 (vs2 5 0) 0),(6,.own 1034 (vs2 1 w)),(7,iv s),(8,iv t),(9,.own 47 v47),(10,.own 52 (vs6 3 v52)),(16,iv i),(17,iv j)],
          L .gone [(5,.box (vs2 5 0) [iv n,.own 34 (vs2 1 v)]),(34,.row (vs2 1 v) 1 true (rws next)),(47,.row v47 1 true (ints u)),(52,.row (vs6 3 v52) 1 true (ints ys)),(1034,.row (vs2 1 w) 1 true (ints cl))]⟩)
        0 (by simp) (by simp only [Bzb,dnL_rws,go_sem,yz0,xx9,xx8,xx6,xx7,xx5,xx0,xx1,xx2,reduceIte,xx3,xx4,reduceCtorEq];try rfl) ?_
      intro j hj
      by_cases hlj:(j:Int)<i
      · have hjy:j<ys.length:=by omega
        have hjc:j<cl.length:=by omega
        have wj:IntKind.i64.wrap ((j:Int)+1)=((j+1:Nat):Int):=by rw [w64 (by omega)];simp
        by_cases hyy:ys.getD i 0=ys.getD j 0
        · have hy3:(ys.getD i 0 == ys.getD j 0)=true:=beqT hyy
          have hc3:(cl.getD i 0 != cl.getD j 0)=false:=by rw [LP.mn cl hrsp hst2 i j (by omega) (by omega) hyy];exact bne_self_eq_false _
          simp only [Bzb,Bz12,Bz31,Bz2z,Bz30,decide_eq_true hlj,yz1 hiy,yz1 hjy,yz1 hic,yz1 hjc,hy3,hc3,wj,dnL_rws,go_sem,yz0,xx9,xx8,xx6,xx7,xx5,xx0,xx1,xx2,reduceIte,xx3,xx4,reduceCtorEq]
          exact ⟨⟨by omega,hiy⟩,hiy,⟨by omega,hjy⟩,hjy,⟨by omega,hic⟩,hic,⟨by omega,hjc⟩,hjc,j+1,by omega,by omega,rfl⟩
        · have hy3:(ys.getD i 0 == ys.getD j 0)=false:=beqF hyy
          simp only [Bzb,Bz12,Bz31,Bz2z,Bz30,decide_eq_true hlj,yz1 hiy,yz1 hjy,hy3,wj,dnL_rws,go_sem,yz0,xx9,xx8,xx6,xx7,xx5,xx0,xx1,xx2,reduceIte,xx3,xx4,reduceCtorEq]
          exact ⟨⟨by omega,hiy⟩,hiy,⟨by omega,hjy⟩,hjy,j+1,by omega,by omega,rfl⟩
      · simp only [Bzb,Bz12,Bz5z,decide_eq_false hlj,wi,dnL_rws,go_sem,yz0,xx9,xx8,xx6,xx7,xx5,xx0,xx1,xx2,reduceIte,xx3,xx4,reduceCtorEq]
        exact ⟨i+1,by omega,by omega,rfl⟩
    · have hst3:(cl.getD s.toNat 0 == cl.getD t.toNat 0)=false:=beqF hst2
      simp only [Bzc,Bz11,decide_eq_true hil,yz1 hsc,yz1 htc,hst3,dnL_rws,go_sem,yz0,xx9,xx8,xx6,xx7,xx5,xx0,xx1,xx2,reduceIte,xx3,xx4,reduceCtorEq]
      refine ⟨⟨hs.1,hsc⟩,hsc,⟨ht.1,htc⟩,htc,hrest _ ?_⟩
      simp only [dnL_rws,go_sem,yz0,xx9,xx8,xx6,xx7,xx5,xx0,xx1,xx2,reduceIte,xx3,xx4,reduceCtorEq]
  · simp only [Bzc,Bz11,decide_eq_false hil,dnL_rws,go_sem,yz0,xx9,xx8,xx6,xx7,xx5,xx0,xx1,xx2,reduceIte,xx3,xx4,reduceCtorEq]
    refine hrest _ ?_
    simp only [dnL_rws,go_sem,yz0,xx9,xx8,xx6,xx7,xx5,xx0,xx1,xx2,reduceIte,xx3,xx4,reduceCtorEq]
end Go.Ab
