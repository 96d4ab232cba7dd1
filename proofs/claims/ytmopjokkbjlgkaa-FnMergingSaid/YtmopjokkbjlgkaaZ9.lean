/- Contracts and what they lean on, part 9. Conditions: none. -/
import Derived.Test.YtmopjokkbjlgkaaZ8
set_option maxRecDepth 100000
set_option maxHeartbeats 4000000
set_option linter.all false
open Nat renaming reduceLeDiff → xx0, reduceMul → xx1, reduceSub → xx2, reduceEqDiff → xx3, reduceAdd → xx4, reduceLT → xx5
open Int renaming reduceToNat → xx6, reduceNeg → xx7, reduceLE → xx8, reduceLT → xx9
namespace Go.Ab
open Go.Proofs
attribute [local go_sem] ren_argN dn_argN dnL_optS dnL_rzsS one_optS one_rzsS frz_optS frz_rzsS owned_optS owned_rzsS opt_someS opt_noneS rzs_snocS rzs_lenS opt_lenS
theorem k_sizeN:Fun Try.prog nzq [.val (.slice none 0 0)] (iv 0):=by
  refine fun_of mixed czaf rfl ⟨rfl,trivial⟩ ?_
  simp only [Bz5c,Az5d,go_sem,yz0,xx9,xx8,xx6,xx7,xx5,xx0,xx1,xx2,reduceIte,xx3,xx4,reduceCtorEq]
theorem k_PairTable (n:Int) (next:List (List Int)) (A:Aut n next) :
    Fn Try.prog nz3e [autA n next] fun rows res=>∃ v,rows=[.row v 1 true (rws (tabL next n.toNat n.toNat))]∧res=.tup [.own 6000 v,iv 0]:=by
  refine con_of mixed czg2 rfl (by simp) ?_
  have n1:=A.n1
  have n2:=A.n2
  have hv:autB n next=true:=autB_iff.2 A
  generalize hQ:finQ _=Q
  simp only [Az4m,Bz8r,go_sem,yz0,xx9,xx8,xx6,xx7,xx5,xx0,xx1,xx2,reduceIte,xx3,xx4,reduceCtorEq]
  intro vs vs2
  refine yz11 (k_Valid n next) qCS trivial ?_
  simp only [hv,Bz8g,Bz8q,go_sem,yz0,xx9,xx8,xx6,xx7,xx5,xx0,xx1,xx2,reduceIte,xx3,xx4,reduceCtorEq]
  intro vs3
  simp only [Bz8p,go_sem,yz0,xx9,xx8,xx6,xx7,xx5,xx0,xx1,xx2,reduceIte,xx3,xx4,reduceCtorEq]
  intro vs4
  refine call_sh (k_mergesS n next A) qCS (fun e=>by cases e) ?_
  rintro outs rows res ⟨rfl,v16,rfl,rfl⟩
  refine ⟨rfl,by simp,by rw [Option.getD_some,yzh];simp only [go_sem,yz0,xx9,xx8,xx6,xx7,xx5,xx0,xx1,xx2,reduceIte,xx3,xx4,reduceCtorEq],?_⟩
  have hml:=mergT_len (next:=next) (n:=n.toNat) (i:=n.toNat)
  have hmd:∀ i,i<n.toNat→(mergT next n.toNat n.toNat).getD i []=mergW next (i:Int) n.toNat:=fun i h=>mergT_getD h
  simp only [Option.getD_some,Bz8n,hml,renL_rzsS,Nat.not_lt_zero,range1,yzx,yz13,ren_ro,rnNm_n,yz12,rnNm_o,rnNm_s,ren_st,yzz,yzr,yzg,yz4,yzv,yzt,yzp,yzo,yzs,yz8,yze,yzc,yzd,yzj,yzl,yz3,yz7,yzb,yza,yzk,yzm,List.range_zero,yz6,yz5,yz9,yzu,yzh,yzq,AVal.fresh,freshL,yz2,yzi,AObj.fresh,id,Option.isSome_some,or_true,true_or,go_sem,yz0,xx9,xx8,xx6,xx7,xx5,xx0,xx1,xx2,reduceIte,xx3,xx4,reduceCtorEq]
  generalize mergT next n.toNat n.toNat=M at hml hmd
  intro hM
  refine wpD_lo (fun (_,i)=>n.toNat - i) (fun (_,i)=>i≤n.toNat)
    (fun ((v,i):Nat×Nat)=>⟨L .any [(4,.own 14 v),(16,.own 16 (vs4 1 v16)),(17,iv (n.toNat:Int)),(18,iv i)],L .gone [(1,.box (vs 0 0) [iv n,.ro none 1 (rwn next)]),(14,.row v 1 true (rws (tabL next n.toNat i))),(16,.row (vs4 1 v16) 1 true (rzsS M))]⟩)
    (_,0) (by simp) (by simp only [Bz25,go_sem,yz0,xx9,xx8,xx6,xx7,xx5,xx0,xx1,xx2,reduceIte,xx3,xx4,reduceCtorEq];try rfl) ?_
  rintro ⟨v,i⟩ hi
  have hi:i≤n.toNat:=hi
  by_cases hlt:(i:Int)<(n.toNat:Int)
  · have hlt1:i<n.toNat:=by omega
    have hlm:i<M.length:=by omega
    have wi:IntKind.i64.wrap ((i:Int)+1)=((i+1:Nat):Int):=by rw [w64 (by omega)];simp
    simp only [Bz25,Bz4l,Bz8m,rzs_getDS hlm,hmd i hlt1,decide_eq_true hlt,go_sem,yz0,xx9,xx8,xx6,xx7,xx5,xx0,xx1,xx2,reduceIte,xx3,xx4,reduceCtorEq]
    refine ⟨⟨by omega,hlm⟩,hlm,?_⟩
    simp only [Bz8k,go_sem,yz0,xx9,xx8,xx6,xx7,xx5,xx0,xx1,xx2,reduceIte,xx3,xx4,reduceCtorEq]
    intro vs5
    simp only [Bz8j,mergW_len,go_sem,yz0,xx9,xx8,xx6,xx7,xx5,xx0,xx1,xx2,reduceIte,xx3,xx4,reduceCtorEq]
    intro hM2
    simp only [Bz8h,go_sem,yz0,xx9,xx8,xx6,xx7,xx5,xx0,xx1,xx2,reduceIte,xx3,xx4,reduceCtorEq]
    refine wpD_lo (fun (_,j)=>n.toNat - j) (fun (_,j)=>j≤n.toNat)
      (fun ((u,j):Nat×Nat)=>⟨L .any [(4,.own 14 v),(7,.own 22 u),(16,.own 16 (vs4 1 v16)),(17,iv (n.toNat:Int)),(18,iv i),(23,.ro (some none) 1 (optLS (mergW next (i:Int) n.toNat))),(24,iv (n.toNat:Int)),(25,iv j)],
        L .gone [(1,.box (vs 0 0) [iv n,.ro none 1 (rwn next)]),(14,.row v 1 true (rws (tabL next n.toNat i))),(16,.row (vs4 1 v16) 1 true (rzsS M)),(22,.row u 1 true (ints (tabW next (i:Int) j)))]⟩)
      (_,0) (by simp) (by simp only [Bzz,go_sem,yz0,xx9,xx8,xx6,xx7,xx5,xx0,xx1,xx2,reduceIte,xx3,xx4,reduceCtorEq];try rfl) ?_
    rintro ⟨u,j⟩ hj
    have hj:j≤n.toNat:=hj
    by_cases hlj:(j:Int)<(n.toNat:Int)
    · have hlj1:j<n.toNat:=by omega
      have hlw:j<(mergW next (i:Int) n.toNat).length:=by rw [mergW_len];exact hlj1
      have wj:IntKind.i64.wrap ((j:Int)+1)=((j+1:Nat):Int):=by rw [w64 (by omega)];simp
      have hg:(mergW next (i:Int) n.toNat).getD j none=mergQ next (i:Int) (j:Int):=mergW_getD hlj1
      have hts:tabW next (i:Int) (j+1)=tabW next (i:Int) j ++ [tabE (mergQ next (i:Int) (j:Int))]:=tabW_succ
      cases hq:mergQ next (i:Int) (j:Int) with
      | some w =>
        rw [hq] at hg hts
        simp only [Bzz,Bz24,Bz4k,opt_getDS hlw,hg,optCS,decide_eq_true hlj,go_sem,yz0,xx9,xx8,xx6,xx7,xx5,xx0,xx1,xx2,reduceIte,xx3,xx4,reduceCtorEq]
        refine ⟨⟨by omega,hlw⟩,hlw,?_⟩
        simp only [Bz4i,go_sem,yz0,xx9,xx8,xx6,xx7,xx5,xx0,xx1,xx2,reduceIte,xx3,xx4,reduceCtorEq]
        intro vs6
        refine yz11 (k_size w) qCS trivial ?_
        simp only [Bz4h,Bz4f,Bz4g,Bz4j,wj,go_sem,yz0,xx9,xx8,xx6,xx7,xx5,xx0,xx1,xx2,reduceIte,xx3,xx4,reduceCtorEq]
        have hts':tabW next (i:Int) (j+1)=tabW next (i:Int) j ++ [(w.length:Int)]:=hts
        exact fun vs7=>⟨⟨_,rfl,rfl⟩,by rw [tabW_len];omega,(vs7 3 0,j+1),by dsimp only;omega,by dsimp only;omega,by rw [hts']⟩
      | none =>
        rw [hq] at hg hts
        simp only [Bzz,Bz24,Bz4k,opt_getDS hlw,hg,optCS,decide_eq_true hlj,go_sem,yz0,xx9,xx8,xx6,xx7,xx5,xx0,xx1,xx2,reduceIte,xx3,xx4,reduceCtorEq]
        refine ⟨⟨by omega,hlw⟩,hlw,?_⟩
        simp only [Bz4i,go_sem,yz0,xx9,xx8,xx6,xx7,xx5,xx0,xx1,xx2,reduceIte,xx3,xx4,reduceCtorEq]
        intro vs6
        refine yz11 k_sizeN qCS trivial ?_
        simp only [Bz4h,Bz4f,Bz4g,Bz4j,wj,go_sem,yz0,xx9,xx8,xx6,xx7,xx5,xx0,xx1,xx2,reduceIte,xx3,xx4,reduceCtorEq]
        have hts':tabW next (i:Int) (j+1)=tabW next (i:Int) j ++ [-1]:=hts
        exact fun vs7=>⟨⟨_,rfl,rfl⟩,by rw [tabW_len];omega,(vs7 3 0,j+1),by dsimp only;omega,by dsimp only;omega,by rw [hts']⟩
    · obtain rfl:j=n.toNat:=by omega
      simp only [Bzz,Bz24,Bz8i,Bz8l,decide_eq_false hlj,wi,go_sem,yz0,xx9,xx8,xx6,xx7,xx5,xx0,xx1,xx2,reduceIte,xx3,xx4,reduceCtorEq]
      exact fun vs7=>⟨by rw [tabL_len];omega,(vs7 3 0,i+1),by dsimp only;omega,by dsimp only;omega,by rw [tabL_succ]⟩
  · obtain rfl:i=n.toNat:=by omega
    simp only [Bz25,Bz4l,Bz8o,decide_eq_false hlt,Az4m,← hQ,go_sem,yz0,xx9,xx8,xx6,xx7,xx5,xx0,xx1,xx2,reduceIte,xx3,xx4,reduceCtorEq]
    refine ⟨[14],by simp,by simp,by simp,?_⟩
    simp only [range1,List.length_singleton,Nat.not_lt_zero,range1,yzx,yz13,ren_ro,rnNm_n,yz12,rnNm_o,rnNm_s,ren_st,yzz,yzr,yzg,yz4,yzv,yzt,yzp,yzo,yzs,yz8,yze,yzc,yzd,yzj,yzl,yz3,yz7,yzb,yza,yzk,yzm,List.range_zero,yz6,yz5,yz9,yzu,yzh,yzq,AVal.fresh,freshL,yz2,yzi,AObj.fresh,id,Option.isSome_some,or_true,true_or,go_sem,yz0,xx9,xx8,xx6,xx7,xx5,xx0,xx1,xx2,reduceIte,xx3,xx4,reduceCtorEq]
    exact ⟨_,rfl,rfl⟩
theorem k_MergingWord_1 (n:Int) (next:List (List Int)) (s t:Int) (hn:1≤n∧n≤10):Fun Try.prog nz1m [autP n next,.rp [iv s] 0,.rp [iv t] 0] (bv ((decide (0≤s) && decide (s≤n - 1)) && (decide (0≤t) && decide (t≤n - 1)))):=by
  refine fun_of mixed czgk rfl ⟨rfl,trivial⟩ ?_
  simp only [Bzau,Azav,go_sem,yz0,xx9,xx8,xx6,xx7,xx5,xx0,xx1,xx2,reduceIte,xx3,xx4,reduceCtorEq]
  intro vs
  refine yz11 (k_isState n next s hn) qCS trivial ?_
  cases h:(decide (0≤s) && decide (s≤n - 1)) with
  | false=>simp only [Bool.false_and,go_sem,yz0,xx9,xx8,xx6,xx7,xx5,xx0,xx1,xx2,reduceIte,xx3,xx4,reduceCtorEq]
  | true =>
    simp only [Bool.true_and,go_sem,yz0,xx9,xx8,xx6,xx7,xx5,xx0,xx1,xx2,reduceIte,xx3,xx4,reduceCtorEq]
    refine yz11 (k_isState n next t hn) qCS trivial ?_
    simp only [go_sem,yz0,xx9,xx8,xx6,xx7,xx5,xx0,xx1,xx2,reduceIte,xx3,xx4,reduceCtorEq]
theorem k_MergingWord (n:Int) (next:List (List Int)) (A:Aut n next) (s t:Int) (hs:0≤s∧s<n) (ht:0≤t∧t<n) :
    Con Try.prog nz3i [.row 0 1 true (rwn next)] [.st [iv n,.own 5000 0],iv s,iv t] true
      fun outs rows res=>outs=[.row 0 1 true (rwn next)]∧rows=[]∧res=mergR next s t:=by
  refine con_sh mixed czg7 rfl (by simp) ?_
  have n1:=A.n1
  have n2:=A.n2
  have hv:autB n next=true:=autB_iff.2 A
  have hb:((decide (0≤s) && decide (s≤n - 1)) && (decide (0≤t) && decide (t≤n - 1)))=true:=by simp only [Bool.and_eq_true,decide_eq_true_eq];omega
  have e0:codeI true true=0:=by simp [codeI]
  have e1:((0:Int) != 0)=false:=rfl
  generalize hQ:finQ _=Q
  simp only [Az2b,Bz99,go_sem,yz0,xx9,xx8,xx6,xx7,xx5,xx0,xx1,xx2,reduceIte,xx3,xx4,reduceCtorEq]
  intro vs vs2
  refine yz11 (k_code n next nz1m [autP n next,.rp [iv s] 0,.rp [iv t] 0] _ ⟨by simp only [go_sem,yz0,xx9,xx8,xx6,xx7,xx5,xx0,xx1,xx2,reduceIte,xx3,xx4,reduceCtorEq],by intros;simp only [rowIs,boxIs,coe_argN,yz19,coe_ro_o,yz18,yzw,coe_any,coe_val,coe_ro,yz15,yz16,coe_st,yz14,coe_rp,yz17,coe_clo,coe_own0,coe_ptr0,yz10,coeL_rws,yz1a,L_hit,L_miss,L_nil,xx3,ne_eq,reduceCtorEq,not_false_eq_true,true_and,and_true,and_self,exists_eq_left,exists_eq_right,List.mem_cons,List.not_mem_nil,or_false,AObj.row.injEq,AObj.box.injEq,exists_eq_left',exists_and_left,exists_eq,Nat.zero_lt_one,Nat.lt_add_one,List.map_cons,List.map_nil,AObj.ver,xx5,not_true_eq_false]⟩ (fun _=>k_MergingWord_1 n next s t ⟨n1,n2⟩)) qCS trivial ?_
  rw [hv,hb]
  simp only [e0,e1,Bz97,Bz96,Bz98,go_sem,yz0,xx9,xx8,xx6,xx7,xx5,xx0,xx1,xx2,reduceIte,xx3,xx4,reduceCtorEq]
  intro vs3
  refine call_steG (R:=fun rows res=>rows=[]∧res=mergR next s t) (k_mergingH n next A s t hs ht) rfl qCS rfl (of_eq_true yz1a) ?_
  rintro rows res ⟨rfl,rfl⟩
  refine ⟨by simp,by simp,?_⟩
  rw [callHp_m]
  generalize hf:sv (L .gone _) [5000] (vs3 3)=f
  have hf0:f 0=0:=by rw [← hf];simp [sv,AObj.ver,L]
  unfold mergR
  cases hq:mergQ next s t with
  | some w =>
    simp only [hf0,optC,Az2b,← hQ,Nat.not_lt_zero,range1,yzx,yz13,ren_ro,rnNm_n,yz12,rnNm_o,rnNm_s,ren_st,yzz,yzr,yzg,yz4,yzv,yzt,yzp,yzo,yzs,yz8,yze,yzc,yzd,yzj,yzl,yz3,yz7,yzb,yza,yzk,yzm,List.range_zero,yz6,yz5,yz9,yzu,yzh,yzq,AVal.fresh,freshL,yz2,yzi,AObj.fresh,id,Option.isSome_some,or_true,true_or,go_sem,yz0,xx9,xx8,xx6,xx7,xx5,xx0,xx1,xx2,reduceIte,xx3,xx4,reduceCtorEq]
    exact ⟨[],by simp,by simp,by simp,rfl,by rw [mergR,hq];rfl⟩
  | none =>
    simp only [hf0,optC,Az2b,← hQ,Nat.not_lt_zero,range1,yzx,yz13,ren_ro,rnNm_n,yz12,rnNm_o,rnNm_s,ren_st,yzz,yzr,yzg,yz4,yzv,yzt,yzp,yzo,yzs,yz8,yze,yzc,yzd,yzj,yzl,yz3,yz7,yzb,yza,yzk,yzm,List.range_zero,yz6,yz5,yz9,yzu,yzh,yzq,AVal.fresh,freshL,yz2,yzi,AObj.fresh,id,Option.isSome_some,or_true,true_or,go_sem,yz0,xx9,xx8,xx6,xx7,xx5,xx0,xx1,xx2,reduceIte,xx3,xx4,reduceCtorEq]
    exact ⟨[],by simp,by simp,by simp,rfl,by rw [mergR,hq];rfl⟩
end Go.Ab
namespace Go.Ab
abbrev lenT (L:TS) (j:Nat):Nat:=(L.getD j (0,[])).2.length
theorem visT_tail {next:List (List Int)} {f:Nat} {w:List Int}:∀ (x:Nat) (L:TS),∃ t,visT next f w x L=L ++ t∧∀ p∈t,p.2.length=w.length+1
  | 0,L=>⟨[],by simp [visT]⟩
  | x+1,L=>by
    obtain ⟨t,h,h2⟩:=visT_tail (next:=next) (f:=f) (w:=w) x L
    rw [visT_succ]
    split
    · exact ⟨t,h,h2⟩
    · refine ⟨t ++ [(stepN (next.getD x []) f,w ++ [(x:Int)])],by rw [← List.append_assoc,← h],fun p hp=>?_⟩
      rcases List.mem_append.1 hp with hp | hp
      · exact h2 p hp
      · rw [List.mem_singleton.1 hp];simp
structure MoT (next:List (List Int)) (L:TS) (i:Nat):Prop where
  mo:∀ j k,j≤k→k<L.length→lenT L j≤lenT L k
  cap:i<L.length→∀ j<L.length,lenT L j≤lenT L i+1
  ix:∀ j<L.length,lenT L j≤j
  clo:∀ j<i,∀ x<next.length,∃ k<L.length,(L.getD k (0,[])).1=stepN (next.getD x []) (L.getD j (0,[])).1∧lenT L k≤lenT L j+1
theorem MoT.zero {next:List (List Int)} {f:Nat}:MoT next [(f,[])] 0:=by
  refine ⟨fun j k h hk=>?_,fun _ j hj=>?_,fun j hj=>?_,fun j hj=>by omega⟩
  · have:k=0:=by simpa using hk
    subst this
    obtain rfl:j=0:=by omega
    exact Nat.le_refl _
  · have:j=0:=by simpa using hj
    subst this;simp [lenT]
  · have:j=0:=by simpa using hj
    subst this;simp [lenT]
theorem MoT.step {next:List (List Int)} {L:TS} {i:Nat} (M:MoT next L i) (hi:i<L.length):MoT next (visT next (L.getD i (0,[])).1 (L.getD i (0,[])).2 next.length L) (i+1):=by
  obtain ⟨t,ht,hl⟩:=visT_tail (next:=next) (f:=(L.getD i (0,[])).1) (w:=(L.getD i (0,[])).2) next.length L
  have hhas:=visT_has (next:=next) (f:=(L.getD i (0,[])).1) (w:=(L.getD i (0,[])).2) next.length L
  rw [ht] at hhas ⊢
  have hold:∀ j<L.length,(L ++ t).getD j (0,[])=L.getD j (0,[]):=fun j hj=>getD_app hj _
  have hnew:∀ j,L.length≤j→j<(L ++ t).length→lenT (L ++ t) j=lenT L i+1:=fun j h1 h2=>by
    have h3:(L ++ t).getD j (0,[])∈t:=by
      rw [List.getD_eq_getElem?_getD,List.getElem?_append_right h1]
      rw [List.length_append] at h2
      rw [List.getElem?_eq_getElem (by omega)]
      exact List.getElem_mem _
    exact hl _ h3
  have hcap:∀ j<(L ++ t).length,lenT (L ++ t) j≤lenT L i+1:=fun j hj=>by
    by_cases h:j<L.length
    · show ((L ++ t).getD j (0,[])).2.length≤_
      rw [hold j h];exact M.cap hi j h
    · exact Nat.le_of_eq (hnew j (by omega) hj)
  have hoi:lenT (L ++ t) i=lenT L i:=by show ((L ++ t).getD i (0,[])).2.length=_;rw [hold i hi]
  have hmo:∀ j k,j≤k→k<(L ++ t).length→lenT (L ++ t) j≤lenT (L ++ t) k:=fun j k hjk hk=>by
    by_cases h:k<L.length
    · show ((L ++ t).getD j (0,[])).2.length≤((L ++ t).getD k (0,[])).2.length
      rw [hold j (by omega),hold k h];exact M.mo j k hjk h
    · rw [hnew k (by omega) hk];exact hcap j (by omega)
  refine ⟨hmo,fun h j hj=>?_,fun j hj=>?_,fun j hj x hx=>?_⟩
  · have h1:=hcap j hj
    have h2:=hmo i (i+1) (by omega) h
    omega
  · by_cases h:j<L.length
    · show ((L ++ t).getD j (0,[])).2.length≤_
      rw [hold j h];exact M.ix j h
    · rw [hnew j (by omega) hj]
      have:=M.ix i hi
      omega
  · by_cases e:j<i
    · obtain ⟨k,hk,h1,h2⟩:=M.clo j e x hx
      refine ⟨k,by rw [List.length_append];omega,?_,?_⟩
      · rw [hold k hk,hold j (by omega)];exact h1
      · show ((L ++ t).getD k (0,[])).2.length≤((L ++ t).getD j (0,[])).2.length+1
        rw [hold k hk,hold j (by omega)];exact h2
    · obtain rfl:j=i:=by omega
      obtain ⟨p,hp,he⟩:=List.mem_map.1 (hasT_iff.1 (hhas x hx))
      obtain ⟨k,hk,hg⟩:=List.getElem_of_mem hp
      have hkd:(L ++ t).getD k (0,[])=p:=by rw [List.getD_eq_getElem?_getD,List.getElem?_eq_getElem hk];exact hg
      refine ⟨k,hk,?_,?_⟩
      · rw [hkd,hold j hi];exact he
      · rw [hoi];exact hcap k hk
theorem run_mo {n:Int} {next:List (List Int)} (A:Aut n next):∀ (F i:Nat) (L:TS),TI n.toNat next.length L→i≤L.length→1025≤F+i→MoT next L i→MoT next (runT next F i L) (runT next F i L).length
  | 0,i,L,h,hi,hF,hc=>by
    have h1:=h.len
    have:2 ^ n.toNat≤1024:=Nat.pow_le_pow_right (n:=2) (by omega) (show n.toNat≤10 by have:=A.n2;omega)
    omega
  | F+1,i,L,h,hi,hF,hc=>by
    simp only [runT]
    split
    · rename_i hi1
      have h1:=(visT_ok A h hi1 next.length (Nat.le_refl _)).1
      obtain ⟨t,ht⟩:=visT_pre (next:=next) (f:=(L.getD i (0,[])).1) (w:=(L.getD i (0,[])).2) next.length L
      exact run_mo A F (i+1) _ h1 (by rw [ht,List.length_append];omega) (by omega) (hc.step hi1)
    · have:i=L.length:=by omega
      rw [← this];exact hc
theorem tour_mo {n:Int} {next:List (List Int)} (A:Aut n next) {f:Nat} (hf:f<2 ^ n.toNat):MoT next (tourT next f) (tourT next f).length :=
  run_mo A 1100 0 _ (TI0 (m:=next.length) hf) (by omega) (by omega) MoT.zero
theorem tour_le {n:Int} {next:List (List Int)} (A:Aut n next) {f:Nat} (hf:f<2 ^ n.toNat):∀ (k:Nat) (w:List Int),w.length=k→(∀ x∈w,0≤x∧x<next.length) →
    ∃ j<(tourT next f).length,((tourT next f).getD j (0,[])).1=imN next f w∧lenT (tourT next f) j≤k
  | 0,w,hk,_=>by
    obtain rfl:w=[]:=List.eq_nil_of_length_eq_zero hk
    obtain ⟨t,ht⟩:=runT_pre (next:=next) 1100 0 [(f,[])]
    refine ⟨0,?_,?_,?_⟩
    · unfold tourT;rw [ht];simp
    · unfold tourT;rw [ht];rfl
    · unfold tourT lenT;rw [ht];exact Nat.le_refl _
  | k+1,w,hk,hw=>by
    have hne:w≠[]:=fun e=>by rw [e] at hk;simp at hk
    have e:=List.dropLast_concat_getLast hne
    have hl:=hw _ (List.getLast_mem hne)
    obtain ⟨j,hj,h1,h2⟩:=tour_le A hf k w.dropLast (by rw [List.length_dropLast];omega) (fun x hx=>hw x (List.dropLast_subset w hx))
    obtain ⟨m,hm,g1,g2⟩:=(tour_mo A hf).clo j hj (w.getLast hne).toNat (by omega)
    refine ⟨m,hm,?_,by omega⟩
    rw [g1,h1,← imN_snoc,e]
theorem find_at {T:TS} {p:Nat×List Int} (h:firstT T=some p):∃ i<T.length,T.getD i (0,[])=p∧smallN p.1=true∧∀ j<i,smallN (T.getD j (0,[])).1=false:=by
  obtain ⟨hp,i,hi,hg,hb⟩:=List.find?_eq_some_iff_getElem.1 h
  refine ⟨i,hi,?_,by simpa using hp,fun j hj=>?_⟩
  · rw [List.getD_eq_getElem?_getD,List.getElem?_eq_getElem hi];exact hg
  · have:=hb j hj
    rw [List.getD_eq_getElem?_getD,List.getElem?_eq_getElem (by omega)]
    simpa using this
theorem first_le {n:Int} {next:List (List Int)} (A:Aut n next) {f:Nat} (hf:f<2 ^ n.toNat) {p:Nat×List Int} (h:firstT (tourT next f)=some p) {w:List Int} (hw:IsW next.length w) (hs:smallN (imN next f w)=true):p.2.length≤w.length:=by
  obtain ⟨i,hi,hg,_,hb⟩:=find_at h
  obtain ⟨j,hj,h1,h2⟩:=tour_le A hf w.length w rfl hw
  have hij:i≤j:=by
    by_cases c:i≤j
    · exact c
    · have:=hb j (by omega)
      rw [h1,hs] at this;cases this
  have h3:=(tour_mo A hf).mo i j hij hj
  have:lenT (tourT next f) i=p.2.length:=by unfold lenT;rw [hg]
  omega
theorem merg_le {n:Int} {next:List (List Int)} (A:Aut n next) {s t:Int} (hs:0≤s∧s<n) (ht:0≤t∧t<n) {w v:List Int} (h:mergQ next s t=some w) (hv:IsW next.length v) (he:atA next s v=atA next t v):w.length≤v.length:=by
  unfold mergQ at h
  obtain ⟨p,hp,rfl⟩:=Option.map_eq_some_iff.1 h
  exact first_le A (two_lt hs ht) hp hv ((small_two A hs ht hv).2 he)
theorem nodup_sub:∀ (l m:List Nat),l.Nodup→(∀ x∈l,x∈m)→l.length≤m.length
  | [],m,_,_=>by simp
  | x :: l,m,hd,h=>by
    rw [List.nodup_cons] at hd
    have hx:=h x (by simp)
    have h1:=List.length_erase_of_mem hx
    have h2:0<m.length:=List.length_pos_of_mem hx
    have h3:=nodup_sub l (m.erase x) hd.2 fun y hy=>(List.mem_erase_of_ne (fun e:y=x=>hd.1 (by rw [← e];exact hy))).2 (h y (by simp [hy]))
    simp only [List.length_cons];omega
theorem merg_bound {n:Int} {next:List (List Int)} (A:Aut n next) {s t:Int} (hs:0≤s∧s<n) (ht:0≤t∧t<n) {w:List Int} (h:mergQ next s t=some w):w.length≤(every n).length:=by
  have n1:=A.n1
  have n2:=A.n2
  unfold mergQ at h
  obtain ⟨p,hp,rfl⟩:=Option.map_eq_some_iff.1 h
  obtain ⟨i,hi,hg,_,hb⟩:=find_at hp
  have hT:=(runT_ok A 1100 0 _ (TI0 (m:=next.length) (two_lt hs ht))).1
  have h1:=(tour_mo A (two_lt hs ht)).ix i hi
  have e1:lenT (tourT next (twoN s t)) i=p.2.length:=by unfold lenT;rw [hg]
  have h2:((tourT next (twoN s t)).map (·.1)).Nodup:=hT.nd
  have h3:(((tourT next (twoN s t)).map (·.1)).take i).length≤((every n).map fun q=>twoN (q.getD 0 0) (q.getD 1 0)).length:=by
    refine nodup_sub _ _ (h2.sublist (List.take_sublist _ _)) fun x hx=>?_
    obtain ⟨j,hj,hgx⟩:=List.getElem_of_mem hx
    rw [List.length_take] at hj
    rw [List.getElem_take,List.getElem_map] at hgx
    have hjl:j<(tourT next (twoN s t)).length:=by rw [List.length_map] at hj;omega
    have hsm:=hb j (by omega)
    rw [List.getD_eq_getElem?_getD,List.getElem?_eq_getElem hjl,Option.getD_some] at hsm
    have hm:(tourT next (twoN s t))[j]∈tourT next (twoN s t):=List.getElem_mem _
    generalize (tourT next (twoN s t))[j]=q at hgx hsm hm
    have hw:IsW next.length q.2:=(hT.wd q hm).1
    have a0:=A.at (w:=q.2) hs hw
    have a1:=A.at (w:=q.2) ht hw
    have e2:=two_snd q hm
    have hne:atA next s q.2≠atA next t q.2:=fun e=>by
      rw [e2,(small_two A hs ht hw).2 e] at hsm;cases hsm
    rw [e2,imN_two A hs ht hw] at hgx
    rw [← hgx]
    by_cases c:atA next s q.2<atA next t q.2
    · exact List.mem_map.2 ⟨[atA next s q.2,atA next t q.2],(pairsL_mem (by omega)).2 ⟨_,_,a0.1,c,a1.2,rfl,rfl⟩,rfl⟩
    · rw [twoN_comm]
      exact List.mem_map.2 ⟨[atA next t q.2,atA next s q.2],(pairsL_mem (by omega)).2 ⟨_,_,a1.1,by omega,a0.2,rfl,rfl⟩,rfl⟩
  rw [List.length_take,List.length_map,List.length_map] at h3
  omega
end Go.Ab
namespace Go.Ab
theorem mer_can {n:Int} {next:List (List Int)} (A:Aut n next) (h:∀ s t:Int,0≤s∧s<n→0≤t∧t<n→MerP next s t):CanR n next:=by
  have gen:∀ m:Nat,(m:Int)≤n→∃ w,IsW next.length w∧∀ s t:Int,0≤s∧s<m→0≤t∧t<m→atA next s w=atA next t w:=by
    intro m
    induction m with
    | zero=>intro _;exact ⟨[],isw_nil,fun s t hs _=>by omega⟩
    | succ m ih =>
      intro hm
      obtain ⟨w,hw,he⟩:=ih (by omega)
      obtain ⟨v,hv,hv2⟩:=h (atA next 0 w) (atA next (m:Int) w) (A.at (by omega) hw) (A.at (by omega) hw)
      have key:∀ s:Int,0≤s∧s<((m+1:Nat):Int)→atA next s (w ++ v)=atA next (m:Int) (w ++ v):=fun s hs=>by
        rw [atA_app,atA_app]
        by_cases c:s<m
        · rw [he s 0 ⟨hs.1,c⟩ (by omega)];exact hv2
        · rw [show s=(m:Int) by omega]
      exact ⟨w ++ v,isw_app hw hv,fun s t hs ht=>by rw [key s hs,key t ht]⟩
  obtain ⟨w,hw,he⟩:=gen n.toNat (by have:=A.n1;omega)
  have n1:=A.n1
  exact ⟨w,hw,fun s t hs ht=>he s t (by omega) (by omega)⟩
theorem can_mer {n:Int} {next:List (List Int)} (h:CanR n next) {s t:Int} (hs:0≤s∧s<n) (ht:0≤t∧t<n):MerP next s t:=by
  obtain ⟨w,hw,he⟩:=h
  exact ⟨w,hw,he s t hs ht⟩
theorem can_stab {n:Int} {next:List (List Int)} (A:Aut n next) (h:CanR n next) {s t:Int} (hs:0≤s∧s<n) (ht:0≤t∧t<n):StabP next s t :=
  fun _ hw=>can_mer h (A.at hs hw) (A.at ht hw)
theorem can_iff {n:Int} {next:List (List Int)} (A:Aut n next):CanR n next↔∀ s t:Nat,(s:Int)<n→t<s→(mergQ next (s:Int) (t:Int)).isSome=true:=by
  constructor
  · intro h s t hs ht
    exact (merg_iff A (by omega) (by omega)).2 (can_mer h (by omega) (by omega))
  · intro h
    refine mer_can A fun s t hs ht=>?_
    by_cases c:t<s
    · have:=h s.toNat t.toNat (by omega) (by omega)
      rw [show ((s.toNat:Nat):Int)=s by omega,show ((t.toNat:Nat):Int)=t by omega] at this
      exact (merg_iff A hs ht).1 this
    · by_cases d:s<t
      · have:=h t.toNat s.toNat (by omega) (by omega)
        rw [show ((s.toNat:Nat):Int)=s by omega,show ((t.toNat:Nat):Int)=t by omega,mergQ_comm] at this
        exact (merg_iff A hs ht).1 this
      · rw [show s=t by omega];exact ⟨[],isw_nil,rfl⟩
theorem can_class {n:Int} {next:List (List Int)} (A:Aut n next) {cl:List Int} (S:StD n next cl) (hd:divB cl n=true):CanR n next↔∀ s:Nat,(s:Int)<n→cl.getD s 0=0:=by
  have n1:=A.n1
  have hln:=S.ln
  have h0:cl.getD 0 0=0:=by
    unfold divB at hd
    rw [Bool.and_eq_true] at hd
    cases cl with
    | nil=>rfl
    | cons c cs =>
      obtain ⟨h1,_⟩:=divS_cons.1 hd.1
      show c=0
      omega
  constructor
  · intro h s hs
    exact ((S.eq s 0 hs (by omega)).2 (can_stab A h (by omega) (by omega))).trans h0
  · intro h
    refine mer_can A fun s t hs ht=>?_
    have e:=(S.eq s.toNat t.toNat (by omega) (by omega)).1 (by rw [h _ (by omega),h _ (by omega)])
    rw [show ((s.toNat:Nat):Int)=s by omega,show ((t.toNat:Nat):Int)=t by omega] at e
    exact e [] isw_nil
def colC (p:Int→Int→Bool) (b:Nat):Nat→Nat
  | 0=>0
  | m+1=>colC p b m+if p (m:Int) (b:Int)=true then 1 else 0
def cntA (p:Int→Int→Bool):Nat→Nat
  | 0=>0
  | m+1=>cntA p m+colC p m m
def rowC (p:Int→Int→Bool) (b:Nat):Nat→Nat→Nat
  | _,0=>0
  | s,m+1=>(if p (s:Int) (b:Int)=true then 1 else 0)+rowC p b (s+1) m
theorem rowC_snoc {p:Int→Int→Bool} {b:Nat}:∀ (m s:Nat),rowC p b s (m+1)=rowC p b s m+if p ((s+m:Nat):Int) (b:Int)=true then 1 else 0
  | 0,s=>by simp [rowC]
  | m+1,s=>by
    have ih:=rowC_snoc (p:=p) (b:=b) m (s+1)
    rw [show s+1+m=s+(m+1) by omega] at ih
    have e1:rowC p b s (m+1+1)=(if p (s:Int) (b:Int)=true then 1 else 0)+rowC p b (s+1) (m+1):=rfl
    have e2:rowC p b s (m+1)=(if p (s:Int) (b:Int)=true then 1 else 0)+rowC p b (s+1) m:=rfl
    rw [e1,ih,e2];omega
theorem rowC_col {p:Int→Int→Bool} {b:Nat}:∀ m:Nat,rowC p b 0 m=colC p b m
  | 0=>rfl
  | m+1=>by rw [rowC_snoc,rowC_col m,Nat.zero_add];rfl
theorem colC_le {p:Int→Int→Bool} {b:Nat}:∀ m:Nat,colC p b m≤m
  | 0=>Nat.le_refl _
  | m+1=>by
    have:=colC_le (p:=p) (b:=b) m
    simp only [colC];split <;> omega
theorem cntA_le {p:Int→Int→Bool}:∀ m:Nat,cntA p m≤m * m
  | 0=>Nat.le_refl _
  | m+1=>by
    have h1:=cntA_le (p:=p) m
    have h2:=colC_le (p:=p) (b:=m) m
    have e:(m+1) * (m+1)=m * m+m+m+1:=by rw [Nat.add_mul,Nat.mul_add];omega
    rw [e]
    simp only [cntA];omega
theorem prow_snoc {p:Int→Int→Bool} {s:Int}:∀ (m:Nat) (t:Int),prow p s t (m+1)=prow p s t m ++ (if p s (t+m)=true then [[s,t+m]] else [])
  | 0,t=>by simp [prow]
  | m+1,t=>by
    have ih:=prow_snoc (p:=p) (s:=s) m (t+1)
    rw [show prow p s t (m+1+1)=(if p s t=true then [[s,t]] else []) ++ prow p s (t+1) (m+1) from rfl,ih,
      show prow p s t (m+1)=(if p s t=true then [[s,t]] else []) ++ prow p s (t+1) m from rfl,List.append_assoc,
      show t+1+(m:Int)=t+((m+1:Nat):Int) by omega]
theorem pall_grow {p:Int→Int→Bool} {n:Nat}:∀ (m s:Nat),s+m=n→(pall p ((n+1:Nat):Int) (s:Int) m).length=(pall p (n:Int) (s:Int) m).length+rowC p n s m
  | 0,s,_=>by simp [pall,rowC]
  | m+1,s,h=>by
    have ih:=pall_grow (p:=p) (n:=n) m (s+1) (by omega)
    rw [show ((s+1:Nat):Int)=(s:Int)+1 by omega] at ih
    have e1:(((n+1:Nat):Int) - ((s:Int)+1)).toNat=((n:Int) - ((s:Int)+1)).toNat+1:=by omega
    have e2:(s:Int)+1+((((n:Int) - ((s:Int)+1)).toNat:Nat):Int)=(n:Int):=by omega
    have e3:(prow p (s:Int) ((s:Int)+1) (((n:Int) - ((s:Int)+1)).toNat+1)).length=(prow p (s:Int) ((s:Int)+1) ((n:Int) - ((s:Int)+1)).toNat).length+if p (s:Int) (n:Int)=true then 1 else 0:=by
      rw [prow_snoc,List.length_append,e2]
      congr 1
      split <;> rfl
    simp only [pall,List.length_append,rowC]
    rw [e1,e3,ih]
    omega
theorem pall_last {p:Int→Int→Bool} {N:Int}:∀ (m:Nat) (s:Int),(pall p N s (m+1)).length=(pall p N s m).length+(prow p (s+m) (s+m+1) (N - (s+m+1)).toNat).length
  | 0,s=>by simp [pall]
  | m+1,s=>by
    have ih:=pall_last (p:=p) (N:=N) m (s+1)
    have e1:pall p N s (m+1+1)=prow p s (s+1) (N - (s+1)).toNat ++ pall p N (s+1) (m+1):=rfl
    have e2:pall p N s (m+1)=prow p s (s+1) (N - (s+1)).toNat ++ pall p N (s+1) m:=rfl
    rw [e1,e2,List.length_append,List.length_append,ih,show s+1+(m:Int)=s+((m+1:Nat):Int) by omega]
    omega
theorem pairs_cnt {p:Int→Int→Bool}:∀ n:Nat,(pairsL (n:Int) p).length=cntA p n
  | 0=>rfl
  | n+1=>by
    have ih:=pairs_cnt (p:=p) n
    unfold pairsL at ih ⊢
    rw [Int.toNat_natCast] at ih ⊢
    have h1:=pall_grow (p:=p) (n:=n) n 0 (by omega)
    have h2:=pall_last (p:=p) (N:=((n+1:Nat):Int)) n 0
    have h3:(((n+1:Nat):Int) - (0+(n:Int)+1)).toNat=0:=by omega
    rw [h3] at h2
    have h4:∀ a b,prow p a b 0=[]:=fun _ _=>rfl
    rw [h4,List.length_nil,Nat.add_zero] at h2
    have e0:((0:Nat):Int)=0:=rfl
    rw [e0] at h1
    rw [h2,h1,ih,rowC_col]
    rfl
end Go.Ab
namespace Go.Ab
theorem gre_step {n:Int} {next:List (List Int)} (A:Aut n next) {set:List Int} (S:WS1 n set) {s t:Int} (hs:s∈set) (ht:t∈set) (hne:s≠t) {w:List Int} (hw:IsW next.length w) (he:atA next s w=atA next t w) :
    WS1 n (imgL next set w)∧(imgL next set w).length<set.length∧1≤(imgL next set w).length:=by
  have e:imgL next set w=nrm ((set.erase t).map fun s=>atA next s w):=SI_ext (nrm_SI _) (nrm_SI _) fun y=>by
    rw [nrm_mem,nrm_mem,List.mem_map,List.mem_map]
    constructor
    · rintro ⟨x,hx,rfl⟩
      by_cases h:x=t
      · subst h;exact ⟨s,(List.mem_erase_of_ne hne).2 hs,he⟩
      · exact ⟨x,(List.mem_erase_of_ne h).2 hx,rfl⟩
    · rintro ⟨x,hx,rfl⟩
      exact ⟨x,List.mem_of_mem_erase hx,rfl⟩
  refine ⟨⟨nrm_SI _,fun x hx=>?_⟩,?_,List.length_pos_of_mem (nrm_mem.2 (List.mem_map.2 ⟨s,hs,rfl⟩))⟩
  · rw [nrm_mem] at hx
    obtain ⟨y,hy,rfl⟩:=List.mem_map.1 hx
    exact A.at (S.rg y hy) hw
  · rw [e]
    have h1:=nrm_len ((set.erase t).map fun s=>atA next s w)
    have h2:=List.length_erase_of_mem ht
    have h3:=List.length_pos_of_mem ht
    rw [List.length_map] at h1
    omega
structure GrI (n:Int) (next:List (List Int)) (set out:List Int):Prop where
  ws:WS1 n set
  ps:1≤set.length
  im:imgL next (allS n) out=set
  wd:IsW next.length out
  le:out.length≤(n.toNat - set.length) * (every n).length
theorem allS_rg {n:Int} {x:Int} (h:x∈allS n):0≤x∧x<n:=by
  simp only [allS,List.mem_map,List.mem_range] at h
  obtain ⟨i,hi,rfl⟩:=h
  omega
theorem GrI.zero {n:Int} {next:List (List Int)} (A:Aut n next):GrI n next (allS n) []:=by
  have n1:=A.n1
  exact ⟨⟨allS_SI n,fun x hx=>allS_rg hx⟩,by simp [allS];omega,imgL_nil (allS_SI n),isw_nil,by simp⟩
theorem GrI.len {n:Int} {next:List (List Int)} {set out:List Int} (I:GrI n next set out):set.length≤n.toNat:=by
  rcases SI_len I.ws.si I.ws.rg with h | h
  · omega
  · rw [h];simp
theorem GrI.step {n:Int} {next:List (List Int)} (A:Aut n next) {set out:List Int} (I:GrI n next set out) {s t:Int} (hs:s∈set) (ht:t∈set) (hne:s≠t) {w:List Int} (h:mergQ next s t=some w) :
    GrI n next (imgL next set w) (out ++ w)∧(imgL next set w).length<set.length:=by
  obtain ⟨h1,h2,h3⟩:=merg_some A (I.ws.rg s hs) (I.ws.rg t ht) h
  have h4:=merg_bound A (I.ws.rg s hs) (I.ws.rg t ht) h
  obtain ⟨g1,g2,g3⟩:=gre_step A I.ws hs ht hne h1 h2
  refine ⟨⟨g1,g3,by rw [← imgL_app,I.im],isw_app I.wd h1,?_⟩,g2⟩
  have hl:=I.len
  have hle:=I.le
  have h5:(n.toNat - set.length+1) * (every n).length≤(n.toNat - (imgL next set w).length) * (every n).length:=Nat.mul_le_mul_right _ (by omega)
  rw [Nat.add_mul,Nat.one_mul] at h5
  rw [List.length_append]
  omega
theorem GrI.done {n:Int} {next:List (List Int)} {set out:List Int} (I:GrI n next set out) (h:set.length≤1):(imgL next (allS n) out).length=1:=by
  have:=I.ps
  rw [I.im];omega
theorem GrI.can {n:Int} {next:List (List Int)} (A:Aut n next) {set out:List Int} (I:GrI n next set out) (h:set.length≤1):CanR n next :=
  ⟨out,I.wd,img_can A.n1 (I.done h)⟩
theorem GrI.not {n:Int} {next:List (List Int)} (A:Aut n next) {set out:List Int} (I:GrI n next set out) {s t:Int} (hs:s∈set) (ht:t∈set) (h:mergQ next s t=none):¬ CanR n next:=fun hc=>by
  have:=(merg_iff A (I.ws.rg s hs) (I.ws.rg t ht)).2 (can_mer hc (I.ws.rg s hs) (I.ws.rg t ht))
  rw [h] at this;cases this
structure GrW (n:Int) (next:List (List Int)) (w:List Int):Prop where
  wd:IsW next.length w
  rs:(imgL next (allS n) w).length=1
  le:w.length≤(n.toNat - 1) * (every n).length
  cn:CanR n next
end Go.Ab
namespace Go.Ab
open Go.Proofs
attribute [local go_sem] dnL_opt dnL_rzs dnL_rzn one_opt one_rzs frz_opt frz_rzs owned_opt owned_rzs opt_some opt_none rzs_snoc rzs_len rzn_len opt_len
theorem rwnS {xss:List (List Int)} {xs:List Int}:rwn xss ++ [.ro none 1 (ints xs)]=rwn (xss ++ [xs]):=by simp [rwn]
theorem frz_rwnS {hp:Nat→AObj} {xss:List (List Int)}:(rwn xss).map (frz hp)=rwn xss:=by simp [rwn,frz]
theorem owned_rwnS:∀ {xss:List (List Int)},owned (rwn xss)=[]
  | []=>rfl
  | _ :: xss=>owned_rwnS (xss:=xss)
attribute [local go_sem] rwnS frz_rwnS owned_rwnS
theorem mergQ_ne {n:Int} {next:List (List Int)} (A:Aut n next) {s t:Int} (hs:0≤s∧s<n) (ht:0≤t∧t<n) (h:s≠t):mergQ next s t≠some []:=by
  intro e
  have:=(merg_some A hs ht e).2.1
  exact h this
end Go.Ab
namespace Go.Ab
open Go.Proofs
abbrev keysJ (K:List Int):List Value:=K.map fun x=>Value.int .i64 x
def numL (k:Nat):List Int:=(List.range k).map fun j:Nat=>(j:Int)
theorem numL_len {k:Nat}:(numL k).length=k:=by simp [numL]
theorem numL_getD {k j:Nat} (h:j<k):(numL k).getD j 0=j:=by
  unfold numL
  rw [List.getD_eq_getElem?_getD,List.getElem?_map,List.getElem?_range h];rfl
theorem numL_succ {k:Nat}:numL (k+1)=numL k ++ [(k:Int)]:=by simp [numL,List.range_succ]
theorem fkJ_not {x:Int}:∀ {K:List Int} (i:Nat),x ∉ K→findKeyAt (.int .i64 x) (keysJ K) i=some none
  | [],_,_=>rfl
  | y :: K,i,h=>by
    have h1:(x == y)=false:=beq_false_of_ne fun e=>h (by simp [e])
    have h2:=fkJ_not (x:=x) (K:=K) (i+1) (fun e=>h (by simp [e]))
    simp only [List.map_cons,findKeyAt,sameKey,h1,if_true]
    exact h2
theorem fkJ_at {x:Int}:∀ {K:List Int} (i k:Nat),K.Nodup→i<K.length→K.getD i 0=x→findKeyAt (.int .i64 x) (keysJ K) k=some (some (k+i))
  | [],_,_,_,h,_=>by simp at h
  | y :: K,0,k,_,_,e=>by
    have e:y=x:=e
    simp only [List.map_cons,findKeyAt,sameKey,e,beq_self_eq_true,if_true,Nat.add_zero]
  | y :: K,i+1,k,hd,h,e=>by
    rw [List.nodup_cons] at hd
    have hi:i<K.length:=by simpa using h
    have e:K.getD i 0=x:=e
    have hm:=yzy hi (0:Int)
    rw [e] at hm
    have h1:(x == y)=false:=beq_false_of_ne fun e'=>hd.1 (e' ▸ hm)
    have h2:=fkJ_at (K:=K) i (k+1) hd.2 hi e
    simp only [List.map_cons,findKeyAt,sameKey,h1,if_true]
    rw [h2];congr 2;omega
structure NumI (cl K ys:List Int) (i:Nat):Prop where
  t:TidP cl ys
  ln:ys.length=i
  nd:K.Nodup
  us:usedS 0 ys=K.length
  a:∀ j<i,K.getD (ys.getD j 0).toNat 0=cl.getD j 0
  b:∀ m:Nat,m<K.length→∃ j<i,ys.getD j 0=m
theorem NumI.rg {cl K ys:List Int} {i:Nat} (I:NumI cl K ys i) {j:Nat} (hj:j<i):0≤ys.getD j 0∧ys.getD j 0<K.length:=by
  have hm:=yzy (show j<ys.length by rw [I.ln];exact hj) (0:Int)
  have h1:=div_nn I.t.dv hm
  have h2:=used_mem (u:=0) hm
  rw [I.us] at h2
  omega
theorem NumI.new {cl K ys:List Int} {i:Nat} (I:NumI cl K ys i) (hi:i<cl.length) (h:cl.getD i 0 ∉ K):NumI cl (K ++ [cl.getD i 0]) (ys ++ [(K.length:Int)]) (i+1):=by
  have hln:=I.ln
  have hT:=I.t.new (by omega) (fun k hk e=>h (by
    rw [hln] at e hk
    have h1:=I.rg hk
    rw [← e,← I.a k hk]
    exact yzy (by omega) 0))
  rw [I.us] at hT
  refine ⟨hT,by simp [hln],?_,by rw [used_snoc,I.us];simp;omega,fun j hj=>?_,fun m hm=>?_⟩
  · refine List.nodup_append.2 ⟨I.nd,by simp,fun x hx y hy=>?_⟩
    rw [List.mem_singleton.1 hy];exact fun e=>h (e ▸ hx)
  · by_cases e:j<i
    · have h1:=I.rg e
      have e1:(ys ++ [(K.length:Int)]).getD j 0=ys.getD j 0:=getD_snl (by omega)
      have e2:(K ++ [cl.getD i 0]).getD (ys.getD j 0).toNat 0=K.getD (ys.getD j 0).toNat 0:=getD_snl (by omega)
      rw [e1,e2]
      exact I.a j e
    · obtain rfl:j=i:=by omega
      have e2:(ys ++ [(K.length:Int)]).getD j 0=K.length:=by rw [← hln];exact getD_snr
      rw [e2,Int.toNat_natCast]
      exact getD_snr
  · rw [List.length_append,List.length_singleton] at hm
    by_cases e:m<K.length
    · obtain ⟨j,h1,h2⟩:=I.b m e
      exact ⟨j,by omega,by rw [getD_snl (by omega)];exact h2⟩
    · obtain rfl:m=K.length:=by omega
      exact ⟨i,by omega,by rw [← hln];exact getD_snr⟩
theorem NumI.old {cl K ys:List Int} {i m:Nat} (I:NumI cl K ys i) (hi:i<cl.length) (hm:m<K.length) (h:K.getD m 0=cl.getD i 0):NumI cl K (ys ++ [(m:Int)]) (i+1):=by
  have hln:=I.ln
  obtain ⟨j0,h1,h2⟩:=I.b m hm
  have h3:=I.a j0 h1
  rw [h2,Int.toNat_natCast,h] at h3
  have hT:=I.t.old (by omega) (show j0<ys.length by omega) (by rw [hln];exact h3.symm)
  rw [h2] at hT
  refine ⟨hT,by simp [hln],I.nd,by rw [used_snoc,I.us];omega,fun j hj=>?_,fun m' hm'=>?_⟩
  · by_cases e:j<i
    · rw [getD_snl (by omega)];exact I.a j e
    · obtain rfl:j=i:=by omega
      have e2:(ys ++ [(m:Int)]).getD j 0=m:=by rw [← hln];exact getD_snr
      rw [e2,Int.toNat_natCast];exact h
  · obtain ⟨j,g1,g2⟩:=I.b m' hm'
    exact ⟨j,by omega,by rw [getD_snl (by omega)];exact g2⟩
theorem k_numberedD (cl:List Int) (hl:cl.length≤100000):RowI Try.prog nz3n [.ro none 1 (ints cl)] (fun ys=>TidP cl ys∧ys.length=cl.length):=by
  refine rowI_of mixed czgi rfl ?_
  simp only [Azao,Bzan,go_sem,yz0,xx9,xx8,xx6,xx7,xx5,xx0,xx1,xx2,reduceIte,xx3,xx4,reduceCtorEq]
  intro vs
  simp only [Bzam,go_sem,yz0,xx9,xx8,xx6,xx7,xx5,xx0,xx1,xx2,reduceIte,xx3,xx4,reduceCtorEq]
  intro hM
  simp only [Bzak,go_sem,yz0,xx9,xx8,xx6,xx7,xx5,xx0,xx1,xx2,reduceIte,xx3,xx4,reduceCtorEq]
  refine wpD_lo (fun (_,_,_,_,i)=>cl.length - i) (fun (_,_,K,ys,i)=>i≤cl.length∧NumI cl K ys i)
    (fun ((v9,v10,K,ys,i):Nat×Nat×List Int×List Int×Nat)=>⟨L .any [(3,.own 9 v9),(4,.mp 10 v10),(11,.ro none 1 (ints cl)),(12,iv cl.length),(13,iv i)],
      L .gone [(9,.row v9 1 true (ints ys)),(10,.map v10 (keysJ K) (ints (numL K.length)))]⟩)
    (_,_,[],[],0) ⟨by simp,⟨TidP.nil,rfl,by simp,rfl,fun j h=>by omega,fun m h=>by simp at h⟩⟩ (by simp only [Bz14,go_sem,yz0,xx9,xx8,xx6,xx7,xx5,xx0,xx1,xx2,reduceIte,xx3,xx4,reduceCtorEq];try rfl) ?_
  rintro ⟨v9,v10,K,ys,i⟩ ⟨hi,I⟩
  have hi:i≤cl.length:=hi
  have I:NumI cl K ys i:=I
  by_cases hlt:(i:Int)<cl.length
  · have hlt1:i<cl.length:=by omega
    have w1:IntKind.i64.wrap ((i:Int)+1)=((i+1:Nat):Int):=by rw [w64 (by omega)];simp
    have hgc:=yzf (k:=.i64) hlt1
    have hyl:=I.ln
    by_cases hk:cl.getD i 0∈K
    · obtain ⟨m,hm,hmk⟩:=List.mem_iff_getElem.1 hk
      have hmg:K.getD m 0=cl.getD i 0:=by rw [List.getD_eq_getElem?_getD,List.getElem?_eq_getElem hm];exact hmk
      have hfk:=fkJ_at m 0 I.nd hm hmg
      rw [Nat.zero_add] at hfk
      have hnm:m<(numL K.length).length:=by rw [numL_len];exact hm
      have hng:=numL_getD hm
      simp only [Bz14,Bz2k,Bz5k,Bz5i,Bz5g,Bz5f,Bz5h,Bz5j,hgc,hfk,yzf hnm,hng,w1,decide_eq_true hlt,go_sem,yz0,xx9,xx8,xx6,xx7,xx5,xx0,xx1,xx2,reduceIte,xx3,xx4,reduceCtorEq]
      exact ⟨⟨by omega,hlt1⟩,hlt1,fun vs2=>⟨⟨_,rfl,rfl⟩,by omega,(vs2 5 0,v10,K,ys ++ [(m:Int)],i+1),by simp only [];omega,⟨by simp only [];omega,I.old hlt1 hm hmg⟩,rfl⟩⟩
    · have hfk:=fkJ_not 0 hk
      have I2:=I.new hlt1 hk
      have hfk2:=fkJ_at (x:=cl.getD i 0) K.length 0 I2.nd (by simp) getD_snr
      rw [Nat.zero_add] at hfk2
      simp only [Bz14,Bz2k,Bz5k,Bz5i,Bz5g,Bz5f,hgc,hfk,decide_eq_true hlt,go_sem,yz0,xx9,xx8,xx6,xx7,xx5,xx0,xx1,xx2,reduceIte,xx3,xx4,reduceCtorEq]
      refine ⟨⟨by omega,hlt1⟩,hlt1,?_⟩
      have ekj:keysJ K ++ [Value.int .i64 (cl.getD i 0)]=keysJ (K ++ [cl.getD i 0]):=by simp [keysJ]
      have enl:numL K.length ++ [(K.length:Int)]=numL (K.length+1):=numL_succ.symm
      have hnm:K.length<(numL (K.length+1)).length:=by rw [numL_len];omega
      have hng:=numL_getD (k:=K.length+1) (j:=K.length) (by omega)
      rw [ekj,enl]
      simp only [Bz5h,Bz5j,hfk2,yzf hnm,hng,w1,go_sem,yz0,xx9,xx8,xx6,xx7,xx5,xx0,xx1,xx2,reduceIte,xx3,xx4,reduceCtorEq]
      exact fun vs2=>⟨⟨_,rfl,rfl⟩,by omega,(vs2 5 0,v10,K ++ [cl.getD i 0],ys ++ [(K.length:Int)],i+1),by simp only [];omega,⟨by simp only [];omega,I2⟩,by simp only [List.length_append,List.length_singleton]⟩
  · obtain rfl:i=cl.length:=by omega
    simp only [Bz14,Bz2k,Bzal,decide_eq_false hlt,go_sem,yz0,xx9,xx8,xx6,xx7,xx5,xx0,xx1,xx2,reduceIte,xx3,xx4,reduceCtorEq]
    exact ⟨9,v9,ys,by omega,rfl,by simp only [go_sem,yz0,xx9,xx8,xx6,xx7,xx5,xx0,xx1,xx2,reduceIte,xx3,xx4,reduceCtorEq],I.t,I.ln⟩
end Go.Ab
namespace Go.Ab
open Go.Proofs
attribute [local go_sem] dnL_opt dnL_rzs dnL_rzn one_opt one_rzs frz_opt frz_rzs owned_opt owned_rzs opt_some opt_none rzs_snoc rzs_len rzn_len opt_len
theorem dnL_put {us:List Int} {b:Nat} {x:Int} (h:b<us.length):dnL (dnL (List.take b (intsK .i64 us))) ++ [AVal.val (.int .i64 x)] ++ dnL (dnL (List.drop (b+1) (intsK .i64 us)))=intsK .i64 (us.set b x):=by
  rw [intsK_take,intsK_drop,dnL_ints,dnL_ints,dnL_ints,dnL_ints,List.set_eq_take_append_cons_drop,if_pos h]
  simp [intsK]
theorem allS_getD2 {n:Int} {i:Nat} (h:(i:Int)<n):(allS n).getD i 0=i:=by
  unfold allS
  rw [List.getD_eq_getElem?_getD,List.getElem?_map,List.getElem?_range (by omega)];rfl
theorem k_ContainsFuncF (xs:List Nat) (g:FuncId) (caps:List AVal) (p:Nat→Bool) (hc:Caps caps) (h:∀ x∈xs,Fun Try.prog g (fv x :: caps) (bv (p x))) :
    Fun Try.prog nz1t [.ro none 1 (intsK .u64 (xs.map fun (x:Nat)=>(x:Int))),.clo g caps] (bv (xs.any p)):=by
  refine fun_of mixed czh3 rfl ⟨rfl,trivial⟩ ?_
  simp only [Bzcr,Azcs,hc.dn,go_sem,yz0,xx9,xx8,xx6,xx7,xx5,xx0,xx1,xx2,reduceIte,xx3,xx4,reduceCtorEq]
  intro vs
  refine yz11 (k_IndexFuncF xs g caps p hc h) (by simp only [rowIs,boxIs,coe_argN,yz19,coe_ro_o,yz18,yzw,coe_any,coe_val,coe_ro,yz15,yz16,coe_st,yz14,coe_rp,yz17,coe_clo,coe_own0,coe_ptr0,yz10,coeL_rws,yz1a,L_hit,L_miss,L_nil,xx3,ne_eq,reduceCtorEq,not_false_eq_true,true_and,and_true,and_self,exists_eq_left,exists_eq_right,List.mem_cons,List.not_mem_nil,or_false,AObj.row.injEq,AObj.box.injEq,exists_eq_left',exists_and_left,exists_eq,Nat.zero_lt_one,Nat.lt_add_one,List.map_cons,List.map_nil,AObj.ver,xx5,not_true_eq_false];exact hc.coe _ _ _) trivial ?_
  simp only [fidx_ge,go_sem,yz0,xx9,xx8,xx6,xx7,xx5,xx0,xx1,xx2,reduceIte,xx3,xx4,reduceCtorEq]
theorem k_stable_1_1 {n:Int} {next:List (List Int)} (A:Aut n next) (a b:Int) (ha:0≤a) (hab:a≤b) (hb:b<n) :
    Fun Try.prog nzv [fv (twoN a b),.rp [.ro none 1 (rzn (mergT next n.toNat n.toNat))] 0] (bv (badF next (twoN a b))):=by
  refine fun_of mixed czh4 rfl ⟨rfl,trivial⟩ ?_
  have n1:=A.n1
  have n2:=A.n2
  have hN:2 ^ n.toNat≤1024:=Nat.pow_le_pow_right (n:=2) (by omega) (show n.toNat≤10 by omega)
  have hf:=two_lt (n:=n) (s:=a) (t:=b) (by omega) (by omega)
  have ea:((a.toNat:Nat):Int)=a:=by omega
  have eb:((b.toNat:Nat):Int)=b:=by omega
  rw [bad_two n2 (a:=a) (b:=b) (by omega) (by omega)]
  simp only [Azcu,Bzct,go_sem,yz0,xx9,xx8,xx6,xx7,xx5,xx0,xx1,xx2,reduceIte,xx3,xx4,reduceCtorEq]
  intro vs
  refine call_rowI (k_flock_set (twoN a b) (by omega)) qCS qWS ⟨_,rfl⟩ ?_
  rintro ys v hys
  by_cases h:a=b
  · subst h
    have e:ys=[a]:=by rw [hys,← ea];exact bits_one a.toNat (by omega)
    have e1:((ys.length:Int) == 2)=false:=by rw [e];rfl
    have e2:decide (a=a)=true:=decide_eq_true rfl
    clear e hys
    simp only [Bz2v,e1,e2,Bool.not_true,Bool.false_and,go_sem,yz0,xx9,xx8,xx6,xx7,xx5,xx0,xx1,xx2,reduceIte,xx3,xx4,reduceCtorEq]
  · have e:ys=[a,b]:=by rw [hys,← ea,← eb];exact bits_two a.toNat (by omega) b.toNat (by omega) (by omega)
    have e1:((ys.length:Int) == 2)=true:=by rw [e];rfl
    have g0:0<ys.length:=by rw [e];simp
    have g1:1<ys.length:=by rw [e];simp
    have x0:ys.getD 0 0=a:=by rw [e];rfl
    have x1:ys.getD 1 0=b:=by rw [e];rfl
    have y0:=yzf (k:=.i64) g0
    have y1:=yzf (k:=.i64) g1
    rw [x0] at y0
    rw [x1] at y1
    have e2:decide (a=b)=false:=decide_eq_false h
    have hlen:=mergT_len (next:=next) (n:=n.toNat) (i:=n.toNat)
    have r1:a.toNat<(mergT next n.toNat n.toNat).length:=by omega
    have m1:(mergT next n.toNat n.toNat).getD a.toNat []=mergW next a n.toNat:=by rw [mergT_getD (by omega),ea]
    have r2:b.toNat<(mergW next a n.toNat).length:=by rw [mergW_len];omega
    have m2:(mergW next a n.toNat).getD b.toNat none=mergQ next a b:=by rw [mergW_getD (by omega),eb]
    have hne:=mergQ_ne A (s:=a) (t:=b) (by omega) (by omega) h
    clear e hys x0 x1
    cases hq:mergQ next a b with
    | none =>
      rw [hq] at m2
      simp only [Bz2v,e1,e2,y0,y1,rzn_getD r1,m1,opt_getD r2,m2,optC,go_sem,yz0,xx9,xx8,xx6,xx7,xx5,xx0,xx1,xx2,reduceIte,xx3,xx4,reduceCtorEq]
      exact ⟨g0,g0,⟨ha,r1⟩,r1,g1,g1,⟨by omega,r2⟩,r2,rfl⟩
    | some w =>
      rw [hq] at m2 hne
      have hl:0<w.length:=List.length_pos_iff.2 fun e=>hne (by rw [e])
      simp only [Bz2v,e1,e2,y0,y1,rzn_getD r1,m1,opt_getD r2,m2,optC,go_sem,yz0,xx9,xx8,xx6,xx7,xx5,xx0,xx1,xx2,reduceIte,xx3,xx4,reduceCtorEq]
      exact ⟨g0,g0,⟨ha,r1⟩,r1,g1,g1,⟨by omega,r2⟩,r2,.inr hl,rfl⟩
theorem k_stable_1 {n:Int} {next:List (List Int)} (A:Aut n next) (s t:Int) (hs:0≤s∧s<n) (ht:0≤t∧t<n) :
    Fun Try.prog nz1s [iv s,iv t,autP n next,.rp [.ro none 1 (rzn (mergT next n.toNat n.toNat))] 0] (bv (stabQ next s t)):=by
  refine fun_of mixed czh2 rfl ⟨rfl,trivial⟩ ?_
  have n1:=A.n1
  have n2:=A.n2
  have hN:2 ^ n.toNat≤1024:=Nat.pow_le_pow_right (n:=2) (by omega) (show n.toNat≤10 by omega)
  have hf:=two_lt hs ht
  have hs0:¬ s<0:=by omega
  have ht0:¬ t<0:=by omega
  have hsl:=u_shl (b:=s.toNat) (by omega)
  have htl:=u_shl (b:=t.toNat) (by omega)
  have hps:=pow_lt10 (k:=s.toNat) (by omega)
  have hpt:=pow_lt10 (k:=t.toNat) (by omega)
  have hor:_=((twoN s t:Nat):Int):=u_orW (x:=2 ^ s.toNat) (y:=2 ^ t.toNat) (by omega) (by omega)
  simp only [Azcq,Bzcp,hs0,ht0,hsl,htl,hor,go_sem,yz0,xx9,xx8,xx6,xx7,xx5,xx0,xx1,xx2,reduceIte,xx3,xx4,reduceCtorEq]
  intro vs
  refine call_fn (k_tour n next A (twoN s t) hf) qCS (fun _=>⟨_,_,0,0,rfl,rfl⟩) ?_
  rintro rows res ⟨v1,v2,rfl,rfl⟩
  refine ⟨by simp,by rw [Option.getD_some,yzq];simp only [go_sem,yz0,xx9,xx8,xx6,xx7,xx5,xx0,xx1,xx2,reduceIte,xx3,xx4,reduceCtorEq],?_⟩
  have hT:=(runT_ok A 1100 0 _ (TI0 (m:=next.length) hf)).1
  simp only [Option.getD_some,Nat.not_lt_zero,range1,yzx,yz13,ren_ro,rnNm_n,yz12,rnNm_o,rnNm_s,ren_st,yzz,yzr,yzg,yz4,yzv,yzt,yzp,yzo,yzs,yz8,yze,yzc,yzd,yzj,yzl,yz3,yz7,yzb,yza,yzk,yzm,List.range_zero,yz6,yz5,yz9,yzu,yzh,yzq,AVal.fresh,freshL,yz2,yzi,AObj.fresh,id,Option.isSome_some,or_true,true_or,go_sem,yz0,xx9,xx8,xx6,xx7,xx5,xx0,xx1,xx2,reduceIte,xx3,xx4,reduceCtorEq]
  have hx:=k_ContainsFuncF ((tourT next (twoN s t)).map (·.1)) nzv [.rp [.ro none 1 (rzn (mergT next n.toNat n.toNat))] 0] (badF next) ⟨by simp only [go_sem,yz0,xx9,xx8,xx6,xx7,xx5,xx0,xx1,xx2,reduceIte,xx3,xx4,reduceCtorEq],by intros;simp only [coeL_rzn,rowIs,boxIs,coe_argN,yz19,coe_ro_o,yz18,yzw,coe_any,coe_val,coe_ro,yz15,yz16,coe_st,yz14,coe_rp,yz17,coe_clo,coe_own0,coe_ptr0,yz10,coeL_rws,yz1a,L_hit,L_miss,L_nil,xx3,ne_eq,reduceCtorEq,not_false_eq_true,true_and,and_true,and_self,exists_eq_left,exists_eq_right,List.mem_cons,List.not_mem_nil,or_false,AObj.row.injEq,AObj.box.injEq,exists_eq_left',exists_and_left,exists_eq,Nat.zero_lt_one,Nat.lt_add_one,List.map_cons,List.map_nil,AObj.ver,xx5,not_true_eq_false]⟩ (fun x hx=>by
    obtain ⟨p,hp,rfl⟩:=List.mem_map.1 hx
    have hw:IsW next.length p.2:=(hT.wd p hp).1
    have a0:=A.at (w:=p.2) hs hw
    have a1:=A.at (w:=p.2) ht hw
    rw [two_snd p hp,imN_two A hs ht hw]
    by_cases hl:atA next s p.2≤atA next t p.2
    · exact k_stable_1_1 A _ _ a0.1 hl a1.2
    · rw [twoN_comm];exact k_stable_1_1 A _ _ a1.1 (by omega) a0.2)
  have hx':Fun Try.prog nz1t [.ro none 1 (intsK .u64 (setsI (tourT next (twoN s t)))),.clo nzv [.rp [.ro none 1 (rzn (mergT next n.toNat n.toNat))] 0]] (bv (((tourT next (twoN s t)).map (·.1)).any (badF next))):=by
    rw [List.map_map] at hx;exact hx
  refine yz11 hx' (by simp only [coeL_rzn,rowIs,boxIs,coe_argN,yz19,coe_ro_o,yz18,yzw,coe_any,coe_val,coe_ro,yz15,yz16,coe_st,yz14,coe_rp,yz17,coe_clo,coe_own0,coe_ptr0,yz10,coeL_rws,yz1a,L_hit,L_miss,L_nil,xx3,ne_eq,reduceCtorEq,not_false_eq_true,true_and,and_true,and_self,exists_eq_left,exists_eq_right,List.mem_cons,List.not_mem_nil,or_false,AObj.row.injEq,AObj.box.injEq,exists_eq_left',exists_and_left,exists_eq,Nat.zero_lt_one,Nat.lt_add_one,List.map_cons,List.map_nil,AObj.ver,xx5,not_true_eq_false]) trivial ?_
  simp only [go_sem,yz0,xx9,xx8,xx6,xx7,xx5,xx0,xx1,xx2,reduceIte,xx3,xx4,reduceCtorEq]
  rfl
theorem k_stable (n:Int) (next:List (List Int)) (A:Aut n next) :
    Con Try.prog nz1k [.row 0 1 true (rwn next)] [.st [iv n,.own 5000 0]] true
      fun outs rows res=>outs=[.row 0 1 true (rwn next)]∧∃ v,rows=[.row v 1 true (rws (pairsL n (stabQ next)))]∧res=.own 6000 v:=by
  refine con_sh mixed czgh rfl (by simp) ?_
  have n1:=A.n1
  have n2:=A.n2
  generalize hQ:finQ _=Q
  simp only [Az5e,Bzaj,go_sem,yz0,xx9,xx8,xx6,xx7,xx5,xx0,xx1,xx2,reduceIte,xx3,xx4,reduceCtorEq]
  intro vs vs3
  refine call_steG (R:=fun rows res=>∃ v,rows=[.row v 1 true (rzs (mergT next n.toNat n.toNat))]∧res=.own 6000 v) (k_mergesH n next A) rfl qCS rfl (of_eq_true yz1a) ?_
  rintro rows res ⟨v,rfl,rfl⟩
  refine ⟨by simp,by rw [yzh];rfl,?_⟩
  rw [callHp_mr (by omega)]
  simp only [List.length_singleton,renL_rzs,Bzai,Nat.not_lt_zero,range1,yzx,yz13,ren_ro,rnNm_n,yz12,rnNm_o,rnNm_s,ren_st,yzz,yzr,yzg,yz4,yzv,yzt,yzp,yzo,yzs,yz8,yze,yzc,yzd,yzj,yzl,yz3,yz7,yzb,yza,yzk,yzm,List.range_zero,yz6,yz5,yz9,yzu,yzh,yzq,AVal.fresh,freshL,yz2,yzi,AObj.fresh,id,Option.isSome_some,or_true,true_or,go_sem,yz0,xx9,xx8,xx6,xx7,xx5,xx0,xx1,xx2,reduceIte,xx3,xx4,reduceCtorEq]
  generalize hf:sv (L .gone _) [5000] (vs3 1)=f
  have hf0:f 0=0:=by rw [← hf];simp [sv,AObj.ver,L]
  rw [hf0]
  intro vs4
  refine call_rowR (k_pairs n next nz1s [autP n next,.rp [.ro none 1 (rzn (mergT next n.toNat n.toNat))] 0] (stabQ next) ⟨n1,n2⟩ ⟨by simp only [go_sem,yz0,xx9,xx8,xx6,xx7,xx5,xx0,xx1,xx2,reduceIte,xx3,xx4,reduceCtorEq],by intros;simp only [coeL_rzn,rowIs,boxIs,coe_argN,yz19,coe_ro_o,yz18,yzw,coe_any,coe_val,coe_ro,yz15,yz16,coe_st,yz14,coe_rp,yz17,coe_clo,coe_own0,coe_ptr0,yz10,coeL_rws,yz1a,L_hit,L_miss,L_nil,xx3,ne_eq,reduceCtorEq,not_false_eq_true,true_and,and_true,and_self,exists_eq_left,exists_eq_right,List.mem_cons,List.not_mem_nil,or_false,AObj.row.injEq,AObj.box.injEq,exists_eq_left',exists_and_left,exists_eq,Nat.zero_lt_one,Nat.lt_add_one,List.map_cons,List.map_nil,AObj.ver,xx5,not_true_eq_false]⟩ (fun s t h1 h2 h3=>k_stable_1 A s t (by omega) (by omega))) (by simp only [coeL_rzs,rowIs,boxIs,coe_argN,yz19,coe_ro_o,yz18,yzw,coe_any,coe_val,coe_ro,yz15,yz16,coe_st,yz14,coe_rp,yz17,coe_clo,coe_own0,coe_ptr0,yz10,coeL_rws,yz1a,L_hit,L_miss,L_nil,xx3,ne_eq,reduceCtorEq,not_false_eq_true,true_and,and_true,and_self,exists_eq_left,exists_eq_right,List.mem_cons,List.not_mem_nil,or_false,AObj.row.injEq,AObj.box.injEq,exists_eq_left',exists_and_left,exists_eq,Nat.zero_lt_one,Nat.lt_add_one,List.map_cons,List.map_nil,AObj.ver,xx5,not_true_eq_false]) rfl ⟨_,rfl⟩ ?_
  rintro xss vp rfl
  simp only [Az5e,← hQ,go_sem,yz0,xx9,xx8,xx6,xx7,xx5,xx0,xx1,xx2,reduceIte,xx3,xx4,reduceCtorEq]
  refine ⟨[8],by simp,by simp,by simp,?_⟩
  simp only [range1,List.length_singleton,Nat.not_lt_zero,range1,yzx,yz13,ren_ro,rnNm_n,yz12,rnNm_o,rnNm_s,ren_st,yzz,yzr,yzg,yz4,yzv,yzt,yzp,yzo,yzs,yz8,yze,yzc,yzd,yzj,yzl,yz3,yz7,yzb,yza,yzk,yzm,List.range_zero,yz6,yz5,yz9,yzu,yzh,yzq,AVal.fresh,freshL,yz2,yzi,AObj.fresh,id,Option.isSome_some,or_true,true_or,go_sem,yz0,xx9,xx8,xx6,xx7,xx5,xx0,xx1,xx2,reduceIte,xx3,xx4,reduceCtorEq]
  exact ⟨_,rfl,rfl⟩
theorem k_StablePairs (n:Int) (next:List (List Int)) (A:Aut n next) :
    Con Try.prog nz3h [.row 0 1 true (rwn next)] [.st [iv n,.own 5000 0]] true
      fun outs rows res=>outs=[.row 0 1 true (rwn next)]∧∃ v,rows=[.row v 1 true (rws (pairsL n (stabQ next)))]∧res=.tup [.own 6000 v,iv 0]:=by
  refine con_sh mixed czg5 rfl (by simp) ?_
  have n1:=A.n1
  have n2:=A.n2
  have hv:autB n next=true:=autB_iff.2 A
  generalize hQ:finQ _=Q
  simp only [Az4s,Bz95,go_sem,yz0,xx9,xx8,xx6,xx7,xx5,xx0,xx1,xx2,reduceIte,xx3,xx4,reduceCtorEq]
  intro vs vs2
  refine yz11 (k_Valid n next) qCS trivial ?_
  simp only [hv,Bz93,Bz94,go_sem,yz0,xx9,xx8,xx6,xx7,xx5,xx0,xx1,xx2,reduceIte,xx3,xx4,reduceCtorEq]
  intro vs3
  refine call_steG (R:=fun rows res=>∃ v,rows=[.row v 1 true (rws (pairsL n (stabQ next)))]∧res=.own 6000 v) (k_stable n next A) rfl qCS rfl (of_eq_true yz1a) ?_
  rintro rows res ⟨v,rfl,rfl⟩
  refine ⟨by simp,by rw [yzh];rfl,?_⟩
  rw [callHp_mr (by omega)]
  simp only [List.length_singleton,Az4s,← hQ,Nat.not_lt_zero,range1,yzx,yz13,ren_ro,rnNm_n,yz12,rnNm_o,rnNm_s,ren_st,yzz,yzr,yzg,yz4,yzv,yzt,yzp,yzo,yzs,yz8,yze,yzc,yzd,yzj,yzl,yz3,yz7,yzb,yza,yzk,yzm,List.range_zero,yz6,yz5,yz9,yzu,yzh,yzq,AVal.fresh,freshL,yz2,yzi,AObj.fresh,id,Option.isSome_some,or_true,true_or,go_sem,yz0,xx9,xx8,xx6,xx7,xx5,xx0,xx1,xx2,reduceIte,xx3,xx4,reduceCtorEq]
  generalize hf:sv (L .gone _) [5000] (vs3 1)=f
  have hf0:f 0=0:=by rw [← hf];simp [sv,AObj.ver,L]
  rw [hf0]
  refine ⟨[8],by simp,by simp,by simp,rfl,?_⟩
  simp only [range1,List.length_singleton,Nat.not_lt_zero,range1,yzx,yz13,ren_ro,rnNm_n,yz12,rnNm_o,rnNm_s,ren_st,yzz,yzr,yzg,yz4,yzv,yzt,yzp,yzo,yzs,yz8,yze,yzc,yzd,yzj,yzl,yz3,yz7,yzb,yza,yzk,yzm,List.range_zero,yz6,yz5,yz9,yzu,yzh,yzq,AVal.fresh,freshL,yz2,yzi,AObj.fresh,id,Option.isSome_some,or_true,true_or,go_sem,yz0,xx9,xx8,xx6,xx7,xx5,xx0,xx1,xx2,reduceIte,xx3,xx4,reduceCtorEq]
  exact ⟨_,rfl,rfl⟩
theorem k_StableDivision (n:Int) (next:List (List Int)) (A:Aut n next) :
    Con Try.prog nz3g [.row 0 1 true (rwn next)] [.st [iv n,.own 5000 0]] true
      fun outs rows res=>outs=[.row 0 1 true (rwn next)]∧∃ v us ys,StD n next us∧TidP us ys∧ys.length=us.length∧rows=[.row v 1 true (ints ys)]∧res=.tup [.own 6000 v,iv 0]:=by
  refine con_sh mixed czg4 rfl (by simp) ?_
  have n1:=A.n1
  have n2:=A.n2
  have hv:autB n next=true:=autB_iff.2 A
  generalize hQ:finQ _=Q
  simp only [Az4r,Bz92,go_sem,yz0,xx9,xx8,xx6,xx7,xx5,xx0,xx1,xx2,reduceIte,xx3,xx4,reduceCtorEq]
  intro vs vs2
  refine yz11 (k_Valid n next) qCS trivial ?_
  simp only [hv,Bz8u,Bz91,go_sem,yz0,xx9,xx8,xx6,xx7,xx5,xx0,xx1,xx2,reduceIte,xx3,xx4,reduceCtorEq]
  intro vs3
  refine call_rowI (k_all n next A) qCS qWS ⟨_,rfl⟩ ?_
  rintro xs v11 rfl
  simp only [Bz90,go_sem,yz0,xx9,xx8,xx6,xx7,xx5,xx0,xx1,xx2,reduceIte,xx3,xx4,reduceCtorEq]
  intro vs4
  refine call_steG (R:=fun rows res=>∃ v,rows=[.row v 1 true (rws (pairsL n (stabQ next)))]∧res=.own 6000 v) (k_stable n next A) rfl qCS rfl (of_eq_true yz1a) ?_
  rintro rows res ⟨v,rfl,rfl⟩
  refine ⟨by simp,by rw [yzh];rfl,?_⟩
  rw [callHp_mr (by omega)]
  simp only [List.length_singleton,Bz8y,Nat.not_lt_zero,range1,yzx,yz13,ren_ro,rnNm_n,yz12,rnNm_o,rnNm_s,ren_st,yzz,yzr,yzg,yz4,yzv,yzt,yzp,yzo,yzs,yz8,yze,yzc,yzd,yzj,yzl,yz3,yz7,yzb,yza,yzk,yzm,List.range_zero,yz6,yz5,yz9,yzu,yzh,yzq,AVal.fresh,freshL,yz2,yzi,AObj.fresh,id,Option.isSome_some,or_true,true_or,go_sem,yz0,xx9,xx8,xx6,xx7,xx5,xx0,xx1,xx2,reduceIte,xx3,xx4,reduceCtorEq]
  generalize hf:sv (L .gone _) [5000] (vs4 1)=f
  have hf0:f 0=0:=by rw [← hf];simp [sv,AObj.ver,L]
  rw [hf0]
  intro hM
  have hP:∀ x,x∈pairsL n (stabQ next)↔∃ a b:Int,0≤a∧a<b∧b<n∧stabQ next a b=true∧x=[a,b]:=fun x=>pairsL_mem (by omega)
  have hPl:(pairsL n (stabQ next)).length≤100:=pairsL_len ⟨n1,n2⟩
  generalize pairsL n (stabQ next)=P at hP hPl
  have hal:((allS n).length:Int)=n:=by simp [allS];omega
  have hI0:StI n next [] (allS n):=by
    refine ⟨hal,fun t ht=>?_,fun t ht=>?_,fun a b h=>by simp at h⟩
    · rw [allS_getD2 (by omega)];omega
    · rw [allS_getD2 (by omega)];exact StabP.refl
  refine wpD_lo (fun (_,i)=>P.length - i) (fun (us,i)=>i≤P.length∧StI n next (P.take i) us)
    (fun ((us,i):List Int×Nat)=>⟨L .any [(4,.own 11 v11),(13,.own 13 (f v)),(14,iv P.length),(15,iv i)],L .gone [(1,.box (vs 0 0) [iv n,.own 5000 0]),(11,.row v11 1 true (ints us)),(13,.row (f v) 1 true (rws P)),(5000,.row 0 1 true (rwn next))]⟩)
    (allS n,0) ⟨by simp,hI0⟩ (by simp only [Bz26,go_sem,yz0,xx9,xx8,xx6,xx7,xx5,xx0,xx1,xx2,reduceIte,xx3,xx4,reduceCtorEq];try rfl) ?_
  rintro ⟨us,i⟩ ⟨hi,I⟩
  have hi:i≤P.length:=hi
  have I:StI n next (P.take i) us:=I
  have hul:=I.ln
  by_cases hlt:(i:Int)<P.length
  · have hlt1:i<P.length:=by omega
    obtain ⟨a,b,ha,hab,hb,hst,hg⟩:=(hP _).1 (yzy hlt1 [])
    have ea:((a.toNat:Nat):Int)=a:=by omega
    have eb:((b.toNat:Nat):Int)=b:=by omega
    have w1:IntKind.i64.wrap ((i:Int)+1)=((i+1:Nat):Int):=by rw [w64 (by omega)];simp
    have g0:(0:Nat)<([a,b]:List Int).length:=by simp
    have g1:(1:Nat)<([a,b]:List Int).length:=by simp
    have r1:a.toNat<us.length:=by omega
    have r2:b.toNat<us.length:=by omega
    have htk:P.take (i+1)=P.take i ++ [[a,b]]:=by
      rw [List.take_succ_eq_append_getElem hlt1,← hg,List.getD_eq_getElem?_getD,List.getElem?_eq_getElem hlt1];rfl
    have I2:=I.step (a:=a.toNat) (b:=b.toNat) (by omega) (by omega) (by rw [ea,eb];exact (stab_iff A (by omega) (by omega)).1 hst)
    rw [ea,eb,← htk] at I2
    simp only [Bz26,Bz4q,Bz8x,Bz8v,Bz8w,rws_getD hlt1,hg,yzf g0,yzf g1,yzf r1,yzf r2,decide_eq_true hlt,w1,go_sem,yz0,xx9,xx8,xx6,xx7,xx5,xx0,xx1,xx2,reduceIte,xx3,xx4,reduceCtorEq]
    have hmin:(if us.getD a.toNat 0<us.getD b.toNat 0 then us.getD a.toNat 0 else us.getD b.toNat 0)=min (us.getD b.toNat 0) (us.getD a.toNat 0):=by split <;> omega
    rw [hmin,dnL_put r2]
    exact ⟨⟨by omega,hlt1⟩,hlt1,⟨by omega,r2⟩,r2,⟨ha,r1⟩,r1,⟨by omega,r2⟩,by omega,(_,i+1),by dsimp only;omega,⟨by dsimp only;omega,I2⟩,rfl⟩
  · obtain rfl:i=P.length:=by omega
    have S:StD n next us:=I.done fun a b hab hb h=>by
      rw [List.take_length]
      exact (hP _).2 ⟨a,b,by omega,by omega,hb,(stab_iff A (by omega) (by omega)).2 h,rfl⟩
    simp only [Bz26,Bz4q,Bz8z,decide_eq_false hlt,go_sem,yz0,xx9,xx8,xx6,xx7,xx5,xx0,xx1,xx2,reduceIte,xx3,xx4,reduceCtorEq]
    intro vs5
    refine call_rowI (k_numberedD us (by omega)) qCS qWS (tid_ex us) ?_
    rintro ys v39 ⟨T,hyl⟩
    simp only [Az4r,← hQ,go_sem,yz0,xx9,xx8,xx6,xx7,xx5,xx0,xx1,xx2,reduceIte,xx3,xx4,reduceCtorEq]
    refine ⟨[39],by simp,by simp,by simp,?_⟩
    simp only [range1,List.length_singleton,Nat.not_lt_zero,range1,yzx,yz13,ren_ro,rnNm_n,yz12,rnNm_o,rnNm_s,ren_st,yzz,yzr,yzg,yz4,yzv,yzt,yzp,yzo,yzs,yz8,yze,yzc,yzd,yzj,yzl,yz3,yz7,yzb,yza,yzk,yzm,List.range_zero,yz6,yz5,yz9,yzu,yzh,yzq,AVal.fresh,freshL,yz2,yzi,AObj.fresh,id,Option.isSome_some,or_true,true_or,go_sem,yz0,xx9,xx8,xx6,xx7,xx5,xx0,xx1,xx2,reduceIte,xx3,xx4,reduceCtorEq]
    exact ⟨_,us,ys,S,T,hyl,rfl,rfl⟩
end Go.Ab
namespace Go.Ab
theorem rwp_putN {ps:List (Nat×List Int)} {i:Nat} {p:Nat×List Int}:(rwp ps).take i ++ [.ro (some (some (p.1+1))) 1 (ints p.2)] ++ (rwp ps).drop (i+1)=rwp (ps.take i ++ [p] ++ ps.drop (i+1)):=by
  simp only [rwp,List.map_append,List.map_take,List.map_drop,List.map_cons,List.map_nil]
theorem DJ_put {A C:List (Nat×List Int)} {b b':Nat×List Int} (h:DJ (A ++ b :: C)) (h1:b'.1=b.1) (h2:b.2=[]→b'.2=[]):DJ (A ++ b' :: C):=by
  unfold DJ at h ⊢
  rw [List.pairwise_append] at h ⊢
  obtain ⟨hA,hC,hX⟩:=h
  rw [List.pairwise_cons] at hC ⊢
  refine ⟨hA,⟨fun x hx=>?_,hC.2⟩,fun x hx y hy=>?_⟩
  · rcases hC.1 x hx with e | e | e
    · exact .inl (h2 e)
    · exact .inr (.inl e)
    · exact .inr (.inr (by rw [h1];exact e))
  · rcases List.mem_cons.1 hy with rfl | hy
    · rcases hX x hx b (List.mem_cons_self ..) with e | e | e
      · exact .inl e
      · exact .inr (.inl (h2 e))
      · exact .inr (.inr (by rw [h1];exact e))
    · exact hX x hx y (List.mem_cons_of_mem _ hy)
theorem DJ_set {ps:List (Nat×List Int)} {i:Nat} (hi:i<ps.length) {xs:List Int} (h:DJ ps) (h2:(ps.getD i (0,[])).2=[]→xs=[]):DJ (ps.take i ++ [((ps.getD i (0,[])).1,xs)] ++ ps.drop (i+1)):=by
  have e:ps=ps.take i ++ ps.getD i (0,[]) :: ps.drop (i+1):=by
    rw [List.getD_eq_getElem?_getD,List.getElem?_eq_getElem hi,Option.getD_some,List.getElem_cons_drop,List.take_append_drop]
  rw [e] at h
  rw [List.append_assoc,List.singleton_append]
  exact DJ_put h rfl h2
end Go.Ab
namespace Go.Ab
open Go.Proofs
abbrev LoR (code:List Int) (at_ k:Int) (outs rows:List AObj) (res:AVal):Prop :=
  ∃ n ps v a' s',(ps.length≤3→DJ ps)∧ps.length≤10∧-1≤n∧n≤11∧(∀ p∈ps,p.2.length≤10)∧at_≤a'∧a'≤at_+k∧outs=[.box 0 (srcC code a' s')]∧rows=[.row v 1 true (rwp ps)]∧res=.st [iv n,.own 6000 v]
theorem call_boxrowN {P:Program} {nos:List Nat} {σ:St} {g:FuncId} {As args:List AVal} {d:Nat} {s:Nat→Nat} {K:St→Prop} {r q v u:Nat} {cs cs0:List AVal} {xs:List Int} {Q:List AVal→Value→Prop}
    (h:Con P g [.box 0 cs,.row 1 1 true (ints xs)] args true fun outs rows res=>∃ cs' x,Q cs' x∧flatL cs'∧outs=[.box 0 cs',.row 1 1 true (ints xs)]∧rows=[]∧res=.val x)
    (hr:σ.hp r=.box v cs0) (hq:σ.hp q=.row u 1 true (ints xs)) (hm:r∈nos∧q∈nos) (hne:[r,q].Nodup) (hcs:CoeL σ.hp [r,q] false cs cs0) (ha:CoeL σ.hp [r,q] false args As) (hex:∃ cs' x,Q cs' x∧flatL cs')
    (hk:∀ cs' x,Q cs' x→K (St.put ⟨σ.tm,upd (upd σ.hp r (.box v cs')) q (.row u 1 true (ints xs))⟩ (some d) (.val x))):wpCallN P nos σ g As (some d) s K:=by
  refine ⟨[r,q],_,_,true,_,h,⟨by simp,rfl,hne,?_,?_⟩,ha,⟨by simp [hm.1,hm.2],?_⟩,?_⟩
  · intro x hx
    simp only [List.mem_cons,List.not_mem_nil,or_false] at hx
    rcases hx with rfl | rfl
    · simp [hr]
    · simp [hq]
  · intro j B r' hB hr'
    match j,hB,hr' with
    | 0,hB,hr' =>
      simp at hB hr';subst hB;subst hr'
      rw [hr]
      exact ⟨rfl,v,cs0,rfl,hcs⟩
    | 1,hB,hr' =>
      simp at hB hr';subst hB;subst hr'
      simp only [ObjCoe,hq]
      exact ⟨trivial,u,_,rfl,coeL_ints⟩
    | j+2,hB,hr'=>simp at hB
  · obtain ⟨cs',x,hq,hf⟩:=hex
    exact ⟨_,_,_,cs',x,hq,hf,rfl,rfl,rfl⟩
  · rintro outs rows res ⟨cs',x,hQ,hf,rfl,rfl,rfl⟩
    refine ⟨rfl,rfl,?_⟩
    have s0:sv σ.hp [r,q] s 0=v:=by simp [sv,hr,AObj.ver]
    have s1:sv σ.hp [r,q] s 1=u:=by simp [sv,hq,AObj.ver]
    rw [Option.getD_some,callHp_h2 hne]
    simp only [yzo,yzp,renL_flat cs' hf,yz4,yzx,s0,s1]
    exact hk cs' x hQ
theorem k_l01Bent (code:List Int) (at_ seed:Int) (hb:∀ x∈code,0≤x∧x≤255) (ha:0≤at_∧at_≤100000) :
    Con Try.prog nz3y [.box 0 (srcC code at_ seed)] [.ptr 5000 0 0] true (LoR code at_ 3000):=by
  refine con_shE mixed czhc rfl (by simp) ?_
  generalize hQ:finQ _=Q
  have h12:∀ (σ:St) (v2 v3:Nat) (r v:Nat) (o6 o10 o61 o73 o77:AObj) (a s n:Int) (ps:List (Nat×List Int)),
      (ps.length≤3→DJ ps)→ps.length≤10→-1≤n∧n≤11→(∀ p∈ps,p.2.length≤10)→at_≤a∧a≤at_+3000 →
      (r=6∧o6=.row v 1 true (rwp ps)∨r=10∧o10=.row v 1 true (rwp ps)∨r=77∧o77=.row v 1 true (rwp ps)) →
      σ.keep [2,3] [2,3,6,10,61,73,77,5000,901]=⟨L .any [(2,.ptr 2 v2 0),(3,.ptr 3 v3 0)],
        L .gone [(2,.box v2 [iv 0,.val (.slice none 0 0)]),(3,.box v3 [iv n,.own r v]),(6,o6),(10,o10),(61,o61),(73,o73),(77,o77),(5000,.box 0 (srcC code a s)),(901,.gone)]⟩ →
      wpD Try.prog Bz1d Q σ:=by
    intro σ v2 v3 r v o6 o10 o61 o73 o77 a s n ps hd hl hn hr ha' hrv hS
    unfold Bz1d
    rw [yzn,hS]
    simp only [wpD_gh]
    intro _
    refine ⟨[],?_⟩
    rcases hrv with ⟨rfl,rfl⟩ | ⟨rfl,rfl⟩ | ⟨rfl,rfl⟩
    · simp only [gwp_nil,yzn,yz1,go_sem,yz0,xx9,xx8,xx6,xx7,xx5,xx0,xx1,xx2,reduceIte,xx3,xx4,reduceCtorEq]
      intro vs U hN
      simp only [← hQ,Azj,go_sem,yz0,xx9,xx8,xx6,xx7,xx5,xx0,xx1,xx2,reduceIte,xx3,xx4,reduceCtorEq]
      refine ⟨[6],by simp,by simp,by simp,?_⟩
      simp only [range1,List.length_singleton,renL_rwp,Nat.not_lt_zero,range1,yzx,yz13,ren_ro,rnNm_n,yz12,rnNm_o,rnNm_s,ren_st,yzz,yzr,yzg,yz4,yzv,yzt,yzp,yzo,yzs,yz8,yze,yzc,yzd,yzj,yzl,yz3,yz7,yzb,yza,yzk,yzm,List.range_zero,yz6,yz5,yz9,yzu,yzh,yzq,AVal.fresh,freshL,yz2,yzi,AObj.fresh,id,Option.isSome_some,or_true,true_or,go_sem,yz0,xx9,xx8,xx6,xx7,xx5,xx0,xx1,xx2,reduceIte,xx3,xx4,reduceCtorEq]
      exact ⟨n,ps,v,a,s,hd,hl,hn.1,hn.2,hr,ha'.1,ha'.2,rfl,by simp,rfl⟩
    · simp only [gwp_nil,yzn,yz1,go_sem,yz0,xx9,xx8,xx6,xx7,xx5,xx0,xx1,xx2,reduceIte,xx3,xx4,reduceCtorEq]
      intro vs U hN
      simp only [← hQ,Azj,go_sem,yz0,xx9,xx8,xx6,xx7,xx5,xx0,xx1,xx2,reduceIte,xx3,xx4,reduceCtorEq]
      refine ⟨[10],by simp,by simp,by simp,?_⟩
      simp only [range1,List.length_singleton,renL_rwp,Nat.not_lt_zero,range1,yzx,yz13,ren_ro,rnNm_n,yz12,rnNm_o,rnNm_s,ren_st,yzz,yzr,yzg,yz4,yzv,yzt,yzp,yzo,yzs,yz8,yze,yzc,yzd,yzj,yzl,yz3,yz7,yzb,yza,yzk,yzm,List.range_zero,yz6,yz5,yz9,yzu,yzh,yzq,AVal.fresh,freshL,yz2,yzi,AObj.fresh,id,Option.isSome_some,or_true,true_or,go_sem,yz0,xx9,xx8,xx6,xx7,xx5,xx0,xx1,xx2,reduceIte,xx3,xx4,reduceCtorEq]
      exact ⟨n,ps,v,a,s,hd,hl,hn.1,hn.2,hr,ha'.1,ha'.2,rfl,by simp,rfl⟩
    · simp only [gwp_nil,yzn,yz1,go_sem,yz0,xx9,xx8,xx6,xx7,xx5,xx0,xx1,xx2,reduceIte,xx3,xx4,reduceCtorEq]
      intro vs U hN
      simp only [← hQ,Azj,go_sem,yz0,xx9,xx8,xx6,xx7,xx5,xx0,xx1,xx2,reduceIte,xx3,xx4,reduceCtorEq]
      refine ⟨[77],by simp,by simp,by simp,?_⟩
      simp only [range1,List.length_singleton,renL_rwp,Nat.not_lt_zero,range1,yzx,yz13,ren_ro,rnNm_n,yz12,rnNm_o,rnNm_s,ren_st,yzz,yzr,yzg,yz4,yzv,yzt,yzp,yzo,yzs,yz8,yze,yzc,yzd,yzj,yzl,yz3,yz7,yzb,yza,yzk,yzm,List.range_zero,yz6,yz5,yz9,yzu,yzh,yzq,AVal.fresh,freshL,yz2,yzi,AObj.fresh,id,Option.isSome_some,or_true,true_or,go_sem,yz0,xx9,xx8,xx6,xx7,xx5,xx0,xx1,xx2,reduceIte,xx3,xx4,reduceCtorEq]
      exact ⟨n,ps,v,a,s,hd,hl,hn.1,hn.2,hr,ha'.1,ha'.2,rfl,by simp,rfl⟩
  have h12b:∀ (σ:St) (v2 v3 r v m:Nat) (o6 o10:AObj) (a s n:Int) (A2 C2:List (Nat×List Int)) (b:Nat×List Int) (cur:List Int),
      DJ (A2 ++ b :: C2)→(A2 ++ b :: C2).length≤10→-1≤n∧n≤11→(∀ p∈A2 ++ C2,p.2.length≤10)→cur.length≤10→at_≤a∧a≤at_+3000 →
      (r=6∧o6=.row v 1 true (rwp A2 ++ .own 901 m :: rwp C2)∨r=10∧o10=.row v 1 true (rwp A2 ++ .own 901 m :: rwp C2)) →
      σ.keep [2,3] [2,3,6,10,61,73,77,5000,901]=⟨L .any [(2,.ptr 2 v2 0),(3,.ptr 3 v3 0)],
        L .gone [(2,.box v2 [iv 0,.val (.slice none 0 0)]),(3,.box v3 [iv n,.own r v]),(6,o6),(10,o10),(61,.gone),(73,.gone),(77,.gone),(5000,.box 0 (srcC code a s)),(901,.row m 1 true (ints cur))]⟩ →
      wpD Try.prog Bz1d Q σ:=by
    intro σ v2 v3 r v m o6 o10 a s n A2 C2 b cur hd hl hn hr hc ha' hrv hS
    unfold Bz1d
    rw [yzn,hS]
    simp only [wpD_gh]
    intro hD
    have hset4:∀ X:AVal,(rwp A2 ++ AVal.own 901 m :: rwp C2).set A2.length X=rwp A2 ++ X :: rwp C2:=fun X=>by
      rw [List.set_append_right _ _ (by rw [rwp_len];exact Nat.le_refl _),rwp_len,Nat.sub_self];rfl
    rw [List.length_append,List.length_cons] at hl
    have key:(∀ n k'' cs'',AVal.ro (some (some (n+1))) k'' cs''∈rwp A2 ++ AVal.own 901 m :: rwp C2→cs''≠[]→n≠m)→DJ (A2 ++ (m,cur) :: C2):=fun hf=>DJ_in hd fun p hp=>by
      by_cases e:p.2=[]
      · exact .inl e
      · refine .inr (hf p.1 1 (ints p.2) ?_ (by simpa using e))
        rcases List.mem_append.1 hp with h | h
        · exact List.mem_append.2 (.inl (List.mem_map.2 ⟨p,h,rfl⟩))
        · exact List.mem_append.2 (.inr (List.mem_cons.2 (.inr (List.mem_map.2 ⟨p,h,rfl⟩))))
    have hr2:∀ p∈A2 ++ (m,cur) :: C2,p.2.length≤10:=fun p hp=>by
      simp only [List.mem_append,List.mem_cons] at hp
      rcases hp with h | rfl | h
      · exact hr p (by simp [h])
      · exact hc
      · exact hr p (by simp [h])
    rcases hrv with ⟨rfl,rfl⟩ | ⟨rfl,rfl⟩
    · refine ⟨[.rf 6 A2.length 901],gwp_rf (k:=1) (nn:=true) rfl (own_get rfl) (by decide) rfl fun hf=>?_⟩
      have D1:=key hf
      simp only [hset4,frNm_t,rwp_cat,gwp_nil,yzn,yz1,go_sem,yz0,xx9,xx8,xx6,xx7,xx5,xx0,xx1,xx2,reduceIte,xx3,xx4,reduceCtorEq]
      intro vs U hN
      simp only [← hQ,Azj,go_sem,yz0,xx9,xx8,xx6,xx7,xx5,xx0,xx1,xx2,reduceIte,xx3,xx4,reduceCtorEq]
      refine ⟨[6],by simp,by simp,by simp,?_⟩
      simp only [range1,List.length_singleton,renL_rwp,Nat.not_lt_zero,range1,yzx,yz13,ren_ro,rnNm_n,yz12,rnNm_o,rnNm_s,ren_st,yzz,yzr,yzg,yz4,yzv,yzt,yzp,yzo,yzs,yz8,yze,yzc,yzd,yzj,yzl,yz3,yz7,yzb,yza,yzk,yzm,List.range_zero,yz6,yz5,yz9,yzu,yzh,yzq,AVal.fresh,freshL,yz2,yzi,AObj.fresh,id,Option.isSome_some,or_true,true_or,go_sem,yz0,xx9,xx8,xx6,xx7,xx5,xx0,xx1,xx2,reduceIte,xx3,xx4,reduceCtorEq]
      exact ⟨n,A2 ++ (m,cur) :: C2,v,a,s,fun _=>D1,by simp;omega,hn.1,hn.2,hr2,ha'.1,ha'.2,rfl,by simp,rfl⟩
    · refine ⟨[.rf 10 A2.length 901],gwp_rf (k:=1) (nn:=true) rfl (own_get rfl) (by decide) rfl fun hf=>?_⟩
      have D1:=key hf
      simp only [hset4,frNm_t,rwp_cat,gwp_nil,yzn,yz1,go_sem,yz0,xx9,xx8,xx6,xx7,xx5,xx0,xx1,xx2,reduceIte,xx3,xx4,reduceCtorEq]
      intro vs U hN
      simp only [← hQ,Azj,go_sem,yz0,xx9,xx8,xx6,xx7,xx5,xx0,xx1,xx2,reduceIte,xx3,xx4,reduceCtorEq]
      refine ⟨[10],by simp,by simp,by simp,?_⟩
      simp only [range1,List.length_singleton,renL_rwp,Nat.not_lt_zero,range1,yzx,yz13,ren_ro,rnNm_n,yz12,rnNm_o,rnNm_s,ren_st,yzz,yzr,yzg,yz4,yzv,yzt,yzp,yzo,yzs,yz8,yze,yzc,yzd,yzj,yzl,yz3,yz7,yzb,yza,yzk,yzm,List.range_zero,yz6,yz5,yz9,yzu,yzh,yzq,AVal.fresh,freshL,yz2,yzi,AObj.fresh,id,Option.isSome_some,or_true,true_or,go_sem,yz0,xx9,xx8,xx6,xx7,xx5,xx0,xx1,xx2,reduceIte,xx3,xx4,reduceCtorEq]
      exact ⟨n,A2 ++ (m,cur) :: C2,v,a,s,fun _=>D1,by simp;omega,hn.1,hn.2,hr2,ha'.1,ha'.2,rfl,by simp,rfl⟩
  have h4:∀ (σ:St) (v2 v3:Nat) (r v:Nat) (o6 o10:AObj) (a s n:Int) (ps:List (Nat×List Int)),
      Aut n (ps.map (·.2))→DJ ps→at_≤a∧a≤at_+2500→(r=6∧o6=.row v 1 true (rwp ps)∨r=10∧o10=.row v 1 true (rwp ps)) →
      σ.keep [0,2,3] [2,3,6,10,61,73,77,5000,901]=⟨L .any [(0,.ptr 5000 0 0),(2,.ptr 2 v2 0),(3,.ptr 3 v3 0)],
        L .gone [(2,.box v2 [iv 0,.val (.slice none 0 0)]),(3,.box v3 [iv n,.own r v]),(6,o6),(10,o10),(61,.gone),(73,.gone),(77,.gone),(5000,.box 0 (srcC code a s)),(901,.gone)]⟩ →
      wpD Try.prog Bz6x Q σ:=by
    intro σ v2 v3 r v o6 o10 a s n ps A hd ha' hrv hS
    unfold Bz6x
    rw [yzn,hS]
    have l1:=A.l1
    have l2:=A.l2
    have n1:=A.n1
    have n2:=A.n2
    rw [List.length_map] at l1 l2
    rcases hrv with ⟨rfl,rfl⟩ | ⟨rfl,rfl⟩
    · simp only [rwp_len,yzn,yz1,go_sem,yz0,xx9,xx8,xx6,xx7,xx5,xx0,xx1,xx2,reduceIte,xx3,xx4,reduceCtorEq]
      intro vs U hN hM
      refine call_funB (k_pick code a s ps.length hb (by omega)) rfl qCS qCS ?_
      rintro cs' x ⟨a1,s1,at1,rfl,e1,e2,rfl,e3,e4⟩
      have hat:at1.toNat<ps.length:=by omega
      simp only [Bz6w,yzn,yz1,go_sem,yz0,xx9,xx8,xx6,xx7,xx5,xx0,xx1,xx2,reduceIte,xx3,xx4,reduceCtorEq]
      intro vs1 U1 hN1
      refine call_funB (k_pick code a1 s1 24 hb (by omega)) rfl qCS qCS ?_
      rintro cs' x ⟨a2,s2,kd,rfl,f1,f2,rfl,f3,f4⟩
      have hps:∀ p∈ps,p.2.length≤10:=fun p hp=>by have:=(A.row p.2 (List.mem_map.2 ⟨p,hp,rfl⟩)).1;omega
      by_cases k0:kd=0
      · subst k0
        have w1:IntKind.i64.wrap (n+1)=n+1:=w64 (by omega)
        simp only [Bz3,Bz2,w1,beq_self_eq_true,yzn,yz1,go_sem,yz0,xx9,xx8,xx6,xx7,xx5,xx0,xx1,xx2,reduceIte,xx3,xx4,reduceCtorEq]
        intro vs2 U2 hN2 vs3 U3 hN3
        refine ⟨⟨⟨_,rfl,rfl⟩,⟨_,rfl,rfl⟩,⟨_,rfl,rfl⟩,_,rfl,rfl⟩,?_⟩
        refine call_boxrow (r:=5000) (q:=24) (k_among code a2 s2 [0,-1,n+1,11] hb (by omega) (by simp)) rfl rfl (by decide) qCS (by simp only [yzw,yz18,and_true,Coe];exact ⟨⟨0,_,_,rfl,rfl,rfl,rfl,rfl⟩,1,_,_,rfl,rfl,rfl,rfl,rfl⟩) ?_
        rintro cs' x ⟨a3,s3,b3,rfl,g3,g4,rfl,g5⟩
        have hb3:-1≤b3∧b3≤11:=by simp at g5;omega
        simp only [go_sem,yz0,xx9,xx8,xx6,xx7,xx5,xx0,xx1,xx2,reduceIte,xx3,xx4,reduceCtorEq]
        exact h12 _ v2 v3 6 v _ o10 .gone .gone .gone a3 s3 b3 ps (fun _=>hd) (by omega) hb3 hps (by omega) (.inl ⟨rfl,rfl⟩) (by simp only [go_sem,yz0,xx9,xx8,xx6,xx7,xx5,xx0,xx1,xx2,reduceIte,xx3,xx4,reduceCtorEq];try rfl)
      by_cases k1:kd=1
      · subst k1
        simp only [beq_false_of_ne (show (1:Int)≠0 by omega),Bz3,Bz2,Bz5,rwp_getD hat,St.bound,List.take_length,beq_self_eq_true,yzn,yz1,go_sem,yz0,xx9,xx8,xx6,xx7,xx5,xx0,xx1,xx2,reduceIte,xx3,xx4,reduceCtorEq]
        intro _ _ _ _ _ _ vs4 U4 hN4
        have hlw:(rwp ps).length=ps.length:=rwp_len
        have hrl:=(A.row _ (List.mem_map.2 ⟨_,yzy hat (0,[]),rfl⟩)).1
        refine ⟨⟨e3,by omega⟩,by omega,⟨by omega,Nat.le_refl _⟩,⟨e3,by omega⟩,by omega,?_⟩
        have ed:List.drop 1 (ints (ps.getD at1.toNat (0,[])).2)=ints ((ps.getD at1.toNat (0,[])).2.drop 1):=by simp only [List.map_drop]
        rw [ed,rwp_putN (p:=((ps.getD at1.toNat (0,[])).1,(ps.getD at1.toNat (0,[])).2.drop 1))]
        have hlp:(ps.take at1.toNat ++ [((ps.getD at1.toNat (0,[])).1,(ps.getD at1.toNat (0,[])).2.drop 1)] ++ ps.drop (at1.toNat+1)).length=ps.length:=by
          simp only [List.length_append,List.length_take,List.length_drop,List.length_singleton];omega
        exact h12 _ v2 v3 6 v _ o10 .gone .gone .gone a2 s2 n _ (fun _=>DJ_set (xs:=(ps.getD at1.toNat (0,[])).2.drop 1) hat hd fun e=>by rw [e];rfl) (by rw [hlp];omega) (by omega) (fun p hp=>by
          simp only [List.mem_append,List.mem_singleton] at hp
          rcases hp with (hp | rfl) | hp
          · exact hps p (List.mem_of_mem_take hp)
          · have:=hps _ (yzy hat (0,[]));simp only [List.length_drop];omega
          · exact hps p (List.mem_of_mem_drop hp)) (by omega) (.inl ⟨rfl,rfl⟩) (by simp only [go_sem,yz0,xx9,xx8,xx6,xx7,xx5,xx0,xx1,xx2,reduceIte,xx3,xx4,reduceCtorEq];try rfl)
      by_cases k2:kd=2
      · subst k2
        obtain ⟨A2,b,C2,rfl,hAk⟩:=rwp_split hat
        have hbr:=A.row b.2 (by simp)
        have hbn:b.2≠[]:=fun e=>by rw [e] at hbr;simp at hbr;omega
        have hbl:0<b.2.length:=by omega
        have F0:=DJ_out hd hbn
        have F0a:∀ p∈A2 ++ C2,p.2=[]∨p.1≠b.1:=F0
        simp only [beq_false_of_ne (show (2:Int)≠0 by omega),beq_false_of_ne (show (2:Int)≠1 by omega),Bz3,Bz2,Bz5,yzn,yz1,go_sem,yz0,xx9,xx8,xx6,xx7,xx5,xx0,xx1,xx2,reduceIte,xx3,xx4,reduceCtorEq]
        intro _ _ _ _ _ _ _ _ _
        simp only [beq_self_eq_true,Bzc,yzn,wpD_gh,go_sem,yz0,xx9,xx8,xx6,xx7,xx5,xx0,xx1,xx2,reduceIte,xx3,xx4,reduceCtorEq]
        intro _
        refine ⟨[.thaw 6 at1.toNat 901],gwp_thaw (n:=b.1) rfl (rwp_get hAk.symm) (by simpa using hbn) rfl fun m1=>?_⟩
        have hset:(woL b.1 (rwp (A2 ++ b :: C2))).set at1.toNat (AVal.own 901 m1)=rwp A2 ++ AVal.own 901 m1 :: rwp C2:=by rw [← hAk];exact woL_set F0a
        have ho1:(rwp A2 ++ AVal.own 901 m1 :: rwp C2).getD at1.toNat .any=.own 901 m1:=own_at hAk.symm
        have hol:(rwp A2 ++ AVal.own 901 m1 :: rwp C2).length=A2.length+(C2.length+1):=by rw [List.length_append,List.length_cons,rwp_len,rwp_len]
        have hkl:at1.toNat<(rwp A2 ++ AVal.own 901 m1 :: rwp C2).length:=by omega
        simp only [hset,woT,woO,woL_cons,woL_nil,woV_val,woV_own,wo_ptr,wo_o,woL_ints,wo_st,woO_row,woO_box,woO_gone,wo_any,gwp_nil,yzn,yz1,go_sem,yz0,xx9,xx8,xx6,xx7,xx5,xx0,xx1,xx2,reduceIte,xx3,xx4,reduceCtorEq]
        intro vs4 U4 hN4
        simp only [ho1,go_sem,yz0,xx9,xx8,xx6,xx7,xx5,xx0,xx1,xx2,reduceIte,xx3,xx4,reduceCtorEq]
        refine ⟨⟨e3,hkl⟩,hkl,⟨⟨_,rfl,rfl⟩,_,rfl,rfl⟩,?_⟩
        refine call_boxrowN (r:=5000) (q:=49) (cs0:=srcC code a2 s2) (k_among code a2 s2 [-1,n] hb (by omega) (by simp)) rfl rfl (by simp) (by decide) qCS (by simp only [yzw,yz18,and_true,Coe];exact ⟨⟨0,_,_,rfl,rfl,rfl,rfl,rfl⟩,1,_,_,rfl,rfl,rfl,rfl,rfl⟩) ⟨srcC code a2 0,.int .i64 n,⟨a2,0,n,rfl,by omega,by omega,rfl,by simp⟩,flat_srcC⟩ ?_
        rintro cs' x ⟨a3,s3,b3,rfl,g3,g4,rfl,g5⟩
        simp only [yzn,yz1,go_sem,yz0,xx9,xx8,xx6,xx7,xx5,xx0,xx1,xx2,reduceIte,xx3,xx4,reduceCtorEq]
        refine ⟨hbl,hbl,?_⟩
        have ed:AVal.val (.int .i64 b3) :: List.drop 1 (ints b.2)=ints (b3 :: b.2.drop 1):=by simp [List.map_drop]
        rw [ed]
        exact h12b _ v2 v3 6 v m1 _ (AObj.wo b.1 o10) a3 s3 n A2 C2 b (b3 :: b.2.drop 1) hd (by omega) (by omega) (fun p hp=>hps p (by simp only [List.mem_append,List.mem_cons] at hp ⊢;rcases hp with h | h <;> simp [h])) (by simp only [List.length_cons,List.length_drop];omega) (by omega) (.inl ⟨rfl,rfl⟩) (by simp only [go_sem,yz0,xx9,xx8,xx6,xx7,xx5,xx0,xx1,xx2,reduceIte,xx3,xx4,reduceCtorEq];try rfl)
      by_cases k3:kd=3
      · subst k3
        have h00:0<ps.length:=by omega
        simp only [beq_false_of_ne (show (3:Int)≠0 by omega),beq_false_of_ne (show (3:Int)≠1 by omega),Bz3,Bz2,Bz5,yzn,yz1,go_sem,yz0,xx9,xx8,xx6,xx7,xx5,xx0,xx1,xx2,reduceIte,xx3,xx4,reduceCtorEq]
        intro _ _ _ _ _ _ _ _ _
        simp only [beq_false_of_ne (show (3:Int)≠2 by omega),Bzc,yzn,wpD_gh,go_sem,yz0,xx9,xx8,xx6,xx7,xx5,xx0,xx1,xx2,reduceIte,xx3,xx4,reduceCtorEq]
        intro _
        refine ⟨[],?_⟩
        simp only [beq_self_eq_true,Bzi,rwp_getD h00,gwp_nil,yzn,yz1,go_sem,yz0,xx9,xx8,xx6,xx7,xx5,xx0,xx1,xx2,reduceIte,xx3,xx4,reduceCtorEq]
        intro _ _ _ vs9 U9 hN9
        have hlw:(rwp ps).length=ps.length:=rwp_len
        refine ⟨by omega,by omega,by omega,by omega,by omega,by omega,by omega,by rw [List.length_append,List.length_singleton];omega,?_⟩
        generalize hp0:ps.getD 0 (0,[])=p0
        have hp0m:p0∈ps:=hp0 ▸ yzy h00 (0,[])
        have e5:rwp ps ++ [AVal.ro (some (some (p0.1+1))) 1 (ints p0.2)] ++ [AVal.ro (some (some (p0.1+1))) 1 (ints p0.2),AVal.ro (some (some (p0.1+1))) 1 (ints p0.2)]=rwp (ps ++ [p0] ++ [p0,p0]):=by simp only [rwp,List.map_append,List.map_cons,List.map_nil]
        rw [e5]
        have hl6:(ps ++ [p0] ++ [p0,p0]).length=ps.length+3:=by simp
        exact h12 _ v2 v3 6 (vs9 19 0) _ o10 .gone .gone .gone a2 s2 n (ps ++ [p0] ++ [p0,p0]) (fun h=>absurd h (by omega)) (by omega) (by omega) (fun p hp=>by
          simp only [List.mem_append,List.mem_cons,List.not_mem_nil,or_false] at hp
          rcases hp with (hp | rfl) | rfl | rfl
          · exact hps p hp
          · exact hps _ hp0m
          · exact hps _ hp0m
          · exact hps _ hp0m) (by omega) (.inl ⟨rfl,rfl⟩) (by simp only [go_sem,yz0,xx9,xx8,xx6,xx7,xx5,xx0,xx1,xx2,reduceIte,xx3,xx4,reduceCtorEq];try rfl)
      by_cases k4:kd=4
      · subst k4
        simp only [beq_false_of_ne (show (4:Int)≠0 by omega),beq_false_of_ne (show (4:Int)≠1 by omega),Bz3,Bz2,Bz5,yzn,yz1,go_sem,yz0,xx9,xx8,xx6,xx7,xx5,xx0,xx1,xx2,reduceIte,xx3,xx4,reduceCtorEq]
        intro _ _ _ _ _ _ _ _ _
        simp only [beq_false_of_ne (show (4:Int)≠2 by omega),Bzc,yzn,wpD_gh,go_sem,yz0,xx9,xx8,xx6,xx7,xx5,xx0,xx1,xx2,reduceIte,xx3,xx4,reduceCtorEq]
        intro _
        refine ⟨[],?_⟩
        simp only [beq_false_of_ne (show (4:Int)≠3 by omega),Bzi,Bz1c,beq_self_eq_true,gwp_nil,yzn,yz1,go_sem,yz0,xx9,xx8,xx6,xx7,xx5,xx0,xx1,xx2,reduceIte,xx3,xx4,reduceCtorEq]
        intro _ _ _ _ _ _ vs9 U9 hN9
        exact h12 _ v2 v3 77 (vs9 0 0) _ o10 .gone .gone _ a2 s2 n [] (fun _=>by simp [DJ]) (by simp) (by omega) (by simp) (by omega) (.inr (.inr ⟨rfl,rfl⟩)) (by simp only [rwp_nil,go_sem,yz0,xx9,xx8,xx6,xx7,xx5,xx0,xx1,xx2,reduceIte,xx3,xx4,reduceCtorEq];try rfl)
      simp only [beq_false_of_ne k0,beq_false_of_ne k1,Bz3,Bz2,Bz5,yzn,yz1,go_sem,yz0,xx9,xx8,xx6,xx7,xx5,xx0,xx1,xx2,reduceIte,xx3,xx4,reduceCtorEq]
      intro _ _ _ _ _ _ _ _ _
      simp only [beq_false_of_ne k2,Bzc,yzn,wpD_gh,go_sem,yz0,xx9,xx8,xx6,xx7,xx5,xx0,xx1,xx2,reduceIte,xx3,xx4,reduceCtorEq]
      intro _
      refine ⟨[],?_⟩
      simp only [beq_false_of_ne k3,beq_false_of_ne k4,Bzi,Bz1c,gwp_nil,yzn,yz1,go_sem,yz0,xx9,xx8,xx6,xx7,xx5,xx0,xx1,xx2,reduceIte,xx3,xx4,reduceCtorEq]
      intro _ _ _ _ _ _
      exact h12 _ v2 v3 6 v _ o10 .gone .gone .gone a2 s2 n ps (fun _=>hd) (by omega) (by omega) hps (by omega) (.inl ⟨rfl,rfl⟩) (by simp only [go_sem,yz0,xx9,xx8,xx6,xx7,xx5,xx0,xx1,xx2,reduceIte,xx3,xx4,reduceCtorEq];try rfl)
    · simp only [rwp_len,yzn,yz1,go_sem,yz0,xx9,xx8,xx6,xx7,xx5,xx0,xx1,xx2,reduceIte,xx3,xx4,reduceCtorEq]
      intro vs U hN hM
      refine call_funB (k_pick code a s ps.length hb (by omega)) rfl qCS qCS ?_
      rintro cs' x ⟨a1,s1,at1,rfl,e1,e2,rfl,e3,e4⟩
      have hat:at1.toNat<ps.length:=by omega
      simp only [Bz6w,yzn,yz1,go_sem,yz0,xx9,xx8,xx6,xx7,xx5,xx0,xx1,xx2,reduceIte,xx3,xx4,reduceCtorEq]
      intro vs1 U1 hN1
      refine call_funB (k_pick code a1 s1 24 hb (by omega)) rfl qCS qCS ?_
      rintro cs' x ⟨a2,s2,kd,rfl,f1,f2,rfl,f3,f4⟩
      have hps:∀ p∈ps,p.2.length≤10:=fun p hp=>by have:=(A.row p.2 (List.mem_map.2 ⟨p,hp,rfl⟩)).1;omega
      by_cases k0:kd=0
      · subst k0
        have w1:IntKind.i64.wrap (n+1)=n+1:=w64 (by omega)
        simp only [Bz3,Bz2,w1,beq_self_eq_true,yzn,yz1,go_sem,yz0,xx9,xx8,xx6,xx7,xx5,xx0,xx1,xx2,reduceIte,xx3,xx4,reduceCtorEq]
        intro vs2 U2 hN2 vs3 U3 hN3
        refine ⟨⟨⟨_,rfl,rfl⟩,⟨_,rfl,rfl⟩,⟨_,rfl,rfl⟩,_,rfl,rfl⟩,?_⟩
        refine call_boxrow (r:=5000) (q:=24) (k_among code a2 s2 [0,-1,n+1,11] hb (by omega) (by simp)) rfl rfl (by decide) qCS (by simp only [yzw,yz18,and_true,Coe];exact ⟨⟨0,_,_,rfl,rfl,rfl,rfl,rfl⟩,1,_,_,rfl,rfl,rfl,rfl,rfl⟩) ?_
        rintro cs' x ⟨a3,s3,b3,rfl,g3,g4,rfl,g5⟩
        have hb3:-1≤b3∧b3≤11:=by simp at g5;omega
        simp only [go_sem,yz0,xx9,xx8,xx6,xx7,xx5,xx0,xx1,xx2,reduceIte,xx3,xx4,reduceCtorEq]
        exact h12 _ v2 v3 10 v o6 _ .gone .gone .gone a3 s3 b3 ps (fun _=>hd) (by omega) hb3 hps (by omega) (.inr (.inl ⟨rfl,rfl⟩)) (by simp only [go_sem,yz0,xx9,xx8,xx6,xx7,xx5,xx0,xx1,xx2,reduceIte,xx3,xx4,reduceCtorEq];try rfl)
      by_cases k1:kd=1
      · subst k1
        simp only [beq_false_of_ne (show (1:Int)≠0 by omega),Bz3,Bz2,Bz5,rwp_getD hat,St.bound,List.take_length,beq_self_eq_true,yzn,yz1,go_sem,yz0,xx9,xx8,xx6,xx7,xx5,xx0,xx1,xx2,reduceIte,xx3,xx4,reduceCtorEq]
        intro _ _ _ _ _ _ vs4 U4 hN4
        have hlw:(rwp ps).length=ps.length:=rwp_len
        have hrl:=(A.row _ (List.mem_map.2 ⟨_,yzy hat (0,[]),rfl⟩)).1
        refine ⟨⟨e3,by omega⟩,by omega,⟨by omega,Nat.le_refl _⟩,⟨e3,by omega⟩,by omega,?_⟩
        have ed:List.drop 1 (ints (ps.getD at1.toNat (0,[])).2)=ints ((ps.getD at1.toNat (0,[])).2.drop 1):=by simp only [List.map_drop]
        rw [ed,rwp_putN (p:=((ps.getD at1.toNat (0,[])).1,(ps.getD at1.toNat (0,[])).2.drop 1))]
        have hlp:(ps.take at1.toNat ++ [((ps.getD at1.toNat (0,[])).1,(ps.getD at1.toNat (0,[])).2.drop 1)] ++ ps.drop (at1.toNat+1)).length=ps.length:=by
          simp only [List.length_append,List.length_take,List.length_drop,List.length_singleton];omega
        exact h12 _ v2 v3 10 v o6 _ .gone .gone .gone a2 s2 n _ (fun _=>DJ_set (xs:=(ps.getD at1.toNat (0,[])).2.drop 1) hat hd fun e=>by rw [e];rfl) (by rw [hlp];omega) (by omega) (fun p hp=>by
          simp only [List.mem_append,List.mem_singleton] at hp
          rcases hp with (hp | rfl) | hp
          · exact hps p (List.mem_of_mem_take hp)
          · have:=hps _ (yzy hat (0,[]));simp only [List.length_drop];omega
          · exact hps p (List.mem_of_mem_drop hp)) (by omega) (.inr (.inl ⟨rfl,rfl⟩)) (by simp only [go_sem,yz0,xx9,xx8,xx6,xx7,xx5,xx0,xx1,xx2,reduceIte,xx3,xx4,reduceCtorEq];try rfl)
      by_cases k2:kd=2
      · subst k2
        obtain ⟨A2,b,C2,rfl,hAk⟩:=rwp_split hat
        have hbr:=A.row b.2 (by simp)
        have hbn:b.2≠[]:=fun e=>by rw [e] at hbr;simp at hbr;omega
        have hbl:0<b.2.length:=by omega
        have F0:=DJ_out hd hbn
        have F0a:∀ p∈A2 ++ C2,p.2=[]∨p.1≠b.1:=F0
        simp only [beq_false_of_ne (show (2:Int)≠0 by omega),beq_false_of_ne (show (2:Int)≠1 by omega),Bz3,Bz2,Bz5,yzn,yz1,go_sem,yz0,xx9,xx8,xx6,xx7,xx5,xx0,xx1,xx2,reduceIte,xx3,xx4,reduceCtorEq]
        intro _ _ _ _ _ _ _ _ _
        simp only [beq_self_eq_true,Bzc,yzn,wpD_gh,go_sem,yz0,xx9,xx8,xx6,xx7,xx5,xx0,xx1,xx2,reduceIte,xx3,xx4,reduceCtorEq]
        intro _
        refine ⟨[.thaw 10 at1.toNat 901],gwp_thaw (n:=b.1) rfl (rwp_get hAk.symm) (by simpa using hbn) rfl fun m1=>?_⟩
        have hset:(woL b.1 (rwp (A2 ++ b :: C2))).set at1.toNat (AVal.own 901 m1)=rwp A2 ++ AVal.own 901 m1 :: rwp C2:=by rw [← hAk];exact woL_set F0a
        have ho1:(rwp A2 ++ AVal.own 901 m1 :: rwp C2).getD at1.toNat .any=.own 901 m1:=own_at hAk.symm
        have hol:(rwp A2 ++ AVal.own 901 m1 :: rwp C2).length=A2.length+(C2.length+1):=by rw [List.length_append,List.length_cons,rwp_len,rwp_len]
        have hkl:at1.toNat<(rwp A2 ++ AVal.own 901 m1 :: rwp C2).length:=by omega
        simp only [hset,woT,woO,woL_cons,woL_nil,woV_val,woV_own,wo_ptr,wo_o,woL_ints,wo_st,woO_row,woO_box,woO_gone,wo_any,gwp_nil,yzn,yz1,go_sem,yz0,xx9,xx8,xx6,xx7,xx5,xx0,xx1,xx2,reduceIte,xx3,xx4,reduceCtorEq]
        intro vs4 U4 hN4
        simp only [ho1,go_sem,yz0,xx9,xx8,xx6,xx7,xx5,xx0,xx1,xx2,reduceIte,xx3,xx4,reduceCtorEq]
        refine ⟨⟨e3,hkl⟩,hkl,⟨⟨_,rfl,rfl⟩,_,rfl,rfl⟩,?_⟩
        refine call_boxrowN (r:=5000) (q:=49) (cs0:=srcC code a2 s2) (k_among code a2 s2 [-1,n] hb (by omega) (by simp)) rfl rfl (by simp) (by decide) qCS (by simp only [yzw,yz18,and_true,Coe];exact ⟨⟨0,_,_,rfl,rfl,rfl,rfl,rfl⟩,1,_,_,rfl,rfl,rfl,rfl,rfl⟩) ⟨srcC code a2 0,.int .i64 n,⟨a2,0,n,rfl,by omega,by omega,rfl,by simp⟩,flat_srcC⟩ ?_
        rintro cs' x ⟨a3,s3,b3,rfl,g3,g4,rfl,g5⟩
        simp only [yzn,yz1,go_sem,yz0,xx9,xx8,xx6,xx7,xx5,xx0,xx1,xx2,reduceIte,xx3,xx4,reduceCtorEq]
        refine ⟨hbl,hbl,?_⟩
        have ed:AVal.val (.int .i64 b3) :: List.drop 1 (ints b.2)=ints (b3 :: b.2.drop 1):=by simp [List.map_drop]
        rw [ed]
        exact h12b _ v2 v3 10 v m1 (AObj.wo b.1 o6) _ a3 s3 n A2 C2 b (b3 :: b.2.drop 1) hd (by omega) (by omega) (fun p hp=>hps p (by simp only [List.mem_append,List.mem_cons] at hp ⊢;rcases hp with h | h <;> simp [h])) (by simp only [List.length_cons,List.length_drop];omega) (by omega) (.inr ⟨rfl,rfl⟩) (by simp only [go_sem,yz0,xx9,xx8,xx6,xx7,xx5,xx0,xx1,xx2,reduceIte,xx3,xx4,reduceCtorEq];try rfl)
      by_cases k3:kd=3
      · subst k3
        have h00:0<ps.length:=by omega
        simp only [beq_false_of_ne (show (3:Int)≠0 by omega),beq_false_of_ne (show (3:Int)≠1 by omega),Bz3,Bz2,Bz5,yzn,yz1,go_sem,yz0,xx9,xx8,xx6,xx7,xx5,xx0,xx1,xx2,reduceIte,xx3,xx4,reduceCtorEq]
        intro _ _ _ _ _ _ _ _ _
        simp only [beq_false_of_ne (show (3:Int)≠2 by omega),Bzc,yzn,wpD_gh,go_sem,yz0,xx9,xx8,xx6,xx7,xx5,xx0,xx1,xx2,reduceIte,xx3,xx4,reduceCtorEq]
        intro _
        refine ⟨[],?_⟩
        simp only [beq_self_eq_true,Bzi,rwp_getD h00,gwp_nil,yzn,yz1,go_sem,yz0,xx9,xx8,xx6,xx7,xx5,xx0,xx1,xx2,reduceIte,xx3,xx4,reduceCtorEq]
        intro _ _ _ vs9 U9 hN9
        have hlw:(rwp ps).length=ps.length:=rwp_len
        refine ⟨by omega,by omega,by omega,by omega,by omega,by omega,by omega,by rw [List.length_append,List.length_singleton];omega,?_⟩
        generalize hp0:ps.getD 0 (0,[])=p0
        have hp0m:p0∈ps:=hp0 ▸ yzy h00 (0,[])
        have e5:rwp ps ++ [AVal.ro (some (some (p0.1+1))) 1 (ints p0.2)] ++ [AVal.ro (some (some (p0.1+1))) 1 (ints p0.2),AVal.ro (some (some (p0.1+1))) 1 (ints p0.2)]=rwp (ps ++ [p0] ++ [p0,p0]):=by simp only [rwp,List.map_append,List.map_cons,List.map_nil]
        rw [e5]
        have hl6:(ps ++ [p0] ++ [p0,p0]).length=ps.length+3:=by simp
        exact h12 _ v2 v3 10 (vs9 19 0) o6 _ .gone .gone .gone a2 s2 n (ps ++ [p0] ++ [p0,p0]) (fun h=>absurd h (by omega)) (by omega) (by omega) (fun p hp=>by
          simp only [List.mem_append,List.mem_cons,List.not_mem_nil,or_false] at hp
          rcases hp with (hp | rfl) | rfl | rfl
          · exact hps p hp
          · exact hps _ hp0m
          · exact hps _ hp0m
          · exact hps _ hp0m) (by omega) (.inr (.inl ⟨rfl,rfl⟩)) (by simp only [go_sem,yz0,xx9,xx8,xx6,xx7,xx5,xx0,xx1,xx2,reduceIte,xx3,xx4,reduceCtorEq];try rfl)
      by_cases k4:kd=4
      · subst k4
        simp only [beq_false_of_ne (show (4:Int)≠0 by omega),beq_false_of_ne (show (4:Int)≠1 by omega),Bz3,Bz2,Bz5,yzn,yz1,go_sem,yz0,xx9,xx8,xx6,xx7,xx5,xx0,xx1,xx2,reduceIte,xx3,xx4,reduceCtorEq]
        intro _ _ _ _ _ _ _ _ _
        simp only [beq_false_of_ne (show (4:Int)≠2 by omega),Bzc,yzn,wpD_gh,go_sem,yz0,xx9,xx8,xx6,xx7,xx5,xx0,xx1,xx2,reduceIte,xx3,xx4,reduceCtorEq]
        intro _
        refine ⟨[],?_⟩
        simp only [beq_false_of_ne (show (4:Int)≠3 by omega),Bzi,Bz1c,beq_self_eq_true,gwp_nil,yzn,yz1,go_sem,yz0,xx9,xx8,xx6,xx7,xx5,xx0,xx1,xx2,reduceIte,xx3,xx4,reduceCtorEq]
        intro _ _ _ _ _ _ vs9 U9 hN9
        exact h12 _ v2 v3 77 (vs9 0 0) o6 _ .gone .gone _ a2 s2 n [] (fun _=>by simp [DJ]) (by simp) (by omega) (by simp) (by omega) (.inr (.inr ⟨rfl,rfl⟩)) (by simp only [rwp_nil,go_sem,yz0,xx9,xx8,xx6,xx7,xx5,xx0,xx1,xx2,reduceIte,xx3,xx4,reduceCtorEq];try rfl)
      simp only [beq_false_of_ne k0,beq_false_of_ne k1,Bz3,Bz2,Bz5,yzn,yz1,go_sem,yz0,xx9,xx8,xx6,xx7,xx5,xx0,xx1,xx2,reduceIte,xx3,xx4,reduceCtorEq]
      intro _ _ _ _ _ _ _ _ _
      simp only [beq_false_of_ne k2,Bzc,yzn,wpD_gh,go_sem,yz0,xx9,xx8,xx6,xx7,xx5,xx0,xx1,xx2,reduceIte,xx3,xx4,reduceCtorEq]
      intro _
      refine ⟨[],?_⟩
      simp only [beq_false_of_ne k3,beq_false_of_ne k4,Bzi,Bz1c,gwp_nil,yzn,yz1,go_sem,yz0,xx9,xx8,xx6,xx7,xx5,xx0,xx1,xx2,reduceIte,xx3,xx4,reduceCtorEq]
      intro _ _ _ _ _ _
      exact h12 _ v2 v3 10 v o6 _ .gone .gone .gone a2 s2 n ps (fun _=>hd) (by omega) (by omega) hps (by omega) (.inr (.inl ⟨rfl,rfl⟩)) (by simp only [go_sem,yz0,xx9,xx8,xx6,xx7,xx5,xx0,xx1,xx2,reduceIte,xx3,xx4,reduceCtorEq];try rfl)
  simp only [Azj,Bzeg,yzn,yz1,go_sem,yz0,xx9,xx8,xx6,xx7,xx5,xx0,xx1,xx2,reduceIte,xx3,xx4,reduceCtorEq]
  intro vs0 U0 hN0 vs1 U1 hN1
  refine call_con (r:=5000) (k_DrawnN code at_ seed 6 hb (by omega) (by omega)) rfl (by simp only [Bool.not_true,rowIs,boxIs,coe_argN,yz19,coe_ro_o,yz18,yzw,coe_any,coe_val,coe_ro,yz15,yz16,coe_st,yz14,coe_rp,yz17,coe_clo,coe_own0,coe_ptr0,yz10,coeL_rws,yz1a,L_hit,L_miss,L_nil,xx3,ne_eq,reduceCtorEq,not_false_eq_true,true_and,and_true,and_self,exists_eq_left,exists_eq_right,List.mem_cons,List.not_mem_nil,or_false,AObj.row.injEq,AObj.box.injEq,exists_eq_left',exists_and_left,exists_eq,Nat.zero_lt_one,Nat.lt_add_one,List.map_cons,List.map_nil,AObj.ver,xx5,not_true_eq_false]) (by simp only [Bool.not_true,rowIs,boxIs,coe_argN,yz19,coe_ro_o,yz18,yzw,coe_any,coe_val,coe_ro,yz15,yz16,coe_st,yz14,coe_rp,yz17,coe_clo,coe_own0,coe_ptr0,yz10,coeL_rws,yz1a,L_hit,L_miss,L_nil,xx3,ne_eq,reduceCtorEq,not_false_eq_true,true_and,and_true,and_self,exists_eq_left,exists_eq_right,List.mem_cons,List.not_mem_nil,or_false,AObj.row.injEq,AObj.box.injEq,exists_eq_left',exists_and_left,exists_eq,Nat.zero_lt_one,Nat.lt_add_one,List.map_cons,List.map_nil,AObj.ver,xx5,not_true_eq_false]) ?_
  rintro outs rows res ⟨q,qs,vq,a1,s1,A,hd,hq3,h1,h2,rfl,rfl,rfl⟩
  refine ⟨rfl,by simp,by rw [Option.getD_some,yzh];simp only [go_sem,yz0,xx9,xx8,xx6,xx7,xx5,xx0,xx1,xx2,reduceIte,xx3,xx4,reduceCtorEq],?_⟩
  rw [Option.getD_some,callHp_mr (by omega)]
  have hv0:∀ y,vs1 1 y≠0:=fun y e=>by
    have h:=hN1.hp 5000
    simp only [AObj.uses,go_sem,yz0,xx9,xx8,xx6,xx7,xx5,xx0,xx1,xx2,reduceIte,xx3,xx4,reduceCtorEq] at h
    exact hN1.new 1 y (by rw [e];exact h.1)
  simp only [renL_rwp,Bzef,yzn,yz1,Nat.not_lt_zero,range1,yzx,yz13,ren_ro,rnNm_n,yz12,rnNm_o,rnNm_s,ren_st,yzz,yzr,yzg,yz4,yzv,yzt,yzp,yzo,yzs,yz8,yze,yzc,yzd,yzj,yzl,yz3,yz7,yzb,yza,yzk,yzm,List.range_zero,yz6,yz5,yz9,yzu,yzh,yzq,AVal.fresh,freshL,yz2,yzi,AObj.fresh,id,Option.isSome_some,or_true,true_or,go_sem,yz0,xx9,xx8,xx6,xx7,xx5,xx0,xx1,xx2,reduceIte,xx3,xx4,reduceCtorEq]
  intro vs2 U2 hN2
  clear hN2
  have hsi:=fun l (h:L .gone l 5000=.box 0 (srcC code at_ seed))=>sv_inj (hp:=L .gone l) (r:=5000) h (fun x y e=>(hN1.inj _ _ _ _ e).2) hv0
  have hs0:=fun l (h:L .gone l 5000=.box 0 (srcC code at_ seed))=>(sv_m (s:=vs1 1) h:sv (L .gone l) [5000] (vs1 1) 0=0)
  generalize hl0:[(2,AObj.box (vs0 0 0) [iv 0,AVal.val (Value.slice none 0 0)]),(3,AObj.gone),(6,AObj.gone),(10,AObj.gone),(61,AObj.gone),(73,AObj.gone),(77,AObj.gone),(5000,AObj.box 0 (srcC code at_ seed)),(901,AObj.gone)]=l0
  have hi:=hsi l0 (by rw [← hl0];rfl)
  have h0:=hs0 l0 (by rw [← hl0];rfl)
  generalize sv (L .gone l0) [5000] (vs1 1)=f at hi h0 ⊢
  rw [h0]
  have A0:Aut q ((qs.map fun p=>(f p.1,p.2)).map (·.2)):=by rw [List.map_map];exact A
  have hd0:=hd.ren hi
  generalize (qs.map fun p=>(f p.1,p.2))=ps0 at A0 hd0 ⊢
  refine call_funB (k_one code a1 s1 8 hb (by omega)) rfl qCS qCS ?_
  rintro cs' x ⟨a2,s2,b2,rfl,g1,g2,rfl⟩
  simp only [Bzee,yzn,yz1,go_sem,yz0,xx9,xx8,xx6,xx7,xx5,xx0,xx1,xx2,reduceIte,xx3,xx4,reduceCtorEq]
  refine ⟨fun _ vs3 U3 hN3=>?_,fun _=>?_⟩
  · refine call_con (r:=5000) (k_DrawnN code a2 s2 10 hb (by omega) (by omega)) rfl (by simp only [Bool.not_true,rowIs,boxIs,coe_argN,yz19,coe_ro_o,yz18,yzw,coe_any,coe_val,coe_ro,yz15,yz16,coe_st,yz14,coe_rp,yz17,coe_clo,coe_own0,coe_ptr0,yz10,coeL_rws,yz1a,L_hit,L_miss,L_nil,xx3,ne_eq,reduceCtorEq,not_false_eq_true,true_and,and_true,and_self,exists_eq_left,exists_eq_right,List.mem_cons,List.not_mem_nil,or_false,AObj.row.injEq,AObj.box.injEq,exists_eq_left',exists_and_left,exists_eq,Nat.zero_lt_one,Nat.lt_add_one,List.map_cons,List.map_nil,AObj.ver,xx5,not_true_eq_false]) (by simp only [Bool.not_true,rowIs,boxIs,coe_argN,yz19,coe_ro_o,yz18,yzw,coe_any,coe_val,coe_ro,yz15,yz16,coe_st,yz14,coe_rp,yz17,coe_clo,coe_own0,coe_ptr0,yz10,coeL_rws,yz1a,L_hit,L_miss,L_nil,xx3,ne_eq,reduceCtorEq,not_false_eq_true,true_and,and_true,and_self,exists_eq_left,exists_eq_right,List.mem_cons,List.not_mem_nil,or_false,AObj.row.injEq,AObj.box.injEq,exists_eq_left',exists_and_left,exists_eq,Nat.zero_lt_one,Nat.lt_add_one,List.map_cons,List.map_nil,AObj.ver,xx5,not_true_eq_false]) ?_
    rintro outs rows res ⟨q',qs',vq',a3,s3,A',hd',hq',g3,g4,rfl,rfl,rfl⟩
    refine ⟨rfl,by simp,by rw [Option.getD_some,yzh];simp only [go_sem,yz0,xx9,xx8,xx6,xx7,xx5,xx0,xx1,xx2,reduceIte,xx3,xx4,reduceCtorEq],?_⟩
    rw [Option.getD_some,callHp_mr (by omega)]
    have hv1:∀ y,vs3 1 y≠0:=fun y e=>by
      have h:=hN3.hp 5000
      simp only [AObj.uses,go_sem,yz0,xx9,xx8,xx6,xx7,xx5,xx0,xx1,xx2,reduceIte,xx3,xx4,reduceCtorEq] at h
      exact hN3.new 1 y (by rw [e];exact h.1)
    simp only [renL_rwp,yzn,yz1,Nat.not_lt_zero,range1,yzx,yz13,ren_ro,rnNm_n,yz12,rnNm_o,rnNm_s,ren_st,yzz,yzr,yzg,yz4,yzv,yzt,yzp,yzo,yzs,yz8,yze,yzc,yzd,yzj,yzl,yz3,yz7,yzb,yza,yzk,yzm,List.range_zero,yz6,yz5,yz9,yzu,yzh,yzq,AVal.fresh,freshL,yz2,yzi,AObj.fresh,id,Option.isSome_some,or_true,true_or,go_sem,yz0,xx9,xx8,xx6,xx7,xx5,xx0,xx1,xx2,reduceIte,xx3,xx4,reduceCtorEq]
    have hsi:=fun l (h:L .gone l 5000=.box 0 (srcC code a2 s2))=>sv_inj (hp:=L .gone l) (r:=5000) h (fun x y e=>(hN3.inj _ _ _ _ e).2) hv1
    have hs0:=fun l (h:L .gone l 5000=.box 0 (srcC code a2 s2))=>(sv_m (s:=vs3 1) h:sv (L .gone l) [5000] (vs3 1) 0=0)
    generalize hl1:[(2,AObj.box (vs0 0 0) [iv 0,AVal.val (Value.slice none 0 0)]),(3,AObj.box (vs1 2 0) [iv q,.own 6 (f vq)]),(6,AObj.row (f vq) 1 true (rwp ps0)),(10,AObj.gone),(61,AObj.gone),(73,AObj.gone),(77,AObj.gone),(5000,AObj.box 0 (srcC code a2 s2)),(901,AObj.gone)]=l1
    have hi1:=hsi l1 (by rw [← hl1];rfl)
    have h01:=hs0 l1 (by rw [← hl1];rfl)
    generalize sv (L .gone l1) [5000] (vs3 1)=f1 at hi1 h01 ⊢
    rw [h01]
    have A1:Aut q' ((qs'.map fun p=>(f1 p.1,p.2)).map (·.2)):=by rw [List.map_map];exact A'
    have hd1:=hd'.ren hi1
    generalize (qs'.map fun p=>(f1 p.1,p.2))=ps1 at A1 hd1 ⊢
    exact h4 _ (vs0 0 0) (vs1 2 0) 10 (f1 vq') _ _ a3 s3 q' ps1 A1 hd1 (by omega) (.inr ⟨rfl,rfl⟩) (by simp only [← hl1,go_sem,yz0,xx9,xx8,xx6,xx7,xx5,xx0,xx1,xx2,reduceIte,xx3,xx4,reduceCtorEq];try rfl)
  · exact h4 _ (vs0 0 0) (vs1 2 0) 6 (f vq) _ .gone a2 s2 q ps0 A0 hd0 (by omega) (.inl ⟨rfl,rfl⟩) (by simp only [go_sem,yz0,xx9,xx8,xx6,xx7,xx5,xx0,xx1,xx2,reduceIte,xx3,xx4,reduceCtorEq];try rfl)
end Go.Ab
namespace Go.Ab
open Go.Proofs
def FRen (F:Int→List (Nat×List Int)→Prop):Prop:=∀ n ps (f:Nat→Nat),(∀ x y,f x=f y→x=y)→F n ps→F n (ps.map fun p=>(f p.1,p.2))
theorem New.box {vs:Nat→Nat→Nat} {U:Nat→Prop} {σ:St} {r v:Nat} {cs:List AVal} (h:New vs U σ) (hr:σ.hp r=.box v cs) (i y:Nat):vs i y≠v:=fun e=>by
  have h1:=h.hp r
  rw [hr] at h1
  simp only [AObj.uses] at h1
  exact h.new i y (by rw [e];exact h1.1)
theorem call_lo {P:Program} {F:Int→List (Nat×List Int)→Prop} (hF:FRen F) {σ:St} {g:FuncId} {As args:List AVal} {d:Nat} {s:Nat→Nat} {K:St→Prop} {r v:Nat} {code:List Int} {a s0 k:Int}
    (h:Con P g [.box 0 (srcC code a s0)] (.ptr 5000 0 0 :: args) true fun outs rows res=>∃ n ps v a' s',F n ps∧a≤a'∧a'≤a+k∧outs=[.box 0 (srcC code a' s')]∧rows=[.row v 1 true (rwp ps)]∧res=.st [iv n,.own 6000 v])
    (hr:σ.hp r=.box v (srcC code a s0)) (hs:∀ x y,s x=s y→x=y) (hv:∀ y,s y≠v) (hco:CoeL σ.hp [r] false args As) (hd:σ.hp d=.gone)
    (hk:∀ n ps v' a' s',F n ps→a≤a'→a'≤a+k→K (St.put ⟨σ.tm,upd (upd σ.hp r (.box v (srcC code a' s'))) d (.row v' 1 true (rwp ps))⟩ (some d) (.st [iv n,.own d v']))):wpCall P false σ g (.ptr r v 0 :: As) (some d) s K:=by
  have hne:d≠r:=fun e=>by rw [e,hr] at hd;cases hd
  refine call_con (r:=r) h hr (by simp only [Bool.not_true,rowIs,boxIs,coe_argN,yz19,coe_ro_o,yz18,yzw,coe_any,coe_val,coe_ro,yz15,yz16,coe_st,yz14,coe_rp,yz17,coe_clo,coe_own0,coe_ptr0,yz10,coeL_rws,yz1a,L_hit,L_miss,L_nil,xx3,ne_eq,reduceCtorEq,not_false_eq_true,true_and,and_true,and_self,exists_eq_left,exists_eq_right,List.mem_cons,List.not_mem_nil,or_false,AObj.row.injEq,AObj.box.injEq,exists_eq_left',exists_and_left,exists_eq,Nat.zero_lt_one,Nat.lt_add_one,List.map_cons,List.map_nil,AObj.ver,xx5,not_true_eq_false]) (by rw [Bool.not_true,yzw,coe_ptr0,hr];exact ⟨rfl,hco⟩) ?_
  rintro outs rows res ⟨n,ps,w,a',s',hf,h1,h2,rfl,rfl,rfl⟩
  refine ⟨rfl,by simp,by rw [Option.getD_some,yzh];exact hd,?_⟩
  rw [Option.getD_some,callHp_mr hne]
  have hi:=sv_inj (hp:=σ.hp) (r:=r) hr hs hv
  have h0:sv σ.hp [r] s 0=v:=sv_m hr
  simp only [yzp,yzo,renL_rwp,renL_flat _ flat_srcC,ren_st,yzg,yzr,yzx,List.length_singleton,yz3,h0]
  exact hk n _ _ a' s' (hF n ps _ hi hf) h1 h2
theorem call_lo0 {P:Program} {F:Int→List (Nat×List Int)→Prop} (hF:FRen F) {σ:St} {g:FuncId} {As args:List AVal} {d:Nat} {s:Nat→Nat} {K:St→Prop}
    (h:Con P g [] args true fun outs rows res=>outs=[]∧∃ n v ps,F n ps∧rows=[.row v 1 true (rwp ps)]∧res=.st [iv n,.own 6000 v])
    (hs:∀ x y,s x=s y→x=y) (hco:CoeL σ.hp [] false args As) (hd:σ.hp d=.gone)
    (hk:∀ n ps v',F n ps→K (St.put ⟨σ.tm,upd σ.hp d (.row v' 1 true (rwp ps))⟩ (some d) (.st [iv n,.own d v']))):wpCall P false σ g As (some d) s K:=by
  refine call_sh h hco (fun e=>by cases e) ?_
  rintro outs rows res ⟨rfl,n,w,ps,hf,rfl,rfl⟩
  refine ⟨rfl,by simp,by rw [Option.getD_some,yzh];exact hd,?_⟩
  rw [Option.getD_some,yz5]
  simp only [yzo,renL_rwp,ren_st,yzg,yzr,yzx,List.length_singleton,yz3]
  exact hk n _ _ (hF n ps _ hs hf)
theorem call_lo2 {P:Program} {F:Int→List (Nat×List Int)→Prop} (hF:FRen F) {σ:St} {g:FuncId} {As args:List AVal} {d:Nat} {s:Nat→Nat} {K:St→Prop} {r v:Nat} {code:List Int} {a s0 k:Int}
    (h:Con P g [.box 0 (srcC code a s0)] (.ptr 5000 0 0 :: args) true fun outs rows res=>∃ n ps v w xs a' s',F n ps∧a≤a'∧a'≤a+k∧outs=[.box 0 (srcC code a' s')]∧rows=[.row v 1 true (rwp ps),.row w 1 true (ints xs)]∧res=.tup [.st [iv n,.own 6000 v],.own 6001 w])
    (hr:σ.hp r=.box v (srcC code a s0)) (hs:∀ x y,s x=s y→x=y) (hv:∀ y,s y≠v) (hco:CoeL σ.hp [r] false args As) (hd:σ.hp d=.gone) (hd2:σ.hp (d+1000)=.gone)
    (hk:∀ n ps v' w' xs a' s',F n ps→a≤a'→a'≤a+k→K (St.put ⟨σ.tm,upd (upd (upd σ.hp r (.box v (srcC code a' s'))) d (.row v' 1 true (rwp ps))) (d+1000) (.row w' 1 true (ints xs))⟩ (some d) (.tup [.st [iv n,.own d v'],.own (d+1000) w']))):wpCall P false σ g (.ptr r v 0 :: As) (some d) s K:=by
  have hne:d≠r:=fun e=>by rw [e,hr] at hd;cases hd
  have hne2:d+1000≠r:=fun e=>by rw [e,hr] at hd2;cases hd2
  refine call_con (r:=r) h hr (by simp only [Bool.not_true,rowIs,boxIs,coe_argN,yz19,coe_ro_o,yz18,yzw,coe_any,coe_val,coe_ro,yz15,yz16,coe_st,yz14,coe_rp,yz17,coe_clo,coe_own0,coe_ptr0,yz10,coeL_rws,yz1a,L_hit,L_miss,L_nil,xx3,ne_eq,reduceCtorEq,not_false_eq_true,true_and,and_true,and_self,exists_eq_left,exists_eq_right,List.mem_cons,List.not_mem_nil,or_false,AObj.row.injEq,AObj.box.injEq,exists_eq_left',exists_and_left,exists_eq,Nat.zero_lt_one,Nat.lt_add_one,List.map_cons,List.map_nil,AObj.ver,xx5,not_true_eq_false]) (by rw [Bool.not_true,yzw,coe_ptr0,hr];exact ⟨rfl,hco⟩) ?_
  rintro outs rows res ⟨n,ps,w,w2,xs,a',s',hf,h1,h2,rfl,rfl,rfl⟩
  refine ⟨rfl,by simp,by rw [Option.getD_some,yzq];exact ⟨hd,hd2⟩,?_⟩
  rw [Option.getD_some,callHp_mrr hne hne2]
  have hi:=sv_inj (hp:=σ.hp) (r:=r) hr hs hv
  have h0:sv σ.hp [r] s 0=v:=sv_m hr
  have e2:([AObj.row w 1 true (rwp ps),AObj.row w2 1 true (ints xs)]:List AObj).length=2:=rfl
  simp only [yzp,yzo,renL_rwp,renL_flat _ flat_srcC,ren_st,yzz,yzg,yzr,yz4,yzx,e2,yz3,yz7,h0]
  exact hk n _ _ _ xs a' s' (hF n ps _ hi hf) h1 h2
def FAut (m:Int) (n:Int) (ps:List (Nat×List Int)):Prop:=Aut n (ps.map (·.2))∧DJ ps∧n≤m
def FLo (n:Int) (ps:List (Nat×List Int)):Prop:=(ps.length≤3→DJ ps)∧ps.length≤10∧-1≤n∧n≤11∧∀ p∈ps,p.2.length≤10
theorem map_named {ps:List (Nat×List Int)} {f:Nat→Nat}:(ps.map fun p=>(f p.1,p.2)).map (·.2)=ps.map (·.2):=by rw [List.map_map];rfl
theorem FAut_ren (m:Int):FRen (FAut m):=by
  rintro n ps f hf ⟨h1,h2,h3⟩
  exact ⟨by rw [map_named];exact h1,h2.ren hf,h3⟩
theorem FLo_ren:FRen FLo:=by
  rintro n ps f hf ⟨h1,h2,h3,h4,h5⟩
  refine ⟨fun h=>(h1 (by simpa using h)).ren hf,by simpa using h2,h3,h4,fun p hp=>?_⟩
  obtain ⟨q,hq,rfl⟩:=List.mem_map.1 hp
  exact h5 q hq
theorem FAut.lo {m n:Int} {ps:List (Nat×List Int)} (h:FAut m n ps):FLo n ps:=by
  obtain ⟨A,hd,hm⟩:=h
  have n1:=A.n1
  have n2:=A.n2
  have l2:=A.l2
  rw [List.length_map] at l2
  exact ⟨fun _=>hd,by omega,by omega,by omega,fun p hp=>by have:=(A.row p.2 (List.mem_map.2 ⟨p,hp,rfl⟩)).1;omega⟩
theorem DJ_refrozen {A2 C2:List (Nat×List Int)} {b:Nat×List Int} {m:Nat} {cur:List Int} (hd:DJ (A2 ++ b :: C2))
    (hf:∀ n k'' cs'',AVal.ro (some (some (n+1))) k'' cs''∈rwp A2 ++ AVal.own 901 m :: rwp C2→cs''≠[]→n≠m):DJ (A2 ++ (m,cur) :: C2):=DJ_in hd fun p hp=>by
  by_cases e:p.2=[]
  · exact .inl e
  · refine .inr (hf p.1 1 (ints p.2) ?_ (by simpa using e))
    rcases List.mem_append.1 hp with h | h
    · exact List.mem_append.2 (.inl (List.mem_map.2 ⟨p,h,rfl⟩))
    · exact List.mem_append.2 (.inr (List.mem_cons.2 (.inr (List.mem_map.2 ⟨p,h,rfl⟩))))
theorem Aut_put {n:Int} {A2 C2:List (Nat×List Int)} {b:Nat×List Int} {u:Nat} {cur:List Int} (A:Aut n ((A2 ++ b :: C2).map (·.2))) (hl:cur.length=b.2.length) (hm:∀ x∈cur,0≤x∧x<n):Aut n ((A2 ++ (u,cur) :: C2).map (·.2)):=by
  have l1:=A.l1
  have l2:=A.l2
  have hbr:=A.row b.2 (by simp)
  refine ⟨A.n1,A.n2,by rw [List.length_map] at l1 ⊢;simpa using l1,by rw [List.length_map] at l2 ⊢;simpa using l2,fun row hr=>?_⟩
  rw [List.map_append,List.map_cons,List.mem_append,List.mem_cons] at hr
  rcases hr with h | h | h
  · exact A.row row (by rw [List.map_append];exact List.mem_append.2 (.inl h))
  · rw [h];exact ⟨by dsimp only;omega,hm⟩
  · exact A.row row (by rw [List.map_append,List.map_cons];exact List.mem_append.2 (.inr (List.mem_cons_of_mem _ h)))
theorem k_l02Drawn (code:List Int) (at_ seed:Int) (hb:∀ x∈code,0≤x∧x≤255) (ha:0≤at_∧at_≤10000) :
    Con Try.prog nz3q [.box 0 (srcC code at_ seed)] [.ptr 5000 0 0] true fun outs rows res=>∃ n ps v a' s',FLo n ps∧at_≤a'∧a'≤at_+5000∧outs=[.box 0 (srcC code a' s')]∧rows=[.row v 1 true (rwp ps)]∧res=.st [iv n,.own 6000 v]:=by
  refine con_sh mixed czgt rfl (by simp) ?_
  generalize hQ:finQ _=Q
  simp only [Azh,Bzby,yzn,yz1,go_sem,yz0,xx9,xx8,xx6,xx7,xx5,xx0,xx1,xx2,reduceIte,xx3,xx4,reduceCtorEq]
  intro vs0 U0 hN0 vs1 U1 hN1
  refine call_funB (k_pick code at_ seed 6 hb (by omega)) rfl qCS qCS ?_
  rintro cs' x ⟨a1,s1,b1,rfl,g1,g2,rfl,g3,g4⟩
  by_cases k0:b1=0
  · subst k0
    simp only [Bz1a,Bz19,beq_self_eq_true,yzn,yz1,go_sem,yz0,xx9,xx8,xx6,xx7,xx5,xx0,xx1,xx2,reduceIte,xx3,xx4,reduceCtorEq]
    intro vs2 U2 hN2 vs3 U3 hN3
    refine call_funB (k_pick code a1 s1 6 hb (by omega)) rfl qCS qCS ?_
    rintro cs' x ⟨a2,s2,b2,rfl,g5,g6,rfl,g7,g8⟩
    have w1:IntKind.i64.wrap (2+b2)=2+b2:=w64 (by omega)
    simp only [w1,yzn,yz1,go_sem,yz0,xx9,xx8,xx6,xx7,xx5,xx0,xx1,xx2,reduceIte,xx3,xx4,reduceCtorEq]
    refine call_lo0 (FAut_ren 10) (Con.mono (k_l02SlowN (2+b2) (by omega)) ?_) (fun x y e=>(hN3.inj _ _ _ _ e).2) qCS qGN ?_
    · rintro outs rows res ⟨h1,v,ps,h2,h3,h4,h5⟩
      exact ⟨h1,_,v,ps,⟨h2,h3,by omega⟩,h4,h5⟩
    intro n ps v' hf
    simp only [← hQ,Azh,yzn,yz1,go_sem,yz0,xx9,xx8,xx6,xx7,xx5,xx0,xx1,xx2,reduceIte,xx3,xx4,reduceCtorEq]
    refine ⟨[14],by simp,by simp,by simp,?_⟩
    simp only [range1,List.length_singleton,renL_rwp,Nat.not_lt_zero,range1,yzx,yz13,ren_ro,rnNm_n,yz12,rnNm_o,rnNm_s,ren_st,yzz,yzr,yzg,yz4,yzv,yzt,yzp,yzo,yzs,yz8,yze,yzc,yzd,yzj,yzl,yz3,yz7,yzb,yza,yzk,yzm,List.range_zero,yz6,yz5,yz9,yzu,yzh,yzq,AVal.fresh,freshL,yz2,yzi,AObj.fresh,id,Option.isSome_some,or_true,true_or,go_sem,yz0,xx9,xx8,xx6,xx7,xx5,xx0,xx1,xx2,reduceIte,xx3,xx4,reduceCtorEq]
    exact ⟨n,ps,v',a2,s2,hf.lo,by omega,by omega,rfl,by simp,rfl⟩
  by_cases k1:b1=1
  · subst k1
    simp only [beq_false_of_ne (show (1:Int)≠0 by omega),Bz1a,Bz19,Bz2q,beq_self_eq_true,yzn,yz1,go_sem,yz0,xx9,xx8,xx6,xx7,xx5,xx0,xx1,xx2,reduceIte,xx3,xx4,reduceCtorEq]
    intro vs2 U2 hN2 vs3 U3 hN3 vs4 U4 hN4
    refine call_lo2 (k:=2000) (FAut_ren 10) (Con.mono (k_l01Alike code a1 s1 hb (by omega)) ?_) rfl (fun x y e=>(hN4.inj _ _ _ _ e).2) (hN4.box (r:=5000) rfl 1) qCS qGN qGN ?_
    · rintro outs rows res ⟨n,ps,v,w,xs,a',s',h1,h2,h3,h4,h5,h6⟩
      exact ⟨n,ps,v,w,xs,a',s',⟨h1,h2,by omega⟩,h4,h5,h6⟩
    intro n ps v' w' xs a2 s2 hf h1 h2
    simp only [yzn,yz1,go_sem,yz0,xx9,xx8,xx6,xx7,xx5,xx0,xx1,xx2,reduceIte,xx3,xx4,reduceCtorEq]
    simp only [Bzbu,← hQ,Azh,yzn,yz1,go_sem,yz0,xx9,xx8,xx6,xx7,xx5,xx0,xx1,xx2,reduceIte,xx3,xx4,reduceCtorEq]
    intro vs5 U5 hN5
    refine ⟨[19],by simp,by simp,by simp,?_⟩
    simp only [range1,List.length_singleton,renL_rwp,Nat.not_lt_zero,range1,yzx,yz13,ren_ro,rnNm_n,yz12,rnNm_o,rnNm_s,ren_st,yzz,yzr,yzg,yz4,yzv,yzt,yzp,yzo,yzs,yz8,yze,yzc,yzd,yzj,yzl,yz3,yz7,yzb,yza,yzk,yzm,List.range_zero,yz6,yz5,yz9,yzu,yzh,yzq,AVal.fresh,freshL,yz2,yzi,AObj.fresh,id,Option.isSome_some,or_true,true_or,go_sem,yz0,xx9,xx8,xx6,xx7,xx5,xx0,xx1,xx2,reduceIte,xx3,xx4,reduceCtorEq]
    exact ⟨n,ps,v',a2,s2,hf.lo,by omega,by omega,rfl,by simp,rfl⟩
  by_cases k2:b1=2
  · subst k2
    simp only [beq_false_of_ne (show (2:Int)≠0 by omega),beq_false_of_ne (show (2:Int)≠1 by omega),Bz1a,Bz19,Bz2q,Bz61,beq_self_eq_true,yzn,yz1,go_sem,yz0,xx9,xx8,xx6,xx7,xx5,xx0,xx1,xx2,reduceIte,xx3,xx4,reduceCtorEq]
    intro vs2 U2 hN2 vs3 U3 hN3 vs4 U4 hN4 vs5 U5 hN5
    refine call_lo (k:=3000) FLo_ren (Con.mono (k_l01Bent code a1 s1 hb (by omega)) ?_) rfl (fun x y e=>(hN5.inj _ _ _ _ e).2) (hN5.box (r:=5000) rfl 1) qCS qGN ?_
    · rintro outs rows res ⟨n,ps,v,a',s',h1,h2,h3,h4,h5,h6⟩
      exact ⟨n,ps,v,a',s',⟨h1,h2,h3,h4,h5⟩,h6⟩
    intro n ps v' a2 s2 hf h1 h2
    simp only [← hQ,Azh,yzn,yz1,go_sem,yz0,xx9,xx8,xx6,xx7,xx5,xx0,xx1,xx2,reduceIte,xx3,xx4,reduceCtorEq]
    refine ⟨[26],by simp,by simp,by simp,?_⟩
    simp only [range1,List.length_singleton,renL_rwp,Nat.not_lt_zero,range1,yzx,yz13,ren_ro,rnNm_n,yz12,rnNm_o,rnNm_s,ren_st,yzz,yzr,yzg,yz4,yzv,yzt,yzp,yzo,yzs,yz8,yze,yzc,yzd,yzj,yzl,yz3,yz7,yzb,yza,yzk,yzm,List.range_zero,yz6,yz5,yz9,yzu,yzh,yzq,AVal.fresh,freshL,yz2,yzi,AObj.fresh,id,Option.isSome_some,or_true,true_or,go_sem,yz0,xx9,xx8,xx6,xx7,xx5,xx0,xx1,xx2,reduceIte,xx3,xx4,reduceCtorEq]
    exact ⟨n,ps,v',a2,s2,hf,by omega,by omega,rfl,by simp,rfl⟩
  simp only [beq_false_of_ne k0,beq_false_of_ne k1,beq_false_of_ne k2,Bz1a,Bz19,Bz2q,Bz61,Bzbx,yzn,yz1,go_sem,yz0,xx9,xx8,xx6,xx7,xx5,xx0,xx1,xx2,reduceIte,xx3,xx4,reduceCtorEq]
  intro vs2 U2 hN2 vs3 U3 hN3 vs4 U4 hN4 vs5 U5 hN5
  refine call_lo (k:=1000) (FAut_ren 6) (Con.mono (k_DrawnN code a1 s1 6 hb (by omega) (by omega)) ?_) rfl (fun x y e=>(hN5.inj _ _ _ _ e).2) (hN5.box (r:=5000) rfl 1) qCS qGN ?_
  · rintro outs rows res ⟨n,ps,v,a',s',h1,h2,h3,h4,h5,h6⟩
    exact ⟨n,ps,v,a',s',⟨h1,h2,h3⟩,h4,h5,h6⟩
  intro n ps v' a2 s2 hf h1 h2
  simp only [Bzbw,yzn,yz1,go_sem,yz0,xx9,xx8,xx6,xx7,xx5,xx0,xx1,xx2,reduceIte,xx3,xx4,reduceCtorEq]
  intro vs6 U6 hN6
  refine call_funB (k_one code a2 s2 2 hb (by omega)) rfl qCS qCS ?_
  rintro cs' x ⟨a3,s3,b3,rfl,g5,g6,rfl⟩
  obtain ⟨A,hdj,hn6⟩:=hf
  have l1:=A.l1
  have l2:=A.l2
  have n1:=A.n1
  have n2:=A.n2
  rw [List.length_map] at l1 l2
  have hend:∀ (σ:St) (v2 v5:Nat) (ps:List (Nat×List Int)) (a s:Int),FLo n ps→at_≤a∧a≤at_+5000 →
      σ.keep [2,5] [2,3,5,14,19,26,28,1019,5000,901]=⟨L .any [(2,.ptr 2 v2 0),(5,.ptr 5 v5 0)],
        L .gone [(2,.box v2 [iv 0,.val (.slice none 0 0)]),(3,.gone),(5,.box v5 [iv n,.own 28 v']),(14,.gone),(19,.gone),(26,.gone),(28,.row v' 1 true (rwp ps)),(1019,.gone),(5000,.box 0 (srcC code a s)),(901,.gone)]⟩ →
      wpD Try.prog Bz2r Q σ:=by
    intro σ v2 v5 ps a s hf ha' hS
    unfold Bz2r
    rw [yzn,hS]
    simp only [wpD_gh]
    intro _
    refine ⟨[],?_⟩
    simp only [gwp_nil,yzn,yz1,go_sem,yz0,xx9,xx8,xx6,xx7,xx5,xx0,xx1,xx2,reduceIte,xx3,xx4,reduceCtorEq]
    intro vs U hN
    simp only [← hQ,Azh,go_sem,yz0,xx9,xx8,xx6,xx7,xx5,xx0,xx1,xx2,reduceIte,xx3,xx4,reduceCtorEq]
    refine ⟨[28],by simp,by simp,by simp,?_⟩
    simp only [range1,List.length_singleton,renL_rwp,Nat.not_lt_zero,range1,yzx,yz13,ren_ro,rnNm_n,yz12,rnNm_o,rnNm_s,ren_st,yzz,yzr,yzg,yz4,yzv,yzt,yzp,yzo,yzs,yz8,yze,yzc,yzd,yzj,yzl,yz3,yz7,yzb,yza,yzk,yzm,List.range_zero,yz6,yz5,yz9,yzu,yzh,yzq,AVal.fresh,freshL,yz2,yzi,AObj.fresh,id,Option.isSome_some,or_true,true_or,go_sem,yz0,xx9,xx8,xx6,xx7,xx5,xx0,xx1,xx2,reduceIte,xx3,xx4,reduceCtorEq]
    exact ⟨n,ps,v',a,s,hf,ha'.1,ha'.2,rfl,by simp,rfl⟩
  cases b3 with
  | false =>
    simp only [Bz62,yzn,yz1,go_sem,yz0,xx9,xx8,xx6,xx7,xx5,xx0,xx1,xx2,reduceIte,xx3,xx4,reduceCtorEq]
    exact hend _ (vs0 0 0) (vs5 2 0) ps a3 s3 (FAut.lo ⟨A,hdj,hn6⟩) (by omega) (by simp only [go_sem,yz0,xx9,xx8,xx6,xx7,xx5,xx0,xx1,xx2,reduceIte,xx3,xx4,reduceCtorEq];try rfl)
  | true =>
    simp only [Bz62,rwp_len,yzn,yz1,go_sem,yz0,xx9,xx8,xx6,xx7,xx5,xx0,xx1,xx2,reduceIte,xx3,xx4,reduceCtorEq]
    intro vs7 U7 hN7 hM7
    refine call_funB (k_pick code a3 s3 ps.length hb (by omega)) rfl qCS qCS ?_
    rintro cs' x ⟨a4,s4,x0,rfl,g7,g8,rfl,g9,g10⟩
    have hat:x0.toNat<ps.length:=by omega
    obtain ⟨A2,b,C2,rfl,hAk⟩:=rwp_split hat
    have hbr:=A.row b.2 (by simp)
    have hbn:b.2≠[]:=fun e=>by rw [e] at hbr;simp at hbr;omega
    have F0a:=DJ_out hdj hbn
    simp only [Bzbv,yzn,wpD_gh,go_sem,yz0,xx9,xx8,xx6,xx7,xx5,xx0,xx1,xx2,reduceIte,xx3,xx4,reduceCtorEq]
    intro _
    refine ⟨[.thaw 28 x0.toNat 901],gwp_thaw (n:=b.1) rfl (rwp_get hAk.symm) (by simpa using hbn) rfl fun m1=>?_⟩
    have hset:(woL b.1 (rwp (A2 ++ b :: C2))).set x0.toNat (AVal.own 901 m1)=rwp A2 ++ AVal.own 901 m1 :: rwp C2:=by rw [← hAk];exact woL_set F0a
    have ho1:(rwp A2 ++ AVal.own 901 m1 :: rwp C2).getD x0.toNat .any=.own 901 m1:=own_at hAk.symm
    have hol:(rwp A2 ++ AVal.own 901 m1 :: rwp C2).length=A2.length+(C2.length+1):=by rw [List.length_append,List.length_cons,rwp_len,rwp_len]
    have hkl:x0.toNat<(rwp A2 ++ AVal.own 901 m1 :: rwp C2).length:=by omega
    simp only [hset,woT,woO,woL_cons,woL_nil,woV_val,woV_own,wo_ptr,wo_o,woL_ints,wo_st,woO_row,woO_box,woO_gone,wo_any,gwp_nil,yzn,yz1,go_sem,yz0,xx9,xx8,xx6,xx7,xx5,xx0,xx1,xx2,reduceIte,xx3,xx4,reduceCtorEq]
    intro vs8 U8 hN8
    simp only [ho1,go_sem,yz0,xx9,xx8,xx6,xx7,xx5,xx0,xx1,xx2,reduceIte,xx3,xx4,reduceCtorEq]
    refine ⟨⟨g9,hkl⟩,hkl,?_⟩
    refine call_funBN (k_pick code a4 s4 n hb (by omega)) rfl (by simp) qCS qCS ⟨srcC code a4 0,.int .i64 0,⟨a4,0,0,rfl,by omega,by omega,rfl,by omega,.inr rfl⟩,flat_srcC⟩ ?_
    rintro cs' x ⟨a5,s5,y1,rfl,p1,p2,rfl,p3,p4⟩
    have hy1:y1.toNat<b.2.length:=by omega
    simp only [ho1,yzn,yz1,go_sem,yz0,xx9,xx8,xx6,xx7,xx5,xx0,xx1,xx2,reduceIte,xx3,xx4,reduceCtorEq]
    refine ⟨⟨g9,hkl⟩,hkl,?_⟩
    refine call_funBN (k_pick code a5 s5 n hb (by omega)) rfl (by simp) qCS qCS ⟨srcC code a5 0,.int .i64 0,⟨a5,0,0,rfl,by omega,by omega,rfl,by omega,.inr rfl⟩,flat_srcC⟩ ?_
    rintro cs' x ⟨a6,s6,y2,rfl,p5,p6,rfl,p7,p8⟩
    have hy2:y2.toNat<b.2.length:=by omega
    simp only [yzf hy2,yzn,yz1,go_sem,yz0,xx9,xx8,xx6,xx7,xx5,xx0,xx1,xx2,reduceIte,xx3,xx4,reduceCtorEq]
    refine ⟨⟨p7,hy2⟩,hy2,⟨p3,hy1⟩,hy1,?_⟩
    have hcl:=lput_len (xs:=b.2) (v:=b.2.getD y2.toNat 0) hy1
    have hcm:=lput_mem (xs:=b.2) (i:=y1.toNat) (v:=b.2.getD y2.toNat 0) (Q:=fun z=>0≤z∧z<n) hbr.2 (hbr.2 _ (yzy hy2 0))
    simp only [ints_put]
    generalize hcu:b.2.take y1.toNat ++ [b.2.getD y2.toNat 0] ++ b.2.drop (y1.toNat+1)=cur at hcl hcm ⊢
    simp only [Bz2r,yzn,wpD_gh,go_sem,yz0,xx9,xx8,xx6,xx7,xx5,xx0,xx1,xx2,reduceIte,xx3,xx4,reduceCtorEq]
    intro hD
    refine ⟨[.rf 28 x0.toNat 901],gwp_rf (k:=1) (nn:=true) rfl (own_get hAk.symm) (by decide) rfl fun hf=>?_⟩
    have D1:=DJ_refrozen hdj hf (cur:=cur)
    have A1:=Aut_put A (u:=m1) hcl hcm
    have hset4:∀ X:AVal,(rwp A2 ++ AVal.own 901 m1 :: rwp C2).set x0.toNat X=rwp A2 ++ X :: rwp C2:=fun X=>by
      rw [← hAk,List.set_append_right _ _ (by rw [rwp_len];exact Nat.le_refl _),rwp_len,Nat.sub_self];rfl
    simp only [hset4,frNm_t,rwp_cat,gwp_nil,yzn,yz1,go_sem,yz0,xx9,xx8,xx6,xx7,xx5,xx0,xx1,xx2,reduceIte,xx3,xx4,reduceCtorEq]
    intro vs9 U9 hN9
    simp only [← hQ,Azh,go_sem,yz0,xx9,xx8,xx6,xx7,xx5,xx0,xx1,xx2,reduceIte,xx3,xx4,reduceCtorEq]
    refine ⟨[28],by simp,by simp,by simp,?_⟩
    simp only [range1,List.length_singleton,renL_rwp,Nat.not_lt_zero,range1,yzx,yz13,ren_ro,rnNm_n,yz12,rnNm_o,rnNm_s,ren_st,yzz,yzr,yzg,yz4,yzv,yzt,yzp,yzo,yzs,yz8,yze,yzc,yzd,yzj,yzl,yz3,yz7,yzb,yza,yzk,yzm,List.range_zero,yz6,yz5,yz9,yzu,yzh,yzq,AVal.fresh,freshL,yz2,yzi,AObj.fresh,id,Option.isSome_some,or_true,true_or,go_sem,yz0,xx9,xx8,xx6,xx7,xx5,xx0,xx1,xx2,reduceIte,xx3,xx4,reduceCtorEq]
    exact ⟨n,A2 ++ (m1,cur) :: C2,v',a6,s6,FAut.lo ⟨A1,D1,hn6⟩,by omega,by omega,rfl,by simp,rfl⟩
theorem k_l03Linked (code:List Int) (at_ seed:Int) (hb:∀ x∈code,0≤x∧x≤255) (ha:0≤at_∧at_≤1000) :
    Con Try.prog nz1h [.box 0 (srcC code at_ seed)] [.ptr 5000 0 0] true fun outs rows res=>∃ n ps v a' s',FLo n ps∧at_≤a'∧a'≤at_+6000∧outs=[.box 0 (srcC code a' s')]∧rows=[.row v 1 true (rwp ps)]∧res=.st [iv n,.own 6000 v]:=by
  refine con_sh mixed czgc rfl (by simp) ?_
  generalize hQ:finQ _=Q
  simp only [Az2g,Bz9w,yzn,yz1,go_sem,yz0,xx9,xx8,xx6,xx7,xx5,xx0,xx1,xx2,reduceIte,xx3,xx4,reduceCtorEq]
  intro vs0 U0 hN0 vs1 U1 hN1
  refine call_lo (k:=5000) FLo_ren (k_l02Drawn code at_ seed hb (by omega)) rfl (fun x y e=>(hN1.inj _ _ _ _ e).2) (hN1.box (r:=5000) rfl 1) qCS qGN ?_
  intro n ps v' a1 s1 hf h1 h2
  have hend:∀ (σ:St) (v2 v3:Nat) (a s:Int),at_≤a∧a≤at_+6000 →
      σ.keep [2,3] [2,3,6,5000,901]=⟨L .any [(2,.ptr 2 v2 0),(3,.ptr 3 v3 0)],
        L .gone [(2,.box v2 [iv 0,.val (.slice none 0 0)]),(3,.box v3 [iv n,.own 6 v']),(6,.row v' 1 true (rwp ps)),(5000,.box 0 (srcC code a s)),(901,.gone)]⟩ →
      wpD Try.prog Bz2f Q σ:=by
    intro σ v2 v3 a s ha' hS
    unfold Bz2f
    rw [yzn,hS]
    simp only [wpD_gh]
    intro _
    refine ⟨[],?_⟩
    simp only [gwp_nil,yzn,yz1,go_sem,yz0,xx9,xx8,xx6,xx7,xx5,xx0,xx1,xx2,reduceIte,xx3,xx4,reduceCtorEq]
    intro vs U hN
    simp only [← hQ,Az2g,go_sem,yz0,xx9,xx8,xx6,xx7,xx5,xx0,xx1,xx2,reduceIte,xx3,xx4,reduceCtorEq]
    refine ⟨[6],by simp,by simp,by simp,?_⟩
    simp only [range1,List.length_singleton,renL_rwp,Nat.not_lt_zero,range1,yzx,yz13,ren_ro,rnNm_n,yz12,rnNm_o,rnNm_s,ren_st,yzz,yzr,yzg,yz4,yzv,yzt,yzp,yzo,yzs,yz8,yze,yzc,yzd,yzj,yzl,yz3,yz7,yzb,yza,yzk,yzm,List.range_zero,yz6,yz5,yz9,yzu,yzh,yzq,AVal.fresh,freshL,yz2,yzi,AObj.fresh,id,Option.isSome_some,or_true,true_or,go_sem,yz0,xx9,xx8,xx6,xx7,xx5,xx0,xx1,xx2,reduceIte,xx3,xx4,reduceCtorEq]
    exact ⟨n,ps,v',a,s,hf,ha'.1,ha'.2,rfl,by simp,rfl⟩
  simp only [Bz9v,yzn,yz1,go_sem,yz0,xx9,xx8,xx6,xx7,xx5,xx0,xx1,xx2,reduceIte,xx3,xx4,reduceCtorEq]
  intro vs2 U2 hN2
  refine yz11 (k_l01Ok n (ps.map (·.2))) (by simp only [coeL_rwp_t,rowIs,boxIs,coe_argN,yz19,coe_ro_o,yz18,yzw,coe_any,coe_val,coe_ro,yz15,yz16,coe_st,yz14,coe_rp,yz17,coe_clo,coe_own0,coe_ptr0,yz10,coeL_rws,yz1a,L_hit,L_miss,L_nil,xx3,ne_eq,reduceCtorEq,not_false_eq_true,true_and,and_true,and_self,exists_eq_left,exists_eq_right,List.mem_cons,List.not_mem_nil,or_false,AObj.row.injEq,AObj.box.injEq,exists_eq_left',exists_and_left,exists_eq,Nat.zero_lt_one,Nat.lt_add_one,List.map_cons,List.map_nil,AObj.ver,xx5,not_true_eq_false]) trivial ?_
  cases hA:autB n (ps.map (·.2)) with
  | false =>
    simp only [Bz2e,yzn,yz1,go_sem,yz0,xx9,xx8,xx6,xx7,xx5,xx0,xx1,xx2,reduceIte,xx3,xx4,reduceCtorEq]
    exact hend _ (vs0 0 0) (vs1 2 0) a1 s1 (by omega) (by simp only [go_sem,yz0,xx9,xx8,xx6,xx7,xx5,xx0,xx1,xx2,reduceIte,xx3,xx4,reduceCtorEq];try rfl)
  | true =>
    have A:=autB_iff.1 hA
    have n1:=A.n1
    have n2:=A.n2
    have l1:=A.l1
    have l2:=A.l2
    rw [List.length_map] at l1 l2
    have hdj:DJ ps:=hf.1 l2
    simp only [yzn,yz1,go_sem,yz0,xx9,xx8,xx6,xx7,xx5,xx0,xx1,xx2,reduceIte,xx3,xx4,reduceCtorEq]
    refine call_funB (k_one code a1 s1 4 hb (by omega)) rfl qCS qCS ?_
    rintro cs' x ⟨a2,s2,b2,rfl,g1,g2,rfl⟩
    cases b2 with
    | true =>
      simp only [Bz2e,Bool.not_true,yzn,yz1,go_sem,yz0,xx9,xx8,xx6,xx7,xx5,xx0,xx1,xx2,reduceIte,xx3,xx4,reduceCtorEq]
      exact hend _ (vs0 0 0) (vs1 2 0) a2 s2 (by omega) (by simp only [go_sem,yz0,xx9,xx8,xx6,xx7,xx5,xx0,xx1,xx2,reduceIte,xx3,xx4,reduceCtorEq];try rfl)
    | false =>
      obtain ⟨A2,b,C2,rfl,hAk⟩:=rwp_split (show 0<ps.length by omega)
      have hbr:=A.row b.2 (by simp)
      have hbn:b.2≠[]:=fun e=>by rw [e] at hbr;simp at hbr;omega
      have F0a:=DJ_out hdj hbn
      simp only [Bz2e,Bool.not_false,yzn,yz1,go_sem,yz0,xx9,xx8,xx6,xx7,xx5,xx0,xx1,xx2,reduceIte,xx3,xx4,reduceCtorEq]
      intro vs3 U3 hN3
      simp only [Bz9u,yzn,wpD_gh,go_sem,yz0,xx9,xx8,xx6,xx7,xx5,xx0,xx1,xx2,reduceIte,xx3,xx4,reduceCtorEq]
      intro _
      refine ⟨[.thaw 6 0 901],gwp_thaw (n:=b.1) rfl (rwp_get hAk.symm) (by simpa using hbn) rfl fun m1=>?_⟩
      have hset:(woL b.1 (rwp (A2 ++ b :: C2))).set 0 (AVal.own 901 m1)=rwp A2 ++ AVal.own 901 m1 :: rwp C2:=by rw [← hAk];exact woL_set F0a
      have ho1:(rwp A2 ++ AVal.own 901 m1 :: rwp C2).getD 0 .any=.own 901 m1:=own_at hAk.symm
      have hol:(rwp A2 ++ AVal.own 901 m1 :: rwp C2).length=A2.length+(C2.length+1):=by rw [List.length_append,List.length_cons,rwp_len,rwp_len]
      have hkl:0<(rwp A2 ++ AVal.own 901 m1 :: rwp C2).length:=by omega
      simp only [hset,woT,woO,woL_cons,woL_nil,woV_val,woV_own,wo_ptr,wo_o,woL_ints,wo_st,woO_row,woO_box,woO_gone,wo_any,gwp_nil,yzn,yz1,go_sem,yz0,xx9,xx8,xx6,xx7,xx5,xx0,xx1,xx2,reduceIte,xx3,xx4,reduceCtorEq]
      refine wpD_lp (fun (x:Nat×List Int)=>n.toNat - x.1) (fun x=>(x.1:Int)≤n∧x.2.length=b.2.length∧∀ z∈x.2,0≤z∧z<n)
        (fun (x:Nat×List Int)=>⟨L .any [(2,.ptr 2 (vs0 0 0) 0),(3,.ptr 3 (vs1 2 0) 0),(4,iv x.1)],
          L .gone [(2,.box (vs0 0 0) [iv 0,.val (.slice none 0 0)]),(3,.box (vs1 2 0) [iv n,.own 6 v']),(6,.row v' 1 true (rwp A2 ++ .own 901 m1 :: rwp C2)),(5000,.box 0 (srcC code a2 s2)),(901,.row m1 1 true (ints x.2))]⟩)
        (0,b.2) ⟨by simp;omega,rfl,hbr.2⟩ (by simp only [Bz2d,go_sem,yz0,xx9,xx8,xx6,xx7,xx5,xx0,xx1,xx2,reduceIte,xx3,xx4,reduceCtorEq];try rfl) ?_
      rintro ⟨i,cur⟩ ⟨h3,h4,h5⟩
      have h3:(i:Int)≤n:=h3
      have h4:cur.length=b.2.length:=h4
      have h5:∀ z∈cur,0≤z∧z<n:=h5
      by_cases hlt:(i:Int)<n
      · have w1:IntKind.i64.wrap ((i:Int)+1)=((i+1:Nat):Int):=by rw [w64 (by omega)];simp
        have hn0:¬ n=0:=by omega
        have hil:i<cur.length:=by omega
        have t1:=tmod_in (a:=((i+1:Nat):Int)) (n:=n) (by omega) (by omega)
        simp only [Bz2d,Bz4u,Bz9t,decide_eq_true hlt,yzn,yz1,go_sem,yz0,xx9,xx8,xx6,xx7,xx5,xx0,xx1,xx2,reduceIte,xx3,xx4,reduceCtorEq]
        intro vs4 U4 hN4 vs5 U5 hN5
        simp only [ho1,w1,hn0,go_sem,yz0,xx9,xx8,xx6,xx7,xx5,xx0,xx1,xx2,reduceIte,xx3,xx4,reduceCtorEq]
        refine ⟨hkl,hkl,⟨by omega,hil⟩,by omega,?_⟩
        have hcl:=lput_len (xs:=cur) (v:=((i+1:Nat):Int).tmod n) hil
        have hcm:=lput_mem (xs:=cur) (i:=i) (v:=((i+1:Nat):Int).tmod n) (Q:=fun z=>0≤z∧z<n) h5 t1
        simp only [ints_put]
        generalize hcu:cur.take i ++ [((i+1:Nat):Int).tmod n] ++ cur.drop (i+1)=cur2 at hcl hcm ⊢
        simp only [Bz9s,w1,yzn,yz1,go_sem,yz0,xx9,xx8,xx6,xx7,xx5,xx0,xx1,xx2,reduceIte,xx3,xx4,reduceCtorEq]
        intro vs6 U6 hN6
        exact ⟨(i+1,cur2),by dsimp only;omega,⟨by dsimp only;omega,by dsimp only;omega,hcm⟩,rfl⟩
      · simp only [Bz2d,Bz4u,Bz2f,decide_eq_false hlt,yzn,yz1,wpD_gh,go_sem,yz0,xx9,xx8,xx6,xx7,xx5,xx0,xx1,xx2,reduceIte,xx3,xx4,reduceCtorEq]
        intro vs4 U4 hN4 hD
        refine ⟨[.rf 6 0 901],gwp_rf (k:=1) (nn:=true) rfl (own_get hAk.symm) (by decide) rfl fun hf2=>?_⟩
        have D1:=DJ_refrozen hdj hf2 (cur:=cur)
        have A1:=Aut_put A (u:=m1) h4 h5
        have hset4:∀ X:AVal,(rwp A2 ++ AVal.own 901 m1 :: rwp C2).set 0 X=rwp A2 ++ X :: rwp C2:=fun X=>by
          rw [← hAk,List.set_append_right _ _ (by rw [rwp_len];exact Nat.le_refl _),rwp_len,Nat.sub_self];rfl
        simp only [hset4,frNm_t,rwp_cat,gwp_nil,yzn,yz1,go_sem,yz0,xx9,xx8,xx6,xx7,xx5,xx0,xx1,xx2,reduceIte,xx3,xx4,reduceCtorEq]
        intro vs9 U9 hN9
        simp only [← hQ,Az2g,go_sem,yz0,xx9,xx8,xx6,xx7,xx5,xx0,xx1,xx2,reduceIte,xx3,xx4,reduceCtorEq]
        refine ⟨[6],by simp,by simp,by simp,?_⟩
        simp only [range1,List.length_singleton,renL_rwp,Nat.not_lt_zero,range1,yzx,yz13,ren_ro,rnNm_n,yz12,rnNm_o,rnNm_s,ren_st,yzz,yzr,yzg,yz4,yzv,yzt,yzp,yzo,yzs,yz8,yze,yzc,yzd,yzj,yzl,yz3,yz7,yzb,yza,yzk,yzm,List.range_zero,yz6,yz5,yz9,yzu,yzh,yzq,AVal.fresh,freshL,yz2,yzi,AObj.fresh,id,Option.isSome_some,or_true,true_or,go_sem,yz0,xx9,xx8,xx6,xx7,xx5,xx0,xx1,xx2,reduceIte,xx3,xx4,reduceCtorEq]
        exact ⟨n,A2 ++ (m1,cur) :: C2,v',a2,s2,FAut.lo (m:=10) ⟨A1,D1,by omega⟩,by omega,by omega,rfl,by simp,rfl⟩
theorem k_A2Automaton (code:List Int) (hb:∀ x∈code,0≤x∧x≤255) :
    Con Try.prog nz3d [] [.ro (some (some 0)) 1 (intsK .u8 code)] true fun outs rows res=>outs=[]∧∃ n next v,Aut n next∧n≤7∧rows=[.row v 1 true (rws next)]∧res=.st [iv n,.own 6000 v]:=by
  refine con_sh mixed czg1 rfl (by simp) ?_
  generalize hQ:finQ _=Q
  simp only [Azy,Bz8f,go_sem,yz0,xx9,xx8,xx6,xx7,xx5,xx0,xx1,xx2,reduceIte,xx3,xx4,reduceCtorEq]
  intro vs0 vs1
  refine call_sh (k_from code) qCS (fun e=>by cases e) ?_
  rintro outs rows res ⟨rfl,v,rfl,rfl⟩
  refine ⟨rfl,by simp,by rw [Option.getD_some,yzh];rfl,?_⟩
  simp only [Bz8e,Nat.not_lt_zero,range1,yzx,yz13,ren_ro,rnNm_n,yz12,rnNm_o,rnNm_s,ren_st,yzz,yzr,yzg,yz4,yzv,yzt,yzp,yzo,yzs,yz8,yze,yzc,yzd,yzj,yzl,yz3,yz7,yzb,yza,yzk,yzm,List.range_zero,yz6,yz5,yz9,yzu,yzh,yzq,AVal.fresh,freshL,yz2,yzi,AObj.fresh,id,Option.isSome_some,or_true,true_or,go_sem,yz0,xx9,xx8,xx6,xx7,xx5,xx0,xx1,xx2,reduceIte,xx3,xx4,reduceCtorEq]
  intro vs2
  have h:Con Try.prog nz1h [.box 0 (srcC code 0 0)] [.ptr 5000 0 0] true fun outs rows res=>∃ n next v a' s',outs=[.box 0 (srcC code a' s')]∧rows=[.row v 1 true (rws next)]∧res=.st [iv n,.own 6000 v]:=by
    refine Con.dnr (k_l03Linked code 0 0 hb (by omega)) ?_
    rintro o r x ⟨n,ps,v,a',s',hf,h1,h2,rfl,rfl,rfl⟩
    refine ⟨n,ps.map (·.2),v,a',s',?_,?_,?_⟩
    · simp only [List.map_cons,List.map_nil,AObj.dn,dnL,AVal.dn,dnL_ints,dnNm]
    · simp only [List.map_cons,List.map_nil,AObj.dn,dnL_rwp]
    · simp only [AVal.dn,dnL]
  refine call_con (r:=6) h rfl (by simp only [Bool.not_true,rowIs,boxIs,coe_argN,yz19,coe_ro_o,yz18,yzw,coe_any,coe_val,coe_ro,yz15,yz16,coe_st,yz14,coe_rp,yz17,coe_clo,coe_own0,coe_ptr0,yz10,coeL_rws,yz1a,L_hit,L_miss,L_nil,xx3,ne_eq,reduceCtorEq,not_false_eq_true,true_and,and_true,and_self,exists_eq_left,exists_eq_right,List.mem_cons,List.not_mem_nil,or_false,AObj.row.injEq,AObj.box.injEq,exists_eq_left',exists_and_left,exists_eq,Nat.zero_lt_one,Nat.lt_add_one,List.map_cons,List.map_nil,AObj.ver,xx5,not_true_eq_false]) (by simp only [Bool.not_true,rowIs,boxIs,coe_argN,yz19,coe_ro_o,yz18,yzw,coe_any,coe_val,coe_ro,yz15,yz16,coe_st,yz14,coe_rp,yz17,coe_clo,coe_own0,coe_ptr0,yz10,coeL_rws,yz1a,L_hit,L_miss,L_nil,xx3,ne_eq,reduceCtorEq,not_false_eq_true,true_and,and_true,and_self,exists_eq_left,exists_eq_right,List.mem_cons,List.not_mem_nil,or_false,AObj.row.injEq,AObj.box.injEq,exists_eq_left',exists_and_left,exists_eq,Nat.zero_lt_one,Nat.lt_add_one,List.map_cons,List.map_nil,AObj.ver,xx5,not_true_eq_false]) ?_
  rintro outs rows res ⟨n,next,v',a',s',rfl,rfl,rfl⟩
  refine ⟨rfl,by simp,by rw [Option.getD_some,yzh];simp only [go_sem,yz0,xx9,xx8,xx6,xx7,xx5,xx0,xx1,xx2,reduceIte,xx3,xx4,reduceCtorEq],?_⟩
  rw [Option.getD_some,callHp_mr (by omega)]
  have hslow:Con Try.prog nzo [] [iv 4] true fun outs rows res=>outs=[]∧∃ next v,Aut 4 next∧rows=[.row v 1 true (rws next)]∧res=.st [iv 4,.own 6000 v]:=by
    refine Con.dnr (k_l02SlowN 4 (by omega)) ?_
    rintro o r x ⟨rfl,v,ps,hA,hd,rfl,rfl⟩
    refine ⟨rfl,ps.map (·.2),v,hA,?_,?_⟩
    · simp only [List.map_cons,List.map_nil,AObj.dn,dnL_rwp]
    · simp only [AVal.dn,dnL]
  simp only [Bz8d,Nat.not_lt_zero,range1,yzx,yz13,ren_ro,rnNm_n,yz12,rnNm_o,rnNm_s,ren_st,yzz,yzr,yzg,yz4,yzv,yzt,yzp,yzo,yzs,yz8,yze,yzc,yzd,yzj,yzl,yz3,yz7,yzb,yza,yzk,yzm,List.range_zero,yz6,yz5,yz9,yzu,yzh,yzq,AVal.fresh,freshL,yz2,yzi,AObj.fresh,id,Option.isSome_some,or_true,true_or,go_sem,yz0,xx9,xx8,xx6,xx7,xx5,xx0,xx1,xx2,reduceIte,xx3,xx4,reduceCtorEq]
  intro vs3
  refine yz11 (k_l01Ok n next) qCS trivial ?_
  cases hA:autB n next with
  | false =>
    simp only [Bz23,Bz4e,go_sem,yz0,xx9,xx8,xx6,xx7,xx5,xx0,xx1,xx2,reduceIte,xx3,xx4,reduceCtorEq]
    intro vs5
    refine call_sh hslow qCS (fun e=>by cases e) ?_
    rintro outs rows res ⟨rfl,next2,v2,A2,rfl,rfl⟩
    refine ⟨rfl,by simp,by rw [Option.getD_some,yzh];simp only [go_sem,yz0,xx9,xx8,xx6,xx7,xx5,xx0,xx1,xx2,reduceIte,xx3,xx4,reduceCtorEq],?_⟩
    simp only [← hQ,Azy,dnL_rws,Nat.not_lt_zero,range1,yzx,yz13,ren_ro,rnNm_n,yz12,rnNm_o,rnNm_s,ren_st,yzz,yzr,yzg,yz4,yzv,yzt,yzp,yzo,yzs,yz8,yze,yzc,yzd,yzj,yzl,yz3,yz7,yzb,yza,yzk,yzm,List.range_zero,yz6,yz5,yz9,yzu,yzh,yzq,AVal.fresh,freshL,yz2,yzi,AObj.fresh,id,Option.isSome_some,or_true,true_or,go_sem,yz0,xx9,xx8,xx6,xx7,xx5,xx0,xx1,xx2,reduceIte,xx3,xx4,reduceCtorEq]
    refine ⟨[16],by simp,by simp,by simp,?_⟩
    simp only [Nat.not_lt_zero,range1,yzx,yz13,ren_ro,rnNm_n,yz12,rnNm_o,rnNm_s,ren_st,yzz,yzr,yzg,yz4,yzv,yzt,yzp,yzo,yzs,yz8,yze,yzc,yzd,yzj,yzl,yz3,yz7,yzb,yza,yzk,yzm,List.range_zero,yz6,yz5,yz9,yzu,yzh,yzq,AVal.fresh,freshL,yz2,yzi,AObj.fresh,id,Option.isSome_some,or_true,true_or,go_sem,yz0,xx9,xx8,xx6,xx7,xx5,xx0,xx1,xx2,reduceIte,xx3,xx4,reduceCtorEq]
    exact ⟨4,next2,_,A2,by omega,rfl,rfl⟩
  | true =>
    have A:=autB_iff.1 hA
    by_cases h7:n≤7
    · simp only [decide_eq_true h7,Bz23,← hQ,Azy,dnL_rws,go_sem,yz0,xx9,xx8,xx6,xx7,xx5,xx0,xx1,xx2,reduceIte,xx3,xx4,reduceCtorEq]
      refine ⟨[8],by simp,by simp,by simp,?_⟩
      simp only [Nat.not_lt_zero,range1,yzx,yz13,ren_ro,rnNm_n,yz12,rnNm_o,rnNm_s,ren_st,yzz,yzr,yzg,yz4,yzv,yzt,yzp,yzo,yzs,yz8,yze,yzc,yzd,yzj,yzl,yz3,yz7,yzb,yza,yzk,yzm,List.range_zero,yz6,yz5,yz9,yzu,yzh,yzq,AVal.fresh,freshL,yz2,yzi,AObj.fresh,id,Option.isSome_some,or_true,true_or,go_sem,yz0,xx9,xx8,xx6,xx7,xx5,xx0,xx1,xx2,reduceIte,xx3,xx4,reduceCtorEq]
      exact ⟨n,next,_,A,h7,rfl,rfl⟩
    · simp only [Bz23,Bz4e,decide_eq_false h7,go_sem,yz0,xx9,xx8,xx6,xx7,xx5,xx0,xx1,xx2,reduceIte,xx3,xx4,reduceCtorEq]
      intro vs5
      refine call_sh hslow qCS (fun e=>by cases e) ?_
      rintro outs rows res ⟨rfl,next2,v2,A2,rfl,rfl⟩
      refine ⟨rfl,by simp,by rw [Option.getD_some,yzh];simp only [go_sem,yz0,xx9,xx8,xx6,xx7,xx5,xx0,xx1,xx2,reduceIte,xx3,xx4,reduceCtorEq],?_⟩
      simp only [← hQ,Azy,dnL_rws,Nat.not_lt_zero,range1,yzx,yz13,ren_ro,rnNm_n,yz12,rnNm_o,rnNm_s,ren_st,yzz,yzr,yzg,yz4,yzv,yzt,yzp,yzo,yzs,yz8,yze,yzc,yzd,yzj,yzl,yz3,yz7,yzb,yza,yzk,yzm,List.range_zero,yz6,yz5,yz9,yzu,yzh,yzq,AVal.fresh,freshL,yz2,yzi,AObj.fresh,id,Option.isSome_some,or_true,true_or,go_sem,yz0,xx9,xx8,xx6,xx7,xx5,xx0,xx1,xx2,reduceIte,xx3,xx4,reduceCtorEq]
      refine ⟨[16],by simp,by simp,by simp,?_⟩
      simp only [Nat.not_lt_zero,range1,yzx,yz13,ren_ro,rnNm_n,yz12,rnNm_o,rnNm_s,ren_st,yzz,yzr,yzg,yz4,yzv,yzt,yzp,yzo,yzs,yz8,yze,yzc,yzd,yzj,yzl,yz3,yz7,yzb,yza,yzk,yzm,List.range_zero,yz6,yz5,yz9,yzu,yzh,yzq,AVal.fresh,freshL,yz2,yzi,AObj.fresh,id,Option.isSome_some,or_true,true_or,go_sem,yz0,xx9,xx8,xx6,xx7,xx5,xx0,xx1,xx2,reduceIte,xx3,xx4,reduceCtorEq]
      exact ⟨4,next2,_,A2,by omega,rfl,rfl⟩
end Go.Ab
namespace Go.Ab
structure ClS (n:Int) (next:List (List Int)) (set:List Int):Prop where
  rg:∀ x∈set,0≤x∧x<n
  cl:∀ x∈set,∀ row∈next,row.getD x.toNat 0∈set
theorem renR_len {set row:List Int}:(renR set row).length=set.length:=by simp [renR]
theorem Aut.rest {n:Int} {next:List (List Int)} {set:List Int} (A:Aut n next) (C:ClS n next set) (h0:1≤set.length) (h1:set.length≤10):Aut set.length (next.map (renR set)):=by
  have l1:=A.l1
  have l2:=A.l2
  refine ⟨by omega,by omega,by rw [List.length_map];omega,by rw [List.length_map];omega,?_⟩
  intro row hr
  obtain ⟨row,hr',rfl⟩:=List.mem_map.1 hr
  refine ⟨by rw [renR_len],fun x hx=>?_⟩
  obtain ⟨s,hs,rfl⟩:=List.mem_map.1 hx
  obtain ⟨i,h1,h2,h3⟩:=fidx_eq 0 (C.cl s hs row hr')
  simp only [h1,Nat.zero_add]
  omega
theorem actA_getD {n:Int} {next:List (List Int)} {w:List Int} {i:Nat} (h:(i:Int)<n):(actA n next w).getD i 0=atA next i w:=by
  rw [List.getD_eq_getElem?_getD,actA,List.getElem?_map,List.getElem?_range (by omega)];rfl
end Go.Ab
namespace Go.Ab
open Go.Proofs
theorem k_a2Map (xs:List Int) (n:Int) (h:∀ x∈xs,0≤x∧x<n) (hl:(xs.length:Int)=n):Fun Try.prog nz3k [.ro none 1 (ints xs),iv n] (bv true):=by
  refine fun_of mixed czg9 rfl ⟨rfl,trivial⟩ ?_
  simp only [Az9l,Bz9k,Bz9i,go_sem,yz0,xx9,xx8,xx6,xx7,xx5,xx0,xx1,xx2,reduceIte,xx3,xx4,reduceCtorEq]
  refine wpD_lo (fun i=>xs.length - i) (fun i=>i≤xs.length)
    (fun (i:Nat)=>⟨L .any [(0,.ro none 1 (ints xs)),(1,iv n),(5,iv i)],L .gone []⟩)
    0 (by simp) (by simp only [Bz2c,go_sem,yz0,xx9,xx8,xx6,xx7,xx5,xx0,xx1,xx2,reduceIte,xx3,xx4,reduceCtorEq];try rfl) ?_
  intro i hi
  by_cases hlt:(i:Int)<xs.length
  · have hlt1:i<xs.length:=by omega
    have hx:=h _ (yzy hlt1 0)
    have g1:¬ xs.getD i 0<0:=by omega
    have g2:¬ xs.getD i 0 ≥ n:=by omega
    simp only [Bz2c,Bz4t,Bz9h,yzf hlt1,decide_eq_true hlt,decide_eq_false g1,decide_eq_false g2,go_sem,yz0,xx9,xx8,xx6,xx7,xx5,xx0,xx1,xx2,reduceIte,xx3,xx4,reduceCtorEq]
    intro hM
    refine ⟨⟨by omega,hlt1⟩,hlt1,⟨by omega,hlt1⟩,hlt1,?_⟩
    simp only [Bz9f,Bz9g,nat1 i _ hlt1 hM,go_sem,yz0,xx9,xx8,xx6,xx7,xx5,xx0,xx1,xx2,reduceIte,xx3,xx4,reduceCtorEq]
    exact ⟨i+1,by omega,by omega,rfl⟩
  · have e1:((xs.length:Int) == n)=true:=by rw [hl];simp
    simp only [Bz2c,Bz4t,Bz9j,e1,decide_eq_false hlt,go_sem,yz0,xx9,xx8,xx6,xx7,xx5,xx0,xx1,xx2,reduceIte,xx3,xx4,reduceCtorEq]
end Go.Ab
