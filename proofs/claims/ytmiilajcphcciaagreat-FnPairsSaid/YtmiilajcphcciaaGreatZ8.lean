/- Contracts and what they lean on, part 8. Conditions: none. -/
import Derived.Tactics
import Derived.Tactics2
import Derived.Test.YtmiilajcphcciaaGreatZ7
set_option maxRecDepth 100000
set_option maxHeartbeats 4000000
set_option linter.all false
open Nat renaming reduceLeDiff → xx0, reduceMul → xx1, reduceSub → xx2, reduceEqDiff → xx3, reduceAdd → xx4, reduceLT → xx5
open Int renaming reduceToNat → xx6, reduceNeg → xx7, reduceLE → xx8, reduceLT → xx9
namespace Go.Ab
open Go.Proofs
abbrev keysF (L:TS):List Value:=L.map fun p=>Value.int .u64 (p.1:Int)
abbrev setsI (L:TS):List Int:=L.map fun p=>(p.1:Int)
theorem fkF_not {f:Nat}:∀ {L:TS} (i:Nat),hasT L f=false→findKeyAt (.int .u64 (f:Int)) (keysF L) i=some none
  | [],_,_=>rfl
  | p :: L,i,h=>by
    simp only [hasT,List.any_cons,Bool.or_eq_false_iff] at h
    have h1:((f:Int) == (p.1:Int))=false:=by
      have:p.1≠f:=fun e=>by rw [e,Nat.beq_refl] at h;cases h.1
      exact beq_false_of_ne fun e=>this (by omega)
    have h2:=fkF_not (f:=f) (L:=L) (i+1) h.2
    simp only [List.map_cons,findKeyAt,sameKey,h1,if_true]
    exact h2
theorem fkF_mem {f:Nat}:∀ {L:TS} (i:Nat),hasT L f=true→∃ j,findKeyAt (.int .u64 (f:Int)) (keysF L) i=some (some (i+j))∧j<L.length
  | [],_,h=>by cases h
  | p :: L,i,h=>by
    by_cases e:p.1=f
    · refine ⟨0,?_,by simp⟩
      have h1:((f:Int) == (p.1:Int))=true:=by rw [e];exact beq_self_eq_true _
      simp only [List.map_cons,findKeyAt,sameKey,h1,if_true,Nat.add_zero]
    · have h0:Nat.beq p.1 f=false:=by rw [← dec_beqN];exact decide_eq_false e
      simp only [hasT,List.any_cons,h0,Bool.false_or] at h
      have h1:((f:Int) == (p.1:Int))=false:=beq_false_of_ne fun e'=>e (by omega)
      obtain ⟨j,h2,h3⟩:=fkF_mem (f:=f) (L:=L) (i+1) h
      refine ⟨j+1,?_,by simp;omega⟩
      simp only [List.map_cons,findKeyAt,sameKey,h1,if_true]
      rw [h2];congr 2;omega
theorem fkF_at:∀ {L:TS} (i k:Nat),(L.map (·.1)).Nodup→i<L.length→findKeyAt (.int .u64 ((L.getD i (0,[])).1:Int)) (keysF L) k=some (some (k+i))
  | [],_,_,_,h=>by simp at h
  | p :: L,0,k,_,_=>by
    simp only [List.getD_cons_zero,List.map_cons,findKeyAt,sameKey,beq_self_eq_true,if_true,Nat.add_zero]
  | p :: L,i+1,k,hd,h=>by
    rw [List.map_cons,List.nodup_cons] at hd
    have hi:i<L.length:=by simpa using h
    have hm:=yzk hi (0,([]:List Int))
    have h1:(((L.getD i (0,[])).1:Int) == (p.1:Int))=false:=beq_false_of_ne fun e=>hd.1 (List.mem_map.2 ⟨_,hm,by omega⟩)
    have h2:=fkF_at (L:=L) i (k+1) hd.2 hi
    simp only [List.getD_cons_succ,List.map_cons,findKeyAt,sameKey,h1,if_true]
    rw [h2];congr 2;omega
theorem setsI_getD {L:TS} {i:Nat} (h:i<L.length):(setsI L).getD i 0=((L.getD i (0,[])).1:Int):=by
  rw [List.getD_eq_getElem?_getD,List.getElem?_map,List.getElem?_eq_getElem h,List.getD_eq_getElem?_getD,List.getElem?_eq_getElem h];rfl
theorem words_getD {L:TS} {i:Nat} (h:i<L.length):(L.map (·.2)).getD i []=(L.getD i (0,[])).2:=by
  rw [List.getD_eq_getElem?_getD,List.getElem?_map,List.getElem?_eq_getElem h,List.getD_eq_getElem?_getD,List.getElem?_eq_getElem h];rfl
theorem k_tour (n:Int) (next:List (List Int)) (A:Aut n next) (f:Nat) (hf:f<2 ^ n.toNat) :
    Fn Tryz.prog nz4d [autA n next,fv f] (fun rows res=>∃ v w,rows=[.row v 1 true (intsK .u64 (setsI (tourT next f))),.map w (keysF (tourT next f)) (rws ((tourT next f).map (·.2)))]∧res=.st [.own 6000 v,.mp 6001 w]):=by
  refine con_of mixed czn1 rfl (by simp) ?_
  have n1:=A.n1
  have n2:=A.n2
  have l2:=A.l2
  have hN:2 ^ n.toNat≤1024:=Nat.pow_le_pow_right (n:=2) (by omega) (show n.toNat≤10 by omega)
  have f0:∀ k:Value,findKeyAt k [] 0=some none:=fun _=>rfl
  generalize hQ:finQ _=Q
  simp only [Az7j,Bzhb,f0,go_sem,yz0,xx9,xx8,xx6,xx7,xx5,xx0,xx1,xx2,reduceIte,xx3,xx4,reduceCtorEq]
  intro vs vs2
  refine ⟨⟨_,rfl,rfl⟩,?_⟩
  simp only [Bzha,Bzh8,go_sem,yz0,xx9,xx8,xx6,xx7,xx5,xx0,xx1,xx2,reduceIte,xx3,xx4,reduceCtorEq]
  refine ⟨fun r v' e=>by cases e;exact ⟨_,_,_,rfl⟩,?_⟩
  refine wpD_lo (fun (_,_,_,i,_)=>1100 - i)
    (fun (_,_,_,i,L)=>TI n.toNat next.length L∧i≤List.length L∧runT next (1100 - i) i L=tourT next f)
    (fun ((v5,va,vm,i,L):Nat×Nat×Nat×Nat×TS)=>⟨Go.Ab.L .any [(2,.ptr 2 (vs 0 0) 0),(4,.ptr 4 (vs 1 0) 0),(5,.ptr 5 v5 0),(6,iv i)],
      Go.Ab.L .gone [(2,.box (vs 0 0) [iv n,.ro none 1 (rwn next)]),(4,.box (vs 1 0) [nilS,.val (.map none)]),(5,.box v5 [.own 13 va,.mp 14 vm]),(13,.row va 1 true (intsK .u64 (setsI L))),(14,.map vm (keysF L) (rws (L.map (·.2))))]⟩)
    (_,_,_,0,[(f,[])]) ⟨TI0 hf,by simp,rfl⟩ (by simp only [Bz30,go_sem,yz0,xx9,xx8,xx6,xx7,xx5,xx0,xx1,xx2,reduceIte,xx3,xx4,reduceCtorEq];try rfl) ?_
  rintro ⟨v5,va,vm,i,L⟩ ⟨hI,hi,hR⟩
  have hi:i≤L.length:=hi
  have hlen:=hI.len
  by_cases hlt:(i:Int)<L.length
  · have hlt1:i<L.length:=by omega
    have hls:i<(setsI L).length:=by simpa using hlt1
    have hm:=yzk hlt1 (0,([]:List Int))
    have hfi:=hI.rg _ hm
    have hwi:=hI.wd _ hm
    simp only [Bz30,Bz7d,Bzh7,yzl hls,setsI_getD hlt1,dnL_rws,decide_eq_true hlt,go_sem,yz0,xx9,xx8,xx6,xx7,xx5,xx0,xx1,xx2,reduceIte,xx3,xx4,reduceCtorEq]
    intro hM
    refine ⟨⟨by omega,hlt1⟩,hlt1,?_⟩
    simp only [Bzh5,go_sem,yz0,xx9,xx8,xx6,xx7,xx5,xx0,xx1,xx2,reduceIte,xx3,xx4,reduceCtorEq]
    intro vs3
    refine yzv (k_letters n next) qCS trivial ?_
    simp only [Bzh4,go_sem,yz0,xx9,xx8,xx6,xx7,xx5,xx0,xx1,xx2,reduceIte,xx3,xx4,reduceCtorEq]
    have hM2:=maxLen_le
    generalize hfw:L.getD i (0,[])=fw at hm hfi hwi ⊢
    refine wpD_lo (fun (_,_,_,x,_)=>next.length - x)
      (fun (_,_,_,x,L')=>x≤next.length∧L'=visT next fw.1 fw.2 x L)
      (fun ((v5,va,vm,x,L'):Nat×Nat×Nat×Nat×TS)=>⟨Go.Ab.L .any [(2,.ptr 2 (vs 0 0) 0),(4,.ptr 4 (vs 1 0) 0),(5,.ptr 5 v5 0),(6,iv i),(7,fv fw.1),(32,iv next.length),(33,iv x)],
        Go.Ab.L .gone [(2,.box (vs 0 0) [iv n,.ro none 1 (rwn next)]),(4,.box (vs 1 0) [nilS,.val (.map none)]),(5,.box v5 [.own 13 va,.mp 14 vm]),(13,.row va 1 true (intsK .u64 (setsI L'))),(14,.map vm (keysF L') (rws (L'.map (·.2))))]⟩)
      (_,_,_,0,L) ⟨by simp,rfl⟩ (by simp only [Bz2z,dnL_rws,go_sem,yz0,xx9,xx8,xx6,xx7,xx5,xx0,xx1,xx2,reduceIte,xx3,xx4,reduceCtorEq];try rfl) ?_
    rintro ⟨v5,va,vm,x,L'⟩ ⟨hx,rfl⟩
    have hx:x≤next.length:=hx
    obtain ⟨hI',t,hpre⟩:=visT_ok A hI hlt1 x hx
    rw [hfw] at hI' hpre
    generalize hV:visT next fw.1 fw.2 x L=L' at hI' hpre ⊢
    have hlen':=hI'.len
    have hi2:i<L'.length:=by rw [hpre,List.length_append];omega
    have hat:L'.getD i (0,[])=fw:=by rw [hpre,getD_app hlt1,hfw]
    by_cases hxl:(x:Int)<next.length
    · have hxl1:x<next.length:=by omega
      have hto:=stepN_lt A hxl1 hfi
      have w1:IntKind.i64.wrap ((x:Int)+1)=((x+1:Nat):Int):=by rw [w64 (by omega)];simp
      simp only [Bz2z,Bz7i,Bzh3,dnL_rws,decide_eq_true hxl,go_sem,yz0,xx9,xx8,xx6,xx7,xx5,xx0,xx1,xx2,reduceIte,xx3,xx4,reduceCtorEq]
      simp only [Bzh2,dnL_rws,go_sem,yz0,xx9,xx8,xx6,xx7,xx5,xx0,xx1,xx2,reduceIte,xx3,xx4,reduceCtorEq]
      intro vs4
      refine yzv (k_step n next A fw.1 x hfi hxl1) qCS trivial ?_
      have hsucc:=visT_succ (next:=next) (f:=fw.1) (w:=fw.2) (x:=x) (L:=L)
      rw [hV] at hsucc
      generalize stepN (next.getD x []) fw.1=to at hto hsucc ⊢
      cases hh:hasT L' to with
      | true =>
        rw [hh,if_pos rfl] at hsucc
        obtain ⟨j,hj1,hj2⟩:=fkF_mem 0 hh
        rw [Nat.zero_add] at hj1
        simp only [Bz7g,Bz7f,Bz7e,Bz7h,hj1,w1,dnL_rws,go_sem,yz0,xx9,xx8,xx6,xx7,xx5,xx0,xx1,xx2,reduceIte,xx3,xx4,reduceCtorEq]
        exact ⟨(_,_,_,x+1,_),by dsimp only;omega,⟨by dsimp only;omega,hsucc.symm⟩,rfl⟩
      | false =>
        rw [hh,if_neg (by simp)] at hsucc
        have hj1:=fkF_not 0 hh
        have hk:=fkF_at i 0 hI'.nd hi2
        rw [hat,Nat.zero_add] at hk
        have hwl:i<(L'.map (·.2)).length:=by simpa using hi2
        have hwg:=words_getD hi2
        rw [hat] at hwg
        simp only [Bz7g,Bz7f,Bz7e,hj1,hk,rws_getD hwl,hwg,dnL_rws,go_sem,yz0,xx9,xx8,xx6,xx7,xx5,xx0,xx1,xx2,reduceIte,xx3,xx4,reduceCtorEq]
        intro vs5
        refine call_rowI (k_Clone fw.2 (by omega)) qCS qGN ⟨_,rfl⟩ ?_
        rintro xs v7 rfl
        simp only [hj1,dnL_rws,go_sem,yz0,xx9,xx8,xx6,xx7,xx5,xx0,xx1,xx2,reduceIte,xx3,xx4,reduceCtorEq]
        refine ⟨⟨_,rfl,rfl⟩,by omega,⟨fun r v' e=>by cases e;exact ⟨_,_,_,rfl⟩,?_⟩⟩
        simp only [Bzh1,Bz7h,w1,dnL_rws,go_sem,yz0,xx9,xx8,xx6,xx7,xx5,xx0,xx1,xx2,reduceIte,xx3,xx4,reduceCtorEq]
        intro vs6
        exact ⟨⟨_,rfl,rfl⟩,by omega,(v5,vs6 4 0,vm,x+1,L' ++ [(to,fw.2 ++ [(x:Int)])]),by dsimp only;omega,⟨by dsimp only;omega,hsucc.symm⟩,by simp only [List.map_append,List.map_cons,List.map_nil]⟩
    · have:x=next.length:=by omega
      subst this
      simp only [Bz2z,Bz7i,Bzh6,dnL_rws,nat1 i _ hlt1 hM,decide_eq_false hxl,go_sem,yz0,xx9,xx8,xx6,xx7,xx5,xx0,xx1,xx2,reduceIte,xx3,xx4,reduceCtorEq]
      obtain ⟨F,hF⟩:∃ F,1100 - i=F+1:=⟨1099 - i,by omega⟩
      have hF2:1100 - (i+1)=F:=by omega
      rw [hF] at hR
      simp only [runT,if_pos hlt1,hfw,hV] at hR
      exact ⟨(_,_,_,i+1,L'),by dsimp only;omega,⟨hI',by dsimp only;omega,by dsimp only;rw [hF2];exact hR⟩,rfl⟩
  · have:i=L.length:=by omega
    subst this
    have hend:L=tourT next f:=by
      obtain ⟨F,hF⟩:∃ F,1100 - L.length=F+1:=⟨1099 - L.length,by omega⟩
      rw [← hR,hF];simp only [runT,Nat.lt_irrefl,if_false]
    simp only [Bz30,Bz7d,Bzh9,decide_eq_false hlt,Az7j,← hQ,go_sem,yz0,xx9,xx8,xx6,xx7,xx5,xx0,xx1,xx2,reduceIte,xx3,xx4,reduceCtorEq]
    intro hM
    refine ⟨[13,14],by simp,by simp,by simp,?_⟩
    simp only [hend,Nat.not_lt_zero,range1,yzx,yz10,yz1c,yz1b,yzz,yz19,yz1a,yz18,yzy,yzu,yzi,yz5,yzs,yzt,yzp,yzn,yzq,yzb,yzc,yz8,yz7,yzg,yzh,yz2,yz9,yza,yz6,yzj,yzf,List.range_zero,yz4,yz3,yzd,yzr,yzm,yzo,AVal.fresh,freshL,yz1,yze,AObj.fresh,id,Option.isSome_some,or_true,true_or,go_sem,yz0,xx9,xx8,xx6,xx7,xx5,xx0,xx1,xx2,reduceIte,xx3,xx4,reduceCtorEq]
    exact ⟨va,vm,rfl,rfl⟩
theorem k_IndexFuncT (T:TS) (h:∀ p∈T,p.1<1024) :
    Fun Tryz.prog nz1k [.ro none 1 (intsK .u64 (setsI T)),.clo nz1 []] (iv (fidx smallN (T.map (·.1)) 0)):=by
  have hx:=k_IndexFuncF (T.map (·.1)) nz1 [] smallN ⟨by simp only [go_sem,yz0,xx9,xx8,xx6,xx7,xx5,xx0,xx1,xx2,reduceIte,xx3,xx4,reduceCtorEq],by intros;simp only [rowIs,boxIs,coe_argN,coe_argNs,coe_ro_o,coeL_nil,yz11,coe_any,coe_val,coe_ro,yz14,yz16,coe_st,yz17,coe_rp,yz15,coe_clo,coe_own0,coe_ptr0,yz13,coeL_rws,coeL_rwn,L_hit,L_miss,L_nil,xx3,ne_eq,reduceCtorEq,not_false_eq_true,true_and,and_true,and_self,exists_eq_left,exists_eq_right,List.mem_cons,List.not_mem_nil,or_false,AObj.row.injEq,AObj.box.injEq,exists_eq_left',exists_and_left,exists_eq,Nat.zero_lt_one,Nat.lt_add_one,List.map_cons,List.map_nil,AObj.ver,xx5,not_true_eq_false]⟩ (fun x hx=>by
    obtain ⟨p,hp,rfl⟩:=List.mem_map.1 hx
    exact k_isSmall p.1 (h p hp))
  rw [List.map_map] at hx
  exact hx
theorem firstT_idx {f:Nat} {w:List Int}:∀ {T:TS} (k:Nat),firstT T=some (f,w)→∃ i,fidx smallN (T.map (·.1)) k=((k+i:Nat):Int)∧i<T.length∧T.getD i (0,[])=(f,w)
  | [],_,h=>by cases h
  | p :: T,k,h=>by
    simp only [firstT,List.find?_cons] at h
    cases hs:smallN p.1 with
    | true =>
      rw [hs] at h
      simp only [Option.some.injEq] at h
      exact ⟨0,by simp only [List.map_cons,fidx,hs,if_true,Nat.add_zero],by simp,by simpa using h⟩
    | false =>
      rw [hs] at h
      obtain ⟨i,h1,h2,h3⟩:=firstT_idx (T:=T) (k+1) h
      refine ⟨i+1,?_,by simp;omega,by simpa using h3⟩
      simp only [List.map_cons,fidx,hs,Bool.false_eq_true,if_false,h1]
      congr 1;omega
theorem k_first (N m:Nat) (T:TS) (hI:TI N m T) (hN:2 ^ N≤1024) (f:Nat) (w:List Int) (hf:firstT T=some (f,w)) :
    Con Tryz.prog nz1b [.row 0 1 true (intsK .u64 (setsI T)),.map 1 (keysF T) (rwn (T.map (·.2)))] [.st [.own 5000 0,.mp 5001 1],.clo nz1 []] true
      fun outs rows res=>outs=[.row 0 1 true (intsK .u64 (setsI T)),.map 1 (keysF T) (rwn (T.map (·.2)))]∧rows=[]∧res=.tup [.ro none 1 (ints w),iv 0]:=by
  refine con_sh mixed czhm rfl (by simp) ?_
  obtain ⟨i,h1,h2,h3⟩:=firstT_idx 0 hf
  rw [Nat.zero_add] at h1
  have hls:i<(setsI T).length:=by simpa using h2
  have hsg:=setsI_getD h2
  have hk:=fkF_at i 0 hI.nd h2
  rw [h3,Nat.zero_add] at hk
  rw [h3] at hsg
  have hwl:i<(T.map (·.2)).length:=by simpa using h2
  have hwg:=words_getD h2
  rw [h3] at hwg
  simp only [Az7p,Bz7o,go_sem,yz0,xx9,xx8,xx6,xx7,xx5,xx0,xx1,xx2,reduceIte,xx3,xx4,reduceCtorEq]
  intro vs vs2
  refine yzv (k_IndexFuncT T (fun p hp=>by have:=hI.rg p hp;omega)) qCS trivial ?_
  have hi0:¬ (i:Int)<0:=by omega
  simp only [h1,Bz7n,Bz7m,Bzhl,decide_eq_false hi0,yzl hls,hsg,hk,rwn_getD hwl,hwg,go_sem,yz0,xx9,xx8,xx6,xx7,xx5,xx0,xx1,xx2,reduceIte,xx3,xx4,reduceCtorEq]
  refine ⟨⟨by omega,h2⟩,h2,[],by simp,by simp,by simp,?_⟩
  simp only [List.nil_append,List.cons_append,Nat.add_zero,xx4,Nat.not_lt_zero,range1,yzx,yz10,yz1c,yz1b,yzz,yz19,yz1a,yz18,yzy,yzu,yzi,yz5,yzs,yzt,yzp,yzn,yzq,yzb,yzc,yz8,yz7,yzg,yzh,yz2,yz9,yza,yz6,yzj,yzf,List.range_zero,yz4,yz3,yzd,yzr,yzm,yzo,AVal.fresh,freshL,yz1,yze,AObj.fresh,id,Option.isSome_some,or_true,true_or,go_sem,yz0,xx9,xx8,xx6,xx7,xx5,xx0,xx1,xx2,reduceIte,xx3,xx4,reduceCtorEq]
theorem callHp_m2 {hp:Nat→AObj} {r q d:Nat} {s:Nat→Nat} {o0 o1:AObj} (hne:r≠q) :
    callHp hp [r,q] d s [o0,o1] []=upd (upd hp r (o0.ren (rid [r,q] d 0) (sv hp [r,q] s))) q (o1.ren (rid [r,q] d 0) (sv hp [r,q] s)):=by
  funext n
  by_cases h:n=q
  · have h1:rid [r,q] d ([]:List AObj).length 5001=some n:=by rw [h];exact rid_m (j:=1) (by omega) rfl
    rw [callHp_at (by simp [hne]) (by simp) h1]
    simp [upd,h,outHp]
  · by_cases h':n=r
    · have h1:rid [r,q] d ([]:List AObj).length 5000=some n:=by rw [h'];exact rid_m (j:=0) (by omega) rfl
      rw [callHp_at (by simp [hne]) (by simp) h1]
      simp [upd,h,h',outHp,hne]
    · rw [callHp_not]
      · simp [upd,h,h']
      · rintro ⟨x,hx⟩
        rcases rid_cases hx with ⟨j,rfl,_,h3⟩ | ⟨i,rfl,h3,_⟩
        · match j,h3 with
          | 0,h3=>simp at h3;exact h' h3.symm
          | 1,h3=>simp at h3;exact h h3.symm
          | j+2,h3=>simp at h3
        · simp at h3
theorem call_rm {P:Program} {σ:St} {g:FuncId} {As args:List AVal} {d:Nat} {s:Nat→Nat} {K:St→Prop} {r q v u:Nat} {cs cs':List AVal} {ks:List Value} {vs vs':List AVal} {R:AVal}
    (h:Con P g [.row 0 1 true cs,.map 1 ks vs] (.st [.own 5000 0,.mp 5001 1] :: args) true fun outs rows res=>outs=[.row 0 1 true cs,.map 1 ks vs]∧rows=[]∧res=R)
    (hr:σ.hp r=.row v 1 true cs') (hq:σ.hp q=.map u ks vs') (hne:r≠q) (hc:CoeL σ.hp [r,q] false cs cs') (hv:CoeL σ.hp [r,q] false vs vs') (ha:CoeL σ.hp [r,q] false args As)
    (hk:K (St.put ⟨σ.tm,upd (upd σ.hp r ((AObj.row 0 1 true cs).ren (rid [r,q] d 0) (sv σ.hp [r,q] s))) q ((AObj.map 1 ks vs).ren (rid [r,q] d 0) (sv σ.hp [r,q] s))⟩ (some d) (R.ren (rid [r,q] d 0) (sv σ.hp [r,q] s)))):wpCall P false σ g (.st [.own r v,.mp q u] :: As) (some d) s K:=by
  refine .inl ⟨[r,q],_,_,true,_,h,⟨by simp,rfl,by simp [hne],?_,?_⟩,?_,(fun e=>by cases e),?_⟩
  · intro x hx
    simp only [List.mem_cons,List.not_mem_nil,or_false] at hx
    rcases hx with rfl | rfl
    · simp [hr]
    · simp [hq]
  · intro j B r' hB hr'
    match j,hB,hr' with
    | 0,hB,hr' =>
      simp at hB hr';subst hB;subst hr'
      simp only [ObjCoe,hr]
      exact ⟨trivial,v,cs',rfl,hc⟩
    | 1,hB,hr' =>
      simp at hB hr';subst hB;subst hr'
      simp only [ObjCoe,hq]
      exact ⟨trivial,u,vs',rfl,hv⟩
    | j+2,hB,hr'=>simp at hB
  · rw [yz11]
    refine ⟨?_,ha⟩
    rw [coe_st,yz11,yz11,coeL_nil]
    simp only [Coe]
    exact ⟨⟨0,r,v,rfl,rfl,rfl,rfl,by rw [hr];rfl⟩,⟨1,q,u,rfl,rfl,rfl,rfl,by rw [hq];rfl⟩,trivial⟩
  · rintro outs rows res ⟨rfl,rfl,rfl⟩
    refine ⟨rfl,by simp,by simp,?_⟩
    rw [Option.getD_some,callHp_m2 hne]
    exact hk
theorem maskN_all {n:Int} (h:1≤n∧n≤10):maskN (allS n)=2 ^ n.toNat - 1:=by
  obtain ⟨k,rfl⟩:∃ k:Nat,n=k:=⟨n.toNat,by omega⟩
  have h2:k=1∨k=2∨k=3∨k=4∨k=5∨k=6∨k=7∨k=8∨k=9∨k=10:=by omega
  rcases h2 with rfl | rfl | rfl | rfl | rfl | rfl | rfl | rfl | rfl | rfl <;> decide
end Go.Ab
namespace Go.Ab
open Go.Proofs
def dvS (nr or:List Int) (D:List Nat×Bool) (s:Int):List Nat×Bool :=
  (D.1.set (or.getD s.toNat 0).toNat (D.1.getD (or.getD s.toNat 0).toNat 0 ||| 2 ^ (nr.getD s.toNat 0).toNat),D.2 && Nat.beq (D.1.getD (or.getD s.toNat 0).toNat 0 &&& 2 ^ (nr.getD s.toNat 0).toNat) 0)
def dvF (nr or:List Int) (o:Int) (S:List Int):List Nat×Bool:=S.foldl (dvS nr or) (List.replicate o.toNat 0,true)
abbrev nfs (fs:List Nat):List AVal:=intsK .u64 (fs.map fun (f:Nat)=>(f:Int))
theorem dvF_snoc {nr or:List Int} {o:Int} {S:List Int} {i:Nat} (h:i<S.length):dvF nr or o (S.take (i+1))=dvS nr or (dvF nr or o (S.take i)) (S.getD i 0):=by
  unfold dvF
  rw [List.take_succ_eq_append_getElem h,List.foldl_append,List.getD_eq_getElem?_getD,List.getElem?_eq_getElem h];rfl
theorem k_divided (n o:Int) (next out:List (List Int)) (M:Mach n o next out) (f x:Nat) (hf:f<2 ^ n.toNat) (hx:x<next.length) :
    Fn Tryz.prog nz4n [machA n o next out,fv f,iv x] fun rows res=>∃ v,rows=[.row v 1 true (nfs (dvF (next.getD x []) (out.getD x []) o (bitsTo f 10)).1)]∧res=.tup [.own 6000 v,bv (dvF (next.getD x []) (out.getD x []) o (bitsTo f 10)).2]:=by
  refine con_of mixed czni rfl (by simp) ?_
  have hxo:x<out.length:=by rw [M.len];exact hx
  have hnr:=M.aut.row _ (yzk hx [])
  have hor:=M.row _ (yzk hxo [])
  have hgn:=rwn_getD hx
  have hgo:=rwn_getD hxo
  have hSr:∀ s∈bitsTo f 10,0≤s∧s<n:=fun s hs=>by
    obtain ⟨k,hk,rfl⟩:=List.mem_map.1 (show s∈(bitsN f).map (fun (s:Nat)=>(s:Int)) from hs)
    have h2:=Nat.ge_two_pow_of_testBit (mem_bits.1 hk).2
    have h3:k<n.toNat:=(Nat.pow_lt_pow_iff_right (a:=2) (by omega)).1 (Nat.lt_of_le_of_lt h2 hf)
    omega
  generalize next.getD x []=nr at hnr hgn ⊢
  generalize out.getD x []=orr at hor hgo ⊢
  generalize hSE:bitsTo f 10=S at hSr ⊢
  generalize hQ:finQ _=Q
  have n1:=M.aut.n1
  have n2:=M.aut.n2
  have o1:=M.o1
  have o2:=M.o2
  have hN:2 ^ n.toNat≤1024:=Nat.pow_le_pow_right (n:=2) (by omega) (show n.toNat≤10 by omega)
  simp only [Az87,Bziv,go_sem,yz0,xx9,xx8,xx6,xx7,xx5,xx0,xx1,xx2,reduceIte,xx3,xx4,reduceCtorEq]
  intro vs vs2
  refine ⟨⟨by omega,Int.le_refl _,by omega,by omega⟩,?_⟩
  have hrep:(List.replicate o.toNat [AVal.val (Value.int .u64 0)]).flatten=nfs (dvF nr orr o []).1:=by
    unfold dvF
    rw [List.foldl_nil]
    generalize o.toNat=q
    induction q with
    | zero=>rfl
    | succ q ih=>rw [List.replicate_succ,List.flatten_cons,ih,List.replicate_succ];rfl
  have hfl:=hf
  simp only [hrep,Bziu,go_sem,yz0,xx9,xx8,xx6,xx7,xx5,xx0,xx1,xx2,reduceIte,xx3,xx4,reduceCtorEq]
  intro vs3
  refine call_rowI (k_flock_set f (by omega)) qCS qGN ⟨_,rfl⟩ ?_
  rintro S' v18 rfl
  rw [hSE]
  simp only [go_sem,yz0,xx9,xx8,xx6,xx7,xx5,xx0,xx1,xx2,reduceIte,xx3,xx4,reduceCtorEq]
  intro hM
  have hM2:=maxLen_le
  simp only [Bzis,go_sem,yz0,xx9,xx8,xx6,xx7,xx5,xx0,xx1,xx2,reduceIte,xx3,xx4,reduceCtorEq]
  refine wpD_lo (fun i=>S.length - i) (fun i=>i≤S.length∧(dvF nr orr o (S.take i)).1.length=o.toNat∧∀ g∈(dvF nr orr o (S.take i)).1,g<1024)
    (fun i:Nat=>⟨L .any [(2,iv x),(3,.ptr 3 (vs 0 0) 0),(8,.own 16 (vs2 2 0)),(9,bv (dvF nr orr o (S.take i)).2),(18,.own 18 v18),(19,iv S.length),(20,iv i)],
      L .gone [(3,.box (vs 0 0) [iv n,iv o,.ro none 1 (rwn next),.ro none 1 (rwn out)]),(16,.row (vs2 2 0) 1 true (nfs (dvF nr orr o (S.take i)).1)),(18,.row v18 1 true (ints S))]⟩)
    0 ⟨by simp,by simp [dvF],by simp [dvF]⟩ (by simp only [Bz35,go_sem,yz0,xx9,xx8,xx6,xx7,xx5,xx0,xx1,xx2,reduceIte,xx3,xx4,reduceCtorEq];try rfl) ?_
  rintro i ⟨hi,hl,hb⟩
  by_cases hlt:(i:Int)<S.length
  · have hlt1:i<S.length:=by omega
    have wi:IntKind.i64.wrap ((i:Int)+1)=((i+1:Nat):Int):=by rw [w64 (by omega)];simp
    have hsn:=dvF_snoc (nr:=nr) (or:=orr) (o:=o) hlt1
    have hs:=hSr _ (yzk hlt1 0)
    have hgs:=yzl (k:=.i64) hlt1
    generalize S.getD i 0=s at hsn hs hgs
    have hs1:s.toNat<nr.length:=by omega
    have hs2:s.toNat<orr.length:=by omega
    have hto:=hnr.2 _ (yzk hs1 0)
    have hbo:=hor.2 _ (yzk hs2 0)
    have hg1:=yzl (k:=.i64) hs1
    have hg2:=yzl (k:=.i64) hs2
    generalize dvF nr orr o (S.take i)=D at hl hb hsn ⊢
    obtain ⟨D1,D2⟩:=D
    unfold dvS at hsn
    generalize nr.getD s.toNat 0=to at hto hg1 hsn
    have ht0:¬ to<0:=by omega
    have hsh:=u_shl (b:=to.toNat) (by omega)
    generalize orr.getD s.toNat 0=b at hbo hg2 hsn
    simp only [hgn,hgo,hgs,hg1,hg2,Bz35,Bz86,Bzir,Bziq,Bzip,decide_eq_true hlt,ht0,hsh,go_sem,yz0,xx9,xx8,xx6,xx7,xx5,xx0,xx1,xx2,reduceIte,xx3,xx4,reduceCtorEq]
    refine ⟨⟨by omega,hlt1⟩,hlt1,⟨by omega,hx⟩,hx,⟨hs.1,hs1⟩,hs1,?_⟩
    refine ⟨⟨by omega,hxo⟩,hxo,⟨hs.1,hs2⟩,hs2,?_⟩
    have hl:D1.length=o.toNat:=hl
    have hbl:b.toNat<D1.length:=by omega
    have hgl:D1.getD b.toNat 0<1024:=hb _ (yzk hbl 0)
    have h2t:2 ^ to.toNat<1024:=by
      have:=Nat.pow_le_pow_right (n:=2) (by omega) (show to.toNat≤9 by omega)
      omega
    have hD1g:(nfs D1).getD b.toNat .any=fv (D1.getD b.toNat 0):=by
      rw [yzl (by rw [List.length_map];exact hbl)]
      congr 3
      rw [List.getD_eq_getElem?_getD,List.getElem?_map,List.getD_eq_getElem?_getD,List.getElem?_eq_getElem hbl];rfl
    have hand:=u_andW (x:=D1.getD b.toNat 0) (y:=2 ^ to.toNat) (by omega) (by omega)
    have hor2:=u_orW (x:=D1.getD b.toNat 0) (y:=2 ^ to.toNat) (by omega) (by omega)
    have hz:(((D1.getD b.toNat 0 &&& 2 ^ to.toNat:Nat):Int) == 0)=Nat.beq (D1.getD b.toNat 0 &&& 2 ^ to.toNat) 0:=by
      rw [Bool.eq_iff_iff,beq_iff_eq,Nat.beq_eq];omega
    have hdt:dnL (List.take b.toNat (nfs D1))=List.take b.toNat (nfs D1):=by rw [← List.map_take];exact dnL_ints
    have hdd:dnL (List.drop (b.toNat+1) (nfs D1))=List.drop (b.toNat+1) (nfs D1):=by rw [← List.map_drop];exact dnL_ints
    have hset:List.take b.toNat (nfs D1) ++ [fv (D1.getD b.toNat 0 ||| 2 ^ to.toNat)] ++ List.drop (b.toNat+1) (nfs D1)=nfs (D1.set b.toNat (D1.getD b.toNat 0 ||| 2 ^ to.toNat)):=by
      rw [List.set_eq_take_append_cons_drop,if_pos hbl]
      simp [List.map_take,List.map_drop]
    have hln:(D1.set b.toNat (D1.getD b.toNat 0 ||| 2 ^ to.toNat)).length=o.toNat:=by rw [List.length_set];exact hl
    have hbn:∀ g∈D1.set b.toNat (D1.getD b.toNat 0 ||| 2 ^ to.toNat),g<1024:=fun g hg=>by
      rcases List.mem_or_eq_of_mem_set hg with h | rfl
      · exact hb g h
      · exact Nat.or_lt_two_pow (n:=10) hgl h2t
    cases D2 with
    | true =>
      simp only [hD1g,hand,hor2,hz,Bz84,Bz83,Bz85,wi,List.length_map,hdt,hdd,go_sem,yz0,xx9,xx8,xx6,xx7,xx5,xx0,xx1,xx2,reduceIte,xx3,xx4,reduceCtorEq]
      refine ⟨⟨by omega,hbl⟩,hbl,⟨by omega,hbl⟩,hbl,⟨by omega,hbl⟩,by omega,i+1,by omega,⟨by omega,by rw [hsn];exact hln,by rw [hsn];exact hbn⟩,?_⟩
      rw [hsn,hset]
      simp only [Bool.true_and,go_sem,yz0,xx9,xx8,xx6,xx7,xx5,xx0,xx1,xx2,reduceIte,xx3,xx4,reduceCtorEq]
      try rfl
    | false =>
      simp only [hD1g,hand,hor2,hz,Bz84,Bz83,Bz85,wi,List.length_map,hdt,hdd,go_sem,yz0,xx9,xx8,xx6,xx7,xx5,xx0,xx1,xx2,reduceIte,xx3,xx4,reduceCtorEq]
      refine ⟨⟨by omega,hbl⟩,hbl,⟨by omega,hbl⟩,by omega,i+1,by omega,⟨by omega,by rw [hsn];exact hln,by rw [hsn];exact hbn⟩,?_⟩
      rw [hsn,hset]
      simp only [Bool.false_and,go_sem,yz0,xx9,xx8,xx6,xx7,xx5,xx0,xx1,xx2,reduceIte,xx3,xx4,reduceCtorEq]
      try rfl
  · obtain rfl:i=S.length:=by omega
    rw [List.take_length] at hl hb ⊢
    simp only [Bz35,Bz86,Bzit,decide_eq_false hlt,Az87,← hQ,go_sem,yz0,xx9,xx8,xx6,xx7,xx5,xx0,xx1,xx2,reduceIte,xx3,xx4,reduceCtorEq]
    refine ⟨[16],by simp,by simp,by simp,?_⟩
    simp only [range1,List.length_singleton,Nat.not_lt_zero,range1,yzx,yz10,yz1c,yz1b,yzz,yz19,yz1a,yz18,yzy,yzu,yzi,yz5,yzs,yzt,yzp,yzn,yzq,yzb,yzc,yz8,yz7,yzg,yzh,yz2,yz9,yza,yz6,yzj,yzf,List.range_zero,yz4,yz3,yzd,yzr,yzm,yzo,AVal.fresh,freshL,yz1,yze,AObj.fresh,id,Option.isSome_some,or_true,true_or,go_sem,yz0,xx9,xx8,xx6,xx7,xx5,xx0,xx1,xx2,reduceIte,xx3,xx4,reduceCtorEq]
    exact ⟨_,rfl,rfl⟩
end Go.Ab
namespace Go.Ab
open Go Go.Sort
def LeftK (κ:IntKind) (w w':World) (g off:Nat) (ys:List Int):Prop:=∃ n os,w'=grow (putRow (Value.int κ) (Sort.ahead w n) g off ys.toArray) os
section
variable {κ:IntKind} {w w':World} {g off:Nat} {ys:List Int}
theorem LeftK.ne (h:LeftK κ w w' g off ys) {b:Nat} (hb:b<w.heap.size) (hne:b≠g):w'.heap[b]?=w.heap[b]?:=by
  obtain ⟨n,os,rfl⟩:=h
  have h1:b<(w.heap.modify g (onCells (putCells (Value.int κ) off ys.toArray))).size:=by rw [Array.size_modify];exact hb
  show (w.heap.modify g (onCells (putCells (Value.int κ) off ys.toArray)) ++ os)[b]?=_
  rw [Array.getElem?_append_left h1,Array.getElem?_modify,if_neg (Ne.symm hne)]
theorem LeftK.at (h:LeftK κ w w' g off ys) {cells:Array Value} {t:TypeId} (hb:w.heap[g]?=some (.cells cells t (0,0))):w'.heap[g]?=some (.cells (putCells (Value.int κ) off ys.toArray cells) t (0,0)):=by
  obtain ⟨n,os,rfl⟩:=h
  have hlt:g<w.heap.size:=yz12 hb
  have h1:g<(w.heap.modify g (onCells (putCells (Value.int κ) off ys.toArray))).size:=by rw [Array.size_modify];exact hlt
  show (w.heap.modify g (onCells (putCells (Value.int κ) off ys.toArray)) ++ os)[g]?=_
  rw [Array.getElem?_append_left h1,Array.getElem?_modify,if_pos rfl,hb];rfl
theorem LeftK.size (h:LeftK κ w w' g off ys):w.heap.size≤w'.heap.size:=by
  obtain ⟨n,os,rfl⟩:=h
  show w.heap.size≤(w.heap.modify g (onCells (putCells (Value.int κ) off ys.toArray)) ++ os).size
  rw [Array.size_append,Array.size_modify];omega
theorem LeftK.os (h:LeftK κ w w' g off ys):w'.os=w.os:=by obtain ⟨n,os,rfl⟩:=h;rfl
theorem LeftK.tape (h:LeftK κ w w' g off ys):w'.tape=w.tape:=by obtain ⟨n,os,rfl⟩:=h;rfl
theorem LeftK.output (h:LeftK κ w w' g off ys):w'.output=w.output:=by obtain ⟨n,os,rfl⟩:=h;rfl
theorem putCells_rowK {cells:Array Value} (hfit:off+ys.length≤cells.size) {m:Nat} (hm:m≤ys.length) :
    (((putCells (Value.int κ) off ys.toArray cells).toList.drop off).take m)=(ys.take m).map fun x=>Value.int κ x:=by
  apply List.ext_getElem?
  intro j
  rw [List.getElem?_take,List.getElem?_map,List.getElem?_take]
  by_cases hj:j<m
  · rw [if_pos hj,if_pos hj,List.getElem?_drop,Array.getElem?_toList]
    have h1:off+j<cells.size:=by omega
    simp only [putCells,Array.getElem?_mapIdx,Array.getElem?_eq_getElem h1,Option.map_some,List.size_toArray]
    have h2:off≤off+j∧off+j<off+ys.length:=by omega
    have h3:off+j - off=j:=by omega
    rw [if_pos h2,h3,List.getElem?_eq_getElem (show j<ys.length by omega)]
    simp only [Option.map_some]
    have h4:ys.toArray[j]! = ys[j]:=by rw [getElem!_pos _ j (by simp;omega)];simp
    rw [h4]
  · rw [if_neg hj,if_neg hj];rfl
theorem repL_intsK {c:Cz}:∀ {xs:List Int},RepL c (intsK κ xs) (xs.map fun x=>Value.int κ x)
  | []=>by simp [RepL]
  | x :: xs=>by
    simp only [List.map_cons,RepL,Rep]
    exact ⟨trivial,repL_intsK⟩
theorem repL_ints_eqK {c:Cz}:∀ {xs:List Int} {vs:List Value},RepL c (intsK κ xs) vs→vs=xs.map fun x=>Value.int κ x
  | [],[],_=>rfl
  | [],_ :: _,h=>by simp [RepL] at h
  | _ :: _,[],h=>by simp [RepL] at h
  | x :: xs,v :: vs,h=>by
    simp only [List.map_cons,RepL,Rep] at h ⊢
    rw [h.1,repL_ints_eqK h.2]
theorem holds_rowK {c:Cz} {zs:List Int} {cells:Array Value} {t:TypeId} (hb:c.w.heap[g]?=some (.cells cells t (0,0))) (hr:RepL c (intsK κ zs) ((cells.toList.drop off).take zs.length)) :
    Holds (Value.int κ) c.w g off zs.toArray:=by
  have he:=repL_ints_eqK hr
  intro j hj
  have hj':j<zs.length:=by simpa using hj
  have h1:((cells.toList.drop off).take zs.length)[j]?=some (Value.int κ zs[j]):=by
    rw [he,List.getElem?_map,List.getElem?_eq_getElem hj'];rfl
  rw [List.getElem?_take,if_pos hj',List.getElem?_drop,Array.getElem?_toList] at h1
  have h4:zs.toArray[j]! = zs[j]:=by rw [getElem!_pos _ j hj];simp
  refine ⟨?_,?_⟩
  · rw [cell_of_row c.w g (off+j) cells t (0,0) hb,h1,h4]
  · unfold World.frozen?
    simp [hb]
end
section
variable {κ:IntKind} {P:Program} {f:FuncId}
theorem inrow_coreK {w0:World} {outsB:Nat→Prop} {c:Cz} (G:Good w0 outsB c) {zs ys:List Int} {nn:Bool} {n cap g off m ver:Nat} {cells:Array Value} {t:TypeId} {w':World}
    (hr:c.hp 5000=.row 0 1 nn (intsK κ zs)) (hloc:c.loc 5000=.slice (some ⟨g,off,none⟩) n cap) (hn:zs.length=n) (hcap:n≤cap) (hcm:cap≤maxLen) (hc0:cap≠0)
    (hheap:c.w.heap[g]?=some (.cells cells t (0,0))) (hfit:off+cap * 1≤cells.size) (hL:LeftK κ c.w w' g off ys) (hys:ys.length=zs.length) (hm:m≤ys.length)
    (hver:(m=n∧ver=0)∨¬ c.used ver) :
    Good w0 outsB (c.upd w' 5000 (.row ver 1 nn (intsK κ (ys.take m))) (.slice (some ⟨g,off,none⟩) m cap) ver)∧Keeps c (c.upd w' 5000 (.row ver 1 nn (intsK κ (ys.take m))) (.slice (some ⟨g,off,none⟩) m cap) ver):=by
  have hblk:blockOf (c.loc 5000)=some g:=by rw [hloc];simp [blockOf,hc0]
  refine G.upd w' 5000 _ _ ver hL.os hL.tape hL.output hL.size ?_ ?_ ?_ ?_
  · intro b hb hne
    refine hL.ne hb fun e=>hne ⟨by rw [hr];simp,by rw [hblk,e]⟩
  · intro b hb
    simp only [blockOf,hc0,if_false,Option.some.injEq] at hb
    subst hb
    exact ⟨.inl ⟨by rw [hr];simp,hblk⟩,Nat.lt_of_lt_of_le (yz12 hheap) hL.size⟩
  · rcases hver with ⟨h1,h2⟩ | h
    · refine .inr (.inr ⟨by rw [hr,h2];rfl,by rw [hloc,h1],?_⟩)
      rw [h2];exact (G.verU 5000 0 (by rw [hr];rfl)).1
    · exact .inr (.inl ⟨rfl,h⟩)
  · intro K
    refine ⟨some ⟨g,off,none⟩,m,cap,rfl,by omega,?_,by omega,hcm,fun _=>by simp,.inr ⟨g,off,t,_,rfl,hL.at hheap,?_,?_⟩⟩
    · simp;omega
    · simp only [putCells,Array.size_mapIdx];exact hfit
    · rw [Nat.mul_one,putCells_rowK (by omega) hm]
      exact repL_intsK
end
end Go.Ab
namespace Go.Ab
open Go.Proofs
def keyB (fs:List Nat):List Int:=fs.flatMap fun (f:Nat)=>[IntKind.u8.wrap ((f:Int).fdiv (2 ^ min 8 64)),IntKind.u8.wrap (f:Int)]
theorem nfs_getD {fs:List Nat} {i:Nat} (h:i<fs.length):(nfs fs).getD i .any=fv (fs.getD i 0):=by
  rw [yzl (by rw [List.length_map];exact h)]
  congr 3
  rw [List.getD_eq_getElem?_getD,List.getElem?_map,List.getD_eq_getElem?_getD,List.getElem?_eq_getElem h];rfl
theorem keyB_snoc {fs:List Nat} {i:Nat} (h:i<fs.length):keyB (fs.take (i+1))=keyB (fs.take i) ++ [IntKind.u8.wrap ((fs.getD i 0:Int).fdiv (2 ^ min 8 64)),IntKind.u8.wrap (fs.getD i 0:Int)]:=by
  unfold keyB
  rw [List.take_succ_eq_append_getElem h,List.flatMap_append,List.getD_eq_getElem?_getD,List.getElem?_eq_getElem h];simp
theorem keyB_len:∀ {fs:List Nat},(keyB fs).length=2 * fs.length
  | []=>rfl
  | f :: fs=>by
    have:=keyB_len (fs:=fs)
    unfold keyB at this ⊢
    rw [List.flatMap_cons,List.length_append,this,List.length_cons];simp;omega
theorem u8_in (x:Int):0≤IntKind.u8.wrap x∧IntKind.u8.wrap x<256:=by
  rw [IntKind.wrap_u8];omega
theorem keyB_in {fs:List Nat}:∀ x∈keyB fs,0≤x∧x<256:=by
  intro x hx
  obtain ⟨f,_,h⟩:=List.mem_flatMap.1 hx
  rcases List.mem_cons.1 h with rfl | h
  · exact u8_in _
  · rw [List.mem_singleton.1 h];exact u8_in _
theorem bytes_back:∀ {xs:List Int},(∀ x∈xs,0≤x∧x<256)→((List.filterMap byteOfCell (intsK .u8 xs)).toArray.toList.map fun c=>(c.toNat:Int))=xs
  | [],_=>rfl
  | x :: xs,h=>by
    have ih:=bytes_back (xs:=xs) (fun y hy=>h y (by simp [hy]))
    have hx:=h x (by simp)
    simp only [List.map_cons,List.filterMap_cons,byteOfCell] at ih ⊢
    have e1:((UInt8.ofNat x.toNat).toNat:Int)=x:=by
      rw [UInt8.toNat_ofNat'];omega
    rw [e1]
    exact congrArg _ ih
theorem k_doubtKey (fs:List Nat) (hf:∀ f∈fs,f<1024) (hl:fs.length≤100):FunE Tryz.prog nz1f [.ro none 1 (nfs fs)] (fun v=>∃ b:ByteArray,v=.string b∧b.data.toList.map (fun c=>(c.toNat:Int))=keyB fs):=by
  refine funE_of mixed cznh rfl ?_
  simp only [Azio,Bzin,go_sem,yz0,xx9,xx8,xx6,xx7,xx5,xx0,xx1,xx2,reduceIte,xx3,xx4,reduceCtorEq]
  intro vs
  simp only [Bzim,Bzik,List.length_map,go_sem,yz0,xx9,xx8,xx6,xx7,xx5,xx0,xx1,xx2,reduceIte,xx3,xx4,reduceCtorEq]
  intro hM
  refine wpD_lo (fun (_,i)=>fs.length - i) (fun (_,i)=>i≤fs.length)
    (fun ((v,i):Nat×Nat)=>⟨L .any [(3,.own 6 v),(7,.ro none 1 (nfs fs)),(8,iv fs.length),(9,iv i)],L .gone [(6,.row v 1 true (intsK .u8 (keyB (fs.take i))))]⟩)
    (_,0) (by simp) (by simp only [Bz34,go_sem,yz0,xx9,xx8,xx6,xx7,xx5,xx0,xx1,xx2,reduceIte,xx3,xx4,reduceCtorEq];try rfl) ?_
  rintro ⟨v,i⟩ hi
  have hi:i≤fs.length:=hi
  by_cases hlt:(i:Int)<fs.length
  · have hlt1:i<fs.length:=by omega
    have wi:IntKind.i64.wrap ((i:Int)+1)=((i+1:Nat):Int):=by rw [w64 (by omega)];simp
    simp only [Bz34,Bz82,Bzij,Bzih,decide_eq_true hlt,List.length_map,nfs_getD hlt1,go_sem,yz0,xx9,xx8,xx6,xx7,xx5,xx0,xx1,xx2,reduceIte,xx3,xx4,reduceCtorEq]
    have hkl:=keyB_len (fs:=fs.take i)
    rw [List.length_take] at hkl
    have hks:=keyB_snoc hlt1
    refine ⟨⟨by omega,hlt1⟩,hlt1,fun vs2=>⟨⟨⟨_,rfl,rfl⟩,_,rfl,rfl⟩,by omega,?_⟩⟩
    simp only [Bzii,wi,go_sem,yz0,xx9,xx8,xx6,xx7,xx5,xx0,xx1,xx2,reduceIte,xx3,xx4,reduceCtorEq]
    refine ⟨(vs2 7 0,i+1),by dsimp only;omega,by dsimp only;omega,?_⟩
    dsimp only
    rw [hks]
    have e:∀ (ks:List Int) (a b:Int),intsK .u8 ks ++ [AVal.val (.int .u8 a),AVal.val (.int .u8 b)]=intsK .u8 (ks ++ [a,b]):=fun ks a b=>by simp
    rw [e]
  · obtain rfl:i=fs.length:=by omega
    simp only [Bz34,Bz82,Bzil,decide_eq_false hlt,go_sem,yz0,xx9,xx8,xx6,xx7,xx5,xx0,xx1,xx2,reduceIte,xx3,xx4,reduceCtorEq]
    rw [List.take_length]
    refine ⟨fun A hA=>?_,_,rfl,_,rfl,bytes_back keyB_in⟩
    obtain ⟨x,_,rfl⟩:=List.mem_map.1 hA
    rfl
end Go.Ab
namespace Go.Ab
open Go Go.Proofs Go.Sort
def smI (x:Int):Bool:=bits BinOp.and IntKind.u64 x (IntKind.u64.wrap (x - 1)) == 0
theorem isSmall_calls (x:Int) (W:World):Calls Tryz.prog nz1 #[.int .u64 x] W fun e w'=>e=.returned (.bool (smI x))∧w'=W:=by
  go_enter Tryz.func50,Tryz.ntmps50
  go_wp2
  go_ret
  exact ⟨rfl,rfl⟩
theorem smI_nat {f:Nat} (h:f<1024):smI f=smallN f:=by
  unfold smI
  by_cases h0:f=0
  · subst h0;rfl
  · have e:IntKind.u64.wrap ((f:Int) - 1)=((f - 1:Nat):Int):=by rw [show (f:Int) - 1=((f - 1:Nat):Int) by omega];exact u64w (by omega)
    have hand:=u_andW (x:=f) (y:=f - 1) (by omega) (by omega)
    rw [e]
    have hb:bits BinOp.and IntKind.u64 (f:Int) ((f - 1:Nat):Int)=((f &&& (f - 1):Nat):Int):=hand
    rw [hb]
    unfold smallN
    generalize f &&& (f - 1)=z
    cases z with
    | zero=>rfl
    | succ z=>simp [Nat.beq];omega
section
variable {κ:IntKind} {P:Program} {f:FuncId}
theorem con_inrowSX (hfn:∃ fn,P.funcs[f]?=some fn∧fn.body.isSome=true∧isNumG fn=false) (zs ys:List Int) (k:Nat) (hF:ys.length=zs.length) (hk:k≤zs.length) (hz:zs≠[]) (As:List AVal) (us:List Value)
    (hu:∀ (c:Cz) (vs:List Value),RepL c As vs→vs=us)
    (H:∀ g off cap w,Holds (Value.int κ) w g off zs.toArray→g<w.heap.size→zs.length≤maxLen→zs.length≤cap →
      Calls P f (Value.slice (some ⟨g,off,none⟩) zs.length cap :: us).toArray w fun e w'=>e=.returned (.slice (some ⟨g,off,none⟩) k cap)∧LeftK κ w w' g off ys) (nn:Bool) :
    Con P f [.row 0 1 nn (intsK κ zs)] (.own 5000 0 :: As) true fun outs rows res=>∃ v,outs=[.row v 1 nn (intsK κ (ys.take k))]∧rows=[]∧res=.own 5000 v:=by
  refine ⟨hfn,fun c0 outsB vs G hhp hrep=>?_⟩
  have hr:c0.hp 5000=.row 0 1 nn (intsK κ zs):=by rw [hhp];rfl
  have hne:∀ r,r≠5000→c0.hp r=.gone:=by
    intro r h
    rw [hhp]
    by_cases hg:outHp [.row 0 1 nn (intsK κ zs)] [] r=.gone
    · exact hg
    · rcases outHp_live hg with ⟨j,rfl,_,hj,_⟩ | ⟨i,_,_,hi,_⟩
      · simp at hj;subst hj;exact absurd rfl h
      · simp at hi
  match vs,hrep with
  | v :: vs',hrep =>
  simp only [RepL,Rep] at hrep
  have hv:v=c0.loc 5000:=hrep.1.2 (by rw [hr];rfl)
  have hvs:=hu _ _ hrep.2
  subst hvs
  have hO:=G.obj 5000
  rw [hr] at hO
  obtain ⟨base,n,cap,hloc,_,hl,hnc,hcm,hnn,hcase⟩:=hO
  have hlen:zs.length=n:=by simpa using hl
  have hupd:∀ (c1:Cz) (u:Nat) (xs:List Int),(∀ r,c1.hp r=if r=5000 then .row u 1 nn (intsK κ xs) else c0.hp r)→c1.hp=outHp [.row u 1 nn (intsK κ xs)] []:=by
    intro c1 u xs h
    funext r
    rw [h r]
    by_cases e:r=5000
    · subst e;rfl
    · rw [if_neg e,hne r e]
      by_cases hg:outHp [AObj.row u 1 nn (intsK κ xs)] [] r=.gone
      · exact hg.symm
      · rcases outHp_live hg with ⟨j,rfl,_,hj,_⟩ | ⟨i,_,_,hi,_⟩
        · simp at hj;subst hj;exact absurd rfl e
        · simp at hi
  have hold:∀ c1:Cz,c1.ext=c0.ext→∀ b,c1.ext b→(true=true∧c0.ext b)∨outsB b:=fun c1 h b hb=>.inl ⟨rfl,h ▸ hb⟩
  have hn0:n≠0:=by rw [← hlen];exact fun e=>hz (List.eq_nil_of_length_eq_zero e)
  have hc0:cap≠0:=by omega
  rcases hcase with h | ⟨g,off,t,cells,rfl,hheap,hfit,hrepr⟩
  · exact absurd h hc0
  rw [hv,hloc,← hlen]
  refine (H g off cap c0.w (holds_rowK hheap (by rw [hlen];simpa using hrepr)) (yz12 hheap) (by omega) (by omega)).mono ?_
  rintro e w' ⟨rfl,hL⟩
  obtain ⟨u,hu⟩:=G.fin
  have hnu:¬ c0.used u:=fun h=>absurd (hu u h) (Nat.lt_irrefl _)
  obtain ⟨G1,K1⟩:=inrow_coreK G hr hloc hlen hnc hcm hc0 hheap hfit hL (hF) (m:=k) (ver:=u) (by rw [hF];exact hk) (.inr hnu)
  refine ⟨_,_,_,_,_,⟨u,rfl,rfl,rfl⟩,rfl,rfl,G1,hupd _ _ _ fun r=>rfl,?_,hold _ rfl,fun _ h=>h,?_,fun _ h=>.inl h⟩
  · simp only [Rep]
    refine ⟨.inr rfl,fun _=>?_⟩
    simp only [Cz.upd,if_true]
  · intro r u' hu' h
    exact K1.loc r u' hu' h
end
theorem compact_lenF (zs:List Int):(Lib.compact zs).length≤zs.length:=by
  unfold Lib.compact Lib.compactUpTo
  rw [List.length_map]
  exact Nat.le_trans (List.length_filter_le _ _) (by rw [List.length_range];exact Nat.le_refl _)
theorem k_CompactF (zs:List Int) (hz:zs≠[]):Con Tryz.prog nz4q [.row 0 1 true (intsK .u64 zs)] [.own 5000 0] true
    fun outs rows res=>∃ v,outs=[.row v 1 true (intsK .u64 (Lib.compact zs))]∧rows=[]∧res=.own 5000 v:=by
  have hl:=compact_lenF zs
  have h:=con_inrowSX (κ:=.u64) x_slices_Compact_Lflock zs (Lib.compact zs ++ List.replicate (zs.length - (Lib.compact zs).length) 0) (Lib.compact zs).length (by simp;omega) hl hz [] []
    (fun c vs h=>by cases vs with | nil=>rfl | cons a b=>simp [RepL] at h)
    (fun g off cap w hH hb hm hc=>by
      refine (AnyE.slices_Compact Tryz.lcompactF (Value.int .u64) (fun x=>rfl) (EqlAt.intD _ _ _) (NeqAt.intD _ _ _) 0 Tryz.zeroValue74 g off cap zs.toArray w hH (by have:=maxLen_le;simp;omega) (by simpa using hc)).mono ?_
      rintro e w' ⟨he,q,hw⟩
      exact ⟨by rw [he];simp [Lib.compact],q,#[],by rw [Sort.grow_empty,hw];simp [Lib.compact]⟩) true
  rw [List.take_left] at h
  exact h
theorem k_DelF (zs:List Int) (hz:zs≠[]):Con Tryz.prog nz4p [.row 0 1 true (intsK .u64 zs)] [.own 5000 0,.clo nz1 []] true
    fun outs rows res=>∃ v,outs=[.row v 1 true (intsK .u64 (zs.filter fun x=>!smI x))]∧rows=[]∧res=.own 5000 v:=by
  have hl:=List.length_filter_le (fun x=>!smI x) zs
  have h:=con_inrowSX (κ:=.u64) x_slices_DeleteFunc_Lflock zs ((zs.filter fun x=>!smI x) ++ List.replicate (zs.length - (zs.filter fun x=>!smI x).length) 0) (zs.filter fun x=>!smI x).length (by simp;omega) hl hz [.clo nz1 []] [.func (.func nz1) #[] #[]]
    (fun c vs h=>by
      match vs,h with
      | [],h=>simp [RepL] at h
      | [v],h =>
        simp only [RepL,Rep,and_true] at h
        obtain ⟨us,rfl,hr⟩:=h
        have:us=#[]:=by
          cases hu:us.toList with
          | nil=>exact Array.toList_eq_nil_iff.1 hu
          | cons a b=>rw [hu] at hr;simp [RepL] at hr
        rw [this]
      | _ :: _ :: _,h=>simp [RepL] at h)
    (fun g off cap w hH hb hm hc=>by
      have hp:∀ W,∀ x:Int,FnGives Tryz.prog nz1 #[] #[Value.int .u64 x] (.bool (smI x)) W:=fun W x=>(isSmall_calls x W).mono (by rintro e w' ⟨he,hw⟩;exact ⟨he,0,hw⟩)
      refine (AnyE.slices_DeleteFunc Tryz.ldelF (Value.int .u64) (fun x=>rfl) smI nz1 #[] (enters_of Tryz.func50 (by decide) rfl) 0 Tryz.zeroValue74 g off cap zs.toArray w (fun W x _=>hp W x) (fun n os dk x _=>hp _ x) hH (by have:=maxLen_le;simp;omega) (by simpa using hc)).mono ?_
      rintro e w' ⟨he,q,hw⟩
      exact ⟨by rw [he],q,#[],by rw [Sort.grow_empty,hw];simp⟩) true
  rw [List.take_left] at h
  exact h
end Go.Ab
namespace Go.Ab
theorem fold_bit {α:Type} (g:α→Nat) (t:Nat):∀ (l:List α) (o:Nat),(l.foldl (fun o s=>o ||| 2 ^ g s) o).testBit t=true↔o.testBit t=true∨∃ x∈l,g x=t
  | [],o=>by simp
  | x :: l,o=>by
    rw [List.foldl_cons,fold_bit g t l,Nat.testBit_or,Nat.testBit_two_pow,Bool.or_eq_true,decide_eq_true_eq]
    simp only [List.mem_cons,exists_eq_or_imp,or_assoc]
theorem step_bit {row:List Int} {f t:Nat}:(stepN row f).testBit t=true↔∃ s∈bitsN f,(row.getD s 0).toNat=t:=by
  unfold stepN
  rw [fold_bit (fun s=>(row.getD s 0).toNat)]
  simp
def imN (next:List (List Int)) (f:Nat) (w:List Int):Nat:=w.foldl (fun f l=>stepN (next.getD l.toNat []) f) f
theorem imN_snoc {next:List (List Int)} {f:Nat} {w:List Int} {x:Int}:imN next f (w ++ [x])=stepN (next.getD x.toNat []) (imN next f w):=by simp [imN]
def SndT (next:List (List Int)) (f0:Nat) (L:TS):Prop:=∀ p∈L,p.1=imN next f0 p.2
theorem SndT.vis {next:List (List Int)} {f0 f:Nat} {w:List Int} (hf:f=imN next f0 w):∀ (x:Nat) {L:TS},SndT next f0 L→SndT next f0 (visT next f w x L)
  | 0,_,h=>h
  | x+1,L,h=>by
    have h1:=SndT.vis hf x h
    rw [visT_succ]
    split
    · exact h1
    · intro p hp
      rcases List.mem_append.1 hp with hp | hp
      · exact h1 p hp
      · have hp:p=(stepN (next.getD x []) f,w ++ [(x:Int)]):=by simpa using hp
        rw [hp,imN_snoc,← hf];rfl
theorem SndT.run {next:List (List Int)} {f0:Nat}:∀ (F i:Nat) {L:TS},SndT next f0 L→SndT next f0 (runT next F i L)
  | 0,_,_,h=>h
  | F+1,i,L,h=>by
    simp only [runT]
    split
    · rename_i hi
      exact SndT.run F (i+1) (SndT.vis (h _ (yzk hi _)) _ h)
    · exact h
theorem small_bits (f:Nat) (hf:f<1024):smallN f=decide ((bitsN f).length≤1) :=
  have h:∀ f:Fin 1024,smallN f=decide ((bitsN f).length≤1):=by decide +kernel
  h ⟨f,hf⟩
theorem small_iff {f:Nat} (hf:f<1024):smallN f=true↔∀ s∈bitsN f,∀ t∈bitsN f,s=t:=by
  rw [small_bits f hf,decide_eq_true_eq]
  have hn:(bitsN f).Nodup:=List.nodup_range.filter _
  constructor
  · intro h s hs t ht
    match hb:bitsN f with
    | []=>rw [hb] at hs;simp at hs
    | [x]=>rw [hb] at hs ht;simp at hs ht;rw [hs,ht]
    | x :: y :: l=>rw [hb] at h;simp at h
  · intro h
    match hb:bitsN f with
    | []=>simp
    | [x]=>simp
    | x :: y :: l =>
      rw [hb] at hn h
      have:=h x (by simp) y (by simp)
      rw [this] at hn;simp at hn
theorem all_bits {n:Int} (hn:1≤n∧n≤10) {s:Nat}:s∈bitsN (2 ^ n.toNat - 1)↔(s:Int)<n:=by
  rw [mem_bits,Nat.testBit_two_pow_sub_one,decide_eq_true_eq];omega
end Go.Ab
namespace Go.Ab
theorem lexP_irrefl:∀ u:List Int,lexP u u=false
  | []=>rfl
  | x :: u=>by simp only [lexP,if_pos rfl];exact lexP_irrefl u
theorem lexP_trans:∀ {u v w:List Int},lexP u v=true→lexP v w=true→lexP u w=true
  | [],_,_,h,_=>by simp [lexP] at h
  | _ :: _,[],_,h,_=>by simp [lexP] at h
  | _ :: _,_ :: _,[],_,h=>by simp [lexP] at h
  | x :: u,y :: v,z :: w,h1,h2=>by
    simp only [lexP] at h1 h2 ⊢
    by_cases e1:x=y
    · subst e1
      rw [if_pos rfl] at h1
      by_cases e2:x=z
      · subst e2
        rw [if_pos rfl] at h2 ⊢
        exact lexP_trans h1 h2
      · rw [if_neg e2] at h2 ⊢;exact h2
    · rw [if_neg e1] at h1
      by_cases e2:y=z
      · subst e2
        rw [if_neg e1];exact h1
      · rw [if_neg e2] at h2
        have h1:=of_decide_eq_true h1
        have h2:=of_decide_eq_true h2
        rw [if_neg (by omega)];exact decide_eq_true (by omega)
theorem lexP_snoc:∀ {u v:List Int} {x y:Int},u.length=v.length→lexP u v=true→lexP (u ++ [x]) (v ++ [y])=true
  | [],_,_,_,_,h=>by simp [lexP] at h
  | _ :: _,[],_,_,_,h=>by simp [lexP] at h
  | a :: u,b :: v,x,y,hl,h=>by
    simp only [lexP,List.cons_append] at h ⊢
    by_cases e:a=b
    · rw [if_pos e] at h ⊢;exact lexP_snoc (by simpa using hl) h
    · rw [if_neg e] at h ⊢;exact h
theorem lexP_last:∀ {u:List Int} {x y:Int},x<y→lexP (u ++ [x]) (u ++ [y])=true
  | [],x,y,h=>by
    simp only [List.nil_append,lexP]
    rw [if_neg (by omega)];exact decide_eq_true h
  | a :: u,x,y,h=>by simp only [List.cons_append,lexP,if_pos rfl];exact lexP_last h
theorem befP_len {u v:List Int} (h:u.length<v.length):befP u v=true:=by
  rw [befP,if_neg (by omega)];exact decide_eq_true h
theorem befP_le {u v:List Int} (h:befP u v=true):u.length≤v.length:=by
  rw [befP] at h
  split at h
  · omega
  · have:=of_decide_eq_true h;omega
theorem befP_irrefl (u:List Int):befP u u=false:=by rw [befP,if_pos rfl];exact lexP_irrefl u
theorem befP_trans {u v w:List Int} (h1:befP u v=true) (h2:befP v w=true):befP u w=true:=by
  have l1:=befP_le h1
  have l2:=befP_le h2
  by_cases e:u.length=w.length
  · rw [befP,if_pos (by omega)] at h1 h2 ⊢
    exact lexP_trans h1 h2
  · exact befP_len (by omega)
theorem befP_snoc {u v:List Int} {x y:Int} (h:befP u v=true):befP (u ++ [x]) (v ++ [y])=true:=by
  have l1:=befP_le h
  by_cases e:u.length=v.length
  · rw [befP,if_pos e] at h
    rw [befP,if_pos (by simp [e])]
    exact lexP_snoc e h
  · exact befP_len (by simp;omega)
theorem befP_last {u:List Int} {x y:Int} (h:x<y):befP (u ++ [x]) (u ++ [y])=true:=by
  rw [befP,if_pos (by simp)];exact lexP_last h
def leP (u v:List Int):Prop:=befP u v=true∨u=v
theorem leP_trans {u v w:List Int} (h1:leP u v) (h2:leP v w):leP u w:=by
  rcases h1 with h1 | rfl
  · rcases h2 with h2 | rfl
    · exact .inl (befP_trans h1 h2)
    · exact .inl h1
  · exact h2
theorem leP_not {u v:List Int} (h:leP u v):befP v u=false:=by
  cases hb:befP v u with
  | false=>rfl
  | true =>
    rcases h with h | rfl
    · have:=befP_trans h hb
      rw [befP_irrefl] at this;cases this
    · rw [befP_irrefl] at hb;cases hb
def pairW (na nb:List (List Int)):Nat×Nat→List Int→Nat×Nat
  | p,[]=>p
  | p,x :: w=>pairW na nb (stepP na nb p x.toNat) w
def difW (na nb oa ob:List (List Int)):Nat×Nat→List Int→Bool
  | _,[]=>false
  | p,x :: w=>difP oa ob p x.toNat || difW na nb oa ob (stepP na nb p x.toNat) w
def isWd (k:Nat) (w:List Int):Prop:=∀ x∈w,0≤x∧x<k
structure BI (na nb oa ob:List (List Int)) (p0:Nat×Nat) (i:Nat) (L:PS):Prop where
  ok:∀ q∈L,q.1=pairW na nb p0 q.2∧difW na nb oa ob p0 q.2=false∧isWd na.length q.2
  so:L.Pairwise fun a b=>befP a.2 b.2=true
  par:∀ q∈L,q.2=[]∨∃ j<i,∃ y,q.2=(L.getD j ((0,0),[])).2 ++ [y]
  cl:∀ a<i,∀ x<na.length,difP oa ob (L.getD a ((0,0),[])).1 x=false∧∃ q∈L,q.1=stepP na nb (L.getD a ((0,0),[])).1 x∧leP q.2 ((L.getD a ((0,0),[])).2 ++ [(x:Int)])
  le:i≤L.length
  nil:∃ q∈L,q.1=p0∧q.2=[]
structure BV (na nb oa ob:List (List Int)) (p0:Nat×Nat) (i:Nat) (L:PS) (x:Nat) (L':PS):Prop where
  sub:∃ t,L'=L ++ t
  ok:∀ q∈L',q.1=pairW na nb p0 q.2∧difW na nb oa ob p0 q.2=false∧isWd na.length q.2
  so:L'.Pairwise fun a b=>befP a.2 b.2=true
  par:∀ q∈L',q.2=[]∨(∃ j<i,∃ y,q.2=(L.getD j ((0,0),[])).2 ++ [y])∨∃ y<x,q.2=(L.getD i ((0,0),[])).2 ++ [(y:Int)]
  cl:∀ y<x,∃ q∈L',q.1=stepP na nb (L.getD i ((0,0),[])).1 y∧leP q.2 ((L.getD i ((0,0),[])).2 ++ [(y:Int)])
end Go.Ab
namespace Go.Ab
section
variable {σ:Type} [DecidableEq σ] (δ:σ→Nat→Option σ)
def goG (p:σ):List Int→Option σ
  | []=>some p
  | x :: w=>match δ p x.toNat with
    | none=>none
    | some q=>goG q w
def hasG (L:List (σ×List Int)) (q:σ):Bool:=L.any fun p=>decide (p.1=q)
def visG (p:σ) (w:List Int):Nat→List (σ×List Int)→List (σ×List Int)
  | 0,L=>L
  | x+1,L=>match δ p x with
    | none=>visG p w x L
    | some q=>if hasG (visG p w x L) q=true then visG p w x L else visG p w x L ++ [(q,w ++ [(x:Int)])]
def runG (m:Nat) (d:σ×List Int):Nat→Nat→List (σ×List Int)→List (σ×List Int)
  | 0,_,L=>L
  | F+1,i,L=>if i<L.length then runG m d F (i+1) (visG δ (L.getD i d).1 (L.getD i d).2 m L) else L
theorem goG_snoc {w:List Int} {x:Int}:∀ {p:σ},goG δ p (w ++ [x])=(goG δ p w).bind fun q=>δ q x.toNat:=by
  induction w with
  | nil =>
    intro p
    simp only [List.nil_append,goG,Option.bind_some]
    cases δ p x.toNat <;> rfl
  | cons y w ih =>
    intro p
    simp only [List.cons_append,goG]
    cases δ p y.toNat with
    | none=>rfl
    | some q=>exact ih
theorem hasG_iff {L:List (σ×List Int)} {q:σ}:hasG L q=true↔∃ p∈L,p.1=q:=by
  simp only [hasG,List.any_eq_true,decide_eq_true_eq]
structure GI (D:σ→Prop) (m:Nat) (d:σ×List Int) (p0:σ) (i x:Nat) (L:List (σ×List Int)):Prop where
  so:L.Pairwise fun a b=>befP a.2 b.2=true
  up:i<L.length→∀ p∈L,∀ z:Int,(x:Int)≤z→befP p.2 ((L.getD i d).2 ++ [z])=true
  sd:∀ p∈L,goG δ p0 p.2=some p.1∧∀ y∈p.2,0≤y∧y<m
  rg:∀ p∈L,D p.1
  nd:(L.map (·.1)).Nodup
  cl:∀ j y q,(j<i∧y<m)∨(j=i∧y<x)→j<L.length→δ (L.getD j d).1 y=some q→∃ k,k<L.length∧(L.getD k d).1=q∧leP (L.getD k d).2 ((L.getD j d).2 ++ [(y:Int)])
  ze:∃ p∈L,p=(p0,[])
theorem appG_getD {L t:List (σ×List Int)} {i:Nat} {d:σ×List Int} (h:i<L.length):(L ++ t).getD i d=L.getD i d:=by
  rw [List.getD_eq_getElem?_getD,List.getElem?_append_left h,← List.getD_eq_getElem?_getD]
theorem lastG_getD {L:List (σ×List Int)} {p d:σ×List Int}:(L ++ [p]).getD L.length d=p:=by
  rw [List.getD_eq_getElem?_getD,List.getElem?_append_right (Nat.le_refl _),Nat.sub_self];rfl
variable {δ}
theorem GI0 {D:σ→Prop} {m:Nat} {d:σ×List Int} {p0:σ} (h:D p0):GI δ D m d p0 0 0 [(p0,[])] where
  so:=by simp
  up:=by
    intro _ p hp z _
    have:p=(p0,[]):=by simpa using hp
    subst this
    exact befP_len (by simp)
  sd:=by
    intro p hp
    have:p=(p0,[]):=by simpa using hp
    subst this
    exact ⟨rfl,by simp⟩
  rg:=by
    intro p hp
    have:p=(p0,[]):=by simpa using hp
    subst this;exact h
  nd:=by simp
  cl:=by intro j y q h;omega
  ze:=⟨(p0,[]),by simp,rfl⟩
theorem GI.next {D:σ→Prop} {m:Nat} {d:σ×List Int} {p0:σ} {i x:Nat} {L:List (σ×List Int)} (hD:∀ p y q,D p→y<m→δ p y=some q→D q) (h:GI δ D m d p0 i x L) (hi:i<L.length) (hx:x<m) :
    match δ (L.getD i d).1 x with
    | none=>GI δ D m d p0 i (x+1) L
    | some q=>if hasG L q=true then GI δ D m d p0 i (x+1) L else GI δ D m d p0 i (x+1) (L ++ [(q,(L.getD i d).2 ++ [(x:Int)])]):=by
  have hm:=yzk hi d
  cases hq:δ (L.getD i d).1 x with
  | none =>
    refine ⟨h.so,fun hi p hp z hz=>h.up hi p hp z (by omega),h.sd,h.rg,h.nd,fun j y q hj hjl hd=>?_,h.ze⟩
    by_cases e:j=i∧y=x
    · obtain ⟨rfl,rfl⟩:=e
      rw [hq] at hd;cases hd
    · exact h.cl j y q (by omega) hjl hd
  | some q =>
    simp only
    split
    · rename_i hh
      refine ⟨h.so,fun hi p hp z hz=>h.up hi p hp z (by omega),h.sd,h.rg,h.nd,fun j y q' hj hjl hd=>?_,h.ze⟩
      by_cases e:j=i∧y=x
      · obtain ⟨rfl,rfl⟩:=e
        rw [hq] at hd;cases hd
        obtain ⟨p,hp,rfl⟩:=(hasG_iff).1 hh
        obtain ⟨k,hk,hg⟩:=List.getElem_of_mem hp
        have hkd:L.getD k d=p:=by rw [List.getD_eq_getElem?_getD,List.getElem?_eq_getElem hk];exact hg
        exact ⟨k,hk,by rw [hkd],by rw [hkd];exact .inl (h.up hi p hp _ (Int.le_refl _))⟩
      · exact h.cl j y q' (by omega) hjl hd
    · rename_i hh
      have hgi:(L ++ [(q,(L.getD i d).2 ++ [(x:Int)])]).getD i d=L.getD i d:=appG_getD hi
      refine ⟨?_,?_,?_,?_,?_,?_,?_⟩
      · rw [List.pairwise_append]
        refine ⟨h.so,by simp,fun a ha b hb=>?_⟩
        have:b=(q,(L.getD i d).2 ++ [(x:Int)]):=by simpa using hb
        subst this
        exact h.up hi a ha _ (Int.le_refl _)
      · intro _ p hp z hz
        rw [hgi]
        rcases List.mem_append.1 hp with hp | hp
        · exact h.up hi p hp z (by omega)
        · have:p=(q,(L.getD i d).2 ++ [(x:Int)]):=by simpa using hp
          subst this
          exact befP_last (by omega)
      · intro p hp
        rcases List.mem_append.1 hp with hp | hp
        · exact h.sd p hp
        · have:p=(q,(L.getD i d).2 ++ [(x:Int)]):=by simpa using hp
          subst this
          obtain ⟨s1,s2⟩:=h.sd _ hm
          refine ⟨by rw [goG_snoc,s1];exact hq,fun y hy=>?_⟩
          rcases List.mem_append.1 hy with hy | hy
          · exact s2 y hy
          · have:y=(x:Int):=by simpa using hy
            omega
      · intro p hp
        rcases List.mem_append.1 hp with hp | hp
        · exact h.rg p hp
        · have:p=(q,(L.getD i d).2 ++ [(x:Int)]):=by simpa using hp
          subst this
          exact hD _ _ _ (h.rg _ hm) hx hq
      · rw [List.map_append,List.nodup_append]
        refine ⟨h.nd,by simp,fun a ha b hb e=>?_⟩
        have hb:b=q:=by simpa using hb
        obtain ⟨p,hp,rfl⟩:=List.mem_map.1 ha
        exact hh (hasG_iff.2 ⟨p,hp,by rw [e,hb]⟩)
      · intro j y q' hj hjl hd
        rw [List.length_append,List.length_singleton] at hjl
        by_cases e:j=i∧y=x
        · obtain ⟨rfl,rfl⟩:=e
          rw [hgi,hq] at hd;cases hd
          exact ⟨L.length,by simp,by rw [lastG_getD],by rw [lastG_getD,hgi];exact .inr rfl⟩
        · have hjl2:j<L.length:=by omega
          rw [appG_getD hjl2] at hd ⊢
          obtain ⟨k,k1,k2,k3⟩:=h.cl j y q' (by omega) hjl2 hd
          exact ⟨k,by rw [List.length_append];omega,by rw [appG_getD k1];exact k2,by rw [appG_getD k1];exact k3⟩
      · obtain ⟨p,hp,e⟩:=h.ze
        exact ⟨p,List.mem_append.2 (.inl hp),e⟩
theorem visG_pre {p:σ} {w:List Int}:∀ (x:Nat) (L:List (σ×List Int)),∃ t,visG δ p w x L=L ++ t
  | 0,L=>⟨[],by simp [visG]⟩
  | x+1,L=>by
    obtain ⟨t,h⟩:=visG_pre (p:=p) (w:=w) x L
    simp only [visG]
    cases δ p x with
    | none=>exact ⟨t,h⟩
    | some q =>
      simp only
      split
      · exact ⟨t,h⟩
      · exact ⟨t ++ [(q,w ++ [(x:Int)])],by rw [← List.append_assoc,← h]⟩
theorem GI.vis {D:σ→Prop} {m:Nat} {d:σ×List Int} {p0:σ} {i:Nat} {L:List (σ×List Int)} (hD:∀ p y q,D p→y<m→δ p y=some q→D q) (h:GI δ D m d p0 i 0 L) (hi:i<L.length) :
    ∀ x,x≤m→GI δ D m d p0 i x (visG δ (L.getD i d).1 (L.getD i d).2 x L)
  | 0,_=>h
  | x+1,hx=>by
    have h1:=GI.vis hD h hi x (by omega)
    obtain ⟨t,ht⟩:=visG_pre (δ:=δ) (p:=(L.getD i d).1) (w:=(L.getD i d).2) x L
    have hl:i<(visG δ (L.getD i d).1 (L.getD i d).2 x L).length:=by rw [ht,List.length_append];omega
    have hg:(visG δ (L.getD i d).1 (L.getD i d).2 x L).getD i d=L.getD i d:=by rw [ht];exact appG_getD hi
    have h2:=h1.next hD hl (by omega)
    rw [hg] at h2
    simp only [visG]
    cases hq:δ (L.getD i d).1 x with
    | none=>rw [hq] at h2;exact h2
    | some q =>
      rw [hq] at h2
      simp only at h2 ⊢
      split
      · rename_i hh;rw [if_pos hh] at h2;exact h2
      · rename_i hh;rw [if_neg hh] at h2;exact h2
theorem GI.succ {D:σ→Prop} {m:Nat} {d:σ×List Int} {p0:σ} {i:Nat} {L:List (σ×List Int)} (h:GI δ D m d p0 i m L):GI δ D m d p0 (i+1) 0 L:=by
  refine ⟨h.so,fun hi p hp z _=>?_,h.sd,h.rg,h.nd,fun j y q hj hjl hd=>h.cl j y q (by omega) hjl hd,h.ze⟩
  have h1:=h.up (by omega) p hp m (Int.le_refl _)
  refine befP_trans h1 (befP_snoc ?_)
  have:=List.pairwise_iff_getElem.1 h.so i (i+1) (by omega) hi (by omega)
  rw [List.getD_eq_getElem?_getD,List.getD_eq_getElem?_getD,List.getElem?_eq_getElem hi,List.getElem?_eq_getElem (show i<L.length by omega)]
  exact this
theorem runG_pre {m:Nat} {d:σ×List Int}:∀ (F i:Nat) (L:List (σ×List Int)),∃ t,runG δ m d F i L=L ++ t
  | 0,_,L=>⟨[],by simp [runG]⟩
  | F+1,i,L=>by
    simp only [runG]
    split
    · obtain ⟨t,h⟩:=visG_pre (δ:=δ) (p:=(L.getD i d).1) (w:=(L.getD i d).2) m L
      obtain ⟨t',h'⟩:=runG_pre (m:=m) (d:=d) F (i+1) (visG δ (L.getD i d).1 (L.getD i d).2 m L)
      exact ⟨t ++ t',by rw [h',h,List.append_assoc]⟩
    · exact ⟨[],by simp⟩
theorem GI.run {D:σ→Prop} {m N:Nat} {d:σ×List Int} {p0:σ} (hD:∀ p y q,D p→y<m→δ p y=some q→D q)
    (hN:∀ L:List (σ×List Int),(L.map (·.1)).Nodup→(∀ p∈L,D p.1)→L.length≤N):∀ (F i:Nat) (L:List (σ×List Int)),GI δ D m d p0 i 0 L→i≤L.length→N<F+i →
    GI δ D m d p0 (runG δ m d F i L).length 0 (runG δ m d F i L)
  | 0,i,L,h,hi,hF=>by
    have:=hN L h.nd h.rg
    omega
  | F+1,i,L,h,hi,hF=>by
    simp only [runG]
    split
    · rename_i hi1
      have h1:=(GI.vis hD h hi1 m (Nat.le_refl _)).succ
      obtain ⟨t,ht⟩:=visG_pre (δ:=δ) (p:=(L.getD i d).1) (w:=(L.getD i d).2) m L
      exact GI.run hD hN F (i+1) _ h1 (by rw [ht,List.length_append];omega) (by omega)
    · have:i=L.length:=by omega
      rw [← this];exact h
theorem GI.word {D:σ→Prop} {m:Nat} {d:σ×List Int} {p0:σ} {L:List (σ×List Int)} (h:GI δ D m d p0 L.length 0 L):∀ (k:Nat) (v:List Int),v.length=k→(∀ y∈v,0≤y∧y<m)→∀ q,goG δ p0 v=some q →
    ∃ j,j<L.length∧(L.getD j d).1=q∧leP (L.getD j d).2 v
  | 0,v,hk,_,q,hq=>by
    obtain rfl:v=[]:=List.eq_nil_of_length_eq_zero hk
    simp only [goG,Option.some.injEq] at hq
    obtain ⟨p,hp,e⟩:=h.ze
    obtain ⟨j,hj,hg⟩:=List.getElem_of_mem hp
    have hgd:L.getD j d=p:=by rw [List.getD_eq_getElem?_getD,List.getElem?_eq_getElem hj];exact hg
    exact ⟨j,hj,by rw [hgd,e];exact hq,by rw [hgd,e];exact .inr rfl⟩
  | k+1,v,hk,hv,q,hq=>by
    have hne:v≠[]:=fun e=>by rw [e] at hk;simp at hk
    have e:=List.dropLast_concat_getLast hne
    have hl:=hv _ (List.getLast_mem hne)
    have hq:goG δ p0 (v.dropLast ++ [v.getLast hne])=some q:=by rw [e];exact hq
    rw [goG_snoc] at hq
    cases hg:goG δ p0 v.dropLast with
    | none=>rw [hg] at hq;cases hq
    | some p =>
      rw [hg] at hq
      simp only [Option.bind_some] at hq
      obtain ⟨j,j1,j2,j3⟩:=GI.word h k v.dropLast (by rw [List.length_dropLast];omega) (fun y hy=>hv y (List.dropLast_subset v hy)) p hg
      obtain ⟨i,i1,i2,i3⟩:=h.cl j (v.getLast hne).toNat q (.inl ⟨j1,by omega⟩) j1 (by rw [j2];exact hq)
      refine ⟨i,i1,i2,leP_trans i3 ?_⟩
      have e2:(((v.getLast hne).toNat:Nat):Int)=v.getLast hne:=by omega
      rw [e2]
      have e3:leP ((L.getD j d).2 ++ [v.getLast hne]) (v.dropLast ++ [v.getLast hne]):=by
        rcases j3 with j3 | j3
        · exact .inl (befP_snoc j3)
        · rw [j3];exact .inr rfl
      rw [e] at e3;exact e3
theorem GI.first {D:σ→Prop} {m:Nat} {d:σ×List Int} {p0:σ} {L:List (σ×List Int)} (h:GI δ D m d p0 L.length 0 L) (g:σ→Bool) :
    match L.find? (fun p=>g p.1) with
    | some (q,w)=>goG δ p0 w=some q∧g q=true∧(∀ y∈w,0≤y∧y<m)∧∀ v:List Int,(∀ y∈v,0≤y∧y<m)→∀ q',goG δ p0 v=some q'→g q'=true→befP v w=false
    | none=>∀ v:List Int,(∀ y∈v,0≤y∧y<m)→∀ q',goG δ p0 v=some q'→g q'=false:=by
  cases hf:L.find? (fun p=>g p.1) with
  | none =>
    intro v hv q' hq'
    obtain ⟨j,j1,j2,_⟩:=h.word v.length v rfl hv q' hq'
    have:=List.find?_eq_none.1 hf _ (yzk j1 d)
    rw [j2] at this;simpa using this
  | some p =>
    obtain ⟨q,w⟩:=p
    have hm:=List.mem_of_find?_eq_some hf
    have hg:=List.find?_some hf
    obtain ⟨s1,s2⟩:=h.sd _ hm
    refine ⟨s1,hg,s2,fun v hv q' hq' hgq=>?_⟩
    obtain ⟨j,j1,j2,j3⟩:=h.word v.length v rfl hv q' hq'
    refine leP_not ?_
    refine leP_trans ?_ j3
    obtain ⟨_,la,lb,hab,hno⟩:=List.find?_eq_some_iff_append.1 hf
    have hj:la.length≤j:=by
      rcases Nat.lt_or_ge j la.length with hlt | hge
      · exfalso
        have hjm:L.getD j d∈la:=by
          rw [hab,List.getD_eq_getElem?_getD,List.getElem?_append_left hlt,List.getElem?_eq_getElem hlt]
          exact List.getElem_mem hlt
        have:=hno _ hjm
        rw [j2,hgq] at this;simp at this
      · exact hge
    have hla:la.length<L.length:=by omega
    have hgw:L.getD la.length d=(q,w):=by
      rw [hab,List.getD_eq_getElem?_getD,List.getElem?_append_right (Nat.le_refl _),Nat.sub_self];rfl
    rcases Nat.lt_or_ge la.length j with hlt | hge
    · have:=List.pairwise_iff_getElem.1 h.so la.length j hla j1 hlt
      have e1:L[la.length]=(q,w):=by rw [← hgw,List.getD_eq_getElem?_getD,List.getElem?_eq_getElem hla];rfl
      have e2:L[j]=L.getD j d:=by rw [List.getD_eq_getElem?_getD,List.getElem?_eq_getElem j1];rfl
      rw [e1,e2] at this
      exact .inl this
    · have:j=la.length:=by omega
      rw [this,hgw];exact .inr rfl
end
end Go.Ab
namespace Go.Ab
def pop (f:Nat):Nat:=(bitsN f).length
def parF (nr or:List Int) (o:Int) (D:List Nat):List Nat:=D.flatMap fun f=>(dvF nr or o (bitsTo f 10)).1
def clrF (nr or:List Int) (o:Int) (D:List Nat):Bool:=D.all fun f=>(dvF nr or o (bitsTo f 10)).2
def nrmF (ps:List Nat):List Nat:=(List.range 1024).filter fun f=>decide (f∈ps) && !smallN f
def dbtD (next out:List (List Int)) (o:Int) (tells:Bool) (D:List Nat) (x:Nat):Option (List Nat) :=
  if (tells && !(clrF (next.getD x []) (out.getD x []) o D))=true then none else some (nrmF (parF (next.getD x []) (out.getD x []) o D))
theorem nrmF_mem {ps:List Nat} {f:Nat} (hp:∀ f∈ps,f<1024):f∈nrmF ps↔f∈ps∧smallN f=false:=by
  simp only [nrmF,List.mem_filter,List.mem_range,Bool.and_eq_true,decide_eq_true_eq,Bool.not_eq_true']
  constructor
  · rintro ⟨_,h⟩;exact h
  · rintro ⟨h1,h2⟩;exact ⟨hp f h1,h1,h2⟩
theorem nrmF_lt (ps:List Nat):(nrmF ps).Pairwise (·<·):=List.Pairwise.filter _ List.pairwise_lt_range
theorem cast_SI {q:List Nat} (h:q.Pairwise (·<·)):SI (q.map fun (f:Nat)=>(f:Int)):=by
  unfold SI
  rw [List.pairwise_map]
  exact h.imp fun h=>by omega
theorem cast_mem {q:List Nat} {y:Int}:y∈(q.map fun (f:Nat)=>(f:Int))↔0≤y∧y.toNat∈q:=by
  rw [List.mem_map]
  constructor
  · rintro ⟨f,hf,rfl⟩;exact ⟨by omega,by simpa using hf⟩
  · rintro ⟨h0,h⟩;exact ⟨_,h,by omega⟩
theorem nrm_sorted {ps:List Nat} {ys:List Int} (hp:∀ f∈ps,f<1024) (h1:ys.Perm (ps.map fun (f:Nat)=>(f:Int))) (h2:ys.Pairwise (·≤·)) :
    (Lib.compact ys).filter (fun x=>!smI x)=(nrmF ps).map fun (f:Nat)=>(f:Int):=by
  obtain ⟨c1,c2⟩:=compact_sorted h2
  refine SI_ext (List.Pairwise.filter _ c1) (cast_SI (nrmF_lt ps)) fun y=>?_
  rw [List.mem_filter,c2,h1.mem_iff,cast_mem,cast_mem,nrmF_mem hp]
  constructor
  · rintro ⟨⟨h0,hm⟩,hs⟩
    refine ⟨h0,hm,?_⟩
    have h3:=smI_nat (hp _ hm)
    rw [show ((y.toNat:Nat):Int)=y by omega] at h3
    rw [h3] at hs
    simpa using hs
  · rintro ⟨h0,hm,hs⟩
    refine ⟨⟨h0,hm⟩,?_⟩
    have h3:=smI_nat (hp _ hm)
    rw [show ((y.toNat:Nat):Int)=y by omega] at h3
    rw [h3,hs];rfl
def putF (acc:List Int) (ps:List Nat):List Int:=ps.foldl (fun a f=>if smallN f=true then a else put a f) acc
theorem putF_spec:∀ {ps:List Nat} {acc:List Int},SI acc→SI (putF acc ps)∧∀ y,y∈putF acc ps↔y∈acc∨(0≤y∧y.toNat∈ps∧smallN y.toNat=false)
  | [],acc,h=>⟨h,fun y=>by simp [putF]⟩
  | p :: ps,acc,h=>by
    by_cases hs:smallN p=true
    · obtain ⟨a,b⟩:=putF_spec (ps:=ps) h
      have e:putF acc (p :: ps)=putF acc ps:=by simp only [putF,List.foldl_cons,hs,if_true]
      rw [e]
      refine ⟨a,fun y=>(b y).trans ?_⟩
      constructor
      · rintro (h | ⟨h1,h2,h3⟩)
        · exact .inl h
        · exact .inr ⟨h1,List.mem_cons_of_mem _ h2,h3⟩
      · rintro (h | ⟨h1,h2,h3⟩)
        · exact .inl h
        · rcases List.mem_cons.1 h2 with h4 | h4
          · rw [h4,hs] at h3;cases h3
          · exact .inr ⟨h1,h4,h3⟩
    · obtain ⟨a,b⟩:=putF_spec (ps:=ps) (put_SI (n:=(p:Int)) h)
      have e:putF acc (p :: ps)=putF (put acc p) ps:=by simp only [putF,List.foldl_cons,hs,Bool.false_eq_true,if_false]
      rw [e]
      refine ⟨a,fun y=>(b y).trans ?_⟩
      rw [put_mem]
      have hs':smallN p=false:=by simpa using hs
      constructor
      · rintro ((rfl | h) | ⟨h1,h2,h3⟩)
        · exact .inr ⟨by omega,by simp,by simpa using hs'⟩
        · exact .inl h
        · exact .inr ⟨h1,List.mem_cons_of_mem _ h2,h3⟩
      · rintro (h | ⟨h1,h2,h3⟩)
        · exact .inl (.inr h)
        · rcases List.mem_cons.1 h2 with h4 | h4
          · exact .inl (.inl (by omega))
          · exact .inr ⟨h1,h4,h3⟩
theorem putF_nrm {ps:List Nat} (hp:∀ f∈ps,f<1024):putF [] ps=(nrmF ps).map fun (f:Nat)=>(f:Int):=by
  obtain ⟨a,b⟩:=putF_spec (ps:=ps) (acc:=[]) (by simp [SI])
  refine SI_ext a (cast_SI (nrmF_lt ps)) fun y=>?_
  rw [b,cast_mem,nrmF_mem hp]
  simp
theorem putF_len:∀ {ps:List Nat} {acc:List Int},(putF acc ps).length≤acc.length+ps.length
  | [],acc=>by simp [putF]
  | p :: ps,acc=>by
    by_cases hs:smallN p=true
    · have:=putF_len (ps:=ps) (acc:=acc)
      simp only [putF,List.foldl_cons,hs,if_true,List.length_cons] at this ⊢;omega
    · have:=putF_len (ps:=ps) (acc:=put acc p)
      have h2:=put_len (n:=(p:Int)) (xs:=acc)
      simp only [putF,List.foldl_cons,hs,Bool.false_eq_true,if_false,List.length_cons] at this ⊢;omega
theorem count_or:∀ (l:List Nat) (a k:Nat),l.Nodup→(l.filter fun s=>(a ||| 2 ^ k).testBit s).length≤(l.filter fun s=>a.testBit s).length+(if k∈l then 1 else 0)
  | [],_,_,_=>by simp
  | s :: l,a,k,hd=>by
    rw [List.nodup_cons] at hd
    have ih:=count_or l a k hd.2
    have e:(a ||| 2 ^ k).testBit s=(a.testBit s || decide (k=s)):=by
      rw [Nat.testBit_or,Nat.testBit_two_pow]
    by_cases hs:k=s
    · subst hs
      rw [if_neg hd.1] at ih
      rw [if_pos (by simp),List.filter_cons,List.filter_cons,e]
      simp only [decide_true,Bool.or_true,if_true,List.length_cons]
      split
      · rw [List.length_cons];omega
      · omega
    · have hm:(k∈s :: l)↔k∈l:=by simp [hs]
      rw [List.filter_cons,List.filter_cons,e]
      simp only [hs,decide_false,Bool.or_false]
      have:(if k∈s :: l then 1 else 0)=if k∈l then 1 else 0:=by simp only [hm]
      rw [this]
      by_cases hb:a.testBit s=true
      · simp only [hb,if_true,List.length_cons];omega
      · simp only [hb,if_false];exact ih
theorem pop_or (a k:Nat):pop (a ||| 2 ^ k)≤pop a+1:=by
  have:=count_or (List.range 10) a k List.nodup_range
  unfold pop bitsN
  split at this <;> omega
theorem sum_set:∀ (l:List Nat) (i v:Nat),(l.set i v).sum+l.getD i 0≤l.sum+v
  | [],_,_=>by simp
  | a :: l,0,v=>by simp;omega
  | a :: l,i+1,v=>by
    have:=sum_set l i v
    simp only [List.set_cons_succ,List.sum_cons,List.getD_cons_succ];omega
theorem pop_zero:pop 0=0:=by decide
theorem sum_rep (n:Nat):((List.replicate n 0).map pop).sum=0:=by
  induction n with
  | zero=>rfl
  | succ n ih=>rw [List.replicate_succ,List.map_cons,List.sum_cons,ih,pop_zero]
theorem dvS_sum {nr or:List Int} {D:List Nat×Bool} {s:Int}:((dvS nr or D s).1.map pop).sum≤(D.1.map pop).sum+1:=by
  unfold dvS
  dsimp only
  generalize (or.getD s.toNat 0).toNat=i
  generalize (nr.getD s.toNat 0).toNat=k
  rw [List.map_set]
  have h1:=sum_set (D.1.map pop) i (pop (D.1.getD i 0 ||| 2 ^ k))
  have h2:=pop_or (D.1.getD i 0) k
  have h3:(D.1.map pop).getD i 0=pop (D.1.getD i 0):=by
    rw [List.getD_eq_getElem?_getD,List.getElem?_map,List.getD_eq_getElem?_getD]
    cases D.1[i]? with
    | none=>exact pop_zero.symm
    | some a=>rfl
  rw [h3] at h1;omega
theorem dvFold_sum {nr or:List Int}:∀ (S:List Int) (D:List Nat×Bool),((S.foldl (dvS nr or) D).1.map pop).sum≤(D.1.map pop).sum+S.length
  | [],D=>by simp
  | s :: S,D=>by
    have h1:=dvFold_sum (nr:=nr) (or:=or) S (dvS nr or D s)
    have h2:=dvS_sum (nr:=nr) (or:=or) (D:=D) (s:=s)
    rw [List.foldl_cons,List.length_cons];omega
theorem dvF_sum {nr or:List Int} {o:Int} {S:List Int}:((dvF nr or o S).1.map pop).sum≤S.length:=by
  have:=dvFold_sum (nr:=nr) (or:=or) S (List.replicate o.toNat 0,true)
  rw [sum_rep] at this
  unfold dvF;omega
theorem dvFold_len {nr or:List Int}:∀ (S:List Int) (D:List Nat×Bool),(S.foldl (dvS nr or) D).1.length=D.1.length
  | [],D=>rfl
  | s :: S,D=>by rw [List.foldl_cons,dvFold_len S];simp [dvS]
theorem dvF_len {nr or:List Int} {o:Int} {S:List Int}:(dvF nr or o S).1.length=o.toNat:=by
  unfold dvF;rw [dvFold_len];simp
theorem dvFold_lt {nr or:List Int} {n:Nat} (hr:∀ s∈nr,s.toNat<n) (hl:∀ D:List Nat×Bool,True):∀ (S:List Int) (D:List Nat×Bool),(∀ s∈S,s.toNat<nr.length)→(∀ g∈D.1,g<2 ^ n)→∀ g∈(S.foldl (dvS nr or) D).1,g<2 ^ n
  | [],D,_,h=>h
  | s :: S,D,hS,h=>by
    rw [List.foldl_cons]
    refine dvFold_lt hr hl S _ (fun s hs=>hS s (List.mem_cons_of_mem _ hs)) fun g hg=>?_
    unfold dvS at hg
    dsimp only at hg
    rcases List.mem_or_eq_of_mem_set hg with hg | rfl
    · exact h g hg
    · refine Nat.or_lt_two_pow ?_ (Nat.pow_lt_pow_right (by omega) (hr _ (yzk (hS s (by simp)) 0)))
      by_cases hi:(or.getD s.toNat 0).toNat<D.1.length
      · exact h _ (yzk hi 0)
      · rw [List.getD_eq_getElem?_getD,List.getElem?_eq_none (by omega)];exact Nat.two_pow_pos n
theorem dvF_lt {nr or:List Int} {o:Int} {n:Nat} {S:List Int} (hr:∀ s∈nr,s.toNat<n) (hS:∀ s∈S,s.toNat<nr.length):∀ g∈(dvF nr or o S).1,g<2 ^ n:=by
  refine dvFold_lt hr (fun _=>trivial) S _ hS fun g hg=>?_
  rw [(List.mem_replicate.1 hg).2];exact Nat.two_pow_pos n
theorem parF_len {nr or:List Int} {o:Int}:∀ {D:List Nat},(parF nr or o D).length=D.length * o.toNat
  | []=>by simp [parF]
  | f :: D=>by
    have:=parF_len (nr:=nr) (or:=or) (o:=o) (D:=D)
    unfold parF at this ⊢
    rw [List.flatMap_cons,List.length_append,this,dvF_len,List.length_cons,Nat.add_mul];omega
theorem parF_sum {nr or:List Int} {o:Int}:∀ {D:List Nat},((parF nr or o D).map pop).sum≤(D.map pop).sum
  | []=>by simp [parF]
  | f :: D=>by
    have h1:=parF_sum (nr:=nr) (or:=or) (o:=o) (D:=D)
    have h2:=dvF_sum (nr:=nr) (or:=or) (o:=o) (S:=bitsTo f 10)
    have h3:(bitsTo f 10).length=pop f:=by unfold bitsTo pop bitsN;simp
    unfold parF at h1 ⊢
    rw [List.flatMap_cons,List.map_append,List.sum_append,List.map_cons,List.sum_cons];omega
theorem sum_sub (g:Nat→Nat):∀ {q ps:List Nat},q.Nodup→(∀ f∈q,f∈ps)→(q.map g).sum≤(ps.map g).sum
  | [],_,_,_=>by simp
  | a :: q,ps,hd,h=>by
    rw [List.nodup_cons] at hd
    have ha:=h a (by simp)
    have h1:=(List.perm_cons_erase ha)
    have h2:(ps.map g).sum=((a :: ps.erase a).map g).sum:=(h1.map g).sum_nat
    rw [h2,List.map_cons,List.sum_cons,List.map_cons,List.sum_cons]
    have h3:=sum_sub g (q:=q) (ps:=ps.erase a) hd.2 fun f hf=>(List.mem_erase_of_ne (fun e=>hd.1 (by rw [← e];exact hf))).2 (h f (List.mem_cons_of_mem _ hf))
    omega
theorem len_sub {α:Type} [DecidableEq α]:∀ {q ps:List α},q.Nodup→(∀ f∈q,f∈ps)→q.length≤ps.length
  | [],_,_,_=>by simp
  | a :: q,ps,hd,h=>by
    rw [List.nodup_cons] at hd
    have ha:=h a (by simp)
    have h1:=(List.perm_cons_erase ha).length_eq
    have h3:=len_sub (q:=q) (ps:=ps.erase a) hd.2 fun f hf=>(List.mem_erase_of_ne (fun e=>hd.1 (by rw [← e];exact hf))).2 (h f (List.mem_cons_of_mem _ hf))
    rw [List.length_cons] at h1 ⊢;omega
theorem nfs_app {a b:List Nat}:nfs a ++ nfs b=nfs (a ++ b):=by simp
theorem parF_snoc {nr or:List Int} {o:Int} {D:List Nat} {j:Nat} (h:j<D.length):parF nr or o (D.take (j+1))=parF nr or o (D.take j) ++ (dvF nr or o (bitsTo (D.getD j 0) 10)).1:=by
  unfold parF
  rw [List.take_succ_eq_append_getElem h,List.flatMap_append,List.getD_eq_getElem?_getD,List.getElem?_eq_getElem h];simp
theorem clrF_snoc {nr or:List Int} {o:Int} {D:List Nat} {j:Nat} (h:j<D.length):clrF nr or o (D.take (j+1))=(clrF nr or o (D.take j) && (dvF nr or o (bitsTo (D.getD j 0) 10)).2):=by
  unfold clrF
  rw [List.take_succ_eq_append_getElem h,List.all_append,List.getD_eq_getElem?_getD,List.getElem?_eq_getElem h];simp
structure DB (n:Nat) (q:List Nat):Prop where
  lt:q.Pairwise (·<·)
  el:∀ f∈q,f<2 ^ n∧smallN f=false
  sm:(q.map pop).sum≤n
theorem two_sum:∀ {q:List Nat},(∀ f∈q,f<1024∧smallN f=false)→2 * q.length≤(q.map pop).sum
  | [],_=>by simp
  | f :: q,h=>by
    have h1:=two_sum (q:=q) fun g hg=>h g (List.mem_cons_of_mem _ hg)
    obtain ⟨h2,h3⟩:=h f (by simp)
    rw [small_bits f h2] at h3
    have:¬ (bitsN f).length≤1:=by simpa using h3
    rw [List.map_cons,List.sum_cons,List.length_cons]
    unfold pop at h1 ⊢;omega
theorem DB.len {n:Nat} {q:List Nat} (h:DB n q) (hn:n≤10):2 * q.length≤n:=by
  have hN:2 ^ n≤1024:=Nat.pow_le_pow_right (n:=2) (by omega) (show n≤10 by omega)
  have:=two_sum (q:=q) fun f hf=>⟨Nat.lt_of_lt_of_le (h.el f hf).1 hN,(h.el f hf).2⟩
  have:=h.sm;omega
theorem DB.nil (n:Nat):DB n []:=⟨by simp,by simp,by simp⟩
theorem parF_lt {nr or:List Int} {o:Int} {n:Nat} {D:List Nat} (hr:∀ s∈nr,s.toNat<n) (hnl:nr.length=n) (hD:∀ f∈D,f<2 ^ n):∀ g∈parF nr or o D,g<2 ^ n:=by
  intro g hg
  obtain ⟨f,hf,hg⟩:=List.mem_flatMap.1 hg
  refine dvF_lt hr (fun s hs=>?_) g hg
  obtain ⟨k,hk,rfl⟩:=List.mem_map.1 (show s∈(bitsN f).map (fun (s:Nat)=>(s:Int)) from hs)
  have h2:=Nat.ge_two_pow_of_testBit (mem_bits.1 hk).2
  have h3:k<n:=(Nat.pow_lt_pow_iff_right (a:=2) (by omega)).1 (Nat.lt_of_le_of_lt h2 (hD f hf))
  rw [hnl];omega
theorem DB.next {n:Nat} {q:List Nat} (h:DB n q) (hn:n≤10) {nr or:List Int} {o:Int} (hr:∀ s∈nr,s.toNat<n) (hnl:nr.length=n):DB n (nrmF (parF nr or o q)):=by
  have hN:2 ^ n≤1024:=Nat.pow_le_pow_right (n:=2) (by omega) (show n≤10 by omega)
  have hlt:=parF_lt (or:=or) (o:=o) hr hnl fun f hf=>(h.el f hf).1
  have hm:=fun f=>nrmF_mem (f:=f) fun g hg=>Nat.lt_of_lt_of_le (hlt g hg) hN
  refine ⟨nrmF_lt _,fun f hf=>⟨hlt f ((hm f).1 hf).1,((hm f).1 hf).2⟩,?_⟩
  have h1:=sum_sub pop (q:=nrmF (parF nr or o q)) (ps:=parF nr or o q) ((nrmF_lt _).imp fun h=>Nat.ne_of_lt h) fun f hf=>((hm f).1 hf).1
  have h2:=parF_sum (nr:=nr) (or:=or) (o:=o) (D:=q)
  have h3:=h.sm
  omega
theorem DB_all {n:Int} (n1:1≤n) (n2:n≤10) (hn:n > 1):DB n.toNat [2 ^ n.toNat - 1]:=by
  have key:∀ k:Fin 11,2≤k.val→smallN (2 ^ k.val - 1)=false∧pop (2 ^ k.val - 1)=k.val:=by decide +kernel
  obtain ⟨k1,k2⟩:=key ⟨n.toNat,by omega⟩ (by show 2≤n.toNat;omega)
  have hp:=Nat.two_pow_pos n.toNat
  refine ⟨by simp,fun f hf=>?_,?_⟩
  · rw [List.mem_singleton.1 hf];exact ⟨by omega,k1⟩
  · have k2:pop (2 ^ n.toNat - 1)=n.toNat:=k2
    simp [k2]
end Go.Ab
namespace Go.Ab
def pairI (n:Int) (p:List Int):Nat:=(fidx (fun q=>decide (q=p)) (every n) 0).toNat
def wocW (n:Int) (words:List (List Int)) (set:List Int):List Int:=words.getD (pairI n (set.take 2)) []
def wocR (n:Int) (next words:List (List Int)):Nat→List Int→List Int→List Int
  | 0,_,out=>out
  | F+1,set,out=>if set.length≤1 then out else wocR n next words F (imgL next set (wocW n words set)) (out ++ wocW n words set)
structure WS1 (n:Int) (set:List Int):Prop where
  si:SI set
  rg:∀ x∈set,0≤x∧x<n
end Go.Ab
namespace Go.Ab
open Go.Proofs
noncomputable def wocF (n:Int) (next words:List (List Int)):List Int:=wocR n next words n.toNat (allS n) []
structure WocI (n:Int) (next words:List (List Int)) (set out:List Int):Prop where
  ws:WS1 n set
  ln:out.length+400 * (set.length - 1)≤4000
  fu:∃ F,set.length≤F∧wocR n next words F set out=wocF n next words
end Go.Ab
namespace Go.Ab
open Go.Proofs
theorem fb_L {l:List (Nat×AVal)} {h:List (Nat×AObj)} {r i q v ver k':Nat} {nn':Bool} {cs cs':List AVal} (hr:L .gone h r=.box v cs) :
    St.fb ⟨L .any l,L .gone h⟩ r i q ver k' nn' cs'=⟨L .any l,L .gone ((r,.box v (cs.set i (.ro (frNm nn' cs'.length ver) k' cs'))) :: (q,.gone) :: h)⟩:=by
  have h2:∀ x,(if x=r then (match L .gone h r with | .box v cs=>AObj.box v (cs.set i (.ro (frNm nn' cs'.length ver) k' cs')) | o=>o) else if x=q then AObj.gone else L .gone h x)=L .gone ((r,.box v (cs.set i (.ro (frNm nn' cs'.length ver) k' cs'))) :: (q,.gone) :: h) x:=fun x=>by
    rw [hr]
    by_cases e:x=r
    · simp [L,e]
    · by_cases e2:x=q <;> simp [L,e,e2,Ne.symm e,eq_comm]
  exact congrArg (St.mk _) (funext h2)
theorem gwp_fb {gs:List GStep} {K:St→Prop} {l:List (Nat×AVal)} {h:List (Nat×AObj)} {r i q v ver k':Nat} {nn':Bool} {cs cs':List AVal} (hr:L .gone h r=.box v cs)
    (hi:cs[i]?=some (.own q ver)) (hqr:q≠r) (hq:L .gone h q=.row ver k' nn' cs') (hk:gwp gs K ⟨L .any l,L .gone ((r,.box v (cs.set i (.ro (frNm nn' cs'.length ver) k' cs'))) :: (q,.gone) :: h)⟩) :
    gwp (.fb r i q :: gs) K ⟨L .any l,L .gone h⟩:=⟨v,cs,ver,k',nn',cs',hr,hi,hqr,hq,by rw [fb_L hr];exact hk⟩
theorem sv_one {hp:Nat→AObj} {r:Nat} {s:Nat→Nat}:sv hp [r] s 0=((hp r).ver).getD 0:=by simp [sv]
def dkS (q:List Nat):ByteArray:=keyS (keyB q)
theorem keyS_of {b:ByteArray} {xs:List Int} (h:b.data.toList.map (fun c=>(c.toNat:Int))=xs):b=keyS xs:=by
  subst h
  obtain ⟨a⟩:=b
  unfold keyS
  congr 1
  apply Array.ext'
  simp only [List.map_map]
  symm
  have:∀ l:List UInt8,l.map ((fun (n:Int)=>UInt8.ofNat n.toNat) ∘ IntKind.u8.wrap ∘ fun (c:UInt8)=>(c.toNat:Int))=l:=by
    intro l
    induction l with
    | nil=>rfl
    | cons c l ih =>
      rw [List.map_cons,ih]
      congr 1
      simp only [Function.comp]
      have h1:=c.toNat_lt
      have h2:IntKind.u8.wrap (c.toNat:Int)=c.toNat:=by rw [IntKind.wrap_u8];omega
      rw [h2];simp
  exact this _
theorem keyB_inj:∀ {a b:List Nat},(∀ f∈a,f<1024)→(∀ f∈b,f<1024)→keyB a=keyB b→a=b
  | [],[],_,_,_=>rfl
  | [],g :: b,_,_,h=>by simp [keyB] at h
  | f :: a,[],_,_,h=>by simp [keyB] at h
  | f :: a,g :: b,ha,hb,h=>by
    unfold keyB at h
    simp only [List.flatMap_cons,List.cons_append,List.nil_append,List.cons.injEq] at h
    obtain ⟨h1,h2,h3⟩:=h
    have hf:=ha f (by simp)
    have hg:=hb g (by simp)
    have e:(2:Int) ^ min 8 64=256:=by decide
    rw [e,IntKind.wrap_u8,IntKind.wrap_u8,Int.fdiv_eq_ediv_of_nonneg _ (by omega),Int.fdiv_eq_ediv_of_nonneg _ (by omega)] at h1
    rw [IntKind.wrap_u8,IntKind.wrap_u8] at h2
    have:f=g:=by omega
    rw [this,keyB_inj (a:=a) (b:=b) (fun f h=>ha f (by simp [h])) (fun f h=>hb f (by simp [h])) h3]
theorem keyS_bytes {xs:List Int} (hx:∀ x∈xs,0≤x∧x<256):(keyS xs).data.toList.map (fun c=>(c.toNat:Int))=xs:=by
  simp only [keyS,List.map_map]
  induction xs with
  | nil=>rfl
  | cons x xs ih =>
    have h0:=hx x (by simp)
    have h1:=ih fun y hy=>hx y (by simp [hy])
    rw [List.map_cons,h1]
    congr 1
    simp only [Function.comp]
    have h2:IntKind.u8.wrap x=x:=by rw [IntKind.wrap_u8];omega
    rw [h2,UInt8.toNat_ofNat'];omega
theorem dkS_inj {a b:List Nat} (ha:∀ f∈a,f<1024) (hb:∀ f∈b,f<1024) (h:dkS a=dkS b):a=b:=by
  refine keyB_inj ha hb ?_
  rw [← keyS_bytes (keyB_in (fs:=a)),← keyS_bytes (keyB_in (fs:=b))]
  show (dkS a).data.toList.map _=(dkS b).data.toList.map _
  rw [h]
abbrev QS:=List (List Nat×List Int)
abbrev keysQ (L:QS):List Value:=L.map fun p=>Value.string (dkS p.1)
abbrev trueQ (L:QS):List AVal:=L.map fun _=>bv true
structure QI (n m:Nat) (L:QS):Prop where
  rg:∀ p∈L,DB n p.1
  wd:∀ p∈L,(∀ y∈p.2,0≤y∧y<m)∧p.2.length<L.length
  nd:(L.map (·.1)).Nodup
  ne:∀ i,0<i→i<L.length→(L.getD i ([],[])).2≠[]
  z:∃ q t,L=(q,[]) :: t
theorem QI.lt {n m:Nat} {L:QS} (h:QI n m L) (hn:n≤10):∀ p∈L,∀ f∈p.1,f<1024:=fun p hp f hf =>
  Nat.lt_of_lt_of_le ((h.rg p hp).el f hf).1 (Nat.pow_le_pow_right (n:=2) (by omega) (show n≤10 by omega))
theorem fkQ_not {q:List Nat} (hq:∀ f∈q,f<1024):∀ {L:QS} (i:Nat),(∀ p∈L,∀ f∈p.1,f<1024)→hasG L q=false→findKeyAt (.string (dkS q)) (keysQ L) i=some none
  | [],_,_,_=>rfl
  | p :: L,i,hl,h=>by
    simp only [hasG,List.any_cons,Bool.or_eq_false_iff,decide_eq_false_iff_not] at h
    have h1:(dkS q == dkS p.1)=false:=by
      cases hb:(dkS q == dkS p.1) with
      | false=>rfl
      | true=>exact absurd (dkS_inj hq (hl p (by simp)) (ba_eq hb)).symm h.1
    have h2:=fkQ_not hq (L:=L) (i+1) (fun p hp=>hl p (by simp [hp])) h.2
    simp only [List.map_cons,findKeyAt,sameKey,h1]
    exact h2
theorem fkQ_mem {q:List Nat} (hq:∀ f∈q,f<1024):∀ {L:QS} (i:Nat),(∀ p∈L,∀ f∈p.1,f<1024)→hasG L q=true→∃ j,findKeyAt (.string (dkS q)) (keysQ L) i=some (some (i+j))∧j<L.length
  | [],_,_,h=>by cases h
  | p :: L,i,hl,h=>by
    by_cases e:p.1=q
    · refine ⟨0,?_,by simp⟩
      have h1:(dkS q == dkS p.1)=true:=by rw [e];exact ba_self _
      simp only [List.map_cons,findKeyAt,sameKey,h1,Nat.add_zero]
    · simp only [hasG,List.any_cons,e,decide_false,Bool.false_or] at h
      have h1:(dkS q == dkS p.1)=false:=by
        cases hb:(dkS q == dkS p.1) with
        | false=>rfl
        | true=>exact absurd (dkS_inj hq (hl p (by simp)) (ba_eq hb)).symm e
      obtain ⟨j,h2,h3⟩:=fkQ_mem hq (L:=L) (i+1) (fun p hp=>hl p (by simp [hp])) h
      refine ⟨j+1,?_,by simp;omega⟩
      simp only [List.map_cons,findKeyAt,sameKey,h1]
      rw [h2];congr 2;omega
def wA (w:List Int):AVal:=if w=[] then .val (.slice none 0 0) else .ro (some none) 1 (ints w)
def dcl (L:QS):List AVal:=L.flatMap fun p=>[.ro (some none) 1 (nfs p.1),wA p.2]
theorem dcl_len:∀ {L:QS},(dcl L).length=2 * L.length
  | []=>rfl
  | p :: L=>by
    have:=dcl_len (L:=L)
    unfold dcl at this ⊢
    rw [List.flatMap_cons,List.length_append,this,List.length_cons];simp;omega
theorem wA_cases (w:List Int):wA w=.val (.slice none 0 0)∨wA w=.ro (some none) 1 (ints w):=by
  unfold wA;split
  · exact .inl rfl
  · exact .inr rfl
theorem dcl_mem {L:QS} {A:AVal} (h:A∈dcl L):(∃ q,A=.ro (some none) 1 (nfs q))∨(∃ w,A=.ro (some none) 1 (ints w))∨A=.val (.slice none 0 0):=by
  obtain ⟨p,_,h⟩:=List.mem_flatMap.1 h
  rcases List.mem_cons.1 h with rfl | h
  · exact .inl ⟨_,rfl⟩
  · rw [List.mem_singleton.1 h]
    rcases wA_cases p.2 with e | e
    · exact .inr (.inr e)
    · exact .inr (.inl ⟨_,e⟩)
theorem dnL_dcl {L:QS}:dnL (dcl L)=dcl L:=by
  rw [dnL_eq]
  have h:(dcl L).map AVal.dn=(dcl L).map id:=List.map_congr_left fun A hA=>by
    rcases dcl_mem hA with ⟨q,rfl⟩ | ⟨w,rfl⟩ | rfl
    · simp [AVal.dn,dnL_eq,dnNm]
    · simp [AVal.dn,dnL_eq,dnNm]
    · rfl
  rw [h,List.map_id]
theorem one_dcl {hp:Nat→AObj} {L:QS}:(∀ A∈dcl L,One hp A)=True:=by
  refine eq_true fun A hA=>?_
  rcases dcl_mem hA with ⟨q,rfl⟩ | ⟨w,rfl⟩ | rfl
  · trivial
  · trivial
  · rfl
theorem frz_dcl {hp:Nat→AObj} {L:QS}:(dcl L).map (frz hp)=dcl L:=by
  have h:(dcl L).map (frz hp)=(dcl L).map id:=List.map_congr_left fun A hA=>by
    rcases dcl_mem hA with ⟨q,rfl⟩ | ⟨w,rfl⟩ | rfl <;> rfl
  rw [h,List.map_id]
theorem owned_dcl {L:QS}:owned (dcl L)=[]:=by
  refine List.eq_nil_iff_forall_not_mem.2 fun r hr=>?_
  obtain ⟨v,hv⟩:=owned_mem.1 hr
  rcases dcl_mem hv with ⟨q,h⟩ | ⟨w,h⟩ | h <;> cases h
theorem dcl_snoc {L:QS} {q:List Nat} {w:List Int} (hw:w≠[]):dcl L ++ [.ro (some none) 1 (nfs q),.ro (some none) 1 (ints w)]=dcl (L ++ [(q,w)]):=by
  simp [dcl,wA,hw]
theorem hasG_nil {L:QS} (h:∀ p∈L,p.1≠[]):hasG L []=false:=by
  cases hh:hasG L [] with
  | false=>rfl
  | true =>
    obtain ⟨p,hp,e⟩:=hasG_iff.1 hh
    exact absurd e (h p hp)
theorem trueQ_getD {L:QS} {j:Nat} (h:j<L.length):(trueQ L).getD j .any=bv true:=by
  rw [List.getD_eq_getElem?_getD,List.getElem?_map,List.getElem?_eq_getElem h];rfl
theorem dcl_get:∀ {L:QS} {i:Nat},i<L.length→(dcl L).getD (i * 2) .any=.ro (some none) 1 (nfs (L.getD i ([],[])).1)∧(dcl L).getD (i * 2+1) .any=wA (L.getD i ([],[])).2
  | [],_,h=>by simp at h
  | p :: L,0,_=>⟨rfl,rfl⟩
  | p :: L,i+1,h=>by
    have ih:=dcl_get (L:=L) (i:=i) (by simpa using h)
    have e:∀ j,(dcl (p :: L)).getD (j+2) .any=(dcl L).getD j .any:=fun j=>rfl
    rw [show (i+1) * 2=i * 2+2 by omega,show i * 2+2+1=i * 2+1+2 by omega,e,e]
    exact ih
theorem dnL_snocD {L:QS} {q:List Nat} {w:List Int} {a b:Nat} (hw:w≠[]) :
    dnL (dcl L ++ [.ro (some (some (a+1))) 1 (nfs q),.ro (some (some (b+1))) 1 (ints w)])=dcl (L ++ [(q,w)]):=by
  rw [← dcl_snoc hw,dnL_eq,List.map_append,← dnL_eq,dnL_dcl]
  congr 1
  simp [AVal.dn,dnL_eq,dnNm]
theorem dnL_trueQ {L:QS}:dnL (L.map fun _=>bv true)=L.map fun _=>bv true:=by
  rw [dnL_eq,List.map_map];rfl
attribute [go_sem] dnL_trueQ dnL_dcl one_dcl frz_dcl owned_dcl dcl_len
abbrev visQ (next out:List (List Int)) (o:Int) (tl:Bool) (D:List Nat) (w:List Int) (x:Nat) (L:QS):QS:=visG (dbtD next out o tl) D w x L
theorem visQ_none {next out:List (List Int)} {o:Int} {tl:Bool} {D:List Nat} {w:List Int} {x:Nat} {L:QS} (h:dbtD next out o tl D x=none):visQ next out o tl D w (x+1) L=visQ next out o tl D w x L:=by
  simp only [visQ,visG,h]
theorem visQ_some {next out:List (List Int)} {o:Int} {tl:Bool} {D q:List Nat} {w:List Int} {x:Nat} {L:QS} (h:dbtD next out o tl D x=some q) :
    visQ next out o tl D w (x+1) L=if hasG (visQ next out o tl D w x L) q=true then visQ next out o tl D w x L else visQ next out o tl D w x L ++ [(q,w ++ [(x:Int)])]:=by
  simp only [visQ,visG,h]
theorem dbt_DB {n o:Int} {next out:List (List Int)} (M:Mach n o next out) {tl:Bool} {q q':List Nat} {x:Nat} (h:DB n.toNat q) (hx:x<next.length) (e:dbtD next out o tl q x=some q'):DB n.toNat q':=by
  unfold dbtD at e
  split at e
  · cases e
  · simp only [Option.some.injEq] at e
    subst e
    have hr:=M.aut.row _ (yzk hx [])
    have n1:=M.aut.n1
    have n2:=M.aut.n2
    exact h.next (by omega) (fun s hs=>by have:=hr.2 s hs;omega) (by omega)
theorem QI.snoc {n m:Nat} {L:QS} (h:QI n m L) {q:List Nat} {w:List Int} {x:Nat} (hq:DB n q) (hx:x<m) (hw:(∀ y∈w,0≤y∧y<m)∧w.length<L.length) (hn:hasG L q=false):QI n m (L ++ [(q,w ++ [(x:Int)])]) where
  rg:=fun p hp=>by
    rcases List.mem_append.1 hp with hp | hp
    · exact h.rg p hp
    · rw [List.mem_singleton.1 hp];exact hq
  wd:=fun p hp=>by
    rw [List.length_append,List.length_singleton]
    rcases List.mem_append.1 hp with hp | hp
    · have:=h.wd p hp;exact ⟨this.1,by omega⟩
    · rw [List.mem_singleton.1 hp]
      refine ⟨fun y hy=>?_,by rw [List.length_append,List.length_singleton];omega⟩
      rcases List.mem_append.1 hy with hy | hy
      · exact hw.1 y hy
      · rw [List.mem_singleton.1 hy];omega
  nd:=by
    rw [List.map_append,List.nodup_append]
    refine ⟨h.nd,by simp,fun a ha b hb e=>?_⟩
    have hb:b=q:=by simpa using hb
    obtain ⟨p,hp,rfl⟩:=List.mem_map.1 ha
    have:hasG L q=true:=hasG_iff.2 ⟨p,hp,by rw [e,hb]⟩
    rw [hn] at this;cases this
  ne:=fun i h0 hi=>by
    rw [List.length_append,List.length_singleton] at hi
    by_cases e:i<L.length
    · rw [appG_getD e];exact h.ne i h0 e
    · obtain rfl:i=L.length:=by omega
      rw [lastG_getD];simp
  z:=by
    obtain ⟨q0,t,e⟩:=h.z
    exact ⟨q0,t ++ [(q,w ++ [(x:Int)])],by rw [e];rfl⟩
theorem QI0 {n m:Nat} {q:List Nat} (h:DB n q):QI n m [(q,[])] where
  rg:=fun p hp=>by rw [List.mem_singleton.1 hp];exact h
  wd:=fun p hp=>by rw [List.mem_singleton.1 hp];simp
  nd:=by simp
  ne:=fun i h0 hi=>by simp at hi;omega
  z:=⟨q,[],rfl⟩
theorem visQ_ok {n o:Int} {next out:List (List Int)} (M:Mach n o next out) {tl:Bool} {L:QS} (h:QI n.toNat next.length L) {i:Nat} (hi:i<L.length) :
    ∀ x,x≤next.length→QI n.toNat next.length (visQ next out o tl (L.getD i ([],[])).1 (L.getD i ([],[])).2 x L)∧∃ t,visQ next out o tl (L.getD i ([],[])).1 (L.getD i ([],[])).2 x L=L ++ t
  | 0,_=>⟨h,[],by simp [visQ,visG]⟩
  | x+1,hx=>by
    obtain ⟨h1,t,ht⟩:=visQ_ok M h hi x (by omega)
    have hm:=yzk hi ([],([]:List Int))
    cases hd:dbtD next out o tl (L.getD i ([],[])).1 x with
    | none=>rw [visQ_none hd];exact ⟨h1,t,ht⟩
    | some q =>
      rw [visQ_some hd]
      split
      · exact ⟨h1,t,ht⟩
      · rename_i hh
        have hw:=h.wd _ hm
        refine ⟨h1.snoc (dbt_DB M (h.rg _ hm) (by omega) hd) (by omega) ⟨hw.1,?_⟩ (by simpa using hh),t ++ [(q,(L.getD i ([],[])).2 ++ [(x:Int)])],?_⟩
        · rw [ht,List.length_append];omega
        · rw [ht,List.append_assoc]
theorem visG_ext {σ:Type} [DecidableEq σ] {δ:σ→Nat→Option σ} {p:σ} {w:List Int} {L:List (σ×List Int)} {x:Nat}:∀ (k:Nat),∃ t,visG δ p w (x+k) L=visG δ p w x L ++ t
  | 0=>⟨[],by simp⟩
  | k+1=>by
    obtain ⟨t,h⟩:=visG_ext (δ:=δ) (p:=p) (w:=w) (L:=L) (x:=x) k
    rw [← Nat.add_assoc]
    simp only [visG]
    cases δ p (x+k) with
    | none=>exact ⟨t,h⟩
    | some q =>
      simp only
      split
      · exact ⟨t,h⟩
      · exact ⟨t ++ [(q,w ++ [((x+k:Nat):Int)])],by rw [h,List.append_assoc]⟩
def qT (T:QS):Option (List Int):=((T.take 2001).find? fun p=>p.1.isEmpty).map (·.2)
def qC (T:QS):Int:=if (qT T).isSome=true then 0 else if T.length > 2000 then 3 else 6
theorem qT_some {L t T:QS} {w:List Int} (hT:T=L ++ ([],w) :: t) (hl:L.length≤2000) (hn:∀ p∈L,p.1≠[]):qT T=some w:=by
  subst hT
  unfold qT
  rw [List.take_append,List.take_of_length_le (by omega),List.find?_append]
  have h1:L.find? (fun p=>p.1.isEmpty)=none:=List.find?_eq_none.2 fun p hp=>by simpa using hn p hp
  obtain ⟨k,hk⟩:∃ k,2001 - L.length=k+1:=⟨2000 - L.length,by omega⟩
  rw [h1,hk,List.take_succ_cons]
  rfl
theorem qT_lim {L t T:QS} (hT:T=L ++ t) (hl:L.length=2001) (hn:∀ p∈L,p.1≠[]):qT T=none∧qC T=3:=by
  subst hT
  have h1:qT (L ++ t)=none:=by
    unfold qT
    rw [List.take_append,List.take_of_length_le (by omega),hl,Nat.sub_self,List.take_zero,List.append_nil]
    rw [List.find?_eq_none.2 fun p hp=>by simpa using hn p hp];rfl
  refine ⟨h1,?_⟩
  unfold qC
  rw [h1,if_neg (by simp),if_pos (by rw [List.length_append];omega)]
theorem qT_end {T:QS} (hl:T.length≤2000) (hn:∀ p∈T,p.1≠[]):qT T=none∧qC T=6:=by
  have h1:qT T=none:=by
    unfold qT
    rw [List.take_of_length_le (by omega),List.find?_eq_none.2 fun p hp=>by simpa using hn p hp];rfl
  refine ⟨h1,?_⟩
  unfold qC
  rw [h1,if_neg (by simp),if_neg (by omega)]
abbrev dbtT (next out:List (List Int)) (o:Int) (tl:Bool) (n:Int) (F:Nat):QS:=runG (dbtD next out o tl) next.length ([],[]) F 0 [([2 ^ n.toNat - 1],[])]
def Enough (n F:Nat):Prop:=∀ L:QS,(L.map (·.1)).Nodup→(∀ p∈L,DB n p.1)→L.length<F
end Go.Ab
namespace Go.Ab
end Go.Ab
namespace Go.Ab
open Go.Proofs
theorem i_andW {x y:Nat} (hx:x<4611686018427387904) (hy:y<4611686018427387904) :
    IntKind.i64.wrap ((@HAnd.hAnd (BitVec 64) (BitVec 64) (BitVec 64) (@instHAndOfAndOp (BitVec IntKind.i64.bits) (@BitVec.instAndOp IntKind.i64.bits)) (BitVec.ofInt 64 (x:Int)) (BitVec.ofInt 64 (y:Int))).toNat)=((x &&& y:Nat):Int):=by
  have h:(BitVec.ofInt 64 (x:Int) &&& BitVec.ofInt 64 (y:Int)).toNat=x &&& y:=by rw [BitVec.toNat_and,bv64 (by omega),bv64 (by omega)]
  show IntKind.i64.wrap ((BitVec.ofInt 64 (x:Int) &&& BitVec.ofInt 64 (y:Int)).toNat:Int)=_
  rw [h]
  have:=Nat.lt_of_le_of_lt (Nat.and_le_left (n:=x) (m:=y)) hx
  exact w64 (by omega)
theorem i_orW {x y:Nat} (hx:x<4611686018427387904) (hy:y<4611686018427387904) :
    IntKind.i64.wrap ((@HOr.hOr (BitVec 64) (BitVec 64) (BitVec 64) (@instHOrOfOrOp (BitVec IntKind.i64.bits) (@BitVec.instOrOp IntKind.i64.bits)) (BitVec.ofInt 64 (x:Int)) (BitVec.ofInt 64 (y:Int))).toNat)=((x ||| y:Nat):Int):=by
  have h:(BitVec.ofInt 64 (x:Int) ||| BitVec.ofInt 64 (y:Int)).toNat=x ||| y:=by rw [BitVec.toNat_or,bv64 (by omega),bv64 (by omega)]
  show IntKind.i64.wrap ((BitVec.ofInt 64 (x:Int) ||| BitVec.ofInt 64 (y:Int)).toNat:Int)=_
  rw [h]
  have:=Nat.or_lt_two_pow (n:=62) (x:=x) (y:=y) hx hy
  exact w64 (by omega)
theorem j_and1 {x:Nat} (hx:x<4611686018427387904) :
    IntKind.i64.wrap ((@HAnd.hAnd (BitVec 64) (BitVec 64) (BitVec 64) (@instHAndOfAndOp (BitVec IntKind.i64.bits) (@BitVec.instAndOp IntKind.i64.bits)) (BitVec.ofInt 64 (x:Int)) (BitVec.ofInt 64 1)).toNat)=((x &&& 1:Nat):Int):=i_andW (y:=1) hx (by omega)
theorem j_shl {a b:Nat} (h:b<64) (hl:a * 2 ^ b<4611686018427387904):IntKind.i64.wrap ((a:Int) * 2 ^ min b 64)=((a * 2 ^ b:Nat):Int):=by
  have h1:min b 64=b:=by omega
  have h2:(2:Int) ^ b=((2 ^ b:Nat):Int):=by simp
  rw [h1,h2,← Int.natCast_mul]
  exact w64 (by omega)
theorem i_shl1 {b:Nat} (h:b<62):IntKind.i64.wrap (1 * 2 ^ min b 64)=((2 ^ b:Nat):Int):=by
  have:=j_shl (a:=1) (b:=b) (by omega) (by rw [Nat.one_mul];exact Nat.pow_lt_pow_right (a:=2) (n:=62) (by omega) h)
  rw [Nat.one_mul] at this;exact this
theorem bit_eq {f s:Nat}:((((f >>> s &&& 1:Nat):Int)) == 1)=f.testBit s:=by
  rw [Nat.testBit_eq_decide_div_mod_eq,Nat.and_one_is_mod,Nat.shiftRight_eq_div_pow,Bool.eq_iff_iff,beq_iff_eq,decide_eq_true_iff]
  generalize f / 2 ^ s % 2=q
  omega
theorem bit_eq0 {f s:Nat}:((((f >>> s &&& 1:Nat):Int)) == 0)=!f.testBit s:=by
  rw [← bit_eq]
  have h:f >>> s &&& 1=0∨f >>> s &&& 1=1:=by rw [Nat.and_one_is_mod];omega
  rcases h with h | h <;> rw [h] <;> rfl
theorem shr_lt {f s k:Nat} (h:f<k):f >>> s<k:=by rw [Nat.shiftRight_eq_div_pow];exact Nat.lt_of_le_of_lt (Nat.div_le_self _ _) h
end Go.Ab
namespace Go.Ab
open Go.Proofs
abbrev nis (fs:List Nat):List AVal:=intsK .i64 (fs.map fun (f:Nat)=>(f:Int))
theorem nis_getD {fs:List Nat} {i:Nat} (h:i<fs.length):(nis fs).getD i .any=iv ((fs.getD i 0:Nat):Int):=by
  rw [yzl (by rw [List.length_map];exact h)]
  congr 3
  rw [List.getD_eq_getElem?_getD,List.getElem?_map,List.getD_eq_getElem?_getD,List.getElem?_eq_getElem h];rfl
theorem k_l06Split (n o:Int) (next out:List (List Int)) (M:Mach n o next out) (f x:Nat) (hf:f<2 ^ n.toNat) (hx:x<next.length) :
    Fn Tryz.prog nz4y [machP n o next out,iv f,iv x] fun rows res=>∃ v,rows=[.row v 1 true (nis (dvF (next.getD x []) (out.getD x []) o (bitsTo f 10)).1)]∧res=.tup [.own 6000 v,bv (dvF (next.getD x []) (out.getD x []) o (bitsTo f 10)).2]:=by
  refine con_of mixed czoq rfl (by simp) ?_
  have hxo:x<out.length:=by rw [M.len];exact hx
  have ra:=M.aut.row _ (yzk hx [])
  have ro:=M.row _ (yzk hxo [])
  have hgn:=rwn_getD hx
  have hgo:=rwn_getD hxo
  have n1:=M.aut.n1
  have n2:=M.aut.n2
  have o1:=M.o1
  have o2:=M.o2
  have hN:2 ^ n.toNat≤1024:=Nat.pow_le_pow_right (n:=2) (by omega) (show n.toNat≤10 by omega)
  have hall:=bitsTo_add hf (10 - n.toNat)
  rw [show n.toNat+(10 - n.toNat)=10 by omega] at hall
  rw [hall]
  generalize next.getD x []=nr at ra hgn ⊢
  generalize out.getD x []=orr at ro hgo ⊢
  generalize hQ:finQ _=Q
  simp only [Az98,Bzl7,Bzl6,Bzl5,go_sem,yz0,xx9,xx8,xx6,xx7,xx5,xx0,xx1,xx2,reduceIte,xx3,xx4,reduceCtorEq]
  intro vs
  refine ⟨⟨by omega,Int.le_refl _,by omega,by omega⟩,?_⟩
  have hrep:intsK .i64 (List.replicate o.toNat 0)=nis (dvF nr orr o (bitsTo f 0)).1:=by
    unfold dvF
    simp [bitsTo]
  simp only [Bzl3,go_sem,yz0,xx9,xx8,xx6,xx7,xx5,xx0,xx1,xx2,reduceIte,xx3,xx4,reduceCtorEq]
  refine wpD_lo (fun t=>n.toNat - t) (fun t=>(t:Int)≤n∧(dvF nr orr o (bitsTo f t)).1.length=o.toNat∧∀ g∈(dvF nr orr o (bitsTo f t)).1,g<1024)
    (fun (t:Nat)=>⟨L .any [(0,machP n o next out),(1,iv f),(2,iv x),(8,.own 17 (vs 4 0)),(9,bv (dvF nr orr o (bitsTo f t)).2),(10,iv t)],L .gone [(17,.row (vs 4 0) 1 true (nis (dvF nr orr o (bitsTo f t)).1))]⟩)
    0 ⟨by simp;omega,by simp [dvF,bitsTo],by simp [dvF,bitsTo]⟩ (by simp only [Bzr,hrep,go_sem,yz0,xx9,xx8,xx6,xx7,xx5,xx0,xx1,xx2,reduceIte,xx3,xx4,reduceCtorEq];try rfl) ?_
  rintro t ⟨ht,hl,hb⟩
  by_cases htl:(t:Int)<n
  · have hsh:=u_shr (f:=f) (s:=t) (by omega)
    have hand:=j_and1 (x:=f >>> t) (by have:=shr_lt (s:=t) hf;omega)
    have hcv:IntKind.u64.wrap ((t:Nat):Int)=t:=u64w (by omega)
    have ht0:¬ ((t:Nat):Int)<0:=by omega
    have w1:IntKind.i64.wrap ((t:Int)+1)=((t+1:Nat):Int):=by rw [w64 (by omega)];simp
    have hdn2:dnL (nis (dvF nr orr o (bitsTo f t)).1)=nis (dvF nr orr o (bitsTo f t)).1:=dnL_ints
    cases hbt:f.testBit t with
    | false =>
      have hbit:((((f >>> t &&& 1:Nat):Int)) == 0)=true:=by rw [bit_eq0,hbt];rfl
      have hsu:bitsTo f (t+1)=bitsTo f t:=by rw [bitsTo_succ,hbt];rfl
      simp only [Bzr,Bz3i,Bz97,Bz95,Bz3k,decide_eq_true htl,hcv,ht0,Int.toNat_natCast,hsh,hand,hbit,w1,hdn2,go_sem,yz0,xx9,xx8,xx6,xx7,xx5,xx0,xx1,xx2,reduceIte,xx3,xx4,reduceCtorEq]
      exact ⟨t+1,by omega,⟨by omega,by rw [hsu];exact hl,by rw [hsu];exact hb⟩,by rw [hsu]⟩
    | true =>
      have hbit:((((f >>> t &&& 1:Nat):Int)) == 0)=false:=by rw [bit_eq0,hbt];rfl
      have hsn:dvF nr orr o (bitsTo f (t+1))=dvS nr orr (dvF nr orr o (bitsTo f t)) t:=by
        rw [bitsTo_succ,if_pos hbt];unfold dvF;rw [List.foldl_append];rfl
      generalize dvF nr orr o (bitsTo f t)=D at hl hb hsn hdn2 ⊢
      obtain ⟨D1,D2⟩:=D
      unfold dvS at hsn
      have hs1:t<nr.length:=by omega
      have hs2:t<orr.length:=by omega
      have hto:=ra.2 _ (yzk hs1 0)
      have hbo:=ro.2 _ (yzk hs2 0)
      have hg1:=yzl (k:=.i64) hs1
      have hg2:=yzl (k:=.i64) hs2
      rw [Int.toNat_natCast] at hsn
      obtain ⟨to,hto0⟩:∃ q:Nat,nr.getD t 0=q:=⟨(nr.getD t 0).toNat,by omega⟩
      obtain ⟨b,hb0⟩:∃ q:Nat,orr.getD t 0=q:=⟨(orr.getD t 0).toNat,by omega⟩
      rw [hto0] at hto hg1 hsn
      rw [hb0] at hbo hg2 hsn
      rw [Int.toNat_natCast,Int.toNat_natCast] at hsn
      have hcq:IntKind.u64.wrap (to:Int)=to:=u64w (by omega)
      have hq0:¬ ((to:Nat):Int)<0:=by omega
      have hsl:=i_shl1 (b:=to) (by omega)
      have hl:D1.length=o.toNat:=hl
      have hbl:b<D1.length:=by omega
      have hgl:D1.getD b 0<1024:=hb _ (yzk hbl 0)
      have h2t:2 ^ to<1024:=by
        have:=Nat.pow_le_pow_right (n:=2) (by omega) (show to≤9 by omega)
        omega
      have hD1g:=nis_getD hbl
      have hand2:=i_andW (x:=D1.getD b 0) (y:=2 ^ to) (by omega) (by omega)
      have hor2:=i_orW (x:=D1.getD b 0) (y:=2 ^ to) (by omega) (by omega)
      have hz:(((D1.getD b 0 &&& 2 ^ to:Nat):Int) == 0)=Nat.beq (D1.getD b 0 &&& 2 ^ to) 0:=by
        rw [Bool.eq_iff_iff,beq_iff_eq,Nat.beq_eq];omega
      have hset:List.take b (nis D1) ++ [iv ((D1.getD b 0 ||| 2 ^ to:Nat):Int)] ++ List.drop (b+1) (nis D1)=nis (D1.set b (D1.getD b 0 ||| 2 ^ to)):=by
        rw [List.set_eq_take_append_cons_drop,if_pos hbl]
        simp [List.map_take,List.map_drop]
      have hdt:dnL (List.take b (nis D1))=List.take b (nis D1):=by rw [← List.map_take];exact dnL_ints
      have hdd:dnL (List.drop (b+1) (nis D1))=List.drop (b+1) (nis D1):=by rw [← List.map_drop];exact dnL_ints
      have hln:(D1.set b (D1.getD b 0 ||| 2 ^ to)).length=o.toNat:=by rw [List.length_set];exact hl
      have hbn:∀ g∈D1.set b (D1.getD b 0 ||| 2 ^ to),g<1024:=fun g hg=>by
        rcases List.mem_or_eq_of_mem_set hg with h | rfl
        · exact hb g h
        · exact Nat.or_lt_two_pow (n:=10) hgl h2t
      simp only [Bzr,Bz3i,Bz97,Bz95,Bzl2,Bzl1,Bz3j,decide_eq_true htl,hcv,ht0,Int.toNat_natCast,hsh,hand,hbit,hgn,hgo,hg1,hg2,hcq,hq0,hsl,w1,hdn2,go_sem,yz0,xx9,xx8,xx6,xx7,xx5,xx0,xx1,xx2,reduceIte,xx3,xx4,reduceCtorEq]
      refine ⟨⟨by omega,hx⟩,hx,⟨by omega,hs1⟩,hs1,?_⟩
      refine ⟨⟨by omega,hxo⟩,hxo,⟨by omega,hs2⟩,hs2,?_⟩
      cases D2 with
      | true =>
        simp only [hD1g,hand2,hor2,hz,Bz3j,Bz96,Bz3k,w1,List.length_map,hdt,hdd,go_sem,yz0,xx9,xx8,xx6,xx7,xx5,xx0,xx1,xx2,reduceIte,xx3,xx4,reduceCtorEq]
        exact ⟨⟨by omega,hbl⟩,hbl,⟨by omega,hbl⟩,hbl,⟨by omega,hbl⟩,by omega,t+1,by omega,⟨by omega,by rw [hsn];exact hln,by rw [hsn];exact hbn⟩,by rw [hsn,hset,Bool.true_and]⟩
      | false =>
        simp only [hD1g,hand2,hor2,hz,Bz3j,Bz96,Bz3k,w1,List.length_map,hdt,hdd,go_sem,yz0,xx9,xx8,xx6,xx7,xx5,xx0,xx1,xx2,reduceIte,xx3,xx4,reduceCtorEq]
        exact ⟨⟨by omega,hbl⟩,hbl,⟨by omega,hbl⟩,by omega,t+1,by omega,⟨by omega,by rw [hsn];exact hln,by rw [hsn];exact hbn⟩,by rw [hsn,hset,Bool.false_and]⟩
  · obtain rfl:t=n.toNat:=by omega
    simp only [Bzr,Bz3i,Bzl4,decide_eq_false htl,Az98,← hQ,go_sem,yz0,xx9,xx8,xx6,xx7,xx5,xx0,xx1,xx2,reduceIte,xx3,xx4,reduceCtorEq]
    refine ⟨[17],by simp,by simp,by simp,?_⟩
    simp only [range1,List.length_singleton,Nat.not_lt_zero,range1,yzx,yz10,yz1c,yz1b,yzz,yz19,yz1a,yz18,yzy,yzu,yzi,yz5,yzs,yzt,yzp,yzn,yzq,yzb,yzc,yz8,yz7,yzg,yzh,yz2,yz9,yza,yz6,yzj,yzf,List.range_zero,yz4,yz3,yzd,yzr,yzm,yzo,AVal.fresh,freshL,yz1,yze,AObj.fresh,id,Option.isSome_some,or_true,true_or,go_sem,yz0,xx9,xx8,xx6,xx7,xx5,xx0,xx1,xx2,reduceIte,xx3,xx4,reduceCtorEq]
    exact ⟨_,rfl,rfl⟩
theorem i_low {p:Nat} (hp:p<1024) :
    IntKind.i64.wrap ((@HAnd.hAnd (BitVec 64) (BitVec 64) (BitVec 64) (@instHAndOfAndOp (BitVec IntKind.i64.bits) (@BitVec.instAndOp IntKind.i64.bits)) (BitVec.ofInt 64 (p:Int)) (BitVec.ofInt 64 (IntKind.i64.wrap ((p:Int) - 1)))).toNat)=((p &&& (p - 1):Nat):Int):=by
  by_cases h0:p=0
  · subst h0;rfl
  · have e:IntKind.i64.wrap ((p:Int) - 1)=((p - 1:Nat):Int):=by rw [w64 (by omega)];omega
    rw [e];exact i_andW (by omega) (by omega)
theorem i_low0 {p:Nat}:((((p &&& (p - 1):Nat):Int)) != 0)=!smallN p:=by
  unfold smallN
  generalize p &&& (p - 1)=z
  cases z with
  | zero=>rfl
  | succ z=>simp [bne,Nat.beq];omega
theorem putF_snoc {acc:List Int} {ps:List Nat} {k:Nat} (h:k<ps.length):putF acc (ps.take (k+1))=if smallN (ps.getD k 0)=true then putF acc (ps.take k) else put (putF acc (ps.take k)) (ps.getD k 0:Nat):=by
  unfold putF
  rw [List.take_succ_eq_append_getElem h,List.foldl_append,List.getD_eq_getElem?_getD,List.getElem?_eq_getElem h];rfl
theorem putF_app {acc:List Int} {ps qs:List Nat}:putF acc (ps ++ qs)=putF (putF acc ps) qs:=by unfold putF;rw [List.foldl_append]
theorem clrF_false {nr or:List Int} {o:Int} {D:List Nat} {k:Nat} (h:clrF nr or o (D.take k)=false):clrF nr or o D=false:=by
  rw [← List.take_append_drop k D]
  unfold clrF at h ⊢
  rw [List.all_append,h];rfl
theorem k_l06Doubt (n o:Int) (next out:List (List Int)) (M:Mach n o next out) (tl:Bool) (D:List Nat) (x:Nat) (hD:DB n.toNat D) (hx:x<next.length) :
    Fn Tryz.prog nz4r [machP n o next out,.ro none 1 (nis D),iv x,bv tl] fun rows res=>∃ v xs,rows=[.row v 1 true (ints xs)] ∧
      match dbtD next out o tl D x with | none=>res=.tup [.own 6000 v,bv false] | some q=>xs=q.map (fun (f:Nat)=>(f:Int))∧res=.tup [.own 6000 v,bv true]:=by
  refine con_of mixed cznk rfl (by simp) ?_
  have n1:=M.aut.n1
  have n2:=M.aut.n2
  have o1:=M.o1
  have o2:=M.o2
  have hN:2 ^ n.toNat≤1024:=Nat.pow_le_pow_right (n:=2) (by omega) (show n.toNat≤10 by omega)
  have hlen:=hD.len (by omega)
  have ra:=M.aut.row _ (yzk hx [])
  have hd0:dbtD next out o tl D x=if (tl && !(clrF (next.getD x []) (out.getD x []) o D))=true then none else some (nrmF (parF (next.getD x []) (out.getD x []) o D)):=rfl
  have hsp:=fun f=>k_l06Split n o next out M f x
  have hplt:=parF_lt (nr:=next.getD x []) (or:=out.getD x []) (o:=o) (n:=n.toNat) (D:=D) (fun s hs=>by have:=ra.2 s hs;omega) (by omega) fun f hf=>(hD.el f hf).1
  have hpl:=parF_len (nr:=next.getD x []) (or:=out.getD x []) (o:=o) (D:=D)
  generalize next.getD x []=nr at ra hd0 hsp hplt hpl
  generalize out.getD x []=orr at hd0 hsp hplt hpl
  generalize hQ:finQ _=Q
  simp only [Az38,Bzj5,Bzj4,Bzj2,go_sem,yz0,xx9,xx8,xx6,xx7,xx5,xx0,xx1,xx2,reduceIte,xx3,xx4,reduceCtorEq]
  intro vs
  refine wpD_lm (fun (_,i)=>D.length - i) (fun (_,i)=>i≤D.length∧(tl=true→clrF nr orr o (D.take i)=true))
    (fun ((v,i):Nat×Nat)=>⟨L .any [(0,machP n o next out),(1,.ro none 1 (nis D)),(2,iv x),(3,bv tl),(10,.own 15 v),(11,iv i)],L .gone [(15,.row v 1 true (ints (putF [] (parF nr orr o (D.take i)))))]⟩)
    (_,0) (by simp [clrF]) (by intro u;simp only [Bz37,go_sem,yz0,xx9,xx8,xx6,xx7,xx5,xx0,xx1,xx2,reduceIte,xx3,xx4,reduceCtorEq];try rfl) ?_
  rintro ⟨v,i⟩ ⟨hi,hcl⟩
  have hi:i≤D.length:=hi
  by_cases hlt:(i:Int)<D.length
  · have hlt1:i<D.length:=by omega
    have wi:IntKind.i64.wrap ((i:Int)+1)=((i+1:Nat):Int):=by rw [w64 (by omega)];simp
    have hfi:=hD.el _ (yzk hlt1 0)
    have hgi:=nis_getD hlt1
    have hps:=parF_snoc (nr:=nr) (or:=orr) (o:=o) hlt1
    have hcs:=clrF_snoc (nr:=nr) (or:=orr) (o:=o) hlt1
    have hpb:i * o.toNat≤5 * 3:=Nat.mul_le_mul (by omega) (by omega)
    have hpi:=parF_len (nr:=nr) (or:=orr) (o:=o) (D:=D.take i)
    rw [List.length_take,Nat.min_eq_left hi] at hpi
    have hol:=putF_len (ps:=parF nr orr o (D.take i)) (acc:=[])
    have hdl:=dvF_len (nr:=nr) (or:=orr) (o:=o) (S:=bitsTo (D.getD i 0) 10)
    have hpm:∀ g∈(dvF nr orr o (bitsTo (D.getD i 0) 10)).1,g<1024:=fun g hg=>by
      refine Nat.lt_of_lt_of_le (hplt g ?_) hN
      exact List.mem_flatMap.2 ⟨D.getD i 0,yzk hlt1 0,hg⟩
    simp only [Bz37,Bz89,Bzj1,decide_eq_true hlt,hgi,List.length_map,go_sem,yz0,xx9,xx8,xx6,xx7,xx5,xx0,xx1,xx2,reduceIte,xx3,xx4,reduceCtorEq]
    refine fun hM vs2=>⟨⟨by omega,hlt1⟩,hlt1,?_⟩
    refine call_fn (hsp _ hfi.1 hx) qCS (fun e=>by cases e) ?_
    rintro rows res ⟨v29,rfl,rfl⟩
    refine ⟨by simp,(fun k hk=>by obtain rfl:k=0:=(by simpa using hk);rfl),?_⟩
    generalize dvF nr orr o (bitsTo (D.getD i 0) 10)=dv at hps hcs hdl hpm ⊢
    by_cases hbad:(tl && !dv.2)=true
    · obtain ⟨ht,hv⟩:tl=true∧dv.2=false:=by revert hbad;cases tl <;> cases dv.2 <;> simp
      subst ht
      rw [hv,Bool.and_false] at hcs
      have hcf:=clrF_false hcs
      rw [hcf] at hd0
      simp only [Bool.not_false,Bool.and_self,if_true] at hd0
      simp only [hv,Bz8e,Bz8a,Az38,← hQ,Nat.not_lt_zero,range1,yzx,yz10,yz1c,yz1b,yzz,yz19,yz1a,yz18,yzy,yzu,yzi,yz5,yzs,yzt,yzp,yzn,yzq,yzb,yzc,yz8,yz7,yzg,yzh,yz2,yz9,yza,yz6,yzj,yzf,List.range_zero,yz4,yz3,yzd,yzr,yzm,yzo,AVal.fresh,freshL,yz1,yze,AObj.fresh,id,Option.isSome_some,or_true,true_or,go_sem,yz0,xx9,xx8,xx6,xx7,xx5,xx0,xx1,xx2,reduceIte,xx3,xx4,reduceCtorEq]
      refine ⟨[15],by simp,by simp,by simp,?_⟩
      simp only [range1,List.length_singleton,Nat.not_lt_zero,range1,yzx,yz10,yz1c,yz1b,yzz,yz19,yz1a,yz18,yzy,yzu,yzi,yz5,yzs,yzt,yzp,yzn,yzq,yzb,yzc,yz8,yz7,yzg,yzh,yz2,yz9,yza,yz6,yzj,yzf,List.range_zero,yz4,yz3,yzd,yzr,yzm,yzo,AVal.fresh,freshL,yz1,yze,AObj.fresh,id,Option.isSome_some,or_true,true_or,go_sem,yz0,xx9,xx8,xx6,xx7,xx5,xx0,xx1,xx2,reduceIte,xx3,xx4,reduceCtorEq]
      exact ⟨_,_,rfl,by rw [hd0]⟩
    · have hgo:tl=false∨tl=true∧dv.2=true:=by revert hbad;cases tl <;> cases dv.2 <;> simp
      have hcl2:tl=true→clrF nr orr o (D.take (i+1))=true:=fun e=>by
        rcases hgo with h | h
        · rw [h] at e;cases e
        · rw [hcs,hcl e,h.2];rfl
      have hv:tl=false∨(tl=true∧dv.2=true):=hgo
      rcases hgo with htl | ⟨htl,hv⟩ <;> (
        simp only [htl,hv,Bz8e,Bz8a,Bziz,Bziy,Nat.not_lt_zero,range1,yzx,yz10,yz1c,yz1b,yzz,yz19,yz1a,yz18,yzy,yzu,yzi,yz5,yzs,yzt,yzp,yzn,yzq,yzb,yzc,yz8,yz7,yzg,yzh,yz2,yz9,yza,yz6,yzj,yzf,List.range_zero,yz4,yz3,yzd,yzr,yzm,yzo,AVal.fresh,freshL,yz1,yze,AObj.fresh,id,Option.isSome_some,or_true,true_or,go_sem,yz0,xx9,xx8,xx6,xx7,xx5,xx0,xx1,xx2,reduceIte,xx3,xx4,reduceCtorEq]
        refine wpD_lm (fun (_,k)=>dv.1.length - k) (fun (_,k)=>k≤dv.1.length)
          (fun ((v,k):Nat×Nat)=>⟨L .any [(0,machP n o next out),(1,.ro none 1 (nis D)),(2,iv x),(3,bv tl),(10,.own 15 v),(11,iv i),(12,.own 29 (vs2 6 v29)),(14,iv k)],
            L .gone [(15,.row v 1 true (ints (putF (putF [] (parF nr orr o (D.take i))) (dv.1.take k)))),(29,.row (vs2 6 v29) 1 true (nis dv.1))]⟩)
          (_,0) (by simp) (by intro u;simp only [Bz36,htl,go_sem,yz0,xx9,xx8,xx6,xx7,xx5,xx0,xx1,xx2,reduceIte,xx3,xx4,reduceCtorEq];try rfl) ?_
        rintro ⟨v,k⟩ hk
        have hk:k≤dv.1.length:=hk
        by_cases hkl:(k:Int)<dv.1.length
        · have hkl1:k<dv.1.length:=by omega
          have wk:IntKind.i64.wrap ((k:Int)+1)=((k+1:Nat):Int):=by rw [w64 (by omega)];simp
          have hgk:=nis_getD hkl1
          have hsn:=putF_snoc (acc:=putF [] (parF nr orr o (D.take i))) hkl1
          have hlow:=i_low (hpm _ (yzk hkl1 0))
          have hlow0:=i_low0 (p:=dv.1.getD k 0)
          have hol2:=putF_len (ps:=dv.1.take k) (acc:=putF [] (parF nr orr o (D.take i)))
          rw [List.length_take] at hol2
          simp only [Bz36,Bz8b,Bzix,decide_eq_true hkl,hgk,hlow,hlow0,List.length_map,go_sem,yz0,xx9,xx8,xx6,xx7,xx5,xx0,xx1,xx2,reduceIte,xx3,xx4,reduceCtorEq]
          refine fun hM2=>⟨⟨by omega,hkl1⟩,hkl1,⟨by omega,hkl1⟩,hkl1,?_⟩
          cases hs:smallN (dv.1.getD k 0) with
          | true =>
            rw [hs,if_pos rfl] at hsn
            simp only [Bz8c,Bz8d,Bool.not_true,wk,go_sem,yz0,xx9,xx8,xx6,xx7,xx5,xx0,xx1,xx2,reduceIte,xx3,xx4,reduceCtorEq]
            exact ⟨dv.1.length - (k+1),by omega,(v,k+1),rfl,by dsimp only;omega,by rw [hsn]⟩
          | false =>
            rw [hs,if_neg (by simp)] at hsn
            simp only [Bz8c,Bool.not_false,hgk,go_sem,yz0,xx9,xx8,xx6,xx7,xx5,xx0,xx1,xx2,reduceIte,xx3,xx4,reduceCtorEq]
            refine fun vs3=>⟨⟨by omega,hkl1⟩,hkl1,?_⟩
            refine call_rowI (k_l00Put (putF (putF [] (parF nr orr o (D.take i))) (dv.1.take k)) (dv.1.getD k 0:Nat) (by simp only [List.length_nil] at hol;omega)) qCS rfl ⟨_,rfl⟩ ?_
            rintro ys v' rfl
            simp only [Bz8d,wk,go_sem,yz0,xx9,xx8,xx6,xx7,xx5,xx0,xx1,xx2,reduceIte,xx3,xx4,reduceCtorEq]
            exact ⟨dv.1.length - (k+1),by omega,fun u=>⟨(u,k+1),rfl,by dsimp only;omega,by rw [hsn]⟩⟩
        · obtain rfl:k=dv.1.length:=by omega
          have hpe:putF (putF [] (parF nr orr o (D.take i))) dv.1=putF [] (parF nr orr o (D.take (i+1))):=by rw [hps,putF_app]
          simp only [Bz36,Bz8b,Bzj0,decide_eq_false hkl,List.take_length,List.length_map,hpe,wi,htl,go_sem,yz0,xx9,xx8,xx6,xx7,xx5,xx0,xx1,xx2,reduceIte,xx3,xx4,reduceCtorEq]
          intro hM2
          refine ⟨D.length - (i+1),by omega,(v,i+1),rfl,?_,rfl⟩
          first
            | exact ⟨by dsimp only;omega,hcl2 htl⟩
            | (dsimp only;omega))
  · obtain rfl:i=D.length:=by omega
    have hcl:tl=true→clrF nr orr o D=true:=fun e=>by have:=hcl e;rwa [List.take_length] at this
    have hd1:dbtD next out o tl D x=some (nrmF (parF nr orr o D)):=by
      rw [hd0,if_neg]
      cases tl with
      | false=>simp
      | true=>rw [hcl rfl];simp
    have hpn:=putF_nrm (ps:=parF nr orr o D) fun g hg=>Nat.lt_of_lt_of_le (hplt g hg) hN
    simp only [Bz37,Bz89,Bzj3,decide_eq_false hlt,List.take_length,List.length_map,Az38,← hQ,go_sem,yz0,xx9,xx8,xx6,xx7,xx5,xx0,xx1,xx2,reduceIte,xx3,xx4,reduceCtorEq]
    intro hM
    refine ⟨[15],by simp,by simp,by simp,?_⟩
    simp only [range1,List.length_singleton,Nat.not_lt_zero,range1,yzx,yz10,yz1c,yz1b,yzz,yz19,yz1a,yz18,yzy,yzu,yzi,yz5,yzs,yzt,yzp,yzn,yzq,yzb,yzc,yz8,yz7,yzg,yzh,yz2,yz9,yza,yz6,yzj,yzf,List.range_zero,yz4,yz3,yzd,yzr,yzm,yzo,AVal.fresh,freshL,yz1,yze,AObj.fresh,id,Option.isSome_some,or_true,true_or,go_sem,yz0,xx9,xx8,xx6,xx7,xx5,xx0,xx1,xx2,reduceIte,xx3,xx4,reduceCtorEq]
    exact ⟨_,_,rfl,by rw [hd1];exact ⟨hpn,rfl⟩⟩
end Go.Ab
namespace Go.Ab
open Go.Proofs
theorem k_isNaNF (x:Int):Fun Tryz.prog nz1o [.val (.int .u64 x)] (bv false):=by
  refine fun_of mixed cztf rfl ⟨rfl,trivial⟩ ?_
  have h:(x != x)=false:=by simp
  simp only [Bzls,Azlt,h,go_sem,yz0,xx9,xx8,xx6,xx7,xx5,xx0,xx1,xx2,reduceIte,xx3,xx4,reduceCtorEq]
  try (intros;trivial)
theorem k_LessF (x y:Int):Fun Tryz.prog nz0 [.val (.int .u64 x),.val (.int .u64 y)] (bv (decide (x<y))):=by
  refine fun_of mixed czra rfl ⟨rfl,trivial⟩ ?_
  simp only [Bzlq,Azlr,go_sem,yz0,xx9,xx8,xx6,xx7,xx5,xx0,xx1,xx2,reduceIte,xx3,xx4,reduceCtorEq]
  intro vs
  refine yzv (k_isNaNF x) qCS trivial ?_
  simp only [go_sem,yz0,xx9,xx8,xx6,xx7,xx5,xx0,xx1,xx2,reduceIte,xx3,xx4,reduceCtorEq]
  try (intros;trivial)
theorem intsK_putK {k:IntKind} {xs:List Int} {i:Nat} {v:Int}:(intsK k xs).take i ++ [AVal.val (.int k v)] ++ (intsK k xs).drop (i+1)=intsK k (xs.take i ++ [v] ++ xs.drop (i+1)):=by
  simp [List.map_take,List.map_drop]
theorem lput_lenF {xs:List Int} {i:Nat} {v:Int} (h:i<xs.length):(xs.take i ++ [v] ++ xs.drop (i+1)).length=xs.length:=by
  simp only [List.length_append,List.length_take,List.length_drop,List.length_cons,List.length_nil];omega
def InsI (xs:List Int) (i j:Nat) (ys:List Int):Prop:=∃ A v B C,ys=A ++ v :: (B ++ C)∧A.length=j∧A.length+B.length=i∧(A ++ B).Pairwise (·≤·)∧(∀ b∈B,v≤b)∧ys.Perm xs
def InsO (xs:List Int) (i:Nat) (ys:List Int):Prop:=(ys.take i).Pairwise (·≤·)∧ys.Perm xs
theorem InsO.inner {xs ys:List Int} {i:Nat} (h:InsO xs i ys) (hi:i<ys.length):InsI xs i i ys:=by
  refine ⟨ys.take i,ys.getD i 0,[],ys.drop (i+1),?_,by rw [List.length_take];omega,by rw [List.length_take,List.length_nil];omega,by rw [List.append_nil];exact h.1,by simp,h.2⟩
  have:ys.drop i=ys.getD i 0 :: ys.drop (i+1):=by
    rw [List.drop_eq_getElem_cons hi,List.getD_eq_getElem?_getD,List.getElem?_eq_getElem hi];rfl
  rw [List.nil_append,← this,List.take_append_drop]
theorem InsI.last {xs ys:List Int} {i j:Nat} (h:InsI xs i j ys) (hj:0<j):∃ A x v B C,ys=A ++ x :: v :: (B ++ C)∧A.length=j - 1∧ys.getD j 0=v∧ys.getD (j - 1) 0=x ∧
    (¬ v<x→InsO xs (i+1) ys)∧(v<x→InsI xs i (j - 1) (A ++ v :: x :: (B ++ C))):=by
  obtain ⟨A0,v,B,C,rfl,hA,hi,hs,hb,hp⟩:=h
  obtain ⟨A,x,rfl⟩:∃ A x,A0=A ++ [x]:=⟨A0.dropLast,A0.getLast (by intro e;rw [e] at hA;simp at hA;omega),(List.dropLast_concat_getLast _).symm⟩
  rw [List.length_append,List.length_singleton] at hA hi
  have e:A ++ [x] ++ v :: (B ++ C)=A ++ x :: v :: (B ++ C):=by simp
  rw [e] at hp ⊢
  refine ⟨A,x,v,B,C,rfl,by omega,?_,?_,fun hv=>⟨?_,hp⟩,fun hv=>⟨A,v,x :: B,C,by simp,by omega,by rw [List.length_cons];omega,by simpa using hs,?_,?_⟩⟩
  · rw [List.getD_eq_getElem?_getD,List.getElem?_append_right (by omega),show j - A.length=1 by omega];rfl
  · rw [List.getD_eq_getElem?_getD,List.getElem?_append_right (by omega),show j - 1 - A.length=0 by omega];rfl
  · have ht:(A ++ x :: v :: (B ++ C)).take (i+1)=A ++ [x] ++ v :: B:=by
      rw [show A ++ x :: v :: (B ++ C)=(A ++ [x] ++ v :: B) ++ C by simp,List.take_left' (by simp;omega)]
    rw [ht]
    rw [List.pairwise_append] at hs ⊢
    refine ⟨hs.1,List.pairwise_cons.2 ⟨hb,hs.2.1⟩,fun a ha b hb2=>?_⟩
    have hax:a≤x:=by
      rcases List.mem_append.1 ha with h | h
      · exact (List.pairwise_append.1 hs.1).2.2 a h x (by simp)
      · rw [List.mem_singleton.1 h];exact Int.le_refl _
    rcases List.mem_cons.1 hb2 with rfl | h
    · omega
    · exact hs.2.2 a ha b h
  · intro b hb2
    rcases List.mem_cons.1 hb2 with rfl | h
    · omega
    · exact hb b h
  · exact (List.Perm.append_left A (List.Perm.swap x v _)).trans hp
theorem InsI.zero {xs ys:List Int} {i:Nat} (h:InsI xs i 0 ys):InsO xs (i+1) ys:=by
  obtain ⟨A,v,B,C,rfl,hA,hi,hs,hb,hp⟩:=h
  obtain rfl:=List.eq_nil_of_length_eq_zero hA
  refine ⟨?_,hp⟩
  simp only [List.nil_append,List.length_nil,Nat.zero_add] at hs hi ⊢
  rw [show v :: (B ++ C)=(v :: B) ++ C from rfl,List.take_left' (by rw [List.length_cons];omega)]
  exact List.pairwise_cons.2 ⟨hb,hs⟩
theorem swap_put {A B:List Int} {x v:Int} {j:Nat} (h:A.length=j - 1) (hj:0<j) :
    (((A ++ x :: v :: B).take j ++ [x] ++ (A ++ x :: v :: B).drop (j+1)).take (j - 1) ++ [v] ++ ((A ++ x :: v :: B).take j ++ [x] ++ (A ++ x :: v :: B).drop (j+1)).drop (j - 1+1))=A ++ v :: x :: B:=by
  have e1:(A ++ x :: v :: B).take j=A ++ [x]:=by rw [show A ++ x :: v :: B=(A ++ [x]) ++ v :: B by simp,List.take_left' (by simp;omega)]
  have e2:(A ++ x :: v :: B).drop (j+1)=B:=by rw [show A ++ x :: v :: B=(A ++ [x,v]) ++ B by simp,List.drop_left' (by simp;omega)]
  rw [e1,e2]
  have e3:(A ++ [x] ++ [x] ++ B).take (j - 1)=A:=by rw [List.append_assoc,List.append_assoc,List.take_left' h]
  have e4:(A ++ [x] ++ [x] ++ B).drop (j - 1+1)=x :: B:=by rw [show A ++ [x] ++ [x] ++ B=(A ++ [x]) ++ x :: B by simp,List.drop_left' (by simp;omega)]
  rw [e3,e4];simp
theorem k_insertionF (xs:List Int) (hl:xs.length≤12):Con Tryz.prog nz51 [.row 0 1 true (intsK .u64 xs)] [.own 5000 0,iv 0,iv xs.length] true
    fun outs rows res=>rows=[]∧res=.tup []∧∃ ys:List Int,ys.Perm xs∧ys.Pairwise (·≤·)∧outs=[.row 0 1 true (intsK .u64 ys)]:=by
  refine con_sh mixed czot rfl (by simp) ?_
  generalize hQ:finQ _=Q
  have w01:IntKind.i64.wrap (0+1)=1:=by decide
  have hO0:InsO xs 1 xs:=⟨by cases xs with
    | nil=>simp
    | cons a xs=>simp,List.Perm.refl _⟩
  simp only [Az9h,Bzlp,w01,go_sem,yz0,xx9,xx8,xx6,xx7,xx5,xx0,xx1,xx2,reduceIte,xx3,xx4,reduceCtorEq]
  refine wpD_lo (fun (i,_)=>xs.length+1 - i) (fun (i,ys)=>1≤i∧i≤xs.length+1∧InsO xs i ys)
    (fun ((i,ys):Nat×List Int)=>⟨L .any [(0,.own 5000 0),(1,iv 0),(2,iv xs.length),(6,iv i)],L .gone [(5000,.row 0 1 true (intsK .u64 ys))]⟩)
    (1,xs) ⟨Nat.le_refl _,by simp,hO0⟩ (by simp only [Bz3p,go_sem,yz0,xx9,xx8,xx6,xx7,xx5,xx0,xx1,xx2,reduceIte,xx3,xx4,reduceCtorEq];try rfl) ?_
  rintro ⟨i,ys⟩ ⟨hi1,hi2,hO,hp⟩
  have hi1:1≤i:=hi1
  have hi2:i≤xs.length+1:=hi2
  have hO:InsO xs i ys:=⟨hO,hp⟩
  have hp:ys.Perm xs:=hp
  have hyl:=hp.length_eq
  by_cases hlt:(i:Int)<xs.length
  · have hlt1:i<xs.length:=by omega
    have wi:IntKind.i64.wrap ((i:Int)+1)=((i+1:Nat):Int):=by rw [w64 (by omega)];simp
    simp only [Bz3p,Bz9f,Bzlo,Bzln,decide_eq_true hlt,go_sem,yz0,xx9,xx8,xx6,xx7,xx5,xx0,xx1,xx2,reduceIte,xx3,xx4,reduceCtorEq]
    refine wpD_lo (fun (j,_)=>j) (fun (j,ys)=>j≤i∧InsI xs i j ys)
      (fun ((j,ys):Nat×List Int)=>⟨L .any [(0,.own 5000 0),(1,iv 0),(2,iv xs.length),(6,iv i),(7,iv j)],L .gone [(5000,.row 0 1 true (intsK .u64 ys))]⟩)
      (i,ys) ⟨Nat.le_refl _,hO.inner (by omega)⟩ (by simp only [Bz3o,go_sem,yz0,xx9,xx8,xx6,xx7,xx5,xx0,xx1,xx2,reduceIte,xx3,xx4,reduceCtorEq];try rfl) ?_
    rintro ⟨j,zs⟩ ⟨hj,hI⟩
    have hj:j≤i:=hj
    have hI:InsI xs i j zs:=hI
    have hzl:zs.length=xs.length:=by obtain ⟨_,_,_,_,_,_,_,_,_,h⟩:=hI;exact h.length_eq
    by_cases hj0:(j:Int) > 0
    · have hj1:0<j:=by omega
      have wj:IntKind.i64.wrap ((j:Int) - 1)=((j - 1:Nat):Int):=by rw [w64 (by omega)];omega
      have hjl:j<zs.length:=by omega
      have hjl2:j - 1<zs.length:=by omega
      obtain ⟨A,x,v,B,C,hz,hA,g1,g2,hno,hyes⟩:=hI.last hj1
      have ge1:=yzl (k:=.u64) hjl
      have ge2:=yzl (k:=.u64) hjl2
      rw [g1] at ge1
      rw [g2] at ge2
      simp only [Bz3o,decide_eq_true hj0,wj,ge1,ge2,go_sem,yz0,xx9,xx8,xx6,xx7,xx5,xx0,xx1,xx2,reduceIte,xx3,xx4,reduceCtorEq]
      intro vs
      refine ⟨⟨by omega,hjl⟩,hjl,⟨by omega,hjl2⟩,hjl2,?_⟩
      refine yzv (k_LessF v x) qCS trivial ?_
      by_cases hvx:v<x
      · simp only [Bz3n,Bzlm,decide_eq_true hvx,wj,ge1,ge2,go_sem,yz0,xx9,xx8,xx6,xx7,xx5,xx0,xx1,xx2,reduceIte,xx3,xx4,reduceCtorEq]
        simp only [intsK_putK,List.length_map,lput_lenF hjl,go_sem,yz0,xx9,xx8,xx6,xx7,xx5,xx0,xx1,xx2,reduceIte,xx3,xx4,reduceCtorEq]
        refine ⟨⟨by omega,hjl2⟩,hjl2,⟨by omega,hjl⟩,hjl,⟨by omega,hjl⟩,by omega,⟨by omega,hjl2⟩,by omega,?_⟩
        rw [hz,swap_put hA hj1]
        simp only [Bzll,wj,go_sem,yz0,xx9,xx8,xx6,xx7,xx5,xx0,xx1,xx2,reduceIte,xx3,xx4,reduceCtorEq]
        exact ⟨(j - 1,A ++ v :: x :: (B ++ C)),by dsimp only;omega,⟨by dsimp only;omega,hyes hvx⟩,rfl⟩
      · simp only [Bz3n,Bz9g,decide_eq_false hvx,wi,go_sem,yz0,xx9,xx8,xx6,xx7,xx5,xx0,xx1,xx2,reduceIte,xx3,xx4,reduceCtorEq]
        exact ⟨(i+1,zs),by dsimp only;omega,⟨by dsimp only;omega,by dsimp only;omega,hno hvx⟩,rfl⟩
    · obtain rfl:j=0:=by omega
      simp only [Bz3o,Bz3n,Bz9g,decide_eq_false hj0,wi,go_sem,yz0,xx9,xx8,xx6,xx7,xx5,xx0,xx1,xx2,reduceIte,xx3,xx4,reduceCtorEq]
      exact ⟨(i+1,zs),by dsimp only;omega,⟨by dsimp only;omega,by dsimp only;omega,hI.zero⟩,rfl⟩
  · obtain h:i=xs.length∨i=xs.length+1:=by omega
    simp only [Bz3p,Bz9f,decide_eq_false hlt,Az9h,← hQ,go_sem,yz0,xx9,xx8,xx6,xx7,xx5,xx0,xx1,xx2,reduceIte,xx3,xx4,reduceCtorEq]
    refine ⟨[],by simp,by simp,by simp,by simp,rfl,ys,hp,?_,?_⟩
    · have:ys.take i=ys:=List.take_of_length_le (by omega)
      rw [← this];exact hO.1
    · simp only [List.range_zero,List.nil_append,List.map_cons,List.map_nil,Nat.not_lt_zero,range1,yzx,yz10,yz1c,yz1b,yzz,yz19,yz1a,yz18,yzy,yzu,yzi,yz5,yzs,yzt,yzp,yzn,yzq,yzb,yzc,yz8,yz7,yzg,yzh,yz2,yz9,yza,yz6,yzj,yzf,List.range_zero,yz4,yz3,yzd,yzr,yzm,yzo,AVal.fresh,freshL,yz1,yze,AObj.fresh,id,Option.isSome_some,or_true,true_or,go_sem,yz0,xx9,xx8,xx6,xx7,xx5,xx0,xx1,xx2,reduceIte,xx3,xx4,reduceCtorEq]
      try rfl
theorem k_Len64F (n:Nat) (hn:n≤12):FunE Tryz.prog n_math_bits_Len64 [.val (.int .u64 n)] (fun v=>∃ b,v=.int .i64 b):=by
  refine funE_of mixed c_math_bits_Len64 rfl ?_
  have h1:¬ (n:Int) ≥ 4294967296:=by omega
  have h2:¬ (n:Int) ≥ 65536:=by omega
  have h3:¬ (n:Int) ≥ 256:=by omega
  simp only [A_math_bits_Len64,B_math_bits_Len64_1,B_math_bits_Len64_2,B_math_bits_Len64_4,B_math_bits_Len64_5,B_math_bits_Len64_7,B_math_bits_Len64_8,B_math_bits_Len64_10,decide_eq_false h1,decide_eq_false h2,decide_eq_false h3,go_sem,yz0,xx9,xx8,xx6,xx7,xx5,xx0,xx1,xx2,reduceIte,xx3,xx4,reduceCtorEq]
  have hw8:IntKind.u8.wrap (n:Int)=n:=by
    have h:∀ k:Nat,k≤12→IntKind.u8.wrap (k:Int)=k:=by decide
    exact h _ hn
  rw [hw8]
  first
    | exact ⟨⟨by omega,by rw [Int.toNat_natCast];exact Nat.lt_of_le_of_lt hn (by decide)⟩,_,rfl,_,rfl⟩
    | exact ⟨by rw [Int.toNat_natCast];exact Nat.lt_of_le_of_lt hn (by decide),_,rfl,_,rfl⟩
theorem k_LenF (n:Nat) (hn:n≤12):FunE Tryz.prog n_math_bits_Len [.val (.int .u64 n)] (fun v=>∃ b,v=.int .i64 b):=by
  refine funE_of mixed c_math_bits_Len rfl ?_
  simp only [A_math_bits_Len,B_math_bits_Len_1,B_math_bits_Len_2,go_sem,yz0,xx9,xx8,xx6,xx7,xx5,xx0,xx1,xx2,reduceIte,xx3,xx4,reduceCtorEq]
  intro vs
  refine call_funE (k_Len64F n hn) qCS ⟨_,0,rfl⟩ ?_
  rintro _ ⟨b,rfl⟩
  simp only [go_sem,yz0,xx9,xx8,xx6,xx7,xx5,xx0,xx1,xx2,reduceIte,xx3,xx4,reduceCtorEq]
  exact ⟨_,rfl,b,rfl⟩
theorem k_pdq (xs:List Int) (b:Int) (hl:xs.length≤12):Con Tryz.prog nzi [.row 0 1 true (intsK .u64 xs)] [.own 5000 0,iv 0,iv xs.length,iv b] true
    fun outs rows res=>rows=[]∧res=.tup []∧∃ ys:List Int,ys.Perm xs∧ys.Pairwise (·≤·)∧outs=[.row 0 1 true (intsK .u64 ys)]:=by
  refine con_sh mixed czop rfl (by simp) ?_
  generalize hQ:finQ _=Q
  have w0:IntKind.i64.wrap ((xs.length:Int) - 0)=xs.length:=by rw [Int.sub_zero];exact w64 (by omega)
  have h12:(xs.length:Int)≤12:=by omega
  simp only [Az94,Bzl0,Bzkz,go_sem,yz0,xx9,xx8,xx6,xx7,xx5,xx0,xx1,xx2,reduceIte,xx3,xx4,reduceCtorEq]
  refine wpD_lo (fun _:Unit=>0) (fun _=>True)
    (fun _:Unit=>⟨L .any [(0,.own 5000 0),(1,iv 0),(2,iv xs.length),(3,iv b),(8,bv true),(9,bv true)],L .gone [(5000,.row 0 1 true (intsK .u64 xs))]⟩)
    () trivial (by simp only [Bz93,go_sem,yz0,xx9,xx8,xx6,xx7,xx5,xx0,xx1,xx2,reduceIte,xx3,xx4,reduceCtorEq];try rfl) ?_
  rintro _ _
  simp only [Bz93,Bzky,Bzkx,w0,decide_eq_true h12,go_sem,yz0,xx9,xx8,xx6,xx7,xx5,xx0,xx1,xx2,reduceIte,xx3,xx4,reduceCtorEq]
  intro vs
  have hsv:sv (L AObj.gone [(5000,AObj.row 0 1 true (intsK .u64 xs))]) [5000] (vs 3) 0=0:=sv_0 rfl
  refine call_rowM (k_insertionF xs hl) (r:=5000) rfl (by simp only [rowIs,boxIs,coe_argN,coe_argNs,coe_ro_o,coeL_nil,yz11,coe_any,coe_val,coe_ro,yz14,yz16,coe_st,yz17,coe_rp,yz15,coe_clo,coe_own0,coe_ptr0,yz13,coeL_rws,coeL_rwn,L_hit,L_miss,L_nil,xx3,ne_eq,reduceCtorEq,not_false_eq_true,true_and,and_true,and_self,exists_eq_left,exists_eq_right,List.mem_cons,List.not_mem_nil,or_false,AObj.row.injEq,AObj.box.injEq,exists_eq_left',exists_and_left,exists_eq,Nat.zero_lt_one,Nat.lt_add_one,List.map_cons,List.map_nil,AObj.ver,xx5,not_true_eq_false]) (by simp only [rowIs,boxIs,coe_argN,coe_argNs,coe_ro_o,coeL_nil,yz11,coe_any,coe_val,coe_ro,yz14,yz16,coe_st,yz17,coe_rp,yz15,coe_clo,coe_own0,coe_ptr0,yz13,coeL_rws,coeL_rwn,L_hit,L_miss,L_nil,xx3,ne_eq,reduceCtorEq,not_false_eq_true,true_and,and_true,and_self,exists_eq_left,exists_eq_right,List.mem_cons,List.not_mem_nil,or_false,AObj.row.injEq,AObj.box.injEq,exists_eq_left',exists_and_left,exists_eq,Nat.zero_lt_one,Nat.lt_add_one,List.map_cons,List.map_nil,AObj.ver,xx5,not_true_eq_false]) ?_
  rintro outs rows res ⟨rfl,rfl,ys,hp,hs,rfl⟩
  refine ⟨rfl,_,rfl,?_⟩
  simp only [hsv,Az94,← hQ,Nat.not_lt_zero,range1,yzx,yz10,yz1c,yz1b,yzz,yz19,yz1a,yz18,yzy,yzu,yzi,yz5,yzs,yzt,yzp,yzn,yzq,yzb,yzc,yz8,yz7,yzg,yzh,yz2,yz9,yza,yz6,yzj,yzf,List.range_zero,yz4,yz3,yzd,yzr,yzm,yzo,AVal.fresh,freshL,yz1,yze,AObj.fresh,id,Option.isSome_some,or_true,true_or,go_sem,yz0,xx9,xx8,xx6,xx7,xx5,xx0,xx1,xx2,reduceIte,xx3,xx4,reduceCtorEq]
  exact ⟨[],by simp,by simp,by simp,by simp,ys,hp,hs,rfl⟩
theorem k_SortF (xs:List Int) (hl:xs.length≤12):Con Tryz.prog nz4o [.row 0 1 true (intsK .u64 xs)] [.own 5000 0] true
    fun outs rows res=>rows=[]∧res=.tup []∧∃ ys:List Int,ys.Perm xs∧ys.Pairwise (·≤·)∧outs=[.row 0 1 true (intsK .u64 ys)]:=by
  refine con_sh mixed cznj rfl (by simp) ?_
  have hw:IntKind.u64.wrap (xs.length:Int)=xs.length:=by
    have h:∀ k:Nat,k≤12→IntKind.u64.wrap (k:Int)=k:=by decide
    exact h _ hl
  generalize hQ:finQ _=Q
  simp only [Az88,Bziw,hw,go_sem,yz0,xx9,xx8,xx6,xx7,xx5,xx0,xx1,xx2,reduceIte,xx3,xx4,reduceCtorEq]
  intro _ vs
  refine call_funE (k_LenF xs.length hl) qCS ⟨_,0,rfl⟩ ?_
  rintro _ ⟨b,rfl⟩
  simp only [go_sem,yz0,xx9,xx8,xx6,xx7,xx5,xx0,xx1,xx2,reduceIte,xx3,xx4,reduceCtorEq]
  have hsv:sv (L AObj.gone [(5000,AObj.row 0 1 true (intsK .u64 xs))]) [5000] (vs 5) 0=0:=sv_0 rfl
  refine call_rowM (k_pdq xs b hl) (r:=5000) rfl (by simp only [rowIs,boxIs,coe_argN,coe_argNs,coe_ro_o,coeL_nil,yz11,coe_any,coe_val,coe_ro,yz14,yz16,coe_st,yz17,coe_rp,yz15,coe_clo,coe_own0,coe_ptr0,yz13,coeL_rws,coeL_rwn,L_hit,L_miss,L_nil,xx3,ne_eq,reduceCtorEq,not_false_eq_true,true_and,and_true,and_self,exists_eq_left,exists_eq_right,List.mem_cons,List.not_mem_nil,or_false,AObj.row.injEq,AObj.box.injEq,exists_eq_left',exists_and_left,exists_eq,Nat.zero_lt_one,Nat.lt_add_one,List.map_cons,List.map_nil,AObj.ver,xx5,not_true_eq_false]) (by simp only [rowIs,boxIs,coe_argN,coe_argNs,coe_ro_o,coeL_nil,yz11,coe_any,coe_val,coe_ro,yz14,yz16,coe_st,yz17,coe_rp,yz15,coe_clo,coe_own0,coe_ptr0,yz13,coeL_rws,coeL_rwn,L_hit,L_miss,L_nil,xx3,ne_eq,reduceCtorEq,not_false_eq_true,true_and,and_true,and_self,exists_eq_left,exists_eq_right,List.mem_cons,List.not_mem_nil,or_false,AObj.row.injEq,AObj.box.injEq,exists_eq_left',exists_and_left,exists_eq,Nat.zero_lt_one,Nat.lt_add_one,List.map_cons,List.map_nil,AObj.ver,xx5,not_true_eq_false]) ?_
  rintro outs rows res ⟨rfl,rfl,ys,hp,hs,rfl⟩
  refine ⟨rfl,_,rfl,?_⟩
  simp only [hsv,Az88,← hQ,Nat.not_lt_zero,range1,yzx,yz10,yz1c,yz1b,yzz,yz19,yz1a,yz18,yzy,yzu,yzi,yz5,yzs,yzt,yzp,yzn,yzq,yzb,yzc,yz8,yz7,yzg,yzh,yz2,yz9,yza,yz6,yzj,yzf,List.range_zero,yz4,yz3,yzd,yzr,yzm,yzo,AVal.fresh,freshL,yz1,yze,AObj.fresh,id,Option.isSome_some,or_true,true_or,go_sem,yz0,xx9,xx8,xx6,xx7,xx5,xx0,xx1,xx2,reduceIte,xx3,xx4,reduceCtorEq]
  exact ⟨[],by simp,by simp,by simp,by simp,ys,hp,hs,rfl⟩
end Go.Ab
