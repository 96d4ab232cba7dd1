/- Contracts and what they lean on, part 10. Conditions: none. -/
import Derived.Test.YtmiilajcphcciaaGreatZ9
set_option maxRecDepth 100000
set_option maxHeartbeats 4000000
set_option linter.all false
open Nat renaming reduceLeDiff → xx0, reduceMul → xx1, reduceSub → xx2, reduceEqDiff → xx3, reduceAdd → xx4, reduceLT → xx5
open Int renaming reduceToNat → xx6, reduceNeg → xx7, reduceLE → xx8, reduceLT → xx9
namespace Go.Ab
open Go.Proofs
theorem k_specPairAutomaton (n o:Int) (next out:List (List Int)) :
    NamR Tryz.prog nz3s [machA n o next out] (pairOk n o next out) (endM n+1) (resM n (endM n) next out next.length) (pairCode n o next out):=by
  refine con_of mixed czly rfl (by simp) ?_
  generalize hQ:finQ _=Q
  simp only [Azk,Bzaz,wpD_kp,yzw,go_sem,yz0,xx9,xx8,xx6,xx7,xx5,xx0,xx1,xx2,reduceIte,xx3,xx4,reduceCtorEq]
  intro vs0 U0 hN0 vs1 U1 hN1
  refine yzv (k_l06Ok n o next out) qCS trivial ?_
  cases hv:machB n o next out with
  | false =>
    have e1:pairOk n o next out=false:=by simp only [pairOk,hv,Bool.false_and]
    have e2:pairCode n o next out=1:=by simp only [pairCode,hv,Bool.false_eq_true,if_false]
    simp only [Bz20,Azk,← hQ,wpD_kp,yzw,go_sem,yz0,xx9,xx8,xx6,xx7,xx5,xx0,xx1,xx2,reduceIte,xx3,xx4,reduceCtorEq]
    intro vs2 U2 hN2
    refine ⟨[],by simp,by simp,by simp,?_⟩
    simp only [e1,e2,Bool.false_eq_true,if_false,Nat.not_lt_zero,range1,yzx,yz10,yz1c,yz1b,yzz,yz19,yz1a,yz18,yzy,yzu,yzi,yz5,yzs,yzt,yzp,yzn,yzq,yzb,yzc,yz8,yz7,yzg,yzh,yz2,yz9,yza,yz6,yzj,yzf,List.range_zero,yz4,yz3,yzd,yzr,yzm,yzo,AVal.fresh,freshL,yz1,yze,AObj.fresh,id,Option.isSome_some,or_true,true_or,go_sem,yz0,xx9,xx8,xx6,xx7,xx5,xx0,xx1,xx2,reduceIte,xx3,xx4,reduceCtorEq]
    try simp
  | true =>
    have M:=machB_iff.1 hv
    have A:=M.aut
    have n1:=A.n1
    have n2:=A.n2
    have l1:=A.l1
    have l2:=A.l2
    have hen:=endM_nn ⟨n1,n2⟩
    have hpl:=allP_len ⟨n1,n2⟩
    have w0:IntKind.i64.wrap (n - 1)=n - 1:=w64 (by omega)
    have hp0:0≤n * (n - 1):=Int.mul_nonneg (by omega) (by omega)
    have hp1:n * (n - 1)≤10 * 10:=Int.mul_le_mul n2 (by omega) (by omega) (by omega)
    have w2:IntKind.i64.wrap (n * (n - 1))=n * (n - 1):=w64 (by omega)
    have hE:(n * (n - 1)).tdiv 2=endM n:=rfl
    have w3:IntKind.i64.wrap (endM n)=endM n:=w64 (by omega)
    have w1:IntKind.i64.wrap (endM n+1)=endM n+1:=w64 (by omega)
    have h20:¬ (2:Int)=0:=by omega
    by_cases he:endM n<10
    · have hn4:=endM_small ⟨n1,n2⟩ he
      have hg:¬ (10:Int)≤endM n:=by omega
      simp only [Bz20,Bz5k,Bz5j,Bz5f,Bzay,Bzax,w0,w2,hE,w3,w1,h20,decide_eq_false hg,wpD_kp,yzw,go_sem,yz0,xx9,xx8,xx6,xx7,xx5,xx0,xx1,xx2,reduceIte,xx3,xx4,reduceCtorEq]
      intro vs2 U2 hN2 vs3 U3 hN3 vs4 U4 hN4 vs5 U5 hN5
      simp only [Bzav,wpD_kp,yzw,go_sem,yz0,xx9,xx8,xx6,xx7,xx5,xx0,xx1,xx2,reduceIte,xx3,xx4,reduceCtorEq]
      intro ver
      have hM2:=maxLen_le
      refine wpD_lp (fun (_,_,_,ps)=>next.length - List.length ps)
        (fun (nn,_,_,ps)=>List.map (·.2) ps=resM n (endM n) next out (List.length ps)∧List.length ps≤next.length∧DJ ps∧(ps≠[]→nn=true))
        (fun ((nn,v5,va,ps):Bool×Nat×Nat×List (Nat×List Int))=>⟨L .any [(1,.ptr 1 (vs0 0 0) 0),(2,.ptr 2 (vs0 1 0) 0),(4,iv (endM n)),(5,.ptr 5 v5 0),(6,iv ps.length)],
          L .gone [(1,.box (vs0 0 0) [iv n,iv o,.ro none 1 (rwn next),.ro none 1 (rwn out)]),(2,.box (vs0 1 0) [iv 0,nilS]),(5,.box v5 [iv (endM n+1),.own 107 va]),(107,.row va 1 nn (rwp ps)),(5000,.gone)]⟩)
        (_,_,_,[]) ⟨rfl,by simp,by simp [DJ],by simp⟩ (by simp only [Bz26,List.length_nil,rwp_nil,go_sem,yz0,xx9,xx8,xx6,xx7,xx5,xx0,xx1,xx2,reduceIte,xx3,xx4,reduceCtorEq];try rfl) ?_
      rintro ⟨nn,v5,va,ps⟩ ⟨hp1,hp2,hp3,hp4⟩
      have hp1:ps.map (·.2)=resM n (endM n) next out ps.length:=hp1
      have hp2:ps.length≤next.length:=hp2
      have hp3:DJ ps:=hp3
      have hp4:ps≠[]→nn=true:=hp4
      by_cases hlt:(ps.length:Int)<next.length
      · have hlt1:ps.length<next.length:=by omega
        have hlt2:ps.length<out.length:=by rw [M.len];exact hlt1
        have hrow:=A.row _ (yzk hlt1 [])
        have hrow2:=M.row _ (yzk hlt2 [])
        simp only [Bz26,Bz5g,Bzau,rwn_getD hlt1,decide_eq_true hlt,wpD_kp,yzw,go_sem,yz0,xx9,xx8,xx6,xx7,xx5,xx0,xx1,xx2,reduceIte,xx3,xx4,reduceCtorEq]
        intro vs7 U7 hN7 hM vs8 U8 hN8
        have hU:=hN8.hp 107
        simp only [AObj.uses,go_sem,yz0,xx9,xx8,xx6,xx7,xx5,xx0,xx1,xx2,reduceIte,xx3,xx4,reduceCtorEq] at hU
        have hold:=usesL_rwp (rest:=[]) (by rw [List.append_nil];exact hU.2)
        have hfresh:∀ (i k:Nat),∀ p∈ps,p.2=[]∨p.1≠vs8 i k:=fun i k p hp=>by
          rcases hold p hp with h | h
          · exact .inl h
          · exact .inr fun e=>hN8.new i k (e ▸ h)
        simp only [Bzas,Bzaq,wpD_kp,yzw,go_sem,yz0,xx9,xx8,xx6,xx7,xx5,xx0,xx1,xx2,reduceIte,xx3,xx4,reduceCtorEq]
        intro vs9 U9 hN9
        refine wpD_lp (fun ((_,_,s):Nat×List (List Int)×Nat)=>n.toNat - s) (fun ((vb,acc,s):Nat×List (List Int)×Nat)=>(s:Int)≤n∧acc ++ pall (fun _ _=>true) n s (n.toNat - s)=allP n∧∀ p∈ps,p.2=[]∨p.1≠vb)
          (fun ((vb,acc,s):Nat×List (List Int)×Nat)=>⟨L .any [(1,.ptr 1 (vs0 0 0) 0),(2,.ptr 2 (vs0 1 0) 0),(4,iv (endM n)),(5,.ptr 5 v5 0),(6,iv ps.length),(7,.own 35 vb),(8,iv s)],
            L .gone [(1,.box (vs0 0 0) [iv n,iv o,.ro none 1 (rwn next),.ro none 1 (rwn out)]),(2,.box (vs0 1 0) [iv 0,nilS]),(5,.box v5 [iv (endM n+1),.own 107 va]),(35,.row vb 1 true (ints (acc.map (cellM n (endM n) (next.getD ps.length []) (out.getD ps.length []))))),(91,.gone),(99,.gone),(107,.row va 1 nn (rwp ps)),(5000,.gone)]⟩)
          (_,[],0) ⟨by omega,rfl,hfresh 0 0⟩ (by simp only [Bz25,List.map_nil,go_sem,yz0,xx9,xx8,xx6,xx7,xx5,xx0,xx1,xx2,reduceIte,xx3,xx4,reduceCtorEq];try rfl) ?_
        rintro ⟨vb,acc,s⟩ ⟨hs,hacc,hf⟩
        have hs:(s:Int)≤n:=hs
        have hf:∀ p∈ps,p.2=[]∨p.1≠vb:=hf
        by_cases hls:(s:Int)<n
        · have w7:IntKind.i64.wrap ((s:Int)+1)=((s+1:Nat):Int):=by rw [w64 (by omega)];omega
          have e1:n.toNat - s=(n.toNat - (s+1))+1:=by omega
          rw [e1] at hacc
          simp only [pall] at hacc
          simp only [Bz25,Bz5h,Bzap,Bzan,w7,decide_eq_true hls,wpD_kp,yzw,go_sem,yz0,xx9,xx8,xx6,xx7,xx5,xx0,xx1,xx2,reduceIte,xx3,xx4,reduceCtorEq]
          intro vs10 U10 hN10 vs11 U11 hN11
          refine wpD_lp (fun ((_,_,t):Nat×List (List Int)×Nat)=>n.toNat - t) (fun ((vb,acc,t):Nat×List (List Int)×Nat)=>(t:Int)≤n∧s<t∧acc ++ (prow (fun _ _=>true) s t (n - t).toNat ++ pall (fun _ _=>true) n ((s:Int)+1) (n.toNat - (s+1)))=allP n∧∀ p∈ps,p.2=[]∨p.1≠vb)
            (fun ((vb,acc,t):Nat×List (List Int)×Nat)=>⟨L .any [(1,.ptr 1 (vs0 0 0) 0),(2,.ptr 2 (vs0 1 0) 0),(4,iv (endM n)),(5,.ptr 5 v5 0),(6,iv ps.length),(7,.own 35 vb),(8,iv s),(9,iv t)],
              L .gone [(1,.box (vs0 0 0) [iv n,iv o,.ro none 1 (rwn next),.ro none 1 (rwn out)]),(2,.box (vs0 1 0) [iv 0,nilS]),(5,.box v5 [iv (endM n+1),.own 107 va]),(35,.row vb 1 true (ints (acc.map (cellM n (endM n) (next.getD ps.length []) (out.getD ps.length []))))),(91,.gone),(99,.gone),(107,.row va 1 nn (rwp ps)),(5000,.gone)]⟩)
            (_,acc,s+1) ⟨by omega,by omega,hacc,hf⟩ (by simp only [Bz24,go_sem,yz0,xx9,xx8,xx6,xx7,xx5,xx0,xx1,xx2,reduceIte,xx3,xx4,reduceCtorEq];try rfl) ?_
          clear hacc hf
          rintro ⟨vb,acc,t⟩ ⟨ht,hst,hacc',hf⟩
          have ht:(t:Int)≤n:=ht
          have hst:s<t:=hst
          have hf:∀ p∈ps,p.2=[]∨p.1≠vb:=hf
          have w8:IntKind.i64.wrap ((t:Int)+1)=((t+1:Nat):Int):=by rw [w64 (by omega)];omega
          by_cases hltt:(t:Int)<n
          · have e2:(n - (t:Int)).toNat=(n - ((t+1:Nat):Int)).toNat+1:=by omega
            have e3:((t+1:Nat):Int)=(t:Int)+1:=by omega
            rw [e2] at hacc'
            simp only [prow,if_true] at hacc'
            have hal:acc.length≤45:=by rw [← hacc',List.length_append] at hpl;omega
            have hxa:s<(next.getD ps.length []).length:=by omega
            have hxb:t<(next.getD ps.length []).length:=by omega
            have hya:s<(out.getD ps.length []).length:=by omega
            have hyb:t<(out.getD ps.length []).length:=by omega
            have hxi:=hrow.2 _ (yzk hxa 0)
            have hyi:=hrow.2 _ (yzk hxb 0)
            have heq:=cellM_t (n:=n) (e:=endM n) (nx:=next.getD ps.length []) (ou:=out.getD ps.length []) (s:=(s:Int)) (t:=(t:Int))
            have hef:=cellM_f (n:=n) (e:=endM n) (nx:=next.getD ps.length []) (ou:=out.getD ps.length []) (s:=(s:Int)) (t:=(t:Int))
            simp only [Int.toNat_natCast] at heq hef
            have hsn:∀ z,cellM n (endM n) (next.getD ps.length []) (out.getD ps.length []) [(s:Int),(t:Int)]=z→acc.map (cellM n (endM n) (next.getD ps.length []) (out.getD ps.length [])) ++ [z]=(acc ++ [[(s:Int),(t:Int)]]).map (cellM n (endM n) (next.getD ps.length []) (out.getD ps.length [])):=fun z h=>by rw [List.map_append,← h];rfl
            simp only [Bz24,Bz5i,Bzam,Bzal,rwn_getD hlt1,yzl hxa,yzl hxb,decide_eq_true hltt,wpD_kp,yzw,go_sem,yz0,xx9,xx8,xx6,xx7,xx5,xx0,xx1,xx2,reduceIte,xx3,xx4,reduceCtorEq]
            intro vs12 U12 hN12 vs13 U13 hN13
            refine ⟨⟨by omega,hlt1⟩,hlt1,⟨by omega,hxa⟩,hxa,?_⟩
            intro vs14 U14 hN14
            refine ⟨⟨by omega,hlt1⟩,hlt1,⟨by omega,hxb⟩,hxb,?_⟩
            by_cases h1:(out.getD ps.length []).getD s 0=(out.getD ps.length []).getD t 0
            · have q1:((out.getD ps.length []).getD s 0 != (out.getD ps.length []).getD t 0)=false:=by simpa using h1
              by_cases h2:(next.getD ps.length []).getD s 0=(next.getD ps.length []).getD t 0
              · have hsn:=hsn _ (hef fun h=>h.2 h2)
                have q2:((next.getD ps.length []).getD s 0 == (next.getD ps.length []).getD t 0)=true:=beqT h2
                simp only [Bz22,Bz21,rwn_getD hlt2,yzl hya,yzl hyb,q1,q2,wpD_kp,yzw,go_sem,yz0,xx9,xx8,xx6,xx7,xx5,xx0,xx1,xx2,reduceIte,xx3,xx4,reduceCtorEq]
                intro vs15 U15 hN15
                refine ⟨⟨by omega,hlt2⟩,hlt2,⟨by omega,hya⟩,hya,⟨by omega,hlt2⟩,hlt2,⟨by omega,hyb⟩,hyb,?_⟩
                intro vs17 U17 hN17
                have hU17:=hN17.hp 107
                simp only [AObj.uses,go_sem,yz0,xx9,xx8,xx6,xx7,xx5,xx0,xx1,xx2,reduceIte,xx3,xx4,reduceCtorEq] at hU17
                have hold17:=usesL_rwp (rest:=[]) (by rw [List.append_nil];exact hU17.2)
                have hfresh17:∀ p∈ps,p.2=[]∨¬ p.1=vs17 3 0:=fun p hp=>by
                  rcases hold17 p hp with h | h
                  · exact .inl h
                  · exact .inr fun e=>hN17.new 3 0 (e ▸ h)
                simp only [Bz23,hsn,w8,wpD_kp,yzw,go_sem,yz0,xx9,xx8,xx6,xx7,xx5,xx0,xx1,xx2,reduceIte,xx3,xx4,reduceCtorEq]
                refine ⟨⟨_,rfl,rfl⟩,by omega,?_⟩
                intro vs18 U18 hN18
                exact ⟨(vs17 3 0,acc ++ [[(s:Int),(t:Int)]],t+1),by dsimp only;omega,⟨by dsimp only;omega,by dsimp only;omega,by dsimp only;rw [e3,List.append_assoc,← hacc',← e3,List.append_assoc],hfresh17⟩,rfl⟩
              · have hsn:=hsn _ (heq h1 h2)
                have q2:((next.getD ps.length []).getD s 0 == (next.getD ps.length []).getD t 0)=false:=beqF h2
                simp only [Bz22,Bz21,rwn_getD hlt2,yzl hya,yzl hyb,q1,q2,wpD_kp,yzw,go_sem,yz0,xx9,xx8,xx6,xx7,xx5,xx0,xx1,xx2,reduceIte,xx3,xx4,reduceCtorEq]
                intro vs15 U15 hN15
                refine ⟨⟨by omega,hlt2⟩,hlt2,⟨by omega,hya⟩,hya,⟨by omega,hlt2⟩,hlt2,⟨by omega,hyb⟩,hyb,?_⟩
                intro vs17 U17 hN17
                refine yzv (k_l06Pair n _ _ ⟨n1,n2⟩ hxi hyi) qCS trivial ?_
                simp only [go_sem,yz0,xx9,xx8,xx6,xx7,xx5,xx0,xx1,xx2,reduceIte,xx3,xx4,reduceCtorEq]
                have hU17:=hN17.hp 107
                simp only [AObj.uses,go_sem,yz0,xx9,xx8,xx6,xx7,xx5,xx0,xx1,xx2,reduceIte,xx3,xx4,reduceCtorEq] at hU17
                have hold17:=usesL_rwp (rest:=[]) (by rw [List.append_nil];exact hU17.2)
                have hfresh17:∀ p∈ps,p.2=[]∨¬ p.1=vs17 7 0:=fun p hp=>by
                  rcases hold17 p hp with h | h
                  · exact .inl h
                  · exact .inr fun e=>hN17.new 7 0 (e ▸ h)
                simp only [Bz23,hsn,w8,wpD_kp,yzw,go_sem,yz0,xx9,xx8,xx6,xx7,xx5,xx0,xx1,xx2,reduceIte,xx3,xx4,reduceCtorEq]
                refine ⟨⟨_,rfl,rfl⟩,by omega,?_⟩
                intro vs18 U18 hN18
                exact ⟨(vs17 7 0,acc ++ [[(s:Int),(t:Int)]],t+1),by dsimp only;omega,⟨by dsimp only;omega,by dsimp only;omega,by dsimp only;rw [e3,List.append_assoc,← hacc',← e3,List.append_assoc],hfresh17⟩,rfl⟩
            · have hsn:=hsn _ (hef fun h=>h1 h.1)
              have q1:((out.getD ps.length []).getD s 0 != (out.getD ps.length []).getD t 0)=true:=by simpa using h1
              simp only [Bz22,Bz21,rwn_getD hlt2,yzl hya,yzl hyb,q1,wpD_kp,yzw,go_sem,yz0,xx9,xx8,xx6,xx7,xx5,xx0,xx1,xx2,reduceIte,xx3,xx4,reduceCtorEq]
              intro vs15 U15 hN15
              refine ⟨⟨by omega,hlt2⟩,hlt2,⟨by omega,hya⟩,hya,⟨by omega,hlt2⟩,hlt2,⟨by omega,hyb⟩,hyb,?_⟩
              intro vs17 U17 hN17
              have hU17:=hN17.hp 107
              simp only [AObj.uses,go_sem,yz0,xx9,xx8,xx6,xx7,xx5,xx0,xx1,xx2,reduceIte,xx3,xx4,reduceCtorEq] at hU17
              have hold17:=usesL_rwp (rest:=[]) (by rw [List.append_nil];exact hU17.2)
              have hfresh17:∀ p∈ps,p.2=[]∨¬ p.1=vs17 3 0:=fun p hp=>by
                rcases hold17 p hp with h | h
                · exact .inl h
                · exact .inr fun e=>hN17.new 3 0 (e ▸ h)
              simp only [Bz23,hsn,w8,wpD_kp,yzw,go_sem,yz0,xx9,xx8,xx6,xx7,xx5,xx0,xx1,xx2,reduceIte,xx3,xx4,reduceCtorEq]
              refine ⟨⟨_,rfl,rfl⟩,by omega,?_⟩
              intro vs18 U18 hN18
              exact ⟨(vs17 3 0,acc ++ [[(s:Int),(t:Int)]],t+1),by dsimp only;omega,⟨by dsimp only;omega,by dsimp only;omega,by dsimp only;rw [e3,List.append_assoc,← hacc',← e3,List.append_assoc],hfresh17⟩,rfl⟩
          · have ht2:(t:Int)=n:=by omega
            have e2:(n - (t:Int)).toNat=0:=by omega
            rw [e2] at hacc'
            simp only [prow,List.nil_append] at hacc'
            simp only [Bz24,Bz5i,Bzao,w7,decide_eq_false hltt,wpD_kp,yzw,go_sem,yz0,xx9,xx8,xx6,xx7,xx5,xx0,xx1,xx2,reduceIte,xx3,xx4,reduceCtorEq]
            intro vs12 U12 hN12 vs13 U13 hN13
            exact ⟨(vb,acc,s+1),by dsimp only;omega,⟨by dsimp only;omega,by dsimp only;rw [show ((s+1:Nat):Int)=(s:Int)+1 by omega];exact hacc',hf⟩,rfl⟩
        · have hs2:n.toNat - s=0:=by omega
          rw [hs2] at hacc
          simp only [pall,List.append_nil] at hacc
          subst hacc
          simp only [Bz25,Bz5h,Bzar,decide_eq_false hls,wpD_kp,yzw,go_sem,yz0,xx9,xx8,xx6,xx7,xx5,xx0,xx1,xx2,reduceIte,xx3,xx4,reduceCtorEq]
          intro vs11 U11 hN11 vs12 U12 hN12
          rw [rwp_len]
          have hU12:=hN12.hp 107
          simp only [AObj.uses,go_sem,yz0,xx9,xx8,xx6,xx7,xx5,xx0,xx1,xx2,reduceIte,xx3,xx4,reduceCtorEq] at hU12
          have hold12:=usesL_rwp (rest:=[]) (by rw [List.append_nil];exact hU12.2)
          have hfresh12:∀ p∈ps,p.2=[]∨p.1≠vs12 5 0:=fun p hp=>by
            rcases hold12 p hp with h | h
            · exact .inl h
            · exact .inr fun e=>hN12.new 5 0 (e ▸ h)
          refine ⟨⟨_,rfl,rfl⟩,by omega,by omega,?_⟩
          simp only [Bzat,nat1 _ _ hlt1 hM,rwp_snoc,wpD_kp,yzw,go_sem,yz0,xx9,xx8,xx6,xx7,xx5,xx0,xx1,xx2,reduceIte,xx3,xx4,reduceCtorEq]
          intro vs13 U13 hN13
          refine ⟨(true,v5,vs12 7 0,ps ++ [(vs12 5 0,rowM n (endM n) (next.getD ps.length []) (out.getD ps.length []))]),by dsimp only;rw [List.length_append,List.length_singleton];omega,⟨?_,by dsimp only;rw [List.length_append,List.length_singleton];omega,hp3.snoc hfresh12,by simp⟩,?_⟩
          · dsimp only
            rw [List.map_append,hp1,List.length_append,List.length_singleton,resM_succ];rfl
          · dsimp only
            rw [List.length_append,List.length_singleton]
            rfl
      · have hlen:ps.length=next.length:=by omega
        have hnn:=hp4 (fun e=>by rw [e] at hlen;simp at hlen;omega)
        subst hnn
        rw [hlen] at hp1
        have e1:pairOk n o next out=true:=by simp only [pairOk,hv,Bool.true_and,decide_eq_true he]
        have e2:pairCode n o next out=0:=by simp only [pairCode,hv,if_true,if_pos he]
        simp only [Bz26,Bz5g,Bzaw,decide_eq_false hlt,Azk,← hQ,wpD_kp,yzw,go_sem,yz0,xx9,xx8,xx6,xx7,xx5,xx0,xx1,xx2,reduceIte,xx3,xx4,reduceCtorEq]
        intro vs7 U7 hN7 hM vs8 U8 hN8
        refine ⟨[107],by simp,by simp,by simp,?_⟩
        simp only [e1,e2,if_true,range1,List.length_singleton,renL_rwp,Nat.not_lt_zero,range1,yzx,yz10,yz1c,yz1b,yzz,yz19,yz1a,yz18,yzy,yzu,yzi,yz5,yzs,yzt,yzp,yzn,yzq,yzb,yzc,yz8,yz7,yzg,yzh,yz2,yz9,yza,yz6,yzj,yzf,List.range_zero,yz4,yz3,yzd,yzr,yzm,yzo,AVal.fresh,freshL,yz1,yze,AObj.fresh,id,Option.isSome_some,or_true,true_or,go_sem,yz0,xx9,xx8,xx6,xx7,xx5,xx0,xx1,xx2,reduceIte,xx3,xx4,reduceCtorEq]
        exact ⟨fresh_rwp,va,ps,by simp,hp1,hp3,rfl⟩
    · have e1:pairOk n o next out=false:=by simp only [pairOk,hv,Bool.true_and,decide_eq_false he]
      have e2:pairCode n o next out=3:=by simp only [pairCode,hv,if_true,if_neg he]
      have hg:(10:Int)≤endM n:=by omega
      simp only [Bz20,Bz5k,Bz5j,Bz5f,w0,w2,hE,w3,w1,h20,decide_eq_true hg,Azk,← hQ,wpD_kp,yzw,go_sem,yz0,xx9,xx8,xx6,xx7,xx5,xx0,xx1,xx2,reduceIte,xx3,xx4,reduceCtorEq]
      intro vs2 U2 hN2 vs3 U3 hN3 vs4 U4 hN4
      refine ⟨[],by simp,by simp,by simp,?_⟩
      simp only [e1,e2,Bool.false_eq_true,if_false,Nat.not_lt_zero,range1,yzx,yz10,yz1c,yz1b,yzz,yz19,yz1a,yz18,yzy,yzu,yzi,yz5,yzs,yzt,yzp,yzn,yzq,yzb,yzc,yz8,yz7,yzg,yzh,yz2,yz9,yza,yz6,yzj,yzf,List.range_zero,yz4,yz3,yzd,yzr,yzm,yzo,AVal.fresh,freshL,yz1,yze,AObj.fresh,id,Option.isSome_some,or_true,true_or,go_sem,yz0,xx9,xx8,xx6,xx7,xx5,xx0,xx1,xx2,reduceIte,xx3,xx4,reduceCtorEq]
      try simp
end Go.Ab
namespace Go.Ab
open Go.Proofs
theorem k_P6Small (code:List Int) (hb:∀ x∈code,0≤x∧x≤255) :
    Con Tryz.prog nz3q [] [.ro (some (some 0)) 1 (intsK .u8 code)] true fun outs rows res=>outs=[]∧∃ n o next out v w,Mach n o next out∧n≤4∧rows=[.row v 1 true (rws next),.row w 1 true (rws out)]∧res=.st [iv n,iv o,.own 6000 v,.own 6001 w]:=by
  refine con_sh mixed czlw rfl (by simp) ?_
  simp only [Aza5,Bza4,go_sem,yz0,xx9,xx8,xx6,xx7,xx5,xx0,xx1,xx2,reduceIte,xx3,xx4,reduceCtorEq]
  intro vs vs2
  refine call_sh (k_from code) qCS (fun _=>⟨_,_,_,rfl,0,rfl,rfl⟩) ?_
  rintro outs rows res ⟨rfl,v,rfl,rfl⟩
  refine ⟨rfl,by simp,by rw [Option.getD_some,yzm];simp only [go_sem,yz0,xx9,xx8,xx6,xx7,xx5,xx0,xx1,xx2,reduceIte,xx3,xx4,reduceCtorEq],?_⟩
  simp only [Nat.not_lt_zero,range1,yzx,yz10,yz1c,yz1b,yzz,yz19,yz1a,yz18,yzy,yzu,yzi,yz5,yzs,yzt,yzp,yzn,yzq,yzb,yzc,yz8,yz7,yzg,yzh,yz2,yz9,yza,yz6,yzj,yzf,List.range_zero,yz4,yz3,yzd,yzr,yzm,yzo,AVal.fresh,freshL,yz1,yze,AObj.fresh,id,Option.isSome_some,or_true,true_or,go_sem,yz0,xx9,xx8,xx6,xx7,xx5,xx0,xx1,xx2,reduceIte,xx3,xx4,reduceCtorEq]
  refine call_con (r:=4) (k_l06Draw code 0 0 4 hb (by omega) (by omega)) rfl (by simp only [Bool.not_true,rowIs,boxIs,coe_argN,coe_argNs,coe_ro_o,coeL_nil,yz11,coe_any,coe_val,coe_ro,yz14,yz16,coe_st,yz17,coe_rp,yz15,coe_clo,coe_own0,coe_ptr0,yz13,coeL_rws,coeL_rwn,L_hit,L_miss,L_nil,xx3,ne_eq,reduceCtorEq,not_false_eq_true,true_and,and_true,and_self,exists_eq_left,exists_eq_right,List.mem_cons,List.not_mem_nil,or_false,AObj.row.injEq,AObj.box.injEq,exists_eq_left',exists_and_left,exists_eq,Nat.zero_lt_one,Nat.lt_add_one,List.map_cons,List.map_nil,AObj.ver,xx5,not_true_eq_false]) (by simp only [Bool.not_true,rowIs,boxIs,coe_argN,coe_argNs,coe_ro_o,coeL_nil,yz11,coe_any,coe_val,coe_ro,yz14,yz16,coe_st,yz17,coe_rp,yz15,coe_clo,coe_own0,coe_ptr0,yz13,coeL_rws,coeL_rwn,L_hit,L_miss,L_nil,xx3,ne_eq,reduceCtorEq,not_false_eq_true,true_and,and_true,and_self,exists_eq_left,exists_eq_right,List.mem_cons,List.not_mem_nil,or_false,AObj.row.injEq,AObj.box.injEq,exists_eq_left',exists_and_left,exists_eq,Nat.zero_lt_one,Nat.lt_add_one,List.map_cons,List.map_nil,AObj.ver,xx5,not_true_eq_false]) ?_
  rintro outs rows res ⟨n,o,ps,qs,v1,v2,a',s',M,hn,hd,_,_,rfl,rfl,rfl⟩
  refine ⟨rfl,by simp,by rw [Option.getD_some,yzo];exact ⟨rfl,rfl⟩,?_⟩
  rw [Option.getD_some,callHp_mrr (by omega) (by omega)]
  simp only [renL_rwp,Nat.not_lt_zero,range1,yzx,yz10,yz1c,yz1b,yzz,yz19,yz1a,yz18,yzy,yzu,yzi,yz5,yzs,yzt,yzp,yzn,yzq,yzb,yzc,yz8,yz7,yzg,yzh,yz2,yz9,yza,yz6,yzj,yzf,List.range_zero,yz4,yz3,yzd,yzr,yzm,yzo,AVal.fresh,freshL,yz1,yze,AObj.fresh,id,Option.isSome_some,or_true,true_or,go_sem,yz0,xx9,xx8,xx6,xx7,xx5,xx0,xx1,xx2,reduceIte,xx3,xx4,reduceCtorEq]
  refine ⟨[5,1005],by simp,by simp,by simp,?_⟩
  have e:∀ (f:Nat→Nat) (l:List (Nat×List Int)),List.map ((fun x:Nat×List Int=>x.2) ∘ fun p=>(f p.1,p.2)) l=l.map (·.2):=fun _ _=>rfl
  simp only [range1,List.length_singleton,dnL_rwp,List.map_map,e,Nat.not_lt_zero,range1,yzx,yz10,yz1c,yz1b,yzz,yz19,yz1a,yz18,yzy,yzu,yzi,yz5,yzs,yzt,yzp,yzn,yzq,yzb,yzc,yz8,yz7,yzg,yzh,yz2,yz9,yza,yz6,yzj,yzf,List.range_zero,yz4,yz3,yzd,yzr,yzm,yzo,AVal.fresh,freshL,yz1,yze,AObj.fresh,id,Option.isSome_some,or_true,true_or,go_sem,yz0,xx9,xx8,xx6,xx7,xx5,xx0,xx1,xx2,reduceIte,xx3,xx4,reduceCtorEq]
  exact ⟨n,o,_,_,_,_,M,hn,rfl,rfl⟩
theorem k_SameAutomaton (m:Int) (xs:List (List Int)):Fun Tryz.prog nz3t [.st [iv m,.ro none 1 (rwn xs)],.st [iv m,.ro none 1 (rwn xs)]] (bv true):=by
  refine fun_of mixed czlz rfl ⟨rfl,trivial⟩ ?_
  simp only [Azb8,Bzb7,bne_self_eq_false,go_sem,yz0,xx9,xx8,xx6,xx7,xx5,xx0,xx1,xx2,reduceIte,xx3,xx4,reduceCtorEq]
  intro vs vs2 hM1
  simp only [Bzb0,Bzb6,Bzb4,bne_self_eq_false,go_sem,yz0,xx9,xx8,xx6,xx7,xx5,xx0,xx1,xx2,reduceIte,xx3,xx4,reduceCtorEq]
  refine wpD_lo (fun i=>xs.length - i) (fun i=>i≤xs.length)
    (fun i:Nat=>⟨L .any [(2,.ptr 2 (vs 0 0) 0),(3,.ptr 3 (vs 1 0) 0),(5,iv i)],L .gone [(2,.box (vs 0 0) [iv m,.ro none 1 (rwn xs)]),(3,.box (vs 1 0) [iv m,.ro none 1 (rwn xs)])]⟩)
    0 (by simp) (by simp only [Bz27,go_sem,yz0,xx9,xx8,xx6,xx7,xx5,xx0,xx1,xx2,reduceIte,xx3,xx4,reduceCtorEq];try rfl) ?_
  intro i hi
  have hM:=maxLen_le
  by_cases hlt:(i:Int)<xs.length
  · have hlt1:i<xs.length:=by omega
    simp only [Bz27,Bz5l,Bzb3,decide_eq_true hlt,rwn_getD hlt1,go_sem,yz0,xx9,xx8,xx6,xx7,xx5,xx0,xx1,xx2,reduceIte,xx3,xx4,reduceCtorEq]
    intro hM2 vs3
    have wi:IntKind.i64.wrap ((i:Int)+1)=((i+1:Nat):Int):=by rw [w64 (by omega)];simp
    refine ⟨⟨by omega,hlt1⟩,hlt1,⟨by omega,hlt1⟩,hlt1,?_⟩
    refine yzv (k_l00Same (xs.getD i []) (xs.getD i [])) qCS trivial ?_
    simp only [decide_true,Bool.not_true,Bzb1,Bzb2,wi,go_sem,yz0,xx9,xx8,xx6,xx7,xx5,xx0,xx1,xx2,reduceIte,xx3,xx4,reduceCtorEq]
    exact ⟨i+1,by omega,by omega,rfl⟩
  · obtain rfl:i=xs.length:=by omega
    simp only [Bz27,Bz5l,Bzb5,decide_eq_false hlt,go_sem,yz0,xx9,xx8,xx6,xx7,xx5,xx0,xx1,xx2,reduceIte,xx3,xx4,reduceCtorEq]
    try (intros;trivial)
theorem call_namU {P:Program} {σ:St} {g:FuncId} {As args:List AVal} {d:Nat} {s:Nat→Nat} {K:St→Prop} {m:Int} {xss:List (List Int)} {code:Int} (h:NamR P g args true m xss code)
    (hco:CoeL σ.hp [] true args As) (hg:σ.hp d=.gone)
    (h1:∀ v ps,ps.map (·.2)=xss→K (St.put ⟨σ.tm,upd σ.hp d (.row v 1 true (rwp ps))⟩ (some d) (.tup [.st [iv m,.own d v],iv code]))):wpCall P false σ g As (some d) s K:=by
  refine call_fn h hco (fun e=>by cases e) ?_
  intro rows res hR
  simp only [if_true] at hR
  obtain ⟨v,ps,rfl,hp,hd,rfl⟩:=hR
  refine ⟨by simp,?_,?_⟩
  · simp only [Option.getD_some,yzm];exact hg
  · simp only [Option.getD_some,renL_rwp,List.length_singleton,Nat.not_lt_zero,range1,yzx,yz10,yz1c,yz1b,yzz,yz19,yz1a,yz18,yzy,yzu,yzi,yz5,yzs,yzt,yzp,yzn,yzq,yzb,yzc,yz8,yz7,yzg,yzh,yz2,yz9,yza,yz6,yzj,yzf,List.range_zero,yz4,yz3,yzd,yzr,yzm,yzo,AVal.fresh,freshL,yz1,yze,AObj.fresh,id,Option.isSome_some,or_true,true_or]
    exact h1 _ _ (by rw [List.map_map];exact hp)
theorem k_P6AllB (n:Int) (hn:0≤n∧n≤10):RowI Tryz.prog nz3z [iv n] (fun xs=>xs=allS n):=by
  refine rowI_of mixed czm6 rfl ?_
  simp only [Azc3,Bzc2,go_sem,yz0,xx9,xx8,xx6,xx7,xx5,xx0,xx1,xx2,reduceIte,xx3,xx4,reduceCtorEq]
  intro vs
  refine call_rowI (k_l01All n (by omega)) qCS qWS ⟨_,rfl⟩ ?_
  rintro ys v rfl
  simp only [go_sem,yz0,xx9,xx8,xx6,xx7,xx5,xx0,xx1,xx2,reduceIte,xx3,xx4,reduceCtorEq]
  exact ⟨_,_,_,by omega,rfl,by simp only [go_sem,yz0,xx9,xx8,xx6,xx7,xx5,xx0,xx1,xx2,reduceIte,xx3,xx4,reduceCtorEq],rfl⟩
end Go.Ab
namespace Go.Ab
open Go.Proofs
theorem firstT_no:∀ {T:TS} (k:Nat),firstT T=none→fidx smallN (T.map (·.1)) k=-1
  | [],_,_=>rfl
  | p :: T,k,h=>by
    simp only [firstT,List.find?_cons] at h
    cases hs:smallN p.1 with
    | true=>rw [hs] at h;cases h
    | false =>
      rw [hs] at h
      have h1:=firstT_no (T:=T) (k+1) h
      simp only [List.map_cons,fidx,hs,Bool.false_eq_true,if_false,h1]
theorem k_firstN (N m:Nat) (T:TS) (hI:TI N m T) (hN:2 ^ N≤1024) (hf:firstT T=none) :
    Con Tryz.prog nz1b [.row 0 1 true (intsK .u64 (setsI T)),.map 1 (keysF T) (rwn (T.map (·.2)))] [.st [.own 5000 0,.mp 5001 1],.clo nz1 []] true
      fun outs rows res=>outs=[.row 0 1 true (intsK .u64 (setsI T)),.map 1 (keysF T) (rwn (T.map (·.2)))]∧rows=[]∧res=.tup [.val (.slice none 0 0),iv 6]:=by
  refine con_sh mixed czhm rfl (by simp) ?_
  have h1:=firstT_no 0 hf
  simp only [Az7p,Bz7o,go_sem,yz0,xx9,xx8,xx6,xx7,xx5,xx0,xx1,xx2,reduceIte,xx3,xx4,reduceCtorEq]
  intro vs vs2
  refine yzv (k_IndexFuncT T (fun p hp=>by have:=hI.rg p hp;omega)) qCS trivial ?_
  have hi0:((-1:Int)<0):=by omega
  simp only [h1,Bz7n,Bz7m,decide_eq_true hi0,go_sem,yz0,xx9,xx8,xx6,xx7,xx5,xx0,xx1,xx2,reduceIte,xx3,xx4,reduceCtorEq]
  refine ⟨[],by simp,by simp,by simp,?_⟩
  simp only [List.nil_append,List.cons_append,Nat.add_zero,xx4,Nat.not_lt_zero,range1,yzx,yz10,yz1c,yz1b,yzz,yz19,yz1a,yz18,yzy,yzu,yzi,yz5,yzs,yzt,yzp,yzn,yzq,yzb,yzc,yz8,yz7,yzg,yzh,yz2,yz9,yza,yz6,yzj,yzf,List.range_zero,yz4,yz3,yzd,yzr,yzm,yzo,AVal.fresh,freshL,yz1,yze,AObj.fresh,id,Option.isSome_some,or_true,true_or,go_sem,yz0,xx9,xx8,xx6,xx7,xx5,xx0,xx1,xx2,reduceIte,xx3,xx4,reduceCtorEq]
def shortR (next:List (List Int)) (n:Int):AVal:=match firstT (tourT next (2 ^ n.toNat - 1)) with
  | some (_,w)=>.tup [.ro none 1 (ints w),iv 0]
  | none=>.tup [.val (.slice none 0 0),iv 6]
end Go.Ab
namespace Go.Ab
structure BT (L:TS) (B C:List Int):Prop where
  lb:B.length=L.length
  lc:C.length=L.length
  wd:∀ i,i<L.length→(B.getD i 0=-1∧(L.getD i (0,[])).2=[])∨(0≤B.getD i 0∧B.getD i 0<i∧(L.getD i (0,[])).2=(L.getD (B.getD i 0).toNat (0,[])).2 ++ [C.getD i 0])
theorem getD_appL {α:Type} {xs ys:List α} {i:Nat} {d:α} (h:i<xs.length):(xs ++ ys).getD i d=xs.getD i d:=by
  rw [List.getD_eq_getElem?_getD,List.getElem?_append_left h,← List.getD_eq_getElem?_getD]
theorem getD_last {α:Type} {xs:List α} {y d:α} {i:Nat} (h:i=xs.length):(xs ++ [y]).getD i d=y:=by
  rw [List.getD_eq_getElem?_getD,List.getElem?_append_right (by omega),h];simp
theorem BT.add {L:TS} {B C:List Int} (h:BT L B C) {i:Nat} (hi:i<L.length) (to x:Nat) :
    BT (L ++ [(to,(L.getD i (0,[])).2 ++ [(x:Int)])]) (B ++ [(i:Int)]) (C ++ [(x:Int)]):=by
  have lb:=h.lb
  have lc:=h.lc
  refine ⟨by simp [lb],by simp [lc],fun j hj=>?_⟩
  rw [List.length_append,List.length_singleton] at hj
  by_cases e:j<L.length
  · have e1:(B ++ [(i:Int)]).getD j 0=B.getD j 0:=getD_appL (by omega)
    have e2:(C ++ [(x:Int)]).getD j 0=C.getD j 0:=getD_appL (by omega)
    have e3:(L ++ [(to,(L.getD i (0,[])).2 ++ [(x:Int)])]).getD j (0,[])=L.getD j (0,[]):=getD_appL e
    rw [e1,e2,e3]
    rcases h.wd j e with h1 | ⟨h1,h2,h3⟩
    · exact .inl h1
    · have e4:(L ++ [(to,(L.getD i (0,[])).2 ++ [(x:Int)])]).getD (B.getD j 0).toNat (0,[])=L.getD (B.getD j 0).toNat (0,[]):=getD_appL (by omega)
      rw [e4]
      exact .inr ⟨h1,h2,h3⟩
  · have:j=L.length:=by omega
    subst this
    have e1:(B ++ [(i:Int)]).getD L.length 0=i:=getD_last lb.symm
    have e2:(C ++ [(x:Int)]).getD L.length 0=x:=getD_last lc.symm
    have e3:(L ++ [(to,(L.getD i (0,[])).2 ++ [(x:Int)])]).getD L.length (0,[])=(to,(L.getD i (0,[])).2 ++ [(x:Int)]):=getD_last rfl
    have e4:(L ++ [(to,(L.getD i (0,[])).2 ++ [(x:Int)])]).getD i (0,[])=L.getD i (0,[]):=getD_appL hi
    rw [e1,e2,e3,Int.toNat_natCast,e4]
    exact .inr ⟨by omega,by omega,rfl⟩
end Go.Ab
namespace Go.Ab
open Go.Proofs
end Go.Ab
namespace Go.Ab
open Go.Proofs
end Go.Ab
namespace Go.Ab
open Go.Proofs
theorem call_ste {P:Program} {σ:St} {g:FuncId} {x:AVal} {y:Value} {d:Nat} {s:Nat→Nat} {K:St→Prop} {r v:Nat} {cs cs':List AVal} {R:AVal}
    (h:Con P g [.row 0 1 true cs] [.st [x,.own 5000 0]] true fun outs rows res=>outs=[.row 0 1 true cs]∧rows=[]∧res=R) (hx:x=.val y)
    (hr:σ.hp r=.row v 1 true cs') (hc:CoeL σ.hp [r] false cs cs')
    (hk:K (St.put ⟨σ.tm,upd σ.hp r (.row v 1 true (renL (rid [r] d 0) (sv σ.hp [r] s) cs))⟩ (some d) (R.ren (rid [r] d 0) (sv σ.hp [r] s)))):wpCall P false σ g [.st [x,.own r v]] (some d) s K:=by
  subst hx
  refine .inl ⟨[r],_,_,true,_,h,⟨by simp,rfl,by simp,by simp [hr],?_⟩,?_,(fun e=>by cases e),?_⟩
  · intro j B r' hB hr'
    match j,hB,hr' with
    | 0,hB,hr' =>
      simp at hB hr';subst hB;subst hr'
      simp only [ObjCoe,hr]
      exact ⟨trivial,v,cs',rfl,hc⟩
    | j+1,hB,hr'=>simp at hB
  · rw [yz11,coe_st,yz11,yz11,coeL_nil]
    refine ⟨?_,by simp only [coeL_nil]⟩
    simp only [Coe]
    exact ⟨trivial,⟨0,r,v,rfl,rfl,rfl,rfl,by rw [hr];rfl⟩,trivial⟩
  · rintro outs rows res ⟨rfl,rfl,rfl⟩
    refine ⟨rfl,by simp,by simp,?_⟩
    have e:sv σ.hp [r] s 0=v:=by simp [sv,hr,AObj.ver]
    rw [Option.getD_some,callHp_m,yzn,e]
    exact hk
theorem k_ShortestH (n:Int) (next:List (List Int)) (A:Aut n next) :
    Con Tryz.prog nz40 [.row 0 1 true (rwn next)] [.st [iv n,.own 5000 0]] true
      fun outs rows res=>outs=[.row 0 1 true (rwn next)]∧rows=[]∧res=shortR next n:=by
  refine con_sh mixed czm7 rfl (by simp) ?_
  have n1:=A.n1
  have n2:=A.n2
  have hv:autB n next=true:=autB_iff.2 A
  have hp:=Nat.two_pow_pos n.toNat
  have hN:2 ^ n.toNat≤1024:=Nat.pow_le_pow_right (n:=2) (by omega) (show n.toNat≤10 by omega)
  simp only [Azc7,Bzc6,go_sem,yz0,xx9,xx8,xx6,xx7,xx5,xx0,xx1,xx2,reduceIte,xx3,xx4,reduceCtorEq]
  intro vs vs2
  refine yzv (k_Valid n next) qCS trivial ?_
  simp only [hv,Bzc4,Bzc5,go_sem,yz0,xx9,xx8,xx6,xx7,xx5,xx0,xx1,xx2,reduceIte,xx3,xx4,reduceCtorEq]
  intro vs3
  refine call_rowI (k_all n next A) qCS rfl ⟨_,rfl⟩ ?_
  rintro xs v rfl
  simp only [go_sem,yz0,xx9,xx8,xx6,xx7,xx5,xx0,xx1,xx2,reduceIte,xx3,xx4,reduceCtorEq]
  refine yzv (k_flockOf (allS n) (fun s hs=>by have:=allS_in s hs;omega)) qCS trivial ?_
  rw [maskN_all ⟨n1,n2⟩]
  simp only [go_sem,yz0,xx9,xx8,xx6,xx7,xx5,xx0,xx1,xx2,reduceIte,xx3,xx4,reduceCtorEq]
  refine call_fn (k_tour n next A (2 ^ n.toNat - 1) (by omega)) qCS (fun e=>by cases e) ?_
  rintro rows res ⟨v1,v2,rfl,rfl⟩
  refine ⟨by simp,by rw [Option.getD_some,yzo];simp only [go_sem,yz0,xx9,xx8,xx6,xx7,xx5,xx0,xx1,xx2,reduceIte,xx3,xx4,reduceCtorEq],?_⟩
  have hT:=(runT_ok A 1100 0 _ (TI0 (m:=next.length) (show 2 ^ n.toNat - 1<2 ^ n.toNat by omega))).1
  simp only [Option.getD_some,Nat.not_lt_zero,range1,yzx,yz10,yz1c,yz1b,yzz,yz19,yz1a,yz18,yzy,yzu,yzi,yz5,yzs,yzt,yzp,yzn,yzq,yzb,yzc,yz8,yz7,yzg,yzh,yz2,yz9,yza,yz6,yzj,yzf,List.range_zero,yz4,yz3,yzd,yzr,yzm,yzo,AVal.fresh,freshL,yz1,yze,AObj.fresh,id,Option.isSome_some,or_true,true_or,go_sem,yz0,xx9,xx8,xx6,xx7,xx5,xx0,xx1,xx2,reduceIte,xx3,xx4,reduceCtorEq]
  unfold shortR
  cases hf:firstT (tourT next (2 ^ n.toNat - 1)) with
  | some p =>
    obtain ⟨f,w⟩:=p
    refine call_rm (k_first n.toNat next.length (tourT next (2 ^ n.toNat - 1)) hT hN f w hf) rfl rfl (by omega) qCS qCS qCS ?_
    simp only [Nat.not_lt_zero,range1,yzx,yz10,yz1c,yz1b,yzz,yz19,yz1a,yz18,yzy,yzu,yzi,yz5,yzs,yzt,yzp,yzn,yzq,yzb,yzc,yz8,yz7,yzg,yzh,yz2,yz9,yza,yz6,yzj,yzf,List.range_zero,yz4,yz3,yzd,yzr,yzm,yzo,AVal.fresh,freshL,yz1,yze,AObj.fresh,id,Option.isSome_some,or_true,true_or,go_sem,yz0,xx9,xx8,xx6,xx7,xx5,xx0,xx1,xx2,reduceIte,xx3,xx4,reduceCtorEq]
    exact ⟨[],by simp,by simp,by simp,rfl⟩
  | none =>
    refine call_rm (k_firstN n.toNat next.length (tourT next (2 ^ n.toNat - 1)) hT hN hf) rfl rfl (by omega) qCS qCS qCS ?_
    simp only [Nat.not_lt_zero,range1,yzx,yz10,yz1c,yz1b,yzz,yz19,yz1a,yz18,yzy,yzu,yzi,yz5,yzs,yzt,yzp,yzn,yzq,yzb,yzc,yz8,yz7,yzg,yzh,yz2,yz9,yza,yz6,yzj,yzf,List.range_zero,yz4,yz3,yzd,yzr,yzm,yzo,AVal.fresh,freshL,yz1,yze,AObj.fresh,id,Option.isSome_some,or_true,true_or,go_sem,yz0,xx9,xx8,xx6,xx7,xx5,xx0,xx1,xx2,reduceIte,xx3,xx4,reduceCtorEq]
    exact ⟨[],by simp,by simp,by simp,rfl⟩
end Go.Ab
namespace Go.Ab
open Go.Proofs
theorem wpD_kpdn_of2 {P:Program} {ts hs:List Nat} {a:AC} {Q:AEx→St→Prop} {σ σ':St} (h:σ.kd ts hs=σ'.kd ts hs) (h':wpD P (.kp ts hs (.dn a)) Q σ'):wpD P (.kp ts hs (.dn a)) Q σ:=by
  show wpD P a Q ((σ.keep ts hs).dn)
  rw [kd_eq,h,← kd_eq];exact h'
theorem pairs_first {n o:Int} {next out:List (List Int)} (M:Mach n o next out) (n4:n≤4) :
    shortR (prR n next out) (endM n+1)=if n=1 then .tup [.ro none 1 (ints []),iv 0] else
      match qT (dbtT next out o false n 353) with
      | some w=>.tup [.ro none 1 (ints w),iv 0]
      | none=>.tup [.val (.slice none 0 0),iv 6]:=by
  have A:=prR_aut M n4
  have n1:=M.aut.n1
  have hl:(prR n next out).length=next.length:=by rw [prR,resM,List.length_map,List.length_range]
  have hC:=car_first (aut_prt A)
  have hT:=carQ_T A
  rw [hT] at hC
  unfold shortR
  have hcar:∀ {w:List Int},IsW next.length w→carB (prR n next out) (endM n+1) w=homB next out false n w:=fun hw=>pair_car M n4 hw
  have htot:homB next out false n []=true→∀ F:Option (Nat×List Int),F=firstT (tourT (prR n next out) (2 ^ (endM n+1).toNat - 1))→True:=fun _ _ _=>trivial
  generalize firstT (tourT (prR n next out) (2 ^ (endM n+1).toNat - 1))=F at hC ⊢
  by_cases hn1:n=1
  · rw [if_pos hn1]
    have hnil:carB (prR n next out) (endM n+1) []=true:=by
      rw [hcar (fun x hx=>by simp at hx)];exact hom_one hn1
    cases F with
    | none=>have:=hC [] (fun x hx=>by simp at hx);rw [this] at hnil;cases hnil
    | some p =>
      obtain ⟨f,w⟩:=p
      obtain ⟨h1,h2,h3⟩:=hC
      have h4:befP [] w=false:=h3 [] (fun x hx=>by simp at hx) hnil
      have h5:w=[]:=befP_eq (by unfold befP;cases w with
        | nil=>rfl
        | cons x w=>simp) h4
      rw [h5]
  · rw [if_neg hn1]
    have hF:=hom_first M (by omega) (tl:=false) (enough5 (n:=n.toNat) (by omega))
    have hTl:(dbtT next out o false n 353).length<353:=by
      have G:=dbtT_GI M (by omega) (tl:=false) (enough5 (n:=n.toNat) (by omega))
      exact enough5 (by omega) _ G.nd G.rg
    have hq3:qC (dbtT next out o false n 353)≠3:=by
      unfold qC
      split
      · decide
      · rw [if_neg (by omega)];decide
    rw [hl] at hC
    cases hq:qT (dbtT next out o false n 353) with
    | some w =>
      rw [hq] at hF
      obtain ⟨h1,h2,_,_,h5⟩:=hF
      cases F with
      | none =>
        have:=hC w h2
        rw [hcar h2,h1] at this;cases this
      | some p =>
        obtain ⟨f,u⟩:=p
        obtain ⟨g1,g2,g3⟩:=hC
        have e1:befP u w=false:=h5 u g2 (by rw [← hcar g2];exact g1)
        have e2:befP w u=false:=g3 w h2 (by rw [hcar h2];exact h1)
        rw [befP_eq e1 e2]
    | none =>
      rw [hq] at hF
      cases F with
      | none=>rfl
      | some p =>
        obtain ⟨f,u⟩:=p
        obtain ⟨g1,g2,g3⟩:=hC
        have:=hF hq3 u g2
        rw [← hcar g2,g1] at this;cases this
theorem k_FnPairs (code more:List Int) (hb:∀ x∈code,0≤x∧x≤255) (hb2:∀ x∈more,0≤x∧x≤255) :
    Fun Tryz.prog nz9i [.ro (some (some 0)) 1 (intsK .u8 code),.ro (some (some 0)) 1 (intsK .u8 more)] (bv true):=by
  refine fun_of mixed czlu rfl ⟨rfl,trivial⟩ ?_
  simp only [Aza1,Bza0,go_sem,yz0,xx9,xx8,xx6,xx7,xx5,xx0,xx1,xx2,reduceIte,xx3,xx4,reduceCtorEq]
  intro vs
  refine yzv (k_f6big code) qCS trivial ?_
  by_cases h1:(code.length:Int) > 4096
  · simp only [decide_eq_true h1,Bz1q,go_sem,yz0,xx9,xx8,xx6,xx7,xx5,xx0,xx1,xx2,reduceIte,xx3,xx4,reduceCtorEq]
  simp only [decide_eq_false h1,go_sem,yz0,xx9,xx8,xx6,xx7,xx5,xx0,xx1,xx2,reduceIte,xx3,xx4,reduceCtorEq]
  refine yzv (k_f6big more) qCS trivial ?_
  by_cases h2:(more.length:Int) > 4096
  · simp only [decide_eq_true h2,Bz1q,go_sem,yz0,xx9,xx8,xx6,xx7,xx5,xx0,xx1,xx2,reduceIte,xx3,xx4,reduceCtorEq]
  simp only [decide_eq_false h2,Bz1q,Bz9z,go_sem,yz0,xx9,xx8,xx6,xx7,xx5,xx0,xx1,xx2,reduceIte,xx3,xx4,reduceCtorEq]
  intro vs2
  refine call_sh (k_P6Small code hb) qCS (fun e=>by cases e) ?_
  rintro outs rows res ⟨rfl,n,o,next,out,v,w,M,n4,rfl,rfl⟩
  refine ⟨rfl,by simp,by rw [Option.getD_some,yzo];exact ⟨rfl,rfl⟩,?_⟩
  have n1:=M.aut.n1
  have l1:=M.aut.l1
  have l2:=M.aut.l2
  have o2:=M.o2
  have hv:machB n o next out=true:=machB_iff.2 M
  have hF:=enough5 (n:=n.toNat) (by omega)
  have hso:n.toNat / 2 * o.toNat≤12:=Nat.le_trans (Nat.mul_le_mul (show n.toNat / 2≤2 by omega) (show o.toNat≤3 by omega)) (by omega)
  have hen:=endM_nn ⟨n1,show n≤10 by omega⟩
  have A:=prR_aut M n4
  have he10:endM n<10:=by have:=A.n2;omega
  have hok:pairOk n o next out=true:=by unfold pairOk;rw [hv,decide_eq_true he10];rfl
  have hpc:pairCode n o next out=0:=by unfold pairCode;rw [hv,if_pos rfl,if_pos he10]
  have KP:=k_PairAutomaton n o next out
  have SP:=k_specPairAutomaton n o next out
  rw [hok,hpc] at KP SP
  have P1:=pairs_first M n4
  have KH:=k_HomingWord n o next out 353 hF hso
  have SH:=k_specHomingWord n o next out 353 hF
  rw [hv,Bool.true_and] at KH
  rw [hv,if_pos rfl] at SH
  have hres:(shortR (prR n next out) (endM n+1)=.tup [.ro none 1 (ints (if n=1 then [] else (qT (dbtT next out o false n 353)).getD [])),iv 0]∧homC next out o false n 353=0) ∨
      (shortR (prR n next out) (endM n+1)=.tup [.val (.slice none 0 0),iv 6]∧homC next out o false n 353=6∧(if n=1 then [] else (qT (dbtT next out o false n 353)).getD [])=[]):=by
    rw [P1]
    unfold homC
    rw [hv,if_pos rfl]
    by_cases e:n=1
    · rw [if_pos e,if_pos e,if_pos e];exact .inl ⟨rfl,rfl⟩
    · rw [if_neg e,if_neg e,if_neg e]
      have G:=dbtT_GI M (by omega) (tl:=false) hF
      have hTl:=hF _ G.nd G.rg
      cases hq:qT (dbtT next out o false n 353) with
      | some u=>exact .inl ⟨rfl,by unfold qC;rw [hq];rfl⟩
      | none=>exact .inr ⟨rfl,by unfold qC;rw [hq,if_neg (by simp),if_neg (by omega)],rfl⟩
  clear P1
  generalize homC next out o false n 353=c1 at KH SH hres
  have e1:(!decide (n=1) && (qT (dbtT next out o false n 353)).isSome)=true→(qT (dbtT next out o false n 353)).getD []=if n=1 then [] else (qT (dbtT next out o false n 353)).getD []:=fun h=>by
    rw [if_neg (by intro e;rw [decide_eq_true e] at h;cases h)]
  have f1:(!decide (n=1) && (qT (dbtT next out o false n 353)).isSome)=false→(if n=1 then [] else (qT (dbtT next out o false n 353)).getD [])=[]:=fun h=>by
    by_cases e:n=1
    · rw [if_pos e]
    · rw [decide_eq_false e] at h
      cases hq:qT (dbtT next out o false n 353) with
      | none=>rw [if_neg e];rfl
      | some w=>rw [hq] at h;cases h
  generalize (if n=1 then [] else (qT (dbtT next out o false n 353)).getD [])=w1 at SH hres e1 f1
  generalize (qT (dbtT next out o false n 353)).getD []=x1 at KH e1
  generalize (!decide (n=1) && (qT (dbtT next out o false n 353)).isSome)=ok1 at KH e1 f1
  have h00:((0:Int) != 0)=false:=rfl
  simp only [Bz9y,Nat.not_lt_zero,range1,yzx,yz10,yz1c,yz1b,yzz,yz19,yz1a,yz18,yzy,yzu,yzi,yz5,yzs,yzt,yzp,yzn,yzq,yzb,yzc,yz8,yz7,yzg,yzh,yz2,yz9,yza,yz6,yzj,yzf,List.range_zero,yz4,yz3,yzd,yzr,yzm,yzo,AVal.fresh,freshL,yz1,yze,AObj.fresh,id,Option.isSome_some,or_true,true_or,go_sem,yz0,xx9,xx8,xx6,xx7,xx5,xx0,xx1,xx2,reduceIte,xx3,xx4,reduceCtorEq]
  intro vs3
  refine call_namU KP qCS rfl ?_
  intro v31 ps hps
  simp only [Bz9x,dnL_rwp,hps,go_sem,yz0,xx9,xx8,xx6,xx7,xx5,xx0,xx1,xx2,reduceIte,xx3,xx4,reduceCtorEq]
  intro vs4
  refine call_namU SP qCS rfl ?_
  intro v36 qs hqs
  simp only [Bz9w,dnL_rwp,hqs,h00,go_sem,yz0,xx9,xx8,xx6,xx7,xx5,xx0,xx1,xx2,reduceIte,xx3,xx4,reduceCtorEq]
  intro vs5
  refine yzv (k_SameAutomaton (endM n+1) (resM n (endM n) next out next.length)) qCS trivial ?_
  simp only [Bz9s,Bz9v,Bool.not_true,go_sem,yz0,xx9,xx8,xx6,xx7,xx5,xx0,xx1,xx2,reduceIte,xx3,xx4,reduceCtorEq]
  intro vs6
  have tail17:∀ v59:Nat,wpD Tryz.prog Bz56 (finQ fun σ=>σ.tm 4=bv true)
      ⟨L .any [(8,.ptr 8 (vs4 5 0) 0),(11,iv c1),(12,.own 59 v59)],
        L .gone [(5,.box (vs2 2 0) [iv n,iv o,.own 28 (vs2 1 v),.own 1028 (vs2 1 w)]),(8,.box (vs4 5 0) [iv (endM n+1),.own 36 v36]),(28,.row (vs2 1 v) 1 true (rws next)),(36,.row v36 1 true (rws (resM n (endM n) next out next.length))),(59,.row v59 1 true (ints w1)),(1028,.row (vs2 1 w) 1 true (rws out))]⟩:=by
    intro v59
    simp only [Bz56,go_sem,yz0,xx9,xx8,xx6,xx7,xx5,xx0,xx1,xx2,reduceIte,xx3,xx4,reduceCtorEq]
    intro vs20
    refine call_ste (k_ShortestH (endM n+1) (resM n (endM n) next out next.length) A) rfl rfl qCS ?_
    rcases hres with ⟨hs,rfl⟩ | ⟨hs,rfl,rfl⟩
    · rw [hs]
      simp only [Bz55,beq_self_eq_true,Nat.not_lt_zero,range1,yzx,yz10,yz1c,yz1b,yzz,yz19,yz1a,yz18,yzy,yzu,yzi,yz5,yzs,yzt,yzp,yzn,yzq,yzb,yzc,yz8,yz7,yzg,yzh,yz2,yz9,yza,yz6,yzj,yzf,List.range_zero,yz4,yz3,yzd,yzr,yzm,yzo,AVal.fresh,freshL,yz1,yze,AObj.fresh,id,Option.isSome_some,or_true,true_or,go_sem,yz0,xx9,xx8,xx6,xx7,xx5,xx0,xx1,xx2,reduceIte,xx3,xx4,reduceCtorEq]
      intro vs21
      refine yzv (k_f6ints w1 w1) qCS trivial ?_
      simp only [decide_true,go_sem,yz0,xx9,xx8,xx6,xx7,xx5,xx0,xx1,xx2,reduceIte,xx3,xx4,reduceCtorEq]
    · rw [hs]
      simp only [Bz55,beq_self_eq_true,Nat.not_lt_zero,range1,yzx,yz10,yz1c,yz1b,yzz,yz19,yz1a,yz18,yzy,yzu,yzi,yz5,yzs,yzt,yzp,yzn,yzq,yzb,yzc,yz8,yz7,yzg,yzh,yz2,yz9,yza,yz6,yzj,yzf,List.range_zero,yz4,yz3,yzd,yzr,yzm,yzo,AVal.fresh,freshL,yz1,yze,AObj.fresh,id,Option.isSome_some,or_true,true_or,go_sem,yz0,xx9,xx8,xx6,xx7,xx5,xx0,xx1,xx2,reduceIte,xx3,xx4,reduceCtorEq]
      intro vs21
      refine yzv (k_f6ints [] []) (by simp only [List.map_nil,rowIs,boxIs,coe_argN,coe_argNs,coe_ro_o,coeL_nil,yz11,coe_any,coe_val,coe_ro,yz14,yz16,coe_st,yz17,coe_rp,yz15,coe_clo,coe_own0,coe_ptr0,yz13,coeL_rws,coeL_rwn,L_hit,L_miss,L_nil,xx3,ne_eq,reduceCtorEq,not_false_eq_true,true_and,and_true,and_self,exists_eq_left,exists_eq_right,List.mem_cons,List.not_mem_nil,or_false,AObj.row.injEq,AObj.box.injEq,exists_eq_left',exists_and_left,exists_eq,Nat.zero_lt_one,Nat.lt_add_one,List.map_cons,List.map_nil,AObj.ver,xx5,not_true_eq_false]) trivial ?_
      simp only [decide_true,go_sem,yz0,xx9,xx8,xx6,xx7,xx5,xx0,xx1,xx2,reduceIte,xx3,xx4,reduceCtorEq]
  have tail:∀ v59:Nat,wpD Tryz.prog Bz57 (finQ fun σ=>σ.tm 4=bv true)
      ⟨L .any [(1,.ro (some (some 0)) 1 (intsK .u8 more)),(5,.ptr 5 (vs2 2 0) 0),(8,.ptr 8 (vs4 5 0) 0),(11,iv c1),(12,.own 59 v59)],
        L .gone [(5,.box (vs2 2 0) [iv n,iv o,.own 28 (vs2 1 v),.own 1028 (vs2 1 w)]),(8,.box (vs4 5 0) [iv (endM n+1),.own 36 v36]),(28,.row (vs2 1 v) 1 true (rws next)),(36,.row v36 1 true (rws (resM n (endM n) next out next.length))),(59,.row v59 1 true (ints w1)),(1028,.row (vs2 1 w) 1 true (rws out))]⟩:=by
    intro v59
    simp only [Bz57,go_sem,yz0,xx9,xx8,xx6,xx7,xx5,xx0,xx1,xx2,reduceIte,xx3,xx4,reduceCtorEq]
    intro vs10 hMl
    refine call_rowI (k_P6Word more next.length 6 hb2 (by omega) (by omega)) qCS qGN ⟨[],by simp [IsW6]⟩ ?_
    rintro u v6 hu
    have hud:IsW next.length u:=hu.2
    have hul:(u.length:Int)≤6:=hu.1
    have huw:wordB next.length u=true:=wordB_iff.2 ⟨by omega,hud⟩
    have hrl:(resM n (endM n) next out next.length).length=next.length:=by rw [resM,List.length_map,List.length_range]
    have himg:=pair_img M n4 hud
    have KI:=k_ImageOf (endM n+1) (resM n (endM n) next out next.length) (allS (endM n+1)) u
    have hav:autB (endM n+1) (resM n (endM n) next out next.length)=true:=autB_iff.2 A
    have hall:setB (endM n+1) (allS (endM n+1))=true:=allS_set _
    have huw2:wordB (resM n (endM n) next out next.length).length u=true:=by rw [hrl];exact huw
    rw [hav,hall,huw2] at KI
    have hc0:codeI true (true && true)=0:=rfl
    rw [hc0] at KI
    simp only [Bool.and_self] at KI
    have wE:IntKind.i64.wrap (endM n+1 - 1)=endM n:=by rw [w64 (by omega)];omega
    simp only [go_sem,yz0,xx9,xx8,xx6,xx7,xx5,xx0,xx1,xx2,reduceIte,xx3,xx4,reduceCtorEq]
    simp only [Bz9u,go_sem,yz0,xx9,xx8,xx6,xx7,xx5,xx0,xx1,xx2,reduceIte,xx3,xx4,reduceCtorEq]
    intro vs11
    refine call_fun2 (k_IsHoming n o next out M u huw) qCS ?_
    simp only [Bz9t,go_sem,yz0,xx9,xx8,xx6,xx7,xx5,xx0,xx1,xx2,reduceIte,xx3,xx4,reduceCtorEq]
    intro vs12
    refine call_rowI (k_P6AllB (endM n+1) ⟨by omega,by omega⟩) qCS qGN ⟨_,rfl⟩ ?_
    rintro xs v86 rfl
    simp only [go_sem,yz0,xx9,xx8,xx6,xx7,xx5,xx0,xx1,xx2,reduceIte,xx3,xx4,reduceCtorEq]
    refine call_rowT KI qCS qGN (fun _ v88=>?_) (fun h=>by cases h)
    generalize nrm (List.map (fun s=>atA (resM n (endM n) next out next.length) s u) (allS (endM n+1)))=xs at himg ⊢
    simp only [go_sem,yz0,xx9,xx8,xx6,xx7,xx5,xx0,xx1,xx2,reduceIte,xx3,xx4,reduceCtorEq]
    cases hh:homB next out false n u with
    | true =>
      obtain rfl:=himg.2 hh
      have h11:(((1:Nat):Int) == 1)=true:=rfl
      simp only [Bz1s,Bz1r,h00,h11,wE,beq_self_eq_true,List.map_cons,List.map_nil,go_sem,yz0,xx9,xx8,xx6,xx7,xx5,xx0,xx1,xx2,reduceIte,xx3,xx4,reduceCtorEq]
      exact wpD_kpdn_of2 (by simp only [go_sem,yz0,xx9,xx8,xx6,xx7,xx5,xx0,xx1,xx2,reduceIte,xx3,xx4,reduceCtorEq]) (tail17 v59)
    | false =>
      by_cases hx1:xs.length=1
      · obtain ⟨y,rfl⟩:=List.length_eq_one_iff.1 hx1
        have hye:(y == endM n)=false:=by
          rw [beq_eq_false_iff_ne]
          intro e
          rw [e] at himg
          have:=himg.1 rfl
          rw [hh] at this;cases this
        have h11:(((1:Nat):Int) == 1)=true:=rfl
        simp only [Bz1s,Bz1r,h00,h11,wE,hye,List.map_cons,List.map_nil,go_sem,yz0,xx9,xx8,xx6,xx7,xx5,xx0,xx1,xx2,reduceIte,xx3,xx4,reduceCtorEq]
        exact wpD_kpdn_of2 (by simp only [go_sem,yz0,xx9,xx8,xx6,xx7,xx5,xx0,xx1,xx2,reduceIte,xx3,xx4,reduceCtorEq]) (tail17 v59)
      · have h11:((xs.length:Int) == 1)=false:=by rw [beq_eq_false_iff_ne];omega
        simp only [Bz1s,Bz1r,h00,h11,List.length_map,go_sem,yz0,xx9,xx8,xx6,xx7,xx5,xx0,xx1,xx2,reduceIte,xx3,xx4,reduceCtorEq]
        exact wpD_kpdn_of2 (by simp only [go_sem,yz0,xx9,xx8,xx6,xx7,xx5,xx0,xx1,xx2,reduceIte,xx3,xx4,reduceCtorEq]) (tail17 v59)
  cases ok1 with
  | true =>
    obtain rfl:=e1 rfl
    refine call_rowT KH qCS qGN (fun _ v54=>?_) (fun h=>by cases h)
    simp only [Bz59,go_sem,yz0,xx9,xx8,xx6,xx7,xx5,xx0,xx1,xx2,reduceIte,xx3,xx4,reduceCtorEq]
    intro vs7
    refine call_rowC2 SH qCS qGN ?_
    intro v59
    simp only [Bz58,bne_self_eq_false,go_sem,yz0,xx9,xx8,xx6,xx7,xx5,xx0,xx1,xx2,reduceIte,xx3,xx4,reduceCtorEq]
    intro vs8
    refine yzv (k_f6ints x1 x1) qCS trivial ?_
    simp only [decide_true,Bool.not_true,Bz54,go_sem,yz0,xx9,xx8,xx6,xx7,xx5,xx0,xx1,xx2,reduceIte,xx3,xx4,reduceCtorEq]
    exact wpD_kpdn_of2 (by simp only [go_sem,yz0,xx9,xx8,xx6,xx7,xx5,xx0,xx1,xx2,reduceIte,xx3,xx4,reduceCtorEq]) (tail v59)
  | false =>
    obtain rfl:=f1 rfl
    refine call_rowT KH qCS qGN (fun h=>by cases h) (fun _=>?_)
    simp only [Bz59,go_sem,yz0,xx9,xx8,xx6,xx7,xx5,xx0,xx1,xx2,reduceIte,xx3,xx4,reduceCtorEq]
    intro vs7
    refine call_rowC2 SH qCS qGN ?_
    intro v59
    simp only [Bz58,bne_self_eq_false,go_sem,yz0,xx9,xx8,xx6,xx7,xx5,xx0,xx1,xx2,reduceIte,xx3,xx4,reduceCtorEq]
    intro vs8
    refine yzv (k_f6ints [] []) (by simp only [List.map_nil,rowIs,boxIs,coe_argN,coe_argNs,coe_ro_o,coeL_nil,yz11,coe_any,coe_val,coe_ro,yz14,yz16,coe_st,yz17,coe_rp,yz15,coe_clo,coe_own0,coe_ptr0,yz13,coeL_rws,coeL_rwn,L_hit,L_miss,L_nil,xx3,ne_eq,reduceCtorEq,not_false_eq_true,true_and,and_true,and_self,exists_eq_left,exists_eq_right,List.mem_cons,List.not_mem_nil,or_false,AObj.row.injEq,AObj.box.injEq,exists_eq_left',exists_and_left,exists_eq,Nat.zero_lt_one,Nat.lt_add_one,List.map_cons,List.map_nil,AObj.ver,xx5,not_true_eq_false]) trivial ?_
    simp only [decide_true,Bool.not_true,Bz54,go_sem,yz0,xx9,xx8,xx6,xx7,xx5,xx0,xx1,xx2,reduceIte,xx3,xx4,reduceCtorEq]
    exact wpD_kpdn_of2 (by simp only [go_sem,yz0,xx9,xx8,xx6,xx7,xx5,xx0,xx1,xx2,reduceIte,xx3,xx4,reduceCtorEq]) (tail v59)
end Go.Ab
