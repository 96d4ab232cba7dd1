/- Contracts and what they lean on, part 9. Conditions: none. -/
import Derived.Test.YtmiilajcphcciaaGreatZ8
set_option maxRecDepth 100000
set_option maxHeartbeats 4000000
set_option linter.all false
open Nat renaming reduceLeDiff → xx0, reduceMul → xx1, reduceSub → xx2, reduceEqDiff → xx3, reduceAdd → xx4, reduceLT → xx5
open Int renaming reduceToNat → xx6, reduceNeg → xx7, reduceLE → xx8, reduceLT → xx9
namespace Go.Ab
open Go.Proofs
theorem k_CloneNil:Fun Tryz.prog nz8 [.val (.slice none 0 0)] (.val (.slice none 0 0)):=by
  refine fun_of mixed czi1 rfl ⟨rfl,trivial⟩ ?_
  simp only [Bz7s,Bz7t,Bz7u,Az7v,go_sem,yz0,xx9,xx8,xx6,xx7,xx5,xx0,xx1,xx2,reduceIte,xx3,xx4,reduceCtorEq]
  try (intros;trivial)
theorem k_settle (n o:Int) (next out:List (List Int)) (M:Mach n o next out) (tl:Bool) (F:Nat) (hF:Enough n.toNat F) (hso:n.toNat / 2 * o.toNat≤12) :
    RowT Tryz.prog nz44 [machA n o next out,bv tl] (!decide (n=1) && (qT (dbtT next out o tl n F)).isSome) ((qT (dbtT next out o tl n F)).getD []) (if n=1 then 0 else qC (dbtT next out o tl n F)):=by
  refine con_of mixed czmm rfl (by simp) ?_
  have n1:=M.aut.n1
  have n2:=M.aut.n2
  have l1:=M.aut.l1
  have l2:=M.aut.l2
  have o1:=M.o1
  have o2:=M.o2
  have hN:2 ^ n.toNat≤1024:=Nat.pow_le_pow_right (n:=2) (by omega) (show n.toNat≤10 by omega)
  have hp:=Nat.two_pow_pos n.toNat
  generalize hQ:finQ _=Q
  simp only [Az3,Bzf5,Bzf4,go_sem,yz0,xx9,xx8,xx6,xx7,xx5,xx0,xx1,xx2,reduceIte,xx3,xx4,reduceCtorEq]
  intro vs vs2
  by_cases hn1:n > 1
  · have hsh:=u_shl (b:=n.toNat) (by omega)
    have hsu:IntKind.u64.wrap (((2 ^ n.toNat:Nat):Int) - 1)=((2 ^ n.toNat - 1:Nat):Int):=by rw [show ((2 ^ n.toNat:Nat):Int) - 1=((2 ^ n.toNat - 1:Nat):Int) by omega];exact u64w (by omega)
    have hng:¬ n<0:=by omega
    simp only [Bz6c,decide_eq_true hn1,hsh,hsu,hng,if_false,go_sem,yz0,xx9,xx8,xx6,xx7,xx5,xx0,xx1,xx2,reduceIte,xx3,xx4,reduceCtorEq]
    intro vs3
    refine ⟨⟨_,rfl,rfl⟩,?_⟩
    simp only [Bz6p,Bz6d,Bzf3,wpD_gh,go_sem,yz0,xx9,xx8,xx6,xx7,xx5,xx0,xx1,xx2,reduceIte,xx3,xx4,reduceCtorEq]
    intro hM
    refine ⟨fun h=>by simp at h,fun _ hD=>?_⟩
    refine ⟨[.fb 6 0 27],gwp_fb rfl rfl (by simp) rfl ?_⟩
    have e0:[AVal.val (Value.int IntKind.u64 ((2 ^ n.toNat - 1:Nat):Int))]=nfs [2 ^ n.toNat - 1]:=rfl
    simp only [gwp_nil,frNm_t,List.set_cons_zero,e0,go_sem,yz0,xx9,xx8,xx6,xx7,xx5,xx0,xx1,xx2,reduceIte,xx3,xx4,reduceCtorEq]
    intro vs4
    have hq0:∀ f∈[2 ^ n.toNat - 1],f<1024:=by intro f hf;simp at hf;omega
    refine ⟨⟨_,rfl,rfl⟩,?_⟩
    refine call_funE (k_doubtKey [2 ^ n.toNat - 1] hq0 (by simp)) qCS ⟨_,keyS (keyB _),rfl,keyS_bytes keyB_in⟩ ?_
    rintro _ ⟨b0,rfl,hb0⟩
    obtain rfl:=keyS_of hb0
    have f0:∀ k:Value,findKeyAt k [] 0=some none:=fun _=>rfl
    have hdb:DB n.toNat [2 ^ n.toNat - 1]:=DB_all n1 n2 hn1
    simp only [f0,go_sem,yz0,xx9,xx8,xx6,xx7,xx5,xx0,xx1,xx2,reduceIte,xx3,xx4,reduceCtorEq]
    obtain ⟨T,hT⟩:∃ T,T=dbtT next out o tl n F:=⟨_,rfl⟩
    rw [← hT] at hQ
    have hT:runG (dbtD next out o tl) next.length ([],[]) F 0 [([2 ^ n.toNat - 1],[])]=T:=hT.symm
    simp only [Bzf2,Bzf0,go_sem,yz0,xx9,xx8,xx6,xx7,xx5,xx0,xx1,xx2,reduceIte,xx3,xx4,reduceCtorEq]
    refine wpD_lo (fun (_,i,_)=>F - i)
      (fun (_,i,L)=>QI n.toNat next.length L∧i≤List.length L∧runG (dbtD next out o tl) next.length ([],[]) (F - i) i L=T∧(∀ p∈L,p.1≠[])∧List.length L≤2000)
      (fun ((va,i,L):Nat×Nat×QS)=>⟨Go.Ab.L .any [(1,bv tl),(2,.ptr 2 (vs 0 0) 0),(7,.own 34 va),(8,.mp 35 (vs4 2 0)),(9,iv i)],
        Go.Ab.L .gone [(2,.box (vs 0 0) [iv n,iv o,.ro none 1 (rwn next),.ro none 1 (rwn out)]),(34,.row va 2 true (dcl L)),(35,.map (vs4 2 0) (keysQ L) (trueQ L))]⟩)
      (_,0,[([2 ^ n.toNat - 1],[])]) ⟨QI0 hdb,by simp,hT,by simp,by simp⟩ (by simp only [Bz2o,go_sem,yz0,xx9,xx8,xx6,xx7,xx5,xx0,xx1,xx2,reduceIte,xx3,xx4,reduceCtorEq];try rfl) ?_
    rintro ⟨va,i,L⟩ ⟨hI,hi,hR,hne,hl2⟩
    have hi:i≤L.length:=hi
    have hl2:L.length≤2000:=hl2
    have hLF:L.length<F:=hF L hI.nd hI.rg
    have hR:runG (dbtD next out o tl) next.length ([],[]) (F - i) i L=T:=hR
    have e2:2 * L.length / 2=L.length:=by omega
    by_cases hlt:(i:Int)<L.length
    · have hlt1:i<L.length:=by omega
      have wi:IntKind.i64.wrap ((i:Int)+1)=((i+1:Nat):Int):=by rw [w64 (by omega)];simp
      have hm:=yzk hlt1 ([],([]:List Int))
      have hdp:=hI.rg _ hm
      have hwp:=hI.wd _ hm
      obtain ⟨F',hF'⟩:∃ F',F - i=F'+1:=⟨F - i - 1,by omega⟩
      have hF'2:F - (i+1)=F':=by omega
      rw [hF'] at hR
      simp only [runG,if_pos hlt1] at hR
      simp only [Bz2o,Bz6e,Bzez,e2,decide_eq_true hlt,go_sem,yz0,xx9,xx8,xx6,xx7,xx5,xx0,xx1,xx2,reduceIte,xx3,xx4,reduceCtorEq]
      intro hM1 hM2
      simp only [Bzex,go_sem,yz0,xx9,xx8,xx6,xx7,xx5,xx0,xx1,xx2,reduceIte,xx3,xx4,reduceCtorEq]
      refine wpD_lo (fun (_,x,_)=>next.length - x)
        (fun (_,x,L')=>x≤next.length∧L'=visQ next out o tl (L.getD i ([],[])).1 (L.getD i ([],[])).2 x L∧(∀ p∈L',p.1≠[])∧List.length L'≤2000)
        (fun ((va,x,L'):Nat×Nat×QS)=>⟨Go.Ab.L .any [(1,bv tl),(2,.ptr 2 (vs 0 0) 0),(7,.own 34 va),(8,.mp 35 (vs4 2 0)),(9,iv i),(48,iv next.length),(49,iv x)],
          Go.Ab.L .gone [(2,.box (vs 0 0) [iv n,iv o,.ro none 1 (rwn next),.ro none 1 (rwn out)]),(34,.row va 2 true (dcl L')),(35,.map (vs4 2 0) (keysQ L') (trueQ L'))]⟩)
        (_,0,L) ⟨by simp,by simp [visQ,visG],hne,hl2⟩ (by simp only [Bz2n,go_sem,yz0,xx9,xx8,xx6,xx7,xx5,xx0,xx1,xx2,reduceIte,xx3,xx4,reduceCtorEq];try rfl) ?_
      rintro ⟨va,x,L'⟩ ⟨hx,hL',hne',hl2'⟩
      have hx:x≤next.length:=hx
      have hl2':L'.length≤2000:=hl2'
      have hL':L'=visQ next out o tl (L.getD i ([],[])).1 (L.getD i ([],[])).2 x L:=hL'
      obtain ⟨hI',t,hpre⟩:=visQ_ok (tl:=tl) M hI hlt1 x hx
      rw [← hL'] at hI' hpre
      have hi2:i<L'.length:=by rw [hpre,List.length_append];omega
      have hat:L'.getD i ([],[])=L.getD i ([],[]):=by rw [hpre];exact appG_getD hlt1
      have e2':2 * L'.length / 2=L'.length:=by omega
      obtain ⟨hg1,hg2⟩:=dcl_get hi2
      by_cases hxl:(x:Int)<next.length
      · have hxl1:x<next.length:=by omega
        have w1:IntKind.i64.wrap ((x:Int)+1)=((x+1:Nat):Int):=by rw [w64 (by omega)];simp
        have hsuN:=@visQ_none next out o tl (L.getD i ([],[])).1 (L.getD i ([],[])).2 x L
        have hsuS:=fun q=>@visQ_some next out o tl (L.getD i ([],[])).1 q (L.getD i ([],[])).2 x L
        rw [← hL'] at hsuN hsuS
        rw [hat] at hg1 hg2
        generalize hfw:L.getD i ([],[])=fw at hm hdp hwp hR hsuN hsuS hg1 hg2 hL' ⊢
        have hwx:=hwp
        have hlen2:=hdp.len (by omega)
        simp only [Bz2n,Bz6o,Bzew,Bzev,Bzeu,e2',hg1,decide_eq_true hxl,go_sem,yz0,xx9,xx8,xx6,xx7,xx5,xx0,xx1,xx2,reduceIte,xx3,xx4,reduceCtorEq]
        intro vs5
        refine ⟨⟨by omega,by omega⟩,by omega,fun hM3=>?_⟩
        generalize hnr:next.getD x []=nr
        generalize hor:out.getD x []=orr
        simp only [Bzeq,List.length_map,go_sem,yz0,xx9,xx8,xx6,xx7,xx5,xx0,xx1,xx2,reduceIte,xx3,xx4,reduceCtorEq]
        refine wpD_lo (fun (_,j)=>fw.1.length - j) (fun (_,j)=>j≤fw.1.length)
          (fun ((v5,j):Nat×Nat)=>⟨Go.Ab.L .any [(1,bv tl),(2,.ptr 2 (vs 0 0) 0),(7,.own 34 va),(8,.mp 35 (vs4 2 0)),(9,iv i),(10,iv x),(11,.own 52 v5),(12,bv (clrF nr orr o (fw.1.take j))),(48,iv next.length),(49,iv x),(57,.ro (some none) 1 (nfs fw.1)),(58,iv fw.1.length),(59,iv j)],
            Go.Ab.L .gone [(2,.box (vs 0 0) [iv n,iv o,.ro none 1 (rwn next),.ro none 1 (rwn out)]),(34,.row va 2 true (dcl L')),(35,.map (vs4 2 0) (keysQ L') (trueQ L')),(52,.row v5 1 true (nfs (parF nr orr o (fw.1.take j))))]⟩)
          (_,0) (by simp) (by simp only [Bz2m,go_sem,yz0,xx9,xx8,xx6,xx7,xx5,xx0,xx1,xx2,reduceIte,xx3,xx4,reduceCtorEq];try rfl) ?_
        rintro ⟨v5,j⟩ hj
        have hj:j≤fw.1.length:=hj
        by_cases hjl:(j:Int)<fw.1.length
        · have hjl1:j<fw.1.length:=by omega
          have wj:IntKind.i64.wrap ((j:Int)+1)=((j+1:Nat):Int):=by rw [w64 (by omega)];simp
          have hfj:=(hdp.el _ (yzk hjl1 0)).1
          have hdv:=k_divided n o next out M (fw.1.getD j 0) x hfj hxl1
          have hps:=parF_snoc (nr:=nr) (or:=orr) (o:=o) hjl1
          have hcs:=clrF_snoc (nr:=nr) (or:=orr) (o:=o) hjl1
          have hgj:=nfs_getD hjl1
          have hpl:=parF_len (nr:=nr) (or:=orr) (o:=o) (D:=fw.1.take j)
          rw [List.length_take] at hpl
          have hdl:=dvF_len (nr:=nr) (or:=orr) (o:=o) (S:=bitsTo (fw.1.getD j 0) 10)
          rw [hnr,hor] at hdv
          simp only [Bz2m,Bz6h,Bzep,Bzeo,hgj,decide_eq_true hjl,List.length_map,go_sem,yz0,xx9,xx8,xx6,xx7,xx5,xx0,xx1,xx2,reduceIte,xx3,xx4,reduceCtorEq]
          generalize fw.1.getD j 0=f at hfj hdv hps hcs hdl ⊢
          generalize dvF nr orr o (bitsTo f 10)=dv at hdv hps hcs hdl
          refine ⟨⟨by omega,hjl1⟩,hjl1,fun vs6=>?_⟩
          refine call_fn hdv qCS (fun e=>by cases e) ?_
          rintro rows res ⟨v67,rfl,rfl⟩
          refine ⟨by simp,(fun k hk=>by obtain rfl:k=0:=(by simpa using hk);rfl),?_⟩
          have hpb:min j fw.1.length * o.toNat≤5 * 3:=Nat.mul_le_mul (by omega) (by omega)
          generalize hcc:clrF nr orr o (List.take j fw.1)=cc at hcs ⊢
          simp only [Bz2l,List.length_map,Nat.not_lt_zero,range1,yzx,yz10,yz1c,yz1b,yzz,yz19,yz1a,yz18,yzy,yzu,yzi,yz5,yzs,yzt,yzp,yzn,yzq,yzb,yzc,yz8,yz7,yzg,yzh,yz2,yz9,yza,yz6,yzj,yzf,List.range_zero,yz4,yz3,yzd,yzr,yzm,yzo,AVal.fresh,freshL,yz1,yze,AObj.fresh,id,Option.isSome_some,or_true,true_or,go_sem,yz0,xx9,xx8,xx6,xx7,xx5,xx0,xx1,xx2,reduceIte,xx3,xx4,reduceCtorEq]
          cases cc with
          | true =>
            simp only [Bz2l,Bz6f,Bz6g,wj,Nat.not_lt_zero,range1,yzx,yz10,yz1c,yz1b,yzz,yz19,yz1a,yz18,yzy,yzu,yzi,yz5,yzs,yzt,yzp,yzn,yzq,yzb,yzc,yz8,yz7,yzg,yzh,yz2,yz9,yza,yz6,yzj,yzf,List.range_zero,yz4,yz3,yzd,yzr,yzm,yzo,AVal.fresh,freshL,yz1,yze,AObj.fresh,id,Option.isSome_some,or_true,true_or,go_sem,yz0,xx9,xx8,xx6,xx7,xx5,xx0,xx1,xx2,reduceIte,xx3,xx4,reduceCtorEq]
            exact fun vs7=>⟨by omega,(vs7 2 0,j+1),by dsimp only;omega,by dsimp only;omega,by dsimp only;rw [hps,hcs,Bool.true_and,← nfs_app]⟩
          | false =>
            simp only [Bz2l,Bz6f,Bz6g,wj,Nat.not_lt_zero,range1,yzx,yz10,yz1c,yz1b,yzz,yz19,yz1a,yz18,yzy,yzu,yzi,yz5,yzs,yzt,yzp,yzn,yzq,yzb,yzc,yz8,yz7,yzg,yzh,yz2,yz9,yza,yz6,yzj,yzf,List.range_zero,yz4,yz3,yzd,yzr,yzm,yzo,AVal.fresh,freshL,yz1,yze,AObj.fresh,id,Option.isSome_some,or_true,true_or,go_sem,yz0,xx9,xx8,xx6,xx7,xx5,xx0,xx1,xx2,reduceIte,xx3,xx4,reduceCtorEq]
            exact fun vs7=>⟨by omega,(vs7 2 0,j+1),by dsimp only;omega,by dsimp only;omega,by dsimp only;rw [hps,hcs,Bool.false_and,← nfs_app]⟩
        · obtain rfl:j=fw.1.length:=by omega
          have hpreT:∀ y,y≤next.length→∃ t,T=visQ next out o tl fw.1 fw.2 y L ++ t:=fun y hy=>by
            obtain ⟨t1,h1⟩:=visG_ext (δ:=dbtD next out o tl) (p:=fw.1) (w:=fw.2) (L:=L) (x:=y) (next.length - y)
            obtain ⟨t2,h2⟩:=runG_pre (δ:=dbtD next out o tl) (m:=next.length) (d:=([],[])) F' (i+1) (visG (dbtD next out o tl) fw.1 fw.2 next.length L)
            rw [show y+(next.length - y)=next.length by omega] at h1
            exact ⟨t1 ++ t2,by rw [← hR,h2,h1,List.append_assoc]⟩
          have hd0:dbtD next out o tl fw.1 x=if (tl && !(clrF nr orr o fw.1))=true then none else some (nrmF (parF nr orr o fw.1)):=by rw [← hnr,← hor];rfl
          simp only [Bz2m,Bz6h,Bzet,decide_eq_false hjl,List.length_map,List.take_length,go_sem,yz0,xx9,xx8,xx6,xx7,xx5,xx0,xx1,xx2,reduceIte,xx3,xx4,reduceCtorEq]
          generalize hcc:clrF nr orr o fw.1=cc at hd0 ⊢
          by_cases hcl:(tl && !cc)=true
          · rw [if_pos hcl] at hd0
            have hsu:=hsuN hd0
            obtain ⟨rfl,rfl⟩:tl=true∧cc=false:=by revert hcl;cases tl <;> cases cc <;> simp
            simp only [Bz6i,Bz6n,Bz9,w1,go_sem,yz0,xx9,xx8,xx6,xx7,xx5,xx0,xx1,xx2,reduceIte,xx3,xx4,reduceCtorEq]
            exact ⟨(va,x+1,L'),by dsimp only;omega,⟨by dsimp only;omega,hsu.symm,hne',hl2'⟩,rfl⟩
          · rw [if_neg hcl] at hd0
            have hgo:tl=false∨tl=true∧cc=true:=by revert hcl;cases tl <;> cases cc <;> simp
            have hsu:=hsuS _ hd0
            have hdq:=dbt_DB M hdp hxl1 hd0
            have hDne:fw.1≠[]:=hne _ hm
            have hpsl:=parF_len (nr:=nr) (or:=orr) (o:=o) (D:=fw.1)
            have hps1:∀ g∈parF nr orr o fw.1,g<1024:=by
              have hr:=M.aut.row _ (yzk hxl1 [])
              rw [hnr] at hr
              exact fun g hg=>Nat.lt_of_lt_of_le (parF_lt (n:=n.toNat) (fun s hs=>by have:=hr.2 s hs;omega) (by omega) (fun f hf=>(hdp.el f hf).1) g hg) hN
            have hDl:1≤fw.1.length:=by cases h:fw.1 with
              | nil=>exact absurd h hDne
              | cons=>simp
            have hps2:(parF nr orr o fw.1).length≤12:=by
              rw [hpsl];exact Nat.le_trans (Nat.mul_le_mul_right _ (by omega)) hso
            have hps3:1≤(parF nr orr o fw.1).length:=by rw [hpsl];exact Nat.mul_pos hDl (by omega)
            generalize hPS:parF nr orr o fw.1=ps at hd0 hsu hdq hpsl hps1 hps2 hps3 ⊢
            have hns:=fun ys=>nrm_sorted (ps:=ps) (ys:=ys) hps1
            generalize nrmF ps=q at hd0 hsu hdq hns
            have hn1':¬ n=1:=by omega
            have hq4:∀ f∈q,f<1024:=fun f hf=>Nat.lt_of_lt_of_le (hdq.el f hf).1 hN
            have hq5:=hdq.len (by omega)
            have h20:¬ (2000:Int)<L'.length:=by omega
            rcases hgo with rfl | ⟨rfl,rfl⟩ <;> (
              simp only [Bz6i,Bz6n,go_sem,yz0,xx9,xx8,xx6,xx7,xx5,xx0,xx1,xx2,reduceIte,xx3,xx4,reduceCtorEq]
              intro vs6
              refine call_row1 (k_SortF (ps.map fun (f:Nat)=>(f:Int)) (by simpa using hps2)) (r:=52) (v:=v5) rfl qCS qWS ?_
              rintro outs rows res ⟨rfl,rfl,ys,hyp,hys,rfl⟩
              refine ⟨rfl,_,rfl,?_⟩
              have hyl:ys.length=ps.length:=by rw [hyp.length_eq];simp
              have hy0:ys≠[]:=fun e=>by rw [e] at hyl;simp at hyl;omega
              have hcs:=compact_sorted hys
              have hc0:Lib.compact ys≠[]:=fun e=>by
                cases hy:ys with
                | nil=>exact hy0 hy
                | cons y l =>
                  have:=(hcs.2 y).2 (by rw [hy];simp)
                  rw [e] at this;simp at this
              have hns2:=hns ys hyp hys
              simp only [sv_one,Bzes,AObj.ver,Option.getD_some,Nat.not_lt_zero,range1,yzx,yz10,yz1c,yz1b,yzz,yz19,yz1a,yz18,yzy,yzu,yzi,yz5,yzs,yzt,yzp,yzn,yzq,yzb,yzc,yz8,yz7,yzg,yzh,yz2,yz9,yza,yz6,yzj,yzf,List.range_zero,yz4,yz3,yzd,yzr,yzm,yzo,AVal.fresh,freshL,yz1,yze,AObj.fresh,id,Option.isSome_some,or_true,true_or,go_sem,yz0,xx9,xx8,xx6,xx7,xx5,xx0,xx1,xx2,reduceIte,xx3,xx4,reduceCtorEq]
              intro vs7
              refine call_row1 (k_CompactF ys hy0) (r:=52) (v:=v5) rfl qCS qWS ?_
              rintro outs rows res ⟨v52,rfl,rfl,rfl⟩
              refine ⟨rfl,_,rfl,?_⟩
              simp only [sv_one,ren_own_h,AObj.ver,Option.getD_some,Nat.not_lt_zero,range1,yzx,yz10,yz1c,yz1b,yzz,yz19,yz1a,yz18,yzy,yzu,yzi,yz5,yzs,yzt,yzp,yzn,yzq,yzb,yzc,yz8,yz7,yzg,yzh,yz2,yz9,yza,yz6,yzj,yzf,List.range_zero,yz4,yz3,yzd,yzr,yzm,yzo,AVal.fresh,freshL,yz1,yze,AObj.fresh,id,Option.isSome_some,or_true,true_or,go_sem,yz0,xx9,xx8,xx6,xx7,xx5,xx0,xx1,xx2,reduceIte,xx3,xx4,reduceCtorEq]
              refine call_rowM (k_DelF _ hc0) (r:=52) rfl qCS qCS ?_
              rintro outs rows res ⟨v53,rfl,rfl,rfl⟩
              refine ⟨rfl,_,rfl,?_⟩
              rw [hns2]
              simp only [sv_one,ren_own_h,AObj.ver,Option.getD_some,Bzer,hg2,Nat.not_lt_zero,range1,yzx,yz10,yz1c,yz1b,yzz,yz19,yz1a,yz18,yzy,yzu,yzi,yz5,yzs,yzt,yzp,yzn,yzq,yzb,yzc,yz8,yz7,yzg,yzh,yz2,yz9,yza,yz6,yzj,yzf,List.range_zero,yz4,yz3,yzd,yzr,yzm,yzo,AVal.fresh,freshL,yz1,yze,AObj.fresh,id,Option.isSome_some,or_true,true_or,go_sem,yz0,xx9,xx8,xx6,xx7,xx5,xx0,xx1,xx2,reduceIte,xx3,xx4,reduceCtorEq]
              intro vs8
              refine ⟨⟨by omega,by omega⟩,by omega,?_⟩
              generalize sv _ [52] (vs7 2) v53=u53
              by_cases hw0:fw.2=[]
              · have hwA:wA fw.2=.val (.slice none 0 0):=by unfold wA;rw [if_pos hw0]
                simp only [hwA]
                refine yzv k_CloneNil qCS trivial ?_
                simp only [go_sem,yz0,xx9,xx8,xx6,xx7,xx5,xx0,xx1,xx2,reduceIte,xx3,xx4,reduceCtorEq]
                refine ⟨⟨_,rfl,rfl⟩,?_⟩
                have hrow:[AVal.val (Value.int .i64 (x:Int))]=ints (fw.2 ++ [(x:Int)]):=by rw [hw0];rfl
                simp only [hrow]
                simp only [Bz6m,Bz6j,List.length_map,go_sem,yz0,xx9,xx8,xx6,xx7,xx5,xx0,xx1,xx2,reduceIte,xx3,xx4,reduceCtorEq]
                intro hMq
                refine ⟨fun hq0=>?_,fun hq0=>?_⟩
                · have hq0:q=[]:=List.eq_nil_of_length_eq_zero (by have:=eq_of_beq hq0;omega)
                  subst hq0
                  rw [hasG_nil hne',if_neg (by simp)] at hsu
                  obtain ⟨t9,ht9⟩:=hpreT (x+1) hxl1
                  rw [hsu,List.append_assoc] at ht9
                  have hq:=qT_some ht9 hl2' hne'
                  simp only [Az3,← hQ,go_sem,yz0,xx9,xx8,xx6,xx7,xx5,xx0,xx1,xx2,reduceIte,xx3,xx4,reduceCtorEq]
                  refine ⟨[97],by simp,by simp,by simp,?_⟩
                  simp only [range1,List.length_singleton,Nat.not_lt_zero,range1,yzx,yz10,yz1c,yz1b,yzz,yz19,yz1a,yz18,yzy,yzu,yzi,yz5,yzs,yzt,yzp,yzn,yzq,yzb,yzc,yz8,yz7,yzg,yzh,yz2,yz9,yza,yz6,yzj,yzf,List.range_zero,yz4,yz3,yzd,yzr,yzm,yzo,AVal.fresh,freshL,yz1,yze,AObj.fresh,id,Option.isSome_some,or_true,true_or,go_sem,yz0,xx9,xx8,xx6,xx7,xx5,xx0,xx1,xx2,reduceIte,xx3,xx4,reduceCtorEq]
                  have hqc:qC T=0:=by unfold qC;rw [hq];rfl
                  simp only [hq,hqc,decide_eq_false hn1',if_neg hn1',Bool.not_false,Option.isSome_some,Bool.and_self,if_true,Option.getD_some]
                  exact ⟨_,rfl,rfl⟩
                · have hqne:q≠[]:=fun e=>by rw [e] at hq0;exact absurd hq0 (by decide)
                  simp only [Bz6l,go_sem,yz0,xx9,xx8,xx6,xx7,xx5,xx0,xx1,xx2,reduceIte,xx3,xx4,reduceCtorEq]
                  intro vs9
                  refine call_funE (k_doubtKey q hq4 (by omega)) qCS ⟨_,dkS q,rfl,keyS_bytes keyB_in⟩ ?_
                  rintro _ ⟨b1,rfl,hb1⟩
                  have hb1:b1=dkS q:=keyS_of hb1
                  subst hb1
                  cases hh:hasG L' q with
                  | true =>
                    rw [hh,if_pos rfl] at hsu
                    obtain ⟨jj,hj1,hj2⟩:=fkQ_mem hq4 0 (hI'.lt (by omega)) hh
                    rw [Nat.zero_add] at hj1
                    have htj:(List.map (fun _=>bv true) L').getD jj AVal.any=bv true:=trueQ_getD hj2
                    simp only [Bzo,Bzn,Bz7,Bz6,Bz9,hj1,htj,e2',Option.isSome_some,Option.getD_some,decide_eq_false h20,w1,go_sem,yz0,xx9,xx8,xx6,xx7,xx5,xx0,xx1,xx2,reduceIte,xx3,xx4,reduceCtorEq]
                    exact fun hM9=>⟨(va,x+1,L'),by dsimp only;omega,⟨by dsimp only;omega,hsu.symm,hne',hl2'⟩,rfl⟩
                  | false =>
                    rw [hh,if_neg (by simp)] at hsu
                    have hj1:=fkQ_not hq4 0 (hI'.lt (by omega)) hh
                    simp only [Bzo,Bzn,Bz6k,hj1,Option.isSome_none,Option.getD_none,go_sem,yz0,xx9,xx8,xx6,xx7,xx5,xx0,xx1,xx2,reduceIte,xx3,xx4,reduceCtorEq]
                    obtain ⟨L2,hL2⟩:∃ L2,L2=L' ++ [(q,fw.2 ++ [(x:Int)])]:=⟨_,rfl⟩
                    rw [← hL2] at hsu
                    have hk2:keysQ L' ++ [Value.string (dkS q)]=keysQ L2:=by rw [hL2];simp
                    have ht2:(List.map (fun _=>bv true) L') ++ [bv true]=List.map (fun _=>bv true) L2:=by rw [hL2];simp
                    have hd2:∀ a b:Nat,dnL (dcl L' ++ [.ro (some (some (a+1))) 1 (nfs q),.ro (some (some (b+1))) 1 (ints (fw.2 ++ [(x:Int)]))])=dcl L2:=by intro a b;rw [hL2];exact dnL_snocD (by simp)
                    have hl3:L2.length=L'.length+1:=by rw [hL2];simp
                    have e3:2 * L2.length / 2=L2.length:=by omega
                    have hne2:∀ p∈L2,p.1≠[]:=fun p hp=>by
                      rw [hL2] at hp
                      rcases List.mem_append.1 hp with hp | hp
                      · exact hne' p hp
                      · rw [List.mem_singleton.1 hp];exact hqne
                    refine fun vs10=>⟨by simp,by omega,?_⟩
                    by_cases h30:(2000:Int)<L2.length
                    · obtain ⟨t9,ht9⟩:=hpreT (x+1) hxl1
                      rw [hsu] at ht9
                      obtain ⟨hq,hqc⟩:=qT_lim ht9 (by omega) hne2
                      simp only [Bz7,Bz6,hd2,hk2,ht2,e3,decide_eq_true h30,Az3,← hQ,go_sem,yz0,xx9,xx8,xx6,xx7,xx5,xx0,xx1,xx2,reduceIte,xx3,xx4,reduceCtorEq]
                      intro hM9
                      refine ⟨[],by simp,by simp,by simp,?_⟩
                      simp only [List.map_nil,List.length_nil,Nat.not_lt_zero,range1,yzx,yz10,yz1c,yz1b,yzz,yz19,yz1a,yz18,yzy,yzu,yzi,yz5,yzs,yzt,yzp,yzn,yzq,yzb,yzc,yz8,yz7,yzg,yzh,yz2,yz9,yza,yz6,yzj,yzf,List.range_zero,yz4,yz3,yzd,yzr,yzm,yzo,AVal.fresh,freshL,yz1,yze,AObj.fresh,id,Option.isSome_some,or_true,true_or,go_sem,yz0,xx9,xx8,xx6,xx7,xx5,xx0,xx1,xx2,reduceIte,xx3,xx4,reduceCtorEq]
                      simp only [hq,hqc,decide_eq_false hn1',if_neg hn1',Bool.not_false,Option.isSome_none,Bool.and_false,Bool.false_eq_true,if_false]
                    · simp only [Bz7,Bz6,Bz9,hd2,hk2,ht2,e3,decide_eq_false h30,w1,go_sem,yz0,xx9,xx8,xx6,xx7,xx5,xx0,xx1,xx2,reduceIte,xx3,xx4,reduceCtorEq]
                      exact fun hM9=>⟨(vs10 3 0,x+1,L2),by dsimp only;omega,⟨by dsimp only;omega,hsu.symm,hne2,by dsimp only;omega⟩,rfl⟩
              · have hwA:wA fw.2=.ro (some none) 1 (ints fw.2):=by unfold wA;rw [if_neg hw0]
                simp only [hwA]
                refine call_rowI (k_Clone fw.2 (by omega)) qCS qGN ⟨_,rfl⟩ ?_
                rintro xs v94 rfl
                simp only [go_sem,yz0,xx9,xx8,xx6,xx7,xx5,xx0,xx1,xx2,reduceIte,xx3,xx4,reduceCtorEq]
                refine ⟨⟨_,rfl,rfl⟩,by omega,?_⟩
                simp only [Bz6m,Bz6j,List.length_map,go_sem,yz0,xx9,xx8,xx6,xx7,xx5,xx0,xx1,xx2,reduceIte,xx3,xx4,reduceCtorEq]
                intro hMq
                refine ⟨fun hq0=>?_,fun hq0=>?_⟩
                · have hq0:q=[]:=List.eq_nil_of_length_eq_zero (by have:=eq_of_beq hq0;omega)
                  subst hq0
                  rw [hasG_nil hne',if_neg (by simp)] at hsu
                  obtain ⟨t9,ht9⟩:=hpreT (x+1) hxl1
                  rw [hsu,List.append_assoc] at ht9
                  have hq:=qT_some ht9 hl2' hne'
                  simp only [Az3,← hQ,go_sem,yz0,xx9,xx8,xx6,xx7,xx5,xx0,xx1,xx2,reduceIte,xx3,xx4,reduceCtorEq]
                  refine ⟨[94],by simp,by simp,by simp,?_⟩
                  simp only [range1,List.length_singleton,Nat.not_lt_zero,range1,yzx,yz10,yz1c,yz1b,yzz,yz19,yz1a,yz18,yzy,yzu,yzi,yz5,yzs,yzt,yzp,yzn,yzq,yzb,yzc,yz8,yz7,yzg,yzh,yz2,yz9,yza,yz6,yzj,yzf,List.range_zero,yz4,yz3,yzd,yzr,yzm,yzo,AVal.fresh,freshL,yz1,yze,AObj.fresh,id,Option.isSome_some,or_true,true_or,go_sem,yz0,xx9,xx8,xx6,xx7,xx5,xx0,xx1,xx2,reduceIte,xx3,xx4,reduceCtorEq]
                  have hqc:qC T=0:=by unfold qC;rw [hq];rfl
                  simp only [hq,hqc,decide_eq_false hn1',if_neg hn1',Bool.not_false,Option.isSome_some,Bool.and_self,if_true,Option.getD_some]
                  exact ⟨_,rfl,rfl⟩
                · have hqne:q≠[]:=fun e=>by rw [e] at hq0;exact absurd hq0 (by decide)
                  simp only [Bz6l,go_sem,yz0,xx9,xx8,xx6,xx7,xx5,xx0,xx1,xx2,reduceIte,xx3,xx4,reduceCtorEq]
                  intro vs9
                  refine call_funE (k_doubtKey q hq4 (by omega)) qCS ⟨_,dkS q,rfl,keyS_bytes keyB_in⟩ ?_
                  rintro _ ⟨b1,rfl,hb1⟩
                  have hb1:b1=dkS q:=keyS_of hb1
                  subst hb1
                  cases hh:hasG L' q with
                  | true =>
                    rw [hh,if_pos rfl] at hsu
                    obtain ⟨jj,hj1,hj2⟩:=fkQ_mem hq4 0 (hI'.lt (by omega)) hh
                    rw [Nat.zero_add] at hj1
                    have htj:(List.map (fun _=>bv true) L').getD jj AVal.any=bv true:=trueQ_getD hj2
                    simp only [Bzo,Bzn,Bz7,Bz6,Bz9,hj1,htj,e2',Option.isSome_some,Option.getD_some,decide_eq_false h20,w1,go_sem,yz0,xx9,xx8,xx6,xx7,xx5,xx0,xx1,xx2,reduceIte,xx3,xx4,reduceCtorEq]
                    exact fun hM9=>⟨(va,x+1,L'),by dsimp only;omega,⟨by dsimp only;omega,hsu.symm,hne',hl2'⟩,rfl⟩
                  | false =>
                    rw [hh,if_neg (by simp)] at hsu
                    have hj1:=fkQ_not hq4 0 (hI'.lt (by omega)) hh
                    simp only [Bzo,Bzn,Bz6k,hj1,Option.isSome_none,Option.getD_none,go_sem,yz0,xx9,xx8,xx6,xx7,xx5,xx0,xx1,xx2,reduceIte,xx3,xx4,reduceCtorEq]
                    obtain ⟨L2,hL2⟩:∃ L2,L2=L' ++ [(q,fw.2 ++ [(x:Int)])]:=⟨_,rfl⟩
                    rw [← hL2] at hsu
                    have hk2:keysQ L' ++ [Value.string (dkS q)]=keysQ L2:=by rw [hL2];simp
                    have ht2:(List.map (fun _=>bv true) L') ++ [bv true]=List.map (fun _=>bv true) L2:=by rw [hL2];simp
                    have hd2:∀ a b:Nat,dnL (dcl L' ++ [.ro (some (some (a+1))) 1 (nfs q),.ro (some (some (b+1))) 1 (ints (fw.2 ++ [(x:Int)]))])=dcl L2:=by intro a b;rw [hL2];exact dnL_snocD (by simp)
                    have hl3:L2.length=L'.length+1:=by rw [hL2];simp
                    have e3:2 * L2.length / 2=L2.length:=by omega
                    have hne2:∀ p∈L2,p.1≠[]:=fun p hp=>by
                      rw [hL2] at hp
                      rcases List.mem_append.1 hp with hp | hp
                      · exact hne' p hp
                      · rw [List.mem_singleton.1 hp];exact hqne
                    refine fun vs10=>⟨by simp,by omega,?_⟩
                    by_cases h30:(2000:Int)<L2.length
                    · obtain ⟨t9,ht9⟩:=hpreT (x+1) hxl1
                      rw [hsu] at ht9
                      obtain ⟨hq,hqc⟩:=qT_lim ht9 (by omega) hne2
                      simp only [Bz7,Bz6,hd2,hk2,ht2,e3,decide_eq_true h30,Az3,← hQ,go_sem,yz0,xx9,xx8,xx6,xx7,xx5,xx0,xx1,xx2,reduceIte,xx3,xx4,reduceCtorEq]
                      intro hM9
                      refine ⟨[],by simp,by simp,by simp,?_⟩
                      simp only [List.map_nil,List.length_nil,Nat.not_lt_zero,range1,yzx,yz10,yz1c,yz1b,yzz,yz19,yz1a,yz18,yzy,yzu,yzi,yz5,yzs,yzt,yzp,yzn,yzq,yzb,yzc,yz8,yz7,yzg,yzh,yz2,yz9,yza,yz6,yzj,yzf,List.range_zero,yz4,yz3,yzd,yzr,yzm,yzo,AVal.fresh,freshL,yz1,yze,AObj.fresh,id,Option.isSome_some,or_true,true_or,go_sem,yz0,xx9,xx8,xx6,xx7,xx5,xx0,xx1,xx2,reduceIte,xx3,xx4,reduceCtorEq]
                      simp only [hq,hqc,decide_eq_false hn1',if_neg hn1',Bool.not_false,Option.isSome_none,Bool.and_false,Bool.false_eq_true,if_false]
                    · simp only [Bz7,Bz6,Bz9,hd2,hk2,ht2,e3,decide_eq_false h30,w1,go_sem,yz0,xx9,xx8,xx6,xx7,xx5,xx0,xx1,xx2,reduceIte,xx3,xx4,reduceCtorEq]
                      exact fun hM9=>⟨(vs10 3 0,x+1,L2),by dsimp only;omega,⟨by dsimp only;omega,hsu.symm,hne2,by dsimp only;omega⟩,rfl⟩)
      · obtain rfl:x=next.length:=by omega
        simp only [Bz2n,Bz6o,Bzey,wi,decide_eq_false hxl,go_sem,yz0,xx9,xx8,xx6,xx7,xx5,xx0,xx1,xx2,reduceIte,xx3,xx4,reduceCtorEq]
        have hR':runG (dbtD next out o tl) next.length ([],[]) (F - (i+1)) (i+1) L'=T:=by rw [hF'2,hL'];exact hR
        exact ⟨(va,i+1,L'),by dsimp only;omega,⟨hI',by dsimp only;omega,hR',hne',hl2'⟩,rfl⟩
    · obtain rfl:i=L.length:=by omega
      have hLT:L=T:=by
        obtain ⟨F',hF'⟩:∃ F',F - L.length=F'+1:=⟨F - L.length - 1,by omega⟩
        rw [hF'] at hR
        simpa only [runG,Nat.lt_irrefl,if_false] using hR
      have hn1':¬ n=1:=by omega
      obtain ⟨hq,hqc⟩:=qT_end (T:=L) hl2 hne
      rw [hLT] at hq hqc
      simp only [Bz2o,Bz6e,Bzf1,e2,decide_eq_false hlt,Az3,← hQ,go_sem,yz0,xx9,xx8,xx6,xx7,xx5,xx0,xx1,xx2,reduceIte,xx3,xx4,reduceCtorEq]
      intro hM1
      refine ⟨[],by simp,by simp,by simp,?_⟩
      simp only [List.map_nil,List.length_nil,Nat.not_lt_zero,range1,yzx,yz10,yz1c,yz1b,yzz,yz19,yz1a,yz18,yzy,yzu,yzi,yz5,yzs,yzt,yzp,yzn,yzq,yzb,yzc,yz8,yz7,yzg,yzh,yz2,yz9,yza,yz6,yzj,yzf,List.range_zero,yz4,yz3,yzd,yzr,yzm,yzo,AVal.fresh,freshL,yz1,yze,AObj.fresh,id,Option.isSome_some,or_true,true_or,go_sem,yz0,xx9,xx8,xx6,xx7,xx5,xx0,xx1,xx2,reduceIte,xx3,xx4,reduceCtorEq]
      simp only [hq,hqc,decide_eq_false hn1',if_neg hn1',Bool.not_false,Option.isSome_none,Bool.and_false,Bool.false_eq_true,if_false]
      try trivial
  · have hn1':n=1:=by omega
    simp only [Bz6c,Bz6p,Bz6d,decide_eq_false hn1,Az3,← hQ,go_sem,yz0,xx9,xx8,xx6,xx7,xx5,xx0,xx1,xx2,reduceIte,xx3,xx4,reduceCtorEq]
    refine ⟨[],by simp,by simp,by simp,?_⟩
    simp only [List.map_nil,List.length_nil,Nat.not_lt_zero,range1,yzx,yz10,yz1c,yz1b,yzz,yz19,yz1a,yz18,yzy,yzu,yzi,yz5,yzs,yzt,yzp,yzn,yzq,yzb,yzc,yz8,yz7,yzg,yzh,yz2,yz9,yza,yz6,yzj,yzf,List.range_zero,yz4,yz3,yzd,yzr,yzm,yzo,AVal.fresh,freshL,yz1,yze,AObj.fresh,id,Option.isSome_some,or_true,true_or,go_sem,yz0,xx9,xx8,xx6,xx7,xx5,xx0,xx1,xx2,reduceIte,xx3,xx4,reduceCtorEq]
    simp only [decide_eq_true hn1',if_pos hn1',Bool.not_true,Bool.false_and,Bool.false_eq_true,if_false]
    try trivial
end Go.Ab
namespace Go.Ab
open Go.Proofs
abbrev dsI (L:QS):List (List Int):=L.map fun p=>p.1.map fun (f:Nat)=>(f:Int)
theorem dsI_getD {L:QS} {i:Nat} (h:i<L.length):(dsI L).getD i []=(L.getD i ([],[])).1.map fun (f:Nat)=>(f:Int):=by
  rw [List.getD_eq_getElem?_getD,List.getElem?_map,List.getElem?_eq_getElem h,List.getD_eq_getElem?_getD,List.getElem?_eq_getElem h];rfl
theorem wsQ_getD {L:QS} {i:Nat} (h:i<L.length):(L.map (·.2)).getD i []=(L.getD i ([],[])).2:=by
  rw [List.getD_eq_getElem?_getD,List.getElem?_map,List.getElem?_eq_getElem h,List.getD_eq_getElem?_getD,List.getElem?_eq_getElem h];rfl
theorem cast_inj {a b:List Nat} (h:(a.map fun (f:Nat)=>(f:Int))=b.map fun (f:Nat)=>(f:Int)):a=b:=by
  have e:∀ l:List Nat,(l.map fun (f:Nat)=>(f:Int)).map Int.toNat=l:=fun l=>by
    rw [List.map_map];conv=>rhs;rw [← List.map_id l]
    exact List.map_congr_left fun x _=>by simp
  rw [← e a,← e b,h]
theorem find_has {L:QS} {q:List Nat}:decide (0≤fidx (fun y=>decide (y=q.map fun (f:Nat)=>(f:Int))) (dsI L) 0)=hasG L q:=by
  rw [fidx_ge]
  unfold hasG dsI
  rw [List.any_map]
  congr 1
  funext p
  show decide (p.1.map (fun (f:Nat)=>(f:Int))=q.map fun (f:Nat)=>(f:Int))=decide (p.1=q)
  by_cases e:p.1=q
  · rw [decide_eq_true e,decide_eq_true (by rw [e])]
  · rw [decide_eq_false e,decide_eq_false fun h=>e (cast_inj h)]
theorem k_l06First (n o:Int) (next out:List (List Int)) (M:Mach n o next out) (tl:Bool) (F:Nat) (hF:Enough n.toNat F) :
    RowC2 Tryz.prog nz45 [machP n o next out,bv tl] (if n=1 then [] else (qT (dbtT next out o tl n F)).getD []) (if n=1 then 0 else qC (dbtT next out o tl n F)):=by
  refine con_of mixed czmn rfl (by simp) ?_
  have n1:=M.aut.n1
  have n2:=M.aut.n2
  have l1:=M.aut.l1
  have l2:=M.aut.l2
  have hN:2 ^ n.toNat≤1024:=Nat.pow_le_pow_right (n:=2) (by omega) (show n.toNat≤10 by omega)
  have hp:=Nat.two_pow_pos n.toNat
  generalize hQ:finQ _=Q
  simp only [Aza,Bzfj,go_sem,yz0,xx9,xx8,xx6,xx7,xx5,xx0,xx1,xx2,reduceIte,xx3,xx4,reduceCtorEq]
  by_cases hn1:n=1
  · have hb1:(n == 1)=true:=by rw [hn1];rfl
    simp only [Bz6q,hb1,Aza,← hQ,go_sem,yz0,xx9,xx8,xx6,xx7,xx5,xx0,xx1,xx2,reduceIte,xx3,xx4,reduceCtorEq]
    intro vs
    refine ⟨[18],by simp,by simp,by simp,?_⟩
    simp only [range1,List.length_singleton,Nat.not_lt_zero,range1,yzx,yz10,yz1c,yz1b,yzz,yz19,yz1a,yz18,yzy,yzu,yzi,yz5,yzs,yzt,yzp,yzn,yzq,yzb,yzc,yz8,yz7,yzg,yzh,yz2,yz9,yza,yz6,yzj,yzf,List.range_zero,yz4,yz3,yzd,yzr,yzm,yzo,AVal.fresh,freshL,yz1,yze,AObj.fresh,id,Option.isSome_some,or_true,true_or,go_sem,yz0,xx9,xx8,xx6,xx7,xx5,xx0,xx1,xx2,reduceIte,xx3,xx4,reduceCtorEq]
    rw [if_pos hn1,if_pos hn1]
    exact ⟨_,rfl,rfl⟩
  have hb1:(n == 1)=false:=by simpa using hn1
  have hcn:IntKind.u64.wrap n=n:=by have:=u64w (n:=n.toNat) (by omega);rwa [show ((n.toNat:Nat):Int)=n by omega] at this
  have hng:¬ n<0:=by omega
  have s1:=i_shl1 (b:=n.toNat) (by omega)
  have s2:IntKind.i64.wrap (((2 ^ n.toNat:Nat):Int) - 1)=((2 ^ n.toNat - 1:Nat):Int):=by rw [show ((2 ^ n.toNat:Nat):Int) - 1=((2 ^ n.toNat - 1:Nat):Int) by omega];exact w64 (by omega)
  simp only [Bz6q,Bzfi,hb1,hcn,hng,s1,s2,go_sem,yz0,xx9,xx8,xx6,xx7,xx5,xx0,xx1,xx2,reduceIte,xx3,xx4,reduceCtorEq]
  intro vs
  refine ⟨⟨_,rfl,rfl⟩,?_⟩
  simp only [Bzfh,Bzfg,Bzfe,go_sem,yz0,xx9,xx8,xx6,xx7,xx5,xx0,xx1,xx2,reduceIte,xx3,xx4,reduceCtorEq]
  intro vs2
  obtain ⟨T,hT⟩:∃ T,T=dbtT next out o tl n F:=⟨_,rfl⟩
  rw [← hT] at hQ
  have hT:runG (dbtD next out o tl) next.length ([],[]) F 0 [([2 ^ n.toNat - 1],[])]=T:=hT.symm
  have hdb:DB n.toNat [2 ^ n.toNat - 1]:=DB_all n1 n2 (by omega)
  refine wpD_lo (fun (_,_,i,_)=>F - i)
    (fun (_,_,i,L)=>QI n.toNat next.length L∧i≤List.length L∧runG (dbtD next out o tl) next.length ([],[]) (F - i) i L=T∧(∀ p∈L,p.1≠[])∧List.length L≤2000)
    (fun ((va,vb,i,L):Nat×Nat×Nat×QS)=>⟨Go.Ab.L .any [(0,machP n o next out),(1,bv tl),(6,.own 27 va),(7,.own 29 vb),(8,iv i)],
      Go.Ab.L .gone [(27,.row va 1 true (rws (dsI L))),(29,.row vb 1 true (rws (L.map (·.2))))]⟩)
    (_,_,0,[([2 ^ n.toNat - 1],[])]) ⟨QI0 hdb,by simp,hT,by simp,by simp⟩ (by simp only [Bz2t,go_sem,yz0,xx9,xx8,xx6,xx7,xx5,xx0,xx1,xx2,reduceIte,xx3,xx4,reduceCtorEq];try rfl) ?_
  rintro ⟨va,vb,i,L⟩ ⟨hI,hi,hR,hne,hl2⟩
  have hi:i≤L.length:=hi
  have hl2:L.length≤2000:=hl2
  have hLF:L.length<F:=hF L hI.nd hI.rg
  have hR:runG (dbtD next out o tl) next.length ([],[]) (F - i) i L=T:=hR
  by_cases hlt:(i:Int)<L.length
  · have hlt1:i<L.length:=by omega
    have wi:IntKind.i64.wrap ((i:Int)+1)=((i+1:Nat):Int):=by rw [w64 (by omega)];simp
    have hm:=yzk hlt1 ([],([]:List Int))
    have hdp:=hI.rg _ hm
    have hwp:=hI.wd _ hm
    obtain ⟨F',hF'⟩:∃ F',F - i=F'+1:=⟨F - i - 1,by omega⟩
    have hF'2:F - (i+1)=F':=by omega
    rw [hF'] at hR
    simp only [runG,if_pos hlt1] at hR
    simp only [Bz2t,Bz6r,Bzfd,Bzfb,rws_len,List.length_map,decide_eq_true hlt,go_sem,yz0,xx9,xx8,xx6,xx7,xx5,xx0,xx1,xx2,reduceIte,xx3,xx4,reduceCtorEq]
    intro hM1
    refine wpD_lo (fun (_,_,x,_)=>next.length - x)
      (fun (_,_,x,L')=>x≤next.length∧L'=visQ next out o tl (L.getD i ([],[])).1 (L.getD i ([],[])).2 x L∧(∀ p∈L',p.1≠[])∧List.length L'≤2000)
      (fun ((va,vb,x,L'):Nat×Nat×Nat×QS)=>⟨Go.Ab.L .any [(0,machP n o next out),(1,bv tl),(6,.own 27 va),(7,.own 29 vb),(8,iv i),(9,iv x)],
        Go.Ab.L .gone [(27,.row va 1 true (rws (dsI L'))),(29,.row vb 1 true (rws (L'.map (·.2))))]⟩)
      (_,_,0,L) ⟨by simp,by simp [visQ,visG],hne,hl2⟩ (by simp only [Bz2s,go_sem,yz0,xx9,xx8,xx6,xx7,xx5,xx0,xx1,xx2,reduceIte,xx3,xx4,reduceCtorEq];try rfl) ?_
    rintro ⟨va,vb,x,L'⟩ ⟨hx,hL',hne',hl2'⟩
    have hx:x≤next.length:=hx
    have hl2':L'.length≤2000:=hl2'
    have hL':L'=visQ next out o tl (L.getD i ([],[])).1 (L.getD i ([],[])).2 x L:=hL'
    obtain ⟨hI',t,hpre⟩:=visQ_ok (tl:=tl) M hI hlt1 x hx
    rw [← hL'] at hI' hpre
    have hi2:i<L'.length:=by rw [hpre,List.length_append];omega
    have hat:L'.getD i ([],[])=L.getD i ([],[]):=by rw [hpre];exact appG_getD hlt1
    by_cases hxl:(x:Int)<next.length
    · have hxl1:x<next.length:=by omega
      have w1:IntKind.i64.wrap ((x:Int)+1)=((x+1:Nat):Int):=by rw [w64 (by omega)];simp
      have hsuN:=@visQ_none next out o tl (L.getD i ([],[])).1 (L.getD i ([],[])).2 x L
      have hsuS:=fun q=>@visQ_some next out o tl (L.getD i ([],[])).1 q (L.getD i ([],[])).2 x L
      rw [← hL'] at hsuN hsuS
      have hgd:=dsI_getD hi2
      have hgw:=wsQ_getD hi2
      have hil1:i<(dsI L').length:=by rw [List.length_map];exact hi2
      have hil2:i<(L'.map (·.2)).length:=by rw [List.length_map];exact hi2
      rw [hat] at hgd hgw
      generalize hfw:L.getD i ([],[])=fw at hm hdp hwp hR hsuN hsuS hgd hgw hL' ⊢
      have hdK:=k_l06Doubt n o next out M tl fw.1 x hdp hxl1
      have hpreT:∀ y,y≤next.length→∃ t,T=visQ next out o tl fw.1 fw.2 y L ++ t:=fun y hy=>by
        obtain ⟨t1,h1⟩:=visG_ext (δ:=dbtD next out o tl) (p:=fw.1) (w:=fw.2) (L:=L) (x:=y) (next.length - y)
        obtain ⟨t2,h2⟩:=runG_pre (δ:=dbtD next out o tl) (m:=next.length) (d:=([],[])) F' (i+1) (visG (dbtD next out o tl) fw.1 fw.2 next.length L)
        rw [show y+(next.length - y)=next.length by omega] at h1
        exact ⟨t1 ++ t2,by rw [← hR,h2,h1,List.append_assoc]⟩
      simp only [Bz2s,Bz6s,Bzfa,decide_eq_true hxl,rws_getD hil1,hgd,go_sem,yz0,xx9,xx8,xx6,xx7,xx5,xx0,xx1,xx2,reduceIte,xx3,xx4,reduceCtorEq]
      refine fun hM2 vs3=>⟨⟨by omega,hi2⟩,hi2,?_⟩
      refine call_fn hdK qCS (fun e=>by cases e) ?_
      rintro rows res ⟨v53,xs,rfl,hres⟩
      refine ⟨by simp,(fun k hk=>by obtain rfl:k=0:=(by simpa using hk);rfl),?_⟩
      cases hd:dbtD next out o tl fw.1 x with
      | none =>
        rw [hd] at hres
        obtain rfl:=hres
        have hsu:=hsuN hd
        simp only [Bz6v,Bz2p,Bz2r,w1,Nat.not_lt_zero,range1,yzx,yz10,yz1c,yz1b,yzz,yz19,yz1a,yz18,yzy,yzu,yzi,yz5,yzs,yzt,yzp,yzn,yzq,yzb,yzc,yz8,yz7,yzg,yzh,yz2,yz9,yza,yz6,yzj,yzf,List.range_zero,yz4,yz3,yzd,yzr,yzm,yzo,AVal.fresh,freshL,yz1,yze,AObj.fresh,id,Option.isSome_some,or_true,true_or,go_sem,yz0,xx9,xx8,xx6,xx7,xx5,xx0,xx1,xx2,reduceIte,xx3,xx4,reduceCtorEq]
        exact ⟨(va,vb,x+1,L'),by dsimp only;omega,⟨by dsimp only;omega,hsu.symm,hne',hl2'⟩,rfl⟩
      | some q =>
        rw [hd] at hres
        obtain ⟨rfl,rfl⟩:=hres
        have hsu:=hsuS q hd
        have hdq:=dbt_DB M hdp hxl1 hd
        have hq5:=hdq.len (by omega)
        simp only [Bz6v,Nat.not_lt_zero,range1,yzx,yz10,yz1c,yz1b,yzz,yz19,yz1a,yz18,yzy,yzu,yzi,yz5,yzs,yzt,yzp,yzn,yzq,yzb,yzc,yz8,yz7,yzg,yzh,yz2,yz9,yza,yz6,yzj,yzf,List.range_zero,yz4,yz3,yzd,yzr,yzm,yzo,AVal.fresh,freshL,yz1,yze,AObj.fresh,id,Option.isSome_some,or_true,true_or,go_sem,yz0,xx9,xx8,xx6,xx7,xx5,xx0,xx1,xx2,reduceIte,xx3,xx4,reduceCtorEq]
        intro vs4
        refine yzv (k_l01Find (dsI L') (q.map fun (f:Nat)=>(f:Int))) qCS trivial ?_
        have hfh:decide (fidx (fun y=>decide (y=q.map fun (f:Nat)=>(f:Int))) (dsI L') 0 ≥ 0)=hasG L' q:=find_has
        cases hh:hasG L' q with
        | true =>
          rw [hh,if_pos rfl] at hsu
          simp only [hfh,hh,Bz2p,Bz2r,w1,go_sem,yz0,xx9,xx8,xx6,xx7,xx5,xx0,xx1,xx2,reduceIte,xx3,xx4,reduceCtorEq]
          exact ⟨(va,vb,x+1,L'),by dsimp only;omega,⟨by dsimp only;omega,hsu.symm,hne',hl2'⟩,rfl⟩
        | false =>
          rw [hh,if_neg (by simp)] at hsu
          simp only [hfh,hh,Bz2p,Bzf9,rws_getD hil2,hgw,go_sem,yz0,xx9,xx8,xx6,xx7,xx5,xx0,xx1,xx2,reduceIte,xx3,xx4,reduceCtorEq]
          refine fun vs5=>⟨⟨by omega,hi2⟩,hi2,?_⟩
          refine call_rowI (k_l00Own fw.2 (by omega)) qCS rfl ⟨_,rfl⟩ ?_
          rintro ys v68 rfl
          simp only [Bzf8,go_sem,yz0,xx9,xx8,xx6,xx7,xx5,xx0,xx1,xx2,reduceIte,xx3,xx4,reduceCtorEq]
          refine ⟨⟨_,rfl,rfl⟩,by omega,?_⟩
          intro hM3
          by_cases hq0:q=[]
          · subst hq0
            obtain ⟨t9,ht9⟩:=hpreT (x+1) hxl1
            rw [hsu,List.append_assoc] at ht9
            have hq:=qT_some ht9 hl2' hne'
            have hqc:qC T=0:=by unfold qC;rw [hq];rfl
            have h00:(((0:Nat):Int) == 0)=true:=rfl
            simp only [Bz2q,h00,Aza,← hQ,go_sem,yz0,xx9,xx8,xx6,xx7,xx5,xx0,xx1,xx2,reduceIte,xx3,xx4,reduceCtorEq]
            refine ⟨[68],by simp,by simp,by simp,?_⟩
            simp only [range1,List.length_singleton,Nat.not_lt_zero,range1,yzx,yz10,yz1c,yz1b,yzz,yz19,yz1a,yz18,yzy,yzu,yzi,yz5,yzs,yzt,yzp,yzn,yzq,yzb,yzc,yz8,yz7,yzg,yzh,yz2,yz9,yza,yz6,yzj,yzf,List.range_zero,yz4,yz3,yzd,yzr,yzm,yzo,AVal.fresh,freshL,yz1,yze,AObj.fresh,id,Option.isSome_some,or_true,true_or,go_sem,yz0,xx9,xx8,xx6,xx7,xx5,xx0,xx1,xx2,reduceIte,xx3,xx4,reduceCtorEq]
            simp only [hq,hqc,if_neg hn1,Option.getD_some]
            exact ⟨_,rfl,rfl⟩
          · have hql:q.length≠0:=fun e=>hq0 (List.eq_nil_of_length_eq_zero e)
            have hqb:((q.length:Int) == 0)=false:=by simpa using hq0
            obtain ⟨L2,hL2⟩:∃ L2,L2=L' ++ [(q,fw.2 ++ [(x:Int)])]:=⟨_,rfl⟩
            rw [← hL2] at hsu
            have hl3:L2.length=L'.length+1:=by rw [hL2];simp
            have hne2:∀ p∈L2,p.1≠[]:=fun p hp=>by
              rw [hL2] at hp
              rcases List.mem_append.1 hp with hp | hp
              · exact hne' p hp
              · rw [List.mem_singleton.1 hp];exact hq0
            by_cases h30:(2000:Int)≤L'.length
            · obtain ⟨t9,ht9⟩:=hpreT (x+1) hxl1
              rw [hsu] at ht9
              obtain ⟨hq,hqc⟩:=qT_lim ht9 (by omega) hne2
              simp only [Bz2q,Bz6u,Bz6t,hqb,rws_len,List.length_map,decide_eq_true h30,Aza,← hQ,go_sem,yz0,xx9,xx8,xx6,xx7,xx5,xx0,xx1,xx2,reduceIte,xx3,xx4,reduceCtorEq]
              intro hM4 vs6
              refine ⟨[79],by simp,by simp,by simp,?_⟩
              simp only [range1,List.length_singleton,Nat.not_lt_zero,range1,yzx,yz10,yz1c,yz1b,yzz,yz19,yz1a,yz18,yzy,yzu,yzi,yz5,yzs,yzt,yzp,yzn,yzq,yzb,yzc,yz8,yz7,yzg,yzh,yz2,yz9,yza,yz6,yzj,yzf,List.range_zero,yz4,yz3,yzd,yzr,yzm,yzo,AVal.fresh,freshL,yz1,yze,AObj.fresh,id,Option.isSome_some,or_true,true_or,go_sem,yz0,xx9,xx8,xx6,xx7,xx5,xx0,xx1,xx2,reduceIte,xx3,xx4,reduceCtorEq]
              simp only [hq,hqc,if_neg hn1,Option.getD_none]
              exact ⟨_,rfl,rfl⟩
            · simp only [Bz2q,Bz6u,Bz6t,Bzf7,Bzf6,Bz2r,hqb,rws_len,rws_snoc,List.length_map,decide_eq_false h30,w1,go_sem,yz0,xx9,xx8,xx6,xx7,xx5,xx0,xx1,xx2,reduceIte,xx3,xx4,reduceCtorEq]
              have hs1:dsI L' ++ [q.map fun (f:Nat)=>(f:Int)]=dsI L2:=by rw [hL2];simp
              have hs2:(L'.map (·.2)) ++ [fw.2 ++ [(x:Int)]]=L2.map (·.2):=by rw [hL2];simp
              exact fun hM4 vs6=>⟨by omega,fun vs7=>⟨by omega,(vs6 3 0,vs7 3 0,x+1,L2),by dsimp only;omega,⟨by dsimp only;omega,hsu.symm,hne2,by dsimp only;omega⟩,by rw [hs1,hs2]⟩⟩
    · obtain rfl:x=next.length:=by omega
      have hR':runG (dbtD next out o tl) next.length ([],[]) (F - (i+1)) (i+1) L'=T:=by rw [hF'2,hL'];exact hR
      simp only [Bz2s,Bz6s,Bzfc,wi,decide_eq_false hxl,go_sem,yz0,xx9,xx8,xx6,xx7,xx5,xx0,xx1,xx2,reduceIte,xx3,xx4,reduceCtorEq]
      try intro hM9
      exact ⟨(va,vb,i+1,L'),by dsimp only;omega,⟨hI',by dsimp only;omega,hR',hne',hl2'⟩,rfl⟩
  · obtain rfl:i=L.length:=by omega
    have hLT:L=T:=by
      obtain ⟨F',hF'⟩:∃ F',F - L.length=F'+1:=⟨F - L.length - 1,by omega⟩
      rw [hF'] at hR
      simpa only [runG,Nat.lt_irrefl,if_false] using hR
    obtain ⟨hq,hqc⟩:=qT_end (T:=L) hl2 hne
    rw [hLT] at hq hqc
    simp only [Bz2t,Bz6r,Bzff,rws_len,List.length_map,decide_eq_false hlt,Aza,← hQ,go_sem,yz0,xx9,xx8,xx6,xx7,xx5,xx0,xx1,xx2,reduceIte,xx3,xx4,reduceCtorEq]
    intro hM1 vs3
    refine ⟨[88],by simp,by simp,by simp,?_⟩
    simp only [range1,List.length_singleton,Nat.not_lt_zero,range1,yzx,yz10,yz1c,yz1b,yzz,yz19,yz1a,yz18,yzy,yzu,yzi,yz5,yzs,yzt,yzp,yzn,yzq,yzb,yzc,yz8,yz7,yzg,yzh,yz2,yz9,yza,yz6,yzj,yzf,List.range_zero,yz4,yz3,yzd,yzr,yzm,yzo,AVal.fresh,freshL,yz1,yze,AObj.fresh,id,Option.isSome_some,or_true,true_or,go_sem,yz0,xx9,xx8,xx6,xx7,xx5,xx0,xx1,xx2,reduceIte,xx3,xx4,reduceCtorEq]
    simp only [hq,hqc,if_neg hn1,Option.getD_none]
    exact ⟨_,rfl,rfl⟩
def homC (next out:List (List Int)) (o:Int) (tl:Bool) (n:Int) (F:Nat):Int:=if machB n o next out=true then (if n=1 then 0 else qC (dbtT next out o tl n F)) else 1
theorem k_HomingWord (n o:Int) (next out:List (List Int)) (F:Nat) (hF:Enough n.toNat F) (hso:n.toNat / 2 * o.toNat≤12) :
    RowT Tryz.prog nz3u [machA n o next out] (machB n o next out && (!decide (n=1) && (qT (dbtT next out o false n F)).isSome)) ((qT (dbtT next out o false n F)).getD []) (homC next out o false n F):=by
  refine con_of mixed czm0 rfl (by simp) ?_
  generalize hQ:finQ _=Q
  simp only [Azl,Bzba,go_sem,yz0,xx9,xx8,xx6,xx7,xx5,xx0,xx1,xx2,reduceIte,xx3,xx4,reduceCtorEq]
  intro vs vs2
  refine yzv (k_ValidMachine n o next out) qCS trivial ?_
  cases hv:machB n o next out with
  | false =>
    simp only [Bz5m,Azl,← hQ,go_sem,yz0,xx9,xx8,xx6,xx7,xx5,xx0,xx1,xx2,reduceIte,xx3,xx4,reduceCtorEq]
    refine ⟨[],by simp,by simp,by simp,?_⟩
    simp only [List.map_nil,List.length_nil,Nat.not_lt_zero,range1,yzx,yz10,yz1c,yz1b,yzz,yz19,yz1a,yz18,yzy,yzu,yzi,yz5,yzs,yzt,yzp,yzn,yzq,yzb,yzc,yz8,yz7,yzg,yzh,yz2,yz9,yza,yz6,yzj,yzf,List.range_zero,yz4,yz3,yzd,yzr,yzm,yzo,AVal.fresh,freshL,yz1,yze,AObj.fresh,id,Option.isSome_some,or_true,true_or,go_sem,yz0,xx9,xx8,xx6,xx7,xx5,xx0,xx1,xx2,reduceIte,xx3,xx4,reduceCtorEq]
    unfold homC
    rw [hv]
    first
      | rfl
      | exact ⟨trivial,rfl⟩
      | simp
  | true =>
    have M:=machB_iff.1 hv
    have hK:=k_settle n o next out M false F hF hso
    simp only [Bz5m,Bzb9,go_sem,yz0,xx9,xx8,xx6,xx7,xx5,xx0,xx1,xx2,reduceIte,xx3,xx4,reduceCtorEq]
    intro vs3
    refine call_rowT hK qCS qGN (fun h v=>?_) (fun h=>?_)
    · simp only [Azl,← hQ,go_sem,yz0,xx9,xx8,xx6,xx7,xx5,xx0,xx1,xx2,reduceIte,xx3,xx4,reduceCtorEq]
      refine ⟨[8],by simp,by simp,by simp,?_⟩
      simp only [range1,List.length_singleton,Nat.not_lt_zero,range1,yzx,yz10,yz1c,yz1b,yzz,yz19,yz1a,yz18,yzy,yzu,yzi,yz5,yzs,yzt,yzp,yzn,yzq,yzb,yzc,yz8,yz7,yzg,yzh,yz2,yz9,yza,yz6,yzj,yzf,List.range_zero,yz4,yz3,yzd,yzr,yzm,yzo,AVal.fresh,freshL,yz1,yze,AObj.fresh,id,Option.isSome_some,or_true,true_or,go_sem,yz0,xx9,xx8,xx6,xx7,xx5,xx0,xx1,xx2,reduceIte,xx3,xx4,reduceCtorEq]
      rw [hv,h]
      unfold homC
      rw [hv]
      exact ⟨_,rfl,rfl⟩
    · simp only [Azl,← hQ,go_sem,yz0,xx9,xx8,xx6,xx7,xx5,xx0,xx1,xx2,reduceIte,xx3,xx4,reduceCtorEq]
      refine ⟨[],by simp,by simp,by simp,?_⟩
      simp only [List.map_nil,List.length_nil,Nat.not_lt_zero,range1,yzx,yz10,yz1c,yz1b,yzz,yz19,yz1a,yz18,yzy,yzu,yzi,yz5,yzs,yzt,yzp,yzn,yzq,yzb,yzc,yz8,yz7,yzg,yzh,yz2,yz9,yza,yz6,yzj,yzf,List.range_zero,yz4,yz3,yzd,yzr,yzm,yzo,AVal.fresh,freshL,yz1,yze,AObj.fresh,id,Option.isSome_some,or_true,true_or,go_sem,yz0,xx9,xx8,xx6,xx7,xx5,xx0,xx1,xx2,reduceIte,xx3,xx4,reduceCtorEq]
      rw [hv,h]
      unfold homC
      rw [hv]
      first
        | rfl
        | exact ⟨trivial,rfl⟩
        | simp
theorem k_specHomingWord (n o:Int) (next out:List (List Int)) (F:Nat) (hF:Enough n.toNat F) :
    RowC2 Tryz.prog nz3v [machA n o next out] (if machB n o next out=true then (if n=1 then [] else (qT (dbtT next out o false n F)).getD []) else []) (homC next out o false n F):=by
  refine con_of mixed czm1 rfl (by simp) ?_
  generalize hQ:finQ _=Q
  simp only [Az28,Bzbc,go_sem,yz0,xx9,xx8,xx6,xx7,xx5,xx0,xx1,xx2,reduceIte,xx3,xx4,reduceCtorEq]
  intro vs vs2
  refine yzv (k_l06Ok n o next out) qCS trivial ?_
  cases hv:machB n o next out with
  | false =>
    simp only [Bz5n,Az28,← hQ,go_sem,yz0,xx9,xx8,xx6,xx7,xx5,xx0,xx1,xx2,reduceIte,xx3,xx4,reduceCtorEq]
    intro vs3
    refine ⟨[6],by simp,by simp,by simp,?_⟩
    simp only [range1,List.length_singleton,Nat.not_lt_zero,range1,yzx,yz10,yz1c,yz1b,yzz,yz19,yz1a,yz18,yzy,yzu,yzi,yz5,yzs,yzt,yzp,yzn,yzq,yzb,yzc,yz8,yz7,yzg,yzh,yz2,yz9,yza,yz6,yzj,yzf,List.range_zero,yz4,yz3,yzd,yzr,yzm,yzo,AVal.fresh,freshL,yz1,yze,AObj.fresh,id,Option.isSome_some,or_true,true_or,go_sem,yz0,xx9,xx8,xx6,xx7,xx5,xx0,xx1,xx2,reduceIte,xx3,xx4,reduceCtorEq]
    unfold homC
    rw [hv]
    exact ⟨_,rfl,rfl⟩
  | true =>
    have M:=machB_iff.1 hv
    have hK:=k_l06First n o next out M false F hF
    simp only [Bz5n,Bzbb,go_sem,yz0,xx9,xx8,xx6,xx7,xx5,xx0,xx1,xx2,reduceIte,xx3,xx4,reduceCtorEq]
    intro vs3
    refine call_rowC2 hK qCS qGN ?_
    intro v
    simp only [Az28,← hQ,go_sem,yz0,xx9,xx8,xx6,xx7,xx5,xx0,xx1,xx2,reduceIte,xx3,xx4,reduceCtorEq]
    refine ⟨[7],by simp,by simp,by simp,?_⟩
    simp only [range1,List.length_singleton,Nat.not_lt_zero,range1,yzx,yz10,yz1c,yz1b,yzz,yz19,yz1a,yz18,yzy,yzu,yzi,yz5,yzs,yzt,yzp,yzn,yzq,yzb,yzc,yz8,yz7,yzg,yzh,yz2,yz9,yza,yz6,yzj,yzf,List.range_zero,yz4,yz3,yzd,yzr,yzm,yzo,AVal.fresh,freshL,yz1,yze,AObj.fresh,id,Option.isSome_some,or_true,true_or,go_sem,yz0,xx9,xx8,xx6,xx7,xx5,xx0,xx1,xx2,reduceIte,xx3,xx4,reduceCtorEq]
    unfold homC
    rw [hv]
    exact ⟨_,rfl,rfl⟩
end Go.Ab
namespace Go.Ab
end Go.Ab
namespace Go.Ab
theorem appg_new {α:Type} {xs:List α} {y d:α}:(xs ++ [y]).getD xs.length d=y:=by
  simp [List.getD_eq_getElem?_getD]
end Go.Ab
namespace Go.Ab
structure CI (n:Int) (L:List Int):Prop where
  nd:L.Nodup
  rg:∀ s∈L,0≤s∧s<n
  hd:L.getD 0 1=0
theorem CI.len {n:Int} {L:List Int} (h:CI n L) (hn:n≤10):1≤L.length∧L.length≤10:=by
  have h1:L≠[]:=fun e=>by have:=h.hd;rw [e] at this;simp at this
  have hm:(L.map Int.toNat).Nodup:=by
    refine List.Pairwise.map _ ?_ (List.Pairwise.and_mem.1 h.nd)
    rintro a b ⟨ha,hb,hab⟩ e
    have:=h.rg a ha
    have:=h.rg b hb
    omega
  have:=nodup_lt 10 _ hm fun x hx=>by
    obtain ⟨s,hs,rfl⟩:=List.mem_map.1 hx
    have:=h.rg s hs
    omega
  rw [List.length_map] at this
  exact ⟨List.length_pos_iff.2 h1,this⟩
structure Rel (na oa nb ob:List (List Int)) (R:Int→Int→Prop):Prop where
  len:na.length=nb.length
  step:∀ s t,R s t→∀ x,0≤x∧x<(na.length:Int)→outA oa s x=outA ob t x∧R (stepA na s x) (stepA nb t x)
  fn:∀ s t t',R s t→R s t'→t=t'
  inj:∀ s s' t,R s t→R s' t→s=s'
def RelL (R:Int→Int→Prop) (L M:List Int):Prop:=L.length=M.length∧∀ i<L.length,R (L.getD i 0) (M.getD i 0)
theorem RelL.snoc {R:Int→Int→Prop} {L M:List Int} (h:RelL R L M) {s t:Int} (hst:R s t):RelL R (L ++ [s]) (M ++ [t]):=by
  refine ⟨by simp [h.1],fun i hi=>?_⟩
  rw [List.length_append,List.length_singleton] at hi
  by_cases e:i<L.length
  · rw [getD_app e,getD_app (by rw [← h.1];exact e)];exact h.2 i e
  · have e1:i=L.length:=by omega
    subst e1
    rw [appg_new]
    rw [h.1,appg_new];exact hst
end Go.Ab
namespace Go.Ab
end Go.Ab
namespace Go.Ab
open Go.Proofs
abbrev MachR (n o:Int) (xs ys:List (List Int)) (rows:List AObj) (res:AVal):Prop :=
  ∃ v w ps qs,rows=[.row v 1 true (rwp ps),.row w 1 true (rwp qs)]∧ps.map (·.2)=xs∧qs.map (·.2)=ys∧DJ (ps ++ qs)∧res=.st [iv n,iv o,.own 6000 v,.own 6001 w]
abbrev NamM (P:Program) (g:FuncId) (args:List AVal) (n o:Int) (xs ys:List (List Int)):Prop:=Fn P g args (MachR n o xs ys)
end Go.Ab
namespace Go.Ab
open Go.Proofs
end Go.Ab
namespace Go.Ab
open Go.Proofs
abbrev MachS (n o:Int) (xs ys:List (List Int)) (rows:List AObj) (res:AVal):Prop :=
  ∃ v w,rows=[.row v 1 true (rws xs),.row w 1 true (rws ys)]∧res=.st [iv n,iv o,.own 6000 v,.own 6001 w]
theorem NamM.dn {P:Program} {g:FuncId} {args:List AVal} {n o:Int} {xs ys:List (List Int)} (h:NamM P g args n o xs ys):Fn P g args (MachS n o xs ys):=by
  refine Con.dnr h ?_
  rintro o' r x ⟨rfl,v,w,ps,qs,rfl,rfl,rfl,_,rfl⟩
  refine ⟨rfl,v,w,?_,?_⟩
  · simp only [List.map_cons,List.map_nil,AObj.dn,dnL_rwp]
  · simp only [AVal.dn,dnL]
abbrev MachRC (ok:Bool) (n o:Int) (xs ys:List (List Int)) (code:Int) (rows:List AObj) (res:AVal):Prop :=
  if ok=true then ∃ v w ps qs,rows=[.row v 1 true (rwp ps),.row w 1 true (rwp qs)]∧ps.map (·.2)=xs∧qs.map (·.2)=ys∧DJ (ps ++ qs)∧res=.tup [.st [iv n,iv o,.own 6000 v,.own 6001 w],iv code]
  else rows=[]∧res=.tup [.st [iv 0,iv 0,nilS,nilS],iv code]
abbrev NamMR (P:Program) (g:FuncId) (args:List AVal) (ok:Bool) (n o:Int) (xs ys:List (List Int)) (code:Int):Prop:=Fn P g args (MachRC ok n o xs ys code)
abbrev MachSC (n o:Int) (xs ys:List (List Int)) (rows:List AObj) (res:AVal):Prop :=
  ∃ v w,rows=[.row v 1 true (rws xs),.row w 1 true (rws ys)]∧res=.tup [.st [iv n,iv o,.own 6000 v,.own 6001 w],iv 0]
theorem NamMR.dn {P:Program} {g:FuncId} {args:List AVal} {ok:Bool} {n o:Int} {xs ys:List (List Int)} {code:Int} (h:NamMR P g args ok n o xs ys code) (hok:ok=true) (hc:code=0):Fn P g args (MachSC n o xs ys):=by
  subst hok hc
  refine Con.dnr h ?_
  rintro o' r x ⟨rfl,hR⟩
  unfold MachRC at hR
  rw [if_pos rfl] at hR
  obtain ⟨v,w,ps,qs,rfl,rfl,rfl,_,rfl⟩:=hR
  refine ⟨rfl,v,w,?_,?_⟩
  · simp only [List.map_cons,List.map_nil,AObj.dn,dnL_rwp]
  · simp only [AVal.dn,dnL]
end Go.Ab
namespace Go.Ab
open Go.Proofs
end Go.Ab
namespace Go.Ab
open Go.Proofs
end Go.Ab
namespace Go.Ab
open Go.Proofs
theorem k_Machine_isWord (n o:Int) (next out:List (List Int)) (w:List Int) (hl:1≤next.length∧next.length≤3):Fun Tryz.prog nz47 [machA n o next out,.ro none 1 (ints w)] (bv (wordB next.length w)):=by
  refine fun_of mixed czmr rfl ⟨rfl,trivial⟩ ?_
  simp only [Azfs,Bzfr,go_sem,yz0,xx9,xx8,xx6,xx7,xx5,xx0,xx1,xx2,reduceIte,xx3,xx4,reduceCtorEq]
  intro vs vs2
  refine call_sh (k_forget n o next out) qCS (fun e=>by cases e) ?_
  rintro outs rows res ⟨rfl,rfl,rfl⟩
  refine ⟨rfl,by simp,by simp,?_⟩
  simp only [Nat.not_lt_zero,range1,yzx,yz10,yz1c,yz1b,yzz,yz19,yz1a,yz18,yzy,yzu,yzi,yz5,yzs,yzt,yzp,yzn,yzq,yzb,yzc,yz8,yz7,yzg,yzh,yz2,yz9,yza,yz6,yzj,yzf,List.range_zero,yz4,yz3,yzd,yzr,yzm,yzo,AVal.fresh,freshL,yz1,yze,AObj.fresh,id,Option.isSome_some,or_true,true_or,go_sem,yz0,xx9,xx8,xx6,xx7,xx5,xx0,xx1,xx2,reduceIte,xx3,xx4,reduceCtorEq]
  refine yzv (k_isWord n next w hl) qCS trivial ?_
  simp only [go_sem,yz0,xx9,xx8,xx6,xx7,xx5,xx0,xx1,xx2,reduceIte,xx3,xx4,reduceCtorEq]
theorem k_Machine_outputs (n o:Int) (next out:List (List Int)) (M:Mach n o next out) (s:Int) (hs:0≤s∧s<n) (w:List Int) (hw:IsW next.length w) (hwl:w.length≤1000000) :
    Fn Tryz.prog nz1h [machA n o next out,iv s,.ro none 1 (ints w)] fun rows res=>∃ v,rows=[.row v 1 true (ints (outsA next out s w))]∧res=.tup [.own 6000 v,iv (atA next s w)]:=by
  refine con_of mixed czno rfl (by simp) ?_
  generalize hQ:finQ _=Q
  simp only [Az8r,Bzjl,go_sem,yz0,xx9,xx8,xx6,xx7,xx5,xx0,xx1,xx2,reduceIte,xx3,xx4,reduceCtorEq]
  intro vs vs1
  simp only [Bzjk,Bzji,go_sem,yz0,xx9,xx8,xx6,xx7,xx5,xx0,xx1,xx2,reduceIte,xx3,xx4,reduceCtorEq]
  intro hMw
  refine wpD_lo (fun (_,i,_,_)=>w.length - i) (fun (_,i,u,r)=>i≤w.length∧(0≤u∧u<n)∧r ++ outsA next out u (w.drop i)=outsA next out s w∧atA next u (w.drop i)=atA next s w∧List.length r=i)
    (fun ((va,i,u,r):Nat×Nat×Int×List Int)=>⟨L .any [(1,iv u),(3,.ptr 3 (vs 0 0) 0),(8,.own 11 va),(12,.ro none 1 (ints w)),(13,iv w.length),(14,iv i)],L .gone [(3,.box (vs 0 0) [iv n,iv o,.ro none 1 (rwn next),.ro none 1 (rwn out)]),(11,.row va 1 true (ints r))]⟩)
    (_,0,s,[]) ⟨by omega,hs,rfl,rfl,rfl⟩ (by simp only [Bz3a,go_sem,yz0,xx9,xx8,xx6,xx7,xx5,xx0,xx1,xx2,reduceIte,xx3,xx4,reduceCtorEq];try rfl) ?_
  rintro ⟨va,i,u,r⟩ ⟨hi,hu,hr,hat,hrl⟩
  have hi:i≤w.length:=hi
  have hrl:r.length=i:=hrl
  by_cases hlt:(i:Int)<w.length
  · have hlt1:i<w.length:=by omega
    rw [drop_getD hlt1 0] at hr hat
    have hx:=hw _ (yzk hlt1 0)
    generalize hxe:w.getD i 0=x at hr hat hx
    have hxl:x.toNat<next.length:=by omega
    have hxo:x.toNat<out.length:=by rw [M.len];exact hxl
    have r1:=M.aut.row _ (yzk hxl [])
    have r2:=M.row _ (yzk hxo [])
    have z1:u.toNat<(next.getD x.toNat []).length:=by omega
    have z2:u.toNat<(out.getD x.toNat []).length:=by omega
    have hst:=r1.2 _ (yzk z1 0)
    simp only [Bz3a,Bz8q,Bzjh,yzl hlt1,hxe,rwn_getD hxo,yzl z2,decide_eq_true hlt,go_sem,yz0,xx9,xx8,xx6,xx7,xx5,xx0,xx1,xx2,reduceIte,xx3,xx4,reduceCtorEq]
    refine ⟨⟨by omega,hlt1⟩,hlt1,?_⟩
    simp only [Bzjf,Bzje,Bzjg,yzl hlt1,hxe,rwn_getD hxo,rwn_getD hxl,yzl z2,yzl z1,nat1 i _ hlt1 hMw,go_sem,yz0,xx9,xx8,xx6,xx7,xx5,xx0,xx1,xx2,reduceIte,xx3,xx4,reduceCtorEq]
    intro vs2
    refine ⟨⟨hx.1,hxo⟩,hxo,⟨hu.1,z2⟩,z2,⟨_,rfl,rfl⟩,by omega,⟨hx.1,hxl⟩,hxl,⟨hu.1,z1⟩,z1,?_⟩
    refine ⟨(vs2 10 0,i+1,(next.getD x.toNat []).getD u.toNat 0,r ++ [(out.getD x.toNat []).getD u.toNat 0]),by dsimp only;omega,⟨by dsimp only;omega,hst,?_,hat,by dsimp only;rw [List.length_append,hrl];rfl⟩,rfl⟩
    dsimp only
    rw [← hr]
    simp only [outsA,List.append_assoc,List.cons_append,List.nil_append]
    rfl
  · have:i=w.length:=by omega
    subst this
    rw [List.drop_length] at hr hat
    simp only [outsA,List.append_nil] at hr
    simp only [Bz3a,Bz8q,Bzjj,decide_eq_false hlt,Az8r,← hQ,go_sem,yz0,xx9,xx8,xx6,xx7,xx5,xx0,xx1,xx2,reduceIte,xx3,xx4,reduceCtorEq]
    refine ⟨[11],by simp,by simp,by simp,?_⟩
    simp only [range1,List.length_singleton,Nat.not_lt_zero,range1,yzx,yz10,yz1c,yz1b,yzz,yz19,yz1a,yz18,yzy,yzu,yzi,yz5,yzs,yzt,yzp,yzn,yzq,yzb,yzc,yz8,yz7,yzg,yzh,yz2,yz9,yza,yz6,yzj,yzf,List.range_zero,yz4,yz3,yzd,yzr,yzm,yzo,AVal.fresh,freshL,yz1,yze,AObj.fresh,id,Option.isSome_some,or_true,true_or,go_sem,yz0,xx9,xx8,xx6,xx7,xx5,xx0,xx1,xx2,reduceIte,xx3,xx4,reduceCtorEq]
    exact ⟨va,by rw [hr],by rw [← hat];rfl⟩
end Go.Ab
namespace Go.Ab
open Go.Proofs
def everyP (n:Nat) (q:Nat→Nat→Bool):Bool:=(List.range n).all fun s=>(List.range s).all fun t=>q s t
theorem all_snoc {s:Nat} {q:Nat→Bool}:(List.range (s+1)).all q=((List.range s).all q && q s):=by
  rw [List.range_succ,List.all_append];simp
theorem all_false {n s:Nat} {q:Nat→Bool} (h:s<n) (e:q s=false):(List.range n).all q=false:=by
  rw [List.all_eq_false]
  exact ⟨s,List.mem_range.2 h,by simp [e]⟩
def prB (next out:List (List Int)) (w:List Int) (p:Bool→Int→Int→Bool) (s t:Nat):Bool:=p (decide (outsA next out s w=outsA next out t w)) (atA next s w) (atA next t w)
theorem k_everyPair (n o:Int) (next out:List (List Int)) (M:Mach n o next out) (w:List Int) (hw:IsW next.length w) (hwl:w.length≤1000000) (g:FuncId) (p:Bool→Int→Int→Bool)
    (hg:∀ b x y,Fun Tryz.prog g [bv b,iv x,iv y] (bv (p b x y))) :
    Fun Tryz.prog nz48 [machA n o next out,.ro none 1 (ints w),.clo g []] (bv (everyP n.toNat (prB next out w p))):=by
  refine fun_of mixed czms rfl ⟨rfl,trivial⟩ ?_
  have n1:=M.aut.n1
  have n2:=M.aut.n2
  simp only [Azg5,Bzg4,Bzg2,go_sem,yz0,xx9,xx8,xx6,xx7,xx5,xx0,xx1,xx2,reduceIte,xx3,xx4,reduceCtorEq]
  intro vs
  refine wpD_lo (fun s=>n.toNat - s) (fun s=>s≤n.toNat∧everyP s (prB next out w p)=true)
    (fun (s:Nat)=>⟨L .any [(1,.ro none 1 (ints w)),(2,.clo g []),(3,.ptr 3 (vs 0 0) 0),(14,iv n),(15,iv s)],L .gone [(3,.box (vs 0 0) [iv n,iv o,.ro none 1 (rwn next),.ro none 1 (rwn out)])]⟩)
    0 ⟨by simp,rfl⟩ (by simp only [Bz2v,go_sem,yz0,xx9,xx8,xx6,xx7,xx5,xx0,xx1,xx2,reduceIte,xx3,xx4,reduceCtorEq];try rfl) ?_
  rintro s ⟨hs,ha⟩
  by_cases hlt:(s:Int)<n
  · have hs1:s<n.toNat:=by omega
    have w1:IntKind.i64.wrap ((s:Int)+1)=((s+1:Nat):Int):=by rw [w64 (by omega)];simp
    simp only [Bz2v,Bz75,Bzg1,Bzfz,Bzfy,decide_eq_true hlt,go_sem,yz0,xx9,xx8,xx6,xx7,xx5,xx0,xx1,xx2,reduceIte,xx3,xx4,reduceCtorEq]
    refine wpD_lo (fun t=>s - t) (fun t=>t≤s∧((List.range t).all fun t=>prB next out w p s t)=true)
      (fun (t:Nat)=>⟨L .any [(1,.ro none 1 (ints w)),(2,.clo g []),(3,.ptr 3 (vs 0 0) 0),(7,iv s),(14,iv n),(15,iv s),(18,iv s),(19,iv t)],L .gone [(3,.box (vs 0 0) [iv n,iv o,.ro none 1 (rwn next),.ro none 1 (rwn out)])]⟩)
      0 ⟨by simp,rfl⟩ (by simp only [Bz2u,go_sem,yz0,xx9,xx8,xx6,xx7,xx5,xx0,xx1,xx2,reduceIte,xx3,xx4,reduceCtorEq];try rfl) ?_
    rintro t ⟨ht,hb⟩
    by_cases htl:(t:Int)<s
    · have ht1:t<s:=by omega
      have w2:IntKind.i64.wrap ((t:Int)+1)=((t+1:Nat):Int):=by rw [w64 (by omega)];simp
      simp only [Bz2u,Bz74,Bzfx,Bzfv,decide_eq_true htl,go_sem,yz0,xx9,xx8,xx6,xx7,xx5,xx0,xx1,xx2,reduceIte,xx3,xx4,reduceCtorEq]
      intro vs2
      refine call_fn (k_Machine_outputs n o next out M s ⟨by omega,hlt⟩ w hw hwl) qCS (fun e=>by cases e) ?_
      rintro rows res ⟨v26,rfl,rfl⟩
      refine ⟨by simp,(fun k hk=>by obtain rfl:k=0:=(by simpa using hk);rfl),?_⟩
      simp only [Bzfu,Nat.not_lt_zero,range1,yzx,yz10,yz1c,yz1b,yzz,yz19,yz1a,yz18,yzy,yzu,yzi,yz5,yzs,yzt,yzp,yzn,yzq,yzb,yzc,yz8,yz7,yzg,yzh,yz2,yz9,yza,yz6,yzj,yzf,List.range_zero,yz4,yz3,yzd,yzr,yzm,yzo,AVal.fresh,freshL,yz1,yze,AObj.fresh,id,Option.isSome_some,or_true,true_or,go_sem,yz0,xx9,xx8,xx6,xx7,xx5,xx0,xx1,xx2,reduceIte,xx3,xx4,reduceCtorEq]
      intro vs3
      refine call_fn (k_Machine_outputs n o next out M t ⟨by omega,by omega⟩ w hw hwl) qCS (fun e=>by cases e) ?_
      rintro rows res ⟨v33,rfl,rfl⟩
      refine ⟨by simp,(fun k hk=>by obtain rfl:k=0:=(by simpa using hk);rfl),?_⟩
      simp only [Bzft,Nat.not_lt_zero,range1,yzx,yz10,yz1c,yz1b,yzz,yz19,yz1a,yz18,yzy,yzu,yzi,yz5,yzs,yzt,yzp,yzn,yzq,yzb,yzc,yz8,yz7,yzg,yzh,yz2,yz9,yza,yz6,yzj,yzf,List.range_zero,yz4,yz3,yzd,yzr,yzm,yzo,AVal.fresh,freshL,yz1,yze,AObj.fresh,id,Option.isSome_some,or_true,true_or,go_sem,yz0,xx9,xx8,xx6,xx7,xx5,xx0,xx1,xx2,reduceIte,xx3,xx4,reduceCtorEq]
      intro vs4
      refine yzv (k_Equal (outsA next out s w) (outsA next out t w)) qCS trivial ?_
      simp only [go_sem,yz0,xx9,xx8,xx6,xx7,xx5,xx0,xx1,xx2,reduceIte,xx3,xx4,reduceCtorEq]
      refine yzv (hg (decide (outsA next out s w=outsA next out t w)) (atA next s w) (atA next t w)) qCS trivial ?_
      cases hp:p (decide (outsA next out s w=outsA next out t w)) (atA next s w) (atA next t w) with
      | true =>
        simp only [Bz73,Bzfw,Bool.not_true,w2,go_sem,yz0,xx9,xx8,xx6,xx7,xx5,xx0,xx1,xx2,reduceIte,xx3,xx4,reduceCtorEq]
        exact ⟨t+1,by omega,⟨by omega,by rw [all_snoc,hb];exact hp⟩,rfl⟩
      | false =>
        have hf:everyP n.toNat (prB next out w p)=false:=all_false hs1 (all_false ht1 hp)
        simp only [Bz73,Bool.not_false,hf,go_sem,yz0,xx9,xx8,xx6,xx7,xx5,xx0,xx1,xx2,reduceIte,xx3,xx4,reduceCtorEq]
    · obtain rfl:t=s:=by omega
      simp only [Bz2u,Bz74,Bzg0,decide_eq_false htl,w1,go_sem,yz0,xx9,xx8,xx6,xx7,xx5,xx0,xx1,xx2,reduceIte,xx3,xx4,reduceCtorEq]
      exact ⟨t+1,by omega,⟨by omega,by unfold everyP at ha ⊢;rw [all_snoc,ha,hb];rfl⟩,rfl⟩
  · obtain rfl:s=n.toNat:=by omega
    simp only [Bz2v,Bz75,Bzg3,decide_eq_false hlt,ha,go_sem,yz0,xx9,xx8,xx6,xx7,xx5,xx0,xx1,xx2,reduceIte,xx3,xx4,reduceCtorEq]
def hmP (tl:Bool) (b:Bool) (x y:Int):Bool:=!b || (!tl && x == y)
def homB (next out:List (List Int)) (tl:Bool) (n:Int) (w:List Int):Bool:=everyP n.toNat (prB next out w (hmP tl))
theorem k_IsHoming_2 (b:Bool) (x y:Int):Fun Tryz.prog nz18 [bv b,iv x,iv y] (bv (hmP false b x y)):=by
  refine fun_of mixed czmt rfl ⟨rfl,trivial⟩ ?_
  unfold hmP
  cases b <;> simp only [Azg7,Bzg6,Bool.not_true,Bool.not_false,Bool.true_or,Bool.false_or,Bool.true_and,go_sem,yz0,xx9,xx8,xx6,xx7,xx5,xx0,xx1,xx2,reduceIte,xx3,xx4,reduceCtorEq]
theorem k_IsHoming_1 (n o:Int) (next out:List (List Int)) (w:List Int) (hl:1≤next.length∧next.length≤3) :
    Fun Tryz.prog nz17 [machP n o next out,.rp [.ro none 1 (ints w)] 0] (bv (wordB next.length w)):=by
  refine fun_of mixed czmq rfl ⟨rfl,trivial⟩ ?_
  simp only [Bzfp,Azfq,go_sem,yz0,xx9,xx8,xx6,xx7,xx5,xx0,xx1,xx2,reduceIte,xx3,xx4,reduceCtorEq]
  intro vs
  refine yzv (k_Machine_isWord n o next out w hl) qCS trivial ?_
  simp only [go_sem,yz0,xx9,xx8,xx6,xx7,xx5,xx0,xx1,xx2,reduceIte,xx3,xx4,reduceCtorEq]
theorem k_IsHoming (n o:Int) (next out:List (List Int)) (M:Mach n o next out) (w:List Int) (hw:wordB next.length w=true) :
    Fun2 Tryz.prog nz3x [machA n o next out,.ro none 1 (ints w)] (.bool (homB next out false n w)) (.int .i64 0):=by
  refine fun2_of mixed czm4 rfl ?_
  have hv:=machB_iff.2 M
  have hW:=wordB_iff.1 hw
  simp only [Azby,Bzbx,go_sem,yz0,xx9,xx8,xx6,xx7,xx5,xx0,xx1,xx2,reduceIte,xx3,xx4,reduceCtorEq]
  intro vs vs2
  refine yzv (k_Machine_code n o next out nz17 [machP n o next out,.rp [.ro none 1 (ints w)] 0] _ ⟨by simp only [go_sem,yz0,xx9,xx8,xx6,xx7,xx5,xx0,xx1,xx2,reduceIte,xx3,xx4,reduceCtorEq],by intros;simp only [rowIs,boxIs,coe_argN,coe_argNs,coe_ro_o,coeL_nil,yz11,coe_any,coe_val,coe_ro,yz14,yz16,coe_st,yz17,coe_rp,yz15,coe_clo,coe_own0,coe_ptr0,yz13,coeL_rws,coeL_rwn,L_hit,L_miss,L_nil,xx3,ne_eq,reduceCtorEq,not_false_eq_true,true_and,and_true,and_self,exists_eq_left,exists_eq_right,List.mem_cons,List.not_mem_nil,or_false,AObj.row.injEq,AObj.box.injEq,exists_eq_left',exists_and_left,exists_eq,Nat.zero_lt_one,Nat.lt_add_one,List.map_cons,List.map_nil,AObj.ver,xx5,not_true_eq_false]⟩ (fun _=>k_IsHoming_1 n o next out w ⟨M.aut.l1,M.aut.l2⟩)) qCS trivial ?_
  have hc:codeI (machB n o next out) (wordB next.length w)=0:=by rw [hv,hw];rfl
  have h0:((0:Int) != 0)=false:=rfl
  simp only [hc,h0,Bzbv,Bzbu,Bzbw,go_sem,yz0,xx9,xx8,xx6,xx7,xx5,xx0,xx1,xx2,reduceIte,xx3,xx4,reduceCtorEq]
  intro vs3
  refine yzv (k_everyPair n o next out M w hW.2 (by have:=hW.1;omega) nz18 (hmP false) k_IsHoming_2) qCS trivial ?_
  simp only [go_sem,yz0,xx9,xx8,xx6,xx7,xx5,xx0,xx1,xx2,reduceIte,xx3,xx4,reduceCtorEq]
  rfl
end Go.Ab
namespace Go.Ab
theorem outsA_snoc {next out:List (List Int)} {x:Int}:∀ {w:List Int} {s:Int},outsA next out s (w ++ [x])=outsA next out s w ++ [outA out (atA next s w) x]
  | [],s=>rfl
  | y :: w,s=>by
    have:=outsA_snoc (next:=next) (out:=out) (x:=x) (w:=w) (s:=stepA next s y)
    simp only [List.cons_append,outsA,this];rfl
theorem atA_snoc {next:List (List Int)} {x:Int} {w:List Int} {s:Int}:atA next s (w ++ [x])=stepA next (atA next s w) x:=by simp [atA]
theorem dvF_app {nr or:List Int} {o:Int} {S:List Int} {s:Int}:dvF nr or o (S ++ [s])=dvS nr or (dvF nr or o S) s:=by unfold dvF;rw [List.foldl_append];rfl
theorem set_getD5 {l:List Nat} {i j v:Nat} (hi:i<l.length):(l.set i v).getD j 0=if i=j then v else l.getD j 0:=by
  rw [List.getD_eq_getElem?_getD,List.getElem?_set,List.getD_eq_getElem?_getD]
  by_cases e:i=j
  · rw [if_pos e,if_pos e,if_pos hi];rfl
  · rw [if_neg e,if_neg e]
theorem dvF_bit {nr or:List Int} {o:Int} (ho:0≤o) {b u:Nat} (hb:b<o.toNat):∀ (k:Nat) (S:List Int),S.length=k→(∀ s∈S,0≤or.getD s.toNat 0∧or.getD s.toNat 0<o) →
    (((dvF nr or o S).1.getD b 0).testBit u=true↔∃ s∈S,(or.getD s.toNat 0).toNat=b∧(nr.getD s.toNat 0).toNat=u)
  | 0,S,hk,_=>by
    obtain rfl:=List.eq_nil_of_length_eq_zero hk
    have:(List.replicate o.toNat 0).getD b 0=0:=by
      rw [List.getD_eq_getElem?_getD,List.getElem?_replicate,if_pos hb];rfl
    unfold dvF
    simp only [List.foldl_nil]
    rw [this]
    simp
  | k+1,S,hk,hS=>by
    have hne:S≠[]:=fun e=>by rw [e] at hk;simp at hk
    have e:=List.dropLast_concat_getLast hne
    have ih:=dvF_bit (nr:=nr) (u:=u) ho hb k S.dropLast (by rw [List.length_dropLast];omega) fun s hs=>hS s (List.dropLast_subset S hs)
    have hl:=hS _ (List.getLast_mem hne)
    generalize S.getLast hne=s at e hl
    generalize S.dropLast=R at e ih
    subst e
    have hlen:=dvF_len (nr:=nr) (or:=or) (o:=o) (S:=R)
    rw [dvF_app]
    unfold dvS
    dsimp only
    rw [set_getD5 (by rw [hlen];omega)]
    by_cases e:(or.getD s.toNat 0).toNat=b
    · rw [if_pos e,e,Nat.testBit_or,Nat.testBit_two_pow,Bool.or_eq_true,ih,decide_eq_true_eq]
      constructor
      · rintro (⟨v,h1,h2,h3⟩ | h)
        · exact ⟨v,by simp [h1],h2,h3⟩
        · exact ⟨s,by simp,e,h⟩
      · rintro ⟨v,h1,h2,h3⟩
        rcases List.mem_append.1 h1 with h | h
        · exact .inl ⟨v,h,h2,h3⟩
        · rw [List.mem_singleton.1 h] at h3;exact .inr h3
    · rw [if_neg e,ih]
      constructor
      · rintro ⟨v,h1,h2,h3⟩;exact ⟨v,by simp [h1],h2,h3⟩
      · rintro ⟨v,h1,h2,h3⟩
        rcases List.mem_append.1 h1 with h | h
        · exact ⟨v,h,h2,h3⟩
        · rw [List.mem_singleton.1 h] at h2;exact absurd h2 e
theorem and_pow0 {a k:Nat}:Nat.beq (a &&& 2 ^ k) 0=!(a.testBit k):=by
  have h:(a &&& 2 ^ k=0)↔a.testBit k=false:=by
    constructor
    · intro h
      have:=congrArg (fun z=>z.testBit k) h
      simpa [Nat.testBit_and,Nat.testBit_two_pow] using this
    · intro h
      refine Nat.eq_of_testBit_eq fun i=>?_
      rw [Nat.testBit_and,Nat.testBit_two_pow,Nat.zero_testBit]
      by_cases e:k=i
      · subst e;simp [h]
      · simp [e]
  cases hb:a.testBit k with
  | false=>rw [h.2 hb];rfl
  | true =>
    have:a &&& 2 ^ k≠0:=fun e=>by rw [h.1 e] at hb;cases hb
    cases hz:a &&& 2 ^ k with
    | zero=>exact absurd hz this
    | succ z=>rfl
theorem dvF_clr {nr or:List Int} {o:Int} (ho:0≤o):∀ (k:Nat) (S:List Int),S.length=k→(∀ s∈S,0≤or.getD s.toNat 0∧or.getD s.toNat 0<o) →
    ((dvF nr or o S).2=true↔S.Pairwise fun a b=>¬ ((or.getD a.toNat 0).toNat=(or.getD b.toNat 0).toNat∧(nr.getD a.toNat 0).toNat=(nr.getD b.toNat 0).toNat))
  | 0,S,hk,_=>by
    obtain rfl:=List.eq_nil_of_length_eq_zero hk
    simp [dvF]
  | k+1,S,hk,hS=>by
    have hne:S≠[]:=fun e=>by rw [e] at hk;simp at hk
    have e:=List.dropLast_concat_getLast hne
    have ih:=dvF_clr (nr:=nr) (or:=or) ho k S.dropLast (by rw [List.length_dropLast];omega) fun s hs=>hS s (List.dropLast_subset S hs)
    have hl:=hS _ (List.getLast_mem hne)
    have hS':∀ s∈S.dropLast,0≤or.getD s.toNat 0∧or.getD s.toNat 0<o:=fun s hs=>hS s (List.dropLast_subset S hs)
    generalize S.getLast hne=s at e hl
    generalize S.dropLast=R at e ih hS'
    subst e
    have hbit:=dvF_bit (nr:=nr) (or:=or) (o:=o) (b:=(or.getD s.toNat 0).toNat) (u:=(nr.getD s.toNat 0).toNat) ho (by omega) R.length R rfl hS'
    rw [dvF_app,List.pairwise_append]
    unfold dvS
    dsimp only
    rw [and_pow0,Bool.and_eq_true,ih,Bool.not_eq_true',← Bool.not_eq_true,hbit]
    constructor
    · rintro ⟨h1,h2⟩
      refine ⟨h1,by simp,fun a ha b hb=>?_⟩
      rw [List.mem_singleton.1 hb]
      exact fun h=>h2 ⟨a,ha,h.1,h.2⟩
    · rintro ⟨h1,_,h2⟩
      exact ⟨h1,fun ⟨a,ha,h3,h4⟩=>h2 a ha s (by simp) ⟨h3,h4⟩⟩
theorem pw_all {α:Type} {R:α→α→Prop} (hs:∀ a b,R a b→R b a):∀ {l:List α},l.Pairwise R→∀ a∈l,∀ b∈l,a≠b→R a b
  | [],_,_,h,_,_,_=>by simp at h
  | x :: l,h,a,ha,b,hb,hab=>by
    rw [List.pairwise_cons] at h
    rcases List.mem_cons.1 ha with ea | ha'
    · rcases List.mem_cons.1 hb with eb | hb'
      · exact absurd (ea.trans eb.symm) hab
      · rw [ea];exact h.1 b hb'
    · rcases List.mem_cons.1 hb with eb | hb'
      · rw [eb];exact hs _ _ (h.1 a ha')
      · exact pw_all hs h.2 a ha' b hb' hab
section
variable {n o:Int} {next out:List (List Int)}
def Cls (next out:List (List Int)) (n:Int) (f:Nat) (w r:List Int):Prop:=∀ u:Nat,u∈bitsN f↔∃ s:Nat,(s:Int)<n∧outsA next out s w=r∧atA next s w=u
structure DI (next out:List (List Int)) (n:Int) (tl:Bool) (w:List Int) (D:List Nat):Prop where
  db:DB n.toNat D
  cl:∀ f∈D,∃ r,Cls next out n f w r
  ex:∀ s t:Nat,(s:Int)<n→(t:Int)<n→outsA next out s w=outsA next out t w→atA next s w≠atA next t w→∃ f∈D,Cls next out n f w (outsA next out s w)
  inj:tl=true→∀ s t:Nat,(s:Int)<n→(t:Int)<n→s≠t→outsA next out s w=outsA next out t w→atA next s w≠atA next t w
theorem two_bits_ns {f u v:Nat} (hf:f<1024) (hu:u∈bitsN f) (hv:v∈bitsN f) (h:u≠v):smallN f=false:=by
  cases hs:smallN f with
  | false=>rfl
  | true=>exact absurd ((small_iff hf).1 hs u hu v hv) h
theorem ns_two {f:Nat} (hf:f<1024) (h:smallN f=false):∃ u v,u∈bitsN f∧v∈bitsN f∧u≠v:=by
  refine Classical.byContradiction fun hc=>?_
  have:smallN f=true:=(small_iff hf).2 fun s hs t ht=>Classical.byContradiction fun e=>hc ⟨s,t,hs,ht,e⟩
  rw [h] at this;cases this
theorem DI0 (n1:1≤n) (n2:n≤10) (hn:n > 1) {tl:Bool}:DI next out n tl [] [2 ^ n.toNat - 1] where
  db:=DB_all n1 n2 hn
  cl:=fun f hf=>by
    rw [List.mem_singleton.1 hf]
    refine ⟨[],fun u=>?_⟩
    rw [all_bits ⟨n1,n2⟩]
    constructor
    · intro h;exact ⟨u,h,rfl,rfl⟩
    · rintro ⟨s,h1,_,h2⟩
      have:(s:Int)=u:=h2
      omega
  ex:=fun s t hs ht _ _=>⟨2 ^ n.toNat - 1,by simp,fun u=>by
    rw [all_bits ⟨n1,n2⟩]
    constructor
    · intro h;exact ⟨u,h,rfl,rfl⟩
    · rintro ⟨s,h1,_,h2⟩
      have:(s:Int)=u:=h2
      omega⟩
  inj:=fun _ s t _ _ hst _ e=>hst (by have:(s:Int)=t:=e;omega)
theorem Cls.part (M:Mach n o next out) {f x b:Nat} {w r:List Int} (hw:IsW next.length w) (hx:x<next.length) (hb:b<o.toNat) (h:Cls next out n f w r) (hf:f<2 ^ n.toNat) :
    Cls next out n ((dvF (next.getD x []) (out.getD x []) o (bitsTo f 10)).1.getD b 0) (w ++ [(x:Int)]) (r ++ [(b:Int)]):=by
  intro u
  have hxo:x<out.length:=by rw [M.len];exact hx
  have hnr:=M.aut.row _ (yzk hx [])
  have hor:=M.row _ (yzk hxo [])
  have o1:=M.o1
  have n2:=M.aut.n2
  have hin:∀ v:Nat,v∈bitsN f→v<n.toNat:=fun v hv=>bits_lt hf hv
  have hS:∀ s∈bitsTo f 10,0≤(out.getD x []).getD s.toNat 0∧(out.getD x []).getD s.toNat 0<o:=fun s hs=>by
    obtain ⟨k,hk,rfl⟩:=List.mem_map.1 (show s∈(bitsN f).map (fun (s:Nat)=>(s:Int)) from hs)
    have:=hin k hk
    exact hor.2 _ (yzk (by rw [Int.toNat_natCast];omega) 0)
  have hbit:=dvF_bit (nr:=next.getD x []) (or:=out.getD x []) (o:=o) (b:=b) (u:=u) (by omega) hb _ (bitsTo f 10) rfl hS
  have hlt:=dvF_lt (nr:=next.getD x []) (or:=out.getD x []) (o:=o) (n:=n.toNat) (S:=bitsTo f 10) (fun s hs=>by have:=hnr.2 s hs;omega) (fun s hs=>by
    obtain ⟨k,hk,rfl⟩:=List.mem_map.1 (show s∈(bitsN f).map (fun (s:Nat)=>(s:Int)) from hs)
    have:=hin k hk
    rw [Int.toNat_natCast];omega)
  have hlen:=dvF_len (nr:=next.getD x []) (or:=out.getD x []) (o:=o) (S:=bitsTo f 10)
  have hpl:=hlt _ (yzk (show b<(dvF (next.getD x []) (out.getD x []) o (bitsTo f 10)).1.length by omega) 0)
  have hm:u∈bitsN ((dvF (next.getD x []) (out.getD x []) o (bitsTo f 10)).1.getD b 0)↔((dvF (next.getD x []) (out.getD x []) o (bitsTo f 10)).1.getD b 0).testBit u=true:=by
    rw [mem_bits]
    refine ⟨fun h=>h.2,fun h=>⟨?_,h⟩⟩
    have:=Nat.ge_two_pow_of_testBit h
    have h3:u<n.toNat:=(Nat.pow_lt_pow_iff_right (a:=2) (by omega)).1 (Nat.lt_of_le_of_lt this hpl)
    omega
  rw [hm,hbit]
  have hat:∀ s:Nat,(s:Int)<n→0≤atA next s w∧atA next s w<n:=fun s hs=>M.aut.at ⟨by omega,hs⟩ hw
  constructor
  · rintro ⟨v,hv,h1,h2⟩
    obtain ⟨k,hk,rfl⟩:=List.mem_map.1 (show v∈(bitsN f).map (fun (s:Nat)=>(s:Int)) from hv)
    obtain ⟨s,hs,hr,ha⟩:=(h k).1 hk
    have hkn:=hin k hk
    have hok:=hor.2 _ (yzk (show k<(out.getD x []).length by omega) 0)
    have hnk:=hnr.2 _ (yzk (show k<(next.getD x []).length by omega) 0)
    rw [Int.toNat_natCast] at h1 h2
    refine ⟨s,hs,?_,?_⟩
    · rw [outsA_snoc,hr,ha]
      unfold outA
      rw [Int.toNat_natCast,Int.toNat_natCast,show (out.getD x []).getD k 0=(b:Int) by omega]
    · rw [atA_snoc,ha]
      unfold stepA
      rw [Int.toNat_natCast,Int.toNat_natCast];omega
  · rintro ⟨s,hs,hr,ha⟩
    rw [outsA_snoc] at hr
    rw [atA_snoc] at ha
    obtain ⟨h1,h2⟩:=List.append_inj' hr rfl
    have h2:outA out (atA next s w) x=b:=by simpa using h2
    have h3:=hat s hs
    obtain ⟨k,hk⟩:∃ k:Nat,atA next s w=k:=⟨(atA next s w).toNat,by omega⟩
    rw [hk] at h2 ha
    unfold outA at h2
    unfold stepA at ha
    rw [Int.toNat_natCast,Int.toNat_natCast] at h2 ha
    have hkb:=(h k).2 ⟨s,hs,h1,hk⟩
    refine ⟨(k:Int),List.mem_map.2 ⟨k,hkb,rfl⟩,?_,?_⟩
    · rw [Int.toNat_natCast,h2,Int.toNat_natCast]
    · rw [Int.toNat_natCast,ha,Int.toNat_natCast]
theorem DI.goes (M:Mach n o next out) {tl:Bool} {w:List Int} {D:List Nat} {x:Nat} (hw:IsW next.length w) (hx:x<next.length) (h:DI next out n tl w D) :
    match dbtD next out o tl D x with
    | some D'=>DI next out n tl (w ++ [(x:Int)]) D'
    | none=>tl=true∧∃ s t:Nat,(s:Int)<n∧(t:Int)<n∧s≠t∧outsA next out s (w ++ [(x:Int)])=outsA next out t (w ++ [(x:Int)])∧atA next s (w ++ [(x:Int)])=atA next t (w ++ [(x:Int)]):=by
  have hxo:x<out.length:=by rw [M.len];exact hx
  have hnr:=M.aut.row _ (yzk hx [])
  have hor:=M.row _ (yzk hxo [])
  have o1:=M.o1
  have n1:=M.aut.n1
  have n2:=M.aut.n2
  have hN:2 ^ n.toNat≤1024:=Nat.pow_le_pow_right (n:=2) (by omega) (show n.toNat≤10 by omega)
  have hat:∀ s:Nat,(s:Int)<n→0≤atA next s w∧atA next s w<n:=fun s hs=>M.aut.at ⟨by omega,hs⟩ hw
  have hS:∀ f∈D,∀ s∈bitsTo f 10,0≤(out.getD x []).getD s.toNat 0∧(out.getD x []).getD s.toNat 0<o:=fun f hf s hs=>by
    obtain ⟨k,hk,rfl⟩:=List.mem_map.1 (show s∈(bitsN f).map (fun (s:Nat)=>(s:Int)) from hs)
    have:=bits_lt (h.db.el f hf).1 hk
    exact hor.2 _ (yzk (by rw [Int.toNat_natCast];omega) 0)
  cases hd:dbtD next out o tl D x with
  | none =>
    unfold dbtD at hd
    split at hd
    · rename_i hc
      rw [Bool.and_eq_true,Bool.not_eq_true'] at hc
      refine ⟨hc.1,?_⟩
      have hcl:=hc.2
      unfold clrF at hcl
      rw [List.all_eq_false] at hcl
      obtain ⟨f,hf,hcf⟩:=hcl
      have hcf':=mt (dvF_clr (nr:=next.getD x []) (or:=out.getD x []) (o:=o) (by omega) _ (bitsTo f 10) rfl (hS f hf)).2 hcf
      obtain ⟨r,hr⟩:=h.cl f hf
      refine Classical.byContradiction fun hno=>hcf' ?_
      have hsi:(bitsTo f 10).Pairwise (·≠·):=by
        unfold bitsTo
        rw [List.pairwise_map]
        exact (List.pairwise_lt_range.filter _).imp fun h=>by omega
      refine List.Pairwise.imp_of_mem ?_ hsi
      intro a b ha hb hab ⟨e1,e2⟩
      obtain ⟨k,hk,rfl⟩:=List.mem_map.1 (show a∈(bitsN f).map (fun (s:Nat)=>(s:Int)) from ha)
      obtain ⟨l,hl,rfl⟩:=List.mem_map.1 (show b∈(bitsN f).map (fun (s:Nat)=>(s:Int)) from hb)
      obtain ⟨s,hs1,hs2,hs3⟩:=(hr k).1 hk
      obtain ⟨t,ht1,ht2,ht3⟩:=(hr l).1 hl
      have hkn:=bits_lt (h.db.el f hf).1 hk
      have hln:=bits_lt (h.db.el f hf).1 hl
      have ok1:=hor.2 _ (yzk (show k<(out.getD x []).length by omega) 0)
      have ok2:=hor.2 _ (yzk (show l<(out.getD x []).length by omega) 0)
      have nk1:=hnr.2 _ (yzk (show k<(next.getD x []).length by omega) 0)
      have nk2:=hnr.2 _ (yzk (show l<(next.getD x []).length by omega) 0)
      rw [Int.toNat_natCast,Int.toNat_natCast] at e1 e2
      refine hno ⟨s,t,hs1,ht1,fun e=>hab (by rw [← hs3,← ht3,e]),?_,?_⟩
      · rw [outsA_snoc,outsA_snoc,hs2,ht2,hs3,ht3]
        unfold outA
        rw [Int.toNat_natCast,Int.toNat_natCast,Int.toNat_natCast]
        congr 2;omega
      · rw [atA_snoc,atA_snoc,hs3,ht3]
        unfold stepA
        rw [Int.toNat_natCast,Int.toNat_natCast,Int.toNat_natCast];omega
    · cases hd
  | some D' =>
    have hdb:=dbt_DB M h.db hx hd
    unfold dbtD at hd
    split at hd
    · cases hd
    · rename_i hc
      simp only [Option.some.injEq] at hd
      have hplt:=parF_lt (nr:=next.getD x []) (or:=out.getD x []) (o:=o) (n:=n.toNat) (D:=D) (fun s hs=>by have:=hnr.2 s hs;omega) (by omega) fun f hf=>(h.db.el f hf).1
      have hmem:=fun f=>nrmF_mem (ps:=parF (next.getD x []) (out.getD x []) o D) (f:=f) fun g hg=>Nat.lt_of_lt_of_le (hplt g hg) hN
      rw [hd] at hmem
      have hstep:∀ s t:Nat,(s:Int)<n→(t:Int)<n→outsA next out s (w ++ [(x:Int)])=outsA next out t (w ++ [(x:Int)])→outsA next out s w=outsA next out t w∧outA out (atA next s w) x=outA out (atA next t w) x:=by
        intro s t _ _ he
        rw [outsA_snoc,outsA_snoc] at he
        obtain ⟨h1,h2⟩:=List.append_inj' he rfl
        exact ⟨h1,by simpa using h2⟩
      refine ⟨hdb,fun f' hf'=>?_,fun s t hs ht ho ha=>?_,fun ht s t hs htn hst ho ha=>?_⟩
      · obtain ⟨f,hf,hp⟩:=List.mem_flatMap.1 ((hmem f').1 hf').1
        obtain ⟨b,hb,hg⟩:=List.getElem_of_mem hp
        obtain ⟨r,hr⟩:=h.cl f hf
        have hlen:=dvF_len (nr:=next.getD x []) (or:=out.getD x []) (o:=o) (S:=bitsTo f 10)
        have hc:=hr.part M hw hx (b:=b) (by omega) (h.db.el f hf).1
        rw [List.getD_eq_getElem?_getD,List.getElem?_eq_getElem hb,Option.getD_some,hg] at hc
        exact ⟨_,hc⟩
      · obtain ⟨ho1,ho2⟩:=hstep s t hs ht ho
        have ha1:atA next s w≠atA next t w:=fun e=>ha (by rw [atA_snoc,atA_snoc,e])
        obtain ⟨f,hf,hc⟩:=h.ex s t hs ht ho1 ha1
        have hs3:=hat s hs
        obtain ⟨k,hk⟩:∃ k:Nat,atA next s w=k:=⟨(atA next s w).toNat,by omega⟩
        have hok:0≤outA out (atA next s w) x∧outA out (atA next s w) x<o:=by
          rw [hk];unfold outA
          rw [Int.toNat_natCast,Int.toNat_natCast]
          exact hor.2 _ (yzk (show k<(out.getD x []).length by omega) 0)
        obtain ⟨b,hb⟩:∃ b:Nat,outA out (atA next s w) x=b:=⟨(outA out (atA next s w) x).toNat,by omega⟩
        have hpc:=hc.part M hw hx (b:=b) (by omega) (h.db.el f hf).1
        have hr:outsA next out s (w ++ [(x:Int)])=outsA next out s w ++ [(b:Int)]:=by rw [outsA_snoc,hb]
        have hlen:=dvF_len (nr:=next.getD x []) (or:=out.getD x []) (o:=o) (S:=bitsTo f 10)
        have hbl:b<(dvF (next.getD x []) (out.getD x []) o (bitsTo f 10)).1.length:=by omega
        have hpm:(dvF (next.getD x []) (out.getD x []) o (bitsTo f 10)).1.getD b 0∈parF (next.getD x []) (out.getD x []) o D:=List.mem_flatMap.2 ⟨f,hf,yzk hbl 0⟩
        refine ⟨_,(hmem _).2 ⟨hpm,?_⟩,by rw [hr];exact hpc⟩
        have hwx:IsW next.length (w ++ [(x:Int)]):=fun y hy=>by
          rcases List.mem_append.1 hy with hy | hy
          · exact hw y hy
          · rw [List.mem_singleton.1 hy];omega
        have hs4:=M.aut.at ⟨by omega,hs⟩ hwx (s:=s)
        have ht4:=M.aut.at ⟨by omega,ht⟩ hwx (s:=t)
        refine two_bits_ns (Nat.lt_of_lt_of_le (hplt _ hpm) hN) (u:=(atA next s (w ++ [(x:Int)])).toNat) (v:=(atA next t (w ++ [(x:Int)])).toNat) ((hpc _).2 ⟨s,hs,hr,by omega⟩) ((hpc _).2 ⟨t,ht,by rw [← ho,hr],by omega⟩) (by omega)
      · obtain ⟨ho1,ho2⟩:=hstep s t hs htn ho
        have ha1:=h.inj ht s t hs htn hst ho1
        obtain ⟨f,hf,hcf⟩:=h.ex s t hs htn ho1 ha1
        have hcl:clrF (next.getD x []) (out.getD x []) o D=true:=by
          cases hcc:clrF (next.getD x []) (out.getD x []) o D with
          | true=>rfl
          | false=>exact absurd (by rw [ht,hcc];rfl) hc
        unfold clrF at hcl
        have hcf2:=(dvF_clr (nr:=next.getD x []) (or:=out.getD x []) (o:=o) (by omega) _ (bitsTo f 10) rfl (hS f hf)).1 (List.all_eq_true.1 hcl f hf)
        have hs3:=hat s hs
        have ht3:=hat t htn
        obtain ⟨k,hk⟩:∃ k:Nat,atA next s w=k:=⟨(atA next s w).toNat,by omega⟩
        obtain ⟨l,hl⟩:∃ k:Nat,atA next t w=k:=⟨(atA next t w).toNat,by omega⟩
        have hkb:=(hcf k).2 ⟨s,hs,rfl,hk⟩
        have hlb:=(hcf l).2 ⟨t,htn,ho1.symm,hl⟩
        have hkl:(k:Int)≠l:=by rw [← hk,← hl];exact ha1
        rw [hk,hl] at ho2
        rw [atA_snoc,atA_snoc,hk,hl] at ha
        unfold outA at ho2
        unfold stepA at ha
        have hpw:=pw_all (fun a b h hh=>h ⟨hh.1.symm,hh.2.symm⟩) hcf2
        refine hpw k (List.mem_map.2 ⟨k,hkb,rfl⟩) l (List.mem_map.2 ⟨l,hlb,rfl⟩) hkl ⟨?_,?_⟩
        · rw [Int.toNat_natCast] at ho2;rw [ho2]
        · rw [Int.toNat_natCast] at ha;rw [ha]
theorem DI.word (M:Mach n o next out) (hn:n > 1) {tl:Bool}:∀ (k:Nat) (w:List Int),w.length=k→IsW next.length w →
    match goG (dbtD next out o tl) [2 ^ n.toNat - 1] w with
    | some D=>DI next out n tl w D
    | none=>tl=true∧∃ s t:Nat,(s:Int)<n∧(t:Int)<n∧s≠t∧outsA next out s w=outsA next out t w∧atA next s w=atA next t w
  | 0,w,hk,_=>by
    obtain rfl:=List.eq_nil_of_length_eq_zero hk
    exact DI0 M.aut.n1 M.aut.n2 hn
  | k+1,w,hk,hw=>by
    have hne:w≠[]:=fun e=>by rw [e] at hk;simp at hk
    have e:=List.dropLast_concat_getLast hne
    have hwd:IsW next.length w.dropLast:=fun y hy=>hw y (List.dropLast_subset w hy)
    have ih:=DI.word M hn (tl:=tl) k w.dropLast (by rw [List.length_dropLast];omega) hwd
    have hx:=hw _ (List.getLast_mem hne)
    obtain ⟨x,hxe⟩:∃ x:Nat,w.getLast hne=x:=⟨(w.getLast hne).toNat,by omega⟩
    rw [hxe] at e hx
    rw [← e]
    generalize w.dropLast=u at ih hwd e
    rw [goG_snoc,Int.toNat_natCast]
    cases hg:goG (dbtD next out o tl) [2 ^ n.toNat - 1] u with
    | none =>
      rw [hg] at ih
      simp only [Option.bind_none]
      obtain ⟨h1,s,t,h2,h3,h4,h5,h6⟩:=ih
      exact ⟨h1,s,t,h2,h3,h4,by rw [outsA_snoc,outsA_snoc,h5,h6],by rw [atA_snoc,atA_snoc,h6]⟩
    | some D =>
      rw [hg] at ih
      simp only [Option.bind_some]
      exact ih.goes M hwd (by omega)
theorem homB_iff {tl:Bool} {w:List Int}:homB next out tl n w=true↔∀ s t:Nat,(s:Int)<n→(t:Int)<n→s≠t→outsA next out s w=outsA next out t w→tl=false∧atA next s w=atA next t w:=by
  have key:∀ s t:Nat,prB next out w (hmP tl) s t=true↔(outsA next out s w=outsA next out t w→tl=false∧atA next s w=atA next t w):=fun s t=>by
    unfold prB hmP
    by_cases h:outsA next out s w=outsA next out t w
    · simp [h]
    · simp [h]
  unfold homB everyP
  simp only [List.all_eq_true,List.mem_range,key]
  constructor
  · intro h s t hs ht hst ho
    rcases Nat.lt_or_ge t s with h1 | h1
    · exact h s (by omega) t h1 ho
    · obtain ⟨h2,h3⟩:=h t (by omega) s (by omega) ho.symm
      exact ⟨h2,h3.symm⟩
  · intro h s hs t ht ho
    exact h s t (by omega) (by omega) (by omega) ho
theorem hom_go (M:Mach n o next out) (hn:n > 1) {tl:Bool} {w:List Int} (hw:IsW next.length w):homB next out tl n w=true↔goG (dbtD next out o tl) [2 ^ n.toNat - 1] w=some []:=by
  have n1:=M.aut.n1
  have n2:=M.aut.n2
  have hN:2 ^ n.toNat≤1024:=Nat.pow_le_pow_right (n:=2) (by omega) (show n.toNat≤10 by omega)
  have h:=DI.word M hn (tl:=tl) w.length w rfl hw
  rw [homB_iff]
  cases hg:goG (dbtD next out o tl) [2 ^ n.toNat - 1] w with
  | none =>
    rw [hg] at h
    obtain ⟨h1,s,t,h2,h3,h4,h5,h6⟩:=h
    refine ⟨fun hh=>?_,fun hh=>by cases hh⟩
    have:=(hh s t h2 h3 h4 h5).1
    rw [h1] at this;cases this
  | some D =>
    rw [hg] at h
    rw [Option.some.injEq]
    constructor
    · intro hh
      refine Classical.byContradiction fun hD=>?_
      obtain ⟨f,hf⟩:=List.exists_mem_of_ne_nil D hD
      obtain ⟨r,hr⟩:=h.cl f hf
      obtain ⟨u,v,hu,hv,huv⟩:=ns_two (Nat.lt_of_lt_of_le (h.db.el f hf).1 hN) (h.db.el f hf).2
      obtain ⟨s,hs1,hs2,hs3⟩:=(hr u).1 hu
      obtain ⟨t,ht1,ht2,ht3⟩:=(hr v).1 hv
      have:=(hh s t hs1 ht1 (fun e=>by rw [e,ht3] at hs3;exact huv (by omega)) (by rw [hs2,ht2])).2
      rw [hs3,ht3] at this
      exact huv (by omega)
    · rintro rfl s t hs ht hst ho
      have ha:atA next s w=atA next t w:=Classical.byContradiction fun hne=>by
        obtain ⟨f,hf,_⟩:=h.ex s t hs ht ho hne
        simp at hf
      refine ⟨?_,ha⟩
      cases tl with
      | false=>rfl
      | true=>exact absurd ha (h.inj rfl s t hs ht hst ho)
end
end Go.Ab
namespace Go.Ab
theorem DB.mono {n m:Nat} {q:List Nat} (h:DB n q) (hm:n≤m):DB m q :=
  ⟨h.lt,fun f hf=>⟨Nat.lt_of_lt_of_le (h.el f hf).1 (Nat.pow_le_pow_right (by omega) hm),(h.el f hf).2⟩,by have:=h.sm;omega⟩
def nsL:List Nat:=(List.range 32).filter fun f=>!smallN f
def cand5:List (List Nat):=[] :: (nsL.map fun f=>[f]) ++ nsL.flatMap fun f=>(nsL.filter fun g=>decide (f<g)).map fun g=>[f,g]
theorem cand5_len:cand5.length=352:=by decide +kernel
theorem enough5 {n:Nat} (hn:n≤5):Enough n 353:=by
  intro L hd hD
  have h:=len_sub hd (ps:=cand5) fun q hq=>by
    obtain ⟨p,hp,rfl⟩:=List.mem_map.1 hq
    have hq:=(hD p hp).mono hn
    have hl:=hq.len (by omega)
    have hm:∀ f∈p.1,f∈nsL:=fun f hf=>by
      obtain ⟨h1,h2⟩:=hq.el f hf
      simp only [nsL,List.mem_filter,List.mem_range,h2,Bool.not_false,and_true]
      exact h1
    have hlt:=hq.lt
    generalize p.1=q at hl hm hlt
    match q,hl,hm,hlt with
    | [],_,_,_=>simp [cand5]
    | [f],_,hm,_=>simp [cand5,hm f (by simp)]
    | [f,g],_,hm,hlt =>
      have h1:=hm f (by simp)
      have h2:=hm g (by simp)
      have h3:f<g:=by simpa using hlt
      simp only [cand5,List.mem_append,List.mem_cons,List.mem_flatMap,List.mem_map,List.mem_filter,decide_eq_true_eq]
      exact .inr ⟨f,h1,g,⟨h2,h3⟩,rfl⟩
    | _ :: _ :: _ :: _,hl,_,_=>simp at hl;omega
  rw [List.length_map,cand5_len] at h
  omega
section
variable {n o:Int} {next out:List (List Int)}
theorem dbtT_GI (M:Mach n o next out) (hn:n > 1) {tl:Bool} {F:Nat} (hF:Enough n.toNat F) :
    GI (dbtD next out o tl) (DB n.toNat) next.length ([],[]) [2 ^ n.toNat - 1] (dbtT next out o tl n F).length 0 (dbtT next out o tl n F):=by
  have hF0:0<F:=by have:=hF [] (by simp) (by simp);simpa using this
  refine GI.run (N:=F - 1) (fun p y q hp hy h=>dbt_DB M hp hy h) (fun L h1 h2=>?_) F 0 [([2 ^ n.toNat - 1],[])] (GI0 (DB_all M.aut.n1 M.aut.n2 hn)) (by simp) (by omega)
  have:=hF L h1 h2;omega
def LenI {σ:Type} (d:σ×List Int) (L:List (σ×List Int)):Prop:=∀ k,k<L.length→(L.getD k d).2.length≤k
theorem LenI.vis {σ:Type} [DecidableEq σ] {δ:σ→Nat→Option σ} {d:σ×List Int} {p:σ} {w:List Int} {L:List (σ×List Int)} (h:LenI d L) (hw:w.length<L.length):∀ x,LenI d (visG δ p w x L)
  | 0=>h
  | x+1=>by
    have ih:=LenI.vis (δ:=δ) (p:=p) h hw x
    obtain ⟨t,ht⟩:=visG_pre (δ:=δ) (p:=p) (w:=w) x L
    simp only [visG]
    cases δ p x with
    | none=>exact ih
    | some q =>
      simp only
      split
      · exact ih
      · intro k hk
        rw [List.length_append,List.length_singleton] at hk
        by_cases e:k<(visG δ p w x L).length
        · rw [appG_getD e];exact ih k e
        · obtain rfl:k=(visG δ p w x L).length:=by omega
          rw [lastG_getD,List.length_append,List.length_singleton,ht,List.length_append];omega
theorem LenI.run {σ:Type} [DecidableEq σ] {δ:σ→Nat→Option σ} {d:σ×List Int} {m:Nat}:∀ (F i:Nat) (L:List (σ×List Int)),LenI d L→LenI d (runG δ m d F i L)
  | 0,_,_,h=>h
  | F+1,i,L,h=>by
    simp only [runG]
    split
    · rename_i hi
      exact LenI.run F (i+1) _ (h.vis (by have:=h i hi;omega) m)
    · exact h
theorem hom_first (M:Mach n o next out) (hn:n > 1) {tl:Bool} {F:Nat} (hF:Enough n.toNat F) :
    match qT (dbtT next out o tl n F) with
    | some w=>homB next out tl n w=true∧IsW next.length w∧w.length<F∧w.length≤2000∧∀ v,IsW next.length v→homB next out tl n v=true→befP v w=false
    | none=>qC (dbtT next out o tl n F)≠3→∀ v,IsW next.length v→homB next out tl n v=false:=by
  have G:=dbtT_GI M hn (tl:=tl) hF
  have hL:LenI (([],[]):List Nat×List Int) (dbtT next out o tl n F):=LenI.run F 0 _ fun k hk=>by
    have:k=0:=by simpa using hk
    subst this;simp
  have hTF:(dbtT next out o tl n F).length<F:=hF _ G.nd G.rg
  have hfst:=G.first fun q=>q.isEmpty
  generalize dbtT next out o tl n F=T at G hL hTF hfst
  cases hq:qT T with
  | some w =>
    unfold qT at hq
    rw [Option.map_eq_some_iff] at hq
    obtain ⟨p,hp,rfl⟩:=hq
    have hf:T.find? (fun p=>p.1.isEmpty)=some p:=by
      rw [← List.take_append_drop 2001 T,List.find?_append,hp];rfl
    rw [hf] at hfst
    obtain ⟨q,w⟩:=p
    obtain ⟨h1,h2,h3,h4⟩:=hfst
    obtain rfl:q=[]:=by simpa using h2
    obtain ⟨k,hk,hg⟩:=List.getElem_of_mem (List.mem_of_find?_eq_some hp)
    rw [List.length_take] at hk
    have hkT:k<T.length:=by omega
    have hlk:=hL k hkT
    rw [List.getElem_take] at hg
    rw [List.getD_eq_getElem?_getD,List.getElem?_eq_getElem hkT,Option.getD_some,hg] at hlk
    have hlk:w.length≤k:=hlk
    refine ⟨(hom_go M hn h3).2 h1,h3,by show w.length<F;omega,by show w.length≤2000;omega,fun v hv hh=>?_⟩
    exact h4 v hv [] ((hom_go M hn hv).1 hh) rfl
  | none =>
    intro hc v hv
    have hTl:T.length≤2000:=by
      refine Classical.byContradiction fun h=>hc ?_
      unfold qC
      rw [hq,if_neg (by simp),if_pos (by omega)]
    have hf:T.find? (fun p=>p.1.isEmpty)=none:=by
      unfold qT at hq
      rw [List.take_of_length_le (by omega)] at hq
      simpa using hq
    rw [hf] at hfst
    cases hh:homB next out tl n v with
    | false=>rfl
    | true =>
      have:=hfst v hv [] ((hom_go M hn hv).1 hh)
      simp at this
theorem hom_one {tl:Bool} {w:List Int} (hn:n=1):homB next out tl n w=true:=by
  rw [homB_iff]
  intro s t hs ht hst _
  omega
end
end Go.Ab
namespace Go.Ab
open Go.Proofs
abbrev allP (n:Int):List (List Int):=pairsL n fun _ _=>true
def l06I (n x y:Int):Int:=(min x y * (2 * n - min x y - 1)).tdiv 2+max x y - min x y - 1
def cellM (n e:Int) (nx ou p:List Int):Int :=
  if ou.getD (p.getD 0 0).toNat 0=ou.getD (p.getD 1 0).toNat 0∧nx.getD (p.getD 0 0).toNat 0≠nx.getD (p.getD 1 0).toNat 0 then l06I n (nx.getD (p.getD 0 0).toNat 0) (nx.getD (p.getD 1 0).toNat 0) else e
def rowM (n e:Int) (nx ou:List Int):List Int:=(allP n).map (cellM n e nx ou) ++ [e]
def resM (n e:Int) (next out:List (List Int)) (k:Nat):List (List Int):=(List.range k).map fun i=>rowM n e (next.getD i []) (out.getD i [])
theorem resM_succ {n e:Int} {next out:List (List Int)} {k:Nat}:resM n e next out (k+1)=resM n e next out k ++ [rowM n e (next.getD k []) (out.getD k [])]:=by
  simp [resM,List.range_succ]
def endM (n:Int):Int:=(n * (n - 1)).tdiv 2
theorem ten {n:Int} (h:1≤n∧n≤10):n=1∨n=2∨n=3∨n=4∨n=5∨n=6∨n=7∨n=8∨n=9∨n=10:=by omega
theorem allP_len {n:Int} (h:1≤n∧n≤10):((allP n).length:Int)=endM n:=by
  rcases ten h with rfl | rfl | rfl | rfl | rfl | rfl | rfl | rfl | rfl | rfl <;> decide
theorem endM_small {n:Int} (h:1≤n∧n≤10) (he:endM n<10):n≤4:=by
  rcases ten h with rfl | rfl | rfl | rfl | rfl | rfl | rfl | rfl | rfl | rfl <;> first | omega | (exfalso;revert he;decide)
theorem endM_nn {n:Int} (h:1≤n∧n≤10):0≤endM n∧endM n≤45:=by
  rcases ten h with rfl | rfl | rfl | rfl | rfl | rfl | rfl | rfl | rfl | rfl <;> decide
def chkP:Bool:=(List.range 5).all fun n=>(List.range n).all fun x=>(List.range n).all fun y=>decide (x=y) || (decide (fidx (fun q=>decide (q=nrm [(x:Int),y])) (allP n) 0=l06I n x y) && decide ((nrm [(x:Int),(y:Int)]).length=2))
theorem chkP_t:chkP=true:=by decide +kernel
theorem idx_pair {n x y:Int} (hn:1≤n∧n≤4) (hx:0≤x∧x<n) (hy:0≤y∧y<n) (hne:x≠y) :
    fidx (fun q=>decide (q=nrm [x,y])) (allP n) 0=l06I n x y∧(nrm [x,y]).length=2:=by
  have h:=chkP_t
  simp only [chkP,List.all_eq_true,List.mem_range,Bool.or_eq_true,Bool.and_eq_true,decide_eq_true_eq] at h
  have h1:=h n.toNat (by omega) x.toNat (by omega) y.toNat (by omega)
  rw [show ((n.toNat:Nat):Int)=n by omega,show ((x.toNat:Nat):Int)=x by omega,show ((y.toNat:Nat):Int)=y by omega] at h1
  rcases h1 with h1 | h1
  · omega
  · exact h1
theorem nrm_same {x:Int}:(nrm [x,x]).length=1:=by
  have:nrm [x,x]=[x]:=by simp [nrm,put]
  rw [this];rfl
theorem cellM_t {n e:Int} {nx ou:List Int} {s t:Int} (ho:ou.getD s.toNat 0=ou.getD t.toNat 0) (hx:nx.getD s.toNat 0≠nx.getD t.toNat 0):cellM n e nx ou [s,t]=l06I n (nx.getD s.toNat 0) (nx.getD t.toNat 0):=by
  unfold cellM
  exact if_pos ⟨ho,hx⟩
theorem cellM_f {n e:Int} {nx ou:List Int} {s t:Int} (h:¬ (ou.getD s.toNat 0=ou.getD t.toNat 0∧nx.getD s.toNat 0≠nx.getD t.toNat 0)):cellM n e nx ou [s,t]=e:=by
  unfold cellM
  exact if_neg h
theorem k_l00Max (a b:Int):Fun Tryz.prog nz4m [iv a,iv b] (iv (max a b)):=by
  refine fun_of mixed czng rfl ⟨rfl,trivial⟩ ?_
  by_cases h:a > b
  · have e:max a b=a:=by omega
    simp only [Bz7y,Bz7z,Bz80,Az81,decide_eq_true h,e,go_sem,yz0,xx9,xx8,xx6,xx7,xx5,xx0,xx1,xx2,reduceIte,xx3,xx4,reduceCtorEq]
  · have e:max a b=b:=by omega
    simp only [Bz7y,Bz7z,Bz80,Az81,decide_eq_false h,e,go_sem,yz0,xx9,xx8,xx6,xx7,xx5,xx0,xx1,xx2,reduceIte,xx3,xx4,reduceCtorEq]
theorem k_l06Pair (n x y:Int) (hn:1≤n∧n≤10) (hx:0≤x∧x<n) (hy:0≤y∧y<n):Fun Tryz.prog nz43 [iv n,iv x,iv y] (iv (l06I n x y)):=by
  refine fun_of mixed czmk rfl ⟨rfl,trivial⟩ ?_
  have hlo:0≤min x y∧min x y<n:=by omega
  have hhi:0≤max x y∧max x y<10:=by omega
  simp only [Azec,Bzeb,go_sem,yz0,xx9,xx8,xx6,xx7,xx5,xx0,xx1,xx2,reduceIte,xx3,xx4,reduceCtorEq]
  intro vs
  refine yzv (k_l00Min x y) qCS trivial ?_
  simp only [Bzea,go_sem,yz0,xx9,xx8,xx6,xx7,xx5,xx0,xx1,xx2,reduceIte,xx3,xx4,reduceCtorEq]
  intro vs2
  refine yzv (k_l00Max x y) qCS trivial ?_
  unfold l06I
  generalize min x y=lo at hlo ⊢
  generalize max x y=hi at hhi ⊢
  have hp0:0≤lo * (2 * n - lo - 1):=Int.mul_nonneg hlo.1 (by omega)
  have hp1:lo * (2 * n - lo - 1)≤10 * 20:=Int.mul_le_mul (by omega) (by omega) (by omega) (by omega)
  have w1:IntKind.i64.wrap (2 * n)=2 * n:=w64 (by omega)
  have w2:IntKind.i64.wrap (2 * n - lo)=2 * n - lo:=w64 (by omega)
  have w3:IntKind.i64.wrap (2 * n - lo - 1)=2 * n - lo - 1:=w64 (by omega)
  have w4:IntKind.i64.wrap (lo * (2 * n - lo - 1))=lo * (2 * n - lo - 1):=w64 (by omega)
  have hq:0≤(lo * (2 * n - lo - 1)).tdiv 2∧(lo * (2 * n - lo - 1)).tdiv 2≤200:=by
    rw [Int.tdiv_eq_ediv_of_nonneg hp0]
    generalize lo * (2 * n - lo - 1)=z at hp0 hp1 ⊢
    omega
  have w5:IntKind.i64.wrap ((lo * (2 * n - lo - 1)).tdiv 2)=(lo * (2 * n - lo - 1)).tdiv 2:=w64 (by omega)
  have w6:IntKind.i64.wrap ((lo * (2 * n - lo - 1)).tdiv 2+hi)=(lo * (2 * n - lo - 1)).tdiv 2+hi:=w64 (by omega)
  have w7:IntKind.i64.wrap ((lo * (2 * n - lo - 1)).tdiv 2+hi - lo)=(lo * (2 * n - lo - 1)).tdiv 2+hi - lo:=w64 (by omega)
  have w8:IntKind.i64.wrap ((lo * (2 * n - lo - 1)).tdiv 2+hi - lo - 1)=(lo * (2 * n - lo - 1)).tdiv 2+hi - lo - 1:=w64 (by omega)
  have h20:¬ (2:Int)=0:=by omega
  simp only [Bze9,w1,w2,w3,w4,w5,w6,w7,w8,h20,go_sem,yz0,xx9,xx8,xx6,xx7,xx5,xx0,xx1,xx2,reduceIte,xx3,xx4,reduceCtorEq]
theorem k_PairAutomaton_1 (s t:Int):Fun Tryz.prog nzz [iv s,iv t] (bv true):=by
  refine fun_of mixed czmd rfl ⟨rfl,trivial⟩ ?_
  simp only [Azd9,Bzd8,go_sem,yz0,xx9,xx8,xx6,xx7,xx5,xx0,xx1,xx2,reduceIte,xx3,xx4,reduceCtorEq]
theorem k_PairAutomaton_2 (q to:List Int):Fun Tryz.prog nz13 [.ro none 1 (ints q),.rp [.ro none 1 (ints to)] 0] (bv (decide (q=to))):=by
  refine fun_of mixed czmh rfl ⟨rfl,trivial⟩ ?_
  simp only [Azdo,Bzdn,go_sem,yz0,xx9,xx8,xx6,xx7,xx5,xx0,xx1,xx2,reduceIte,xx3,xx4,reduceCtorEq]
  intro vs
  refine yzv (k_Equal q to) qCS trivial ?_
  simp only [go_sem,yz0,xx9,xx8,xx6,xx7,xx5,xx0,xx1,xx2,reduceIte,xx3,xx4,reduceCtorEq]
end Go.Ab
namespace Go.Ab
open Go.Proofs
def rww (x:List (List (List Int))):List AVal:=x.map fun xss=>.ro (some none) 1 (rws xss)
def rwwn (x:List (List (List Int))):List AVal:=x.map fun xss=>.ro none 1 (rwn xss)
theorem dnL_rww {x:List (List (List Int))}:dnL (rww x)=rww x:=by
  simp only [dnL_eq,rww,List.map_map]
  exact List.map_congr_left fun o _=>by simp [AVal.dn,dnL_rws,dnNm]
theorem dnL_rwwn {x:List (List (List Int))}:dnL (rwwn x)=rwwn x:=by
  simp only [dnL_eq,rwwn,List.map_map]
  exact List.map_congr_left fun o _=>by simp [AVal.dn,dnL_rwn,dnNm]
theorem one_rww {hp:Nat→AObj} {x:List (List (List Int))}:(∀ A∈rww x,One hp A)=True:=by
  refine eq_true ?_
  intro A hA
  simp only [rww,List.mem_map] at hA
  obtain ⟨y,_,rfl⟩:=hA
  exact trivial
theorem frz_rww {hp:Nat→AObj} {x:List (List (List Int))}:(rww x).map (frz hp)=rww x:=by simp [rww,frz]
theorem owned_rww:∀ {x:List (List (List Int))},owned (rww x)=[]
  | []=>rfl
  | _ :: x=>owned_rww (x:=x)
theorem rww_snoc {x:List (List (List Int))} {y:List (List Int)}:rww x ++ [.ro (some none) 1 (rws y)]=rww (x ++ [y]):=by simp [rww]
theorem rww_len {x:List (List (List Int))}:(rww x).length=x.length:=by simp [rww]
theorem rwwn_len {x:List (List (List Int))}:(rwwn x).length=x.length:=by simp [rwwn]
theorem rww_nil:rww []=[]:=rfl
attribute [go_sem] dnL_rww dnL_rwwn one_rww frz_rww owned_rww rww_snoc rww_len rwwn_len rww_nil
structure Chc (n:Int) (nx:List (List (List Int))):Prop where
  n1:1≤n
  n2:n≤10
  l1:1≤nx.length
  l2:nx.length≤3
  row:∀ r∈nx,(r.length:Int)=n∧∀ s∈r,setB n s=true
theorem fold_or {α:Type} {g:α→Nat} {k:Nat}:∀ (l:List α) (o:Nat),(∀ x∈l,g x<2 ^ k)→o<2 ^ k→l.foldl (fun o s=>o ||| g s) o<2 ^ k
  | [],o,_,h=>h
  | x :: l,o,hl,h=>fold_or l _ (fun y hy=>hl y (by simp [hy])) (Nat.or_lt_two_pow h (hl x (by simp)))
theorem bits_in2 {n:Int} {f:Nat} (hf:f<2 ^ n.toNat):∀ s∈bitsTo f 10,0≤s∧s<n:=fun s hs=>by
  unfold bitsTo at hs
  obtain ⟨k,hk,rfl⟩:=List.mem_map.1 hs
  have:=bits_lt hf (show k∈bitsN f from hk)
  omega
end Go.Ab
namespace Go.Ab
open Go.Proofs
end Go.Ab
namespace Go.Ab
open Go.Proofs
structure Prt (n:Int) (next:List (List Int)):Prop where
  n1:1≤n
  n2:n≤10
  l1:1≤next.length
  l2:next.length≤3
  row:∀ row∈next,(row.length:Int)=n∧∀ x∈row,-1≤x∧x<n
def gapIn (row set:List Int):Bool:=set.any fun s=>decide (row.getD s.toNat 0<0)
def stpP (row:List Int) (f:Nat):Option Nat:=if gapIn row (bitsTo f 10)=true then none else some (stepN row f)
def imP (next:List (List Int)):Nat→List Int→Option Nat
  | f,[]=>some f
  | f,l :: w=>match stpP (next.getD l.toNat []) f with
    | none=>none
    | some g=>imP next g w
theorem Prt.at {n:Int} {next:List (List Int)} (P:Prt n next) {l:Nat} (hl:l<next.length) {s:Int} (hs:0≤s∧s<n):s.toNat<(next.getD l []).length∧-1≤(next.getD l []).getD s.toNat 0∧(next.getD l []).getD s.toNat 0<n:=by
  have h1:=P.row _ (yzk hl [])
  have h2:s.toNat<(next.getD l []).length:=by omega
  have h3:=h1.2 _ (yzk h2 0)
  exact ⟨h2,h3⟩
theorem Prt.to_lt {n:Int} {next:List (List Int)} (P:Prt n next) {l:Nat} (hl:l<next.length) {set:List Int} (hs:∀ s∈set,0≤s∧s<n):stepTo (next.getD l []) set<2 ^ n.toNat :=
  fold_or set 0 (fun s h=>Nat.pow_lt_pow_right (by omega) (by have:=P.at hl (hs s h);have:=P.n1;omega)) (Nat.two_pow_pos _)
theorem stpP_lt {n:Int} {next:List (List Int)} (P:Prt n next) {f l g:Nat} (hf:f<2 ^ n.toNat) (hl:l<next.length) (h:stpP (next.getD l []) f=some g):g<2 ^ n.toNat:=by
  unfold stpP at h
  split at h
  · cases h
  · rw [← Option.some.inj h,← stepTo_all];exact P.to_lt hl (bits_in2 hf)
def carB (next:List (List Int)) (n:Int) (w:List Int):Bool:=match imP next (2 ^ n.toNat - 1) w with
  | none=>false
  | some g=>smallN g
theorem imP_lt {n:Int} {next:List (List Int)} (P:Prt n next):∀ {w:List Int} {f g:Nat},f<2 ^ n.toNat→IsW next.length w→imP next f w=some g→g<2 ^ n.toNat
  | [],f,g,hf,_,h=>by rw [← Option.some.inj h];exact hf
  | l :: w,f,g,hf,hw,h=>by
    rw [imP] at h
    have hl:=hw l (by simp)
    cases hst:stpP (next.getD l.toNat []) f with
    | none=>rw [hst] at h;cases h
    | some g' =>
      rw [hst] at h
      exact imP_lt P (stpP_lt P hf (by omega) hst) (fun x hx=>hw x (by simp [hx])) h
end Go.Ab
namespace Go.Ab
open Go.Proofs
end Go.Ab
namespace Go.Ab
open Go.Proofs
theorem bitsTo_eq {f:Nat}:bitsTo f 10=(bitsN f).map fun (s:Nat)=>(s:Int):=rfl
theorem mem_bitsTo {f:Nat} {x:Int}:x∈bitsTo f 10↔0≤x∧x<10∧f.testBit x.toNat=true:=by
  rw [bitsTo_eq,List.mem_map]
  constructor
  · rintro ⟨s,hs,rfl⟩
    rw [mem_bits] at hs
    exact ⟨by omega,by omega,by rw [Int.toNat_natCast];exact hs.2⟩
  · rintro ⟨h1,h2,h3⟩
    exact ⟨x.toNat,mem_bits.2 ⟨by omega,h3⟩,by omega⟩
def pth (next:List (List Int)):Int→List Int→Option Int
  | s,[]=>some s
  | s,l :: w=>if (next.getD l.toNat []).getD s.toNat 0<0 then none else pth next ((next.getD l.toNat []).getD s.toNat 0) w
theorem stp_bit {n:Int} {next:List (List Int)} (P:Prt n next) {l f g:Nat} (hl:l<next.length) (hf:f<2 ^ n.toNat) (h:stpP (next.getD l []) f=some g) (t:Int) :
    t∈bitsTo g 10↔∃ s∈bitsTo f 10,(next.getD l []).getD s.toNat 0=t:=by
  have n2:=P.n2
  have hn:gapIn (next.getD l []) (bitsTo f 10)=false∧g=stepN (next.getD l []) f:=by
    unfold stpP at h
    split at h
    · cases h
    · rename_i hng
      exact ⟨Bool.eq_false_iff.2 hng,(Option.some.inj h).symm⟩
  obtain ⟨hn,rfl⟩:=hn
  have hng:∀ s∈bitsTo f 10,0≤(next.getD l []).getD s.toNat 0∧(next.getD l []).getD s.toNat 0<n:=fun s hs=>by
    have h1:=(P.at hl (bits_in2 hf s hs)).2
    refine ⟨?_,h1.2⟩
    by_cases c:(next.getD l []).getD s.toNat 0<0
    · unfold gapIn at hn
      rw [List.any_eq_false] at hn
      exact absurd (decide_eq_true c) (hn s hs)
    · omega
  rw [mem_bitsTo,step_bit]
  constructor
  · rintro ⟨h1,h2,s,hs,he⟩
    have hs':(s:Int)∈bitsTo f 10:=by
      rw [mem_bits] at hs
      exact mem_bitsTo.2 ⟨by omega,by omega,by rw [Int.toNat_natCast];exact hs.2⟩
    refine ⟨(s:Int),hs',?_⟩
    have:=hng _ hs'
    rw [Int.toNat_natCast] at this ⊢
    omega
  · rintro ⟨s,hs,rfl⟩
    have h1:=hng s hs
    rw [mem_bitsTo] at hs
    exact ⟨h1.1,by omega,s.toNat,mem_bits.2 ⟨by omega,hs.2.2⟩,rfl⟩
theorem imP_iff {n:Int} {next:List (List Int)} (P:Prt n next):∀ {w:List Int} {f:Nat},IsW next.length w→f<2 ^ n.toNat →
    ((∃ s∈bitsTo f 10,pth next s w=none)→imP next f w=none)∧((∀ s∈bitsTo f 10,pth next s w≠none)→∃ g,imP next f w=some g∧∀ t:Int,t∈bitsTo g 10↔∃ s∈bitsTo f 10,pth next s w=some t)
  | [],f,_,_=>by
    refine ⟨?_,fun _=>⟨f,rfl,fun t=>?_⟩⟩
    · rintro ⟨s,_,h⟩;cases h
    · constructor
      · exact fun h=>⟨t,h,rfl⟩
      · rintro ⟨s,h,e⟩
        rw [← Option.some.inj e];exact h
  | l :: w,f,hw,hf=>by
    have hl:=hw l (by simp)
    have hll:l.toNat<next.length:=by omega
    cases hst:stpP (next.getD l.toNat []) f with
    | none =>
      have hgp:gapIn (next.getD l.toNat []) (bitsTo f 10)=true:=by
        unfold stpP at hst
        split at hst
        · assumption
        · cases hst
      unfold gapIn at hgp
      rw [List.any_eq_true] at hgp
      obtain ⟨s,hs,hn⟩:=hgp
      have hn:=of_decide_eq_true hn
      refine ⟨fun _=>by rw [imP,hst],fun h=>absurd (show pth next s (l :: w)=none by rw [pth,if_pos hn]) (h s hs)⟩
    | some g =>
      have hgl:=stpP_lt P hf hll hst
      have hng:∀ s∈bitsTo f 10,¬ (next.getD l.toNat []).getD s.toNat 0<0:=fun s hs hn=>by
        have:gapIn (next.getD l.toNat []) (bitsTo f 10)=true:=by
          unfold gapIn
          rw [List.any_eq_true]
          exact ⟨s,hs,decide_eq_true hn⟩
        unfold stpP at hst
        rw [if_pos this] at hst;cases hst
      have hb:=stp_bit P hll hf hst
      have hp:∀ s∈bitsTo f 10,pth next s (l :: w)=pth next ((next.getD l.toNat []).getD s.toNat 0) w:=fun s hs=>by rw [pth,if_neg (hng s hs)]
      have him:imP next f (l :: w)=imP next g w:=by rw [imP,hst]
      obtain ⟨i1,i2⟩:=imP_iff P (w:=w) (f:=g) (fun y hy=>hw y (by simp [hy])) hgl
      refine ⟨?_,fun h=>?_⟩
      · rintro ⟨s,hs,hn⟩
        rw [him]
        exact i1 ⟨_,(hb _).2 ⟨s,hs,rfl⟩,by rw [← hp s hs];exact hn⟩
      · obtain ⟨g',h1,h2⟩:=i2 fun t ht=>by
          obtain ⟨s,hs,rfl⟩:=(hb t).1 ht
          rw [← hp s hs];exact h s hs
        refine ⟨g',by rw [him];exact h1,fun t=>?_⟩
        rw [h2]
        constructor
        · rintro ⟨t',ht,he⟩
          obtain ⟨s,hs,rfl⟩:=(hb t').1 ht
          exact ⟨s,hs,by rw [hp s hs];exact he⟩
        · rintro ⟨s,hs,he⟩
          exact ⟨_,(hb _).2 ⟨s,hs,rfl⟩,by rw [← hp s hs];exact he⟩
theorem pth_rg {n:Int} {next:List (List Int)} (P:Prt n next):∀ {w:List Int} {s t:Int},IsW next.length w→0≤s∧s<n→pth next s w=some t→0≤t∧t<n
  | [],s,t,_,hs,h=>by rw [← Option.some.inj h];exact hs
  | l :: w,s,t,hw,hs,h=>by
    have hl:=hw l (by simp)
    obtain ⟨h1,h2,h3⟩:=P.at (l:=l.toNat) (by omega) hs
    rw [pth] at h
    split at h
    · cases h
    · exact pth_rg P (fun y hy=>hw y (by simp [hy])) ⟨by omega,h3⟩ h
theorem car_iff {n:Int} {next:List (List Int)} (P:Prt n next) {w:List Int} (hw:IsW next.length w) :
    carB next n w=true↔∃ t,∀ s:Int,0≤s∧s<n→pth next s w=some t:=by
  have n1:=P.n1
  have n2:=P.n2
  have hp:=Nat.two_pow_pos n.toNat
  have hN:2 ^ n.toNat≤1024:=Nat.pow_le_pow_right (n:=2) (by omega) (show n.toNat≤10 by omega)
  have hall:∀ s:Int,s∈bitsTo (2 ^ n.toNat - 1) 10↔0≤s∧s<n:=fun s=>by
    rw [mem_bitsTo,Nat.testBit_two_pow_sub_one,decide_eq_true_eq];omega
  obtain ⟨i1,i2⟩:=imP_iff P (w:=w) (f:=2 ^ n.toNat - 1) hw (by omega)
  unfold carB
  by_cases h:∃ s∈bitsTo (2 ^ n.toNat - 1) 10,pth next s w=none
  · rw [i1 h]
    obtain ⟨s,hs,hn⟩:=h
    refine ⟨fun e=>(by cases e),fun ⟨t,ht⟩=>?_⟩
    have:=ht s ((hall s).1 hs)
    rw [hn] at this;cases this
  · obtain ⟨g,hg,hb⟩:=i2 fun s hs hn=>h ⟨s,hs,hn⟩
    have hgl:=imP_lt P (by omega) hw hg
    rw [hg]
    show smallN g=true↔_
    rw [small_iff (by omega)]
    have hmem:∀ t:Nat,t∈bitsN g↔∃ s:Int,(0≤s∧s<n)∧pth next s w=some (t:Int):=fun t=>by
      have h1:(t:Int)∈bitsTo g 10↔t∈bitsN g:=by
        rw [mem_bitsTo,mem_bits,Int.toNat_natCast]
        exact ⟨fun ⟨_,a,b⟩=>⟨by omega,b⟩,fun ⟨a,b⟩=>⟨by omega,by omega,b⟩⟩
      rw [← h1,hb]
      constructor
      · rintro ⟨s,hs,he⟩;exact ⟨s,(hall s).1 hs,he⟩
      · rintro ⟨s,hs,he⟩;exact ⟨s,(hall s).2 hs,he⟩
    have hdef:∀ s:Int,0≤s∧s<n→∃ t:Nat,pth next s w=some (t:Int):=fun s hs=>by
      cases he:pth next s w with
      | none=>exact absurd ⟨s,(hall s).2 hs,he⟩ h
      | some t =>
        have:=pth_rg P hw hs he
        exact ⟨t.toNat,by rw [Int.toNat_of_nonneg this.1]⟩
    constructor
    · intro hsm
      obtain ⟨t0,ht0⟩:=hdef 0 ⟨by omega,by omega⟩
      refine ⟨t0,fun s hs=>?_⟩
      obtain ⟨t,ht⟩:=hdef s hs
      have:=hsm t ((hmem t).2 ⟨s,hs,ht⟩) t0 ((hmem t0).2 ⟨0,⟨by omega,by omega⟩,ht0⟩)
      rw [ht,this]
    · rintro ⟨t,ht⟩ x hx y hy
      obtain ⟨s,hs,he⟩:=(hmem x).1 hx
      obtain ⟨s',hs',he'⟩:=(hmem y).1 hy
      rw [ht s hs] at he
      rw [ht s' hs'] at he'
      have h1:=Option.some.inj he
      have h2:=Option.some.inj he'
      omega
end Go.Ab
namespace Go.Ab
open Go.Proofs
def carD (next:List (List Int)) (f x:Nat):Option Nat:=stpP (next.getD x []) f
theorem hasGT {L:TS} {q:Nat}:hasG L q=hasT L q:=by
  unfold hasG hasT
  congr 1
  funext p
  rw [Bool.eq_iff_iff,decide_eq_true_iff,Nat.beq_eq]
abbrev visC (next:List (List Int)) (f:Nat) (w:List Int) (x:Nat) (L:TS):TS:=visG (carD next) f w x L
theorem visC_some {next:List (List Int)} {f to:Nat} {w:List Int} {x:Nat} {L:TS} (h:stpP (next.getD x []) f=some to):visC next f w (x+1) L=if hasT (visC next f w x L) to=true then visC next f w x L else visC next f w x L ++ [(to,w ++ [(x:Int)])]:=by
  have e:visG (carD next) f w (x+1) L=if hasG (visG (carD next) f w x L) to=true then visG (carD next) f w x L else visG (carD next) f w x L ++ [(to,w ++ [(x:Int)])]:=by
    rw [visG]
    simp only [show carD next f x=some to from h]
  rw [hasGT] at e
  exact e
def carT (next:List (List Int)) (f:Nat):TS:=runG (carD next) next.length (0,[]) 1100 0 [(f,[])]
theorem imP_goG {next:List (List Int)}:∀ {w:List Int} {f:Nat},imP next f w=goG (carD next) f w
  | [],_=>rfl
  | l :: w,f=>by
    rw [imP,goG]
    unfold carD
    cases stpP (next.getD l.toNat []) f with
    | none=>rfl
    | some g=>exact imP_goG
theorem carT_GI {n:Int} {next:List (List Int)} (P:Prt n next) {f:Nat} (hf:f<2 ^ n.toNat):GI (carD next) (fun q=>q<2 ^ n.toNat) next.length (0,[]) f (carT next f).length 0 (carT next f):=by
  have n2:=P.n2
  have hN:2 ^ n.toNat≤1024:=Nat.pow_le_pow_right (n:=2) (by omega) (show n.toNat≤10 by omega)
  refine GI.run (D:=fun q=>q<2 ^ n.toNat) (N:=1024) (fun p y q hp hy h=>stpP_lt P hp hy h) (fun L hd hr=>?_) 1100 0 _ (GI0 hf) (by simp) (by omega)
  have:=nodup_lt (2 ^ n.toNat) (L.map (·.1)) hd (fun x hx=>by
    obtain ⟨p,hp,rfl⟩:=List.mem_map.1 hx
    exact hr p hp)
  rw [List.length_map] at this;omega
def carQ (next:List (List Int)) (n:Int):Option (Nat×List Int):=firstT (carT next (2 ^ n.toNat - 1))
theorem carB_iff {n:Int} {next:List (List Int)} {w:List Int}:carB next n w=true↔∃ g,goG (carD next) (2 ^ n.toNat - 1) w=some g∧smallN g=true:=by
  unfold carB
  rw [imP_goG]
  cases goG (carD next) (2 ^ n.toNat - 1) w with
  | none=>simp
  | some g=>simp
theorem car_first {n:Int} {next:List (List Int)} (P:Prt n next):match carQ next n with
    | some p=>carB next n p.2=true∧IsW next.length p.2∧∀ v:List Int,IsW next.length v→carB next n v=true→befP v p.2=false
    | none=>∀ v:List Int,IsW next.length v→carB next n v=false:=by
  have hp:=Nat.two_pow_pos n.toNat
  have h:=(carT_GI P (f:=2 ^ n.toNat - 1) (by omega)).first smallN
  unfold carQ firstT
  cases hf:(carT next (2 ^ n.toNat - 1)).find? (fun p=>smallN p.1) with
  | none =>
    rw [hf] at h
    intro v hv
    cases hb:carB next n v with
    | false=>rfl
    | true =>
      obtain ⟨g,h1,h2⟩:=carB_iff.1 hb
      rw [h v hv g h1] at h2;cases h2
  | some p =>
    obtain ⟨q,w⟩:=p
    rw [hf] at h
    obtain ⟨h1,h2,h3,h4⟩:=h
    refine ⟨carB_iff.2 ⟨q,h1,h2⟩,h3,fun v hv hb=>?_⟩
    obtain ⟨g,g1,g2⟩:=carB_iff.1 hb
    exact h4 v hv g g1 g2
theorem stp_tot {n:Int} {next:List (List Int)} (A:Aut n next) {f x:Nat} (hf:f<2 ^ n.toNat) (hx:x<next.length):stpP (next.getD x []) f=some (stepN (next.getD x []) f):=by
  unfold stpP
  rw [if_neg]
  rw [Bool.not_eq_true]
  unfold gapIn
  rw [List.any_eq_false]
  intro s hs
  have h1:=bits_in2 hf s hs
  have h2:=(A.row _ (yzk hx []))
  have h3:=h2.2 _ (yzk (show s.toNat<(next.getD x []).length by omega) 0)
  simp only [decide_eq_true_eq];omega
theorem visC_T {n:Int} {next:List (List Int)} (A:Aut n next) {f:Nat} (hf:f<2 ^ n.toNat) {w:List Int} {L:TS}:∀ x,x≤next.length→visC next f w x L=visT next f w x L
  | 0,_=>rfl
  | x+1,hx=>by rw [visC_some (stp_tot A hf (by omega)),visC_T A hf x (by omega),visT_succ]
theorem runC_T {n:Int} {next:List (List Int)} (A:Aut n next):∀ (F i:Nat) (L:TS),TI n.toNat next.length L→runG (carD next) next.length (0,[]) F i L=runT next F i L
  | 0,i,L,h=>rfl
  | F+1,i,L,h=>by
    simp only [runG,runT]
    split
    · rename_i hi
      have hm:=yzk hi (0,([]:List Int))
      have e:=visC_T A (h.rg _ hm) (w:=(L.getD i (0,[])).2) (L:=L) next.length (Nat.le_refl _)
      have h1:=(visT_ok A h hi next.length (Nat.le_refl _)).1
      show runG (carD next) next.length (0,[]) F (i+1) (visC next _ _ next.length L)=_
      rw [e]
      exact runC_T A F (i+1) _ h1
    · rfl
theorem carQ_T {n:Int} {next:List (List Int)} (A:Aut n next):carQ next n=firstT (tourT next (2 ^ n.toNat - 1)):=by
  have hp:=Nat.two_pow_pos n.toNat
  unfold carQ carT tourT
  rw [runC_T A 1100 0 _ (TI0 (by omega))]
end Go.Ab
namespace Go.Ab
def chkQ:Bool:=(List.range 5).all fun n=>(List.range n).all fun t=>(List.range t).all fun s=>decide ((allP n).getD (l06I n s t).toNat []=[(s:Int),(t:Int)]) && (decide (0≤l06I n s t) && (decide (l06I n s t<endM n) && decide (l06I n t s=l06I n s t)))
theorem chkQ_t:chkQ=true:=by decide +kernel
def chkS:Bool:=(List.range 5).all fun n=>(List.range (endM n).toNat).all fun i=>(List.range n).any fun t=>(List.range t).any fun s=>decide (l06I n s t=i)
theorem chkS_t:chkS=true:=by decide +kernel
theorem pair_num {n:Int} (hn:n≤4) {s t:Int} (hs:0≤s∧s<t) (ht:t<n):(allP n).getD (l06I n s t).toNat []=[s,t]∧0≤l06I n s t∧l06I n s t<endM n∧l06I n t s=l06I n s t:=by
  have h:=chkQ_t
  simp only [chkQ,List.all_eq_true,List.mem_range,Bool.and_eq_true,decide_eq_true_eq] at h
  have h1:=h n.toNat (by omega) t.toNat (by omega) s.toNat (by omega)
  rw [show ((n.toNat:Nat):Int)=n by omega,show ((s.toNat:Nat):Int)=s by omega,show ((t.toNat:Nat):Int)=t by omega] at h1
  exact h1
theorem pair_of {n:Int} (h1:1≤n) (hn:n≤4) {i:Int} (hi:0≤i∧i<endM n):∃ s t,(0≤s∧s<t)∧t<n∧l06I n s t=i:=by
  have h:=chkS_t
  simp only [chkS,List.all_eq_true,List.any_eq_true,List.mem_range,decide_eq_true_eq] at h
  obtain ⟨t,ht,s,hs,e⟩:=h n.toNat (by omega) i.toNat (by rw [show ((n.toNat:Nat):Int)=n by omega];omega)
  rw [show ((n.toNat:Nat):Int)=n by omega] at e
  exact ⟨s,t,by omega,by omega,by rw [e];omega⟩
abbrev prR (n:Int) (next out:List (List Int)):List (List Int):=resM n (endM n) next out next.length
section
variable {n o:Int} {next out:List (List Int)}
theorem prR_row {x:Nat} (hx:x<next.length):(prR n next out).getD x []=rowM n (endM n) (next.getD x []) (out.getD x []):=by
  unfold prR resM
  rw [List.getD_eq_getElem?_getD,List.getElem?_map,List.getElem?_range hx];rfl
theorem rowM_at {nx ou:List Int} (h:1≤n∧n≤10) {i:Nat} (hi:(i:Int)<endM n):(rowM n (endM n) nx ou).getD i 0=cellM n (endM n) nx ou ((allP n).getD i []):=by
  have hl:=allP_len h
  unfold rowM
  rw [List.getD_eq_getElem?_getD,List.getElem?_append_left (by rw [List.length_map];omega),List.getElem?_map,List.getD_eq_getElem?_getD,List.getElem?_eq_getElem (by omega)];rfl
theorem rowM_end {nx ou:List Int} (h:1≤n∧n≤10):(rowM n (endM n) nx ou).getD (endM n).toNat 0=endM n:=by
  have hl:=allP_len h
  unfold rowM
  rw [List.getD_eq_getElem?_getD,List.getElem?_append_right (by rw [List.length_map];omega),List.length_map,show (endM n).toNat - (allP n).length=0 by omega];rfl
theorem prR_sink (h:1≤n∧n≤10):∀ {w:List Int},IsW next.length w→atA (prR n next out) (endM n) w=endM n
  | [],_=>rfl
  | x :: w,hw=>by
    have hx:=hw x (by simp)
    have e:stepA (prR n next out) (endM n) x=endM n:=by
      unfold stepA
      rw [prR_row (by omega),rowM_end h]
    show atA (prR n next out) (stepA (prR n next out) (endM n) x) w=endM n
    rw [e]
    exact prR_sink h fun y hy=>hw y (by simp [hy])
theorem prR_step (hn:1≤n∧n≤4) {s t x:Int} (hx:0≤x∧x<next.length) (hs:0≤s∧s<n) (ht:0≤t∧t<n) (hst:s≠t) :
    stepA (prR n next out) (l06I n s t) x=if outA out s x=outA out t x∧stepA next s x≠stepA next t x then l06I n (stepA next s x) (stepA next t x) else endM n:=by
  have key:∀ s t:Int,0≤s→s<t→t<n→stepA (prR n next out) (l06I n s t) x=if outA out s x=outA out t x∧stepA next s x≠stepA next t x then l06I n (stepA next s x) (stepA next t x) else endM n:=by
    intro s t h1 h2 h3
    obtain ⟨e1,e2,e3,_⟩:=pair_num hn.2 ⟨h1,h2⟩ h3
    show ((prR n next out).getD x.toNat []).getD (l06I n s t).toNat 0=_
    rw [prR_row (by omega),rowM_at ⟨hn.1,by omega⟩ (by omega),e1]
    rfl
  rcases Int.lt_or_gt_of_ne hst with h | h
  · exact key s t hs.1 h ht.2
  · obtain ⟨_,_,_,e4⟩:=pair_num hn.2 ⟨ht.1,h⟩ hs.2
    rw [e4,key t s ht.1 h hs.2]
    by_cases hc:outA out s x=outA out t x∧stepA next s x≠stepA next t x
    · rw [if_pos hc,if_pos ⟨hc.1.symm,Ne.symm hc.2⟩]
      unfold l06I
      rw [Int.min_comm,Int.max_comm]
    · rw [if_neg hc,if_neg fun h'=>hc ⟨h'.1.symm,Ne.symm h'.2⟩]
theorem prR_at (M:Mach n o next out) (hn:n≤4):∀ {w:List Int} {s t:Int},IsW next.length w→(0≤s∧s<n)→(0≤t∧t<n)→s≠t →
    atA (prR n next out) (l06I n s t) w=if outsA next out s w=outsA next out t w∧atA next s w≠atA next t w then l06I n (atA next s w) (atA next t w) else endM n
  | [],s,t,_,_,_,hst=>by
    rw [if_pos ⟨rfl,hst⟩];rfl
  | x :: w,s,t,hw,hs,ht,hst=>by
    have hx:=hw x (by simp)
    have n1:=M.aut.n1
    have hw':IsW next.length w:=fun y hy=>hw y (by simp [hy])
    show atA (prR n next out) (stepA (prR n next out) (l06I n s t) x) w=_
    rw [prR_step ⟨n1,hn⟩ hx hs ht hst]
    have e1:∀ u,outsA next out u (x :: w)=outA out u x :: outsA next out (stepA next u x) w:=fun u=>rfl
    have e2:∀ u,atA next u (x :: w)=atA next (stepA next u x) w:=fun u=>rfl
    rw [e1,e1,e2,e2]
    by_cases hc:outA out s x=outA out t x∧stepA next s x≠stepA next t x
    · rw [if_pos hc,prR_at M hn hw' (M.aut.step hs ⟨hx.1,hx.2⟩).2.2 (M.aut.step ht ⟨hx.1,hx.2⟩).2.2 hc.2,hc.1]
      simp only [List.cons.injEq,true_and]
    · rw [if_neg hc,prR_sink ⟨n1,by omega⟩ hw',if_neg]
      rintro ⟨h1,h2⟩
      refine hc ⟨(List.cons.inj h1).1,fun e=>h2 (by rw [e])⟩
theorem pair_home (M:Mach n o next out) (hn:n≤4) {w:List Int} (hw:IsW next.length w):homB next out false n w=true↔∀ i:Nat,(i:Int)<endM n+1→atA (prR n next out) i w=endM n:=by
  have n1:=M.aut.n1
  have he:=endM_nn ⟨n1,show n≤10 by omega⟩
  rw [homB_iff]
  constructor
  · intro h i hi
    by_cases hi2:(i:Int)<endM n
    · obtain ⟨s,t,h1,h2,h3⟩:=pair_of n1 hn ⟨by omega,hi2⟩
      rw [← h3,prR_at M hn hw ⟨h1.1,by omega⟩ ⟨by omega,h2⟩ (by omega),if_neg]
      rintro ⟨h4,h5⟩
      have:=h s.toNat t.toNat (by omega) (by omega) (by omega) (by rw [show ((s.toNat:Nat):Int)=s by omega,show ((t.toNat:Nat):Int)=t by omega];exact h4)
      rw [show ((s.toNat:Nat):Int)=s by omega,show ((t.toNat:Nat):Int)=t by omega] at this
      exact h5 this.2
    · rw [show (i:Int)=endM n by omega,prR_sink ⟨n1,by omega⟩ hw]
  · intro h s t hs ht hst ho
    refine ⟨rfl,Classical.byContradiction fun hne=>?_⟩
    have key:∀ s t:Int,0≤s→s<t→t<n→outsA next out s w=outsA next out t w→atA next s w≠atA next t w→False:=by
      intro s t h1 h2 h3 h4 h5
      obtain ⟨_,e2,e3,_⟩:=pair_num hn ⟨h1,h2⟩ h3
      have h6:=h (l06I n s t).toNat (by omega)
      rw [show (((l06I n s t).toNat:Nat):Int)=l06I n s t by omega,prR_at M hn hw ⟨h1,by omega⟩ ⟨by omega,h3⟩ (by omega),if_pos ⟨h4,h5⟩] at h6
      have a1:=M.aut.at ⟨h1,by omega⟩ hw (s:=s)
      have a2:=M.aut.at ⟨show 0≤t by omega,h3⟩ hw (s:=t)
      rcases Int.lt_or_gt_of_ne h5 with g | g
      · have:=(pair_num hn ⟨a1.1,g⟩ a2.2).2.2.1;omega
      · obtain ⟨_,_,g3,g4⟩:=pair_num hn ⟨a2.1,g⟩ a1.2;omega
    rcases Int.lt_or_gt_of_ne (show (s:Int)≠t by omega) with g | g
    · exact key s t (by omega) g ht ho hne
    · exact key t s (by omega) g hs ho.symm (Ne.symm hne)
theorem pth_at2 {n:Int} {next:List (List Int)} (A:Aut n next):∀ {w:List Int} {s:Int},IsW next.length w→0≤s∧s<n→pth next s w=some (atA next s w)
  | [],s,_,_=>rfl
  | l :: w,s,hw,hs=>by
    have hl:=hw l (by simp)
    have hll:l.toNat<next.length:=by omega
    have hr:=A.row _ (yzk hll [])
    have hx:=hr.2 _ (yzk (show s.toNat<(next.getD l.toNat []).length by omega) 0)
    have e:stepA next s l=(next.getD l.toNat []).getD s.toNat 0:=by simp [stepA]
    rw [pth,if_neg (by omega),pth_at2 A (fun y hy=>hw y (by simp [hy])) hx]
    show _=some (atA next (stepA next s l) w)
    rw [e]
theorem prR_aut (M:Mach n o next out) (hn:n≤4):Aut (endM n+1) (prR n next out):=by
  have n1:=M.aut.n1
  have h10:1≤n∧n≤10:=⟨n1,by omega⟩
  have he:=endM_nn h10
  have hpl:=allP_len h10
  have he6:endM n≤6:=by
    have h4:n=1∨n=2∨n=3∨n=4:=by omega
    rcases h4 with rfl | rfl | rfl | rfl <;> decide
  refine ⟨by omega,by omega,by rw [prR,resM,List.length_map,List.length_range];exact M.aut.l1,by rw [prR,resM,List.length_map,List.length_range];exact M.aut.l2,fun row hr=>?_⟩
  obtain ⟨x,hx,rfl⟩:=List.mem_map.1 hr
  rw [List.mem_range] at hx
  have hl:((rowM n (endM n) (next.getD x []) (out.getD x [])).length:Int)=endM n+1:=by
    rw [rowM,List.length_append,List.length_map,List.length_singleton];omega
  refine ⟨hl,fun y hy=>?_⟩
  obtain ⟨i,hi,rfl⟩:=List.getElem_of_mem hy
  have hgd:(rowM n (endM n) (next.getD x []) (out.getD x []))[i]=(rowM n (endM n) (next.getD x []) (out.getD x [])).getD i 0:=by
    rw [List.getD_eq_getElem?_getD (i:=i),List.getElem?_eq_getElem hi];rfl
  rw [hgd]
  by_cases hie:(i:Int)<endM n
  · obtain ⟨s,t,h1,h2,h3⟩:=pair_of n1 hn ⟨by omega,hie⟩
    obtain ⟨e1,e2,e3,_⟩:=pair_num hn h1 h2
    rw [rowM_at h10 hie,show i=(l06I n s t).toNat by omega,e1]
    unfold cellM
    have hs:=M.aut.row _ (yzk hx [])
    have a1:=hs.2 _ (yzk (show s.toNat<(next.getD x []).length by omega) 0)
    have a2:=hs.2 _ (yzk (show t.toNat<(next.getD x []).length by omega) 0)
    show 0≤(if _ then l06I n ((next.getD x []).getD s.toNat 0) ((next.getD x []).getD t.toNat 0) else _)∧(if _ then l06I n ((next.getD x []).getD s.toNat 0) ((next.getD x []).getD t.toNat 0) else _)<_
    split
    · rename_i hc
      have hne:(next.getD x []).getD s.toNat 0≠(next.getD x []).getD t.toNat 0:=hc.2
      generalize (next.getD x []).getD s.toNat 0=u at a1 hne
      generalize (next.getD x []).getD t.toNat 0=v at a2 hne
      rcases Int.lt_or_gt_of_ne hne with g | g
      · have:=pair_num hn ⟨a1.1,g⟩ a2.2;omega
      · have:=pair_num hn ⟨a2.1,g⟩ a1.2;omega
    · omega
  · have:i=(endM n).toNat:=by omega
    rw [this,rowM_end h10];omega
theorem aut_prt {n:Int} {next:List (List Int)} (A:Aut n next):Prt n next:=⟨A.n1,A.n2,A.l1,A.l2,fun r hr=>⟨(A.row r hr).1,fun x hx=>by have:=(A.row r hr).2 x hx;omega⟩⟩
theorem pair_car (M:Mach n o next out) (hn:n≤4) {w:List Int} (hw:IsW next.length w):carB (prR n next out) (endM n+1) w=homB next out false n w:=by
  have A:=prR_aut M hn
  have n1:=M.aut.n1
  have he:=endM_nn ⟨n1,show n≤10 by omega⟩
  have hl:(prR n next out).length=next.length:=by rw [prR,resM,List.length_map,List.length_range]
  have hw':IsW (prR n next out).length w:=by rw [hl];exact hw
  rw [Bool.eq_iff_iff,car_iff (aut_prt A) hw',pair_home M hn hw]
  constructor
  · rintro ⟨x,hx⟩ i hi
    have h1:=hx (endM n) (by omega)
    rw [pth_at2 A hw' (by omega),prR_sink ⟨n1,by omega⟩ hw] at h1
    have h2:=hx i (by omega)
    rw [pth_at2 A hw' (by omega)] at h2
    simp only [Option.some.injEq] at h1 h2
    rw [h2,h1]
  · intro h
    refine ⟨endM n,fun s hs=>?_⟩
    rw [pth_at2 A hw' hs]
    have:=h s.toNat (by omega)
    rw [show ((s.toNat:Nat):Int)=s by omega] at this
    rw [this]
theorem pair_img (M:Mach n o next out) (hn:n≤4) {w:List Int} (hw:IsW next.length w) :
    (nrm ((allS (endM n+1)).map fun s=>atA (prR n next out) s w)=[endM n]↔homB next out false n w=true):=by
  have n1:=M.aut.n1
  have he:=endM_nn ⟨n1,show n≤10 by omega⟩
  rw [pair_home M hn hw]
  have hm:∀ s:Int,s∈allS (endM n+1)↔0≤s∧s<endM n+1:=fun s=>by
    simp only [allS,List.mem_map,List.mem_range]
    constructor
    · rintro ⟨k,hk,rfl⟩;omega
    · rintro ⟨h1,h2⟩;exact ⟨s.toNat,by omega,by omega⟩
  constructor
  · intro h i hi
    have:atA (prR n next out) i w∈nrm ((allS (endM n+1)).map fun s=>atA (prR n next out) s w):=nrm_mem.2 (List.mem_map.2 ⟨i,(hm i).2 (by omega),rfl⟩)
    rw [h] at this
    simpa using this
  · intro h
    refine SI_ext (nrm_SI _) (by simp [SI]) fun y=>?_
    rw [nrm_mem,List.mem_map,List.mem_singleton]
    constructor
    · rintro ⟨s,hs,rfl⟩
      have h1:=(hm s).1 hs
      have:=h s.toNat (by omega)
      rw [show ((s.toNat:Nat):Int)=s by omega] at this
      exact this
    · rintro rfl
      exact ⟨endM n,(hm _).2 (by omega),prR_sink ⟨n1,by omega⟩ hw⟩
theorem befP_eq {u v:List Int} (h1:befP u v=false) (h2:befP v u=false):u=v:=by
  have key:∀ {u v:List Int},u.length=v.length→lexP u v=false→lexP v u=false→u=v:=by
    intro u
    induction u with
    | nil=>intro v hl _ _;cases v with
      | nil=>rfl
      | cons=>simp at hl
    | cons a u ih =>
      intro v hl g1 g2
      cases v with
      | nil=>simp at hl
      | cons b v =>
        simp only [lexP] at g1 g2
        by_cases hab:a=b
        · subst hab
          rw [if_pos rfl] at g1 g2
          rw [ih (by simpa using hl) g1 g2]
        · rw [if_neg hab,decide_eq_false_iff_not] at g1
          rw [if_neg (Ne.symm hab),decide_eq_false_iff_not] at g2
          omega
  unfold befP at h1 h2
  by_cases e:u.length=v.length
  · rw [if_pos e] at h1
    rw [if_pos e.symm] at h2
    exact key e h1 h2
  · rw [if_neg e] at h1
    rw [if_neg (Ne.symm e)] at h2
    simp only [decide_eq_false_iff_not] at h1 h2
    omega
end
end Go.Ab
namespace Go.Ab
open Go.Proofs
def pairOk (n o:Int) (next out:List (List Int)):Bool:=machB n o next out && decide (endM n<10)
def pairCode (n o:Int) (next out:List (List Int)):Int:=if machB n o next out=true then (if endM n<10 then 0 else 3) else 1
theorem map_snoc {α β:Type} (f:α→β) {l:List α} {i:Nat} {d:α} (h:i<l.length):(l.take i).map f ++ [f (l.getD i d)]=(l.take (i+1)).map f:=by
  rw [List.take_succ_eq_append_getElem h,List.map_append,List.getD_eq_getElem?_getD,List.getElem?_eq_getElem h];rfl
theorem k_PairAutomaton (n o:Int) (next out:List (List Int)) :
    NamR Tryz.prog nz3r [machA n o next out] (pairOk n o next out) (endM n+1) (resM n (endM n) next out next.length) (pairCode n o next out):=by
  refine con_of mixed czlx rfl (by simp) ?_
  generalize hQ:finQ _=Q
  simp only [Azj,Bzak,wpD_kp,yzw,go_sem,yz0,xx9,xx8,xx6,xx7,xx5,xx0,xx1,xx2,reduceIte,xx3,xx4,reduceCtorEq]
  intro vs0 U0 hN0 vs1 U1 hN1
  refine yzv (k_ValidMachine n o next out) qCS trivial ?_
  cases hv:machB n o next out with
  | false =>
    have e1:pairOk n o next out=false:=by simp only [pairOk,hv,Bool.false_and]
    have e2:pairCode n o next out=1:=by simp only [pairCode,hv,Bool.false_eq_true,if_false]
    simp only [Bz5a,Azj,← hQ,wpD_kp,yzw,go_sem,yz0,xx9,xx8,xx6,xx7,xx5,xx0,xx1,xx2,reduceIte,xx3,xx4,reduceCtorEq]
    intro vs2 U2 hN2
    refine ⟨[],by simp,by simp,by simp,?_⟩
    simp only [e1,e2,Bool.false_eq_true,if_false,Nat.not_lt_zero,range1,yzx,yz10,yz1c,yz1b,yzz,yz19,yz1a,yz18,yzy,yzu,yzi,yz5,yzs,yzt,yzp,yzn,yzq,yzb,yzc,yz8,yz7,yzg,yzh,yz2,yz9,yza,yz6,yzj,yzf,List.range_zero,yz4,yz3,yzd,yzr,yzm,yzo,AVal.fresh,freshL,yz1,yze,AObj.fresh,id,Option.isSome_some,or_true,true_or,go_sem,yz0,xx9,xx8,xx6,xx7,xx5,xx0,xx1,xx2,reduceIte,xx3,xx4,reduceCtorEq]
    try simp
  | true =>
    have M:=machB_iff.1 hv
    have A:=M.aut
    have n1:=A.n1
    have n2:=A.n2
    have l1:=A.l1
    have l2:=A.l2
    have hen:=endM_nn ⟨n1,n2⟩
    have hpl:=allP_len ⟨n1,n2⟩
    simp only [Bz5a,Bzaj,wpD_kp,yzw,go_sem,yz0,xx9,xx8,xx6,xx7,xx5,xx0,xx1,xx2,reduceIte,xx3,xx4,reduceCtorEq]
    intro vs2 U2 hN2
    refine call_sh (k_forget n o next out) qCS (fun e=>by cases e) ?_
    rintro outs rows res ⟨rfl,rfl,rfl⟩
    refine ⟨rfl,by simp,by simp,?_⟩
    simp only [Nat.not_lt_zero,range1,yzx,yz10,yz1c,yz1b,yzz,yz19,yz1a,yz18,yzy,yzu,yzi,yz5,yzs,yzt,yzp,yzn,yzq,yzb,yzc,yz8,yz7,yzg,yzh,yz2,yz9,yza,yz6,yzj,yzf,List.range_zero,yz4,yz3,yzd,yzr,yzm,yzo,AVal.fresh,freshL,yz1,yze,AObj.fresh,id,Option.isSome_some,or_true,true_or,go_sem,yz0,xx9,xx8,xx6,xx7,xx5,xx0,xx1,xx2,reduceIte,xx3,xx4,reduceCtorEq]
    refine call_rowR (k_pairs n next nzz [] (fun _ _=>true) ⟨n1,n2⟩ ⟨by simp only [go_sem,yz0,xx9,xx8,xx6,xx7,xx5,xx0,xx1,xx2,reduceIte,xx3,xx4,reduceCtorEq],by intros;simp only [rowIs,boxIs,coe_argN,coe_argNs,coe_ro_o,coeL_nil,yz11,coe_any,coe_val,coe_ro,yz14,yz16,coe_st,yz17,coe_rp,yz15,coe_clo,coe_own0,coe_ptr0,yz13,coeL_rws,coeL_rwn,L_hit,L_miss,L_nil,xx3,ne_eq,reduceCtorEq,not_false_eq_true,true_and,and_true,and_self,exists_eq_left,exists_eq_right,List.mem_cons,List.not_mem_nil,or_false,AObj.row.injEq,AObj.box.injEq,exists_eq_left',exists_and_left,exists_eq,Nat.zero_lt_one,Nat.lt_add_one,List.map_cons,List.map_nil,AObj.ver,xx5,not_true_eq_false]⟩ (fun s t _ _ _=>k_PairAutomaton_1 s t)) qCS rfl ⟨_,rfl⟩ ?_
    rintro _ v20 rfl
    simp only [Bzai,wpD_kp,yzw,go_sem,yz0,xx9,xx8,xx6,xx7,xx5,xx0,xx1,xx2,reduceIte,xx3,xx4,reduceCtorEq]
    intro vs3 U3 hN3
    refine yzv (k_size1 (allP n)) qCS trivial ?_
    have w1:IntKind.i64.wrap (endM n+1)=endM n+1:=w64 (by omega)
    by_cases he:endM n<10
    · have hn4:=endM_small ⟨n1,n2⟩ he
      have hg:¬ (10:Int)<endM n+1:=by omega
      simp only [hpl,w1,Bz5e,Bz5b,Bzah,decide_eq_false hg,wpD_kp,yzw,go_sem,yz0,xx9,xx8,xx6,xx7,xx5,xx0,xx1,xx2,reduceIte,xx3,xx4,reduceCtorEq]
      intro vs4 U4 hN4 vs5 U5 hN5
      simp only [Bzag,Bzae,wpD_kp,yzw,go_sem,yz0,xx9,xx8,xx6,xx7,xx5,xx0,xx1,xx2,reduceIte,xx3,xx4,reduceCtorEq]
      intro vs6 U6 hN6 hM ver
      have hM2:=maxLen_le
      refine wpD_lp (fun (_,_,_,ps)=>next.length - List.length ps)
        (fun (nn,_,_,ps)=>List.map (·.2) ps=resM n (endM n) next out (List.length ps)∧List.length ps≤next.length∧DJ ps∧(ps≠[]→nn=true))
        (fun ((nn,v6,va,ps):Bool×Nat×Nat×List (Nat×List Int))=>⟨L .any [(1,.ptr 1 (vs0 0 0) 0),(2,.ptr 2 (vs0 1 0) 0),(4,.own 20 v20),(5,iv (endM n)),(6,.ptr 6 v6 0),(31,.ro none 1 (rwn next)),(32,iv next.length),(33,iv ps.length)],
          L .gone [(1,.box (vs0 0 0) [iv n,iv o,.ro none 1 (rwn next),.ro none 1 (rwn out)]),(2,.box (vs0 1 0) [iv 0,nilS]),(6,.box v6 [iv (endM n+1),.own 101 va]),(19,.gone),(20,.row v20 1 true (rws (allP n))),(101,.row va 1 nn (rwp ps)),(5000,.gone)]⟩)
        (_,_,_,[]) ⟨rfl,by simp,by simp [DJ],by simp⟩ (by simp only [Bz1z,List.length_nil,rwp_nil,go_sem,yz0,xx9,xx8,xx6,xx7,xx5,xx0,xx1,xx2,reduceIte,xx3,xx4,reduceCtorEq];try rfl) ?_
      rintro ⟨nn,v6,va,ps⟩ ⟨hp1,hp2,hp3,hp4⟩
      have hp1:ps.map (·.2)=resM n (endM n) next out ps.length:=hp1
      have hp2:ps.length≤next.length:=hp2
      have hp3:DJ ps:=hp3
      have hp4:ps≠[]→nn=true:=hp4
      by_cases hlt:(ps.length:Int)<next.length
      · have hlt1:ps.length<next.length:=by omega
        have hlt2:ps.length<out.length:=by rw [M.len];exact hlt1
        have hrow:=A.row _ (yzk hlt1 [])
        have hrow2:=M.row _ (yzk hlt2 [])
        simp only [Bz1z,Bz5d,Bzad,rwn_getD hlt1,decide_eq_true hlt,wpD_kp,yzw,go_sem,yz0,xx9,xx8,xx6,xx7,xx5,xx0,xx1,xx2,reduceIte,xx3,xx4,reduceCtorEq]
        intro vs7 U7 hN7 vs8 U8 hN8
        refine ⟨⟨by omega,hlt1⟩,hlt1,?_⟩
        simp only [Bzab,wpD_kp,yzw,go_sem,yz0,xx9,xx8,xx6,xx7,xx5,xx0,xx1,xx2,reduceIte,xx3,xx4,reduceCtorEq]
        intro vs9 U9 hN9
        have hU:=hN9.hp 101
        simp only [AObj.uses,go_sem,yz0,xx9,xx8,xx6,xx7,xx5,xx0,xx1,xx2,reduceIte,xx3,xx4,reduceCtorEq] at hU
        have hold:=usesL_rwp (rest:=[]) (by rw [List.append_nil];exact hU.2)
        have hfresh:∀ (i k:Nat),∀ p∈ps,p.2=[]∨p.1≠vs9 i k:=fun i k p hp=>by
          rcases hold p hp with h | h
          · exact .inl h
          · exact .inr fun e=>hN9.new i k (e ▸ h)
        simp only [Bzaa,Bza8,wpD_kp,yzw,go_sem,yz0,xx9,xx8,xx6,xx7,xx5,xx0,xx1,xx2,reduceIte,xx3,xx4,reduceCtorEq]
        intro vs10 U10 hN10 hMo
        have hM3:(allP n).length≤maxLen:=by omega
        have hMl:(rws (allP n)).length=(allP n).length:=rws_len
        refine wpD_lp (fun (_,j)=>(allP n).length - j) (fun (vb,j)=>j≤(allP n).length∧∀ p∈ps,p.2=[]∨p.1≠vb)
          (fun ((vb,j):Nat×Nat)=>⟨L .any [(1,.ptr 1 (vs0 0 0) 0),(2,.ptr 2 (vs0 1 0) 0),(4,.own 20 v20),(5,iv (endM n)),(6,.ptr 6 v6 0),(7,iv ps.length),(8,.ro none 1 (ints (next.getD ps.length []))),(9,.own 38 vb),(31,.ro none 1 (rwn next)),(32,iv next.length),(33,iv ps.length),(39,.own 20 v20),(40,iv (allP n).length),(41,iv j)],
            L .gone [(1,.box (vs0 0 0) [iv n,iv o,.ro none 1 (rwn next),.ro none 1 (rwn out)]),(2,.box (vs0 1 0) [iv 0,nilS]),(6,.box v6 [iv (endM n+1),.own 101 va]),(19,.gone),(20,.row v20 1 true (rws (allP n))),(38,.row vb 1 true (ints (((allP n).take j).map (cellM n (endM n) (next.getD ps.length []) (out.getD ps.length []))))),(92,.gone),(101,.row va 1 nn (rwp ps)),(5000,.gone)]⟩)
          (_,0) ⟨by simp,hfresh 0 0⟩ (by simp only [Bz1y,hMl,go_sem,yz0,xx9,xx8,xx6,xx7,xx5,xx0,xx1,xx2,reduceIte,xx3,xx4,reduceCtorEq];try rfl) ?_
        rintro ⟨vb,j⟩ ⟨hj,hf⟩
        have hj:j≤(allP n).length:=hj
        have hf:∀ p∈ps,p.2=[]∨p.1≠vb:=hf
        by_cases hjl:(j:Int)<(allP n).length
        · have hj1:j<(allP n).length:=by omega
          simp only [Bz1y,Bz5c,Bza7,decide_eq_true hjl,wpD_kp,yzw,go_sem,yz0,xx9,xx8,xx6,xx7,xx5,xx0,xx1,xx2,reduceIte,xx3,xx4,reduceCtorEq]
          intro vs11 U11 hN11 vs12 U12 hN12
          refine ⟨⟨by omega,hj1⟩,hj1,?_⟩
          obtain ⟨a,b,ha,hab,hb,-,hpe⟩:=(pairsL_mem (by omega)).1 (yzk hj1 [])
          have hsn:=map_snoc (cellM n (endM n) (next.getD ps.length []) (out.getD ps.length [])) (d:=[]) hj1
          rw [hpe] at hsn
          have hgr:(rws (allP n)).getD j .any=.ro (some none) 1 [iv a,iv b]:=by rw [rws_getD hj1,hpe];rfl
          rw [hgr]
          have hxa:a.toNat<(next.getD ps.length []).length:=by omega
          have hxb:b.toNat<(next.getD ps.length []).length:=by omega
          have hya:a.toNat<(out.getD ps.length []).length:=by omega
          have hyb:b.toNat<(out.getD ps.length []).length:=by omega
          have hxi:=hrow.2 _ (yzk hxa 0)
          have hyi:=hrow.2 _ (yzk hxb 0)
          have t0:(a.toNat:Int)=a:=by omega
          have t1:(b.toNat:Int)=b:=by omega
          have hsl:[(next.getD ps.length []).getD a.toNat 0,(next.getD ps.length []).getD b.toNat 0].length * 8≤140737488355328:=by simp
          simp only [Bza6,yzl hxa,yzl hxb,wpD_kp,yzw,go_sem,yz0,xx9,xx8,xx6,xx7,xx5,xx0,xx1,xx2,reduceIte,xx3,xx4,reduceCtorEq]
          intro vs13 U13 hN13
          refine ⟨⟨ha,hxa⟩,hxa,⟨by omega,hxb⟩,hxb,?_⟩
          refine ⟨⟨⟨_,rfl,rfl⟩,⟨_,rfl,rfl⟩⟩,?_⟩
          have han:argN [(next.getD ps.length []).getD a.toNat 0,(next.getD ps.length []).getD b.toNat 0]=none:=rfl
          refine call_rowIs (k_sorted [(next.getD ps.length []).getD a.toNat 0,(next.getD ps.length []).getD b.toNat 0] hsl) (by simp only [han,rowIs,boxIs,coe_argN,coe_argNs,coe_ro_o,coeL_nil,yz11,coe_any,coe_val,coe_ro,yz14,yz16,coe_st,yz17,coe_rp,yz15,coe_clo,coe_own0,coe_ptr0,yz13,coeL_rws,coeL_rwn,L_hit,L_miss,L_nil,xx3,ne_eq,reduceCtorEq,not_false_eq_true,true_and,and_true,and_self,exists_eq_left,exists_eq_right,List.mem_cons,List.not_mem_nil,or_false,AObj.row.injEq,AObj.box.injEq,exists_eq_left',exists_and_left,exists_eq,Nat.zero_lt_one,Nat.lt_add_one,List.map_cons,List.map_nil,AObj.ver,xx5,not_true_eq_false]) rfl ⟨_,rfl⟩ ?_
          rintro _ v58 rfl
          have heq:=cellM_t (n:=n) (e:=endM n) (nx:=next.getD ps.length []) (ou:=out.getD ps.length []) (s:=a) (t:=b)
          have hef:=cellM_f (n:=n) (e:=endM n) (nx:=next.getD ps.length []) (ou:=out.getD ps.length []) (s:=a) (t:=b)
          have hip:=idx_pair (n:=n) ⟨n1,hn4⟩ hxi hyi
          have hns:=nrm_same (x:=(next.getD ps.length []).getD a.toNat 0)
          by_cases h1:(out.getD ps.length []).getD a.toNat 0=(out.getD ps.length []).getD b.toNat 0
          · have q1:((out.getD ps.length []).getD a.toNat 0 == (out.getD ps.length []).getD b.toNat 0)=true:=beqT h1
            by_cases h2:(next.getD ps.length []).getD a.toNat 0=(next.getD ps.length []).getD b.toNat 0
            · rw [hef (fun h=>h.2 h2)] at hsn
              rw [← h2]
              have q2:(((nrm [(next.getD ps.length []).getD a.toNat 0,(next.getD ps.length []).getD a.toNat 0]).length:Int) == 2)=false:=beqF (by rw [hns];decide)
              simp only [Bz1w,Bz1v,Bz1t,rwn_getD hlt2,yzl hya,yzl hyb,q1,q2,wpD_kp,yzw,go_sem,yz0,xx9,xx8,xx6,xx7,xx5,xx0,xx1,xx2,reduceIte,xx3,xx4,reduceCtorEq]
              intro vs14 U14 hN14 vs15 U15 hN15
              refine ⟨⟨by omega,hlt2⟩,hlt2,⟨ha,hya⟩,hya,⟨by omega,hlt2⟩,hlt2,⟨by omega,hyb⟩,hyb,?_⟩
              simp only [Bz1u,wpD_kp,yzw,go_sem,yz0,xx9,xx8,xx6,xx7,xx5,xx0,xx1,xx2,reduceIte,xx3,xx4,reduceCtorEq]
              intro vs17 U17 hN17
              have hU17:=hN17.hp 101
              simp only [AObj.uses,go_sem,yz0,xx9,xx8,xx6,xx7,xx5,xx0,xx1,xx2,reduceIte,xx3,xx4,reduceCtorEq] at hU17
              have hold17:=usesL_rwp (rest:=[]) (by rw [List.append_nil];exact hU17.2)
              have hfresh17:∀ p∈ps,p.2=[]∨¬ p.1=vs17 3 0:=fun p hp=>by
                rcases hold17 p hp with h | h
                · exact .inl h
                · exact .inr fun e=>hN17.new 3 0 (e ▸ h)
              simp only [Bz1x,hsn,nat1 j _ hj1 hM3,wpD_kp,yzw,go_sem,yz0,xx9,xx8,xx6,xx7,xx5,xx0,xx1,xx2,reduceIte,xx3,xx4,reduceCtorEq]
              refine ⟨⟨_,rfl,rfl⟩,by rw [List.length_take];omega,?_⟩
              intro vs18 U18 hN18
              exact ⟨(_,j+1),by dsimp only;omega,⟨by dsimp only;omega,hfresh17⟩,rfl⟩
            · rw [heq h1 h2] at hsn
              have hip:=hip h2
              have q2:(((nrm [(next.getD ps.length []).getD a.toNat 0,(next.getD ps.length []).getD b.toNat 0]).length:Int) == 2)=true:=beqT (by rw [hip.2];rfl)
              simp only [Bz1w,Bz1v,Bz1t,rwn_getD hlt2,yzl hya,yzl hyb,q1,q2,wpD_kp,yzw,go_sem,yz0,xx9,xx8,xx6,xx7,xx5,xx0,xx1,xx2,reduceIte,xx3,xx4,reduceCtorEq]
              intro vs14 U14 hN14 vs15 U15 hN15
              refine ⟨⟨by omega,hlt2⟩,hlt2,⟨ha,hya⟩,hya,⟨by omega,hlt2⟩,hlt2,⟨by omega,hyb⟩,hyb,?_⟩
              intro vs16 U16 hN16
              refine yzv (k_IndexFunc (allP n) nz13 [.rp [.ro none 1 (ints (nrm [(next.getD ps.length []).getD a.toNat 0,(next.getD ps.length []).getD b.toNat 0]))] 0] (fun q=>decide (q=nrm [(next.getD ps.length []).getD a.toNat 0,(next.getD ps.length []).getD b.toNat 0])) ⟨by simp only [go_sem,yz0,xx9,xx8,xx6,xx7,xx5,xx0,xx1,xx2,reduceIte,xx3,xx4,reduceCtorEq],by intros;simp only [rowIs,boxIs,coe_argN,coe_argNs,coe_ro_o,coeL_nil,yz11,coe_any,coe_val,coe_ro,yz14,yz16,coe_st,yz17,coe_rp,yz15,coe_clo,coe_own0,coe_ptr0,yz13,coeL_rws,coeL_rwn,L_hit,L_miss,L_nil,xx3,ne_eq,reduceCtorEq,not_false_eq_true,true_and,and_true,and_self,exists_eq_left,exists_eq_right,List.mem_cons,List.not_mem_nil,or_false,AObj.row.injEq,AObj.box.injEq,exists_eq_left',exists_and_left,exists_eq,Nat.zero_lt_one,Nat.lt_add_one,List.map_cons,List.map_nil,AObj.ver,xx5,not_true_eq_false]⟩ (fun q _=>k_PairAutomaton_2 q _)) qCS trivial ?_
              simp only [hip.1,go_sem,yz0,xx9,xx8,xx6,xx7,xx5,xx0,xx1,xx2,reduceIte,xx3,xx4,reduceCtorEq]
              simp only [Bz1u,wpD_kp,yzw,go_sem,yz0,xx9,xx8,xx6,xx7,xx5,xx0,xx1,xx2,reduceIte,xx3,xx4,reduceCtorEq]
              intro vs17 U17 hN17
              have hU17:=hN17.hp 101
              simp only [AObj.uses,go_sem,yz0,xx9,xx8,xx6,xx7,xx5,xx0,xx1,xx2,reduceIte,xx3,xx4,reduceCtorEq] at hU17
              have hold17:=usesL_rwp (rest:=[]) (by rw [List.append_nil];exact hU17.2)
              have hfresh17:∀ p∈ps,p.2=[]∨¬ p.1=vs17 3 0:=fun p hp=>by
                rcases hold17 p hp with h | h
                · exact .inl h
                · exact .inr fun e=>hN17.new 3 0 (e ▸ h)
              simp only [Bz1x,hsn,nat1 j _ hj1 hM3,wpD_kp,yzw,go_sem,yz0,xx9,xx8,xx6,xx7,xx5,xx0,xx1,xx2,reduceIte,xx3,xx4,reduceCtorEq]
              refine ⟨⟨_,rfl,rfl⟩,by rw [List.length_take];omega,?_⟩
              intro vs18 U18 hN18
              exact ⟨(_,j+1),by dsimp only;omega,⟨by dsimp only;omega,hfresh17⟩,rfl⟩
          · rw [hef (fun h=>h1 h.1)] at hsn
            have q1:((out.getD ps.length []).getD a.toNat 0 == (out.getD ps.length []).getD b.toNat 0)=false:=beqF h1
            simp only [Bz1w,Bz1v,Bz1t,rwn_getD hlt2,yzl hya,yzl hyb,q1,wpD_kp,yzw,go_sem,yz0,xx9,xx8,xx6,xx7,xx5,xx0,xx1,xx2,reduceIte,xx3,xx4,reduceCtorEq]
            intro vs14 U14 hN14 vs15 U15 hN15
            refine ⟨⟨by omega,hlt2⟩,hlt2,⟨ha,hya⟩,hya,⟨by omega,hlt2⟩,hlt2,⟨by omega,hyb⟩,hyb,?_⟩
            simp only [Bz1u,wpD_kp,yzw,go_sem,yz0,xx9,xx8,xx6,xx7,xx5,xx0,xx1,xx2,reduceIte,xx3,xx4,reduceCtorEq]
            intro vs17 U17 hN17
            have hU17:=hN17.hp 101
            simp only [AObj.uses,go_sem,yz0,xx9,xx8,xx6,xx7,xx5,xx0,xx1,xx2,reduceIte,xx3,xx4,reduceCtorEq] at hU17
            have hold17:=usesL_rwp (rest:=[]) (by rw [List.append_nil];exact hU17.2)
            have hfresh17:∀ p∈ps,p.2=[]∨¬ p.1=vs17 3 0:=fun p hp=>by
              rcases hold17 p hp with h | h
              · exact .inl h
              · exact .inr fun e=>hN17.new 3 0 (e ▸ h)
            simp only [Bz1x,hsn,nat1 j _ hj1 hM3,wpD_kp,yzw,go_sem,yz0,xx9,xx8,xx6,xx7,xx5,xx0,xx1,xx2,reduceIte,xx3,xx4,reduceCtorEq]
            refine ⟨⟨_,rfl,rfl⟩,by rw [List.length_take];omega,?_⟩
            intro vs18 U18 hN18
            exact ⟨(_,j+1),by dsimp only;omega,⟨by dsimp only;omega,hfresh17⟩,rfl⟩
        · have:j=(allP n).length:=by omega
          subst this
          simp only [Bz1y,Bz5c,Bza9,List.take_length,decide_eq_false hjl,wpD_kp,yzw,go_sem,yz0,xx9,xx8,xx6,xx7,xx5,xx0,xx1,xx2,reduceIte,xx3,xx4,reduceCtorEq]
          intro vs11 U11 hN11 vs12 U12 hN12
          rw [rwp_len]
          have hU12:=hN12.hp 101
          simp only [AObj.uses,go_sem,yz0,xx9,xx8,xx6,xx7,xx5,xx0,xx1,xx2,reduceIte,xx3,xx4,reduceCtorEq] at hU12
          have hold12:=usesL_rwp (rest:=[]) (by rw [List.append_nil];exact hU12.2)
          have hfresh12:∀ p∈ps,p.2=[]∨p.1≠vs12 5 0:=fun p hp=>by
            rcases hold12 p hp with h | h
            · exact .inl h
            · exact .inr fun e=>hN12.new 5 0 (e ▸ h)
          refine ⟨⟨_,rfl,rfl⟩,by omega,by omega,?_⟩
          simp only [Bzac,nat1 _ _ hlt1 hM,rwp_snoc,wpD_kp,yzw,go_sem,yz0,xx9,xx8,xx6,xx7,xx5,xx0,xx1,xx2,reduceIte,xx3,xx4,reduceCtorEq]
          intro vs13 U13 hN13
          refine ⟨(true,v6,vs12 7 0,ps ++ [(vs12 5 0,rowM n (endM n) (next.getD ps.length []) (out.getD ps.length []))]),by dsimp only;rw [List.length_append,List.length_singleton];omega,⟨?_,by dsimp only;rw [List.length_append,List.length_singleton];omega,hp3.snoc hfresh12,by simp⟩,?_⟩
          · dsimp only
            rw [List.map_append,hp1,List.length_append,List.length_singleton,resM_succ];rfl
          · dsimp only
            rw [List.length_append,List.length_singleton]
            rfl
      · have hlen:ps.length=next.length:=by omega
        have hnn:=hp4 (fun e=>by rw [e] at hlen;simp at hlen;omega)
        subst hnn
        rw [hlen] at hp1
        have e1:pairOk n o next out=true:=by simp only [pairOk,hv,Bool.true_and,decide_eq_true he]
        have e2:pairCode n o next out=0:=by simp only [pairCode,hv,if_true,if_pos he]
        simp only [Bz1z,Bz5d,Bzaf,decide_eq_false hlt,Azj,← hQ,wpD_kp,yzw,go_sem,yz0,xx9,xx8,xx6,xx7,xx5,xx0,xx1,xx2,reduceIte,xx3,xx4,reduceCtorEq]
        intro vs7 U7 hN7 vs8 U8 hN8
        refine ⟨[101],by simp,by simp,by simp,?_⟩
        simp only [e1,e2,if_true,range1,List.length_singleton,renL_rwp,Nat.not_lt_zero,range1,yzx,yz10,yz1c,yz1b,yzz,yz19,yz1a,yz18,yzy,yzu,yzi,yz5,yzs,yzt,yzp,yzn,yzq,yzb,yzc,yz8,yz7,yzg,yzh,yz2,yz9,yza,yz6,yzj,yzf,List.range_zero,yz4,yz3,yzd,yzr,yzm,yzo,AVal.fresh,freshL,yz1,yze,AObj.fresh,id,Option.isSome_some,or_true,true_or,go_sem,yz0,xx9,xx8,xx6,xx7,xx5,xx0,xx1,xx2,reduceIte,xx3,xx4,reduceCtorEq]
        exact ⟨fresh_rwp,va,ps,by simp,hp1,hp3,rfl⟩
    · have e1:pairOk n o next out=false:=by simp only [pairOk,hv,Bool.true_and,decide_eq_false he]
      have e2:pairCode n o next out=3:=by simp only [pairCode,hv,if_true,if_neg he]
      have hg:(10:Int)<endM n+1:=by omega
      simp only [hpl,w1,Bz5e,Bz5b,decide_eq_true hg,Azj,← hQ,wpD_kp,yzw,go_sem,yz0,xx9,xx8,xx6,xx7,xx5,xx0,xx1,xx2,reduceIte,xx3,xx4,reduceCtorEq]
      intro vs4 U4 hN4 vs5 U5 hN5
      refine ⟨[],by simp,by simp,by simp,?_⟩
      simp only [e1,e2,Bool.false_eq_true,if_false,Nat.not_lt_zero,range1,yzx,yz10,yz1c,yz1b,yzz,yz19,yz1a,yz18,yzy,yzu,yzi,yz5,yzs,yzt,yzp,yzn,yzq,yzb,yzc,yz8,yz7,yzg,yzh,yz2,yz9,yza,yz6,yzj,yzf,List.range_zero,yz4,yz3,yzd,yzr,yzm,yzo,AVal.fresh,freshL,yz1,yze,AObj.fresh,id,Option.isSome_some,or_true,true_or,go_sem,yz0,xx9,xx8,xx6,xx7,xx5,xx0,xx1,xx2,reduceIte,xx3,xx4,reduceCtorEq]
      try simp
end Go.Ab
