/- Contracts and what they lean on, part 10. Conditions: none. -/
import Derived.Test.YtmopjokkbjlgkaaZ9
set_option maxRecDepth 100000
set_option maxHeartbeats 4000000
set_option linter.all false
open Nat renaming reduceLeDiff → xx0, reduceMul → xx1, reduceSub → xx2, reduceEqDiff → xx3, reduceAdd → xx4, reduceLT → xx5
open Int renaming reduceToNat → xx6, reduceNeg → xx7, reduceLE → xx8, reduceLT → xx9
namespace Go.Ab
open Go.Proofs
theorem actA_rg2 {n:Int} {next:List (List Int)} (A:Aut n next) {w:List Int} (hw:IsW next.length w):((actA n next w).length:Int)=n∧∀ x∈actA n next w,0≤x∧x<n:=by
  have:=A.n1
  refine ⟨by simp [actA];omega,fun x hx=>?_⟩
  simp only [actA,List.mem_map,List.mem_range] at hx
  obtain ⟨s,hs,rfl⟩:=hx
  exact A.at (by omega) hw
def colB (p:Nat→Bool):Nat→Bool
  | 0=>true
  | m+1=>colB p m && p m
theorem colB_iff {p:Nat→Bool}:∀ m:Nat,colB p m=true↔∀ t<m,p t=true
  | 0=>by simp [colB]
  | m+1=>by
    rw [colB,Bool.and_eq_true,colB_iff m]
    constructor
    · rintro ⟨h1,h2⟩ t ht
      by_cases e:t=m
      · rw [e];exact h2
      · exact h1 t (by omega)
    · intro h;exact ⟨fun t ht=>h t (by omega),h m (by omega)⟩
def mgB (next:List (List Int)) (s t:Nat):Bool:=decide (tabE (mergQ next (s:Int) (t:Int)) ≥ 0)
theorem mgB_iff {next:List (List Int)} {s t:Nat}:mgB next s t=(mergQ next (s:Int) (t:Int)).isSome:=by
  unfold mgB
  cases mergQ next (s:Int) (t:Int) with
  | none=>rfl
  | some w=>exact decide_eq_true (Int.natCast_nonneg _)
theorem k_FnMerging (code more:List Int) (hb:∀ x∈code,0≤x∧x≤255) (hb2:∀ x∈more,0≤x∧x≤255) :
    Fun Try.prog nz7q [.ro (some (some 0)) 1 (intsK .u8 code),.ro (some (some 0)) 1 (intsK .u8 more)] (bv true):=by
  refine fun_of mixed czfz rfl ⟨rfl,trivial⟩ ?_
  simp only [Az8a,Bz89,go_sem,yz0,xx9,xx8,xx6,xx7,xx5,xx0,xx1,xx2,reduceIte,xx3,xx4,reduceCtorEq]
  intro vs
  refine yz11 (k_a2Long code more) qCS trivial ?_
  simp only [Bz7r,Bz88,go_sem,yz0,xx9,xx8,xx6,xx7,xx5,xx0,xx1,xx2,reduceIte,xx3,xx4,reduceCtorEq]
  intro _ vs2
  refine call_sh (k_A2Automaton code hb) qCS (fun e=>by cases e) ?_
  rintro outs rows res ⟨rfl,n,next,v,A,n7,rfl,rfl⟩
  refine ⟨rfl,by simp,by rw [Option.getD_some,yzh];simp only [go_sem,yz0,xx9,xx8,xx6,xx7,xx5,xx0,xx1,xx2,reduceIte,xx3,xx4,reduceCtorEq],?_⟩
  have n1:=A.n1
  have n2:=A.n2
  have l1:=A.l1
  have l2:=A.l2
  have e00:((0:Int) != 0)=false:=rfl
  simp only [Bz87,Nat.not_lt_zero,range1,yzx,yz13,ren_ro,rnNm_n,yz12,rnNm_o,rnNm_s,ren_st,yzz,yzr,yzg,yz4,yzv,yzt,yzp,yzo,yzs,yz8,yze,yzc,yzd,yzj,yzl,yz3,yz7,yzb,yza,yzk,yzm,List.range_zero,yz6,yz5,yz9,yzu,yzh,yzq,AVal.fresh,freshL,yz2,yzi,AObj.fresh,id,Option.isSome_some,or_true,true_or,go_sem,yz0,xx9,xx8,xx6,xx7,xx5,xx0,xx1,xx2,reduceIte,xx3,xx4,reduceCtorEq]
  intro vs3
  refine call_fn (k_PairTable n next A) qCS (fun e=>by cases e) ?_
  rintro rows res ⟨v34,rfl,rfl⟩
  refine ⟨by simp,by rw [Option.getD_some,yzh];simp only [go_sem,yz0,xx9,xx8,xx6,xx7,xx5,xx0,xx1,xx2,reduceIte,xx3,xx4,reduceCtorEq],?_⟩
  simp only [Option.getD_some,Bz86,Nat.not_lt_zero,range1,yzx,yz13,ren_ro,rnNm_n,yz12,rnNm_o,rnNm_s,ren_st,yzz,yzr,yzg,yz4,yzv,yzt,yzp,yzo,yzs,yz8,yze,yzc,yzd,yzj,yzl,yz3,yz7,yzb,yza,yzk,yzm,List.range_zero,yz6,yz5,yz9,yzu,yzh,yzq,AVal.fresh,freshL,yz2,yzi,AObj.fresh,id,Option.isSome_some,or_true,true_or,go_sem,yz0,xx9,xx8,xx6,xx7,xx5,xx0,xx1,xx2,reduceIte,xx3,xx4,reduceCtorEq]
  intro vs4
  have hC:=k_CanReset n next A
  have hcan:=tour_can A
  generalize (firstT (tourT next (2 ^ n.toNat - 1))).isSome=can at hC hcan
  refine call_fun2 hC qCS ?_
  simp only [Bz85,go_sem,yz0,xx9,xx8,xx6,xx7,xx5,xx0,xx1,xx2,reduceIte,xx3,xx4,reduceCtorEq]
  intro vs5
  refine call_steG (R:=fun rows res=>∃ v us ys,StD n next us∧TidP us ys∧ys.length=us.length∧rows=[.row v 1 true (ints ys)]∧res=.tup [.own 6000 v,iv 0]) (k_StableDivision n next A) rfl qCS rfl qCS ?_
  rintro rows res ⟨v44,us,cl,S0,T0,hl0,rfl,rfl⟩
  refine ⟨by simp,by rw [yzh];rfl,?_⟩
  rw [callHp_mr (by omega)]
  simp only [List.length_singleton,Bz84,Nat.not_lt_zero,range1,yzx,yz13,ren_ro,rnNm_n,yz12,rnNm_o,rnNm_s,ren_st,yzz,yzr,yzg,yz4,yzv,yzt,yzp,yzo,yzs,yz8,yze,yzc,yzd,yzj,yzl,yz3,yz7,yzb,yza,yzk,yzm,List.range_zero,yz6,yz5,yz9,yzu,yzh,yzq,AVal.fresh,freshL,yz2,yzi,AObj.fresh,id,Option.isSome_some,or_true,true_or,go_sem,yz0,xx9,xx8,xx6,xx7,xx5,xx0,xx1,xx2,reduceIte,xx3,xx4,reduceCtorEq]
  generalize hf:sv (L .gone _) [31] (vs5 1)=f
  have hf0:f 0=vs2 1 v:=by rw [← hf];rfl
  rw [hf0]
  have S:=S0.tid T0 hl0
  have hd:=S0.div T0 hl0
  have hcl:=S.ln
  have hcc:=can_class A S hd
  have hci:=can_iff A
  intro vs6
  refine call_steG (R:=fun rows res=>∃ v,rows=[.row v 1 true (rws (pairsL n (stabQ next)))]∧res=.tup [.own 6000 v,iv 0]) (k_StablePairs n next A) rfl qCS rfl qCS ?_
  rintro rows res ⟨v49,rfl,rfl⟩
  refine ⟨by simp,by rw [yzh];rfl,?_⟩
  rw [callHp_mr (by omega)]
  have htl:=tabL_len (next:=next) (n:=n.toNat) (i:=n.toNat)
  have htn:(((tabL next n.toNat n.toNat).length:Int) != n)=false:=by rw [htl,show ((n.toNat:Nat):Int)=n by omega];exact bne_self_eq_false _
  have hcn:((cl.length:Int) != n)=false:=by rw [hcl];exact bne_self_eq_false _
  simp only [List.length_singleton,e00,htn,hcn,Bz83,Bz7s,Bz82,Bz81,Bz80,Bz7z,Bz7v,Nat.not_lt_zero,range1,yzx,yz13,ren_ro,rnNm_n,yz12,rnNm_o,rnNm_s,ren_st,yzz,yzr,yzg,yz4,yzv,yzt,yzp,yzo,yzs,yz8,yze,yzc,yzd,yzj,yzl,yz3,yz7,yzb,yza,yzk,yzm,List.range_zero,yz6,yz5,yz9,yzu,yzh,yzq,AVal.fresh,freshL,yz2,yzi,AObj.fresh,id,Option.isSome_some,or_true,true_or,go_sem,yz0,xx9,xx8,xx6,xx7,xx5,xx0,xx1,xx2,reduceIte,xx3,xx4,reduceCtorEq]
  generalize hg:sv (L .gone _) [31] (vs6 1)=g
  have hg0:g 0=vs2 1 v:=by rw [← hg];rfl
  rw [hg0]
  intro hM1 hM2
  refine wpD_lo (fun ((_,_,i,_):Bool×Bool×Nat×Nat)=>n.toNat - i) (fun ((b,a,i,c):Bool×Bool×Nat×Nat)=>(i:Int)≤n∧b=colB (fun s=>cl.getD s 0 == 0) i∧a=colB (fun s=>colB (mgB next s) s) i∧c=cntA (stabQ next) i)
    (fun ((b,a,i,c):Bool×Bool×Nat×Nat)=>⟨L .any [(1,.ro (some (some 0)) 1 (intsK .u8 more)),(5,.ptr 5 (vs2 2 0) 0),(6,.own 34 (vs3 1 v34)),(8,bv can),(10,.own 44 (f v44)),(12,.own 49 (g v49)),(14,bv a),(15,bv b),(16,iv c),(17,iv i)],
      L .gone [(5,.box (vs2 2 0) [iv n,.own 31 (vs2 1 v)]),(31,.row (vs2 1 v) 1 true (rwn next)),(34,.row (vs3 1 v34) 1 true (rws (tabL next n.toNat n.toNat))),(44,.row (f v44) 1 true (ints cl)),(49,.row (g v49) 1 true (rws (pairsL n (stabQ next))))]⟩)
    (true,true,0,0) ⟨by omega,rfl,rfl,rfl⟩ (by simp only [Bz1x,dnL_rwn,go_sem,yz0,xx9,xx8,xx6,xx7,xx5,xx0,xx1,xx2,reduceIte,xx3,xx4,reduceCtorEq];try rfl) ?_
  rintro ⟨b,a,i,c⟩ ⟨hi,rfl,rfl,rfl⟩
  have hi:(i:Int)≤n:=hi
  by_cases hlt:(i:Int)<n
  · have hti:i<(tabL next n.toNat n.toNat).length:=by rw [htl];omega
    have htg:(tabL next n.toNat n.toNat).getD i []=tabW next (i:Int) n.toNat:=tabL_getD (by omega)
    have hic:i<cl.length:=by omega
    have wi:IntKind.i64.wrap ((i:Int)+1)=((i+1:Nat):Int):=by rw [w64 (by omega)];simp
    have hwn:(((tabW next (i:Int) n.toNat).length:Int) != n)=false:=by rw [tabW_len,show ((n.toNat:Nat):Int)=n by omega];exact bne_self_eq_false _
    have hsb:colB (fun s=>cl.getD s 0 == 0) (i+1)=(colB (fun s=>cl.getD s 0 == 0) i && (cl.getD i 0 == 0)):=rfl
    simp only [Bz1x,Bz45,Bz7u,Bz7t,rws_getD hti,htg,hwn,decide_eq_true hlt,dnL_rwn,go_sem,yz0,xx9,xx8,xx6,xx7,xx5,xx0,xx1,xx2,reduceIte,xx3,xx4,reduceCtorEq]
    cases hsg:colB (fun s=>cl.getD s 0 == 0) i with
    | false =>
      rw [hsg] at hsb
      simp only [Bz48,Bz47,Bz46,hsg,dnL_rwn,go_sem,yz0,xx9,xx8,xx6,xx7,xx5,xx0,xx1,xx2,reduceIte,xx3,xx4,reduceCtorEq]
      refine ⟨⟨by omega,hti⟩,hti,?_⟩
      refine wpD_lo (fun ((_,_,j,_):Bool×Bool×Nat×Nat)=>i - j) (fun ((b',a',j,c'):Bool×Bool×Nat×Nat)=>j≤i∧b'=colB (fun s=>cl.getD s 0 == 0) (i+1)∧a'=(colB (fun s=>colB (mgB next s) s) i && colB (mgB next i) j)∧c'=cntA (stabQ next) i+colC (stabQ next) i j)
        (fun ((b',a',j,c'):Bool×Bool×Nat×Nat)=>⟨L .any [(1,.ro (some (some 0)) 1 (intsK .u8 more)),(5,.ptr 5 (vs2 2 0) 0),(6,.own 34 (vs3 1 v34)),(8,bv can),(10,.own 44 (f v44)),(12,.own 49 (g v49)),(14,bv a'),(15,bv b'),(16,iv c'),(17,iv i),(18,iv j)],
          L .gone [(5,.box (vs2 2 0) [iv n,.own 31 (vs2 1 v)]),(31,.row (vs2 1 v) 1 true (rwn next)),(34,.row (vs3 1 v34) 1 true (rws (tabL next n.toNat n.toNat))),(44,.row (f v44) 1 true (ints cl)),(49,.row (g v49) 1 true (rws (pairsL n (stabQ next))))]⟩)
        (false,colB (fun s=>colB (mgB next s) s) i,0,cntA (stabQ next) i) ⟨by omega,by rw [hsb];rfl,by simp [colB],by simp [colC]⟩ (by simp only [Bz1,dnL_rwn,go_sem,yz0,xx9,xx8,xx6,xx7,xx5,xx0,xx1,xx2,reduceIte,xx3,xx4,reduceCtorEq];try rfl) ?_
      rintro ⟨b',a',j,c'⟩ ⟨hj,hb',ha',hc'⟩
      have hj:j≤i:=hj
      have hc':c'=cntA (stabQ next) i+colC (stabQ next) i j:=hc'
      by_cases hlj:(j:Int)<i
      · have hlj1:j<i:=by omega
        have hjc:j<cl.length:=by omega
        have wj:IntKind.i64.wrap ((j:Int)+1)=((j+1:Nat):Int):=by rw [w64 (by omega)];simp
        have hcj:=colC_le (p:=stabQ next) (b:=i) j
        have hci2:=cntA_le (p:=stabQ next) i
        have hii:i * i≤10 * 10:=Nat.mul_le_mul (by omega) (by omega)
        have wc:IntKind.i64.wrap ((c':Int)+1)=((c'+1:Nat):Int):=by rw [w64 (by omega)];simp
        have hcs:colC (stabQ next) i (j+1)=colC (stabQ next) i j+if stabQ next (j:Int) (i:Int)=true then 1 else 0:=rfl
        have has:colB (mgB next i) (j+1)=(colB (mgB next i) j && mgB next i j):=rfl
        have hjw:j<(tabW next (i:Int) n.toNat).length:=by rw [tabW_len];omega
        have htj:(tabW next (i:Int) n.toNat).getD j 0=tabE (mergQ next (i:Int) (j:Int)):=tabW_getD (by omega)
        have hmj:decide (tabE (mergQ next (i:Int) (j:Int)) ≥ 0)=mgB next i j:=rfl
        have hsq:stabQ next (j:Int) (i:Int)=true↔cl.getD i 0=cl.getD j 0:=by
          rw [stab_iff A (by omega) (by omega),S.eq i j (by omega) (by omega)]
          exact ⟨StabP.symm,StabP.symm⟩
        cases a' with
        | false =>
          by_cases hcl2:cl.getD i 0=cl.getD j 0
          · have hq2:(cl.getD i 0 == cl.getD j 0)=true:=beqT hcl2
            rw [if_pos (hsq.2 hcl2)] at hcs
            simp only [Bz1,Bz4,Bzb,Bz9,Bz8,Bza,decide_eq_true hlj,yzf hic,yzf hjc,hq2,wj,wc,dnL_rwn,go_sem,yz0,xx9,xx8,xx6,xx7,xx5,xx0,xx1,xx2,reduceIte,xx3,xx4,reduceCtorEq]
            exact ⟨⟨by omega,hic⟩,hic,⟨by omega,hjc⟩,hjc,(b',false,j+1,c'+1),by dsimp only;omega,⟨by dsimp only;omega,hb',by rw [has,← Bool.and_assoc,← ha'];rfl,by dsimp only;omega⟩,rfl⟩
          · have hq2:(cl.getD i 0 == cl.getD j 0)=false:=beqF hcl2
            rw [if_neg (fun h=>hcl2 (hsq.1 h))] at hcs
            simp only [Bz1,Bz4,Bzb,Bz9,Bz8,Bza,decide_eq_true hlj,yzf hic,yzf hjc,hq2,wj,dnL_rwn,go_sem,yz0,xx9,xx8,xx6,xx7,xx5,xx0,xx1,xx2,reduceIte,xx3,xx4,reduceCtorEq]
            exact ⟨⟨by omega,hic⟩,hic,⟨by omega,hjc⟩,hjc,(b',false,j+1,c'),by dsimp only;omega,⟨by dsimp only;omega,hb',by rw [has,← Bool.and_assoc,← ha'];rfl,by dsimp only;omega⟩,rfl⟩
        | true =>
          by_cases hcl2:cl.getD i 0=cl.getD j 0
          · have hq2:(cl.getD i 0 == cl.getD j 0)=true:=beqT hcl2
            rw [if_pos (hsq.2 hcl2)] at hcs
            simp only [Bz1,Bz4,Bzb,Bz9,Bz8,Bza,decide_eq_true hlj,rws_getD hti,htg,yzf hjw,htj,hmj,yzf hic,yzf hjc,hq2,wj,wc,dnL_rwn,go_sem,yz0,xx9,xx8,xx6,xx7,xx5,xx0,xx1,xx2,reduceIte,xx3,xx4,reduceCtorEq]
            exact ⟨⟨by omega,hti⟩,hti,⟨by omega,hjw⟩,hjw,⟨by omega,hic⟩,hic,⟨by omega,hjc⟩,hjc,(b',mgB next i j,j+1,c'+1),by dsimp only;omega,⟨by dsimp only;omega,hb',by rw [has,← Bool.and_assoc,← ha'];rfl,by dsimp only;omega⟩,rfl⟩
          · have hq2:(cl.getD i 0 == cl.getD j 0)=false:=beqF hcl2
            rw [if_neg (fun h=>hcl2 (hsq.1 h))] at hcs
            simp only [Bz1,Bz4,Bzb,Bz9,Bz8,Bza,decide_eq_true hlj,rws_getD hti,htg,yzf hjw,htj,hmj,yzf hic,yzf hjc,hq2,wj,dnL_rwn,go_sem,yz0,xx9,xx8,xx6,xx7,xx5,xx0,xx1,xx2,reduceIte,xx3,xx4,reduceCtorEq]
            exact ⟨⟨by omega,hti⟩,hti,⟨by omega,hjw⟩,hjw,⟨by omega,hic⟩,hic,⟨by omega,hjc⟩,hjc,(b',mgB next i j,j+1,c'),by dsimp only;omega,⟨by dsimp only;omega,hb',by rw [has,← Bool.and_assoc,← ha'];rfl,by dsimp only;omega⟩,rfl⟩
      · obtain rfl:j=i:=by omega
        simp only [Bz1,Bz4,Bz49,decide_eq_false hlj,wi,dnL_rwn,go_sem,yz0,xx9,xx8,xx6,xx7,xx5,xx0,xx1,xx2,reduceIte,xx3,xx4,reduceCtorEq]
        exact ⟨(b',a',j+1,c'),by dsimp only;omega,⟨by dsimp only;omega,hb',ha',hc'⟩,rfl⟩
    | true =>
      rw [hsg] at hsb
      simp only [Bz48,Bz47,Bz46,hsg,yzf hic,dnL_rwn,go_sem,yz0,xx9,xx8,xx6,xx7,xx5,xx0,xx1,xx2,reduceIte,xx3,xx4,reduceCtorEq]
      refine ⟨⟨by omega,hti⟩,hti,⟨by omega,hic⟩,hic,?_⟩
      refine wpD_lo (fun ((_,_,j,_):Bool×Bool×Nat×Nat)=>i - j) (fun ((b',a',j,c'):Bool×Bool×Nat×Nat)=>j≤i∧b'=colB (fun s=>cl.getD s 0 == 0) (i+1)∧a'=(colB (fun s=>colB (mgB next s) s) i && colB (mgB next i) j)∧c'=cntA (stabQ next) i+colC (stabQ next) i j)
        (fun ((b',a',j,c'):Bool×Bool×Nat×Nat)=>⟨L .any [(1,.ro (some (some 0)) 1 (intsK .u8 more)),(5,.ptr 5 (vs2 2 0) 0),(6,.own 34 (vs3 1 v34)),(8,bv can),(10,.own 44 (f v44)),(12,.own 49 (g v49)),(14,bv a'),(15,bv b'),(16,iv c'),(17,iv i),(18,iv j)],
          L .gone [(5,.box (vs2 2 0) [iv n,.own 31 (vs2 1 v)]),(31,.row (vs2 1 v) 1 true (rwn next)),(34,.row (vs3 1 v34) 1 true (rws (tabL next n.toNat n.toNat))),(44,.row (f v44) 1 true (ints cl)),(49,.row (g v49) 1 true (rws (pairsL n (stabQ next))))]⟩)
        ((cl.getD i 0 == 0),colB (fun s=>colB (mgB next s) s) i,0,cntA (stabQ next) i) ⟨by omega,by rw [hsb];rfl,by simp [colB],by simp [colC]⟩ (by simp only [Bz1,dnL_rwn,go_sem,yz0,xx9,xx8,xx6,xx7,xx5,xx0,xx1,xx2,reduceIte,xx3,xx4,reduceCtorEq];try rfl) ?_
      rintro ⟨b',a',j,c'⟩ ⟨hj,hb',ha',hc'⟩
      have hj:j≤i:=hj
      have hc':c'=cntA (stabQ next) i+colC (stabQ next) i j:=hc'
      by_cases hlj:(j:Int)<i
      · have hlj1:j<i:=by omega
        have hjc:j<cl.length:=by omega
        have wj:IntKind.i64.wrap ((j:Int)+1)=((j+1:Nat):Int):=by rw [w64 (by omega)];simp
        have hcj:=colC_le (p:=stabQ next) (b:=i) j
        have hci2:=cntA_le (p:=stabQ next) i
        have hii:i * i≤10 * 10:=Nat.mul_le_mul (by omega) (by omega)
        have wc:IntKind.i64.wrap ((c':Int)+1)=((c'+1:Nat):Int):=by rw [w64 (by omega)];simp
        have hcs:colC (stabQ next) i (j+1)=colC (stabQ next) i j+if stabQ next (j:Int) (i:Int)=true then 1 else 0:=rfl
        have has:colB (mgB next i) (j+1)=(colB (mgB next i) j && mgB next i j):=rfl
        have hjw:j<(tabW next (i:Int) n.toNat).length:=by rw [tabW_len];omega
        have htj:(tabW next (i:Int) n.toNat).getD j 0=tabE (mergQ next (i:Int) (j:Int)):=tabW_getD (by omega)
        have hmj:decide (tabE (mergQ next (i:Int) (j:Int)) ≥ 0)=mgB next i j:=rfl
        have hsq:stabQ next (j:Int) (i:Int)=true↔cl.getD i 0=cl.getD j 0:=by
          rw [stab_iff A (by omega) (by omega),S.eq i j (by omega) (by omega)]
          exact ⟨StabP.symm,StabP.symm⟩
        cases a' with
        | false =>
          by_cases hcl2:cl.getD i 0=cl.getD j 0
          · have hq2:(cl.getD i 0 == cl.getD j 0)=true:=beqT hcl2
            rw [if_pos (hsq.2 hcl2)] at hcs
            simp only [Bz1,Bz4,Bzb,Bz9,Bz8,Bza,decide_eq_true hlj,yzf hic,yzf hjc,hq2,wj,wc,dnL_rwn,go_sem,yz0,xx9,xx8,xx6,xx7,xx5,xx0,xx1,xx2,reduceIte,xx3,xx4,reduceCtorEq]
            exact ⟨⟨by omega,hic⟩,hic,⟨by omega,hjc⟩,hjc,(b',false,j+1,c'+1),by dsimp only;omega,⟨by dsimp only;omega,hb',by rw [has,← Bool.and_assoc,← ha'];rfl,by dsimp only;omega⟩,rfl⟩
          · have hq2:(cl.getD i 0 == cl.getD j 0)=false:=beqF hcl2
            rw [if_neg (fun h=>hcl2 (hsq.1 h))] at hcs
            simp only [Bz1,Bz4,Bzb,Bz9,Bz8,Bza,decide_eq_true hlj,yzf hic,yzf hjc,hq2,wj,dnL_rwn,go_sem,yz0,xx9,xx8,xx6,xx7,xx5,xx0,xx1,xx2,reduceIte,xx3,xx4,reduceCtorEq]
            exact ⟨⟨by omega,hic⟩,hic,⟨by omega,hjc⟩,hjc,(b',false,j+1,c'),by dsimp only;omega,⟨by dsimp only;omega,hb',by rw [has,← Bool.and_assoc,← ha'];rfl,by dsimp only;omega⟩,rfl⟩
        | true =>
          by_cases hcl2:cl.getD i 0=cl.getD j 0
          · have hq2:(cl.getD i 0 == cl.getD j 0)=true:=beqT hcl2
            rw [if_pos (hsq.2 hcl2)] at hcs
            simp only [Bz1,Bz4,Bzb,Bz9,Bz8,Bza,decide_eq_true hlj,rws_getD hti,htg,yzf hjw,htj,hmj,yzf hic,yzf hjc,hq2,wj,wc,dnL_rwn,go_sem,yz0,xx9,xx8,xx6,xx7,xx5,xx0,xx1,xx2,reduceIte,xx3,xx4,reduceCtorEq]
            exact ⟨⟨by omega,hti⟩,hti,⟨by omega,hjw⟩,hjw,⟨by omega,hic⟩,hic,⟨by omega,hjc⟩,hjc,(b',mgB next i j,j+1,c'+1),by dsimp only;omega,⟨by dsimp only;omega,hb',by rw [has,← Bool.and_assoc,← ha'];rfl,by dsimp only;omega⟩,rfl⟩
          · have hq2:(cl.getD i 0 == cl.getD j 0)=false:=beqF hcl2
            rw [if_neg (fun h=>hcl2 (hsq.1 h))] at hcs
            simp only [Bz1,Bz4,Bzb,Bz9,Bz8,Bza,decide_eq_true hlj,rws_getD hti,htg,yzf hjw,htj,hmj,yzf hic,yzf hjc,hq2,wj,dnL_rwn,go_sem,yz0,xx9,xx8,xx6,xx7,xx5,xx0,xx1,xx2,reduceIte,xx3,xx4,reduceCtorEq]
            exact ⟨⟨by omega,hti⟩,hti,⟨by omega,hjw⟩,hjw,⟨by omega,hic⟩,hic,⟨by omega,hjc⟩,hjc,(b',mgB next i j,j+1,c'),by dsimp only;omega,⟨by dsimp only;omega,hb',by rw [has,← Bool.and_assoc,← ha'];rfl,by dsimp only;omega⟩,rfl⟩
      · obtain rfl:j=i:=by omega
        simp only [Bz1,Bz4,Bz49,decide_eq_false hlj,wi,dnL_rwn,go_sem,yz0,xx9,xx8,xx6,xx7,xx5,xx0,xx1,xx2,reduceIte,xx3,xx4,reduceCtorEq]
        exact ⟨(b',a',j+1,c'),by dsimp only;omega,⟨by dsimp only;omega,hb',ha',hc'⟩,rfl⟩
  · obtain rfl:i=n.toNat:=by omega
    simp only [Bz1x,Bz45,Bz7y,decide_eq_false hlt,dnL_rwn,go_sem,yz0,xx9,xx8,xx6,xx7,xx5,xx0,xx1,xx2,reduceIte,xx3,xx4,reduceCtorEq]
    have hall:colB (fun s=>colB (mgB next s) s) n.toNat=can:=by
      rw [Bool.eq_iff_iff,hcan,hci,colB_iff]
      constructor
      · intro h s t hs ht
        have:=(colB_iff _).1 (h s (by omega)) t ht
        rw [mgB_iff] at this;exact this
      · intro h s hs
        exact (colB_iff _).2 fun t ht=>by rw [mgB_iff];exact h s t (by omega) ht
    have hsin:colB (fun s=>cl.getD s 0 == 0) n.toNat=can:=by
      rw [Bool.eq_iff_iff,hcan,hcc,colB_iff]
      constructor
      · intro h s hs
        have:=h s (by omega)
        exact beq_iff_eq.1 this
      · intro h s hs
        exact beq_iff_eq.2 (h s (by omega))
    have hcnt:cntA (stabQ next) n.toNat=(pairsL n (stabQ next)).length:=by
      have:=pairs_cnt (p:=stabQ next) n.toNat
      rw [show ((n.toNat:Nat):Int)=n by omega] at this
      exact this.symm
    rw [hall,hsin,hcnt]
    have hPl:(pairsL n (stabQ next)).length≤100:=pairsL_len ⟨n1,n2⟩
    generalize pairsL n (stabQ next)=P at hPl
    clear hall hsin hcnt hcc hci hcl hd S S0 T0 hl0 hcn
    intro vs7
    refine call_funE (k_a2At more 0 n hb2 (by omega)) qCS ⟨_,0,rfl,by omega,.inr rfl⟩ ?_
    rintro _ ⟨s,rfl,s1,s2⟩
    simp only [Bz7x,dnL_rwn,go_sem,yz0,xx9,xx8,xx6,xx7,xx5,xx0,xx1,xx2,reduceIte,xx3,xx4,reduceCtorEq]
    intro vs8
    refine call_funE (k_a2At more 1 n hb2 (by omega)) qCS ⟨_,0,rfl,by omega,.inr rfl⟩ ?_
    rintro _ ⟨t,rfl,t1,t2⟩
    have hs:0≤s∧s<n:=by omega
    have ht:0≤t∧t<n:=by omega
    simp only [Bz7w,dnL_rwn,go_sem,yz0,xx9,xx8,xx6,xx7,xx5,xx0,xx1,xx2,reduceIte,xx3,xx4,reduceCtorEq]
    intro vs9
    refine call_steG (R:=fun rows res=>rows=[]∧res=mergR next s t) (k_MergingWord n next A s t hs ht) rfl qCS rfl qCS ?_
    rintro rows res ⟨rfl,rfl⟩
    refine ⟨by simp,by simp,?_⟩
    rw [callHp_m]
    generalize hh:sv (L .gone _) [31] (vs9 3)=h
    have hh0:h 0=vs2 1 v:=by rw [← hh];rfl
    unfold mergR
    have es:((s.toNat:Nat):Int)=s:=by omega
    have et:((t.toNat:Nat):Int)=t:=by omega
    have tb1:∀ x:Int,0≤x∧x<n→x.toNat<(tabL next n.toNat n.toNat).length:=fun x hx=>by rw [htl];omega
    have tb2:∀ x:Int,0≤x∧x<n→(tabL next n.toNat n.toNat).getD x.toNat []=tabW next x n.toNat:=fun x hx=>by
      rw [tabL_getD (by omega),show ((x.toNat:Nat):Int)=x by omega]
    have tb3:∀ x y:Int,0≤y∧y<n→y.toNat<(tabW next x n.toNat).length:=fun x y hy=>by rw [tabW_len];omega
    have tb4:∀ x y:Int,0≤y∧y<n→(tabW next x n.toNat).getD y.toNat 0=tabE (mergQ next x y):=fun x y hy=>by
      rw [tabW_getD (by omega),show ((y.toNat:Nat):Int)=y by omega]
    have lead:∀ x:Int,0≤x∧x<next.length→∀ u,mergQ next ((next.getD x.toNat []).getD s.toNat 0) ((next.getD x.toNat []).getD t.toNat 0)=some u→∃ w,mergQ next s t=some w∧w.length≤u.length+1:=fun x hx u hu=>by
      have hr:=A.row _ (yzy (show x.toNat<next.length by omega) [])
      have r1:=hr.2 _ (yzy (show s.toNat<(next.getD x.toNat []).length by omega) 0)
      have r2:=hr.2 _ (yzy (show t.toNat<(next.getD x.toNat []).length by omega) 0)
      obtain ⟨h1,h2,_⟩:=merg_some A r1 r2 hu
      have hw:IsW next.length (x :: u):=fun y hy=>by
        rcases List.mem_cons.1 hy with rfl | hy
        · exact hx
        · exact h1 y hy
      have he:atA next s (x :: u)=atA next t (x :: u):=h2
      have:=(merg_iff A hs ht).2 ⟨_,hw,he⟩
      obtain ⟨w,hw2⟩:=Option.isSome_iff_exists.1 this
      exact ⟨w,hw2,merg_le A hs ht hw2 hw he⟩
    have ts1:=rws_getD (tb1 s hs)
    rw [tb2 s hs] at ts1
    have tt1:=rws_getD (tb1 t ht)
    rw [tb2 t ht] at tt1
    have st1:=yzf (k:=.i64) (tb3 s t ht)
    rw [tb4 s t ht] at st1
    have tu1:=yzf (k:=.i64) (tb3 t s hs)
    rw [tb4 t s hs,mergQ_comm t s] at tu1
    cases hq:mergQ next s t with
    | some w =>
      simp only [hh0,optC,Option.isSome_some,if_true,Bz4d,dnL_rwn,Nat.not_lt_zero,range1,yzx,yz13,ren_ro,rnNm_n,yz12,rnNm_o,rnNm_s,ren_st,yzz,yzr,yzg,yz4,yzv,yzt,yzp,yzo,yzs,yz8,yze,yzc,yzd,yzj,yzl,yz3,yz7,yzb,yza,yzk,yzm,List.range_zero,yz6,yz5,yz9,yzu,yzh,yzq,AVal.fresh,freshL,yz2,yzi,AObj.fresh,id,Option.isSome_some,or_true,true_or,go_sem,yz0,xx9,xx8,xx6,xx7,xx5,xx0,xx1,xx2,reduceIte,xx3,xx4,reduceCtorEq]
      intro hM3 vs10
      refine call_funE (k_a2At more 2 next.length hb2 (by omega)) qCS ⟨_,0,rfl,by omega,.inr rfl⟩ ?_
      rintro _ ⟨x,rfl,x1,x2⟩
      have hx:0≤x∧x<next.length:=by omega
      have hxl:x.toNat<next.length:=by omega
      have hr:=A.row _ (yzy hxl [])
      have hgx:=rwn_getD hxl
      have lead:=lead x hx
      generalize next.getD x.toNat []=row at hr hgx lead
      have hsr:s.toNat<row.length:=by omega
      have htr:t.toNat<row.length:=by omega
      have r1:=hr.2 _ (yzy hsr 0)
      have r2:=hr.2 _ (yzy htr 0)
      have gs:=yzf (k:=.i64) hsr
      have gt:=yzf (k:=.i64) htr
      generalize row.getD s.toNat 0=p at r1 gs lead
      generalize row.getD t.toNat 0=q at r2 gt lead
      have tp1:=rws_getD (tb1 p r1)
      rw [tb2 p r1] at tp1
      have pq1:=yzf (k:=.i64) (tb3 p q r2)
      rw [tb4 p q r2] at pq1
      simp only [Bz4c,hgx,gs,gt,tp1,pq1,dnL_rwn,go_sem,yz0,xx9,xx8,xx6,xx7,xx5,xx0,xx1,xx2,reduceIte,xx3,xx4,reduceCtorEq]
      refine ⟨⟨hx.1,hxl⟩,hxl,⟨hs.1,hsr⟩,hsr,⟨r1.1,tb1 p r1⟩,tb1 p r1,⟨hx.1,hxl⟩,hxl,⟨ht.1,htr⟩,htr,⟨r2.1,tb3 p q r2⟩,tb3 p q r2,?_⟩
      rw [hq] at st1 tu1
      have ew:tabE (some w)=(w.length:Int):=rfl
      rw [ew] at st1 tu1
      obtain ⟨hwI,hwe,hwl⟩:=merg_some A hs ht hq
      have hpw:2 ^ n.toNat≤2 ^ 7:=Nat.pow_le_pow_right (by omega) (by omega)
      have e01:((0:Int) == 0)=true:=rfl
      have hw0:decide ((w.length:Int) ≥ 0)=true:=decide_eq_true (by omega)
      have hw1:decide ((w.length:Int)<0)=false:=decide_eq_false (by omega)
      cases hn:mergQ next p q with
      | none =>
        have hN0:decide (tabE none ≥ 0)=false:=rfl
        simp only [e01,hw0,Bz22,Bz1y,Bz21,Bz1z,ts1,tt1,st1,tu1,hN0,bne_self_eq_false,dnL_rwn,go_sem,yz0,xx9,xx8,xx6,xx7,xx5,xx0,xx1,xx2,reduceIte,xx3,xx4,reduceCtorEq]
        refine ⟨⟨hs.1,tb1 s hs⟩,tb1 s hs,⟨ht.1,tb3 s t ht⟩,tb3 s t ht,⟨hs.1,tb1 s hs⟩,tb1 s hs,⟨ht.1,tb3 s t ht⟩,tb3 s t ht,⟨ht.1,tb1 t ht⟩,tb1 t ht,⟨hs.1,tb3 t s hs⟩,tb3 t s hs,?_⟩
        intro vs11
        refine call_tupI (k_ActionOf n next w A hwI (by omega)) qCS qWS ⟨_,rfl⟩ ?_
        rintro xs v229 hxs
        have xa:=actA_rg2 A hwI
        rw [← hxs] at xa
        have hxs1:xs.getD s.toNat 0=atA next s w:=by
          have:=actA_getD (n:=n) (next:=next) (w:=w) (i:=s.toNat) (by omega)
          rw [hxs,this,es]
        have hxt1:xs.getD t.toNat 0=atA next t w:=by
          have:=actA_getD (n:=n) (next:=next) (w:=w) (i:=t.toNat) (by omega)
          rw [hxs,this,et]
        have hxe:(xs.getD s.toNat 0 != xs.getD t.toNat 0)=false:=by rw [hxs1,hxt1,hwe];exact bne_self_eq_false _
        have hsx:s.toNat<xs.length:=by omega
        have htx:t.toNat<xs.length:=by omega
        clear hxs
        simp only [e00,Bz4b,dnL_rwn,go_sem,yz0,xx9,xx8,xx6,xx7,xx5,xx0,xx1,xx2,reduceIte,xx3,xx4,reduceCtorEq]
        intro vs12
        refine yz11 (k_a2Map xs n xa.2 xa.1) qCS trivial ?_
        simp only [Bool.not_true,yzf hsx,yzf htx,hxe,ts1,st1,bne_self_eq_false,Bz4a,Bz20,dnL_rwn,go_sem,yz0,xx9,xx8,xx6,xx7,xx5,xx0,xx1,xx2,reduceIte,xx3,xx4,reduceCtorEq]
        exact ⟨⟨hs.1,hsx⟩,hsx,⟨ht.1,htx⟩,htx,⟨hs.1,tb1 s hs⟩,tb1 s hs,⟨ht.1,tb3 s t ht⟩,tb3 s t ht⟩
      | some u =>
        obtain ⟨w',hw',hle⟩:=lead u hn
        rw [hq] at hw'
        obtain rfl:w=w':=Option.some.inj hw'
        have hul:=(merg_some A r1 r2 hn).2.2
        have hN0:decide ((u.length:Int) ≥ 0)=true:=decide_eq_true (by omega)
        have wu:IntKind.i64.wrap ((u.length:Int)+1)=(u.length:Int)+1:=by rw [w64 (by omega)]
        have hN1:decide ((w.length:Int) > (u.length:Int)+1)=false:=decide_eq_false (by omega)
        have eu:tabE (some u)=(u.length:Int):=rfl
        rw [eu]
        simp only [e01,hw0,hw1,Bz22,Bz1y,Bz21,Bz1z,ts1,tt1,st1,tu1,hN0,wu,hN1,bne_self_eq_false,dnL_rwn,go_sem,yz0,xx9,xx8,xx6,xx7,xx5,xx0,xx1,xx2,reduceIte,xx3,xx4,reduceCtorEq]
        refine ⟨⟨hs.1,tb1 s hs⟩,tb1 s hs,⟨ht.1,tb3 s t ht⟩,tb3 s t ht,⟨hs.1,tb1 s hs⟩,tb1 s hs,⟨ht.1,tb3 s t ht⟩,tb3 s t ht,⟨ht.1,tb1 t ht⟩,tb1 t ht,⟨hs.1,tb3 t s hs⟩,tb3 t s hs,⟨hs.1,tb1 s hs⟩,tb1 s hs,⟨ht.1,tb3 s t ht⟩,tb3 s t ht,⟨hs.1,tb1 s hs⟩,tb1 s hs,⟨ht.1,tb3 s t ht⟩,tb3 s t ht,?_⟩
        intro vs11
        refine call_tupI (k_ActionOf n next w A hwI (by omega)) qCS qWS ⟨_,rfl⟩ ?_
        rintro xs v229 hxs
        have xa:=actA_rg2 A hwI
        rw [← hxs] at xa
        have hxs1:xs.getD s.toNat 0=atA next s w:=by
          have:=actA_getD (n:=n) (next:=next) (w:=w) (i:=s.toNat) (by omega)
          rw [hxs,this,es]
        have hxt1:xs.getD t.toNat 0=atA next t w:=by
          have:=actA_getD (n:=n) (next:=next) (w:=w) (i:=t.toNat) (by omega)
          rw [hxs,this,et]
        have hxe:(xs.getD s.toNat 0 != xs.getD t.toNat 0)=false:=by rw [hxs1,hxt1,hwe];exact bne_self_eq_false _
        have hsx:s.toNat<xs.length:=by omega
        have htx:t.toNat<xs.length:=by omega
        clear hxs
        simp only [e00,Bz4b,dnL_rwn,go_sem,yz0,xx9,xx8,xx6,xx7,xx5,xx0,xx1,xx2,reduceIte,xx3,xx4,reduceCtorEq]
        intro vs12
        refine yz11 (k_a2Map xs n xa.2 xa.1) qCS trivial ?_
        simp only [Bool.not_true,yzf hsx,yzf htx,hxe,ts1,st1,bne_self_eq_false,Bz4a,Bz20,dnL_rwn,go_sem,yz0,xx9,xx8,xx6,xx7,xx5,xx0,xx1,xx2,reduceIte,xx3,xx4,reduceCtorEq]
        exact ⟨⟨hs.1,hsx⟩,hsx,⟨ht.1,htx⟩,htx,⟨hs.1,tb1 s hs⟩,tb1 s hs,⟨ht.1,tb3 s t ht⟩,tb3 s t ht⟩
    | none =>
      simp only [hh0,optC,Option.isSome_none,Bz4d,dnL_rwn,Nat.not_lt_zero,range1,yzx,yz13,ren_ro,rnNm_n,yz12,rnNm_o,rnNm_s,ren_st,yzz,yzr,yzg,yz4,yzv,yzt,yzp,yzo,yzs,yz8,yze,yzc,yzd,yzj,yzl,yz3,yz7,yzb,yza,yzk,yzm,List.range_zero,yz6,yz5,yz9,yzu,yzh,yzq,AVal.fresh,freshL,yz2,yzi,AObj.fresh,id,Option.isSome_some,or_true,true_or,go_sem,yz0,xx9,xx8,xx6,xx7,xx5,xx0,xx1,xx2,reduceIte,xx3,xx4,reduceCtorEq]
      intro vs10 hM3
      refine call_funE (k_a2At more 2 next.length hb2 (by omega)) qCS ⟨_,0,rfl,by omega,.inr rfl⟩ ?_
      rintro _ ⟨x,rfl,x1,x2⟩
      have hx:0≤x∧x<next.length:=by omega
      have hxl:x.toNat<next.length:=by omega
      have hr:=A.row _ (yzy hxl [])
      have hgx:=rwn_getD hxl
      have lead:=lead x hx
      generalize next.getD x.toNat []=row at hr hgx lead
      have hsr:s.toNat<row.length:=by omega
      have htr:t.toNat<row.length:=by omega
      have r1:=hr.2 _ (yzy hsr 0)
      have r2:=hr.2 _ (yzy htr 0)
      have gs:=yzf (k:=.i64) hsr
      have gt:=yzf (k:=.i64) htr
      generalize row.getD s.toNat 0=p at r1 gs lead
      generalize row.getD t.toNat 0=q at r2 gt lead
      have tp1:=rws_getD (tb1 p r1)
      rw [tb2 p r1] at tp1
      have pq1:=yzf (k:=.i64) (tb3 p q r2)
      rw [tb4 p q r2] at pq1
      have hn:mergQ next p q=none:=by
        cases hn:mergQ next p q with
        | none=>rfl
        | some u =>
          obtain ⟨w,hw,_⟩:=lead u hn
          rw [hq] at hw;cases hw
      rw [hn] at pq1
      rw [hq] at st1 tu1
      have e61:((6:Int) == 0)=false:=rfl
      have hN0:decide (tabE none ≥ 0)=false:=rfl
      simp only [Bz4c,hgx,gs,gt,tp1,pq1,dnL_rwn,go_sem,yz0,xx9,xx8,xx6,xx7,xx5,xx0,xx1,xx2,reduceIte,xx3,xx4,reduceCtorEq]
      refine ⟨⟨hx.1,hxl⟩,hxl,⟨hs.1,hsr⟩,hsr,⟨r1.1,tb1 p r1⟩,tb1 p r1,⟨hx.1,hxl⟩,hxl,⟨ht.1,htr⟩,htr,⟨r2.1,tb3 p q r2⟩,tb3 p q r2,?_⟩
      simp only [e61,hN0,Bz22,Bz1y,Bz21,Bz1z,Bz20,ts1,tt1,st1,tu1,bne_self_eq_false,dnL_rwn,go_sem,yz0,xx9,xx8,xx6,xx7,xx5,xx0,xx1,xx2,reduceIte,xx3,xx4,reduceCtorEq]
      exact ⟨⟨hs.1,tb1 s hs⟩,tb1 s hs,⟨ht.1,tb3 s t ht⟩,tb3 s t ht,⟨hs.1,tb1 s hs⟩,tb1 s hs,⟨ht.1,tb3 s t ht⟩,tb3 s t ht,⟨ht.1,tb1 t ht⟩,tb1 t ht,⟨hs.1,tb3 t s hs⟩,tb3 t s hs⟩
end Go.Ab
