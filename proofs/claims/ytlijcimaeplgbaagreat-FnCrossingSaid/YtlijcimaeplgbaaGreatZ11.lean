/- Contracts and what they lean on, part 11. Conditions: none. -/
import Derived.Test.YtlijcimaeplgbaaGreatZ10
set_option maxRecDepth 100000
set_option maxHeartbeats 4000000
set_option linter.all false
open Nat renaming reduceLeDiff → xx0, reduceMul → xx1, reduceSub → xx2, reduceEqDiff → xx3, reduceAdd → xx4, reduceLT → xx5
open Int renaming reduceToNat → xx6, reduceNeg → xx7, reduceLE → xx8, reduceLT → xx9
namespace Go.Ab
open Go.Proofs
theorem k_a2Has (xs:List Int) (x:Int):Fun Tryz.prog nz14 [.ro none 1 (ints xs),iv x] (bv (xs.contains x)):=by
  refine fun_of mixed czit rfl ⟨rfl,trivial⟩ ?_
  simp only [Az9t,Bz9s,Bz9q,go_sem,yz0,xx9,xx8,xx6,xx7,xx5,xx0,xx1,xx2,reduceIte,xx3,xx4,reduceCtorEq]
  refine wpD_lo (fun i=>xs.length - i) (fun i=>i≤xs.length∧(xs.drop i).contains x=xs.contains x)
    (fun i:Nat=>⟨L .any [(0,.ro none 1 (ints xs)),(1,iv x),(5,iv i)],L .gone []⟩) 0 (by simp) (by simp only [Bz21,go_sem,yz0,xx9,xx8,xx6,xx7,xx5,xx0,xx1,xx2,reduceIte,xx3,xx4,reduceCtorEq];try rfl) ?_
  rintro i ⟨hi,he⟩
  by_cases hlt:(i:Int)<xs.length
  · have hlt1:i<xs.length:=by omega
    rw [drop_getD hlt1 0,List.contains_cons] at he
    simp only [Bz21,Bz4p,Bz4r,yz10 hlt1,decide_eq_true hlt,go_sem,yz0,xx9,xx8,xx6,xx7,xx5,xx0,xx1,xx2,reduceIte,xx3,xx4,reduceCtorEq]
    intro hM
    refine ⟨⟨by omega,hlt1⟩,hlt1,?_⟩
    rw [show (x == xs.getD i 0)=(xs.getD i 0 == x) from Bool.beq_comm] at he
    cases hx:(xs.getD i 0 == x) with
    | true =>
      rw [hx,Bool.true_or] at he
      simp only [Bz4q,← he,go_sem,yz0,xx9,xx8,xx6,xx7,xx5,xx0,xx1,xx2,reduceIte,xx3,xx4,reduceCtorEq]
    | false =>
      rw [hx,Bool.false_or] at he
      simp only [Bz4q,Bz9p,nat1 i _ hlt1 hM,go_sem,yz0,xx9,xx8,xx6,xx7,xx5,xx0,xx1,xx2,reduceIte,xx3,xx4,reduceCtorEq]
      exact ⟨i+1,by omega,⟨by omega,he⟩,rfl⟩
  · have:i=xs.length:=by omega
    subst this
    rw [List.drop_length] at he
    simp only [Bz21,Bz4p,Bz4r,Bz9r,decide_eq_false hlt,go_sem,yz0,xx9,xx8,xx6,xx7,xx5,xx0,xx1,xx2,reduceIte,xx3,xx4,reduceCtorEq]
    intro _
    rw [← he];rfl
theorem k_a2Inside (xs ys:List Int):Fun Tryz.prog nz3l [.ro none 1 (ints xs),.ro none 1 (ints ys)] (bv (xs.all fun x=>ys.contains x)):=by
  refine fun_of mixed cziu rfl ⟨rfl,trivial⟩ ?_
  simp only [Az9y,Bz9x,Bz9v,go_sem,yz0,xx9,xx8,xx6,xx7,xx5,xx0,xx1,xx2,reduceIte,xx3,xx4,reduceCtorEq]
  refine wpD_lo (fun i=>xs.length - i) (fun i=>i≤xs.length∧((xs.drop i).all fun x=>ys.contains x)=xs.all fun x=>ys.contains x)
    (fun i:Nat=>⟨L .any [(0,.ro none 1 (ints xs)),(1,.ro none 1 (ints ys)),(5,iv i)],L .gone []⟩) 0 (by simp) (by simp only [Bz22,go_sem,yz0,xx9,xx8,xx6,xx7,xx5,xx0,xx1,xx2,reduceIte,xx3,xx4,reduceCtorEq];try rfl) ?_
  rintro i ⟨hi,he⟩
  by_cases hlt:(i:Int)<xs.length
  · have hlt1:i<xs.length:=by omega
    rw [drop_getD hlt1 0,List.all_cons] at he
    simp only [Bz22,Bz4s,Bz4u,yz10 hlt1,decide_eq_true hlt,go_sem,yz0,xx9,xx8,xx6,xx7,xx5,xx0,xx1,xx2,reduceIte,xx3,xx4,reduceCtorEq]
    intro hM vs
    refine ⟨⟨by omega,hlt1⟩,hlt1,?_⟩
    refine yzy (k_a2Has ys (xs.getD i 0)) qCS trivial ?_
    cases hx:ys.contains (xs.getD i 0) with
    | false =>
      rw [hx,Bool.false_and] at he
      simp only [Bz4t,Bool.not_false,← he,go_sem,yz0,xx9,xx8,xx6,xx7,xx5,xx0,xx1,xx2,reduceIte,xx3,xx4,reduceCtorEq]
    | true =>
      rw [hx,Bool.true_and] at he
      simp only [Bz4t,Bz9u,Bool.not_true,nat1 i _ hlt1 hM,go_sem,yz0,xx9,xx8,xx6,xx7,xx5,xx0,xx1,xx2,reduceIte,xx3,xx4,reduceCtorEq]
      exact ⟨i+1,by omega,⟨by omega,he⟩,rfl⟩
  · have:i=xs.length:=by omega
    subst this
    rw [List.drop_length] at he
    simp only [Bz22,Bz4s,Bz4u,Bz9w,decide_eq_false hlt,go_sem,yz0,xx9,xx8,xx6,xx7,xx5,xx0,xx1,xx2,reduceIte,xx3,xx4,reduceCtorEq]
    intro _
    rw [← he];rfl
end Go.Ab
namespace Go.Ab
open Go.Proofs
noncomputable def wocF (n:Int) (next words:List (List Int)):List Int:=wocR n next words n.toNat (allS n) []
structure WocI (n:Int) (next words:List (List Int)) (set out:List Int):Prop where
  ws:WS1 n set
  ln:out.length+400 * (set.length - 1)≤4000
  fu:∃ F,set.length≤F∧wocR n next words F set out=wocF n next words
end Go.Ab
namespace Go.Ab
open Go.Proofs
theorem fb_L {l:List (Nat×AVal)} {h:List (Nat×AObj)} {r i q v ver k':Nat} {nn':Bool} {cs cs':List AVal} (hr:L .gone h r=.box v cs) :
    St.fb ⟨L .any l,L .gone h⟩ r i q ver k' nn' cs'=⟨L .any l,L .gone ((r,.box v (cs.set i (.ro (frNm nn' cs'.length ver) k' cs'))) :: (q,.gone) :: h)⟩:=by
  have h2:∀ x,(if x=r then (match L .gone h r with | .box v cs=>AObj.box v (cs.set i (.ro (frNm nn' cs'.length ver) k' cs')) | o=>o) else if x=q then AObj.gone else L .gone h x)=L .gone ((r,.box v (cs.set i (.ro (frNm nn' cs'.length ver) k' cs'))) :: (q,.gone) :: h) x:=fun x=>by
    rw [hr]
    by_cases e:x=r
    · simp [L,e]
    · by_cases e2:x=q <;> simp [L,e,e2,Ne.symm e,eq_comm]
  exact congrArg (St.mk _) (funext h2)
theorem gwp_fb {gs:List GStep} {K:St→Prop} {l:List (Nat×AVal)} {h:List (Nat×AObj)} {r i q v ver k':Nat} {nn':Bool} {cs cs':List AVal} (hr:L .gone h r=.box v cs)
    (hi:cs[i]?=some (.own q ver)) (hqr:q≠r) (hq:L .gone h q=.row ver k' nn' cs') (hk:gwp gs K ⟨L .any l,L .gone ((r,.box v (cs.set i (.ro (frNm nn' cs'.length ver) k' cs'))) :: (q,.gone) :: h)⟩) :
    gwp (.fb r i q :: gs) K ⟨L .any l,L .gone h⟩:=⟨v,cs,ver,k',nn',cs',hr,hi,hqr,hq,by rw [fb_L hr];exact hk⟩
end Go.Ab
namespace Go.Ab
open Go Go.Proofs
theorem k_FnCrossing (code more:List Int) (hb:∀ x∈code,0≤x∧x≤255) (hb2:∀ x∈more,0≤x∧x≤255) :
    Fun Tryz.prog nz7r [.ro (some (some 0)) 1 (intsK .u8 code),.ro (some (some 0)) 1 (intsK .u8 more)] (bv true):=by
  refine fun_of mixed czim rfl ⟨rfl,trivial⟩ ?_
  simp only [Az8j,Bz8i,go_sem,yz0,xx9,xx8,xx6,xx7,xx5,xx0,xx1,xx2,reduceIte,xx3,xx4,reduceCtorEq]
  intro vs
  refine yzy (k_a2Long code more) qCS trivial ?_
  simp only [Bz7s,Bz8h,go_sem,yz0,xx9,xx8,xx6,xx7,xx5,xx0,xx1,xx2,reduceIte,xx3,xx4,reduceCtorEq]
  intro _ vs2
  refine call_sh (k_A2Automaton code hb) qCS (fun e=>by cases e) ?_
  rintro outs rows res ⟨rfl,n,next,v,A,n7,rfl,rfl⟩
  refine ⟨rfl,by simp,by rw [Option.getD_some,yzl];simp only [go_sem,yz0,xx9,xx8,xx6,xx7,xx5,xx0,xx1,xx2,reduceIte,xx3,xx4,reduceCtorEq],?_⟩
  have n1:=A.n1
  have n2:=A.n2
  have hp:=Nat.two_pow_pos n.toNat
  have hN:2 ^ n.toNat≤128:=Nat.pow_le_pow_right (n:=2) (by omega) (show n.toNat≤7 by omega)
  have hFl:2 ^ n.toNat - 1<2 ^ n.toNat:=by omega
  have hM:=maxLen_le
  have hT:TI n.toNat next.length (tourT next (2 ^ n.toNat - 1)):=(runT_ok A 1100 0 _ (TI0 (m:=next.length) hFl)).1
  have hTl:=hT.len
  have e00:((0:Int) != 0)=false:=rfl
  have ez:((0:Int) == 0)=true:=rfl
  obtain ⟨rk1,rk2,rk3⟩:=rank_facts A
  obtain ⟨w0,hw0,he0⟩:=least_word A hFl
  have he0:rankT next n=cntN (imN next (2 ^ n.toNat - 1) w0):=he0
  simp only [Bz8g,wpD_gh,Nat.not_lt_zero,range1,yzv,yz13,yz1e,yz1c,yz12,yz1d,yz1f,yz1b,yz11,yzo,yzf,yz5,yzr,yzp,yzn,yzm,yzt,yzc,yzb,yzd,yza,yzg,yzh,yz3,yz7,yz8,yz9,yzk,yzj,List.range_zero,yz6,yz4,yze,yzs,yzl,yzq,AVal.fresh,freshL,yz1,yzi,AObj.fresh,id,Option.isSome_some,or_true,true_or,go_sem,yz0,xx9,xx8,xx6,xx7,xx5,xx0,xx1,xx2,reduceIte,xx3,xx4,reduceCtorEq]
  intro _
  refine ⟨[.fb 5 1 29],gwp_fb rfl rfl (by simp) rfl ?_⟩
  simp only [gwp_nil,List.set_cons_zero,List.set_cons_succ,go_sem,yz0,xx9,xx8,xx6,xx7,xx5,xx0,xx1,xx2,reduceIte,xx3,xx4,reduceCtorEq]
  intro vs3
  refine call_fun2 (k_RankOf n next A) qCS ?_
  simp only [Bz8f,yz14,dnL_rwn,Nat.not_lt_zero,range1,yzv,yz13,yz1e,yz1c,yz12,yz1d,yz1f,yz1b,yz11,yzo,yzf,yz5,yzr,yzp,yzn,yzm,yzt,yzc,yzb,yzd,yza,yzg,yzh,yz3,yz7,yz8,yz9,yzk,yzj,List.range_zero,yz6,yz4,yze,yzs,yzl,yzq,AVal.fresh,freshL,yz1,yzi,AObj.fresh,id,Option.isSome_some,or_true,true_or,go_sem,yz0,xx9,xx8,xx6,xx7,xx5,xx0,xx1,xx2,reduceIte,xx3,xx4,reduceCtorEq]
  intro vs4
  refine call_sh (k_LeastImages n next A) qCS (fun e=>by cases e) ?_
  rintro outs rows res ⟨rfl,vI,Is,hIp,rfl,rfl⟩
  refine ⟨rfl,by simp,by rw [Option.getD_some,yzl];simp only [go_sem,yz0,xx9,xx8,xx6,xx7,xx5,xx0,xx1,xx2,reduceIte,xx3,xx4,reduceCtorEq],?_⟩
  have hIm:∀ I,I∈Is↔∃ u,IsW next.length u∧cntN (imN next (2 ^ n.toNat - 1) u)=rankT next n∧I=bitsTo (imN next (2 ^ n.toNat - 1) u) 10:=fun I=>by rw [hIp.mem_iff,leastI_mem A]
  have hIl:Is.length≤128:=by
    rw [hIp.length_eq]
    have:=leastI_len (T:=tourT next (2 ^ n.toNat - 1)) (r:=rankT next n) (i:=(tourT next (2 ^ n.toNat - 1)).length)
    rw [List.take_length] at this
    omega
  have hI1:0<Is.length:=List.length_pos_of_mem ((hIm _).2 ⟨w0,hw0,he0.symm,rfl⟩)
  clear hIp
  simp only [Option.getD_some,Bz8e,yz14,dnL_rwn,Nat.not_lt_zero,range1,yzv,yz13,yz1e,yz1c,yz12,yz1d,yz1f,yz1b,yz11,yzo,yzf,yz5,yzr,yzp,yzn,yzm,yzt,yzc,yzb,yzd,yza,yzg,yzh,yz3,yz7,yz8,yz9,yzk,yzj,List.range_zero,yz6,yz4,yze,yzs,yzl,yzq,AVal.fresh,freshL,yz1,yzi,AObj.fresh,id,Option.isSome_some,or_true,true_or,go_sem,yz0,xx9,xx8,xx6,xx7,xx5,xx0,xx1,xx2,reduceIte,xx3,xx4,reduceCtorEq]
  intro vs5
  refine call_sh (k_LeastKernels n next A n7) qCS (fun e=>by cases e) ?_
  rintro outs rows res ⟨rfl,vK,Ks,hKm,hKl,rfl,rfl⟩
  refine ⟨rfl,by simp,by rw [Option.getD_some,yzl];simp only [go_sem,yz0,xx9,xx8,xx6,xx7,xx5,xx0,xx1,xx2,reduceIte,xx3,xx4,reduceCtorEq],?_⟩
  have hK1:0<Ks.length:=List.length_pos_of_mem ((hKm _).2 ⟨w0,hw0,rfl,he0.symm⟩)
  have c1:decide ((Is.length:Int)<1)=false:=by rw [decide_eq_false_iff_not];omega
  have c2:decide ((Ks.length:Int)<1)=false:=by rw [decide_eq_false_iff_not];omega
  simp only [Option.getD_some,Bz8d,e00,c1,c2,yz14,dnL_rwn,Nat.not_lt_zero,range1,yzv,yz13,yz1e,yz1c,yz12,yz1d,yz1f,yz1b,yz11,yzo,yzf,yz5,yzr,yzp,yzn,yzm,yzt,yzc,yzb,yzd,yza,yzg,yzh,yz3,yz7,yz8,yz9,yzk,yzj,List.range_zero,yz6,yz4,yze,yzs,yzl,yzq,AVal.fresh,freshL,yz1,yzi,AObj.fresh,id,Option.isSome_some,or_true,true_or,go_sem,yz0,xx9,xx8,xx6,xx7,xx5,xx0,xx1,xx2,reduceIte,xx3,xx4,reduceCtorEq]
  intro hM1 hM2
  simp only [Bz7t,Bz8c,yz14,dnL_rwn,Nat.not_lt_zero,range1,yzv,yz13,yz1e,yz1c,yz12,yz1d,yz1f,yz1b,yz11,yzo,yzf,yz5,yzr,yzp,yzn,yzm,yzt,yzc,yzb,yzd,yza,yzg,yzh,yz3,yz7,yz8,yz9,yzk,yzj,List.range_zero,yz6,yz4,yze,yzs,yzl,yzq,AVal.fresh,freshL,yz1,yzi,AObj.fresh,id,Option.isSome_some,or_true,true_or,go_sem,yz0,xx9,xx8,xx6,xx7,xx5,xx0,xx1,xx2,reduceIte,xx3,xx4,reduceCtorEq]
  intro vs6 hM3
  refine call_funE (k_a2At more 0 Is.length hb2 (by omega)) qCS ⟨_,0,rfl,by omega,.inr rfl⟩ ?_
  rintro _ ⟨b,rfl,b1,b2⟩
  have hbl:b.toNat<Is.length:=by omega
  simp only [rwn_getD hbl,yz14,dnL_rwn,go_sem,yz0,xx9,xx8,xx6,xx7,xx5,xx0,xx1,xx2,reduceIte,xx3,xx4,reduceCtorEq]
  refine ⟨⟨b1,hbl⟩,hbl,?_⟩
  simp only [Bz8b,yz14,dnL_rwn,Nat.not_lt_zero,range1,yzv,yz13,yz1e,yz1c,yz12,yz1d,yz1f,yz1b,yz11,yzo,yzf,yz5,yzr,yzp,yzn,yzm,yzt,yzc,yzb,yzd,yza,yzg,yzh,yz3,yz7,yz8,yz9,yzk,yzj,List.range_zero,yz6,yz4,yze,yzs,yzl,yzq,AVal.fresh,freshL,yz1,yzi,AObj.fresh,id,Option.isSome_some,or_true,true_or,go_sem,yz0,xx9,xx8,xx6,xx7,xx5,xx0,xx1,xx2,reduceIte,xx3,xx4,reduceCtorEq]
  intro vs7 hM4
  refine call_funE (k_a2At more 1 Ks.length hb2 (by omega)) qCS ⟨_,0,rfl,by omega,.inr rfl⟩ ?_
  rintro _ ⟨c,rfl,c1',c2'⟩
  have hcl:c.toNat<Ks.length:=by omega
  obtain ⟨u,hu,eu,hIu⟩:=(hIm _).1 (yzz hbl [])
  obtain ⟨w1,hw1,hKw,ew⟩:=(hKm _).1 (yzz hcl [])
  obtain ⟨cr1,cr2⟩:=cross A hu hw1 eu ew
  rw [← hIu,← hKw] at cr1 cr2
  have hul:=(imN_bit A u hFl hu).1
  have hIr:∀ a∈Is.getD b.toNat [],0≤a∧a<n:=fun a ha=>by
    rw [hIu,bitsTo_eq,List.mem_map] at ha
    obtain ⟨t,ht,rfl⟩:=ha
    have:=bitsN_lt hul ht
    omega
  have hIn:(Is.getD b.toNat []).Nodup:=by rw [hIu];exact bitsTo_nodup
  have hIlen:(Is.getD b.toNat []).length=rankT next n:=by rw [hIu];exact eu
  have hKlen:(Ks.getD c.toNat []).length=n.toNat:=by rw [hKw,kerA_len]
  have hr10:rankT next n≤10:=by
    have h2:=cntN_le (N:=n.toNat) (by omega) hul
    omega
  simp only [rwn_getD hcl,yz14,dnL_rwn,go_sem,yz0,xx9,xx8,xx6,xx7,xx5,xx0,xx1,xx2,reduceIte,xx3,xx4,reduceCtorEq]
  refine ⟨⟨c1',hcl⟩,hcl,?_⟩
  generalize hIg:Is.getD b.toNat []=I at hIu cr1 cr2 hIr hIn hIlen ⊢
  generalize hKg:Ks.getD c.toNat []=K at hKw cr1 cr2 hKlen ⊢
  have c3:(((I.length:Nat):Int) != (rankT next n:Int))=false:=by rw [hIlen];simp
  have c4:(((K.length:Nat):Int) != n)=false:=by rw [bne_eq_false_iff_eq];omega
  simp only [Bz8a,c3,c4,yz14,dnL_rwn,Nat.not_lt_zero,range1,yzv,yz13,yz1e,yz1c,yz12,yz1d,yz1f,yz1b,yz11,yzo,yzf,yz5,yzr,yzp,yzn,yzm,yzt,yzc,yzb,yzd,yza,yzg,yzh,yz3,yz7,yz8,yz9,yzk,yzj,List.range_zero,yz6,yz4,yze,yzs,yzl,yzq,AVal.fresh,freshL,yz1,yzi,AObj.fresh,id,Option.isSome_some,or_true,true_or,go_sem,yz0,xx9,xx8,xx6,xx7,xx5,xx0,xx1,xx2,reduceIte,xx3,xx4,reduceCtorEq]
  intro hM5 hM6
  simp only [Bz7u,Bz89,yz14,dnL_rwn,Nat.not_lt_zero,range1,yzv,yz13,yz1e,yz1c,yz12,yz1d,yz1f,yz1b,yz11,yzo,yzf,yz5,yzr,yzp,yzn,yzm,yzt,yzc,yzb,yzd,yza,yzg,yzh,yz3,yz7,yz8,yz9,yzk,yzj,List.range_zero,yz6,yz4,yze,yzs,yzl,yzq,AVal.fresh,freshL,yz1,yzi,AObj.fresh,id,Option.isSome_some,or_true,true_or,go_sem,yz0,xx9,xx8,xx6,xx7,xx5,xx0,xx1,xx2,reduceIte,xx3,xx4,reduceCtorEq]
  intro vs8
  simp only [Bz88,Bz7z,yz14,dnL_rwn,Nat.not_lt_zero,range1,yzv,yz13,yz1e,yz1c,yz12,yz1d,yz1f,yz1b,yz11,yzo,yzf,yz5,yzr,yzp,yzn,yzm,yzt,yzc,yzb,yzd,yza,yzg,yzh,yz3,yz7,yz8,yz9,yzk,yzj,List.range_zero,yz6,yz4,yze,yzs,yzl,yzq,AVal.fresh,freshL,yz1,yzi,AObj.fresh,id,Option.isSome_some,or_true,true_or,go_sem,yz0,xx9,xx8,xx6,xx7,xx5,xx0,xx1,xx2,reduceIte,xx3,xx4,reduceCtorEq]
  refine wpD_lo (fun (_,i)=>I.length - i) (fun (_,i)=>i≤I.length)
    (fun ((vm,i):Nat×Nat)=>⟨L .any [(1,.ro (some (some 0)) 1 (intsK .u8 more)),(5,.ptr 5 (vs2 2 0) 0),(8,.own 37 (vs4 1 vI)),(10,.own 42 (vs5 1 vK)),(12,.ro none 1 (ints I)),(13,.ro none 1 (ints K)),(14,.own 90 vm),(15,iv i)],
      L .gone [(5,.box (vs2 2 0) [iv n,.ro (some none) 1 (rws next)]),(37,.row (vs4 1 vI) 1 true (rwn Is)),(42,.row (vs5 1 vK) 1 true (rwn Ks)),(90,.row vm 1 true (ints ((I.take i).map fun a=>K.getD a.toNat 0)))]⟩)
    (_,0) (Nat.zero_le _) (by simp only [Bz1r,List.take_zero,List.map_nil,yz14,dnL_rwn,go_sem,yz0,xx9,xx8,xx6,xx7,xx5,xx0,xx1,xx2,reduceIte,xx3,xx4,reduceCtorEq];try rfl) ?_
  rintro ⟨vm,i⟩ hi
  have hi:i≤I.length:=hi
  by_cases hlt:(i:Int)<I.length
  · have hlt1:i<I.length:=by omega
    have wi:IntKind.i64.wrap ((i:Int)+1)=((i+1:Nat):Int):=by rw [w64 (by omega)];simp
    have ham:=yzz hlt1 (0:Int)
    have har:=hIr _ ham
    have hKi:(I.getD i 0).toNat<K.length:=by omega
    have d1:decide (I.getD i 0<0)=false:=by rw [decide_eq_false_iff_not];omega
    have d2:decide (I.getD i 0 ≥ n)=false:=by rw [decide_eq_false_iff_not];omega
    have hno:((I.take i).map fun a=>K.getD a.toNat 0).contains (K.getD (I.getD i 0).toNat 0)=false:=by
      rw [Bool.eq_false_iff]
      intro h
      rw [List.contains_iff_mem,List.mem_map] at h
      obtain ⟨a,ha,e⟩:=h
      have h1:=cr1 a (List.mem_of_mem_take ha) _ ham e
      obtain ⟨j,hj,rfl⟩:=List.getElem_of_mem ha
      rw [List.length_take] at hj
      rw [List.getElem_take,List.getD_eq_getElem?_getD,List.getElem?_eq_getElem hlt1,Option.getD_some] at h1
      have:=(List.getElem_inj hIn).1 h1
      omega
    have htk:(I.take (i+1)).map (fun a=>K.getD a.toNat 0)=(I.take i).map (fun a=>K.getD a.toNat 0) ++ [K.getD (I.getD i 0).toNat 0]:=by
      rw [List.take_succ_eq_append_getElem hlt1,List.map_append,List.getD_eq_getElem?_getD (l:=I),List.getElem?_eq_getElem hlt1];rfl
    simp only [Bz1r,Bz4c,Bz7y,yz10 hlt1,d1,d2,yz10 hKi,yz14,dnL_rwn,decide_eq_true hlt,Nat.not_lt_zero,range1,yzv,yz13,yz1e,yz1c,yz12,yz1d,yz1f,yz1b,yz11,yzo,yzf,yz5,yzr,yzp,yzn,yzm,yzt,yzc,yzb,yzd,yza,yzg,yzh,yz3,yz7,yz8,yz9,yzk,yzj,List.range_zero,yz6,yz4,yze,yzs,yzl,yzq,AVal.fresh,freshL,yz1,yzi,AObj.fresh,id,Option.isSome_some,or_true,true_or,go_sem,yz0,xx9,xx8,xx6,xx7,xx5,xx0,xx1,xx2,reduceIte,xx3,xx4,reduceCtorEq]
    intro hM7 vs9
    refine ⟨⟨by omega,hlt1⟩,hlt1,⟨by omega,hlt1⟩,hlt1,⟨by omega,hlt1⟩,hlt1,⟨har.1,hKi⟩,hKi,?_⟩
    refine yzy (k_a2Has ((I.take i).map fun a=>K.getD a.toNat 0) (K.getD (I.getD i 0).toNat 0)) qCS trivial ?_
    rw [hno]
    simp only [Bz7v,Bz7w,Bz7x,yz10 hlt1,yz10 hKi,wi,yz14,dnL_rwn,Nat.not_lt_zero,range1,yzv,yz13,yz1e,yz1c,yz12,yz1d,yz1f,yz1b,yz11,yzo,yzf,yz5,yzr,yzp,yzn,yzm,yzt,yzc,yzb,yzd,yza,yzg,yzh,yz3,yz7,yz8,yz9,yzk,yzj,List.range_zero,yz6,yz4,yze,yzs,yzl,yzq,AVal.fresh,freshL,yz1,yzi,AObj.fresh,id,Option.isSome_some,or_true,true_or,go_sem,yz0,xx9,xx8,xx6,xx7,xx5,xx0,xx1,xx2,reduceIte,xx3,xx4,reduceCtorEq]
    intro vs10
    exact ⟨⟨by omega,hlt1⟩,hlt1,⟨har.1,hKi⟩,hKi,⟨_,rfl,rfl⟩,by rw [List.length_take];omega,(vs10 9 0,i+1),by dsimp only;omega,by dsimp only;omega,by dsimp only;rw [htk]⟩
  · obtain rfl:i=I.length:=by omega
    have hins:(K.all fun x=>(I.map fun a=>K.getD a.toNat 0).contains x)=true:=by
      rw [List.all_eq_true]
      intro x hx
      rw [List.contains_iff_mem]
      exact cr2 x hx
    simp only [Bz1r,Bz4c,Bz87,List.take_length,decide_eq_false hlt,yz14,dnL_rwn,Nat.not_lt_zero,range1,yzv,yz13,yz1e,yz1c,yz12,yz1d,yz1f,yz1b,yz11,yzo,yzf,yz5,yzr,yzp,yzn,yzm,yzt,yzc,yzb,yzd,yza,yzg,yzh,yz3,yz7,yz8,yz9,yzk,yzj,List.range_zero,yz6,yz4,yze,yzs,yzl,yzq,AVal.fresh,freshL,yz1,yzi,AObj.fresh,id,Option.isSome_some,or_true,true_or,go_sem,yz0,xx9,xx8,xx6,xx7,xx5,xx0,xx1,xx2,reduceIte,xx3,xx4,reduceCtorEq]
    intro hM7 vs9
    refine yzy (k_a2Inside K (I.map fun a=>K.getD a.toNat 0)) qCS trivial ?_
    rw [hins]
    simp only [Bz80,Bz86,Bool.not_true,yz14,dnL_rwn,Nat.not_lt_zero,range1,yzv,yz13,yz1e,yz1c,yz12,yz1d,yz1f,yz1b,yz11,yzo,yzf,yz5,yzr,yzp,yzn,yzm,yzt,yzc,yzb,yzd,yza,yzg,yzh,yz3,yz7,yz8,yz9,yzk,yzj,List.range_zero,yz6,yz4,yze,yzs,yzl,yzq,AVal.fresh,freshL,yz1,yzi,AObj.fresh,id,Option.isSome_some,or_true,true_or,go_sem,yz0,xx9,xx8,xx6,xx7,xx5,xx0,xx1,xx2,reduceIte,xx3,xx4,reduceCtorEq]
    intro vs10
    refine call_rowI (k_A2Word more n next hb2 A.l1) qCS qGN ⟨[],by simp [IsW8]⟩ ?_
    rintro w vw hw8
    have hw:IsW next.length w:=hw8.2
    have hw4:w.length≤8:=hw8.1
    have hSI:setB n I=true:=setB_iff.2 ⟨by rw [hIu];exact bitsN_SI,hIr⟩
    have hI:=k_ImageOf n next I w
    rw [autB_iff.2 A,hSI,wordB_iff.2 ⟨by omega,hw⟩] at hI
    have himg:=img_set A hul hw
    rw [← hIu,← imN_app] at himg
    rw [himg] at hI
    have huw:IsW next.length (u ++ w):=fun x hx=>by
      rcases List.mem_append.1 hx with h | h
      · exact hu x h
      · exact hw x h
    have hcuw:cntN (imN next (2 ^ n.toNat - 1) (u ++ w))=rankT next n:=by
      have h1:=rk2 (u ++ w) huw
      have h2:=img_le A hul hw
      rw [← imN_app] at h2
      omega
    have hnx:bitsTo (imN next (2 ^ n.toNat - 1) (u ++ w)) 10∈Is:=(hIm _).2 ⟨_,huw,hcuw,rfl⟩
    generalize bitsTo (imN next (2 ^ n.toNat - 1) (u ++ w)) 10=nx at hI hnx
    simp only [Bz85,yz14,dnL_rwn,Nat.not_lt_zero,range1,yzv,yz13,yz1e,yz1c,yz12,yz1d,yz1f,yz1b,yz11,yzo,yzf,yz5,yzr,yzp,yzn,yzm,yzt,yzc,yzb,yzd,yza,yzg,yzh,yz3,yz7,yz8,yz9,yzk,yzj,List.range_zero,yz6,yz4,yze,yzs,yzl,yzq,AVal.fresh,freshL,yz1,yzi,AObj.fresh,id,Option.isSome_some,or_true,true_or,go_sem,yz0,xx9,xx8,xx6,xx7,xx5,xx0,xx1,xx2,reduceIte,xx3,xx4,reduceCtorEq]
    intro vs11
    refine call_rowT hI qCS qGN (fun _ v143=>?_) (fun h=>by cases h)
    simp only [Bz84,codeI,Bool.and_self,if_true,yz14,dnL_rwn,Nat.not_lt_zero,range1,yzv,yz13,yz1e,yz1c,yz12,yz1d,yz1f,yz1b,yz11,yzo,yzf,yz5,yzr,yzp,yzn,yzm,yzt,yzc,yzb,yzd,yza,yzg,yzh,yz3,yz7,yz8,yz9,yzk,yzj,List.range_zero,yz6,yz4,yze,yzs,yzl,yzq,AVal.fresh,freshL,yz1,yzi,AObj.fresh,id,Option.isSome_some,or_true,true_or,go_sem,yz0,xx9,xx8,xx6,xx7,xx5,xx0,xx1,xx2,reduceIte,xx3,xx4,reduceCtorEq]
    obtain ⟨p,hpm,hpe⟩:=(leastT_word A hFl).2
    have hfs:((tourT next (2 ^ n.toNat - 1)).find? fun q=>cntN q.1 == rankT next n).isSome=true:=by
      rw [List.find?_isSome]
      exact ⟨p,hpm,by unfold rankT;rw [hpe];simp⟩
    obtain ⟨q,hq⟩:=Option.isSome_iff_exists.1 hfs
    have hqm:=List.mem_of_find?_eq_some hq
    have hqc:cntN q.1=rankT next n:=by have:=List.find?_some hq;simpa using this
    have hqS:=two_snd (next:=next) (f:=2 ^ n.toNat - 1) q hqm
    have hqw:=hT.wd q hqm
    have hRk:=k_RankWord n next A
    rw [hq] at hRk
    obtain ⟨g,y⟩:=q
    have hy:IsW next.length y:=hqw.1
    have hyl:y.length<(tourT next (2 ^ n.toNat - 1)).length:=hqw.2
    have hyc:cntN (imN next (2 ^ n.toNat - 1) y)=rankT next n:=by
      have h1:g=imN next (2 ^ n.toNat - 1) y:=hqS
      rw [← h1];exact hqc
    intro vs12
    refine call_sh hRk qCS (fun e=>by cases e) ?_
    rintro outs rows res ⟨rfl,rfl,rfl⟩
    refine ⟨rfl,by simp,by simp,?_⟩
    simp only [findR,Bz83,yz14,dnL_rwn,Nat.not_lt_zero,range1,yzv,yz13,yz1e,yz1c,yz12,yz1d,yz1f,yz1b,yz11,yzo,yzf,yz5,yzr,yzp,yzn,yzm,yzt,yzc,yzb,yzd,yza,yzg,yzh,yz3,yz7,yz8,yz9,yzk,yzj,List.range_zero,yz6,yz4,yze,yzs,yzl,yzq,AVal.fresh,freshL,yz1,yzi,AObj.fresh,id,Option.isSome_some,or_true,true_or,go_sem,yz0,xx9,xx8,xx6,xx7,xx5,xx0,xx1,xx2,reduceIte,xx3,xx4,reduceCtorEq]
    intro vs13
    refine call_tupI (k_KernelOf n next A y hy (by omega)) qCS qGN ⟨_,rfl⟩ ?_
    rintro ks1 v154 rfl
    have hk1:kerA n next y∈Ks:=(hKm _).2 ⟨y,hy,rfl,hyc⟩
    have hwy:IsW next.length (w ++ y):=fun x hx=>by
      rcases List.mem_append.1 hx with h | h
      · exact hw x h
      · exact hy x h
    have hwyc:cntN (imN next (2 ^ n.toNat - 1) (w ++ y))=rankT next n:=by
      have h1:=rk2 (w ++ y) hwy
      have hwl:=(imN_bit A w hFl hw).1
      have h2:cntN (imN next (2 ^ n.toNat - 1) (w ++ y))≤cntN (imN next (2 ^ n.toNat - 1) y):=by
        rw [imN_app]
        refine cntN_mono fun t ht=>?_
        obtain ⟨s,hs,e⟩:=((imN_bit A y hwl hy).2 t).1 ht
        exact ((imN_bit A y hFl hy).2 t).2 ⟨s,(all_bits ⟨n1,n2⟩).2 (by have:=bitsN_lt hwl hs;omega),e⟩
      omega
    have hk2:kerA n next (w ++ y)∈Ks:=(hKm _).2 ⟨_,hwy,rfl,hwyc⟩
    have hKO:=k_KernelOf n next A (w ++ y) hwy (by rw [List.length_append];omega)
    generalize kerA n next y=k1 at hk1 ⊢
    generalize kerA n next (w ++ y)=k2 at hk2 hKO
    simp only [Bz82,yz14,dnL_rwn,Nat.not_lt_zero,range1,yzv,yz13,yz1e,yz1c,yz12,yz1d,yz1f,yz1b,yz11,yzo,yzf,yz5,yzr,yzp,yzn,yzm,yzt,yzc,yzb,yzd,yza,yzg,yzh,yz3,yz7,yz8,yz9,yzk,yzj,List.range_zero,yz6,yz4,yze,yzs,yzl,yzq,AVal.fresh,freshL,yz1,yzi,AObj.fresh,id,Option.isSome_some,or_true,true_or,go_sem,yz0,xx9,xx8,xx6,xx7,xx5,xx0,xx1,xx2,reduceIte,xx3,xx4,reduceCtorEq]
    intro vs14
    refine call_rowI (k_a2Both w y (by omega)) qCS qGN ⟨_,rfl⟩ ?_
    rintro wy v161 rfl
    simp only [yz14,dnL_rwn,Nat.not_lt_zero,range1,yzv,yz13,yz1e,yz1c,yz12,yz1d,yz1f,yz1b,yz11,yzo,yzf,yz5,yzr,yzp,yzn,yzm,yzt,yzc,yzb,yzd,yza,yzg,yzh,yz3,yz7,yz8,yz9,yzk,yzj,List.range_zero,yz6,yz4,yze,yzs,yzl,yzq,AVal.fresh,freshL,yz1,yzi,AObj.fresh,id,Option.isSome_some,or_true,true_or,go_sem,yz0,xx9,xx8,xx6,xx7,xx5,xx0,xx1,xx2,reduceIte,xx3,xx4,reduceCtorEq]
    refine call_tupI hKO qCS qGN ⟨_,rfl⟩ ?_
    rintro ks2 v162 rfl
    simp only [Bz81,e00,ez,yz14,dnL_rwn,Nat.not_lt_zero,range1,yzv,yz13,yz1e,yz1c,yz12,yz1d,yz1f,yz1b,yz11,yzo,yzf,yz5,yzr,yzp,yzn,yzm,yzt,yzc,yzb,yzd,yza,yzg,yzh,yz3,yz7,yz8,yz9,yzk,yzj,List.range_zero,yz6,yz4,yze,yzs,yzl,yzq,AVal.fresh,freshL,yz1,yzi,AObj.fresh,id,Option.isSome_some,or_true,true_or,go_sem,yz0,xx9,xx8,xx6,xx7,xx5,xx0,xx1,xx2,reduceIte,xx3,xx4,reduceCtorEq]
    intro vs15
    refine yzy (k_a2HasList Is nx) qCS trivial ?_
    simp only [decide_eq_true hnx,yz14,dnL_rwn,Nat.not_lt_zero,range1,yzv,yz13,yz1e,yz1c,yz12,yz1d,yz1f,yz1b,yz11,yzo,yzf,yz5,yzr,yzp,yzn,yzm,yzt,yzc,yzb,yzd,yza,yzg,yzh,yz3,yz7,yz8,yz9,yzk,yzj,List.range_zero,yz6,yz4,yze,yzs,yzl,yzq,AVal.fresh,freshL,yz1,yzi,AObj.fresh,id,Option.isSome_some,or_true,true_or,go_sem,yz0,xx9,xx8,xx6,xx7,xx5,xx0,xx1,xx2,reduceIte,xx3,xx4,reduceCtorEq]
    refine yzy (k_a2HasList Ks k1) qCS trivial ?_
    simp only [decide_eq_true hk1,yz14,dnL_rwn,Nat.not_lt_zero,range1,yzv,yz13,yz1e,yz1c,yz12,yz1d,yz1f,yz1b,yz11,yzo,yzf,yz5,yzr,yzp,yzn,yzm,yzt,yzc,yzb,yzd,yza,yzg,yzh,yz3,yz7,yz8,yz9,yzk,yzj,List.range_zero,yz6,yz4,yze,yzs,yzl,yzq,AVal.fresh,freshL,yz1,yzi,AObj.fresh,id,Option.isSome_some,or_true,true_or,go_sem,yz0,xx9,xx8,xx6,xx7,xx5,xx0,xx1,xx2,reduceIte,xx3,xx4,reduceCtorEq]
    refine yzy (k_a2HasList Ks ks2) qCS trivial ?_
    simp only [decide_eq_true hk2,yz14,dnL_rwn,Nat.not_lt_zero,range1,yzv,yz13,yz1e,yz1c,yz12,yz1d,yz1f,yz1b,yz11,yzo,yzf,yz5,yzr,yzp,yzn,yzm,yzt,yzc,yzb,yzd,yza,yzg,yzh,yz3,yz7,yz8,yz9,yzk,yzj,List.range_zero,yz6,yz4,yze,yzs,yzl,yzq,AVal.fresh,freshL,yz1,yzi,AObj.fresh,id,Option.isSome_some,or_true,true_or,go_sem,yz0,xx9,xx8,xx6,xx7,xx5,xx0,xx1,xx2,reduceIte,xx3,xx4,reduceCtorEq]
end Go.Ab
