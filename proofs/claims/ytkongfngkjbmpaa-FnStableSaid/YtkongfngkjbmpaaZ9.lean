/- Contracts and what they lean on, part 9. Conditions: none. -/
import Derived.Test.YtkongfngkjbmpaaZ8
set_option maxRecDepth 100000
set_option maxHeartbeats 4000000
set_option linter.all false
open Nat renaming reduceLeDiff → xx0, reduceMul → xx1, reduceSub → xx2, reduceEqDiff → xx3, reduceAdd → xx4, reduceLT → xx5
open Int renaming reduceToNat → xx6, reduceNeg → xx7, reduceLE → xx8, reduceLT → xx9
namespace Go.Ab
open Go.Proofs
theorem k_a2Map (xs:List Int) (n:Int) (h:∀ x∈xs,0≤x∧x<n) (hl:(xs.length:Int)=n):Fun Try.prog nz2z [.ro none 1 (ints xs),iv n] (bv true):=by
  refine fun_of mixed czjx rfl ⟨rfl,trivial⟩ ?_
  simp only [Aza0,Bz9z,Bz9x,go_sem,yz0,xx9,xx8,xx6,xx7,xx5,xx0,xx1,xx2,reduceIte,xx3,xx4,reduceCtorEq]
  refine wpD_lo (fun i=>xs.length - i) (fun i=>i≤xs.length)
    (fun (i:Nat)=>⟨L .any [(0,.ro none 1 (ints xs)),(1,iv n),(5,iv i)],L .gone []⟩)
    0 (by simp) (by simp only [Bz18,go_sem,yz0,xx9,xx8,xx6,xx7,xx5,xx0,xx1,xx2,reduceIte,xx3,xx4,reduceCtorEq];try rfl) ?_
  intro i hi
  by_cases hlt:(i:Int)<xs.length
  · have hlt1:i<xs.length:=by omega
    have hx:=h _ (yz6 hlt1 0)
    have g1:¬ xs.getD i 0<0:=by omega
    have g2:¬ xs.getD i 0 ≥ n:=by omega
    simp only [Bz18,Bz4a,Bz9w,yz1 hlt1,decide_eq_true hlt,decide_eq_false g1,decide_eq_false g2,go_sem,yz0,xx9,xx8,xx6,xx7,xx5,xx0,xx1,xx2,reduceIte,xx3,xx4,reduceCtorEq]
    intro hM
    refine ⟨⟨by omega,hlt1⟩,hlt1,⟨by omega,hlt1⟩,hlt1,?_⟩
    simp only [Bz9u,Bz9v,nat1 i _ hlt1 hM,go_sem,yz0,xx9,xx8,xx6,xx7,xx5,xx0,xx1,xx2,reduceIte,xx3,xx4,reduceCtorEq]
    exact ⟨i+1,by omega,by omega,rfl⟩
  · have e1:((xs.length:Int) == n)=true:=by rw [hl];simp
    simp only [Bz18,Bz4a,Bz9y,e1,decide_eq_false hlt,go_sem,yz0,xx9,xx8,xx6,xx7,xx5,xx0,xx1,xx2,reduceIte,xx3,xx4,reduceCtorEq]
end Go.Ab
namespace Go.Ab
open Go.Proofs
theorem actA_rg2 {n:Int} {next:List (List Int)} (A:Aut n next) {w:List Int} (hw:IsW next.length w):((actA n next w).length:Int)=n∧∀ x∈actA n next w,0≤x∧x<n:=by
  have:=A.n1
  refine ⟨by simp [actA];omega,fun x hx=>?_⟩
  simp only [actA,List.mem_map,List.mem_range] at hx
  obtain ⟨s,hs,rfl⟩:=hx
  exact A.at (by omega) hw
theorem quo_stab {n k:Int} {next:List (List Int)} (A:Aut n next) {cl:List Int} (D:Div cl n k) (S:StD n next cl) {c d:Int} (hc:0≤c∧c<k) (hd:0≤d∧d<k) (h:StabP (quoL cl k.toNat next) c d):c=d:=by
  have C:=S.cong A
  have hln:=D.ln
  have hql:(quoL cl k.toNat next).length=next.length:=by simp [quoL]
  obtain ⟨_,g2,g3⟩:=fst_ok (D.on c hc.1 hc.2)
  obtain ⟨_,f2,f3⟩:=fst_ok (D.on d hd.1 hd.2)
  have hst:StabP next (fstI cl c:Int) (fstI cl d:Int):=fun w hw=>by
    obtain ⟨v,hv,e⟩:=h w (by rw [hql];exact hw)
    rw [hql] at hv
    have q1:=quo_at A D C w (s:=(fstI cl c:Int)) (by omega) hw
    have q2:=quo_at A D C w (s:=(fstI cl d:Int)) (by omega) hw
    rw [Int.toNat_natCast,g3] at q1
    rw [Int.toNat_natCast,f3] at q2
    have a0:=A.at (s:=(fstI cl c:Int)) (w:=w) (by omega) hw
    have a1:=A.at (s:=(fstI cl d:Int)) (w:=w) (by omega) hw
    generalize atA next (fstI cl c:Int) w=p at q1 a0
    generalize atA next (fstI cl d:Int) w=q at q2 a1
    have r1:=quo_at A D C v a0 hv
    have r2:=quo_at A D C v a1 hv
    rw [q1,q2,r1,r2] at e
    have b0:=A.at a0 hv
    have b1:=A.at a1 hv
    have h2:=(S.eq _ _ (by omega) (by omega)).1 e
    rw [show (((atA next p v).toNat:Nat):Int)=atA next p v by omega,show (((atA next q v).toNat:Nat):Int)=atA next q v by omega] at h2
    obtain ⟨x,hx,ex⟩:=h2 [] isw_nil
    exact ⟨v ++ x,isw_app hv hx,by rw [atA_app,atA_app];exact ex⟩
  have h3:=(S.eq _ _ (by omega) (by omega)).2 hst
  rw [g3,f3] at h3
  exact h3
theorem quo_pairs {n k:Int} {next:List (List Int)} (A:Aut n next) {cl:List Int} (D:Div cl n k) (S:StD n next cl) (hk:1≤k):pairsL k (stabQ (quoL cl k.toNat next))=[]:=by
  have Q:=quo_aut A D
  apply List.eq_nil_iff_forall_not_mem.2
  intro x hx
  obtain ⟨a,b,ha,hab,hb,hst,_⟩:=(pairsL_mem (by omega)).1 hx
  have:=quo_stab A D S (c:=a) (d:=b) (by omega) (by omega) ((stab_iff Q (by omega) (by omega)).1 hst)
  omega
theorem k_FnStable (code more:List Int) (hb:∀ x∈code,0≤x∧x≤255) (hb2:∀ x∈more,0≤x∧x≤255) :
    Fun Try.prog nz83 [.ro (some (some 0)) 1 (intsK .u8 code),.ro (some (some 0)) 1 (intsK .u8 more)] (bv true):=by
  refine fun_of mixed czjq rfl ⟨rfl,trivial⟩ ?_
  simp only [Az8o,Bz8n,go_sem,yz0,xx9,xx8,xx6,xx7,xx5,xx0,xx1,xx2,reduceIte,xx3,xx4,reduceCtorEq]
  intro vs
  refine yzo (k_a2Long code more) qCS trivial ?_
  simp only [Bz84,Bz8m,go_sem,yz0,xx9,xx8,xx6,xx7,xx5,xx0,xx1,xx2,reduceIte,xx3,xx4,reduceCtorEq]
  intro _ vs2
  refine call_fn (k_A2Alike code hb) (by simp only [coe_argN,rowIs,boxIs,coe_argN,coe_argNs,coe_ro_o,coeL_nil,yzt,coe_any,coe_val,coe_ro,coe_ro_nil,coe_ro_own,coe_st,coe_st_agg,coe_rp,coe_rp_ptr,coe_clo,coe_own0,coe_ptr0,yzy,coeL_rws,coeL_rwn,L_hit,L_miss,L_nil,xx3,ne_eq,reduceCtorEq,not_false_eq_true,true_and,and_true,and_self,exists_eq_left,exists_eq_right,List.mem_cons,List.not_mem_nil,or_false,AObj.row.injEq,AObj.box.injEq,exists_eq_left',exists_and_left,exists_eq,Nat.zero_lt_one,Nat.lt_add_one,List.map_cons,List.map_nil,AObj.ver,xx5,not_true_eq_false]) (fun e=>by cases e) ?_
  rintro rows res ⟨n,next,clo,v,w,A,n6,hd,hc,rfl,rfl⟩
  refine ⟨by simp,by rw [Option.getD_some,yzq];simp only [go_sem,yz0,xx9,xx8,xx6,xx7,xx5,xx0,xx1,xx2,reduceIte,xx3,xx4,reduceCtorEq],?_⟩
  have n1:=A.n1
  have n2:=A.n2
  have l2:=A.l2
  clear hd hc
  have e00:((0:Int) != 0)=false:=rfl
  simp only [Option.getD_some,Bz8l,Nat.not_lt_zero,range1,yz10,ren_any,ren_ro,rnNm_n,rnNm_sn,rnNm_o,rnNm_s,ren_st,ren_tup,yzs,yzh,yz7,yzw,yzv,yzr,yzp,yzu,yz8,yzb,yza,yze,yzn,yzl,yz3,yzf,yz9,yzd,yzk,yzm,List.range_zero,yz5,yz4,yzc,yzx,yzi,yzq,AVal.fresh,freshL,yz2,yzj,AObj.fresh,id,Option.isSome_some,or_true,true_or,go_sem,yz0,xx9,xx8,xx6,xx7,xx5,xx0,xx1,xx2,reduceIte,xx3,xx4,reduceCtorEq]
  intro vs3
  refine call_rowI (k_A2Word more n next hb2 A.l1) qCS qWS ⟨[],by simp [IsW8]⟩ ?_
  rintro u v32 hu8
  have hu:IsW next.length u:=hu8.2
  have hu4:u.length≤400:=by have:=hu8.1;omega
  simp only [Bz8k,go_sem,yz0,xx9,xx8,xx6,xx7,xx5,xx0,xx1,xx2,reduceIte,xx3,xx4,reduceCtorEq]
  intro vs4
  refine call_steG (R:=fun rows res=>∃ v us ys,StD n next us∧TidP us ys∧ys.length=us.length∧rows=[.row v 1 true (ints ys)]∧res=.tup [.own 6000 v,iv 0]) (k_StableDivision n next A) rfl qCS rfl qCS ?_
  rintro rows res ⟨v35,us,cl,S0,T0,hl0,rfl,rfl⟩
  refine ⟨by simp,by rw [yzi];rfl,?_⟩
  rw [callHp_mr (by omega)]
  simp only [List.length_singleton,Bz8j,Nat.not_lt_zero,range1,yz10,ren_any,ren_ro,rnNm_n,rnNm_sn,rnNm_o,rnNm_s,ren_st,ren_tup,yzs,yzh,yz7,yzw,yzv,yzr,yzp,yzu,yz8,yzb,yza,yze,yzn,yzl,yz3,yzf,yz9,yzd,yzk,yzm,List.range_zero,yz5,yz4,yzc,yzx,yzi,yzq,AVal.fresh,freshL,yz2,yzj,AObj.fresh,id,Option.isSome_some,or_true,true_or,go_sem,yz0,xx9,xx8,xx6,xx7,xx5,xx0,xx1,xx2,reduceIte,xx3,xx4,reduceCtorEq]
  generalize hf:sv (L .gone _) [27] (vs4 1)=f
  have hf0:f 0=vs2 1 v:=by rw [← hf];rfl
  rw [hf0]
  have S:=S0.tid T0 hl0
  have hd:=S0.div T0 hl0
  have hc:=S.cong A
  have D:=Div.of hd
  generalize hk:usedS 0 cl=k at D
  have hk1:=D.pos n1
  have hkn:=D.le
  have hcl:=D.ln
  have Q:=quo_aut A D
  have hbc:congB next cl=true:=congB_t hc
  have hqp:=quo_pairs A D S hk1
  intro vs5
  refine call_tupI (k_ActionOf n next u A hu hu4) qCS qWS ⟨_,rfl⟩ ?_
  rintro xs v41 hxs
  have xa:=actA_rg2 A hu
  rw [← hxs] at xa
  have hx1:∀ i:Nat,(i:Int)<n→xs.getD i 0=atA next i u:=fun i h=>by rw [hxs];exact actA_getD h
  clear hxs
  simp only [Bz8i,dnL_rwn,go_sem,yz0,xx9,xx8,xx6,xx7,xx5,xx0,xx1,xx2,reduceIte,xx3,xx4,reduceCtorEq]
  intro vs6
  refine call_fn (k_specStableDivision n next A ⟨cl,us,S0,T0,hl0⟩) qCS (fun e=>by cases e) ?_
  rintro rows res ⟨v46,us',want,S',T',hl',rfl,rfl⟩
  refine ⟨by simp,by rw [Option.getD_some,yzi];simp only [go_sem,yz0,xx9,xx8,xx6,xx7,xx5,xx0,xx1,xx2,reduceIte,xx3,xx4,reduceCtorEq],?_⟩
  obtain rfl:=S0.uniq T0 hl0 S' T' hl'
  simp only [Option.getD_some,e00,Bz8h,dnL_rwn,Nat.not_lt_zero,range1,yz10,ren_any,ren_ro,rnNm_n,rnNm_sn,rnNm_o,rnNm_s,ren_st,ren_tup,yzs,yzh,yz7,yzw,yzv,yzr,yzp,yzu,yz8,yzb,yza,yze,yzn,yzl,yz3,yzf,yz9,yzd,yzk,yzm,List.range_zero,yz5,yz4,yzc,yzx,yzi,yzq,AVal.fresh,freshL,yz2,yzj,AObj.fresh,id,Option.isSome_some,or_true,true_or,go_sem,yz0,xx9,xx8,xx6,xx7,xx5,xx0,xx1,xx2,reduceIte,xx3,xx4,reduceCtorEq]
  intro vs7
  refine yzo (k_a2Same cl cl) qCS trivial ?_
  have hcc:decide (cl=cl)=true:=decide_eq_true rfl
  simp only [hcc,Bool.not_true,go_sem,yz0,xx9,xx8,xx6,xx7,xx5,xx0,xx1,xx2,reduceIte,xx3,xx4,reduceCtorEq]
  refine yzo (k_a2Map xs n xa.2 xa.1) qCS trivial ?_
  simp only [Bool.not_true,Bz85,Bz8g,dnL_rwn,go_sem,yz0,xx9,xx8,xx6,xx7,xx5,xx0,xx1,xx2,reduceIte,xx3,xx4,reduceCtorEq]
  intro vs8
  have hC1:=k_IsCongruence n next cl A hd
  rw [hbc] at hC1
  refine call_fun2 hC1 qCS ?_
  simp only [Bz8f,dnL_rwn,go_sem,yz0,xx9,xx8,xx6,xx7,xx5,xx0,xx1,xx2,reduceIte,xx3,xx4,reduceCtorEq]
  intro vs9
  refine call_fn (k_QuotientOf n k next cl A hd D hc) qCS (fun e=>by cases e) ?_
  rintro rows res ⟨v77,rfl,rfl⟩
  refine ⟨by simp,by rw [Option.getD_some,yzi];simp only [go_sem,yz0,xx9,xx8,xx6,xx7,xx5,xx0,xx1,xx2,reduceIte,xx3,xx4,reduceCtorEq],?_⟩
  simp only [Option.getD_some,e00,Bool.not_true,Bz8e,Bz86,Bz8d,Bz8a,dnL_rwn,Nat.not_lt_zero,range1,yz10,ren_any,ren_ro,rnNm_n,rnNm_sn,rnNm_o,rnNm_s,ren_st,ren_tup,yzs,yzh,yz7,yzw,yzv,yzr,yzp,yzu,yz8,yzb,yza,yze,yzn,yzl,yz3,yzf,yz9,yzd,yzk,yzm,List.range_zero,yz5,yz4,yzc,yzx,yzi,yzq,AVal.fresh,freshL,yz2,yzj,AObj.fresh,id,Option.isSome_some,or_true,true_or,go_sem,yz0,xx9,xx8,xx6,xx7,xx5,xx0,xx1,xx2,reduceIte,xx3,xx4,reduceCtorEq]
  refine wpD_lo (fun i=>cl.length - i) (fun i=>i≤cl.length)
    (fun (i:Nat)=>⟨L .any [(8,.own 35 (f v35)),(10,.own 41 v41),(16,.ptr 16 (vs9 6 0) 0),(18,iv i)],
      L .gone [(5,.box (vs2 5 0) [iv n,.own 27 (vs2 1 v)]),(16,.box (vs9 6 0) [iv k,.own 77 (vs9 2 v77)]),(27,.row (vs2 1 v) 1 true (rwn next)),(32,.row v32 1 true (ints u)),(35,.row (f v35) 1 true (ints cl)),(41,.row v41 1 true (ints xs)),(77,.row (vs9 2 v77) 1 true (rws (quoL cl k.toNat next))),(1027,.row (vs2 1 w) 1 true (ints clo))]⟩)
    0 (by simp) (by simp only [Bz15,dnL_rws,dnL_rwn,go_sem,yz0,xx9,xx8,xx6,xx7,xx5,xx0,xx1,xx2,reduceIte,xx3,xx4,reduceCtorEq];try rfl) ?_
  intro i hi
  by_cases hil:(i:Int)<cl.length
  · have hic:i<cl.length:=by omega
    have hix:i<xs.length:=by omega
    have hxi:=xa.2 _ (yz6 hix 0)
    have hxic:(xs.getD i 0).toNat<cl.length:=by omega
    have wi:IntKind.i64.wrap ((i:Int)+1)=((i+1:Nat):Int):=by rw [w64 (by omega)];simp
    simp only [Bz15,Bz42,Bz89,Bz87,decide_eq_true hil,dnL_rws,dnL_rwn,go_sem,yz0,xx9,xx8,xx6,xx7,xx5,xx0,xx1,xx2,reduceIte,xx3,xx4,reduceCtorEq]
    intro hM
    refine wpD_lo (fun j=>i - j) (fun j=>j≤i)
      (fun (j:Nat)=>⟨L .any [(8,.own 35 (f v35)),(10,.own 41 v41),(16,.ptr 16 (vs9 6 0) 0),(18,iv i),(19,iv j)],
        L .gone [(5,.box (vs2 5 0) [iv n,.own 27 (vs2 1 v)]),(16,.box (vs9 6 0) [iv k,.own 77 (vs9 2 v77)]),(27,.row (vs2 1 v) 1 true (rwn next)),(32,.row v32 1 true (ints u)),(35,.row (f v35) 1 true (ints cl)),(41,.row v41 1 true (ints xs)),(77,.row (vs9 2 v77) 1 true (rws (quoL cl k.toNat next))),(1027,.row (vs2 1 w) 1 true (ints clo))]⟩)
      0 (by simp) (by simp only [Bzb,dnL_rws,dnL_rwn,go_sem,yz0,xx9,xx8,xx6,xx7,xx5,xx0,xx1,xx2,reduceIte,xx3,xx4,reduceCtorEq];try rfl) ?_
    intro j hj
    by_cases hlj:(j:Int)<i
    · have hjc:j<cl.length:=by omega
      have hjx:j<xs.length:=by omega
      have hxj:=xa.2 _ (yz6 hjx 0)
      have hxjc:(xs.getD j 0).toNat<cl.length:=by omega
      have wj:IntKind.i64.wrap ((j:Int)+1)=((j+1:Nat):Int):=by rw [w64 (by omega)];simp
      by_cases hyy:cl.getD i 0=cl.getD j 0
      · have hy3:(cl.getD i 0 == cl.getD j 0)=true:=beqT hyy
        have hc3:(cl.getD (xs.getD i 0).toNat 0 != cl.getD (xs.getD j 0).toNat 0)=false:=by
          have h1:=((S.eq i j (by omega) (by omega)).1 hyy).step hu
          rw [← hx1 i (by omega),← hx1 j (by omega)] at h1
          rw [show xs.getD i 0=(((xs.getD i 0).toNat:Nat):Int) by omega,show xs.getD j 0=(((xs.getD j 0).toNat:Nat):Int) by omega] at h1
          rw [(S.eq _ _ (by omega) (by omega)).2 h1];exact bne_self_eq_false _
        simp only [Bzb,Bz14,Bz45,Bz43,Bz44,decide_eq_true hlj,yz1 hic,yz1 hjc,yz1 hix,yz1 hjx,yz1 hxic,yz1 hxjc,hy3,hc3,wj,dnL_rws,dnL_rwn,go_sem,yz0,xx9,xx8,xx6,xx7,xx5,xx0,xx1,xx2,reduceIte,xx3,xx4,reduceCtorEq]
        exact ⟨⟨by omega,hic⟩,hic,⟨by omega,hjc⟩,hjc,⟨by omega,hix⟩,hix,⟨hxi.1,hxic⟩,hxic,⟨by omega,hjx⟩,hjx,⟨hxj.1,hxjc⟩,hxjc,j+1,by omega,by omega,rfl⟩
      · have hy3:(cl.getD i 0 == cl.getD j 0)=false:=beqF hyy
        simp only [Bzb,Bz14,Bz45,Bz43,Bz44,decide_eq_true hlj,yz1 hic,yz1 hjc,hy3,wj,dnL_rws,dnL_rwn,go_sem,yz0,xx9,xx8,xx6,xx7,xx5,xx0,xx1,xx2,reduceIte,xx3,xx4,reduceCtorEq]
        exact ⟨⟨by omega,hic⟩,hic,⟨by omega,hjc⟩,hjc,j+1,by omega,by omega,rfl⟩
    · simp only [Bzb,Bz14,Bz88,decide_eq_false hlj,wi,dnL_rws,dnL_rwn,go_sem,yz0,xx9,xx8,xx6,xx7,xx5,xx0,xx1,xx2,reduceIte,xx3,xx4,reduceCtorEq]
      exact ⟨i+1,by omega,by omega,rfl⟩
  · simp only [Bz15,Bz42,Bz8c,decide_eq_false hil,dnL_rws,dnL_rwn,go_sem,yz0,xx9,xx8,xx6,xx7,xx5,xx0,xx1,xx2,reduceIte,xx3,xx4,reduceCtorEq]
    intro hM vs10
    refine call_steG (R:=fun rows res=>∃ v,rows=[.row v 1 true (rws (pairsL k (stabQ (quoL cl k.toNat next))))]∧res=.tup [.own 6000 v,iv 0]) (k_StablePairs k _ Q) rfl qCS rfl qCS ?_
    rintro rows res ⟨v129,rfl,rfl⟩
    refine ⟨by simp,by rw [yzi];rfl,?_⟩
    rw [callHp_mr (by omega),hqp]
    have e01:((0:Int) == 0)=true:=rfl
    have e02:(((0:Nat):Int) == 0)=true:=rfl
    have hk0:(0:Int)<k:=by omega
    simp only [List.length_singleton,Bz8b,rws_nil,List.length_nil,e01,e02,decide_eq_true hk0,Nat.not_lt_zero,range1,yz10,ren_any,ren_ro,rnNm_n,rnNm_sn,rnNm_o,rnNm_s,ren_st,ren_tup,yzs,yzh,yz7,yzw,yzv,yzr,yzp,yzu,yz8,yzb,yza,yze,yzn,yzl,yz3,yzf,yz9,yzd,yzk,yzm,List.range_zero,yz5,yz4,yzc,yzx,yzi,yzq,AVal.fresh,freshL,yz2,yzj,AObj.fresh,id,Option.isSome_some,or_true,true_or,go_sem,yz0,xx9,xx8,xx6,xx7,xx5,xx0,xx1,xx2,reduceIte,xx3,xx4,reduceCtorEq]
end Go.Ab
