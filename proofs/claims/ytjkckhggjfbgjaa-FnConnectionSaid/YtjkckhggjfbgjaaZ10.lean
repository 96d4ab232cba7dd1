/- Contracts and what they lean on, part 10. Conditions: none. -/
import Derived.Test.YtjkckhggjfbgjaaZ9
set_option maxRecDepth 100000
set_option maxHeartbeats 4000000
set_option linter.all false
open Nat renaming reduceLeDiff → xx0, reduceMul → xx1, reduceSub → xx2, reduceEqDiff → xx3, reduceAdd → xx4, reduceLT → xx5
open Int renaming reduceToNat → xx6, reduceNeg → xx7, reduceLE → xx8, reduceLT → xx9
namespace Go.Ab
open Go.Proofs
abbrev LoR (code:List Int) (at_ k:Int) (outs rows:List AObj) (res:AVal):Prop :=
  ∃ n ps v a' s',(ps.length≤3→DJ ps)∧ps.length≤10∧-1≤n∧n≤11∧(∀ p∈ps,p.2.length≤10)∧at_≤a'∧a'≤at_+k∧outs=[.box 0 (srcC code a' s')]∧rows=[.row v 1 true (rwp ps)]∧res=.st [iv n,.own 6000 v]
theorem call_boxrowN {P:Program} {nos:List Nat} {σ:St} {g:FuncId} {As args:List AVal} {d:Nat} {s:Nat→Nat} {K:St→Prop} {r q v u:Nat} {cs cs0:List AVal} {xs:List Int} {Q:List AVal→Value→Prop}
    (h:Con P g [.box 0 cs,.row 1 1 true (ints xs)] args true fun outs rows res=>∃ cs' x,Q cs' x∧flatL cs'∧outs=[.box 0 cs',.row 1 1 true (ints xs)]∧rows=[]∧res=.val x)
    (hr:σ.hp r=.box v cs0) (hq:σ.hp q=.row u 1 true (ints xs)) (hm:r∈nos∧q∈nos) (hne:[r,q].Nodup) (hcs:CoeL σ.hp [r,q] false cs cs0) (ha:CoeL σ.hp [r,q] false args As) (hex:∃ cs' x,Q cs' x∧flatL cs')
    (hk:∀ cs' x,Q cs' x→K (St.put ⟨σ.tm,upd (upd σ.hp r (.box v cs')) q (.row u 1 true (ints xs))⟩ (some d) (.val x))):wpCallN P nos σ g As (some d) s K:=by
  refine ⟨[r,q],_,_,true,_,h,⟨by simp,rfl,hne,?_,?_⟩,ha,⟨by simp [hm.1,hm.2],?_⟩,?_⟩
  · intro x hx
    simp only [List.mem_cons,List.not_mem_nil,or_false] at hx
    rcases hx with rfl | rfl
    · simp [hr]
    · simp [hq]
  · intro j B r' hB hr'
    match j,hB,hr' with
    | 0,hB,hr' =>
      simp at hB hr';subst hB;subst hr'
      rw [hr]
      exact ⟨rfl,v,cs0,rfl,hcs⟩
    | 1,hB,hr' =>
      simp at hB hr';subst hB;subst hr'
      simp only [ObjCoe,hq]
      exact ⟨trivial,u,_,rfl,coeL_ints⟩
    | j+2,hB,hr'=>simp at hB
  · obtain ⟨cs',x,hq,hf⟩:=hex
    exact ⟨_,_,_,cs',x,hq,hf,rfl,rfl,rfl⟩
  · rintro outs rows res ⟨cs',x,hQ,hf,rfl,rfl,rfl⟩
    refine ⟨rfl,rfl,?_⟩
    have s0:sv σ.hp [r,q] s 0=v:=by simp [sv,hr,AObj.ver]
    have s1:sv σ.hp [r,q] s 1=u:=by simp [sv,hq,AObj.ver]
    rw [Option.getD_some,callHp_h2 hne]
    simp only [yzm,yzo,renL_flat cs' hf,yz4,yzx,s0,s1]
    exact hk cs' x hQ
theorem k_l01Bent (code:List Int) (at_ seed:Int) (hb:∀ x∈code,0≤x∧x≤255) (ha:0≤at_∧at_≤100000) :
    Con Try.prog nz3t [.box 0 (srcC code at_ seed)] [.ptr 5000 0 0] true (LoR code at_ 3000):=by
  refine con_shE mixed czig rfl (by simp) ?_
  generalize hQ:finQ _=Q
  have h12:∀ (σ:St) (v2 v3:Nat) (r v:Nat) (o6 o10 o61 o73 o77:AObj) (a s n:Int) (ps:List (Nat×List Int)),
      (ps.length≤3→DJ ps)→ps.length≤10→-1≤n∧n≤11→(∀ p∈ps,p.2.length≤10)→at_≤a∧a≤at_+3000 →
      (r=6∧o6=.row v 1 true (rwp ps)∨r=10∧o10=.row v 1 true (rwp ps)∨r=77∧o77=.row v 1 true (rwp ps)) →
      σ.keep [2,3] [2,3,6,10,61,73,77,5000,901]=⟨L .any [(2,.ptr 2 v2 0),(3,.ptr 3 v3 0)],
        L .gone [(2,.box v2 [iv 0,.val (.slice none 0 0)]),(3,.box v3 [iv n,.own r v]),(6,o6),(10,o10),(61,o61),(73,o73),(77,o77),(5000,.box 0 (srcC code a s)),(901,.gone)]⟩ →
      wpD Try.prog Bz13 Q σ:=by
    intro σ v2 v3 r v o6 o10 o61 o73 o77 a s n ps hd hl hn hr ha' hrv hS
    unfold Bz13
    rw [yzn,hS]
    simp only [wpD_gh]
    intro _
    refine ⟨[],?_⟩
    rcases hrv with ⟨rfl,rfl⟩ | ⟨rfl,rfl⟩ | ⟨rfl,rfl⟩
    · simp only [gwp_nil,yzn,yz1,go_sem,yz0,xx9,xx8,xx6,xx7,xx5,xx0,xx1,xx2,reduceIte,xx3,xx4,reduceCtorEq]
      intro vs U hN
      simp only [← hQ,Azd,go_sem,yz0,xx9,xx8,xx6,xx7,xx5,xx0,xx1,xx2,reduceIte,xx3,xx4,reduceCtorEq]
      refine ⟨[6],by simp,by simp,by simp,?_⟩
      simp only [range1,List.length_singleton,renL_rwp,Nat.not_lt_zero,range1,yzx,yz11,ren_ro,rnNm_n,yz10,rnNm_o,rnNm_s,ren_st,yzy,yzp,yzf,yz4,yzu,yzv,yzo,yzm,yzs,yzb,yzd,yzc,yza,yzj,yzi,yz3,yz7,yz8,yz9,yzg,yzk,List.range_zero,yz6,yz5,yze,yzt,yzl,yzr,AVal.fresh,freshL,yz2,yzh,AObj.fresh,id,Option.isSome_some,or_true,true_or,go_sem,yz0,xx9,xx8,xx6,xx7,xx5,xx0,xx1,xx2,reduceIte,xx3,xx4,reduceCtorEq]
      exact ⟨n,ps,v,a,s,hd,hl,hn.1,hn.2,hr,ha'.1,ha'.2,rfl,by simp,rfl⟩
    · simp only [gwp_nil,yzn,yz1,go_sem,yz0,xx9,xx8,xx6,xx7,xx5,xx0,xx1,xx2,reduceIte,xx3,xx4,reduceCtorEq]
      intro vs U hN
      simp only [← hQ,Azd,go_sem,yz0,xx9,xx8,xx6,xx7,xx5,xx0,xx1,xx2,reduceIte,xx3,xx4,reduceCtorEq]
      refine ⟨[10],by simp,by simp,by simp,?_⟩
      simp only [range1,List.length_singleton,renL_rwp,Nat.not_lt_zero,range1,yzx,yz11,ren_ro,rnNm_n,yz10,rnNm_o,rnNm_s,ren_st,yzy,yzp,yzf,yz4,yzu,yzv,yzo,yzm,yzs,yzb,yzd,yzc,yza,yzj,yzi,yz3,yz7,yz8,yz9,yzg,yzk,List.range_zero,yz6,yz5,yze,yzt,yzl,yzr,AVal.fresh,freshL,yz2,yzh,AObj.fresh,id,Option.isSome_some,or_true,true_or,go_sem,yz0,xx9,xx8,xx6,xx7,xx5,xx0,xx1,xx2,reduceIte,xx3,xx4,reduceCtorEq]
      exact ⟨n,ps,v,a,s,hd,hl,hn.1,hn.2,hr,ha'.1,ha'.2,rfl,by simp,rfl⟩
    · simp only [gwp_nil,yzn,yz1,go_sem,yz0,xx9,xx8,xx6,xx7,xx5,xx0,xx1,xx2,reduceIte,xx3,xx4,reduceCtorEq]
      intro vs U hN
      simp only [← hQ,Azd,go_sem,yz0,xx9,xx8,xx6,xx7,xx5,xx0,xx1,xx2,reduceIte,xx3,xx4,reduceCtorEq]
      refine ⟨[77],by simp,by simp,by simp,?_⟩
      simp only [range1,List.length_singleton,renL_rwp,Nat.not_lt_zero,range1,yzx,yz11,ren_ro,rnNm_n,yz10,rnNm_o,rnNm_s,ren_st,yzy,yzp,yzf,yz4,yzu,yzv,yzo,yzm,yzs,yzb,yzd,yzc,yza,yzj,yzi,yz3,yz7,yz8,yz9,yzg,yzk,List.range_zero,yz6,yz5,yze,yzt,yzl,yzr,AVal.fresh,freshL,yz2,yzh,AObj.fresh,id,Option.isSome_some,or_true,true_or,go_sem,yz0,xx9,xx8,xx6,xx7,xx5,xx0,xx1,xx2,reduceIte,xx3,xx4,reduceCtorEq]
      exact ⟨n,ps,v,a,s,hd,hl,hn.1,hn.2,hr,ha'.1,ha'.2,rfl,by simp,rfl⟩
  have h12b:∀ (σ:St) (v2 v3 r v m:Nat) (o6 o10:AObj) (a s n:Int) (A2 C2:List (Nat×List Int)) (b:Nat×List Int) (cur:List Int),
      DJ (A2 ++ b :: C2)→(A2 ++ b :: C2).length≤10→-1≤n∧n≤11→(∀ p∈A2 ++ C2,p.2.length≤10)→cur.length≤10→at_≤a∧a≤at_+3000 →
      (r=6∧o6=.row v 1 true (rwp A2 ++ .own 901 m :: rwp C2)∨r=10∧o10=.row v 1 true (rwp A2 ++ .own 901 m :: rwp C2)) →
      σ.keep [2,3] [2,3,6,10,61,73,77,5000,901]=⟨L .any [(2,.ptr 2 v2 0),(3,.ptr 3 v3 0)],
        L .gone [(2,.box v2 [iv 0,.val (.slice none 0 0)]),(3,.box v3 [iv n,.own r v]),(6,o6),(10,o10),(61,.gone),(73,.gone),(77,.gone),(5000,.box 0 (srcC code a s)),(901,.row m 1 true (ints cur))]⟩ →
      wpD Try.prog Bz13 Q σ:=by
    intro σ v2 v3 r v m o6 o10 a s n A2 C2 b cur hd hl hn hr hc ha' hrv hS
    unfold Bz13
    rw [yzn,hS]
    simp only [wpD_gh]
    intro hD
    have hset4:∀ X:AVal,(rwp A2 ++ AVal.own 901 m :: rwp C2).set A2.length X=rwp A2 ++ X :: rwp C2:=fun X=>by
      rw [List.set_append_right _ _ (by rw [rwp_len];exact Nat.le_refl _),rwp_len,Nat.sub_self];rfl
    rw [List.length_append,List.length_cons] at hl
    have key:(∀ n k'' cs'',AVal.ro (some (some (n+1))) k'' cs''∈rwp A2 ++ AVal.own 901 m :: rwp C2→cs''≠[]→n≠m)→DJ (A2 ++ (m,cur) :: C2):=fun hf=>DJ_in hd fun p hp=>by
      by_cases e:p.2=[]
      · exact .inl e
      · refine .inr (hf p.1 1 (ints p.2) ?_ (by simpa using e))
        rcases List.mem_append.1 hp with h | h
        · exact List.mem_append.2 (.inl (List.mem_map.2 ⟨p,h,rfl⟩))
        · exact List.mem_append.2 (.inr (List.mem_cons.2 (.inr (List.mem_map.2 ⟨p,h,rfl⟩))))
    have hr2:∀ p∈A2 ++ (m,cur) :: C2,p.2.length≤10:=fun p hp=>by
      simp only [List.mem_append,List.mem_cons] at hp
      rcases hp with h | rfl | h
      · exact hr p (by simp [h])
      · exact hc
      · exact hr p (by simp [h])
    rcases hrv with ⟨rfl,rfl⟩ | ⟨rfl,rfl⟩
    · refine ⟨[.rf 6 A2.length 901],gwp_rf (k:=1) (nn:=true) rfl (own_get rfl) (by decide) rfl fun hf=>?_⟩
      have D1:=key hf
      simp only [hset4,frNm_t,rwp_cat,gwp_nil,yzn,yz1,go_sem,yz0,xx9,xx8,xx6,xx7,xx5,xx0,xx1,xx2,reduceIte,xx3,xx4,reduceCtorEq]
      intro vs U hN
      simp only [← hQ,Azd,go_sem,yz0,xx9,xx8,xx6,xx7,xx5,xx0,xx1,xx2,reduceIte,xx3,xx4,reduceCtorEq]
      refine ⟨[6],by simp,by simp,by simp,?_⟩
      simp only [range1,List.length_singleton,renL_rwp,Nat.not_lt_zero,range1,yzx,yz11,ren_ro,rnNm_n,yz10,rnNm_o,rnNm_s,ren_st,yzy,yzp,yzf,yz4,yzu,yzv,yzo,yzm,yzs,yzb,yzd,yzc,yza,yzj,yzi,yz3,yz7,yz8,yz9,yzg,yzk,List.range_zero,yz6,yz5,yze,yzt,yzl,yzr,AVal.fresh,freshL,yz2,yzh,AObj.fresh,id,Option.isSome_some,or_true,true_or,go_sem,yz0,xx9,xx8,xx6,xx7,xx5,xx0,xx1,xx2,reduceIte,xx3,xx4,reduceCtorEq]
      exact ⟨n,A2 ++ (m,cur) :: C2,v,a,s,fun _=>D1,by simp;omega,hn.1,hn.2,hr2,ha'.1,ha'.2,rfl,by simp,rfl⟩
    · refine ⟨[.rf 10 A2.length 901],gwp_rf (k:=1) (nn:=true) rfl (own_get rfl) (by decide) rfl fun hf=>?_⟩
      have D1:=key hf
      simp only [hset4,frNm_t,rwp_cat,gwp_nil,yzn,yz1,go_sem,yz0,xx9,xx8,xx6,xx7,xx5,xx0,xx1,xx2,reduceIte,xx3,xx4,reduceCtorEq]
      intro vs U hN
      simp only [← hQ,Azd,go_sem,yz0,xx9,xx8,xx6,xx7,xx5,xx0,xx1,xx2,reduceIte,xx3,xx4,reduceCtorEq]
      refine ⟨[10],by simp,by simp,by simp,?_⟩
      simp only [range1,List.length_singleton,renL_rwp,Nat.not_lt_zero,range1,yzx,yz11,ren_ro,rnNm_n,yz10,rnNm_o,rnNm_s,ren_st,yzy,yzp,yzf,yz4,yzu,yzv,yzo,yzm,yzs,yzb,yzd,yzc,yza,yzj,yzi,yz3,yz7,yz8,yz9,yzg,yzk,List.range_zero,yz6,yz5,yze,yzt,yzl,yzr,AVal.fresh,freshL,yz2,yzh,AObj.fresh,id,Option.isSome_some,or_true,true_or,go_sem,yz0,xx9,xx8,xx6,xx7,xx5,xx0,xx1,xx2,reduceIte,xx3,xx4,reduceCtorEq]
      exact ⟨n,A2 ++ (m,cur) :: C2,v,a,s,fun _=>D1,by simp;omega,hn.1,hn.2,hr2,ha'.1,ha'.2,rfl,by simp,rfl⟩
  have h4:∀ (σ:St) (v2 v3:Nat) (r v:Nat) (o6 o10:AObj) (a s n:Int) (ps:List (Nat×List Int)),
      Aut n (ps.map (·.2))→DJ ps→at_≤a∧a≤at_+2500→(r=6∧o6=.row v 1 true (rwp ps)∨r=10∧o10=.row v 1 true (rwp ps)) →
      σ.keep [0,2,3] [2,3,6,10,61,73,77,5000,901]=⟨L .any [(0,.ptr 5000 0 0),(2,.ptr 2 v2 0),(3,.ptr 3 v3 0)],
        L .gone [(2,.box v2 [iv 0,.val (.slice none 0 0)]),(3,.box v3 [iv n,.own r v]),(6,o6),(10,o10),(61,.gone),(73,.gone),(77,.gone),(5000,.box 0 (srcC code a s)),(901,.gone)]⟩ →
      wpD Try.prog Bz6r Q σ:=by
    intro σ v2 v3 r v o6 o10 a s n ps A hd ha' hrv hS
    unfold Bz6r
    rw [yzn,hS]
    have l1:=A.l1
    have l2:=A.l2
    have n1:=A.n1
    have n2:=A.n2
    rw [List.length_map] at l1 l2
    rcases hrv with ⟨rfl,rfl⟩ | ⟨rfl,rfl⟩
    · simp only [rwp_len,yzn,yz1,go_sem,yz0,xx9,xx8,xx6,xx7,xx5,xx0,xx1,xx2,reduceIte,xx3,xx4,reduceCtorEq]
      intro vs U hN hM
      refine call_funB (k_pick code a s ps.length hb (by omega)) rfl qCS qCS ?_
      rintro cs' x ⟨a1,s1,at1,rfl,e1,e2,rfl,e3,e4⟩
      have hat:at1.toNat<ps.length:=by omega
      simp only [Bz6q,yzn,yz1,go_sem,yz0,xx9,xx8,xx6,xx7,xx5,xx0,xx1,xx2,reduceIte,xx3,xx4,reduceCtorEq]
      intro vs1 U1 hN1
      refine call_funB (k_pick code a1 s1 24 hb (by omega)) rfl qCS qCS ?_
      rintro cs' x ⟨a2,s2,kd,rfl,f1,f2,rfl,f3,f4⟩
      have hps:∀ p∈ps,p.2.length≤10:=fun p hp=>by have:=(A.row p.2 (List.mem_map.2 ⟨p,hp,rfl⟩)).1;omega
      by_cases k0:kd=0
      · subst k0
        have w1:IntKind.i64.wrap (n+1)=n+1:=w64 (by omega)
        simp only [Bz2,Bz1,w1,beq_self_eq_true,yzn,yz1,go_sem,yz0,xx9,xx8,xx6,xx7,xx5,xx0,xx1,xx2,reduceIte,xx3,xx4,reduceCtorEq]
        intro vs2 U2 hN2 vs3 U3 hN3
        refine ⟨⟨⟨_,rfl,rfl⟩,⟨_,rfl,rfl⟩,⟨_,rfl,rfl⟩,_,rfl,rfl⟩,?_⟩
        refine call_boxrow (r:=5000) (q:=24) (k_among code a2 s2 [0,-1,n+1,11] hb (by omega) (by simp)) rfl rfl (by decide) qCS (by simp only [yz12,coeL_nil,and_true,Coe];exact ⟨⟨0,_,_,rfl,rfl,rfl,rfl,rfl⟩,1,_,_,rfl,rfl,rfl,rfl,rfl⟩) ?_
        rintro cs' x ⟨a3,s3,b3,rfl,g3,g4,rfl,g5⟩
        have hb3:-1≤b3∧b3≤11:=by simp at g5;omega
        simp only [go_sem,yz0,xx9,xx8,xx6,xx7,xx5,xx0,xx1,xx2,reduceIte,xx3,xx4,reduceCtorEq]
        exact h12 _ v2 v3 6 v _ o10 .gone .gone .gone a3 s3 b3 ps (fun _=>hd) (by omega) hb3 hps (by omega) (.inl ⟨rfl,rfl⟩) (by simp only [go_sem,yz0,xx9,xx8,xx6,xx7,xx5,xx0,xx1,xx2,reduceIte,xx3,xx4,reduceCtorEq];try rfl)
      by_cases k1:kd=1
      · subst k1
        simp only [beq_false_of_ne (show (1:Int)≠0 by omega),Bz2,Bz1,Bz3,rwp_getD hat,St.bound,List.take_length,beq_self_eq_true,yzn,yz1,go_sem,yz0,xx9,xx8,xx6,xx7,xx5,xx0,xx1,xx2,reduceIte,xx3,xx4,reduceCtorEq]
        intro _ _ _ _ _ _ vs4 U4 hN4
        have hlw:(rwp ps).length=ps.length:=rwp_len
        have hrl:=(A.row _ (List.mem_map.2 ⟨_,yzq hat (0,[]),rfl⟩)).1
        refine ⟨⟨e3,by omega⟩,by omega,⟨by omega,Nat.le_refl _⟩,⟨e3,by omega⟩,by omega,?_⟩
        have ed:List.drop 1 (ints (ps.getD at1.toNat (0,[])).2)=ints ((ps.getD at1.toNat (0,[])).2.drop 1):=by simp only [List.map_drop]
        rw [ed,rwp_putN (p:=((ps.getD at1.toNat (0,[])).1,(ps.getD at1.toNat (0,[])).2.drop 1))]
        have hlp:(ps.take at1.toNat ++ [((ps.getD at1.toNat (0,[])).1,(ps.getD at1.toNat (0,[])).2.drop 1)] ++ ps.drop (at1.toNat+1)).length=ps.length:=by
          simp only [List.length_append,List.length_take,List.length_drop,List.length_singleton];omega
        exact h12 _ v2 v3 6 v _ o10 .gone .gone .gone a2 s2 n _ (fun _=>DJ_set (xs:=(ps.getD at1.toNat (0,[])).2.drop 1) hat hd fun e=>by rw [e];rfl) (by rw [hlp];omega) (by omega) (fun p hp=>by
          simp only [List.mem_append,List.mem_singleton] at hp
          rcases hp with (hp | rfl) | hp
          · exact hps p (List.mem_of_mem_take hp)
          · have:=hps _ (yzq hat (0,[]));simp only [List.length_drop];omega
          · exact hps p (List.mem_of_mem_drop hp)) (by omega) (.inl ⟨rfl,rfl⟩) (by simp only [go_sem,yz0,xx9,xx8,xx6,xx7,xx5,xx0,xx1,xx2,reduceIte,xx3,xx4,reduceCtorEq];try rfl)
      by_cases k2:kd=2
      · subst k2
        obtain ⟨A2,b,C2,rfl,hAk⟩:=rwp_split hat
        have hbr:=A.row b.2 (by simp)
        have hbn:b.2≠[]:=fun e=>by rw [e] at hbr;simp at hbr;omega
        have hbl:0<b.2.length:=by omega
        have F0:=DJ_out hd hbn
        have F0a:∀ p∈A2 ++ C2,p.2=[]∨p.1≠b.1:=F0
        simp only [beq_false_of_ne (show (2:Int)≠0 by omega),beq_false_of_ne (show (2:Int)≠1 by omega),Bz2,Bz1,Bz3,yzn,yz1,go_sem,yz0,xx9,xx8,xx6,xx7,xx5,xx0,xx1,xx2,reduceIte,xx3,xx4,reduceCtorEq]
        intro _ _ _ _ _ _ _ _ _
        simp only [beq_self_eq_true,Bz7,yzn,wpD_gh,go_sem,yz0,xx9,xx8,xx6,xx7,xx5,xx0,xx1,xx2,reduceIte,xx3,xx4,reduceCtorEq]
        intro _
        refine ⟨[.thaw 6 at1.toNat 901],gwp_thaw (n:=b.1) rfl (rwp_get hAk.symm) (by simpa using hbn) rfl fun m1=>?_⟩
        have hset:(woL b.1 (rwp (A2 ++ b :: C2))).set at1.toNat (AVal.own 901 m1)=rwp A2 ++ AVal.own 901 m1 :: rwp C2:=by rw [← hAk];exact woL_set F0a
        have ho1:(rwp A2 ++ AVal.own 901 m1 :: rwp C2).getD at1.toNat .any=.own 901 m1:=own_at hAk.symm
        have hol:(rwp A2 ++ AVal.own 901 m1 :: rwp C2).length=A2.length+(C2.length+1):=by rw [List.length_append,List.length_cons,rwp_len,rwp_len]
        have hkl:at1.toNat<(rwp A2 ++ AVal.own 901 m1 :: rwp C2).length:=by omega
        simp only [hset,woT,woO,woL_cons,woL_nil,woV_val,woV_own,wo_ptr,wo_o,woL_ints,wo_st,woO_row,woO_box,woO_gone,wo_any,gwp_nil,yzn,yz1,go_sem,yz0,xx9,xx8,xx6,xx7,xx5,xx0,xx1,xx2,reduceIte,xx3,xx4,reduceCtorEq]
        intro vs4 U4 hN4
        simp only [ho1,go_sem,yz0,xx9,xx8,xx6,xx7,xx5,xx0,xx1,xx2,reduceIte,xx3,xx4,reduceCtorEq]
        refine ⟨⟨e3,hkl⟩,hkl,⟨⟨_,rfl,rfl⟩,_,rfl,rfl⟩,?_⟩
        refine call_boxrowN (r:=5000) (q:=49) (cs0:=srcC code a2 s2) (k_among code a2 s2 [-1,n] hb (by omega) (by simp)) rfl rfl (by simp) (by decide) qCS (by simp only [yz12,coeL_nil,and_true,Coe];exact ⟨⟨0,_,_,rfl,rfl,rfl,rfl,rfl⟩,1,_,_,rfl,rfl,rfl,rfl,rfl⟩) ⟨srcC code a2 0,.int .i64 n,⟨a2,0,n,rfl,by omega,by omega,rfl,by simp⟩,flat_srcC⟩ ?_
        rintro cs' x ⟨a3,s3,b3,rfl,g3,g4,rfl,g5⟩
        simp only [yzn,yz1,go_sem,yz0,xx9,xx8,xx6,xx7,xx5,xx0,xx1,xx2,reduceIte,xx3,xx4,reduceCtorEq]
        refine ⟨hbl,hbl,?_⟩
        have ed:AVal.val (.int .i64 b3) :: List.drop 1 (ints b.2)=ints (b3 :: b.2.drop 1):=by simp [List.map_drop]
        rw [ed]
        exact h12b _ v2 v3 6 v m1 _ (AObj.wo b.1 o10) a3 s3 n A2 C2 b (b3 :: b.2.drop 1) hd (by omega) (by omega) (fun p hp=>hps p (by simp only [List.mem_append,List.mem_cons] at hp ⊢;rcases hp with h | h <;> simp [h])) (by simp only [List.length_cons,List.length_drop];omega) (by omega) (.inl ⟨rfl,rfl⟩) (by simp only [go_sem,yz0,xx9,xx8,xx6,xx7,xx5,xx0,xx1,xx2,reduceIte,xx3,xx4,reduceCtorEq];try rfl)
      by_cases k3:kd=3
      · subst k3
        have h00:0<ps.length:=by omega
        simp only [beq_false_of_ne (show (3:Int)≠0 by omega),beq_false_of_ne (show (3:Int)≠1 by omega),Bz2,Bz1,Bz3,yzn,yz1,go_sem,yz0,xx9,xx8,xx6,xx7,xx5,xx0,xx1,xx2,reduceIte,xx3,xx4,reduceCtorEq]
        intro _ _ _ _ _ _ _ _ _
        simp only [beq_false_of_ne (show (3:Int)≠2 by omega),Bz7,yzn,wpD_gh,go_sem,yz0,xx9,xx8,xx6,xx7,xx5,xx0,xx1,xx2,reduceIte,xx3,xx4,reduceCtorEq]
        intro _
        refine ⟨[],?_⟩
        simp only [beq_self_eq_true,Bzc,rwp_getD h00,gwp_nil,yzn,yz1,go_sem,yz0,xx9,xx8,xx6,xx7,xx5,xx0,xx1,xx2,reduceIte,xx3,xx4,reduceCtorEq]
        intro _ _ _ vs9 U9 hN9
        have hlw:(rwp ps).length=ps.length:=rwp_len
        refine ⟨by omega,by omega,by omega,by omega,by omega,by omega,by omega,by rw [List.length_append,List.length_singleton];omega,?_⟩
        generalize hp0:ps.getD 0 (0,[])=p0
        have hp0m:p0∈ps:=hp0 ▸ yzq h00 (0,[])
        have e5:rwp ps ++ [AVal.ro (some (some (p0.1+1))) 1 (ints p0.2)] ++ [AVal.ro (some (some (p0.1+1))) 1 (ints p0.2),AVal.ro (some (some (p0.1+1))) 1 (ints p0.2)]=rwp (ps ++ [p0] ++ [p0,p0]):=by simp only [rwp,List.map_append,List.map_cons,List.map_nil]
        rw [e5]
        have hl6:(ps ++ [p0] ++ [p0,p0]).length=ps.length+3:=by simp
        exact h12 _ v2 v3 6 (vs9 19 0) _ o10 .gone .gone .gone a2 s2 n (ps ++ [p0] ++ [p0,p0]) (fun h=>absurd h (by omega)) (by omega) (by omega) (fun p hp=>by
          simp only [List.mem_append,List.mem_cons,List.not_mem_nil,or_false] at hp
          rcases hp with (hp | rfl) | rfl | rfl
          · exact hps p hp
          · exact hps _ hp0m
          · exact hps _ hp0m
          · exact hps _ hp0m) (by omega) (.inl ⟨rfl,rfl⟩) (by simp only [go_sem,yz0,xx9,xx8,xx6,xx7,xx5,xx0,xx1,xx2,reduceIte,xx3,xx4,reduceCtorEq];try rfl)
      by_cases k4:kd=4
      · subst k4
        simp only [beq_false_of_ne (show (4:Int)≠0 by omega),beq_false_of_ne (show (4:Int)≠1 by omega),Bz2,Bz1,Bz3,yzn,yz1,go_sem,yz0,xx9,xx8,xx6,xx7,xx5,xx0,xx1,xx2,reduceIte,xx3,xx4,reduceCtorEq]
        intro _ _ _ _ _ _ _ _ _
        simp only [beq_false_of_ne (show (4:Int)≠2 by omega),Bz7,yzn,wpD_gh,go_sem,yz0,xx9,xx8,xx6,xx7,xx5,xx0,xx1,xx2,reduceIte,xx3,xx4,reduceCtorEq]
        intro _
        refine ⟨[],?_⟩
        simp only [beq_false_of_ne (show (4:Int)≠3 by omega),Bzc,Bz12,beq_self_eq_true,gwp_nil,yzn,yz1,go_sem,yz0,xx9,xx8,xx6,xx7,xx5,xx0,xx1,xx2,reduceIte,xx3,xx4,reduceCtorEq]
        intro _ _ _ _ _ _ vs9 U9 hN9
        exact h12 _ v2 v3 77 (vs9 0 0) _ o10 .gone .gone _ a2 s2 n [] (fun _=>by simp [DJ]) (by simp) (by omega) (by simp) (by omega) (.inr (.inr ⟨rfl,rfl⟩)) (by simp only [rwp_nil,go_sem,yz0,xx9,xx8,xx6,xx7,xx5,xx0,xx1,xx2,reduceIte,xx3,xx4,reduceCtorEq];try rfl)
      simp only [beq_false_of_ne k0,beq_false_of_ne k1,Bz2,Bz1,Bz3,yzn,yz1,go_sem,yz0,xx9,xx8,xx6,xx7,xx5,xx0,xx1,xx2,reduceIte,xx3,xx4,reduceCtorEq]
      intro _ _ _ _ _ _ _ _ _
      simp only [beq_false_of_ne k2,Bz7,yzn,wpD_gh,go_sem,yz0,xx9,xx8,xx6,xx7,xx5,xx0,xx1,xx2,reduceIte,xx3,xx4,reduceCtorEq]
      intro _
      refine ⟨[],?_⟩
      simp only [beq_false_of_ne k3,beq_false_of_ne k4,Bzc,Bz12,gwp_nil,yzn,yz1,go_sem,yz0,xx9,xx8,xx6,xx7,xx5,xx0,xx1,xx2,reduceIte,xx3,xx4,reduceCtorEq]
      intro _ _ _ _ _ _
      exact h12 _ v2 v3 6 v _ o10 .gone .gone .gone a2 s2 n ps (fun _=>hd) (by omega) (by omega) hps (by omega) (.inl ⟨rfl,rfl⟩) (by simp only [go_sem,yz0,xx9,xx8,xx6,xx7,xx5,xx0,xx1,xx2,reduceIte,xx3,xx4,reduceCtorEq];try rfl)
    · simp only [rwp_len,yzn,yz1,go_sem,yz0,xx9,xx8,xx6,xx7,xx5,xx0,xx1,xx2,reduceIte,xx3,xx4,reduceCtorEq]
      intro vs U hN hM
      refine call_funB (k_pick code a s ps.length hb (by omega)) rfl qCS qCS ?_
      rintro cs' x ⟨a1,s1,at1,rfl,e1,e2,rfl,e3,e4⟩
      have hat:at1.toNat<ps.length:=by omega
      simp only [Bz6q,yzn,yz1,go_sem,yz0,xx9,xx8,xx6,xx7,xx5,xx0,xx1,xx2,reduceIte,xx3,xx4,reduceCtorEq]
      intro vs1 U1 hN1
      refine call_funB (k_pick code a1 s1 24 hb (by omega)) rfl qCS qCS ?_
      rintro cs' x ⟨a2,s2,kd,rfl,f1,f2,rfl,f3,f4⟩
      have hps:∀ p∈ps,p.2.length≤10:=fun p hp=>by have:=(A.row p.2 (List.mem_map.2 ⟨p,hp,rfl⟩)).1;omega
      by_cases k0:kd=0
      · subst k0
        have w1:IntKind.i64.wrap (n+1)=n+1:=w64 (by omega)
        simp only [Bz2,Bz1,w1,beq_self_eq_true,yzn,yz1,go_sem,yz0,xx9,xx8,xx6,xx7,xx5,xx0,xx1,xx2,reduceIte,xx3,xx4,reduceCtorEq]
        intro vs2 U2 hN2 vs3 U3 hN3
        refine ⟨⟨⟨_,rfl,rfl⟩,⟨_,rfl,rfl⟩,⟨_,rfl,rfl⟩,_,rfl,rfl⟩,?_⟩
        refine call_boxrow (r:=5000) (q:=24) (k_among code a2 s2 [0,-1,n+1,11] hb (by omega) (by simp)) rfl rfl (by decide) qCS (by simp only [yz12,coeL_nil,and_true,Coe];exact ⟨⟨0,_,_,rfl,rfl,rfl,rfl,rfl⟩,1,_,_,rfl,rfl,rfl,rfl,rfl⟩) ?_
        rintro cs' x ⟨a3,s3,b3,rfl,g3,g4,rfl,g5⟩
        have hb3:-1≤b3∧b3≤11:=by simp at g5;omega
        simp only [go_sem,yz0,xx9,xx8,xx6,xx7,xx5,xx0,xx1,xx2,reduceIte,xx3,xx4,reduceCtorEq]
        exact h12 _ v2 v3 10 v o6 _ .gone .gone .gone a3 s3 b3 ps (fun _=>hd) (by omega) hb3 hps (by omega) (.inr (.inl ⟨rfl,rfl⟩)) (by simp only [go_sem,yz0,xx9,xx8,xx6,xx7,xx5,xx0,xx1,xx2,reduceIte,xx3,xx4,reduceCtorEq];try rfl)
      by_cases k1:kd=1
      · subst k1
        simp only [beq_false_of_ne (show (1:Int)≠0 by omega),Bz2,Bz1,Bz3,rwp_getD hat,St.bound,List.take_length,beq_self_eq_true,yzn,yz1,go_sem,yz0,xx9,xx8,xx6,xx7,xx5,xx0,xx1,xx2,reduceIte,xx3,xx4,reduceCtorEq]
        intro _ _ _ _ _ _ vs4 U4 hN4
        have hlw:(rwp ps).length=ps.length:=rwp_len
        have hrl:=(A.row _ (List.mem_map.2 ⟨_,yzq hat (0,[]),rfl⟩)).1
        refine ⟨⟨e3,by omega⟩,by omega,⟨by omega,Nat.le_refl _⟩,⟨e3,by omega⟩,by omega,?_⟩
        have ed:List.drop 1 (ints (ps.getD at1.toNat (0,[])).2)=ints ((ps.getD at1.toNat (0,[])).2.drop 1):=by simp only [List.map_drop]
        rw [ed,rwp_putN (p:=((ps.getD at1.toNat (0,[])).1,(ps.getD at1.toNat (0,[])).2.drop 1))]
        have hlp:(ps.take at1.toNat ++ [((ps.getD at1.toNat (0,[])).1,(ps.getD at1.toNat (0,[])).2.drop 1)] ++ ps.drop (at1.toNat+1)).length=ps.length:=by
          simp only [List.length_append,List.length_take,List.length_drop,List.length_singleton];omega
        exact h12 _ v2 v3 10 v o6 _ .gone .gone .gone a2 s2 n _ (fun _=>DJ_set (xs:=(ps.getD at1.toNat (0,[])).2.drop 1) hat hd fun e=>by rw [e];rfl) (by rw [hlp];omega) (by omega) (fun p hp=>by
          simp only [List.mem_append,List.mem_singleton] at hp
          rcases hp with (hp | rfl) | hp
          · exact hps p (List.mem_of_mem_take hp)
          · have:=hps _ (yzq hat (0,[]));simp only [List.length_drop];omega
          · exact hps p (List.mem_of_mem_drop hp)) (by omega) (.inr (.inl ⟨rfl,rfl⟩)) (by simp only [go_sem,yz0,xx9,xx8,xx6,xx7,xx5,xx0,xx1,xx2,reduceIte,xx3,xx4,reduceCtorEq];try rfl)
      by_cases k2:kd=2
      · subst k2
        obtain ⟨A2,b,C2,rfl,hAk⟩:=rwp_split hat
        have hbr:=A.row b.2 (by simp)
        have hbn:b.2≠[]:=fun e=>by rw [e] at hbr;simp at hbr;omega
        have hbl:0<b.2.length:=by omega
        have F0:=DJ_out hd hbn
        have F0a:∀ p∈A2 ++ C2,p.2=[]∨p.1≠b.1:=F0
        simp only [beq_false_of_ne (show (2:Int)≠0 by omega),beq_false_of_ne (show (2:Int)≠1 by omega),Bz2,Bz1,Bz3,yzn,yz1,go_sem,yz0,xx9,xx8,xx6,xx7,xx5,xx0,xx1,xx2,reduceIte,xx3,xx4,reduceCtorEq]
        intro _ _ _ _ _ _ _ _ _
        simp only [beq_self_eq_true,Bz7,yzn,wpD_gh,go_sem,yz0,xx9,xx8,xx6,xx7,xx5,xx0,xx1,xx2,reduceIte,xx3,xx4,reduceCtorEq]
        intro _
        refine ⟨[.thaw 10 at1.toNat 901],gwp_thaw (n:=b.1) rfl (rwp_get hAk.symm) (by simpa using hbn) rfl fun m1=>?_⟩
        have hset:(woL b.1 (rwp (A2 ++ b :: C2))).set at1.toNat (AVal.own 901 m1)=rwp A2 ++ AVal.own 901 m1 :: rwp C2:=by rw [← hAk];exact woL_set F0a
        have ho1:(rwp A2 ++ AVal.own 901 m1 :: rwp C2).getD at1.toNat .any=.own 901 m1:=own_at hAk.symm
        have hol:(rwp A2 ++ AVal.own 901 m1 :: rwp C2).length=A2.length+(C2.length+1):=by rw [List.length_append,List.length_cons,rwp_len,rwp_len]
        have hkl:at1.toNat<(rwp A2 ++ AVal.own 901 m1 :: rwp C2).length:=by omega
        simp only [hset,woT,woO,woL_cons,woL_nil,woV_val,woV_own,wo_ptr,wo_o,woL_ints,wo_st,woO_row,woO_box,woO_gone,wo_any,gwp_nil,yzn,yz1,go_sem,yz0,xx9,xx8,xx6,xx7,xx5,xx0,xx1,xx2,reduceIte,xx3,xx4,reduceCtorEq]
        intro vs4 U4 hN4
        simp only [ho1,go_sem,yz0,xx9,xx8,xx6,xx7,xx5,xx0,xx1,xx2,reduceIte,xx3,xx4,reduceCtorEq]
        refine ⟨⟨e3,hkl⟩,hkl,⟨⟨_,rfl,rfl⟩,_,rfl,rfl⟩,?_⟩
        refine call_boxrowN (r:=5000) (q:=49) (cs0:=srcC code a2 s2) (k_among code a2 s2 [-1,n] hb (by omega) (by simp)) rfl rfl (by simp) (by decide) qCS (by simp only [yz12,coeL_nil,and_true,Coe];exact ⟨⟨0,_,_,rfl,rfl,rfl,rfl,rfl⟩,1,_,_,rfl,rfl,rfl,rfl,rfl⟩) ⟨srcC code a2 0,.int .i64 n,⟨a2,0,n,rfl,by omega,by omega,rfl,by simp⟩,flat_srcC⟩ ?_
        rintro cs' x ⟨a3,s3,b3,rfl,g3,g4,rfl,g5⟩
        simp only [yzn,yz1,go_sem,yz0,xx9,xx8,xx6,xx7,xx5,xx0,xx1,xx2,reduceIte,xx3,xx4,reduceCtorEq]
        refine ⟨hbl,hbl,?_⟩
        have ed:AVal.val (.int .i64 b3) :: List.drop 1 (ints b.2)=ints (b3 :: b.2.drop 1):=by simp [List.map_drop]
        rw [ed]
        exact h12b _ v2 v3 10 v m1 (AObj.wo b.1 o6) _ a3 s3 n A2 C2 b (b3 :: b.2.drop 1) hd (by omega) (by omega) (fun p hp=>hps p (by simp only [List.mem_append,List.mem_cons] at hp ⊢;rcases hp with h | h <;> simp [h])) (by simp only [List.length_cons,List.length_drop];omega) (by omega) (.inr ⟨rfl,rfl⟩) (by simp only [go_sem,yz0,xx9,xx8,xx6,xx7,xx5,xx0,xx1,xx2,reduceIte,xx3,xx4,reduceCtorEq];try rfl)
      by_cases k3:kd=3
      · subst k3
        have h00:0<ps.length:=by omega
        simp only [beq_false_of_ne (show (3:Int)≠0 by omega),beq_false_of_ne (show (3:Int)≠1 by omega),Bz2,Bz1,Bz3,yzn,yz1,go_sem,yz0,xx9,xx8,xx6,xx7,xx5,xx0,xx1,xx2,reduceIte,xx3,xx4,reduceCtorEq]
        intro _ _ _ _ _ _ _ _ _
        simp only [beq_false_of_ne (show (3:Int)≠2 by omega),Bz7,yzn,wpD_gh,go_sem,yz0,xx9,xx8,xx6,xx7,xx5,xx0,xx1,xx2,reduceIte,xx3,xx4,reduceCtorEq]
        intro _
        refine ⟨[],?_⟩
        simp only [beq_self_eq_true,Bzc,rwp_getD h00,gwp_nil,yzn,yz1,go_sem,yz0,xx9,xx8,xx6,xx7,xx5,xx0,xx1,xx2,reduceIte,xx3,xx4,reduceCtorEq]
        intro _ _ _ vs9 U9 hN9
        have hlw:(rwp ps).length=ps.length:=rwp_len
        refine ⟨by omega,by omega,by omega,by omega,by omega,by omega,by omega,by rw [List.length_append,List.length_singleton];omega,?_⟩
        generalize hp0:ps.getD 0 (0,[])=p0
        have hp0m:p0∈ps:=hp0 ▸ yzq h00 (0,[])
        have e5:rwp ps ++ [AVal.ro (some (some (p0.1+1))) 1 (ints p0.2)] ++ [AVal.ro (some (some (p0.1+1))) 1 (ints p0.2),AVal.ro (some (some (p0.1+1))) 1 (ints p0.2)]=rwp (ps ++ [p0] ++ [p0,p0]):=by simp only [rwp,List.map_append,List.map_cons,List.map_nil]
        rw [e5]
        have hl6:(ps ++ [p0] ++ [p0,p0]).length=ps.length+3:=by simp
        exact h12 _ v2 v3 10 (vs9 19 0) o6 _ .gone .gone .gone a2 s2 n (ps ++ [p0] ++ [p0,p0]) (fun h=>absurd h (by omega)) (by omega) (by omega) (fun p hp=>by
          simp only [List.mem_append,List.mem_cons,List.not_mem_nil,or_false] at hp
          rcases hp with (hp | rfl) | rfl | rfl
          · exact hps p hp
          · exact hps _ hp0m
          · exact hps _ hp0m
          · exact hps _ hp0m) (by omega) (.inr (.inl ⟨rfl,rfl⟩)) (by simp only [go_sem,yz0,xx9,xx8,xx6,xx7,xx5,xx0,xx1,xx2,reduceIte,xx3,xx4,reduceCtorEq];try rfl)
      by_cases k4:kd=4
      · subst k4
        simp only [beq_false_of_ne (show (4:Int)≠0 by omega),beq_false_of_ne (show (4:Int)≠1 by omega),Bz2,Bz1,Bz3,yzn,yz1,go_sem,yz0,xx9,xx8,xx6,xx7,xx5,xx0,xx1,xx2,reduceIte,xx3,xx4,reduceCtorEq]
        intro _ _ _ _ _ _ _ _ _
        simp only [beq_false_of_ne (show (4:Int)≠2 by omega),Bz7,yzn,wpD_gh,go_sem,yz0,xx9,xx8,xx6,xx7,xx5,xx0,xx1,xx2,reduceIte,xx3,xx4,reduceCtorEq]
        intro _
        refine ⟨[],?_⟩
        simp only [beq_false_of_ne (show (4:Int)≠3 by omega),Bzc,Bz12,beq_self_eq_true,gwp_nil,yzn,yz1,go_sem,yz0,xx9,xx8,xx6,xx7,xx5,xx0,xx1,xx2,reduceIte,xx3,xx4,reduceCtorEq]
        intro _ _ _ _ _ _ vs9 U9 hN9
        exact h12 _ v2 v3 77 (vs9 0 0) o6 _ .gone .gone _ a2 s2 n [] (fun _=>by simp [DJ]) (by simp) (by omega) (by simp) (by omega) (.inr (.inr ⟨rfl,rfl⟩)) (by simp only [rwp_nil,go_sem,yz0,xx9,xx8,xx6,xx7,xx5,xx0,xx1,xx2,reduceIte,xx3,xx4,reduceCtorEq];try rfl)
      simp only [beq_false_of_ne k0,beq_false_of_ne k1,Bz2,Bz1,Bz3,yzn,yz1,go_sem,yz0,xx9,xx8,xx6,xx7,xx5,xx0,xx1,xx2,reduceIte,xx3,xx4,reduceCtorEq]
      intro _ _ _ _ _ _ _ _ _
      simp only [beq_false_of_ne k2,Bz7,yzn,wpD_gh,go_sem,yz0,xx9,xx8,xx6,xx7,xx5,xx0,xx1,xx2,reduceIte,xx3,xx4,reduceCtorEq]
      intro _
      refine ⟨[],?_⟩
      simp only [beq_false_of_ne k3,beq_false_of_ne k4,Bzc,Bz12,gwp_nil,yzn,yz1,go_sem,yz0,xx9,xx8,xx6,xx7,xx5,xx0,xx1,xx2,reduceIte,xx3,xx4,reduceCtorEq]
      intro _ _ _ _ _ _
      exact h12 _ v2 v3 10 v o6 _ .gone .gone .gone a2 s2 n ps (fun _=>hd) (by omega) (by omega) hps (by omega) (.inr (.inl ⟨rfl,rfl⟩)) (by simp only [go_sem,yz0,xx9,xx8,xx6,xx7,xx5,xx0,xx1,xx2,reduceIte,xx3,xx4,reduceCtorEq];try rfl)
  simp only [Azd,Bzf0,yzn,yz1,go_sem,yz0,xx9,xx8,xx6,xx7,xx5,xx0,xx1,xx2,reduceIte,xx3,xx4,reduceCtorEq]
  intro vs0 U0 hN0 vs1 U1 hN1
  refine call_con (r:=5000) (k_DrawnN code at_ seed 6 hb (by omega) (by omega)) rfl (by simp only [Bool.not_true,rowIs,boxIs,coe_argN,coe_argNs,coe_ro_o,coeL_nil,yz12,coe_any,coe_val,coe_ro,yz16,yz17,coe_st,yz18,coe_rp,yz19,coe_clo,coe_own0,coe_ptr0,yz15,coeL_rws,coeL_rwn,L_hit,L_miss,L_nil,xx3,ne_eq,reduceCtorEq,not_false_eq_true,true_and,and_true,and_self,exists_eq_left,exists_eq_right,List.mem_cons,List.not_mem_nil,or_false,AObj.row.injEq,AObj.box.injEq,exists_eq_left',exists_and_left,exists_eq,Nat.zero_lt_one,Nat.lt_add_one,List.map_cons,List.map_nil,AObj.ver,xx5,not_true_eq_false]) (by simp only [Bool.not_true,rowIs,boxIs,coe_argN,coe_argNs,coe_ro_o,coeL_nil,yz12,coe_any,coe_val,coe_ro,yz16,yz17,coe_st,yz18,coe_rp,yz19,coe_clo,coe_own0,coe_ptr0,yz15,coeL_rws,coeL_rwn,L_hit,L_miss,L_nil,xx3,ne_eq,reduceCtorEq,not_false_eq_true,true_and,and_true,and_self,exists_eq_left,exists_eq_right,List.mem_cons,List.not_mem_nil,or_false,AObj.row.injEq,AObj.box.injEq,exists_eq_left',exists_and_left,exists_eq,Nat.zero_lt_one,Nat.lt_add_one,List.map_cons,List.map_nil,AObj.ver,xx5,not_true_eq_false]) ?_
  rintro outs rows res ⟨q,qs,vq,a1,s1,A,hd,hq3,h1,h2,rfl,rfl,rfl⟩
  refine ⟨rfl,by simp,by rw [Option.getD_some,yzl];simp only [go_sem,yz0,xx9,xx8,xx6,xx7,xx5,xx0,xx1,xx2,reduceIte,xx3,xx4,reduceCtorEq],?_⟩
  rw [Option.getD_some,callHp_mr (by omega)]
  have hv0:∀ y,vs1 1 y≠0:=fun y e=>by
    have h:=hN1.hp 5000
    simp only [AObj.uses,go_sem,yz0,xx9,xx8,xx6,xx7,xx5,xx0,xx1,xx2,reduceIte,xx3,xx4,reduceCtorEq] at h
    exact hN1.new 1 y (by rw [e];exact h.1)
  simp only [renL_rwp,Bzez,yzn,yz1,Nat.not_lt_zero,range1,yzx,yz11,ren_ro,rnNm_n,yz10,rnNm_o,rnNm_s,ren_st,yzy,yzp,yzf,yz4,yzu,yzv,yzo,yzm,yzs,yzb,yzd,yzc,yza,yzj,yzi,yz3,yz7,yz8,yz9,yzg,yzk,List.range_zero,yz6,yz5,yze,yzt,yzl,yzr,AVal.fresh,freshL,yz2,yzh,AObj.fresh,id,Option.isSome_some,or_true,true_or,go_sem,yz0,xx9,xx8,xx6,xx7,xx5,xx0,xx1,xx2,reduceIte,xx3,xx4,reduceCtorEq]
  intro vs2 U2 hN2
  clear hN2
  have hsi:=fun l (h:L .gone l 5000=.box 0 (srcC code at_ seed))=>sv_inj (hp:=L .gone l) (r:=5000) h (fun x y e=>(hN1.inj _ _ _ _ e).2) hv0
  have hs0:=fun l (h:L .gone l 5000=.box 0 (srcC code at_ seed))=>(sv_m (s:=vs1 1) h:sv (L .gone l) [5000] (vs1 1) 0=0)
  generalize hl0:[(2,AObj.box (vs0 0 0) [iv 0,AVal.val (Value.slice none 0 0)]),(3,AObj.gone),(6,AObj.gone),(10,AObj.gone),(61,AObj.gone),(73,AObj.gone),(77,AObj.gone),(5000,AObj.box 0 (srcC code at_ seed)),(901,AObj.gone)]=l0
  have hi:=hsi l0 (by rw [← hl0];rfl)
  have h0:=hs0 l0 (by rw [← hl0];rfl)
  generalize sv (L .gone l0) [5000] (vs1 1)=f at hi h0 ⊢
  rw [h0]
  have A0:Aut q ((qs.map fun p=>(f p.1,p.2)).map (·.2)):=by rw [List.map_map];exact A
  have hd0:=hd.ren hi
  generalize (qs.map fun p=>(f p.1,p.2))=ps0 at A0 hd0 ⊢
  refine call_funB (k_one code a1 s1 8 hb (by omega)) rfl qCS qCS ?_
  rintro cs' x ⟨a2,s2,b2,rfl,g1,g2,rfl⟩
  simp only [Bzey,yzn,yz1,go_sem,yz0,xx9,xx8,xx6,xx7,xx5,xx0,xx1,xx2,reduceIte,xx3,xx4,reduceCtorEq]
  refine ⟨fun _ vs3 U3 hN3=>?_,fun _=>?_⟩
  · refine call_con (r:=5000) (k_DrawnN code a2 s2 10 hb (by omega) (by omega)) rfl (by simp only [Bool.not_true,rowIs,boxIs,coe_argN,coe_argNs,coe_ro_o,coeL_nil,yz12,coe_any,coe_val,coe_ro,yz16,yz17,coe_st,yz18,coe_rp,yz19,coe_clo,coe_own0,coe_ptr0,yz15,coeL_rws,coeL_rwn,L_hit,L_miss,L_nil,xx3,ne_eq,reduceCtorEq,not_false_eq_true,true_and,and_true,and_self,exists_eq_left,exists_eq_right,List.mem_cons,List.not_mem_nil,or_false,AObj.row.injEq,AObj.box.injEq,exists_eq_left',exists_and_left,exists_eq,Nat.zero_lt_one,Nat.lt_add_one,List.map_cons,List.map_nil,AObj.ver,xx5,not_true_eq_false]) (by simp only [Bool.not_true,rowIs,boxIs,coe_argN,coe_argNs,coe_ro_o,coeL_nil,yz12,coe_any,coe_val,coe_ro,yz16,yz17,coe_st,yz18,coe_rp,yz19,coe_clo,coe_own0,coe_ptr0,yz15,coeL_rws,coeL_rwn,L_hit,L_miss,L_nil,xx3,ne_eq,reduceCtorEq,not_false_eq_true,true_and,and_true,and_self,exists_eq_left,exists_eq_right,List.mem_cons,List.not_mem_nil,or_false,AObj.row.injEq,AObj.box.injEq,exists_eq_left',exists_and_left,exists_eq,Nat.zero_lt_one,Nat.lt_add_one,List.map_cons,List.map_nil,AObj.ver,xx5,not_true_eq_false]) ?_
    rintro outs rows res ⟨q',qs',vq',a3,s3,A',hd',hq',g3,g4,rfl,rfl,rfl⟩
    refine ⟨rfl,by simp,by rw [Option.getD_some,yzl];simp only [go_sem,yz0,xx9,xx8,xx6,xx7,xx5,xx0,xx1,xx2,reduceIte,xx3,xx4,reduceCtorEq],?_⟩
    rw [Option.getD_some,callHp_mr (by omega)]
    have hv1:∀ y,vs3 1 y≠0:=fun y e=>by
      have h:=hN3.hp 5000
      simp only [AObj.uses,go_sem,yz0,xx9,xx8,xx6,xx7,xx5,xx0,xx1,xx2,reduceIte,xx3,xx4,reduceCtorEq] at h
      exact hN3.new 1 y (by rw [e];exact h.1)
    simp only [renL_rwp,yzn,yz1,Nat.not_lt_zero,range1,yzx,yz11,ren_ro,rnNm_n,yz10,rnNm_o,rnNm_s,ren_st,yzy,yzp,yzf,yz4,yzu,yzv,yzo,yzm,yzs,yzb,yzd,yzc,yza,yzj,yzi,yz3,yz7,yz8,yz9,yzg,yzk,List.range_zero,yz6,yz5,yze,yzt,yzl,yzr,AVal.fresh,freshL,yz2,yzh,AObj.fresh,id,Option.isSome_some,or_true,true_or,go_sem,yz0,xx9,xx8,xx6,xx7,xx5,xx0,xx1,xx2,reduceIte,xx3,xx4,reduceCtorEq]
    have hsi:=fun l (h:L .gone l 5000=.box 0 (srcC code a2 s2))=>sv_inj (hp:=L .gone l) (r:=5000) h (fun x y e=>(hN3.inj _ _ _ _ e).2) hv1
    have hs0:=fun l (h:L .gone l 5000=.box 0 (srcC code a2 s2))=>(sv_m (s:=vs3 1) h:sv (L .gone l) [5000] (vs3 1) 0=0)
    generalize hl1:[(2,AObj.box (vs0 0 0) [iv 0,AVal.val (Value.slice none 0 0)]),(3,AObj.box (vs1 2 0) [iv q,.own 6 (f vq)]),(6,AObj.row (f vq) 1 true (rwp ps0)),(10,AObj.gone),(61,AObj.gone),(73,AObj.gone),(77,AObj.gone),(5000,AObj.box 0 (srcC code a2 s2)),(901,AObj.gone)]=l1
    have hi1:=hsi l1 (by rw [← hl1];rfl)
    have h01:=hs0 l1 (by rw [← hl1];rfl)
    generalize sv (L .gone l1) [5000] (vs3 1)=f1 at hi1 h01 ⊢
    rw [h01]
    have A1:Aut q' ((qs'.map fun p=>(f1 p.1,p.2)).map (·.2)):=by rw [List.map_map];exact A'
    have hd1:=hd'.ren hi1
    generalize (qs'.map fun p=>(f1 p.1,p.2))=ps1 at A1 hd1 ⊢
    exact h4 _ (vs0 0 0) (vs1 2 0) 10 (f1 vq') _ _ a3 s3 q' ps1 A1 hd1 (by omega) (.inr ⟨rfl,rfl⟩) (by simp only [← hl1,go_sem,yz0,xx9,xx8,xx6,xx7,xx5,xx0,xx1,xx2,reduceIte,xx3,xx4,reduceCtorEq];try rfl)
  · exact h4 _ (vs0 0 0) (vs1 2 0) 6 (f vq) _ .gone a2 s2 q ps0 A0 hd0 (by omega) (.inl ⟨rfl,rfl⟩) (by simp only [go_sem,yz0,xx9,xx8,xx6,xx7,xx5,xx0,xx1,xx2,reduceIte,xx3,xx4,reduceCtorEq];try rfl)
end Go.Ab
namespace Go.Ab
open Go.Proofs
def FRen (F:Int→List (Nat×List Int)→Prop):Prop:=∀ n ps (f:Nat→Nat),(∀ x y,f x=f y→x=y)→F n ps→F n (ps.map fun p=>(f p.1,p.2))
theorem New.box {vs:Nat→Nat→Nat} {U:Nat→Prop} {σ:St} {r v:Nat} {cs:List AVal} (h:New vs U σ) (hr:σ.hp r=.box v cs) (i y:Nat):vs i y≠v:=fun e=>by
  have h1:=h.hp r
  rw [hr] at h1
  simp only [AObj.uses] at h1
  exact h.new i y (by rw [e];exact h1.1)
theorem call_lo {P:Program} {F:Int→List (Nat×List Int)→Prop} (hF:FRen F) {σ:St} {g:FuncId} {As args:List AVal} {d:Nat} {s:Nat→Nat} {K:St→Prop} {r v:Nat} {code:List Int} {a s0 k:Int}
    (h:Con P g [.box 0 (srcC code a s0)] (.ptr 5000 0 0 :: args) true fun outs rows res=>∃ n ps v a' s',F n ps∧a≤a'∧a'≤a+k∧outs=[.box 0 (srcC code a' s')]∧rows=[.row v 1 true (rwp ps)]∧res=.st [iv n,.own 6000 v])
    (hr:σ.hp r=.box v (srcC code a s0)) (hs:∀ x y,s x=s y→x=y) (hv:∀ y,s y≠v) (hco:CoeL σ.hp [r] false args As) (hd:σ.hp d=.gone)
    (hk:∀ n ps v' a' s',F n ps→a≤a'→a'≤a+k→K (St.put ⟨σ.tm,upd (upd σ.hp r (.box v (srcC code a' s'))) d (.row v' 1 true (rwp ps))⟩ (some d) (.st [iv n,.own d v']))):wpCall P false σ g (.ptr r v 0 :: As) (some d) s K:=by
  have hne:d≠r:=fun e=>by rw [e,hr] at hd;cases hd
  refine call_con (r:=r) h hr (by simp only [Bool.not_true,rowIs,boxIs,coe_argN,coe_argNs,coe_ro_o,coeL_nil,yz12,coe_any,coe_val,coe_ro,yz16,yz17,coe_st,yz18,coe_rp,yz19,coe_clo,coe_own0,coe_ptr0,yz15,coeL_rws,coeL_rwn,L_hit,L_miss,L_nil,xx3,ne_eq,reduceCtorEq,not_false_eq_true,true_and,and_true,and_self,exists_eq_left,exists_eq_right,List.mem_cons,List.not_mem_nil,or_false,AObj.row.injEq,AObj.box.injEq,exists_eq_left',exists_and_left,exists_eq,Nat.zero_lt_one,Nat.lt_add_one,List.map_cons,List.map_nil,AObj.ver,xx5,not_true_eq_false]) (by rw [Bool.not_true,yz12,coe_ptr0,hr];exact ⟨rfl,hco⟩) ?_
  rintro outs rows res ⟨n,ps,w,a',s',hf,h1,h2,rfl,rfl,rfl⟩
  refine ⟨rfl,by simp,by rw [Option.getD_some,yzl];exact hd,?_⟩
  rw [Option.getD_some,callHp_mr hne]
  have hi:=sv_inj (hp:=σ.hp) (r:=r) hr hs hv
  have h0:sv σ.hp [r] s 0=v:=sv_m hr
  simp only [yzo,yzm,renL_rwp,renL_flat _ flat_srcC,ren_st,yzf,yzp,yzx,List.length_singleton,yz3,h0]
  exact hk n _ _ a' s' (hF n ps _ hi hf) h1 h2
theorem call_lo0 {P:Program} {F:Int→List (Nat×List Int)→Prop} (hF:FRen F) {σ:St} {g:FuncId} {As args:List AVal} {d:Nat} {s:Nat→Nat} {K:St→Prop}
    (h:Con P g [] args true fun outs rows res=>outs=[]∧∃ n v ps,F n ps∧rows=[.row v 1 true (rwp ps)]∧res=.st [iv n,.own 6000 v])
    (hs:∀ x y,s x=s y→x=y) (hco:CoeL σ.hp [] false args As) (hd:σ.hp d=.gone)
    (hk:∀ n ps v',F n ps→K (St.put ⟨σ.tm,upd σ.hp d (.row v' 1 true (rwp ps))⟩ (some d) (.st [iv n,.own d v']))):wpCall P false σ g As (some d) s K:=by
  refine call_sh h hco (fun e=>by cases e) ?_
  rintro outs rows res ⟨rfl,n,w,ps,hf,rfl,rfl⟩
  refine ⟨rfl,by simp,by rw [Option.getD_some,yzl];exact hd,?_⟩
  rw [Option.getD_some,yz5]
  simp only [yzm,renL_rwp,ren_st,yzf,yzp,yzx,List.length_singleton,yz3]
  exact hk n _ _ (hF n ps _ hs hf)
theorem call_lo2 {P:Program} {F:Int→List (Nat×List Int)→Prop} (hF:FRen F) {σ:St} {g:FuncId} {As args:List AVal} {d:Nat} {s:Nat→Nat} {K:St→Prop} {r v:Nat} {code:List Int} {a s0 k:Int}
    (h:Con P g [.box 0 (srcC code a s0)] (.ptr 5000 0 0 :: args) true fun outs rows res=>∃ n ps v w xs a' s',F n ps∧a≤a'∧a'≤a+k∧outs=[.box 0 (srcC code a' s')]∧rows=[.row v 1 true (rwp ps),.row w 1 true (ints xs)]∧res=.tup [.st [iv n,.own 6000 v],.own 6001 w])
    (hr:σ.hp r=.box v (srcC code a s0)) (hs:∀ x y,s x=s y→x=y) (hv:∀ y,s y≠v) (hco:CoeL σ.hp [r] false args As) (hd:σ.hp d=.gone) (hd2:σ.hp (d+1000)=.gone)
    (hk:∀ n ps v' w' xs a' s',F n ps→a≤a'→a'≤a+k→K (St.put ⟨σ.tm,upd (upd (upd σ.hp r (.box v (srcC code a' s'))) d (.row v' 1 true (rwp ps))) (d+1000) (.row w' 1 true (ints xs))⟩ (some d) (.tup [.st [iv n,.own d v'],.own (d+1000) w']))):wpCall P false σ g (.ptr r v 0 :: As) (some d) s K:=by
  have hne:d≠r:=fun e=>by rw [e,hr] at hd;cases hd
  have hne2:d+1000≠r:=fun e=>by rw [e,hr] at hd2;cases hd2
  refine call_con (r:=r) h hr (by simp only [Bool.not_true,rowIs,boxIs,coe_argN,coe_argNs,coe_ro_o,coeL_nil,yz12,coe_any,coe_val,coe_ro,yz16,yz17,coe_st,yz18,coe_rp,yz19,coe_clo,coe_own0,coe_ptr0,yz15,coeL_rws,coeL_rwn,L_hit,L_miss,L_nil,xx3,ne_eq,reduceCtorEq,not_false_eq_true,true_and,and_true,and_self,exists_eq_left,exists_eq_right,List.mem_cons,List.not_mem_nil,or_false,AObj.row.injEq,AObj.box.injEq,exists_eq_left',exists_and_left,exists_eq,Nat.zero_lt_one,Nat.lt_add_one,List.map_cons,List.map_nil,AObj.ver,xx5,not_true_eq_false]) (by rw [Bool.not_true,yz12,coe_ptr0,hr];exact ⟨rfl,hco⟩) ?_
  rintro outs rows res ⟨n,ps,w,w2,xs,a',s',hf,h1,h2,rfl,rfl,rfl⟩
  refine ⟨rfl,by simp,by rw [Option.getD_some,yzr];exact ⟨hd,hd2⟩,?_⟩
  rw [Option.getD_some,callHp_mrr hne hne2]
  have hi:=sv_inj (hp:=σ.hp) (r:=r) hr hs hv
  have h0:sv σ.hp [r] s 0=v:=sv_m hr
  have e2:([AObj.row w 1 true (rwp ps),AObj.row w2 1 true (ints xs)]:List AObj).length=2:=rfl
  simp only [yzo,yzm,renL_rwp,renL_flat _ flat_srcC,ren_st,yzy,yzf,yzp,yz4,yzx,e2,yz3,yz7,h0]
  exact hk n _ _ _ xs a' s' (hF n ps _ hi hf) h1 h2
def FAut (m:Int) (n:Int) (ps:List (Nat×List Int)):Prop:=Aut n (ps.map (·.2))∧DJ ps∧n≤m
def FLo (n:Int) (ps:List (Nat×List Int)):Prop:=(ps.length≤3→DJ ps)∧ps.length≤10∧-1≤n∧n≤11∧∀ p∈ps,p.2.length≤10
theorem map_named {ps:List (Nat×List Int)} {f:Nat→Nat}:(ps.map fun p=>(f p.1,p.2)).map (·.2)=ps.map (·.2):=by rw [List.map_map];rfl
theorem FAut_ren (m:Int):FRen (FAut m):=by
  rintro n ps f hf ⟨h1,h2,h3⟩
  exact ⟨by rw [map_named];exact h1,h2.ren hf,h3⟩
theorem FLo_ren:FRen FLo:=by
  rintro n ps f hf ⟨h1,h2,h3,h4,h5⟩
  refine ⟨fun h=>(h1 (by simpa using h)).ren hf,by simpa using h2,h3,h4,fun p hp=>?_⟩
  obtain ⟨q,hq,rfl⟩:=List.mem_map.1 hp
  exact h5 q hq
theorem FAut.lo {m n:Int} {ps:List (Nat×List Int)} (h:FAut m n ps):FLo n ps:=by
  obtain ⟨A,hd,hm⟩:=h
  have n1:=A.n1
  have n2:=A.n2
  have l2:=A.l2
  rw [List.length_map] at l2
  exact ⟨fun _=>hd,by omega,by omega,by omega,fun p hp=>by have:=(A.row p.2 (List.mem_map.2 ⟨p,hp,rfl⟩)).1;omega⟩
theorem DJ_refrozen {A2 C2:List (Nat×List Int)} {b:Nat×List Int} {m:Nat} {cur:List Int} (hd:DJ (A2 ++ b :: C2))
    (hf:∀ n k'' cs'',AVal.ro (some (some (n+1))) k'' cs''∈rwp A2 ++ AVal.own 901 m :: rwp C2→cs''≠[]→n≠m):DJ (A2 ++ (m,cur) :: C2):=DJ_in hd fun p hp=>by
  by_cases e:p.2=[]
  · exact .inl e
  · refine .inr (hf p.1 1 (ints p.2) ?_ (by simpa using e))
    rcases List.mem_append.1 hp with h | h
    · exact List.mem_append.2 (.inl (List.mem_map.2 ⟨p,h,rfl⟩))
    · exact List.mem_append.2 (.inr (List.mem_cons.2 (.inr (List.mem_map.2 ⟨p,h,rfl⟩))))
theorem Aut_put {n:Int} {A2 C2:List (Nat×List Int)} {b:Nat×List Int} {u:Nat} {cur:List Int} (A:Aut n ((A2 ++ b :: C2).map (·.2))) (hl:cur.length=b.2.length) (hm:∀ x∈cur,0≤x∧x<n):Aut n ((A2 ++ (u,cur) :: C2).map (·.2)):=by
  have l1:=A.l1
  have l2:=A.l2
  have hbr:=A.row b.2 (by simp)
  refine ⟨A.n1,A.n2,by rw [List.length_map] at l1 ⊢;simpa using l1,by rw [List.length_map] at l2 ⊢;simpa using l2,fun row hr=>?_⟩
  rw [List.map_append,List.map_cons,List.mem_append,List.mem_cons] at hr
  rcases hr with h | h | h
  · exact A.row row (by rw [List.map_append];exact List.mem_append.2 (.inl h))
  · rw [h];exact ⟨by dsimp only;omega,hm⟩
  · exact A.row row (by rw [List.map_append,List.map_cons];exact List.mem_append.2 (.inr (List.mem_cons_of_mem _ h)))
theorem k_l02Drawn (code:List Int) (at_ seed:Int) (hb:∀ x∈code,0≤x∧x≤255) (ha:0≤at_∧at_≤10000) :
    Con Try.prog nz3h [.box 0 (srcC code at_ seed)] [.ptr 5000 0 0] true fun outs rows res=>∃ n ps v a' s',FLo n ps∧at_≤a'∧a'≤at_+5000∧outs=[.box 0 (srcC code a' s')]∧rows=[.row v 1 true (rwp ps)]∧res=.st [iv n,.own 6000 v]:=by
  refine con_sh mixed czhi rfl (by simp) ?_
  generalize hQ:finQ _=Q
  simp only [Azb,Bzcb,yzn,yz1,go_sem,yz0,xx9,xx8,xx6,xx7,xx5,xx0,xx1,xx2,reduceIte,xx3,xx4,reduceCtorEq]
  intro vs0 U0 hN0 vs1 U1 hN1
  refine call_funB (k_pick code at_ seed 6 hb (by omega)) rfl qCS qCS ?_
  rintro cs' x ⟨a1,s1,b1,rfl,g1,g2,rfl,g3,g4⟩
  by_cases k0:b1=0
  · subst k0
    simp only [Bzx,Bzw,beq_self_eq_true,yzn,yz1,go_sem,yz0,xx9,xx8,xx6,xx7,xx5,xx0,xx1,xx2,reduceIte,xx3,xx4,reduceCtorEq]
    intro vs2 U2 hN2 vs3 U3 hN3
    refine call_funB (k_pick code a1 s1 6 hb (by omega)) rfl qCS qCS ?_
    rintro cs' x ⟨a2,s2,b2,rfl,g5,g6,rfl,g7,g8⟩
    have w1:IntKind.i64.wrap (2+b2)=2+b2:=w64 (by omega)
    simp only [w1,yzn,yz1,go_sem,yz0,xx9,xx8,xx6,xx7,xx5,xx0,xx1,xx2,reduceIte,xx3,xx4,reduceCtorEq]
    refine call_lo0 (FAut_ren 10) (Con.mono (k_l02SlowN (2+b2) (by omega)) ?_) (fun x y e=>(hN3.inj _ _ _ _ e).2) qCS qGN ?_
    · rintro outs rows res ⟨h1,v,ps,h2,h3,h4,h5⟩
      exact ⟨h1,_,v,ps,⟨h2,h3,by omega⟩,h4,h5⟩
    intro n ps v' hf
    simp only [← hQ,Azb,yzn,yz1,go_sem,yz0,xx9,xx8,xx6,xx7,xx5,xx0,xx1,xx2,reduceIte,xx3,xx4,reduceCtorEq]
    refine ⟨[14],by simp,by simp,by simp,?_⟩
    simp only [range1,List.length_singleton,renL_rwp,Nat.not_lt_zero,range1,yzx,yz11,ren_ro,rnNm_n,yz10,rnNm_o,rnNm_s,ren_st,yzy,yzp,yzf,yz4,yzu,yzv,yzo,yzm,yzs,yzb,yzd,yzc,yza,yzj,yzi,yz3,yz7,yz8,yz9,yzg,yzk,List.range_zero,yz6,yz5,yze,yzt,yzl,yzr,AVal.fresh,freshL,yz2,yzh,AObj.fresh,id,Option.isSome_some,or_true,true_or,go_sem,yz0,xx9,xx8,xx6,xx7,xx5,xx0,xx1,xx2,reduceIte,xx3,xx4,reduceCtorEq]
    exact ⟨n,ps,v',a2,s2,hf.lo,by omega,by omega,rfl,by simp,rfl⟩
  by_cases k1:b1=1
  · subst k1
    simp only [beq_false_of_ne (show (1:Int)≠0 by omega),Bzx,Bzw,Bz2c,beq_self_eq_true,yzn,yz1,go_sem,yz0,xx9,xx8,xx6,xx7,xx5,xx0,xx1,xx2,reduceIte,xx3,xx4,reduceCtorEq]
    intro vs2 U2 hN2 vs3 U3 hN3 vs4 U4 hN4
    refine call_lo2 (k:=2000) (FAut_ren 10) (Con.mono (k_l01Alike code a1 s1 hb (by omega)) ?_) rfl (fun x y e=>(hN4.inj _ _ _ _ e).2) (hN4.box (r:=5000) rfl 1) qCS qGN qGN ?_
    · rintro outs rows res ⟨n,ps,v,w,xs,a',s',h1,h2,h3,h4,h5,h6⟩
      exact ⟨n,ps,v,w,xs,a',s',⟨h1,h2,by omega⟩,h4,h5,h6⟩
    intro n ps v' w' xs a2 s2 hf h1 h2
    simp only [yzn,yz1,go_sem,yz0,xx9,xx8,xx6,xx7,xx5,xx0,xx1,xx2,reduceIte,xx3,xx4,reduceCtorEq]
    simp only [Bzc7,← hQ,Azb,yzn,yz1,go_sem,yz0,xx9,xx8,xx6,xx7,xx5,xx0,xx1,xx2,reduceIte,xx3,xx4,reduceCtorEq]
    intro vs5 U5 hN5
    refine ⟨[19],by simp,by simp,by simp,?_⟩
    simp only [range1,List.length_singleton,renL_rwp,Nat.not_lt_zero,range1,yzx,yz11,ren_ro,rnNm_n,yz10,rnNm_o,rnNm_s,ren_st,yzy,yzp,yzf,yz4,yzu,yzv,yzo,yzm,yzs,yzb,yzd,yzc,yza,yzj,yzi,yz3,yz7,yz8,yz9,yzg,yzk,List.range_zero,yz6,yz5,yze,yzt,yzl,yzr,AVal.fresh,freshL,yz2,yzh,AObj.fresh,id,Option.isSome_some,or_true,true_or,go_sem,yz0,xx9,xx8,xx6,xx7,xx5,xx0,xx1,xx2,reduceIte,xx3,xx4,reduceCtorEq]
    exact ⟨n,ps,v',a2,s2,hf.lo,by omega,by omega,rfl,by simp,rfl⟩
  by_cases k2:b1=2
  · subst k2
    simp only [beq_false_of_ne (show (2:Int)≠0 by omega),beq_false_of_ne (show (2:Int)≠1 by omega),Bzx,Bzw,Bz2c,Bz5o,beq_self_eq_true,yzn,yz1,go_sem,yz0,xx9,xx8,xx6,xx7,xx5,xx0,xx1,xx2,reduceIte,xx3,xx4,reduceCtorEq]
    intro vs2 U2 hN2 vs3 U3 hN3 vs4 U4 hN4 vs5 U5 hN5
    refine call_lo (k:=3000) FLo_ren (Con.mono (k_l01Bent code a1 s1 hb (by omega)) ?_) rfl (fun x y e=>(hN5.inj _ _ _ _ e).2) (hN5.box (r:=5000) rfl 1) qCS qGN ?_
    · rintro outs rows res ⟨n,ps,v,a',s',h1,h2,h3,h4,h5,h6⟩
      exact ⟨n,ps,v,a',s',⟨h1,h2,h3,h4,h5⟩,h6⟩
    intro n ps v' a2 s2 hf h1 h2
    simp only [← hQ,Azb,yzn,yz1,go_sem,yz0,xx9,xx8,xx6,xx7,xx5,xx0,xx1,xx2,reduceIte,xx3,xx4,reduceCtorEq]
    refine ⟨[26],by simp,by simp,by simp,?_⟩
    simp only [range1,List.length_singleton,renL_rwp,Nat.not_lt_zero,range1,yzx,yz11,ren_ro,rnNm_n,yz10,rnNm_o,rnNm_s,ren_st,yzy,yzp,yzf,yz4,yzu,yzv,yzo,yzm,yzs,yzb,yzd,yzc,yza,yzj,yzi,yz3,yz7,yz8,yz9,yzg,yzk,List.range_zero,yz6,yz5,yze,yzt,yzl,yzr,AVal.fresh,freshL,yz2,yzh,AObj.fresh,id,Option.isSome_some,or_true,true_or,go_sem,yz0,xx9,xx8,xx6,xx7,xx5,xx0,xx1,xx2,reduceIte,xx3,xx4,reduceCtorEq]
    exact ⟨n,ps,v',a2,s2,hf,by omega,by omega,rfl,by simp,rfl⟩
  simp only [beq_false_of_ne k0,beq_false_of_ne k1,beq_false_of_ne k2,Bzx,Bzw,Bz2c,Bz5o,Bzca,yzn,yz1,go_sem,yz0,xx9,xx8,xx6,xx7,xx5,xx0,xx1,xx2,reduceIte,xx3,xx4,reduceCtorEq]
  intro vs2 U2 hN2 vs3 U3 hN3 vs4 U4 hN4 vs5 U5 hN5
  refine call_lo (k:=1000) (FAut_ren 6) (Con.mono (k_DrawnN code a1 s1 6 hb (by omega) (by omega)) ?_) rfl (fun x y e=>(hN5.inj _ _ _ _ e).2) (hN5.box (r:=5000) rfl 1) qCS qGN ?_
  · rintro outs rows res ⟨n,ps,v,a',s',h1,h2,h3,h4,h5,h6⟩
    exact ⟨n,ps,v,a',s',⟨h1,h2,h3⟩,h4,h5,h6⟩
  intro n ps v' a2 s2 hf h1 h2
  simp only [Bzc9,yzn,yz1,go_sem,yz0,xx9,xx8,xx6,xx7,xx5,xx0,xx1,xx2,reduceIte,xx3,xx4,reduceCtorEq]
  intro vs6 U6 hN6
  refine call_funB (k_one code a2 s2 2 hb (by omega)) rfl qCS qCS ?_
  rintro cs' x ⟨a3,s3,b3,rfl,g5,g6,rfl⟩
  obtain ⟨A,hdj,hn6⟩:=hf
  have l1:=A.l1
  have l2:=A.l2
  have n1:=A.n1
  have n2:=A.n2
  rw [List.length_map] at l1 l2
  have hend:∀ (σ:St) (v2 v5:Nat) (ps:List (Nat×List Int)) (a s:Int),FLo n ps→at_≤a∧a≤at_+5000 →
      σ.keep [2,5] [2,3,5,14,19,26,28,1019,5000,901]=⟨L .any [(2,.ptr 2 v2 0),(5,.ptr 5 v5 0)],
        L .gone [(2,.box v2 [iv 0,.val (.slice none 0 0)]),(3,.gone),(5,.box v5 [iv n,.own 28 v']),(14,.gone),(19,.gone),(26,.gone),(28,.row v' 1 true (rwp ps)),(1019,.gone),(5000,.box 0 (srcC code a s)),(901,.gone)]⟩ →
      wpD Try.prog Bz2d Q σ:=by
    intro σ v2 v5 ps a s hf ha' hS
    unfold Bz2d
    rw [yzn,hS]
    simp only [wpD_gh]
    intro _
    refine ⟨[],?_⟩
    simp only [gwp_nil,yzn,yz1,go_sem,yz0,xx9,xx8,xx6,xx7,xx5,xx0,xx1,xx2,reduceIte,xx3,xx4,reduceCtorEq]
    intro vs U hN
    simp only [← hQ,Azb,go_sem,yz0,xx9,xx8,xx6,xx7,xx5,xx0,xx1,xx2,reduceIte,xx3,xx4,reduceCtorEq]
    refine ⟨[28],by simp,by simp,by simp,?_⟩
    simp only [range1,List.length_singleton,renL_rwp,Nat.not_lt_zero,range1,yzx,yz11,ren_ro,rnNm_n,yz10,rnNm_o,rnNm_s,ren_st,yzy,yzp,yzf,yz4,yzu,yzv,yzo,yzm,yzs,yzb,yzd,yzc,yza,yzj,yzi,yz3,yz7,yz8,yz9,yzg,yzk,List.range_zero,yz6,yz5,yze,yzt,yzl,yzr,AVal.fresh,freshL,yz2,yzh,AObj.fresh,id,Option.isSome_some,or_true,true_or,go_sem,yz0,xx9,xx8,xx6,xx7,xx5,xx0,xx1,xx2,reduceIte,xx3,xx4,reduceCtorEq]
    exact ⟨n,ps,v',a,s,hf,ha'.1,ha'.2,rfl,by simp,rfl⟩
  cases b3 with
  | false =>
    simp only [Bz5p,yzn,yz1,go_sem,yz0,xx9,xx8,xx6,xx7,xx5,xx0,xx1,xx2,reduceIte,xx3,xx4,reduceCtorEq]
    exact hend _ (vs0 0 0) (vs5 2 0) ps a3 s3 (FAut.lo ⟨A,hdj,hn6⟩) (by omega) (by simp only [go_sem,yz0,xx9,xx8,xx6,xx7,xx5,xx0,xx1,xx2,reduceIte,xx3,xx4,reduceCtorEq];try rfl)
  | true =>
    simp only [Bz5p,rwp_len,yzn,yz1,go_sem,yz0,xx9,xx8,xx6,xx7,xx5,xx0,xx1,xx2,reduceIte,xx3,xx4,reduceCtorEq]
    intro vs7 U7 hN7 hM7
    refine call_funB (k_pick code a3 s3 ps.length hb (by omega)) rfl qCS qCS ?_
    rintro cs' x ⟨a4,s4,x0,rfl,g7,g8,rfl,g9,g10⟩
    have hat:x0.toNat<ps.length:=by omega
    obtain ⟨A2,b,C2,rfl,hAk⟩:=rwp_split hat
    have hbr:=A.row b.2 (by simp)
    have hbn:b.2≠[]:=fun e=>by rw [e] at hbr;simp at hbr;omega
    have F0a:=DJ_out hdj hbn
    simp only [Bzc8,yzn,wpD_gh,go_sem,yz0,xx9,xx8,xx6,xx7,xx5,xx0,xx1,xx2,reduceIte,xx3,xx4,reduceCtorEq]
    intro _
    refine ⟨[.thaw 28 x0.toNat 901],gwp_thaw (n:=b.1) rfl (rwp_get hAk.symm) (by simpa using hbn) rfl fun m1=>?_⟩
    have hset:(woL b.1 (rwp (A2 ++ b :: C2))).set x0.toNat (AVal.own 901 m1)=rwp A2 ++ AVal.own 901 m1 :: rwp C2:=by rw [← hAk];exact woL_set F0a
    have ho1:(rwp A2 ++ AVal.own 901 m1 :: rwp C2).getD x0.toNat .any=.own 901 m1:=own_at hAk.symm
    have hol:(rwp A2 ++ AVal.own 901 m1 :: rwp C2).length=A2.length+(C2.length+1):=by rw [List.length_append,List.length_cons,rwp_len,rwp_len]
    have hkl:x0.toNat<(rwp A2 ++ AVal.own 901 m1 :: rwp C2).length:=by omega
    simp only [hset,woT,woO,woL_cons,woL_nil,woV_val,woV_own,wo_ptr,wo_o,woL_ints,wo_st,woO_row,woO_box,woO_gone,wo_any,gwp_nil,yzn,yz1,go_sem,yz0,xx9,xx8,xx6,xx7,xx5,xx0,xx1,xx2,reduceIte,xx3,xx4,reduceCtorEq]
    intro vs8 U8 hN8
    simp only [ho1,go_sem,yz0,xx9,xx8,xx6,xx7,xx5,xx0,xx1,xx2,reduceIte,xx3,xx4,reduceCtorEq]
    refine ⟨⟨g9,hkl⟩,hkl,?_⟩
    refine call_funBN (k_pick code a4 s4 n hb (by omega)) rfl (by simp) qCS qCS ⟨srcC code a4 0,.int .i64 0,⟨a4,0,0,rfl,by omega,by omega,rfl,by omega,.inr rfl⟩,flat_srcC⟩ ?_
    rintro cs' x ⟨a5,s5,y1,rfl,p1,p2,rfl,p3,p4⟩
    have hy1:y1.toNat<b.2.length:=by omega
    simp only [ho1,yzn,yz1,go_sem,yz0,xx9,xx8,xx6,xx7,xx5,xx0,xx1,xx2,reduceIte,xx3,xx4,reduceCtorEq]
    refine ⟨⟨g9,hkl⟩,hkl,?_⟩
    refine call_funBN (k_pick code a5 s5 n hb (by omega)) rfl (by simp) qCS qCS ⟨srcC code a5 0,.int .i64 0,⟨a5,0,0,rfl,by omega,by omega,rfl,by omega,.inr rfl⟩,flat_srcC⟩ ?_
    rintro cs' x ⟨a6,s6,y2,rfl,p5,p6,rfl,p7,p8⟩
    have hy2:y2.toNat<b.2.length:=by omega
    simp only [yzw hy2,yzn,yz1,go_sem,yz0,xx9,xx8,xx6,xx7,xx5,xx0,xx1,xx2,reduceIte,xx3,xx4,reduceCtorEq]
    refine ⟨⟨p7,hy2⟩,hy2,⟨p3,hy1⟩,hy1,?_⟩
    have hcl:=lput_len (xs:=b.2) (v:=b.2.getD y2.toNat 0) hy1
    have hcm:=lput_mem (xs:=b.2) (i:=y1.toNat) (v:=b.2.getD y2.toNat 0) (Q:=fun z=>0≤z∧z<n) hbr.2 (hbr.2 _ (yzq hy2 0))
    simp only [ints_put]
    generalize hcu:b.2.take y1.toNat ++ [b.2.getD y2.toNat 0] ++ b.2.drop (y1.toNat+1)=cur at hcl hcm ⊢
    simp only [Bz2d,yzn,wpD_gh,go_sem,yz0,xx9,xx8,xx6,xx7,xx5,xx0,xx1,xx2,reduceIte,xx3,xx4,reduceCtorEq]
    intro hD
    refine ⟨[.rf 28 x0.toNat 901],gwp_rf (k:=1) (nn:=true) rfl (own_get hAk.symm) (by decide) rfl fun hf=>?_⟩
    have D1:=DJ_refrozen hdj hf (cur:=cur)
    have A1:=Aut_put A (u:=m1) hcl hcm
    have hset4:∀ X:AVal,(rwp A2 ++ AVal.own 901 m1 :: rwp C2).set x0.toNat X=rwp A2 ++ X :: rwp C2:=fun X=>by
      rw [← hAk,List.set_append_right _ _ (by rw [rwp_len];exact Nat.le_refl _),rwp_len,Nat.sub_self];rfl
    simp only [hset4,frNm_t,rwp_cat,gwp_nil,yzn,yz1,go_sem,yz0,xx9,xx8,xx6,xx7,xx5,xx0,xx1,xx2,reduceIte,xx3,xx4,reduceCtorEq]
    intro vs9 U9 hN9
    simp only [← hQ,Azb,go_sem,yz0,xx9,xx8,xx6,xx7,xx5,xx0,xx1,xx2,reduceIte,xx3,xx4,reduceCtorEq]
    refine ⟨[28],by simp,by simp,by simp,?_⟩
    simp only [range1,List.length_singleton,renL_rwp,Nat.not_lt_zero,range1,yzx,yz11,ren_ro,rnNm_n,yz10,rnNm_o,rnNm_s,ren_st,yzy,yzp,yzf,yz4,yzu,yzv,yzo,yzm,yzs,yzb,yzd,yzc,yza,yzj,yzi,yz3,yz7,yz8,yz9,yzg,yzk,List.range_zero,yz6,yz5,yze,yzt,yzl,yzr,AVal.fresh,freshL,yz2,yzh,AObj.fresh,id,Option.isSome_some,or_true,true_or,go_sem,yz0,xx9,xx8,xx6,xx7,xx5,xx0,xx1,xx2,reduceIte,xx3,xx4,reduceCtorEq]
    exact ⟨n,A2 ++ (m1,cur) :: C2,v',a6,s6,FAut.lo ⟨A1,D1,hn6⟩,by omega,by omega,rfl,by simp,rfl⟩
theorem k_l03Linked (code:List Int) (at_ seed:Int) (hb:∀ x∈code,0≤x∧x≤255) (ha:0≤at_∧at_≤1000) :
    Con Try.prog nz18 [.box 0 (srcC code at_ seed)] [.ptr 5000 0 0] true fun outs rows res=>∃ n ps v a' s',FLo n ps∧at_≤a'∧a'≤at_+6000∧outs=[.box 0 (srcC code a' s')]∧rows=[.row v 1 true (rwp ps)]∧res=.st [iv n,.own 6000 v]:=by
  refine con_sh mixed czgy rfl (by simp) ?_
  generalize hQ:finQ _=Q
  simp only [Az1z,Bz9j,yzn,yz1,go_sem,yz0,xx9,xx8,xx6,xx7,xx5,xx0,xx1,xx2,reduceIte,xx3,xx4,reduceCtorEq]
  intro vs0 U0 hN0 vs1 U1 hN1
  refine call_lo (k:=5000) FLo_ren (k_l02Drawn code at_ seed hb (by omega)) rfl (fun x y e=>(hN1.inj _ _ _ _ e).2) (hN1.box (r:=5000) rfl 1) qCS qGN ?_
  intro n ps v' a1 s1 hf h1 h2
  have hend:∀ (σ:St) (v2 v3:Nat) (a s:Int),at_≤a∧a≤at_+6000 →
      σ.keep [2,3] [2,3,6,5000,901]=⟨L .any [(2,.ptr 2 v2 0),(3,.ptr 3 v3 0)],
        L .gone [(2,.box v2 [iv 0,.val (.slice none 0 0)]),(3,.box v3 [iv n,.own 6 v']),(6,.row v' 1 true (rwp ps)),(5000,.box 0 (srcC code a s)),(901,.gone)]⟩ →
      wpD Try.prog Bz1y Q σ:=by
    intro σ v2 v3 a s ha' hS
    unfold Bz1y
    rw [yzn,hS]
    simp only [wpD_gh]
    intro _
    refine ⟨[],?_⟩
    simp only [gwp_nil,yzn,yz1,go_sem,yz0,xx9,xx8,xx6,xx7,xx5,xx0,xx1,xx2,reduceIte,xx3,xx4,reduceCtorEq]
    intro vs U hN
    simp only [← hQ,Az1z,go_sem,yz0,xx9,xx8,xx6,xx7,xx5,xx0,xx1,xx2,reduceIte,xx3,xx4,reduceCtorEq]
    refine ⟨[6],by simp,by simp,by simp,?_⟩
    simp only [range1,List.length_singleton,renL_rwp,Nat.not_lt_zero,range1,yzx,yz11,ren_ro,rnNm_n,yz10,rnNm_o,rnNm_s,ren_st,yzy,yzp,yzf,yz4,yzu,yzv,yzo,yzm,yzs,yzb,yzd,yzc,yza,yzj,yzi,yz3,yz7,yz8,yz9,yzg,yzk,List.range_zero,yz6,yz5,yze,yzt,yzl,yzr,AVal.fresh,freshL,yz2,yzh,AObj.fresh,id,Option.isSome_some,or_true,true_or,go_sem,yz0,xx9,xx8,xx6,xx7,xx5,xx0,xx1,xx2,reduceIte,xx3,xx4,reduceCtorEq]
    exact ⟨n,ps,v',a,s,hf,ha'.1,ha'.2,rfl,by simp,rfl⟩
  simp only [Bz9i,yzn,yz1,go_sem,yz0,xx9,xx8,xx6,xx7,xx5,xx0,xx1,xx2,reduceIte,xx3,xx4,reduceCtorEq]
  intro vs2 U2 hN2
  refine yzz (k_l01Ok n (ps.map (·.2))) (by simp only [coeL_rwp_t,rowIs,boxIs,coe_argN,coe_argNs,coe_ro_o,coeL_nil,yz12,coe_any,coe_val,coe_ro,yz16,yz17,coe_st,yz18,coe_rp,yz19,coe_clo,coe_own0,coe_ptr0,yz15,coeL_rws,coeL_rwn,L_hit,L_miss,L_nil,xx3,ne_eq,reduceCtorEq,not_false_eq_true,true_and,and_true,and_self,exists_eq_left,exists_eq_right,List.mem_cons,List.not_mem_nil,or_false,AObj.row.injEq,AObj.box.injEq,exists_eq_left',exists_and_left,exists_eq,Nat.zero_lt_one,Nat.lt_add_one,List.map_cons,List.map_nil,AObj.ver,xx5,not_true_eq_false]) trivial ?_
  cases hA:autB n (ps.map (·.2)) with
  | false =>
    simp only [Bz1x,yzn,yz1,go_sem,yz0,xx9,xx8,xx6,xx7,xx5,xx0,xx1,xx2,reduceIte,xx3,xx4,reduceCtorEq]
    exact hend _ (vs0 0 0) (vs1 2 0) a1 s1 (by omega) (by simp only [go_sem,yz0,xx9,xx8,xx6,xx7,xx5,xx0,xx1,xx2,reduceIte,xx3,xx4,reduceCtorEq];try rfl)
  | true =>
    have A:=autB_iff.1 hA
    have n1:=A.n1
    have n2:=A.n2
    have l1:=A.l1
    have l2:=A.l2
    rw [List.length_map] at l1 l2
    have hdj:DJ ps:=hf.1 l2
    simp only [yzn,yz1,go_sem,yz0,xx9,xx8,xx6,xx7,xx5,xx0,xx1,xx2,reduceIte,xx3,xx4,reduceCtorEq]
    refine call_funB (k_one code a1 s1 4 hb (by omega)) rfl qCS qCS ?_
    rintro cs' x ⟨a2,s2,b2,rfl,g1,g2,rfl⟩
    cases b2 with
    | true =>
      simp only [Bz1x,Bool.not_true,yzn,yz1,go_sem,yz0,xx9,xx8,xx6,xx7,xx5,xx0,xx1,xx2,reduceIte,xx3,xx4,reduceCtorEq]
      exact hend _ (vs0 0 0) (vs1 2 0) a2 s2 (by omega) (by simp only [go_sem,yz0,xx9,xx8,xx6,xx7,xx5,xx0,xx1,xx2,reduceIte,xx3,xx4,reduceCtorEq];try rfl)
    | false =>
      obtain ⟨A2,b,C2,rfl,hAk⟩:=rwp_split (show 0<ps.length by omega)
      have hbr:=A.row b.2 (by simp)
      have hbn:b.2≠[]:=fun e=>by rw [e] at hbr;simp at hbr;omega
      have F0a:=DJ_out hdj hbn
      simp only [Bz1x,Bool.not_false,yzn,yz1,go_sem,yz0,xx9,xx8,xx6,xx7,xx5,xx0,xx1,xx2,reduceIte,xx3,xx4,reduceCtorEq]
      intro vs3 U3 hN3
      simp only [Bz9h,yzn,wpD_gh,go_sem,yz0,xx9,xx8,xx6,xx7,xx5,xx0,xx1,xx2,reduceIte,xx3,xx4,reduceCtorEq]
      intro _
      refine ⟨[.thaw 6 0 901],gwp_thaw (n:=b.1) rfl (rwp_get hAk.symm) (by simpa using hbn) rfl fun m1=>?_⟩
      have hset:(woL b.1 (rwp (A2 ++ b :: C2))).set 0 (AVal.own 901 m1)=rwp A2 ++ AVal.own 901 m1 :: rwp C2:=by rw [← hAk];exact woL_set F0a
      have ho1:(rwp A2 ++ AVal.own 901 m1 :: rwp C2).getD 0 .any=.own 901 m1:=own_at hAk.symm
      have hol:(rwp A2 ++ AVal.own 901 m1 :: rwp C2).length=A2.length+(C2.length+1):=by rw [List.length_append,List.length_cons,rwp_len,rwp_len]
      have hkl:0<(rwp A2 ++ AVal.own 901 m1 :: rwp C2).length:=by omega
      simp only [hset,woT,woO,woL_cons,woL_nil,woV_val,woV_own,wo_ptr,wo_o,woL_ints,wo_st,woO_row,woO_box,woO_gone,wo_any,gwp_nil,yzn,yz1,go_sem,yz0,xx9,xx8,xx6,xx7,xx5,xx0,xx1,xx2,reduceIte,xx3,xx4,reduceCtorEq]
      refine wpD_lp (fun (x:Nat×List Int)=>n.toNat - x.1) (fun x=>(x.1:Int)≤n∧x.2.length=b.2.length∧∀ z∈x.2,0≤z∧z<n)
        (fun (x:Nat×List Int)=>⟨L .any [(2,.ptr 2 (vs0 0 0) 0),(3,.ptr 3 (vs1 2 0) 0),(4,iv x.1)],
          L .gone [(2,.box (vs0 0 0) [iv 0,.val (.slice none 0 0)]),(3,.box (vs1 2 0) [iv n,.own 6 v']),(6,.row v' 1 true (rwp A2 ++ .own 901 m1 :: rwp C2)),(5000,.box 0 (srcC code a2 s2)),(901,.row m1 1 true (ints x.2))]⟩)
        (0,b.2) ⟨by simp;omega,rfl,hbr.2⟩ (by simp only [Bz1w,go_sem,yz0,xx9,xx8,xx6,xx7,xx5,xx0,xx1,xx2,reduceIte,xx3,xx4,reduceCtorEq];try rfl) ?_
      rintro ⟨i,cur⟩ ⟨h3,h4,h5⟩
      have h3:(i:Int)≤n:=h3
      have h4:cur.length=b.2.length:=h4
      have h5:∀ z∈cur,0≤z∧z<n:=h5
      by_cases hlt:(i:Int)<n
      · have w1:IntKind.i64.wrap ((i:Int)+1)=((i+1:Nat):Int):=by rw [w64 (by omega)];simp
        have hn0:¬ n=0:=by omega
        have hil:i<cur.length:=by omega
        have t1:=tmod_in (a:=((i+1:Nat):Int)) (n:=n) (by omega) (by omega)
        simp only [Bz1w,Bz4o,Bz9g,decide_eq_true hlt,yzn,yz1,go_sem,yz0,xx9,xx8,xx6,xx7,xx5,xx0,xx1,xx2,reduceIte,xx3,xx4,reduceCtorEq]
        intro vs4 U4 hN4 vs5 U5 hN5
        simp only [ho1,w1,hn0,go_sem,yz0,xx9,xx8,xx6,xx7,xx5,xx0,xx1,xx2,reduceIte,xx3,xx4,reduceCtorEq]
        refine ⟨hkl,hkl,⟨by omega,hil⟩,by omega,?_⟩
        have hcl:=lput_len (xs:=cur) (v:=((i+1:Nat):Int).tmod n) hil
        have hcm:=lput_mem (xs:=cur) (i:=i) (v:=((i+1:Nat):Int).tmod n) (Q:=fun z=>0≤z∧z<n) h5 t1
        simp only [ints_put]
        generalize hcu:cur.take i ++ [((i+1:Nat):Int).tmod n] ++ cur.drop (i+1)=cur2 at hcl hcm ⊢
        simp only [Bz9f,w1,yzn,yz1,go_sem,yz0,xx9,xx8,xx6,xx7,xx5,xx0,xx1,xx2,reduceIte,xx3,xx4,reduceCtorEq]
        intro vs6 U6 hN6
        exact ⟨(i+1,cur2),by dsimp only;omega,⟨by dsimp only;omega,by dsimp only;omega,hcm⟩,rfl⟩
      · simp only [Bz1w,Bz4o,Bz1y,decide_eq_false hlt,yzn,yz1,wpD_gh,go_sem,yz0,xx9,xx8,xx6,xx7,xx5,xx0,xx1,xx2,reduceIte,xx3,xx4,reduceCtorEq]
        intro vs4 U4 hN4 hD
        refine ⟨[.rf 6 0 901],gwp_rf (k:=1) (nn:=true) rfl (own_get hAk.symm) (by decide) rfl fun hf2=>?_⟩
        have D1:=DJ_refrozen hdj hf2 (cur:=cur)
        have A1:=Aut_put A (u:=m1) h4 h5
        have hset4:∀ X:AVal,(rwp A2 ++ AVal.own 901 m1 :: rwp C2).set 0 X=rwp A2 ++ X :: rwp C2:=fun X=>by
          rw [← hAk,List.set_append_right _ _ (by rw [rwp_len];exact Nat.le_refl _),rwp_len,Nat.sub_self];rfl
        simp only [hset4,frNm_t,rwp_cat,gwp_nil,yzn,yz1,go_sem,yz0,xx9,xx8,xx6,xx7,xx5,xx0,xx1,xx2,reduceIte,xx3,xx4,reduceCtorEq]
        intro vs9 U9 hN9
        simp only [← hQ,Az1z,go_sem,yz0,xx9,xx8,xx6,xx7,xx5,xx0,xx1,xx2,reduceIte,xx3,xx4,reduceCtorEq]
        refine ⟨[6],by simp,by simp,by simp,?_⟩
        simp only [range1,List.length_singleton,renL_rwp,Nat.not_lt_zero,range1,yzx,yz11,ren_ro,rnNm_n,yz10,rnNm_o,rnNm_s,ren_st,yzy,yzp,yzf,yz4,yzu,yzv,yzo,yzm,yzs,yzb,yzd,yzc,yza,yzj,yzi,yz3,yz7,yz8,yz9,yzg,yzk,List.range_zero,yz6,yz5,yze,yzt,yzl,yzr,AVal.fresh,freshL,yz2,yzh,AObj.fresh,id,Option.isSome_some,or_true,true_or,go_sem,yz0,xx9,xx8,xx6,xx7,xx5,xx0,xx1,xx2,reduceIte,xx3,xx4,reduceCtorEq]
        exact ⟨n,A2 ++ (m1,cur) :: C2,v',a2,s2,FAut.lo (m:=10) ⟨A1,D1,by omega⟩,by omega,by omega,rfl,by simp,rfl⟩
theorem k_A2Automaton (code:List Int) (hb:∀ x∈code,0≤x∧x≤255) :
    Con Try.prog nz2z [] [.ro (some (some 0)) 1 (intsK .u8 code)] true fun outs rows res=>outs=[]∧∃ n next v,Aut n next∧n≤7∧rows=[.row v 1 true (rws next)]∧res=.st [iv n,.own 6000 v]:=by
  refine con_sh mixed czgl rfl (by simp) ?_
  generalize hQ:finQ _=Q
  simp only [Azv,Bz7q,go_sem,yz0,xx9,xx8,xx6,xx7,xx5,xx0,xx1,xx2,reduceIte,xx3,xx4,reduceCtorEq]
  intro vs0 vs1
  refine call_sh (k_from code) qCS (fun e=>by cases e) ?_
  rintro outs rows res ⟨rfl,v,rfl,rfl⟩
  refine ⟨rfl,by simp,by rw [Option.getD_some,yzl];rfl,?_⟩
  simp only [Bz7p,Nat.not_lt_zero,range1,yzx,yz11,ren_ro,rnNm_n,yz10,rnNm_o,rnNm_s,ren_st,yzy,yzp,yzf,yz4,yzu,yzv,yzo,yzm,yzs,yzb,yzd,yzc,yza,yzj,yzi,yz3,yz7,yz8,yz9,yzg,yzk,List.range_zero,yz6,yz5,yze,yzt,yzl,yzr,AVal.fresh,freshL,yz2,yzh,AObj.fresh,id,Option.isSome_some,or_true,true_or,go_sem,yz0,xx9,xx8,xx6,xx7,xx5,xx0,xx1,xx2,reduceIte,xx3,xx4,reduceCtorEq]
  intro vs2
  have h:Con Try.prog nz18 [.box 0 (srcC code 0 0)] [.ptr 5000 0 0] true fun outs rows res=>∃ n next v a' s',outs=[.box 0 (srcC code a' s')]∧rows=[.row v 1 true (rws next)]∧res=.st [iv n,.own 6000 v]:=by
    refine Con.dnr (k_l03Linked code 0 0 hb (by omega)) ?_
    rintro o r x ⟨n,ps,v,a',s',hf,h1,h2,rfl,rfl,rfl⟩
    refine ⟨n,ps.map (·.2),v,a',s',?_,?_,?_⟩
    · simp only [List.map_cons,List.map_nil,AObj.dn,dnL,AVal.dn,dnL_ints,dnNm]
    · simp only [List.map_cons,List.map_nil,AObj.dn,dnL_rwp]
    · simp only [AVal.dn,dnL]
  refine call_con (r:=6) h rfl (by simp only [Bool.not_true,rowIs,boxIs,coe_argN,coe_argNs,coe_ro_o,coeL_nil,yz12,coe_any,coe_val,coe_ro,yz16,yz17,coe_st,yz18,coe_rp,yz19,coe_clo,coe_own0,coe_ptr0,yz15,coeL_rws,coeL_rwn,L_hit,L_miss,L_nil,xx3,ne_eq,reduceCtorEq,not_false_eq_true,true_and,and_true,and_self,exists_eq_left,exists_eq_right,List.mem_cons,List.not_mem_nil,or_false,AObj.row.injEq,AObj.box.injEq,exists_eq_left',exists_and_left,exists_eq,Nat.zero_lt_one,Nat.lt_add_one,List.map_cons,List.map_nil,AObj.ver,xx5,not_true_eq_false]) (by simp only [Bool.not_true,rowIs,boxIs,coe_argN,coe_argNs,coe_ro_o,coeL_nil,yz12,coe_any,coe_val,coe_ro,yz16,yz17,coe_st,yz18,coe_rp,yz19,coe_clo,coe_own0,coe_ptr0,yz15,coeL_rws,coeL_rwn,L_hit,L_miss,L_nil,xx3,ne_eq,reduceCtorEq,not_false_eq_true,true_and,and_true,and_self,exists_eq_left,exists_eq_right,List.mem_cons,List.not_mem_nil,or_false,AObj.row.injEq,AObj.box.injEq,exists_eq_left',exists_and_left,exists_eq,Nat.zero_lt_one,Nat.lt_add_one,List.map_cons,List.map_nil,AObj.ver,xx5,not_true_eq_false]) ?_
  rintro outs rows res ⟨n,next,v',a',s',rfl,rfl,rfl⟩
  refine ⟨rfl,by simp,by rw [Option.getD_some,yzl];simp only [go_sem,yz0,xx9,xx8,xx6,xx7,xx5,xx0,xx1,xx2,reduceIte,xx3,xx4,reduceCtorEq],?_⟩
  rw [Option.getD_some,callHp_mr (by omega)]
  have hslow:Con Try.prog nzn [] [iv 4] true fun outs rows res=>outs=[]∧∃ next v,Aut 4 next∧rows=[.row v 1 true (rws next)]∧res=.st [iv 4,.own 6000 v]:=by
    refine Con.dnr (k_l02SlowN 4 (by omega)) ?_
    rintro o r x ⟨rfl,v,ps,hA,hd,rfl,rfl⟩
    refine ⟨rfl,ps.map (·.2),v,hA,?_,?_⟩
    · simp only [List.map_cons,List.map_nil,AObj.dn,dnL_rwp]
    · simp only [AVal.dn,dnL]
  simp only [Bz7o,Nat.not_lt_zero,range1,yzx,yz11,ren_ro,rnNm_n,yz10,rnNm_o,rnNm_s,ren_st,yzy,yzp,yzf,yz4,yzu,yzv,yzo,yzm,yzs,yzb,yzd,yzc,yza,yzj,yzi,yz3,yz7,yz8,yz9,yzg,yzk,List.range_zero,yz6,yz5,yze,yzt,yzl,yzr,AVal.fresh,freshL,yz2,yzh,AObj.fresh,id,Option.isSome_some,or_true,true_or,go_sem,yz0,xx9,xx8,xx6,xx7,xx5,xx0,xx1,xx2,reduceIte,xx3,xx4,reduceCtorEq]
  intro vs3
  refine yzz (k_l01Ok n next) qCS trivial ?_
  cases hA:autB n next with
  | false =>
    simp only [Bz1m,Bz49,go_sem,yz0,xx9,xx8,xx6,xx7,xx5,xx0,xx1,xx2,reduceIte,xx3,xx4,reduceCtorEq]
    intro vs5
    refine call_sh hslow qCS (fun e=>by cases e) ?_
    rintro outs rows res ⟨rfl,next2,v2,A2,rfl,rfl⟩
    refine ⟨rfl,by simp,by rw [Option.getD_some,yzl];simp only [go_sem,yz0,xx9,xx8,xx6,xx7,xx5,xx0,xx1,xx2,reduceIte,xx3,xx4,reduceCtorEq],?_⟩
    simp only [← hQ,Azv,yz14,Nat.not_lt_zero,range1,yzx,yz11,ren_ro,rnNm_n,yz10,rnNm_o,rnNm_s,ren_st,yzy,yzp,yzf,yz4,yzu,yzv,yzo,yzm,yzs,yzb,yzd,yzc,yza,yzj,yzi,yz3,yz7,yz8,yz9,yzg,yzk,List.range_zero,yz6,yz5,yze,yzt,yzl,yzr,AVal.fresh,freshL,yz2,yzh,AObj.fresh,id,Option.isSome_some,or_true,true_or,go_sem,yz0,xx9,xx8,xx6,xx7,xx5,xx0,xx1,xx2,reduceIte,xx3,xx4,reduceCtorEq]
    refine ⟨[16],by simp,by simp,by simp,?_⟩
    simp only [Nat.not_lt_zero,range1,yzx,yz11,ren_ro,rnNm_n,yz10,rnNm_o,rnNm_s,ren_st,yzy,yzp,yzf,yz4,yzu,yzv,yzo,yzm,yzs,yzb,yzd,yzc,yza,yzj,yzi,yz3,yz7,yz8,yz9,yzg,yzk,List.range_zero,yz6,yz5,yze,yzt,yzl,yzr,AVal.fresh,freshL,yz2,yzh,AObj.fresh,id,Option.isSome_some,or_true,true_or,go_sem,yz0,xx9,xx8,xx6,xx7,xx5,xx0,xx1,xx2,reduceIte,xx3,xx4,reduceCtorEq]
    exact ⟨4,next2,_,A2,by omega,rfl,rfl⟩
  | true =>
    have A:=autB_iff.1 hA
    by_cases h7:n≤7
    · simp only [decide_eq_true h7,Bz1m,← hQ,Azv,yz14,go_sem,yz0,xx9,xx8,xx6,xx7,xx5,xx0,xx1,xx2,reduceIte,xx3,xx4,reduceCtorEq]
      refine ⟨[8],by simp,by simp,by simp,?_⟩
      simp only [Nat.not_lt_zero,range1,yzx,yz11,ren_ro,rnNm_n,yz10,rnNm_o,rnNm_s,ren_st,yzy,yzp,yzf,yz4,yzu,yzv,yzo,yzm,yzs,yzb,yzd,yzc,yza,yzj,yzi,yz3,yz7,yz8,yz9,yzg,yzk,List.range_zero,yz6,yz5,yze,yzt,yzl,yzr,AVal.fresh,freshL,yz2,yzh,AObj.fresh,id,Option.isSome_some,or_true,true_or,go_sem,yz0,xx9,xx8,xx6,xx7,xx5,xx0,xx1,xx2,reduceIte,xx3,xx4,reduceCtorEq]
      exact ⟨n,next,_,A,h7,rfl,rfl⟩
    · simp only [Bz1m,Bz49,decide_eq_false h7,go_sem,yz0,xx9,xx8,xx6,xx7,xx5,xx0,xx1,xx2,reduceIte,xx3,xx4,reduceCtorEq]
      intro vs5
      refine call_sh hslow qCS (fun e=>by cases e) ?_
      rintro outs rows res ⟨rfl,next2,v2,A2,rfl,rfl⟩
      refine ⟨rfl,by simp,by rw [Option.getD_some,yzl];simp only [go_sem,yz0,xx9,xx8,xx6,xx7,xx5,xx0,xx1,xx2,reduceIte,xx3,xx4,reduceCtorEq],?_⟩
      simp only [← hQ,Azv,yz14,Nat.not_lt_zero,range1,yzx,yz11,ren_ro,rnNm_n,yz10,rnNm_o,rnNm_s,ren_st,yzy,yzp,yzf,yz4,yzu,yzv,yzo,yzm,yzs,yzb,yzd,yzc,yza,yzj,yzi,yz3,yz7,yz8,yz9,yzg,yzk,List.range_zero,yz6,yz5,yze,yzt,yzl,yzr,AVal.fresh,freshL,yz2,yzh,AObj.fresh,id,Option.isSome_some,or_true,true_or,go_sem,yz0,xx9,xx8,xx6,xx7,xx5,xx0,xx1,xx2,reduceIte,xx3,xx4,reduceCtorEq]
      refine ⟨[16],by simp,by simp,by simp,?_⟩
      simp only [Nat.not_lt_zero,range1,yzx,yz11,ren_ro,rnNm_n,yz10,rnNm_o,rnNm_s,ren_st,yzy,yzp,yzf,yz4,yzu,yzv,yzo,yzm,yzs,yzb,yzd,yzc,yza,yzj,yzi,yz3,yz7,yz8,yz9,yzg,yzk,List.range_zero,yz6,yz5,yze,yzt,yzl,yzr,AVal.fresh,freshL,yz2,yzh,AObj.fresh,id,Option.isSome_some,or_true,true_or,go_sem,yz0,xx9,xx8,xx6,xx7,xx5,xx0,xx1,xx2,reduceIte,xx3,xx4,reduceCtorEq]
      exact ⟨4,next2,_,A2,by omega,rfl,rfl⟩
end Go.Ab
namespace Go.Ab
open Go.Proofs
theorem k_a2Has (xs:List Int) (x:Int):Fun Try.prog nzl [.ro none 1 (ints xs),iv x] (bv (xs.contains x)):=by
  refine fun_of mixed czgs rfl ⟨rfl,trivial⟩ ?_
  simp only [Az8o,Bz8n,Bz8l,go_sem,yz0,xx9,xx8,xx6,xx7,xx5,xx0,xx1,xx2,reduceIte,xx3,xx4,reduceCtorEq]
  refine wpD_lo (fun i=>xs.length - i) (fun i=>i≤xs.length∧(xs.drop i).contains x=xs.contains x)
    (fun i:Nat=>⟨L .any [(0,.ro none 1 (ints xs)),(1,iv x),(5,iv i)],L .gone []⟩) 0 (by simp) (by simp only [Bz1s,go_sem,yz0,xx9,xx8,xx6,xx7,xx5,xx0,xx1,xx2,reduceIte,xx3,xx4,reduceCtorEq];try rfl) ?_
  rintro i ⟨hi,he⟩
  by_cases hlt:(i:Int)<xs.length
  · have hlt1:i<xs.length:=by omega
    rw [drop_getD hlt1 0,List.contains_cons] at he
    simp only [Bz1s,Bz4e,Bz4g,yzw hlt1,decide_eq_true hlt,go_sem,yz0,xx9,xx8,xx6,xx7,xx5,xx0,xx1,xx2,reduceIte,xx3,xx4,reduceCtorEq]
    intro hM
    refine ⟨⟨by omega,hlt1⟩,hlt1,?_⟩
    rw [show (x == xs.getD i 0)=(xs.getD i 0 == x) from Bool.beq_comm] at he
    cases hx:(xs.getD i 0 == x) with
    | true =>
      rw [hx,Bool.true_or] at he
      simp only [Bz4f,← he,go_sem,yz0,xx9,xx8,xx6,xx7,xx5,xx0,xx1,xx2,reduceIte,xx3,xx4,reduceCtorEq]
    | false =>
      rw [hx,Bool.false_or] at he
      simp only [Bz4f,Bz8k,nat1 i _ hlt1 hM,go_sem,yz0,xx9,xx8,xx6,xx7,xx5,xx0,xx1,xx2,reduceIte,xx3,xx4,reduceCtorEq]
      exact ⟨i+1,by omega,⟨by omega,he⟩,rfl⟩
  · have:i=xs.length:=by omega
    subst this
    rw [List.drop_length] at he
    simp only [Bz1s,Bz4e,Bz4g,Bz8m,decide_eq_false hlt,go_sem,yz0,xx9,xx8,xx6,xx7,xx5,xx0,xx1,xx2,reduceIte,xx3,xx4,reduceCtorEq]
    intro _
    rw [← he];rfl
theorem k_a2Inside (xs ys:List Int):Fun Try.prog nz36 [.ro none 1 (ints xs),.ro none 1 (ints ys)] (bv (xs.all fun x=>ys.contains x)):=by
  refine fun_of mixed czgt rfl ⟨rfl,trivial⟩ ?_
  simp only [Az8t,Bz8s,Bz8q,go_sem,yz0,xx9,xx8,xx6,xx7,xx5,xx0,xx1,xx2,reduceIte,xx3,xx4,reduceCtorEq]
  refine wpD_lo (fun i=>xs.length - i) (fun i=>i≤xs.length∧((xs.drop i).all fun x=>ys.contains x)=xs.all fun x=>ys.contains x)
    (fun i:Nat=>⟨L .any [(0,.ro none 1 (ints xs)),(1,.ro none 1 (ints ys)),(5,iv i)],L .gone []⟩) 0 (by simp) (by simp only [Bz1t,go_sem,yz0,xx9,xx8,xx6,xx7,xx5,xx0,xx1,xx2,reduceIte,xx3,xx4,reduceCtorEq];try rfl) ?_
  rintro i ⟨hi,he⟩
  by_cases hlt:(i:Int)<xs.length
  · have hlt1:i<xs.length:=by omega
    rw [drop_getD hlt1 0,List.all_cons] at he
    simp only [Bz1t,Bz4h,Bz4j,yzw hlt1,decide_eq_true hlt,go_sem,yz0,xx9,xx8,xx6,xx7,xx5,xx0,xx1,xx2,reduceIte,xx3,xx4,reduceCtorEq]
    intro hM vs
    refine ⟨⟨by omega,hlt1⟩,hlt1,?_⟩
    refine yzz (k_a2Has ys (xs.getD i 0)) qCS trivial ?_
    cases hx:ys.contains (xs.getD i 0) with
    | false =>
      rw [hx,Bool.false_and] at he
      simp only [Bz4i,Bool.not_false,← he,go_sem,yz0,xx9,xx8,xx6,xx7,xx5,xx0,xx1,xx2,reduceIte,xx3,xx4,reduceCtorEq]
    | true =>
      rw [hx,Bool.true_and] at he
      simp only [Bz4i,Bz8p,Bool.not_true,nat1 i _ hlt1 hM,go_sem,yz0,xx9,xx8,xx6,xx7,xx5,xx0,xx1,xx2,reduceIte,xx3,xx4,reduceCtorEq]
      exact ⟨i+1,by omega,⟨by omega,he⟩,rfl⟩
  · have:i=xs.length:=by omega
    subst this
    rw [List.drop_length] at he
    simp only [Bz1t,Bz4h,Bz4j,Bz8r,decide_eq_false hlt,go_sem,yz0,xx9,xx8,xx6,xx7,xx5,xx0,xx1,xx2,reduceIte,xx3,xx4,reduceCtorEq]
    intro _
    rw [← he];rfl
end Go.Ab
namespace Go.Ab
open Go.Proofs
end Go.Ab
namespace Go.Ab
structure ClS (n:Int) (next:List (List Int)) (set:List Int):Prop where
  rg:∀ x∈set,0≤x∧x<n
  cl:∀ x∈set,∀ row∈next,row.getD x.toNat 0∈set
theorem renR_len {set row:List Int}:(renR set row).length=set.length:=by simp [renR]
theorem Aut.rest {n:Int} {next:List (List Int)} {set:List Int} (A:Aut n next) (C:ClS n next set) (h0:1≤set.length) (h1:set.length≤10):Aut set.length (next.map (renR set)):=by
  have l1:=A.l1
  have l2:=A.l2
  refine ⟨by omega,by omega,by rw [List.length_map];omega,by rw [List.length_map];omega,?_⟩
  intro row hr
  obtain ⟨row,hr',rfl⟩:=List.mem_map.1 hr
  refine ⟨by rw [renR_len],fun x hx=>?_⟩
  obtain ⟨s,hs,rfl⟩:=List.mem_map.1 hx
  obtain ⟨i,h1,h2,h3⟩:=fidx_eq 0 (C.cl s hs row hr')
  simp only [h1,Nat.zero_add]
  omega
theorem actA_getD {n:Int} {next:List (List Int)} {w:List Int} {i:Nat} (h:(i:Int)<n):(actA n next w).getD i 0=atA next i w:=by
  rw [List.getD_eq_getElem?_getD,actA,List.getElem?_map,List.getElem?_range (by omega)];rfl
end Go.Ab
namespace Go.Ab
open Go.Proofs
theorem k_a2Map (xs:List Int) (n:Int) (h:∀ x∈xs,0≤x∧x<n) (hl:(xs.length:Int)=n):Fun Try.prog nz39 [.ro none 1 (ints xs),iv n] (bv true):=by
  refine fun_of mixed czgw rfl ⟨rfl,trivial⟩ ?_
  simp only [Az9c,Bz9b,Bz99,go_sem,yz0,xx9,xx8,xx6,xx7,xx5,xx0,xx1,xx2,reduceIte,xx3,xx4,reduceCtorEq]
  refine wpD_lo (fun i=>xs.length - i) (fun i=>i≤xs.length)
    (fun (i:Nat)=>⟨L .any [(0,.ro none 1 (ints xs)),(1,iv n),(5,iv i)],L .gone []⟩)
    0 (by simp) (by simp only [Bz1v,go_sem,yz0,xx9,xx8,xx6,xx7,xx5,xx0,xx1,xx2,reduceIte,xx3,xx4,reduceCtorEq];try rfl) ?_
  intro i hi
  by_cases hlt:(i:Int)<xs.length
  · have hlt1:i<xs.length:=by omega
    have hx:=h _ (yzq hlt1 0)
    have g1:¬ xs.getD i 0<0:=by omega
    have g2:¬ xs.getD i 0 ≥ n:=by omega
    simp only [Bz1v,Bz4n,Bz98,yzw hlt1,decide_eq_true hlt,decide_eq_false g1,decide_eq_false g2,go_sem,yz0,xx9,xx8,xx6,xx7,xx5,xx0,xx1,xx2,reduceIte,xx3,xx4,reduceCtorEq]
    intro hM
    refine ⟨⟨by omega,hlt1⟩,hlt1,⟨by omega,hlt1⟩,hlt1,?_⟩
    simp only [Bz96,Bz97,nat1 i _ hlt1 hM,go_sem,yz0,xx9,xx8,xx6,xx7,xx5,xx0,xx1,xx2,reduceIte,xx3,xx4,reduceCtorEq]
    exact ⟨i+1,by omega,by omega,rfl⟩
  · have e1:((xs.length:Int) == n)=true:=by rw [hl];simp
    simp only [Bz1v,Bz4n,Bz9a,e1,decide_eq_false hlt,go_sem,yz0,xx9,xx8,xx6,xx7,xx5,xx0,xx1,xx2,reduceIte,xx3,xx4,reduceCtorEq]
end Go.Ab
namespace Go.Ab
def LeC (n:Nat) (cl us:List Int):Prop:=∀ i j:Nat,i<n→j<n→cl.getD i 0=cl.getD j 0→us.getD i 0=us.getD j 0
def RspC (n:Nat) (next:List (List Int)) (cl us:List Int):Prop:=∀ row∈next,∀ i j:Nat,i<n→j<n→cl.getD i 0=cl.getD j 0→us.getD (row.getD i 0).toNat 0=us.getD (row.getD j 0).toNat 0
theorem LeC.refl {n:Nat} {cl:List Int}:LeC n cl cl:=fun _ _ _ _ h=>h
theorem LeC.trans {n:Nat} {a b c:List Int} (h:LeC n a b) (k:LeC n b c):LeC n a c:=fun i j hi hj e=>k i j hi hj (h i j hi hj e)
structure JoinP (n:Nat) (next:List (List Int)) (cl:List Int) (s t:Nat) (us:List Int):Prop where
  ln:us.length=cl.length
  rg:∀ x∈us,x∈cl
  co:LeC n cl us
  st:us.getD s 0=us.getD t 0
  mn:∀ C:List Int,RspC n next C C→LeC n cl C→C.getD s 0=C.getD t 0→LeC n us C
  cg:∀ F:List Int,LeC n us F→RspC n next cl F→RspC n next us F
theorem JoinP.same {n:Nat} {next:List (List Int)} {cl:List Int} {s t:Nat} (h:cl.getD s 0=cl.getD t 0):JoinP n next cl s t cl :=
  ⟨rfl,fun _ h=>h,LeC.refl,h,fun _ _ h _=>h,fun _ _ h=>h⟩
def repI (a b:Int) (l:List Int):List Int:=l.map fun c=>if c=a then b else c
theorem repI_len {a b:Int} {l:List Int}:(repI a b l).length=l.length:=by simp [repI]
theorem repI_getD {a b:Int} {l:List Int} {i:Nat} (h:i<l.length):(repI a b l).getD i 0=if l.getD i 0=a then b else l.getD i 0:=by
  unfold repI
  rw [List.getD_eq_getElem?_getD,List.getElem?_map,List.getElem?_eq_getElem h,List.getD_eq_getElem?_getD,List.getElem?_eq_getElem h];rfl
structure JoinI (n:Nat) (next:List (List Int)) (cl:List Int) (s t:Nat) (l:Nat) (us:List Int):Prop where
  ln:us.length=cl.length
  rg:∀ x∈us,x∈repI (cl.getD s 0) (cl.getD t 0) cl
  co:LeC n (repI (cl.getD s 0) (cl.getD t 0) cl) us
  rw':∀ row∈next.take l,us.getD (row.getD s 0).toNat 0=us.getD (row.getD t 0).toNat 0
  mn:∀ C:List Int,RspC n next C C→LeC n cl C→C.getD s 0=C.getD t 0→LeC n us C
  cg:∀ F:List Int,LeC n us F→RspC n next (repI (cl.getD s 0) (cl.getD t 0) cl) F→RspC n next us F
theorem JoinI.zero {n:Nat} {next:List (List Int)} {cl:List Int} {s t:Nat} (hl:cl.length=n) (hs:s<n) (ht:t<n):JoinI n next cl s t 0 (repI (cl.getD s 0) (cl.getD t 0) cl):=by
  refine ⟨repI_len,fun _ h=>h,LeC.refl,by simp,fun C _ h e i j hi hj he=>?_,fun _ _ h=>h⟩
  rw [repI_getD (by omega),repI_getD (by omega)] at he
  split at he
  · rename_i h1
    have e1:=h i s hi hs h1
    split at he
    · rename_i h2
      have e2:=h j s hj hs h2
      rw [e1,e2]
    · have e2:=h j t hj ht he.symm
      rw [e1,e2,e]
  · split at he
    · rename_i h2
      have e2:=h j s hj hs h2
      have e1:=h i t hi ht he
      rw [e1,e2,e]
    · exact h i j hi hj he
theorem JoinI.step {n:Nat} {next:List (List Int)} {cl:List Int} {s t l:Nat} {us vs row:List Int} (I:JoinI n next cl s t l us) (hs:s<n) (ht:t<n)
    (hrow:row∈next) (htk:next.take (l+1)=next.take l ++ [row]) (hin:∀ r∈next,∀ i<n,(r.getD i 0).toNat<n) (J:JoinP n next us (row.getD s 0).toNat (row.getD t 0).toNat vs):JoinI n next cl s t (l+1) vs:=by
  refine ⟨J.ln.trans I.ln,fun x h=>I.rg x (J.rg x h),I.co.trans J.co,fun r hr=>?_,fun C hC hle he=>J.mn C hC (I.mn C hC hle he) (hC row hrow s t hs ht he),fun F hF hR=>J.cg F hF (I.cg F (J.co.trans hF) hR)⟩
  rw [htk] at hr
  rcases List.mem_append.1 hr with hr | hr
  · exact J.co _ _ (hin r (List.mem_of_mem_take hr) s hs) (hin r (List.mem_of_mem_take hr) t ht) (I.rw' r hr)
  · rw [List.mem_singleton.1 hr];exact J.st
theorem JoinI.done {n:Nat} {next:List (List Int)} {cl:List Int} {s t l:Nat} {us:List Int} (I:JoinI n next cl s t l us) (hl:cl.length=n) (hs:s<n) (ht:t<n) (hll:next.length≤l)
    (hin:∀ r∈next,∀ i<n,(r.getD i 0).toNat<n):JoinP n next cl s t us:=by
  have hco:LeC n cl us:=by
    intro i j hi hj he
    refine I.co i j hi hj ?_
    rw [repI_getD (by omega),repI_getD (by omega),he]
  refine ⟨I.ln,fun x h=>?_,hco,I.co s t hs ht ?_,I.mn,fun F hF hR=>I.cg F hF ?_⟩
  · have h1:=I.rg x h
    simp only [repI,List.mem_map] at h1
    obtain ⟨c,hc,rfl⟩:=h1
    split
    · exact yzq (by omega) 0
    · exact hc
  · rw [repI_getD (by omega),repI_getD (by omega),if_pos rfl]
    split <;> rfl
  · have hst:∀ row∈next,F.getD (row.getD s 0).toNat 0=F.getD (row.getD t 0).toNat 0:=fun row hrow =>
      hF _ _ (hin row hrow s hs) (hin row hrow t ht) (I.rw' row (by rw [List.take_of_length_le hll];exact hrow))
    intro row hrow i j hi hj he
    have h:=hR row hrow
    rw [repI_getD (by omega),repI_getD (by omega)] at he
    split at he
    · rename_i h1
      have e1:=h i s hi hs h1
      split at he
      · rename_i h2
        have e2:=h j s hj hs h2
        rw [e1,e2]
      · have e2:=h j t hj ht he.symm
        rw [e1,e2,hst row hrow]
    · split at he
      · rename_i h2
        have e2:=h j s hj hs h2
        have e1:=h i t hi ht he
        rw [e1,e2,hst row hrow]
      · exact h i j hi hj he
end Go.Ab
namespace Go.Ab
open Go.Proofs
end Go.Ab
namespace Go.Ab
open Go.Proofs
end Go.Ab
namespace Go.Ab
open Go.Proofs
theorem wpD_kpto {P:Program} {ts hs:List Nat} {a:AC} {Q:AEx→St→Prop} {σ σ':St} (h':wpD P (.kp ts hs (.dn a)) Q σ') (h:σ.kd ts hs=σ'.kd ts hs):wpD P (.kp ts hs (.dn a)) Q σ:=by
  show wpD P a Q ((σ.keep ts hs).dn)
  rw [kd_eq,h,← kd_eq];exact h'
end Go.Ab
namespace Go.Ab
open Go.Proofs
theorem con_all {n:Int} {next:List (List Int)} (A:Aut n next):conB n next=(List.range n.toNat).all fun (s:Nat)=>decide (((nrm (reachL n next s)).length:Int)=n):=by
  unfold conB
  rw [Bool.eq_iff_iff,List.all_eq_true,List.all_eq_true]
  have n1:=A.n1
  constructor
  · intro h s hs
    have h1:=h s hs
    have hs:=List.mem_range.1 hs
    rw [nrm_len_nd (reach_once A (s:=(s:Int)) (by omega)).nd] at h1 ⊢
    have h2:=(reach_once A (s:=(s:Int)) (by omega)).len n1
    have h3:¬ (((reachL n next s).length:Int)<n):=by simpa using h1
    rw [decide_eq_true_eq];omega
  · intro h s hs
    have h1:=h s hs
    rw [decide_eq_true_eq] at h1
    have h3:¬ (((nrm (reachL n next s)).length:Int)<n):=by omega
    rw [decide_eq_false h3];rfl
theorem con_mem {n:Int} {next:List (List Int)} (A:Aut n next) (h:conB n next=true) {t:Int} (ht:0≤t∧t<n):t∈reachL n next 0:=by
  have n1:=A.n1
  rw [con_all A] at h
  have h1:=List.all_eq_true.1 h 0 (List.mem_range.2 (by omega))
  have ho:=reach_once A (s:=0) (by omega)
  rw [decide_eq_true_eq] at h1
  have h1:((nrm (reachL n next 0)).length:Int)=n:=h1
  rw [nrm_len_nd ho.nd] at h1
  exact ord_all (n:=n) (by omega) ho.nd ho.rg ht
theorem PerI.per {n:Int} {next:List (List Int)} (A:Aut n next) (h:conB n next=true) {fs:List Int} {p:Int} (hI:PerI next (reachL n next 0) fs p (reachL n next 0).length 0):Per n next (fun s=>fs.getD ((reachL n next 0).idxOf s) 0) p:=by
  intro s x hs hx
  have hm:=con_mem A h hs
  have hl:=List.idxOf_lt_length_of_mem hm
  have hg:(reachL n next 0).getD ((reachL n next 0).idxOf s) 0=s:=by rw [getElem_of_getD hl,List.getElem_idxOf]
  have:=(hI.dv ((reachL n next 0).idxOf s) x.toNat (.inl hl) (by omega)).2
  rw [hg,show ((x.toNat:Nat):Int)=x by omega] at this
  exact this
theorem k_PeriodOf (n:Int) (next:List (List Int)) (A:Aut n next) :
    Fn Try.prog nz33 [autA n next] fun rows res=>rows=[]∧((conB n next=true∧∃ p far,1≤p∧p≤100∧Per n next far p∧res=.tup [iv p,iv 0])∨(conB n next=false∧res=.tup [iv 0,iv 4])):=by
  refine con_of mixed czgp rfl (by simp) ?_
  have hva:=k_Valid n next
  rw [autB_iff.2 A] at hva
  generalize hQ:finQ _=Q
  simp only [Az1o,Bz8c,go_sem,yz0,xx9,xx8,xx6,xx7,xx5,xx0,xx1,xx2,reduceIte,xx3,xx4,reduceCtorEq]
  intro vs vs2
  refine yzz hva qCS trivial ?_
  simp only [Bz8a,Bool.not_true,go_sem,yz0,xx9,xx8,xx6,xx7,xx5,xx0,xx1,xx2,reduceIte,xx3,xx4,reduceCtorEq]
  intro vs3
  refine yzz (k_isConnected n next A) qCS trivial ?_
  cases hc:conB n next with
  | false =>
    simp only [Bz4b,Bool.not_false,go_sem,yz0,xx9,xx8,xx6,xx7,xx5,xx0,xx1,xx2,reduceIte,xx3,xx4,reduceCtorEq]
    rw [← hQ]
    simp only [Az1o,Nat.not_lt_zero,range1,yzx,yz11,ren_ro,rnNm_n,yz10,rnNm_o,rnNm_s,ren_st,yzy,yzp,yzf,yz4,yzu,yzv,yzo,yzm,yzs,yzb,yzd,yzc,yza,yzj,yzi,yz3,yz7,yz8,yz9,yzg,yzk,List.range_zero,yz6,yz5,yze,yzt,yzl,yzr,AVal.fresh,freshL,yz2,yzh,AObj.fresh,id,Option.isSome_some,or_true,true_or,go_sem,yz0,xx9,xx8,xx6,xx7,xx5,xx0,xx1,xx2,reduceIte,xx3,xx4,reduceCtorEq]
    exact ⟨[],by simp,by simp,by simp,by simp,rfl,.inr hc⟩
  | true =>
    simp only [Bz4b,Bz8b,Bool.not_true,go_sem,yz0,xx9,xx8,xx6,xx7,xx5,xx0,xx1,xx2,reduceIte,xx3,xx4,reduceCtorEq]
    intro vs4
    refine call_fn (k_period n next A) qCS (fun e=>by cases e) ?_
    rintro rows res ⟨p,fs,rfl,rfl,hI⟩
    refine ⟨by simp,by simp,?_⟩
    simp only [Option.getD_some,Nat.not_lt_zero,range1,yzx,yz11,ren_ro,rnNm_n,yz10,rnNm_o,rnNm_s,ren_st,yzy,yzp,yzf,yz4,yzu,yzv,yzo,yzm,yzs,yzb,yzd,yzc,yza,yzj,yzi,yz3,yz7,yz8,yz9,yzg,yzk,List.range_zero,yz6,yz5,yze,yzt,yzl,yzr,AVal.fresh,freshL,yz2,yzh,AObj.fresh,id,Option.isSome_some,or_true,true_or,go_sem,yz0,xx9,xx8,xx6,xx7,xx5,xx0,xx1,xx2,reduceIte,xx3,xx4,reduceCtorEq]
    rw [← hQ]
    simp only [Az1o,Nat.not_lt_zero,range1,yzx,yz11,ren_ro,rnNm_n,yz10,rnNm_o,rnNm_s,ren_st,yzy,yzp,yzf,yz4,yzu,yzv,yzo,yzm,yzs,yzb,yzd,yzc,yza,yzj,yzi,yz3,yz7,yz8,yz9,yzg,yzk,List.range_zero,yz6,yz5,yze,yzt,yzl,yzr,AVal.fresh,freshL,yz2,yzh,AObj.fresh,id,Option.isSome_some,or_true,true_or,go_sem,yz0,xx9,xx8,xx6,xx7,xx5,xx0,xx1,xx2,reduceIte,xx3,xx4,reduceCtorEq]
    have hP:=hI.per A hc
    have h1:=hP.pos A
    have h2:=hI.pos
    exact ⟨[],by simp,by simp,by simp,by simp,rfl,.inl ⟨hc,p,_,by omega,h2.2,hP,rfl⟩⟩
theorem actA_rg4 {n:Int} {next:List (List Int)} (A:Aut n next) {w:List Int} (hw:IsW next.length w):((actA n next w).length:Int)=n∧∀ x∈actA n next w,0≤x∧x<n:=by
  have:=A.n1
  refine ⟨by simp [actA];omega,fun x hx=>?_⟩
  simp only [actA,List.mem_map,List.mem_range] at hx
  obtain ⟨s,hs,rfl⟩:=hx
  exact atA_in A (by omega) hw
theorem k_FnConnection (code more:List Int) (hb:∀ x∈code,0≤x∧x≤255) (hb2:∀ x∈more,0≤x∧x≤255) :
    Fun Try.prog nz7e [.ro (some (some 0)) 1 (intsK .u8 code),.ro (some (some 0)) 1 (intsK .u8 more)] (bv true):=by
  refine fun_of mixed czgj rfl ⟨rfl,trivial⟩ ?_
  simp only [Az7l,Bz7k,go_sem,yz0,xx9,xx8,xx6,xx7,xx5,xx0,xx1,xx2,reduceIte,xx3,xx4,reduceCtorEq]
  intro vs
  refine yzz (k_a2Long code more) qCS trivial ?_
  simp only [Bz7f,Bz7j,go_sem,yz0,xx9,xx8,xx6,xx7,xx5,xx0,xx1,xx2,reduceIte,xx3,xx4,reduceCtorEq]
  intro _ vs2
  refine call_sh (k_A2Automaton code hb) qCS (fun e=>by cases e) ?_
  rintro outs rows res ⟨rfl,n,next,v,A,n7,rfl,rfl⟩
  refine ⟨rfl,by simp,by rw [Option.getD_some,yzl];simp only [go_sem,yz0,xx9,xx8,xx6,xx7,xx5,xx0,xx1,xx2,reduceIte,xx3,xx4,reduceCtorEq],?_⟩
  have n1:=A.n1
  have n2:=A.n2
  have hM:=maxLen_le
  have e60:((6:Int) != 0)=true:=rfl
  have e66:((6:Int) != 6)=false:=rfl
  have z60:((6:Int) == 0)=false:=rfl
  have z40:((4:Int) == 0)=false:=rfl
  have e00:((0:Int) != 0)=false:=rfl
  have ez:((0:Int) == 0)=true:=rfl
  have btf:(true == false)=false:=rfl
  have bff:(false == false)=true:=rfl
  have btt:(true == true)=true:=rfl
  have bft:(false == true)=false:=rfl
  have ntf:(true != false)=true:=rfl
  have nff:(false != false)=false:=rfl
  have ntt:(true != true)=false:=rfl
  simp only [Bz7i,Nat.not_lt_zero,range1,yzx,yz11,ren_ro,rnNm_n,yz10,rnNm_o,rnNm_s,ren_st,yzy,yzp,yzf,yz4,yzu,yzv,yzo,yzm,yzs,yzb,yzd,yzc,yza,yzj,yzi,yz3,yz7,yz8,yz9,yzg,yzk,List.range_zero,yz6,yz5,yze,yzt,yzl,yzr,AVal.fresh,freshL,yz2,yzh,AObj.fresh,id,Option.isSome_some,or_true,true_or,go_sem,yz0,xx9,xx8,xx6,xx7,xx5,xx0,xx1,xx2,reduceIte,xx3,xx4,reduceCtorEq]
  intro vs3
  refine call_rowI (k_A2Word more n next hb2 A.l1) qCS qWS ⟨[],by simp [IsW8]⟩ ?_
  rintro w vw ⟨hw8,hw⟩
  have hw:IsW next.length w:=hw
  simp only [Bz7h,Nat.not_lt_zero,range1,yzx,yz11,ren_ro,rnNm_n,yz10,rnNm_o,rnNm_s,ren_st,yzy,yzp,yzf,yz4,yzu,yzv,yzo,yzm,yzs,yzb,yzd,yzc,yza,yzj,yzi,yz3,yz7,yz8,yz9,yzg,yzk,List.range_zero,yz6,yz5,yze,yzt,yzl,yzr,AVal.fresh,freshL,yz2,yzh,AObj.fresh,id,Option.isSome_some,or_true,true_or,go_sem,yz0,xx9,xx8,xx6,xx7,xx5,xx0,xx1,xx2,reduceIte,xx3,xx4,reduceCtorEq]
  intro vs4
  refine call_fun2 (k_IsConnected n next A) qCS ?_
  simp only [Bz7g,Nat.not_lt_zero,range1,yzx,yz11,ren_ro,rnNm_n,yz10,rnNm_o,rnNm_s,ren_st,yzy,yzp,yzf,yz4,yzu,yzv,yzo,yzm,yzs,yzb,yzd,yzc,yza,yzj,yzi,yz3,yz7,yz8,yz9,yzg,yzk,List.range_zero,yz6,yz5,yze,yzt,yzl,yzr,AVal.fresh,freshL,yz2,yzh,AObj.fresh,id,Option.isSome_some,or_true,true_or,go_sem,yz0,xx9,xx8,xx6,xx7,xx5,xx0,xx1,xx2,reduceIte,xx3,xx4,reduceCtorEq]
  intro vs5
  have hSk:=k_SinkOf n next A
  have hSp:=k_specSinkOf n next A
  have hca:=con_all A
  have hAR:=actA_rg4 A hw
  have hwl:w.length≤400:=by omega
  by_cases h0:(sinkL n next).length=0
  · rw [if_pos h0,decide_eq_true h0] at hSk
    rw [if_pos h0] at hSp
    refine call_rowT hSk qCS qGN (fun e=>by cases e) (fun _=>?_)
    simp only [Bz48,Nat.not_lt_zero,range1,yzx,yz11,ren_ro,rnNm_n,yz10,rnNm_o,rnNm_s,ren_st,yzy,yzp,yzf,yz4,yzu,yzv,yzo,yzm,yzs,yzb,yzd,yzc,yza,yzj,yzi,yz3,yz7,yz8,yz9,yzg,yzk,List.range_zero,yz6,yz5,yze,yzt,yzl,yzr,AVal.fresh,freshL,yz2,yzh,AObj.fresh,id,Option.isSome_some,or_true,true_or,go_sem,yz0,xx9,xx8,xx6,xx7,xx5,xx0,xx1,xx2,reduceIte,xx3,xx4,reduceCtorEq]
    intro vs6
    refine call_fn (k_PeriodOf n next A) qCS (fun e=>by cases e) ?_
    rintro rows res ⟨rfl,hP⟩
    refine ⟨by simp,by simp,?_⟩
    have hJ:∃ p c,res=.tup [iv p,iv c]∧((c == 0) == conB n next)=true∧(conB n next=true→1≤p∧p≤100∧∃ far,Per n next far p):=by
      rcases hP with ⟨h1,p,far,h2,h3,h4,rfl⟩ | ⟨h1,rfl⟩
      · exact ⟨p,0,rfl,by rw [h1];rfl,fun _=>⟨h2,h3,far,h4⟩⟩
      · exact ⟨0,4,rfl,by rw [h1];rfl,fun h=>by rw [h1] at h;cases h⟩
    clear hP
    obtain ⟨p,c,rfl,hc1,hc2⟩:=hJ
    simp only [Option.getD_some,Bz47,Nat.not_lt_zero,range1,yzx,yz11,ren_ro,rnNm_n,yz10,rnNm_o,rnNm_s,ren_st,yzy,yzp,yzf,yz4,yzu,yzv,yzo,yzm,yzs,yzb,yzd,yzc,yza,yzj,yzi,yz3,yz7,yz8,yz9,yzg,yzk,List.range_zero,yz6,yz5,yze,yzt,yzl,yzr,AVal.fresh,freshL,yz2,yzh,AObj.fresh,id,Option.isSome_some,or_true,true_or,go_sem,yz0,xx9,xx8,xx6,xx7,xx5,xx0,xx1,xx2,reduceIte,xx3,xx4,reduceCtorEq]
    intro vs7
    refine call_fn hSp qCS (fun e=>by cases e) ?_
    rintro rows res ⟨v14,xs,rfl,rfl⟩
    refine ⟨by simp,by rw [Option.getD_some,yzl];simp only [go_sem,yz0,xx9,xx8,xx6,xx7,xx5,xx0,xx1,xx2,reduceIte,xx3,xx4,reduceCtorEq],?_⟩
    generalize hj:conB n next=J at hc1 hc2 hca
    have tail:wpD Try.prog Bzu (finQ fun σ=>σ.tm 4=bv true) ⟨L .any [(5,.ptr 5 (vs2 2 0) 0),(6,.own 28 vw),(7,bv J),(9,.val (.slice none 0 0)),(11,iv p),(14,iv 6)],L .gone [(5,.box (vs2 2 0) [iv n,.own 25 (vs2 1 v)]),(25,.row (vs2 1 v) 1 true (rws next)),(28,.row vw 1 true (ints w))]⟩:=by
      simp only [Bzu,Bz45,Bz43,yz14,go_sem,yz0,xx9,xx8,xx6,xx7,xx5,xx0,xx1,xx2,reduceIte,xx3,xx4,reduceCtorEq]
      refine wpD_lo (fun s=>n.toNat - s) (fun s=>s≤n.toNat)
        (fun s:Nat=>⟨L .any [(5,.ptr 5 (vs2 2 0) 0),(6,.own 28 vw),(7,bv J),(9,.val (.slice none 0 0)),(11,iv p),(14,iv 6),(15,bv ((List.range s).all fun (s:Nat)=>decide (((nrm (reachL n next s)).length:Int)=n))),(16,iv s)],L .gone [(5,.box (vs2 2 0) [iv n,.own 25 (vs2 1 v)]),(25,.row (vs2 1 v) 1 true (rws next)),(28,.row vw 1 true (ints w))]⟩)
        0 (Nat.zero_le _) (by simp only [Bza,List.range_zero,List.all_nil,yz14,go_sem,yz0,xx9,xx8,xx6,xx7,xx5,xx0,xx1,xx2,reduceIte,xx3,xx4,reduceCtorEq];try rfl) ?_
      intro s hs
      by_cases hlt:(s:Int)<n
      · have hk:=k_ReachedFrom n next s
        have hd1:decide ((0:Int)≤s)=true:=by rw [decide_eq_true_eq];omega
        have hd2:decide ((s:Int)≤n - 1)=true:=by rw [decide_eq_true_eq];omega
        rw [autB_iff.2 A,hd1,hd2] at hk
        have hRs:=reach_once A (s:=(s:Int)) (by omega)
        have hms:(s:Int)∈nrm (reachL n next s):=nrm_mem.2 (reach_closed A (s:=(s:Int)) (by omega)).1
        have hcs:(nrm (reachL n next s)).contains (s:Int)=true:=List.contains_iff_mem.2 hms
        have hin:((sinkL n next).all fun x=>(nrm (reachL n next s)).contains x)=true:=List.all_eq_true.2 fun x hx=>List.contains_iff_mem.2 (nrm_mem.2 ((sinkL_mem.1 hx).2 s (by omega) (by omega)))
        have hk1:=k_a2Has (nrm (reachL n next s)) (s:Int)
        have hss:(s:Int)∈sinkL n next→nrm (reachL n next s)=sinkL n next:=fun h=>sink_reach A h
        simp only [Bza,Bzr,Bz42,decide_eq_true hlt,yz14,go_sem,yz0,xx9,xx8,xx6,xx7,xx5,xx0,xx1,xx2,reduceIte,xx3,xx4,reduceCtorEq]
        intro vs8
        refine call_rowT hk qCS qGN (fun _ v17=>?_) (fun e=>by cases e)
        generalize hLQ:loopQ _ _=LQ
        have hal:(List.range (s+1)).all (fun (s:Nat)=>decide (((nrm (reachL n next s)).length:Int)=n))=((List.range s).all (fun (s:Nat)=>decide (((nrm (reachL n next s)).length:Int)=n)) && decide (((nrm (reachL n next s)).length:Int)=n)):=by
          rw [List.range_succ,List.all_append];simp
        generalize hal2:(List.range (s+1)).all (fun (s:Nat)=>decide (((nrm (reachL n next s)).length:Int)=n))=al2 at hal
        have tail20:wpD Try.prog Bzt (blockQ 1 (seqQ (wpD Try.prog Bz6) LQ)) ⟨L .any [(5,.ptr 5 (vs2 2 0) 0),(6,.own 28 vw),(7,bv J),(9,.val (.slice none 0 0)),(11,iv p),(14,iv 6),(15,bv al2),(16,iv s)],L .gone [(5,.box (vs2 2 0) [iv n,.own 25 (vs2 1 v)]),(25,.row (vs2 1 v) 1 true (rws next)),(28,.row vw 1 true (ints w))]⟩:=by
          have hAG:=actA_getD (n:=n) (next:=next) (w:=w) hlt
          have hal3:s<(actA n next w).length:=by omega
          have gA:=yzw (k:=.i64) hal3
          rw [hAG] at gA
          have ws:IntKind.i64.wrap ((s:Int)+1)=((s+1:Nat):Int):=by rw [w64 (by omega)];simp
          simp only [Bzt,yz14,go_sem,yz0,xx9,xx8,xx6,xx7,xx5,xx0,xx1,xx2,reduceIte,xx3,xx4,reduceCtorEq]
          intro vs10
          refine call_tupI (k_ActionOf n next w A hw hwl) qCS qGN ⟨_,rfl⟩ ?_
          rintro ys v19 rfl
          simp only [Bz40,e00,yz14,go_sem,yz0,xx9,xx8,xx6,xx7,xx5,xx0,xx1,xx2,reduceIte,xx3,xx4,reduceCtorEq]
          intro vs11
          refine yzz (k_a2Map (actA n next w) n hAR.2 hAR.1) qCS trivial ?_
          have tail22:wpD Try.prog Bzs (blockQ 1 (seqQ (wpD Try.prog Bz6) LQ)) ⟨L .any [(5,.ptr 5 (vs2 2 0) 0),(6,.own 28 vw),(7,bv J),(9,.val (.slice none 0 0)),(11,iv p),(14,iv 6),(15,bv al2),(16,iv s),(159,bv false)],L .gone [(5,.box (vs2 2 0) [iv n,.own 25 (vs2 1 v)]),(25,.row (vs2 1 v) 1 true (rws next)),(28,.row vw 1 true (ints w)),(125,.row v19 1 true (ints (actA n next w)))]⟩:=by
            simp only [Bzs,Bz6,ws,yz14,go_sem,yz0,xx9,xx8,xx6,xx7,xx5,xx0,xx1,xx2,reduceIte,xx3,xx4,reduceCtorEq]
            rw [← hLQ]
            simp only [yz14,go_sem,yz0,xx9,xx8,xx6,xx7,xx5,xx0,xx1,xx2,reduceIte,xx3,xx4,reduceCtorEq]
            exact ⟨s+1,by omega,by omega,by rw [hal2]⟩
          cases hJ:J with
          | false =>
            simp only [Bool.not_true,yz14,go_sem,yz0,xx9,xx8,xx6,xx7,xx5,xx0,xx1,xx2,reduceIte,xx3,xx4,reduceCtorEq]
            subst hJ
            exact wpD_kpto tail22 (by simp only [yz14,go_sem,yz0,xx9,xx8,xx6,xx7,xx5,xx0,xx1,xx2,reduceIte,xx3,xx4,reduceCtorEq])
          | true =>
            subst hJ
            by_cases hw0:(w.length:Int) > 0
            · by_cases he:atA next s w=s
              · have hbe:(atA next s w == (s:Int))=true:=beqT he
                obtain ⟨p1,p2,far,hfar⟩:=hc2 rfl
                have hdv:=hfar.loop A (s:=(s:Int)) (by omega) hw he
                have hp0:¬ p=0:=by omega
                have hrem:(w.length:Int).tmod p=0:=Int.tmod_eq_zero_of_dvd hdv
                simp only [decide_eq_true hw0,hbe,gA,hp0,hrem,if_false,e00,Bool.not_true,yz14,go_sem,yz0,xx9,xx8,xx6,xx7,xx5,xx0,xx1,xx2,reduceIte,xx3,xx4,reduceCtorEq]
                intro _
                exact ⟨⟨by omega,hal3⟩,hal3,fun _=>wpD_kpto tail22 (by simp only [yz14,go_sem,yz0,xx9,xx8,xx6,xx7,xx5,xx0,xx1,xx2,reduceIte,xx3,xx4,reduceCtorEq])⟩
              · have hbe:(atA next s w == (s:Int))=false:=beqF he
                simp only [decide_eq_true hw0,hbe,gA,Bool.not_true,yz14,go_sem,yz0,xx9,xx8,xx6,xx7,xx5,xx0,xx1,xx2,reduceIte,xx3,xx4,reduceCtorEq]
                intro _
                exact ⟨⟨by omega,hal3⟩,hal3,wpD_kpto tail22 (by simp only [yz14,go_sem,yz0,xx9,xx8,xx6,xx7,xx5,xx0,xx1,xx2,reduceIte,xx3,xx4,reduceCtorEq])⟩
            · simp only [decide_eq_false hw0,Bool.not_true,yz14,go_sem,yz0,xx9,xx8,xx6,xx7,xx5,xx0,xx1,xx2,reduceIte,xx3,xx4,reduceCtorEq]
              intro _
              exact wpD_kpto tail22 (by simp only [yz14,go_sem,yz0,xx9,xx8,xx6,xx7,xx5,xx0,xx1,xx2,reduceIte,xx3,xx4,reduceCtorEq])
        simp only [codeI,Bool.and_self,if_true,Bz41,e00,yz14,go_sem,yz0,xx9,xx8,xx6,xx7,xx5,xx0,xx1,xx2,reduceIte,xx3,xx4,reduceCtorEq]
        intro vs9
        refine yzz hk1 qCS trivial ?_
        have tail18:wpD Try.prog Bz8 (seqQ (wpD Try.prog Bz9) (blockQ 1 (seqQ (wpD Try.prog Bz6) LQ))) ⟨L .any [(5,.ptr 5 (vs2 2 0) 0),(6,.own 28 vw),(7,bv J),(9,.val (.slice none 0 0)),(11,iv p),(14,iv 6),(15,bv ((List.range s).all fun (s:Nat)=>decide (((nrm (reachL n next s)).length:Int)=n))),(16,iv s),(17,.own 78 v17),(113,bv false)],L .gone [(5,.box (vs2 2 0) [iv n,.own 25 (vs2 1 v)]),(25,.row (vs2 1 v) 1 true (rws next)),(28,.row vw 1 true (ints w)),(78,.row v17 1 true (ints (nrm (reachL n next s))))]⟩:=by
          generalize (List.range s).all (fun (s:Nat)=>decide (((nrm (reachL n next s)).length:Int)=n))=al at hal
          cases al with
          | true =>
            simp only [Bz8,Bz9,yz14,go_sem,yz0,xx9,xx8,xx6,xx7,xx5,xx0,xx1,xx2,reduceIte,xx3,xx4,reduceCtorEq]
            intro _
            have hbe:(((nrm (reachL n next s)).length:Int) == n)=al2:=by rw [hal];rfl
            rw [hbe]
            exact wpD_kpto tail20 (by simp only [yz14,go_sem,yz0,xx9,xx8,xx6,xx7,xx5,xx0,xx1,xx2,reduceIte,xx3,xx4,reduceCtorEq])
          | false =>
            simp only [Bz8,Bz9,yz14,go_sem,yz0,xx9,xx8,xx6,xx7,xx5,xx0,xx1,xx2,reduceIte,xx3,xx4,reduceCtorEq]
            have hbe:al2=false:=by rw [hal];rfl
            rw [hbe] at tail20
            exact wpD_kpto tail20 (by simp only [yz14,go_sem,yz0,xx9,xx8,xx6,xx7,xx5,xx0,xx1,xx2,reduceIte,xx3,xx4,reduceCtorEq])
        simp only [hcs,z60,Bool.not_true,yz14,go_sem,yz0,xx9,xx8,xx6,xx7,xx5,xx0,xx1,xx2,reduceIte,xx3,xx4,reduceCtorEq]
        exact wpD_kpto tail18 (by simp only [yz14,go_sem,yz0,xx9,xx8,xx6,xx7,xx5,xx0,xx1,xx2,reduceIte,xx3,xx4,reduceCtorEq])
      · obtain rfl:s=n.toNat:=by omega
        simp only [Bza,Bzr,Bz44,decide_eq_false hlt,← hca,beq_self_eq_true,e60,yz14,go_sem,yz0,xx9,xx8,xx6,xx7,xx5,xx0,xx1,xx2,reduceIte,xx3,xx4,reduceCtorEq]
    simp only [Option.getD_some,hj,Bz46,e00,e66,hc1,Bool.not_true,Nat.not_lt_zero,range1,yzx,yz11,ren_ro,rnNm_n,yz10,rnNm_o,rnNm_s,ren_st,yzy,yzp,yzf,yz4,yzu,yzv,yzo,yzm,yzs,yzb,yzd,yzc,yza,yzj,yzi,yz3,yz7,yz8,yz9,yzg,yzk,List.range_zero,yz6,yz5,yze,yzt,yzl,yzr,AVal.fresh,freshL,yz2,yzh,AObj.fresh,id,Option.isSome_some,or_true,true_or,go_sem,yz0,xx9,xx8,xx6,xx7,xx5,xx0,xx1,xx2,reduceIte,xx3,xx4,reduceCtorEq]
    cases J with
    | true =>
      have hp1:decide (p<1)=false:=by rw [decide_eq_false_iff_not];have:=(hc2 rfl).1;omega
      simp only [hp1,Bzq,go_sem,yz0,xx9,xx8,xx6,xx7,xx5,xx0,xx1,xx2,reduceIte,xx3,xx4,reduceCtorEq]
      exact wpD_kpto tail (by simp only [yz14,go_sem,yz0,xx9,xx8,xx6,xx7,xx5,xx0,xx1,xx2,reduceIte,xx3,xx4,reduceCtorEq])
    | false =>
      simp only [Bzq,go_sem,yz0,xx9,xx8,xx6,xx7,xx5,xx0,xx1,xx2,reduceIte,xx3,xx4,reduceCtorEq]
      exact wpD_kpto tail (by simp only [yz14,go_sem,yz0,xx9,xx8,xx6,xx7,xx5,xx0,xx1,xx2,reduceIte,xx3,xx4,reduceCtorEq])
  · rw [if_neg h0,decide_eq_false h0] at hSk
    rw [if_neg h0] at hSp
    refine call_rowT hSk qCS qGN (fun _ v9=>?_) (fun e=>by cases e)
    simp only [Bz48,Nat.not_lt_zero,range1,yzx,yz11,ren_ro,rnNm_n,yz10,rnNm_o,rnNm_s,ren_st,yzy,yzp,yzf,yz4,yzu,yzv,yzo,yzm,yzs,yzb,yzd,yzc,yza,yzj,yzi,yz3,yz7,yz8,yz9,yzg,yzk,List.range_zero,yz6,yz5,yze,yzt,yzl,yzr,AVal.fresh,freshL,yz2,yzh,AObj.fresh,id,Option.isSome_some,or_true,true_or,go_sem,yz0,xx9,xx8,xx6,xx7,xx5,xx0,xx1,xx2,reduceIte,xx3,xx4,reduceCtorEq]
    intro vs6
    refine call_fn (k_PeriodOf n next A) qCS (fun e=>by cases e) ?_
    rintro rows res ⟨rfl,hP⟩
    refine ⟨by simp,by simp,?_⟩
    have hJ:∃ p c,res=.tup [iv p,iv c]∧((c == 0) == conB n next)=true∧(conB n next=true→1≤p∧p≤100∧∃ far,Per n next far p):=by
      rcases hP with ⟨h1,p,far,h2,h3,h4,rfl⟩ | ⟨h1,rfl⟩
      · exact ⟨p,0,rfl,by rw [h1];rfl,fun _=>⟨h2,h3,far,h4⟩⟩
      · exact ⟨0,4,rfl,by rw [h1];rfl,fun h=>by rw [h1] at h;cases h⟩
    clear hP
    obtain ⟨p,c,rfl,hc1,hc2⟩:=hJ
    simp only [Option.getD_some,Bz47,Nat.not_lt_zero,range1,yzx,yz11,ren_ro,rnNm_n,yz10,rnNm_o,rnNm_s,ren_st,yzy,yzp,yzf,yz4,yzu,yzv,yzo,yzm,yzs,yzb,yzd,yzc,yza,yzj,yzi,yz3,yz7,yz8,yz9,yzg,yzk,List.range_zero,yz6,yz5,yze,yzt,yzl,yzr,AVal.fresh,freshL,yz2,yzh,AObj.fresh,id,Option.isSome_some,or_true,true_or,go_sem,yz0,xx9,xx8,xx6,xx7,xx5,xx0,xx1,xx2,reduceIte,xx3,xx4,reduceCtorEq]
    intro vs7
    refine call_fn hSp qCS (fun e=>by cases e) ?_
    rintro rows res ⟨v14,xs,rfl,rfl⟩
    refine ⟨by simp,by rw [Option.getD_some,yzl];simp only [go_sem,yz0,xx9,xx8,xx6,xx7,xx5,xx0,xx1,xx2,reduceIte,xx3,xx4,reduceCtorEq],?_⟩
    generalize hj:conB n next=J at hc1 hc2 hca
    have hsl:decide (((sinkL n next).length:Int) > 0)=true:=by rw [decide_eq_true_eq];omega
    have tail:wpD Try.prog Bzu (finQ fun σ=>σ.tm 4=bv true) ⟨L .any [(5,.ptr 5 (vs2 2 0) 0),(6,.own 28 vw),(7,bv J),(9,.own 36 v9),(11,iv p),(14,iv 0)],L .gone [(5,.box (vs2 2 0) [iv n,.own 25 (vs2 1 v)]),(25,.row (vs2 1 v) 1 true (rws next)),(28,.row vw 1 true (ints w)),(36,.row v9 1 true (ints (sinkL n next)))]⟩:=by
      simp only [Bzu,Bz45,Bz43,yz14,go_sem,yz0,xx9,xx8,xx6,xx7,xx5,xx0,xx1,xx2,reduceIte,xx3,xx4,reduceCtorEq]
      refine wpD_lo (fun s=>n.toNat - s) (fun s=>s≤n.toNat)
        (fun s:Nat=>⟨L .any [(5,.ptr 5 (vs2 2 0) 0),(6,.own 28 vw),(7,bv J),(9,.own 36 v9),(11,iv p),(14,iv 0),(15,bv ((List.range s).all fun (s:Nat)=>decide (((nrm (reachL n next s)).length:Int)=n))),(16,iv s)],L .gone [(5,.box (vs2 2 0) [iv n,.own 25 (vs2 1 v)]),(25,.row (vs2 1 v) 1 true (rws next)),(28,.row vw 1 true (ints w)),(36,.row v9 1 true (ints (sinkL n next)))]⟩)
        0 (Nat.zero_le _) (by simp only [Bza,List.range_zero,List.all_nil,yz14,go_sem,yz0,xx9,xx8,xx6,xx7,xx5,xx0,xx1,xx2,reduceIte,xx3,xx4,reduceCtorEq];try rfl) ?_
      intro s hs
      by_cases hlt:(s:Int)<n
      · have hk:=k_ReachedFrom n next s
        have hd1:decide ((0:Int)≤s)=true:=by rw [decide_eq_true_eq];omega
        have hd2:decide ((s:Int)≤n - 1)=true:=by rw [decide_eq_true_eq];omega
        rw [autB_iff.2 A,hd1,hd2] at hk
        have hRs:=reach_once A (s:=(s:Int)) (by omega)
        have hms:(s:Int)∈nrm (reachL n next s):=nrm_mem.2 (reach_closed A (s:=(s:Int)) (by omega)).1
        have hcs:(nrm (reachL n next s)).contains (s:Int)=true:=List.contains_iff_mem.2 hms
        have hin:((sinkL n next).all fun x=>(nrm (reachL n next s)).contains x)=true:=List.all_eq_true.2 fun x hx=>List.contains_iff_mem.2 (nrm_mem.2 ((sinkL_mem.1 hx).2 s (by omega) (by omega)))
        have hk1:=k_a2Has (nrm (reachL n next s)) (s:Int)
        have hss:(s:Int)∈sinkL n next→nrm (reachL n next s)=sinkL n next:=fun h=>sink_reach A h
        simp only [Bza,Bzr,Bz42,decide_eq_true hlt,yz14,go_sem,yz0,xx9,xx8,xx6,xx7,xx5,xx0,xx1,xx2,reduceIte,xx3,xx4,reduceCtorEq]
        intro vs8
        refine call_rowT hk qCS qGN (fun _ v17=>?_) (fun e=>by cases e)
        generalize hLQ:loopQ _ _=LQ
        have hal:(List.range (s+1)).all (fun (s:Nat)=>decide (((nrm (reachL n next s)).length:Int)=n))=((List.range s).all (fun (s:Nat)=>decide (((nrm (reachL n next s)).length:Int)=n)) && decide (((nrm (reachL n next s)).length:Int)=n)):=by
          rw [List.range_succ,List.all_append];simp
        generalize hal2:(List.range (s+1)).all (fun (s:Nat)=>decide (((nrm (reachL n next s)).length:Int)=n))=al2 at hal
        have tail20:wpD Try.prog Bzt (blockQ 1 (seqQ (wpD Try.prog Bz6) LQ)) ⟨L .any [(5,.ptr 5 (vs2 2 0) 0),(6,.own 28 vw),(7,bv J),(9,.own 36 v9),(11,iv p),(14,iv 0),(15,bv al2),(16,iv s)],L .gone [(5,.box (vs2 2 0) [iv n,.own 25 (vs2 1 v)]),(25,.row (vs2 1 v) 1 true (rws next)),(28,.row vw 1 true (ints w)),(36,.row v9 1 true (ints (sinkL n next)))]⟩:=by
          have hAG:=actA_getD (n:=n) (next:=next) (w:=w) hlt
          have hal3:s<(actA n next w).length:=by omega
          have gA:=yzw (k:=.i64) hal3
          rw [hAG] at gA
          have ws:IntKind.i64.wrap ((s:Int)+1)=((s+1:Nat):Int):=by rw [w64 (by omega)];simp
          simp only [Bzt,yz14,go_sem,yz0,xx9,xx8,xx6,xx7,xx5,xx0,xx1,xx2,reduceIte,xx3,xx4,reduceCtorEq]
          intro vs10
          refine call_tupI (k_ActionOf n next w A hw hwl) qCS qGN ⟨_,rfl⟩ ?_
          rintro ys v19 rfl
          simp only [Bz40,e00,yz14,go_sem,yz0,xx9,xx8,xx6,xx7,xx5,xx0,xx1,xx2,reduceIte,xx3,xx4,reduceCtorEq]
          intro vs11
          refine yzz (k_a2Map (actA n next w) n hAR.2 hAR.1) qCS trivial ?_
          have tail22:wpD Try.prog Bzs (blockQ 1 (seqQ (wpD Try.prog Bz6) LQ)) ⟨L .any [(5,.ptr 5 (vs2 2 0) 0),(6,.own 28 vw),(7,bv J),(9,.own 36 v9),(11,iv p),(14,iv 0),(15,bv al2),(16,iv s),(159,bv false)],L .gone [(5,.box (vs2 2 0) [iv n,.own 25 (vs2 1 v)]),(25,.row (vs2 1 v) 1 true (rws next)),(28,.row vw 1 true (ints w)),(36,.row v9 1 true (ints (sinkL n next))),(125,.row v19 1 true (ints (actA n next w)))]⟩:=by
            simp only [Bzs,Bz6,ws,yz14,go_sem,yz0,xx9,xx8,xx6,xx7,xx5,xx0,xx1,xx2,reduceIte,xx3,xx4,reduceCtorEq]
            rw [← hLQ]
            simp only [yz14,go_sem,yz0,xx9,xx8,xx6,xx7,xx5,xx0,xx1,xx2,reduceIte,xx3,xx4,reduceCtorEq]
            exact ⟨s+1,by omega,by omega,by rw [hal2]⟩
          cases hJ:J with
          | false =>
            simp only [Bool.not_true,yz14,go_sem,yz0,xx9,xx8,xx6,xx7,xx5,xx0,xx1,xx2,reduceIte,xx3,xx4,reduceCtorEq]
            subst hJ
            exact wpD_kpto tail22 (by simp only [yz14,go_sem,yz0,xx9,xx8,xx6,xx7,xx5,xx0,xx1,xx2,reduceIte,xx3,xx4,reduceCtorEq])
          | true =>
            subst hJ
            by_cases hw0:(w.length:Int) > 0
            · by_cases he:atA next s w=s
              · have hbe:(atA next s w == (s:Int))=true:=beqT he
                obtain ⟨p1,p2,far,hfar⟩:=hc2 rfl
                have hdv:=hfar.loop A (s:=(s:Int)) (by omega) hw he
                have hp0:¬ p=0:=by omega
                have hrem:(w.length:Int).tmod p=0:=Int.tmod_eq_zero_of_dvd hdv
                simp only [decide_eq_true hw0,hbe,gA,hp0,hrem,if_false,e00,Bool.not_true,yz14,go_sem,yz0,xx9,xx8,xx6,xx7,xx5,xx0,xx1,xx2,reduceIte,xx3,xx4,reduceCtorEq]
                intro _
                exact ⟨⟨by omega,hal3⟩,hal3,fun _=>wpD_kpto tail22 (by simp only [yz14,go_sem,yz0,xx9,xx8,xx6,xx7,xx5,xx0,xx1,xx2,reduceIte,xx3,xx4,reduceCtorEq])⟩
              · have hbe:(atA next s w == (s:Int))=false:=beqF he
                simp only [decide_eq_true hw0,hbe,gA,Bool.not_true,yz14,go_sem,yz0,xx9,xx8,xx6,xx7,xx5,xx0,xx1,xx2,reduceIte,xx3,xx4,reduceCtorEq]
                intro _
                exact ⟨⟨by omega,hal3⟩,hal3,wpD_kpto tail22 (by simp only [yz14,go_sem,yz0,xx9,xx8,xx6,xx7,xx5,xx0,xx1,xx2,reduceIte,xx3,xx4,reduceCtorEq])⟩
            · simp only [decide_eq_false hw0,Bool.not_true,yz14,go_sem,yz0,xx9,xx8,xx6,xx7,xx5,xx0,xx1,xx2,reduceIte,xx3,xx4,reduceCtorEq]
              intro _
              exact wpD_kpto tail22 (by simp only [yz14,go_sem,yz0,xx9,xx8,xx6,xx7,xx5,xx0,xx1,xx2,reduceIte,xx3,xx4,reduceCtorEq])
        simp only [codeI,Bool.and_self,if_true,Bz41,e00,yz14,go_sem,yz0,xx9,xx8,xx6,xx7,xx5,xx0,xx1,xx2,reduceIte,xx3,xx4,reduceCtorEq]
        intro vs9
        refine yzz hk1 qCS trivial ?_
        have tail18:wpD Try.prog Bz8 (seqQ (wpD Try.prog Bz9) (blockQ 1 (seqQ (wpD Try.prog Bz6) LQ))) ⟨L .any [(5,.ptr 5 (vs2 2 0) 0),(6,.own 28 vw),(7,bv J),(9,.own 36 v9),(11,iv p),(14,iv 0),(15,bv ((List.range s).all fun (s:Nat)=>decide (((nrm (reachL n next s)).length:Int)=n))),(16,iv s),(17,.own 78 v17),(113,bv false)],L .gone [(5,.box (vs2 2 0) [iv n,.own 25 (vs2 1 v)]),(25,.row (vs2 1 v) 1 true (rws next)),(28,.row vw 1 true (ints w)),(36,.row v9 1 true (ints (sinkL n next))),(78,.row v17 1 true (ints (nrm (reachL n next s))))]⟩:=by
          generalize (List.range s).all (fun (s:Nat)=>decide (((nrm (reachL n next s)).length:Int)=n))=al at hal
          cases al with
          | true =>
            simp only [Bz8,Bz9,yz14,go_sem,yz0,xx9,xx8,xx6,xx7,xx5,xx0,xx1,xx2,reduceIte,xx3,xx4,reduceCtorEq]
            intro _
            have hbe:(((nrm (reachL n next s)).length:Int) == n)=al2:=by rw [hal];rfl
            rw [hbe]
            exact wpD_kpto tail20 (by simp only [yz14,go_sem,yz0,xx9,xx8,xx6,xx7,xx5,xx0,xx1,xx2,reduceIte,xx3,xx4,reduceCtorEq])
          | false =>
            simp only [Bz8,Bz9,yz14,go_sem,yz0,xx9,xx8,xx6,xx7,xx5,xx0,xx1,xx2,reduceIte,xx3,xx4,reduceCtorEq]
            have hbe:al2=false:=by rw [hal];rfl
            rw [hbe] at tail20
            exact wpD_kpto tail20 (by simp only [yz14,go_sem,yz0,xx9,xx8,xx6,xx7,xx5,xx0,xx1,xx2,reduceIte,xx3,xx4,reduceCtorEq])
        simp only [hcs,ez,Bool.not_true,yz14,go_sem,yz0,xx9,xx8,xx6,xx7,xx5,xx0,xx1,xx2,reduceIte,xx3,xx4,reduceCtorEq]
        refine yzz (k_a2Inside (sinkL n next) (nrm (reachL n next s))) qCS trivial ?_
        simp only [hin,Bool.not_true,yz14,go_sem,yz0,xx9,xx8,xx6,xx7,xx5,xx0,xx1,xx2,reduceIte,xx3,xx4,reduceCtorEq]
        refine yzz (k_a2Has (sinkL n next) s) qCS trivial ?_
        cases hks:(sinkL n next).contains (s:Int) with
        | true =>
          have hse:=hss (List.contains_iff_mem.1 hks)
          have hd:decide (nrm (reachL n next s)=sinkL n next)=true:=decide_eq_true hse
          simp only [yz14,go_sem,yz0,xx9,xx8,xx6,xx7,xx5,xx0,xx1,xx2,reduceIte,xx3,xx4,reduceCtorEq]
          refine yzz (k_a2Same (nrm (reachL n next s)) (sinkL n next)) qCS trivial ?_
          simp only [hd,Bool.not_true,yz14,go_sem,yz0,xx9,xx8,xx6,xx7,xx5,xx0,xx1,xx2,reduceIte,xx3,xx4,reduceCtorEq]
          exact wpD_kpto tail18 (by simp only [yz14,go_sem,yz0,xx9,xx8,xx6,xx7,xx5,xx0,xx1,xx2,reduceIte,xx3,xx4,reduceCtorEq])
        | false =>
          simp only [yz14,go_sem,yz0,xx9,xx8,xx6,xx7,xx5,xx0,xx1,xx2,reduceIte,xx3,xx4,reduceCtorEq]
          exact wpD_kpto tail18 (by simp only [yz14,go_sem,yz0,xx9,xx8,xx6,xx7,xx5,xx0,xx1,xx2,reduceIte,xx3,xx4,reduceCtorEq])
      · obtain rfl:s=n.toNat:=by omega
        simp only [Bza,Bzr,Bz44,decide_eq_false hlt,← hca,beq_self_eq_true,e00,hsl,yz14,go_sem,yz0,xx9,xx8,xx6,xx7,xx5,xx0,xx1,xx2,reduceIte,xx3,xx4,reduceCtorEq]
    simp only [Option.getD_some,hj,Bz46,e00,e66,hc1,Bool.not_true,Nat.not_lt_zero,range1,yzx,yz11,ren_ro,rnNm_n,yz10,rnNm_o,rnNm_s,ren_st,yzy,yzp,yzf,yz4,yzu,yzv,yzo,yzm,yzs,yzb,yzd,yzc,yza,yzj,yzi,yz3,yz7,yz8,yz9,yzg,yzk,List.range_zero,yz6,yz5,yze,yzt,yzl,yzr,AVal.fresh,freshL,yz2,yzh,AObj.fresh,id,Option.isSome_some,or_true,true_or,go_sem,yz0,xx9,xx8,xx6,xx7,xx5,xx0,xx1,xx2,reduceIte,xx3,xx4,reduceCtorEq]
    cases J with
    | true =>
      have hp1:decide (p<1)=false:=by rw [decide_eq_false_iff_not];have:=(hc2 rfl).1;omega
      simp only [hp1,Bzq,go_sem,yz0,xx9,xx8,xx6,xx7,xx5,xx0,xx1,xx2,reduceIte,xx3,xx4,reduceCtorEq]
      exact wpD_kpto tail (by simp only [yz14,go_sem,yz0,xx9,xx8,xx6,xx7,xx5,xx0,xx1,xx2,reduceIte,xx3,xx4,reduceCtorEq])
    | false =>
      simp only [Bzq,go_sem,yz0,xx9,xx8,xx6,xx7,xx5,xx0,xx1,xx2,reduceIte,xx3,xx4,reduceCtorEq]
      exact wpD_kpto tail (by simp only [yz14,go_sem,yz0,xx9,xx8,xx6,xx7,xx5,xx0,xx1,xx2,reduceIte,xx3,xx4,reduceCtorEq])
end Go.Ab
