/- Contracts and what they lean on, part 10. Conditions: none. -/
import Derived.Test.YtjkckhggjfbgjaaGreatZ9
set_option maxRecDepth 100000
set_option maxHeartbeats 4000000
set_option linter.all false
open Nat renaming reduceLeDiff → xx0, reduceMul → xx1, reduceSub → xx2, reduceEqDiff → xx3, reduceAdd → xx4, reduceLT → xx5
open Int renaming reduceToNat → xx6, reduceNeg → xx7, reduceLE → xx8, reduceLT → xx9
namespace Go.Ab
open Go.Proofs
abbrev LoR (code:List Int) (at_ k:Int) (outs rows:List AObj) (res:AVal):Prop :=
  ∃ n ps v a' s',(ps.length≤3→DJ ps)∧ps.length≤10∧-1≤n∧n≤11∧(∀ p∈ps,p.2.length≤10)∧at_≤a'∧a'≤at_+k∧outs=[.box 0 (srcC code a' s')]∧rows=[.row v 1 true (rwp ps)]∧res=.st [iv n,.own 6000 v]
theorem call_boxrowN {P:Program} {nos:List Nat} {σ:St} {g:FuncId} {As args:List AVal} {d:Nat} {s:Nat→Nat} {K:St→Prop} {r q v u:Nat} {cs cs0:List AVal} {xs:List Int} {Q:List AVal→Value→Prop}
    (h:Con P g [.box 0 cs,.row 1 1 true (ints xs)] args true fun outs rows res=>∃ cs' x,Q cs' x∧flatL cs'∧outs=[.box 0 cs',.row 1 1 true (ints xs)]∧rows=[]∧res=.val x)
    (hr:σ.hp r=.box v cs0) (hq:σ.hp q=.row u 1 true (ints xs)) (hm:r∈nos∧q∈nos) (hne:[r,q].Nodup) (hcs:CoeL σ.hp [r,q] false cs cs0) (ha:CoeL σ.hp [r,q] false args As) (hex:∃ cs' x,Q cs' x∧flatL cs')
    (hk:∀ cs' x,Q cs' x→K (St.put ⟨σ.tm,upd (upd σ.hp r (.box v cs')) q (.row u 1 true (ints xs))⟩ (some d) (.val x))):wpCallN P nos σ g As (some d) s K:=by
  refine ⟨[r,q],_,_,true,_,h,⟨by simp,rfl,hne,?_,?_⟩,ha,⟨by simp [hm.1,hm.2],?_⟩,?_⟩
  · intro x hx
    simp only [List.mem_cons,List.not_mem_nil,or_false] at hx
    rcases hx with rfl | rfl
    · simp [hr]
    · simp [hq]
  · intro j B r' hB hr'
    match j,hB,hr' with
    | 0,hB,hr' =>
      simp at hB hr';subst hB;subst hr'
      rw [hr]
      exact ⟨rfl,v,cs0,rfl,hcs⟩
    | 1,hB,hr' =>
      simp at hB hr';subst hB;subst hr'
      simp only [ObjCoe,hq]
      exact ⟨trivial,u,_,rfl,coeL_ints⟩
    | j+2,hB,hr'=>simp at hB
  · obtain ⟨cs',x,hq,hf⟩:=hex
    exact ⟨_,_,_,cs',x,hq,hf,rfl,rfl,rfl⟩
  · rintro outs rows res ⟨cs',x,hQ,hf,rfl,rfl,rfl⟩
    refine ⟨rfl,rfl,?_⟩
    have s0:sv σ.hp [r,q] s 0=v:=by simp [sv,hr,AObj.ver]
    have s1:sv σ.hp [r,q] s 1=u:=by simp [sv,hq,AObj.ver]
    rw [Option.getD_some,callHp_h2 hne]
    simp only [yzp,yzo,renL_flat cs' hf,yz4,yzy,s0,s1]
    exact hk cs' x hQ
theorem k_l01Bent (code:List Int) (at_ seed:Int) (hb:∀ x∈code,0≤x∧x≤255) (ha:0≤at_∧at_≤100000) :
    Con Tryz.prog nz3r [.box 0 (srcC code at_ seed)] [.ptr 5000 0 0] true (LoR code at_ 3000):=by
  refine con_shE mixed czhk rfl (by simp) ?_
  generalize hQ:finQ _=Q
  have h12:∀ (σ:St) (v2 v3:Nat) (r v:Nat) (o6 o10 o61 o73 o77:AObj) (a s n:Int) (ps:List (Nat×List Int)),
      (ps.length≤3→DJ ps)→ps.length≤10→-1≤n∧n≤11→(∀ p∈ps,p.2.length≤10)→at_≤a∧a≤at_+3000 →
      (r=6∧o6=.row v 1 true (rwp ps)∨r=10∧o10=.row v 1 true (rwp ps)∨r=77∧o77=.row v 1 true (rwp ps)) →
      σ.keep [2,3] [2,3,6,10,61,73,77,5000,901]=⟨L .any [(2,.ptr 2 v2 0),(3,.ptr 3 v3 0)],
        L .gone [(2,.box v2 [iv 0,.val (.slice none 0 0)]),(3,.box v3 [iv n,.own r v]),(6,o6),(10,o10),(61,o61),(73,o73),(77,o77),(5000,.box 0 (srcC code a s)),(901,.gone)]⟩ →
      wpD Tryz.prog Bzu Q σ:=by
    intro σ v2 v3 r v o6 o10 o61 o73 o77 a s n ps hd hl hn hr ha' hrv hS
    unfold Bzu
    rw [yzg,hS]
    simp only [wpD_gh]
    intro _
    refine ⟨[],?_⟩
    rcases hrv with ⟨rfl,rfl⟩ | ⟨rfl,rfl⟩ | ⟨rfl,rfl⟩
    · simp only [gwp_nil,yzg,yz1,go_sem,yz0,xx9,xx8,xx6,xx7,xx5,xx0,xx1,xx2,reduceIte,xx3,xx4,reduceCtorEq]
      intro vs U hN
      simp only [← hQ,Az8,go_sem,yz0,xx9,xx8,xx6,xx7,xx5,xx0,xx1,xx2,reduceIte,xx3,xx4,reduceCtorEq]
      refine ⟨[6],by simp,by simp,by simp,?_⟩
      simp only [range1,List.length_singleton,renL_rwp,Nat.not_lt_zero,range1,yzy,yz12,ren_ro,rnNm_n,yz13,rnNm_o,rnNm_s,ren_st,yz10,yzr,yzf,yz4,yzw,yzt,yzo,yzp,yzv,yz9,yz8,yze,yzd,yzj,yzi,yz3,yz7,yzc,yza,yzk,yzl,List.range_zero,yz5,yz6,yzb,yzu,yzm,yzq,AVal.fresh,freshL,yz2,yzh,AObj.fresh,id,Option.isSome_some,or_true,true_or,go_sem,yz0,xx9,xx8,xx6,xx7,xx5,xx0,xx1,xx2,reduceIte,xx3,xx4,reduceCtorEq]
      exact ⟨n,ps,v,a,s,hd,hl,hn.1,hn.2,hr,ha'.1,ha'.2,rfl,by simp,rfl⟩
    · simp only [gwp_nil,yzg,yz1,go_sem,yz0,xx9,xx8,xx6,xx7,xx5,xx0,xx1,xx2,reduceIte,xx3,xx4,reduceCtorEq]
      intro vs U hN
      simp only [← hQ,Az8,go_sem,yz0,xx9,xx8,xx6,xx7,xx5,xx0,xx1,xx2,reduceIte,xx3,xx4,reduceCtorEq]
      refine ⟨[10],by simp,by simp,by simp,?_⟩
      simp only [range1,List.length_singleton,renL_rwp,Nat.not_lt_zero,range1,yzy,yz12,ren_ro,rnNm_n,yz13,rnNm_o,rnNm_s,ren_st,yz10,yzr,yzf,yz4,yzw,yzt,yzo,yzp,yzv,yz9,yz8,yze,yzd,yzj,yzi,yz3,yz7,yzc,yza,yzk,yzl,List.range_zero,yz5,yz6,yzb,yzu,yzm,yzq,AVal.fresh,freshL,yz2,yzh,AObj.fresh,id,Option.isSome_some,or_true,true_or,go_sem,yz0,xx9,xx8,xx6,xx7,xx5,xx0,xx1,xx2,reduceIte,xx3,xx4,reduceCtorEq]
      exact ⟨n,ps,v,a,s,hd,hl,hn.1,hn.2,hr,ha'.1,ha'.2,rfl,by simp,rfl⟩
    · simp only [gwp_nil,yzg,yz1,go_sem,yz0,xx9,xx8,xx6,xx7,xx5,xx0,xx1,xx2,reduceIte,xx3,xx4,reduceCtorEq]
      intro vs U hN
      simp only [← hQ,Az8,go_sem,yz0,xx9,xx8,xx6,xx7,xx5,xx0,xx1,xx2,reduceIte,xx3,xx4,reduceCtorEq]
      refine ⟨[77],by simp,by simp,by simp,?_⟩
      simp only [range1,List.length_singleton,renL_rwp,Nat.not_lt_zero,range1,yzy,yz12,ren_ro,rnNm_n,yz13,rnNm_o,rnNm_s,ren_st,yz10,yzr,yzf,yz4,yzw,yzt,yzo,yzp,yzv,yz9,yz8,yze,yzd,yzj,yzi,yz3,yz7,yzc,yza,yzk,yzl,List.range_zero,yz5,yz6,yzb,yzu,yzm,yzq,AVal.fresh,freshL,yz2,yzh,AObj.fresh,id,Option.isSome_some,or_true,true_or,go_sem,yz0,xx9,xx8,xx6,xx7,xx5,xx0,xx1,xx2,reduceIte,xx3,xx4,reduceCtorEq]
      exact ⟨n,ps,v,a,s,hd,hl,hn.1,hn.2,hr,ha'.1,ha'.2,rfl,by simp,rfl⟩
  have h12b:∀ (σ:St) (v2 v3 r v m:Nat) (o6 o10:AObj) (a s n:Int) (A2 C2:List (Nat×List Int)) (b:Nat×List Int) (cur:List Int),
      DJ (A2 ++ b :: C2)→(A2 ++ b :: C2).length≤10→-1≤n∧n≤11→(∀ p∈A2 ++ C2,p.2.length≤10)→cur.length≤10→at_≤a∧a≤at_+3000 →
      (r=6∧o6=.row v 1 true (rwp A2 ++ .own 901 m :: rwp C2)∨r=10∧o10=.row v 1 true (rwp A2 ++ .own 901 m :: rwp C2)) →
      σ.keep [2,3] [2,3,6,10,61,73,77,5000,901]=⟨L .any [(2,.ptr 2 v2 0),(3,.ptr 3 v3 0)],
        L .gone [(2,.box v2 [iv 0,.val (.slice none 0 0)]),(3,.box v3 [iv n,.own r v]),(6,o6),(10,o10),(61,.gone),(73,.gone),(77,.gone),(5000,.box 0 (srcC code a s)),(901,.row m 1 true (ints cur))]⟩ →
      wpD Tryz.prog Bzu Q σ:=by
    intro σ v2 v3 r v m o6 o10 a s n A2 C2 b cur hd hl hn hr hc ha' hrv hS
    unfold Bzu
    rw [yzg,hS]
    simp only [wpD_gh]
    intro hD
    have hset4:∀ X:AVal,(rwp A2 ++ AVal.own 901 m :: rwp C2).set A2.length X=rwp A2 ++ X :: rwp C2:=fun X=>by
      rw [List.set_append_right _ _ (by rw [rwp_len];exact Nat.le_refl _),rwp_len,Nat.sub_self];rfl
    rw [List.length_append,List.length_cons] at hl
    have key:(∀ n k'' cs'',AVal.ro (some (some (n+1))) k'' cs''∈rwp A2 ++ AVal.own 901 m :: rwp C2→cs''≠[]→n≠m)→DJ (A2 ++ (m,cur) :: C2):=fun hf=>DJ_in hd fun p hp=>by
      by_cases e:p.2=[]
      · exact .inl e
      · refine .inr (hf p.1 1 (ints p.2) ?_ (by simpa using e))
        rcases List.mem_append.1 hp with h | h
        · exact List.mem_append.2 (.inl (List.mem_map.2 ⟨p,h,rfl⟩))
        · exact List.mem_append.2 (.inr (List.mem_cons.2 (.inr (List.mem_map.2 ⟨p,h,rfl⟩))))
    have hr2:∀ p∈A2 ++ (m,cur) :: C2,p.2.length≤10:=fun p hp=>by
      simp only [List.mem_append,List.mem_cons] at hp
      rcases hp with h | rfl | h
      · exact hr p (by simp [h])
      · exact hc
      · exact hr p (by simp [h])
    rcases hrv with ⟨rfl,rfl⟩ | ⟨rfl,rfl⟩
    · refine ⟨[.rf 6 A2.length 901],gwp_rf (k:=1) (nn:=true) rfl (own_get rfl) (by decide) rfl fun hf=>?_⟩
      have D1:=key hf
      simp only [hset4,frNm_t,rwp_cat,gwp_nil,yzg,yz1,go_sem,yz0,xx9,xx8,xx6,xx7,xx5,xx0,xx1,xx2,reduceIte,xx3,xx4,reduceCtorEq]
      intro vs U hN
      simp only [← hQ,Az8,go_sem,yz0,xx9,xx8,xx6,xx7,xx5,xx0,xx1,xx2,reduceIte,xx3,xx4,reduceCtorEq]
      refine ⟨[6],by simp,by simp,by simp,?_⟩
      simp only [range1,List.length_singleton,renL_rwp,Nat.not_lt_zero,range1,yzy,yz12,ren_ro,rnNm_n,yz13,rnNm_o,rnNm_s,ren_st,yz10,yzr,yzf,yz4,yzw,yzt,yzo,yzp,yzv,yz9,yz8,yze,yzd,yzj,yzi,yz3,yz7,yzc,yza,yzk,yzl,List.range_zero,yz5,yz6,yzb,yzu,yzm,yzq,AVal.fresh,freshL,yz2,yzh,AObj.fresh,id,Option.isSome_some,or_true,true_or,go_sem,yz0,xx9,xx8,xx6,xx7,xx5,xx0,xx1,xx2,reduceIte,xx3,xx4,reduceCtorEq]
      exact ⟨n,A2 ++ (m,cur) :: C2,v,a,s,fun _=>D1,by simp;omega,hn.1,hn.2,hr2,ha'.1,ha'.2,rfl,by simp,rfl⟩
    · refine ⟨[.rf 10 A2.length 901],gwp_rf (k:=1) (nn:=true) rfl (own_get rfl) (by decide) rfl fun hf=>?_⟩
      have D1:=key hf
      simp only [hset4,frNm_t,rwp_cat,gwp_nil,yzg,yz1,go_sem,yz0,xx9,xx8,xx6,xx7,xx5,xx0,xx1,xx2,reduceIte,xx3,xx4,reduceCtorEq]
      intro vs U hN
      simp only [← hQ,Az8,go_sem,yz0,xx9,xx8,xx6,xx7,xx5,xx0,xx1,xx2,reduceIte,xx3,xx4,reduceCtorEq]
      refine ⟨[10],by simp,by simp,by simp,?_⟩
      simp only [range1,List.length_singleton,renL_rwp,Nat.not_lt_zero,range1,yzy,yz12,ren_ro,rnNm_n,yz13,rnNm_o,rnNm_s,ren_st,yz10,yzr,yzf,yz4,yzw,yzt,yzo,yzp,yzv,yz9,yz8,yze,yzd,yzj,yzi,yz3,yz7,yzc,yza,yzk,yzl,List.range_zero,yz5,yz6,yzb,yzu,yzm,yzq,AVal.fresh,freshL,yz2,yzh,AObj.fresh,id,Option.isSome_some,or_true,true_or,go_sem,yz0,xx9,xx8,xx6,xx7,xx5,xx0,xx1,xx2,reduceIte,xx3,xx4,reduceCtorEq]
      exact ⟨n,A2 ++ (m,cur) :: C2,v,a,s,fun _=>D1,by simp;omega,hn.1,hn.2,hr2,ha'.1,ha'.2,rfl,by simp,rfl⟩
  have h4:∀ (σ:St) (v2 v3:Nat) (r v:Nat) (o6 o10:AObj) (a s n:Int) (ps:List (Nat×List Int)),
      Aut n (ps.map (·.2))→DJ ps→at_≤a∧a≤at_+2500→(r=6∧o6=.row v 1 true (rwp ps)∨r=10∧o10=.row v 1 true (rwp ps)) →
      σ.keep [0,2,3] [2,3,6,10,61,73,77,5000,901]=⟨L .any [(0,.ptr 5000 0 0),(2,.ptr 2 v2 0),(3,.ptr 3 v3 0)],
        L .gone [(2,.box v2 [iv 0,.val (.slice none 0 0)]),(3,.box v3 [iv n,.own r v]),(6,o6),(10,o10),(61,.gone),(73,.gone),(77,.gone),(5000,.box 0 (srcC code a s)),(901,.gone)]⟩ →
      wpD Tryz.prog Bz6a Q σ:=by
    intro σ v2 v3 r v o6 o10 a s n ps A hd ha' hrv hS
    unfold Bz6a
    rw [yzg,hS]
    have l1:=A.l1
    have l2:=A.l2
    have n1:=A.n1
    have n2:=A.n2
    rw [List.length_map] at l1 l2
    rcases hrv with ⟨rfl,rfl⟩ | ⟨rfl,rfl⟩
    · simp only [rwp_len,yzg,yz1,go_sem,yz0,xx9,xx8,xx6,xx7,xx5,xx0,xx1,xx2,reduceIte,xx3,xx4,reduceCtorEq]
      intro vs U hN hM
      refine call_funB (k_pick code a s ps.length hb (by omega)) rfl qCS qCS ?_
      rintro cs' x ⟨a1,s1,at1,rfl,e1,e2,rfl,e3,e4⟩
      have hat:at1.toNat<ps.length:=by omega
      simp only [Bz69,yzg,yz1,go_sem,yz0,xx9,xx8,xx6,xx7,xx5,xx0,xx1,xx2,reduceIte,xx3,xx4,reduceCtorEq]
      intro vs1 U1 hN1
      refine call_funB (k_pick code a1 s1 24 hb (by omega)) rfl qCS qCS ?_
      rintro cs' x ⟨a2,s2,kd,rfl,f1,f2,rfl,f3,f4⟩
      have hps:∀ p∈ps,p.2.length≤10:=fun p hp=>by have:=(A.row p.2 (List.mem_map.2 ⟨p,hp,rfl⟩)).1;omega
      by_cases k0:kd=0
      · subst k0
        have w1:IntKind.i64.wrap (n+1)=n+1:=w64 (by omega)
        simp only [Bz2,Bz1,w1,beq_self_eq_true,yzg,yz1,go_sem,yz0,xx9,xx8,xx6,xx7,xx5,xx0,xx1,xx2,reduceIte,xx3,xx4,reduceCtorEq]
        intro vs2 U2 hN2 vs3 U3 hN3
        refine ⟨⟨⟨_,rfl,rfl⟩,⟨_,rfl,rfl⟩,⟨_,rfl,rfl⟩,_,rfl,rfl⟩,?_⟩
        refine call_boxrow (r:=5000) (q:=24) (k_among code a2 s2 [0,-1,n+1,11] hb (by omega) (by simp)) rfl rfl (by decide) qCS (by simp only [yzs,yz19,and_true,Coe];exact ⟨⟨0,_,_,rfl,rfl,rfl,rfl,rfl⟩,1,_,_,rfl,rfl,rfl,rfl,rfl⟩) ?_
        rintro cs' x ⟨a3,s3,b3,rfl,g3,g4,rfl,g5⟩
        have hb3:-1≤b3∧b3≤11:=by simp at g5;omega
        simp only [go_sem,yz0,xx9,xx8,xx6,xx7,xx5,xx0,xx1,xx2,reduceIte,xx3,xx4,reduceCtorEq]
        exact h12 _ v2 v3 6 v _ o10 .gone .gone .gone a3 s3 b3 ps (fun _=>hd) (by omega) hb3 hps (by omega) (.inl ⟨rfl,rfl⟩) (by simp only [go_sem,yz0,xx9,xx8,xx6,xx7,xx5,xx0,xx1,xx2,reduceIte,xx3,xx4,reduceCtorEq];try rfl)
      by_cases k1:kd=1
      · subst k1
        simp only [beq_false_of_ne (show (1:Int)≠0 by omega),Bz2,Bz1,Bz3,rwp_getD hat,St.bound,List.take_length,beq_self_eq_true,yzg,yz1,go_sem,yz0,xx9,xx8,xx6,xx7,xx5,xx0,xx1,xx2,reduceIte,xx3,xx4,reduceCtorEq]
        intro _ _ _ _ _ _ vs4 U4 hN4
        have hlw:(rwp ps).length=ps.length:=rwp_len
        have hrl:=(A.row _ (List.mem_map.2 ⟨_,yzn hat (0,[]),rfl⟩)).1
        refine ⟨⟨e3,by omega⟩,by omega,⟨by omega,Nat.le_refl _⟩,⟨e3,by omega⟩,by omega,?_⟩
        have ed:List.drop 1 (ints (ps.getD at1.toNat (0,[])).2)=ints ((ps.getD at1.toNat (0,[])).2.drop 1):=by simp only [List.map_drop]
        rw [ed,rwp_putN (p:=((ps.getD at1.toNat (0,[])).1,(ps.getD at1.toNat (0,[])).2.drop 1))]
        have hlp:(ps.take at1.toNat ++ [((ps.getD at1.toNat (0,[])).1,(ps.getD at1.toNat (0,[])).2.drop 1)] ++ ps.drop (at1.toNat+1)).length=ps.length:=by
          simp only [List.length_append,List.length_take,List.length_drop,List.length_singleton];omega
        exact h12 _ v2 v3 6 v _ o10 .gone .gone .gone a2 s2 n _ (fun _=>DJ_set (xs:=(ps.getD at1.toNat (0,[])).2.drop 1) hat hd fun e=>by rw [e];rfl) (by rw [hlp];omega) (by omega) (fun p hp=>by
          simp only [List.mem_append,List.mem_singleton] at hp
          rcases hp with (hp | rfl) | hp
          · exact hps p (List.mem_of_mem_take hp)
          · have:=hps _ (yzn hat (0,[]));simp only [List.length_drop];omega
          · exact hps p (List.mem_of_mem_drop hp)) (by omega) (.inl ⟨rfl,rfl⟩) (by simp only [go_sem,yz0,xx9,xx8,xx6,xx7,xx5,xx0,xx1,xx2,reduceIte,xx3,xx4,reduceCtorEq];try rfl)
      by_cases k2:kd=2
      · subst k2
        obtain ⟨A2,b,C2,rfl,hAk⟩:=rwp_split hat
        have hbr:=A.row b.2 (by simp)
        have hbn:b.2≠[]:=fun e=>by rw [e] at hbr;simp at hbr;omega
        have hbl:0<b.2.length:=by omega
        have F0:=DJ_out hd hbn
        have F0a:∀ p∈A2 ++ C2,p.2=[]∨p.1≠b.1:=F0
        simp only [beq_false_of_ne (show (2:Int)≠0 by omega),beq_false_of_ne (show (2:Int)≠1 by omega),Bz2,Bz1,Bz3,yzg,yz1,go_sem,yz0,xx9,xx8,xx6,xx7,xx5,xx0,xx1,xx2,reduceIte,xx3,xx4,reduceCtorEq]
        intro _ _ _ _ _ _ _ _ _
        simp only [beq_self_eq_true,Bz5,yzg,wpD_gh,go_sem,yz0,xx9,xx8,xx6,xx7,xx5,xx0,xx1,xx2,reduceIte,xx3,xx4,reduceCtorEq]
        intro _
        refine ⟨[.thaw 6 at1.toNat 901],gwp_thaw (n:=b.1) rfl (rwp_get hAk.symm) (by simpa using hbn) rfl fun m1=>?_⟩
        have hset:(woL b.1 (rwp (A2 ++ b :: C2))).set at1.toNat (AVal.own 901 m1)=rwp A2 ++ AVal.own 901 m1 :: rwp C2:=by rw [← hAk];exact woL_set F0a
        have ho1:(rwp A2 ++ AVal.own 901 m1 :: rwp C2).getD at1.toNat .any=.own 901 m1:=own_at hAk.symm
        have hol:(rwp A2 ++ AVal.own 901 m1 :: rwp C2).length=A2.length+(C2.length+1):=by rw [List.length_append,List.length_cons,rwp_len,rwp_len]
        have hkl:at1.toNat<(rwp A2 ++ AVal.own 901 m1 :: rwp C2).length:=by omega
        simp only [hset,woT,woO,woL_cons,woL_nil,woV_val,woV_own,wo_ptr,wo_o,woL_ints,wo_st,woO_row,woO_box,woO_gone,wo_any,gwp_nil,yzg,yz1,go_sem,yz0,xx9,xx8,xx6,xx7,xx5,xx0,xx1,xx2,reduceIte,xx3,xx4,reduceCtorEq]
        intro vs4 U4 hN4
        simp only [ho1,go_sem,yz0,xx9,xx8,xx6,xx7,xx5,xx0,xx1,xx2,reduceIte,xx3,xx4,reduceCtorEq]
        refine ⟨⟨e3,hkl⟩,hkl,⟨⟨_,rfl,rfl⟩,_,rfl,rfl⟩,?_⟩
        refine call_boxrowN (r:=5000) (q:=49) (cs0:=srcC code a2 s2) (k_among code a2 s2 [-1,n] hb (by omega) (by simp)) rfl rfl (by simp) (by decide) qCS (by simp only [yzs,yz19,and_true,Coe];exact ⟨⟨0,_,_,rfl,rfl,rfl,rfl,rfl⟩,1,_,_,rfl,rfl,rfl,rfl,rfl⟩) ⟨srcC code a2 0,.int .i64 n,⟨a2,0,n,rfl,by omega,by omega,rfl,by simp⟩,flat_srcC⟩ ?_
        rintro cs' x ⟨a3,s3,b3,rfl,g3,g4,rfl,g5⟩
        simp only [yzg,yz1,go_sem,yz0,xx9,xx8,xx6,xx7,xx5,xx0,xx1,xx2,reduceIte,xx3,xx4,reduceCtorEq]
        refine ⟨hbl,hbl,?_⟩
        have ed:AVal.val (.int .i64 b3) :: List.drop 1 (ints b.2)=ints (b3 :: b.2.drop 1):=by simp [List.map_drop]
        rw [ed]
        exact h12b _ v2 v3 6 v m1 _ (AObj.wo b.1 o10) a3 s3 n A2 C2 b (b3 :: b.2.drop 1) hd (by omega) (by omega) (fun p hp=>hps p (by simp only [List.mem_append,List.mem_cons] at hp ⊢;rcases hp with h | h <;> simp [h])) (by simp only [List.length_cons,List.length_drop];omega) (by omega) (.inl ⟨rfl,rfl⟩) (by simp only [go_sem,yz0,xx9,xx8,xx6,xx7,xx5,xx0,xx1,xx2,reduceIte,xx3,xx4,reduceCtorEq];try rfl)
      by_cases k3:kd=3
      · subst k3
        have h00:0<ps.length:=by omega
        simp only [beq_false_of_ne (show (3:Int)≠0 by omega),beq_false_of_ne (show (3:Int)≠1 by omega),Bz2,Bz1,Bz3,yzg,yz1,go_sem,yz0,xx9,xx8,xx6,xx7,xx5,xx0,xx1,xx2,reduceIte,xx3,xx4,reduceCtorEq]
        intro _ _ _ _ _ _ _ _ _
        simp only [beq_false_of_ne (show (3:Int)≠2 by omega),Bz5,yzg,wpD_gh,go_sem,yz0,xx9,xx8,xx6,xx7,xx5,xx0,xx1,xx2,reduceIte,xx3,xx4,reduceCtorEq]
        intro _
        refine ⟨[],?_⟩
        simp only [beq_self_eq_true,Bz7,rwp_getD h00,gwp_nil,yzg,yz1,go_sem,yz0,xx9,xx8,xx6,xx7,xx5,xx0,xx1,xx2,reduceIte,xx3,xx4,reduceCtorEq]
        intro _ _ _ vs9 U9 hN9
        have hlw:(rwp ps).length=ps.length:=rwp_len
        refine ⟨by omega,by omega,by omega,by omega,by omega,by omega,by omega,by rw [List.length_append,List.length_singleton];omega,?_⟩
        generalize hp0:ps.getD 0 (0,[])=p0
        have hp0m:p0∈ps:=hp0 ▸ yzn h00 (0,[])
        have e5:rwp ps ++ [AVal.ro (some (some (p0.1+1))) 1 (ints p0.2)] ++ [AVal.ro (some (some (p0.1+1))) 1 (ints p0.2),AVal.ro (some (some (p0.1+1))) 1 (ints p0.2)]=rwp (ps ++ [p0] ++ [p0,p0]):=by simp only [rwp,List.map_append,List.map_cons,List.map_nil]
        rw [e5]
        have hl6:(ps ++ [p0] ++ [p0,p0]).length=ps.length+3:=by simp
        exact h12 _ v2 v3 6 (vs9 19 0) _ o10 .gone .gone .gone a2 s2 n (ps ++ [p0] ++ [p0,p0]) (fun h=>absurd h (by omega)) (by omega) (by omega) (fun p hp=>by
          simp only [List.mem_append,List.mem_cons,List.not_mem_nil,or_false] at hp
          rcases hp with (hp | rfl) | rfl | rfl
          · exact hps p hp
          · exact hps _ hp0m
          · exact hps _ hp0m
          · exact hps _ hp0m) (by omega) (.inl ⟨rfl,rfl⟩) (by simp only [go_sem,yz0,xx9,xx8,xx6,xx7,xx5,xx0,xx1,xx2,reduceIte,xx3,xx4,reduceCtorEq];try rfl)
      by_cases k4:kd=4
      · subst k4
        simp only [beq_false_of_ne (show (4:Int)≠0 by omega),beq_false_of_ne (show (4:Int)≠1 by omega),Bz2,Bz1,Bz3,yzg,yz1,go_sem,yz0,xx9,xx8,xx6,xx7,xx5,xx0,xx1,xx2,reduceIte,xx3,xx4,reduceCtorEq]
        intro _ _ _ _ _ _ _ _ _
        simp only [beq_false_of_ne (show (4:Int)≠2 by omega),Bz5,yzg,wpD_gh,go_sem,yz0,xx9,xx8,xx6,xx7,xx5,xx0,xx1,xx2,reduceIte,xx3,xx4,reduceCtorEq]
        intro _
        refine ⟨[],?_⟩
        simp only [beq_false_of_ne (show (4:Int)≠3 by omega),Bz7,Bzt,beq_self_eq_true,gwp_nil,yzg,yz1,go_sem,yz0,xx9,xx8,xx6,xx7,xx5,xx0,xx1,xx2,reduceIte,xx3,xx4,reduceCtorEq]
        intro _ _ _ _ _ _ vs9 U9 hN9
        exact h12 _ v2 v3 77 (vs9 0 0) _ o10 .gone .gone _ a2 s2 n [] (fun _=>by simp [DJ]) (by simp) (by omega) (by simp) (by omega) (.inr (.inr ⟨rfl,rfl⟩)) (by simp only [rwp_nil,go_sem,yz0,xx9,xx8,xx6,xx7,xx5,xx0,xx1,xx2,reduceIte,xx3,xx4,reduceCtorEq];try rfl)
      simp only [beq_false_of_ne k0,beq_false_of_ne k1,Bz2,Bz1,Bz3,yzg,yz1,go_sem,yz0,xx9,xx8,xx6,xx7,xx5,xx0,xx1,xx2,reduceIte,xx3,xx4,reduceCtorEq]
      intro _ _ _ _ _ _ _ _ _
      simp only [beq_false_of_ne k2,Bz5,yzg,wpD_gh,go_sem,yz0,xx9,xx8,xx6,xx7,xx5,xx0,xx1,xx2,reduceIte,xx3,xx4,reduceCtorEq]
      intro _
      refine ⟨[],?_⟩
      simp only [beq_false_of_ne k3,beq_false_of_ne k4,Bz7,Bzt,gwp_nil,yzg,yz1,go_sem,yz0,xx9,xx8,xx6,xx7,xx5,xx0,xx1,xx2,reduceIte,xx3,xx4,reduceCtorEq]
      intro _ _ _ _ _ _
      exact h12 _ v2 v3 6 v _ o10 .gone .gone .gone a2 s2 n ps (fun _=>hd) (by omega) (by omega) hps (by omega) (.inl ⟨rfl,rfl⟩) (by simp only [go_sem,yz0,xx9,xx8,xx6,xx7,xx5,xx0,xx1,xx2,reduceIte,xx3,xx4,reduceCtorEq];try rfl)
    · simp only [rwp_len,yzg,yz1,go_sem,yz0,xx9,xx8,xx6,xx7,xx5,xx0,xx1,xx2,reduceIte,xx3,xx4,reduceCtorEq]
      intro vs U hN hM
      refine call_funB (k_pick code a s ps.length hb (by omega)) rfl qCS qCS ?_
      rintro cs' x ⟨a1,s1,at1,rfl,e1,e2,rfl,e3,e4⟩
      have hat:at1.toNat<ps.length:=by omega
      simp only [Bz69,yzg,yz1,go_sem,yz0,xx9,xx8,xx6,xx7,xx5,xx0,xx1,xx2,reduceIte,xx3,xx4,reduceCtorEq]
      intro vs1 U1 hN1
      refine call_funB (k_pick code a1 s1 24 hb (by omega)) rfl qCS qCS ?_
      rintro cs' x ⟨a2,s2,kd,rfl,f1,f2,rfl,f3,f4⟩
      have hps:∀ p∈ps,p.2.length≤10:=fun p hp=>by have:=(A.row p.2 (List.mem_map.2 ⟨p,hp,rfl⟩)).1;omega
      by_cases k0:kd=0
      · subst k0
        have w1:IntKind.i64.wrap (n+1)=n+1:=w64 (by omega)
        simp only [Bz2,Bz1,w1,beq_self_eq_true,yzg,yz1,go_sem,yz0,xx9,xx8,xx6,xx7,xx5,xx0,xx1,xx2,reduceIte,xx3,xx4,reduceCtorEq]
        intro vs2 U2 hN2 vs3 U3 hN3
        refine ⟨⟨⟨_,rfl,rfl⟩,⟨_,rfl,rfl⟩,⟨_,rfl,rfl⟩,_,rfl,rfl⟩,?_⟩
        refine call_boxrow (r:=5000) (q:=24) (k_among code a2 s2 [0,-1,n+1,11] hb (by omega) (by simp)) rfl rfl (by decide) qCS (by simp only [yzs,yz19,and_true,Coe];exact ⟨⟨0,_,_,rfl,rfl,rfl,rfl,rfl⟩,1,_,_,rfl,rfl,rfl,rfl,rfl⟩) ?_
        rintro cs' x ⟨a3,s3,b3,rfl,g3,g4,rfl,g5⟩
        have hb3:-1≤b3∧b3≤11:=by simp at g5;omega
        simp only [go_sem,yz0,xx9,xx8,xx6,xx7,xx5,xx0,xx1,xx2,reduceIte,xx3,xx4,reduceCtorEq]
        exact h12 _ v2 v3 10 v o6 _ .gone .gone .gone a3 s3 b3 ps (fun _=>hd) (by omega) hb3 hps (by omega) (.inr (.inl ⟨rfl,rfl⟩)) (by simp only [go_sem,yz0,xx9,xx8,xx6,xx7,xx5,xx0,xx1,xx2,reduceIte,xx3,xx4,reduceCtorEq];try rfl)
      by_cases k1:kd=1
      · subst k1
        simp only [beq_false_of_ne (show (1:Int)≠0 by omega),Bz2,Bz1,Bz3,rwp_getD hat,St.bound,List.take_length,beq_self_eq_true,yzg,yz1,go_sem,yz0,xx9,xx8,xx6,xx7,xx5,xx0,xx1,xx2,reduceIte,xx3,xx4,reduceCtorEq]
        intro _ _ _ _ _ _ vs4 U4 hN4
        have hlw:(rwp ps).length=ps.length:=rwp_len
        have hrl:=(A.row _ (List.mem_map.2 ⟨_,yzn hat (0,[]),rfl⟩)).1
        refine ⟨⟨e3,by omega⟩,by omega,⟨by omega,Nat.le_refl _⟩,⟨e3,by omega⟩,by omega,?_⟩
        have ed:List.drop 1 (ints (ps.getD at1.toNat (0,[])).2)=ints ((ps.getD at1.toNat (0,[])).2.drop 1):=by simp only [List.map_drop]
        rw [ed,rwp_putN (p:=((ps.getD at1.toNat (0,[])).1,(ps.getD at1.toNat (0,[])).2.drop 1))]
        have hlp:(ps.take at1.toNat ++ [((ps.getD at1.toNat (0,[])).1,(ps.getD at1.toNat (0,[])).2.drop 1)] ++ ps.drop (at1.toNat+1)).length=ps.length:=by
          simp only [List.length_append,List.length_take,List.length_drop,List.length_singleton];omega
        exact h12 _ v2 v3 10 v o6 _ .gone .gone .gone a2 s2 n _ (fun _=>DJ_set (xs:=(ps.getD at1.toNat (0,[])).2.drop 1) hat hd fun e=>by rw [e];rfl) (by rw [hlp];omega) (by omega) (fun p hp=>by
          simp only [List.mem_append,List.mem_singleton] at hp
          rcases hp with (hp | rfl) | hp
          · exact hps p (List.mem_of_mem_take hp)
          · have:=hps _ (yzn hat (0,[]));simp only [List.length_drop];omega
          · exact hps p (List.mem_of_mem_drop hp)) (by omega) (.inr (.inl ⟨rfl,rfl⟩)) (by simp only [go_sem,yz0,xx9,xx8,xx6,xx7,xx5,xx0,xx1,xx2,reduceIte,xx3,xx4,reduceCtorEq];try rfl)
      by_cases k2:kd=2
      · subst k2
        obtain ⟨A2,b,C2,rfl,hAk⟩:=rwp_split hat
        have hbr:=A.row b.2 (by simp)
        have hbn:b.2≠[]:=fun e=>by rw [e] at hbr;simp at hbr;omega
        have hbl:0<b.2.length:=by omega
        have F0:=DJ_out hd hbn
        have F0a:∀ p∈A2 ++ C2,p.2=[]∨p.1≠b.1:=F0
        simp only [beq_false_of_ne (show (2:Int)≠0 by omega),beq_false_of_ne (show (2:Int)≠1 by omega),Bz2,Bz1,Bz3,yzg,yz1,go_sem,yz0,xx9,xx8,xx6,xx7,xx5,xx0,xx1,xx2,reduceIte,xx3,xx4,reduceCtorEq]
        intro _ _ _ _ _ _ _ _ _
        simp only [beq_self_eq_true,Bz5,yzg,wpD_gh,go_sem,yz0,xx9,xx8,xx6,xx7,xx5,xx0,xx1,xx2,reduceIte,xx3,xx4,reduceCtorEq]
        intro _
        refine ⟨[.thaw 10 at1.toNat 901],gwp_thaw (n:=b.1) rfl (rwp_get hAk.symm) (by simpa using hbn) rfl fun m1=>?_⟩
        have hset:(woL b.1 (rwp (A2 ++ b :: C2))).set at1.toNat (AVal.own 901 m1)=rwp A2 ++ AVal.own 901 m1 :: rwp C2:=by rw [← hAk];exact woL_set F0a
        have ho1:(rwp A2 ++ AVal.own 901 m1 :: rwp C2).getD at1.toNat .any=.own 901 m1:=own_at hAk.symm
        have hol:(rwp A2 ++ AVal.own 901 m1 :: rwp C2).length=A2.length+(C2.length+1):=by rw [List.length_append,List.length_cons,rwp_len,rwp_len]
        have hkl:at1.toNat<(rwp A2 ++ AVal.own 901 m1 :: rwp C2).length:=by omega
        simp only [hset,woT,woO,woL_cons,woL_nil,woV_val,woV_own,wo_ptr,wo_o,woL_ints,wo_st,woO_row,woO_box,woO_gone,wo_any,gwp_nil,yzg,yz1,go_sem,yz0,xx9,xx8,xx6,xx7,xx5,xx0,xx1,xx2,reduceIte,xx3,xx4,reduceCtorEq]
        intro vs4 U4 hN4
        simp only [ho1,go_sem,yz0,xx9,xx8,xx6,xx7,xx5,xx0,xx1,xx2,reduceIte,xx3,xx4,reduceCtorEq]
        refine ⟨⟨e3,hkl⟩,hkl,⟨⟨_,rfl,rfl⟩,_,rfl,rfl⟩,?_⟩
        refine call_boxrowN (r:=5000) (q:=49) (cs0:=srcC code a2 s2) (k_among code a2 s2 [-1,n] hb (by omega) (by simp)) rfl rfl (by simp) (by decide) qCS (by simp only [yzs,yz19,and_true,Coe];exact ⟨⟨0,_,_,rfl,rfl,rfl,rfl,rfl⟩,1,_,_,rfl,rfl,rfl,rfl,rfl⟩) ⟨srcC code a2 0,.int .i64 n,⟨a2,0,n,rfl,by omega,by omega,rfl,by simp⟩,flat_srcC⟩ ?_
        rintro cs' x ⟨a3,s3,b3,rfl,g3,g4,rfl,g5⟩
        simp only [yzg,yz1,go_sem,yz0,xx9,xx8,xx6,xx7,xx5,xx0,xx1,xx2,reduceIte,xx3,xx4,reduceCtorEq]
        refine ⟨hbl,hbl,?_⟩
        have ed:AVal.val (.int .i64 b3) :: List.drop 1 (ints b.2)=ints (b3 :: b.2.drop 1):=by simp [List.map_drop]
        rw [ed]
        exact h12b _ v2 v3 10 v m1 (AObj.wo b.1 o6) _ a3 s3 n A2 C2 b (b3 :: b.2.drop 1) hd (by omega) (by omega) (fun p hp=>hps p (by simp only [List.mem_append,List.mem_cons] at hp ⊢;rcases hp with h | h <;> simp [h])) (by simp only [List.length_cons,List.length_drop];omega) (by omega) (.inr ⟨rfl,rfl⟩) (by simp only [go_sem,yz0,xx9,xx8,xx6,xx7,xx5,xx0,xx1,xx2,reduceIte,xx3,xx4,reduceCtorEq];try rfl)
      by_cases k3:kd=3
      · subst k3
        have h00:0<ps.length:=by omega
        simp only [beq_false_of_ne (show (3:Int)≠0 by omega),beq_false_of_ne (show (3:Int)≠1 by omega),Bz2,Bz1,Bz3,yzg,yz1,go_sem,yz0,xx9,xx8,xx6,xx7,xx5,xx0,xx1,xx2,reduceIte,xx3,xx4,reduceCtorEq]
        intro _ _ _ _ _ _ _ _ _
        simp only [beq_false_of_ne (show (3:Int)≠2 by omega),Bz5,yzg,wpD_gh,go_sem,yz0,xx9,xx8,xx6,xx7,xx5,xx0,xx1,xx2,reduceIte,xx3,xx4,reduceCtorEq]
        intro _
        refine ⟨[],?_⟩
        simp only [beq_self_eq_true,Bz7,rwp_getD h00,gwp_nil,yzg,yz1,go_sem,yz0,xx9,xx8,xx6,xx7,xx5,xx0,xx1,xx2,reduceIte,xx3,xx4,reduceCtorEq]
        intro _ _ _ vs9 U9 hN9
        have hlw:(rwp ps).length=ps.length:=rwp_len
        refine ⟨by omega,by omega,by omega,by omega,by omega,by omega,by omega,by rw [List.length_append,List.length_singleton];omega,?_⟩
        generalize hp0:ps.getD 0 (0,[])=p0
        have hp0m:p0∈ps:=hp0 ▸ yzn h00 (0,[])
        have e5:rwp ps ++ [AVal.ro (some (some (p0.1+1))) 1 (ints p0.2)] ++ [AVal.ro (some (some (p0.1+1))) 1 (ints p0.2),AVal.ro (some (some (p0.1+1))) 1 (ints p0.2)]=rwp (ps ++ [p0] ++ [p0,p0]):=by simp only [rwp,List.map_append,List.map_cons,List.map_nil]
        rw [e5]
        have hl6:(ps ++ [p0] ++ [p0,p0]).length=ps.length+3:=by simp
        exact h12 _ v2 v3 10 (vs9 19 0) o6 _ .gone .gone .gone a2 s2 n (ps ++ [p0] ++ [p0,p0]) (fun h=>absurd h (by omega)) (by omega) (by omega) (fun p hp=>by
          simp only [List.mem_append,List.mem_cons,List.not_mem_nil,or_false] at hp
          rcases hp with (hp | rfl) | rfl | rfl
          · exact hps p hp
          · exact hps _ hp0m
          · exact hps _ hp0m
          · exact hps _ hp0m) (by omega) (.inr (.inl ⟨rfl,rfl⟩)) (by simp only [go_sem,yz0,xx9,xx8,xx6,xx7,xx5,xx0,xx1,xx2,reduceIte,xx3,xx4,reduceCtorEq];try rfl)
      by_cases k4:kd=4
      · subst k4
        simp only [beq_false_of_ne (show (4:Int)≠0 by omega),beq_false_of_ne (show (4:Int)≠1 by omega),Bz2,Bz1,Bz3,yzg,yz1,go_sem,yz0,xx9,xx8,xx6,xx7,xx5,xx0,xx1,xx2,reduceIte,xx3,xx4,reduceCtorEq]
        intro _ _ _ _ _ _ _ _ _
        simp only [beq_false_of_ne (show (4:Int)≠2 by omega),Bz5,yzg,wpD_gh,go_sem,yz0,xx9,xx8,xx6,xx7,xx5,xx0,xx1,xx2,reduceIte,xx3,xx4,reduceCtorEq]
        intro _
        refine ⟨[],?_⟩
        simp only [beq_false_of_ne (show (4:Int)≠3 by omega),Bz7,Bzt,beq_self_eq_true,gwp_nil,yzg,yz1,go_sem,yz0,xx9,xx8,xx6,xx7,xx5,xx0,xx1,xx2,reduceIte,xx3,xx4,reduceCtorEq]
        intro _ _ _ _ _ _ vs9 U9 hN9
        exact h12 _ v2 v3 77 (vs9 0 0) o6 _ .gone .gone _ a2 s2 n [] (fun _=>by simp [DJ]) (by simp) (by omega) (by simp) (by omega) (.inr (.inr ⟨rfl,rfl⟩)) (by simp only [rwp_nil,go_sem,yz0,xx9,xx8,xx6,xx7,xx5,xx0,xx1,xx2,reduceIte,xx3,xx4,reduceCtorEq];try rfl)
      simp only [beq_false_of_ne k0,beq_false_of_ne k1,Bz2,Bz1,Bz3,yzg,yz1,go_sem,yz0,xx9,xx8,xx6,xx7,xx5,xx0,xx1,xx2,reduceIte,xx3,xx4,reduceCtorEq]
      intro _ _ _ _ _ _ _ _ _
      simp only [beq_false_of_ne k2,Bz5,yzg,wpD_gh,go_sem,yz0,xx9,xx8,xx6,xx7,xx5,xx0,xx1,xx2,reduceIte,xx3,xx4,reduceCtorEq]
      intro _
      refine ⟨[],?_⟩
      simp only [beq_false_of_ne k3,beq_false_of_ne k4,Bz7,Bzt,gwp_nil,yzg,yz1,go_sem,yz0,xx9,xx8,xx6,xx7,xx5,xx0,xx1,xx2,reduceIte,xx3,xx4,reduceCtorEq]
      intro _ _ _ _ _ _
      exact h12 _ v2 v3 10 v o6 _ .gone .gone .gone a2 s2 n ps (fun _=>hd) (by omega) (by omega) hps (by omega) (.inr (.inl ⟨rfl,rfl⟩)) (by simp only [go_sem,yz0,xx9,xx8,xx6,xx7,xx5,xx0,xx1,xx2,reduceIte,xx3,xx4,reduceCtorEq];try rfl)
  simp only [Az8,Bzed,yzg,yz1,go_sem,yz0,xx9,xx8,xx6,xx7,xx5,xx0,xx1,xx2,reduceIte,xx3,xx4,reduceCtorEq]
  intro vs0 U0 hN0 vs1 U1 hN1
  refine call_con (r:=5000) (k_DrawnN code at_ seed 6 hb (by omega) (by omega)) rfl (by simp only [Bool.not_true,rowIs,boxIs,coe_argN,coe_argNs,coe_ro_o,yz19,yzs,coe_any,coe_val,coe_ro,yz15,yz16,coe_st,yz18,coe_rp,yz17,coe_clo,coe_own0,coe_ptr0,yz11,coeL_rws,coeL_rwn,L_hit,L_miss,L_nil,xx3,ne_eq,reduceCtorEq,not_false_eq_true,true_and,and_true,and_self,exists_eq_left,exists_eq_right,List.mem_cons,List.not_mem_nil,or_false,AObj.row.injEq,AObj.box.injEq,exists_eq_left',exists_and_left,exists_eq,Nat.zero_lt_one,Nat.lt_add_one,List.map_cons,List.map_nil,AObj.ver,xx5,not_true_eq_false]) (by simp only [Bool.not_true,rowIs,boxIs,coe_argN,coe_argNs,coe_ro_o,yz19,yzs,coe_any,coe_val,coe_ro,yz15,yz16,coe_st,yz18,coe_rp,yz17,coe_clo,coe_own0,coe_ptr0,yz11,coeL_rws,coeL_rwn,L_hit,L_miss,L_nil,xx3,ne_eq,reduceCtorEq,not_false_eq_true,true_and,and_true,and_self,exists_eq_left,exists_eq_right,List.mem_cons,List.not_mem_nil,or_false,AObj.row.injEq,AObj.box.injEq,exists_eq_left',exists_and_left,exists_eq,Nat.zero_lt_one,Nat.lt_add_one,List.map_cons,List.map_nil,AObj.ver,xx5,not_true_eq_false]) ?_
  rintro outs rows res ⟨q,qs,vq,a1,s1,A,hd,hq3,h1,h2,rfl,rfl,rfl⟩
  refine ⟨rfl,by simp,by rw [Option.getD_some,yzm];simp only [go_sem,yz0,xx9,xx8,xx6,xx7,xx5,xx0,xx1,xx2,reduceIte,xx3,xx4,reduceCtorEq],?_⟩
  rw [Option.getD_some,callHp_mr (by omega)]
  have hv0:∀ y,vs1 1 y≠0:=fun y e=>by
    have h:=hN1.hp 5000
    simp only [AObj.uses,go_sem,yz0,xx9,xx8,xx6,xx7,xx5,xx0,xx1,xx2,reduceIte,xx3,xx4,reduceCtorEq] at h
    exact hN1.new 1 y (by rw [e];exact h.1)
  simp only [renL_rwp,Bzec,yzg,yz1,Nat.not_lt_zero,range1,yzy,yz12,ren_ro,rnNm_n,yz13,rnNm_o,rnNm_s,ren_st,yz10,yzr,yzf,yz4,yzw,yzt,yzo,yzp,yzv,yz9,yz8,yze,yzd,yzj,yzi,yz3,yz7,yzc,yza,yzk,yzl,List.range_zero,yz5,yz6,yzb,yzu,yzm,yzq,AVal.fresh,freshL,yz2,yzh,AObj.fresh,id,Option.isSome_some,or_true,true_or,go_sem,yz0,xx9,xx8,xx6,xx7,xx5,xx0,xx1,xx2,reduceIte,xx3,xx4,reduceCtorEq]
  intro vs2 U2 hN2
  clear hN2
  have hsi:=fun l (h:L .gone l 5000=.box 0 (srcC code at_ seed))=>sv_inj (hp:=L .gone l) (r:=5000) h (fun x y e=>(hN1.inj _ _ _ _ e).2) hv0
  have hs0:=fun l (h:L .gone l 5000=.box 0 (srcC code at_ seed))=>(sv_m (s:=vs1 1) h:sv (L .gone l) [5000] (vs1 1) 0=0)
  generalize hl0:[(2,AObj.box (vs0 0 0) [iv 0,AVal.val (Value.slice none 0 0)]),(3,AObj.gone),(6,AObj.gone),(10,AObj.gone),(61,AObj.gone),(73,AObj.gone),(77,AObj.gone),(5000,AObj.box 0 (srcC code at_ seed)),(901,AObj.gone)]=l0
  have hi:=hsi l0 (by rw [← hl0];rfl)
  have h0:=hs0 l0 (by rw [← hl0];rfl)
  generalize sv (L .gone l0) [5000] (vs1 1)=f at hi h0 ⊢
  rw [h0]
  have A0:Aut q ((qs.map fun p=>(f p.1,p.2)).map (·.2)):=by rw [List.map_map];exact A
  have hd0:=hd.ren hi
  generalize (qs.map fun p=>(f p.1,p.2))=ps0 at A0 hd0 ⊢
  refine call_funB (k_one code a1 s1 8 hb (by omega)) rfl qCS qCS ?_
  rintro cs' x ⟨a2,s2,b2,rfl,g1,g2,rfl⟩
  simp only [Bzeb,yzg,yz1,go_sem,yz0,xx9,xx8,xx6,xx7,xx5,xx0,xx1,xx2,reduceIte,xx3,xx4,reduceCtorEq]
  refine ⟨fun _ vs3 U3 hN3=>?_,fun _=>?_⟩
  · refine call_con (r:=5000) (k_DrawnN code a2 s2 10 hb (by omega) (by omega)) rfl (by simp only [Bool.not_true,rowIs,boxIs,coe_argN,coe_argNs,coe_ro_o,yz19,yzs,coe_any,coe_val,coe_ro,yz15,yz16,coe_st,yz18,coe_rp,yz17,coe_clo,coe_own0,coe_ptr0,yz11,coeL_rws,coeL_rwn,L_hit,L_miss,L_nil,xx3,ne_eq,reduceCtorEq,not_false_eq_true,true_and,and_true,and_self,exists_eq_left,exists_eq_right,List.mem_cons,List.not_mem_nil,or_false,AObj.row.injEq,AObj.box.injEq,exists_eq_left',exists_and_left,exists_eq,Nat.zero_lt_one,Nat.lt_add_one,List.map_cons,List.map_nil,AObj.ver,xx5,not_true_eq_false]) (by simp only [Bool.not_true,rowIs,boxIs,coe_argN,coe_argNs,coe_ro_o,yz19,yzs,coe_any,coe_val,coe_ro,yz15,yz16,coe_st,yz18,coe_rp,yz17,coe_clo,coe_own0,coe_ptr0,yz11,coeL_rws,coeL_rwn,L_hit,L_miss,L_nil,xx3,ne_eq,reduceCtorEq,not_false_eq_true,true_and,and_true,and_self,exists_eq_left,exists_eq_right,List.mem_cons,List.not_mem_nil,or_false,AObj.row.injEq,AObj.box.injEq,exists_eq_left',exists_and_left,exists_eq,Nat.zero_lt_one,Nat.lt_add_one,List.map_cons,List.map_nil,AObj.ver,xx5,not_true_eq_false]) ?_
    rintro outs rows res ⟨q',qs',vq',a3,s3,A',hd',hq',g3,g4,rfl,rfl,rfl⟩
    refine ⟨rfl,by simp,by rw [Option.getD_some,yzm];simp only [go_sem,yz0,xx9,xx8,xx6,xx7,xx5,xx0,xx1,xx2,reduceIte,xx3,xx4,reduceCtorEq],?_⟩
    rw [Option.getD_some,callHp_mr (by omega)]
    have hv1:∀ y,vs3 1 y≠0:=fun y e=>by
      have h:=hN3.hp 5000
      simp only [AObj.uses,go_sem,yz0,xx9,xx8,xx6,xx7,xx5,xx0,xx1,xx2,reduceIte,xx3,xx4,reduceCtorEq] at h
      exact hN3.new 1 y (by rw [e];exact h.1)
    simp only [renL_rwp,yzg,yz1,Nat.not_lt_zero,range1,yzy,yz12,ren_ro,rnNm_n,yz13,rnNm_o,rnNm_s,ren_st,yz10,yzr,yzf,yz4,yzw,yzt,yzo,yzp,yzv,yz9,yz8,yze,yzd,yzj,yzi,yz3,yz7,yzc,yza,yzk,yzl,List.range_zero,yz5,yz6,yzb,yzu,yzm,yzq,AVal.fresh,freshL,yz2,yzh,AObj.fresh,id,Option.isSome_some,or_true,true_or,go_sem,yz0,xx9,xx8,xx6,xx7,xx5,xx0,xx1,xx2,reduceIte,xx3,xx4,reduceCtorEq]
    have hsi:=fun l (h:L .gone l 5000=.box 0 (srcC code a2 s2))=>sv_inj (hp:=L .gone l) (r:=5000) h (fun x y e=>(hN3.inj _ _ _ _ e).2) hv1
    have hs0:=fun l (h:L .gone l 5000=.box 0 (srcC code a2 s2))=>(sv_m (s:=vs3 1) h:sv (L .gone l) [5000] (vs3 1) 0=0)
    generalize hl1:[(2,AObj.box (vs0 0 0) [iv 0,AVal.val (Value.slice none 0 0)]),(3,AObj.box (vs1 2 0) [iv q,.own 6 (f vq)]),(6,AObj.row (f vq) 1 true (rwp ps0)),(10,AObj.gone),(61,AObj.gone),(73,AObj.gone),(77,AObj.gone),(5000,AObj.box 0 (srcC code a2 s2)),(901,AObj.gone)]=l1
    have hi1:=hsi l1 (by rw [← hl1];rfl)
    have h01:=hs0 l1 (by rw [← hl1];rfl)
    generalize sv (L .gone l1) [5000] (vs3 1)=f1 at hi1 h01 ⊢
    rw [h01]
    have A1:Aut q' ((qs'.map fun p=>(f1 p.1,p.2)).map (·.2)):=by rw [List.map_map];exact A'
    have hd1:=hd'.ren hi1
    generalize (qs'.map fun p=>(f1 p.1,p.2))=ps1 at A1 hd1 ⊢
    exact h4 _ (vs0 0 0) (vs1 2 0) 10 (f1 vq') _ _ a3 s3 q' ps1 A1 hd1 (by omega) (.inr ⟨rfl,rfl⟩) (by simp only [← hl1,go_sem,yz0,xx9,xx8,xx6,xx7,xx5,xx0,xx1,xx2,reduceIte,xx3,xx4,reduceCtorEq];try rfl)
  · exact h4 _ (vs0 0 0) (vs1 2 0) 6 (f vq) _ .gone a2 s2 q ps0 A0 hd0 (by omega) (.inl ⟨rfl,rfl⟩) (by simp only [go_sem,yz0,xx9,xx8,xx6,xx7,xx5,xx0,xx1,xx2,reduceIte,xx3,xx4,reduceCtorEq];try rfl)
end Go.Ab
namespace Go.Ab
open Go.Proofs
def FRen (F:Int→List (Nat×List Int)→Prop):Prop:=∀ n ps (f:Nat→Nat),(∀ x y,f x=f y→x=y)→F n ps→F n (ps.map fun p=>(f p.1,p.2))
theorem New.box {vs:Nat→Nat→Nat} {U:Nat→Prop} {σ:St} {r v:Nat} {cs:List AVal} (h:New vs U σ) (hr:σ.hp r=.box v cs) (i y:Nat):vs i y≠v:=fun e=>by
  have h1:=h.hp r
  rw [hr] at h1
  simp only [AObj.uses] at h1
  exact h.new i y (by rw [e];exact h1.1)
theorem call_lo {P:Program} {F:Int→List (Nat×List Int)→Prop} (hF:FRen F) {σ:St} {g:FuncId} {As args:List AVal} {d:Nat} {s:Nat→Nat} {K:St→Prop} {r v:Nat} {code:List Int} {a s0 k:Int}
    (h:Con P g [.box 0 (srcC code a s0)] (.ptr 5000 0 0 :: args) true fun outs rows res=>∃ n ps v a' s',F n ps∧a≤a'∧a'≤a+k∧outs=[.box 0 (srcC code a' s')]∧rows=[.row v 1 true (rwp ps)]∧res=.st [iv n,.own 6000 v])
    (hr:σ.hp r=.box v (srcC code a s0)) (hs:∀ x y,s x=s y→x=y) (hv:∀ y,s y≠v) (hco:CoeL σ.hp [r] false args As) (hd:σ.hp d=.gone)
    (hk:∀ n ps v' a' s',F n ps→a≤a'→a'≤a+k→K (St.put ⟨σ.tm,upd (upd σ.hp r (.box v (srcC code a' s'))) d (.row v' 1 true (rwp ps))⟩ (some d) (.st [iv n,.own d v']))):wpCall P false σ g (.ptr r v 0 :: As) (some d) s K:=by
  have hne:d≠r:=fun e=>by rw [e,hr] at hd;cases hd
  refine call_con (r:=r) h hr (by simp only [Bool.not_true,rowIs,boxIs,coe_argN,coe_argNs,coe_ro_o,yz19,yzs,coe_any,coe_val,coe_ro,yz15,yz16,coe_st,yz18,coe_rp,yz17,coe_clo,coe_own0,coe_ptr0,yz11,coeL_rws,coeL_rwn,L_hit,L_miss,L_nil,xx3,ne_eq,reduceCtorEq,not_false_eq_true,true_and,and_true,and_self,exists_eq_left,exists_eq_right,List.mem_cons,List.not_mem_nil,or_false,AObj.row.injEq,AObj.box.injEq,exists_eq_left',exists_and_left,exists_eq,Nat.zero_lt_one,Nat.lt_add_one,List.map_cons,List.map_nil,AObj.ver,xx5,not_true_eq_false]) (by rw [Bool.not_true,yzs,coe_ptr0,hr];exact ⟨rfl,hco⟩) ?_
  rintro outs rows res ⟨n,ps,w,a',s',hf,h1,h2,rfl,rfl,rfl⟩
  refine ⟨rfl,by simp,by rw [Option.getD_some,yzm];exact hd,?_⟩
  rw [Option.getD_some,callHp_mr hne]
  have hi:=sv_inj (hp:=σ.hp) (r:=r) hr hs hv
  have h0:sv σ.hp [r] s 0=v:=sv_m hr
  simp only [yzo,yzp,renL_rwp,renL_flat _ flat_srcC,ren_st,yzf,yzr,yzy,List.length_singleton,yz3,h0]
  exact hk n _ _ a' s' (hF n ps _ hi hf) h1 h2
theorem call_lo0 {P:Program} {F:Int→List (Nat×List Int)→Prop} (hF:FRen F) {σ:St} {g:FuncId} {As args:List AVal} {d:Nat} {s:Nat→Nat} {K:St→Prop}
    (h:Con P g [] args true fun outs rows res=>outs=[]∧∃ n v ps,F n ps∧rows=[.row v 1 true (rwp ps)]∧res=.st [iv n,.own 6000 v])
    (hs:∀ x y,s x=s y→x=y) (hco:CoeL σ.hp [] false args As) (hd:σ.hp d=.gone)
    (hk:∀ n ps v',F n ps→K (St.put ⟨σ.tm,upd σ.hp d (.row v' 1 true (rwp ps))⟩ (some d) (.st [iv n,.own d v']))):wpCall P false σ g As (some d) s K:=by
  refine call_sh h hco (fun e=>by cases e) ?_
  rintro outs rows res ⟨rfl,n,w,ps,hf,rfl,rfl⟩
  refine ⟨rfl,by simp,by rw [Option.getD_some,yzm];exact hd,?_⟩
  rw [Option.getD_some,yz6]
  simp only [yzp,renL_rwp,ren_st,yzf,yzr,yzy,List.length_singleton,yz3]
  exact hk n _ _ (hF n ps _ hs hf)
theorem call_lo2 {P:Program} {F:Int→List (Nat×List Int)→Prop} (hF:FRen F) {σ:St} {g:FuncId} {As args:List AVal} {d:Nat} {s:Nat→Nat} {K:St→Prop} {r v:Nat} {code:List Int} {a s0 k:Int}
    (h:Con P g [.box 0 (srcC code a s0)] (.ptr 5000 0 0 :: args) true fun outs rows res=>∃ n ps v w xs a' s',F n ps∧a≤a'∧a'≤a+k∧outs=[.box 0 (srcC code a' s')]∧rows=[.row v 1 true (rwp ps),.row w 1 true (ints xs)]∧res=.tup [.st [iv n,.own 6000 v],.own 6001 w])
    (hr:σ.hp r=.box v (srcC code a s0)) (hs:∀ x y,s x=s y→x=y) (hv:∀ y,s y≠v) (hco:CoeL σ.hp [r] false args As) (hd:σ.hp d=.gone) (hd2:σ.hp (d+1000)=.gone)
    (hk:∀ n ps v' w' xs a' s',F n ps→a≤a'→a'≤a+k→K (St.put ⟨σ.tm,upd (upd (upd σ.hp r (.box v (srcC code a' s'))) d (.row v' 1 true (rwp ps))) (d+1000) (.row w' 1 true (ints xs))⟩ (some d) (.tup [.st [iv n,.own d v'],.own (d+1000) w']))):wpCall P false σ g (.ptr r v 0 :: As) (some d) s K:=by
  have hne:d≠r:=fun e=>by rw [e,hr] at hd;cases hd
  have hne2:d+1000≠r:=fun e=>by rw [e,hr] at hd2;cases hd2
  refine call_con (r:=r) h hr (by simp only [Bool.not_true,rowIs,boxIs,coe_argN,coe_argNs,coe_ro_o,yz19,yzs,coe_any,coe_val,coe_ro,yz15,yz16,coe_st,yz18,coe_rp,yz17,coe_clo,coe_own0,coe_ptr0,yz11,coeL_rws,coeL_rwn,L_hit,L_miss,L_nil,xx3,ne_eq,reduceCtorEq,not_false_eq_true,true_and,and_true,and_self,exists_eq_left,exists_eq_right,List.mem_cons,List.not_mem_nil,or_false,AObj.row.injEq,AObj.box.injEq,exists_eq_left',exists_and_left,exists_eq,Nat.zero_lt_one,Nat.lt_add_one,List.map_cons,List.map_nil,AObj.ver,xx5,not_true_eq_false]) (by rw [Bool.not_true,yzs,coe_ptr0,hr];exact ⟨rfl,hco⟩) ?_
  rintro outs rows res ⟨n,ps,w,w2,xs,a',s',hf,h1,h2,rfl,rfl,rfl⟩
  refine ⟨rfl,by simp,by rw [Option.getD_some,yzq];exact ⟨hd,hd2⟩,?_⟩
  rw [Option.getD_some,callHp_mrr hne hne2]
  have hi:=sv_inj (hp:=σ.hp) (r:=r) hr hs hv
  have h0:sv σ.hp [r] s 0=v:=sv_m hr
  have e2:([AObj.row w 1 true (rwp ps),AObj.row w2 1 true (ints xs)]:List AObj).length=2:=rfl
  simp only [yzo,yzp,renL_rwp,renL_flat _ flat_srcC,ren_st,yz10,yzf,yzr,yz4,yzy,e2,yz3,yz7,h0]
  exact hk n _ _ _ xs a' s' (hF n ps _ hi hf) h1 h2
def FAut (m:Int) (n:Int) (ps:List (Nat×List Int)):Prop:=Aut n (ps.map (·.2))∧DJ ps∧n≤m
def FLo (n:Int) (ps:List (Nat×List Int)):Prop:=(ps.length≤3→DJ ps)∧ps.length≤10∧-1≤n∧n≤11∧∀ p∈ps,p.2.length≤10
theorem map_named {ps:List (Nat×List Int)} {f:Nat→Nat}:(ps.map fun p=>(f p.1,p.2)).map (·.2)=ps.map (·.2):=by rw [List.map_map];rfl
theorem FAut_ren (m:Int):FRen (FAut m):=by
  rintro n ps f hf ⟨h1,h2,h3⟩
  exact ⟨by rw [map_named];exact h1,h2.ren hf,h3⟩
theorem FLo_ren:FRen FLo:=by
  rintro n ps f hf ⟨h1,h2,h3,h4,h5⟩
  refine ⟨fun h=>(h1 (by simpa using h)).ren hf,by simpa using h2,h3,h4,fun p hp=>?_⟩
  obtain ⟨q,hq,rfl⟩:=List.mem_map.1 hp
  exact h5 q hq
theorem FAut.lo {m n:Int} {ps:List (Nat×List Int)} (h:FAut m n ps):FLo n ps:=by
  obtain ⟨A,hd,hm⟩:=h
  have n1:=A.n1
  have n2:=A.n2
  have l2:=A.l2
  rw [List.length_map] at l2
  exact ⟨fun _=>hd,by omega,by omega,by omega,fun p hp=>by have:=(A.row p.2 (List.mem_map.2 ⟨p,hp,rfl⟩)).1;omega⟩
theorem DJ_refrozen {A2 C2:List (Nat×List Int)} {b:Nat×List Int} {m:Nat} {cur:List Int} (hd:DJ (A2 ++ b :: C2))
    (hf:∀ n k'' cs'',AVal.ro (some (some (n+1))) k'' cs''∈rwp A2 ++ AVal.own 901 m :: rwp C2→cs''≠[]→n≠m):DJ (A2 ++ (m,cur) :: C2):=DJ_in hd fun p hp=>by
  by_cases e:p.2=[]
  · exact .inl e
  · refine .inr (hf p.1 1 (ints p.2) ?_ (by simpa using e))
    rcases List.mem_append.1 hp with h | h
    · exact List.mem_append.2 (.inl (List.mem_map.2 ⟨p,h,rfl⟩))
    · exact List.mem_append.2 (.inr (List.mem_cons.2 (.inr (List.mem_map.2 ⟨p,h,rfl⟩))))
theorem Aut_put {n:Int} {A2 C2:List (Nat×List Int)} {b:Nat×List Int} {u:Nat} {cur:List Int} (A:Aut n ((A2 ++ b :: C2).map (·.2))) (hl:cur.length=b.2.length) (hm:∀ x∈cur,0≤x∧x<n):Aut n ((A2 ++ (u,cur) :: C2).map (·.2)):=by
  have l1:=A.l1
  have l2:=A.l2
  have hbr:=A.row b.2 (by simp)
  refine ⟨A.n1,A.n2,by rw [List.length_map] at l1 ⊢;simpa using l1,by rw [List.length_map] at l2 ⊢;simpa using l2,fun row hr=>?_⟩
  rw [List.map_append,List.map_cons,List.mem_append,List.mem_cons] at hr
  rcases hr with h | h | h
  · exact A.row row (by rw [List.map_append];exact List.mem_append.2 (.inl h))
  · rw [h];exact ⟨by dsimp only;omega,hm⟩
  · exact A.row row (by rw [List.map_append,List.map_cons];exact List.mem_append.2 (.inr (List.mem_cons_of_mem _ h)))
theorem k_l02Drawn (code:List Int) (at_ seed:Int) (hb:∀ x∈code,0≤x∧x≤255) (ha:0≤at_∧at_≤10000) :
    Con Tryz.prog nz3i [.box 0 (srcC code at_ seed)] [.ptr 5000 0 0] true fun outs rows res=>∃ n ps v a' s',FLo n ps∧at_≤a'∧a'≤at_+5000∧outs=[.box 0 (srcC code a' s')]∧rows=[.row v 1 true (rwp ps)]∧res=.st [iv n,.own 6000 v]:=by
  refine con_sh mixed czgy rfl (by simp) ?_
  generalize hQ:finQ _=Q
  simp only [Az6,Bzbt,yzg,yz1,go_sem,yz0,xx9,xx8,xx6,xx7,xx5,xx0,xx1,xx2,reduceIte,xx3,xx4,reduceCtorEq]
  intro vs0 U0 hN0 vs1 U1 hN1
  refine call_funB (k_pick code at_ seed 6 hb (by omega)) rfl qCS qCS ?_
  rintro cs' x ⟨a1,s1,b1,rfl,g1,g2,rfl,g3,g4⟩
  by_cases k0:b1=0
  · subst k0
    simp only [Bzs,Bzr,beq_self_eq_true,yzg,yz1,go_sem,yz0,xx9,xx8,xx6,xx7,xx5,xx0,xx1,xx2,reduceIte,xx3,xx4,reduceCtorEq]
    intro vs2 U2 hN2 vs3 U3 hN3
    refine call_funB (k_pick code a1 s1 6 hb (by omega)) rfl qCS qCS ?_
    rintro cs' x ⟨a2,s2,b2,rfl,g5,g6,rfl,g7,g8⟩
    have w1:IntKind.i64.wrap (2+b2)=2+b2:=w64 (by omega)
    simp only [w1,yzg,yz1,go_sem,yz0,xx9,xx8,xx6,xx7,xx5,xx0,xx1,xx2,reduceIte,xx3,xx4,reduceCtorEq]
    refine call_lo0 (FAut_ren 10) (Con.mono (k_l02SlowN (2+b2) (by omega)) ?_) (fun x y e=>(hN3.inj _ _ _ _ e).2) qCS qGN ?_
    · rintro outs rows res ⟨h1,v,ps,h2,h3,h4,h5⟩
      exact ⟨h1,_,v,ps,⟨h2,h3,by omega⟩,h4,h5⟩
    intro n ps v' hf
    simp only [← hQ,Az6,yzg,yz1,go_sem,yz0,xx9,xx8,xx6,xx7,xx5,xx0,xx1,xx2,reduceIte,xx3,xx4,reduceCtorEq]
    refine ⟨[14],by simp,by simp,by simp,?_⟩
    simp only [range1,List.length_singleton,renL_rwp,Nat.not_lt_zero,range1,yzy,yz12,ren_ro,rnNm_n,yz13,rnNm_o,rnNm_s,ren_st,yz10,yzr,yzf,yz4,yzw,yzt,yzo,yzp,yzv,yz9,yz8,yze,yzd,yzj,yzi,yz3,yz7,yzc,yza,yzk,yzl,List.range_zero,yz5,yz6,yzb,yzu,yzm,yzq,AVal.fresh,freshL,yz2,yzh,AObj.fresh,id,Option.isSome_some,or_true,true_or,go_sem,yz0,xx9,xx8,xx6,xx7,xx5,xx0,xx1,xx2,reduceIte,xx3,xx4,reduceCtorEq]
    exact ⟨n,ps,v',a2,s2,hf.lo,by omega,by omega,rfl,by simp,rfl⟩
  by_cases k1:b1=1
  · subst k1
    simp only [beq_false_of_ne (show (1:Int)≠0 by omega),Bzs,Bzr,Bz2g,beq_self_eq_true,yzg,yz1,go_sem,yz0,xx9,xx8,xx6,xx7,xx5,xx0,xx1,xx2,reduceIte,xx3,xx4,reduceCtorEq]
    intro vs2 U2 hN2 vs3 U3 hN3 vs4 U4 hN4
    refine call_lo2 (k:=2000) (FAut_ren 10) (Con.mono (k_l01Alike code a1 s1 hb (by omega)) ?_) rfl (fun x y e=>(hN4.inj _ _ _ _ e).2) (hN4.box (r:=5000) rfl 1) qCS qGN qGN ?_
    · rintro outs rows res ⟨n,ps,v,w,xs,a',s',h1,h2,h3,h4,h5,h6⟩
      exact ⟨n,ps,v,w,xs,a',s',⟨h1,h2,by omega⟩,h4,h5,h6⟩
    intro n ps v' w' xs a2 s2 hf h1 h2
    simp only [yzg,yz1,go_sem,yz0,xx9,xx8,xx6,xx7,xx5,xx0,xx1,xx2,reduceIte,xx3,xx4,reduceCtorEq]
    simp only [Bzbp,← hQ,Az6,yzg,yz1,go_sem,yz0,xx9,xx8,xx6,xx7,xx5,xx0,xx1,xx2,reduceIte,xx3,xx4,reduceCtorEq]
    intro vs5 U5 hN5
    refine ⟨[19],by simp,by simp,by simp,?_⟩
    simp only [range1,List.length_singleton,renL_rwp,Nat.not_lt_zero,range1,yzy,yz12,ren_ro,rnNm_n,yz13,rnNm_o,rnNm_s,ren_st,yz10,yzr,yzf,yz4,yzw,yzt,yzo,yzp,yzv,yz9,yz8,yze,yzd,yzj,yzi,yz3,yz7,yzc,yza,yzk,yzl,List.range_zero,yz5,yz6,yzb,yzu,yzm,yzq,AVal.fresh,freshL,yz2,yzh,AObj.fresh,id,Option.isSome_some,or_true,true_or,go_sem,yz0,xx9,xx8,xx6,xx7,xx5,xx0,xx1,xx2,reduceIte,xx3,xx4,reduceCtorEq]
    exact ⟨n,ps,v',a2,s2,hf.lo,by omega,by omega,rfl,by simp,rfl⟩
  by_cases k2:b1=2
  · subst k2
    simp only [beq_false_of_ne (show (2:Int)≠0 by omega),beq_false_of_ne (show (2:Int)≠1 by omega),Bzs,Bzr,Bz2g,Bz5g,beq_self_eq_true,yzg,yz1,go_sem,yz0,xx9,xx8,xx6,xx7,xx5,xx0,xx1,xx2,reduceIte,xx3,xx4,reduceCtorEq]
    intro vs2 U2 hN2 vs3 U3 hN3 vs4 U4 hN4 vs5 U5 hN5
    refine call_lo (k:=3000) FLo_ren (Con.mono (k_l01Bent code a1 s1 hb (by omega)) ?_) rfl (fun x y e=>(hN5.inj _ _ _ _ e).2) (hN5.box (r:=5000) rfl 1) qCS qGN ?_
    · rintro outs rows res ⟨n,ps,v,a',s',h1,h2,h3,h4,h5,h6⟩
      exact ⟨n,ps,v,a',s',⟨h1,h2,h3,h4,h5⟩,h6⟩
    intro n ps v' a2 s2 hf h1 h2
    simp only [← hQ,Az6,yzg,yz1,go_sem,yz0,xx9,xx8,xx6,xx7,xx5,xx0,xx1,xx2,reduceIte,xx3,xx4,reduceCtorEq]
    refine ⟨[26],by simp,by simp,by simp,?_⟩
    simp only [range1,List.length_singleton,renL_rwp,Nat.not_lt_zero,range1,yzy,yz12,ren_ro,rnNm_n,yz13,rnNm_o,rnNm_s,ren_st,yz10,yzr,yzf,yz4,yzw,yzt,yzo,yzp,yzv,yz9,yz8,yze,yzd,yzj,yzi,yz3,yz7,yzc,yza,yzk,yzl,List.range_zero,yz5,yz6,yzb,yzu,yzm,yzq,AVal.fresh,freshL,yz2,yzh,AObj.fresh,id,Option.isSome_some,or_true,true_or,go_sem,yz0,xx9,xx8,xx6,xx7,xx5,xx0,xx1,xx2,reduceIte,xx3,xx4,reduceCtorEq]
    exact ⟨n,ps,v',a2,s2,hf,by omega,by omega,rfl,by simp,rfl⟩
  simp only [beq_false_of_ne k0,beq_false_of_ne k1,beq_false_of_ne k2,Bzs,Bzr,Bz2g,Bz5g,Bzbs,yzg,yz1,go_sem,yz0,xx9,xx8,xx6,xx7,xx5,xx0,xx1,xx2,reduceIte,xx3,xx4,reduceCtorEq]
  intro vs2 U2 hN2 vs3 U3 hN3 vs4 U4 hN4 vs5 U5 hN5
  refine call_lo (k:=1000) (FAut_ren 6) (Con.mono (k_DrawnN code a1 s1 6 hb (by omega) (by omega)) ?_) rfl (fun x y e=>(hN5.inj _ _ _ _ e).2) (hN5.box (r:=5000) rfl 1) qCS qGN ?_
  · rintro outs rows res ⟨n,ps,v,a',s',h1,h2,h3,h4,h5,h6⟩
    exact ⟨n,ps,v,a',s',⟨h1,h2,h3⟩,h4,h5,h6⟩
  intro n ps v' a2 s2 hf h1 h2
  simp only [Bzbr,yzg,yz1,go_sem,yz0,xx9,xx8,xx6,xx7,xx5,xx0,xx1,xx2,reduceIte,xx3,xx4,reduceCtorEq]
  intro vs6 U6 hN6
  refine call_funB (k_one code a2 s2 2 hb (by omega)) rfl qCS qCS ?_
  rintro cs' x ⟨a3,s3,b3,rfl,g5,g6,rfl⟩
  obtain ⟨A,hdj,hn6⟩:=hf
  have l1:=A.l1
  have l2:=A.l2
  have n1:=A.n1
  have n2:=A.n2
  rw [List.length_map] at l1 l2
  have hend:∀ (σ:St) (v2 v5:Nat) (ps:List (Nat×List Int)) (a s:Int),FLo n ps→at_≤a∧a≤at_+5000 →
      σ.keep [2,5] [2,3,5,14,19,26,28,1019,5000,901]=⟨L .any [(2,.ptr 2 v2 0),(5,.ptr 5 v5 0)],
        L .gone [(2,.box v2 [iv 0,.val (.slice none 0 0)]),(3,.gone),(5,.box v5 [iv n,.own 28 v']),(14,.gone),(19,.gone),(26,.gone),(28,.row v' 1 true (rwp ps)),(1019,.gone),(5000,.box 0 (srcC code a s)),(901,.gone)]⟩ →
      wpD Tryz.prog Bz2h Q σ:=by
    intro σ v2 v5 ps a s hf ha' hS
    unfold Bz2h
    rw [yzg,hS]
    simp only [wpD_gh]
    intro _
    refine ⟨[],?_⟩
    simp only [gwp_nil,yzg,yz1,go_sem,yz0,xx9,xx8,xx6,xx7,xx5,xx0,xx1,xx2,reduceIte,xx3,xx4,reduceCtorEq]
    intro vs U hN
    simp only [← hQ,Az6,go_sem,yz0,xx9,xx8,xx6,xx7,xx5,xx0,xx1,xx2,reduceIte,xx3,xx4,reduceCtorEq]
    refine ⟨[28],by simp,by simp,by simp,?_⟩
    simp only [range1,List.length_singleton,renL_rwp,Nat.not_lt_zero,range1,yzy,yz12,ren_ro,rnNm_n,yz13,rnNm_o,rnNm_s,ren_st,yz10,yzr,yzf,yz4,yzw,yzt,yzo,yzp,yzv,yz9,yz8,yze,yzd,yzj,yzi,yz3,yz7,yzc,yza,yzk,yzl,List.range_zero,yz5,yz6,yzb,yzu,yzm,yzq,AVal.fresh,freshL,yz2,yzh,AObj.fresh,id,Option.isSome_some,or_true,true_or,go_sem,yz0,xx9,xx8,xx6,xx7,xx5,xx0,xx1,xx2,reduceIte,xx3,xx4,reduceCtorEq]
    exact ⟨n,ps,v',a,s,hf,ha'.1,ha'.2,rfl,by simp,rfl⟩
  cases b3 with
  | false =>
    simp only [Bz5h,yzg,yz1,go_sem,yz0,xx9,xx8,xx6,xx7,xx5,xx0,xx1,xx2,reduceIte,xx3,xx4,reduceCtorEq]
    exact hend _ (vs0 0 0) (vs5 2 0) ps a3 s3 (FAut.lo ⟨A,hdj,hn6⟩) (by omega) (by simp only [go_sem,yz0,xx9,xx8,xx6,xx7,xx5,xx0,xx1,xx2,reduceIte,xx3,xx4,reduceCtorEq];try rfl)
  | true =>
    simp only [Bz5h,rwp_len,yzg,yz1,go_sem,yz0,xx9,xx8,xx6,xx7,xx5,xx0,xx1,xx2,reduceIte,xx3,xx4,reduceCtorEq]
    intro vs7 U7 hN7 hM7
    refine call_funB (k_pick code a3 s3 ps.length hb (by omega)) rfl qCS qCS ?_
    rintro cs' x ⟨a4,s4,x0,rfl,g7,g8,rfl,g9,g10⟩
    have hat:x0.toNat<ps.length:=by omega
    obtain ⟨A2,b,C2,rfl,hAk⟩:=rwp_split hat
    have hbr:=A.row b.2 (by simp)
    have hbn:b.2≠[]:=fun e=>by rw [e] at hbr;simp at hbr;omega
    have F0a:=DJ_out hdj hbn
    simp only [Bzbq,yzg,wpD_gh,go_sem,yz0,xx9,xx8,xx6,xx7,xx5,xx0,xx1,xx2,reduceIte,xx3,xx4,reduceCtorEq]
    intro _
    refine ⟨[.thaw 28 x0.toNat 901],gwp_thaw (n:=b.1) rfl (rwp_get hAk.symm) (by simpa using hbn) rfl fun m1=>?_⟩
    have hset:(woL b.1 (rwp (A2 ++ b :: C2))).set x0.toNat (AVal.own 901 m1)=rwp A2 ++ AVal.own 901 m1 :: rwp C2:=by rw [← hAk];exact woL_set F0a
    have ho1:(rwp A2 ++ AVal.own 901 m1 :: rwp C2).getD x0.toNat .any=.own 901 m1:=own_at hAk.symm
    have hol:(rwp A2 ++ AVal.own 901 m1 :: rwp C2).length=A2.length+(C2.length+1):=by rw [List.length_append,List.length_cons,rwp_len,rwp_len]
    have hkl:x0.toNat<(rwp A2 ++ AVal.own 901 m1 :: rwp C2).length:=by omega
    simp only [hset,woT,woO,woL_cons,woL_nil,woV_val,woV_own,wo_ptr,wo_o,woL_ints,wo_st,woO_row,woO_box,woO_gone,wo_any,gwp_nil,yzg,yz1,go_sem,yz0,xx9,xx8,xx6,xx7,xx5,xx0,xx1,xx2,reduceIte,xx3,xx4,reduceCtorEq]
    intro vs8 U8 hN8
    simp only [ho1,go_sem,yz0,xx9,xx8,xx6,xx7,xx5,xx0,xx1,xx2,reduceIte,xx3,xx4,reduceCtorEq]
    refine ⟨⟨g9,hkl⟩,hkl,?_⟩
    refine call_funBN (k_pick code a4 s4 n hb (by omega)) rfl (by simp) qCS qCS ⟨srcC code a4 0,.int .i64 0,⟨a4,0,0,rfl,by omega,by omega,rfl,by omega,.inr rfl⟩,flat_srcC⟩ ?_
    rintro cs' x ⟨a5,s5,y1,rfl,p1,p2,rfl,p3,p4⟩
    have hy1:y1.toNat<b.2.length:=by omega
    simp only [ho1,yzg,yz1,go_sem,yz0,xx9,xx8,xx6,xx7,xx5,xx0,xx1,xx2,reduceIte,xx3,xx4,reduceCtorEq]
    refine ⟨⟨g9,hkl⟩,hkl,?_⟩
    refine call_funBN (k_pick code a5 s5 n hb (by omega)) rfl (by simp) qCS qCS ⟨srcC code a5 0,.int .i64 0,⟨a5,0,0,rfl,by omega,by omega,rfl,by omega,.inr rfl⟩,flat_srcC⟩ ?_
    rintro cs' x ⟨a6,s6,y2,rfl,p5,p6,rfl,p7,p8⟩
    have hy2:y2.toNat<b.2.length:=by omega
    simp only [yz14 hy2,yzg,yz1,go_sem,yz0,xx9,xx8,xx6,xx7,xx5,xx0,xx1,xx2,reduceIte,xx3,xx4,reduceCtorEq]
    refine ⟨⟨p7,hy2⟩,hy2,⟨p3,hy1⟩,hy1,?_⟩
    have hcl:=lput_len (xs:=b.2) (v:=b.2.getD y2.toNat 0) hy1
    have hcm:=lput_mem (xs:=b.2) (i:=y1.toNat) (v:=b.2.getD y2.toNat 0) (Q:=fun z=>0≤z∧z<n) hbr.2 (hbr.2 _ (yzn hy2 0))
    simp only [ints_put]
    generalize hcu:b.2.take y1.toNat ++ [b.2.getD y2.toNat 0] ++ b.2.drop (y1.toNat+1)=cur at hcl hcm ⊢
    simp only [Bz2h,yzg,wpD_gh,go_sem,yz0,xx9,xx8,xx6,xx7,xx5,xx0,xx1,xx2,reduceIte,xx3,xx4,reduceCtorEq]
    intro hD
    refine ⟨[.rf 28 x0.toNat 901],gwp_rf (k:=1) (nn:=true) rfl (own_get hAk.symm) (by decide) rfl fun hf=>?_⟩
    have D1:=DJ_refrozen hdj hf (cur:=cur)
    have A1:=Aut_put A (u:=m1) hcl hcm
    have hset4:∀ X:AVal,(rwp A2 ++ AVal.own 901 m1 :: rwp C2).set x0.toNat X=rwp A2 ++ X :: rwp C2:=fun X=>by
      rw [← hAk,List.set_append_right _ _ (by rw [rwp_len];exact Nat.le_refl _),rwp_len,Nat.sub_self];rfl
    simp only [hset4,frNm_t,rwp_cat,gwp_nil,yzg,yz1,go_sem,yz0,xx9,xx8,xx6,xx7,xx5,xx0,xx1,xx2,reduceIte,xx3,xx4,reduceCtorEq]
    intro vs9 U9 hN9
    simp only [← hQ,Az6,go_sem,yz0,xx9,xx8,xx6,xx7,xx5,xx0,xx1,xx2,reduceIte,xx3,xx4,reduceCtorEq]
    refine ⟨[28],by simp,by simp,by simp,?_⟩
    simp only [range1,List.length_singleton,renL_rwp,Nat.not_lt_zero,range1,yzy,yz12,ren_ro,rnNm_n,yz13,rnNm_o,rnNm_s,ren_st,yz10,yzr,yzf,yz4,yzw,yzt,yzo,yzp,yzv,yz9,yz8,yze,yzd,yzj,yzi,yz3,yz7,yzc,yza,yzk,yzl,List.range_zero,yz5,yz6,yzb,yzu,yzm,yzq,AVal.fresh,freshL,yz2,yzh,AObj.fresh,id,Option.isSome_some,or_true,true_or,go_sem,yz0,xx9,xx8,xx6,xx7,xx5,xx0,xx1,xx2,reduceIte,xx3,xx4,reduceCtorEq]
    exact ⟨n,A2 ++ (m1,cur) :: C2,v',a6,s6,FAut.lo ⟨A1,D1,hn6⟩,by omega,by omega,rfl,by simp,rfl⟩
theorem k_l03Linked (code:List Int) (at_ seed:Int) (hb:∀ x∈code,0≤x∧x≤255) (ha:0≤at_∧at_≤1000) :
    Con Tryz.prog nz12 [.box 0 (srcC code at_ seed)] [.ptr 5000 0 0] true fun outs rows res=>∃ n ps v a' s',FLo n ps∧at_≤a'∧a'≤at_+6000∧outs=[.box 0 (srcC code a' s')]∧rows=[.row v 1 true (rwp ps)]∧res=.st [iv n,.own 6000 v]:=by
  refine con_sh mixed czgb rfl (by simp) ?_
  generalize hQ:finQ _=Q
  simp only [Az20,Bz93,yzg,yz1,go_sem,yz0,xx9,xx8,xx6,xx7,xx5,xx0,xx1,xx2,reduceIte,xx3,xx4,reduceCtorEq]
  intro vs0 U0 hN0 vs1 U1 hN1
  refine call_lo (k:=5000) FLo_ren (k_l02Drawn code at_ seed hb (by omega)) rfl (fun x y e=>(hN1.inj _ _ _ _ e).2) (hN1.box (r:=5000) rfl 1) qCS qGN ?_
  intro n ps v' a1 s1 hf h1 h2
  have hend:∀ (σ:St) (v2 v3:Nat) (a s:Int),at_≤a∧a≤at_+6000 →
      σ.keep [2,3] [2,3,6,5000,901]=⟨L .any [(2,.ptr 2 v2 0),(3,.ptr 3 v3 0)],
        L .gone [(2,.box v2 [iv 0,.val (.slice none 0 0)]),(3,.box v3 [iv n,.own 6 v']),(6,.row v' 1 true (rwp ps)),(5000,.box 0 (srcC code a s)),(901,.gone)]⟩ →
      wpD Tryz.prog Bz1z Q σ:=by
    intro σ v2 v3 a s ha' hS
    unfold Bz1z
    rw [yzg,hS]
    simp only [wpD_gh]
    intro _
    refine ⟨[],?_⟩
    simp only [gwp_nil,yzg,yz1,go_sem,yz0,xx9,xx8,xx6,xx7,xx5,xx0,xx1,xx2,reduceIte,xx3,xx4,reduceCtorEq]
    intro vs U hN
    simp only [← hQ,Az20,go_sem,yz0,xx9,xx8,xx6,xx7,xx5,xx0,xx1,xx2,reduceIte,xx3,xx4,reduceCtorEq]
    refine ⟨[6],by simp,by simp,by simp,?_⟩
    simp only [range1,List.length_singleton,renL_rwp,Nat.not_lt_zero,range1,yzy,yz12,ren_ro,rnNm_n,yz13,rnNm_o,rnNm_s,ren_st,yz10,yzr,yzf,yz4,yzw,yzt,yzo,yzp,yzv,yz9,yz8,yze,yzd,yzj,yzi,yz3,yz7,yzc,yza,yzk,yzl,List.range_zero,yz5,yz6,yzb,yzu,yzm,yzq,AVal.fresh,freshL,yz2,yzh,AObj.fresh,id,Option.isSome_some,or_true,true_or,go_sem,yz0,xx9,xx8,xx6,xx7,xx5,xx0,xx1,xx2,reduceIte,xx3,xx4,reduceCtorEq]
    exact ⟨n,ps,v',a,s,hf,ha'.1,ha'.2,rfl,by simp,rfl⟩
  simp only [Bz92,yzg,yz1,go_sem,yz0,xx9,xx8,xx6,xx7,xx5,xx0,xx1,xx2,reduceIte,xx3,xx4,reduceCtorEq]
  intro vs2 U2 hN2
  refine yzx (k_l01Ok n (ps.map (·.2))) (by simp only [coeL_rwp_t,rowIs,boxIs,coe_argN,coe_argNs,coe_ro_o,yz19,yzs,coe_any,coe_val,coe_ro,yz15,yz16,coe_st,yz18,coe_rp,yz17,coe_clo,coe_own0,coe_ptr0,yz11,coeL_rws,coeL_rwn,L_hit,L_miss,L_nil,xx3,ne_eq,reduceCtorEq,not_false_eq_true,true_and,and_true,and_self,exists_eq_left,exists_eq_right,List.mem_cons,List.not_mem_nil,or_false,AObj.row.injEq,AObj.box.injEq,exists_eq_left',exists_and_left,exists_eq,Nat.zero_lt_one,Nat.lt_add_one,List.map_cons,List.map_nil,AObj.ver,xx5,not_true_eq_false]) trivial ?_
  cases hA:autB n (ps.map (·.2)) with
  | false =>
    simp only [Bz1y,yzg,yz1,go_sem,yz0,xx9,xx8,xx6,xx7,xx5,xx0,xx1,xx2,reduceIte,xx3,xx4,reduceCtorEq]
    exact hend _ (vs0 0 0) (vs1 2 0) a1 s1 (by omega) (by simp only [go_sem,yz0,xx9,xx8,xx6,xx7,xx5,xx0,xx1,xx2,reduceIte,xx3,xx4,reduceCtorEq];try rfl)
  | true =>
    have A:=autB_iff.1 hA
    have n1:=A.n1
    have n2:=A.n2
    have l1:=A.l1
    have l2:=A.l2
    rw [List.length_map] at l1 l2
    have hdj:DJ ps:=hf.1 l2
    simp only [yzg,yz1,go_sem,yz0,xx9,xx8,xx6,xx7,xx5,xx0,xx1,xx2,reduceIte,xx3,xx4,reduceCtorEq]
    refine call_funB (k_one code a1 s1 4 hb (by omega)) rfl qCS qCS ?_
    rintro cs' x ⟨a2,s2,b2,rfl,g1,g2,rfl⟩
    cases b2 with
    | true =>
      simp only [Bz1y,Bool.not_true,yzg,yz1,go_sem,yz0,xx9,xx8,xx6,xx7,xx5,xx0,xx1,xx2,reduceIte,xx3,xx4,reduceCtorEq]
      exact hend _ (vs0 0 0) (vs1 2 0) a2 s2 (by omega) (by simp only [go_sem,yz0,xx9,xx8,xx6,xx7,xx5,xx0,xx1,xx2,reduceIte,xx3,xx4,reduceCtorEq];try rfl)
    | false =>
      obtain ⟨A2,b,C2,rfl,hAk⟩:=rwp_split (show 0<ps.length by omega)
      have hbr:=A.row b.2 (by simp)
      have hbn:b.2≠[]:=fun e=>by rw [e] at hbr;simp at hbr;omega
      have F0a:=DJ_out hdj hbn
      simp only [Bz1y,Bool.not_false,yzg,yz1,go_sem,yz0,xx9,xx8,xx6,xx7,xx5,xx0,xx1,xx2,reduceIte,xx3,xx4,reduceCtorEq]
      intro vs3 U3 hN3
      simp only [Bz91,yzg,wpD_gh,go_sem,yz0,xx9,xx8,xx6,xx7,xx5,xx0,xx1,xx2,reduceIte,xx3,xx4,reduceCtorEq]
      intro _
      refine ⟨[.thaw 6 0 901],gwp_thaw (n:=b.1) rfl (rwp_get hAk.symm) (by simpa using hbn) rfl fun m1=>?_⟩
      have hset:(woL b.1 (rwp (A2 ++ b :: C2))).set 0 (AVal.own 901 m1)=rwp A2 ++ AVal.own 901 m1 :: rwp C2:=by rw [← hAk];exact woL_set F0a
      have ho1:(rwp A2 ++ AVal.own 901 m1 :: rwp C2).getD 0 .any=.own 901 m1:=own_at hAk.symm
      have hol:(rwp A2 ++ AVal.own 901 m1 :: rwp C2).length=A2.length+(C2.length+1):=by rw [List.length_append,List.length_cons,rwp_len,rwp_len]
      have hkl:0<(rwp A2 ++ AVal.own 901 m1 :: rwp C2).length:=by omega
      simp only [hset,woT,woO,woL_cons,woL_nil,woV_val,woV_own,wo_ptr,wo_o,woL_ints,wo_st,woO_row,woO_box,woO_gone,wo_any,gwp_nil,yzg,yz1,go_sem,yz0,xx9,xx8,xx6,xx7,xx5,xx0,xx1,xx2,reduceIte,xx3,xx4,reduceCtorEq]
      refine wpD_lp (fun (x:Nat×List Int)=>n.toNat - x.1) (fun x=>(x.1:Int)≤n∧x.2.length=b.2.length∧∀ z∈x.2,0≤z∧z<n)
        (fun (x:Nat×List Int)=>⟨L .any [(2,.ptr 2 (vs0 0 0) 0),(3,.ptr 3 (vs1 2 0) 0),(4,iv x.1)],
          L .gone [(2,.box (vs0 0 0) [iv 0,.val (.slice none 0 0)]),(3,.box (vs1 2 0) [iv n,.own 6 v']),(6,.row v' 1 true (rwp A2 ++ .own 901 m1 :: rwp C2)),(5000,.box 0 (srcC code a2 s2)),(901,.row m1 1 true (ints x.2))]⟩)
        (0,b.2) ⟨by simp;omega,rfl,hbr.2⟩ (by simp only [Bz1x,go_sem,yz0,xx9,xx8,xx6,xx7,xx5,xx0,xx1,xx2,reduceIte,xx3,xx4,reduceCtorEq];try rfl) ?_
      rintro ⟨i,cur⟩ ⟨h3,h4,h5⟩
      have h3:(i:Int)≤n:=h3
      have h4:cur.length=b.2.length:=h4
      have h5:∀ z∈cur,0≤z∧z<n:=h5
      by_cases hlt:(i:Int)<n
      · have w1:IntKind.i64.wrap ((i:Int)+1)=((i+1:Nat):Int):=by rw [w64 (by omega)];simp
        have hn0:¬ n=0:=by omega
        have hil:i<cur.length:=by omega
        have t1:=tmod_in (a:=((i+1:Nat):Int)) (n:=n) (by omega) (by omega)
        simp only [Bz1x,Bz4c,Bz90,decide_eq_true hlt,yzg,yz1,go_sem,yz0,xx9,xx8,xx6,xx7,xx5,xx0,xx1,xx2,reduceIte,xx3,xx4,reduceCtorEq]
        intro vs4 U4 hN4 vs5 U5 hN5
        simp only [ho1,w1,hn0,go_sem,yz0,xx9,xx8,xx6,xx7,xx5,xx0,xx1,xx2,reduceIte,xx3,xx4,reduceCtorEq]
        refine ⟨hkl,hkl,⟨by omega,hil⟩,by omega,?_⟩
        have hcl:=lput_len (xs:=cur) (v:=((i+1:Nat):Int).tmod n) hil
        have hcm:=lput_mem (xs:=cur) (i:=i) (v:=((i+1:Nat):Int).tmod n) (Q:=fun z=>0≤z∧z<n) h5 t1
        simp only [ints_put]
        generalize hcu:cur.take i ++ [((i+1:Nat):Int).tmod n] ++ cur.drop (i+1)=cur2 at hcl hcm ⊢
        simp only [Bz8z,w1,yzg,yz1,go_sem,yz0,xx9,xx8,xx6,xx7,xx5,xx0,xx1,xx2,reduceIte,xx3,xx4,reduceCtorEq]
        intro vs6 U6 hN6
        exact ⟨(i+1,cur2),by dsimp only;omega,⟨by dsimp only;omega,by dsimp only;omega,hcm⟩,rfl⟩
      · simp only [Bz1x,Bz4c,Bz1z,decide_eq_false hlt,yzg,yz1,wpD_gh,go_sem,yz0,xx9,xx8,xx6,xx7,xx5,xx0,xx1,xx2,reduceIte,xx3,xx4,reduceCtorEq]
        intro vs4 U4 hN4 hD
        refine ⟨[.rf 6 0 901],gwp_rf (k:=1) (nn:=true) rfl (own_get hAk.symm) (by decide) rfl fun hf2=>?_⟩
        have D1:=DJ_refrozen hdj hf2 (cur:=cur)
        have A1:=Aut_put A (u:=m1) h4 h5
        have hset4:∀ X:AVal,(rwp A2 ++ AVal.own 901 m1 :: rwp C2).set 0 X=rwp A2 ++ X :: rwp C2:=fun X=>by
          rw [← hAk,List.set_append_right _ _ (by rw [rwp_len];exact Nat.le_refl _),rwp_len,Nat.sub_self];rfl
        simp only [hset4,frNm_t,rwp_cat,gwp_nil,yzg,yz1,go_sem,yz0,xx9,xx8,xx6,xx7,xx5,xx0,xx1,xx2,reduceIte,xx3,xx4,reduceCtorEq]
        intro vs9 U9 hN9
        simp only [← hQ,Az20,go_sem,yz0,xx9,xx8,xx6,xx7,xx5,xx0,xx1,xx2,reduceIte,xx3,xx4,reduceCtorEq]
        refine ⟨[6],by simp,by simp,by simp,?_⟩
        simp only [range1,List.length_singleton,renL_rwp,Nat.not_lt_zero,range1,yzy,yz12,ren_ro,rnNm_n,yz13,rnNm_o,rnNm_s,ren_st,yz10,yzr,yzf,yz4,yzw,yzt,yzo,yzp,yzv,yz9,yz8,yze,yzd,yzj,yzi,yz3,yz7,yzc,yza,yzk,yzl,List.range_zero,yz5,yz6,yzb,yzu,yzm,yzq,AVal.fresh,freshL,yz2,yzh,AObj.fresh,id,Option.isSome_some,or_true,true_or,go_sem,yz0,xx9,xx8,xx6,xx7,xx5,xx0,xx1,xx2,reduceIte,xx3,xx4,reduceCtorEq]
        exact ⟨n,A2 ++ (m1,cur) :: C2,v',a2,s2,FAut.lo (m:=10) ⟨A1,D1,by omega⟩,by omega,by omega,rfl,by simp,rfl⟩
theorem k_A2Automaton (code:List Int) (hb:∀ x∈code,0≤x∧x≤255) :
    Con Tryz.prog nz35 [] [.ro (some (some 0)) 1 (intsK .u8 code)] true fun outs rows res=>outs=[]∧∃ n next v,Aut n next∧n≤7∧rows=[.row v 1 true (rws next)]∧res=.st [iv n,.own 6000 v]:=by
  refine con_sh mixed czg0 rfl (by simp) ?_
  generalize hQ:finQ _=Q
  simp only [Azl,Bz7i,go_sem,yz0,xx9,xx8,xx6,xx7,xx5,xx0,xx1,xx2,reduceIte,xx3,xx4,reduceCtorEq]
  intro vs0 vs1
  refine call_sh (k_from code) qCS (fun e=>by cases e) ?_
  rintro outs rows res ⟨rfl,v,rfl,rfl⟩
  refine ⟨rfl,by simp,by rw [Option.getD_some,yzm];rfl,?_⟩
  simp only [Bz7h,Nat.not_lt_zero,range1,yzy,yz12,ren_ro,rnNm_n,yz13,rnNm_o,rnNm_s,ren_st,yz10,yzr,yzf,yz4,yzw,yzt,yzo,yzp,yzv,yz9,yz8,yze,yzd,yzj,yzi,yz3,yz7,yzc,yza,yzk,yzl,List.range_zero,yz5,yz6,yzb,yzu,yzm,yzq,AVal.fresh,freshL,yz2,yzh,AObj.fresh,id,Option.isSome_some,or_true,true_or,go_sem,yz0,xx9,xx8,xx6,xx7,xx5,xx0,xx1,xx2,reduceIte,xx3,xx4,reduceCtorEq]
  intro vs2
  have h:Con Tryz.prog nz12 [.box 0 (srcC code 0 0)] [.ptr 5000 0 0] true fun outs rows res=>∃ n next v a' s',outs=[.box 0 (srcC code a' s')]∧rows=[.row v 1 true (rws next)]∧res=.st [iv n,.own 6000 v]:=by
    refine Con.dnr (k_l03Linked code 0 0 hb (by omega)) ?_
    rintro o r x ⟨n,ps,v,a',s',hf,h1,h2,rfl,rfl,rfl⟩
    refine ⟨n,ps.map (·.2),v,a',s',?_,?_,?_⟩
    · simp only [List.map_cons,List.map_nil,AObj.dn,dnL,AVal.dn,dnL_ints,dnNm]
    · simp only [List.map_cons,List.map_nil,AObj.dn,dnL_rwp]
    · simp only [AVal.dn,dnL]
  refine call_con (r:=6) h rfl (by simp only [Bool.not_true,rowIs,boxIs,coe_argN,coe_argNs,coe_ro_o,yz19,yzs,coe_any,coe_val,coe_ro,yz15,yz16,coe_st,yz18,coe_rp,yz17,coe_clo,coe_own0,coe_ptr0,yz11,coeL_rws,coeL_rwn,L_hit,L_miss,L_nil,xx3,ne_eq,reduceCtorEq,not_false_eq_true,true_and,and_true,and_self,exists_eq_left,exists_eq_right,List.mem_cons,List.not_mem_nil,or_false,AObj.row.injEq,AObj.box.injEq,exists_eq_left',exists_and_left,exists_eq,Nat.zero_lt_one,Nat.lt_add_one,List.map_cons,List.map_nil,AObj.ver,xx5,not_true_eq_false]) (by simp only [Bool.not_true,rowIs,boxIs,coe_argN,coe_argNs,coe_ro_o,yz19,yzs,coe_any,coe_val,coe_ro,yz15,yz16,coe_st,yz18,coe_rp,yz17,coe_clo,coe_own0,coe_ptr0,yz11,coeL_rws,coeL_rwn,L_hit,L_miss,L_nil,xx3,ne_eq,reduceCtorEq,not_false_eq_true,true_and,and_true,and_self,exists_eq_left,exists_eq_right,List.mem_cons,List.not_mem_nil,or_false,AObj.row.injEq,AObj.box.injEq,exists_eq_left',exists_and_left,exists_eq,Nat.zero_lt_one,Nat.lt_add_one,List.map_cons,List.map_nil,AObj.ver,xx5,not_true_eq_false]) ?_
  rintro outs rows res ⟨n,next,v',a',s',rfl,rfl,rfl⟩
  refine ⟨rfl,by simp,by rw [Option.getD_some,yzm];simp only [go_sem,yz0,xx9,xx8,xx6,xx7,xx5,xx0,xx1,xx2,reduceIte,xx3,xx4,reduceCtorEq],?_⟩
  rw [Option.getD_some,callHp_mr (by omega)]
  have hslow:Con Tryz.prog nze [] [iv 4] true fun outs rows res=>outs=[]∧∃ next v,Aut 4 next∧rows=[.row v 1 true (rws next)]∧res=.st [iv 4,.own 6000 v]:=by
    refine Con.dnr (k_l02SlowN 4 (by omega)) ?_
    rintro o r x ⟨rfl,v,ps,hA,hd,rfl,rfl⟩
    refine ⟨rfl,ps.map (·.2),v,hA,?_,?_⟩
    · simp only [List.map_cons,List.map_nil,AObj.dn,dnL_rwp]
    · simp only [AVal.dn,dnL]
  simp only [Bz7g,Nat.not_lt_zero,range1,yzy,yz12,ren_ro,rnNm_n,yz13,rnNm_o,rnNm_s,ren_st,yz10,yzr,yzf,yz4,yzw,yzt,yzo,yzp,yzv,yz9,yz8,yze,yzd,yzj,yzi,yz3,yz7,yzc,yza,yzk,yzl,List.range_zero,yz5,yz6,yzb,yzu,yzm,yzq,AVal.fresh,freshL,yz2,yzh,AObj.fresh,id,Option.isSome_some,or_true,true_or,go_sem,yz0,xx9,xx8,xx6,xx7,xx5,xx0,xx1,xx2,reduceIte,xx3,xx4,reduceCtorEq]
  intro vs3
  refine yzx (k_l01Ok n next) qCS trivial ?_
  cases hA:autB n next with
  | false =>
    simp only [Bz1l,Bz42,go_sem,yz0,xx9,xx8,xx6,xx7,xx5,xx0,xx1,xx2,reduceIte,xx3,xx4,reduceCtorEq]
    intro vs5
    refine call_sh hslow qCS (fun e=>by cases e) ?_
    rintro outs rows res ⟨rfl,next2,v2,A2,rfl,rfl⟩
    refine ⟨rfl,by simp,by rw [Option.getD_some,yzm];simp only [go_sem,yz0,xx9,xx8,xx6,xx7,xx5,xx0,xx1,xx2,reduceIte,xx3,xx4,reduceCtorEq],?_⟩
    simp only [← hQ,Azl,dnL_rws,Nat.not_lt_zero,range1,yzy,yz12,ren_ro,rnNm_n,yz13,rnNm_o,rnNm_s,ren_st,yz10,yzr,yzf,yz4,yzw,yzt,yzo,yzp,yzv,yz9,yz8,yze,yzd,yzj,yzi,yz3,yz7,yzc,yza,yzk,yzl,List.range_zero,yz5,yz6,yzb,yzu,yzm,yzq,AVal.fresh,freshL,yz2,yzh,AObj.fresh,id,Option.isSome_some,or_true,true_or,go_sem,yz0,xx9,xx8,xx6,xx7,xx5,xx0,xx1,xx2,reduceIte,xx3,xx4,reduceCtorEq]
    refine ⟨[16],by simp,by simp,by simp,?_⟩
    simp only [Nat.not_lt_zero,range1,yzy,yz12,ren_ro,rnNm_n,yz13,rnNm_o,rnNm_s,ren_st,yz10,yzr,yzf,yz4,yzw,yzt,yzo,yzp,yzv,yz9,yz8,yze,yzd,yzj,yzi,yz3,yz7,yzc,yza,yzk,yzl,List.range_zero,yz5,yz6,yzb,yzu,yzm,yzq,AVal.fresh,freshL,yz2,yzh,AObj.fresh,id,Option.isSome_some,or_true,true_or,go_sem,yz0,xx9,xx8,xx6,xx7,xx5,xx0,xx1,xx2,reduceIte,xx3,xx4,reduceCtorEq]
    exact ⟨4,next2,_,A2,by omega,rfl,rfl⟩
  | true =>
    have A:=autB_iff.1 hA
    by_cases h7:n≤7
    · simp only [decide_eq_true h7,Bz1l,← hQ,Azl,dnL_rws,go_sem,yz0,xx9,xx8,xx6,xx7,xx5,xx0,xx1,xx2,reduceIte,xx3,xx4,reduceCtorEq]
      refine ⟨[8],by simp,by simp,by simp,?_⟩
      simp only [Nat.not_lt_zero,range1,yzy,yz12,ren_ro,rnNm_n,yz13,rnNm_o,rnNm_s,ren_st,yz10,yzr,yzf,yz4,yzw,yzt,yzo,yzp,yzv,yz9,yz8,yze,yzd,yzj,yzi,yz3,yz7,yzc,yza,yzk,yzl,List.range_zero,yz5,yz6,yzb,yzu,yzm,yzq,AVal.fresh,freshL,yz2,yzh,AObj.fresh,id,Option.isSome_some,or_true,true_or,go_sem,yz0,xx9,xx8,xx6,xx7,xx5,xx0,xx1,xx2,reduceIte,xx3,xx4,reduceCtorEq]
      exact ⟨n,next,_,A,h7,rfl,rfl⟩
    · simp only [Bz1l,Bz42,decide_eq_false h7,go_sem,yz0,xx9,xx8,xx6,xx7,xx5,xx0,xx1,xx2,reduceIte,xx3,xx4,reduceCtorEq]
      intro vs5
      refine call_sh hslow qCS (fun e=>by cases e) ?_
      rintro outs rows res ⟨rfl,next2,v2,A2,rfl,rfl⟩
      refine ⟨rfl,by simp,by rw [Option.getD_some,yzm];simp only [go_sem,yz0,xx9,xx8,xx6,xx7,xx5,xx0,xx1,xx2,reduceIte,xx3,xx4,reduceCtorEq],?_⟩
      simp only [← hQ,Azl,dnL_rws,Nat.not_lt_zero,range1,yzy,yz12,ren_ro,rnNm_n,yz13,rnNm_o,rnNm_s,ren_st,yz10,yzr,yzf,yz4,yzw,yzt,yzo,yzp,yzv,yz9,yz8,yze,yzd,yzj,yzi,yz3,yz7,yzc,yza,yzk,yzl,List.range_zero,yz5,yz6,yzb,yzu,yzm,yzq,AVal.fresh,freshL,yz2,yzh,AObj.fresh,id,Option.isSome_some,or_true,true_or,go_sem,yz0,xx9,xx8,xx6,xx7,xx5,xx0,xx1,xx2,reduceIte,xx3,xx4,reduceCtorEq]
      refine ⟨[16],by simp,by simp,by simp,?_⟩
      simp only [Nat.not_lt_zero,range1,yzy,yz12,ren_ro,rnNm_n,yz13,rnNm_o,rnNm_s,ren_st,yz10,yzr,yzf,yz4,yzw,yzt,yzo,yzp,yzv,yz9,yz8,yze,yzd,yzj,yzi,yz3,yz7,yzc,yza,yzk,yzl,List.range_zero,yz5,yz6,yzb,yzu,yzm,yzq,AVal.fresh,freshL,yz2,yzh,AObj.fresh,id,Option.isSome_some,or_true,true_or,go_sem,yz0,xx9,xx8,xx6,xx7,xx5,xx0,xx1,xx2,reduceIte,xx3,xx4,reduceCtorEq]
      exact ⟨4,next2,_,A2,by omega,rfl,rfl⟩
end Go.Ab
namespace Go.Ab
theorem stepA_in {n:Int} {next:List (List Int)} (A:Aut n next) {s x:Int} (hs:0≤s∧s<n) (hx:0≤x∧x<next.length):0≤stepA next s x∧stepA next s x<n:=by
  have h:=A.row _ (yzn (show x.toNat<next.length by omega) [])
  exact h.2 _ (yzn (by omega) 0)
def Per (n:Int) (next:List (List Int)) (far:Int→Int) (p:Int):Prop:=∀ s x,0≤s∧s<n→0≤x∧x<(next.length:Int)→p ∣ far s+1 - far (stepA next s x)
theorem Per.word {n p:Int} {next:List (List Int)} {far:Int→Int} (A:Aut n next) (h:Per n next far p):∀ {w:List Int} {s:Int},(0≤s∧s<n)→IsW next.length w→p ∣ far s+w.length - far (atA next s w)
  | [],s,_,_=>by
    have e:far s+(([]:List Int).length:Int) - far (atA next s [])=0:=by simp [atA]
    rw [e];exact Int.dvd_zero p
  | x :: w,s,hs,hw=>by
    have hx:=hw x (by simp)
    have h1:=h s x hs hx
    have h2:=Per.word A h (w:=w) (s:=stepA next s x) (stepA_in A hs hx) fun y hy=>hw y (by simp [hy])
    have e:far s+((x :: w).length:Int) - far (atA next s (x :: w))=(far s+1 - far (stepA next s x))+(far (stepA next s x)+(w.length:Int) - far (atA next (stepA next s x) w)):=by
      have e2:atA next s (x :: w)=atA next (stepA next s x) w:=rfl
      rw [e2,List.length_cons];omega
    rw [e];exact Int.dvd_add h1 h2
theorem Per.loop {n p s:Int} {next:List (List Int)} {far:Int→Int} (A:Aut n next) (h:Per n next far p) {w:List Int} (hs:0≤s∧s<n) (hw:IsW next.length w) (e:atA next s w=s):p ∣ (w.length:Int):=by
  have:=h.word A hs hw
  rw [e] at this
  rwa [show far s+(w.length:Int) - far s=w.length by omega] at this
end Go.Ab
namespace Go.Ab
theorem set_getD7 {l:List Int} {i j:Nat} {v:Int}:(l.set i v).getD j 0=if i=j∧i<l.length then v else l.getD j 0:=by
  rw [List.getD_eq_getElem?_getD,List.getElem?_set,List.getD_eq_getElem?_getD]
  by_cases e:i=j
  · subst e
    by_cases h:i<l.length
    · rw [if_pos rfl,if_pos h,if_pos ⟨rfl,h⟩];rfl
    · rw [if_pos rfl,if_neg h,if_neg (fun g=>h g.2),List.getElem?_eq_none (by omega)]
  · rw [if_neg e,if_neg (fun g=>e g.1)]
structure Ext (P Q:List Int):Prop where
  len:Q.length=P.length
  eq:∀ k,0≤P.getD k 0→Q.getD k 0=P.getD k 0
theorem Ext.refl (P:List Int):Ext P P:=⟨rfl,fun _ _=>rfl⟩
theorem Ext.trans {P Q R:List Int} (h:Ext P Q) (g:Ext Q R):Ext P R :=
  ⟨g.len.trans h.len,fun k hk=>by have e:=h.eq k hk;rw [g.eq k (by omega),e]⟩
theorem Ext.set {P:List Int} {i:Nat} {s:Int} (hi:P.getD i 0<0):Ext P (P.set i s) :=
  ⟨by simp,fun k hk=>by
    rw [set_getD7,if_neg (fun e=>by rw [e.1] at hi;omega)]⟩
def Ed (na nb:List (List Int)) (Q:List Int) (k:Nat):Prop:=∀ l:Nat,l<na.length→Q.getD (stepA nb k l).toNat 0=stepA na (Q.getD k 0) l
theorem Ed.ext {na nb:List (List Int)} {Q R:List Int} {k:Nat} (hA:∀ s l,0≤stepA na s l) (h:Ed na nb Q k) (hk:0≤Q.getD k 0) (g:Ext Q R):Ed na nb R k:=fun l hl=>by
  have e:=h l hl
  rw [g.eq k hk,g.eq _ (by rw [e];exact hA _ _),e]
structure Iso (na nb:List (List Int)) (ph:List Int):Prop where
  nn:∀ x∈ph,0≤x
  nd:ph.Nodup
  ed:∀ k:Nat,k<ph.length→∀ l:Nat,l<na.length→(stepA nb k l).toNat<ph.length∧ph.getD (stepA nb k l).toNat 0=stepA na (ph.getD k 0) l
structure Sub (P ph:List Int):Prop where
  len:P.length=ph.length
  eq:∀ k,k<ph.length→0≤P.getD k 0→P.getD k 0=ph.getD k 0
theorem Sub.set {P ph:List Int} {i:Nat} (h:Sub P ph):Sub (P.set i (ph.getD i 0)) ph :=
  ⟨by rw [List.length_set];exact h.len,fun k hk h0=>by
    rw [set_getD7] at h0 ⊢
    by_cases e:i=k∧i<P.length
    · rw [if_pos e,e.1]
    · rw [if_neg e] at h0 ⊢;exact h.eq k hk h0⟩
end Go.Ab
namespace Go.Ab
structure Prt2 (n:Int) (P:List Int):Prop where
  len:P.length=n.toNat
  rg:∀ x∈P,-1≤x∧x<n
  inj:∀ j k,j<P.length→k<P.length→0≤P.getD j 0→P.getD j 0=P.getD k 0→j=k
theorem Prt2.set {n:Int} {P:List Int} {i:Nat} {s:Int} (h:Prt2 n P) (hs:0≤s∧s<n) (hn:s ∉ P):Prt2 n (P.set i s):=by
  have hm:∀ k,k<P.length→P.getD k 0≠s:=fun k hk e=>hn (by rw [← e];exact yzn hk 0)
  refine ⟨by rw [List.length_set];exact h.len,fun x hx=>?_,fun j k hj hk h0 e=>?_⟩
  · rcases List.mem_or_eq_of_mem_set hx with hx | rfl
    · exact h.rg x hx
    · omega
  · rw [List.length_set] at hj hk
    rw [set_getD7] at h0 e
    rw [set_getD7] at e
    by_cases e1:i=j∧i<P.length
    · by_cases e2:i=k∧i<P.length
      · omega
      · rw [if_pos e1,if_neg e2] at e
        exact absurd e.symm (hm k hk)
    · by_cases e2:i=k∧i<P.length
      · rw [if_neg e1,if_pos e2] at e
        exact absurd e (hm j hj)
      · rw [if_neg e1] at h0
        rw [if_neg e1,if_neg e2] at e
        exact h.inj j k hj hk h0 e
theorem stepA_nn {n:Int} {na:List (List Int)} (A:Aut n na) (s l:Int):0≤stepA na s l:=by
  unfold stepA
  by_cases h1:l.toNat<na.length
  · have h2:=A.row _ (yzn h1 [])
    generalize na.getD l.toNat []=row at h2 ⊢
    by_cases h3:s.toNat<row.length
    · exact (h2.2 _ (yzn h3 0)).1
    · rw [List.getD_eq_getElem?_getD,List.getElem?_eq_none (by omega)];exact Int.le_refl 0
  · have e:na.getD l.toNat []=[]:=by rw [List.getD_eq_getElem?_getD,List.getElem?_eq_none (by omega)];rfl
    rw [e];simp
end Go.Ab
namespace Go.Ab
open Go.Proofs
end Go.Ab
namespace Go.Ab
open Go.Proofs
end Go.Ab
namespace Go.Ab
open Go.Proofs
end Go.Ab
namespace Go.Ab
end Go.Ab
namespace Go.Ab
theorem appg_new {α:Type} {xs:List α} {y d:α}:(xs ++ [y]).getD xs.length d=y:=by
  simp [List.getD_eq_getElem?_getD]
end Go.Ab
namespace Go.Ab
structure CI (n:Int) (L:List Int):Prop where
  nd:L.Nodup
  rg:∀ s∈L,0≤s∧s<n
  hd:L.getD 0 1=0
theorem CI.len {n:Int} {L:List Int} (h:CI n L) (hn:n≤10):1≤L.length∧L.length≤10:=by
  have h1:L≠[]:=fun e=>by have:=h.hd;rw [e] at this;simp at this
  have hm:(L.map Int.toNat).Nodup:=by
    refine List.Pairwise.map _ ?_ (List.Pairwise.and_mem.1 h.nd)
    rintro a b ⟨ha,hb,hab⟩ e
    have:=h.rg a ha
    have:=h.rg b hb
    omega
  have:=nodup_lt 10 _ hm fun x hx=>by
    obtain ⟨s,hs,rfl⟩:=List.mem_map.1 hx
    have:=h.rg s hs
    omega
  rw [List.length_map] at this
  exact ⟨List.length_pos_iff.2 h1,this⟩
structure Rel (na oa nb ob:List (List Int)) (R:Int→Int→Prop):Prop where
  len:na.length=nb.length
  step:∀ s t,R s t→∀ x,0≤x∧x<(na.length:Int)→outA oa s x=outA ob t x∧R (stepA na s x) (stepA nb t x)
  fn:∀ s t t',R s t→R s t'→t=t'
  inj:∀ s s' t,R s t→R s' t→s=s'
def RelL (R:Int→Int→Prop) (L M:List Int):Prop:=L.length=M.length∧∀ i<L.length,R (L.getD i 0) (M.getD i 0)
theorem RelL.snoc {R:Int→Int→Prop} {L M:List Int} (h:RelL R L M) {s t:Int} (hst:R s t):RelL R (L ++ [s]) (M ++ [t]):=by
  refine ⟨by simp [h.1],fun i hi=>?_⟩
  rw [List.length_append,List.length_singleton] at hi
  by_cases e:i<L.length
  · rw [getD_app e,getD_app (by rw [← h.1];exact e)];exact h.2 i e
  · have e1:i=L.length:=by omega
    subst e1
    rw [appg_new]
    rw [h.1,appg_new];exact hst
end Go.Ab
namespace Go.Ab
end Go.Ab
namespace Go.Ab
open Go.Proofs
abbrev MachR (n o:Int) (xs ys:List (List Int)) (rows:List AObj) (res:AVal):Prop :=
  ∃ v w ps qs,rows=[.row v 1 true (rwp ps),.row w 1 true (rwp qs)]∧ps.map (·.2)=xs∧qs.map (·.2)=ys∧DJ (ps ++ qs)∧res=.st [iv n,iv o,.own 6000 v,.own 6001 w]
abbrev NamM (P:Program) (g:FuncId) (args:List AVal) (n o:Int) (xs ys:List (List Int)):Prop:=Fn P g args (MachR n o xs ys)
end Go.Ab
namespace Go.Ab
open Go.Proofs
end Go.Ab
namespace Go.Ab
open Go.Proofs
abbrev MachS (n o:Int) (xs ys:List (List Int)) (rows:List AObj) (res:AVal):Prop :=
  ∃ v w,rows=[.row v 1 true (rws xs),.row w 1 true (rws ys)]∧res=.st [iv n,iv o,.own 6000 v,.own 6001 w]
theorem NamM.dn {P:Program} {g:FuncId} {args:List AVal} {n o:Int} {xs ys:List (List Int)} (h:NamM P g args n o xs ys):Fn P g args (MachS n o xs ys):=by
  refine Con.dnr h ?_
  rintro o' r x ⟨rfl,v,w,ps,qs,rfl,rfl,rfl,_,rfl⟩
  refine ⟨rfl,v,w,?_,?_⟩
  · simp only [List.map_cons,List.map_nil,AObj.dn,dnL_rwp]
  · simp only [AVal.dn,dnL]
abbrev MachRC (ok:Bool) (n o:Int) (xs ys:List (List Int)) (code:Int) (rows:List AObj) (res:AVal):Prop :=
  if ok=true then ∃ v w ps qs,rows=[.row v 1 true (rwp ps),.row w 1 true (rwp qs)]∧ps.map (·.2)=xs∧qs.map (·.2)=ys∧DJ (ps ++ qs)∧res=.tup [.st [iv n,iv o,.own 6000 v,.own 6001 w],iv code]
  else rows=[]∧res=.tup [.st [iv 0,iv 0,nilS,nilS],iv code]
abbrev NamMR (P:Program) (g:FuncId) (args:List AVal) (ok:Bool) (n o:Int) (xs ys:List (List Int)) (code:Int):Prop:=Fn P g args (MachRC ok n o xs ys code)
abbrev MachSC (n o:Int) (xs ys:List (List Int)) (rows:List AObj) (res:AVal):Prop :=
  ∃ v w,rows=[.row v 1 true (rws xs),.row w 1 true (rws ys)]∧res=.tup [.st [iv n,iv o,.own 6000 v,.own 6001 w],iv 0]
theorem NamMR.dn {P:Program} {g:FuncId} {args:List AVal} {ok:Bool} {n o:Int} {xs ys:List (List Int)} {code:Int} (h:NamMR P g args ok n o xs ys code) (hok:ok=true) (hc:code=0):Fn P g args (MachSC n o xs ys):=by
  subst hok hc
  refine Con.dnr h ?_
  rintro o' r x ⟨rfl,hR⟩
  unfold MachRC at hR
  rw [if_pos rfl] at hR
  obtain ⟨v,w,ps,qs,rfl,rfl,rfl,_,rfl⟩:=hR
  refine ⟨rfl,v,w,?_,?_⟩
  · simp only [List.map_cons,List.map_nil,AObj.dn,dnL_rwp]
  · simp only [AVal.dn,dnL]
end Go.Ab
namespace Go.Ab
open Go.Proofs
end Go.Ab
namespace Go.Ab
open Go.Proofs
end Go.Ab
namespace Go.Ab
open Go.Proofs
end Go.Ab
namespace Go.Ab
open Go.Proofs
end Go.Ab
namespace Go.Ab
theorem outsA_snoc {next out:List (List Int)} {x:Int}:∀ {w:List Int} {s:Int},outsA next out s (w ++ [x])=outsA next out s w ++ [outA out (atA next s w) x]
  | [],s=>rfl
  | y :: w,s=>by
    have:=outsA_snoc (next:=next) (out:=out) (x:=x) (w:=w) (s:=stepA next s y)
    simp only [List.cons_append,outsA,this];rfl
theorem atA_snoc {next:List (List Int)} {x:Int} {w:List Int} {s:Int}:atA next s (w ++ [x])=stepA next (atA next s w) x:=by simp [atA]
theorem dvF_app {nr or:List Int} {o:Int} {S:List Int} {s:Int}:dvF nr or o (S ++ [s])=dvS nr or (dvF nr or o S) s:=by unfold dvF;rw [List.foldl_append];rfl
theorem set_getD5 {l:List Nat} {i j v:Nat} (hi:i<l.length):(l.set i v).getD j 0=if i=j then v else l.getD j 0:=by
  rw [List.getD_eq_getElem?_getD,List.getElem?_set,List.getD_eq_getElem?_getD]
  by_cases e:i=j
  · rw [if_pos e,if_pos e,if_pos hi];rfl
  · rw [if_neg e,if_neg e]
theorem dvF_bit {nr or:List Int} {o:Int} (ho:0≤o) {b u:Nat} (hb:b<o.toNat):∀ (k:Nat) (S:List Int),S.length=k→(∀ s∈S,0≤or.getD s.toNat 0∧or.getD s.toNat 0<o) →
    (((dvF nr or o S).1.getD b 0).testBit u=true↔∃ s∈S,(or.getD s.toNat 0).toNat=b∧(nr.getD s.toNat 0).toNat=u)
  | 0,S,hk,_=>by
    obtain rfl:=List.eq_nil_of_length_eq_zero hk
    have:(List.replicate o.toNat 0).getD b 0=0:=by
      rw [List.getD_eq_getElem?_getD,List.getElem?_replicate,if_pos hb];rfl
    unfold dvF
    simp only [List.foldl_nil]
    rw [this]
    simp
  | k+1,S,hk,hS=>by
    have hne:S≠[]:=fun e=>by rw [e] at hk;simp at hk
    have e:=List.dropLast_concat_getLast hne
    have ih:=dvF_bit (nr:=nr) (u:=u) ho hb k S.dropLast (by rw [List.length_dropLast];omega) fun s hs=>hS s (List.dropLast_subset S hs)
    have hl:=hS _ (List.getLast_mem hne)
    generalize S.getLast hne=s at e hl
    generalize S.dropLast=R at e ih
    subst e
    have hlen:=dvF_len (nr:=nr) (or:=or) (o:=o) (S:=R)
    rw [dvF_app]
    unfold dvS
    dsimp only
    rw [set_getD5 (by rw [hlen];omega)]
    by_cases e:(or.getD s.toNat 0).toNat=b
    · rw [if_pos e,e,Nat.testBit_or,Nat.testBit_two_pow,Bool.or_eq_true,ih,decide_eq_true_eq]
      constructor
      · rintro (⟨v,h1,h2,h3⟩ | h)
        · exact ⟨v,by simp [h1],h2,h3⟩
        · exact ⟨s,by simp,e,h⟩
      · rintro ⟨v,h1,h2,h3⟩
        rcases List.mem_append.1 h1 with h | h
        · exact .inl ⟨v,h,h2,h3⟩
        · rw [List.mem_singleton.1 h] at h3;exact .inr h3
    · rw [if_neg e,ih]
      constructor
      · rintro ⟨v,h1,h2,h3⟩;exact ⟨v,by simp [h1],h2,h3⟩
      · rintro ⟨v,h1,h2,h3⟩
        rcases List.mem_append.1 h1 with h | h
        · exact ⟨v,h,h2,h3⟩
        · rw [List.mem_singleton.1 h] at h2;exact absurd h2 e
theorem and_pow0 {a k:Nat}:Nat.beq (a &&& 2 ^ k) 0=!(a.testBit k):=by
  have h:(a &&& 2 ^ k=0)↔a.testBit k=false:=by
    constructor
    · intro h
      have:=congrArg (fun z=>z.testBit k) h
      simpa [Nat.testBit_and,Nat.testBit_two_pow] using this
    · intro h
      refine Nat.eq_of_testBit_eq fun i=>?_
      rw [Nat.testBit_and,Nat.testBit_two_pow,Nat.zero_testBit]
      by_cases e:k=i
      · subst e;simp [h]
      · simp [e]
  cases hb:a.testBit k with
  | false=>rw [h.2 hb];rfl
  | true =>
    have:a &&& 2 ^ k≠0:=fun e=>by rw [h.1 e] at hb;cases hb
    cases hz:a &&& 2 ^ k with
    | zero=>exact absurd hz this
    | succ z=>rfl
theorem dvF_clr {nr or:List Int} {o:Int} (ho:0≤o):∀ (k:Nat) (S:List Int),S.length=k→(∀ s∈S,0≤or.getD s.toNat 0∧or.getD s.toNat 0<o) →
    ((dvF nr or o S).2=true↔S.Pairwise fun a b=>¬ ((or.getD a.toNat 0).toNat=(or.getD b.toNat 0).toNat∧(nr.getD a.toNat 0).toNat=(nr.getD b.toNat 0).toNat))
  | 0,S,hk,_=>by
    obtain rfl:=List.eq_nil_of_length_eq_zero hk
    simp [dvF]
  | k+1,S,hk,hS=>by
    have hne:S≠[]:=fun e=>by rw [e] at hk;simp at hk
    have e:=List.dropLast_concat_getLast hne
    have ih:=dvF_clr (nr:=nr) (or:=or) ho k S.dropLast (by rw [List.length_dropLast];omega) fun s hs=>hS s (List.dropLast_subset S hs)
    have hl:=hS _ (List.getLast_mem hne)
    have hS':∀ s∈S.dropLast,0≤or.getD s.toNat 0∧or.getD s.toNat 0<o:=fun s hs=>hS s (List.dropLast_subset S hs)
    generalize S.getLast hne=s at e hl
    generalize S.dropLast=R at e ih hS'
    subst e
    have hbit:=dvF_bit (nr:=nr) (or:=or) (o:=o) (b:=(or.getD s.toNat 0).toNat) (u:=(nr.getD s.toNat 0).toNat) ho (by omega) R.length R rfl hS'
    rw [dvF_app,List.pairwise_append]
    unfold dvS
    dsimp only
    rw [and_pow0,Bool.and_eq_true,ih,Bool.not_eq_true',← Bool.not_eq_true,hbit]
    constructor
    · rintro ⟨h1,h2⟩
      refine ⟨h1,by simp,fun a ha b hb=>?_⟩
      rw [List.mem_singleton.1 hb]
      exact fun h=>h2 ⟨a,ha,h.1,h.2⟩
    · rintro ⟨h1,_,h2⟩
      exact ⟨h1,fun ⟨a,ha,h3,h4⟩=>h2 a ha s (by simp) ⟨h3,h4⟩⟩
theorem pw_all {α:Type} {R:α→α→Prop} (hs:∀ a b,R a b→R b a):∀ {l:List α},l.Pairwise R→∀ a∈l,∀ b∈l,a≠b→R a b
  | [],_,_,h,_,_,_=>by simp at h
  | x :: l,h,a,ha,b,hb,hab=>by
    rw [List.pairwise_cons] at h
    rcases List.mem_cons.1 ha with ea | ha'
    · rcases List.mem_cons.1 hb with eb | hb'
      · exact absurd (ea.trans eb.symm) hab
      · rw [ea];exact h.1 b hb'
    · rcases List.mem_cons.1 hb with eb | hb'
      · rw [eb];exact hs _ _ (h.1 a ha')
      · exact pw_all hs h.2 a ha' b hb' hab
section
variable {n o:Int} {next out:List (List Int)}
def Cls (next out:List (List Int)) (n:Int) (f:Nat) (w r:List Int):Prop:=∀ u:Nat,u∈bitsN f↔∃ s:Nat,(s:Int)<n∧outsA next out s w=r∧atA next s w=u
structure DI (next out:List (List Int)) (n:Int) (tl:Bool) (w:List Int) (D:List Nat):Prop where
  db:DB n.toNat D
  cl:∀ f∈D,∃ r,Cls next out n f w r
  ex:∀ s t:Nat,(s:Int)<n→(t:Int)<n→outsA next out s w=outsA next out t w→atA next s w≠atA next t w→∃ f∈D,Cls next out n f w (outsA next out s w)
  inj:tl=true→∀ s t:Nat,(s:Int)<n→(t:Int)<n→s≠t→outsA next out s w=outsA next out t w→atA next s w≠atA next t w
theorem two_bits_ns {f u v:Nat} (hf:f<1024) (hu:u∈bitsN f) (hv:v∈bitsN f) (h:u≠v):smallN f=false:=by
  cases hs:smallN f with
  | false=>rfl
  | true=>exact absurd ((small_iff hf).1 hs u hu v hv) h
theorem DI0 (n1:1≤n) (n2:n≤10) (hn:n > 1) {tl:Bool}:DI next out n tl [] [2 ^ n.toNat - 1] where
  db:=DB_all n1 n2 hn
  cl:=fun f hf=>by
    rw [List.mem_singleton.1 hf]
    refine ⟨[],fun u=>?_⟩
    rw [all_bits ⟨n1,n2⟩]
    constructor
    · intro h;exact ⟨u,h,rfl,rfl⟩
    · rintro ⟨s,h1,_,h2⟩
      have:(s:Int)=u:=h2
      omega
  ex:=fun s t hs ht _ _=>⟨2 ^ n.toNat - 1,by simp,fun u=>by
    rw [all_bits ⟨n1,n2⟩]
    constructor
    · intro h;exact ⟨u,h,rfl,rfl⟩
    · rintro ⟨s,h1,_,h2⟩
      have:(s:Int)=u:=h2
      omega⟩
  inj:=fun _ s t _ _ hst _ e=>hst (by have:(s:Int)=t:=e;omega)
theorem Cls.part (M:Mach n o next out) {f x b:Nat} {w r:List Int} (hw:IsW next.length w) (hx:x<next.length) (hb:b<o.toNat) (h:Cls next out n f w r) (hf:f<2 ^ n.toNat) :
    Cls next out n ((dvF (next.getD x []) (out.getD x []) o (bitsTo f 10)).1.getD b 0) (w ++ [(x:Int)]) (r ++ [(b:Int)]):=by
  intro u
  have hxo:x<out.length:=by rw [M.len];exact hx
  have hnr:=M.aut.row _ (yzn hx [])
  have hor:=M.row _ (yzn hxo [])
  have o1:=M.o1
  have n2:=M.aut.n2
  have hin:∀ v:Nat,v∈bitsN f→v<n.toNat:=fun v hv=>bits_lt hf hv
  have hS:∀ s∈bitsTo f 10,0≤(out.getD x []).getD s.toNat 0∧(out.getD x []).getD s.toNat 0<o:=fun s hs=>by
    obtain ⟨k,hk,rfl⟩:=List.mem_map.1 (show s∈(bitsN f).map (fun (s:Nat)=>(s:Int)) from hs)
    have:=hin k hk
    exact hor.2 _ (yzn (by rw [Int.toNat_natCast];omega) 0)
  have hbit:=dvF_bit (nr:=next.getD x []) (or:=out.getD x []) (o:=o) (b:=b) (u:=u) (by omega) hb _ (bitsTo f 10) rfl hS
  have hlt:=dvF_lt (nr:=next.getD x []) (or:=out.getD x []) (o:=o) (n:=n.toNat) (S:=bitsTo f 10) (fun s hs=>by have:=hnr.2 s hs;omega) (fun s hs=>by
    obtain ⟨k,hk,rfl⟩:=List.mem_map.1 (show s∈(bitsN f).map (fun (s:Nat)=>(s:Int)) from hs)
    have:=hin k hk
    rw [Int.toNat_natCast];omega)
  have hlen:=dvF_len (nr:=next.getD x []) (or:=out.getD x []) (o:=o) (S:=bitsTo f 10)
  have hpl:=hlt _ (yzn (show b<(dvF (next.getD x []) (out.getD x []) o (bitsTo f 10)).1.length by omega) 0)
  have hm:u∈bitsN ((dvF (next.getD x []) (out.getD x []) o (bitsTo f 10)).1.getD b 0)↔((dvF (next.getD x []) (out.getD x []) o (bitsTo f 10)).1.getD b 0).testBit u=true:=by
    rw [mem_bits]
    refine ⟨fun h=>h.2,fun h=>⟨?_,h⟩⟩
    have:=Nat.ge_two_pow_of_testBit h
    have h3:u<n.toNat:=(Nat.pow_lt_pow_iff_right (a:=2) (by omega)).1 (Nat.lt_of_le_of_lt this hpl)
    omega
  rw [hm,hbit]
  have hat:∀ s:Nat,(s:Int)<n→0≤atA next s w∧atA next s w<n:=fun s hs=>M.aut.at ⟨by omega,hs⟩ hw
  constructor
  · rintro ⟨v,hv,h1,h2⟩
    obtain ⟨k,hk,rfl⟩:=List.mem_map.1 (show v∈(bitsN f).map (fun (s:Nat)=>(s:Int)) from hv)
    obtain ⟨s,hs,hr,ha⟩:=(h k).1 hk
    have hkn:=hin k hk
    have hok:=hor.2 _ (yzn (show k<(out.getD x []).length by omega) 0)
    have hnk:=hnr.2 _ (yzn (show k<(next.getD x []).length by omega) 0)
    rw [Int.toNat_natCast] at h1 h2
    refine ⟨s,hs,?_,?_⟩
    · rw [outsA_snoc,hr,ha]
      unfold outA
      rw [Int.toNat_natCast,Int.toNat_natCast,show (out.getD x []).getD k 0=(b:Int) by omega]
    · rw [atA_snoc,ha]
      unfold stepA
      rw [Int.toNat_natCast,Int.toNat_natCast];omega
  · rintro ⟨s,hs,hr,ha⟩
    rw [outsA_snoc] at hr
    rw [atA_snoc] at ha
    obtain ⟨h1,h2⟩:=List.append_inj' hr rfl
    have h2:outA out (atA next s w) x=b:=by simpa using h2
    have h3:=hat s hs
    obtain ⟨k,hk⟩:∃ k:Nat,atA next s w=k:=⟨(atA next s w).toNat,by omega⟩
    rw [hk] at h2 ha
    unfold outA at h2
    unfold stepA at ha
    rw [Int.toNat_natCast,Int.toNat_natCast] at h2 ha
    have hkb:=(h k).2 ⟨s,hs,h1,hk⟩
    refine ⟨(k:Int),List.mem_map.2 ⟨k,hkb,rfl⟩,?_,?_⟩
    · rw [Int.toNat_natCast,h2,Int.toNat_natCast]
    · rw [Int.toNat_natCast,ha,Int.toNat_natCast]
theorem DI.goes (M:Mach n o next out) {tl:Bool} {w:List Int} {D:List Nat} {x:Nat} (hw:IsW next.length w) (hx:x<next.length) (h:DI next out n tl w D) :
    match dbtD next out o tl D x with
    | some D'=>DI next out n tl (w ++ [(x:Int)]) D'
    | none=>tl=true∧∃ s t:Nat,(s:Int)<n∧(t:Int)<n∧s≠t∧outsA next out s (w ++ [(x:Int)])=outsA next out t (w ++ [(x:Int)])∧atA next s (w ++ [(x:Int)])=atA next t (w ++ [(x:Int)]):=by
  have hxo:x<out.length:=by rw [M.len];exact hx
  have hnr:=M.aut.row _ (yzn hx [])
  have hor:=M.row _ (yzn hxo [])
  have o1:=M.o1
  have n1:=M.aut.n1
  have n2:=M.aut.n2
  have hN:2 ^ n.toNat≤1024:=Nat.pow_le_pow_right (n:=2) (by omega) (show n.toNat≤10 by omega)
  have hat:∀ s:Nat,(s:Int)<n→0≤atA next s w∧atA next s w<n:=fun s hs=>M.aut.at ⟨by omega,hs⟩ hw
  have hS:∀ f∈D,∀ s∈bitsTo f 10,0≤(out.getD x []).getD s.toNat 0∧(out.getD x []).getD s.toNat 0<o:=fun f hf s hs=>by
    obtain ⟨k,hk,rfl⟩:=List.mem_map.1 (show s∈(bitsN f).map (fun (s:Nat)=>(s:Int)) from hs)
    have:=bits_lt (h.db.el f hf).1 hk
    exact hor.2 _ (yzn (by rw [Int.toNat_natCast];omega) 0)
  cases hd:dbtD next out o tl D x with
  | none =>
    unfold dbtD at hd
    split at hd
    · rename_i hc
      rw [Bool.and_eq_true,Bool.not_eq_true'] at hc
      refine ⟨hc.1,?_⟩
      have hcl:=hc.2
      unfold clrF at hcl
      rw [List.all_eq_false] at hcl
      obtain ⟨f,hf,hcf⟩:=hcl
      have hcf':=mt (dvF_clr (nr:=next.getD x []) (or:=out.getD x []) (o:=o) (by omega) _ (bitsTo f 10) rfl (hS f hf)).2 hcf
      obtain ⟨r,hr⟩:=h.cl f hf
      refine Classical.byContradiction fun hno=>hcf' ?_
      have hsi:(bitsTo f 10).Pairwise (·≠·):=by
        unfold bitsTo
        rw [List.pairwise_map]
        exact (List.pairwise_lt_range.filter _).imp fun h=>by omega
      refine List.Pairwise.imp_of_mem ?_ hsi
      intro a b ha hb hab ⟨e1,e2⟩
      obtain ⟨k,hk,rfl⟩:=List.mem_map.1 (show a∈(bitsN f).map (fun (s:Nat)=>(s:Int)) from ha)
      obtain ⟨l,hl,rfl⟩:=List.mem_map.1 (show b∈(bitsN f).map (fun (s:Nat)=>(s:Int)) from hb)
      obtain ⟨s,hs1,hs2,hs3⟩:=(hr k).1 hk
      obtain ⟨t,ht1,ht2,ht3⟩:=(hr l).1 hl
      have hkn:=bits_lt (h.db.el f hf).1 hk
      have hln:=bits_lt (h.db.el f hf).1 hl
      have ok1:=hor.2 _ (yzn (show k<(out.getD x []).length by omega) 0)
      have ok2:=hor.2 _ (yzn (show l<(out.getD x []).length by omega) 0)
      have nk1:=hnr.2 _ (yzn (show k<(next.getD x []).length by omega) 0)
      have nk2:=hnr.2 _ (yzn (show l<(next.getD x []).length by omega) 0)
      rw [Int.toNat_natCast,Int.toNat_natCast] at e1 e2
      refine hno ⟨s,t,hs1,ht1,fun e=>hab (by rw [← hs3,← ht3,e]),?_,?_⟩
      · rw [outsA_snoc,outsA_snoc,hs2,ht2,hs3,ht3]
        unfold outA
        rw [Int.toNat_natCast,Int.toNat_natCast,Int.toNat_natCast]
        congr 2;omega
      · rw [atA_snoc,atA_snoc,hs3,ht3]
        unfold stepA
        rw [Int.toNat_natCast,Int.toNat_natCast,Int.toNat_natCast];omega
    · cases hd
  | some D' =>
    have hdb:=dbt_DB M h.db hx hd
    unfold dbtD at hd
    split at hd
    · cases hd
    · rename_i hc
      simp only [Option.some.injEq] at hd
      have hplt:=parF_lt (nr:=next.getD x []) (or:=out.getD x []) (o:=o) (n:=n.toNat) (D:=D) (fun s hs=>by have:=hnr.2 s hs;omega) (by omega) fun f hf=>(h.db.el f hf).1
      have hmem:=fun f=>nrmF_mem (ps:=parF (next.getD x []) (out.getD x []) o D) (f:=f) fun g hg=>Nat.lt_of_lt_of_le (hplt g hg) hN
      rw [hd] at hmem
      have hstep:∀ s t:Nat,(s:Int)<n→(t:Int)<n→outsA next out s (w ++ [(x:Int)])=outsA next out t (w ++ [(x:Int)])→outsA next out s w=outsA next out t w∧outA out (atA next s w) x=outA out (atA next t w) x:=by
        intro s t _ _ he
        rw [outsA_snoc,outsA_snoc] at he
        obtain ⟨h1,h2⟩:=List.append_inj' he rfl
        exact ⟨h1,by simpa using h2⟩
      refine ⟨hdb,fun f' hf'=>?_,fun s t hs ht ho ha=>?_,fun ht s t hs htn hst ho ha=>?_⟩
      · obtain ⟨f,hf,hp⟩:=List.mem_flatMap.1 ((hmem f').1 hf').1
        obtain ⟨b,hb,hg⟩:=List.getElem_of_mem hp
        obtain ⟨r,hr⟩:=h.cl f hf
        have hlen:=dvF_len (nr:=next.getD x []) (or:=out.getD x []) (o:=o) (S:=bitsTo f 10)
        have hc:=hr.part M hw hx (b:=b) (by omega) (h.db.el f hf).1
        rw [List.getD_eq_getElem?_getD,List.getElem?_eq_getElem hb,Option.getD_some,hg] at hc
        exact ⟨_,hc⟩
      · obtain ⟨ho1,ho2⟩:=hstep s t hs ht ho
        have ha1:atA next s w≠atA next t w:=fun e=>ha (by rw [atA_snoc,atA_snoc,e])
        obtain ⟨f,hf,hc⟩:=h.ex s t hs ht ho1 ha1
        have hs3:=hat s hs
        obtain ⟨k,hk⟩:∃ k:Nat,atA next s w=k:=⟨(atA next s w).toNat,by omega⟩
        have hok:0≤outA out (atA next s w) x∧outA out (atA next s w) x<o:=by
          rw [hk];unfold outA
          rw [Int.toNat_natCast,Int.toNat_natCast]
          exact hor.2 _ (yzn (show k<(out.getD x []).length by omega) 0)
        obtain ⟨b,hb⟩:∃ b:Nat,outA out (atA next s w) x=b:=⟨(outA out (atA next s w) x).toNat,by omega⟩
        have hpc:=hc.part M hw hx (b:=b) (by omega) (h.db.el f hf).1
        have hr:outsA next out s (w ++ [(x:Int)])=outsA next out s w ++ [(b:Int)]:=by rw [outsA_snoc,hb]
        have hlen:=dvF_len (nr:=next.getD x []) (or:=out.getD x []) (o:=o) (S:=bitsTo f 10)
        have hbl:b<(dvF (next.getD x []) (out.getD x []) o (bitsTo f 10)).1.length:=by omega
        have hpm:(dvF (next.getD x []) (out.getD x []) o (bitsTo f 10)).1.getD b 0∈parF (next.getD x []) (out.getD x []) o D:=List.mem_flatMap.2 ⟨f,hf,yzn hbl 0⟩
        refine ⟨_,(hmem _).2 ⟨hpm,?_⟩,by rw [hr];exact hpc⟩
        have hwx:IsW next.length (w ++ [(x:Int)]):=fun y hy=>by
          rcases List.mem_append.1 hy with hy | hy
          · exact hw y hy
          · rw [List.mem_singleton.1 hy];omega
        have hs4:=M.aut.at ⟨by omega,hs⟩ hwx (s:=s)
        have ht4:=M.aut.at ⟨by omega,ht⟩ hwx (s:=t)
        refine two_bits_ns (Nat.lt_of_lt_of_le (hplt _ hpm) hN) (u:=(atA next s (w ++ [(x:Int)])).toNat) (v:=(atA next t (w ++ [(x:Int)])).toNat) ((hpc _).2 ⟨s,hs,hr,by omega⟩) ((hpc _).2 ⟨t,ht,by rw [← ho,hr],by omega⟩) (by omega)
      · obtain ⟨ho1,ho2⟩:=hstep s t hs htn ho
        have ha1:=h.inj ht s t hs htn hst ho1
        obtain ⟨f,hf,hcf⟩:=h.ex s t hs htn ho1 ha1
        have hcl:clrF (next.getD x []) (out.getD x []) o D=true:=by
          cases hcc:clrF (next.getD x []) (out.getD x []) o D with
          | true=>rfl
          | false=>exact absurd (by rw [ht,hcc];rfl) hc
        unfold clrF at hcl
        have hcf2:=(dvF_clr (nr:=next.getD x []) (or:=out.getD x []) (o:=o) (by omega) _ (bitsTo f 10) rfl (hS f hf)).1 (List.all_eq_true.1 hcl f hf)
        have hs3:=hat s hs
        have ht3:=hat t htn
        obtain ⟨k,hk⟩:∃ k:Nat,atA next s w=k:=⟨(atA next s w).toNat,by omega⟩
        obtain ⟨l,hl⟩:∃ k:Nat,atA next t w=k:=⟨(atA next t w).toNat,by omega⟩
        have hkb:=(hcf k).2 ⟨s,hs,rfl,hk⟩
        have hlb:=(hcf l).2 ⟨t,htn,ho1.symm,hl⟩
        have hkl:(k:Int)≠l:=by rw [← hk,← hl];exact ha1
        rw [hk,hl] at ho2
        rw [atA_snoc,atA_snoc,hk,hl] at ha
        unfold outA at ho2
        unfold stepA at ha
        have hpw:=pw_all (fun a b h hh=>h ⟨hh.1.symm,hh.2.symm⟩) hcf2
        refine hpw k (List.mem_map.2 ⟨k,hkb,rfl⟩) l (List.mem_map.2 ⟨l,hlb,rfl⟩) hkl ⟨?_,?_⟩
        · rw [Int.toNat_natCast] at ho2;rw [ho2]
        · rw [Int.toNat_natCast] at ha;rw [ha]
theorem DI.word (M:Mach n o next out) (hn:n > 1) {tl:Bool}:∀ (k:Nat) (w:List Int),w.length=k→IsW next.length w →
    match goG (dbtD next out o tl) [2 ^ n.toNat - 1] w with
    | some D=>DI next out n tl w D
    | none=>tl=true∧∃ s t:Nat,(s:Int)<n∧(t:Int)<n∧s≠t∧outsA next out s w=outsA next out t w∧atA next s w=atA next t w
  | 0,w,hk,_=>by
    obtain rfl:=List.eq_nil_of_length_eq_zero hk
    exact DI0 M.aut.n1 M.aut.n2 hn
  | k+1,w,hk,hw=>by
    have hne:w≠[]:=fun e=>by rw [e] at hk;simp at hk
    have e:=List.dropLast_concat_getLast hne
    have hwd:IsW next.length w.dropLast:=fun y hy=>hw y (List.dropLast_subset w hy)
    have ih:=DI.word M hn (tl:=tl) k w.dropLast (by rw [List.length_dropLast];omega) hwd
    have hx:=hw _ (List.getLast_mem hne)
    obtain ⟨x,hxe⟩:∃ x:Nat,w.getLast hne=x:=⟨(w.getLast hne).toNat,by omega⟩
    rw [hxe] at e hx
    rw [← e]
    generalize w.dropLast=u at ih hwd e
    rw [goG_snoc,Int.toNat_natCast]
    cases hg:goG (dbtD next out o tl) [2 ^ n.toNat - 1] u with
    | none =>
      rw [hg] at ih
      simp only [Option.bind_none]
      obtain ⟨h1,s,t,h2,h3,h4,h5,h6⟩:=ih
      exact ⟨h1,s,t,h2,h3,h4,by rw [outsA_snoc,outsA_snoc,h5,h6],by rw [atA_snoc,atA_snoc,h6]⟩
    | some D =>
      rw [hg] at ih
      simp only [Option.bind_some]
      exact ih.goes M hwd (by omega)
end
end Go.Ab
namespace Go.Ab
theorem DB.mono {n m:Nat} {q:List Nat} (h:DB n q) (hm:n≤m):DB m q :=
  ⟨h.lt,fun f hf=>⟨Nat.lt_of_lt_of_le (h.el f hf).1 (Nat.pow_le_pow_right (by omega) hm),(h.el f hf).2⟩,by have:=h.sm;omega⟩
section
variable {n o:Int} {next out:List (List Int)}
def LenI {σ:Type} (d:σ×List Int) (L:List (σ×List Int)):Prop:=∀ k,k<L.length→(L.getD k d).2.length≤k
theorem LenI.vis {σ:Type} [DecidableEq σ] {δ:σ→Nat→Option σ} {d:σ×List Int} {p:σ} {w:List Int} {L:List (σ×List Int)} (h:LenI d L) (hw:w.length<L.length):∀ x,LenI d (visG δ p w x L)
  | 0=>h
  | x+1=>by
    have ih:=LenI.vis (δ:=δ) (p:=p) h hw x
    obtain ⟨t,ht⟩:=visG_pre (δ:=δ) (p:=p) (w:=w) x L
    simp only [visG]
    cases δ p x with
    | none=>exact ih
    | some q =>
      simp only
      split
      · exact ih
      · intro k hk
        rw [List.length_append,List.length_singleton] at hk
        by_cases e:k<(visG δ p w x L).length
        · rw [appG_getD e];exact ih k e
        · obtain rfl:k=(visG δ p w x L).length:=by omega
          rw [lastG_getD,List.length_append,List.length_singleton,ht,List.length_append];omega
theorem LenI.run {σ:Type} [DecidableEq σ] {δ:σ→Nat→Option σ} {d:σ×List Int} {m:Nat}:∀ (F i:Nat) (L:List (σ×List Int)),LenI d L→LenI d (runG δ m d F i L)
  | 0,_,_,h=>h
  | F+1,i,L,h=>by
    simp only [runG]
    split
    · rename_i hi
      exact LenI.run F (i+1) _ (h.vis (by have:=h i hi;omega) m)
    · exact h
end
end Go.Ab
namespace Go.Ab
open Go.Proofs
end Go.Ab
namespace Go.Ab
section
variable {n o:Int} {next out:List (List Int)}
end
end Go.Ab
namespace Go.Ab
theorem Iso.at {n:Int} {na nb:List (List Int)} (B:Aut n nb) {ph:List Int} (I:Iso na nb ph) (hl:na.length=nb.length) (hn:ph.length=n.toNat):∀ {w:List Int} {k:Nat},k<ph.length→IsW na.length w→ph.getD (atA nb k w).toNat 0=atA na (ph.getD k 0) w
  | [],k,_,_=>by simp [atA]
  | x :: w,k,hk,hw=>by
    have hx:=hw x (by simp)
    obtain ⟨e1,e2⟩:=I.ed k hk x.toNat (by omega)
    rw [show ((x.toNat:Nat):Int)=x by omega] at e1 e2
    have hs:=stepA_nn B (k:Int) x
    have:=Iso.at B I hl hn (w:=w) e1 fun y hy=>hw y (by simp [hy])
    rw [show (((stepA nb k x).toNat:Nat):Int)=stepA nb k x by omega,e2] at this
    exact this
end Go.Ab
namespace Go.Ab
open Go.Proofs
end Go.Ab
namespace Go.Ab
open Go.Proofs
end Go.Ab
namespace Go.Ab
open Go.Proofs
end Go.Ab
namespace Go.Ab
open Go.Proofs
end Go.Ab
namespace Go.Ab
open Go.Proofs
theorem wpD_kpto {P:Program} {ts hs:List Nat} {a:AC} {Q:AEx→St→Prop} {σ σ':St} (h':wpD P (.kp ts hs (.dn a)) Q σ') (h:σ.kd ts hs=σ'.kd ts hs):wpD P (.kp ts hs (.dn a)) Q σ:=by
  show wpD P a Q ((σ.keep ts hs).dn)
  rw [kd_eq,h,← kd_eq];exact h'
end Go.Ab
namespace Go.Ab
open Go.Proofs
theorem bitsN_SI {f:Nat}:SI (bitsTo f 10):=by
  rw [bitsTo_eq]
  unfold SI
  rw [List.pairwise_map]
  unfold bitsN
  exact (List.Pairwise.filter _ List.pairwise_lt_range).imp fun h=>by omega
theorem or_bits:∀ (set:List Int) (o t:Nat),(set.foldl (fun o s=>o ||| 2 ^ s.toNat) o).testBit t=(o.testBit t || set.any fun s=>s.toNat == t)
  | [],o,t=>by simp
  | s :: set,o,t=>by
    rw [List.foldl_cons,or_bits set,Nat.testBit_or,Nat.testBit_two_pow,List.any_cons,Bool.or_assoc]
    congr 1
theorem mask_bits {f:Nat} (hf:f<1024):maskN (bitsTo f 10)=f:=by
  apply Nat.eq_of_testBit_eq
  intro t
  unfold maskN
  rw [or_bits,Nat.zero_testBit,Bool.false_or,Bool.eq_iff_iff,List.any_eq_true]
  constructor
  · rintro ⟨s,h1,h2⟩
    have h3:=mem_bitsTo.1 h1
    have:s.toNat=t:=by simpa using h2
    rw [← this];exact h3.2.2
  · intro h
    have ht:t<10:=by
      rcases Nat.lt_or_ge t 10 with g | g
      · exact g
      · have:=Nat.testBit_lt_two_pow (x:=f) (i:=t) (Nat.lt_of_lt_of_le hf (show 2 ^ 10≤2 ^ t from Nat.pow_le_pow_right (by omega) g))
        rw [this] at h;cases h
    exact ⟨(t:Int),mem_bitsTo.2 ⟨by omega,by omega,by simpa using h⟩,by simp⟩
theorem img_bits {n:Int} {next:List (List Int)} (A:Aut n next) {w:List Int} (hw:IsW next.length w):nrm ((allS n).map fun s=>atA next s w)=bitsTo (imN next (2 ^ n.toNat - 1) w) 10:=by
  have n1:=A.n1
  have n2:=A.n2
  have hp:=Nat.two_pow_pos n.toNat
  obtain ⟨h1,h2⟩:=imN_bit A w (f:=2 ^ n.toNat - 1) (by omega) hw
  refine SI_ext (nrm_SI _) bitsN_SI fun x=>?_
  rw [nrm_mem,List.mem_map,bitsTo_eq,List.mem_map]
  constructor
  · rintro ⟨s,hs,rfl⟩
    have hs:=allS_in s hs
    have hs2:=A.at (w:=w) hs hw
    refine ⟨(atA next s w).toNat,(h2 _).2 ⟨s.toNat,(all_bits ⟨n1,n2⟩).2 (by omega),by rw [show ((s.toNat:Nat):Int)=s by omega];omega⟩,by omega⟩
  · rintro ⟨t,ht,rfl⟩
    obtain ⟨s,hs,e⟩:=(h2 t).1 ht
    have b:=(all_bits ⟨n1,n2⟩).1 hs
    refine ⟨(s:Int),?_,e⟩
    unfold allS
    exact List.mem_map.2 ⟨s,List.mem_range.2 (by omega),rfl⟩
theorem set_word {n:Int} {next:List (List Int)} (A:Aut n next) {w:List Int} (hw:IsW next.length w) :
    ∃ q,((tourT next (2 ^ n.toNat - 1)).find? fun q=>q.1 == imN next (2 ^ n.toNat - 1) w)=some q∧IsW next.length q.2∧imN next (2 ^ n.toNat - 1) q.2=imN next (2 ^ n.toNat - 1) w∧q.2.length≤w.length:=by
  have n1:=A.n1
  have n2:=A.n2
  have hp:=Nat.two_pow_pos n.toNat
  have hF:2 ^ n.toNat - 1<2 ^ n.toNat:=by omega
  have hT:TI n.toNat next.length (tourT next (2 ^ n.toNat - 1)):=(runT_ok A 1100 0 _ (TI0 (m:=next.length) hF)).1
  obtain ⟨j,hj,h1,h2⟩:=tour_le A hF w.length w rfl hw
  have hS:=two_snd (next:=next) (f:=2 ^ n.toNat - 1)
  cases hf:(tourT next (2 ^ n.toNat - 1)).find? fun q=>q.1 == imN next (2 ^ n.toNat - 1) w with
  | none =>
    have:=List.find?_eq_none.1 hf _ (yzn hj (0,[]))
    rw [h1] at this;simp at this
  | some q =>
    have hq1:q.1=imN next (2 ^ n.toNat - 1) w:=by have:=List.find?_some hf;simpa using this
    have hqm:=List.mem_of_find?_eq_some hf
    obtain ⟨i,hi,hg⟩:=List.getElem_of_mem hqm
    have hij:i=j:=by
      have hp:=List.pairwise_iff_getElem.1 hT.nd
      have ei:(tourT next (2 ^ n.toNat - 1)).getD i (0,[])=q:=by rw [List.getD_eq_getElem?_getD,List.getElem?_eq_getElem hi];exact hg
      have ej:(tourT next (2 ^ n.toNat - 1))[j]=(tourT next (2 ^ n.toNat - 1)).getD j (0,[]):=by rw [List.getD_eq_getElem?_getD,List.getElem?_eq_getElem hj];rfl
      rcases Nat.lt_trichotomy i j with h | h | h
      · have:=hp i j (by simpa using hi) (by simpa using hj) h
        rw [List.getElem_map,List.getElem_map,hg,ej,h1] at this
        exact absurd hq1 this
      · exact h
      · have:=hp j i (by simpa using hj) (by simpa using hi) h
        rw [List.getElem_map,List.getElem_map,hg,ej,h1] at this
        exact absurd hq1.symm this
    subst hij
    have eq2:(tourT next (2 ^ n.toNat - 1)).getD i (0,[])=q:=by rw [List.getD_eq_getElem?_getD,List.getElem?_eq_getElem hi];exact hg
    unfold lenT at h2
    rw [eq2] at h2
    refine ⟨q,rfl,(hT.wd q hqm).1,?_,h2⟩
    rw [← hS q hqm,hq1]
theorem k_FnReachedSets (code more:List Int) (hb:∀ x∈code,0≤x∧x≤255) (hb2:∀ x∈more,0≤x∧x≤255) :
    Fun Tryz.prog nz6u [.ro (some (some 0)) 1 (intsK .u8 code),.ro (some (some 0)) 1 (intsK .u8 more)] (bv true):=by
  refine fun_of mixed czfy rfl ⟨rfl,trivial⟩ ?_
  simp only [Az7d,Bz7c,go_sem,yz0,xx9,xx8,xx6,xx7,xx5,xx0,xx1,xx2,reduceIte,xx3,xx4,reduceCtorEq]
  intro vs
  refine yzx (k_a2Long code more) qCS trivial ?_
  simp only [Bz6v,Bz7b,go_sem,yz0,xx9,xx8,xx6,xx7,xx5,xx0,xx1,xx2,reduceIte,xx3,xx4,reduceCtorEq]
  intro _ vs2
  refine call_sh (k_A2Automaton code hb) qCS (fun e=>by cases e) ?_
  rintro outs rows res ⟨rfl,n,next,v,A,n7,rfl,rfl⟩
  refine ⟨rfl,by simp,by rw [Option.getD_some,yzm];simp only [go_sem,yz0,xx9,xx8,xx6,xx7,xx5,xx0,xx1,xx2,reduceIte,xx3,xx4,reduceCtorEq],?_⟩
  have n1:=A.n1
  have n2:=A.n2
  have hp:=Nat.two_pow_pos n.toNat
  have hM:=maxLen_le
  simp only [Bz7a,wpD_gh,Nat.not_lt_zero,range1,yzy,yz12,ren_ro,rnNm_n,yz13,rnNm_o,rnNm_s,ren_st,yz10,yzr,yzf,yz4,yzw,yzt,yzo,yzp,yzv,yz9,yz8,yze,yzd,yzj,yzi,yz3,yz7,yzc,yza,yzk,yzl,List.range_zero,yz5,yz6,yzb,yzu,yzm,yzq,AVal.fresh,freshL,yz2,yzh,AObj.fresh,id,Option.isSome_some,or_true,true_or,go_sem,yz0,xx9,xx8,xx6,xx7,xx5,xx0,xx1,xx2,reduceIte,xx3,xx4,reduceCtorEq]
  intro _
  refine ⟨[.fb 5 1 25],gwp_fb rfl rfl (by simp) rfl ?_⟩
  simp only [gwp_nil,List.set_cons_zero,List.set_cons_succ,go_sem,yz0,xx9,xx8,xx6,xx7,xx5,xx0,xx1,xx2,reduceIte,xx3,xx4,reduceCtorEq]
  intro vs3
  refine call_rowI (k_A2Word more n next hb2 A.l1) qCS qWS ⟨[],by simp [IsW8]⟩ ?_
  rintro w vw ⟨hw8,hw⟩
  have hw:IsW next.length w:=hw
  simp only [Bz79,dnL_rws,dnL_rwn,Nat.not_lt_zero,range1,yzy,yz12,ren_ro,rnNm_n,yz13,rnNm_o,rnNm_s,ren_st,yz10,yzr,yzf,yz4,yzw,yzt,yzo,yzp,yzv,yz9,yz8,yze,yzd,yzj,yzi,yz3,yz7,yzc,yza,yzk,yzl,List.range_zero,yz5,yz6,yzb,yzu,yzm,yzq,AVal.fresh,freshL,yz2,yzh,AObj.fresh,id,Option.isSome_some,or_true,true_or,go_sem,yz0,xx9,xx8,xx6,xx7,xx5,xx0,xx1,xx2,reduceIte,xx3,xx4,reduceCtorEq]
  intro vs4
  have hRS:=k_ReachedSets n next A
  refine call_sh hRS qCS (fun e=>by cases e) ?_
  rintro outs rows res ⟨rfl,vr,yss,hpm,hps,rfl,rfl⟩
  refine ⟨rfl,by simp,by rw [Option.getD_some,yzm];simp only [go_sem,yz0,xx9,xx8,xx6,xx7,xx5,xx0,xx1,xx2,reduceIte,xx3,xx4,reduceCtorEq],?_⟩
  simp only [Bz78,dnL_rws,dnL_rwn,Nat.not_lt_zero,range1,yzy,yz12,ren_ro,rnNm_n,yz13,rnNm_o,rnNm_s,ren_st,yz10,yzr,yzf,yz4,yzw,yzt,yzo,yzp,yzv,yz9,yz8,yze,yzd,yzj,yzi,yz3,yz7,yzc,yza,yzk,yzl,List.range_zero,yz5,yz6,yzb,yzu,yzm,yzq,AVal.fresh,freshL,yz2,yzh,AObj.fresh,id,Option.isSome_some,or_true,true_or,go_sem,yz0,xx9,xx8,xx6,xx7,xx5,xx0,xx1,xx2,reduceIte,xx3,xx4,reduceCtorEq]
  intro vs5
  refine call_rowI (k_a2All n (by omega)) qCS qGN ⟨_,rfl⟩ ?_
  rintro ys38 v38 rfl
  have hSB:setB n (allS n)=true:=setB_iff.2 ⟨allS_SI n,fun x hx=>allS_in x hx⟩
  have hWB:∀ u:List Int,u.length≤400→IsW next.length u→wordB next.length u=true:=fun u h1 h2=>wordB_iff.2 ⟨by omega,h2⟩
  have hI:∀ u:List Int,u.length≤400→IsW next.length u→RowT Tryz.prog nzd [autA n next,.ro none 1 (ints (allS n)),.ro none 1 (ints u)] true (bitsTo (imN next (2 ^ n.toNat - 1) u) 10) 0:=fun u h1 h2=>by
    have h:=k_ImageOf n next (allS n) u
    rw [autB_iff.2 A,hSB,hWB u h1 h2,img_bits A h2] at h
    exact h
  simp only [go_sem,yz0,xx9,xx8,xx6,xx7,xx5,xx0,xx1,xx2,reduceIte,xx3,xx4,reduceCtorEq]
  refine call_rowT (hI w (by omega) hw) qCS qGN (fun _ v40=>?_) (fun e=>by cases e)
  have hN:2 ^ n.toNat≤128:=Nat.pow_le_pow_right (n:=2) (by omega) (show n.toNat≤7 by omega)
  have hbt:=imN_bit A w (f:=2 ^ n.toNat - 1) (by omega) hw
  generalize himg:bitsTo (imN next (2 ^ n.toNat - 1) w) 10=img
  simp only [Bz77,dnL_rws,dnL_rwn,Nat.not_lt_zero,range1,yzy,yz12,ren_ro,rnNm_n,yz13,rnNm_o,rnNm_s,ren_st,yz10,yzr,yzf,yz4,yzw,yzt,yzo,yzp,yzv,yz9,yz8,yze,yzd,yzj,yzi,yz3,yz7,yzc,yza,yzk,yzl,List.range_zero,yz5,yz6,yzb,yzu,yzm,yzq,AVal.fresh,freshL,yz2,yzh,AObj.fresh,id,Option.isSome_some,or_true,true_or,go_sem,yz0,xx9,xx8,xx6,xx7,xx5,xx0,xx1,xx2,reduceIte,xx3,xx4,reduceCtorEq]
  intro vs6
  refine call_fun2 (k_IsFullyReached n next A (by omega)) qCS ?_
  obtain ⟨q,hq1,hq2,hq3,hq4⟩:=set_word A hw
  have hT:TI n.toNat next.length (tourT next (2 ^ n.toNat - 1)):=(runT_ok A 1100 0 _ (TI0 (m:=next.length) (show 2 ^ n.toNat - 1<2 ^ n.toNat by omega))).1
  have hTl:=hT.len
  have hyl:yss.length=(setsT next n).length:=hpm.length_eq
  have hyl2:yss.length≤128:=by unfold setsT at hyl;rw [List.length_map] at hyl;omega
  have himem:img∈yss:=by
    rw [hpm.mem_iff,← himg]
    unfold setsT
    have hqm:=List.mem_of_find?_eq_some hq1
    have:q.1=imN next (2 ^ n.toNat - 1) w:=by have:=List.find?_some hq1;simpa using this
    rw [← this]
    exact List.mem_map_of_mem (f:=fun p:Nat×List Int=>bitsTo p.1 10) hqm
  have hy1:0<yss.length:=List.length_pos_of_mem himem
  have e00:((0:Int) != 0)=false:=rfl
  have ez:((0:Int) == 0)=true:=rfl
  have hl1:decide ((yss.length:Int)<1)=false:=by rw [decide_eq_false_iff_not];omega
  have hmin:min n.toNat 64=n.toNat:=by omega
  have hwu:IntKind.u64.wrap n=n:=by
    have:=u64w (n:=n.toNat) (by omega)
    rwa [show ((n.toNat:Nat):Int)=n by omega] at this
  have e2:((2:Int) ^ n.toNat)=((2 ^ n.toNat:Nat):Int):=by simp
  have hsh:IntKind.i64.wrap (1 * 2 ^ n.toNat)=2 ^ n.toNat:=by
    rw [Int.one_mul,e2];exact w64 (by omega)
  have hsu:IntKind.i64.wrap ((2:Int) ^ n.toNat - 1)=2 ^ n.toNat - 1:=by
    rw [e2];exact w64 (by omega)
  have hng:¬ n<0:=by omega
  simp only [Bz76,codeI,e00,hl1,dnL_rws,dnL_rwn,Nat.not_lt_zero,range1,yzy,yz12,ren_ro,rnNm_n,yz13,rnNm_o,rnNm_s,ren_st,yz10,yzr,yzf,yz4,yzw,yzt,yzo,yzp,yzv,yz9,yz8,yze,yzd,yzj,yzi,yz3,yz7,yzc,yza,yzk,yzl,List.range_zero,yz5,yz6,yzb,yzu,yzm,yzq,AVal.fresh,freshL,yz2,yzh,AObj.fresh,id,Option.isSome_some,or_true,true_or,go_sem,yz0,xx9,xx8,xx6,xx7,xx5,xx0,xx1,xx2,reduceIte,xx3,xx4,reduceCtorEq]
  intro vs7 hM1
  refine yzx (k_a2HasList yss img) qCS trivial ?_
  have hd1:decide (img∈yss)=true:=decide_eq_true himem
  have hfull:((yss.length:Int) == 2 ^ n.toNat - 1)=(((setsT next n).length:Int) == 2 ^ n.toNat - 1):=by rw [hyl]
  simp only [hd1,hwu,hmin,hsh,hsu,hng,if_false,hfull,Bool.not_true,bne_self_eq_false,beq_self_eq_true,dnL_rws,dnL_rwn,go_sem,yz0,xx9,xx8,xx6,xx7,xx5,xx0,xx1,xx2,reduceIte,xx3,xx4,reduceCtorEq]
  have tail:wpD Tryz.prog Bz41 (finQ fun σ=>σ.tm 4=bv true) ⟨L .any [(1,.ro (some (some 0)) 1 (intsK .u8 more)),(5,.ptr 5 (vs2 2 0) 0),(6,.own 28 vw),(7,.own 31 (vs4 1 vr)),(9,.own 40 v40)],
      L .gone [(5,.box (vs2 2 0) [iv n,.ro (some none) 1 (rws next)]),(28,.row vw 1 true (ints w)),(31,.row (vs4 1 vr) 1 true (rwn yss)),(40,.row v40 1 true (ints img))]⟩:=by
    simp only [Bz41,dnL_rws,dnL_rwn,go_sem,yz0,xx9,xx8,xx6,xx7,xx5,xx0,xx1,xx2,reduceIte,xx3,xx4,reduceCtorEq]
    intro vs8 _
    refine call_funE (k_a2At more 0 yss.length hb2 (by omega)) qCS ⟨_,0,rfl,by omega,.inr rfl⟩ ?_
    rintro _ ⟨b,rfl,b1,b2⟩
    have hbl:b.toNat<yss.length:=by omega
    simp only [rwn_getD hbl,dnL_rws,dnL_rwn,go_sem,yz0,xx9,xx8,xx6,xx7,xx5,xx0,xx1,xx2,reduceIte,xx3,xx4,reduceCtorEq]
    refine ⟨⟨b1,hbl⟩,hbl,?_⟩
    have hset:=yzn hbl ([]:List Int)
    rw [hpm.mem_iff] at hset
    unfold setsT at hset
    obtain ⟨p,hpT,hps1⟩:=List.mem_map.1 hset
    have hps1:bitsTo p.1 10=yss.getD b.toNat []:=hps1
    generalize yss.getD b.toNat []=set at hps1 ⊢
    have hpl:=hT.rg p hpT
    have hpw:=(hT.wd p hpT)
    have hpS:=two_snd (next:=next) (f:=2 ^ n.toNat - 1) p hpT
    obtain ⟨q2,g1,g2,g3,g4⟩:=set_word A (w:=p.2) hpw.1
    have hq2l:q2.2.length≤400:=by have:=hpw.2;omega
    have hset2:bitsTo (imN next (2 ^ n.toNat - 1) q2.2) 10=set:=by rw [g3,← hpS];exact hps1
    have hmask:maskN set=imN next (2 ^ n.toNat - 1) p.2:=by rw [← hps1,mask_bits (by omega),hpS]
    have hlo:∀ (f:Nat),f<2 ^ n.toNat→setB n (bitsTo f 10)=true:=fun f hf=>setB_iff.2 ⟨bitsN_SI,fun x hx=>by
      have h3:=mem_bitsTo.1 hx
      refine ⟨h3.1,?_⟩
      rcases Int.lt_or_le x n with g | g
      · exact g
      · have:=Nat.testBit_lt_two_pow (x:=f) (i:=x.toNat) (Nat.lt_of_lt_of_le hf (Nat.pow_le_pow_right (by omega) (by omega)))
        rw [this] at h3;simp at h3⟩
    have hSW:=k_SetWord n next A set (by rw [← hps1];exact hlo _ hpl)
    rw [hmask,g1] at hSW
    have himask:maskN img=imN next (2 ^ n.toNat - 1) w:=by rw [← himg,mask_bits (by omega)]
    have hSW2:=k_SetWord n next A img (by rw [← himg];exact hlo _ hbt.1)
    rw [himask,hq1] at hSW2
    simp only [Bz74,dnL_rws,dnL_rwn,go_sem,yz0,xx9,xx8,xx6,xx7,xx5,xx0,xx1,xx2,reduceIte,xx3,xx4,reduceCtorEq]
    intro vs9
    refine call_sh hSW qCS (fun e=>by cases e) ?_
    rintro outs rows res ⟨rfl,rfl,rfl⟩
    refine ⟨rfl,by simp,by simp,?_⟩
    simp only [findR,Bz73,dnL_rws,dnL_rwn,Nat.not_lt_zero,range1,yzy,yz12,ren_ro,rnNm_n,yz13,rnNm_o,rnNm_s,ren_st,yz10,yzr,yzf,yz4,yzw,yzt,yzo,yzp,yzv,yz9,yz8,yze,yzd,yzj,yzi,yz3,yz7,yzc,yza,yzk,yzl,List.range_zero,yz5,yz6,yzb,yzu,yzm,yzq,AVal.fresh,freshL,yz2,yzh,AObj.fresh,id,Option.isSome_some,or_true,true_or,go_sem,yz0,xx9,xx8,xx6,xx7,xx5,xx0,xx1,xx2,reduceIte,xx3,xx4,reduceCtorEq]
    intro vs10
    refine call_rowI (k_a2All n (by omega)) qCS qGN ⟨_,rfl⟩ ?_
    rintro ys116 v116 rfl
    simp only [go_sem,yz0,xx9,xx8,xx6,xx7,xx5,xx0,xx1,xx2,reduceIte,xx3,xx4,reduceCtorEq]
    refine call_rowT (hI q2.2 hq2l g2) qCS qGN (fun _ v118=>?_) (fun e=>by cases e)
    rw [hset2]
    simp only [Bz72,wpD_gh,dnL_rws,dnL_rwn,Nat.not_lt_zero,range1,yzy,yz12,ren_ro,rnNm_n,yz13,rnNm_o,rnNm_s,ren_st,yz10,yzr,yzf,yz4,yzw,yzt,yzo,yzp,yzv,yz9,yz8,yze,yzd,yzj,yzi,yz3,yz7,yzc,yza,yzk,yzl,List.range_zero,yz5,yz6,yzb,yzu,yzm,yzq,AVal.fresh,freshL,yz2,yzh,AObj.fresh,id,Option.isSome_some,or_true,true_or,go_sem,yz0,xx9,xx8,xx6,xx7,xx5,xx0,xx1,xx2,reduceIte,xx3,xx4,reduceCtorEq]
    intro _
    refine ⟨[.tf 9 40],gwp_tf rfl rfl ?_⟩
    simp only [gwp_nil,dnL_rws,dnL_rwn,go_sem,yz0,xx9,xx8,xx6,xx7,xx5,xx0,xx1,xx2,reduceIte,xx3,xx4,reduceCtorEq]
    intro vs11
    refine call_sh hSW2 qCS (fun e=>by cases e) ?_
    rintro outs rows res ⟨rfl,rfl,rfl⟩
    refine ⟨rfl,by simp,by simp,?_⟩
    have hle:decide ((q.2.length:Int)≤w.length)=true:=by rw [decide_eq_true_eq];omega
    simp only [findR,Bz71,ez,dnL_rws,dnL_rwn,Nat.not_lt_zero,range1,yzy,yz12,ren_ro,rnNm_n,yz13,rnNm_o,rnNm_s,ren_st,yz10,yzr,yzf,yz4,yzw,yzt,yzo,yzp,yzv,yz9,yz8,yze,yzd,yzj,yzi,yz3,yz7,yzc,yza,yzk,yzl,List.range_zero,yz5,yz6,yzb,yzu,yzm,yzq,AVal.fresh,freshL,yz2,yzh,AObj.fresh,id,Option.isSome_some,or_true,true_or,go_sem,yz0,xx9,xx8,xx6,xx7,xx5,xx0,xx1,xx2,reduceIte,xx3,xx4,reduceCtorEq]
    intro vs12
    refine yzx (k_a2Same set set) qCS trivial ?_
    simp only [decide_true,hle,dnL_rws,dnL_rwn,go_sem,yz0,xx9,xx8,xx6,xx7,xx5,xx0,xx1,xx2,reduceIte,xx3,xx4,reduceCtorEq]
  simp only [Bz6w,Bz75,Bz70,dnL_rws,dnL_rwn,go_sem,yz0,xx9,xx8,xx6,xx7,xx5,xx0,xx1,xx2,reduceIte,xx3,xx4,reduceCtorEq]
  intro _
  refine wpD_lo (fun i=>yss.length - i) (fun i=>1≤i∧i≤yss.length)
    (fun i:Nat=>⟨L .any [(1,.ro (some (some 0)) 1 (intsK .u8 more)),(5,.ptr 5 (vs2 2 0) 0),(6,.own 28 vw),(7,.own 31 (vs4 1 vr)),(9,.own 40 v40),(13,iv i)],
      L .gone [(5,.box (vs2 2 0) [iv n,.ro (some none) 1 (rws next)]),(28,.row vw 1 true (ints w)),(31,.row (vs4 1 vr) 1 true (rwn yss)),(40,.row v40 1 true (ints img))]⟩)
    1 ⟨Nat.le_refl _,hy1⟩ (by simp only [Bz1k,dnL_rws,dnL_rwn,go_sem,yz0,xx9,xx8,xx6,xx7,xx5,xx0,xx1,xx2,reduceIte,xx3,xx4,reduceCtorEq];try rfl) ?_
  rintro i ⟨i1,i2⟩
  by_cases hlt:(i:Int)<yss.length
  · have hlt1:i<yss.length:=by omega
    have hlt0:i - 1<yss.length:=by omega
    have wi:IntKind.i64.wrap ((i:Int)+1)=((i+1:Nat):Int):=by rw [w64 (by omega)];simp
    have wd:IntKind.i64.wrap ((i:Int) - 1)=((i - 1:Nat):Int):=by rw [w64 (by omega)];omega
    have hle:(yss.getD i []).length≤(yss.getD (i - 1) []).length:=by
      have:=List.pairwise_iff_getElem.1 hps (i - 1) i hlt0 hlt1 (by omega)
      rw [List.getD_eq_getElem?_getD,List.getElem?_eq_getElem hlt1,List.getD_eq_getElem?_getD,List.getElem?_eq_getElem hlt0]
      rw [cfR_neg] at this
      simp only [Option.getD_some]
      omega
    have hdl:decide (((yss.getD i []).length:Int) > (yss.getD (i - 1) []).length)=false:=by rw [decide_eq_false_iff_not];omega
    simp only [Bz1k,Bz40,Bz6z,Bz6x,Bz6y,rwn_getD hlt1,rwn_getD hlt0,wd,wi,hdl,decide_eq_true hlt,dnL_rws,dnL_rwn,go_sem,yz0,xx9,xx8,xx6,xx7,xx5,xx0,xx1,xx2,reduceIte,xx3,xx4,reduceCtorEq]
    intro _
    exact ⟨⟨by omega,hlt1⟩,hlt1,⟨by omega,hlt0⟩,hlt0,i+1,by omega,⟨by omega,by omega⟩,rfl⟩
  · simp only [Bz1k,Bz40,decide_eq_false hlt,dnL_rws,dnL_rwn,go_sem,yz0,xx9,xx8,xx6,xx7,xx5,xx0,xx1,xx2,reduceIte,xx3,xx4,reduceCtorEq]
    intro _
    exact wpD_kpto tail (by first | rfl | simp only [dnL_rws,dnL_rwn,go_sem,yz0,xx9,xx8,xx6,xx7,xx5,xx0,xx1,xx2,reduceIte,xx3,xx4,reduceCtorEq])
end Go.Ab
