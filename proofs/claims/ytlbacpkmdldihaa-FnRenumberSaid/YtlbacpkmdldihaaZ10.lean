/- Contracts and what they lean on, part 10. Conditions: none. -/
import Derived.Tactics
import Derived.Tactics2
import Derived.Laws.CopyOwn
import Derived.Deep.RegionLaw
import Derived.Test.YtlbacpkmdldihaaZ9
set_option maxRecDepth 100000
set_option maxHeartbeats 4000000
set_option linter.all false
open Nat renaming reduceLeDiff → xx0, reduceMul → xx1, reduceSub → xx2, reduceEqDiff → xx3, reduceAdd → xx4, reduceLT → xx5
open Int renaming reduceToNat → xx6, reduceNeg → xx7, reduceLE → xx8, reduceLT → xx9
namespace Go.Ab
open Go.Proofs
abbrev LoR (code:List Int) (at_ k:Int) (outs rows:List AObj) (res:AVal):Prop :=
  ∃ n ps v a' s',(ps.length≤3→DJ ps)∧ps.length≤10∧-1≤n∧n≤11∧(∀ p∈ps,p.2.length≤10)∧at_≤a'∧a'≤at_+k∧outs=[.box 0 (srcC code a' s')]∧rows=[.row v 1 true (rwp ps)]∧res=.st [iv n,.own 6000 v]
theorem call_boxrowN {P:Program} {nos:List Nat} {σ:St} {g:FuncId} {As args:List AVal} {d:Nat} {s:Nat→Nat} {K:St→Prop} {r q v u:Nat} {cs cs0:List AVal} {xs:List Int} {Q:List AVal→Value→Prop}
    (h:Con P g [.box 0 cs,.row 1 1 true (ints xs)] args true fun outs rows res=>∃ cs' x,Q cs' x∧flatL cs'∧outs=[.box 0 cs',.row 1 1 true (ints xs)]∧rows=[]∧res=.val x)
    (hr:σ.hp r=.box v cs0) (hq:σ.hp q=.row u 1 true (ints xs)) (hm:r∈nos∧q∈nos) (hne:[r,q].Nodup) (hcs:CoeL σ.hp [r,q] false cs cs0) (ha:CoeL σ.hp [r,q] false args As) (hex:∃ cs' x,Q cs' x∧flatL cs')
    (hk:∀ cs' x,Q cs' x→K (St.put ⟨σ.tm,upd (upd σ.hp r (.box v cs')) q (.row u 1 true (ints xs))⟩ (some d) (.val x))):wpCallN P nos σ g As (some d) s K:=by
  refine ⟨[r,q],_,_,true,_,h,⟨by simp,rfl,hne,?_,?_⟩,ha,⟨by simp [hm.1,hm.2],?_⟩,?_⟩
  · intro x hx
    simp only [List.mem_cons,List.not_mem_nil,or_false] at hx
    rcases hx with rfl | rfl
    · simp [hr]
    · simp [hq]
  · intro j B r' hB hr'
    match j,hB,hr' with
    | 0,hB,hr' =>
      simp at hB hr';subst hB;subst hr'
      rw [hr]
      exact ⟨rfl,v,cs0,rfl,hcs⟩
    | 1,hB,hr' =>
      simp at hB hr';subst hB;subst hr'
      simp only [ObjCoe,hq]
      exact ⟨trivial,u,_,rfl,coeL_ints⟩
    | j+2,hB,hr'=>simp at hB
  · obtain ⟨cs',x,hq,hf⟩:=hex
    exact ⟨_,_,_,cs',x,hq,hf,rfl,rfl,rfl⟩
  · rintro outs rows res ⟨cs',x,hQ,hf,rfl,rfl,rfl⟩
    refine ⟨rfl,rfl,?_⟩
    have s0:sv σ.hp [r,q] s 0=v:=by simp [sv,hr,AObj.ver]
    have s1:sv σ.hp [r,q] s 1=u:=by simp [sv,hq,AObj.ver]
    rw [Option.getD_some,callHp_h2 hne]
    simp only [yzo,yzp,renL_flat cs' hf,yz3,yzx,s0,s1]
    exact hk cs' x hQ
theorem k_l01Bent (code:List Int) (at_ seed:Int) (hb:∀ x∈code,0≤x∧x≤255) (ha:0≤at_∧at_≤100000) :
    Con Try.prog nz3m [.box 0 (srcC code at_ seed)] [.ptr 5000 0 0] true (LoR code at_ 3000):=by
  refine con_shE mixed czia rfl (by simp) ?_
  generalize hQ:finQ _=Q
  have h12:∀ (σ:St) (v2 v3:Nat) (r v:Nat) (o6 o10 o61 o73 o77:AObj) (a s n:Int) (ps:List (Nat×List Int)),
      (ps.length≤3→DJ ps)→ps.length≤10→-1≤n∧n≤11→(∀ p∈ps,p.2.length≤10)→at_≤a∧a≤at_+3000 →
      (r=6∧o6=.row v 1 true (rwp ps)∨r=10∧o10=.row v 1 true (rwp ps)∨r=77∧o77=.row v 1 true (rwp ps)) →
      σ.keep [2,3] [2,3,6,10,61,73,77,5000,901]=⟨L .any [(2,.ptr 2 v2 0),(3,.ptr 3 v3 0)],
        L .gone [(2,.box v2 [iv 0,.val (.slice none 0 0)]),(3,.box v3 [iv n,.own r v]),(6,o6),(10,o10),(61,o61),(73,o73),(77,o77),(5000,.box 0 (srcC code a s)),(901,.gone)]⟩ →
      wpD Try.prog Bzw Q σ:=by
    intro σ v2 v3 r v o6 o10 o61 o73 o77 a s n ps hd hl hn hr ha' hrv hS
    unfold Bzw
    rw [yzq,hS]
    simp only [wpD_gh]
    intro _
    refine ⟨[],?_⟩
    rcases hrv with ⟨rfl,rfl⟩ | ⟨rfl,rfl⟩ | ⟨rfl,rfl⟩
    · simp only [gwp_nil,yzq,yz1,go_sem,yz0,xx9,xx8,xx6,xx7,xx5,xx0,xx1,xx2,reduceIte,xx3,xx4,reduceCtorEq]
      intro vs U hN
      simp only [← hQ,Azb,go_sem,yz0,xx9,xx8,xx6,xx7,xx5,xx0,xx1,xx2,reduceIte,xx3,xx4,reduceCtorEq]
      refine ⟨[6],by simp,by simp,by simp,?_⟩
      simp only [range1,List.length_singleton,renL_rwp,Nat.not_lt_zero,range1,yzx,yz10,yz1b,yz19,yzz,yz1d,yz1c,yz1a,yzy,yzs,yzf,yz3,yzw,yzr,yzp,yzo,yzu,yz8,yzd,yze,yzc,yzi,yzk,yz4,yz7,yz9,yzb,yzh,yzj,List.range_zero,yz6,yz5,yza,yzv,yzl,yzt,AVal.fresh,freshL,yz2,yzg,AObj.fresh,id,Option.isSome_some,or_true,true_or,go_sem,yz0,xx9,xx8,xx6,xx7,xx5,xx0,xx1,xx2,reduceIte,xx3,xx4,reduceCtorEq]
      exact ⟨n,ps,v,a,s,hd,hl,hn.1,hn.2,hr,ha'.1,ha'.2,rfl,by simp,rfl⟩
    · simp only [gwp_nil,yzq,yz1,go_sem,yz0,xx9,xx8,xx6,xx7,xx5,xx0,xx1,xx2,reduceIte,xx3,xx4,reduceCtorEq]
      intro vs U hN
      simp only [← hQ,Azb,go_sem,yz0,xx9,xx8,xx6,xx7,xx5,xx0,xx1,xx2,reduceIte,xx3,xx4,reduceCtorEq]
      refine ⟨[10],by simp,by simp,by simp,?_⟩
      simp only [range1,List.length_singleton,renL_rwp,Nat.not_lt_zero,range1,yzx,yz10,yz1b,yz19,yzz,yz1d,yz1c,yz1a,yzy,yzs,yzf,yz3,yzw,yzr,yzp,yzo,yzu,yz8,yzd,yze,yzc,yzi,yzk,yz4,yz7,yz9,yzb,yzh,yzj,List.range_zero,yz6,yz5,yza,yzv,yzl,yzt,AVal.fresh,freshL,yz2,yzg,AObj.fresh,id,Option.isSome_some,or_true,true_or,go_sem,yz0,xx9,xx8,xx6,xx7,xx5,xx0,xx1,xx2,reduceIte,xx3,xx4,reduceCtorEq]
      exact ⟨n,ps,v,a,s,hd,hl,hn.1,hn.2,hr,ha'.1,ha'.2,rfl,by simp,rfl⟩
    · simp only [gwp_nil,yzq,yz1,go_sem,yz0,xx9,xx8,xx6,xx7,xx5,xx0,xx1,xx2,reduceIte,xx3,xx4,reduceCtorEq]
      intro vs U hN
      simp only [← hQ,Azb,go_sem,yz0,xx9,xx8,xx6,xx7,xx5,xx0,xx1,xx2,reduceIte,xx3,xx4,reduceCtorEq]
      refine ⟨[77],by simp,by simp,by simp,?_⟩
      simp only [range1,List.length_singleton,renL_rwp,Nat.not_lt_zero,range1,yzx,yz10,yz1b,yz19,yzz,yz1d,yz1c,yz1a,yzy,yzs,yzf,yz3,yzw,yzr,yzp,yzo,yzu,yz8,yzd,yze,yzc,yzi,yzk,yz4,yz7,yz9,yzb,yzh,yzj,List.range_zero,yz6,yz5,yza,yzv,yzl,yzt,AVal.fresh,freshL,yz2,yzg,AObj.fresh,id,Option.isSome_some,or_true,true_or,go_sem,yz0,xx9,xx8,xx6,xx7,xx5,xx0,xx1,xx2,reduceIte,xx3,xx4,reduceCtorEq]
      exact ⟨n,ps,v,a,s,hd,hl,hn.1,hn.2,hr,ha'.1,ha'.2,rfl,by simp,rfl⟩
  have h12b:∀ (σ:St) (v2 v3 r v m:Nat) (o6 o10:AObj) (a s n:Int) (A2 C2:List (Nat×List Int)) (b:Nat×List Int) (cur:List Int),
      DJ (A2 ++ b :: C2)→(A2 ++ b :: C2).length≤10→-1≤n∧n≤11→(∀ p∈A2 ++ C2,p.2.length≤10)→cur.length≤10→at_≤a∧a≤at_+3000 →
      (r=6∧o6=.row v 1 true (rwp A2 ++ .own 901 m :: rwp C2)∨r=10∧o10=.row v 1 true (rwp A2 ++ .own 901 m :: rwp C2)) →
      σ.keep [2,3] [2,3,6,10,61,73,77,5000,901]=⟨L .any [(2,.ptr 2 v2 0),(3,.ptr 3 v3 0)],
        L .gone [(2,.box v2 [iv 0,.val (.slice none 0 0)]),(3,.box v3 [iv n,.own r v]),(6,o6),(10,o10),(61,.gone),(73,.gone),(77,.gone),(5000,.box 0 (srcC code a s)),(901,.row m 1 true (ints cur))]⟩ →
      wpD Try.prog Bzw Q σ:=by
    intro σ v2 v3 r v m o6 o10 a s n A2 C2 b cur hd hl hn hr hc ha' hrv hS
    unfold Bzw
    rw [yzq,hS]
    simp only [wpD_gh]
    intro hD
    have hset4:∀ X:AVal,(rwp A2 ++ AVal.own 901 m :: rwp C2).set A2.length X=rwp A2 ++ X :: rwp C2:=fun X=>by
      rw [List.set_append_right _ _ (by rw [rwp_len];exact Nat.le_refl _),rwp_len,Nat.sub_self];rfl
    rw [List.length_append,List.length_cons] at hl
    have key:(∀ n k'' cs'',AVal.ro (some (some (n+1))) k'' cs''∈rwp A2 ++ AVal.own 901 m :: rwp C2→cs''≠[]→n≠m)→DJ (A2 ++ (m,cur) :: C2):=fun hf=>DJ_in hd fun p hp=>by
      by_cases e:p.2=[]
      · exact .inl e
      · refine .inr (hf p.1 1 (ints p.2) ?_ (by simpa using e))
        rcases List.mem_append.1 hp with h | h
        · exact List.mem_append.2 (.inl (List.mem_map.2 ⟨p,h,rfl⟩))
        · exact List.mem_append.2 (.inr (List.mem_cons.2 (.inr (List.mem_map.2 ⟨p,h,rfl⟩))))
    have hr2:∀ p∈A2 ++ (m,cur) :: C2,p.2.length≤10:=fun p hp=>by
      simp only [List.mem_append,List.mem_cons] at hp
      rcases hp with h | rfl | h
      · exact hr p (by simp [h])
      · exact hc
      · exact hr p (by simp [h])
    rcases hrv with ⟨rfl,rfl⟩ | ⟨rfl,rfl⟩
    · refine ⟨[.rf 6 A2.length 901],gwp_rf (k:=1) (nn:=true) rfl (own_get rfl) (by decide) rfl fun hf=>?_⟩
      have D1:=key hf
      simp only [hset4,frNm_t,rwp_cat,gwp_nil,yzq,yz1,go_sem,yz0,xx9,xx8,xx6,xx7,xx5,xx0,xx1,xx2,reduceIte,xx3,xx4,reduceCtorEq]
      intro vs U hN
      simp only [← hQ,Azb,go_sem,yz0,xx9,xx8,xx6,xx7,xx5,xx0,xx1,xx2,reduceIte,xx3,xx4,reduceCtorEq]
      refine ⟨[6],by simp,by simp,by simp,?_⟩
      simp only [range1,List.length_singleton,renL_rwp,Nat.not_lt_zero,range1,yzx,yz10,yz1b,yz19,yzz,yz1d,yz1c,yz1a,yzy,yzs,yzf,yz3,yzw,yzr,yzp,yzo,yzu,yz8,yzd,yze,yzc,yzi,yzk,yz4,yz7,yz9,yzb,yzh,yzj,List.range_zero,yz6,yz5,yza,yzv,yzl,yzt,AVal.fresh,freshL,yz2,yzg,AObj.fresh,id,Option.isSome_some,or_true,true_or,go_sem,yz0,xx9,xx8,xx6,xx7,xx5,xx0,xx1,xx2,reduceIte,xx3,xx4,reduceCtorEq]
      exact ⟨n,A2 ++ (m,cur) :: C2,v,a,s,fun _=>D1,by simp;omega,hn.1,hn.2,hr2,ha'.1,ha'.2,rfl,by simp,rfl⟩
    · refine ⟨[.rf 10 A2.length 901],gwp_rf (k:=1) (nn:=true) rfl (own_get rfl) (by decide) rfl fun hf=>?_⟩
      have D1:=key hf
      simp only [hset4,frNm_t,rwp_cat,gwp_nil,yzq,yz1,go_sem,yz0,xx9,xx8,xx6,xx7,xx5,xx0,xx1,xx2,reduceIte,xx3,xx4,reduceCtorEq]
      intro vs U hN
      simp only [← hQ,Azb,go_sem,yz0,xx9,xx8,xx6,xx7,xx5,xx0,xx1,xx2,reduceIte,xx3,xx4,reduceCtorEq]
      refine ⟨[10],by simp,by simp,by simp,?_⟩
      simp only [range1,List.length_singleton,renL_rwp,Nat.not_lt_zero,range1,yzx,yz10,yz1b,yz19,yzz,yz1d,yz1c,yz1a,yzy,yzs,yzf,yz3,yzw,yzr,yzp,yzo,yzu,yz8,yzd,yze,yzc,yzi,yzk,yz4,yz7,yz9,yzb,yzh,yzj,List.range_zero,yz6,yz5,yza,yzv,yzl,yzt,AVal.fresh,freshL,yz2,yzg,AObj.fresh,id,Option.isSome_some,or_true,true_or,go_sem,yz0,xx9,xx8,xx6,xx7,xx5,xx0,xx1,xx2,reduceIte,xx3,xx4,reduceCtorEq]
      exact ⟨n,A2 ++ (m,cur) :: C2,v,a,s,fun _=>D1,by simp;omega,hn.1,hn.2,hr2,ha'.1,ha'.2,rfl,by simp,rfl⟩
  have h4:∀ (σ:St) (v2 v3:Nat) (r v:Nat) (o6 o10:AObj) (a s n:Int) (ps:List (Nat×List Int)),
      Aut n (ps.map (·.2))→DJ ps→at_≤a∧a≤at_+2500→(r=6∧o6=.row v 1 true (rwp ps)∨r=10∧o10=.row v 1 true (rwp ps)) →
      σ.keep [0,2,3] [2,3,6,10,61,73,77,5000,901]=⟨L .any [(0,.ptr 5000 0 0),(2,.ptr 2 v2 0),(3,.ptr 3 v3 0)],
        L .gone [(2,.box v2 [iv 0,.val (.slice none 0 0)]),(3,.box v3 [iv n,.own r v]),(6,o6),(10,o10),(61,.gone),(73,.gone),(77,.gone),(5000,.box 0 (srcC code a s)),(901,.gone)]⟩ →
      wpD Try.prog Bz69 Q σ:=by
    intro σ v2 v3 r v o6 o10 a s n ps A hd ha' hrv hS
    unfold Bz69
    rw [yzq,hS]
    have l1:=A.l1
    have l2:=A.l2
    have n1:=A.n1
    have n2:=A.n2
    rw [List.length_map] at l1 l2
    rcases hrv with ⟨rfl,rfl⟩ | ⟨rfl,rfl⟩
    · simp only [rwp_len,yzq,yz1,go_sem,yz0,xx9,xx8,xx6,xx7,xx5,xx0,xx1,xx2,reduceIte,xx3,xx4,reduceCtorEq]
      intro vs U hN hM
      refine call_funB (k_pick code a s ps.length hb (by omega)) rfl qCS qCS ?_
      rintro cs' x ⟨a1,s1,at1,rfl,e1,e2,rfl,e3,e4⟩
      have hat:at1.toNat<ps.length:=by omega
      simp only [Bz68,yzq,yz1,go_sem,yz0,xx9,xx8,xx6,xx7,xx5,xx0,xx1,xx2,reduceIte,xx3,xx4,reduceCtorEq]
      intro vs1 U1 hN1
      refine call_funB (k_pick code a1 s1 24 hb (by omega)) rfl qCS qCS ?_
      rintro cs' x ⟨a2,s2,kd,rfl,f1,f2,rfl,f3,f4⟩
      have hps:∀ p∈ps,p.2.length≤10:=fun p hp=>by have:=(A.row p.2 (List.mem_map.2 ⟨p,hp,rfl⟩)).1;omega
      by_cases k0:kd=0
      · subst k0
        have w1:IntKind.i64.wrap (n+1)=n+1:=w64 (by omega)
        simp only [Bz2,Bz1,w1,beq_self_eq_true,yzq,yz1,go_sem,yz0,xx9,xx8,xx6,xx7,xx5,xx0,xx1,xx2,reduceIte,xx3,xx4,reduceCtorEq]
        intro vs2 U2 hN2 vs3 U3 hN3
        refine ⟨⟨⟨_,rfl,rfl⟩,⟨_,rfl,rfl⟩,⟨_,rfl,rfl⟩,_,rfl,rfl⟩,?_⟩
        refine call_boxrow (r:=5000) (q:=24) (k_among code a2 s2 [0,-1,n+1,11] hb (by omega) (by simp)) rfl rfl (by decide) qCS (by simp only [yzn,yz12,and_true,Coe];exact ⟨⟨0,_,_,rfl,rfl,rfl,rfl,rfl⟩,1,_,_,rfl,rfl,rfl,rfl,rfl⟩) ?_
        rintro cs' x ⟨a3,s3,b3,rfl,g3,g4,rfl,g5⟩
        have hb3:-1≤b3∧b3≤11:=by simp at g5;omega
        simp only [go_sem,yz0,xx9,xx8,xx6,xx7,xx5,xx0,xx1,xx2,reduceIte,xx3,xx4,reduceCtorEq]
        exact h12 _ v2 v3 6 v _ o10 .gone .gone .gone a3 s3 b3 ps (fun _=>hd) (by omega) hb3 hps (by omega) (.inl ⟨rfl,rfl⟩) (by simp only [go_sem,yz0,xx9,xx8,xx6,xx7,xx5,xx0,xx1,xx2,reduceIte,xx3,xx4,reduceCtorEq];try rfl)
      by_cases k1:kd=1
      · subst k1
        simp only [beq_false_of_ne (show (1:Int)≠0 by omega),Bz2,Bz1,Bz3,rwp_getD hat,St.bound,List.take_length,beq_self_eq_true,yzq,yz1,go_sem,yz0,xx9,xx8,xx6,xx7,xx5,xx0,xx1,xx2,reduceIte,xx3,xx4,reduceCtorEq]
        intro _ _ _ _ _ _ vs4 U4 hN4
        have hlw:(rwp ps).length=ps.length:=rwp_len
        have hrl:=(A.row _ (List.mem_map.2 ⟨_,yzm hat (0,[]),rfl⟩)).1
        refine ⟨⟨e3,by omega⟩,by omega,⟨by omega,Nat.le_refl _⟩,⟨e3,by omega⟩,by omega,?_⟩
        have ed:List.drop 1 (ints (ps.getD at1.toNat (0,[])).2)=ints ((ps.getD at1.toNat (0,[])).2.drop 1):=by simp only [List.map_drop]
        rw [ed,rwp_putN (p:=((ps.getD at1.toNat (0,[])).1,(ps.getD at1.toNat (0,[])).2.drop 1))]
        have hlp:(ps.take at1.toNat ++ [((ps.getD at1.toNat (0,[])).1,(ps.getD at1.toNat (0,[])).2.drop 1)] ++ ps.drop (at1.toNat+1)).length=ps.length:=by
          simp only [List.length_append,List.length_take,List.length_drop,List.length_singleton];omega
        exact h12 _ v2 v3 6 v _ o10 .gone .gone .gone a2 s2 n _ (fun _=>DJ_set (xs:=(ps.getD at1.toNat (0,[])).2.drop 1) hat hd fun e=>by rw [e];rfl) (by rw [hlp];omega) (by omega) (fun p hp=>by
          simp only [List.mem_append,List.mem_singleton] at hp
          rcases hp with (hp | rfl) | hp
          · exact hps p (List.mem_of_mem_take hp)
          · have:=hps _ (yzm hat (0,[]));simp only [List.length_drop];omega
          · exact hps p (List.mem_of_mem_drop hp)) (by omega) (.inl ⟨rfl,rfl⟩) (by simp only [go_sem,yz0,xx9,xx8,xx6,xx7,xx5,xx0,xx1,xx2,reduceIte,xx3,xx4,reduceCtorEq];try rfl)
      by_cases k2:kd=2
      · subst k2
        obtain ⟨A2,b,C2,rfl,hAk⟩:=rwp_split hat
        have hbr:=A.row b.2 (by simp)
        have hbn:b.2≠[]:=fun e=>by rw [e] at hbr;simp at hbr;omega
        have hbl:0<b.2.length:=by omega
        have F0:=DJ_out hd hbn
        have F0a:∀ p∈A2 ++ C2,p.2=[]∨p.1≠b.1:=F0
        simp only [beq_false_of_ne (show (2:Int)≠0 by omega),beq_false_of_ne (show (2:Int)≠1 by omega),Bz2,Bz1,Bz3,yzq,yz1,go_sem,yz0,xx9,xx8,xx6,xx7,xx5,xx0,xx1,xx2,reduceIte,xx3,xx4,reduceCtorEq]
        intro _ _ _ _ _ _ _ _ _
        simp only [beq_self_eq_true,Bz6,yzq,wpD_gh,go_sem,yz0,xx9,xx8,xx6,xx7,xx5,xx0,xx1,xx2,reduceIte,xx3,xx4,reduceCtorEq]
        intro _
        refine ⟨[.thaw 6 at1.toNat 901],gwp_thaw (n:=b.1) rfl (rwp_get hAk.symm) (by simpa using hbn) rfl fun m1=>?_⟩
        have hset:(woL b.1 (rwp (A2 ++ b :: C2))).set at1.toNat (AVal.own 901 m1)=rwp A2 ++ AVal.own 901 m1 :: rwp C2:=by rw [← hAk];exact woL_set F0a
        have ho1:(rwp A2 ++ AVal.own 901 m1 :: rwp C2).getD at1.toNat .any=.own 901 m1:=own_at hAk.symm
        have hol:(rwp A2 ++ AVal.own 901 m1 :: rwp C2).length=A2.length+(C2.length+1):=by rw [List.length_append,List.length_cons,rwp_len,rwp_len]
        have hkl:at1.toNat<(rwp A2 ++ AVal.own 901 m1 :: rwp C2).length:=by omega
        simp only [hset,woT,woO,woL_cons,woL_nil,woV_val,woV_own,wo_ptr,wo_o,woL_ints,wo_st,woO_row,woO_box,woO_gone,wo_any,gwp_nil,yzq,yz1,go_sem,yz0,xx9,xx8,xx6,xx7,xx5,xx0,xx1,xx2,reduceIte,xx3,xx4,reduceCtorEq]
        intro vs4 U4 hN4
        simp only [ho1,go_sem,yz0,xx9,xx8,xx6,xx7,xx5,xx0,xx1,xx2,reduceIte,xx3,xx4,reduceCtorEq]
        refine ⟨⟨e3,hkl⟩,hkl,⟨⟨_,rfl,rfl⟩,_,rfl,rfl⟩,?_⟩
        refine call_boxrowN (r:=5000) (q:=49) (cs0:=srcC code a2 s2) (k_among code a2 s2 [-1,n] hb (by omega) (by simp)) rfl rfl (by simp) (by decide) qCS (by simp only [yzn,yz12,and_true,Coe];exact ⟨⟨0,_,_,rfl,rfl,rfl,rfl,rfl⟩,1,_,_,rfl,rfl,rfl,rfl,rfl⟩) ⟨srcC code a2 0,.int .i64 n,⟨a2,0,n,rfl,by omega,by omega,rfl,by simp⟩,flat_srcC⟩ ?_
        rintro cs' x ⟨a3,s3,b3,rfl,g3,g4,rfl,g5⟩
        simp only [yzq,yz1,go_sem,yz0,xx9,xx8,xx6,xx7,xx5,xx0,xx1,xx2,reduceIte,xx3,xx4,reduceCtorEq]
        refine ⟨hbl,hbl,?_⟩
        have ed:AVal.val (.int .i64 b3) :: List.drop 1 (ints b.2)=ints (b3 :: b.2.drop 1):=by simp [List.map_drop]
        rw [ed]
        exact h12b _ v2 v3 6 v m1 _ (AObj.wo b.1 o10) a3 s3 n A2 C2 b (b3 :: b.2.drop 1) hd (by omega) (by omega) (fun p hp=>hps p (by simp only [List.mem_append,List.mem_cons] at hp ⊢;rcases hp with h | h <;> simp [h])) (by simp only [List.length_cons,List.length_drop];omega) (by omega) (.inl ⟨rfl,rfl⟩) (by simp only [go_sem,yz0,xx9,xx8,xx6,xx7,xx5,xx0,xx1,xx2,reduceIte,xx3,xx4,reduceCtorEq];try rfl)
      by_cases k3:kd=3
      · subst k3
        have h00:0<ps.length:=by omega
        simp only [beq_false_of_ne (show (3:Int)≠0 by omega),beq_false_of_ne (show (3:Int)≠1 by omega),Bz2,Bz1,Bz3,yzq,yz1,go_sem,yz0,xx9,xx8,xx6,xx7,xx5,xx0,xx1,xx2,reduceIte,xx3,xx4,reduceCtorEq]
        intro _ _ _ _ _ _ _ _ _
        simp only [beq_false_of_ne (show (3:Int)≠2 by omega),Bz6,yzq,wpD_gh,go_sem,yz0,xx9,xx8,xx6,xx7,xx5,xx0,xx1,xx2,reduceIte,xx3,xx4,reduceCtorEq]
        intro _
        refine ⟨[],?_⟩
        simp only [beq_self_eq_true,Bza,rwp_getD h00,gwp_nil,yzq,yz1,go_sem,yz0,xx9,xx8,xx6,xx7,xx5,xx0,xx1,xx2,reduceIte,xx3,xx4,reduceCtorEq]
        intro _ _ _ vs9 U9 hN9
        have hlw:(rwp ps).length=ps.length:=rwp_len
        refine ⟨by omega,by omega,by omega,by omega,by omega,by omega,by omega,by rw [List.length_append,List.length_singleton];omega,?_⟩
        generalize hp0:ps.getD 0 (0,[])=p0
        have hp0m:p0∈ps:=hp0 ▸ yzm h00 (0,[])
        have e5:rwp ps ++ [AVal.ro (some (some (p0.1+1))) 1 (ints p0.2)] ++ [AVal.ro (some (some (p0.1+1))) 1 (ints p0.2),AVal.ro (some (some (p0.1+1))) 1 (ints p0.2)]=rwp (ps ++ [p0] ++ [p0,p0]):=by simp only [rwp,List.map_append,List.map_cons,List.map_nil]
        rw [e5]
        have hl6:(ps ++ [p0] ++ [p0,p0]).length=ps.length+3:=by simp
        exact h12 _ v2 v3 6 (vs9 19 0) _ o10 .gone .gone .gone a2 s2 n (ps ++ [p0] ++ [p0,p0]) (fun h=>absurd h (by omega)) (by omega) (by omega) (fun p hp=>by
          simp only [List.mem_append,List.mem_cons,List.not_mem_nil,or_false] at hp
          rcases hp with (hp | rfl) | rfl | rfl
          · exact hps p hp
          · exact hps _ hp0m
          · exact hps _ hp0m
          · exact hps _ hp0m) (by omega) (.inl ⟨rfl,rfl⟩) (by simp only [go_sem,yz0,xx9,xx8,xx6,xx7,xx5,xx0,xx1,xx2,reduceIte,xx3,xx4,reduceCtorEq];try rfl)
      by_cases k4:kd=4
      · subst k4
        simp only [beq_false_of_ne (show (4:Int)≠0 by omega),beq_false_of_ne (show (4:Int)≠1 by omega),Bz2,Bz1,Bz3,yzq,yz1,go_sem,yz0,xx9,xx8,xx6,xx7,xx5,xx0,xx1,xx2,reduceIte,xx3,xx4,reduceCtorEq]
        intro _ _ _ _ _ _ _ _ _
        simp only [beq_false_of_ne (show (4:Int)≠2 by omega),Bz6,yzq,wpD_gh,go_sem,yz0,xx9,xx8,xx6,xx7,xx5,xx0,xx1,xx2,reduceIte,xx3,xx4,reduceCtorEq]
        intro _
        refine ⟨[],?_⟩
        simp only [beq_false_of_ne (show (4:Int)≠3 by omega),Bza,Bzv,beq_self_eq_true,gwp_nil,yzq,yz1,go_sem,yz0,xx9,xx8,xx6,xx7,xx5,xx0,xx1,xx2,reduceIte,xx3,xx4,reduceCtorEq]
        intro _ _ _ _ _ _ vs9 U9 hN9
        exact h12 _ v2 v3 77 (vs9 0 0) _ o10 .gone .gone _ a2 s2 n [] (fun _=>by simp [DJ]) (by simp) (by omega) (by simp) (by omega) (.inr (.inr ⟨rfl,rfl⟩)) (by simp only [rwp_nil,go_sem,yz0,xx9,xx8,xx6,xx7,xx5,xx0,xx1,xx2,reduceIte,xx3,xx4,reduceCtorEq];try rfl)
      simp only [beq_false_of_ne k0,beq_false_of_ne k1,Bz2,Bz1,Bz3,yzq,yz1,go_sem,yz0,xx9,xx8,xx6,xx7,xx5,xx0,xx1,xx2,reduceIte,xx3,xx4,reduceCtorEq]
      intro _ _ _ _ _ _ _ _ _
      simp only [beq_false_of_ne k2,Bz6,yzq,wpD_gh,go_sem,yz0,xx9,xx8,xx6,xx7,xx5,xx0,xx1,xx2,reduceIte,xx3,xx4,reduceCtorEq]
      intro _
      refine ⟨[],?_⟩
      simp only [beq_false_of_ne k3,beq_false_of_ne k4,Bza,Bzv,gwp_nil,yzq,yz1,go_sem,yz0,xx9,xx8,xx6,xx7,xx5,xx0,xx1,xx2,reduceIte,xx3,xx4,reduceCtorEq]
      intro _ _ _ _ _ _
      exact h12 _ v2 v3 6 v _ o10 .gone .gone .gone a2 s2 n ps (fun _=>hd) (by omega) (by omega) hps (by omega) (.inl ⟨rfl,rfl⟩) (by simp only [go_sem,yz0,xx9,xx8,xx6,xx7,xx5,xx0,xx1,xx2,reduceIte,xx3,xx4,reduceCtorEq];try rfl)
    · simp only [rwp_len,yzq,yz1,go_sem,yz0,xx9,xx8,xx6,xx7,xx5,xx0,xx1,xx2,reduceIte,xx3,xx4,reduceCtorEq]
      intro vs U hN hM
      refine call_funB (k_pick code a s ps.length hb (by omega)) rfl qCS qCS ?_
      rintro cs' x ⟨a1,s1,at1,rfl,e1,e2,rfl,e3,e4⟩
      have hat:at1.toNat<ps.length:=by omega
      simp only [Bz68,yzq,yz1,go_sem,yz0,xx9,xx8,xx6,xx7,xx5,xx0,xx1,xx2,reduceIte,xx3,xx4,reduceCtorEq]
      intro vs1 U1 hN1
      refine call_funB (k_pick code a1 s1 24 hb (by omega)) rfl qCS qCS ?_
      rintro cs' x ⟨a2,s2,kd,rfl,f1,f2,rfl,f3,f4⟩
      have hps:∀ p∈ps,p.2.length≤10:=fun p hp=>by have:=(A.row p.2 (List.mem_map.2 ⟨p,hp,rfl⟩)).1;omega
      by_cases k0:kd=0
      · subst k0
        have w1:IntKind.i64.wrap (n+1)=n+1:=w64 (by omega)
        simp only [Bz2,Bz1,w1,beq_self_eq_true,yzq,yz1,go_sem,yz0,xx9,xx8,xx6,xx7,xx5,xx0,xx1,xx2,reduceIte,xx3,xx4,reduceCtorEq]
        intro vs2 U2 hN2 vs3 U3 hN3
        refine ⟨⟨⟨_,rfl,rfl⟩,⟨_,rfl,rfl⟩,⟨_,rfl,rfl⟩,_,rfl,rfl⟩,?_⟩
        refine call_boxrow (r:=5000) (q:=24) (k_among code a2 s2 [0,-1,n+1,11] hb (by omega) (by simp)) rfl rfl (by decide) qCS (by simp only [yzn,yz12,and_true,Coe];exact ⟨⟨0,_,_,rfl,rfl,rfl,rfl,rfl⟩,1,_,_,rfl,rfl,rfl,rfl,rfl⟩) ?_
        rintro cs' x ⟨a3,s3,b3,rfl,g3,g4,rfl,g5⟩
        have hb3:-1≤b3∧b3≤11:=by simp at g5;omega
        simp only [go_sem,yz0,xx9,xx8,xx6,xx7,xx5,xx0,xx1,xx2,reduceIte,xx3,xx4,reduceCtorEq]
        exact h12 _ v2 v3 10 v o6 _ .gone .gone .gone a3 s3 b3 ps (fun _=>hd) (by omega) hb3 hps (by omega) (.inr (.inl ⟨rfl,rfl⟩)) (by simp only [go_sem,yz0,xx9,xx8,xx6,xx7,xx5,xx0,xx1,xx2,reduceIte,xx3,xx4,reduceCtorEq];try rfl)
      by_cases k1:kd=1
      · subst k1
        simp only [beq_false_of_ne (show (1:Int)≠0 by omega),Bz2,Bz1,Bz3,rwp_getD hat,St.bound,List.take_length,beq_self_eq_true,yzq,yz1,go_sem,yz0,xx9,xx8,xx6,xx7,xx5,xx0,xx1,xx2,reduceIte,xx3,xx4,reduceCtorEq]
        intro _ _ _ _ _ _ vs4 U4 hN4
        have hlw:(rwp ps).length=ps.length:=rwp_len
        have hrl:=(A.row _ (List.mem_map.2 ⟨_,yzm hat (0,[]),rfl⟩)).1
        refine ⟨⟨e3,by omega⟩,by omega,⟨by omega,Nat.le_refl _⟩,⟨e3,by omega⟩,by omega,?_⟩
        have ed:List.drop 1 (ints (ps.getD at1.toNat (0,[])).2)=ints ((ps.getD at1.toNat (0,[])).2.drop 1):=by simp only [List.map_drop]
        rw [ed,rwp_putN (p:=((ps.getD at1.toNat (0,[])).1,(ps.getD at1.toNat (0,[])).2.drop 1))]
        have hlp:(ps.take at1.toNat ++ [((ps.getD at1.toNat (0,[])).1,(ps.getD at1.toNat (0,[])).2.drop 1)] ++ ps.drop (at1.toNat+1)).length=ps.length:=by
          simp only [List.length_append,List.length_take,List.length_drop,List.length_singleton];omega
        exact h12 _ v2 v3 10 v o6 _ .gone .gone .gone a2 s2 n _ (fun _=>DJ_set (xs:=(ps.getD at1.toNat (0,[])).2.drop 1) hat hd fun e=>by rw [e];rfl) (by rw [hlp];omega) (by omega) (fun p hp=>by
          simp only [List.mem_append,List.mem_singleton] at hp
          rcases hp with (hp | rfl) | hp
          · exact hps p (List.mem_of_mem_take hp)
          · have:=hps _ (yzm hat (0,[]));simp only [List.length_drop];omega
          · exact hps p (List.mem_of_mem_drop hp)) (by omega) (.inr (.inl ⟨rfl,rfl⟩)) (by simp only [go_sem,yz0,xx9,xx8,xx6,xx7,xx5,xx0,xx1,xx2,reduceIte,xx3,xx4,reduceCtorEq];try rfl)
      by_cases k2:kd=2
      · subst k2
        obtain ⟨A2,b,C2,rfl,hAk⟩:=rwp_split hat
        have hbr:=A.row b.2 (by simp)
        have hbn:b.2≠[]:=fun e=>by rw [e] at hbr;simp at hbr;omega
        have hbl:0<b.2.length:=by omega
        have F0:=DJ_out hd hbn
        have F0a:∀ p∈A2 ++ C2,p.2=[]∨p.1≠b.1:=F0
        simp only [beq_false_of_ne (show (2:Int)≠0 by omega),beq_false_of_ne (show (2:Int)≠1 by omega),Bz2,Bz1,Bz3,yzq,yz1,go_sem,yz0,xx9,xx8,xx6,xx7,xx5,xx0,xx1,xx2,reduceIte,xx3,xx4,reduceCtorEq]
        intro _ _ _ _ _ _ _ _ _
        simp only [beq_self_eq_true,Bz6,yzq,wpD_gh,go_sem,yz0,xx9,xx8,xx6,xx7,xx5,xx0,xx1,xx2,reduceIte,xx3,xx4,reduceCtorEq]
        intro _
        refine ⟨[.thaw 10 at1.toNat 901],gwp_thaw (n:=b.1) rfl (rwp_get hAk.symm) (by simpa using hbn) rfl fun m1=>?_⟩
        have hset:(woL b.1 (rwp (A2 ++ b :: C2))).set at1.toNat (AVal.own 901 m1)=rwp A2 ++ AVal.own 901 m1 :: rwp C2:=by rw [← hAk];exact woL_set F0a
        have ho1:(rwp A2 ++ AVal.own 901 m1 :: rwp C2).getD at1.toNat .any=.own 901 m1:=own_at hAk.symm
        have hol:(rwp A2 ++ AVal.own 901 m1 :: rwp C2).length=A2.length+(C2.length+1):=by rw [List.length_append,List.length_cons,rwp_len,rwp_len]
        have hkl:at1.toNat<(rwp A2 ++ AVal.own 901 m1 :: rwp C2).length:=by omega
        simp only [hset,woT,woO,woL_cons,woL_nil,woV_val,woV_own,wo_ptr,wo_o,woL_ints,wo_st,woO_row,woO_box,woO_gone,wo_any,gwp_nil,yzq,yz1,go_sem,yz0,xx9,xx8,xx6,xx7,xx5,xx0,xx1,xx2,reduceIte,xx3,xx4,reduceCtorEq]
        intro vs4 U4 hN4
        simp only [ho1,go_sem,yz0,xx9,xx8,xx6,xx7,xx5,xx0,xx1,xx2,reduceIte,xx3,xx4,reduceCtorEq]
        refine ⟨⟨e3,hkl⟩,hkl,⟨⟨_,rfl,rfl⟩,_,rfl,rfl⟩,?_⟩
        refine call_boxrowN (r:=5000) (q:=49) (cs0:=srcC code a2 s2) (k_among code a2 s2 [-1,n] hb (by omega) (by simp)) rfl rfl (by simp) (by decide) qCS (by simp only [yzn,yz12,and_true,Coe];exact ⟨⟨0,_,_,rfl,rfl,rfl,rfl,rfl⟩,1,_,_,rfl,rfl,rfl,rfl,rfl⟩) ⟨srcC code a2 0,.int .i64 n,⟨a2,0,n,rfl,by omega,by omega,rfl,by simp⟩,flat_srcC⟩ ?_
        rintro cs' x ⟨a3,s3,b3,rfl,g3,g4,rfl,g5⟩
        simp only [yzq,yz1,go_sem,yz0,xx9,xx8,xx6,xx7,xx5,xx0,xx1,xx2,reduceIte,xx3,xx4,reduceCtorEq]
        refine ⟨hbl,hbl,?_⟩
        have ed:AVal.val (.int .i64 b3) :: List.drop 1 (ints b.2)=ints (b3 :: b.2.drop 1):=by simp [List.map_drop]
        rw [ed]
        exact h12b _ v2 v3 10 v m1 (AObj.wo b.1 o6) _ a3 s3 n A2 C2 b (b3 :: b.2.drop 1) hd (by omega) (by omega) (fun p hp=>hps p (by simp only [List.mem_append,List.mem_cons] at hp ⊢;rcases hp with h | h <;> simp [h])) (by simp only [List.length_cons,List.length_drop];omega) (by omega) (.inr ⟨rfl,rfl⟩) (by simp only [go_sem,yz0,xx9,xx8,xx6,xx7,xx5,xx0,xx1,xx2,reduceIte,xx3,xx4,reduceCtorEq];try rfl)
      by_cases k3:kd=3
      · subst k3
        have h00:0<ps.length:=by omega
        simp only [beq_false_of_ne (show (3:Int)≠0 by omega),beq_false_of_ne (show (3:Int)≠1 by omega),Bz2,Bz1,Bz3,yzq,yz1,go_sem,yz0,xx9,xx8,xx6,xx7,xx5,xx0,xx1,xx2,reduceIte,xx3,xx4,reduceCtorEq]
        intro _ _ _ _ _ _ _ _ _
        simp only [beq_false_of_ne (show (3:Int)≠2 by omega),Bz6,yzq,wpD_gh,go_sem,yz0,xx9,xx8,xx6,xx7,xx5,xx0,xx1,xx2,reduceIte,xx3,xx4,reduceCtorEq]
        intro _
        refine ⟨[],?_⟩
        simp only [beq_self_eq_true,Bza,rwp_getD h00,gwp_nil,yzq,yz1,go_sem,yz0,xx9,xx8,xx6,xx7,xx5,xx0,xx1,xx2,reduceIte,xx3,xx4,reduceCtorEq]
        intro _ _ _ vs9 U9 hN9
        have hlw:(rwp ps).length=ps.length:=rwp_len
        refine ⟨by omega,by omega,by omega,by omega,by omega,by omega,by omega,by rw [List.length_append,List.length_singleton];omega,?_⟩
        generalize hp0:ps.getD 0 (0,[])=p0
        have hp0m:p0∈ps:=hp0 ▸ yzm h00 (0,[])
        have e5:rwp ps ++ [AVal.ro (some (some (p0.1+1))) 1 (ints p0.2)] ++ [AVal.ro (some (some (p0.1+1))) 1 (ints p0.2),AVal.ro (some (some (p0.1+1))) 1 (ints p0.2)]=rwp (ps ++ [p0] ++ [p0,p0]):=by simp only [rwp,List.map_append,List.map_cons,List.map_nil]
        rw [e5]
        have hl6:(ps ++ [p0] ++ [p0,p0]).length=ps.length+3:=by simp
        exact h12 _ v2 v3 10 (vs9 19 0) o6 _ .gone .gone .gone a2 s2 n (ps ++ [p0] ++ [p0,p0]) (fun h=>absurd h (by omega)) (by omega) (by omega) (fun p hp=>by
          simp only [List.mem_append,List.mem_cons,List.not_mem_nil,or_false] at hp
          rcases hp with (hp | rfl) | rfl | rfl
          · exact hps p hp
          · exact hps _ hp0m
          · exact hps _ hp0m
          · exact hps _ hp0m) (by omega) (.inr (.inl ⟨rfl,rfl⟩)) (by simp only [go_sem,yz0,xx9,xx8,xx6,xx7,xx5,xx0,xx1,xx2,reduceIte,xx3,xx4,reduceCtorEq];try rfl)
      by_cases k4:kd=4
      · subst k4
        simp only [beq_false_of_ne (show (4:Int)≠0 by omega),beq_false_of_ne (show (4:Int)≠1 by omega),Bz2,Bz1,Bz3,yzq,yz1,go_sem,yz0,xx9,xx8,xx6,xx7,xx5,xx0,xx1,xx2,reduceIte,xx3,xx4,reduceCtorEq]
        intro _ _ _ _ _ _ _ _ _
        simp only [beq_false_of_ne (show (4:Int)≠2 by omega),Bz6,yzq,wpD_gh,go_sem,yz0,xx9,xx8,xx6,xx7,xx5,xx0,xx1,xx2,reduceIte,xx3,xx4,reduceCtorEq]
        intro _
        refine ⟨[],?_⟩
        simp only [beq_false_of_ne (show (4:Int)≠3 by omega),Bza,Bzv,beq_self_eq_true,gwp_nil,yzq,yz1,go_sem,yz0,xx9,xx8,xx6,xx7,xx5,xx0,xx1,xx2,reduceIte,xx3,xx4,reduceCtorEq]
        intro _ _ _ _ _ _ vs9 U9 hN9
        exact h12 _ v2 v3 77 (vs9 0 0) o6 _ .gone .gone _ a2 s2 n [] (fun _=>by simp [DJ]) (by simp) (by omega) (by simp) (by omega) (.inr (.inr ⟨rfl,rfl⟩)) (by simp only [rwp_nil,go_sem,yz0,xx9,xx8,xx6,xx7,xx5,xx0,xx1,xx2,reduceIte,xx3,xx4,reduceCtorEq];try rfl)
      simp only [beq_false_of_ne k0,beq_false_of_ne k1,Bz2,Bz1,Bz3,yzq,yz1,go_sem,yz0,xx9,xx8,xx6,xx7,xx5,xx0,xx1,xx2,reduceIte,xx3,xx4,reduceCtorEq]
      intro _ _ _ _ _ _ _ _ _
      simp only [beq_false_of_ne k2,Bz6,yzq,wpD_gh,go_sem,yz0,xx9,xx8,xx6,xx7,xx5,xx0,xx1,xx2,reduceIte,xx3,xx4,reduceCtorEq]
      intro _
      refine ⟨[],?_⟩
      simp only [beq_false_of_ne k3,beq_false_of_ne k4,Bza,Bzv,gwp_nil,yzq,yz1,go_sem,yz0,xx9,xx8,xx6,xx7,xx5,xx0,xx1,xx2,reduceIte,xx3,xx4,reduceCtorEq]
      intro _ _ _ _ _ _
      exact h12 _ v2 v3 10 v o6 _ .gone .gone .gone a2 s2 n ps (fun _=>hd) (by omega) (by omega) hps (by omega) (.inr (.inl ⟨rfl,rfl⟩)) (by simp only [go_sem,yz0,xx9,xx8,xx6,xx7,xx5,xx0,xx1,xx2,reduceIte,xx3,xx4,reduceCtorEq];try rfl)
  simp only [Azb,Bzer,yzq,yz1,go_sem,yz0,xx9,xx8,xx6,xx7,xx5,xx0,xx1,xx2,reduceIte,xx3,xx4,reduceCtorEq]
  intro vs0 U0 hN0 vs1 U1 hN1
  refine call_con (r:=5000) (k_DrawnN code at_ seed 6 hb (by omega) (by omega)) rfl (by simp only [Bool.not_true,rowIs,boxIs,coe_argN,yz1e,coe_ro_o,yz12,yzn,coe_any,coe_val,coe_ro,yz15,yz17,coe_st,yz16,coe_rp,yz18,coe_clo,coe_own0,coe_ptr0,yz13,coeL_rws,coeL_rwn,L_hit,L_miss,L_nil,xx3,ne_eq,reduceCtorEq,not_false_eq_true,true_and,and_true,and_self,exists_eq_left,exists_eq_right,List.mem_cons,List.not_mem_nil,or_false,AObj.row.injEq,AObj.box.injEq,exists_eq_left',exists_and_left,exists_eq,Nat.zero_lt_one,Nat.lt_add_one,List.map_cons,List.map_nil,AObj.ver,xx5,not_true_eq_false]) (by simp only [Bool.not_true,rowIs,boxIs,coe_argN,yz1e,coe_ro_o,yz12,yzn,coe_any,coe_val,coe_ro,yz15,yz17,coe_st,yz16,coe_rp,yz18,coe_clo,coe_own0,coe_ptr0,yz13,coeL_rws,coeL_rwn,L_hit,L_miss,L_nil,xx3,ne_eq,reduceCtorEq,not_false_eq_true,true_and,and_true,and_self,exists_eq_left,exists_eq_right,List.mem_cons,List.not_mem_nil,or_false,AObj.row.injEq,AObj.box.injEq,exists_eq_left',exists_and_left,exists_eq,Nat.zero_lt_one,Nat.lt_add_one,List.map_cons,List.map_nil,AObj.ver,xx5,not_true_eq_false]) ?_
  rintro outs rows res ⟨q,qs,vq,a1,s1,A,hd,hq3,h1,h2,rfl,rfl,rfl⟩
  refine ⟨rfl,by simp,by rw [Option.getD_some,yzl];simp only [go_sem,yz0,xx9,xx8,xx6,xx7,xx5,xx0,xx1,xx2,reduceIte,xx3,xx4,reduceCtorEq],?_⟩
  rw [Option.getD_some,callHp_mr (by omega)]
  have hv0:∀ y,vs1 1 y≠0:=fun y e=>by
    have h:=hN1.hp 5000
    simp only [AObj.uses,go_sem,yz0,xx9,xx8,xx6,xx7,xx5,xx0,xx1,xx2,reduceIte,xx3,xx4,reduceCtorEq] at h
    exact hN1.new 1 y (by rw [e];exact h.1)
  simp only [renL_rwp,Bzeq,yzq,yz1,Nat.not_lt_zero,range1,yzx,yz10,yz1b,yz19,yzz,yz1d,yz1c,yz1a,yzy,yzs,yzf,yz3,yzw,yzr,yzp,yzo,yzu,yz8,yzd,yze,yzc,yzi,yzk,yz4,yz7,yz9,yzb,yzh,yzj,List.range_zero,yz6,yz5,yza,yzv,yzl,yzt,AVal.fresh,freshL,yz2,yzg,AObj.fresh,id,Option.isSome_some,or_true,true_or,go_sem,yz0,xx9,xx8,xx6,xx7,xx5,xx0,xx1,xx2,reduceIte,xx3,xx4,reduceCtorEq]
  intro vs2 U2 hN2
  clear hN2
  have hsi:=fun l (h:L .gone l 5000=.box 0 (srcC code at_ seed))=>sv_inj (hp:=L .gone l) (r:=5000) h (fun x y e=>(hN1.inj _ _ _ _ e).2) hv0
  have hs0:=fun l (h:L .gone l 5000=.box 0 (srcC code at_ seed))=>(sv_m (s:=vs1 1) h:sv (L .gone l) [5000] (vs1 1) 0=0)
  generalize hl0:[(2,AObj.box (vs0 0 0) [iv 0,AVal.val (Value.slice none 0 0)]),(3,AObj.gone),(6,AObj.gone),(10,AObj.gone),(61,AObj.gone),(73,AObj.gone),(77,AObj.gone),(5000,AObj.box 0 (srcC code at_ seed)),(901,AObj.gone)]=l0
  have hi:=hsi l0 (by rw [← hl0];rfl)
  have h0:=hs0 l0 (by rw [← hl0];rfl)
  generalize sv (L .gone l0) [5000] (vs1 1)=f at hi h0 ⊢
  rw [h0]
  have A0:Aut q ((qs.map fun p=>(f p.1,p.2)).map (·.2)):=by rw [List.map_map];exact A
  have hd0:=hd.ren hi
  generalize (qs.map fun p=>(f p.1,p.2))=ps0 at A0 hd0 ⊢
  refine call_funB (k_one code a1 s1 8 hb (by omega)) rfl qCS qCS ?_
  rintro cs' x ⟨a2,s2,b2,rfl,g1,g2,rfl⟩
  simp only [Bzep,yzq,yz1,go_sem,yz0,xx9,xx8,xx6,xx7,xx5,xx0,xx1,xx2,reduceIte,xx3,xx4,reduceCtorEq]
  refine ⟨fun _ vs3 U3 hN3=>?_,fun _=>?_⟩
  · refine call_con (r:=5000) (k_DrawnN code a2 s2 10 hb (by omega) (by omega)) rfl (by simp only [Bool.not_true,rowIs,boxIs,coe_argN,yz1e,coe_ro_o,yz12,yzn,coe_any,coe_val,coe_ro,yz15,yz17,coe_st,yz16,coe_rp,yz18,coe_clo,coe_own0,coe_ptr0,yz13,coeL_rws,coeL_rwn,L_hit,L_miss,L_nil,xx3,ne_eq,reduceCtorEq,not_false_eq_true,true_and,and_true,and_self,exists_eq_left,exists_eq_right,List.mem_cons,List.not_mem_nil,or_false,AObj.row.injEq,AObj.box.injEq,exists_eq_left',exists_and_left,exists_eq,Nat.zero_lt_one,Nat.lt_add_one,List.map_cons,List.map_nil,AObj.ver,xx5,not_true_eq_false]) (by simp only [Bool.not_true,rowIs,boxIs,coe_argN,yz1e,coe_ro_o,yz12,yzn,coe_any,coe_val,coe_ro,yz15,yz17,coe_st,yz16,coe_rp,yz18,coe_clo,coe_own0,coe_ptr0,yz13,coeL_rws,coeL_rwn,L_hit,L_miss,L_nil,xx3,ne_eq,reduceCtorEq,not_false_eq_true,true_and,and_true,and_self,exists_eq_left,exists_eq_right,List.mem_cons,List.not_mem_nil,or_false,AObj.row.injEq,AObj.box.injEq,exists_eq_left',exists_and_left,exists_eq,Nat.zero_lt_one,Nat.lt_add_one,List.map_cons,List.map_nil,AObj.ver,xx5,not_true_eq_false]) ?_
    rintro outs rows res ⟨q',qs',vq',a3,s3,A',hd',hq',g3,g4,rfl,rfl,rfl⟩
    refine ⟨rfl,by simp,by rw [Option.getD_some,yzl];simp only [go_sem,yz0,xx9,xx8,xx6,xx7,xx5,xx0,xx1,xx2,reduceIte,xx3,xx4,reduceCtorEq],?_⟩
    rw [Option.getD_some,callHp_mr (by omega)]
    have hv1:∀ y,vs3 1 y≠0:=fun y e=>by
      have h:=hN3.hp 5000
      simp only [AObj.uses,go_sem,yz0,xx9,xx8,xx6,xx7,xx5,xx0,xx1,xx2,reduceIte,xx3,xx4,reduceCtorEq] at h
      exact hN3.new 1 y (by rw [e];exact h.1)
    simp only [renL_rwp,yzq,yz1,Nat.not_lt_zero,range1,yzx,yz10,yz1b,yz19,yzz,yz1d,yz1c,yz1a,yzy,yzs,yzf,yz3,yzw,yzr,yzp,yzo,yzu,yz8,yzd,yze,yzc,yzi,yzk,yz4,yz7,yz9,yzb,yzh,yzj,List.range_zero,yz6,yz5,yza,yzv,yzl,yzt,AVal.fresh,freshL,yz2,yzg,AObj.fresh,id,Option.isSome_some,or_true,true_or,go_sem,yz0,xx9,xx8,xx6,xx7,xx5,xx0,xx1,xx2,reduceIte,xx3,xx4,reduceCtorEq]
    have hsi:=fun l (h:L .gone l 5000=.box 0 (srcC code a2 s2))=>sv_inj (hp:=L .gone l) (r:=5000) h (fun x y e=>(hN3.inj _ _ _ _ e).2) hv1
    have hs0:=fun l (h:L .gone l 5000=.box 0 (srcC code a2 s2))=>(sv_m (s:=vs3 1) h:sv (L .gone l) [5000] (vs3 1) 0=0)
    generalize hl1:[(2,AObj.box (vs0 0 0) [iv 0,AVal.val (Value.slice none 0 0)]),(3,AObj.box (vs1 2 0) [iv q,.own 6 (f vq)]),(6,AObj.row (f vq) 1 true (rwp ps0)),(10,AObj.gone),(61,AObj.gone),(73,AObj.gone),(77,AObj.gone),(5000,AObj.box 0 (srcC code a2 s2)),(901,AObj.gone)]=l1
    have hi1:=hsi l1 (by rw [← hl1];rfl)
    have h01:=hs0 l1 (by rw [← hl1];rfl)
    generalize sv (L .gone l1) [5000] (vs3 1)=f1 at hi1 h01 ⊢
    rw [h01]
    have A1:Aut q' ((qs'.map fun p=>(f1 p.1,p.2)).map (·.2)):=by rw [List.map_map];exact A'
    have hd1:=hd'.ren hi1
    generalize (qs'.map fun p=>(f1 p.1,p.2))=ps1 at A1 hd1 ⊢
    exact h4 _ (vs0 0 0) (vs1 2 0) 10 (f1 vq') _ _ a3 s3 q' ps1 A1 hd1 (by omega) (.inr ⟨rfl,rfl⟩) (by simp only [← hl1,go_sem,yz0,xx9,xx8,xx6,xx7,xx5,xx0,xx1,xx2,reduceIte,xx3,xx4,reduceCtorEq];try rfl)
  · exact h4 _ (vs0 0 0) (vs1 2 0) 6 (f vq) _ .gone a2 s2 q ps0 A0 hd0 (by omega) (.inl ⟨rfl,rfl⟩) (by simp only [go_sem,yz0,xx9,xx8,xx6,xx7,xx5,xx0,xx1,xx2,reduceIte,xx3,xx4,reduceCtorEq];try rfl)
end Go.Ab
namespace Go.Ab
open Go.Proofs
def FRen (F:Int→List (Nat×List Int)→Prop):Prop:=∀ n ps (f:Nat→Nat),(∀ x y,f x=f y→x=y)→F n ps→F n (ps.map fun p=>(f p.1,p.2))
theorem New.box {vs:Nat→Nat→Nat} {U:Nat→Prop} {σ:St} {r v:Nat} {cs:List AVal} (h:New vs U σ) (hr:σ.hp r=.box v cs) (i y:Nat):vs i y≠v:=fun e=>by
  have h1:=h.hp r
  rw [hr] at h1
  simp only [AObj.uses] at h1
  exact h.new i y (by rw [e];exact h1.1)
theorem call_lo {P:Program} {F:Int→List (Nat×List Int)→Prop} (hF:FRen F) {σ:St} {g:FuncId} {As args:List AVal} {d:Nat} {s:Nat→Nat} {K:St→Prop} {r v:Nat} {code:List Int} {a s0 k:Int}
    (h:Con P g [.box 0 (srcC code a s0)] (.ptr 5000 0 0 :: args) true fun outs rows res=>∃ n ps v a' s',F n ps∧a≤a'∧a'≤a+k∧outs=[.box 0 (srcC code a' s')]∧rows=[.row v 1 true (rwp ps)]∧res=.st [iv n,.own 6000 v])
    (hr:σ.hp r=.box v (srcC code a s0)) (hs:∀ x y,s x=s y→x=y) (hv:∀ y,s y≠v) (hco:CoeL σ.hp [r] false args As) (hd:σ.hp d=.gone)
    (hk:∀ n ps v' a' s',F n ps→a≤a'→a'≤a+k→K (St.put ⟨σ.tm,upd (upd σ.hp r (.box v (srcC code a' s'))) d (.row v' 1 true (rwp ps))⟩ (some d) (.st [iv n,.own d v']))):wpCall P false σ g (.ptr r v 0 :: As) (some d) s K:=by
  have hne:d≠r:=fun e=>by rw [e,hr] at hd;cases hd
  refine call_con (r:=r) h hr (by simp only [Bool.not_true,rowIs,boxIs,coe_argN,yz1e,coe_ro_o,yz12,yzn,coe_any,coe_val,coe_ro,yz15,yz17,coe_st,yz16,coe_rp,yz18,coe_clo,coe_own0,coe_ptr0,yz13,coeL_rws,coeL_rwn,L_hit,L_miss,L_nil,xx3,ne_eq,reduceCtorEq,not_false_eq_true,true_and,and_true,and_self,exists_eq_left,exists_eq_right,List.mem_cons,List.not_mem_nil,or_false,AObj.row.injEq,AObj.box.injEq,exists_eq_left',exists_and_left,exists_eq,Nat.zero_lt_one,Nat.lt_add_one,List.map_cons,List.map_nil,AObj.ver,xx5,not_true_eq_false]) (by rw [Bool.not_true,yzn,coe_ptr0,hr];exact ⟨rfl,hco⟩) ?_
  rintro outs rows res ⟨n,ps,w,a',s',hf,h1,h2,rfl,rfl,rfl⟩
  refine ⟨rfl,by simp,by rw [Option.getD_some,yzl];exact hd,?_⟩
  rw [Option.getD_some,callHp_mr hne]
  have hi:=sv_inj (hp:=σ.hp) (r:=r) hr hs hv
  have h0:sv σ.hp [r] s 0=v:=sv_m hr
  simp only [yzp,yzo,renL_rwp,renL_flat _ flat_srcC,yz1a,yzf,yzs,yzx,List.length_singleton,yz4,h0]
  exact hk n _ _ a' s' (hF n ps _ hi hf) h1 h2
theorem call_lo0 {P:Program} {F:Int→List (Nat×List Int)→Prop} (hF:FRen F) {σ:St} {g:FuncId} {As args:List AVal} {d:Nat} {s:Nat→Nat} {K:St→Prop}
    (h:Con P g [] args true fun outs rows res=>outs=[]∧∃ n v ps,F n ps∧rows=[.row v 1 true (rwp ps)]∧res=.st [iv n,.own 6000 v])
    (hs:∀ x y,s x=s y→x=y) (hco:CoeL σ.hp [] false args As) (hd:σ.hp d=.gone)
    (hk:∀ n ps v',F n ps→K (St.put ⟨σ.tm,upd σ.hp d (.row v' 1 true (rwp ps))⟩ (some d) (.st [iv n,.own d v']))):wpCall P false σ g As (some d) s K:=by
  refine call_sh h hco (fun e=>by cases e) ?_
  rintro outs rows res ⟨rfl,n,w,ps,hf,rfl,rfl⟩
  refine ⟨rfl,by simp,by rw [Option.getD_some,yzl];exact hd,?_⟩
  rw [Option.getD_some,yz5]
  simp only [yzo,renL_rwp,yz1a,yzf,yzs,yzx,List.length_singleton,yz4]
  exact hk n _ _ (hF n ps _ hs hf)
theorem call_lo2 {P:Program} {F:Int→List (Nat×List Int)→Prop} (hF:FRen F) {σ:St} {g:FuncId} {As args:List AVal} {d:Nat} {s:Nat→Nat} {K:St→Prop} {r v:Nat} {code:List Int} {a s0 k:Int}
    (h:Con P g [.box 0 (srcC code a s0)] (.ptr 5000 0 0 :: args) true fun outs rows res=>∃ n ps v w xs a' s',F n ps∧a≤a'∧a'≤a+k∧outs=[.box 0 (srcC code a' s')]∧rows=[.row v 1 true (rwp ps),.row w 1 true (ints xs)]∧res=.tup [.st [iv n,.own 6000 v],.own 6001 w])
    (hr:σ.hp r=.box v (srcC code a s0)) (hs:∀ x y,s x=s y→x=y) (hv:∀ y,s y≠v) (hco:CoeL σ.hp [r] false args As) (hd:σ.hp d=.gone) (hd2:σ.hp (d+1000)=.gone)
    (hk:∀ n ps v' w' xs a' s',F n ps→a≤a'→a'≤a+k→K (St.put ⟨σ.tm,upd (upd (upd σ.hp r (.box v (srcC code a' s'))) d (.row v' 1 true (rwp ps))) (d+1000) (.row w' 1 true (ints xs))⟩ (some d) (.tup [.st [iv n,.own d v'],.own (d+1000) w']))):wpCall P false σ g (.ptr r v 0 :: As) (some d) s K:=by
  have hne:d≠r:=fun e=>by rw [e,hr] at hd;cases hd
  have hne2:d+1000≠r:=fun e=>by rw [e,hr] at hd2;cases hd2
  refine call_con (r:=r) h hr (by simp only [Bool.not_true,rowIs,boxIs,coe_argN,yz1e,coe_ro_o,yz12,yzn,coe_any,coe_val,coe_ro,yz15,yz17,coe_st,yz16,coe_rp,yz18,coe_clo,coe_own0,coe_ptr0,yz13,coeL_rws,coeL_rwn,L_hit,L_miss,L_nil,xx3,ne_eq,reduceCtorEq,not_false_eq_true,true_and,and_true,and_self,exists_eq_left,exists_eq_right,List.mem_cons,List.not_mem_nil,or_false,AObj.row.injEq,AObj.box.injEq,exists_eq_left',exists_and_left,exists_eq,Nat.zero_lt_one,Nat.lt_add_one,List.map_cons,List.map_nil,AObj.ver,xx5,not_true_eq_false]) (by rw [Bool.not_true,yzn,coe_ptr0,hr];exact ⟨rfl,hco⟩) ?_
  rintro outs rows res ⟨n,ps,w,w2,xs,a',s',hf,h1,h2,rfl,rfl,rfl⟩
  refine ⟨rfl,by simp,by rw [Option.getD_some,yzt];exact ⟨hd,hd2⟩,?_⟩
  rw [Option.getD_some,callHp_mrr hne hne2]
  have hi:=sv_inj (hp:=σ.hp) (r:=r) hr hs hv
  have h0:sv σ.hp [r] s 0=v:=sv_m hr
  have e2:([AObj.row w 1 true (rwp ps),AObj.row w2 1 true (ints xs)]:List AObj).length=2:=rfl
  simp only [yzp,yzo,renL_rwp,renL_flat _ flat_srcC,yz1a,yzy,yzf,yzs,yz3,yzx,e2,yz4,yz7,h0]
  exact hk n _ _ _ xs a' s' (hF n ps _ hi hf) h1 h2
def FAut (m:Int) (n:Int) (ps:List (Nat×List Int)):Prop:=Aut n (ps.map (·.2))∧DJ ps∧n≤m
def FLo (n:Int) (ps:List (Nat×List Int)):Prop:=(ps.length≤3→DJ ps)∧ps.length≤10∧-1≤n∧n≤11∧∀ p∈ps,p.2.length≤10
theorem map_named {ps:List (Nat×List Int)} {f:Nat→Nat}:(ps.map fun p=>(f p.1,p.2)).map (·.2)=ps.map (·.2):=by rw [List.map_map];rfl
theorem FAut_ren (m:Int):FRen (FAut m):=by
  rintro n ps f hf ⟨h1,h2,h3⟩
  exact ⟨by rw [map_named];exact h1,h2.ren hf,h3⟩
theorem FLo_ren:FRen FLo:=by
  rintro n ps f hf ⟨h1,h2,h3,h4,h5⟩
  refine ⟨fun h=>(h1 (by simpa using h)).ren hf,by simpa using h2,h3,h4,fun p hp=>?_⟩
  obtain ⟨q,hq,rfl⟩:=List.mem_map.1 hp
  exact h5 q hq
theorem FAut.lo {m n:Int} {ps:List (Nat×List Int)} (h:FAut m n ps):FLo n ps:=by
  obtain ⟨A,hd,hm⟩:=h
  have n1:=A.n1
  have n2:=A.n2
  have l2:=A.l2
  rw [List.length_map] at l2
  exact ⟨fun _=>hd,by omega,by omega,by omega,fun p hp=>by have:=(A.row p.2 (List.mem_map.2 ⟨p,hp,rfl⟩)).1;omega⟩
theorem DJ_refrozen {A2 C2:List (Nat×List Int)} {b:Nat×List Int} {m:Nat} {cur:List Int} (hd:DJ (A2 ++ b :: C2))
    (hf:∀ n k'' cs'',AVal.ro (some (some (n+1))) k'' cs''∈rwp A2 ++ AVal.own 901 m :: rwp C2→cs''≠[]→n≠m):DJ (A2 ++ (m,cur) :: C2):=DJ_in hd fun p hp=>by
  by_cases e:p.2=[]
  · exact .inl e
  · refine .inr (hf p.1 1 (ints p.2) ?_ (by simpa using e))
    rcases List.mem_append.1 hp with h | h
    · exact List.mem_append.2 (.inl (List.mem_map.2 ⟨p,h,rfl⟩))
    · exact List.mem_append.2 (.inr (List.mem_cons.2 (.inr (List.mem_map.2 ⟨p,h,rfl⟩))))
theorem Aut_put {n:Int} {A2 C2:List (Nat×List Int)} {b:Nat×List Int} {u:Nat} {cur:List Int} (A:Aut n ((A2 ++ b :: C2).map (·.2))) (hl:cur.length=b.2.length) (hm:∀ x∈cur,0≤x∧x<n):Aut n ((A2 ++ (u,cur) :: C2).map (·.2)):=by
  have l1:=A.l1
  have l2:=A.l2
  have hbr:=A.row b.2 (by simp)
  refine ⟨A.n1,A.n2,by rw [List.length_map] at l1 ⊢;simpa using l1,by rw [List.length_map] at l2 ⊢;simpa using l2,fun row hr=>?_⟩
  rw [List.map_append,List.map_cons,List.mem_append,List.mem_cons] at hr
  rcases hr with h | h | h
  · exact A.row row (by rw [List.map_append];exact List.mem_append.2 (.inl h))
  · rw [h];exact ⟨by dsimp only;omega,hm⟩
  · exact A.row row (by rw [List.map_append,List.map_cons];exact List.mem_append.2 (.inr (List.mem_cons_of_mem _ h)))
theorem k_l02Drawn (code:List Int) (at_ seed:Int) (hb:∀ x∈code,0≤x∧x≤255) (ha:0≤at_∧at_≤10000) :
    Con Try.prog nz3c [.box 0 (srcC code at_ seed)] [.ptr 5000 0 0] true fun outs rows res=>∃ n ps v a' s',FLo n ps∧at_≤a'∧a'≤at_+5000∧outs=[.box 0 (srcC code a' s')]∧rows=[.row v 1 true (rwp ps)]∧res=.st [iv n,.own 6000 v]:=by
  refine con_sh mixed czhr rfl (by simp) ?_
  generalize hQ:finQ _=Q
  simp only [Az9,Bzcg,yzq,yz1,go_sem,yz0,xx9,xx8,xx6,xx7,xx5,xx0,xx1,xx2,reduceIte,xx3,xx4,reduceCtorEq]
  intro vs0 U0 hN0 vs1 U1 hN1
  refine call_funB (k_pick code at_ seed 6 hb (by omega)) rfl qCS qCS ?_
  rintro cs' x ⟨a1,s1,b1,rfl,g1,g2,rfl,g3,g4⟩
  by_cases k0:b1=0
  · subst k0
    simp only [Bzu,Bzt,beq_self_eq_true,yzq,yz1,go_sem,yz0,xx9,xx8,xx6,xx7,xx5,xx0,xx1,xx2,reduceIte,xx3,xx4,reduceCtorEq]
    intro vs2 U2 hN2 vs3 U3 hN3
    refine call_funB (k_pick code a1 s1 6 hb (by omega)) rfl qCS qCS ?_
    rintro cs' x ⟨a2,s2,b2,rfl,g5,g6,rfl,g7,g8⟩
    have w1:IntKind.i64.wrap (2+b2)=2+b2:=w64 (by omega)
    simp only [w1,yzq,yz1,go_sem,yz0,xx9,xx8,xx6,xx7,xx5,xx0,xx1,xx2,reduceIte,xx3,xx4,reduceCtorEq]
    refine call_lo0 (FAut_ren 10) (Con.mono (k_l02SlowN (2+b2) (by omega)) ?_) (fun x y e=>(hN3.inj _ _ _ _ e).2) qCS qGN ?_
    · rintro outs rows res ⟨h1,v,ps,h2,h3,h4,h5⟩
      exact ⟨h1,_,v,ps,⟨h2,h3,by omega⟩,h4,h5⟩
    intro n ps v' hf
    simp only [← hQ,Az9,yzq,yz1,go_sem,yz0,xx9,xx8,xx6,xx7,xx5,xx0,xx1,xx2,reduceIte,xx3,xx4,reduceCtorEq]
    refine ⟨[14],by simp,by simp,by simp,?_⟩
    simp only [range1,List.length_singleton,renL_rwp,Nat.not_lt_zero,range1,yzx,yz10,yz1b,yz19,yzz,yz1d,yz1c,yz1a,yzy,yzs,yzf,yz3,yzw,yzr,yzp,yzo,yzu,yz8,yzd,yze,yzc,yzi,yzk,yz4,yz7,yz9,yzb,yzh,yzj,List.range_zero,yz6,yz5,yza,yzv,yzl,yzt,AVal.fresh,freshL,yz2,yzg,AObj.fresh,id,Option.isSome_some,or_true,true_or,go_sem,yz0,xx9,xx8,xx6,xx7,xx5,xx0,xx1,xx2,reduceIte,xx3,xx4,reduceCtorEq]
    exact ⟨n,ps,v',a2,s2,hf.lo,by omega,by omega,rfl,by simp,rfl⟩
  by_cases k1:b1=1
  · subst k1
    simp only [beq_false_of_ne (show (1:Int)≠0 by omega),Bzu,Bzt,Bz2a,beq_self_eq_true,yzq,yz1,go_sem,yz0,xx9,xx8,xx6,xx7,xx5,xx0,xx1,xx2,reduceIte,xx3,xx4,reduceCtorEq]
    intro vs2 U2 hN2 vs3 U3 hN3 vs4 U4 hN4
    refine call_lo2 (k:=2000) (FAut_ren 10) (Con.mono (k_l01Alike code a1 s1 hb (by omega)) ?_) rfl (fun x y e=>(hN4.inj _ _ _ _ e).2) (hN4.box (r:=5000) rfl 1) qCS qGN qGN ?_
    · rintro outs rows res ⟨n,ps,v,w,xs,a',s',h1,h2,h3,h4,h5,h6⟩
      exact ⟨n,ps,v,w,xs,a',s',⟨h1,h2,by omega⟩,h4,h5,h6⟩
    intro n ps v' w' xs a2 s2 hf h1 h2
    simp only [yzq,yz1,go_sem,yz0,xx9,xx8,xx6,xx7,xx5,xx0,xx1,xx2,reduceIte,xx3,xx4,reduceCtorEq]
    simp only [Bzcc,← hQ,Az9,yzq,yz1,go_sem,yz0,xx9,xx8,xx6,xx7,xx5,xx0,xx1,xx2,reduceIte,xx3,xx4,reduceCtorEq]
    intro vs5 U5 hN5
    refine ⟨[19],by simp,by simp,by simp,?_⟩
    simp only [range1,List.length_singleton,renL_rwp,Nat.not_lt_zero,range1,yzx,yz10,yz1b,yz19,yzz,yz1d,yz1c,yz1a,yzy,yzs,yzf,yz3,yzw,yzr,yzp,yzo,yzu,yz8,yzd,yze,yzc,yzi,yzk,yz4,yz7,yz9,yzb,yzh,yzj,List.range_zero,yz6,yz5,yza,yzv,yzl,yzt,AVal.fresh,freshL,yz2,yzg,AObj.fresh,id,Option.isSome_some,or_true,true_or,go_sem,yz0,xx9,xx8,xx6,xx7,xx5,xx0,xx1,xx2,reduceIte,xx3,xx4,reduceCtorEq]
    exact ⟨n,ps,v',a2,s2,hf.lo,by omega,by omega,rfl,by simp,rfl⟩
  by_cases k2:b1=2
  · subst k2
    simp only [beq_false_of_ne (show (2:Int)≠0 by omega),beq_false_of_ne (show (2:Int)≠1 by omega),Bzu,Bzt,Bz2a,Bz5e,beq_self_eq_true,yzq,yz1,go_sem,yz0,xx9,xx8,xx6,xx7,xx5,xx0,xx1,xx2,reduceIte,xx3,xx4,reduceCtorEq]
    intro vs2 U2 hN2 vs3 U3 hN3 vs4 U4 hN4 vs5 U5 hN5
    refine call_lo (k:=3000) FLo_ren (Con.mono (k_l01Bent code a1 s1 hb (by omega)) ?_) rfl (fun x y e=>(hN5.inj _ _ _ _ e).2) (hN5.box (r:=5000) rfl 1) qCS qGN ?_
    · rintro outs rows res ⟨n,ps,v,a',s',h1,h2,h3,h4,h5,h6⟩
      exact ⟨n,ps,v,a',s',⟨h1,h2,h3,h4,h5⟩,h6⟩
    intro n ps v' a2 s2 hf h1 h2
    simp only [← hQ,Az9,yzq,yz1,go_sem,yz0,xx9,xx8,xx6,xx7,xx5,xx0,xx1,xx2,reduceIte,xx3,xx4,reduceCtorEq]
    refine ⟨[26],by simp,by simp,by simp,?_⟩
    simp only [range1,List.length_singleton,renL_rwp,Nat.not_lt_zero,range1,yzx,yz10,yz1b,yz19,yzz,yz1d,yz1c,yz1a,yzy,yzs,yzf,yz3,yzw,yzr,yzp,yzo,yzu,yz8,yzd,yze,yzc,yzi,yzk,yz4,yz7,yz9,yzb,yzh,yzj,List.range_zero,yz6,yz5,yza,yzv,yzl,yzt,AVal.fresh,freshL,yz2,yzg,AObj.fresh,id,Option.isSome_some,or_true,true_or,go_sem,yz0,xx9,xx8,xx6,xx7,xx5,xx0,xx1,xx2,reduceIte,xx3,xx4,reduceCtorEq]
    exact ⟨n,ps,v',a2,s2,hf,by omega,by omega,rfl,by simp,rfl⟩
  simp only [beq_false_of_ne k0,beq_false_of_ne k1,beq_false_of_ne k2,Bzu,Bzt,Bz2a,Bz5e,Bzcf,yzq,yz1,go_sem,yz0,xx9,xx8,xx6,xx7,xx5,xx0,xx1,xx2,reduceIte,xx3,xx4,reduceCtorEq]
  intro vs2 U2 hN2 vs3 U3 hN3 vs4 U4 hN4 vs5 U5 hN5
  refine call_lo (k:=1000) (FAut_ren 6) (Con.mono (k_DrawnN code a1 s1 6 hb (by omega) (by omega)) ?_) rfl (fun x y e=>(hN5.inj _ _ _ _ e).2) (hN5.box (r:=5000) rfl 1) qCS qGN ?_
  · rintro outs rows res ⟨n,ps,v,a',s',h1,h2,h3,h4,h5,h6⟩
    exact ⟨n,ps,v,a',s',⟨h1,h2,h3⟩,h4,h5,h6⟩
  intro n ps v' a2 s2 hf h1 h2
  simp only [Bzce,yzq,yz1,go_sem,yz0,xx9,xx8,xx6,xx7,xx5,xx0,xx1,xx2,reduceIte,xx3,xx4,reduceCtorEq]
  intro vs6 U6 hN6
  refine call_funB (k_one code a2 s2 2 hb (by omega)) rfl qCS qCS ?_
  rintro cs' x ⟨a3,s3,b3,rfl,g5,g6,rfl⟩
  obtain ⟨A,hdj,hn6⟩:=hf
  have l1:=A.l1
  have l2:=A.l2
  have n1:=A.n1
  have n2:=A.n2
  rw [List.length_map] at l1 l2
  have hend:∀ (σ:St) (v2 v5:Nat) (ps:List (Nat×List Int)) (a s:Int),FLo n ps→at_≤a∧a≤at_+5000 →
      σ.keep [2,5] [2,3,5,14,19,26,28,1019,5000,901]=⟨L .any [(2,.ptr 2 v2 0),(5,.ptr 5 v5 0)],
        L .gone [(2,.box v2 [iv 0,.val (.slice none 0 0)]),(3,.gone),(5,.box v5 [iv n,.own 28 v']),(14,.gone),(19,.gone),(26,.gone),(28,.row v' 1 true (rwp ps)),(1019,.gone),(5000,.box 0 (srcC code a s)),(901,.gone)]⟩ →
      wpD Try.prog Bz2b Q σ:=by
    intro σ v2 v5 ps a s hf ha' hS
    unfold Bz2b
    rw [yzq,hS]
    simp only [wpD_gh]
    intro _
    refine ⟨[],?_⟩
    simp only [gwp_nil,yzq,yz1,go_sem,yz0,xx9,xx8,xx6,xx7,xx5,xx0,xx1,xx2,reduceIte,xx3,xx4,reduceCtorEq]
    intro vs U hN
    simp only [← hQ,Az9,go_sem,yz0,xx9,xx8,xx6,xx7,xx5,xx0,xx1,xx2,reduceIte,xx3,xx4,reduceCtorEq]
    refine ⟨[28],by simp,by simp,by simp,?_⟩
    simp only [range1,List.length_singleton,renL_rwp,Nat.not_lt_zero,range1,yzx,yz10,yz1b,yz19,yzz,yz1d,yz1c,yz1a,yzy,yzs,yzf,yz3,yzw,yzr,yzp,yzo,yzu,yz8,yzd,yze,yzc,yzi,yzk,yz4,yz7,yz9,yzb,yzh,yzj,List.range_zero,yz6,yz5,yza,yzv,yzl,yzt,AVal.fresh,freshL,yz2,yzg,AObj.fresh,id,Option.isSome_some,or_true,true_or,go_sem,yz0,xx9,xx8,xx6,xx7,xx5,xx0,xx1,xx2,reduceIte,xx3,xx4,reduceCtorEq]
    exact ⟨n,ps,v',a,s,hf,ha'.1,ha'.2,rfl,by simp,rfl⟩
  cases b3 with
  | false =>
    simp only [Bz5f,yzq,yz1,go_sem,yz0,xx9,xx8,xx6,xx7,xx5,xx0,xx1,xx2,reduceIte,xx3,xx4,reduceCtorEq]
    exact hend _ (vs0 0 0) (vs5 2 0) ps a3 s3 (FAut.lo ⟨A,hdj,hn6⟩) (by omega) (by simp only [go_sem,yz0,xx9,xx8,xx6,xx7,xx5,xx0,xx1,xx2,reduceIte,xx3,xx4,reduceCtorEq];try rfl)
  | true =>
    simp only [Bz5f,rwp_len,yzq,yz1,go_sem,yz0,xx9,xx8,xx6,xx7,xx5,xx0,xx1,xx2,reduceIte,xx3,xx4,reduceCtorEq]
    intro vs7 U7 hN7 hM7
    refine call_funB (k_pick code a3 s3 ps.length hb (by omega)) rfl qCS qCS ?_
    rintro cs' x ⟨a4,s4,x0,rfl,g7,g8,rfl,g9,g10⟩
    have hat:x0.toNat<ps.length:=by omega
    obtain ⟨A2,b,C2,rfl,hAk⟩:=rwp_split hat
    have hbr:=A.row b.2 (by simp)
    have hbn:b.2≠[]:=fun e=>by rw [e] at hbr;simp at hbr;omega
    have F0a:=DJ_out hdj hbn
    simp only [Bzcd,yzq,wpD_gh,go_sem,yz0,xx9,xx8,xx6,xx7,xx5,xx0,xx1,xx2,reduceIte,xx3,xx4,reduceCtorEq]
    intro _
    refine ⟨[.thaw 28 x0.toNat 901],gwp_thaw (n:=b.1) rfl (rwp_get hAk.symm) (by simpa using hbn) rfl fun m1=>?_⟩
    have hset:(woL b.1 (rwp (A2 ++ b :: C2))).set x0.toNat (AVal.own 901 m1)=rwp A2 ++ AVal.own 901 m1 :: rwp C2:=by rw [← hAk];exact woL_set F0a
    have ho1:(rwp A2 ++ AVal.own 901 m1 :: rwp C2).getD x0.toNat .any=.own 901 m1:=own_at hAk.symm
    have hol:(rwp A2 ++ AVal.own 901 m1 :: rwp C2).length=A2.length+(C2.length+1):=by rw [List.length_append,List.length_cons,rwp_len,rwp_len]
    have hkl:x0.toNat<(rwp A2 ++ AVal.own 901 m1 :: rwp C2).length:=by omega
    simp only [hset,woT,woO,woL_cons,woL_nil,woV_val,woV_own,wo_ptr,wo_o,woL_ints,wo_st,woO_row,woO_box,woO_gone,wo_any,gwp_nil,yzq,yz1,go_sem,yz0,xx9,xx8,xx6,xx7,xx5,xx0,xx1,xx2,reduceIte,xx3,xx4,reduceCtorEq]
    intro vs8 U8 hN8
    simp only [ho1,go_sem,yz0,xx9,xx8,xx6,xx7,xx5,xx0,xx1,xx2,reduceIte,xx3,xx4,reduceCtorEq]
    refine ⟨⟨g9,hkl⟩,hkl,?_⟩
    refine call_funBN (k_pick code a4 s4 n hb (by omega)) rfl (by simp) qCS qCS ⟨srcC code a4 0,.int .i64 0,⟨a4,0,0,rfl,by omega,by omega,rfl,by omega,.inr rfl⟩,flat_srcC⟩ ?_
    rintro cs' x ⟨a5,s5,y1,rfl,p1,p2,rfl,p3,p4⟩
    have hy1:y1.toNat<b.2.length:=by omega
    simp only [ho1,yzq,yz1,go_sem,yz0,xx9,xx8,xx6,xx7,xx5,xx0,xx1,xx2,reduceIte,xx3,xx4,reduceCtorEq]
    refine ⟨⟨g9,hkl⟩,hkl,?_⟩
    refine call_funBN (k_pick code a5 s5 n hb (by omega)) rfl (by simp) qCS qCS ⟨srcC code a5 0,.int .i64 0,⟨a5,0,0,rfl,by omega,by omega,rfl,by omega,.inr rfl⟩,flat_srcC⟩ ?_
    rintro cs' x ⟨a6,s6,y2,rfl,p5,p6,rfl,p7,p8⟩
    have hy2:y2.toNat<b.2.length:=by omega
    simp only [yz14 hy2,yzq,yz1,go_sem,yz0,xx9,xx8,xx6,xx7,xx5,xx0,xx1,xx2,reduceIte,xx3,xx4,reduceCtorEq]
    refine ⟨⟨p7,hy2⟩,hy2,⟨p3,hy1⟩,hy1,?_⟩
    have hcl:=lput_len (xs:=b.2) (v:=b.2.getD y2.toNat 0) hy1
    have hcm:=lput_mem (xs:=b.2) (i:=y1.toNat) (v:=b.2.getD y2.toNat 0) (Q:=fun z=>0≤z∧z<n) hbr.2 (hbr.2 _ (yzm hy2 0))
    simp only [ints_put]
    generalize hcu:b.2.take y1.toNat ++ [b.2.getD y2.toNat 0] ++ b.2.drop (y1.toNat+1)=cur at hcl hcm ⊢
    simp only [Bz2b,yzq,wpD_gh,go_sem,yz0,xx9,xx8,xx6,xx7,xx5,xx0,xx1,xx2,reduceIte,xx3,xx4,reduceCtorEq]
    intro hD
    refine ⟨[.rf 28 x0.toNat 901],gwp_rf (k:=1) (nn:=true) rfl (own_get hAk.symm) (by decide) rfl fun hf=>?_⟩
    have D1:=DJ_refrozen hdj hf (cur:=cur)
    have A1:=Aut_put A (u:=m1) hcl hcm
    have hset4:∀ X:AVal,(rwp A2 ++ AVal.own 901 m1 :: rwp C2).set x0.toNat X=rwp A2 ++ X :: rwp C2:=fun X=>by
      rw [← hAk,List.set_append_right _ _ (by rw [rwp_len];exact Nat.le_refl _),rwp_len,Nat.sub_self];rfl
    simp only [hset4,frNm_t,rwp_cat,gwp_nil,yzq,yz1,go_sem,yz0,xx9,xx8,xx6,xx7,xx5,xx0,xx1,xx2,reduceIte,xx3,xx4,reduceCtorEq]
    intro vs9 U9 hN9
    simp only [← hQ,Az9,go_sem,yz0,xx9,xx8,xx6,xx7,xx5,xx0,xx1,xx2,reduceIte,xx3,xx4,reduceCtorEq]
    refine ⟨[28],by simp,by simp,by simp,?_⟩
    simp only [range1,List.length_singleton,renL_rwp,Nat.not_lt_zero,range1,yzx,yz10,yz1b,yz19,yzz,yz1d,yz1c,yz1a,yzy,yzs,yzf,yz3,yzw,yzr,yzp,yzo,yzu,yz8,yzd,yze,yzc,yzi,yzk,yz4,yz7,yz9,yzb,yzh,yzj,List.range_zero,yz6,yz5,yza,yzv,yzl,yzt,AVal.fresh,freshL,yz2,yzg,AObj.fresh,id,Option.isSome_some,or_true,true_or,go_sem,yz0,xx9,xx8,xx6,xx7,xx5,xx0,xx1,xx2,reduceIte,xx3,xx4,reduceCtorEq]
    exact ⟨n,A2 ++ (m1,cur) :: C2,v',a6,s6,FAut.lo ⟨A1,D1,hn6⟩,by omega,by omega,rfl,by simp,rfl⟩
theorem k_l03Linked (code:List Int) (at_ seed:Int) (hb:∀ x∈code,0≤x∧x≤255) (ha:0≤at_∧at_≤1000) :
    Con Try.prog nz14 [.box 0 (srcC code at_ seed)] [.ptr 5000 0 0] true fun outs rows res=>∃ n ps v a' s',FLo n ps∧at_≤a'∧a'≤at_+6000∧outs=[.box 0 (srcC code a' s')]∧rows=[.row v 1 true (rwp ps)]∧res=.st [iv n,.own 6000 v]:=by
  refine con_sh mixed czgs rfl (by simp) ?_
  generalize hQ:finQ _=Q
  simp only [Az1p,Bz8x,yzq,yz1,go_sem,yz0,xx9,xx8,xx6,xx7,xx5,xx0,xx1,xx2,reduceIte,xx3,xx4,reduceCtorEq]
  intro vs0 U0 hN0 vs1 U1 hN1
  refine call_lo (k:=5000) FLo_ren (k_l02Drawn code at_ seed hb (by omega)) rfl (fun x y e=>(hN1.inj _ _ _ _ e).2) (hN1.box (r:=5000) rfl 1) qCS qGN ?_
  intro n ps v' a1 s1 hf h1 h2
  have hend:∀ (σ:St) (v2 v3:Nat) (a s:Int),at_≤a∧a≤at_+6000 →
      σ.keep [2,3] [2,3,6,5000,901]=⟨L .any [(2,.ptr 2 v2 0),(3,.ptr 3 v3 0)],
        L .gone [(2,.box v2 [iv 0,.val (.slice none 0 0)]),(3,.box v3 [iv n,.own 6 v']),(6,.row v' 1 true (rwp ps)),(5000,.box 0 (srcC code a s)),(901,.gone)]⟩ →
      wpD Try.prog Bz1o Q σ:=by
    intro σ v2 v3 a s ha' hS
    unfold Bz1o
    rw [yzq,hS]
    simp only [wpD_gh]
    intro _
    refine ⟨[],?_⟩
    simp only [gwp_nil,yzq,yz1,go_sem,yz0,xx9,xx8,xx6,xx7,xx5,xx0,xx1,xx2,reduceIte,xx3,xx4,reduceCtorEq]
    intro vs U hN
    simp only [← hQ,Az1p,go_sem,yz0,xx9,xx8,xx6,xx7,xx5,xx0,xx1,xx2,reduceIte,xx3,xx4,reduceCtorEq]
    refine ⟨[6],by simp,by simp,by simp,?_⟩
    simp only [range1,List.length_singleton,renL_rwp,Nat.not_lt_zero,range1,yzx,yz10,yz1b,yz19,yzz,yz1d,yz1c,yz1a,yzy,yzs,yzf,yz3,yzw,yzr,yzp,yzo,yzu,yz8,yzd,yze,yzc,yzi,yzk,yz4,yz7,yz9,yzb,yzh,yzj,List.range_zero,yz6,yz5,yza,yzv,yzl,yzt,AVal.fresh,freshL,yz2,yzg,AObj.fresh,id,Option.isSome_some,or_true,true_or,go_sem,yz0,xx9,xx8,xx6,xx7,xx5,xx0,xx1,xx2,reduceIte,xx3,xx4,reduceCtorEq]
    exact ⟨n,ps,v',a,s,hf,ha'.1,ha'.2,rfl,by simp,rfl⟩
  simp only [Bz8w,yzq,yz1,go_sem,yz0,xx9,xx8,xx6,xx7,xx5,xx0,xx1,xx2,reduceIte,xx3,xx4,reduceCtorEq]
  intro vs2 U2 hN2
  refine yz11 (k_l01Ok n (ps.map (·.2))) (by simp only [coeL_rwp_t,rowIs,boxIs,coe_argN,yz1e,coe_ro_o,yz12,yzn,coe_any,coe_val,coe_ro,yz15,yz17,coe_st,yz16,coe_rp,yz18,coe_clo,coe_own0,coe_ptr0,yz13,coeL_rws,coeL_rwn,L_hit,L_miss,L_nil,xx3,ne_eq,reduceCtorEq,not_false_eq_true,true_and,and_true,and_self,exists_eq_left,exists_eq_right,List.mem_cons,List.not_mem_nil,or_false,AObj.row.injEq,AObj.box.injEq,exists_eq_left',exists_and_left,exists_eq,Nat.zero_lt_one,Nat.lt_add_one,List.map_cons,List.map_nil,AObj.ver,xx5,not_true_eq_false]) trivial ?_
  cases hA:autB n (ps.map (·.2)) with
  | false =>
    simp only [Bz1n,yzq,yz1,go_sem,yz0,xx9,xx8,xx6,xx7,xx5,xx0,xx1,xx2,reduceIte,xx3,xx4,reduceCtorEq]
    exact hend _ (vs0 0 0) (vs1 2 0) a1 s1 (by omega) (by simp only [go_sem,yz0,xx9,xx8,xx6,xx7,xx5,xx0,xx1,xx2,reduceIte,xx3,xx4,reduceCtorEq];try rfl)
  | true =>
    have A:=autB_iff.1 hA
    have n1:=A.n1
    have n2:=A.n2
    have l1:=A.l1
    have l2:=A.l2
    rw [List.length_map] at l1 l2
    have hdj:DJ ps:=hf.1 l2
    simp only [yzq,yz1,go_sem,yz0,xx9,xx8,xx6,xx7,xx5,xx0,xx1,xx2,reduceIte,xx3,xx4,reduceCtorEq]
    refine call_funB (k_one code a1 s1 4 hb (by omega)) rfl qCS qCS ?_
    rintro cs' x ⟨a2,s2,b2,rfl,g1,g2,rfl⟩
    cases b2 with
    | true =>
      simp only [Bz1n,Bool.not_true,yzq,yz1,go_sem,yz0,xx9,xx8,xx6,xx7,xx5,xx0,xx1,xx2,reduceIte,xx3,xx4,reduceCtorEq]
      exact hend _ (vs0 0 0) (vs1 2 0) a2 s2 (by omega) (by simp only [go_sem,yz0,xx9,xx8,xx6,xx7,xx5,xx0,xx1,xx2,reduceIte,xx3,xx4,reduceCtorEq];try rfl)
    | false =>
      obtain ⟨A2,b,C2,rfl,hAk⟩:=rwp_split (show 0<ps.length by omega)
      have hbr:=A.row b.2 (by simp)
      have hbn:b.2≠[]:=fun e=>by rw [e] at hbr;simp at hbr;omega
      have F0a:=DJ_out hdj hbn
      simp only [Bz1n,Bool.not_false,yzq,yz1,go_sem,yz0,xx9,xx8,xx6,xx7,xx5,xx0,xx1,xx2,reduceIte,xx3,xx4,reduceCtorEq]
      intro vs3 U3 hN3
      simp only [Bz8v,yzq,wpD_gh,go_sem,yz0,xx9,xx8,xx6,xx7,xx5,xx0,xx1,xx2,reduceIte,xx3,xx4,reduceCtorEq]
      intro _
      refine ⟨[.thaw 6 0 901],gwp_thaw (n:=b.1) rfl (rwp_get hAk.symm) (by simpa using hbn) rfl fun m1=>?_⟩
      have hset:(woL b.1 (rwp (A2 ++ b :: C2))).set 0 (AVal.own 901 m1)=rwp A2 ++ AVal.own 901 m1 :: rwp C2:=by rw [← hAk];exact woL_set F0a
      have ho1:(rwp A2 ++ AVal.own 901 m1 :: rwp C2).getD 0 .any=.own 901 m1:=own_at hAk.symm
      have hol:(rwp A2 ++ AVal.own 901 m1 :: rwp C2).length=A2.length+(C2.length+1):=by rw [List.length_append,List.length_cons,rwp_len,rwp_len]
      have hkl:0<(rwp A2 ++ AVal.own 901 m1 :: rwp C2).length:=by omega
      simp only [hset,woT,woO,woL_cons,woL_nil,woV_val,woV_own,wo_ptr,wo_o,woL_ints,wo_st,woO_row,woO_box,woO_gone,wo_any,gwp_nil,yzq,yz1,go_sem,yz0,xx9,xx8,xx6,xx7,xx5,xx0,xx1,xx2,reduceIte,xx3,xx4,reduceCtorEq]
      refine wpD_lp (fun (x:Nat×List Int)=>n.toNat - x.1) (fun x=>(x.1:Int)≤n∧x.2.length=b.2.length∧∀ z∈x.2,0≤z∧z<n)
        (fun (x:Nat×List Int)=>⟨L .any [(2,.ptr 2 (vs0 0 0) 0),(3,.ptr 3 (vs1 2 0) 0),(4,iv x.1)],
          L .gone [(2,.box (vs0 0 0) [iv 0,.val (.slice none 0 0)]),(3,.box (vs1 2 0) [iv n,.own 6 v']),(6,.row v' 1 true (rwp A2 ++ .own 901 m1 :: rwp C2)),(5000,.box 0 (srcC code a2 s2)),(901,.row m1 1 true (ints x.2))]⟩)
        (0,b.2) ⟨by simp;omega,rfl,hbr.2⟩ (by simp only [Bz1m,go_sem,yz0,xx9,xx8,xx6,xx7,xx5,xx0,xx1,xx2,reduceIte,xx3,xx4,reduceCtorEq];try rfl) ?_
      rintro ⟨i,cur⟩ ⟨h3,h4,h5⟩
      have h3:(i:Int)≤n:=h3
      have h4:cur.length=b.2.length:=h4
      have h5:∀ z∈cur,0≤z∧z<n:=h5
      by_cases hlt:(i:Int)<n
      · have w1:IntKind.i64.wrap ((i:Int)+1)=((i+1:Nat):Int):=by rw [w64 (by omega)];simp
        have hn0:¬ n=0:=by omega
        have hil:i<cur.length:=by omega
        have t1:=tmod_in (a:=((i+1:Nat):Int)) (n:=n) (by omega) (by omega)
        simp only [Bz1m,Bz49,Bz8u,decide_eq_true hlt,yzq,yz1,go_sem,yz0,xx9,xx8,xx6,xx7,xx5,xx0,xx1,xx2,reduceIte,xx3,xx4,reduceCtorEq]
        intro vs4 U4 hN4 vs5 U5 hN5
        simp only [ho1,w1,hn0,go_sem,yz0,xx9,xx8,xx6,xx7,xx5,xx0,xx1,xx2,reduceIte,xx3,xx4,reduceCtorEq]
        refine ⟨hkl,hkl,⟨by omega,hil⟩,by omega,?_⟩
        have hcl:=lput_len (xs:=cur) (v:=((i+1:Nat):Int).tmod n) hil
        have hcm:=lput_mem (xs:=cur) (i:=i) (v:=((i+1:Nat):Int).tmod n) (Q:=fun z=>0≤z∧z<n) h5 t1
        simp only [ints_put]
        generalize hcu:cur.take i ++ [((i+1:Nat):Int).tmod n] ++ cur.drop (i+1)=cur2 at hcl hcm ⊢
        simp only [Bz8t,w1,yzq,yz1,go_sem,yz0,xx9,xx8,xx6,xx7,xx5,xx0,xx1,xx2,reduceIte,xx3,xx4,reduceCtorEq]
        intro vs6 U6 hN6
        exact ⟨(i+1,cur2),by dsimp only;omega,⟨by dsimp only;omega,by dsimp only;omega,hcm⟩,rfl⟩
      · simp only [Bz1m,Bz49,Bz1o,decide_eq_false hlt,yzq,yz1,wpD_gh,go_sem,yz0,xx9,xx8,xx6,xx7,xx5,xx0,xx1,xx2,reduceIte,xx3,xx4,reduceCtorEq]
        intro vs4 U4 hN4 hD
        refine ⟨[.rf 6 0 901],gwp_rf (k:=1) (nn:=true) rfl (own_get hAk.symm) (by decide) rfl fun hf2=>?_⟩
        have D1:=DJ_refrozen hdj hf2 (cur:=cur)
        have A1:=Aut_put A (u:=m1) h4 h5
        have hset4:∀ X:AVal,(rwp A2 ++ AVal.own 901 m1 :: rwp C2).set 0 X=rwp A2 ++ X :: rwp C2:=fun X=>by
          rw [← hAk,List.set_append_right _ _ (by rw [rwp_len];exact Nat.le_refl _),rwp_len,Nat.sub_self];rfl
        simp only [hset4,frNm_t,rwp_cat,gwp_nil,yzq,yz1,go_sem,yz0,xx9,xx8,xx6,xx7,xx5,xx0,xx1,xx2,reduceIte,xx3,xx4,reduceCtorEq]
        intro vs9 U9 hN9
        simp only [← hQ,Az1p,go_sem,yz0,xx9,xx8,xx6,xx7,xx5,xx0,xx1,xx2,reduceIte,xx3,xx4,reduceCtorEq]
        refine ⟨[6],by simp,by simp,by simp,?_⟩
        simp only [range1,List.length_singleton,renL_rwp,Nat.not_lt_zero,range1,yzx,yz10,yz1b,yz19,yzz,yz1d,yz1c,yz1a,yzy,yzs,yzf,yz3,yzw,yzr,yzp,yzo,yzu,yz8,yzd,yze,yzc,yzi,yzk,yz4,yz7,yz9,yzb,yzh,yzj,List.range_zero,yz6,yz5,yza,yzv,yzl,yzt,AVal.fresh,freshL,yz2,yzg,AObj.fresh,id,Option.isSome_some,or_true,true_or,go_sem,yz0,xx9,xx8,xx6,xx7,xx5,xx0,xx1,xx2,reduceIte,xx3,xx4,reduceCtorEq]
        exact ⟨n,A2 ++ (m1,cur) :: C2,v',a2,s2,FAut.lo (m:=10) ⟨A1,D1,by omega⟩,by omega,by omega,rfl,by simp,rfl⟩
theorem k_A2Automaton (code:List Int) (hb:∀ x∈code,0≤x∧x≤255) :
    Con Try.prog nz2w [] [.ro (some (some 0)) 1 (intsK .u8 code)] true fun outs rows res=>outs=[]∧∃ n next v,Aut n next∧n≤7∧rows=[.row v 1 true (rws next)]∧res=.st [iv n,.own 6000 v]:=by
  refine con_sh mixed czgj rfl (by simp) ?_
  generalize hQ:finQ _=Q
  simp only [Azq,Bz7p,go_sem,yz0,xx9,xx8,xx6,xx7,xx5,xx0,xx1,xx2,reduceIte,xx3,xx4,reduceCtorEq]
  intro vs0 vs1
  refine call_sh (k_from code) qCS (fun e=>by cases e) ?_
  rintro outs rows res ⟨rfl,v,rfl,rfl⟩
  refine ⟨rfl,by simp,by rw [Option.getD_some,yzl];rfl,?_⟩
  simp only [Bz7o,Nat.not_lt_zero,range1,yzx,yz10,yz1b,yz19,yzz,yz1d,yz1c,yz1a,yzy,yzs,yzf,yz3,yzw,yzr,yzp,yzo,yzu,yz8,yzd,yze,yzc,yzi,yzk,yz4,yz7,yz9,yzb,yzh,yzj,List.range_zero,yz6,yz5,yza,yzv,yzl,yzt,AVal.fresh,freshL,yz2,yzg,AObj.fresh,id,Option.isSome_some,or_true,true_or,go_sem,yz0,xx9,xx8,xx6,xx7,xx5,xx0,xx1,xx2,reduceIte,xx3,xx4,reduceCtorEq]
  intro vs2
  have h:Con Try.prog nz14 [.box 0 (srcC code 0 0)] [.ptr 5000 0 0] true fun outs rows res=>∃ n next v a' s',outs=[.box 0 (srcC code a' s')]∧rows=[.row v 1 true (rws next)]∧res=.st [iv n,.own 6000 v]:=by
    refine Con.dnr (k_l03Linked code 0 0 hb (by omega)) ?_
    rintro o r x ⟨n,ps,v,a',s',hf,h1,h2,rfl,rfl,rfl⟩
    refine ⟨n,ps.map (·.2),v,a',s',?_,?_,?_⟩
    · simp only [List.map_cons,List.map_nil,AObj.dn,dnL,AVal.dn,dnL_ints,dnNm]
    · simp only [List.map_cons,List.map_nil,AObj.dn,dnL_rwp]
    · simp only [AVal.dn,dnL]
  refine call_con (r:=6) h rfl (by simp only [Bool.not_true,rowIs,boxIs,coe_argN,yz1e,coe_ro_o,yz12,yzn,coe_any,coe_val,coe_ro,yz15,yz17,coe_st,yz16,coe_rp,yz18,coe_clo,coe_own0,coe_ptr0,yz13,coeL_rws,coeL_rwn,L_hit,L_miss,L_nil,xx3,ne_eq,reduceCtorEq,not_false_eq_true,true_and,and_true,and_self,exists_eq_left,exists_eq_right,List.mem_cons,List.not_mem_nil,or_false,AObj.row.injEq,AObj.box.injEq,exists_eq_left',exists_and_left,exists_eq,Nat.zero_lt_one,Nat.lt_add_one,List.map_cons,List.map_nil,AObj.ver,xx5,not_true_eq_false]) (by simp only [Bool.not_true,rowIs,boxIs,coe_argN,yz1e,coe_ro_o,yz12,yzn,coe_any,coe_val,coe_ro,yz15,yz17,coe_st,yz16,coe_rp,yz18,coe_clo,coe_own0,coe_ptr0,yz13,coeL_rws,coeL_rwn,L_hit,L_miss,L_nil,xx3,ne_eq,reduceCtorEq,not_false_eq_true,true_and,and_true,and_self,exists_eq_left,exists_eq_right,List.mem_cons,List.not_mem_nil,or_false,AObj.row.injEq,AObj.box.injEq,exists_eq_left',exists_and_left,exists_eq,Nat.zero_lt_one,Nat.lt_add_one,List.map_cons,List.map_nil,AObj.ver,xx5,not_true_eq_false]) ?_
  rintro outs rows res ⟨n,next,v',a',s',rfl,rfl,rfl⟩
  refine ⟨rfl,by simp,by rw [Option.getD_some,yzl];simp only [go_sem,yz0,xx9,xx8,xx6,xx7,xx5,xx0,xx1,xx2,reduceIte,xx3,xx4,reduceCtorEq],?_⟩
  rw [Option.getD_some,callHp_mr (by omega)]
  have hslow:Con Try.prog nzl [] [iv 4] true fun outs rows res=>outs=[]∧∃ next v,Aut 4 next∧rows=[.row v 1 true (rws next)]∧res=.st [iv 4,.own 6000 v]:=by
    refine Con.dnr (k_l02SlowN 4 (by omega)) ?_
    rintro o r x ⟨rfl,v,ps,hA,hd,rfl,rfl⟩
    refine ⟨rfl,ps.map (·.2),v,hA,?_,?_⟩
    · simp only [List.map_cons,List.map_nil,AObj.dn,dnL_rwp]
    · simp only [AVal.dn,dnL]
  simp only [Bz7n,Nat.not_lt_zero,range1,yzx,yz10,yz1b,yz19,yzz,yz1d,yz1c,yz1a,yzy,yzs,yzf,yz3,yzw,yzr,yzp,yzo,yzu,yz8,yzd,yze,yzc,yzi,yzk,yz4,yz7,yz9,yzb,yzh,yzj,List.range_zero,yz6,yz5,yza,yzv,yzl,yzt,AVal.fresh,freshL,yz2,yzg,AObj.fresh,id,Option.isSome_some,or_true,true_or,go_sem,yz0,xx9,xx8,xx6,xx7,xx5,xx0,xx1,xx2,reduceIte,xx3,xx4,reduceCtorEq]
  intro vs3
  refine yz11 (k_l01Ok n next) qCS trivial ?_
  cases hA:autB n next with
  | false =>
    simp only [Bz1f,Bz42,go_sem,yz0,xx9,xx8,xx6,xx7,xx5,xx0,xx1,xx2,reduceIte,xx3,xx4,reduceCtorEq]
    intro vs5
    refine call_sh hslow qCS (fun e=>by cases e) ?_
    rintro outs rows res ⟨rfl,next2,v2,A2,rfl,rfl⟩
    refine ⟨rfl,by simp,by rw [Option.getD_some,yzl];simp only [go_sem,yz0,xx9,xx8,xx6,xx7,xx5,xx0,xx1,xx2,reduceIte,xx3,xx4,reduceCtorEq],?_⟩
    simp only [← hQ,Azq,dnL_rws,Nat.not_lt_zero,range1,yzx,yz10,yz1b,yz19,yzz,yz1d,yz1c,yz1a,yzy,yzs,yzf,yz3,yzw,yzr,yzp,yzo,yzu,yz8,yzd,yze,yzc,yzi,yzk,yz4,yz7,yz9,yzb,yzh,yzj,List.range_zero,yz6,yz5,yza,yzv,yzl,yzt,AVal.fresh,freshL,yz2,yzg,AObj.fresh,id,Option.isSome_some,or_true,true_or,go_sem,yz0,xx9,xx8,xx6,xx7,xx5,xx0,xx1,xx2,reduceIte,xx3,xx4,reduceCtorEq]
    refine ⟨[16],by simp,by simp,by simp,?_⟩
    simp only [Nat.not_lt_zero,range1,yzx,yz10,yz1b,yz19,yzz,yz1d,yz1c,yz1a,yzy,yzs,yzf,yz3,yzw,yzr,yzp,yzo,yzu,yz8,yzd,yze,yzc,yzi,yzk,yz4,yz7,yz9,yzb,yzh,yzj,List.range_zero,yz6,yz5,yza,yzv,yzl,yzt,AVal.fresh,freshL,yz2,yzg,AObj.fresh,id,Option.isSome_some,or_true,true_or,go_sem,yz0,xx9,xx8,xx6,xx7,xx5,xx0,xx1,xx2,reduceIte,xx3,xx4,reduceCtorEq]
    exact ⟨4,next2,_,A2,by omega,rfl,rfl⟩
  | true =>
    have A:=autB_iff.1 hA
    by_cases h7:n≤7
    · simp only [decide_eq_true h7,Bz1f,← hQ,Azq,dnL_rws,go_sem,yz0,xx9,xx8,xx6,xx7,xx5,xx0,xx1,xx2,reduceIte,xx3,xx4,reduceCtorEq]
      refine ⟨[8],by simp,by simp,by simp,?_⟩
      simp only [Nat.not_lt_zero,range1,yzx,yz10,yz1b,yz19,yzz,yz1d,yz1c,yz1a,yzy,yzs,yzf,yz3,yzw,yzr,yzp,yzo,yzu,yz8,yzd,yze,yzc,yzi,yzk,yz4,yz7,yz9,yzb,yzh,yzj,List.range_zero,yz6,yz5,yza,yzv,yzl,yzt,AVal.fresh,freshL,yz2,yzg,AObj.fresh,id,Option.isSome_some,or_true,true_or,go_sem,yz0,xx9,xx8,xx6,xx7,xx5,xx0,xx1,xx2,reduceIte,xx3,xx4,reduceCtorEq]
      exact ⟨n,next,_,A,h7,rfl,rfl⟩
    · simp only [Bz1f,Bz42,decide_eq_false h7,go_sem,yz0,xx9,xx8,xx6,xx7,xx5,xx0,xx1,xx2,reduceIte,xx3,xx4,reduceCtorEq]
      intro vs5
      refine call_sh hslow qCS (fun e=>by cases e) ?_
      rintro outs rows res ⟨rfl,next2,v2,A2,rfl,rfl⟩
      refine ⟨rfl,by simp,by rw [Option.getD_some,yzl];simp only [go_sem,yz0,xx9,xx8,xx6,xx7,xx5,xx0,xx1,xx2,reduceIte,xx3,xx4,reduceCtorEq],?_⟩
      simp only [← hQ,Azq,dnL_rws,Nat.not_lt_zero,range1,yzx,yz10,yz1b,yz19,yzz,yz1d,yz1c,yz1a,yzy,yzs,yzf,yz3,yzw,yzr,yzp,yzo,yzu,yz8,yzd,yze,yzc,yzi,yzk,yz4,yz7,yz9,yzb,yzh,yzj,List.range_zero,yz6,yz5,yza,yzv,yzl,yzt,AVal.fresh,freshL,yz2,yzg,AObj.fresh,id,Option.isSome_some,or_true,true_or,go_sem,yz0,xx9,xx8,xx6,xx7,xx5,xx0,xx1,xx2,reduceIte,xx3,xx4,reduceCtorEq]
      refine ⟨[16],by simp,by simp,by simp,?_⟩
      simp only [Nat.not_lt_zero,range1,yzx,yz10,yz1b,yz19,yzz,yz1d,yz1c,yz1a,yzy,yzs,yzf,yz3,yzw,yzr,yzp,yzo,yzu,yz8,yzd,yze,yzc,yzi,yzk,yz4,yz7,yz9,yzb,yzh,yzj,List.range_zero,yz6,yz5,yza,yzv,yzl,yzt,AVal.fresh,freshL,yz2,yzg,AObj.fresh,id,Option.isSome_some,or_true,true_or,go_sem,yz0,xx9,xx8,xx6,xx7,xx5,xx0,xx1,xx2,reduceIte,xx3,xx4,reduceCtorEq]
      exact ⟨4,next2,_,A2,by omega,rfl,rfl⟩
end Go.Ab
namespace Go.Ab
open Go.Proofs
theorem firstT_no:∀ {T:TS} (k:Nat),firstT T=none→fidx smallN (T.map (·.1)) k=-1
  | [],_,_=>rfl
  | p :: T,k,h=>by
    simp only [firstT,List.find?_cons] at h
    cases hs:smallN p.1 with
    | true=>rw [hs] at h;cases h
    | false =>
      rw [hs] at h
      have h1:=firstT_no (T:=T) (k+1) h
      simp only [List.map_cons,fidx,hs,Bool.false_eq_true,if_false,h1]
theorem k_firstN (N m:Nat) (T:TS) (hI:TI N m T) (hN:2 ^ N≤1024) (hf:firstT T=none) :
    Con Try.prog nz18 [.row 0 1 true (intsK .u64 (setsI T)),.map 1 (keysF T) (rwn (T.map (·.2)))] [.st [.own 5000 0,.mp 5001 1],.clo nz7 []] true
      fun outs rows res=>outs=[.row 0 1 true (intsK .u64 (setsI T)),.map 1 (keysF T) (rwn (T.map (·.2)))]∧rows=[]∧res=.tup [.val (.slice none 0 0),iv 6]:=by
  refine con_sh mixed czcb rfl (by simp) ?_
  have h1:=firstT_no 0 hf
  simp only [Az5b,Bz5a,go_sem,yz0,xx9,xx8,xx6,xx7,xx5,xx0,xx1,xx2,reduceIte,xx3,xx4,reduceCtorEq]
  intro vs vs2
  refine yz11 (k_IndexFuncT T (fun p hp=>by have:=hI.rg p hp;omega)) qCS trivial ?_
  have hi0:((-1:Int)<0):=by omega
  simp only [h1,Bz59,Bz58,decide_eq_true hi0,go_sem,yz0,xx9,xx8,xx6,xx7,xx5,xx0,xx1,xx2,reduceIte,xx3,xx4,reduceCtorEq]
  refine ⟨[],by simp,by simp,by simp,?_⟩
  simp only [List.nil_append,List.cons_append,Nat.add_zero,xx4,Nat.not_lt_zero,range1,yzx,yz10,yz1b,yz19,yzz,yz1d,yz1c,yz1a,yzy,yzs,yzf,yz3,yzw,yzr,yzp,yzo,yzu,yz8,yzd,yze,yzc,yzi,yzk,yz4,yz7,yz9,yzb,yzh,yzj,List.range_zero,yz6,yz5,yza,yzv,yzl,yzt,AVal.fresh,freshL,yz2,yzg,AObj.fresh,id,Option.isSome_some,or_true,true_or,go_sem,yz0,xx9,xx8,xx6,xx7,xx5,xx0,xx1,xx2,reduceIte,xx3,xx4,reduceCtorEq]
def shortR (next:List (List Int)) (n:Int):AVal:=match firstT (tourT next (2 ^ n.toNat - 1)) with
  | some (_,w)=>.tup [.ro none 1 (ints w),iv 0]
  | none=>.tup [.val (.slice none 0 0),iv 6]
end Go.Ab
namespace Go.Ab
structure BT (L:TS) (B C:List Int):Prop where
  lb:B.length=L.length
  lc:C.length=L.length
  wd:∀ i,i<L.length→(B.getD i 0=-1∧(L.getD i (0,[])).2=[])∨(0≤B.getD i 0∧B.getD i 0<i∧(L.getD i (0,[])).2=(L.getD (B.getD i 0).toNat (0,[])).2 ++ [C.getD i 0])
theorem getD_appL {α:Type} {xs ys:List α} {i:Nat} {d:α} (h:i<xs.length):(xs ++ ys).getD i d=xs.getD i d:=by
  rw [List.getD_eq_getElem?_getD,List.getElem?_append_left h,← List.getD_eq_getElem?_getD]
theorem getD_last {α:Type} {xs:List α} {y d:α} {i:Nat} (h:i=xs.length):(xs ++ [y]).getD i d=y:=by
  rw [List.getD_eq_getElem?_getD,List.getElem?_append_right (by omega),h];simp
theorem BT.add {L:TS} {B C:List Int} (h:BT L B C) {i:Nat} (hi:i<L.length) (to x:Nat) :
    BT (L ++ [(to,(L.getD i (0,[])).2 ++ [(x:Int)])]) (B ++ [(i:Int)]) (C ++ [(x:Int)]):=by
  have lb:=h.lb
  have lc:=h.lc
  refine ⟨by simp [lb],by simp [lc],fun j hj=>?_⟩
  rw [List.length_append,List.length_singleton] at hj
  by_cases e:j<L.length
  · have e1:(B ++ [(i:Int)]).getD j 0=B.getD j 0:=getD_appL (by omega)
    have e2:(C ++ [(x:Int)]).getD j 0=C.getD j 0:=getD_appL (by omega)
    have e3:(L ++ [(to,(L.getD i (0,[])).2 ++ [(x:Int)])]).getD j (0,[])=L.getD j (0,[]):=getD_appL e
    rw [e1,e2,e3]
    rcases h.wd j e with h1 | ⟨h1,h2,h3⟩
    · exact .inl h1
    · have e4:(L ++ [(to,(L.getD i (0,[])).2 ++ [(x:Int)])]).getD (B.getD j 0).toNat (0,[])=L.getD (B.getD j 0).toNat (0,[]):=getD_appL (by omega)
      rw [e4]
      exact .inr ⟨h1,h2,h3⟩
  · have:j=L.length:=by omega
    subst this
    have e1:(B ++ [(i:Int)]).getD L.length 0=i:=getD_last lb.symm
    have e2:(C ++ [(x:Int)]).getD L.length 0=x:=getD_last lc.symm
    have e3:(L ++ [(to,(L.getD i (0,[])).2 ++ [(x:Int)])]).getD L.length (0,[])=(to,(L.getD i (0,[])).2 ++ [(x:Int)]):=getD_last rfl
    have e4:(L ++ [(to,(L.getD i (0,[])).2 ++ [(x:Int)])]).getD i (0,[])=L.getD i (0,[]):=getD_appL hi
    rw [e1,e2,e3,Int.toNat_natCast,e4]
    exact .inr ⟨by omega,by omega,rfl⟩
end Go.Ab
namespace Go.Ab
open Go.Proofs
end Go.Ab
namespace Go.Ab
open Go.Proofs
end Go.Ab
namespace Go.Ab
open Go.Proofs
theorem call_ste {P:Program} {σ:St} {g:FuncId} {x:AVal} {y:Value} {d:Nat} {s:Nat→Nat} {K:St→Prop} {r v:Nat} {cs cs':List AVal} {R:AVal}
    (h:Con P g [.row 0 1 true cs] [.st [x,.own 5000 0]] true fun outs rows res=>outs=[.row 0 1 true cs]∧rows=[]∧res=R) (hx:x=.val y)
    (hr:σ.hp r=.row v 1 true cs') (hc:CoeL σ.hp [r] false cs cs')
    (hk:K (St.put ⟨σ.tm,upd σ.hp r (.row v 1 true (renL (rid [r] d 0) (sv σ.hp [r] s) cs))⟩ (some d) (R.ren (rid [r] d 0) (sv σ.hp [r] s)))):wpCall P false σ g [.st [x,.own r v]] (some d) s K:=by
  subst hx
  refine .inl ⟨[r],_,_,true,_,h,⟨by simp,rfl,by simp,by simp [hr],?_⟩,?_,(fun e=>by cases e),?_⟩
  · intro j B r' hB hr'
    match j,hB,hr' with
    | 0,hB,hr' =>
      simp at hB hr';subst hB;subst hr'
      simp only [ObjCoe,hr]
      exact ⟨trivial,v,cs',rfl,hc⟩
    | j+1,hB,hr'=>simp at hB
  · rw [yzn,coe_st,yzn,yzn,yz12]
    refine ⟨?_,by simp only [yz12]⟩
    simp only [Coe]
    exact ⟨trivial,⟨0,r,v,rfl,rfl,rfl,rfl,by rw [hr];rfl⟩,trivial⟩
  · rintro outs rows res ⟨rfl,rfl,rfl⟩
    refine ⟨rfl,by simp,by simp,?_⟩
    have e:sv σ.hp [r] s 0=v:=by simp [sv,hr,AObj.ver]
    rw [Option.getD_some,callHp_m,yzo,e]
    exact hk
theorem k_ShortestH (n:Int) (next:List (List Int)) (A:Aut n next) :
    Con Try.prog nz12 [.row 0 1 true (rwn next)] [.st [iv n,.own 5000 0]] true
      fun outs rows res=>outs=[.row 0 1 true (rwn next)]∧rows=[]∧res=shortR next n:=by
  refine con_sh mixed czgp rfl (by simp) ?_
  have n1:=A.n1
  have n2:=A.n2
  have hv:autB n next=true:=autB_iff.2 A
  have hp:=Nat.two_pow_pos n.toNat
  have hN:2 ^ n.toNat≤1024:=Nat.pow_le_pow_right (n:=2) (by omega) (show n.toNat≤10 by omega)
  simp only [Az8j,Bz8i,go_sem,yz0,xx9,xx8,xx6,xx7,xx5,xx0,xx1,xx2,reduceIte,xx3,xx4,reduceCtorEq]
  intro vs vs2
  refine yz11 (k_Valid n next) qCS trivial ?_
  simp only [hv,Bz8g,Bz8h,go_sem,yz0,xx9,xx8,xx6,xx7,xx5,xx0,xx1,xx2,reduceIte,xx3,xx4,reduceCtorEq]
  intro vs3
  refine call_rowI (k_all n next A) qCS rfl ⟨_,rfl⟩ ?_
  rintro xs v rfl
  simp only [go_sem,yz0,xx9,xx8,xx6,xx7,xx5,xx0,xx1,xx2,reduceIte,xx3,xx4,reduceCtorEq]
  refine yz11 (k_flockOf (allS n) (fun s hs=>by have:=allS_in s hs;omega)) qCS trivial ?_
  rw [maskN_all ⟨n1,n2⟩]
  simp only [go_sem,yz0,xx9,xx8,xx6,xx7,xx5,xx0,xx1,xx2,reduceIte,xx3,xx4,reduceCtorEq]
  refine call_fn (k_tour n next A (2 ^ n.toNat - 1) (by omega)) qCS (fun e=>by cases e) ?_
  rintro rows res ⟨v1,v2,rfl,rfl⟩
  refine ⟨by simp,by rw [Option.getD_some,yzt];simp only [go_sem,yz0,xx9,xx8,xx6,xx7,xx5,xx0,xx1,xx2,reduceIte,xx3,xx4,reduceCtorEq],?_⟩
  have hT:=(runT_ok A 1100 0 _ (TI0 (m:=next.length) (show 2 ^ n.toNat - 1<2 ^ n.toNat by omega))).1
  simp only [Option.getD_some,Nat.not_lt_zero,range1,yzx,yz10,yz1b,yz19,yzz,yz1d,yz1c,yz1a,yzy,yzs,yzf,yz3,yzw,yzr,yzp,yzo,yzu,yz8,yzd,yze,yzc,yzi,yzk,yz4,yz7,yz9,yzb,yzh,yzj,List.range_zero,yz6,yz5,yza,yzv,yzl,yzt,AVal.fresh,freshL,yz2,yzg,AObj.fresh,id,Option.isSome_some,or_true,true_or,go_sem,yz0,xx9,xx8,xx6,xx7,xx5,xx0,xx1,xx2,reduceIte,xx3,xx4,reduceCtorEq]
  unfold shortR
  cases hf:firstT (tourT next (2 ^ n.toNat - 1)) with
  | some p =>
    obtain ⟨f,w⟩:=p
    refine call_rm (k_first n.toNat next.length (tourT next (2 ^ n.toNat - 1)) hT hN f w hf) rfl rfl (by omega) qCS qCS qCS ?_
    simp only [Nat.not_lt_zero,range1,yzx,yz10,yz1b,yz19,yzz,yz1d,yz1c,yz1a,yzy,yzs,yzf,yz3,yzw,yzr,yzp,yzo,yzu,yz8,yzd,yze,yzc,yzi,yzk,yz4,yz7,yz9,yzb,yzh,yzj,List.range_zero,yz6,yz5,yza,yzv,yzl,yzt,AVal.fresh,freshL,yz2,yzg,AObj.fresh,id,Option.isSome_some,or_true,true_or,go_sem,yz0,xx9,xx8,xx6,xx7,xx5,xx0,xx1,xx2,reduceIte,xx3,xx4,reduceCtorEq]
    exact ⟨[],by simp,by simp,by simp,rfl⟩
  | none =>
    refine call_rm (k_firstN n.toNat next.length (tourT next (2 ^ n.toNat - 1)) hT hN hf) rfl rfl (by omega) qCS qCS qCS ?_
    simp only [Nat.not_lt_zero,range1,yzx,yz10,yz1b,yz19,yzz,yz1d,yz1c,yz1a,yzy,yzs,yzf,yz3,yzw,yzr,yzp,yzo,yzu,yz8,yzd,yze,yzc,yzi,yzk,yz4,yz7,yz9,yzb,yzh,yzj,List.range_zero,yz6,yz5,yza,yzv,yzl,yzt,AVal.fresh,freshL,yz2,yzg,AObj.fresh,id,Option.isSome_some,or_true,true_or,go_sem,yz0,xx9,xx8,xx6,xx7,xx5,xx0,xx1,xx2,reduceIte,xx3,xx4,reduceCtorEq]
    exact ⟨[],by simp,by simp,by simp,rfl⟩
end Go.Ab
namespace Go.Ab
open Go.Proofs
end Go.Ab
namespace Go.Ab
open Go.Proofs
theorem mvL_rww {a v b m:Nat} {x:List (List (List Int))}:mvL a v b m (rww x)=rww x:=by
  simp only [mvL_eq,rww,List.map_map]
  exact List.map_congr_left fun o _=>by simp [AVal.mv,mvL_rws]
attribute [local go_sem] mvL_rww
end Go.Ab
namespace Go.Ab
end Go.Ab
namespace Go.Ab
end Go.Ab
namespace Go.Ab
end Go.Ab
namespace Go.Ab
open Go.Proofs
def optC:Option (List Int)→AVal
  | some w=>.ro none 1 (ints w)
  | none=>.val (.slice none 0 0)
def optL (os:List (Option (List Int))):List AVal:=os.map optC
def rzs (oss:List (List (Option (List Int)))):List AVal:=oss.map fun os=>.ro (some none) 1 (optL os)
def rzn (oss:List (List (Option (List Int)))):List AVal:=oss.map fun os=>.ro none 1 (optL os)
theorem dn_optC {o:Option (List Int)}:(optC o).dn=optC o:=by cases o <;> simp [optC,AVal.dn,ints,dnL_eq,dnNm]
theorem dnL_opt {os:List (Option (List Int))}:dnL (optL os)=optL os:=by
  simp only [dnL_eq,optL,List.map_map]
  exact List.map_congr_left fun o _=>dn_optC
theorem dnL_rzs {oss:List (List (Option (List Int)))}:dnL (rzs oss)=rzs oss:=by
  simp only [dnL_eq,rzs,List.map_map]
  exact List.map_congr_left fun o _=>by simp [AVal.dn,dnL_opt,dnNm]
theorem dnL_rzn {oss:List (List (Option (List Int)))}:dnL (rzn oss)=rzn oss:=by
  simp only [dnL_eq,rzn,List.map_map]
  exact List.map_congr_left fun o _=>by simp [AVal.dn,dnL_opt,dnNm]
theorem one_optC {hp:Nat→AObj} {o:Option (List Int)}:One hp (optC o)=True:=by cases o <;> simp [optC,One,Value.oneCell']
theorem one_opt {hp:Nat→AObj} {os:List (Option (List Int))}:(∀ A∈optL os,One hp A)=True:=by
  refine eq_true ?_
  intro A hA
  simp only [optL,List.mem_map] at hA
  obtain ⟨x,_,rfl⟩:=hA
  exact of_eq_true one_optC
theorem one_rzs {hp:Nat→AObj} {oss:List (List (Option (List Int)))}:(∀ A∈rzs oss,One hp A)=True:=by
  refine eq_true ?_
  intro A hA
  simp only [rzs,List.mem_map] at hA
  obtain ⟨x,_,rfl⟩:=hA
  exact trivial
theorem frz_optC {hp:Nat→AObj} {o:Option (List Int)}:frz hp (optC o)=optC o:=by cases o <;> simp [optC,frz]
theorem frz_opt {hp:Nat→AObj} {os:List (Option (List Int))}:(optL os).map (frz hp)=optL os:=by
  simp only [optL,List.map_map]
  exact List.map_congr_left fun o _=>frz_optC
theorem frz_rzs {hp:Nat→AObj} {oss:List (List (Option (List Int)))}:(rzs oss).map (frz hp)=rzs oss:=by simp [rzs,frz]
theorem owned_opt:∀ {os:List (Option (List Int))},owned (optL os)=[]
  | []=>rfl
  | some _ :: os=>owned_opt (os:=os)
  | none :: os=>owned_opt (os:=os)
theorem owned_rzs:∀ {oss:List (List (Option (List Int)))},owned (rzs oss)=[]
  | []=>rfl
  | _ :: oss=>owned_rzs (oss:=oss)
theorem opt_some {os:List (Option (List Int))} {w:List Int}:optL os ++ [.ro none 1 (ints w)]=optL (os ++ [some w]):=by simp [optL,optC]
theorem opt_none {os:List (Option (List Int))}:optL os ++ [.val (.slice none 0 0)]=optL (os ++ [none]):=by simp [optL,optC]
theorem rzs_snoc {oss:List (List (Option (List Int)))} {os:List (Option (List Int))}:rzs oss ++ [.ro (some none) 1 (optL os)]=rzs (oss ++ [os]):=by simp [rzs]
theorem opt_len {os:List (Option (List Int))}:(optL os).length=os.length:=by simp [optL]
theorem rzs_len {oss:List (List (Option (List Int)))}:(rzs oss).length=oss.length:=by simp [rzs]
theorem rzn_len {oss:List (List (Option (List Int)))}:(rzn oss).length=oss.length:=by simp [rzn]
attribute [local go_sem] dnL_opt dnL_rzs dnL_rzn one_opt one_rzs frz_opt frz_rzs owned_opt owned_rzs opt_some opt_none rzs_snoc rzs_len rzn_len opt_len
end Go.Ab
namespace Go.Ab
open Go.Proofs
attribute [local go_sem] dnL_opt dnL_rzs dnL_rzn one_opt one_rzs frz_opt frz_rzs owned_opt owned_rzs opt_some opt_none rzs_snoc rzs_len rzn_len opt_len
theorem rwnS {xss:List (List Int)} {xs:List Int}:rwn xss ++ [.ro none 1 (ints xs)]=rwn (xss ++ [xs]):=by simp [rwn]
theorem frz_rwnS {hp:Nat→AObj} {xss:List (List Int)}:(rwn xss).map (frz hp)=rwn xss:=by simp [rwn,frz]
theorem owned_rwnS:∀ {xss:List (List Int)},owned (rwn xss)=[]
  | []=>rfl
  | _ :: xss=>owned_rwnS (xss:=xss)
attribute [local go_sem] rwnS frz_rwnS owned_rwnS
end Go.Ab
namespace Go.Ab
open Go.Proofs
end Go.Ab
namespace Go.Ab
open Go.Proofs
structure TidP (xs ys:List Int):Prop where
  ln:ys.length≤xs.length
  dv:divS 0 ys=true
  eq:∀ i j,i<ys.length→j<ys.length→(ys.getD i 0=ys.getD j 0↔xs.getD i 0=xs.getD j 0)
theorem TidP.nil {xs:List Int}:TidP xs []:=⟨by simp,rfl,by simp⟩
theorem getD_snl {ys:List Int} {c:Int} {i:Nat} (h:i<ys.length):(ys ++ [c]).getD i 0=ys.getD i 0:=by
  rw [List.getD_eq_getElem?_getD,List.getElem?_append_left h,← List.getD_eq_getElem?_getD]
theorem getD_snr {ys:List Int} {c:Int}:(ys ++ [c]).getD ys.length 0=c:=by
  rw [List.getD_eq_getElem?_getD,List.getElem?_append_right (Nat.le_refl _)];simp
theorem TidP.add {xs ys:List Int} {c:Int} (T:TidP xs ys) (hlt:ys.length<xs.length) (hd:0≤c∧c≤usedS 0 ys) (he:∀ i<ys.length,(ys.getD i 0=c↔xs.getD i 0=xs.getD ys.length 0)):TidP xs (ys ++ [c]):=by
  refine ⟨by simp;omega,by rw [divS_snoc,T.dv];simp [hd],fun i j hi hj=>?_⟩
  rw [List.length_append,List.length_singleton] at hi hj
  by_cases h1:i<ys.length
  · by_cases h2:j<ys.length
    · rw [getD_snl h1,getD_snl h2];exact T.eq i j h1 h2
    · obtain rfl:j=ys.length:=by omega
      rw [getD_snl h1,getD_snr];exact he i h1
  · obtain rfl:i=ys.length:=by omega
    by_cases h2:j<ys.length
    · rw [getD_snl h2,getD_snr]
      constructor
      · intro h;exact ((he j h2).1 h.symm).symm
      · intro h;exact ((he j h2).2 h.symm).symm
    · obtain rfl:j=ys.length:=by omega
      simp
theorem TidP.new {xs ys:List Int} (T:TidP xs ys) (hlt:ys.length<xs.length) (h:∀ k<ys.length,xs.getD k 0≠xs.getD ys.length 0):TidP xs (ys ++ [usedS 0 ys]):=by
  refine T.add hlt ⟨used_ge,Int.le_refl _⟩ fun i hi=>⟨fun e=>?_,fun e=>absurd e (h i hi)⟩
  have:=used_mem (u:=0) (yzm hi 0)
  omega
theorem TidP.old {xs ys:List Int} (T:TidP xs ys) (hlt:ys.length<xs.length) {k:Nat} (hk:k<ys.length) (h:xs.getD k 0=xs.getD ys.length 0):TidP xs (ys ++ [ys.getD k 0]):=by
  have hm:=yzm hk 0
  refine T.add hlt ⟨div_nn T.dv hm,by have:=used_mem (u:=0) hm;omega⟩ fun i hi=>?_
  rw [T.eq i k hi hk,h]
end Go.Ab
namespace Go.Ab
def MerP (next:List (List Int)) (s t:Int):Prop:=∃ w,IsW next.length w∧atA next s w=atA next t w
def StabP (next:List (List Int)) (s t:Int):Prop:=∀ w,IsW next.length w→MerP next (atA next s w) (atA next t w)
theorem isw_nil {m:Nat}:IsW m []:=fun x hx=>by simp at hx
theorem isw_app {m:Nat} {u v:List Int} (hu:IsW m u) (hv:IsW m v):IsW m (u ++ v):=fun x hx=>by
  rcases List.mem_append.1 hx with h | h
  · exact hu x h
  · exact hv x h
theorem StabP.refl {next:List (List Int)} {s:Int}:StabP next s s:=fun _ _=>⟨[],isw_nil,rfl⟩
theorem StabP.symm {next:List (List Int)} {s t:Int} (h:StabP next s t):StabP next t s:=fun w hw=>by
  obtain ⟨v,h1,h2⟩:=h w hw
  exact ⟨v,h1,h2.symm⟩
theorem StabP.trans {next:List (List Int)} {s t u:Int} (h:StabP next s t) (k:StabP next t u):StabP next s u:=fun w hw=>by
  obtain ⟨v,h1,h2⟩:=h w hw
  obtain ⟨x,k1,k2⟩:=k (w ++ v) (isw_app hw h1)
  refine ⟨v ++ x,isw_app h1 k1,?_⟩
  rw [atA_app,atA_app (s:=u)] at k2
  rw [atA_app,h2,k2,atA_app]
theorem StabP.step {next:List (List Int)} {s t:Int} (h:StabP next s t) {w:List Int} (hw:IsW next.length w):StabP next (atA next s w) (atA next t w):=fun v hv=>by
  have h1:=h (w ++ v) (isw_app hw hv)
  rw [atA_app,atA_app] at h1
  exact h1
theorem MerP.back {next:List (List Int)} {s t:Int} {w:List Int} (hw:IsW next.length w) (h:MerP next (atA next s w) (atA next t w)):MerP next s t:=by
  obtain ⟨v,h1,h2⟩:=h
  exact ⟨w ++ v,isw_app hw h1,by rw [atA_app,atA_app];exact h2⟩
structure StD (n:Int) (next:List (List Int)) (us:List Int):Prop where
  ln:(us.length:Int)=n
  eq:∀ i j:Nat,(i:Int)<n→(j:Int)<n→(us.getD i 0=us.getD j 0↔StabP next i j)
structure StI (n:Int) (next:List (List Int)) (pre:List (List Int)) (us:List Int):Prop where
  ln:(us.length:Int)=n
  rg:∀ t:Nat,(t:Int)<n→0≤us.getD t 0∧us.getD t 0≤t
  st:∀ t:Nat,(t:Int)<n→StabP next (us.getD t 0) t
  dn:∀ a b:Nat,[(a:Int),(b:Int)]∈pre→us.getD b 0≤a
theorem setAt_getD {us:List Int} {b i:Nat} {x:Int} (hb:b<us.length):(us.set b x).getD i 0=if i=b then x else us.getD i 0:=by
  rw [List.getD_eq_getElem?_getD,List.getElem?_set]
  by_cases h:b=i
  · rw [if_pos h,if_pos h.symm,if_pos (by omega)];rfl
  · rw [if_neg h,if_neg (fun e=>h e.symm),← List.getD_eq_getElem?_getD]
theorem StI.step {n:Int} {next pre:List (List Int)} {us:List Int} (I:StI n next pre us) {a b:Nat} (hab:a<b) (hb:(b:Int)<n) (h:StabP next a b) :
    StI n next (pre ++ [[(a:Int),(b:Int)]]) (us.set b (min (us.getD b 0) (us.getD a 0))):=by
  have hln:=I.ln
  have hbl:b<us.length:=by omega
  have ra:=I.rg a (by omega)
  have rb:=I.rg b hb
  refine ⟨by rw [List.length_set];exact hln,fun t ht=>?_,fun t ht=>?_,fun x y hxy=>?_⟩
  · rw [setAt_getD hbl]
    split
    · rename_i e;subst e;omega
    · exact I.rg t ht
  · rw [setAt_getD hbl]
    split
    · rename_i e;subst e
      by_cases hm:us.getD t 0≤us.getD a 0
      · rw [Int.min_eq_left hm];exact I.st t ht
      · rw [Int.min_eq_right (by omega)];exact (I.st a (by omega)).trans h
    · exact I.st t ht
  · rw [setAt_getD hbl]
    rcases List.mem_append.1 hxy with hxy | hxy
    · have:=I.dn x y hxy
      split
      · rename_i e;subst e;omega
      · exact this
    · rw [List.mem_singleton,List.cons.injEq,List.cons.injEq] at hxy
      have e1:x=a:=by omega
      have e2:y=b:=by omega
      subst e1;subst e2
      rw [if_pos rfl];omega
theorem StI.done {n:Int} {next pre:List (List Int)} {us:List Int} (I:StI n next pre us) (hp:∀ a b:Nat,a<b→(b:Int)<n→StabP next a b→[(a:Int),(b:Int)]∈pre):StD n next us:=by
  have le:∀ i j:Nat,(i:Int)<n→(j:Int)<n→StabP next i j→us.getD j 0≤us.getD i 0:=fun i j hi hj h=>by
    have ri:=I.rg i hi
    have rj:=I.rg j hj
    have si:=I.st i hi
    have e:(((us.getD i 0).toNat:Nat):Int)=us.getD i 0:=by omega
    have h1:StabP next (us.getD i 0) j:=si.trans h
    rw [← e] at h1
    by_cases c1:(us.getD i 0).toNat<j
    · have:=I.dn _ _ (hp _ _ c1 hj h1);omega
    · omega
  refine ⟨I.ln,fun i j hi hj=>⟨fun e=>?_,fun h=>?_⟩⟩
  · have h1:=I.st i hi
    rw [e] at h1
    exact h1.symm.trans (I.st j hj)
  · have:=le i j hi hj h
    have:=le j i hj hi h.symm
    omega
structure StJ (n:Int) (next:List (List Int)) (pre:List (List Int)) (us:List Int):Prop where
  ln:(us.length:Int)=n
  rg:∀ x∈us,0≤x∧x<n
  st:∀ i j:Nat,(i:Int)<n→(j:Int)<n→us.getD i 0=us.getD j 0→StabP next i j
  dn:∀ a b:Nat,(a:Int)<n→(b:Int)<n→[(a:Int),(b:Int)]∈pre→us.getD b 0=us.getD a 0
theorem StJ.step {n:Int} {next pre:List (List Int)} {us:List Int} (I:StJ n next pre us) {a b:Nat} (ha:(a:Int)<n) (hb:(b:Int)<n) (h:StabP next a b) :
    StJ n next (pre ++ [[(a:Int),(b:Int)]]) (repI (us.getD b 0) (us.getD a 0) us):=by
  have hln:=I.ln
  refine ⟨by rw [repI_len];exact hln,fun x hx=>?_,fun i j hi hj e=>?_,fun x y hx hy hxy=>?_⟩
  · simp only [repI,List.mem_map] at hx
    obtain ⟨c,hc,rfl⟩:=hx
    split
    · exact I.rg _ (yzm (by omega) 0)
    · exact I.rg c hc
  · rw [repI_getD (by omega),repI_getD (by omega)] at e
    split at e
    · rename_i h1
      have s1:=I.st i b hi hb h1
      split at e
      · rename_i h2
        exact s1.trans (I.st j b hj hb h2).symm
      · exact (s1.trans h.symm).trans (I.st a j ha hj e)
    · split at e
      · rename_i h2
        exact ((I.st i a hi ha e).trans h).trans (I.st j b hj hb h2).symm
      · exact I.st i j hi hj e
  · rw [repI_getD (by omega),repI_getD (by omega)]
    rcases List.mem_append.1 hxy with hxy | hxy
    · rw [I.dn x y hx hy hxy]
    · rw [List.mem_singleton,List.cons.injEq,List.cons.injEq] at hxy
      have e1:x=a:=by omega
      have e2:y=b:=by omega
      subst e1;subst e2
      rw [if_pos rfl]
      split <;> rfl
theorem StJ.done {n:Int} {next pre:List (List Int)} {us:List Int} (I:StJ n next pre us) (hp:∀ a b:Nat,a<b→(b:Int)<n→StabP next a b→[(a:Int),(b:Int)]∈pre):StD n next us:=by
  refine ⟨I.ln,fun i j hi hj=>⟨I.st i j hi hj,fun h=>?_⟩⟩
  by_cases h1:i<j
  · exact (I.dn i j hi hj (hp i j h1 hj h)).symm
  · by_cases h2:j<i
    · exact I.dn j i hj hi (hp j i h2 hi h.symm)
    · rw [show i=j by omega]
end Go.Ab
namespace Go.Ab
open Go.Proofs
end Go.Ab
namespace Go.Ab
open Go.Proofs
end Go.Ab
namespace Go.Ab
open Go.Proofs
end Go.Ab
namespace Go.Ab
open Go.Proofs
def StsOf (n:Int) (k:Nat) (xs:List Int):Prop:=xs.length=k∧∀ x∈xs,0≤x∧x<n
end Go.Ab
namespace Go.Ab
open Go.Proofs
def gapsP (next:List (List Int)) (k:Nat):List (Nat×Nat):=(List.range k).flatMap fun l=>(List.range (next.getD l []).length).flatMap fun s=>if (next.getD l []).getD s 0<0 then [(l,s)] else []
theorem mem_gapsP {next:List (List Int)} {l s:Nat}:(l,s)∈gapsP next next.length↔l<next.length∧s<(next.getD l []).length∧(next.getD l []).getD s 0<0:=by
  unfold gapsP
  rw [List.mem_flatMap]
  constructor
  · rintro ⟨a,ha,h⟩
    rw [List.mem_flatMap] at h
    obtain ⟨b,hb,h⟩:=h
    split at h
    · rename_i hn
      cases List.mem_singleton.1 h
      exact ⟨List.mem_range.1 ha,List.mem_range.1 hb,hn⟩
    · cases h
  · rintro ⟨h1,h2,h3⟩
    refine ⟨l,List.mem_range.2 h1,List.mem_flatMap.2 ⟨s,List.mem_range.2 h2,?_⟩⟩
    rw [if_pos h3];exact List.mem_singleton.2 rfl
theorem getD_set1 {xs:List Int} {i j:Nat} {v:Int} (h:i<xs.length):(xs.set i v).getD j 0=if i=j then v else xs.getD j 0:=by
  rw [List.getD_eq_getElem?_getD,List.getElem?_set,List.getD_eq_getElem?_getD]
  split
  · rfl
  · rfl
theorem getD_setR {xs:List (List Int)} {i j:Nat} {v:List Int} (h:i<xs.length):(xs.set i v).getD j []=if i=j then v else xs.getD j []:=by
  rw [List.getD_eq_getElem?_getD,List.getElem?_set,List.getD_eq_getElem?_getD]
  split
  · rfl
  · rfl
structure Fil (next:List (List Int)) (states:List Int) (done:List (Nat×Nat)) (ws:List (List Int)):Prop where
  len:ws.length=next.length
  row:∀ l<next.length,(ws.getD l []).length=(next.getD l []).length
  old:∀ l<next.length,∀ s<(next.getD l []).length,(0≤(next.getD l []).getD s 0→(ws.getD l []).getD s 0=(next.getD l []).getD s 0)∧((ws.getD l []).getD s 0=(next.getD l []).getD s 0∨(ws.getD l []).getD s 0∈states)
  new:∀ p∈done,(ws.getD p.1 []).getD p.2 0∈states
theorem Fil.init {next:List (List Int)} {states:List Int}:Fil next states [] next:=⟨rfl,fun _ _=>rfl,fun _ _ _ _=>⟨fun _=>rfl,.inl rfl⟩,fun _ h=>by cases h⟩
theorem Fil.step {next:List (List Int)} {states:List Int} {done:List (Nat×Nat)} {ws:List (List Int)} {l s:Nat} {x:Int} (F:Fil next states done ws) (hl:l<next.length) (hs:s<(next.getD l []).length)
    (hg:(next.getD l []).getD s 0<0) (hx:x∈states):Fil next states (done ++ [(l,s)]) (ws.set l ((ws.getD l []).set s x)):=by
  have hl2:l<ws.length:=by rw [F.len];exact hl
  have hs2:s<(ws.getD l []).length:=by rw [F.row l hl];exact hs
  refine ⟨by rw [List.length_set];exact F.len,fun l' h'=>?_,fun l' h' s' hs'=>?_,fun p hp=>?_⟩
  · rw [getD_setR hl2]
    split
    · rename_i e;subst e;rw [List.length_set];exact F.row l h'
    · exact F.row l' h'
  · rw [getD_setR hl2]
    split
    · rename_i e;subst e
      rw [getD_set1 hs2]
      split
      · rename_i e;subst e
        exact ⟨fun h=>by omega,.inr hx⟩
      · exact F.old l h' s' hs'
    · exact F.old l' h' s' hs'
  · rw [getD_setR hl2]
    rcases List.mem_append.1 hp with h | h
    · split
      · rename_i e
        rw [getD_set1 hs2]
        split
        · exact hx
        · rw [e];exact F.new p h
      · exact F.new p h
    · rw [List.mem_singleton.1 h,if_pos rfl,getD_set1 hs2,if_pos rfl];exact hx
structure Filling (next:List (List Int)) (states:List Int) (ws:List (List Int)):Prop where
  len:ws.length=next.length
  row:∀ l<next.length,(ws.getD l []).length=(next.getD l []).length
  old:∀ l<next.length,∀ s<(next.getD l []).length,0≤(next.getD l []).getD s 0→(ws.getD l []).getD s 0=(next.getD l []).getD s 0
  new:∀ l<next.length,∀ s<(next.getD l []).length,(next.getD l []).getD s 0<0→(ws.getD l []).getD s 0∈states
theorem Fil.all {next:List (List Int)} {states:List Int} {ws:List (List Int)} (F:Fil next states (gapsP next next.length) ws):Filling next states ws :=
  ⟨F.len,F.row,fun l hl s hs h=>(F.old l hl s hs).1 h,fun l hl s hs h=>F.new (l,s) (mem_gapsP.2 ⟨hl,hs,h⟩)⟩
theorem row_mem {next:List (List Int)} {r:List Int} (h:r∈next):∃ l<next.length,next.getD l []=r:=by
  obtain ⟨i,hi,rfl⟩:=List.getElem_of_mem h
  exact ⟨i,hi,by rw [List.getD_eq_getElem?_getD,List.getElem?_eq_getElem hi];rfl⟩
theorem cell_mem {r:List Int} {x:Int} (h:x∈r):∃ s<r.length,r.getD s 0=x:=by
  obtain ⟨i,hi,rfl⟩:=List.getElem_of_mem h
  exact ⟨i,hi,by rw [List.getD_eq_getElem?_getD,List.getElem?_eq_getElem hi];rfl⟩
theorem Filling.aut {n m:Int} {next:List (List Int)} {states:List Int} {ws:List (List Int)} (P:Prt n next) (hm:m≤10) (hn:n≤m) (hst:∀ x∈states,0≤x∧x<m) (F:Filling next states ws) :
    ∀ r∈ws,(r.length:Int)=n∧∀ x∈r,0≤x∧x<m:=by
  intro r hr
  obtain ⟨l,hl,rfl⟩:=row_mem hr
  have hl2:l<next.length:=by rw [← F.len];exact hl
  have h1:=P.row _ (yzm hl2 [])
  refine ⟨by rw [F.row l hl2];exact h1.1,fun x hx=>?_⟩
  obtain ⟨s,hs,rfl⟩:=cell_mem hx
  rw [F.row l hl2] at hs
  have hx:=h1.2 _ (yzm hs 0)
  by_cases h:0≤(next.getD l []).getD s 0
  · rw [F.old l hl2 s hs h];omega
  · exact hst _ (F.new l hl2 s hs (by omega))
end Go.Ab
namespace Go.Ab
open Go.Proofs
mutual
def AVal.oldn:AVal→AVal
  | .val x=>.val x
  | .ro none k cs=>.ro (some (some 0)) k (oldL cs)
  | .st cs=>.st (oldL cs)
  | _=>.any
def oldL:List AVal→List AVal
  | []=>[]
  | A :: cs=>A.oldn :: oldL cs
end
theorem oldL_len:∀ {cs:List AVal},(oldL cs).length=cs.length
  | []=>rfl
  | A :: cs=>by simp only [oldL,List.length_cons,oldL_len (cs:=cs)]
def Cz.olden (c:Cz):Cz:={ c with names:=fun _=>none,old:=fun b=>c.ext b∧b<c.base }
section
variable {c:Cz} (hb:c.base=c.w.heap.size)
include hb
mutual
theorem Rep.olden:∀ (A:AVal) (v:Value),Rep c A v→Rep c.olden A.oldn v
  | .any,_,_=>by simp [AVal.oldn,Rep]
  | .val x,v,h=>by simpa [AVal.oldn,Rep] using h
  | .ro none k cs,v,h=>by
    simp only [AVal.oldn,Rep] at h ⊢
    obtain ⟨base,len,cap,hv,hk,hl,hm,hn,hc⟩:=h
    refine ⟨base,len,cap,hv,hk,by rw [oldL_len];exact hl,hm,?_,?_⟩
    · intro n e
      cases e
      refine ⟨(fun e=>by cases e),?_⟩
      rw [oldL_len]
      rcases hc with hc | ⟨b,off,hbb,hi,_⟩
      · exact .inl hc
      · refine .inr ⟨b,off,hbb,?_,by rw [hb];exact hi.2.1⟩
        rcases hi.1 with h | h
        · exact h
        · exact absurd hi.2.1 (by rw [← hb];omega)
    · rw [oldL_len]
      rcases hc with hc | ⟨b,off,hbb,hi,hr⟩
      · exact .inl hc
      · exact .inr ⟨b,off,hbb,hi,RepAt.olden cs off hr⟩
  | .ro (some _) _ _,_,_=>by simp [AVal.oldn,Rep]
  | .own _ _,_,_=>by simp [AVal.oldn,Rep]
  | .st cs,v,h=>by
    simp only [AVal.oldn,Rep] at h ⊢
    obtain ⟨vs,hv,hl⟩:=h
    exact ⟨vs,hv,RepL.olden cs vs.toList hl⟩
  | .tup _,_,_=>by simp [AVal.oldn,Rep]
  | .ptr _ _ _,_,_=>by simp [AVal.oldn,Rep]
  | .rp _ _,_,_=>by simp [AVal.oldn,Rep]
  | .mp _ _,_,_=>by simp [AVal.oldn,Rep]
  | .clo _ _,_,_=>by simp [AVal.oldn,Rep]
theorem RepAt.olden {b:Nat}:∀ (cs:List AVal) (off:Nat),RepAt c b off cs→RepAt c.olden b off (oldL cs)
  | [],_,_=>by simp [oldL,RepAt]
  | A :: cs,off,h=>by
    simp only [oldL,RepAt] at h ⊢
    obtain ⟨⟨v,hv,hr⟩,ht⟩:=h
    exact ⟨⟨v,hv,Rep.olden A v hr⟩,RepAt.olden cs (off+1) ht⟩
theorem RepL.olden:∀ (cs:List AVal) (vs:List Value),RepL c cs vs→RepL c.olden (oldL cs) vs
  | [],[],_=>by simp [oldL,RepL]
  | [],_ :: _,h=>by simp [RepL] at h
  | _ :: _,[],h=>by simp [RepL] at h
  | A :: cs,v :: vs,h=>by
    simp only [oldL,RepL] at h ⊢
    exact ⟨Rep.olden A v h.1,RepL.olden cs vs h.2⟩
end
end
def Cz.newer (c:Cz) (o:Nat→Prop):Cz:={ c with ext:=fun b=>c.ext b∨o b,old:=fun _=>False }
theorem newer_imm {c:Cz} {o:Nat→Prop} {b:Nat} (h:c.imm b):(c.newer o).imm b:=by
  obtain ⟨h1,h2,h3⟩:=h
  refine ⟨?_,h2,h3⟩
  rcases h1 with h | h
  · exact .inl (.inl h)
  · exact .inr h
theorem newer_nmd {c:Cz} {o:Nat→Prop} {n:Option Nat} {b m:Nat} (h0:isNew (some n)=true) (h:c.nmd n b m):(c.newer o).nmd n b m:=by
  cases n with
  | none=>exact h
  | some n=>cases n with
    | zero=>cases h0
    | succ n=>exact h
section
variable {c:Cz} {o:Nat→Prop}
mutual
theorem Rep.newer:∀ (A:AVal) (v:Value),A.fresh→Rep c A v→Rep (c.newer o) A v
  | .any,_,_,_=>by simp [Rep]
  | .val x,v,_,h=>by simpa [Rep] using h
  | .ro nm k cs,v,hf,h=>by
    simp only [AVal.fresh] at hf
    simp only [Rep] at h ⊢
    obtain ⟨base,len,cap,hv,hk,hl,hm,hn,hc⟩:=h
    refine ⟨base,len,cap,hv,hk,hl,hm,?_,?_⟩
    · intro n e
      refine ⟨(hn n e).1,?_⟩
      rcases (hn n e).2 with h0 | ⟨b,off,hb,hnm⟩
      · exact .inl h0
      · rcases hf.1 with h1 | h1
        · exact .inl (by rw [h1];rfl)
        · exact .inr ⟨b,off,hb,newer_nmd (by rw [← e];exact h1) hnm⟩
    · rcases hc with hc | ⟨b,off,hb,hi,hr⟩
      · exact .inl hc
      · exact .inr ⟨b,off,hb,newer_imm hi,RepAt.newer cs off hf.2 hr⟩
  | .own r ver,v,_,h=>by simp only [Rep] at h ⊢;exact h
  | .st cs,v,hf,h=>by
    simp only [AVal.fresh] at hf
    simp only [Rep] at h ⊢
    obtain ⟨vs,hv,hl⟩:=h
    exact ⟨vs,hv,RepL.newer cs vs.toList hf hl⟩
  | .tup cs,v,hf,h=>by
    simp only [AVal.fresh] at hf
    simp only [Rep] at h ⊢
    obtain ⟨vs,hv,hl⟩:=h
    exact ⟨vs,hv,RepL.newer cs vs.toList hf hl⟩
  | .ptr r ver off,v,_,h=>by simp only [Rep] at h ⊢;exact h
  | .rp _ _,_,hf,_=>by simp [AVal.fresh] at hf
  | .mp r ver,v,_,h=>by simp only [Rep] at h ⊢;exact h
  | .clo f caps,v,hf,h=>by
    simp only [AVal.fresh] at hf
    simp only [Rep] at h ⊢
    obtain ⟨vs,hv,hl⟩:=h
    exact ⟨vs,hv,RepL.newer caps vs.toList hf hl⟩
theorem RepAt.newer {b:Nat}:∀ (cs:List AVal) (off:Nat),freshL cs→RepAt c b off cs→RepAt (c.newer o) b off cs
  | [],_,_,_=>by simp [RepAt]
  | A :: cs,off,hf,h=>by
    simp only [freshL] at hf
    simp only [RepAt] at h ⊢
    obtain ⟨⟨v,hv,hr⟩,ht⟩:=h
    exact ⟨⟨v,hv,Rep.newer A v hf.1 hr⟩,RepAt.newer cs (off+1) hf.2 ht⟩
theorem RepL.newer:∀ (cs:List AVal) (vs:List Value),freshL cs→RepL c cs vs→RepL (c.newer o) cs vs
  | [],[],_,_=>by simp [RepL]
  | [],_ :: _,_,h=>by simp [RepL] at h
  | _ :: _,[],_,h=>by simp [RepL] at h
  | A :: cs,v :: vs,hf,h=>by
    simp only [freshL] at hf
    simp only [RepL] at h ⊢
    exact ⟨Rep.newer A v hf.1 h.1,RepL.newer cs vs hf.2 h.2⟩
end
end
theorem ObjRep.newer {c:Cz} {o:Nat→Prop} {v:Value}:∀ {ao:AObj},ao.fresh→ObjRep c v ao→ObjRep (c.newer o) v ao
  | .gone,_,_=>trivial
  | .box _ cs,hf,⟨b,t,cells,h1,h2,h3⟩=>⟨b,t,cells,h1,h2,RepL.newer cs _ hf h3⟩
  | .row _ k nn cs,hf,⟨base,n,cap,h1,h2,h3,h4,h5,h6,h7⟩=>⟨base,n,cap,h1,h2,h3,h4,h5,h6,by
    rcases h7 with h | ⟨g,off,t,cells,e1,e2,e3,e4⟩
    · exact .inl h
    · exact .inr ⟨g,off,t,cells,e1,e2,e3,RepL.newer cs _ hf e4⟩⟩
  | .map _ ks vs,hf,⟨b,clock,ents,h1,h2,h3,h4⟩=>⟨b,clock,ents,h1,h2,h3,RepL.newer vs _ hf h4⟩
theorem con_oldF {P:Program} {g:FuncId} {args:List AVal} {sh:Bool} {R:List AObj→List AObj→AVal→Prop} (hfn:∃ fn,P.funcs[g]?=some fn∧fn.body.isSome=true∧isNumG fn=false)
    (h:∀ (c0:Cz) (vs:List Value),Good c0.w (fun _=>False) c0→c0.hp=outHp [] []→RepL c0 (oldL args) vs →
      Calls P g vs.toArray c0.w fun e w'=>∃ v c1 outs rows res,R outs rows res∧e=.returned v∧c1.w=w'∧Good c0.w (fun _=>False) c1∧c1.hp=outHp outs rows∧Rep c1 res v ∧
        (∀ b,c1.ext b→(sh=true∧c0.ext b)∨False)∧(∀ b,c1.old b→c0.old b)∧(∀ r v,c0.used v→(c1.hp r).ver=some v→(c0.hp r).ver=some v∧c1.loc r=c0.loc r)∧(∀ v,c0.used v→c1.used v))
    (hR:∀ outs rows res,R outs rows res→outs=[]∧(∀ o∈rows,o.fresh)∧res.fresh):Con P g [] args sh R:=by
  refine ⟨hfn,fun c0 outsB vs G hhp hrep=>?_⟩
  have hgone:∀ r,c0.hp r=.gone:=fun r=>by
    rw [hhp]
    unfold outHp
    split
    · rfl
    · split
      · rfl
      · split <;> rfl
  have hbase:c0.base=c0.w.heap.size:=G.base.1
  have G0:Good c0.w (fun _=>False) c0.olden :=
    { base:=⟨hbase,fun b hb=>hb.2⟩
      obj:=fun r=>by show ObjRep c0.olden (c0.loc r) (c0.hp r);rw [hgone r];trivial
      inj:=fun r r' b h1=>absurd (hgone r) h1
      own:=fun r b h1=>absurd (hgone r) h1
      verU:=fun r v hv=>by
        have hv:(c0.hp r).ver=some v:=hv
        rw [hgone r] at hv;cases hv
      verInj:=fun r r' v hv=>by
        have hv:(c0.hp r).ver=some v:=hv
        rw [hgone r] at hv;cases hv
      outExt:=fun b hb=>hb.elim
      nam:=fun n b hn=>by cases hn
      namInj:=fun n n' b hn=>by cases hn
      fin:=G.fin
      os:=rfl,tape:=rfl,output:=rfl
      size:=Nat.le_refl _
      frame:=fun b _ _=>rfl }
  refine (h c0.olden vs G0 hhp (RepL.olden hbase args vs hrep)).mono ?_
  rintro e w' ⟨v,c1,outs,rows,res,hRR,he,hw,G1,h1,hres,hext,hold,hloc,hused⟩
  obtain ⟨rfl,hfr,hfs⟩:=hR _ _ _ hRR
  refine ⟨v,c1.newer outsB,[],rows,res,hRR,he,hw,?_,h1,Rep.newer res v hfs hres,?_,fun b hb=>hb.elim,hloc,hused⟩
  · exact
    { base:=⟨G1.base.1,fun b hb=>hb.elim⟩
      obj:=fun r=>by
        refine ObjRep.newer ?_ (G1.obj r)
        show (c1.hp r).fresh
        rw [h1]
        unfold outHp
        split
        · trivial
        · split
          · trivial
          · split
            · rw [List.getD_eq_getElem?_getD]
              cases hg:rows[r - 6000]? with
              | none=>trivial
              | some o=>exact hfr o (List.mem_of_getElem? hg)
            · trivial
      inj:=G1.inj
      own:=fun r b h2 h3=>by
        rcases G1.own r b h2 h3 with h | h
        · exact .inl h
        · exact h.elim
      verU:=G1.verU,verInj:=G1.verInj
      outExt:=fun b hb=>⟨.inr hb,fun h=>h⟩
      nam:=fun n b hn=>by
        obtain ⟨a1,a2,a3,a4⟩:=G1.nam n b hn
        refine ⟨a1,?_,a3,a4⟩
        rcases a2 with h | h
        · exact .inl h
        · exact h.elim
      namInj:=G1.namInj,fin:=G1.fin,os:=G1.os,tape:=G1.tape,output:=G1.output,size:=G1.size
      frame:=fun b hb _=>G1.frame b hb (fun h=>h) }
  · rintro b (hb | hb)
    · rcases hext b hb with h | h
      · exact .inl h
      · exact h.elim
    · exact .inr hb
theorem oldL_ints {k:IntKind}:∀ {xs:List Int},oldL (intsK k xs)=intsK k xs
  | []=>rfl
  | x :: xs=>by
    have:=oldL_ints (k:=k) (xs:=xs)
    simp only [List.map_cons,oldL,AVal.oldn] at this ⊢
    rw [this]
end Go.Ab
namespace Go.Ab
open Go.Proofs
end Go.Ab
namespace Go.Ab
open Go.Proofs
end Go.Ab
namespace Go.Ab
open Go.Proofs
end Go.Ab
namespace Go.Ab
open Go.Proofs
theorem StsOf.allIn {n:Int} {k:Nat} {xs:List Int} (h:StsOf n k xs):allIn xs 0 (n - 1)=true:=by
  simp only [Go.Ab.allIn,List.all_eq_true]
  intro x hx
  have:=h.2 x hx
  simp;omega
end Go.Ab
namespace Go.Ab
open Go Go.Proofs
theorem cE28:cElem Try.prog 28=some (1,8,.int .i64 0):=by kernel_rfl
abbrev Pushed (w1:World) (t:TypeId) (A:List Value) (w:World):Prop:=w.os=w1.os∧w.tape=w1.tape∧w.output=w1.output∧w.heap=w1.heap.push (.cells A.toArray t (0,0))
theorem pushed_set {w1 w:World} {t:TypeId} {A B:List Value} (h:Pushed w1 t A w):Pushed w1 t B (w.setRow w1.heap.size B.toArray):=by
  obtain ⟨h1,h2,h3,h4⟩:=h
  refine ⟨h1,h2,h3,?_⟩
  simp only [World.setRow,h4]
  apply Array.ext
  · simp
  · intro i hi1 hi2
    rw [Array.getElem_modify]
    by_cases e:w1.heap.size=i
    · subst e;simp
    · have hlt:i<w1.heap.size:=by simp at hi2;omega
      simp [e,hlt,Array.getElem_push]
theorem pushed_row {w1 w:World} {t:TypeId} {A:List Value} (h:Pushed w1 t A w):w.heap[w1.heap.size]?=some (.cells A.toArray t (0,0)):=by rw [h.2.2.2];simp
theorem pushed_cell {w1 w:World} {t:TypeId} {A:List Value} (h:Pushed w1 t A w) {b off:Nat} (hb:b<w1.heap.size):w.cell? ⟨b,off,none⟩=w1.cell? ⟨b,off,none⟩:=by
  refine World.cell?_of_block ?_
  have hb2:b≠w1.heap.size:=Nat.ne_of_lt hb
  show w.heap[b]?=w1.heap[b]?
  rw [h.2.2.2,Array.getElem?_push,if_neg hb2]
theorem pushed_at {w1 w:World} {t:TypeId} {A:List Value} (h:Pushed w1 t A w) {i:Nat} {v:Value} (hv:A[i]?=some v):w.cell? ⟨w1.heap.size,i,none⟩=some v:=by
  have e:w.cell? ⟨w1.heap.size,i,none⟩=(w1.alloc (.cells A.toArray t)).cell? ⟨w1.heap.size,i,none⟩:=by
    refine World.cell?_of_block ?_
    show w.heap[w1.heap.size]?=(w1.heap.push (.cells A.toArray t (0,0)))[w1.heap.size]?
    rw [h.2.2.2]
  rw [e,World.cell?_alloc_at _ _ _ _ rfl]
  simpa using hv
theorem copy_both {P:Program} {w:World} {ops:Array Oper} {rest:List Oper} {o:Oper} {a:Act} {Q:Exit→Act→World→Prop} (hgd:o.guard=none) (d s:Operand) (dT sT:TypeId)
    (ho:o.op=.call { callee:=.builtin .copy,args:=#[d,s],argTypes:=#[dT,sT] }) (elem:TypeId) (hu:P.underlying dT=some (.slice elem)) (hsz:(P.info? elem).map (·.size)=some 1)
    (g off dLen dCap:Nat) (ad:Addr) (sLen sCap:Nat) (hd:a.eval d=.slice (some ⟨g,off,none⟩) dLen dCap) (hs:a.eval s=.slice (some ad) sLen sCap)
    (cur:Array Value) (t:TypeId) (hg:w.heap[g]?=some (.cells cur t (0,0))) (cs:List Value) (hn:cs.length=Nat.min sLen dLen)
    (hsrc:∀ j v,cs[j]?=some v→w.cell? (ad.add j)=some v) (hfit:off+cs.length≤cur.size) (h1:∀ v∈cs,v.oneCell'=true)
    (h:∀ w',(cs=[]∧w'=w∨w'=w.setRow g (cur.toList.take off ++ (cs ++ cur.toList.drop (off+cs.length))).toArray)→wpList P ops Q rest (a.put o.dst (goInt cs.length)) w'):wpList P ops Q (o :: rest) a w:=by
  by_cases h0:cs=[]
  · subst h0
    exact wpList_copy_nothing hgd d s dT sT ho elem hu hsz _ _ dLen dCap sLen sCap hd hs (by simpa using hn.symm) (h w (.inl ⟨rfl,rfl⟩))
  · exact wpList_copy_own hgd d s dT sT ho elem hu hsz g off dLen dCap ad sLen sCap hd hs cur t hg cs hn hsrc hfit h1 (h _ (.inr rfl))
theorem step_copy {P:Program} {ops:Array Oper} {o:Oper} {a:Act} {w:World} {K:Act→World→Prop} {Q:Exit→Act→World→Prop} {E:Prop} (hgd:o.guard=none) (d s:Operand) (dT sT:TypeId)
    (ho:o.op=.call { callee:=.builtin .copy,args:=#[d,s],argTypes:=#[dT,sT] }) (elem:TypeId) (hu:P.underlying dT=some (.slice elem)) (hsz:(P.info? elem).map (·.size)=some 1)
    (g off dLen dCap:Nat) (ad:Addr) (sLen sCap:Nat) (hd:a.eval d=.slice (some ⟨g,off,none⟩) dLen dCap) (hs:a.eval s=.slice (some ad) sLen sCap)
    (cur:Array Value) (t:TypeId) (hg:w.heap[g]?=some (.cells cur t (0,0))) (cs:List Value) (hn:cs.length=Nat.min sLen dLen)
    (hsrc:∀ j v,cs[j]?=some v→w.cell? (ad.add j)=some v) (hfit:off+cs.length≤cur.size) (h1:∀ v∈cs,v.oneCell'=true)
    (hK:K (a.put o.dst (goInt cs.length)) (w.setRow g (cur.toList.take off ++ (cs ++ cur.toList.drop (off+cs.length))).toArray)) :
    if Region.wanted o (yielded ops a.tmps)=true then Oper.wp P o a w K Q else E:=by
  have hw:Region.wanted o (yielded ops a.tmps)=true:=by simp [Region.wanted,hgd]
  rw [if_pos hw]
  have hrun:=run_copy_row (P:=P) w dT sT o.type elem g off dLen dCap ad sLen sCap cur t cs hu hsz hg hn hsrc hfit h1
  unfold Oper.wp
  simp [execOp,ho,resolve,invoke,builtin,hd,hs,hrun,Result.andThen]
  exact hK
theorem rep_one {v:Value}:∀ {n:Nat},(List.replicate n [v]).flatten=List.replicate n v
  | 0=>rfl
  | n+1=>by rw [List.replicate_succ,List.flatten_cons,rep_one (n:=n),List.replicate_succ];rfl
abbrev rowk (x:Int) (k m:Nat):List Value:=List.replicate m (.int .i64 x) ++ List.replicate (k - m) (.int .i64 0)
theorem rowk_put {x:Int} {k m c:Nat} (h:m+c≤k):(rowk x k m).take m ++ (List.replicate c (.int .i64 x) ++ (rowk x k m).drop (m+c))=rowk x k (m+c):=by
  rw [List.take_left' (by simp),List.drop_append,List.drop_eq_nil_of_le (by simp),List.length_replicate,List.nil_append,Nat.add_sub_cancel_left,List.drop_replicate,← List.append_assoc,List.replicate_append_replicate]
  congr 2;omega
theorem rep_walk (b off cap:Nat) (x:Int) (k:Nat) (hk:k≤1000) (w:World) (T:World→Prop) (hT:∀ w1,T w1→w1.cell? ⟨b,off,none⟩=some (.int .i64 x)∧b<w1.heap.size)
    (hMul:Calls Try.prog n_math_bits_Mul #[.int .u64 1,.int .u64 (k:Int)] w fun e w'=>e=.returned (.tuple #[.int .u64 0,.int .u64 (k:Int)])∧T w') :
    Calls Try.prog nz17 #[.slice (some ⟨b,off,none⟩) 1 cap,.int .i64 (k:Int)] w fun e w'=>∃ w1 t,T w1∧e=.returned (.slice (some ⟨w1.heap.size,0,none⟩) k k)∧Pushed w1 t (List.replicate k (.int .i64 x)) w':=by
  obtain ⟨t,i,hu,hi,hz,hsz,hby,_,_,_⟩:=cElem_spec cE28
  have hwk:IntKind.u64.wrap (k:Int)=k:=u64w (by omega)
  have hwi:IntKind.i64.wrap (k:Int)=k:=w64 (by omega)
  go_enter Try.func31,Try.ntmps31
  iterate 43 go_step
  go_step
  refine hMul.mono ?_
  rintro e w1 ⟨rfl,hT1⟩
  obtain ⟨hc,hbl⟩:=hT w1 hT1
  clear hMul hT
  simp only []
  have hk9:¬ (k:Int) > 9223372036854775807:=by omega
  iterate 55 go_step
  have hmk:=run_make (P:=Try.prog) w1 28 t i _ hu hi hz .i64 .i64 (k:Int) (k:Int) (by omega) (by omega) (by rw [hby];omega) (by omega)
  rw [hmk,Result.andThen_ok]
  have hP0:Pushed w1 t (List.replicate k (.int .i64 0)) (w1.alloc (.cells (madeCells (Value.int .i64 0).cells ((k:Int).toNat * i.size)) t)):=by
    refine ⟨rfl,rfl,rfl,?_⟩
    have hcells:(madeCells (Value.int .i64 0).cells ((k:Int).toNat * i.size)).toList=List.replicate k (.int .i64 0):=by
      rw [hsz,Int.toNat_natCast]
      have:=madeCells_list [Value.int .i64 0] k 1 (by omega) rfl
      rw [show (Value.int .i64 0).cells=[Value.int .i64 0].toArray from rfl,this,rep_one]
    show w1.heap.push _=_
    rw [← hcells]
  generalize w1.alloc (.cells (madeCells (Value.int .i64 0).cells ((k:Int).toNat * i.size)) t)=w2 at hP0 ⊢
  simp only [Int.toNat_natCast]
  iterate 16 go_step
  have hP1:Pushed w1 t (rowk x k 0) w2:=by
    have e:rowk x k 0=List.replicate k (.int .i64 0):=by simp [rowk]
    rw [e];exact hP0
  have hs1:(Try.prog.info? t).map (·.size)=some 1:=by rw [hi,Option.map_some,hsz]
  refine copy_both rfl (.tmp 31) (.tmp 32) 28 28 rfl t hu hs1 w1.heap.size 0 k k ⟨b,off,none⟩ 1 cap rfl rfl (rowk x k 0).toArray t (pushed_row hP1) (List.replicate (min 1 k) (.int .i64 x)) (by simp) (fun j v hv=>?_) (by simp;omega) (fun v hv=>by rw [(List.mem_replicate.1 hv).2];rfl) (fun w3 h3=>?_)
  · rw [List.getElem?_replicate] at hv
    split at hv
    · rename_i hj
      cases hv
      obtain rfl:j=0:=by omega
      show w2.cell? ⟨b,off+0,none⟩=_
      rw [Nat.add_zero,pushed_cell hP1 hbl];exact hc
    · cases hv
  have hP3:Pushed w1 t (rowk x k (min 1 k)) w3:=by
    rcases h3 with ⟨hn,rfl⟩ | rfl
    · have:min 1 k=0:=by simpa using congrArg List.length hn
      rw [this];exact hP1
    · have:=pushed_set (B:=rowk x k (min 1 k)) hP1
      have e:=rowk_put (x:=x) (k:=k) (m:=0) (c:=min 1 k) (by omega)
      rw [Nat.zero_add] at e
      rw [List.length_replicate,Nat.zero_add,e];exact this
  clear h3 hP1 hP0
  iterate 8 go_step
  refine wp_loop_ix (a:=?aa) (fun n a w'=>∃ (m:Nat) (v:Nat→Value),n=k - m∧m≤k∧(m=0→k=0)∧Pushed w1 t (rowk x k m) w'∧a=⟨#[v 0,v 1,v 2,v 3,v 4,v 5,v 6,Value.slice (some ⟨w1.heap.size,0,none⟩) k k,Value.int .i64 (m:Int),v 9,v 10,v 11,v 12,v 13,v 14,v 15,v 16,v 17,v 18,v 19,v 20,v 21,v 22,v 23,v 24,v 25,v 26,v 27,v 28,v 29,v 30,v 31,v 32,v 33,v 34,v 35,v 36,v 37,v 38,v 39,v 40,v 41,v 42,v 43,v 44,v 45,v 46,v 47],[]⟩) ⟨_,min 1 k,fun j=>(Act.tmps ?aa).getD j undef,rfl,by omega,by omega,hP3,?_⟩ ?_
  · rfl
  · rintro n a w' ⟨m,v,rfl,hm,hm0,hP,rfl⟩
    iterate 24 go_step
    · have hd1:Pushed w1 t (rowk x k m) w'.drew:=hP
      have hmk1:(0:Int)≤m:=by omega
      have hmk2:(m:Int)≤k:=by omega
      have hmt:((m:Int)).toNat=m:=by omega
      have hkm:¬ k=m:=by omega
      have hso:∀ W:World,(sizeOf t).run Try.prog W=.ok 1 W:=fun W=>by simp [sizeOf,typeInfo,hi,hsz]
      have hsrc:∀ (j:Nat) (v:Value),(List.replicate (min m (k - m)) (Value.int .i64 x))[j]?=some v→w'.drew.cell? (Addr.add ⟨w1.heap.size,0,none⟩ j)=some v:=by
        intro j v hv
        rw [List.getElem?_replicate] at hv
        split at hv
        · rename_i hj
          cases hv
          have ea:Addr.add ⟨w1.heap.size,0,none⟩ j=⟨w1.heap.size,j,none⟩:=by rw [addr_add,Nat.zero_add]
          rw [ea]
          refine pushed_at hd1 ?_
          rw [List.getElem?_append_left (by rw [List.length_replicate];omega),List.getElem?_replicate,if_pos (by omega)]
        · cases hv
      go_region_law (refine step_copy rfl (.tmp 41) (.tmp 44) 28 28 rfl t hu hs1 w1.heap.size m (k - m) (k - m) ⟨w1.heap.size,0,none⟩ m k (by simp [Act.eval,Act.put]) (by simp [Act.eval,Act.put]) (rowk x k m).toArray t (pushed_row hd1) (List.replicate (min m (k - m)) (.int .i64 x)) (by rw [List.length_replicate]) hsrc (by simp <;> omega) (fun v hv=>by rw [(List.mem_replicate.1 hv).2];rfl) ?_)
      iterate 3 go_step
      have hww:IntKind.i64.wrap ((m:Int)+((min m (k - m):Nat):Int))=((m+min m (k - m):Nat):Int):=by rw [w64 (by omega)];omega
      have e:=rowk_put (x:=x) (k:=k) (m:=m) (c:=min m (k - m)) (by omega)
      rw [List.take_left' (by simp)] at e
      rw [hww,e]
      refine ⟨k - (m+min m (k - m)),by omega,m+min m (k - m),fun j=>([(34,.int .i64 (m:Int)),(35,.slice (some ⟨w1.heap.size,0,none⟩) k k),(36,.int .i64 (k:Int)),(37,.bool true),(38,.int .i64 (m:Int)),(39,.slice (some ⟨w1.heap.size,0,none⟩) k k),(40,.int .i64 (m:Int)),(41,.slice (some ⟨w1.heap.size,m,none⟩) (k - m) (k - m)),(42,.slice (some ⟨w1.heap.size,0,none⟩) k k),(43,.int .i64 (m:Int)),(44,.slice (some ⟨w1.heap.size,0,none⟩) m k),(45,.int .i64 ((min m (k - m):Nat):Int)),(46,.int .i64 ((m+min m (k - m):Nat):Int))].lookup j).getD (v j),rfl,by omega,by omega,pushed_set hd1,rfl⟩
    · iterate 18 go_step
      go_ret
      have hmk:m=k:=by omega
      subst hmk
      refine ⟨w1,t,hT1,rfl,?_⟩
      have e:rowk x m m=List.replicate m (.int .i64 x):=by simp [rowk]
      rw [← e];exact hP
theorem k_Mul64 (k:Nat) (hk:k≤1000):Fun2 Try.prog n_math_bits_Mul64 [.val (.int .u64 1),.val (.int .u64 k)] (.int .u64 0) (.int .u64 k):=by
  refine fun2_of mixed c_math_bits_Mul64 rfl ?_
  have h1:IntKind.u64.wrap (k:Int)=k:=u64w (by omega)
  have hA:(BitVec.ofInt 64 (k:Int) &&& BitVec.ofInt 64 4294967295).toNat=k:=by
    rw [BitVec.toNat_and,BitVec.toNat_ofInt,BitVec.toNat_ofInt]
    rw [show ((k:Int) % ((2 ^ 64:Nat):Int)).toNat=k by omega,show ((4294967295:Int) % ((2 ^ 64:Nat):Int)).toNat=2 ^ 32 - 1 by decide,Nat.and_two_pow_sub_one_eq_mod]
    omega
  have hB:(BitVec.ofInt 64 1 &&& BitVec.ofInt 64 4294967295).toNat=1:=by decide
  have hC:(k:Int).fdiv (2 ^ min 32 64)=0:=by
    rw [show (2:Int) ^ min 32 64=4294967296 by decide,Int.fdiv_eq_ediv_of_nonneg _ (by omega)];omega
  have hD:Int.fdiv 1 (2 ^ min 32 64)=0:=by decide
  have hF:Int.fdiv 0 (2 ^ min 32 64)=0:=by decide
  have hE:(BitVec.ofInt 64 0 &&& BitVec.ofInt 64 4294967295).toNat=0:=by decide
  have w0:IntKind.u64.wrap 0=0:=by decide
  have w1:IntKind.u64.wrap 1=1:=by decide
  have n0:((0:Nat):Int)=0:=rfl
  have n1:((1:Nat):Int)=1:=rfl
  simp only [B_math_bits_Mul64_11,B_math_bits_Mul64_10,B_math_bits_Mul64_9,B_math_bits_Mul64_8,B_math_bits_Mul64_7,B_math_bits_Mul64_6,B_math_bits_Mul64_5,B_math_bits_Mul64_4,B_math_bits_Mul64_3,B_math_bits_Mul64_2,B_math_bits_Mul64_1,A_math_bits_Mul64,h1,hA,hB,hC,hD,hF,hE,w0,w1,n0,n1,Int.zero_mul,Int.mul_zero,Int.one_mul,Int.add_zero,Int.zero_add,go_sem,yz0,xx9,xx8,xx6,xx7,xx5,xx0,xx1,xx2,reduceIte,xx3,xx4,reduceCtorEq]
  refine congrArg (fun z=>AVal.tup [AVal.val (Value.int .u64 z),AVal.val (Value.int .u64 (k:Int))]) ?_
  show IntKind.u64.wrap (IntKind.u64.wrap ((IntKind.u64.wrap ((IntKind.u64.wrap (IntKind.u64.wrap (((BitVec.ofInt 64 1 &&& BitVec.ofInt 64 4294967295).toNat:Nat):Int) * IntKind.u64.wrap (((BitVec.ofInt 64 (k:Int) &&& BitVec.ofInt 64 4294967295).toNat:Nat):Int))).fdiv (2 ^ min 32 64))).fdiv (2 ^ min 32 64))+(IntKind.u64.wrap (IntKind.u64.wrap (((BitVec.ofInt 64 (IntKind.u64.wrap ((IntKind.u64.wrap (IntKind.u64.wrap (((BitVec.ofInt 64 1 &&& BitVec.ofInt 64 4294967295).toNat:Nat):Int) * IntKind.u64.wrap (((BitVec.ofInt 64 (k:Int) &&& BitVec.ofInt 64 4294967295).toNat:Nat):Int))).fdiv (2 ^ min 32 64))) &&& BitVec.ofInt 64 4294967295).toNat:Nat):Int))).fdiv (2 ^ min 32 64))=0
  rw [hA,hB,n1,w1,h1,Int.one_mul,h1,hC,w0,hF,hE]
  simp only [w0,n0,hF,Int.add_zero]
theorem k_Mul (k:Nat) (hk:k≤1000):Fun2 Try.prog n_math_bits_Mul [.val (.int .u64 1),.val (.int .u64 k)] (.int .u64 0) (.int .u64 k):=by
  refine fun2_of mixed c_math_bits_Mul rfl ?_
  simp only [B_math_bits_Mul_2,B_math_bits_Mul_4,B_math_bits_Mul_3,B_math_bits_Mul_1,A_math_bits_Mul,go_sem,yz0,xx9,xx8,xx6,xx7,xx5,xx0,xx1,xx2,reduceIte,xx3,xx4,reduceCtorEq]
  intro vs
  refine call_fun2 (k_Mul64 k hk) qCS ?_
  simp only [go_sem,yz0,xx9,xx8,xx6,xx7,xx5,xx0,xx1,xx2,reduceIte,xx3,xx4,reduceCtorEq]
theorem ints_repV {x:Int} {k:Nat}:ints (List.replicate k x)=(List.replicate k (Value.int .i64 x)).map .val:=by simp
theorem k_Repeat (x:Int) (k:Nat) (hk:k≤1000):RowI Try.prog nz17 [.ro none 1 (ints [x]),iv k] (fun ys=>ys=List.replicate k x):=by
  refine con_oldF ⟨_,Try.func31,rfl,by kernel_rfl⟩ (fun c0 vs G hhp hrep=>?_) (fun outs rows res hR=>by
    obtain ⟨h,cs,v,⟨xs,rfl,_⟩,_,rfl,rfl⟩:=hR
    have hf:freshL (ints xs):=(freshL_iff _).2 fun A hA=>by
      simp only [List.mem_map] at hA
      rcases hA with ⟨y,_,rfl⟩
      simp [AVal.fresh]
    exact ⟨h,fun o ho=>by rw [List.mem_singleton.1 ho];exact hf,by simp [AVal.fresh]⟩)
  simp only [oldL,AVal.oldn,oldL_ints] at hrep
  match vs,hrep with
  | [v1,v2],hrep =>
  simp only [RepL,Rep,and_true] at hrep
  obtain ⟨⟨base,len,cap,rfl,_,hl,_,_,hc⟩,rfl⟩:=hrep
  obtain rfl:len=1:=by simpa using hl.symm
  rcases hc with hc | ⟨b,off,rfl,him,hra⟩
  · simp at hc
  have hbl:b<c0.w.heap.size:=him.2.1
  simp only [List.map_cons,List.map_nil,RepAt,Rep,and_true] at hra
  obtain ⟨_,hcell,rfl⟩:=hra
  have hmm:=maxLen_le
  refine (rep_walk b off cap x k hk c0.w (fun w1=>∃ c1,Good c0.w (fun _=>False) c1∧c1.w=w1∧c1.hp=outHp [] []∧(∀ b,¬ c1.ext b)∧(∀ v,c0.used v→c1.used v)∧(∀ b,c1.old b→c0.old b)) ?_ ?_).mono ?_
  · rintro w1 ⟨c1,G1,rfl,_⟩
    refine ⟨?_,Nat.lt_of_lt_of_le hbl G1.size⟩
    rw [World.cell?_of_block (w:=c0.w) (G1.frame b hbl (fun h=>h))];exact hcell
  · refine ((k_Mul k hk).2 c0 (fun _=>False) [.int .u64 1,.int .u64 k] G hhp (by simp [RepL,Rep])).mono ?_
    rintro e w' ⟨v,c1,outs,rows,res,⟨rfl,rfl,rfl⟩,rfl,rfl,G1,hp1,hrep1,hext,hold,_,hused⟩
    simp only [Rep] at hrep1
    obtain ⟨vs,rfl,hvs⟩:=hrep1
    obtain ⟨L⟩:=vs
    refine ⟨?_,c1,G1,rfl,hp1,fun b hb=>by rcases hext b hb with h | h;exact absurd h.1 (by simp);exact h,hused,hold⟩
    match L,hvs with
    | [a1,a2],hvs =>
      simp only [RepL,Rep,and_true] at hvs
      rw [hvs.1,hvs.2]
  · rintro e w' ⟨w1,t,⟨c1,G1,rfl,hp1,hext,hused,hold⟩,rfl,hP⟩
    obtain ⟨mv,hmv⟩:=G1.fin
    have hver:¬ c1.used mv:=fun h=>Nat.lt_irrefl _ (hmv _ h)
    have hd:c1.hp 6000=.gone:=by rw [hp1];rfl
    have hG:=G1.new hd hver (.cells (List.replicate k (Value.int .i64 x)).toArray t (0,0)) (.row mv 1 true (ints (List.replicate k x))) (.slice (some ⟨c1.w.heap.size,0,none⟩) k k) rfl w' hP.1 hP.2.1 hP.2.2.1 hP.2.2.2
      (by intro b h;simp only [blockOf] at h;split at h <;> simp at h;exact h.symm)
      (fun K=>by
        refine ⟨_,k,k,rfl,by omega,by simp,Nat.le_refl _,by simp only [maxLen];omega,by simp,.inr ⟨c1.w.heap.size,0,t,_,rfl,pushed_row hP,by simp,?_⟩⟩
        have e:(((List.replicate k (Value.int .i64 x)).toArray.toList.drop 0).take (k * 1))=List.replicate k (Value.int .i64 x):=by simp
        rw [e,ints_repV]
        exact repL_vals _)
    refine ⟨_,c1.upd w' 6000 (.row mv 1 true (ints (List.replicate k x))) (.slice (some ⟨c1.w.heap.size,0,none⟩) k k) mv,[],[.row mv 1 true (ints (List.replicate k x))],.own 6000 mv,⟨rfl,ints _,mv,⟨_,rfl,rfl⟩,flat_intsK,rfl,rfl⟩,rfl,rfl,hG.1,?_,?_,fun b hb=>absurd hb (hext b),hold,?_,fun v hv=>.inl (hused v hv)⟩
    · funext n
      show (if n=6000 then _ else c1.hp n)=_
      by_cases e:n=6000
      · subst e;rfl
      · rw [if_neg e,hp1]
        unfold outHp
        split
        · rfl
        · split
          · rfl
          · split
            · have:1≤n - 6000:=by omega
              obtain ⟨j,hj⟩:=Nat.exists_eq_add_of_le this
              rw [hj,Nat.add_comm];rfl
            · rfl
    · simp only [Rep]
      exact ⟨.inr rfl,fun _=>by simp [Cz.upd]⟩
    · intro r v hv hr
      have hr:((if r=6000 then AObj.row mv 1 true (ints (List.replicate k x)) else c1.hp r)).ver=some v:=hr
      by_cases e:r=6000
      · rw [if_pos e] at hr
        cases hr
        exact absurd (hused _ hv) hver
      · rw [if_neg e,hp1] at hr
        exfalso
        unfold outHp at hr
        split at hr
        · cases hr
        · split at hr
          · cases hr
          · split at hr <;> cases hr
end Go.Ab
namespace Go.Ab
open Go.Proofs
theorem setI {xs:List Int} {i:Nat} {v:Int} (h:i<xs.length):List.take i (ints xs) ++ [iv v] ++ List.drop (i+1) (ints xs)=ints (xs.set i v):=by
  have e1:List.take i (ints xs)=ints (xs.take i):=by simp [List.map_take]
  have e2:List.drop (i+1) (ints xs)=ints (xs.drop (i+1)):=by simp [List.map_drop]
  rw [e1,e2,List.set_eq_take_append_cons_drop,if_pos h]
  simp
theorem k_l01Shuffled (code:List Int) (at_ seed n:Int) (hb:∀ x∈code,0≤x∧x≤255) (ha:0≤at_∧at_≤1000000) (hn:1≤n∧n≤10) :
    Con Try.prog nz32 [.box 0 (srcC code at_ seed)] [.ptr 5000 0 0,iv n] true fun outs rows res=>∃ a' s' v xs,outs=[.box 0 (srcC code a' s')]∧xs.length≤11∧rows=[.row v 1 true (ints xs)]∧res=.own 6000 v:=by
  refine con_sh mixed czgv rfl (by simp) ?_
  generalize hQ:finQ _=Q
  simp only [Azs,Bz9m,go_sem,yz0,xx9,xx8,xx6,xx7,xx5,xx0,xx1,xx2,reduceIte,xx3,xx4,reduceCtorEq]
  intro vs
  refine yz11 (k_l00Max n 0) qCS trivial ?_
  rw [show max n 0=n by omega]
  simp only [go_sem,yz0,xx9,xx8,xx6,xx7,xx5,xx0,xx1,xx2,reduceIte,xx3,xx4,reduceCtorEq]
  refine call_rowI (k_l01All n (by omega)) qCS qGN ⟨_,rfl⟩ ?_
  rintro xs v rfl
  have hM:=maxLen_le
  have hl:(allS n).length=n.toNat:=by simp [allS]
  generalize allS n=xs at hl
  simp only [Bz9l,Bz9i,go_sem,yz0,xx9,xx8,xx6,xx7,xx5,xx0,xx1,xx2,reduceIte,xx3,xx4,reduceCtorEq]
  intro hM1
  have w1:IntKind.i64.wrap ((xs.length:Int) - 1)=((xs.length - 1:Nat):Int):=by rw [w64 (by omega)];omega
  refine wpD_lo (fun (_,_,i,_)=>i) (fun (a,_,i,ys)=>at_≤a∧a≤at_+2 * (10 - i)∧i<n.toNat∧List.length ys=n.toNat)
    (fun ((a,s,i,ys):Int×Int×Nat×List Int)=>⟨L .any [(0,.ptr 5000 0 0),(1,iv n),(5,.own 11 v),(6,iv i)],L .gone [(11,.row v 1 true (ints ys)),(5000,.box 0 (srcC code a s))]⟩)
    (at_,seed,xs.length - 1,xs) ⟨by omega,by omega,by omega,hl⟩ (by simp only [Bz1t,w1,go_sem,yz0,xx9,xx8,xx6,xx7,xx5,xx0,xx1,xx2,reduceIte,xx3,xx4,reduceCtorEq];try rfl) ?_
  rintro ⟨a,s,i,ys⟩ ⟨i1,i2,i3,i4⟩
  have i1:at_≤a:=i1
  have i2:a≤at_+2 * (10 - i):=i2
  have i3:i<n.toNat:=i3
  have i4:List.length ys=n.toNat:=i4
  by_cases hlt:(i:Int) > 0
  · have wi:IntKind.i64.wrap ((i:Int)+1)=(i:Int)+1:=w64 (by omega)
    have wd:IntKind.i64.wrap ((i:Int) - 1)=((i - 1:Nat):Int):=by rw [w64 (by omega)];omega
    simp only [Bz1t,Bz4e,Bz9h,wi,decide_eq_true hlt,go_sem,yz0,xx9,xx8,xx6,xx7,xx5,xx0,xx1,xx2,reduceIte,xx3,xx4,reduceCtorEq]
    intro vs2
    refine call_funB (k_pick code a s ((i:Int)+1) hb (by omega)) rfl qCS qCS ?_
    rintro cs' x ⟨a1,s1,k,rfl,h1,h2,rfl,h3,h4⟩
    have hiy:i<ys.length:=by omega
    have hky:k.toNat<ys.length:=by omega
    have gi:=yz14 (k:=.i64) hiy
    have gk:=yz14 (k:=.i64) hky
    simp only [Bz9f,Bz9e,gi,gk,go_sem,yz0,xx9,xx8,xx6,xx7,xx5,xx0,xx1,xx2,reduceIte,xx3,xx4,reduceCtorEq]
    refine ⟨⟨by omega,hiy⟩,hiy,⟨by omega,hky⟩,hky,⟨by omega,hiy⟩,by omega,?_⟩
    rw [setI hiy]
    have hl2:k.toNat<(ys.set i (ys.getD k.toNat 0)).length:=by rw [List.length_set];exact hky
    simp only [Bz9d,go_sem,yz0,xx9,xx8,xx6,xx7,xx5,xx0,xx1,xx2,reduceIte,xx3,xx4,reduceCtorEq]
    refine ⟨⟨by omega,hl2⟩,by omega,?_⟩
    rw [setI hl2]
    simp only [Bz9g,wd,go_sem,yz0,xx9,xx8,xx6,xx7,xx5,xx0,xx1,xx2,reduceIte,xx3,xx4,reduceCtorEq]
    exact ⟨(a1,s1,i - 1,(ys.set i (ys.getD k.toNat 0)).set k.toNat (ys.getD i 0)),by dsimp only;omega,⟨by dsimp only;omega,by dsimp only;omega,by dsimp only;omega,by dsimp only;rw [List.length_set,List.length_set];omega⟩,rfl⟩
  · obtain rfl:i=0:=by omega
    simp only [Bz1t,Bz4e,Bz9k,decide_eq_false hlt,go_sem,yz0,xx9,xx8,xx6,xx7,xx5,xx0,xx1,xx2,reduceIte,xx3,xx4,reduceCtorEq]
    intro vs2
    refine call_funB (k_pick code a s 16 hb (by omega)) rfl qCS qCS ?_
    rintro cs' x ⟨a1,s1,k,rfl,h1,h2,rfl,h3,h4⟩
    by_cases k0:k=0
    · subst k0
      simp only [Bz1v,Bz1u,go_sem,yz0,xx9,xx8,xx6,xx7,xx5,xx0,xx1,xx2,reduceIte,xx3,xx4,reduceCtorEq]
      intro vs3
      refine ⟨⟨_,rfl,rfl⟩,by omega,?_⟩
      simp only [Bz1w,go_sem,yz0,xx9,xx8,xx6,xx7,xx5,xx0,xx1,xx2,reduceIte,xx3,xx4,reduceCtorEq]
      rw [← hQ]
      simp only [Azs,Nat.not_lt_zero,range1,yzx,yz10,yz1b,yz19,yzz,yz1d,yz1c,yz1a,yzy,yzs,yzf,yz3,yzw,yzr,yzp,yzo,yzu,yz8,yzd,yze,yzc,yzi,yzk,yz4,yz7,yz9,yzb,yzh,yzj,List.range_zero,yz6,yz5,yza,yzv,yzl,yzt,AVal.fresh,freshL,yz2,yzg,AObj.fresh,id,Option.isSome_some,or_true,true_or,go_sem,yz0,xx9,xx8,xx6,xx7,xx5,xx0,xx1,xx2,reduceIte,xx3,xx4,reduceCtorEq]
      refine ⟨[11],by simp,by simp,by simp,a1,s1,vs3 2 0,ys ++ [0],?_⟩
      simp only [Nat.not_lt_zero,range1,yzx,yz10,yz1b,yz19,yzz,yz1d,yz1c,yz1a,yzy,yzs,yzf,yz3,yzw,yzr,yzp,yzo,yzu,yz8,yzd,yze,yzc,yzi,yzk,yz4,yz7,yz9,yzb,yzh,yzj,List.range_zero,yz6,yz5,yza,yzv,yzl,yzt,AVal.fresh,freshL,yz2,yzg,AObj.fresh,id,Option.isSome_some,or_true,true_or,go_sem,yz0,xx9,xx8,xx6,xx7,xx5,xx0,xx1,xx2,reduceIte,xx3,xx4,reduceCtorEq]
      rw [List.length_append,List.length_singleton];omega
    by_cases k1:k=1
    · subst k1
      have hy0:0<ys.length:=by omega
      simp only [beq_false_of_ne (show (1:Int)≠0 by omega),Bz1v,Bz1u,Bz4f,Bz9j,decide_eq_true (show (0:Int)<ys.length by omega),go_sem,yz0,xx9,xx8,xx6,xx7,xx5,xx0,xx1,xx2,reduceIte,xx3,xx4,reduceCtorEq]
      intro hM2 vs3
      refine ⟨⟨⟨_,rfl,rfl⟩,⟨_,rfl,rfl⟩,⟨_,rfl,rfl⟩⟩,?_⟩
      refine call_boxrow (r:=5000) (q:=53) (k_among code a1 s1 [-1,n,0] hb (by omega) (by simp)) rfl rfl (by decide) qCS (by simp only [yzn,yz12,and_true,Coe];exact ⟨⟨0,_,_,rfl,rfl,rfl,rfl,rfl⟩,1,_,_,rfl,rfl,rfl,rfl,rfl⟩) ?_
      rintro cs' x ⟨a2,s2,b,rfl,_,_,rfl,_⟩
      simp only [go_sem,yz0,xx9,xx8,xx6,xx7,xx5,xx0,xx1,xx2,reduceIte,xx3,xx4,reduceCtorEq]
      refine ⟨by omega,hy0,?_⟩
      simp only [Bz1w,go_sem,yz0,xx9,xx8,xx6,xx7,xx5,xx0,xx1,xx2,reduceIte,xx3,xx4,reduceCtorEq]
      have e0:AVal.val (Value.int IntKind.i64 b) :: dnL (List.drop 1 (intsK IntKind.i64 ys))=ints (ys.set 0 b):=by
        rw [← setF hy0];simp [dnL_nil]
      rw [e0,← hQ]
      simp only [Azs,Nat.not_lt_zero,range1,yzx,yz10,yz1b,yz19,yzz,yz1d,yz1c,yz1a,yzy,yzs,yzf,yz3,yzw,yzr,yzp,yzo,yzu,yz8,yzd,yze,yzc,yzi,yzk,yz4,yz7,yz9,yzb,yzh,yzj,List.range_zero,yz6,yz5,yza,yzv,yzl,yzt,AVal.fresh,freshL,yz2,yzg,AObj.fresh,id,Option.isSome_some,or_true,true_or,go_sem,yz0,xx9,xx8,xx6,xx7,xx5,xx0,xx1,xx2,reduceIte,xx3,xx4,reduceCtorEq]
      refine ⟨[11],by simp,by simp,by simp,a2,s2,v,ys.set 0 b,?_⟩
      simp only [Nat.not_lt_zero,range1,yzx,yz10,yz1b,yz19,yzz,yz1d,yz1c,yz1a,yzy,yzs,yzf,yz3,yzw,yzr,yzp,yzo,yzu,yz8,yzd,yze,yzc,yzi,yzk,yz4,yz7,yz9,yzb,yzh,yzj,List.range_zero,yz6,yz5,yza,yzv,yzl,yzt,AVal.fresh,freshL,yz2,yzg,AObj.fresh,id,Option.isSome_some,or_true,true_or,go_sem,yz0,xx9,xx8,xx6,xx7,xx5,xx0,xx1,xx2,reduceIte,xx3,xx4,reduceCtorEq]
      rw [List.length_set];omega
    · simp only [beq_false_of_ne k0,beq_false_of_ne k1,Bz1v,Bz1u,Bz4f,Bz1w,go_sem,yz0,xx9,xx8,xx6,xx7,xx5,xx0,xx1,xx2,reduceIte,xx3,xx4,reduceCtorEq]
      rw [← hQ]
      simp only [Azs,Nat.not_lt_zero,range1,yzx,yz10,yz1b,yz19,yzz,yz1d,yz1c,yz1a,yzy,yzs,yzf,yz3,yzw,yzr,yzp,yzo,yzu,yz8,yzd,yze,yzc,yzi,yzk,yz4,yz7,yz9,yzb,yzh,yzj,List.range_zero,yz6,yz5,yza,yzv,yzl,yzt,AVal.fresh,freshL,yz2,yzg,AObj.fresh,id,Option.isSome_some,or_true,true_or,go_sem,yz0,xx9,xx8,xx6,xx7,xx5,xx0,xx1,xx2,reduceIte,xx3,xx4,reduceCtorEq]
      refine ⟨[11],by simp,by simp,by simp,a1,s1,v,ys,rfl,by omega,?_⟩
      simp only [List.map_cons,List.map_nil,Nat.not_lt_zero,range1,yzx,yz10,yz1b,yz19,yzz,yz1d,yz1c,yz1a,yzy,yzs,yzf,yz3,yzw,yzr,yzp,yzo,yzu,yz8,yzd,yze,yzc,yzi,yzk,yz4,yz7,yz9,yzb,yzh,yzj,List.range_zero,yz6,yz5,yza,yzv,yzl,yzt,AVal.fresh,freshL,yz2,yzg,AObj.fresh,id,Option.isSome_some,or_true,true_or,go_sem,yz0,xx9,xx8,xx6,xx7,xx5,xx0,xx1,xx2,reduceIte,xx3,xx4,reduceCtorEq]
theorem k_specValid (n:Int) (next:List (List Int)):Fun Try.prog nz2z [autA n next] (bv (autB n next)):=by
  refine fun_of mixed czgn rfl ⟨rfl,trivial⟩ ?_
  simp only [Az86,Bz85,go_sem,yz0,xx9,xx8,xx6,xx7,xx5,xx0,xx1,xx2,reduceIte,xx3,xx4,reduceCtorEq]
  intro vs vs2
  refine yz11 (k_l01Ok n next) qCS trivial ?_
  simp only [go_sem,yz0,xx9,xx8,xx6,xx7,xx5,xx0,xx1,xx2,reduceIte,xx3,xx4,reduceCtorEq]
theorem k_A2Order (code:List Int) (n:Int) (hb:∀ x∈code,0≤x∧x≤255) (hn:1≤n∧n≤10) :
    RowI Try.prog nz2x [.ro (some (some 0)) 1 (intsK .u8 code),iv n] (fun xs=>ordB n xs=true):=by
  refine rowI_of mixed czgk rfl ?_
  simp only [Az7t,Bz7s,go_sem,yz0,xx9,xx8,xx6,xx7,xx5,xx0,xx1,xx2,reduceIte,xx3,xx4,reduceCtorEq]
  intro vs
  refine call_sh (k_from code) qCS (fun _=>⟨_,_,_,rfl,0,rfl,rfl⟩) ?_
  rintro outs rows res ⟨rfl,v,rfl,rfl⟩
  refine ⟨rfl,by simp,by rw [Option.getD_some,yzl];simp only [go_sem,yz0,xx9,xx8,xx6,xx7,xx5,xx0,xx1,xx2,reduceIte,xx3,xx4,reduceCtorEq],?_⟩
  simp only [Nat.not_lt_zero,range1,yzx,yz10,yz1b,yz19,yzz,yz1d,yz1c,yz1a,yzy,yzs,yzf,yz3,yzw,yzr,yzp,yzo,yzu,yz8,yzd,yze,yzc,yzi,yzk,yz4,yz7,yz9,yzb,yzh,yzj,List.range_zero,yz6,yz5,yza,yzv,yzl,yzt,AVal.fresh,freshL,yz2,yzg,AObj.fresh,id,Option.isSome_some,or_true,true_or,go_sem,yz0,xx9,xx8,xx6,xx7,xx5,xx0,xx1,xx2,reduceIte,xx3,xx4,reduceCtorEq]
  refine call_con (r:=7) (k_l01Shuffled code 0 0 n hb (by omega) hn) rfl (by simp only [Bool.not_true,rowIs,boxIs,coe_argN,yz1e,coe_ro_o,yz12,yzn,coe_any,coe_val,coe_ro,yz15,yz17,coe_st,yz16,coe_rp,yz18,coe_clo,coe_own0,coe_ptr0,yz13,coeL_rws,coeL_rwn,L_hit,L_miss,L_nil,xx3,ne_eq,reduceCtorEq,not_false_eq_true,true_and,and_true,and_self,exists_eq_left,exists_eq_right,List.mem_cons,List.not_mem_nil,or_false,AObj.row.injEq,AObj.box.injEq,exists_eq_left',exists_and_left,exists_eq,Nat.zero_lt_one,Nat.lt_add_one,List.map_cons,List.map_nil,AObj.ver,xx5,not_true_eq_false]) (by simp only [Bool.not_true,rowIs,boxIs,coe_argN,yz1e,coe_ro_o,yz12,yzn,coe_any,coe_val,coe_ro,yz15,yz17,coe_st,yz16,coe_rp,yz18,coe_clo,coe_own0,coe_ptr0,yz13,coeL_rws,coeL_rwn,L_hit,L_miss,L_nil,xx3,ne_eq,reduceCtorEq,not_false_eq_true,true_and,and_true,and_self,exists_eq_left,exists_eq_right,List.mem_cons,List.not_mem_nil,or_false,AObj.row.injEq,AObj.box.injEq,exists_eq_left',exists_and_left,exists_eq,Nat.zero_lt_one,Nat.lt_add_one,List.map_cons,List.map_nil,AObj.ver,xx5,not_true_eq_false]) ?_
  rintro outs rows res ⟨a',s',u,xs,rfl,hx,rfl,rfl⟩
  refine ⟨rfl,by simp,by rw [Option.getD_some,yzl];simp only [go_sem,yz0,xx9,xx8,xx6,xx7,xx5,xx0,xx1,xx2,reduceIte,xx3,xx4,reduceCtorEq],?_⟩
  rw [Option.getD_some,callHp_mr (by omega)]
  simp only [Bz7r,List.length_singleton,Nat.not_lt_zero,range1,yzx,yz10,yz1b,yz19,yzz,yz1d,yz1c,yz1a,yzy,yzs,yzf,yz3,yzw,yzr,yzp,yzo,yzu,yz8,yzd,yze,yzc,yzi,yzk,yz4,yz7,yz9,yzb,yzh,yzj,List.range_zero,yz6,yz5,yza,yzv,yzl,yzt,AVal.fresh,freshL,yz2,yzg,AObj.fresh,id,Option.isSome_some,or_true,true_or,go_sem,yz0,xx9,xx8,xx6,xx7,xx5,xx0,xx1,xx2,reduceIte,xx3,xx4,reduceCtorEq]
  intro vs2
  refine yz11 (k_l01Order n xs hn) qCS trivial ?_
  cases ho:ordB n xs with
  | true =>
    simp only [Bz43,go_sem,yz0,xx9,xx8,xx6,xx7,xx5,xx0,xx1,xx2,reduceIte,xx3,xx4,reduceCtorEq]
    exact ⟨9,_,xs,by omega,rfl,by simp only [go_sem,yz0,xx9,xx8,xx6,xx7,xx5,xx0,xx1,xx2,reduceIte,xx3,xx4,reduceCtorEq],ho⟩
  | false =>
    simp only [Bz43,Bz7q,go_sem,yz0,xx9,xx8,xx6,xx7,xx5,xx0,xx1,xx2,reduceIte,xx3,xx4,reduceCtorEq]
    intro vs3
    refine call_rowI (k_l01All n (by omega)) qCS qGN ⟨_,rfl⟩ ?_
    rintro ys w rfl
    simp only [go_sem,yz0,xx9,xx8,xx6,xx7,xx5,xx0,xx1,xx2,reduceIte,xx3,xx4,reduceCtorEq]
    exact ⟨15,w,allS n,by omega,rfl,by simp only [go_sem,yz0,xx9,xx8,xx6,xx7,xx5,xx0,xx1,xx2,reduceIte,xx3,xx4,reduceCtorEq],(ordB_iff hn.1).2 ⟨fun s hs=>allS_mem.2 hs,by unfold allS;rw [List.length_map,List.length_range];omega⟩⟩
theorem k_RenumberingOf (n:Int) (na nb:List (List Int)) (A:Aut n na) (B:Aut n nb) (hl:na.length=nb.length) :
    RowT Try.prog nz2y [autA n na,autA n nb] (fnd na nb n (n.toNat+1) (n.toNat+1) (List.replicate n.toNat (-1))).isSome ((fnd na nb n (n.toNat+1) (n.toNat+1) (List.replicate n.toNat (-1))).getD [])
      (if (fnd na nb n (n.toNat+1) (n.toNat+1) (List.replicate n.toNat (-1))).isSome=true then 0 else 6):=by
  refine con_of mixed czgm rfl (by simp) ?_
  have n1:=A.n1
  have n2:=A.n2
  have hva:=k_Valid n na
  rw [autB_iff.2 A] at hva
  have hvb:=k_Valid n nb
  rw [autB_iff.2 B] at hvb
  have hul:(uns (List.replicate n.toNat (-1:Int))).length<n.toNat+1:=by
    unfold uns
    refine Nat.lt_succ_of_le (Nat.le_trans (List.length_filter_le _ _) ?_)
    rw [List.length_range,List.length_replicate];exact Nat.le_refl _
  have hF:=k_findR n na nb A B hl (n.toNat+1) (n.toNat+1) (List.replicate n.toNat (-1)) (by simp) hul hul
  generalize hFF:fnd na nb n (n.toNat+1) (n.toNat+1) (List.replicate n.toNat (-1))=FF at hF ⊢
  generalize hQ:finQ _=Q
  simp only [Azr,Bz84,go_sem,yz0,xx9,xx8,xx6,xx7,xx5,xx0,xx1,xx2,reduceIte,xx3,xx4,reduceCtorEq]
  intro vs vs2
  refine yz11 hva qCS trivial ?_
  simp only [go_sem,yz0,xx9,xx8,xx6,xx7,xx5,xx0,xx1,xx2,reduceIte,xx3,xx4,reduceCtorEq]
  refine yz11 hvb qCS trivial ?_
  simp only [Bz7y,Bool.not_true,bne_self_eq_false,go_sem,yz0,xx9,xx8,xx6,xx7,xx5,xx0,xx1,xx2,reduceIte,xx3,xx4,reduceCtorEq]
  intro vs3
  refine yz11 (k_letters n na) qCS trivial ?_
  simp only [go_sem,yz0,xx9,xx8,xx6,xx7,xx5,xx0,xx1,xx2,reduceIte,xx3,xx4,reduceCtorEq]
  refine yz11 (k_letters n nb) qCS trivial ?_
  simp only [hl,bne_self_eq_false,Bz7x,Bz83,Bz82,Bz81,Bz80,Bz7z,go_sem,yz0,xx9,xx8,xx6,xx7,xx5,xx0,xx1,xx2,reduceIte,xx3,xx4,reduceCtorEq]
  intro vs4 vs5 vs6
  refine ⟨⟨_,rfl,rfl⟩,?_⟩
  have hRp:=k_Repeat (-1) n.toNat (by omega)
  rw [show ((n.toNat:Nat):Int)=n by omega] at hRp
  refine call_rowIs hRp qCS qGN ⟨_,rfl⟩ ?_
  rintro ys v rfl
  simp only [go_sem,yz0,xx9,xx8,xx6,xx7,xx5,xx0,xx1,xx2,reduceIte,xx3,xx4,reduceCtorEq]
  refine call_findR hF (by simp) (by simp) qGN rfl rfl rfl rfl rfl ?_ ?_ ?_
  · rintro rfl
    simp only [Bz1j,Bz1i,go_sem,yz0,xx9,xx8,xx6,xx7,xx5,xx0,xx1,xx2,reduceIte,xx3,xx4,reduceCtorEq]
    rw [← hQ]
    simp only [Azr,Nat.not_lt_zero,range1,yzx,yz10,yz1b,yz19,yzz,yz1d,yz1c,yz1a,yzy,yzs,yzf,yz3,yzw,yzr,yzp,yzo,yzu,yz8,yzd,yze,yzc,yzi,yzk,yz4,yz7,yz9,yzb,yzh,yzj,List.range_zero,yz6,yz5,yza,yzv,yzl,yzt,AVal.fresh,freshL,yz2,yzg,AObj.fresh,id,Option.isSome_some,or_true,true_or,go_sem,yz0,xx9,xx8,xx6,xx7,xx5,xx0,xx1,xx2,reduceIte,xx3,xx4,reduceCtorEq]
    exact ⟨[],by simp,by simp,by simp,by simp,rfl,rfl⟩
  · rintro rfl
    simp only [Bz1j,Bz1i,Bz44,go_sem,yz0,xx9,xx8,xx6,xx7,xx5,xx0,xx1,xx2,reduceIte,xx3,xx4,reduceCtorEq]
    rw [← hQ]
    simp only [Azr,Nat.not_lt_zero,range1,yzx,yz10,yz1b,yz19,yzz,yz1d,yz1c,yz1a,yzy,yzs,yzf,yz3,yzw,yzr,yzp,yzo,yzu,yz8,yzd,yze,yzc,yzi,yzk,yz4,yz7,yz9,yzb,yzh,yzj,List.range_zero,yz6,yz5,yza,yzv,yzl,yzt,AVal.fresh,freshL,yz2,yzg,AObj.fresh,id,Option.isSome_some,or_true,true_or,go_sem,yz0,xx9,xx8,xx6,xx7,xx5,xx0,xx1,xx2,reduceIte,xx3,xx4,reduceCtorEq]
    refine ⟨⟨_,_,rfl⟩,[37],by simp,by simp,by simp,?_,?_⟩
    · intro x hx
      rw [List.mem_singleton.1 hx]
      simp only [Nat.not_lt_zero,range1,yzx,yz10,yz1b,yz19,yzz,yz1d,yz1c,yz1a,yzy,yzs,yzf,yz3,yzw,yzr,yzp,yzo,yzu,yz8,yzd,yze,yzc,yzi,yzk,yz4,yz7,yz9,yzb,yzh,yzj,List.range_zero,yz6,yz5,yza,yzv,yzl,yzt,AVal.fresh,freshL,yz2,yzg,AObj.fresh,id,Option.isSome_some,or_true,true_or,go_sem,yz0,xx9,xx8,xx6,xx7,xx5,xx0,xx1,xx2,reduceIte,xx3,xx4,reduceCtorEq]
    · simp only [Option.isSome_some,if_true,Option.getD_some,List.map_cons,List.map_nil,Nat.not_lt_zero,range1,yzx,yz10,yz1b,yz19,yzz,yz1d,yz1c,yz1a,yzy,yzs,yzf,yz3,yzw,yzr,yzp,yzo,yzu,yz8,yzd,yze,yzc,yzi,yzk,yz4,yz7,yz9,yzb,yzh,yzj,List.range_zero,yz6,yz5,yza,yzv,yzl,yzt,AVal.fresh,freshL,yz2,yzg,AObj.fresh,id,Option.isSome_some,or_true,true_or,go_sem,yz0,xx9,xx8,xx6,xx7,xx5,xx0,xx1,xx2,reduceIte,xx3,xx4,reduceCtorEq]
      exact ⟨_,rfl,rfl⟩
  · rintro out v rfl
    simp only [Bz1j,Bz1i,Bz44,go_sem,yz0,xx9,xx8,xx6,xx7,xx5,xx0,xx1,xx2,reduceIte,xx3,xx4,reduceCtorEq]
    rw [← hQ]
    simp only [Azr,Nat.not_lt_zero,range1,yzx,yz10,yz1b,yz19,yzz,yz1d,yz1c,yz1a,yzy,yzs,yzf,yz3,yzw,yzr,yzp,yzo,yzu,yz8,yzd,yze,yzc,yzi,yzk,yz4,yz7,yz9,yzb,yzh,yzj,List.range_zero,yz6,yz5,yza,yzv,yzl,yzt,AVal.fresh,freshL,yz2,yzg,AObj.fresh,id,Option.isSome_some,or_true,true_or,go_sem,yz0,xx9,xx8,xx6,xx7,xx5,xx0,xx1,xx2,reduceIte,xx3,xx4,reduceCtorEq]
    refine ⟨⟨_,_,rfl⟩,[38],by simp,by simp,by simp,?_,?_⟩
    · intro x hx
      rw [List.mem_singleton.1 hx]
      simp only [Nat.not_lt_zero,range1,yzx,yz10,yz1b,yz19,yzz,yz1d,yz1c,yz1a,yzy,yzs,yzf,yz3,yzw,yzr,yzp,yzo,yzu,yz8,yzd,yze,yzc,yzi,yzk,yz4,yz7,yz9,yzb,yzh,yzj,List.range_zero,yz6,yz5,yza,yzv,yzl,yzt,AVal.fresh,freshL,yz2,yzg,AObj.fresh,id,Option.isSome_some,or_true,true_or,go_sem,yz0,xx9,xx8,xx6,xx7,xx5,xx0,xx1,xx2,reduceIte,xx3,xx4,reduceCtorEq]
    · simp only [Option.isSome_some,if_true,Option.getD_some,List.map_cons,List.map_nil,Nat.not_lt_zero,range1,yzx,yz10,yz1b,yz19,yzz,yz1d,yz1c,yz1a,yzy,yzs,yzf,yz3,yzw,yzr,yzp,yzo,yzu,yz8,yzd,yze,yzc,yzi,yzk,yz4,yz7,yz9,yzb,yzh,yzj,List.range_zero,yz6,yz5,yza,yzv,yzl,yzt,AVal.fresh,freshL,yz2,yzg,AObj.fresh,id,Option.isSome_some,or_true,true_or,go_sem,yz0,xx9,xx8,xx6,xx7,xx5,xx0,xx1,xx2,reduceIte,xx3,xx4,reduceCtorEq]
      exact ⟨_,rfl,rfl⟩
end Go.Ab
namespace Go.Ab
open Go.Proofs
end Go.Ab
namespace Go.Ab
open Go.Proofs
end Go.Ab
namespace Go.Ab
open Go.Proofs
theorem k_SameAutomaton (m:Int) (xs:List (List Int)):Fun Try.prog nz30 [.st [iv m,.ro none 1 (rwn xs)],.st [iv m,.ro none 1 (rwn xs)]] (bv true):=by
  refine fun_of mixed czgo rfl ⟨rfl,trivial⟩ ?_
  simp only [Az8f,Bz8e,bne_self_eq_false,go_sem,yz0,xx9,xx8,xx6,xx7,xx5,xx0,xx1,xx2,reduceIte,xx3,xx4,reduceCtorEq]
  intro vs vs2 hM1
  simp only [Bz87,Bz8d,Bz8b,bne_self_eq_false,go_sem,yz0,xx9,xx8,xx6,xx7,xx5,xx0,xx1,xx2,reduceIte,xx3,xx4,reduceCtorEq]
  refine wpD_lo (fun i=>xs.length - i) (fun i=>i≤xs.length)
    (fun i:Nat=>⟨L .any [(2,.ptr 2 (vs 0 0) 0),(3,.ptr 3 (vs 1 0) 0),(5,iv i)],L .gone [(2,.box (vs 0 0) [iv m,.ro none 1 (rwn xs)]),(3,.box (vs 1 0) [iv m,.ro none 1 (rwn xs)])]⟩)
    0 (by simp) (by simp only [Bz1k,go_sem,yz0,xx9,xx8,xx6,xx7,xx5,xx0,xx1,xx2,reduceIte,xx3,xx4,reduceCtorEq];try rfl) ?_
  intro i hi
  have hM:=maxLen_le
  by_cases hlt:(i:Int)<xs.length
  · have hlt1:i<xs.length:=by omega
    simp only [Bz1k,Bz45,Bz8a,decide_eq_true hlt,rwn_getD hlt1,go_sem,yz0,xx9,xx8,xx6,xx7,xx5,xx0,xx1,xx2,reduceIte,xx3,xx4,reduceCtorEq]
    intro hM2 vs3
    have wi:IntKind.i64.wrap ((i:Int)+1)=((i+1:Nat):Int):=by rw [w64 (by omega)];simp
    refine ⟨⟨by omega,hlt1⟩,hlt1,⟨by omega,hlt1⟩,hlt1,?_⟩
    refine yz11 (k_l00Same (xs.getD i []) (xs.getD i [])) qCS trivial ?_
    simp only [decide_true,Bool.not_true,Bz88,Bz89,wi,go_sem,yz0,xx9,xx8,xx6,xx7,xx5,xx0,xx1,xx2,reduceIte,xx3,xx4,reduceCtorEq]
    exact ⟨i+1,by omega,by omega,rfl⟩
  · obtain rfl:i=xs.length:=by omega
    simp only [Bz1k,Bz45,Bz8c,decide_eq_false hlt,go_sem,yz0,xx9,xx8,xx6,xx7,xx5,xx0,xx1,xx2,reduceIte,xx3,xx4,reduceCtorEq]
    try (intros;trivial)
theorem call_namU {P:Program} {σ:St} {g:FuncId} {As args:List AVal} {d:Nat} {s:Nat→Nat} {K:St→Prop} {m:Int} {xss:List (List Int)} {code:Int} (h:NamR P g args true m xss code)
    (hco:CoeL σ.hp [] true args As) (hg:σ.hp d=.gone)
    (h1:∀ v ps,ps.map (·.2)=xss→K (St.put ⟨σ.tm,upd σ.hp d (.row v 1 true (rwp ps))⟩ (some d) (.tup [.st [iv m,.own d v],iv code]))):wpCall P false σ g As (some d) s K:=by
  refine call_fn h hco (fun e=>by cases e) ?_
  intro rows res hR
  simp only [if_true] at hR
  obtain ⟨v,ps,rfl,hp,hd,rfl⟩:=hR
  refine ⟨by simp,?_,?_⟩
  · simp only [Option.getD_some,yzl];exact hg
  · simp only [Option.getD_some,renL_rwp,List.length_singleton,Nat.not_lt_zero,range1,yzx,yz10,yz1b,yz19,yzz,yz1d,yz1c,yz1a,yzy,yzs,yzf,yz3,yzw,yzr,yzp,yzo,yzu,yz8,yzd,yze,yzc,yzi,yzk,yz4,yz7,yz9,yzb,yzh,yzj,List.range_zero,yz6,yz5,yza,yzv,yzl,yzt,AVal.fresh,freshL,yz2,yzg,AObj.fresh,id,Option.isSome_some,or_true,true_or]
    exact h1 _ _ (by rw [List.map_map];exact hp)
end Go.Ab
