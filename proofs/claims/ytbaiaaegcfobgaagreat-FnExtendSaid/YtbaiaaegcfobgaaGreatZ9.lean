/- Contracts and what they lean on, part 9. Conditions: none. -/
import Derived.Tactics
import Derived.Tactics2
import Derived.Test.YtbaiaaegcfobgaaGreatZ8
set_option maxRecDepth 100000
set_option maxHeartbeats 4000000
set_option linter.all false
open Nat renaming reduceLeDiff → J0, reduceMul → J1, reduceSub → J2, reduceEqDiff → J3, reduceAdd → J4, reduceLT → J5
open Int renaming reduceToNat → J6, reduceNeg → J7, reduceLE → J8, reduceLT → J9
open List renaming getD_eq_getElem?_getD → Y0, map_cons → Y1, getElem?_eq_getElem → Y2, mem_map → Y3, mem_append → Y4, length_append → Y5, length_map → Y6, length_singleton → Y7, mem_cons → Y8, mem_singleton → Y9, range → Ya, map_nil → Yb, map_append → Yc, getElem?_map → Yd, length_cons → Ye, length → Yf, map_congr_left → Yg, eq_nil_of_length_eq_zero → Yh, not_mem_nil → Yi, map_map → Yj, length_take → Yk, replicate → Yl, mem_range → Ym, getElem?_eq_some_iff → Yn, all_eq_true → Yo, length_drop → Yp, getElem_map → Yq, getElem?_take → Yr, foldl_cons → Ys, mem_cons_of_mem → Yt, cons_append → Yu, getElem?_append_right → Yv, mem_of_getElem? → Yw, pairwise_cons → Yx, getElem_mem → Yy, mem_flatMap → Yz, getElem?_append_left → Y10, take_length → Y11, pairwise_append → Y12, append_assoc → Y13, drop_length → Y14, getElem?_drop → Y15, nodup_cons → Y16, length_nil → Y17, ext_getElem → Y18, nodup_append → Y19, take_succ_eq_append_getElem → Y1a, getElem_of_mem → Y1b, getElem?_eq_none → Y1c, mem_of_mem_take → Y1d, contains_iff_mem → Y1e, filter_cons_of_pos → Y1f, pairwise_iff_getElem → Y1g
open Nat renaming le_refl → Y1h, lt_of_lt_of_le → Y1i, zero_le → Y1j, pow_le_pow_right → Y1k, sub_self → Y1l, le_trans → Y1m, add_mul → Y1n, zero_add → Y1o, add_zero → Y1p, mul_le_mul_right → Y1q, two_pow_pos → Y1r, shiftRight_eq_div_pow → Y1s
open Int renaming toNat_natCast → Y1t, le_refl → Y1u
open Option renaming isSome_some → Y1v, map_eq_some_iff → Y1w, getD_some → Y1x, isSome_iff_exists → Y1y, map_some → Y1z
open Bool renaming and_eq_true → Y20, not_true → Y21, or_eq_true → Y22, false_eq_true → Y23, not_eq_true' → Y24
open Array renaming length_toList → Y25, getElem?_toList → Y26, getElem?_eq_getElem → Y27, getD_eq_getD_getElem? → Y28, getElem?_append_left → Y29
namespace Go.Ab
open Go.Proofs
abbrev LoR (code:List Int) (at_ k:Int) (outs rows:List AObj) (res:AVal):Prop :=
 ∃ n ps v a' s',(ps.length≤3→DJ ps)∧ps.length≤10∧-1≤n∧n≤11∧(∀ p∈ps,p.2.length≤10)∧at_≤a'∧a'≤at_+k∧outs=[.box 0 (srcC code a' s')]∧rows=[.row v 1 true (rwp ps)]∧res=.st [iv n,.own 6000 v]
theorem yz4j {P:Program} {nos:List Nat} {σ:St} {g:FuncId} {As args:List AVal} {d:Nat} {s:Nat→Nat} {K:St→Prop} {r q v u:Nat} {cs cs0:List AVal} {xs:List Int} {Q:List AVal→Value→Prop}
  (h:Con P g [.box 0 cs,.row 1 1 true (ints xs)] args true fun outs rows res=>∃ cs' x,Q cs' x∧flatL cs'∧outs=[.box 0 cs',.row 1 1 true (ints xs)]∧rows=[]∧res=.val x)
  (hr:σ.hp r=.box v cs0) (hq:σ.hp q=.row u 1 true (ints xs)) (hm:r∈nos∧q∈nos) (hne:[r,q].Nodup) (hcs:CoeL σ.hp [r,q] false cs cs0) (ha:CoeL σ.hp [r,q] false args As) (hex:∃ cs' x,Q cs' x∧flatL cs')
  (hk:∀ cs' x,Q cs' x→K (St.put ⟨σ.tm,upd (upd σ.hp r (.box v cs')) q (.row u 1 true (ints xs))⟩ (some d) (.val x))):wpCallN P nos σ g As (some d) s K:=by
 refine ⟨[r,q],_,_,true,_,h,⟨by simp,rfl,hne,?_,?_⟩,ha,⟨by simp [hm.1,hm.2],?_⟩,?_⟩
 ·intro x hx
  simp only [Y8,Yi,or_false] at hx
  rcases hx with rfl | rfl
  ·simp [hr]
  ·simp [hq]
 ·intro j B r' hB hr'
  match j,hB,hr' with
  | 0,hB,hr' =>
   simp at hB hr';subst hB;subst hr'
   rw [hr]
   exact ⟨rfl,v,cs0,rfl,hcs⟩
  | 1,hB,hr' =>
   simp at hB hr';subst hB;subst hr'
   simp only [ObjCoe,hq]
   exact ⟨trivial,u,_,rfl,yz1t⟩
  | j+2,hB,hr'=>simp at hB
 ·obtain ⟨cs',x,hq,hf⟩:=hex
  exact ⟨_,_,_,cs',x,hq,hf,rfl,rfl,rfl⟩
 ·rintro outs rows res ⟨cs',x,hQ,hf,rfl,rfl,rfl⟩
  refine ⟨rfl,rfl,?_⟩
  have s0:sv σ.hp [r,q] s 0=v:=by simp [sv,hr,AObj.ver]
  have s1:sv σ.hp [r,q] s 1=u:=by simp [sv,hq,AObj.ver]
  rw [Y1x,yza0 hne]
  simp only [yz1p,yz2a,yzq cs' hf,yz1q,yz2k,s0,s1]
  exact hk cs' x hQ
theorem k_l01Bent (code:List Int) (at_ seed:Int) (hb:∀ x∈code,0≤x∧x≤255) (ha:0≤at_∧at_≤100000) :
  Con Tryz.prog nz5y [.box 0 (srcC code at_ seed)] [.ptr 5000 0 0] true (LoR code at_ 3000):=by
 refine con_shE mixed czte rfl (by simp) ?_
 generalize hQ:finQ _=Q
 have h12:∀ (σ:St) (v2 v3:Nat) (r v:Nat) (o6 o10 o61 o73 o77:AObj) (a s n:Int) (ps:List (Nat×List Int)),
   (ps.length≤3→DJ ps)→ps.length≤10→-1≤n∧n≤11→(∀ p∈ps,p.2.length≤10)→at_≤a∧a≤at_+3000 →
   (r=6∧o6=.row v 1 true (rwp ps)∨r=10∧o10=.row v 1 true (rwp ps)∨r=77∧o77=.row v 1 true (rwp ps)) →
   σ.keep [2,3] [2,3,6,10,61,73,77,5000,901]=⟨L .any [(2,.ptr 2 v2 0),(3,.ptr 3 v3 0)],
    L .gone [(2,.box v2 [iv 0,.val (.slice none 0 0)]),(3,.box v3 [iv n,.own r v]),(6,o6),(10,o10),(61,o61),(73,o73),(77,o77),(5000,.box 0 (srcC code a s)),(901,.gone)]⟩ →
   wpD Tryz.prog Bz1f Q σ:=by
  intro σ v2 v3 r v o6 o10 o61 o73 o77 a s n ps hd hl hn hr ha' hrv hS
  unfold Bz1f
  rw [yz2,hS]
  simp only [yzr]
  intro _
  refine ⟨[],?_⟩
  rcases hrv with ⟨rfl,rfl⟩ | ⟨rfl,rfl⟩ | ⟨rfl,rfl⟩
  ·simp only [yzh,yz2,yz1,go_sem,yz0,J9,J8,J6,J7,J5,J0,J1,J2,reduceIte,J3,J4,reduceCtorEq]
   intro vs U hN
   simp only [← hQ,Azb,go_sem,yz0,J9,J8,J6,J7,J5,J0,J1,J2,reduceIte,J3,J4,reduceCtorEq]
   refine ⟨[6],by simp,by simp,by simp,?_⟩
   simp only [range1,Y7,yzj,rsA,AVal.fresh,freshL,AObj.fresh,id,Y1v,go_sem,yz0,J9,J8,J6,J7,J5,J0,J1,J2,reduceIte,J3,J4,reduceCtorEq]
   exact ⟨n,ps,v,a,s,hd,hl,hn.1,hn.2,hr,ha'.1,ha'.2,rfl,by simp,rfl⟩
  ·simp only [yzh,yz2,yz1,go_sem,yz0,J9,J8,J6,J7,J5,J0,J1,J2,reduceIte,J3,J4,reduceCtorEq]
   intro vs U hN
   simp only [← hQ,Azb,go_sem,yz0,J9,J8,J6,J7,J5,J0,J1,J2,reduceIte,J3,J4,reduceCtorEq]
   refine ⟨[10],by simp,by simp,by simp,?_⟩
   simp only [range1,Y7,yzj,rsA,AVal.fresh,freshL,AObj.fresh,id,Y1v,go_sem,yz0,J9,J8,J6,J7,J5,J0,J1,J2,reduceIte,J3,J4,reduceCtorEq]
   exact ⟨n,ps,v,a,s,hd,hl,hn.1,hn.2,hr,ha'.1,ha'.2,rfl,by simp,rfl⟩
  ·simp only [yzh,yz2,yz1,go_sem,yz0,J9,J8,J6,J7,J5,J0,J1,J2,reduceIte,J3,J4,reduceCtorEq]
   intro vs U hN
   simp only [← hQ,Azb,go_sem,yz0,J9,J8,J6,J7,J5,J0,J1,J2,reduceIte,J3,J4,reduceCtorEq]
   refine ⟨[77],by simp,by simp,by simp,?_⟩
   simp only [range1,Y7,yzj,rsA,AVal.fresh,freshL,AObj.fresh,id,Y1v,go_sem,yz0,J9,J8,J6,J7,J5,J0,J1,J2,reduceIte,J3,J4,reduceCtorEq]
   exact ⟨n,ps,v,a,s,hd,hl,hn.1,hn.2,hr,ha'.1,ha'.2,rfl,by simp,rfl⟩
 have h12b:∀ (σ:St) (v2 v3 r v m:Nat) (o6 o10:AObj) (a s n:Int) (A2 C2:List (Nat×List Int)) (b:Nat×List Int) (cur:List Int),
   DJ (A2 ++ b :: C2)→(A2 ++ b :: C2).length≤10→-1≤n∧n≤11→(∀ p∈A2 ++ C2,p.2.length≤10)→cur.length≤10→at_≤a∧a≤at_+3000 →
   (r=6∧o6=.row v 1 true (rwp A2 ++ .own 901 m :: rwp C2)∨r=10∧o10=.row v 1 true (rwp A2 ++ .own 901 m :: rwp C2)) →
   σ.keep [2,3] [2,3,6,10,61,73,77,5000,901]=⟨L .any [(2,.ptr 2 v2 0),(3,.ptr 3 v3 0)],
    L .gone [(2,.box v2 [iv 0,.val (.slice none 0 0)]),(3,.box v3 [iv n,.own r v]),(6,o6),(10,o10),(61,.gone),(73,.gone),(77,.gone),(5000,.box 0 (srcC code a s)),(901,.row m 1 true (ints cur))]⟩ →
   wpD Tryz.prog Bz1f Q σ:=by
  intro σ v2 v3 r v m o6 o10 a s n A2 C2 b cur hd hl hn hr hc ha' hrv hS
  unfold Bz1f
  rw [yz2,hS]
  simp only [yzr]
  intro hD
  have hset4:∀ X:AVal,(rwp A2 ++ AVal.own 901 m :: rwp C2).set A2.length X=rwp A2 ++ X :: rwp C2:=fun X=>by
   rw [List.set_append_right _ _ (by rw [yz7];exact Y1h _),yz7,Y1l];rfl
  rw [Y5,Ye] at hl
  have key:(∀ n k'' cs'',AVal.ro (some (some (n+1))) k'' cs''∈rwp A2 ++ AVal.own 901 m :: rwp C2→cs''≠[]→n≠m)→DJ (A2 ++ (m,cur) :: C2):=fun hf=>DJ_in hd fun p hp=>by
   by_cases e:p.2=[]
   ·exact .inl e
   ·refine .inr (hf p.1 1 (ints p.2) ?_ (by simpa using e))
    rcases Y4.1 hp with h | h
    ·exact Y4.2 (.inl (Y3.2 ⟨p,h,rfl⟩))
    ·exact Y4.2 (.inr (Y8.2 (.inr (Y3.2 ⟨p,h,rfl⟩))))
  have hr2:∀ p∈A2 ++ (m,cur) :: C2,p.2.length≤10:=fun p hp=>by
   simp only [Y4,Y8] at hp
   rcases hp with h | rfl | h
   ·exact hr p (by simp [h])
   ·exact hc
   ·exact hr p (by simp [h])
  rcases hrv with ⟨rfl,rfl⟩ | ⟨rfl,rfl⟩
  ·refine ⟨[.rf 6 A2.length 901],yzf7 (k:=1) (nn:=true) rfl (yz5g rfl) (by decide) rfl fun hf=>?_⟩
   have D1:=key hf
   simp only [hset4,yz99,yz5l,yzh,yz2,yz1,go_sem,yz0,J9,J8,J6,J7,J5,J0,J1,J2,reduceIte,J3,J4,reduceCtorEq]
   intro vs U hN
   simp only [← hQ,Azb,go_sem,yz0,J9,J8,J6,J7,J5,J0,J1,J2,reduceIte,J3,J4,reduceCtorEq]
   refine ⟨[6],by simp,by simp,by simp,?_⟩
   simp only [range1,Y7,yzj,rsA,AVal.fresh,freshL,AObj.fresh,id,Y1v,go_sem,yz0,J9,J8,J6,J7,J5,J0,J1,J2,reduceIte,J3,J4,reduceCtorEq]
   exact ⟨n,A2 ++ (m,cur) :: C2,v,a,s,fun _=>D1,by simp;omega,hn.1,hn.2,hr2,ha'.1,ha'.2,rfl,by simp,rfl⟩
  ·refine ⟨[.rf 10 A2.length 901],yzf7 (k:=1) (nn:=true) rfl (yz5g rfl) (by decide) rfl fun hf=>?_⟩
   have D1:=key hf
   simp only [hset4,yz99,yz5l,yzh,yz2,yz1,go_sem,yz0,J9,J8,J6,J7,J5,J0,J1,J2,reduceIte,J3,J4,reduceCtorEq]
   intro vs U hN
   simp only [← hQ,Azb,go_sem,yz0,J9,J8,J6,J7,J5,J0,J1,J2,reduceIte,J3,J4,reduceCtorEq]
   refine ⟨[10],by simp,by simp,by simp,?_⟩
   simp only [range1,Y7,yzj,rsA,AVal.fresh,freshL,AObj.fresh,id,Y1v,go_sem,yz0,J9,J8,J6,J7,J5,J0,J1,J2,reduceIte,J3,J4,reduceCtorEq]
   exact ⟨n,A2 ++ (m,cur) :: C2,v,a,s,fun _=>D1,by simp;omega,hn.1,hn.2,hr2,ha'.1,ha'.2,rfl,by simp,rfl⟩
 have h4:∀ (σ:St) (v2 v3:Nat) (r v:Nat) (o6 o10:AObj) (a s n:Int) (ps:List (Nat×List Int)),
   Aut n (ps.map (·.2))→DJ ps→at_≤a∧a≤at_+2500→(r=6∧o6=.row v 1 true (rwp ps)∨r=10∧o10=.row v 1 true (rwp ps)) →
   σ.keep [0,2,3] [2,3,6,10,61,73,77,5000,901]=⟨L .any [(0,.ptr 5000 0 0),(2,.ptr 2 v2 0),(3,.ptr 3 v3 0)],
    L .gone [(2,.box v2 [iv 0,.val (.slice none 0 0)]),(3,.box v3 [iv n,.own r v]),(6,o6),(10,o10),(61,.gone),(73,.gone),(77,.gone),(5000,.box 0 (srcC code a s)),(901,.gone)]⟩ →
   wpD Tryz.prog Bzb4 Q σ:=by
  intro σ v2 v3 r v o6 o10 a s n ps A hd ha' hrv hS
  unfold Bzb4
  rw [yz2,hS]
  have l1:=A.l1
  have l2:=A.l2
  have n1:=A.n1
  have n2:=A.n2
  rw [Y6] at l1 l2
  rcases hrv with ⟨rfl,rfl⟩ | ⟨rfl,rfl⟩
  ·simp only [yz7,yz2,yz1,go_sem,yz0,J9,J8,J6,J7,J5,J0,J1,J2,reduceIte,J3,J4,reduceCtorEq]
   intro vs U hN hM
   refine yza (yz1w code a s ps.length hb (by omega)) rfl qCS qCS ?_
   rintro cs' x ⟨a1,s1,at1,rfl,e1,e2,rfl,e3,e4⟩
   have hat:at1.toNat<ps.length:=by omega
   simp only [Bzb3,yz2,yz1,go_sem,yz0,J9,J8,J6,J7,J5,J0,J1,J2,reduceIte,J3,J4,reduceCtorEq]
   intro vs1 U1 hN1
   refine yza (yz1w code a1 s1 24 hb (by omega)) rfl qCS qCS ?_
   rintro cs' x ⟨a2,s2,kd,rfl,f1,f2,rfl,f3,f4⟩
   have hps:∀ p∈ps,p.2.length≤10:=fun p hp=>by have:=(A.row p.2 (Y3.2 ⟨p,hp,rfl⟩)).1;omega
   by_cases k0:kd=0
   ·subst k0
    have w1:IntKind.i64.wrap (n+1)=n+1:=w64 (by omega)
    simp only [Bz2,Bz1,w1,beq_self_eq_true,yz2,yz1,go_sem,yz0,J9,J8,J6,J7,J5,J0,J1,J2,reduceIte,J3,J4,reduceCtorEq]
    intro vs2 U2 hN2 vs3 U3 hN3
    refine ⟨⟨⟨_,rfl,rfl⟩,⟨_,rfl,rfl⟩,⟨_,rfl,rfl⟩,_,rfl,rfl⟩,?_⟩
    refine yz5i (r:=5000) (q:=24) (yzaq code a2 s2 [0,-1,n+1,11] hb (by omega) (by simp)) rfl rfl (by decide) qCS (by simp only [yzb,yz1l,and_true,Coe];exact ⟨⟨0,_,_,rfl,rfl,rfl,rfl,rfl⟩,1,_,_,rfl,rfl,rfl,rfl,rfl⟩) ?_
    rintro cs' x ⟨a3,s3,b3,rfl,g3,g4,rfl,g5⟩
    have hb3:-1≤b3∧b3≤11:=by simp at g5;omega
    simp only [go_sem,yz0,J9,J8,J6,J7,J5,J0,J1,J2,reduceIte,J3,J4,reduceCtorEq]
    exact h12 _ v2 v3 6 v _ o10 .gone .gone .gone a3 s3 b3 ps (fun _=>hd) (by omega) hb3 hps (by omega) (.inl ⟨rfl,rfl⟩) (by simp only [go_sem,yz0,J9,J8,J6,J7,J5,J0,J1,J2,reduceIte,J3,J4,reduceCtorEq];try rfl)
   by_cases k1:kd=1
   ·subst k1
    simp only [beq_false_of_ne (show (1:Int)≠0 by omega),Bz2,Bz1,Bz3,yz24 hat,St.bound,Y11,beq_self_eq_true,yz2,yz1,go_sem,yz0,J9,J8,J6,J7,J5,J0,J1,J2,reduceIte,J3,J4,reduceCtorEq]
    intro _ _ _ _ _ _ vs4 U4 hN4
    have hlw:(rwp ps).length=ps.length:=yz7
    have hrl:=(A.row _ (Y3.2 ⟨_,yz4 hat (0,[]),rfl⟩)).1
    refine ⟨⟨e3,by omega⟩,by omega,⟨by omega,Y1h _⟩,⟨e3,by omega⟩,by omega,?_⟩
    have ed:List.drop 1 (ints (ps.getD at1.toNat (0,[])).2)=ints ((ps.getD at1.toNat (0,[])).2.drop 1):=by simp only [List.map_drop]
    rw [ed,yzdv (p:=((ps.getD at1.toNat (0,[])).1,(ps.getD at1.toNat (0,[])).2.drop 1))]
    have hlp:(ps.take at1.toNat ++ [((ps.getD at1.toNat (0,[])).1,(ps.getD at1.toNat (0,[])).2.drop 1)] ++ ps.drop (at1.toNat+1)).length=ps.length:=by
     simp only [Y5,Yk,Yp,Y7];omega
    exact h12 _ v2 v3 6 v _ o10 .gone .gone .gone a2 s2 n _ (fun _=>DJ_set (xs:=(ps.getD at1.toNat (0,[])).2.drop 1) hat hd fun e=>by rw [e];rfl) (by rw [hlp];omega) (by omega) (fun p hp=>by
     simp only [Y4,Y9] at hp
     rcases hp with (hp | rfl) | hp
     ·exact hps p (Y1d hp)
     ·have:=hps _ (yz4 hat (0,[]));simp only [Yp];omega
     ·exact hps p (List.mem_of_mem_drop hp)) (by omega) (.inl ⟨rfl,rfl⟩) (by simp only [go_sem,yz0,J9,J8,J6,J7,J5,J0,J1,J2,reduceIte,J3,J4,reduceCtorEq];try rfl)
   by_cases k2:kd=2
   ·subst k2
    obtain ⟨A2,b,C2,rfl,hAk⟩:=yz1c hat
    have hbr:=A.row b.2 (by simp)
    have hbn:b.2≠[]:=fun e=>by rw [e] at hbr;simp at hbr;omega
    have hbl:0<b.2.length:=by omega
    have F0:=yzbz hd hbn
    have F0a:∀ p∈A2 ++ C2,p.2=[]∨p.1≠b.1:=F0
    simp only [beq_false_of_ne (show (2:Int)≠0 by omega),beq_false_of_ne (show (2:Int)≠1 by omega),Bz2,Bz1,Bz3,yz2,yz1,go_sem,yz0,J9,J8,J6,J7,J5,J0,J1,J2,reduceIte,J3,J4,reduceCtorEq]
    intro _ _ _ _ _ _ _ _ _
    simp only [beq_self_eq_true,Bz5,yz2,yzr,go_sem,yz0,J9,J8,J6,J7,J5,J0,J1,J2,reduceIte,J3,J4,reduceCtorEq]
    intro _
    refine ⟨[.thaw 6 at1.toNat 901],yz4b (n:=b.1) rfl (yz65 hAk.symm) (by simpa using hbn) rfl fun m1=>?_⟩
    have hset:(woL b.1 (rwp (A2 ++ b :: C2))).set at1.toNat (AVal.own 901 m1)=rwp A2 ++ AVal.own 901 m1 :: rwp C2:=by rw [← hAk];exact yz5j F0a
    have ho1:(rwp A2 ++ AVal.own 901 m1 :: rwp C2).getD at1.toNat .any=.own 901 m1:=yzbx hAk.symm
    have hol:(rwp A2 ++ AVal.own 901 m1 :: rwp C2).length=A2.length+(C2.length+1):=by rw [Y5,Ye,yz7,yz7]
    have hkl:at1.toNat<(rwp A2 ++ AVal.own 901 m1 :: rwp C2).length:=by omega
    simp only [hset,woT,woO,yz1y,yz3q,yz3p,yz3o,yz7i,wo_o,yz27,wo_st,yz3l,yz3n,yz2b,yz7w,yzh,yz2,yz1,go_sem,yz0,J9,J8,J6,J7,J5,J0,J1,J2,reduceIte,J3,J4,reduceCtorEq]
    intro vs4 U4 hN4
    simp only [ho1,go_sem,yz0,J9,J8,J6,J7,J5,J0,J1,J2,reduceIte,J3,J4,reduceCtorEq]
    refine ⟨⟨e3,hkl⟩,hkl,⟨⟨_,rfl,rfl⟩,_,rfl,rfl⟩,?_⟩
    refine yz4j (r:=5000) (q:=49) (cs0:=srcC code a2 s2) (yzaq code a2 s2 [-1,n] hb (by omega) (by simp)) rfl rfl (by simp) (by decide) qCS (by simp only [yzb,yz1l,and_true,Coe];exact ⟨⟨0,_,_,rfl,rfl,rfl,rfl,rfl⟩,1,_,_,rfl,rfl,rfl,rfl,rfl⟩) ⟨srcC code a2 0,.int .i64 n,⟨a2,0,n,rfl,by omega,by omega,rfl,by simp⟩,yz1v⟩ ?_
    rintro cs' x ⟨a3,s3,b3,rfl,g3,g4,rfl,g5⟩
    simp only [yz2,yz1,go_sem,yz0,J9,J8,J6,J7,J5,J0,J1,J2,reduceIte,J3,J4,reduceCtorEq]
    refine ⟨hbl,hbl,?_⟩
    have ed:AVal.val (.int .i64 b3) :: List.drop 1 (ints b.2)=ints (b3 :: b.2.drop 1):=by simp [List.map_drop]
    rw [ed]
    exact h12b _ v2 v3 6 v m1 _ (AObj.wo b.1 o10) a3 s3 n A2 C2 b (b3 :: b.2.drop 1) hd (by omega) (by omega) (fun p hp=>hps p (by simp only [Y4,Y8] at hp ⊢;rcases hp with h | h <;> simp [h])) (by simp only [Ye,Yp];omega) (by omega) (.inl ⟨rfl,rfl⟩) (by simp only [go_sem,yz0,J9,J8,J6,J7,J5,J0,J1,J2,reduceIte,J3,J4,reduceCtorEq];try rfl)
   by_cases k3:kd=3
   ·subst k3
    have h00:0<ps.length:=by omega
    simp only [beq_false_of_ne (show (3:Int)≠0 by omega),beq_false_of_ne (show (3:Int)≠1 by omega),Bz2,Bz1,Bz3,yz2,yz1,go_sem,yz0,J9,J8,J6,J7,J5,J0,J1,J2,reduceIte,J3,J4,reduceCtorEq]
    intro _ _ _ _ _ _ _ _ _
    simp only [beq_false_of_ne (show (3:Int)≠2 by omega),Bz5,yz2,yzr,go_sem,yz0,J9,J8,J6,J7,J5,J0,J1,J2,reduceIte,J3,J4,reduceCtorEq]
    intro _
    refine ⟨[],?_⟩
    simp only [beq_self_eq_true,Bza,yz24 h00,yzh,yz2,yz1,go_sem,yz0,J9,J8,J6,J7,J5,J0,J1,J2,reduceIte,J3,J4,reduceCtorEq]
    intro _ _ _ vs9 U9 hN9
    have hlw:(rwp ps).length=ps.length:=yz7
    refine ⟨by omega,by omega,by omega,by omega,by omega,by omega,by omega,by rw [Y5,Y7];omega,?_⟩
    generalize hp0:ps.getD 0 (0,[])=p0
    have hp0m:p0∈ps:=hp0 ▸ yz4 h00 (0,[])
    have e5:rwp ps ++ [AVal.ro (some (some (p0.1+1))) 1 (ints p0.2)] ++ [AVal.ro (some (some (p0.1+1))) 1 (ints p0.2),AVal.ro (some (some (p0.1+1))) 1 (ints p0.2)]=rwp (ps ++ [p0] ++ [p0,p0]):=by simp only [rwp,Yc,Y1,Yb]
    rw [e5]
    have hl6:(ps ++ [p0] ++ [p0,p0]).length=ps.length+3:=by simp
    exact h12 _ v2 v3 6 (vs9 19 0) _ o10 .gone .gone .gone a2 s2 n (ps ++ [p0] ++ [p0,p0]) (fun h=>absurd h (by omega)) (by omega) (by omega) (fun p hp=>by
     simp only [Y4,Y8,Yi,or_false] at hp
     rcases hp with (hp | rfl) | rfl | rfl
     ·exact hps p hp
     ·exact hps _ hp0m
     ·exact hps _ hp0m
     ·exact hps _ hp0m) (by omega) (.inl ⟨rfl,rfl⟩) (by simp only [go_sem,yz0,J9,J8,J6,J7,J5,J0,J1,J2,reduceIte,J3,J4,reduceCtorEq];try rfl)
   by_cases k4:kd=4
   ·subst k4
    simp only [beq_false_of_ne (show (4:Int)≠0 by omega),beq_false_of_ne (show (4:Int)≠1 by omega),Bz2,Bz1,Bz3,yz2,yz1,go_sem,yz0,J9,J8,J6,J7,J5,J0,J1,J2,reduceIte,J3,J4,reduceCtorEq]
    intro _ _ _ _ _ _ _ _ _
    simp only [beq_false_of_ne (show (4:Int)≠2 by omega),Bz5,yz2,yzr,go_sem,yz0,J9,J8,J6,J7,J5,J0,J1,J2,reduceIte,J3,J4,reduceCtorEq]
    intro _
    refine ⟨[],?_⟩
    simp only [beq_false_of_ne (show (4:Int)≠3 by omega),Bza,Bz1e,beq_self_eq_true,yzh,yz2,yz1,go_sem,yz0,J9,J8,J6,J7,J5,J0,J1,J2,reduceIte,J3,J4,reduceCtorEq]
    intro _ _ _ _ _ _ vs9 U9 hN9
    exact h12 _ v2 v3 77 (vs9 0 0) _ o10 .gone .gone _ a2 s2 n [] (fun _=>by simp [DJ]) (by simp) (by omega) (by simp) (by omega) (.inr (.inr ⟨rfl,rfl⟩)) (by simp only [yz64,go_sem,yz0,J9,J8,J6,J7,J5,J0,J1,J2,reduceIte,J3,J4,reduceCtorEq];try rfl)
   simp only [beq_false_of_ne k0,beq_false_of_ne k1,Bz2,Bz1,Bz3,yz2,yz1,go_sem,yz0,J9,J8,J6,J7,J5,J0,J1,J2,reduceIte,J3,J4,reduceCtorEq]
   intro _ _ _ _ _ _ _ _ _
   simp only [beq_false_of_ne k2,Bz5,yz2,yzr,go_sem,yz0,J9,J8,J6,J7,J5,J0,J1,J2,reduceIte,J3,J4,reduceCtorEq]
   intro _
   refine ⟨[],?_⟩
   simp only [beq_false_of_ne k3,beq_false_of_ne k4,Bza,Bz1e,yzh,yz2,yz1,go_sem,yz0,J9,J8,J6,J7,J5,J0,J1,J2,reduceIte,J3,J4,reduceCtorEq]
   intro _ _ _ _ _ _
   exact h12 _ v2 v3 6 v _ o10 .gone .gone .gone a2 s2 n ps (fun _=>hd) (by omega) (by omega) hps (by omega) (.inl ⟨rfl,rfl⟩) (by simp only [go_sem,yz0,J9,J8,J6,J7,J5,J0,J1,J2,reduceIte,J3,J4,reduceCtorEq];try rfl)
  ·simp only [yz7,yz2,yz1,go_sem,yz0,J9,J8,J6,J7,J5,J0,J1,J2,reduceIte,J3,J4,reduceCtorEq]
   intro vs U hN hM
   refine yza (yz1w code a s ps.length hb (by omega)) rfl qCS qCS ?_
   rintro cs' x ⟨a1,s1,at1,rfl,e1,e2,rfl,e3,e4⟩
   have hat:at1.toNat<ps.length:=by omega
   simp only [Bzb3,yz2,yz1,go_sem,yz0,J9,J8,J6,J7,J5,J0,J1,J2,reduceIte,J3,J4,reduceCtorEq]
   intro vs1 U1 hN1
   refine yza (yz1w code a1 s1 24 hb (by omega)) rfl qCS qCS ?_
   rintro cs' x ⟨a2,s2,kd,rfl,f1,f2,rfl,f3,f4⟩
   have hps:∀ p∈ps,p.2.length≤10:=fun p hp=>by have:=(A.row p.2 (Y3.2 ⟨p,hp,rfl⟩)).1;omega
   by_cases k0:kd=0
   ·subst k0
    have w1:IntKind.i64.wrap (n+1)=n+1:=w64 (by omega)
    simp only [Bz2,Bz1,w1,beq_self_eq_true,yz2,yz1,go_sem,yz0,J9,J8,J6,J7,J5,J0,J1,J2,reduceIte,J3,J4,reduceCtorEq]
    intro vs2 U2 hN2 vs3 U3 hN3
    refine ⟨⟨⟨_,rfl,rfl⟩,⟨_,rfl,rfl⟩,⟨_,rfl,rfl⟩,_,rfl,rfl⟩,?_⟩
    refine yz5i (r:=5000) (q:=24) (yzaq code a2 s2 [0,-1,n+1,11] hb (by omega) (by simp)) rfl rfl (by decide) qCS (by simp only [yzb,yz1l,and_true,Coe];exact ⟨⟨0,_,_,rfl,rfl,rfl,rfl,rfl⟩,1,_,_,rfl,rfl,rfl,rfl,rfl⟩) ?_
    rintro cs' x ⟨a3,s3,b3,rfl,g3,g4,rfl,g5⟩
    have hb3:-1≤b3∧b3≤11:=by simp at g5;omega
    simp only [go_sem,yz0,J9,J8,J6,J7,J5,J0,J1,J2,reduceIte,J3,J4,reduceCtorEq]
    exact h12 _ v2 v3 10 v o6 _ .gone .gone .gone a3 s3 b3 ps (fun _=>hd) (by omega) hb3 hps (by omega) (.inr (.inl ⟨rfl,rfl⟩)) (by simp only [go_sem,yz0,J9,J8,J6,J7,J5,J0,J1,J2,reduceIte,J3,J4,reduceCtorEq];try rfl)
   by_cases k1:kd=1
   ·subst k1
    simp only [beq_false_of_ne (show (1:Int)≠0 by omega),Bz2,Bz1,Bz3,yz24 hat,St.bound,Y11,beq_self_eq_true,yz2,yz1,go_sem,yz0,J9,J8,J6,J7,J5,J0,J1,J2,reduceIte,J3,J4,reduceCtorEq]
    intro _ _ _ _ _ _ vs4 U4 hN4
    have hlw:(rwp ps).length=ps.length:=yz7
    have hrl:=(A.row _ (Y3.2 ⟨_,yz4 hat (0,[]),rfl⟩)).1
    refine ⟨⟨e3,by omega⟩,by omega,⟨by omega,Y1h _⟩,⟨e3,by omega⟩,by omega,?_⟩
    have ed:List.drop 1 (ints (ps.getD at1.toNat (0,[])).2)=ints ((ps.getD at1.toNat (0,[])).2.drop 1):=by simp only [List.map_drop]
    rw [ed,yzdv (p:=((ps.getD at1.toNat (0,[])).1,(ps.getD at1.toNat (0,[])).2.drop 1))]
    have hlp:(ps.take at1.toNat ++ [((ps.getD at1.toNat (0,[])).1,(ps.getD at1.toNat (0,[])).2.drop 1)] ++ ps.drop (at1.toNat+1)).length=ps.length:=by
     simp only [Y5,Yk,Yp,Y7];omega
    exact h12 _ v2 v3 10 v o6 _ .gone .gone .gone a2 s2 n _ (fun _=>DJ_set (xs:=(ps.getD at1.toNat (0,[])).2.drop 1) hat hd fun e=>by rw [e];rfl) (by rw [hlp];omega) (by omega) (fun p hp=>by
     simp only [Y4,Y9] at hp
     rcases hp with (hp | rfl) | hp
     ·exact hps p (Y1d hp)
     ·have:=hps _ (yz4 hat (0,[]));simp only [Yp];omega
     ·exact hps p (List.mem_of_mem_drop hp)) (by omega) (.inr (.inl ⟨rfl,rfl⟩)) (by simp only [go_sem,yz0,J9,J8,J6,J7,J5,J0,J1,J2,reduceIte,J3,J4,reduceCtorEq];try rfl)
   by_cases k2:kd=2
   ·subst k2
    obtain ⟨A2,b,C2,rfl,hAk⟩:=yz1c hat
    have hbr:=A.row b.2 (by simp)
    have hbn:b.2≠[]:=fun e=>by rw [e] at hbr;simp at hbr;omega
    have hbl:0<b.2.length:=by omega
    have F0:=yzbz hd hbn
    have F0a:∀ p∈A2 ++ C2,p.2=[]∨p.1≠b.1:=F0
    simp only [beq_false_of_ne (show (2:Int)≠0 by omega),beq_false_of_ne (show (2:Int)≠1 by omega),Bz2,Bz1,Bz3,yz2,yz1,go_sem,yz0,J9,J8,J6,J7,J5,J0,J1,J2,reduceIte,J3,J4,reduceCtorEq]
    intro _ _ _ _ _ _ _ _ _
    simp only [beq_self_eq_true,Bz5,yz2,yzr,go_sem,yz0,J9,J8,J6,J7,J5,J0,J1,J2,reduceIte,J3,J4,reduceCtorEq]
    intro _
    refine ⟨[.thaw 10 at1.toNat 901],yz4b (n:=b.1) rfl (yz65 hAk.symm) (by simpa using hbn) rfl fun m1=>?_⟩
    have hset:(woL b.1 (rwp (A2 ++ b :: C2))).set at1.toNat (AVal.own 901 m1)=rwp A2 ++ AVal.own 901 m1 :: rwp C2:=by rw [← hAk];exact yz5j F0a
    have ho1:(rwp A2 ++ AVal.own 901 m1 :: rwp C2).getD at1.toNat .any=.own 901 m1:=yzbx hAk.symm
    have hol:(rwp A2 ++ AVal.own 901 m1 :: rwp C2).length=A2.length+(C2.length+1):=by rw [Y5,Ye,yz7,yz7]
    have hkl:at1.toNat<(rwp A2 ++ AVal.own 901 m1 :: rwp C2).length:=by omega
    simp only [hset,woT,woO,yz1y,yz3q,yz3p,yz3o,yz7i,wo_o,yz27,wo_st,yz3l,yz3n,yz2b,yz7w,yzh,yz2,yz1,go_sem,yz0,J9,J8,J6,J7,J5,J0,J1,J2,reduceIte,J3,J4,reduceCtorEq]
    intro vs4 U4 hN4
    simp only [ho1,go_sem,yz0,J9,J8,J6,J7,J5,J0,J1,J2,reduceIte,J3,J4,reduceCtorEq]
    refine ⟨⟨e3,hkl⟩,hkl,⟨⟨_,rfl,rfl⟩,_,rfl,rfl⟩,?_⟩
    refine yz4j (r:=5000) (q:=49) (cs0:=srcC code a2 s2) (yzaq code a2 s2 [-1,n] hb (by omega) (by simp)) rfl rfl (by simp) (by decide) qCS (by simp only [yzb,yz1l,and_true,Coe];exact ⟨⟨0,_,_,rfl,rfl,rfl,rfl,rfl⟩,1,_,_,rfl,rfl,rfl,rfl,rfl⟩) ⟨srcC code a2 0,.int .i64 n,⟨a2,0,n,rfl,by omega,by omega,rfl,by simp⟩,yz1v⟩ ?_
    rintro cs' x ⟨a3,s3,b3,rfl,g3,g4,rfl,g5⟩
    simp only [yz2,yz1,go_sem,yz0,J9,J8,J6,J7,J5,J0,J1,J2,reduceIte,J3,J4,reduceCtorEq]
    refine ⟨hbl,hbl,?_⟩
    have ed:AVal.val (.int .i64 b3) :: List.drop 1 (ints b.2)=ints (b3 :: b.2.drop 1):=by simp [List.map_drop]
    rw [ed]
    exact h12b _ v2 v3 10 v m1 (AObj.wo b.1 o6) _ a3 s3 n A2 C2 b (b3 :: b.2.drop 1) hd (by omega) (by omega) (fun p hp=>hps p (by simp only [Y4,Y8] at hp ⊢;rcases hp with h | h <;> simp [h])) (by simp only [Ye,Yp];omega) (by omega) (.inr ⟨rfl,rfl⟩) (by simp only [go_sem,yz0,J9,J8,J6,J7,J5,J0,J1,J2,reduceIte,J3,J4,reduceCtorEq];try rfl)
   by_cases k3:kd=3
   ·subst k3
    have h00:0<ps.length:=by omega
    simp only [beq_false_of_ne (show (3:Int)≠0 by omega),beq_false_of_ne (show (3:Int)≠1 by omega),Bz2,Bz1,Bz3,yz2,yz1,go_sem,yz0,J9,J8,J6,J7,J5,J0,J1,J2,reduceIte,J3,J4,reduceCtorEq]
    intro _ _ _ _ _ _ _ _ _
    simp only [beq_false_of_ne (show (3:Int)≠2 by omega),Bz5,yz2,yzr,go_sem,yz0,J9,J8,J6,J7,J5,J0,J1,J2,reduceIte,J3,J4,reduceCtorEq]
    intro _
    refine ⟨[],?_⟩
    simp only [beq_self_eq_true,Bza,yz24 h00,yzh,yz2,yz1,go_sem,yz0,J9,J8,J6,J7,J5,J0,J1,J2,reduceIte,J3,J4,reduceCtorEq]
    intro _ _ _ vs9 U9 hN9
    have hlw:(rwp ps).length=ps.length:=yz7
    refine ⟨by omega,by omega,by omega,by omega,by omega,by omega,by omega,by rw [Y5,Y7];omega,?_⟩
    generalize hp0:ps.getD 0 (0,[])=p0
    have hp0m:p0∈ps:=hp0 ▸ yz4 h00 (0,[])
    have e5:rwp ps ++ [AVal.ro (some (some (p0.1+1))) 1 (ints p0.2)] ++ [AVal.ro (some (some (p0.1+1))) 1 (ints p0.2),AVal.ro (some (some (p0.1+1))) 1 (ints p0.2)]=rwp (ps ++ [p0] ++ [p0,p0]):=by simp only [rwp,Yc,Y1,Yb]
    rw [e5]
    have hl6:(ps ++ [p0] ++ [p0,p0]).length=ps.length+3:=by simp
    exact h12 _ v2 v3 10 (vs9 19 0) o6 _ .gone .gone .gone a2 s2 n (ps ++ [p0] ++ [p0,p0]) (fun h=>absurd h (by omega)) (by omega) (by omega) (fun p hp=>by
     simp only [Y4,Y8,Yi,or_false] at hp
     rcases hp with (hp | rfl) | rfl | rfl
     ·exact hps p hp
     ·exact hps _ hp0m
     ·exact hps _ hp0m
     ·exact hps _ hp0m) (by omega) (.inr (.inl ⟨rfl,rfl⟩)) (by simp only [go_sem,yz0,J9,J8,J6,J7,J5,J0,J1,J2,reduceIte,J3,J4,reduceCtorEq];try rfl)
   by_cases k4:kd=4
   ·subst k4
    simp only [beq_false_of_ne (show (4:Int)≠0 by omega),beq_false_of_ne (show (4:Int)≠1 by omega),Bz2,Bz1,Bz3,yz2,yz1,go_sem,yz0,J9,J8,J6,J7,J5,J0,J1,J2,reduceIte,J3,J4,reduceCtorEq]
    intro _ _ _ _ _ _ _ _ _
    simp only [beq_false_of_ne (show (4:Int)≠2 by omega),Bz5,yz2,yzr,go_sem,yz0,J9,J8,J6,J7,J5,J0,J1,J2,reduceIte,J3,J4,reduceCtorEq]
    intro _
    refine ⟨[],?_⟩
    simp only [beq_false_of_ne (show (4:Int)≠3 by omega),Bza,Bz1e,beq_self_eq_true,yzh,yz2,yz1,go_sem,yz0,J9,J8,J6,J7,J5,J0,J1,J2,reduceIte,J3,J4,reduceCtorEq]
    intro _ _ _ _ _ _ vs9 U9 hN9
    exact h12 _ v2 v3 77 (vs9 0 0) o6 _ .gone .gone _ a2 s2 n [] (fun _=>by simp [DJ]) (by simp) (by omega) (by simp) (by omega) (.inr (.inr ⟨rfl,rfl⟩)) (by simp only [yz64,go_sem,yz0,J9,J8,J6,J7,J5,J0,J1,J2,reduceIte,J3,J4,reduceCtorEq];try rfl)
   simp only [beq_false_of_ne k0,beq_false_of_ne k1,Bz2,Bz1,Bz3,yz2,yz1,go_sem,yz0,J9,J8,J6,J7,J5,J0,J1,J2,reduceIte,J3,J4,reduceCtorEq]
   intro _ _ _ _ _ _ _ _ _
   simp only [beq_false_of_ne k2,Bz5,yz2,yzr,go_sem,yz0,J9,J8,J6,J7,J5,J0,J1,J2,reduceIte,J3,J4,reduceCtorEq]
   intro _
   refine ⟨[],?_⟩
   simp only [beq_false_of_ne k3,beq_false_of_ne k4,Bza,Bz1e,yzh,yz2,yz1,go_sem,yz0,J9,J8,J6,J7,J5,J0,J1,J2,reduceIte,J3,J4,reduceCtorEq]
   intro _ _ _ _ _ _
   exact h12 _ v2 v3 10 v o6 _ .gone .gone .gone a2 s2 n ps (fun _=>hd) (by omega) (by omega) hps (by omega) (.inr (.inl ⟨rfl,rfl⟩)) (by simp only [go_sem,yz0,J9,J8,J6,J7,J5,J0,J1,J2,reduceIte,J3,J4,reduceCtorEq];try rfl)
 simp only [Azb,Bzog,yz2,yz1,go_sem,yz0,J9,J8,J6,J7,J5,J0,J1,J2,reduceIte,J3,J4,reduceCtorEq]
 intro vs0 U0 hN0 vs1 U1 hN1
 refine yz3e (r:=5000) (yz6e code at_ seed 6 hb (by omega) (by omega)) rfl (by simp only [Y21,csA,rowIs,boxIs,J3,ne_eq,reduceCtorEq,exists_eq_left,exists_eq_right,Y8,Yi,exists_eq_left',exists_and_left,exists_eq,Y1,Yb,AObj.ver,J5]) (by simp only [Y21,csA,rowIs,boxIs,J3,ne_eq,reduceCtorEq,exists_eq_left,exists_eq_right,Y8,Yi,exists_eq_left',exists_and_left,exists_eq,Y1,Yb,AObj.ver,J5]) ?_
 rintro outs rows res ⟨q,qs,vq,a1,s1,A,hd,hq3,h1,h2,rfl,rfl,rfl⟩
 refine ⟨rfl,by simp,by rw [Y1x,yzw];simp only [go_sem,yz0,J9,J8,J6,J7,J5,J0,J1,J2,reduceIte,J3,J4,reduceCtorEq],?_⟩
 rw [Y1x,yz32 (by omega)]
 have hv0:∀ y,vs1 1 y≠0:=fun y e=>by
  have h:=hN1.hp 5000
  simp only [AObj.uses,go_sem,yz0,J9,J8,J6,J7,J5,J0,J1,J2,reduceIte,J3,J4,reduceCtorEq] at h
  exact hN1.new 1 y (by rw [e];exact h.1)
 simp only [yzj,Bzof,yz2,yz1,rsA,AVal.fresh,freshL,AObj.fresh,id,Y1v,go_sem,yz0,J9,J8,J6,J7,J5,J0,J1,J2,reduceIte,J3,J4,reduceCtorEq]
 intro vs2 U2 hN2
 clear hN2
 have hsi:=fun l (h:L .gone l 5000=.box 0 (srcC code at_ seed))=>sv_inj (hp:=L .gone l) (r:=5000) h (fun x y e=>(hN1.inj _ _ _ _ e).2) hv0
 have hs0:=fun l (h:L .gone l 5000=.box 0 (srcC code at_ seed))=>(sv_m (s:=vs1 1) h:sv (L .gone l) [5000] (vs1 1) 0=0)
 generalize hl0:[(2,AObj.box (vs0 0 0) [iv 0,AVal.val (Value.slice none 0 0)]),(3,AObj.gone),(6,AObj.gone),(10,AObj.gone),(61,AObj.gone),(73,AObj.gone),(77,AObj.gone),(5000,AObj.box 0 (srcC code at_ seed)),(901,AObj.gone)]=l0
 have hi:=hsi l0 (by rw [← hl0];rfl)
 have h0:=hs0 l0 (by rw [← hl0];rfl)
 generalize sv (L .gone l0) [5000] (vs1 1)=f at hi h0 ⊢
 rw [h0]
 have A0:Aut q ((qs.map fun p=>(f p.1,p.2)).map (·.2)):=by rw [Yj];exact A
 have hd0:=hd.ren hi
 generalize (qs.map fun p=>(f p.1,p.2))=ps0 at A0 hd0 ⊢
 refine yza (k_one code a1 s1 8 hb (by omega)) rfl qCS qCS ?_
 rintro cs' x ⟨a2,s2,b2,rfl,g1,g2,rfl⟩
 simp only [Bzoe,yz2,yz1,go_sem,yz0,J9,J8,J6,J7,J5,J0,J1,J2,reduceIte,J3,J4,reduceCtorEq]
 refine ⟨fun _ vs3 U3 hN3=>?_,fun _=>?_⟩
 ·refine yz3e (r:=5000) (yz6e code a2 s2 10 hb (by omega) (by omega)) rfl (by simp only [Y21,csA,rowIs,boxIs,J3,ne_eq,reduceCtorEq,exists_eq_left,exists_eq_right,Y8,Yi,exists_eq_left',exists_and_left,exists_eq,Y1,Yb,AObj.ver,J5]) (by simp only [Y21,csA,rowIs,boxIs,J3,ne_eq,reduceCtorEq,exists_eq_left,exists_eq_right,Y8,Yi,exists_eq_left',exists_and_left,exists_eq,Y1,Yb,AObj.ver,J5]) ?_
  rintro outs rows res ⟨q',qs',vq',a3,s3,A',hd',hq',g3,g4,rfl,rfl,rfl⟩
  refine ⟨rfl,by simp,by rw [Y1x,yzw];simp only [go_sem,yz0,J9,J8,J6,J7,J5,J0,J1,J2,reduceIte,J3,J4,reduceCtorEq],?_⟩
  rw [Y1x,yz32 (by omega)]
  have hv1:∀ y,vs3 1 y≠0:=fun y e=>by
   have h:=hN3.hp 5000
   simp only [AObj.uses,go_sem,yz0,J9,J8,J6,J7,J5,J0,J1,J2,reduceIte,J3,J4,reduceCtorEq] at h
   exact hN3.new 1 y (by rw [e];exact h.1)
  simp only [yzj,yz2,yz1,rsA,AVal.fresh,freshL,AObj.fresh,id,Y1v,go_sem,yz0,J9,J8,J6,J7,J5,J0,J1,J2,reduceIte,J3,J4,reduceCtorEq]
  have hsi:=fun l (h:L .gone l 5000=.box 0 (srcC code a2 s2))=>sv_inj (hp:=L .gone l) (r:=5000) h (fun x y e=>(hN3.inj _ _ _ _ e).2) hv1
  have hs0:=fun l (h:L .gone l 5000=.box 0 (srcC code a2 s2))=>(sv_m (s:=vs3 1) h:sv (L .gone l) [5000] (vs3 1) 0=0)
  generalize hl1:[(2,AObj.box (vs0 0 0) [iv 0,AVal.val (Value.slice none 0 0)]),(3,AObj.box (vs1 2 0) [iv q,.own 6 (f vq)]),(6,AObj.row (f vq) 1 true (rwp ps0)),(10,AObj.gone),(61,AObj.gone),(73,AObj.gone),(77,AObj.gone),(5000,AObj.box 0 (srcC code a2 s2)),(901,AObj.gone)]=l1
  have hi1:=hsi l1 (by rw [← hl1];rfl)
  have h01:=hs0 l1 (by rw [← hl1];rfl)
  generalize sv (L .gone l1) [5000] (vs3 1)=f1 at hi1 h01 ⊢
  rw [h01]
  have A1:Aut q' ((qs'.map fun p=>(f1 p.1,p.2)).map (·.2)):=by rw [Yj];exact A'
  have hd1:=hd'.ren hi1
  generalize (qs'.map fun p=>(f1 p.1,p.2))=ps1 at A1 hd1 ⊢
  exact h4 _ (vs0 0 0) (vs1 2 0) 10 (f1 vq') _ _ a3 s3 q' ps1 A1 hd1 (by omega) (.inr ⟨rfl,rfl⟩) (by simp only [← hl1,go_sem,yz0,J9,J8,J6,J7,J5,J0,J1,J2,reduceIte,J3,J4,reduceCtorEq];try rfl)
 ·exact h4 _ (vs0 0 0) (vs1 2 0) 6 (f vq) _ .gone a2 s2 q ps0 A0 hd0 (by omega) (.inl ⟨rfl,rfl⟩) (by simp only [go_sem,yz0,J9,J8,J6,J7,J5,J0,J1,J2,reduceIte,J3,J4,reduceCtorEq];try rfl)
def FRen (F:Int→List (Nat×List Int)→Prop):Prop:=∀ n ps (f:Nat→Nat),(∀ x y,f x=f y→x=y)→F n ps→F n (ps.map fun p=>(f p.1,p.2))
theorem New.box {vs:Nat→Nat→Nat} {U:Nat→Prop} {σ:St} {r v:Nat} {cs:List AVal} (h:New vs U σ) (hr:σ.hp r=.box v cs) (i y:Nat):vs i y≠v:=fun e=>by
 have h1:=h.hp r
 rw [hr] at h1
 simp only [AObj.uses] at h1
 exact h.new i y (by rw [e];exact h1.1)
theorem yzds {P:Program} {F:Int→List (Nat×List Int)→Prop} (hF:FRen F) {σ:St} {g:FuncId} {As args:List AVal} {d:Nat} {s:Nat→Nat} {K:St→Prop} {r v:Nat} {code:List Int} {a s0 k:Int}
  (h:Con P g [.box 0 (srcC code a s0)] (.ptr 5000 0 0 :: args) true fun outs rows res=>∃ n ps v a' s',F n ps∧a≤a'∧a'≤a+k∧outs=[.box 0 (srcC code a' s')]∧rows=[.row v 1 true (rwp ps)]∧res=.st [iv n,.own 6000 v])
  (hr:σ.hp r=.box v (srcC code a s0)) (hs:∀ x y,s x=s y→x=y) (hv:∀ y,s y≠v) (hco:CoeL σ.hp [r] false args As) (hd:σ.hp d=.gone)
  (hk:∀ n ps v' a' s',F n ps→a≤a'→a'≤a+k→K (St.put ⟨σ.tm,upd (upd σ.hp r (.box v (srcC code a' s'))) d (.row v' 1 true (rwp ps))⟩ (some d) (.st [iv n,.own d v']))):wpCall P false σ g (.ptr r v 0 :: As) (some d) s K:=by
 have hne:d≠r:=fun e=>by rw [e,hr] at hd;cases hd
 refine yz3e (r:=r) h hr (by simp only [Y21,csA,rowIs,boxIs,J3,ne_eq,reduceCtorEq,exists_eq_left,exists_eq_right,Y8,Yi,exists_eq_left',exists_and_left,exists_eq,Y1,Yb,AObj.ver,J5]) (by rw [Y21,yzb,yz54,hr];exact ⟨rfl,hco⟩) ?_
 rintro outs rows res ⟨n,ps,w,a',s',hf,h1,h2,rfl,rfl,rfl⟩
 refine ⟨rfl,by simp,by rw [Y1x,yzw];exact hd,?_⟩
 rw [Y1x,yz32 hne]
 have hi:=sv_inj (hp:=σ.hp) (r:=r) hr hs hv
 have h0:sv σ.hp [r] s 0=v:=sv_m hr
 simp only [yz2a,yz1p,yzj,yzq _ yz1v,ren_st,yz30,yz4i,yz2k,Y7,yz1f,h0]
 exact hk n _ _ a' s' (hF n ps _ hi hf) h1 h2
theorem call_lo0 {P:Program} {F:Int→List (Nat×List Int)→Prop} (hF:FRen F) {σ:St} {g:FuncId} {As args:List AVal} {d:Nat} {s:Nat→Nat} {K:St→Prop}
  (h:Con P g [] args true fun outs rows res=>outs=[]∧∃ n v ps,F n ps∧rows=[.row v 1 true (rwp ps)]∧res=.st [iv n,.own 6000 v])
  (hs:∀ x y,s x=s y→x=y) (hco:CoeL σ.hp [] false args As) (hd:σ.hp d=.gone)
  (hk:∀ n ps v',F n ps→K (St.put ⟨σ.tm,upd σ.hp d (.row v' 1 true (rwp ps))⟩ (some d) (.st [iv n,.own d v']))):wpCall P false σ g As (some d) s K:=by
 refine yz4o h hco (fun e=>by cases e) ?_
 rintro outs rows res ⟨rfl,n,w,ps,hf,rfl,rfl⟩
 refine ⟨rfl,by simp,by rw [Y1x,yzw];exact hd,?_⟩
 rw [Y1x,yz2x]
 simp only [yz1p,yzj,ren_st,yz30,yz4i,yz2k,Y7,yz1f]
 exact hk n _ _ (hF n ps _ hs hf)
theorem call_lo2 {P:Program} {F:Int→List (Nat×List Int)→Prop} (hF:FRen F) {σ:St} {g:FuncId} {As args:List AVal} {d:Nat} {s:Nat→Nat} {K:St→Prop} {r v:Nat} {code:List Int} {a s0 k:Int}
  (h:Con P g [.box 0 (srcC code a s0)] (.ptr 5000 0 0 :: args) true fun outs rows res=>∃ n ps v w xs a' s',F n ps∧a≤a'∧a'≤a+k∧outs=[.box 0 (srcC code a' s')]∧rows=[.row v 1 true (rwp ps),.row w 1 true (ints xs)]∧res=.tup [.st [iv n,.own 6000 v],.own 6001 w])
  (hr:σ.hp r=.box v (srcC code a s0)) (hs:∀ x y,s x=s y→x=y) (hv:∀ y,s y≠v) (hco:CoeL σ.hp [r] false args As) (hd:σ.hp d=.gone) (hd2:σ.hp (d+1000)=.gone)
  (hk:∀ n ps v' w' xs a' s',F n ps→a≤a'→a'≤a+k→K (St.put ⟨σ.tm,upd (upd (upd σ.hp r (.box v (srcC code a' s'))) d (.row v' 1 true (rwp ps))) (d+1000) (.row w' 1 true (ints xs))⟩ (some d) (.tup [.st [iv n,.own d v'],.own (d+1000) w']))):wpCall P false σ g (.ptr r v 0 :: As) (some d) s K:=by
 have hne:d≠r:=fun e=>by rw [e,hr] at hd;cases hd
 have hne2:d+1000≠r:=fun e=>by rw [e,hr] at hd2;cases hd2
 refine yz3e (r:=r) h hr (by simp only [Y21,csA,rowIs,boxIs,J3,ne_eq,reduceCtorEq,exists_eq_left,exists_eq_right,Y8,Yi,exists_eq_left',exists_and_left,exists_eq,Y1,Yb,AObj.ver,J5]) (by rw [Y21,yzb,yz54,hr];exact ⟨rfl,hco⟩) ?_
 rintro outs rows res ⟨n,ps,w,w2,xs,a',s',hf,h1,h2,rfl,rfl,rfl⟩
 refine ⟨rfl,by simp,by rw [Y1x,yz6s];exact ⟨hd,hd2⟩,?_⟩
 rw [Y1x,yz7v hne hne2]
 have hi:=sv_inj (hp:=σ.hp) (r:=r) hr hs hv
 have h0:sv σ.hp [r] s 0=v:=sv_m hr
 have e2:([AObj.row w 1 true (rwp ps),AObj.row w2 1 true (ints xs)]:List AObj).length=2:=rfl
 simp only [yz2a,yz1p,yzj,yzq _ yz1v,ren_st,yzf1,yz30,yz4i,yz1q,yz2k,e2,yz1f,yz53,h0]
 exact hk n _ _ _ xs a' s' (hF n ps _ hi hf) h1 h2
def FAut (m:Int) (n:Int) (ps:List (Nat×List Int)):Prop:=Aut n (ps.map (·.2))∧DJ ps∧n≤m
def FLo (n:Int) (ps:List (Nat×List Int)):Prop:=(ps.length≤3→DJ ps)∧ps.length≤10∧-1≤n∧n≤11∧∀ p∈ps,p.2.length≤10
theorem map_named {ps:List (Nat×List Int)} {f:Nat→Nat}:(ps.map fun p=>(f p.1,p.2)).map (·.2)=ps.map (·.2):=by rw [Yj];rfl
theorem yz8v (m:Int):FRen (FAut m):=by
 rintro n ps f hf ⟨h1,h2,h3⟩
 exact ⟨by rw [map_named];exact h1,h2.ren hf,h3⟩
theorem FLo_ren:FRen FLo:=by
 rintro n ps f hf ⟨h1,h2,h3,h4,h5⟩
 refine ⟨fun h=>(h1 (by simpa using h)).ren hf,by simpa using h2,h3,h4,fun p hp=>?_⟩
 obtain ⟨q,hq,rfl⟩:=Y3.1 hp
 exact h5 q hq
theorem FAut.lo {m n:Int} {ps:List (Nat×List Int)} (h:FAut m n ps):FLo n ps:=by
 obtain ⟨A,hd,hm⟩:=h
 have n1:=A.n1
 have n2:=A.n2
 have l2:=A.l2
 rw [Y6] at l2
 exact ⟨fun _=>hd,by omega,by omega,by omega,fun p hp=>by have:=(A.row p.2 (Y3.2 ⟨p,hp,rfl⟩)).1;omega⟩
theorem yz2f {A2 C2:List (Nat×List Int)} {b:Nat×List Int} {m:Nat} {cur:List Int} (hd:DJ (A2 ++ b :: C2))
  (hf:∀ n k'' cs'',AVal.ro (some (some (n+1))) k'' cs''∈rwp A2 ++ AVal.own 901 m :: rwp C2→cs''≠[]→n≠m):DJ (A2 ++ (m,cur) :: C2):=DJ_in hd fun p hp=>by
 by_cases e:p.2=[]
 ·exact .inl e
 ·refine .inr (hf p.1 1 (ints p.2) ?_ (by simpa using e))
  rcases Y4.1 hp with h | h
  ·exact Y4.2 (.inl (Y3.2 ⟨p,h,rfl⟩))
  ·exact Y4.2 (.inr (Y8.2 (.inr (Y3.2 ⟨p,h,rfl⟩))))
theorem Aut_put {n:Int} {A2 C2:List (Nat×List Int)} {b:Nat×List Int} {u:Nat} {cur:List Int} (A:Aut n ((A2 ++ b :: C2).map (·.2))) (hl:cur.length=b.2.length) (hm:∀ x∈cur,0≤x∧x<n):Aut n ((A2 ++ (u,cur) :: C2).map (·.2)):=by
 have l1:=A.l1
 have l2:=A.l2
 have hbr:=A.row b.2 (by simp)
 refine ⟨A.n1,A.n2,by rw [Y6] at l1 ⊢;simpa using l1,by rw [Y6] at l2 ⊢;simpa using l2,fun row hr=>?_⟩
 rw [Yc,Y1,Y4,Y8] at hr
 rcases hr with h | h | h
 ·exact A.row row (by rw [Yc];exact Y4.2 (.inl h))
 ·rw [h];exact ⟨by dsimp only;omega,hm⟩
 ·exact A.row row (by rw [Yc,Y1];exact Y4.2 (.inr (Yt _ h)))
theorem yzel (code:List Int) (at_ seed:Int) (hb:∀ x∈code,0≤x∧x≤255) (ha:0≤at_∧at_≤10000) :
  Con Tryz.prog nz5d [.box 0 (srcC code at_ seed)] [.ptr 5000 0 0] true fun outs rows res=>∃ n ps v a' s',FLo n ps∧at_≤a'∧a'≤at_+5000∧outs=[.box 0 (srcC code a' s')]∧rows=[.row v 1 true (rwp ps)]∧res=.st [iv n,.own 6000 v]:=by
 refine yz38 mixed czsi rfl (by simp) ?_
 generalize hQ:finQ _=Q
 simp only [Az9,Bzj8,yz2,yz1,go_sem,yz0,J9,J8,J6,J7,J5,J0,J1,J2,reduceIte,J3,J4,reduceCtorEq]
 intro vs0 U0 hN0 vs1 U1 hN1
 refine yza (yz1w code at_ seed 6 hb (by omega)) rfl qCS qCS ?_
 rintro cs' x ⟨a1,s1,b1,rfl,g1,g2,rfl,g3,g4⟩
 by_cases k0:b1=0
 ·subst k0
  simp only [Bz14,Bz13,beq_self_eq_true,yz2,yz1,go_sem,yz0,J9,J8,J6,J7,J5,J0,J1,J2,reduceIte,J3,J4,reduceCtorEq]
  intro vs2 U2 hN2 vs3 U3 hN3
  refine yza (yz1w code a1 s1 6 hb (by omega)) rfl qCS qCS ?_
  rintro cs' x ⟨a2,s2,b2,rfl,g5,g6,rfl,g7,g8⟩
  have w1:IntKind.i64.wrap (2+b2)=2+b2:=w64 (by omega)
  simp only [w1,yz2,yz1,go_sem,yz0,J9,J8,J6,J7,J5,J0,J1,J2,reduceIte,J3,J4,reduceCtorEq]
  refine call_lo0 (yz8v 10) (Con.mono (yz89 (2+b2) (by omega)) ?_) (fun x y e=>(hN3.inj _ _ _ _ e).2) qCS qGN ?_
  ·rintro outs rows res ⟨h1,v,ps,h2,h3,h4,h5⟩
   exact ⟨h1,_,v,ps,⟨h2,h3,by omega⟩,h4,h5⟩
  intro n ps v' hf
  simp only [← hQ,Az9,yz2,yz1,go_sem,yz0,J9,J8,J6,J7,J5,J0,J1,J2,reduceIte,J3,J4,reduceCtorEq]
  refine ⟨[14],by simp,by simp,by simp,?_⟩
  simp only [range1,Y7,yzj,rsA,AVal.fresh,freshL,AObj.fresh,id,Y1v,go_sem,yz0,J9,J8,J6,J7,J5,J0,J1,J2,reduceIte,J3,J4,reduceCtorEq]
  exact ⟨n,ps,v',a2,s2,hf.lo,by omega,by omega,rfl,by simp,rfl⟩
 by_cases k1:b1=1
 ·subst k1
  simp only [beq_false_of_ne (show (1:Int)≠0 by omega),Bz14,Bz13,Bz3j,beq_self_eq_true,yz2,yz1,go_sem,yz0,J9,J8,J6,J7,J5,J0,J1,J2,reduceIte,J3,J4,reduceCtorEq]
  intro vs2 U2 hN2 vs3 U3 hN3 vs4 U4 hN4
  refine call_lo2 (k:=2000) (yz8v 10) (Con.mono (yzci code a1 s1 hb (by omega)) ?_) rfl (fun x y e=>(hN4.inj _ _ _ _ e).2) (hN4.box (r:=5000) rfl 1) qCS qGN qGN ?_
  ·rintro outs rows res ⟨n,ps,v,w,xs,a',s',h1,h2,h3,h4,h5,h6⟩
   exact ⟨n,ps,v,w,xs,a',s',⟨h1,h2,by omega⟩,h4,h5,h6⟩
  intro n ps v' w' xs a2 s2 hf h1 h2
  simp only [yz2,yz1,go_sem,yz0,J9,J8,J6,J7,J5,J0,J1,J2,reduceIte,J3,J4,reduceCtorEq]
  simp only [Bzj4,← hQ,Az9,yz2,yz1,go_sem,yz0,J9,J8,J6,J7,J5,J0,J1,J2,reduceIte,J3,J4,reduceCtorEq]
  intro vs5 U5 hN5
  refine ⟨[19],by simp,by simp,by simp,?_⟩
  simp only [range1,Y7,yzj,rsA,AVal.fresh,freshL,AObj.fresh,id,Y1v,go_sem,yz0,J9,J8,J6,J7,J5,J0,J1,J2,reduceIte,J3,J4,reduceCtorEq]
  exact ⟨n,ps,v',a2,s2,hf.lo,by omega,by omega,rfl,by simp,rfl⟩
 by_cases k2:b1=2
 ·subst k2
  simp only [beq_false_of_ne (show (2:Int)≠0 by omega),beq_false_of_ne (show (2:Int)≠1 by omega),Bz14,Bz13,Bz3j,Bz8j,beq_self_eq_true,yz2,yz1,go_sem,yz0,J9,J8,J6,J7,J5,J0,J1,J2,reduceIte,J3,J4,reduceCtorEq]
  intro vs2 U2 hN2 vs3 U3 hN3 vs4 U4 hN4 vs5 U5 hN5
  refine yzds (k:=3000) FLo_ren (Con.mono (k_l01Bent code a1 s1 hb (by omega)) ?_) rfl (fun x y e=>(hN5.inj _ _ _ _ e).2) (hN5.box (r:=5000) rfl 1) qCS qGN ?_
  ·rintro outs rows res ⟨n,ps,v,a',s',h1,h2,h3,h4,h5,h6⟩
   exact ⟨n,ps,v,a',s',⟨h1,h2,h3,h4,h5⟩,h6⟩
  intro n ps v' a2 s2 hf h1 h2
  simp only [← hQ,Az9,yz2,yz1,go_sem,yz0,J9,J8,J6,J7,J5,J0,J1,J2,reduceIte,J3,J4,reduceCtorEq]
  refine ⟨[26],by simp,by simp,by simp,?_⟩
  simp only [range1,Y7,yzj,rsA,AVal.fresh,freshL,AObj.fresh,id,Y1v,go_sem,yz0,J9,J8,J6,J7,J5,J0,J1,J2,reduceIte,J3,J4,reduceCtorEq]
  exact ⟨n,ps,v',a2,s2,hf,by omega,by omega,rfl,by simp,rfl⟩
 simp only [beq_false_of_ne k0,beq_false_of_ne k1,beq_false_of_ne k2,Bz14,Bz13,Bz3j,Bz8j,Bzj7,yz2,yz1,go_sem,yz0,J9,J8,J6,J7,J5,J0,J1,J2,reduceIte,J3,J4,reduceCtorEq]
 intro vs2 U2 hN2 vs3 U3 hN3 vs4 U4 hN4 vs5 U5 hN5
 refine yzds (k:=1000) (yz8v 6) (Con.mono (yz6e code a1 s1 6 hb (by omega) (by omega)) ?_) rfl (fun x y e=>(hN5.inj _ _ _ _ e).2) (hN5.box (r:=5000) rfl 1) qCS qGN ?_
 ·rintro outs rows res ⟨n,ps,v,a',s',h1,h2,h3,h4,h5,h6⟩
  exact ⟨n,ps,v,a',s',⟨h1,h2,h3⟩,h4,h5,h6⟩
 intro n ps v' a2 s2 hf h1 h2
 simp only [Bzj6,yz2,yz1,go_sem,yz0,J9,J8,J6,J7,J5,J0,J1,J2,reduceIte,J3,J4,reduceCtorEq]
 intro vs6 U6 hN6
 refine yza (k_one code a2 s2 2 hb (by omega)) rfl qCS qCS ?_
 rintro cs' x ⟨a3,s3,b3,rfl,g5,g6,rfl⟩
 obtain ⟨A,hdj,hn6⟩:=hf
 have l1:=A.l1
 have l2:=A.l2
 have n1:=A.n1
 have n2:=A.n2
 rw [Y6] at l1 l2
 have hend:∀ (σ:St) (v2 v5:Nat) (ps:List (Nat×List Int)) (a s:Int),FLo n ps→at_≤a∧a≤at_+5000 →
   σ.keep [2,5] [2,3,5,14,19,26,28,1019,5000,901]=⟨L .any [(2,.ptr 2 v2 0),(5,.ptr 5 v5 0)],
    L .gone [(2,.box v2 [iv 0,.val (.slice none 0 0)]),(3,.gone),(5,.box v5 [iv n,.own 28 v']),(14,.gone),(19,.gone),(26,.gone),(28,.row v' 1 true (rwp ps)),(1019,.gone),(5000,.box 0 (srcC code a s)),(901,.gone)]⟩ →
   wpD Tryz.prog Bz3k Q σ:=by
  intro σ v2 v5 ps a s hf ha' hS
  unfold Bz3k
  rw [yz2,hS]
  simp only [yzr]
  intro _
  refine ⟨[],?_⟩
  simp only [yzh,yz2,yz1,go_sem,yz0,J9,J8,J6,J7,J5,J0,J1,J2,reduceIte,J3,J4,reduceCtorEq]
  intro vs U hN
  simp only [← hQ,Az9,go_sem,yz0,J9,J8,J6,J7,J5,J0,J1,J2,reduceIte,J3,J4,reduceCtorEq]
  refine ⟨[28],by simp,by simp,by simp,?_⟩
  simp only [range1,Y7,yzj,rsA,AVal.fresh,freshL,AObj.fresh,id,Y1v,go_sem,yz0,J9,J8,J6,J7,J5,J0,J1,J2,reduceIte,J3,J4,reduceCtorEq]
  exact ⟨n,ps,v',a,s,hf,ha'.1,ha'.2,rfl,by simp,rfl⟩
 cases b3 with
 | false =>
  simp only [Bz8k,yz2,yz1,go_sem,yz0,J9,J8,J6,J7,J5,J0,J1,J2,reduceIte,J3,J4,reduceCtorEq]
  exact hend _ (vs0 0 0) (vs5 2 0) ps a3 s3 (FAut.lo ⟨A,hdj,hn6⟩) (by omega) (by simp only [go_sem,yz0,J9,J8,J6,J7,J5,J0,J1,J2,reduceIte,J3,J4,reduceCtorEq];try rfl)
 | true =>
  simp only [Bz8k,yz7,yz2,yz1,go_sem,yz0,J9,J8,J6,J7,J5,J0,J1,J2,reduceIte,J3,J4,reduceCtorEq]
  intro vs7 U7 hN7 hM7
  refine yza (yz1w code a3 s3 ps.length hb (by omega)) rfl qCS qCS ?_
  rintro cs' x ⟨a4,s4,x0,rfl,g7,g8,rfl,g9,g10⟩
  have hat:x0.toNat<ps.length:=by omega
  obtain ⟨A2,b,C2,rfl,hAk⟩:=yz1c hat
  have hbr:=A.row b.2 (by simp)
  have hbn:b.2≠[]:=fun e=>by rw [e] at hbr;simp at hbr;omega
  have F0a:=yzbz hdj hbn
  simp only [Bzj5,yz2,yzr,go_sem,yz0,J9,J8,J6,J7,J5,J0,J1,J2,reduceIte,J3,J4,reduceCtorEq]
  intro _
  refine ⟨[.thaw 28 x0.toNat 901],yz4b (n:=b.1) rfl (yz65 hAk.symm) (by simpa using hbn) rfl fun m1=>?_⟩
  have hset:(woL b.1 (rwp (A2 ++ b :: C2))).set x0.toNat (AVal.own 901 m1)=rwp A2 ++ AVal.own 901 m1 :: rwp C2:=by rw [← hAk];exact yz5j F0a
  have ho1:(rwp A2 ++ AVal.own 901 m1 :: rwp C2).getD x0.toNat .any=.own 901 m1:=yzbx hAk.symm
  have hol:(rwp A2 ++ AVal.own 901 m1 :: rwp C2).length=A2.length+(C2.length+1):=by rw [Y5,Ye,yz7,yz7]
  have hkl:x0.toNat<(rwp A2 ++ AVal.own 901 m1 :: rwp C2).length:=by omega
  simp only [hset,woT,woO,yz1y,yz3q,yz3p,yz3o,yz7i,wo_o,yz27,wo_st,yz3l,yz3n,yz2b,yz7w,yzh,yz2,yz1,go_sem,yz0,J9,J8,J6,J7,J5,J0,J1,J2,reduceIte,J3,J4,reduceCtorEq]
  intro vs8 U8 hN8
  simp only [ho1,go_sem,yz0,J9,J8,J6,J7,J5,J0,J1,J2,reduceIte,J3,J4,reduceCtorEq]
  refine ⟨⟨g9,hkl⟩,hkl,?_⟩
  refine yz5a (yz1w code a4 s4 n hb (by omega)) rfl (by simp) qCS qCS ⟨srcC code a4 0,.int .i64 0,⟨a4,0,0,rfl,by omega,by omega,rfl,by omega,.inr rfl⟩,yz1v⟩ ?_
  rintro cs' x ⟨a5,s5,y1,rfl,p1,p2,rfl,p3,p4⟩
  have hy1:y1.toNat<b.2.length:=by omega
  simp only [ho1,yz2,yz1,go_sem,yz0,J9,J8,J6,J7,J5,J0,J1,J2,reduceIte,J3,J4,reduceCtorEq]
  refine ⟨⟨g9,hkl⟩,hkl,?_⟩
  refine yz5a (yz1w code a5 s5 n hb (by omega)) rfl (by simp) qCS qCS ⟨srcC code a5 0,.int .i64 0,⟨a5,0,0,rfl,by omega,by omega,rfl,by omega,.inr rfl⟩,yz1v⟩ ?_
  rintro cs' x ⟨a6,s6,y2,rfl,p5,p6,rfl,p7,p8⟩
  have hy2:y2.toNat<b.2.length:=by omega
  simp only [yz3 hy2,yz2,yz1,go_sem,yz0,J9,J8,J6,J7,J5,J0,J1,J2,reduceIte,J3,J4,reduceCtorEq]
  refine ⟨⟨p7,hy2⟩,hy2,⟨p3,hy1⟩,hy1,?_⟩
  have hcl:=yzfl (xs:=b.2) (v:=b.2.getD y2.toNat 0) hy1
  have hcm:=yze8 (xs:=b.2) (i:=y1.toNat) (v:=b.2.getD y2.toNat 0) (Q:=fun z=>0≤z∧z<n) hbr.2 (hbr.2 _ (yz4 hy2 0))
  simp only [yzeb]
  generalize hcu:b.2.take y1.toNat ++ [b.2.getD y2.toNat 0] ++ b.2.drop (y1.toNat+1)=cur at hcl hcm ⊢
  simp only [Bz3k,yz2,yzr,go_sem,yz0,J9,J8,J6,J7,J5,J0,J1,J2,reduceIte,J3,J4,reduceCtorEq]
  intro hD
  refine ⟨[.rf 28 x0.toNat 901],yzf7 (k:=1) (nn:=true) rfl (yz5g hAk.symm) (by decide) rfl fun hf=>?_⟩
  have D1:=yz2f hdj hf (cur:=cur)
  have A1:=Aut_put A (u:=m1) hcl hcm
  have hset4:∀ X:AVal,(rwp A2 ++ AVal.own 901 m1 :: rwp C2).set x0.toNat X=rwp A2 ++ X :: rwp C2:=fun X=>by
   rw [← hAk,List.set_append_right _ _ (by rw [yz7];exact Y1h _),yz7,Y1l];rfl
  simp only [hset4,yz99,yz5l,yzh,yz2,yz1,go_sem,yz0,J9,J8,J6,J7,J5,J0,J1,J2,reduceIte,J3,J4,reduceCtorEq]
  intro vs9 U9 hN9
  simp only [← hQ,Az9,go_sem,yz0,J9,J8,J6,J7,J5,J0,J1,J2,reduceIte,J3,J4,reduceCtorEq]
  refine ⟨[28],by simp,by simp,by simp,?_⟩
  simp only [range1,Y7,yzj,rsA,AVal.fresh,freshL,AObj.fresh,id,Y1v,go_sem,yz0,J9,J8,J6,J7,J5,J0,J1,J2,reduceIte,J3,J4,reduceCtorEq]
  exact ⟨n,A2 ++ (m1,cur) :: C2,v',a6,s6,FAut.lo ⟨A1,D1,hn6⟩,by omega,by omega,rfl,by simp,rfl⟩
theorem yzbl (code:List Int) (at_ seed:Int) (hb:∀ x∈code,0≤x∧x≤255) (ha:0≤at_∧at_≤1000) :
  Con Tryz.prog nz1m [.box 0 (srcC code at_ seed)] [.ptr 5000 0 0] true fun outs rows res=>∃ n ps v a' s',FLo n ps∧at_≤a'∧a'≤at_+6000∧outs=[.box 0 (srcC code a' s')]∧rows=[.row v 1 true (rwp ps)]∧res=.st [iv n,.own 6000 v]:=by
 refine yz38 mixed czrp rfl (by simp) ?_
 generalize hQ:finQ _=Q
 simp only [Az2t,Bzek,yz2,yz1,go_sem,yz0,J9,J8,J6,J7,J5,J0,J1,J2,reduceIte,J3,J4,reduceCtorEq]
 intro vs0 U0 hN0 vs1 U1 hN1
 refine yzds (k:=5000) FLo_ren (yzel code at_ seed hb (by omega)) rfl (fun x y e=>(hN1.inj _ _ _ _ e).2) (hN1.box (r:=5000) rfl 1) qCS qGN ?_
 intro n ps v' a1 s1 hf h1 h2
 have hend:∀ (σ:St) (v2 v3:Nat) (a s:Int),at_≤a∧a≤at_+6000 →
   σ.keep [2,3] [2,3,6,5000,901]=⟨L .any [(2,.ptr 2 v2 0),(3,.ptr 3 v3 0)],
    L .gone [(2,.box v2 [iv 0,.val (.slice none 0 0)]),(3,.box v3 [iv n,.own 6 v']),(6,.row v' 1 true (rwp ps)),(5000,.box 0 (srcC code a s)),(901,.gone)]⟩ →
   wpD Tryz.prog Bz2s Q σ:=by
  intro σ v2 v3 a s ha' hS
  unfold Bz2s
  rw [yz2,hS]
  simp only [yzr]
  intro _
  refine ⟨[],?_⟩
  simp only [yzh,yz2,yz1,go_sem,yz0,J9,J8,J6,J7,J5,J0,J1,J2,reduceIte,J3,J4,reduceCtorEq]
  intro vs U hN
  simp only [← hQ,Az2t,go_sem,yz0,J9,J8,J6,J7,J5,J0,J1,J2,reduceIte,J3,J4,reduceCtorEq]
  refine ⟨[6],by simp,by simp,by simp,?_⟩
  simp only [range1,Y7,yzj,rsA,AVal.fresh,freshL,AObj.fresh,id,Y1v,go_sem,yz0,J9,J8,J6,J7,J5,J0,J1,J2,reduceIte,J3,J4,reduceCtorEq]
  exact ⟨n,ps,v',a,s,hf,ha'.1,ha'.2,rfl,by simp,rfl⟩
 simp only [Bzej,yz2,yz1,go_sem,yz0,J9,J8,J6,J7,J5,J0,J1,J2,reduceIte,J3,J4,reduceCtorEq]
 intro vs2 U2 hN2
 refine yz5 (yzf4 n (ps.map (·.2))) (by simp only [yz76,csA,rowIs,boxIs,J3,ne_eq,reduceCtorEq,exists_eq_left,exists_eq_right,Y8,Yi,exists_eq_left',exists_and_left,exists_eq,Y1,Yb,AObj.ver,J5]) trivial ?_
 cases hA:autB n (ps.map (·.2)) with
 | false =>
  simp only [Bz2r,yz2,yz1,go_sem,yz0,J9,J8,J6,J7,J5,J0,J1,J2,reduceIte,J3,J4,reduceCtorEq]
  exact hend _ (vs0 0 0) (vs1 2 0) a1 s1 (by omega) (by simp only [go_sem,yz0,J9,J8,J6,J7,J5,J0,J1,J2,reduceIte,J3,J4,reduceCtorEq];try rfl)
 | true =>
  have A:=autB_iff.1 hA
  have n1:=A.n1
  have n2:=A.n2
  have l1:=A.l1
  have l2:=A.l2
  rw [Y6] at l1 l2
  have hdj:DJ ps:=hf.1 l2
  simp only [yz2,yz1,go_sem,yz0,J9,J8,J6,J7,J5,J0,J1,J2,reduceIte,J3,J4,reduceCtorEq]
  refine yza (k_one code a1 s1 4 hb (by omega)) rfl qCS qCS ?_
  rintro cs' x ⟨a2,s2,b2,rfl,g1,g2,rfl⟩
  cases b2 with
  | true =>
   simp only [Bz2r,Y21,yz2,yz1,go_sem,yz0,J9,J8,J6,J7,J5,J0,J1,J2,reduceIte,J3,J4,reduceCtorEq]
   exact hend _ (vs0 0 0) (vs1 2 0) a2 s2 (by omega) (by simp only [go_sem,yz0,J9,J8,J6,J7,J5,J0,J1,J2,reduceIte,J3,J4,reduceCtorEq];try rfl)
  | false =>
   obtain ⟨A2,b,C2,rfl,hAk⟩:=yz1c (show 0<ps.length by omega)
   have hbr:=A.row b.2 (by simp)
   have hbn:b.2≠[]:=fun e=>by rw [e] at hbr;simp at hbr;omega
   have F0a:=yzbz hdj hbn
   simp only [Bz2r,Bool.not_false,yz2,yz1,go_sem,yz0,J9,J8,J6,J7,J5,J0,J1,J2,reduceIte,J3,J4,reduceCtorEq]
   intro vs3 U3 hN3
   simp only [Bzei,yz2,yzr,go_sem,yz0,J9,J8,J6,J7,J5,J0,J1,J2,reduceIte,J3,J4,reduceCtorEq]
   intro _
   refine ⟨[.thaw 6 0 901],yz4b (n:=b.1) rfl (yz65 hAk.symm) (by simpa using hbn) rfl fun m1=>?_⟩
   have hset:(woL b.1 (rwp (A2 ++ b :: C2))).set 0 (AVal.own 901 m1)=rwp A2 ++ AVal.own 901 m1 :: rwp C2:=by rw [← hAk];exact yz5j F0a
   have ho1:(rwp A2 ++ AVal.own 901 m1 :: rwp C2).getD 0 .any=.own 901 m1:=yzbx hAk.symm
   have hol:(rwp A2 ++ AVal.own 901 m1 :: rwp C2).length=A2.length+(C2.length+1):=by rw [Y5,Ye,yz7,yz7]
   have hkl:0<(rwp A2 ++ AVal.own 901 m1 :: rwp C2).length:=by omega
   simp only [hset,woT,woO,yz1y,yz3q,yz3p,yz3o,yz7i,wo_o,yz27,wo_st,yz3l,yz3n,yz2b,yz7w,yzh,yz2,yz1,go_sem,yz0,J9,J8,J6,J7,J5,J0,J1,J2,reduceIte,J3,J4,reduceCtorEq]
   refine yz16 (fun (x:Nat×List Int)=>n.toNat - x.1) (fun x=>(x.1:Int)≤n∧x.2.length=b.2.length∧∀ z∈x.2,0≤z∧z<n)
    (fun (x:Nat×List Int)=>⟨L .any [(2,.ptr 2 (vs0 0 0) 0),(3,.ptr 3 (vs1 2 0) 0),(4,iv x.1)],
     L .gone [(2,.box (vs0 0 0) [iv 0,.val (.slice none 0 0)]),(3,.box (vs1 2 0) [iv n,.own 6 v']),(6,.row v' 1 true (rwp A2 ++ .own 901 m1 :: rwp C2)),(5000,.box 0 (srcC code a2 s2)),(901,.row m1 1 true (ints x.2))]⟩)
    (0,b.2) ⟨by simp;omega,rfl,hbr.2⟩ (by simp only [Bz2q,go_sem,yz0,J9,J8,J6,J7,J5,J0,J1,J2,reduceIte,J3,J4,reduceCtorEq];try rfl) ?_
   rintro ⟨i,cur⟩ ⟨h3,h4,h5⟩
   have h3:(i:Int)≤n:=h3
   have h4:cur.length=b.2.length:=h4
   have h5:∀ z∈cur,0≤z∧z<n:=h5
   by_cases hlt:(i:Int)<n
   ·have w1:IntKind.i64.wrap ((i:Int)+1)=((i+1:Nat):Int):=by rw [w64 (by omega)];simp
    have hn0:¬ n=0:=by omega
    have hil:i<cur.length:=by omega
    have t1:=yzb5 (a:=((i+1:Nat):Int)) (n:=n) (by omega) (by omega)
    simp only [Bz2q,Bz79,Bzeh,decide_eq_true hlt,yz2,yz1,go_sem,yz0,J9,J8,J6,J7,J5,J0,J1,J2,reduceIte,J3,J4,reduceCtorEq]
    intro vs4 U4 hN4 vs5 U5 hN5
    simp only [ho1,w1,hn0,go_sem,yz0,J9,J8,J6,J7,J5,J0,J1,J2,reduceIte,J3,J4,reduceCtorEq]
    refine ⟨hkl,hkl,⟨by omega,hil⟩,by omega,?_⟩
    have hcl:=yzfl (xs:=cur) (v:=((i+1:Nat):Int).tmod n) hil
    have hcm:=yze8 (xs:=cur) (i:=i) (v:=((i+1:Nat):Int).tmod n) (Q:=fun z=>0≤z∧z<n) h5 t1
    simp only [yzeb]
    generalize hcu:cur.take i ++ [((i+1:Nat):Int).tmod n] ++ cur.drop (i+1)=cur2 at hcl hcm ⊢
    simp only [Bzeg,w1,yz2,yz1,go_sem,yz0,J9,J8,J6,J7,J5,J0,J1,J2,reduceIte,J3,J4,reduceCtorEq]
    intro vs6 U6 hN6
    exact ⟨(i+1,cur2),by dsimp only;omega,⟨by dsimp only;omega,by dsimp only;omega,hcm⟩,rfl⟩
   ·simp only [Bz2q,Bz79,Bz2s,decide_eq_false hlt,yz2,yz1,yzr,go_sem,yz0,J9,J8,J6,J7,J5,J0,J1,J2,reduceIte,J3,J4,reduceCtorEq]
    intro vs4 U4 hN4 hD
    refine ⟨[.rf 6 0 901],yzf7 (k:=1) (nn:=true) rfl (yz5g hAk.symm) (by decide) rfl fun hf2=>?_⟩
    have D1:=yz2f hdj hf2 (cur:=cur)
    have A1:=Aut_put A (u:=m1) h4 h5
    have hset4:∀ X:AVal,(rwp A2 ++ AVal.own 901 m1 :: rwp C2).set 0 X=rwp A2 ++ X :: rwp C2:=fun X=>by
     rw [← hAk,List.set_append_right _ _ (by rw [yz7];exact Y1h _),yz7,Y1l];rfl
    simp only [hset4,yz99,yz5l,yzh,yz2,yz1,go_sem,yz0,J9,J8,J6,J7,J5,J0,J1,J2,reduceIte,J3,J4,reduceCtorEq]
    intro vs9 U9 hN9
    simp only [← hQ,Az2t,go_sem,yz0,J9,J8,J6,J7,J5,J0,J1,J2,reduceIte,J3,J4,reduceCtorEq]
    refine ⟨[6],by simp,by simp,by simp,?_⟩
    simp only [range1,Y7,yzj,rsA,AVal.fresh,freshL,AObj.fresh,id,Y1v,go_sem,yz0,J9,J8,J6,J7,J5,J0,J1,J2,reduceIte,J3,J4,reduceCtorEq]
    exact ⟨n,A2 ++ (m1,cur) :: C2,v',a2,s2,FAut.lo (m:=10) ⟨A1,D1,by omega⟩,by omega,by omega,rfl,by simp,rfl⟩
theorem yz7k (code:List Int) (hb:∀ x∈code,0≤x∧x≤255) :
  Con Tryz.prog nz50 [] [.ro (some (some 0)) 1 (intsK .u8 code)] true fun outs rows res=>outs=[]∧∃ n next v,Aut n next∧n≤7∧rows=[.row v 1 true (rws next)]∧res=.st [iv n,.own 6000 v]:=by
 refine yz38 mixed czrh rfl (by simp) ?_
 generalize hQ:finQ _=Q
 simp only [Azt,Bzct,go_sem,yz0,J9,J8,J6,J7,J5,J0,J1,J2,reduceIte,J3,J4,reduceCtorEq]
 intro vs0 vs1
 refine yz4o (k_from code) qCS (fun e=>by cases e) ?_
 rintro outs rows res ⟨rfl,v,rfl,rfl⟩
 refine ⟨rfl,by simp,by rw [Y1x,yzw];rfl,?_⟩
 simp only [Bzcs,rsA,AVal.fresh,freshL,AObj.fresh,id,Y1v,go_sem,yz0,J9,J8,J6,J7,J5,J0,J1,J2,reduceIte,J3,J4,reduceCtorEq]
 intro vs2
 have h:Con Tryz.prog nz1m [.box 0 (srcC code 0 0)] [.ptr 5000 0 0] true fun outs rows res=>∃ n next v a' s',outs=[.box 0 (srcC code a' s')]∧rows=[.row v 1 true (rws next)]∧res=.st [iv n,.own 6000 v]:=by
  refine Con.dnr (yzbl code 0 0 hb (by omega)) ?_
  rintro o r x ⟨n,ps,v,a',s',hf,h1,h2,rfl,rfl,rfl⟩
  refine ⟨n,ps.map (·.2),v,a',s',?_,?_,?_⟩
  ·simp only [Y1,Yb,AObj.dn,dnL,AVal.dn,yzdw,dnNm]
  ·simp only [Y1,Yb,AObj.dn,yzaf]
  ·simp only [AVal.dn,dnL]
 refine yz3e (r:=6) h rfl (by simp only [Y21,csA,rowIs,boxIs,J3,ne_eq,reduceCtorEq,exists_eq_left,exists_eq_right,Y8,Yi,exists_eq_left',exists_and_left,exists_eq,Y1,Yb,AObj.ver,J5]) (by simp only [Y21,csA,rowIs,boxIs,J3,ne_eq,reduceCtorEq,exists_eq_left,exists_eq_right,Y8,Yi,exists_eq_left',exists_and_left,exists_eq,Y1,Yb,AObj.ver,J5]) ?_
 rintro outs rows res ⟨n,next,v',a',s',rfl,rfl,rfl⟩
 refine ⟨rfl,by simp,by rw [Y1x,yzw];simp only [go_sem,yz0,J9,J8,J6,J7,J5,J0,J1,J2,reduceIte,J3,J4,reduceCtorEq],?_⟩
 rw [Y1x,yz32 (by omega)]
 have hslow:Con Tryz.prog nzp [] [iv 4] true fun outs rows res=>outs=[]∧∃ next v,Aut 4 next∧rows=[.row v 1 true (rws next)]∧res=.st [iv 4,.own 6000 v]:=by
  refine Con.dnr (yz89 4 (by omega)) ?_
  rintro o r x ⟨rfl,v,ps,hA,hd,rfl,rfl⟩
  refine ⟨rfl,ps.map (·.2),v,hA,?_,?_⟩
  ·simp only [Y1,Yb,AObj.dn,yzaf]
  ·simp only [AVal.dn,dnL]
 simp only [Bzcr,rsA,AVal.fresh,freshL,AObj.fresh,id,Y1v,go_sem,yz0,J9,J8,J6,J7,J5,J0,J1,J2,reduceIte,J3,J4,reduceCtorEq]
 intro vs3
 refine yz5 (yzf4 n next) qCS trivial ?_
 cases hA:autB n next with
 | false =>
  simp only [Bz2g,Bz6h,go_sem,yz0,J9,J8,J6,J7,J5,J0,J1,J2,reduceIte,J3,J4,reduceCtorEq]
  intro vs5
  refine yz4o hslow qCS (fun e=>by cases e) ?_
  rintro outs rows res ⟨rfl,next2,v2,A2,rfl,rfl⟩
  refine ⟨rfl,by simp,by rw [Y1x,yzw];simp only [go_sem,yz0,J9,J8,J6,J7,J5,J0,J1,J2,reduceIte,J3,J4,reduceCtorEq],?_⟩
  simp only [← hQ,Azt,yzi,rsA,AVal.fresh,freshL,AObj.fresh,id,Y1v,go_sem,yz0,J9,J8,J6,J7,J5,J0,J1,J2,reduceIte,J3,J4,reduceCtorEq]
  refine ⟨[16],by simp,by simp,by simp,?_⟩
  simp only [rsA,AVal.fresh,freshL,AObj.fresh,id,Y1v,go_sem,yz0,J9,J8,J6,J7,J5,J0,J1,J2,reduceIte,J3,J4,reduceCtorEq]
  exact ⟨4,next2,_,A2,by omega,rfl,rfl⟩
 | true =>
  have A:=autB_iff.1 hA
  by_cases h7:n≤7
  ·simp only [decide_eq_true h7,Bz2g,← hQ,Azt,yzi,go_sem,yz0,J9,J8,J6,J7,J5,J0,J1,J2,reduceIte,J3,J4,reduceCtorEq]
   refine ⟨[8],by simp,by simp,by simp,?_⟩
   simp only [rsA,AVal.fresh,freshL,AObj.fresh,id,Y1v,go_sem,yz0,J9,J8,J6,J7,J5,J0,J1,J2,reduceIte,J3,J4,reduceCtorEq]
   exact ⟨n,next,_,A,h7,rfl,rfl⟩
  ·simp only [Bz2g,Bz6h,decide_eq_false h7,go_sem,yz0,J9,J8,J6,J7,J5,J0,J1,J2,reduceIte,J3,J4,reduceCtorEq]
   intro vs5
   refine yz4o hslow qCS (fun e=>by cases e) ?_
   rintro outs rows res ⟨rfl,next2,v2,A2,rfl,rfl⟩
   refine ⟨rfl,by simp,by rw [Y1x,yzw];simp only [go_sem,yz0,J9,J8,J6,J7,J5,J0,J1,J2,reduceIte,J3,J4,reduceCtorEq],?_⟩
   simp only [← hQ,Azt,yzi,rsA,AVal.fresh,freshL,AObj.fresh,id,Y1v,go_sem,yz0,J9,J8,J6,J7,J5,J0,J1,J2,reduceIte,J3,J4,reduceCtorEq]
   refine ⟨[16],by simp,by simp,by simp,?_⟩
   simp only [rsA,AVal.fresh,freshL,AObj.fresh,id,Y1v,go_sem,yz0,J9,J8,J6,J7,J5,J0,J1,J2,reduceIte,J3,J4,reduceCtorEq]
   exact ⟨4,next2,_,A2,by omega,rfl,rfl⟩
end Go.Ab
namespace Go.Ab
def sgn (j:Nat):Int:=if j % 2=0 then 1 else -1
theorem sgn_succ {j:Nat}:sgn (j+1)=- sgn j:=by
 unfold sgn
 split <;> split <;> omega
def skp (j k:Nat):Nat:=if k<j then k else k+1
def sumN:Nat→(Nat→Int)→Int
 | 0,_=>0
 | n+1,f=>sumN n f+f n
theorem yz1s {f g:Nat→Int}:∀ {n:Nat},(∀ i<n,f i=g i)→sumN n f=sumN n g
 | 0,_=>rfl
 | n+1,h=>by
  show sumN n f+f n=sumN n g+g n
  rw [yz1s fun i hi=>h i (by omega),h n (by omega)]
theorem yz1i {f:Nat→Int}:∀ {n:Nat},(∀ i<n,f i=0)→sumN n f=0
 | 0,_=>rfl
 | n+1,h=>by
  show sumN n f+f n=0
  rw [yz1i fun i hi=>h i (by omega),h n (by omega)];rfl
theorem yz2n {a b:Int} {f g:Nat→Int}:∀ {n:Nat},sumN n (fun i=>a * f i+b * g i)=a * sumN n f+b * sumN n g
 | 0=>by simp [sumN]
 | n+1=>by
  show sumN n (fun i=>a * f i+b * g i)+(a * f n+b * g n)=a * (sumN n f+f n)+b * (sumN n g+g n)
  rw [yz2n];grind
theorem yz8w {f g:Nat→Int} {n:Nat}:sumN n (fun i=>f i+g i)=sumN n f+sumN n g:=by
 have:=yz2n (a:=1) (b:=1) (f:=f) (g:=g) (n:=n)
 simpa using this
theorem sumN_mul {a:Int} {f:Nat→Int} {n:Nat}:sumN n (fun i=>a * f i)=a * sumN n f:=by
 have:=yz2n (a:=a) (b:=0) (f:=f) (g:=f) (n:=n)
 simpa using this
def det:Nat→(Nat→Nat→Int)→Int
 | 0,_=>1
 | n+1,A=>sumN (n+1) fun j=>sgn j * A 0 j * det n fun i k=>A (i+1) (skp j k)
theorem yz8l {j k n:Nat} (hk:k<n) (hj:j<n+1):skp j k<n+1:=by unfold skp;split <;> omega
theorem yz2h:∀ {n:Nat} {A B:Nat→Nat→Int},(∀ i<n,∀ j<n,A i j=B i j)→det n A=det n B
 | 0,_,_,_=>rfl
 | n+1,A,B,h=>by
  unfold det
  refine yz1s fun j hj=>?_
  rw [h 0 (by omega) j hj,yz2h fun i hi k hk=>h (i+1) (by omega) (skp j k) (yz8l hk hj)]
theorem yz81:∀ {n r:Nat} {A B C:Nat→Nat→Int} {a b:Int},r<n→(∀ i<n,i≠r→∀ j<n,A i j=C i j∧B i j=C i j)→(∀ j<n,C r j=a * A r j+b * B r j)→det n C=a * det n A+b * det n B
 | n+1,0,A,B,C,a,b,_,h,hr=>by
  unfold det
  rw [← yz2n]
  refine yz1s fun j hj=>?_
  rw [hr j hj,yz2h (A:=fun i k=>C (i+1) (skp j k)) (B:=fun i k=>A (i+1) (skp j k)) fun i hi k hk=>((h (i+1) (by omega) (by omega) _ (yz8l hk hj)).1).symm,
   yz2h (A:=fun i k=>B (i+1) (skp j k)) (B:=fun i k=>A (i+1) (skp j k)) fun i hi k hk=>by have:=h (i+1) (by omega) (by omega) _ (yz8l hk hj);rw [this.1,this.2]]
  grind
 | n+1,r+1,A,B,C,a,b,hlt,h,hr=>by
  unfold det
  rw [← yz2n]
  refine yz1s fun j hj=>?_
  have h0:=h 0 (by omega) (by omega) j hj
  rw [yz81 (n:=n) (r:=r) (A:=fun i k=>A (i+1) (skp j k)) (B:=fun i k=>B (i+1) (skp j k)) (C:=fun i k=>C (i+1) (skp j k)) (a:=a) (b:=b) (by omega)
   (fun i hi hne k hk=>h (i+1) (by omega) (by omega) _ (yz8l hk hj)) (fun k hk=>hr _ (yz8l hk hj)),h0.1,h0.2]
  grind
theorem yzda {T:Nat→Nat→Int}:∀ N,sumN (N+1) (fun j=>sumN N fun k=>T j k)=sumN (N+1) fun j=>sumN j fun k=>T j k+T k (j - 1)
 | 0=>rfl
 | N+1=>by
  have ih:=yzda (T:=T) N
  have e1:sumN (N+1) (fun j=>sumN (N+1) fun k=>T j k)=sumN (N+1) (fun j=>sumN N fun k=>T j k)+sumN (N+1) fun j=>T j N:=by
   rw [← yz8w];rfl
  show sumN (N+1) (fun j=>sumN (N+1) fun k=>T j k)+sumN (N+1) (fun k=>T (N+1) k)=sumN (N+1) (fun j=>sumN j fun k=>T j k+T k (j - 1))+sumN (N+1) fun k=>T (N+1) k+T k (N+1 - 1)
  rw [e1,ih,yz8w (f:=fun k=>T (N+1) k),Nat.add_sub_cancel]
  omega
theorem skp_skp {j k l:Nat} (h:k<j):skp j (skp k l)=skp k (skp (j - 1) l):=by
 unfold skp
 split <;> split <;> split <;> (try split) <;> omega
theorem det_two {n:Nat} {A:Nat→Nat→Int} (h:∀ j<n+2,A 0 j=A 1 j):det (n+2) A=0:=by
 have e:det (n+2) A=sumN (n+2) fun j=>sumN (n+1) fun k=>sgn j * A 0 j * (sgn k * A 1 (skp j k) * det n fun i l=>A (i+2) (skp j (skp k l))):=by
  show sumN (n+2) _=_
  refine yz1s fun j hj=>?_
  show sgn j * A 0 j * sumN (n+1) _=_
  exact sumN_mul.symm
 rw [e,yzda (T:=fun j k=>sgn j * A 0 j * (sgn k * A 1 (skp j k) * det n fun i l=>A (i+2) (skp j (skp k l)))) (n+1)]
 refine yz1i fun j hj=>yz1i fun k hk=>?_
 obtain ⟨q,rfl⟩:∃ q,j=q+1:=⟨j - 1,by omega⟩
 have s1:skp (q+1) k=k:=by unfold skp;rw [if_pos hk]
 have s2:skp k (q+1 - 1)=q+1:=by unfold skp;rw [Nat.add_sub_cancel,if_neg (by omega)]
 have s3:(fun i l=>A (i+2) (skp k (skp (q+1 - 1) l)))=fun i l=>A (i+2) (skp (q+1) (skp k l)):=by
  funext i l;rw [skp_skp hk]
 rw [s1,s2,s3,h k (by omega),← h (q+1) hj,sgn_succ,Nat.add_sub_cancel]
 generalize det n _=d
 grind
theorem yz4w:∀ {n r:Nat} {A:Nat→Nat→Int},r+1<n→(∀ j<n,A r j=A (r+1) j)→det n A=0
 | n+2,0,A,_,h=>det_two h
 | n+1,r+1,A,hr,h=>by
  unfold det
  refine yz1i fun j hj=>?_
  rw [yz4w (n:=n) (r:=r) (A:=fun i k=>A (i+1) (skp j k)) (by omega) fun k hk=>h _ (yz8l hk hj),Int.mul_zero]
 | 0,_,_,h,_=>by omega
 | 1,0,_,h,_=>by omega
theorem dt_swap {n r:Nat} {A:Nat→Nat→Int} (hr:r+1<n):det n (fun i j=>A (if i=r then r+1 else if i=r+1 then r else i) j)=- det n A:=by
 have z:=yz4w (n:=n) (r:=r) (A:=fun i j=>if i=r∨i=r+1 then A r j+A (r+1) j else A i j) hr (fun j _=>by simp)
 have e1:=yz81 (n:=n) (r:=r) (A:=fun i j=>if i=r then A r j else if i=r+1 then A r j+A (r+1) j else A i j) (B:=fun i j=>if i=r then A (r+1) j else if i=r+1 then A r j+A (r+1) j else A i j)
  (C:=fun i j=>if i=r∨i=r+1 then A r j+A (r+1) j else A i j) (a:=1) (b:=1) (by omega) (fun i _ hne j _=>by simp [hne]) (fun j _=>by simp)
 have e2:=yz81 (n:=n) (r:=r+1) (A:=fun i j=>if i=r then A r j else if i=r+1 then A r j else A i j) (B:=A)
  (C:=fun i j=>if i=r then A r j else if i=r+1 then A r j+A (r+1) j else A i j) (a:=1) (b:=1) hr (fun i _ hne j _=>by by_cases h:i=r <;> simp [h,hne]) (fun j _=>by simp)
 have e3:=yz81 (n:=n) (r:=r+1) (A:=fun i j=>A (if i=r then r+1 else if i=r+1 then r else i) j) (B:=fun i j=>if i=r then A (r+1) j else if i=r+1 then A (r+1) j else A i j)
  (C:=fun i j=>if i=r then A (r+1) j else if i=r+1 then A r j+A (r+1) j else A i j) (a:=1) (b:=1) hr (fun i _ hne j _=>by by_cases h:i=r <;> simp [h,hne]) (fun j _=>by simp)
 have z1:=yz4w (n:=n) (r:=r) (A:=fun i j=>if i=r then A r j else if i=r+1 then A r j else A i j) hr (fun j _=>by simp)
 have z2:=yz4w (n:=n) (r:=r) (A:=fun i j=>if i=r then A (r+1) j else if i=r+1 then A (r+1) j else A i j) hr (fun j _=>by simp)
 omega
theorem det_eq0:∀ {r n:Nat} {A:Nat→Nat→Int},r+1<n→(∀ j<n,A 0 j=A (r+1) j)→det n A=0
 | 0,n,A,hr,h=>yz4w hr h
 | r+1,n,A,hr,h=>by
  have e:=dt_swap (n:=n) (r:=r+1) (A:=A) hr
  rw [det_eq0 (r:=r) (n:=n) (A:=fun i j=>A (if i=r+1 then r+1+1 else if i=r+1+1 then r+1 else i) j) (by omega) (fun j hj=>by simpa using h j hj)] at e
  omega
theorem yzet {n r:Nat} {A C:Nat→Nat→Int} {a b:Int} (hr:r+1<n) (h:∀ i<n,i≠r+1→∀ j<n,C i j=A i j) (hc:∀ j<n,C (r+1) j=a * A (r+1) j+b * A 0 j):det n C=a * det n A:=by
 have e:=yz81 (n:=n) (r:=r+1) (A:=A) (B:=fun i j=>if i=r+1 then A 0 j else A i j) (C:=C) (a:=a) (b:=b) hr (fun i hi hne j hj=>⟨(h i hi hne j hj).symm,by rw [if_neg hne];exact (h i hi hne j hj).symm⟩) (fun j hj=>by rw [hc j hj,if_pos rfl])
 rw [det_eq0 (r:=r) (n:=n) (A:=fun i j=>if i=r+1 then A 0 j else A i j) hr (fun j _=>by simp)] at e
 rw [e,Int.mul_zero,Int.add_zero]
theorem yze3:∀ {n:Nat} {A:Nat→Nat→Int},(∀ i<n+1,A i 0=0)→det (n+1) A=0
 | 0,A,h=>by
  show sumN 1 _=0
  refine yz1i fun j hj=>?_
  obtain rfl:j=0:=by omega
  rw [h 0 (by omega)];simp
 | n+1,A,h=>by
  show sumN (n+2) _=0
  refine yz1i fun j hj=>?_
  by_cases e:j=0
  ·subst e;rw [h 0 (by omega)];simp
  ·rw [yze3 (n:=n) (A:=fun i k=>A (i+1) (skp j k)) fun i hi=>by
    show A (i+1) (skp j 0)=0
    have:skp j 0=0:=by unfold skp;rw [if_pos (by omega)]
    rw [this];exact h (i+1) (by omega),Int.mul_zero]
theorem det_first {n:Nat} {E:Nat→Nat→Int} (h:∀ j<n+1,j≠0→det n (fun i k=>E (i+1) (skp j k))=0):det (n+1) E=E 0 0 * det n fun i k=>E (i+1) (skp 0 k):=by
 have key:∀ m,m≤n→sumN (m+1) (fun j=>sgn j * E 0 j * det n fun i k=>E (i+1) (skp j k))=E 0 0 * det n fun i k=>E (i+1) (skp 0 k):=fun m=>by
  induction m with
  | zero =>
   intro _
   show 0+sgn 0 * E 0 0 * (det n fun i k=>E (i+1) (skp 0 k))=_
   simp [sgn]
  | succ m ih =>
   intro hm
   show sumN (m+1) _+sgn (m+1) * E 0 (m+1) * (det n fun i k=>E (i+1) (skp (m+1) k))=_
   rw [ih (by omega),h (m+1) (by omega) (by omega),Int.mul_zero,Int.add_zero]
 exact key n (Y1h _)
def chio (A:Nat→Nat→Int) (i j:Nat):Int:=A 0 0 * A (i+1) (j+1) - A (i+1) 0 * A 0 (j+1)
theorem det_chio {n:Nat} {A:Nat→Nat→Int}:A 0 0 ^ n * det (n+1) A=A 0 0 * det n (chio A):=by
 have step:∀ m,m≤n→det (n+1) (fun i j=>if i=0∨m<i then A i j else A 0 0 * A i j - A i 0 * A 0 j)=A 0 0 ^ m * det (n+1) A:=fun m=>by
  induction m with
  | zero =>
   intro _
   rw [Int.pow_zero,Int.one_mul]
   refine yz2h fun i _ j _=>?_
   by_cases h:i=0
   ·rw [if_pos (.inl h)]
   ·rw [if_pos (.inr (by omega))]
  | succ m ih =>
   intro hm
   rw [Int.pow_succ,Int.mul_comm (A 0 0 ^ m),Int.mul_assoc,← ih (by omega)]
   refine yzet (r:=m) (b:=- A (m+1) 0) (by omega) (fun i _ hne j _=>?_) (fun j _=>?_)
   ·by_cases h:i=0
    ·rw [if_pos (.inl h),if_pos (.inl h)]
    ·by_cases h2:m<i
     ·rw [if_pos (.inr (by omega)),if_pos (.inr h2)]
     ·rw [if_neg (by omega),if_neg (by omega)]
   ·rw [if_neg (by omega),if_pos (.inr (by omega)),if_pos (.inl rfl)]
    grind
 rw [← step n (Y1h _),det_first fun j hj hne=>?_]
 ·rw [if_pos (.inl rfl)]
  congr 1
  refine yz2h fun i hi k hk=>?_
  have:skp 0 k=k+1:=by unfold skp;rw [if_neg (by omega)]
  rw [this,if_neg (by omega)];rfl
 ·obtain ⟨q,rfl⟩:∃ q,n=q+1:=⟨n - 1,by omega⟩
  refine yze3 fun i hi=>?_
  have:skp j 0=0:=by unfold skp;rw [if_pos (by omega)]
  rw [this,if_neg (by omega)]
  grind
def bd (A:Nat→Nat→Int) (k i j:Nat):Int:=det (k+1) fun a b=>A (if a<k then a else i) (if b<k then b else j)
theorem yz2t {A:Nat→Nat→Int} {i j:Nat}:bd A 0 i j=A i j:=by
 show 0+sgn 0 * A _ _ * 1=_
 simp [sgn]
theorem yz4d {A:Nat→Nat→Int} {k i j:Nat} (h:A 0 0≠0):A 0 0 ^ k * bd A (k+1) (i+1) (j+1)=bd (chio A) k i j:=by
 have e:=det_chio (n:=k+1) (A:=fun a b=>A (if a<k+1 then a else i+1) (if b<k+1 then b else j+1))
 rw [if_pos (show 0<k+1 by omega),if_pos (show 0<k+1 by omega)] at e
 have e2:det (k+1) (chio fun a b=>A (if a<k+1 then a else i+1) (if b<k+1 then b else j+1))=bd (chio A) k i j:=by
  unfold bd
  refine yz2h fun a ha b hb=>?_
  unfold chio
  show A (if 0<k+1 then 0 else i+1) (if 0<k+1 then 0 else j+1) * A (if a+1<k+1 then a+1 else i+1) (if b+1<k+1 then b+1 else j+1) - A (if a+1<k+1 then a+1 else i+1) (if 0<k+1 then 0 else j+1) * A (if 0<k+1 then 0 else i+1) (if b+1<k+1 then b+1 else j+1)=_
  rw [if_pos (show 0<k+1 by omega),if_pos (show 0<k+1 by omega)]
  by_cases h1:a<k <;> by_cases h2:b<k
  ·rw [if_pos (by omega),if_pos (by omega),if_pos h1,if_pos h2]
  ·rw [if_pos (by omega),if_neg (by omega),if_pos h1,if_neg h2]
  ·rw [if_neg (by omega),if_pos (by omega),if_neg h1,if_pos h2]
  ·rw [if_neg (by omega),if_neg (by omega),if_neg h1,if_neg h2]
 rw [e2,Int.pow_succ,Int.mul_comm (A 0 0 ^ k),Int.mul_assoc] at e
 exact Int.eq_of_mul_eq_mul_left h e
def lead (A:Nat→Nat→Int):Nat→Int
 | 0=>1
 | k+1=>bd A k k k
theorem lead_chio {A:Nat→Nat→Int} (h:A 0 0≠0):∀ k,A 0 0 * lead (chio A) k=A 0 0 ^ k * lead A (k+1)
 | 0=>by
  show A 0 0 * 1=A 0 0 ^ 0 * bd A 0 0 0
  rw [yz2t,Int.pow_zero];omega
 | k+1=>by
  show A 0 0 * bd (chio A) k k k=A 0 0 ^ (k+1) * bd A (k+1) (k+1) (k+1)
  rw [← yz4d h,Int.pow_succ];grind
theorem det_2 {X:Nat→Nat→Int}:det 2 X=X 0 0 * X 1 1 - X 0 1 * X 1 0:=by
 show 0+sgn 0 * X 0 0 * (0+sgn 0 * X 1 (skp 0 0) * 1)+sgn 1 * X 0 1 * (0+sgn 0 * X 1 (skp 1 0) * 1)=_
 simp only [sgn,skp]
 grind
theorem sylvester:∀ (k:Nat) {A:Nat→Nat→Int},(∀ m<k,bd A m m m≠0)→∀ i j,k<i→k<j→lead A k * bd A (k+1) i j=bd A k k k * bd A k i j - bd A k i k * bd A k k j
 | 0,A,_,i,j,hi,hj=>by
  rw [yz2t,yz2t,yz2t,yz2t]
  show 1 * det 2 _=_
  rw [det_2]
  simp only [Nat.lt_irrefl,if_false,Nat.zero_lt_one,if_true]
  grind
 | k+1,A,h,i,j,hi,hj=>by
  obtain ⟨i,rfl⟩:∃ q,i=q+1:=⟨i - 1,by omega⟩
  obtain ⟨j,rfl⟩:∃ q,j=q+1:=⟨j - 1,by omega⟩
  have hp:A 0 0≠0:=by
   have:=h 0 (by omega)
   rwa [yz2t] at this
  have ih:=sylvester k (A:=chio A) (fun m hm=>by
   rw [← yz4d hp]
   exact Int.mul_ne_zero (Int.pow_ne_zero hp) (h (m+1) (by omega))) i j (by omega) (by omega)
  rw [← yz4d hp,← yz4d hp,← yz4d hp,← yz4d hp,← yz4d hp] at ih
  have hl:=lead_chio hp k
  have hq:A 0 0 ^ k≠0:=Int.pow_ne_zero hp
  rw [Int.pow_succ] at ih
  generalize lead (chio A) k=x at ih hl
  generalize lead A (k+1)=y at hl ⊢
  generalize bd A (k+1+1) (i+1) (j+1)=z at ih ⊢
  generalize bd A (k+1) (k+1) (k+1)=a at ih ⊢
  generalize bd A (k+1) (i+1) (j+1)=b at ih ⊢
  generalize bd A (k+1) (i+1) (k+1)=c at ih ⊢
  generalize bd A (k+1) (k+1) (j+1)=d at ih ⊢
  generalize A 0 0 ^ k=q at ih hl hq
  generalize A 0 0=p at ih hl hp
  have e:(q * q) * (y * z)=(q * q) * (a * b - c * d):=by grind
  exact Int.eq_of_mul_eq_mul_left (Int.mul_ne_zero hq hq) e
def rsum (M:Nat→Nat→Int) (N k i:Nat):Int:=sumN (N - k) fun t=>M i (k+t)
inductive OutW (M:Nat→Nat→Int) (N k:Nat):Nat→Prop
 | pos {i:Nat}:0<rsum M N k i→OutW M N k i
 | go {i j:Nat}:k≤j→j<N→j≠i→M i j<0→OutW M N k j→OutW M N k i
structure ZM (M:Nat→Nat→Int) (N k:Nat) (p:Int):Prop where
 pp:0<p
 z1:∀ i j,k≤i→i<N→k≤j→j<N→i≠j→M i j≤0
 z2:∀ i,k≤i→i<N→0≤rsum M N k i
 z3:∀ i,k≤i→i<N→OutW M N k i
 z4:∀ i,k≤i→i<N→M i i≤3 * p
theorem yz39 {f:Nat→Int}:∀ {n t:Nat},t<n→(∀ i<n,i≠t→f i≤0)→sumN n f≤f t
 | n+1,t,ht,h=>by
  show sumN n f+f n≤f t
  by_cases e:t=n
  ·subst e
   have:sumN t f≤0:=by
    have:∀ m,m≤t→sumN m f≤0:=fun m=>by
     induction m with
     | zero=>intro _;exact Y1u _
     | succ m ih =>
      intro hm
      show sumN m f+f m≤0
      have:=ih (by omega)
      have:=h m (by omega) (by omega)
      omega
    exact this t (Y1h _)
   omega
  ·have:=yz39 (n:=n) (t:=t) (by omega) fun i hi hne=>h i (by omega) hne
   have:=h n (by omega) (by omega)
   omega
theorem yzc4 {f:Nat→Int} {n t u:Nat} (ht:t<n) (hu:u<n) (hne:u≠t) (h:∀ i<n,i≠t→f i≤0):sumN n f≤f t+f u:=by
 have:=yz39 (f:=fun i=>if i=u then 0 else f i) (n:=n) (t:=t) ht fun i hi hn=>by
  split
  ·exact Y1u _
  ·exact h i hi hn
 have e:∀ m,sumN m f=sumN m (fun i=>if i=u then 0 else f i)+if u<m then f u else 0:=fun m=>by
  induction m with
  | zero=>simp [sumN]
  | succ m ih =>
   show sumN m f+f m=(sumN m (fun i=>if i=u then 0 else f i)+if m=u then 0 else f m)+_
   rw [ih]
   by_cases h1:m=u
   ·subst h1;simp
   ·by_cases h2:u<m
    ·rw [if_pos h2,if_neg h1,if_pos (by omega)];omega
    ·rw [if_neg h2,if_neg h1,if_neg (by omega)];omega
 rw [e n,if_pos hu]
 simp only [Ne.symm hne,if_false] at this
 omega
theorem ZM.row_le {M:Nat→Nat→Int} {N k:Nat} {p:Int} (Z:ZM M N k p) {i j:Nat} (hi:k≤i) (hiN:i<N) (hj:k≤j) (hjN:j<N) (hne:j≠i):- M i j≤M i i:=by
 have h1:=Z.z2 i hi hiN
 have h2:=yzc4 (f:=fun t=>M i (k+t)) (n:=N - k) (t:=i - k) (u:=j - k) (by omega) (by omega) (by omega) fun t ht hn=>Z.z1 i (k+t) hi hiN (by omega) (by omega) (by omega)
 unfold rsum at h1
 rw [show k+(i - k)=i by omega,show k+(j - k)=j by omega] at h2
 omega
theorem ZM.diag {M:Nat→Nat→Int} {N k:Nat} {p:Int} (Z:ZM M N k p) {i:Nat} (hi:k≤i) (hiN:i<N):0<M i i:=by
 cases Z.z3 i hi hiN with
 | pos h =>
  have h2:=yz39 (f:=fun t=>M i (k+t)) (n:=N - k) (t:=i - k) (by omega) fun t ht hn=>Z.z1 i (k+t) hi hiN (by omega) (by omega) (by omega)
  unfold rsum at h
  rw [show k+(i - k)=i by omega] at h2
  omega
 | go h1 h2 h3 h4 _ =>
  have:=Z.row_le hi hiN h1 h2 h3
  omega
theorem ZM.step {M M':Nat→Nat→Int} {N k:Nat} {p:Int} (Z:ZM M N k p) (hk:k<N) (h:∀ i j,k<i→i<N→k<j→j<N→p * M' i j=M k k * M i j - M i k * M k j):ZM M' N (k+1) (M k k):=by
 have hp:=Z.pp
 have hd:=Z.diag (Y1h k) hk
 have hik:∀ i,k<i→i<N→M i k≤0:=fun i h1 h2=>Z.z1 i k (by omega) h2 (Y1h _) hk (by omega)
 have hkj:∀ j,k<j→j<N→M k j≤0:=fun j h1 h2=>Z.z1 k j (Y1h _) hk (by omega) h2 (by omega)
 have neg:∀ x:Int,p * x≤0→x≤0:=fun x hx=>by
  rcases Int.lt_or_le 0 x with g | g
  ·have:=Int.mul_pos hp g;omega
  ·exact g
 have neg':∀ x:Int,p * x<0→x<0:=fun x hx=>by
  rcases Int.lt_or_le x 0 with g | g
  ·exact g
  ·have:=Int.mul_nonneg (Int.le_of_lt hp) g;omega
 have pos':∀ x:Int,0<p * x→0<x:=fun x hx=>by
  rcases Int.lt_or_le 0 x with g | g
  ·exact g
  ·have:=Int.mul_nonpos_of_nonneg_of_nonpos (Int.le_of_lt hp) g;omega
 have hprod:∀ i j,k<i→i<N→k<j→j<N→0≤M i k * M k j:=fun i j h1 h2 h3 h4=>Int.mul_nonneg_of_nonpos_of_nonpos (hik i h1 h2) (hkj j h3 h4)
 have hrs:∀ i,k<i→i<N→p * rsum M' N (k+1) i=M k k * rsum M N k i - M i k * rsum M N k k:=fun i h1 h2=>by
  have e:∀ x,rsum M N k x=M x k+sumN (N - (k+1)) fun t=>M x (k+1+t):=fun x=>by
   unfold rsum
   have g:∀ m,sumN (m+1) (fun t=>M x (k+t))=M x k+sumN m fun t=>M x (k+1+t):=fun m=>by
    induction m with
    | zero=>show 0+M x (k+0)=M x k+0;simp
    | succ m ih =>
     show sumN (m+1) _+M x (k+(m+1))=_
     rw [ih]
     show _=M x k+(sumN m _+M x (k+1+m))
     rw [show k+(m+1)=k+1+m by omega];omega
   rw [show N - k=N - (k+1)+1 by omega];exact g _
  rw [e i,e k]
  unfold rsum
  rw [← sumN_mul]
  have c:sumN (N - (k+1)) (fun t=>p * M' i (k+1+t))=sumN (N - (k+1)) fun t=>M k k * M i (k+1+t)+(- M i k) * M k (k+1+t):=yz1s fun t ht=>by
   rw [h i (k+1+t) h1 h2 (by omega) (by omega)];grind
  rw [c,yz2n]
  grind
 refine ⟨hd,fun i j h1 h2 h3 h4 hne=>?_,fun i h1 h2=>?_,fun i h1 h2=>?_,fun i h1 h2=>?_⟩
 ·apply neg
  rw [h i j h1 h2 h3 h4]
  have:=Int.mul_nonpos_of_nonneg_of_nonpos (Int.le_of_lt hd) (Z.z1 i j (by omega) h2 (by omega) h4 hne)
  have:=hprod i j h1 h2 h3 h4
  omega
 ·have e:=hrs i h1 h2
  have a:=Int.mul_nonneg (Int.le_of_lt hd) (Z.z2 i (by omega) h2)
  have b:=Int.mul_nonpos_of_nonpos_of_nonneg (hik i h1 h2) (Z.z2 k (Y1h _) hk)
  rcases Int.lt_or_le (rsum M' N (k+1) i) 0 with g | g
  ·have:=Int.mul_neg_of_pos_of_neg hp g;omega
  ·exact g
 ·have key:∀ x,OutW M N k x→k≤x→x<N→(x≠k→OutW M' N (k+1) x)∧(x=k→∀ i,k<i→i<N→M i k<0→OutW M' N (k+1) i):=by
   intro x hx
   induction hx with
   | @pos x hr =>
    intro hx1 hx2
    refine ⟨fun hne=>.pos (pos' _ ?_),fun he i hi hiN hm=>.pos (pos' _ ?_)⟩
    ·rw [hrs x (by omega) hx2]
     have a:=Int.mul_pos hd hr
     have b:=Int.mul_nonpos_of_nonpos_of_nonneg (hik x (by omega) hx2) (Z.z2 k (Y1h _) hk)
     omega
    ·subst he
     rw [hrs i hi hiN]
     have a:=Int.mul_nonneg (Int.le_of_lt hd) (Z.z2 i (by omega) hiN)
     have b:=Int.mul_neg_of_neg_of_pos hm hr
     omega
   | @go x j hj1 hj2 hne hm _ ih =>
    intro hx1 hx2
    have ihj:=ih hj1 hj2
    refine ⟨fun hxk=>?_,fun he i hi hiN hmi=>?_⟩
    ·by_cases e:j=k
     ·subst e;exact ihj.2 rfl x (by omega) hx2 hm
     ·refine .go (j:=j) (by omega) hj2 hne (neg' _ ?_) (ihj.1 e)
      rw [h x j (by omega) hx2 (by omega) hj2]
      have a:=Int.mul_neg_of_pos_of_neg hd hm
      have b:=hprod x j (by omega) hx2 (by omega) hj2
      omega
    ·subst he
     by_cases e:j=i
     ·subst e;exact ihj.1 (by omega)
     ·refine .go (j:=j) (by omega) hj2 e (neg' _ ?_) (ihj.1 (by omega))
      rw [h i j hi hiN (by omega) hj2]
      have a:=Int.mul_nonpos_of_nonneg_of_nonpos (Int.le_of_lt hd) (Z.z1 i j (by omega) hiN (by omega) hj2 (by omega))
      have b:=Int.mul_pos_of_neg_of_neg hmi hm
      omega
  exact (key i (Z.z3 i (by omega) h2) (by omega) h2).1 (by omega)
 ·have e:=h i i h1 h2 h1 h2
  have a:=hprod i i h1 h2 h1 h2
  have b:=Z.z4 i (by omega) h2
  rcases Int.lt_or_le (3 * M k k) (M' i i) with g | g
  ·have c:=Int.mul_lt_mul_of_pos_left g hp
   have d:=Int.mul_le_mul_of_nonneg_left b (Int.le_of_lt hd)
   have f:M k k * (3 * p)=p * (3 * M k k):=by grind
   omega
  ·exact g
theorem zm_all {A:Nat→Nat→Int} {N:Nat} (Z:ZM A N 0 1):∀ k,k≤N→ZM (bd A k) N k (lead A k)∧lead A k≤3 ^ k∧∀ m<k,bd A m m m≠0
 | 0,_=>by
  have e:bd A 0=A:=by funext i j;exact yz2t
  rw [e]
  exact ⟨Z,by show (1:Int)≤3 ^ 0;simp,fun m hm=>by omega⟩
 | k+1,hk=>by
  obtain ⟨Zk,h1,h2⟩:=zm_all Z k (by omega)
  have hd:=Zk.diag (Y1h k) (by omega)
  have h4:=Zk.z4 k (Y1h k) (by omega)
  refine ⟨Zk.step (by omega) fun i j hi _ hj _=>sylvester k h2 i j hi hj,?_,fun m hm=>?_⟩
  ·show bd A k k k≤3 ^ (k+1)
   rw [Int.pow_succ]
   generalize (3:Int) ^ k=q at h1 ⊢
   omega
  ·by_cases e:m=k
   ·subst e;omega
   ·exact h2 m (by omega)
theorem yz5y {A:Nat→Nat→Int} {N:Nat} (Z:ZM A N 0 1) (hN:N≤9) {k:Nat} (hk:k≤N):0<lead A k∧lead A k≤19683:=by
 obtain ⟨Zk,h1,_⟩:=zm_all Z k hk
 have h3:(3:Int) ^ k≤3 ^ 9:=by
  have:3 ^ k≤3 ^ 9:=Y1k (by omega) (by omega)
  exact_mod_cast this
 exact ⟨Zk.pp,Int.le_trans h1 h3⟩
theorem bd_rg {A:Nat→Nat→Int} {N:Nat} (Z:ZM A N 0 1) (hN:N≤9) {k i j:Nat} (hi:k≤i) (hiN:i<N) (hj:k≤j) (hjN:j<N):-59049≤bd A k i j∧bd A k i j≤59049:=by
 obtain ⟨Zk,_,_⟩:=zm_all Z k (by omega)
 have hl:=yz5y Z hN (k:=k) (by omega)
 have h4:=Zk.z4 i hi hiN
 by_cases e:j=i
 ·subst e
  have:=Zk.diag hi hiN
  omega
 ·have h1:=Zk.row_le hi hiN hj hjN e
  have h2:=Zk.z1 i j hi hiN hj hjN (Ne.symm e)
  omega
theorem bd_step {A:Nat→Nat→Int} {N:Nat} (Z:ZM A N 0 1) {k i j:Nat} (hi:k<i) (hiN:i<N) (hj:k<j) (hjN:j<N):(bd A k i j * bd A k k k - bd A k i k * bd A k k j).tdiv (lead A k)=bd A (k+1) i j:=by
 obtain ⟨Zk,_,h2⟩:=zm_all Z k (by omega)
 have hs:=sylvester k h2 i j hi hj
 have hl:=Zk.pp
 rw [Int.mul_comm (bd A k i j),← hs,Int.mul_tdiv_cancel_left _ (by omega)]
def lvl (k i j a b:Nat):Nat:=if k<a∧k<b∧(a<i∨(a=i∧b<j)) then k+1 else min k (min a b)
theorem lvl_row {k i N a b:Nat} (hb:b<N):lvl k i N a b=lvl k (i+1) (k+1) a b:=by
 unfold lvl
 by_cases h:k<a∧k<b∧(a<i∨(a=i∧b<N))
 ·rw [if_pos h,if_pos (by omega)]
 ·rw [if_neg h,if_neg (by omega)]
theorem lvl_end {k N a b:Nat} (ha:a<N):lvl k N (k+1) a b=lvl (k+1) (k+2) (k+2) a b:=by
 unfold lvl
 rw [if_neg (show ¬ (k+1<a∧k+1<b∧(a<k+2∨(a=k+2∧b<k+2))) by omega)]
 split <;> omega
theorem lvl_in {k i j:Nat} (hi:k<i) (hj:k<j):lvl k i j i j=k∧lvl k i j i k=k∧lvl k i j k k=k∧lvl k i j k j=k:=by
 unfold lvl
 refine ⟨?_,?_,?_,?_⟩ <;> rw [if_neg (by omega)] <;> omega
theorem yze9 {k i j a b:Nat} (hi:k<i) (hj:k<j):lvl k i (j+1) a b=if a=i∧b=j then k+1 else lvl k i j a b:=by
 unfold lvl
 by_cases e:a=i∧b=j
 ·rw [if_pos e,if_pos (by omega)]
 ·rw [if_neg e]
  by_cases h:k<a∧k<b∧(a<i∨(a=i∧b<j))
  ·rw [if_pos h,if_pos (by omega)]
  ·rw [if_neg h,if_neg (by omega)]
def tabR (f:Nat→Int) (N:Nat):List Int:=(Ya N).map f
def tabM (f:Nat→Nat→Int) (N:Nat):List (List Int):=(Ya N).map fun a=>tabR (f a) N
theorem yzg {f:Nat→Int} {N:Nat}:(tabR f N).length=N:=by simp [tabR]
theorem yz6p {f:Nat→Nat→Int} {N:Nat}:(tabM f N).length=N:=by simp [tabM]
theorem yzp {f:Nat→Int} {N a:Nat} (h:a<N):(tabR f N).getD a 0=f a:=by
 unfold tabR
 rw [Y0,Yd,List.getElem?_range h];rfl
theorem yz1j {f:Nat→Nat→Int} {N a:Nat} (h:a<N):(tabM f N).getD a []=tabR (f a) N:=by
 unfold tabM
 rw [Y0,Yd,List.getElem?_range h];rfl
theorem yz3b {f g:Nat→Int} {N j:Nat} {v:Int} (h:∀ b<N,g b=if b=j then v else f b):(tabR f N).set j v=tabR g N:=by
 refine Y18 (by simp [tabR]) fun b h1 h2=>?_
 have hb:b<N:=by simpa [tabR] using h2
 rw [List.getElem_set]
 simp only [tabR,Yq,List.getElem_range]
 rw [h b hb]
 by_cases e:j=b
 ·subst e;simp
 ·rw [if_neg e,if_neg (Ne.symm e)]
theorem yz15 {f g:Nat→Int} {N:Nat} (h:∀ b<N,f b=g b):tabR f N=tabR g N:=Yg fun b hb=>h b (Ym.1 hb)
theorem yz33 {f g:Nat→Nat→Int} {N:Nat} (h:∀ a<N,∀ b<N,f a b=g a b):tabM f N=tabM g N:=Yg fun a ha=>yz15 fun b hb=>h a (Ym.1 ha) b hb
theorem yzej {f g:Nat→Nat→Int} {N i:Nat} (h:∀ a<N,a≠i→∀ b<N,g a b=f a b):(tabM f N).set i (tabR (g i) N)=tabM g N:=by
 refine Y18 (by simp [tabM]) fun a h1 h2=>?_
 have ha:a<N:=by simpa [tabM] using h2
 rw [List.getElem_set]
 simp only [tabM,Yq,List.getElem_range]
 by_cases e:i=a
 ·subst e;rw [if_pos rfl]
 ·rw [if_neg e];exact yz15 fun b hb=>(h a ha (Ne.symm e) b hb).symm
theorem yza3 {f:Nat→Nat→Int} {m:Nat}:∀ {n:Nat},sumN n (fun i=>sumN m fun j=>f i j)=sumN m fun j=>sumN n fun i=>f i j
 | 0=>by
  show (0:Int)=_
  exact (yz1i fun _ _=>rfl).symm
 | n+1=>by
  show sumN n _+sumN m _=_
  rw [yza3,← yz8w];rfl
theorem yz8e {n t:Nat} (h:t<n):sumN n (fun j=>if j=t then (1:Int) else 0)=1:=by
 have key:∀ m,sumN m (fun j=>if j=t then (1:Int) else 0)=if t<m then 1 else 0:=fun m=>by
  induction m with
  | zero=>simp [sumN]
  | succ m ih =>
   show sumN m _+(if m=t then 1 else 0)=_
   rw [ih]
   by_cases h1:m=t
   ·subst h1;simp
   ·by_cases h2:t<m
    ·rw [if_pos h2,if_neg h1,if_pos (by omega)];rfl
    ·rw [if_neg h2,if_neg h1,if_neg (by omega)];rfl
 rw [key,if_pos h]
theorem sumN_skp {f:Nat→Int} {n w:Nat} (hw:w<n+1):sumN n (fun j=>f (skp w j))=sumN (n+1) f - f w:=by
 have key:∀ m,sumN m (fun j=>f (skp w j))=if w<m+1 then sumN (m+1) f - f w else sumN m f:=fun m=>by
  induction m with
  | zero =>
   by_cases h:w<0+1
   ·obtain rfl:w=0:=by omega
    rw [if_pos h]
    show (0:Int)=0+f 0 - f 0
    omega
   ·rw [if_neg h];rfl
  | succ m ih =>
   show sumN m _+f (skp w m)=_
   rw [ih]
   by_cases h1:w<m+1
   ·rw [if_pos h1,if_pos (by omega),show skp w m=m+1 by unfold skp;rw [if_neg (by omega)]]
    show sumN (m+1) f - f w+f (m+1)=sumN (m+1) f+f (m+1) - f w
    omega
   ·rw [if_neg h1,show skp w m=m by unfold skp;rw [if_pos (by omega)]]
    by_cases h2:w<m+1+1
    ·obtain rfl:w=m+1:=by omega
     rw [if_pos h2]
     show sumN m f+f m=sumN m f+f m+f (m+1) - f (m+1)
     omega
    ·rw [if_neg h2];rfl
 rw [key,if_pos hw]
def lapE (e:Nat→Nat→Nat) (L s t:Nat):Int:=sumN L fun x=>(if t=s then 1 else 0) - (if t=e x s then 1 else 0)
theorem lap_sum {e:Nat→Nat→Nat} {L n s:Nat} (hs:s<n) (he:∀ x<L,e x s<n):sumN n (lapE e L s)=0:=by
 show sumN n (fun t=>sumN L fun x=>(if t=s then (1:Int) else 0) - (if t=e x s then 1 else 0))=0
 rw [yza3]
 refine yz1i fun x hx=>?_
 have h1:=yz2n (a:=1) (b:=-1) (f:=fun t=>if t=s then (1:Int) else 0) (g:=fun t=>if t=e x s then (1:Int) else 0) (n:=n)
 rw [yz8e hs,yz8e (he x hx)] at h1
 rw [show (fun t=>(if t=s then (1:Int) else 0) - (if t=e x s then 1 else 0))=fun t=>1 * (if t=s then (1:Int) else 0)+-1 * (if t=e x s then (1:Int) else 0) by funext t;omega,h1]
 rfl
theorem yzb9 {e:Nat→Nat→Nat} {s t:Nat} (h:t≠s):∀ {L:Nat},lapE e L s t≤0
 | 0=>Y1u _
 | L+1=>by
  show lapE e L s t+((if t=s then 1 else 0) - (if t=e L s then 1 else 0))≤0
  have:=yzb9 h (e:=e) (L:=L)
  rw [if_neg h]
  split <;> omega
theorem yz8m {e:Nat→Nat→Nat} {s t x:Nat} (h:t≠s):∀ {L:Nat},x<L→e x s=t→lapE e L s t<0
 | L+1,hx,he=>by
  show lapE e L s t+((if t=s then 1 else 0) - (if t=e L s then 1 else 0))<0
  rw [if_neg h]
  by_cases g:x=L
  ·subst g
   have:=yzb9 h (e:=e) (L:=x)
   rw [if_pos he.symm];omega
  ·have:=yz8m h (L:=L) (by omega) he
   split <;> omega
theorem yzei {e:Nat→Nat→Nat} {s:Nat}:∀ {L:Nat},lapE e L s s≤L
 | 0=>Y1u _
 | L+1=>by
  show lapE e L s s+((if s=s then 1 else 0) - (if s=e L s then 1 else 0))≤_
  have:=yzei (e:=e) (s:=s) (L:=L)
  rw [if_pos rfl]
  split <;> omega
def redM (e:Nat→Nat→Nat) (L w i j:Nat):Int:=lapE e L (skp w i) (skp w j)
inductive WayE (e:Nat→Nat→Nat) (L:Nat):Nat→Nat→Prop
 | here {s:Nat}:WayE e L s s
 | go {s t x:Nat}:x<L→WayE e L (e x s) t→WayE e L s t
theorem skp_inj {w i j:Nat} (h:skp w i=skp w j):i=j:=by unfold skp at h;split at h <;> split at h <;> omega
theorem skp_ne {w i:Nat}:skp w i≠w:=by unfold skp;split <;> omega
theorem skp_of {w t n:Nat} (ht:t<n+1) (hne:t≠w) (hw:w<n+1):∃ i,i<n∧skp w i=t:=by
 by_cases h:t<w
 ·exact ⟨t,by omega,by unfold skp;rw [if_pos h]⟩
 ·exact ⟨t - 1,by omega,by unfold skp;rw [if_neg (by omega)];omega⟩
theorem red_zm {e:Nat→Nat→Nat} {L n w:Nat} (hL:L≤3) (hw:w<n+1) (he:∀ x<L,∀ s<n+1,e x s<n+1) (hc:∀ s<n+1,WayE e L s w):ZM (redM e L w) n 0 1:=by
 have hsk:∀ i,i<n→skp w i<n+1:=fun i hi=>yz8l hi hw
 have hrs:∀ i,i<n→rsum (redM e L w) n 0 i=- lapE e L (skp w i) w:=fun i hi=>by
  unfold rsum redM
  rw [Nat.sub_zero,show (fun t=>lapE e L (skp w i) (skp w (0+t)))=fun t=>lapE e L (skp w i) (skp w t) by funext t;rw [Y1o],sumN_skp hw,lap_sum (hsk i hi) fun x hx=>he x hx _ (hsk i hi)]
  omega
 refine ⟨by omega,fun i j _ hi _ hj hne=>yzb9 fun h=>hne (skp_inj h).symm,fun i _ hi=>?_,fun i _ hi=>?_,fun i _ hi=>?_⟩
 ·rw [hrs i hi]
  have:=yzb9 (e:=e) (L:=L) (s:=skp w i) (t:=w) (Ne.symm skp_ne)
  omega
 ·have key:∀ s t,WayE e L s t→t=w→s<n+1→∀ i,i<n→skp w i=s→OutW (redM e L w) n 0 i:=by
   intro s t hway
   induction hway with
   | here=>intro ht _ i _ hsi;exact absurd (hsi.trans ht) skp_ne
   | @go s t x hx _ ih =>
    intro ht hs i hi hsi
    have hes:=he x hx s hs
    by_cases h1:e x s=w
    ·refine .pos ?_
     rw [hrs i hi,hsi]
     have:=yz8m (e:=e) (L:=L) (s:=s) (t:=w) (x:=x) (fun h=>skp_ne (hsi.trans h.symm)) hx h1
     omega
    ·by_cases h2:e x s=s
     ·rw [h2] at ih
      exact ih ht hs i hi hsi
     ·obtain ⟨j,hj,hje⟩:=skp_of hes h1 hw
      refine .go (j:=j) (Y1j _) hj (fun h=>h2 (by rw [← hje,h,hsi])) ?_ (ih ht hes j hj hje)
      show lapE e L (skp w i) (skp w j)<0
      rw [hsi,hje]
      exact yz8m h2 hx rfl
  exact key _ _ (hc _ (hsk i hi)) rfl (hsk i hi) i hi rfl
 ·have:=yzei (e:=e) (s:=skp w i) (L:=L)
  show lapE e L (skp w i) (skp w i)≤3 * 1
  omega
end Go.Ab
namespace Go.Ab
open Go Go.Proofs Go.Sort
theorem ti_int:∃ ti:TypeInfo,Tryz.prog.info? 2=some ti∧ti.size=1:=by
 have h:(Tryz.prog.info? 2).map (·.size)=some 1:=by kernel_rfl
 cases e:Tryz.prog.info? 2 with
 | none=>rw [e] at h;cases h
 | some ti=>rw [e] at h;exact ⟨ti,rfl,by simpa using h⟩
theorem k_Delete (zs:List Int) (w:Nat) (hw:w<zs.length):Con Tryz.prog nz63 [.row 0 1 true (ints zs)] [.own 5000 0,iv (w:Int),iv ((w+1:Nat):Int)] false
  fun outs rows res=>∃ v,outs=[.row v 1 true (ints (zs.eraseIdx w))]∧rows=[]∧res=.own 5000 v:=by
 have hz:zs≠[]:=fun e=>by rw [e] at hw;simp at hw
 refine Con.mono (yzbs yz3c (ints zs) (by simpa using hz) [iv (w:Int),iv ((w+1:Nat):Int)] false
  (fun cs' k=>k=zs.length - 1∧cs'=ints (zs.eraseIdx w ++ [0])) ?_ ?_ true) ?_
 ·rintro _ cs' k ⟨_,rfl⟩ A hA
  simp only [Y3] at hA
  obtain ⟨y,_,rfl⟩:=hA
  exact ⟨_,rfl⟩
 ·intro c us L g off cap hu hL himm hlt hH hg hm hcap hcm
  match us,hu with
  | [a,b],hu =>
  simp only [RepL,Rep,and_true] at hu
  obtain ⟨rfl,rfl⟩:=hu
  have hLe:=yz3r (κ:=.i64) hL
  subst hLe
  rw [Y6] at hm hcap ⊢
  have hmm:=yzc
  obtain ⟨ti,hti,hts⟩:=ti_int
  refine (AnyE.slices_Delete Tryz.ldelete (Value.int .i64) (fun x=>rfl) 0 Tryz.zeroValue2 ti hti hts g off cap w (w+1) zs.toArray c.w (fun j hj=>?_) (by simpa using hcap) (by omega) (by omega) (by rw [List.size_toArray];omega)).mono ?_
  ·have hj2:j<zs.length:=by simpa using hj
   have:=hH j (by rw [Y6];exact hj2)
   rw [Yq] at this
   rw [getElem!_pos _ j hj]
   simpa using this
  ·rintro e w' ⟨he,q,hw'⟩
   have hel:(zs.eraseIdx w).length=zs.length - 1:=List.length_eraseIdx_of_lt hw
   have heq:zs.toArray.toList.take w ++ zs.toArray.toList.drop (w+1) ++ Yl (w+1 - w) 0=zs.eraseIdx w ++ [0]:=by
    rw [List.eraseIdx_eq_take_drop_succ,show w+1 - w=1 by omega];rfl
   rw [heq] at hw'
   refine ⟨_,(zs.eraseIdx w ++ [0]).map (Value.int .i64),_,⟨rfl,rfl⟩,by rw [Y6,Y5,hel,Y7];omega,yz79,by omega,?_,q,#[],?_⟩
   ·rw [he];congr 2;simp
   ·rw [Sort.grow_empty,hw',yzfd]
 ·rintro outs rows res ⟨v,cs',k,⟨rfl,rfl⟩,rfl,rfl,rfl⟩
  refine ⟨v,?_,rfl,rfl⟩
  have hl:(zs.eraseIdx w).length=zs.length - 1:=List.length_eraseIdx_of_lt hw
  rw [yze2,← hl,List.take_left]
theorem call_delS {P:Program} {σ:St} {g:FuncId} {As args:List AVal} {d:Nat} {s:Nat→Nat} {K:St→Prop} {r v:Nat} {zs ys:List Int}
  (h:Con P g [.row 0 1 true (ints zs)] (.own 5000 0 :: args) false fun outs rows res=>∃ v,outs=[.row v 1 true (ints ys)]∧rows=[]∧res=.own 5000 v) (hr:σ.hp r=.row v 1 true (ints zs)) (hco:CoeL σ.hp [r] true args As)
  (hk:∀ u,(u=v∨∃ x,u=s x)→K (St.put ⟨σ.tm,upd σ.hp r (.row u 1 true (ints ys))⟩ (some d) (.own r u))):wpCall P false σ g (.own r v :: As) (some d) s K:=by
 refine .inl ⟨[r],_,_,false,_,h,⟨by simp,rfl,by simp,by simp [hr],?_⟩,?_,(fun e=>by cases e),?_⟩
 ·intro j B r' hB hr'
  cases j with
  | succ j=>simp at hB
  | zero =>
   simp at hB hr';subst hB;subst hr'
   simp only [ObjCoe,hr]
   exact ⟨trivial,v,_,rfl,yz1t⟩
 ·rw [yzb,yz96,hr];exact ⟨rfl,hco⟩
 ·rintro outs rows res ⟨u,rfl,rfl,rfl⟩
  refine ⟨rfl,by simp,by simp,?_⟩
  have i0:rid [r] d 0 5000=some r:=yzad (j:=0) (by omega) rfl
  rw [Y1x,yz6z]
  simp only [AObj.ren,AVal.ren,yz1q,Y17,i0]
  refine hk _ ?_
  unfold sv
  split
  ·rename_i h1
   obtain rfl:u=0:=by simpa using h1
   left
   simp [hr]
  ·exact .inr ⟨u,rfl⟩
end Go.Ab
namespace Go.Ab
open Go Go.Proofs
def tabC (f:Nat→Nat→Int) (c N:Nat):List (List Int):=(Ya c).map fun a=>tabR (f a) N
theorem yz6g {f:Nat→Nat→Int} {c N:Nat}:tabC f (c+1) N=tabC f c N ++ [tabR (f c) N]:=by simp [tabC,List.range_succ]
theorem erase_tab {f:Nat→Int} {N w:Nat} (hw:w<N+1):(tabR f (N+1)).eraseIdx w=tabR (fun b=>f (skp w b)) N:=by
 have hl:((tabR f (N+1)).eraseIdx w).length=N:=by rw [List.length_eraseIdx_of_lt (by rw [yzg];exact hw),yzg];rfl
 refine Y18 (by rw [hl,yzg]) fun i h1 h2=>?_
 rw [List.getElem_eraseIdx]
 simp only [tabR,Yq,List.getElem_range]
 unfold skp
 split <;> rfl
theorem yz37 {us:List Int} {i:Nat} {v:Int} (h:i<us.length):List.take i (intsK .i64 us) ++ [AVal.val (.int .i64 v)] ++ List.drop (i+1) (intsK .i64 us)=ints (us.set i v):=by
 have e1:List.take i (intsK .i64 us)=intsK .i64 (us.take i):=by unfold intsK;rw [List.map_take]
 have e2:List.drop (i+1) (intsK .i64 us)=intsK .i64 (us.drop (i+1)):=by unfold intsK;rw [List.map_drop]
 rw [e1,e2]
 unfold intsK ints
 rw [List.set_eq_take_append_cons_drop,if_pos h,Yc,Y1,Y13];rfl
def minM (M:Nat→Nat→Int) (w a b:Nat):Int:=M (skp w a) (skp w b)
theorem k_minor (M:Nat→Nat→Int) (N w:Nat) (hw:w<N+1) (hN:N≤9) (Z:ZM (minM M w) N 0 1) :
  Fun Tryz.prog nz5l [.ro none 1 (rwn (tabM M (N+1))),iv (w:Int)] (iv (lead (minM M w) N)):=by
 refine yzd mixed czst rfl ⟨rfl,trivial⟩ ?_
 have hML:=yzc
 generalize hQ:finQ _=Q
 simp only [Az9q,Bzla,yz2,yz1,go_sem,yz0,J9,J8,J6,J7,J5,J0,J1,J2,reduceIte,J3,J4,reduceCtorEq]
 intro vs0 U0 hN0 vs1 U1 hN1
 simp only [Bzl9,yz6p,yz2,yz1,go_sem,yz0,J9,J8,J6,J7,J5,J0,J1,J2,reduceIte,J3,J4,reduceCtorEq]
 intro vs2 U2 hN2 hM1
 simp only [Bzku,yz2,yz1,go_sem,yz0,J9,J8,J6,J7,J5,J0,J1,J2,reduceIte,J3,J4,reduceCtorEq]
 refine yz16 (fun (x:Nat×Nat×List (Nat×List Int))=>N+1 - x.2.1) (fun x=>x.2.1≤N+1∧DJ x.2.2∧x.2.2.map (·.2)=tabC (minM M w) (if x.2.1≤w then x.2.1 else x.2.1 - 1) N)
  (fun (x:Nat×Nat×List (Nat×List Int))=>⟨L .any [(1,iv w),(5,.own 12 x.1),(13,.ro none 1 (rwn (tabM M (N+1)))),(14,iv ((N+1:Nat):Int)),(15,iv x.2.1)],
   L .gone [(12,.row x.1 1 true (rwp x.2.2)),(31,.gone),(5000,.gone),(5001,.gone),(901,.gone)]⟩)
  (vs1 0 0,0,[]) ⟨by simp,by simp [DJ],by simp [tabC]⟩ (by simp only [Bz3v,yz64,go_sem,yz0,J9,J8,J6,J7,J5,J0,J1,J2,reduceIte,J3,J4,reduceCtorEq];try rfl) ?_
 rintro ⟨v5,i,ps⟩ ⟨hi,hdj,hps⟩
 have hi:i≤N+1:=hi
 have hdj:DJ ps:=hdj
 have hps:ps.map (·.2)=tabC (minM M w) (if i≤w then i else i - 1) N:=hps
 have hpl:ps.length=if i≤w then i else i - 1:=by
  have:=congrArg Yf hps
  simpa [tabC] using this
 have hpl2:ps.length≤10:=by rw [hpl];split <;> omega
 by_cases hlt:(i:Int)<((N+1:Nat):Int)
 ·have hlt1:i<N+1:=by omega
  have wi:IntKind.i64.wrap ((i:Int)+1)=((i+1:Nat):Int):=by rw [w64 (by omega)];simp
  have hil:i<(tabM M (N+1)).length:=by rw [yz6p];exact hlt1
  have hil2:i<(tabM M (N+1)).length:=hil
  rw [yz6p] at hil2
  simp only [Bz3v,Bz9m,Bzkt,yz19 hil,yz1j hlt1,decide_eq_true hlt,yz2,yz1,go_sem,yz0,J9,J8,J6,J7,J5,J0,J1,J2,reduceIte,J3,J4,reduceCtorEq]
  intro vs3 U3 hN3 vs4 U4 hN4
  rw [yz6p]
  refine ⟨⟨by omega,hil2⟩,hil2,?_⟩
  simp only [Bzks,yz2,yz1,go_sem,yz0,J9,J8,J6,J7,J5,J0,J1,J2,reduceIte,J3,J4,reduceCtorEq]
  intro vs5 U5 hN5
  by_cases hiw:i=w
  ·subst hiw
   simp only [Bz9k,Bz9l,bne_self_eq_false,wi,yz2,yz1,go_sem,yz0,J9,J8,J6,J7,J5,J0,J1,J2,reduceIte,J3,J4,reduceCtorEq]
   intro vs6 U6 hN6
   refine ⟨(v5,i+1,ps),by dsimp only;omega,⟨by dsimp only;omega,hdj,?_⟩,rfl⟩
   rw [hps,if_pos (Y1h _)]
   dsimp only
   rw [if_neg (by omega)];rfl
  ·have hne:(((i:Nat):Int) != (w:Int))=true:=by rw [bne_iff_ne];omega
   have ww:IntKind.i64.wrap ((w:Int)+1)=((w+1:Nat):Int):=by rw [w64 (by omega)];simp
   simp only [Bz9k,hne,yz2,yz1,go_sem,yz0,J9,J8,J6,J7,J5,J0,J1,J2,reduceIte,J3,J4,reduceCtorEq]
   intro vs6 U6 hN6
   have hC:=yzfk (tabR (M i) (N+1)) (by rw [yzg];omega)
   rw [show argN (tabR (M i) (N+1))=none by unfold argN;rw [if_neg (by rw [yzg];omega)]] at hC
   refine yzf8 hC qCS rfl ⟨_,rfl⟩ ?_
   rintro ys vc rfl
   simp only [ww,go_sem,yz0,J9,J8,J6,J7,J5,J0,J1,J2,reduceIte,J3,J4,reduceCtorEq]
   refine call_delS (k_Delete (tabR (M i) (N+1)) w (by rw [yzg];exact hw)) rfl qCS ?_
   intro u hu
   rw [erase_tab hw]
   have hnu:¬ U6 u:=by
    rcases hu with rfl | ⟨x,rfl⟩
    ·exact hN6.new _ _
    ·exact hN6.new _ _
   have hU:=hN6.hp 12
   simp only [AObj.uses,go_sem,yz0,J9,J8,J6,J7,J5,J0,J1,J2,reduceIte,J3,J4,reduceCtorEq] at hU
   have hold:=usesL_rwp (rest:=[]) (by rw [List.append_nil];exact hU.2)
   have hsk:skp w (if i≤w then i else i - 1)=i:=by
    unfold skp
    by_cases h1:i≤w
    ·rw [if_pos h1,if_pos (by omega)]
    ·rw [if_neg h1,if_neg (by omega)];omega
   have hrow:tabR (fun b=>M i (skp w b)) N=tabR (minM M w (if i≤w then i else i - 1)) N:=by
    unfold minM;rw [hsk]
   have hN1:1≤N:=by omega
   rw [hrow]
   simp only [yzg,Bz9l,wi,yz36,yz2,yz1,go_sem,yz0,J9,J8,J6,J7,J5,J0,J1,J2,reduceIte,J3,J4,reduceCtorEq]
   refine ⟨by rw [yz7];omega,?_⟩
   intro vs7 U7 hN7
   refine ⟨(vs6 8 0,i+1,ps ++ [(u,tabR (minM M w (if i≤w then i else i - 1)) N)]),by dsimp only;omega,⟨by dsimp only;omega,hdj.snoc fun p hp=>?_,?_⟩,rfl⟩
   ·rcases hold p hp with h | h
    ·exact .inl h
    ·exact .inr fun e=>hnu (e ▸ h)
   ·dsimp only
    rw [Yc,hps,show (if i+1≤w then i+1 else i+1 - 1)=(if i≤w then i else i - 1)+1 by split <;> split <;> omega,yz6g];rfl
 ·obtain rfl:i=N+1:=by omega
  rw [if_neg (show ¬ N+1≤w by omega),Nat.add_sub_cancel] at hps hpl
  have hps:ps.map (·.2)=tabM (minM M w) N:=hps
  simp only [Bz3v,Bz9m,Bzl8,decide_eq_false hlt,yz2,yz1,go_sem,yz0,J9,J8,J6,J7,J5,J0,J1,J2,reduceIte,J3,J4,reduceCtorEq]
  intro vs3 U3 hN3 vs4 U4 hN4
  simp only [Bzl7,yz7,hpl,yz2,yz1,go_sem,yz0,J9,J8,J6,J7,J5,J0,J1,J2,reduceIte,J3,J4,reduceCtorEq]
  intro vs5 U5 hN5 hM5
  simp only [Bzl5,yz2,yz1,go_sem,yz0,J9,J8,J6,J7,J5,J0,J1,J2,reduceIte,J3,J4,reduceCtorEq]
  generalize minM M w=A at Z hps hQ ⊢
  have hps0:ps.map (·.2)=tabM (fun a b=>bd A (lvl 0 1 1 a b) a b) N:=by
   rw [hps]
   refine yz33 fun a _ b _=>?_
   have:lvl 0 1 1 a b=0:=by unfold lvl;rw [if_neg (by omega)];omega
   rw [this,yz2t]
  refine yz16 (fun (x:Nat×Nat×List (Nat×List Int))=>N - x.2.1) (fun x=>x.2.1≤N∧DJ x.2.2∧x.2.2.map (·.2)=tabM (fun a b=>bd A (lvl x.2.1 (x.2.1+1) (x.2.1+1) a b) a b) N)
   (fun (x:Nat×Nat×List (Nat×List Int))=>⟨L .any [(5,.own 12 x.1),(8,iv (lead A x.2.1)),(34,iv N),(35,iv x.2.1)],
    L .gone [(12,.row x.1 1 true (rwp x.2.2)),(31,.gone),(5000,.gone),(5001,.gone),(901,.gone)]⟩)
   (v5,0,ps) ⟨Y1j _,hdj,hps0⟩ (by simp only [Bz3y,lead,go_sem,yz0,J9,J8,J6,J7,J5,J0,J1,J2,reduceIte,J3,J4,reduceCtorEq];try rfl) ?_
  clear hps hps0 hdj hpl hpl2
  rintro ⟨v5,k,ps⟩ ⟨hk,hdj,hps⟩
  have hk:k≤N:=hk
  have hdj:DJ ps:=hdj
  have hps:ps.map (·.2)=tabM (fun a b=>bd A (lvl k (k+1) (k+1) a b) a b) N:=hps
  have hpl:ps.length=N:=by
   have:=congrArg Yf hps
   simpa [tabM] using this
  by_cases hltk:(k:Int)<(N:Int)
  ·have hk1:k<N:=by omega
   have wk:IntKind.i64.wrap ((k:Int)+1)=((k+1:Nat):Int):=by rw [w64 (by omega)];simp
   have hl0:=yz5y Z hN hk
   simp only [Bz3y,Bz9p,Bzl4,decide_eq_true hltk,yz2,yz1,go_sem,yz0,J9,J8,J6,J7,J5,J0,J1,J2,reduceIte,J3,J4,reduceCtorEq]
   intro vs6 U6 hN6 vs7 U7 hN7
   simp only [Bzl2,Bzl0,wk,yz2,yz1,go_sem,yz0,J9,J8,J6,J7,J5,J0,J1,J2,reduceIte,J3,J4,reduceCtorEq]
   intro vs8 U8 hN8
   refine yz16 (fun (x:Nat×Nat×List (Nat×List Int))=>N - x.2.1) (fun x=>k<x.2.1∧x.2.1≤N∧DJ x.2.2∧x.2.2.map (·.2)=tabM (fun a b=>bd A (lvl k x.2.1 (k+1) a b) a b) N)
    (fun (x:Nat×Nat×List (Nat×List Int))=>⟨L .any [(5,.own 12 x.1),(8,iv (lead A k)),(9,iv k),(10,iv x.2.1),(34,iv N),(35,iv k)],
     L .gone [(12,.row x.1 1 true (rwp x.2.2)),(31,.gone),(5000,.gone),(5001,.gone),(901,.gone)]⟩)
    (v5,k+1,ps) ⟨by dsimp only;omega,hk1,hdj,hps⟩ (by simp only [Bz3x,go_sem,yz0,J9,J8,J6,J7,J5,J0,J1,J2,reduceIte,J3,J4,reduceCtorEq];try rfl) ?_
   clear hps hdj hpl
   rintro ⟨v5,i,ps⟩ ⟨hki,hi,hdj,hps⟩
   have hki:k<i:=hki
   have hi:i≤N:=hi
   have hdj:DJ ps:=hdj
   have hps:ps.map (·.2)=tabM (fun a b=>bd A (lvl k i (k+1) a b) a b) N:=hps
   have hpl:ps.length=N:=by
    have:=congrArg Yf hps
    simpa [tabM] using this
   by_cases hlti:(i:Int)<(N:Int)
   ·have hi1:i<N:=by omega
    have wi:IntKind.i64.wrap ((i:Int)+1)=((i+1:Nat):Int):=by rw [w64 (by omega)];simp
    obtain ⟨A2,b,C2,rfl,hAi⟩:=yz1c (show i<ps.length by omega)
    have hb2:b.2=tabR (fun b=>bd A (lvl k i (k+1) i b) i b) N:=by
     have:=congrArg (fun l=>l.getD i []) hps
     rw [yz1j hi1,Yc,Y1,Y0,Yv (by rw [Y6];omega),Y6,hAi,Y1l] at this
     simpa using this
    have hbn:b.2≠[]:=fun e=>by
     have:=congrArg Yf hb2
     rw [e,yzg] at this
     simp at this;omega
    have F0a:=yzbz hdj hbn
    have hAk:∃ nm,A2[k]?=some (nm,tabR (fun b=>bd A (lvl k i (k+1) k b) k b) N):=by
     have hkl:k<A2.length:=by omega
     have:=congrArg (fun l=>l.getD k []) hps
     rw [yz1j hk1,Yc,Y0,Y10 (by rw [Y6];omega),Yd,Y2 hkl] at this
     refine ⟨A2[k].1,?_⟩
     rw [Y2 hkl]
     simp only [Y1z,Y1x] at this
     rw [← this]
    obtain ⟨nmk,hAk⟩:=hAk
    simp only [yz7,Bz3x,Bz9n,Bzkz,hpl,decide_eq_true hlti,yz2,yz1,yzr,go_sem,yz0,J9,J8,J6,J7,J5,J0,J1,J2,reduceIte,J3,J4,reduceCtorEq]
    intro vs9 U9 hN9 hM9
    intro _
    refine ⟨[.thaw 12 i 901],yz4b (n:=b.1) rfl (yz65 hAi.symm) (by simpa using hbn) rfl fun m1=>?_⟩
    have hset:(woL b.1 (rwp (A2 ++ b :: C2))).set i (AVal.own 901 m1)=rwp A2 ++ AVal.own 901 m1 :: rwp C2:=by rw [← hAi];exact yz5j F0a
    have ho1:(rwp A2 ++ AVal.own 901 m1 :: rwp C2).getD i .any=.own 901 m1:=yzbx hAi.symm
    have hok:(rwp A2 ++ AVal.own 901 m1 :: rwp C2).getD k .any=.ro (some (some (nmk+1))) 1 (ints (tabR (fun b=>bd A (lvl k i (k+1) k b) k b) N)):=by
     rw [Y0,Y10 (by rw [yz7];omega)]
     unfold rwp
     rw [Yd,hAk];rfl
    have hol:(rwp A2 ++ AVal.own 901 m1 :: rwp C2).length=N:=by
     rw [Y5,Ye,yz7,yz7]
     rw [Y5,Ye] at hpl
     exact hpl
    have hil:i<(rwp A2 ++ AVal.own 901 m1 :: rwp C2).length:=by omega
    have hkl:k<(rwp A2 ++ AVal.own 901 m1 :: rwp C2).length:=by omega
    simp only [hset,woT,woO,yz1y,yz3q,yz3p,yz3o,yz7i,wo_o,yz27,wo_st,yz3l,yz3n,yz2b,yz7w,yzh,wk,yz2,yz1,go_sem,yz0,J9,J8,J6,J7,J5,J0,J1,J2,reduceIte,J3,J4,reduceCtorEq]
    intro vs10 U10 hN10
    simp only [Bzkx,yz2,yz1,go_sem,yz0,J9,J8,J6,J7,J5,J0,J1,J2,reduceIte,J3,J4,reduceCtorEq]
    rw [hb2]
    refine yz16 (fun (x:Nat)=>N - x) (fun x=>k<x∧x≤N)
     (fun (x:Nat)=>⟨L .any [(5,.own 12 v5),(8,iv (lead A k)),(9,iv k),(10,iv i),(11,iv x),(34,iv N),(35,iv k)],
      L .gone [(12,.row v5 1 true (rwp A2 ++ .own 901 m1 :: rwp C2)),(31,.gone),(5000,.gone),(5001,.gone),(901,.row m1 1 true (ints (tabR (fun b=>bd A (lvl k i x i b) i b) N)))]⟩)
     (k+1) ⟨by omega,hk1⟩ (by simp only [Bz3w,go_sem,yz0,J9,J8,J6,J7,J5,J0,J1,J2,reduceIte,J3,J4,reduceCtorEq];try rfl) ?_
    rintro j ⟨hkj,hj⟩
    by_cases hltj:(j:Int)<(N:Int)
    ·have hj1:j<N:=by omega
     have wj:IntKind.i64.wrap ((j:Int)+1)=((j+1:Nat):Int):=by rw [w64 (by omega)];simp
     obtain ⟨l1,l2,l3,l4⟩:=lvl_in hki hkj
     have l3':lvl k i (k+1) k k=k:=by unfold lvl;rw [if_neg (by omega)];omega
     have l4':lvl k i (k+1) k j=k:=by unfold lvl;rw [if_neg (by omega)];omega
     have c1:=bd_rg Z hN (k:=k) (i:=i) (j:=j) (by omega) hi1 (by omega) hj1
     have c2:=bd_rg Z hN (k:=k) (i:=k) (j:=k) (Y1h k) hk1 (Y1h k) hk1
     have c3:=bd_rg Z hN (k:=k) (i:=i) (j:=k) (by omega) hi1 (Y1h k) hk1
     have c4:=bd_rg Z hN (k:=k) (i:=k) (j:=j) (Y1h k) hk1 (by omega) hj1
     have hst:=bd_step Z hki hi1 hkj hj1
     have g1:(tabR (fun b=>bd A (lvl k i j i b) i b) N).getD j 0=bd A k i j:=by rw [yzp hj1,l1]
     have g2:(tabR (fun b=>bd A (lvl k i (k+1) k b) k b) N).getD k 0=bd A k k k:=by rw [yzp hk1,l3']
     have g3:(tabR (fun b=>bd A (lvl k i j i b) i b) N).getD k 0=bd A k i k:=by rw [yzp hk1,l2]
     have g4:(tabR (fun b=>bd A (lvl k i (k+1) k b) k b) N).getD j 0=bd A k k j:=by rw [yzp hj1,l4']
     have hset2:(tabR (fun b=>bd A (lvl k i j i b) i b) N).set j (bd A (k+1) i j)=tabR (fun b=>bd A (lvl k i (j+1) i b) i b) N:=yz3b fun b hb=>by
      rw [yze9 hki hkj]
      by_cases e:b=j
      ·subst e;rw [if_pos ⟨rfl,rfl⟩,if_pos rfl]
      ·rw [if_neg (fun h=>e h.2),if_neg e]
     have hl1:(tabR (fun b=>bd A (lvl k i j i b) i b) N).length=N:=yzg
     have hl2:(tabR (fun b=>bd A (lvl k i (k+1) k b) k b) N).length=N:=yzg
     have hjl1:j<(tabR (fun b=>bd A (lvl k i j i b) i b) N).length:=by omega
     have hkl1:k<(tabR (fun b=>bd A (lvl k i j i b) i b) N).length:=by omega
     have hjl2:j<(tabR (fun b=>bd A (lvl k i (k+1) k b) k b) N).length:=by omega
     have hkl2:k<(tabR (fun b=>bd A (lvl k i (k+1) k b) k b) N).length:=by omega
     generalize tabR (fun b=>bd A (lvl k i j i b) i b) N=R1 at g1 g3 hset2 hl1 hjl1 hkl1
     generalize tabR (fun b=>bd A (lvl k i (k+1) k b) k b) N=R2 at g2 g4 hl2 hjl2 hkl2 hok
     have mul:∀ x y:Int,-59049≤x∧x≤59049→-59049≤y∧y≤59049→-3486784401≤x * y∧x * y≤3486784401:=fun x y hx hy=>by
      have h1:(59049 - x) * (59049 - y) ≥ 0:=Int.mul_nonneg (by omega) (by omega)
      have h2:(59049+x) * (59049+y) ≥ 0:=Int.mul_nonneg (by omega) (by omega)
      have h3:(59049 - x) * (59049+y) ≥ 0:=Int.mul_nonneg (by omega) (by omega)
      have h4:(59049+x) * (59049 - y) ≥ 0:=Int.mul_nonneg (by omega) (by omega)
      have e1:(59049 - x) * (59049 - y)=3486784401 - 59049 * x - 59049 * y+x * y:=by grind
      have e2:(59049+x) * (59049+y)=3486784401+59049 * x+59049 * y+x * y:=by grind
      have e3:(59049 - x) * (59049+y)=3486784401 - 59049 * x+59049 * y - x * y:=by grind
      have e4:(59049+x) * (59049 - y)=3486784401+59049 * x - 59049 * y - x * y:=by grind
      omega
     have m1':=mul _ _ c1 c2
     have m2':=mul _ _ c3 c4
     have cn:=bd_rg Z hN (k:=k+1) (i:=i) (j:=j) (by omega) hi1 (by omega) hj1
     have w1:IntKind.i64.wrap (bd A k i j * bd A k k k)=bd A k i j * bd A k k k:=w64 (by omega)
     have w2:IntKind.i64.wrap (bd A k i k * bd A k k j)=bd A k i k * bd A k k j:=w64 (by omega)
     have w3:IntKind.i64.wrap (bd A k i j * bd A k k k - bd A k i k * bd A k k j)=bd A k i j * bd A k k k - bd A k i k * bd A k k j:=w64 (by omega)
     have w4:IntKind.i64.wrap (bd A (k+1) i j)=bd A (k+1) i j:=w64 (by omega)
     have hl00:¬ lead A k=0:=by omega
     simp only [Bz3w,Bz9o,hol,decide_eq_true hltj,yz2,yz1,go_sem,yz0,J9,J8,J6,J7,J5,J0,J1,J2,reduceIte,J3,J4,reduceCtorEq]
     intro vs11 U11 hN11 hM11 vs12 U12 hN12
     simp only [Bzkw,ho1,hok,yz3 hjl1,yz3 hkl1,yz3 hjl2,yz3 hkl2,g1,g2,g3,g4,w1,w2,w3,hst,w4,hl00,if_false,hol,yz2,yz1,go_sem,yz0,J9,J8,J6,J7,J5,J0,J1,J2,reduceIte,J3,J4,reduceCtorEq]
     refine ⟨⟨by omega,hi1⟩,hi1,⟨by omega,hi1⟩,hi1,⟨by omega,hjl1⟩,hjl1,⟨by omega,hk1⟩,hk1,⟨by omega,hkl2⟩,hkl2,⟨by omega,hi1⟩,hi1,⟨by omega,hkl1⟩,hkl1,⟨by omega,hk1⟩,hk1,⟨by omega,hjl2⟩,hjl2,⟨by omega,hjl1⟩,hjl1,?_⟩
     simp only [yz37 hjl1,hset2,Bzkv,wj,yz2,yz1,go_sem,yz0,J9,J8,J6,J7,J5,J0,J1,J2,reduceIte,J3,J4,reduceCtorEq]
     intro vs13 U13 hN13
     exact ⟨j+1,by omega,⟨by omega,by omega⟩,rfl⟩
    ·obtain rfl:j=N:=by omega
     simp only [Bz3w,Bz9o,Bzky,hol,decide_eq_false hltj,yz2,yz1,yzr,go_sem,yz0,J9,J8,J6,J7,J5,J0,J1,J2,reduceIte,J3,J4,reduceCtorEq]
     intros
     refine ⟨[.rf 12 i 901],yzf7 (k:=1) (nn:=true) rfl (yz5g hAi.symm) (by decide) rfl fun hf=>?_⟩
     have D1:=yz2f hdj hf (cur:=tabR (fun b=>bd A (lvl k i j i b) i b) j)
     have hset4:∀ X:AVal,(rwp A2 ++ AVal.own 901 m1 :: rwp C2).set i X=rwp A2 ++ X :: rwp C2:=fun X=>by
      rw [← hAi,List.set_append_right _ _ (by rw [yz7];exact Y1h _),yz7,Y1l];rfl
     simp only [hset4,yz99,yz5l,yzh,wi,yz2,yz1,go_sem,yz0,J9,J8,J6,J7,J5,J0,J1,J2,reduceIte,J3,J4,reduceCtorEq]
     intro vs13 U13 hN13
     refine ⟨(v5,i+1,A2 ++ (m1,tabR (fun b=>bd A (lvl k i j i b) i b) j) :: C2),by dsimp only;omega,⟨by dsimp only;omega,by dsimp only;omega,D1,?_⟩,rfl⟩
     have hrow:tabR (fun b=>bd A (lvl k i j i b) i b) j=tabR (fun b=>bd A (lvl k (i+1) (k+1) i b) i b) j:=yz15 fun b hb=>by rw [lvl_row hb]
     have hps3:=congrArg (fun l=>l.set i (tabR (fun b=>bd A (lvl k (i+1) (k+1) i b) i b) j)) hps
     rw [yzej (g:=fun a b=>bd A (lvl k (i+1) (k+1) a b) a b) fun a ha hne b hb=>by
      have:lvl k (i+1) (k+1) a b=lvl k i (k+1) a b:=by
       unfold lvl
       by_cases h:k<a∧k<b∧(a<i+1∨(a=i+1∧b<k+1))
       ·rw [if_pos h,if_pos (by omega)]
       ·rw [if_neg h,if_neg (by omega)]
      rw [this]] at hps3
     dsimp only
     rw [← hps3,hrow,Yc,Yc,Y1,Y1,List.set_append_right _ _ (by rw [Y6];omega),Y6,hAi,Y1l];rfl
   ·obtain rfl:i=N:=by omega
    simp only [yz7,hpl,Bz3x,Bz9n,Bzl1,decide_eq_false hlti,yz2,yz1,go_sem,yz0,J9,J8,J6,J7,J5,J0,J1,J2,reduceIte,J3,J4,reduceCtorEq]
    obtain ⟨A2,b,C2,rfl,hAk⟩:=yz1c (show k<ps.length by omega)
    have hb2:b.2=tabR (fun b=>bd A (lvl k i (k+1) k b) k b) i:=by
     have:=congrArg (fun l=>l.getD k []) hps
     rw [yz1j hk1,Yc,Y1,Y0,Yv (by rw [Y6];omega),Y6,hAk,Y1l] at this
     simpa using this
    have hok:(rwp (A2 ++ b :: C2)).getD k .any=.ro (some (some (b.1+1))) 1 (ints b.2):=rwp_at hAk.symm
    have l3':lvl k i (k+1) k k=k:=by unfold lvl;rw [if_neg (by omega)];omega
    have hg:b.2.getD k 0=bd A k k k:=by rw [hb2,yzp hk1,l3']
    have hbl:k<b.2.length:=by rw [hb2,yzg];exact hk1
    intro vs9 U9 hN9 hM9 vs10 U10 hN10
    simp only [hok,yz3 hbl,hg,wk,Bzl3,yz2,yz1,go_sem,yz0,J9,J8,J6,J7,J5,J0,J1,J2,reduceIte,J3,J4,reduceCtorEq]
    refine ⟨⟨by omega,hk1⟩,hk1,⟨by omega,hbl⟩,hbl,?_⟩
    intro vs11 U11 hN11
    refine ⟨(v5,k+1,A2 ++ b :: C2),by dsimp only;omega,⟨by dsimp only;omega,hdj,?_⟩,rfl⟩
    rw [hps]
    exact yz33 fun a ha b hb=>by rw [lvl_end ha]
  ·obtain rfl:k=N:=by omega
   simp only [Bz3y,Bz9p,Bzl6,decide_eq_false hltk,yz2,yz1,go_sem,yz0,J9,J8,J6,J7,J5,J0,J1,J2,reduceIte,J3,J4,reduceCtorEq]
   intro vs6 U6 hN6 vs7 U7 hN7
   simp only [← hQ,Az9q,go_sem,yz0,J9,J8,J6,J7,J5,J0,J1,J2,reduceIte,J3,J4,reduceCtorEq]
theorem bd_mul {x y:Int} (hx:-59049≤x∧x≤59049) (hy:-59049≤y∧y≤59049):-3486784401≤x * y∧x * y≤3486784401:=by
 have h1:(59049 - x) * (59049 - y) ≥ 0:=Int.mul_nonneg (by omega) (by omega)
 have h2:(59049+x) * (59049+y) ≥ 0:=Int.mul_nonneg (by omega) (by omega)
 have h3:(59049 - x) * (59049+y) ≥ 0:=Int.mul_nonneg (by omega) (by omega)
 have h4:(59049+x) * (59049 - y) ≥ 0:=Int.mul_nonneg (by omega) (by omega)
 have e1:(59049 - x) * (59049 - y)=3486784401 - 59049 * x - 59049 * y+x * y:=by grind
 have e2:(59049+x) * (59049+y)=3486784401+59049 * x+59049 * y+x * y:=by grind
 have e3:(59049 - x) * (59049+y)=3486784401 - 59049 * x+59049 * y - x * y:=by grind
 have e4:(59049+x) * (59049 - y)=3486784401+59049 * x - 59049 * y - x * y:=by grind
 omega
theorem gwp_tt {gs:List GStep} {K:St→Prop} {l:List (Nat×AVal)} {h:List (Nat×AObj)} {t i q n k k':Nat} {cs cs':List AVal} (hr:L .any l t=.ro (some (some 0)) k cs)
  (hi:cs[i]?=some (.ro (some (some (n+1))) k' cs')) (hne:cs'≠[]) (hq:L .gone h q=.gone)
  (hk:∀ m,gwp gs K ⟨L .any ((t,.ro (some (some 0)) k ((woL n cs).set i (.own q m))) :: woT n l),L .gone ((q,.row m k' true (woL n cs')) :: woO n h)⟩):gwp (.tt t i q :: gs) K ⟨L .any l,L .gone h⟩ :=
 ⟨k,cs,n,k',cs',hr,hi,hne,hq,fun m=>by rw [tt_L];exact hk m⟩
theorem tr_L {l:List (Nat×AVal)} {h:List (Nat×AObj)} {t i q ver k k':Nat} {nn':Bool} {cs cs':List AVal} :
  St.tr ⟨L .any l,L .gone h⟩ t i q ver k k' nn' cs cs'=⟨L .any ((t,.ro (some (some 0)) k (cs.set i (.ro (frNm nn' cs'.length ver) k' cs'))) :: l),L .gone ((q,.gone) :: h)⟩:=by
 unfold St.tr
 congr 1
theorem gwp_tr {gs:List GStep} {K:St→Prop} {l:List (Nat×AVal)} {h:List (Nat×AObj)} {t i q ver k k':Nat} {nn':Bool} {cs cs':List AVal} (ht:L .any l t=.ro (some (some 0)) k cs)
  (hi:cs[i]?=some (.own q ver)) (hq:L .gone h q=.row ver k' nn' cs')
  (hk:(∀ n k'' cs'',AVal.ro (some (some (n+1))) k'' cs''∈cs→cs''≠[]→n≠ver)→gwp gs K ⟨L .any ((t,.ro (some (some 0)) k (cs.set i (.ro (frNm nn' cs'.length ver) k' cs'))) :: l),L .gone ((q,.gone) :: h)⟩):gwp (.tr t i q :: gs) K ⟨L .any l,L .gone h⟩ :=
 ⟨k,cs,ver,k',nn',cs',ht,hi,hq,fun hd=>by rw [tr_L];exact hk hd⟩
theorem yzf2 (A:Nat→Nat→Int) (N:Nat) (hN:N≤9) (Z:ZM A N 0 1) (ps:List (Nat×List Int)) (hdj:DJ ps) (hps:ps.map (·.2)=tabM A N) :
  Con Tryz.prog nz61 [] [.ro (some (some 0)) 1 (rwp ps)] true fun outs rows res=>outs=[]∧rows=[]∧∃ v,v=.int .i64 (lead A N)∧res=.val v:=by
 refine yz38 mixed cztm rfl (by simp) ?_
 have hML:=yzc
 generalize hQ:finQ _=Q
 simp only [Azbp,Bzpc,yz2,yz1,go_sem,yz0,J9,J8,J6,J7,J5,J0,J1,J2,reduceIte,J3,J4,reduceCtorEq]
 intros
 simp only [Bzpb,Bzpa,Bzp8,yz2,yz1,go_sem,yz0,J9,J8,J6,J7,J5,J0,J1,J2,reduceIte,J3,J4,reduceCtorEq]
 intros
 have hps0:ps.map (·.2)=tabM (fun a b=>bd A (lvl 0 1 1 a b) a b) N:=by
  rw [hps]
  refine yz33 fun a _ b _=>?_
  have:lvl 0 1 1 a b=0:=by unfold lvl;rw [if_neg (by omega)];omega
  rw [this,yz2t]
 refine yz16 (fun (x:Nat×List (Nat×List Int))=>N - x.1) (fun x=>x.1≤N∧DJ x.2∧x.2.map (·.2)=tabM (fun a b=>bd A (lvl x.1 (x.1+1) (x.1+1) a b) a b) N)
  (fun (x:Nat×List (Nat×List Int))=>⟨L .any [(0,.ro (some (some 0)) 1 (rwp x.2)),(3,iv (lead A x.1)),(4,iv 1),(5,iv x.1)],
   L .gone [(5000,.gone),(901,.gone)]⟩)
  (0,ps) ⟨Y1j _,hdj,hps0⟩ (by simp only [Bz4k,lead,go_sem,yz0,J9,J8,J6,J7,J5,J0,J1,J2,reduceIte,J3,J4,reduceCtorEq];try rfl) ?_
 rintro ⟨k,ps⟩ ⟨hk,hdj,hps⟩
 have hk:k≤N:=hk
 have hdj:DJ ps:=hdj
 have hps:ps.map (·.2)=tabM (fun a b=>bd A (lvl k (k+1) (k+1) a b) a b) N:=hps
 have hpl:ps.length=N:=by
  have:=congrArg Yf hps
  simpa [tabM] using this
 by_cases hltk:(k:Int)<(N:Int)
 ·have hk1:k<N:=by omega
  have wk:IntKind.i64.wrap ((k:Int)+1)=((k+1:Nat):Int):=by rw [w64 (by omega)];simp
  have hl0:=yz5y Z hN hk
  have hl1:=yz5y Z hN (k:=k+1) hk1
  obtain ⟨A0,b0,C0,hp0,hA0⟩:=yz1c (show k<ps.length by omega)
  have hb0:b0.2=tabR (fun b=>bd A (lvl k (k+1) (k+1) k b) k b) N:=by
   have:=congrArg (fun l=>l.getD k []) hps
   rw [yz1j hk1,hp0,Yc,Y1,Y0,Yv (by rw [Y6];omega),Y6,hA0,Y1l] at this
   simpa using this
  have hok0:(rwp ps).getD k .any=.ro (some (some (b0.1+1))) 1 (ints b0.2):=by rw [hp0];exact rwp_at hA0.symm
  have l30:lvl k (k+1) (k+1) k k=k:=by unfold lvl;rw [if_neg (by omega)];omega
  have hg0:b0.2.getD k 0=bd A k k k:=by rw [hb0,yzp hk1,l30]
  have hbl0:k<b0.2.length:=by rw [hb0,yzg];exact hk1
  have hnz:(bd A k k k == (0:Int))=false:=by
   have:0<bd A k k k:=hl1.1
   rw [beq_eq_false_iff_ne];omega
  have hnl:((k:Int) == (N:Int))=false:=by rw [beq_eq_false_iff_ne];omega
  simp only [yz7,hpl,Bz4k,Bzbl,Bzp7,Bzp5,decide_eq_true hltk,yz2,yz1,go_sem,yz0,J9,J8,J6,J7,J5,J0,J1,J2,reduceIte,J3,J4,reduceCtorEq]
  intros
  refine yz16 (fun (_:Unit)=>0) (fun _=>True)
   (fun (_:Unit)=>⟨L .any [(0,.ro (some (some 0)) 1 (rwp ps)),(3,iv (lead A k)),(4,iv 1),(5,iv k),(6,iv k)],
    L .gone [(5000,.gone),(901,.gone)]⟩)
   () trivial (by simp only [Bzbm,go_sem,yz0,J9,J8,J6,J7,J5,J0,J1,J2,reduceIte,J3,J4,reduceCtorEq];try rfl) ?_
  intro _ _
  simp only [yz7,hpl,hok0,yz3 hbl0,hg0,hnz,Bzbm,Bzos,decide_eq_true hltk,yz2,yz1,go_sem,yz0,J9,J8,J6,J7,J5,J0,J1,J2,reduceIte,J3,J4,reduceCtorEq]
  intro vs9 U9 hN9 _
  refine ⟨⟨by omega,hk1⟩,hk1,⟨by omega,hbl0⟩,hbl0,?_⟩
  have hgt:decide ((k:Int) > (k:Int))=false:=by rw [decide_eq_false_iff_not];omega
  simp only [yz7,hpl,hnl,hgt,wk,Bzp4,Bzot,Bzp3,Bzou,Bzp2,Bzp0,yz2,yz1,go_sem,yz0,J9,J8,J6,J7,J5,J0,J1,J2,reduceIte,J3,J4,reduceCtorEq]
  intros
  refine yz16 (fun (x:Nat×List (Nat×List Int))=>N - x.1) (fun x=>k<x.1∧x.1≤N∧DJ x.2∧x.2.map (·.2)=tabM (fun a b=>bd A (lvl k x.1 (k+1) a b) a b) N)
   (fun (x:Nat×List (Nat×List Int))=>⟨L .any [(0,.ro (some (some 0)) 1 (rwp x.2)),(3,iv (lead A k)),(4,iv 1),(5,iv k),(8,iv x.1)],
    L .gone [(5000,.gone),(901,.gone)]⟩)
   (k+1,ps) ⟨by dsimp only;omega,hk1,hdj,hps⟩ (by simp only [Bz4j,go_sem,yz0,J9,J8,J6,J7,J5,J0,J1,J2,reduceIte,J3,J4,reduceCtorEq];try rfl) ?_
  clear hok0 hg0 hbl0 hb0 hp0
  clear hps hdj hpl
  rintro ⟨i,ps⟩ ⟨hki,hi,hdj,hps⟩
  have hki:k<i:=hki
  have hi:i≤N:=hi
  have hdj:DJ ps:=hdj
  have hps:ps.map (·.2)=tabM (fun a b=>bd A (lvl k i (k+1) a b) a b) N:=hps
  have hpl:ps.length=N:=by
   have:=congrArg Yf hps
   simpa [tabM] using this
  by_cases hlti:(i:Int)<(N:Int)
  ·have hi1:i<N:=by omega
   have wi:IntKind.i64.wrap ((i:Int)+1)=((i+1:Nat):Int):=by rw [w64 (by omega)];simp
   obtain ⟨A2,b,C2,rfl,hAi⟩:=yz1c (show i<ps.length by omega)
   have hb2:b.2=tabR (fun b=>bd A (lvl k i (k+1) i b) i b) N:=by
    have:=congrArg (fun l=>l.getD i []) hps
    rw [yz1j hi1,Yc,Y1,Y0,Yv (by rw [Y6];omega),Y6,hAi,Y1l] at this
    simpa using this
   have hbn:b.2≠[]:=fun e=>by
    have:=congrArg Yf hb2
    rw [e,yzg] at this
    simp at this;omega
   have F0a:=yzbz hdj hbn
   have hAk:∃ nm,A2[k]?=some (nm,tabR (fun b=>bd A (lvl k i (k+1) k b) k b) N):=by
    have hkl:k<A2.length:=by omega
    have:=congrArg (fun l=>l.getD k []) hps
    rw [yz1j hk1,Yc,Y0,Y10 (by rw [Y6];omega),Yd,Y2 hkl] at this
    refine ⟨A2[k].1,?_⟩
    rw [Y2 hkl]
    simp only [Y1z,Y1x] at this
    rw [← this]
   obtain ⟨nmk,hAk⟩:=hAk
   simp only [yz7,Bz4j,Bzbn,Bzoz,hpl,decide_eq_true hlti,yz2,yz1,yzr,go_sem,yz0,J9,J8,J6,J7,J5,J0,J1,J2,reduceIte,J3,J4,reduceCtorEq]
   intro vs9 U9 hN9 hM9
   intro _
   refine ⟨[.tt 0 i 901],gwp_tt (n:=b.1) rfl (yz65 hAi.symm) (by simpa using hbn) rfl fun m1=>?_⟩
   have hset:(woL b.1 (rwp (A2 ++ b :: C2))).set i (AVal.own 901 m1)=rwp A2 ++ AVal.own 901 m1 :: rwp C2:=by rw [← hAi];exact yz5j F0a
   have ho1:(rwp A2 ++ AVal.own 901 m1 :: rwp C2).getD i .any=.own 901 m1:=yzbx hAi.symm
   have hok:(rwp A2 ++ AVal.own 901 m1 :: rwp C2).getD k .any=.ro (some (some (nmk+1))) 1 (ints (tabR (fun b=>bd A (lvl k i (k+1) k b) k b) N)):=by
    rw [Y0,Y10 (by rw [yz7];omega)]
    unfold rwp
    rw [Yd,hAk];rfl
   have hol:(rwp A2 ++ AVal.own 901 m1 :: rwp C2).length=N:=by
    rw [Y5,Ye,yz7,yz7]
    rw [Y5,Ye] at hpl
    exact hpl
   have hil:i<(rwp A2 ++ AVal.own 901 m1 :: rwp C2).length:=by omega
   have hkl:k<(rwp A2 ++ AVal.own 901 m1 :: rwp C2).length:=by omega
   simp only [hset,woT,woO,yz1y,yz3q,yz3p,yz3o,yz7i,wo_o,yz27,wo_st,yz3l,yz3n,yz2b,yz7w,yzh,wk,yz2,yz1,go_sem,yz0,J9,J8,J6,J7,J5,J0,J1,J2,reduceIte,J3,J4,reduceCtorEq]
   intro vs10 U10 hN10
   simp only [Bzox,yz2,yz1,go_sem,yz0,J9,J8,J6,J7,J5,J0,J1,J2,reduceIte,J3,J4,reduceCtorEq]
   rw [hb2]
   refine yz16 (fun (x:Nat)=>N - x) (fun x=>k<x∧x≤N)
    (fun (x:Nat)=>⟨L .any [(0,.ro (some (some 0)) 1 (rwp A2 ++ .own 901 m1 :: rwp C2)),(3,iv (lead A k)),(4,iv 1),(5,iv k),(8,iv i),(9,iv x)],
     L .gone [(5000,.gone),(901,.row m1 1 true (ints (tabR (fun b=>bd A (lvl k i x i b) i b) N)))]⟩)
    (k+1) ⟨by omega,hk1⟩ (by simp only [Bz4i,go_sem,yz0,J9,J8,J6,J7,J5,J0,J1,J2,reduceIte,J3,J4,reduceCtorEq];try rfl) ?_
   rintro j ⟨hkj,hj⟩
   by_cases hltj:(j:Int)<(N:Int)
   ·have hj1:j<N:=by omega
    have wj:IntKind.i64.wrap ((j:Int)+1)=((j+1:Nat):Int):=by rw [w64 (by omega)];simp
    obtain ⟨l1,l2,l3,l4⟩:=lvl_in hki hkj
    have l3':lvl k i (k+1) k k=k:=by unfold lvl;rw [if_neg (by omega)];omega
    have l4':lvl k i (k+1) k j=k:=by unfold lvl;rw [if_neg (by omega)];omega
    have c1:=bd_rg Z hN (k:=k) (i:=i) (j:=j) (by omega) hi1 (by omega) hj1
    have c2:=bd_rg Z hN (k:=k) (i:=k) (j:=k) (Y1h k) hk1 (Y1h k) hk1
    have c3:=bd_rg Z hN (k:=k) (i:=i) (j:=k) (by omega) hi1 (Y1h k) hk1
    have c4:=bd_rg Z hN (k:=k) (i:=k) (j:=j) (Y1h k) hk1 (by omega) hj1
    have hst:=bd_step Z hki hi1 hkj hj1
    have g1:(tabR (fun b=>bd A (lvl k i j i b) i b) N).getD j 0=bd A k i j:=by rw [yzp hj1,l1]
    have g2:(tabR (fun b=>bd A (lvl k i (k+1) k b) k b) N).getD k 0=bd A k k k:=by rw [yzp hk1,l3']
    have g3:(tabR (fun b=>bd A (lvl k i j i b) i b) N).getD k 0=bd A k i k:=by rw [yzp hk1,l2]
    have g4:(tabR (fun b=>bd A (lvl k i (k+1) k b) k b) N).getD j 0=bd A k k j:=by rw [yzp hj1,l4']
    have hset2:(tabR (fun b=>bd A (lvl k i j i b) i b) N).set j (bd A (k+1) i j)=tabR (fun b=>bd A (lvl k i (j+1) i b) i b) N:=yz3b fun b hb=>by
     rw [yze9 hki hkj]
     by_cases e:b=j
     ·subst e;rw [if_pos ⟨rfl,rfl⟩,if_pos rfl]
     ·rw [if_neg (fun h=>e h.2),if_neg e]
    have hl1:(tabR (fun b=>bd A (lvl k i j i b) i b) N).length=N:=yzg
    have hl2:(tabR (fun b=>bd A (lvl k i (k+1) k b) k b) N).length=N:=yzg
    have hjl1:j<(tabR (fun b=>bd A (lvl k i j i b) i b) N).length:=by omega
    have hkl1:k<(tabR (fun b=>bd A (lvl k i j i b) i b) N).length:=by omega
    have hjl2:j<(tabR (fun b=>bd A (lvl k i (k+1) k b) k b) N).length:=by omega
    have hkl2:k<(tabR (fun b=>bd A (lvl k i (k+1) k b) k b) N).length:=by omega
    generalize tabR (fun b=>bd A (lvl k i j i b) i b) N=R1 at g1 g3 hset2 hl1 hjl1 hkl1
    generalize tabR (fun b=>bd A (lvl k i (k+1) k b) k b) N=R2 at g2 g4 hl2 hjl2 hkl2 hok
    have m1':=bd_mul c1 c2
    have m2':=bd_mul c3 c4
    have cn:=bd_rg Z hN (k:=k+1) (i:=i) (j:=j) (by omega) hi1 (by omega) hj1
    have w1:IntKind.i64.wrap (bd A k k k * bd A k i j)=bd A k i j * bd A k k k:=by rw [Int.mul_comm];exact w64 (by omega)
    have w2:IntKind.i64.wrap (bd A k i k * bd A k k j)=bd A k i k * bd A k k j:=w64 (by omega)
    have w3:IntKind.i64.wrap (bd A k i j * bd A k k k - bd A k i k * bd A k k j)=bd A k i j * bd A k k k - bd A k i k * bd A k k j:=w64 (by omega)
    have w4:IntKind.i64.wrap (bd A (k+1) i j)=bd A (k+1) i j:=w64 (by omega)
    have hl00:¬ lead A k=0:=by omega
    simp only [Bz4i,Bzbo,hol,decide_eq_true hltj,yz2,yz1,go_sem,yz0,J9,J8,J6,J7,J5,J0,J1,J2,reduceIte,J3,J4,reduceCtorEq]
    intro vs11 U11 hN11 hM11 vs12 U12 hN12
    simp only [Bzow,ho1,hok,yz3 hjl1,yz3 hkl1,yz3 hjl2,yz3 hkl2,g1,g2,g3,g4,w1,w2,w3,hst,w4,hl00,if_false,hol,yz2,yz1,go_sem,yz0,J9,J8,J6,J7,J5,J0,J1,J2,reduceIte,J3,J4,reduceCtorEq]
    refine ⟨⟨by omega,hi1⟩,hi1,⟨by omega,hk1⟩,hk1,⟨by omega,hkl2⟩,hkl2,⟨by omega,hi1⟩,hi1,⟨by omega,hjl1⟩,hjl1,⟨by omega,hi1⟩,hi1,⟨by omega,hkl1⟩,hkl1,⟨by omega,hk1⟩,hk1,⟨by omega,hjl2⟩,hjl2,⟨by omega,hjl1⟩,hjl1,?_⟩
    simp only [yz37 hjl1,hset2,Bzov,wj,yz2,yz1,go_sem,yz0,J9,J8,J6,J7,J5,J0,J1,J2,reduceIte,J3,J4,reduceCtorEq]
    intro vs13 U13 hN13
    exact ⟨j+1,by omega,⟨by omega,by omega⟩,rfl⟩
   ·obtain rfl:j=N:=by omega
    simp only [Bz4i,Bzbo,Bzoy,hol,decide_eq_false hltj,yz2,yz1,yzr,go_sem,yz0,J9,J8,J6,J7,J5,J0,J1,J2,reduceIte,J3,J4,reduceCtorEq]
    intros
    refine ⟨[.tr 0 i 901],gwp_tr (k:=1) rfl (yz5g hAi.symm) rfl fun hf=>?_⟩
    have D1:=yz2f hdj hf (cur:=tabR (fun b=>bd A (lvl k i j i b) i b) j)
    have hset4:∀ X:AVal,(rwp A2 ++ AVal.own 901 m1 :: rwp C2).set i X=rwp A2 ++ X :: rwp C2:=fun X=>by
     rw [← hAi,List.set_append_right _ _ (by rw [yz7];exact Y1h _),yz7,Y1l];rfl
    simp only [hset4,yz99,yz5l,yzh,wi,yz2,yz1,go_sem,yz0,J9,J8,J6,J7,J5,J0,J1,J2,reduceIte,J3,J4,reduceCtorEq]
    intro vs13 U13 hN13
    refine ⟨(i+1,A2 ++ (m1,tabR (fun b=>bd A (lvl k i j i b) i b) j) :: C2),by dsimp only;omega,⟨by dsimp only;omega,by dsimp only;omega,D1,?_⟩,rfl⟩
    have hrow:tabR (fun b=>bd A (lvl k i j i b) i b) j=tabR (fun b=>bd A (lvl k (i+1) (k+1) i b) i b) j:=yz15 fun b hb=>by rw [lvl_row hb]
    have hps3:=congrArg (fun l=>l.set i (tabR (fun b=>bd A (lvl k (i+1) (k+1) i b) i b) j)) hps
    rw [yzej (g:=fun a b=>bd A (lvl k (i+1) (k+1) a b) a b) fun a ha hne b hb=>by
     have:lvl k (i+1) (k+1) a b=lvl k i (k+1) a b:=by
      unfold lvl
      by_cases h:k<a∧k<b∧(a<i+1∨(a=i+1∧b<k+1))
      ·rw [if_pos h,if_pos (by omega)]
      ·rw [if_neg h,if_neg (by omega)]
     rw [this]] at hps3
    dsimp only
    rw [← hps3,hrow,Yc,Yc,Y1,Y1,List.set_append_right _ _ (by rw [Y6];omega),Y6,hAi,Y1l];rfl
  ·obtain rfl:i=N:=by omega
   simp only [yz7,hpl,Bz4j,Bzbn,Bzp1,decide_eq_false hlti,yz2,yz1,go_sem,yz0,J9,J8,J6,J7,J5,J0,J1,J2,reduceIte,J3,J4,reduceCtorEq]
   obtain ⟨A2,b,C2,rfl,hAk⟩:=yz1c (show k<ps.length by omega)
   have hb2:b.2=tabR (fun b=>bd A (lvl k i (k+1) k b) k b) i:=by
    have:=congrArg (fun l=>l.getD k []) hps
    rw [yz1j hk1,Yc,Y1,Y0,Yv (by rw [Y6];omega),Y6,hAk,Y1l] at this
    simpa using this
   have hok:(rwp (A2 ++ b :: C2)).getD k .any=.ro (some (some (b.1+1))) 1 (ints b.2):=rwp_at hAk.symm
   have l3':lvl k i (k+1) k k=k:=by unfold lvl;rw [if_neg (by omega)];omega
   have hg:b.2.getD k 0=bd A k k k:=by rw [hb2,yzp hk1,l3']
   have hbl:k<b.2.length:=by rw [hb2,yzg];exact hk1
   intro vs9 U9 hN9 hM9 vs10 U10 hN10
   simp only [hok,yz3 hbl,hg,wk,Bzp6,yz2,yz1,go_sem,yz0,J9,J8,J6,J7,J5,J0,J1,J2,reduceIte,J3,J4,reduceCtorEq]
   refine ⟨⟨by omega,hk1⟩,hk1,⟨by omega,hbl⟩,hbl,?_⟩
   intro vs11 U11 hN11
   refine ⟨(k+1,A2 ++ b :: C2),by dsimp only;omega,⟨by dsimp only;omega,hdj,?_⟩,rfl⟩
   rw [hps]
   exact yz33 fun a ha b hb=>by rw [lvl_end ha]
 ·obtain rfl:k=N:=by omega
  have hl0:=yz5y Z hN hk
  have w1:IntKind.i64.wrap (1 * lead A k)=lead A k:=by rw [Int.one_mul];exact w64 (by omega)
  simp only [yz7,hpl,w1,Bz4k,Bzbl,Bzp9,decide_eq_false hltk,yz2,yz1,go_sem,yz0,J9,J8,J6,J7,J5,J0,J1,J2,reduceIte,J3,J4,reduceCtorEq]
  intros
  simp only [← hQ,Azbp,rsA,AVal.fresh,freshL,AObj.fresh,id,Y1v,go_sem,yz0,J9,J8,J6,J7,J5,J0,J1,J2,reduceIte,J3,J4,reduceCtorEq]
  exact ⟨[],by simp,by simp,by simp,rfl,_,rfl,rfl⟩
end Go.Ab
namespace Go.Ab
open Go Go.Proofs Go.Sort
end Go.Ab
namespace Go.Ab
open Go.Proofs
abbrev fv (f:Nat):AVal:=.val (.int .u64 (f:Int))
theorem u64w {n:Nat} (h:n<18446744073709551616):IntKind.u64.wrap (n:Int)=n:=IntWalk.u64_in _ (by omega)
theorem bv64 {x:Nat} (h:x<18446744073709551616):(BitVec.ofInt 64 (x:Int)).toNat=x:=by
 rw [BitVec.ofInt_natCast,BitVec.toNat_ofNat,Nat.mod_eq_of_lt h]
theorem u_or {x y:Nat} (hx:x<18446744073709551616) (hy:y<18446744073709551616) :
  IntKind.u64.wrap ((BitVec.ofInt 64 (x:Int) ||| BitVec.ofInt 64 (y:Int)).toNat)=((x ||| y:Nat):Int):=by
 have h:(BitVec.ofInt 64 (x:Int) ||| BitVec.ofInt 64 (y:Int)).toNat=x ||| y:=by rw [BitVec.toNat_or,bv64 hx,bv64 hy]
 show IntKind.u64.wrap ((BitVec.ofInt 64 (x:Int) ||| BitVec.ofInt 64 (y:Int)).toNat:Int)=_
 rw [h];exact u64w (Nat.or_lt_two_pow (n:=64) hx hy)
theorem u_and {x y:Nat} (hx:x<18446744073709551616) (hy:y<18446744073709551616) :
  IntKind.u64.wrap ((BitVec.ofInt 64 (x:Int) &&& BitVec.ofInt 64 (y:Int)).toNat)=((x &&& y:Nat):Int):=by
 have h:(BitVec.ofInt 64 (x:Int) &&& BitVec.ofInt 64 (y:Int)).toNat=x &&& y:=by rw [BitVec.toNat_and,bv64 hx,bv64 hy]
 show IntKind.u64.wrap ((BitVec.ofInt 64 (x:Int) &&& BitVec.ofInt 64 (y:Int)).toNat:Int)=_
 rw [h];exact u64w (Nat.lt_of_le_of_lt Nat.and_le_left hx)
theorem u_and1 {x:Nat} (hx:x<18446744073709551616) :
  IntKind.u64.wrap ((@HAnd.hAnd (BitVec 64) (BitVec 64) (BitVec 64) (@instHAndOfAndOp (BitVec IntKind.u64.bits) (@BitVec.instAndOp IntKind.u64.bits)) (BitVec.ofInt 64 (x:Int)) (BitVec.ofInt 64 1)).toNat)=((x &&& 1:Nat):Int):=u_and (y:=1) hx (by omega)
theorem u_andW {x y:Nat} (hx:x<18446744073709551616) (hy:y<18446744073709551616) :
  IntKind.u64.wrap ((@HAnd.hAnd (BitVec 64) (BitVec 64) (BitVec 64) (@instHAndOfAndOp (BitVec IntKind.u64.bits) (@BitVec.instAndOp IntKind.u64.bits)) (BitVec.ofInt 64 (x:Int)) (BitVec.ofInt 64 (y:Int))).toNat)=((x &&& y:Nat):Int):=u_and hx hy
theorem u_orW {x y:Nat} (hx:x<18446744073709551616) (hy:y<18446744073709551616) :
  IntKind.u64.wrap ((@HOr.hOr (BitVec 64) (BitVec 64) (BitVec 64) (@instHOrOfOrOp (BitVec IntKind.u64.bits) (@BitVec.instOrOp IntKind.u64.bits)) (BitVec.ofInt 64 (x:Int)) (BitVec.ofInt 64 (y:Int))).toNat)=((x ||| y:Nat):Int):=u_or hx hy
theorem u_shl {b:Nat} (h:b<64):IntKind.u64.wrap (1 * 2 ^ min b 64)=((2 ^ b:Nat):Int):=by
 have h1:min b 64=b:=by omega
 have h2:(2:Int) ^ b=((2 ^ b:Nat):Int):=by simp
 rw [h1,Int.one_mul,h2]
 exact u64w (Nat.pow_lt_pow_right (a:=2) (n:=64) (by omega) h)
theorem u_shr {f s:Nat} (h:s≤64):((f:Int)).fdiv (2 ^ min s 64)=((f >>> s:Nat):Int):=by
 have h1:min s 64=s:=by omega
 have h2:(2:Int) ^ s=((2 ^ s:Nat):Int):=by simp
 rw [h1,h2,Y1s,Int.fdiv_eq_ediv_of_nonneg _ (Int.natCast_nonneg _)]
 rfl
def bitsTo (f s:Nat):List Int:=((Ya s).filter fun k=>f.testBit k).map fun (k:Nat)=>(k:Int)
theorem yz1r {f s:Nat}:bitsTo f (s+1)=if f.testBit s=true then bitsTo f s ++ [(s:Int)] else bitsTo f s:=by
 unfold bitsTo
 rw [List.range_succ,List.filter_append]
 cases h:f.testBit s with
 | true=>simp [h]
 | false=>simp [h]
theorem yz31 {f s:Nat}:(bitsTo f s).length≤s:=by
 unfold bitsTo
 rw [Y6]
 have:=List.length_filter_le (fun k=>f.testBit k) (Ya s)
 rw [List.length_range] at this;exact this
theorem yz5b {f s:Nat} (h:f<2 ^ s):∀ d,bitsTo f (s+d)=bitsTo f s
 | 0=>rfl
 | d+1=>by
  rw [show s+(d+1)=s+d+1 by omega,yz1r,Nat.testBit_lt_two_pow (Y1i h (Y1k (by omega) (by omega))),if_neg (by simp),yz5b h d]
theorem yzer {a k:Nat}:decide (a=k)=Nat.beq a k:=by
 rw [Bool.eq_iff_iff,decide_eq_true_iff,Nat.beq_eq]
theorem shr_zero {f s:Nat}:f >>> s=0↔f<2 ^ s:=by
 rw [Y1s,Nat.div_eq_zero_iff]
 have:=Y1r s
 omega
theorem yz5m (f:Nat) (h:f<1024):RowI Tryz.prog nz1t [fv f] (fun ys=>ys=bitsTo f 10):=by
 refine yz1k mixed czs7 rfl ?_
 simp only [Azib,Bzia,Bzi9,Bzi7,go_sem,yz0,J9,J8,J6,J7,J5,J0,J1,J2,reduceIte,J3,J4,reduceCtorEq]
 intro vs
 refine yzo (fun (_,s)=>10 - s) (fun (_,s)=>s≤10) (fun ((v,s):Nat×Nat)=>⟨L .any [(0,fv f),(3,.own 5 v),(4,iv s)],L .gone [(5,.row v 1 true (ints (bitsTo f s)))]⟩)
  (_,0) (by simp) (by simp only [Bz11,go_sem,yz0,J9,J8,J6,J7,J5,J0,J1,J2,reduceIte,J3,J4,reduceCtorEq];try rfl) ?_
 rintro ⟨v,s⟩ hs
 have hs:s≤10:=hs
 have hs0:¬ ((s:Nat):Int)<0:=by omega
 have hsh:=u_shr (f:=f) (s:=s) (by omega)
 have hlt:f >>> s<18446744073709551616:=by rw [Y1s];exact Nat.lt_of_le_of_lt (Nat.div_le_self _ _) (by omega)
 by_cases hz:(0:Int)<((f >>> s:Nat):Int)
 ·have hs10:s<10:=by
   by_cases e:s<10
   ·exact e
   ·have:f >>> s=0:=shr_zero.2 (Y1i (show f<2 ^ 10 from h) (Y1k (by omega) (by omega)))
    omega
  have hand:=u_and1 hlt
  have hbit:((((f >>> s &&& 1:Nat):Int)) == 1)=f.testBit s:=by
   rw [Nat.testBit_eq_decide_div_mod_eq,Nat.and_one_is_mod,Y1s,Bool.eq_iff_iff,beq_iff_eq,decide_eq_true_iff]
   generalize f / 2 ^ s % 2=q
   omega
  have w1:IntKind.i64.wrap ((s:Int)+1)=((s+1:Nat):Int):=by rw [w64 (by omega)];simp
  cases hb:f.testBit s with
  | true =>
   rw [hb] at hbit
   have hr:bitsTo f s ++ [(s:Int)]=bitsTo f (s+1):=by rw [yz1r,if_pos hb]
   have hl:=yz31 (f:=f) (s:=s)
   simp only [Bz11,Bz3g,Bz3h,Bz8e,Bz8f,hs0,hsh,hand,hbit,w1,hr,decide_eq_true hz,go_sem,yz0,J9,J8,J6,J7,J5,J0,J1,J2,reduceIte,J3,J4,reduceCtorEq]
   intro vs2
   exact ⟨⟨_,rfl,rfl⟩,by omega,(_,s+1),by dsimp only;omega,by dsimp only;omega,rfl⟩
  | false =>
   rw [hb] at hbit
   have hr:bitsTo f s=bitsTo f (s+1):=by rw [yz1r,if_neg (by simp [hb])]
   simp only [Bz11,Bz3g,Bz3h,Bz8e,Bz8f,hs0,hsh,hand,hbit,w1,decide_eq_true hz,go_sem,yz0,J9,J8,J6,J7,J5,J0,J1,J2,reduceIte,J3,J4,reduceCtorEq]
   refine ⟨(v,s+1),by dsimp only;omega,by dsimp only;omega,?_⟩
   dsimp only
   rw [← hr]
 ·have he:bitsTo f 10=bitsTo f s:=by
   have h1:f >>> s=0:=Nat.eq_zero_of_not_pos fun e=>hz (Int.natCast_pos.2 e)
   have h2:=yz5b (shr_zero.1 h1) (10 - s)
   rw [show s+(10 - s)=10 by omega] at h2;exact h2
  simp only [Bz11,Bz3g,Bz3h,Bzi8,hs0,hsh,decide_eq_false hz,he,go_sem,yz0,J9,J8,J6,J7,J5,J0,J1,J2,reduceIte,J3,J4,reduceCtorEq]
  exact ⟨5,v,_,by omega,rfl,by simp only [go_sem,yz0,J9,J8,J6,J7,J5,J0,J1,J2,reduceIte,J3,J4,reduceCtorEq],rfl⟩
theorem yz6c {α β:Type} (xs:List α) (g:β→α→β) (o:β) (d:α) {i:Nat} (h:i<xs.length):g ((xs.take i).foldl g o) (xs.getD i d)=(xs.take (i+1)).foldl g o:=by
 rw [Y1a h,List.foldl_append,Y0,Y2 h];rfl
theorem yz9d {set:List Int} (h:∀ s∈set,0≤s∧s<10):maskN set<1024:=yzea (fun s:Int=>s.toNat) set 0 (fun x hx=>by have:=h x hx;omega) (by omega)
theorem yz40 (set:List Int) (h:∀ s∈set,0≤s∧s<10):Fun Tryz.prog nzc [.ro none 1 (ints set)] (fv (maskN set)):=by
 refine yzd mixed czs4 rfl ⟨rfl,trivial⟩ ?_
 simp only [Azhx,Bzhw,Bzhv,Bzht,go_sem,yz0,J9,J8,J6,J7,J5,J0,J1,J2,reduceIte,J3,J4,reduceCtorEq]
 intro hM
 have hM2:=yzc
 refine yzo (fun i=>set.length - i) (fun i=>i≤set.length)
  (fun i:Nat=>⟨L .any [(3,fv (maskN (set.take i))),(6,.ro none 1 (ints set)),(7,iv set.length),(8,iv i)],L .gone []⟩) 0 (by simp) (by simp only [Bz3e,go_sem,yz0,J9,J8,J6,J7,J5,J0,J1,J2,reduceIte,J3,J4,reduceCtorEq];try rfl) ?_
 rintro i hi
 by_cases hlt:(i:Int)<set.length
 ·have hlt1:i<set.length:=by omega
  have hs:=h _ (yz4 hlt1 0)
  have hs0:¬ set.getD i 0<0:=by omega
  have h1:=yz9d (set:=set.take i) (fun s hs=>h s (Y1d hs))
  have h2:=yz4f (k:=(set.getD i 0).toNat) (by omega)
  have hsl:=u_shl (b:=(set.getD i 0).toNat) (by omega)
  have hor:=u_orW (x:=maskN (set.take i)) (y:=2 ^ (set.getD i 0).toNat) (by omega) (by omega)
  have hr:maskN (set.take i) ||| 2 ^ (set.getD i 0).toNat=maskN (set.take (i+1)):=yz6c set (fun o s=>o ||| 2 ^ s.toNat) 0 0 hlt1
  simp only [Bz3e,Bz8a,Bz89,Bzhr,Bzhs,yz3 hlt1,hs0,hsl,hor,hr,nat1 i _ hlt1 hM,decide_eq_true hlt,go_sem,yz0,J9,J8,J6,J7,J5,J0,J1,J2,reduceIte,J3,J4,reduceCtorEq]
  exact ⟨⟨by omega,hlt1⟩,hlt1,i+1,by omega,by omega,rfl⟩
 ·have:i=set.length:=by omega
  subst this
  simp only [Bz3e,Bz8a,Bz89,Bzhu,decide_eq_false hlt,Y11,go_sem,yz0,J9,J8,J6,J7,J5,J0,J1,J2,reduceIte,J3,J4,reduceCtorEq]
theorem k_isSmall (f:Nat) (h:f<1024):Fun Tryz.prog nz7 [fv f] (bv (smallN f)):=by
 refine yzd mixed czt4 rfl ⟨rfl,trivial⟩ ?_
 by_cases h0:f=0
 ·subst h0
  simp only [Azag,Bzaf,go_sem,yz0,J9,J8,J6,J7,J5,J0,J1,J2,reduceIte,J3,J4,reduceCtorEq]
  rfl
 ·have e:IntKind.u64.wrap ((f:Int) - 1)=((f - 1:Nat):Int):=by rw [show (f:Int) - 1=((f - 1:Nat):Int) by omega];exact u64w (by omega)
  have hand:=u_andW (x:=f) (y:=f - 1) (by omega) (by omega)
  have hb:((((f &&& (f - 1):Nat)):Int) == 0)=smallN f:=by
   unfold smallN
   rw [← yzer,Bool.eq_iff_iff,beq_iff_eq,decide_eq_true_iff];omega
  simp only [Azag,Bzaf,e,hand,hb,go_sem,yz0,J9,J8,J6,J7,J5,J0,J1,J2,reduceIte,J3,J4,reduceCtorEq]
theorem yz8u (xs:List Nat) (g:FuncId) (caps:List AVal) (p:Nat→Bool) (hc:Caps caps) (h:∀ x∈xs,Fun Tryz.prog g (fv x :: caps) (bv (p x))) :
  Fun Tryz.prog nz29 [.ro none 1 (intsK .u64 (xs.map fun (x:Nat)=>(x:Int))),.clo g caps] (iv (fidx p xs 0)):=by
 refine yzd mixed cztu rfl ⟨rfl,trivial⟩ ?_
 simp only [Azqa,Bzq9,hc.dn,go_sem,yz0,J9,J8,J6,J7,J5,J0,J1,J2,reduceIte,J3,J4,reduceCtorEq]
 intro hM
 have hM2:=yzc
 have hM:(xs.length:Int)≤maxLen:=by simpa using hM
 simp only [Bzq7,hc.dn,go_sem,yz0,J9,J8,J6,J7,J5,J0,J1,J2,reduceIte,J3,J4,reduceCtorEq]
 refine yzo (fun i=>xs.length - i) (fun i=>i≤xs.length∧fidx p (xs.drop i) i=fidx p xs 0)
  (fun i:Nat=>⟨L .any [(0,.ro none 1 (intsK .u64 (xs.map fun (x:Nat)=>(x:Int)))),(1,.clo g caps),(7,iv xs.length),(8,iv i)],L .gone []⟩) 0 (by simp) (by simp only [Bz4u,hc.dn,go_sem,yz0,J9,J8,J6,J7,J5,J0,J1,J2,reduceIte,J3,J4,reduceCtorEq];try rfl) ?_
 rintro i ⟨hi,he⟩
 by_cases hlt:(i:Int)<xs.length
 ·have hlt':i<xs.length:=by omega
  have hlm:i<(xs.map fun (x:Nat)=>(x:Int)).length:=by simpa using hlt'
  have hg:(xs.map fun (x:Nat)=>(x:Int)).getD i 0=((xs.getD i 0:Nat):Int):=by
   rw [Y0,Yd,Y2 hlt',Y0,Y2 hlt'];rfl
  have w1:IntKind.i64.wrap ((i:Int)+1)=((i+1:Nat):Int):=by rw [w64 (by omega)];simp
  rw [yzn hlt' 0] at he
  simp only [fidx] at he
  simp only [Bz4u,Bzc0,Bzbz,Bzq5,yz3 hlm,hg,decide_eq_true hlt,hc.dn,go_sem,yz0,J9,J8,J6,J7,J5,J0,J1,J2,reduceIte,J3,J4,reduceCtorEq]
  intro vs
  refine ⟨⟨by omega,hlt'⟩,hlt',?_⟩
  refine yz5 (h _ (yz4 hlt' 0)) (by simp only [csA,rowIs,boxIs,J3,ne_eq,reduceCtorEq,exists_eq_left,exists_eq_right,Y8,Yi,exists_eq_left',exists_and_left,exists_eq,Y1,Yb,AObj.ver,J5];exact hc.coe _ _ _) trivial ?_
  simp only [Bzq4,Bzq6,w1,hc.dn,go_sem,yz0,J9,J8,J6,J7,J5,J0,J1,J2,reduceIte,J3,J4,reduceCtorEq]
  refine ⟨fun hp=>?_,fun hp=>⟨i+1,by omega,⟨by omega,?_⟩,rfl⟩⟩
  ·rw [hp] at he;simp at he;rw [← he]
  ·rw [hp] at he;simpa using he
 ·have:i=xs.length:=by omega
  subst this
  rw [Y14] at he
  simp only [fidx] at he
  simp only [Bz4u,Bzc0,Bzbz,Bzq8,decide_eq_false hlt,hc.dn,go_sem,yz0,J9,J8,J6,J7,J5,J0,J1,J2,reduceIte,J3,J4,reduceCtorEq]
  rw [← he]
def stepTo (row set:List Int):Nat:=set.foldl (fun o s=>o ||| 2 ^ (row.getD s.toNat 0).toNat) 0
theorem yze7 {row:List Int} {f:Nat}:stepTo row (bitsTo f 10)=stepN row f:=by
 unfold stepTo stepN bitsTo bitsN
 rw [List.foldl_map]
 rfl
theorem k_step (n:Int) (next:List (List Int)) (A:Aut n next) (f l:Nat) (hf:f<2 ^ n.toNat) (hl:l<next.length) :
  Fun Tryz.prog nz65 [autA n next,fv f,iv l] (fv (stepN (next.getD l []) f)):=by
 refine yzd mixed cztt rfl ⟨rfl,trivial⟩ ?_
 have n1:=A.n1
 have n2:=A.n2
 have hf10:f<1024:=Y1i hf (Y1k (by omega) (show n.toNat≤10 by omega))
 have hrow:=A.row _ (yz4 hl [])
 have hset:∀ s∈bitsTo f 10,0≤s∧s<n:=fun s hs=>by
  unfold bitsTo at hs
  obtain ⟨k,hk,rfl⟩:=Y3.1 hs
  have:=yz2l hf (show k∈bitsN f from hk)
  omega
 have hto:∀ s∈bitsTo f 10,((next.getD l []).getD s.toNat 0).toNat<10:=fun s hs=>by
  have h1:=hset s hs
  have:=hrow.2 _ (yz4 (show s.toNat<(next.getD l []).length by omega) 0)
  omega
 simp only [Azq3,Bzq2,go_sem,yz0,J9,J8,J6,J7,J5,J0,J1,J2,reduceIte,J3,J4,reduceCtorEq]
 intro vs
 simp only [Bzq1,go_sem,yz0,J9,J8,J6,J7,J5,J0,J1,J2,reduceIte,J3,J4,reduceCtorEq]
 intro vs2
 refine yzm (yz5m f hf10) qCS rfl ⟨_,rfl⟩ ?_
 rintro ys v rfl
 simp only [Bzpz,go_sem,yz0,J9,J8,J6,J7,J5,J0,J1,J2,reduceIte,J3,J4,reduceCtorEq]
 intro hM
 have hM2:=yzc
 generalize hS:bitsTo f 10=set at hset hto hM ⊢
 refine yzo (fun i=>set.length - i) (fun i=>i≤set.length)
  (fun i:Nat=>⟨L .any [(2,iv l),(3,.ptr 3 (vs 0 0) 0),(7,fv (stepTo (next.getD l []) (set.take i))),(11,.own 11 v),(12,iv set.length),(13,iv i)],L .gone [(3,.box (vs 0 0) [iv n,.ro none 1 (rwn next)]),(11,.row v 1 true (ints set))]⟩) 0 (by simp) (by simp only [Bz4t,go_sem,yz0,J9,J8,J6,J7,J5,J0,J1,J2,reduceIte,J3,J4,reduceCtorEq];try rfl) ?_
 rintro i hi
 by_cases hlt:(i:Int)<set.length
 ·have hlt1:i<set.length:=by omega
  have hs:=hset _ (yz4 hlt1 0)
  have ht:=hto _ (yz4 hlt1 0)
  have hc:(set.getD i 0).toNat<(next.getD l []).length:=by omega
  have hv:=hrow.2 _ (yz4 hc 0)
  have hs0:¬ (next.getD l []).getD (set.getD i 0).toNat 0<0:=by omega
  have h1:stepTo (next.getD l []) (set.take i)<1024:=yzea (fun s:Int=>((next.getD l []).getD s.toNat 0).toNat) (set.take i) 0 (fun x hx=>hto x (Y1d hx)) (by omega)
  have h2:=yz4f ht
  have hsl:=u_shl (b:=((next.getD l []).getD (set.getD i 0).toNat 0).toNat) (by omega)
  have hor:=u_orW (x:=stepTo (next.getD l []) (set.take i)) (y:=2 ^ ((next.getD l []).getD (set.getD i 0).toNat 0).toNat) (by omega) (by omega)
  have hr:stepTo (next.getD l []) (set.take i) ||| 2 ^ ((next.getD l []).getD (set.getD i 0).toNat 0).toNat=stepTo (next.getD l []) (set.take (i+1)):=yz6c set (fun o s=>o ||| 2 ^ ((next.getD l []).getD s.toNat 0).toNat) 0 0 hlt1
  simp only [Bz4t,Bzby,Bzpy,yz3 hlt1,decide_eq_true hlt,go_sem,yz0,J9,J8,J6,J7,J5,J0,J1,J2,reduceIte,J3,J4,reduceCtorEq]
  refine ⟨⟨by omega,hlt1⟩,hlt1,?_⟩
  simp only [Bzpw,Bzpx,yz19 hl,yz3 hc,hs0,hsl,hor,hr,nat1 i _ hlt1 hM,go_sem,yz0,J9,J8,J6,J7,J5,J0,J1,J2,reduceIte,J3,J4,reduceCtorEq]
  refine ⟨⟨by omega,hl⟩,hl,⟨hs.1,hc⟩,hc,i+1,by omega,by omega,rfl⟩
 ·have:i=set.length:=by omega
  subst this
  simp only [Bz4t,Bzby,Bzq0,decide_eq_false hlt,Y11,go_sem,yz0,J9,J8,J6,J7,J5,J0,J1,J2,reduceIte,J3,J4,reduceCtorEq]
  rw [← hS,yze7]
end Go.Ab
