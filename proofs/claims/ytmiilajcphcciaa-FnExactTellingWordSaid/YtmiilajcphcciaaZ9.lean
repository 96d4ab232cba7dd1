/- Contracts and what they lean on, part 9. Conditions: none. -/
import Derived.Test.YtmiilajcphcciaaZ8
set_option maxRecDepth 100000
set_option maxHeartbeats 4000000
set_option linter.all false
open Nat renaming reduceLeDiff → xx0, reduceMul → xx1, reduceSub → xx2, reduceEqDiff → xx3, reduceAdd → xx4, reduceLT → xx5
open Int renaming reduceToNat → xx6, reduceNeg → xx7, reduceLE → xx8, reduceLT → xx9
namespace Go.Ab
open Go.Proofs
def OutS (a b N:Nat) (ys:List Int):Prop:=∀ p q,p<q→q<N→p<a∨b≤q→ys.getD p 0≤ys.getD q 0
theorem OutS.seg {a b N:Nat} {ys zs:List Int} (h:OutS a b N ys) (g:Seg a b ys zs) (hab:a≤b) (hbN:b≤N):OutS a b N zs:=by
  intro p q hpq hq hor
  by_cases hp:p<a
  · rw [g.out p (.inl hp)]
    by_cases hqs:a≤q∧q<b
    · exact g.pr (fun z=>ys.getD p 0≤z) (fun k h1 h2=>h p k (by omega) (by omega) (.inl hp)) q hqs.1 hqs.2
    · rw [g.out q (by omega)];exact h p q hpq hq hor
  · have hqb:b≤q:=by omega
    rw [g.out q (.inr hqb)]
    by_cases hps:p<b
    · exact g.pr (fun z=>z≤ys.getD q 0) (fun k h1 h2=>h k q (by omega) hq (.inr hqb)) p (by omega) hps
    · rw [g.out p (by omega)];exact h p q hpq hq hor
theorem OutS.eqp {a b m N:Nat} {ys:List Int} (h:OutS a b N ys) (ha:0<a) (hbN:b≤N) (hm:a+1≤m∧m≤b) (lo:∀ k,a≤k→k<m→ys.getD k 0≤ys.getD a 0) (hi:∀ k,m≤k→k<b→ys.getD a 0<ys.getD k 0)
    (hv:ys.getD a 0≤ys.getD (a - 1) 0):OutS m b N ys:=by
  intro p q hpq hq hor
  by_cases hqb:b≤q
  · exact h p q hpq hq (.inr hqb)
  by_cases hp:p<a
  · exact h p q hpq hq (.inl hp)
  have l1:=lo p (by omega) (by omega)
  by_cases hqm:q<m
  · have:=h (a - 1) q (by omega) hq (.inl (by omega));omega
  · have:=hi q (by omega) (by omega);omega
theorem OutS.left {a b m N:Nat} {ys:List Int} (h:OutS a b N ys) (hm:a≤m∧m<b) (hs:Srt a m ys) (lo:∀ k,a≤k→k<m→ys.getD k 0≤ys.getD m 0) (hi:∀ k,m<k→k<b→ys.getD m 0≤ys.getD k 0):OutS (m+1) b N ys:=by
  intro p q hpq hq hor
  by_cases hqb:b≤q
  · exact h p q hpq hq (.inr hqb)
  by_cases hp:p<a
  · exact h p q hpq hq (.inl hp)
  by_cases hpm:p=m
  · rw [hpm];exact hi q (by omega) (by omega)
  have l1:=lo p (by omega) (by omega)
  by_cases hqm:q<m
  · exact hs p q (by omega) hpq hqm
  · by_cases e:q=m
    · rw [e];exact l1
    · have:=hi q (by omega) (by omega);omega
theorem OutS.right {a b m N:Nat} {ys:List Int} (h:OutS a b N ys) (hm:a≤m∧m<b) (hs:Srt (m+1) b ys) (lo:∀ k,a≤k→k<m→ys.getD k 0≤ys.getD m 0) (hi:∀ k,m<k→k<b→ys.getD m 0≤ys.getD k 0):OutS a m N ys:=by
  intro p q hpq hq hor
  by_cases hqb:b≤q
  · exact h p q hpq hq (.inr hqb)
  by_cases hp:p<a
  · exact h p q hpq hq (.inl hp)
  by_cases hpm:p=m
  · rw [hpm];exact hi q (by omega) (by omega)
  by_cases hpm2:p<m
  · have l1:=lo p (by omega) (by omega)
    by_cases e:q=m
    · rw [e];exact l1
    · have:=hi q (by omega) (by omega);omega
  · exact hs p q (by omega) hpq (by omega)
theorem OutS.all {a b N:Nat} {ys:List Int} (h:OutS a b N ys) (hs:Srt a b ys) (hN:N=ys.length):ys.Pairwise (·≤·):=by
  rw [List.pairwise_iff_getElem]
  intro i j hi hj hij
  have e:ys.getD i 0≤ys.getD j 0:=by
    by_cases c:i<a∨b≤j
    · exact h i j hij (by omega) c
    · exact hs i j (by omega) hij (by omega)
  rw [List.getD_eq_getElem?_getD,List.getElem?_eq_getElem hi,List.getD_eq_getElem?_getD,List.getElem?_eq_getElem hj] at e
  exact e
theorem k_pdqS (xs:List Int) (a b:Nat) (lim:Int) (hab:a≤b) (h12:b≤a+12) (hb:b≤xs.length) (hl:xs.length≤40):Con Try.prog nz6 [.row 0 1 true (intsK .u64 xs)] [.own 5000 0,iv a,iv b,iv lim] true
    fun outs rows res=>rows=[]∧res=.tup []∧∃ ys:List Int,Seg a b xs ys∧Srt a b ys∧outs=[.row 0 1 true (intsK .u64 ys)]:=by
  refine con_sh mixed cz7t rfl (by simp) ?_
  generalize hQ:finQ _=Q
  have w0:IntKind.i64.wrap ((b:Int) - a)=((b - a:Nat):Int):=by rw [w64 (by omega)];omega
  have d12:((b - a:Nat):Int)≤12:=by omega
  simp only [Az3,Bz2n,Bz2m,go_sem,yz0,xx9,xx8,xx6,xx7,xx5,xx0,xx1,xx2,reduceIte,xx3,xx4,reduceCtorEq]
  refine wpD_lo (fun _:Unit=>0) (fun _=>True)
    (fun _:Unit=>⟨L .any [(0,.own 5000 0),(1,iv a),(2,iv b),(3,iv lim),(8,bv true),(9,bv true)],L .gone [(5000,.row 0 1 true (intsK .u64 xs))]⟩)
    () trivial (by simp only [Bz9,go_sem,yz0,xx9,xx8,xx6,xx7,xx5,xx0,xx1,xx2,reduceIte,xx3,xx4,reduceCtorEq];try rfl) ?_
  rintro _ _
  simp only [Bz9,Bzj,Bzi,w0,decide_eq_true d12,go_sem,yz0,xx9,xx8,xx6,xx7,xx5,xx0,xx1,xx2,reduceIte,xx3,xx4,reduceCtorEq]
  intro vs
  have hsv:sv (L AObj.gone [(5000,AObj.row 0 1 true (intsK .u64 xs))]) [5000] (vs 3) 0=0:=sv_0 rfl
  refine call_rowM (k_insertionG xs a b hab hb (by omega)) (r:=5000) rfl (by simp only [rowIs,boxIs,yz1f,yz13,yz1d,yz19,yz10,coe_any,coe_val,coe_ro,yzx,yzw,coe_st,yzy,coe_rp,yzz,coe_clo,yz1e,yz1a,yzu,yz1c,yz1b,L_hit,L_miss,L_nil,xx3,ne_eq,reduceCtorEq,not_false_eq_true,true_and,and_true,and_self,exists_eq_left,exists_eq_right,List.mem_cons,List.not_mem_nil,or_false,AObj.row.injEq,AObj.box.injEq,exists_eq_left',exists_and_left,exists_eq,Nat.zero_lt_one,Nat.lt_add_one,List.map_cons,List.map_nil,AObj.ver,xx5,not_true_eq_false]) (by simp only [rowIs,boxIs,yz1f,yz13,yz1d,yz19,yz10,coe_any,coe_val,coe_ro,yzx,yzw,coe_st,yzy,coe_rp,yzz,coe_clo,yz1e,yz1a,yzu,yz1c,yz1b,L_hit,L_miss,L_nil,xx3,ne_eq,reduceCtorEq,not_false_eq_true,true_and,and_true,and_self,exists_eq_left,exists_eq_right,List.mem_cons,List.not_mem_nil,or_false,AObj.row.injEq,AObj.box.injEq,exists_eq_left',exists_and_left,exists_eq,Nat.zero_lt_one,Nat.lt_add_one,List.map_cons,List.map_nil,AObj.ver,xx5,not_true_eq_false]) ?_
  rintro outs rows res ⟨rfl,rfl,ys,hp,hs,rfl⟩
  refine ⟨rfl,_,rfl,?_⟩
  simp only [hsv,Az3,← hQ,Nat.not_lt_zero,range1,yz11,yz15,yz1j,yz1l,yz14,yz1k,yz1i,yz1g,yz16,yzt,yzk,yz6,yzs,yzr,yzo,yzm,yzq,yz7,yza,yzd,yz9,yzf,yzi,yz2,yz5,yz8,yzc,yzh,yzj,List.range_zero,yz3,yz4,yzb,yzp,yzl,yzn,AVal.fresh,freshL,yz1,yzg,AObj.fresh,id,Option.isSome_some,or_true,true_or,go_sem,yz0,xx9,xx8,xx6,xx7,xx5,xx0,xx1,xx2,reduceIte,xx3,xx4,reduceCtorEq]
  exact ⟨[],by simp,by simp,by simp,by simp,ys,hp,hs,rfl⟩
theorem k_pdqL (xs:List Int) (h13:13≤xs.length) (h15:xs.length≤15):Con Try.prog nz6 [.row 0 1 true (intsK .u64 xs)] [.own 5000 0,iv 0,iv xs.length,iv 4] true
    fun outs rows res=>rows=[]∧res=.tup []∧∃ ys:List Int,ys.Perm xs∧ys.Pairwise (·≤·)∧outs=[.row 0 1 true (intsK .u64 ys)]:=by
  refine con_sh mixed cz7t rfl (by simp) ?_
  generalize hQ:finQ _=Q
  obtain ⟨N,hN⟩:∃ N,N=xs.length:=⟨_,rfl⟩
  simp only [Az3,Bz2n,Bz2m,go_sem,yz0,xx9,xx8,xx6,xx7,xx5,xx0,xx1,xx2,reduceIte,xx3,xx4,reduceCtorEq]
  refine wpD_lo (fun x:Nat×Nat×Nat×Bool×Bool×List Int=>x.2.1 - x.1) (fun x=>x.1≤x.2.1∧x.2.1≤N∧x.2.1≤x.1+x.2.2.1+11∧x.2.2.1≤4∧x.2.2.2.2.2.Perm xs∧OutS x.1 x.2.1 N x.2.2.2.2.2)
    (fun x:Nat×Nat×Nat×Bool×Bool×List Int=>⟨L .any [(0,.own 5000 0),(1,iv x.1),(2,iv x.2.1),(3,iv x.2.2.1),(8,bv x.2.2.2.1),(9,bv x.2.2.2.2.1)],L .gone [(5000,.row 0 1 true (intsK .u64 x.2.2.2.2.2))]⟩)
    (0,xs.length,4,true,true,xs) ⟨by simp,by simp [hN],by dsimp only;omega,by simp,List.Perm.refl _,fun p q h1 h2 h3=>by dsimp only at h3;omega⟩ (by simp only [Bz9,go_sem,yz0,xx9,xx8,xx6,xx7,xx5,xx0,xx1,xx2,reduceIte,xx3,xx4,reduceCtorEq];try rfl) ?_
  rintro ⟨a,b,lim,bal,prt,ys⟩ ⟨hab,hbN,hlim,hl4,hP,hO⟩
  dsimp only at hab hbN hlim hl4 hP hO ⊢
  have hyl:ys.length=xs.length:=hP.length_eq
  simp only [Bz9,go_sem,yz0,xx9,xx8,xx6,xx7,xx5,xx0,xx1,xx2,reduceIte,xx3,xx4,reduceCtorEq]
  generalize hR:blockQ 1 _=R
  have sv0:∀ (cs:List AVal) (f:Nat→Nat),sv (L AObj.gone [(5000,AObj.row 0 1 true cs)]) [5000] f 0=0:=fun _ _=>sv_0 rfl
  have w0:IntKind.i64.wrap ((b:Int) - a)=((b - a:Nat):Int):=by rw [w64 (by omega)];omega
  by_cases h12:((b - a:Nat):Int)≤12
  · simp only [Bzj,Bzi,w0,decide_eq_true h12,go_sem,yz0,xx9,xx8,xx6,xx7,xx5,xx0,xx1,xx2,reduceIte,xx3,xx4,reduceCtorEq]
    intro vs
    have hsv:sv (L AObj.gone [(5000,AObj.row 0 1 true (intsK .u64 ys))]) [5000] (vs 3) 0=0:=sv_0 rfl
    refine call_rowM (k_insertionG ys a b hab (by omega) (by omega)) (r:=5000) rfl (by simp only [rowIs,boxIs,yz1f,yz13,yz1d,yz19,yz10,coe_any,coe_val,coe_ro,yzx,yzw,coe_st,yzy,coe_rp,yzz,coe_clo,yz1e,yz1a,yzu,yz1c,yz1b,L_hit,L_miss,L_nil,xx3,ne_eq,reduceCtorEq,not_false_eq_true,true_and,and_true,and_self,exists_eq_left,exists_eq_right,List.mem_cons,List.not_mem_nil,or_false,AObj.row.injEq,AObj.box.injEq,exists_eq_left',exists_and_left,exists_eq,Nat.zero_lt_one,Nat.lt_add_one,List.map_cons,List.map_nil,AObj.ver,xx5,not_true_eq_false]) (by simp only [rowIs,boxIs,yz1f,yz13,yz1d,yz19,yz10,coe_any,coe_val,coe_ro,yzx,yzw,coe_st,yzy,coe_rp,yzz,coe_clo,yz1e,yz1a,yzu,yz1c,yz1b,L_hit,L_miss,L_nil,xx3,ne_eq,reduceCtorEq,not_false_eq_true,true_and,and_true,and_self,exists_eq_left,exists_eq_right,List.mem_cons,List.not_mem_nil,or_false,AObj.row.injEq,AObj.box.injEq,exists_eq_left',exists_and_left,exists_eq,Nat.zero_lt_one,Nat.lt_add_one,List.map_cons,List.map_nil,AObj.ver,xx5,not_true_eq_false]) ?_
    rintro outs rows res ⟨rfl,rfl,ws,hp,hs,rfl⟩
    refine ⟨rfl,_,rfl,?_⟩
    simp only [hsv,Az3,← hR,← hQ,Nat.not_lt_zero,range1,yz11,yz15,yz1j,yz1l,yz14,yz1k,yz1i,yz1g,yz16,yzt,yzk,yz6,yzs,yzr,yzo,yzm,yzq,yz7,yza,yzd,yz9,yzf,yzi,yz2,yz5,yz8,yzc,yzh,yzj,List.range_zero,yz3,yz4,yzb,yzp,yzl,yzn,AVal.fresh,freshL,yz1,yzg,AObj.fresh,id,Option.isSome_some,or_true,true_or,go_sem,yz0,xx9,xx8,xx6,xx7,xx5,xx0,xx1,xx2,reduceIte,xx3,xx4,reduceCtorEq]
    exact ⟨[],by simp,by simp,by simp,by simp,_,hp.perm.trans hP,(hO.seg hp hab hbN).all hs (by rw [hp.len];omega),by simp only [List.range_zero,List.nil_append,List.map_cons,List.map_nil,Nat.not_lt_zero,range1,yz11,yz15,yz1j,yz1l,yz14,yz1k,yz1i,yz1g,yz16,yzt,yzk,yz6,yzs,yzr,yzo,yzm,yzq,yz7,yza,yzd,yz9,yzf,yzi,yz2,yz5,yz8,yzc,yzh,yzj,List.range_zero,yz3,yz4,yzb,yzp,yzl,yzn,AVal.fresh,freshL,yz1,yzg,AObj.fresh,id,Option.isSome_some,or_true,true_or,go_sem,yz0,xx9,xx8,xx6,xx7,xx5,xx0,xx1,xx2,reduceIte,xx3,xx4,reduceCtorEq];try rfl⟩
  have hlim0:¬ (lim:Int)=0:=by omega
  have h13':a+13≤b:=by omega
  have t22:∀ (zs:List Int) (p lim':Nat),zs.Perm xs→OutS a b N zs→a≤p→p<b→b≤a+lim'+12→lim'≤4→wpD Try.prog Bz7p R ⟨L .any [(0,.own 5000 0),(1,iv a),(2,iv b),(3,iv lim'),(10,iv ((b - a:Nat):Int)),(11,iv p)],L .gone [(5000,.row 0 1 true (intsK .u64 zs))]⟩:=by
    intro zs p lim' hP hO hap hpb hl1 hl2
    have hzl:zs.length=xs.length:=hP.length_eq
    simp only [Bz7p,go_sem,yz0,xx9,xx8,xx6,xx7,xx5,xx0,xx1,xx2,reduceIte,xx3,xx4,reduceCtorEq]
    intro vs
    refine call_rowM (k_partition zs a b p (by omega) hap hpb (by omega) (by omega)) (r:=5000) rfl (by simp only [rowIs,boxIs,yz1f,yz13,yz1d,yz19,yz10,coe_any,coe_val,coe_ro,yzx,yzw,coe_st,yzy,coe_rp,yzz,coe_clo,yz1e,yz1a,yzu,yz1c,yz1b,L_hit,L_miss,L_nil,xx3,ne_eq,reduceCtorEq,not_false_eq_true,true_and,and_true,and_self,exists_eq_left,exists_eq_right,List.mem_cons,List.not_mem_nil,or_false,AObj.row.injEq,AObj.box.injEq,exists_eq_left',exists_and_left,exists_eq,Nat.zero_lt_one,Nat.lt_add_one,List.map_cons,List.map_nil,AObj.ver,xx5,not_true_eq_false]) (by simp only [rowIs,boxIs,yz1f,yz13,yz1d,yz19,yz10,coe_any,coe_val,coe_ro,yzx,yzw,coe_st,yzy,coe_rp,yzz,coe_clo,yz1e,yz1a,yzu,yz1c,yz1b,L_hit,L_miss,L_nil,xx3,ne_eq,reduceCtorEq,not_false_eq_true,true_and,and_true,and_self,exists_eq_left,exists_eq_right,List.mem_cons,List.not_mem_nil,or_false,AObj.row.injEq,AObj.box.injEq,exists_eq_left',exists_and_left,exists_eq,Nat.zero_lt_one,Nat.lt_add_one,List.map_cons,List.map_nil,AObj.ver,xx5,not_true_eq_false]) ?_
    rintro outs rows res ⟨rfl,us,m,r,hS,lo,hi,⟨m1,m2⟩,rfl,rfl⟩
    refine ⟨rfl,_,rfl,?_⟩
    have hul:us.length=xs.length:=hS.len.trans hzl
    have hO2:=hO.seg hS hab hbN
    have hP2:=hS.perm.trans hP
    have w1:IntKind.i64.wrap ((m:Int) - a)=((m - a:Nat):Int):=by rw [w64 (by omega)];omega
    have w2:IntKind.i64.wrap ((b:Int) - m)=((b - m:Nat):Int):=by rw [w64 (by omega)];omega
    have w3:IntKind.i64.wrap (((b - a:Nat):Int).tdiv 8)=1:=by rw [Int.tdiv_eq_ediv_of_nonneg (by omega),w64 (by omega)];omega
    have w4:IntKind.i64.wrap ((m:Int)+1)=((m+1:Nat):Int):=by rw [w64 (by omega)];omega
    have h80:((8:Int)=0)=False:=by simp
    simp only [sv0,Bzfh,Bzfg,Bzff,Bzfe,w1,w2,w3,h80,if_false,Nat.not_lt_zero,range1,yz11,yz15,yz1j,yz1l,yz14,yz1k,yz1i,yz1g,yz16,yzt,yzk,yz6,yzs,yzr,yzo,yzm,yzq,yz7,yza,yzd,yz9,yzf,yzi,yz2,yz5,yz8,yzc,yzh,yzj,List.range_zero,yz3,yz4,yzb,yzp,yzl,yzn,AVal.fresh,freshL,yz1,yzg,AObj.fresh,id,Option.isSome_some,or_true,true_or,go_sem,yz0,xx9,xx8,xx6,xx7,xx5,xx0,xx1,xx2,reduceIte,xx3,xx4,reduceCtorEq]
    by_cases hlr:((m - a:Nat):Int)<((b - m:Nat):Int)
    · simp only [Bz7o,Bzfb,decide_eq_true hlr,go_sem,yz0,xx9,xx8,xx6,xx7,xx5,xx0,xx1,xx2,reduceIte,xx3,xx4,reduceCtorEq]
      intro vs2
      refine call_rowM (k_pdqS us a m lim' m1 (by omega) (by omega) (by omega)) (r:=5000) rfl (by simp only [rowIs,boxIs,yz1f,yz13,yz1d,yz19,yz10,coe_any,coe_val,coe_ro,yzx,yzw,coe_st,yzy,coe_rp,yzz,coe_clo,yz1e,yz1a,yzu,yz1c,yz1b,L_hit,L_miss,L_nil,xx3,ne_eq,reduceCtorEq,not_false_eq_true,true_and,and_true,and_self,exists_eq_left,exists_eq_right,List.mem_cons,List.not_mem_nil,or_false,AObj.row.injEq,AObj.box.injEq,exists_eq_left',exists_and_left,exists_eq,Nat.zero_lt_one,Nat.lt_add_one,List.map_cons,List.map_nil,AObj.ver,xx5,not_true_eq_false]) (by simp only [rowIs,boxIs,yz1f,yz13,yz1d,yz19,yz10,coe_any,coe_val,coe_ro,yzx,yzw,coe_st,yzy,coe_rp,yzz,coe_clo,yz1e,yz1a,yzu,yz1c,yz1b,L_hit,L_miss,L_nil,xx3,ne_eq,reduceCtorEq,not_false_eq_true,true_and,and_true,and_self,exists_eq_left,exists_eq_right,List.mem_cons,List.not_mem_nil,or_false,AObj.row.injEq,AObj.box.injEq,exists_eq_left',exists_and_left,exists_eq,Nat.zero_lt_one,Nat.lt_add_one,List.map_cons,List.map_nil,AObj.ver,xx5,not_true_eq_false]) ?_
      rintro outs rows res ⟨rfl,rfl,ws,hS3,hs3,rfl⟩
      refine ⟨rfl,_,rfl,?_⟩
      have hO3:=hO2.seg (hS3.mono (Nat.le_refl a) (Nat.le_of_lt m2)) hab hbN
      have hwm:ws.getD m 0=us.getD m 0:=hS3.out m (.inr (Nat.le_refl m))
      have lo3:∀ k,a≤k→k<m→ws.getD k 0≤ws.getD m 0:=by rw [hwm];exact hS3.pr (fun z=>z≤us.getD m 0) lo
      have hi3:∀ k,m<k→k<b→ws.getD m 0≤ws.getD k 0:=fun k g1 g2=>by rw [hwm,hS3.out k (.inr (by omega))];exact hi k g1 g2
      simp only [sv0,Bzfa,w4,← hR,Nat.not_lt_zero,range1,yz11,yz15,yz1j,yz1l,yz14,yz1k,yz1i,yz1g,yz16,yzt,yzk,yz6,yzs,yzr,yzo,yzm,yzq,yz7,yza,yzd,yz9,yzf,yzi,yz2,yz5,yz8,yzc,yzh,yzj,List.range_zero,yz3,yz4,yzb,yzp,yzl,yzn,AVal.fresh,freshL,yz1,yzg,AObj.fresh,id,Option.isSome_some,or_true,true_or,go_sem,yz0,xx9,xx8,xx6,xx7,xx5,xx0,xx1,xx2,reduceIte,xx3,xx4,reduceCtorEq]
      exact ⟨(m+1,b,lim',decide (1≤((m - a:Nat):Int)),r,ws),by dsimp only;omega,⟨by dsimp only;omega,hbN,by dsimp only;omega,hl2,hS3.perm.trans hP2,hO3.left ⟨m1,m2⟩ hs3 lo3 hi3⟩,rfl⟩
    · simp only [Bz7o,Bzfd,decide_eq_false hlr,w4,go_sem,yz0,xx9,xx8,xx6,xx7,xx5,xx0,xx1,xx2,reduceIte,xx3,xx4,reduceCtorEq]
      intro vs2
      refine call_rowM (k_pdqS us (m+1) b lim' (by omega) (by omega) (by omega) (by omega)) (r:=5000) rfl (by simp only [rowIs,boxIs,yz1f,yz13,yz1d,yz19,yz10,coe_any,coe_val,coe_ro,yzx,yzw,coe_st,yzy,coe_rp,yzz,coe_clo,yz1e,yz1a,yzu,yz1c,yz1b,L_hit,L_miss,L_nil,xx3,ne_eq,reduceCtorEq,not_false_eq_true,true_and,and_true,and_self,exists_eq_left,exists_eq_right,List.mem_cons,List.not_mem_nil,or_false,AObj.row.injEq,AObj.box.injEq,exists_eq_left',exists_and_left,exists_eq,Nat.zero_lt_one,Nat.lt_add_one,List.map_cons,List.map_nil,AObj.ver,xx5,not_true_eq_false]) (by simp only [rowIs,boxIs,yz1f,yz13,yz1d,yz19,yz10,coe_any,coe_val,coe_ro,yzx,yzw,coe_st,yzy,coe_rp,yzz,coe_clo,yz1e,yz1a,yzu,yz1c,yz1b,L_hit,L_miss,L_nil,xx3,ne_eq,reduceCtorEq,not_false_eq_true,true_and,and_true,and_self,exists_eq_left,exists_eq_right,List.mem_cons,List.not_mem_nil,or_false,AObj.row.injEq,AObj.box.injEq,exists_eq_left',exists_and_left,exists_eq,Nat.zero_lt_one,Nat.lt_add_one,List.map_cons,List.map_nil,AObj.ver,xx5,not_true_eq_false]) ?_
      rintro outs rows res ⟨rfl,rfl,ws,hS3,hs3,rfl⟩
      refine ⟨rfl,_,rfl,?_⟩
      have hO3:=hO2.seg (hS3.mono (show a≤m+1 by omega) (Nat.le_refl b)) hab hbN
      have hwm:ws.getD m 0=us.getD m 0:=hS3.out m (.inl (by omega))
      have lo3:∀ k,a≤k→k<m→ws.getD k 0≤ws.getD m 0:=fun k g1 g2=>by rw [hwm,hS3.out k (.inl (by omega))];exact lo k g1 g2
      have hi3:∀ k,m<k→k<b→ws.getD m 0≤ws.getD k 0:=by rw [hwm];exact hS3.pr (fun z=>us.getD m 0≤z) hi
      simp only [sv0,Bzfc,← hR,Nat.not_lt_zero,range1,yz11,yz15,yz1j,yz1l,yz14,yz1k,yz1i,yz1g,yz16,yzt,yzk,yz6,yzs,yzr,yzo,yzm,yzq,yz7,yza,yzd,yz9,yzf,yzi,yz2,yz5,yz8,yzc,yzh,yzj,List.range_zero,yz3,yz4,yzb,yzp,yzl,yzn,AVal.fresh,freshL,yz1,yzg,AObj.fresh,id,Option.isSome_some,or_true,true_or,go_sem,yz0,xx9,xx8,xx6,xx7,xx5,xx0,xx1,xx2,reduceIte,xx3,xx4,reduceCtorEq]
      exact ⟨(a,m,lim',decide (1≤((b - m:Nat):Int)),r,ws),by dsimp only;omega,⟨m1,by dsimp only;omega,by dsimp only;omega,hl2,hS3.perm.trans hP2,hO3.right ⟨m1,m2⟩ hs3 lo3 hi3⟩,rfl⟩
  have t19:∀ (zs:List Int) (p lim':Nat) (bal prt:Bool),zs.Perm xs→OutS a b N zs→a≤p→p<b→b≤a+lim'+12→lim'≤4→wpD Try.prog Bz2l R ⟨L .any [(0,.own 5000 0),(1,iv a),(2,iv b),(3,iv lim'),(8,bv bal),(9,bv prt),(10,iv ((b - a:Nat):Int)),(11,iv p)],L .gone [(5000,.row 0 1 true (intsK .u64 zs))]⟩:=by
    intro zs p lim' bal prt hP hO hap hpb hl1 hl2
    have hzl:zs.length=xs.length:=hP.length_eq
    have hpl:p<zs.length:=by omega
    have gp:=yze (k:=.u64) hpl
    by_cases ha0:(a:Int) > 0
    · have hal:a - 1<zs.length:=by omega
      have ga:=yze (k:=.u64) hal
      have wa:IntKind.i64.wrap ((a:Int) - 1)=((a - 1:Nat):Int):=by rw [w64 (by omega)];omega
      simp only [Bz2l,decide_eq_true ha0,wa,ga,gp,go_sem,yz0,xx9,xx8,xx6,xx7,xx5,xx0,xx1,xx2,reduceIte,xx3,xx4,reduceCtorEq]
      intro vs
      refine ⟨⟨by omega,hal⟩,hal,⟨by omega,hpl⟩,hpl,?_⟩
      refine yzv (k_LessF (zs.getD (a - 1) 0) (zs.getD p 0)) qCS trivial ?_
      by_cases hv:zs.getD (a - 1) 0<zs.getD p 0
      · simp only [Bz2k,decide_eq_true hv,Bool.not_true,go_sem,yz0,xx9,xx8,xx6,xx7,xx5,xx0,xx1,xx2,reduceIte,xx3,xx4,reduceCtorEq]
        exact yz12 (by simp only [go_sem,yz0,xx9,xx8,xx6,xx7,xx5,xx0,xx1,xx2,reduceIte,xx3,xx4,reduceCtorEq]) (t22 zs p lim' hP hO hap hpb hl1 hl2)
      · simp only [Bz2k,decide_eq_false hv,Bool.not_false,go_sem,yz0,xx9,xx8,xx6,xx7,xx5,xx0,xx1,xx2,reduceIte,xx3,xx4,reduceCtorEq]
        intro vs2
        refine call_rowM (k_partitionE zs a b p (by omega) hap hpb (by omega) (by omega)) (r:=5000) rfl (by simp only [rowIs,boxIs,yz1f,yz13,yz1d,yz19,yz10,coe_any,coe_val,coe_ro,yzx,yzw,coe_st,yzy,coe_rp,yzz,coe_clo,yz1e,yz1a,yzu,yz1c,yz1b,L_hit,L_miss,L_nil,xx3,ne_eq,reduceCtorEq,not_false_eq_true,true_and,and_true,and_self,exists_eq_left,exists_eq_right,List.mem_cons,List.not_mem_nil,or_false,AObj.row.injEq,AObj.box.injEq,exists_eq_left',exists_and_left,exists_eq,Nat.zero_lt_one,Nat.lt_add_one,List.map_cons,List.map_nil,AObj.ver,xx5,not_true_eq_false]) (by simp only [rowIs,boxIs,yz1f,yz13,yz1d,yz19,yz10,coe_any,coe_val,coe_ro,yzx,yzw,coe_st,yzy,coe_rp,yzz,coe_clo,yz1e,yz1a,yzu,yz1c,yz1b,L_hit,L_miss,L_nil,xx3,ne_eq,reduceCtorEq,not_false_eq_true,true_and,and_true,and_self,exists_eq_left,exists_eq_right,List.mem_cons,List.not_mem_nil,or_false,AObj.row.injEq,AObj.box.injEq,exists_eq_left',exists_and_left,exists_eq,Nat.zero_lt_one,Nat.lt_add_one,List.map_cons,List.map_nil,AObj.ver,xx5,not_true_eq_false]) ?_
        rintro outs rows res ⟨rfl,us,m,hS,lo,hi,hpv,⟨m1,m2⟩,rfl,rfl⟩
        refine ⟨rfl,_,rfl,?_⟩
        have hO2:=hO.seg hS hab hbN
        simp only [sv0,Bzf9,← hR,Nat.not_lt_zero,range1,yz11,yz15,yz1j,yz1l,yz14,yz1k,yz1i,yz1g,yz16,yzt,yzk,yz6,yzs,yzr,yzo,yzm,yzq,yz7,yza,yzd,yz9,yzf,yzi,yz2,yz5,yz8,yzc,yzh,yzj,List.range_zero,yz3,yz4,yzb,yzp,yzl,yzn,AVal.fresh,freshL,yz1,yzg,AObj.fresh,id,Option.isSome_some,or_true,true_or,go_sem,yz0,xx9,xx8,xx6,xx7,xx5,xx0,xx1,xx2,reduceIte,xx3,xx4,reduceCtorEq]
        exact ⟨(m,b,lim',bal,prt,us),by dsimp only;omega,⟨m2,hbN,by dsimp only;omega,hl2,hS.perm.trans hP,hO2.eqp (by omega) hbN ⟨m1,m2⟩ lo hi (by rw [hpv,hS.out (a - 1) (.inl (by omega))];omega)⟩,rfl⟩
    · simp only [Bz2l,Bz2k,decide_eq_false ha0,go_sem,yz0,xx9,xx8,xx6,xx7,xx5,xx0,xx1,xx2,reduceIte,xx3,xx4,reduceCtorEq]
      exact yz12 (by simp only [go_sem,yz0,xx9,xx8,xx6,xx7,xx5,xx0,xx1,xx2,reduceIte,xx3,xx4,reduceCtorEq]) (t22 zs p lim' hP hO hap hpb hl1 hl2)
  have t11:∀ (zs:List Int) (lim':Nat) (bal:Bool),zs.Perm xs→OutS a b N zs→b≤a+lim'+12→lim'≤4→wpD Try.prog Bz7q R ⟨L .any [(0,.own 5000 0),(1,iv a),(2,iv b),(3,iv lim'),(8,bv bal),(9,bv prt),(10,iv ((b - a:Nat):Int))],L .gone [(5000,.row 0 1 true (intsK .u64 zs))]⟩:=by
    intro zs lim' bal hP hO hl1 hl2
    have hzl:zs.length=xs.length:=hP.length_eq
    simp only [Bz7q,go_sem,yz0,xx9,xx8,xx6,xx7,xx5,xx0,xx1,xx2,reduceIte,xx3,xx4,reduceCtorEq]
    intro vs
    refine call_fn (k_choosePivot zs a b h13' (by omega) (by omega) (by omega)) qCS (fun e=>by cases e) ?_
    rintro rows res ⟨rfl,p,hint,hap,hpb,hh2,rfl⟩
    refine ⟨by simp,(fun k hk=>by simp at hk),?_⟩
    have g19:=t19 zs p lim' bal prt hP hO hap hpb hl1 hl2
    simp only [Bzfi,Bzf8,Nat.not_lt_zero,range1,yz11,yz15,yz1j,yz1l,yz14,yz1k,yz1i,yz1g,yz16,yzt,yzk,yz6,yzs,yzr,yzo,yzm,yzq,yz7,yza,yzd,yz9,yzf,yzi,yz2,yz5,yz8,yzc,yzh,yzj,List.range_zero,yz3,yz4,yzb,yzp,yzl,yzn,AVal.fresh,freshL,yz1,yzg,AObj.fresh,id,Option.isSome_some,or_true,true_or,go_sem,yz0,xx9,xx8,xx6,xx7,xx5,xx0,xx1,xx2,reduceIte,xx3,xx4,reduceCtorEq]
    refine ⟨fun h=>absurd (by simpa using h) hh2,fun _=>?_⟩
    by_cases hbp:bal=true∧prt=true∧(hint == 1)=true
    · obtain ⟨rfl,hprt,h1⟩:=hbp
      have hprt':prt=true:=hprt
      rw [hprt'] at g19 ⊢
      simp only [Bzw,Bzv,h1,go_sem,yz0,xx9,xx8,xx6,xx7,xx5,xx0,xx1,xx2,reduceIte,xx3,xx4,reduceCtorEq]
      intro vs2
      refine call_funE (k_partialIns zs a b (by omega) (by omega) (by omega)) qCS ⟨.bool false,false,rfl,fun h=>by cases h⟩ ?_
      rintro _ ⟨r,rfl,hr⟩
      cases r with
      | true =>
        simp only [Bz7n,Az3,← hR,← hQ,Nat.not_lt_zero,range1,yz11,yz15,yz1j,yz1l,yz14,yz1k,yz1i,yz1g,yz16,yzt,yzk,yz6,yzs,yzr,yzo,yzm,yzq,yz7,yza,yzd,yz9,yzf,yzi,yz2,yz5,yz8,yzc,yzh,yzj,List.range_zero,yz3,yz4,yzb,yzp,yzl,yzn,AVal.fresh,freshL,yz1,yzg,AObj.fresh,id,Option.isSome_some,or_true,true_or,go_sem,yz0,xx9,xx8,xx6,xx7,xx5,xx0,xx1,xx2,reduceIte,xx3,xx4,reduceCtorEq]
        exact ⟨[],by simp,by simp,by simp,by simp,_,hP,hO.all (hr rfl) (by omega),by simp only [List.range_zero,List.nil_append,List.map_cons,List.map_nil,Nat.not_lt_zero,range1,yz11,yz15,yz1j,yz1l,yz14,yz1k,yz1i,yz1g,yz16,yzt,yzk,yz6,yzs,yzr,yzo,yzm,yzq,yz7,yza,yzd,yz9,yzf,yzi,yz2,yz5,yz8,yzc,yzh,yzj,List.range_zero,yz3,yz4,yzb,yzp,yzl,yzn,AVal.fresh,freshL,yz1,yzg,AObj.fresh,id,Option.isSome_some,or_true,true_or,go_sem,yz0,xx9,xx8,xx6,xx7,xx5,xx0,xx1,xx2,reduceIte,xx3,xx4,reduceCtorEq];try rfl⟩
      | false =>
        simp only [Bz7n,go_sem,yz0,xx9,xx8,xx6,xx7,xx5,xx0,xx1,xx2,reduceIte,xx3,xx4,reduceCtorEq]
        exact yz12 (by simp only [go_sem,yz0,xx9,xx8,xx6,xx7,xx5,xx0,xx1,xx2,reduceIte,xx3,xx4,reduceCtorEq]) g19
    · have hb:∀ c:Bool,c=true∨c=false:=by decide
      rcases hb bal with rfl | rfl
      · rcases hb prt with hp1 | hp1
        · have h1:(hint == 1)=false:=by
            rcases hb (hint == 1) with h | h
            · exact absurd ⟨rfl,hp1,h⟩ hbp
            · exact h
          rw [hp1] at g19 ⊢
          simp only [Bzw,Bzv,h1,go_sem,yz0,xx9,xx8,xx6,xx7,xx5,xx0,xx1,xx2,reduceIte,xx3,xx4,reduceCtorEq]
          exact yz12 (by simp only [go_sem,yz0,xx9,xx8,xx6,xx7,xx5,xx0,xx1,xx2,reduceIte,xx3,xx4,reduceCtorEq]) g19
        · rw [hp1] at g19 ⊢
          simp only [Bzw,Bzv,go_sem,yz0,xx9,xx8,xx6,xx7,xx5,xx0,xx1,xx2,reduceIte,xx3,xx4,reduceCtorEq]
          exact yz12 (by simp only [go_sem,yz0,xx9,xx8,xx6,xx7,xx5,xx0,xx1,xx2,reduceIte,xx3,xx4,reduceCtorEq]) g19
      · simp only [Bzw,Bzv,go_sem,yz0,xx9,xx8,xx6,xx7,xx5,xx0,xx1,xx2,reduceIte,xx3,xx4,reduceCtorEq]
        exact yz12 (by simp only [go_sem,yz0,xx9,xx8,xx6,xx7,xx5,xx0,xx1,xx2,reduceIte,xx3,xx4,reduceCtorEq]) g19
  have wl:IntKind.i64.wrap ((lim:Int) - 1)=((lim - 1:Nat):Int):=by rw [w64 (by omega)];omega
  cases bal with
  | true =>
    simp only [Bzj,Bzi,Bz7s,Bz7l,Bz7r,Bz7m,w0,decide_eq_false h12,go_sem,yz0,xx9,xx8,xx6,xx7,xx5,xx0,xx1,xx2,reduceIte,xx3,xx4,reduceCtorEq]
    exact ⟨fun h=>absurd (by simpa using h) (show ¬ lim=0 by omega),fun _=>yz12 (by simp only [go_sem,yz0,xx9,xx8,xx6,xx7,xx5,xx0,xx1,xx2,reduceIte,xx3,xx4,reduceCtorEq]) (t11 ys lim true hP hO (by omega) hl4)⟩
  | false =>
    simp only [Bzj,Bzi,Bz7s,Bz7l,Bz7r,Bz7m,w0,decide_eq_false h12,go_sem,yz0,xx9,xx8,xx6,xx7,xx5,xx0,xx1,xx2,reduceIte,xx3,xx4,reduceCtorEq]
    refine ⟨fun h=>absurd (by simpa using h) (show ¬ lim=0 by omega),fun _ vs=>?_⟩
    refine call_rowM (k_breakP ys a b (by omega) (by omega) (by omega) (by omega)) (r:=5000) rfl (by simp only [rowIs,boxIs,yz1f,yz13,yz1d,yz19,yz10,coe_any,coe_val,coe_ro,yzx,yzw,coe_st,yzy,coe_rp,yzz,coe_clo,yz1e,yz1a,yzu,yz1c,yz1b,L_hit,L_miss,L_nil,xx3,ne_eq,reduceCtorEq,not_false_eq_true,true_and,and_true,and_self,exists_eq_left,exists_eq_right,List.mem_cons,List.not_mem_nil,or_false,AObj.row.injEq,AObj.box.injEq,exists_eq_left',exists_and_left,exists_eq,Nat.zero_lt_one,Nat.lt_add_one,List.map_cons,List.map_nil,AObj.ver,xx5,not_true_eq_false]) (by simp only [rowIs,boxIs,yz1f,yz13,yz1d,yz19,yz10,coe_any,coe_val,coe_ro,yzx,yzw,coe_st,yzy,coe_rp,yzz,coe_clo,yz1e,yz1a,yzu,yz1c,yz1b,L_hit,L_miss,L_nil,xx3,ne_eq,reduceCtorEq,not_false_eq_true,true_and,and_true,and_self,exists_eq_left,exists_eq_right,List.mem_cons,List.not_mem_nil,or_false,AObj.row.injEq,AObj.box.injEq,exists_eq_left',exists_and_left,exists_eq,Nat.zero_lt_one,Nat.lt_add_one,List.map_cons,List.map_nil,AObj.ver,xx5,not_true_eq_false]) ?_
    rintro outs rows res ⟨rfl,rfl,zs,hS,rfl⟩
    refine ⟨rfl,_,rfl,?_⟩
    simp only [sv0,Bzf7,wl,Nat.not_lt_zero,range1,yz11,yz15,yz1j,yz1l,yz14,yz1k,yz1i,yz1g,yz16,yzt,yzk,yz6,yzs,yzr,yzo,yzm,yzq,yz7,yza,yzd,yz9,yzf,yzi,yz2,yz5,yz8,yzc,yzh,yzj,List.range_zero,yz3,yz4,yzb,yzp,yzl,yzn,AVal.fresh,freshL,yz1,yzg,AObj.fresh,id,Option.isSome_some,or_true,true_or,go_sem,yz0,xx9,xx8,xx6,xx7,xx5,xx0,xx1,xx2,reduceIte,xx3,xx4,reduceCtorEq]
    exact yz12 (by simp only [go_sem,yz0,xx9,xx8,xx6,xx7,xx5,xx0,xx1,xx2,reduceIte,xx3,xx4,reduceCtorEq]) (t11 zs (lim - 1) false (hS.perm.trans hP) (hO.seg hS hab hbN) (by omega) (by omega))
end Go.Ab
namespace Go.Ab
open Go.Proofs
theorem k_SortG (xs:List Int) (hl:xs.length≤15):Con Try.prog nz1h [.row 0 1 true (intsK .u64 xs)] [.own 5000 0] true
    fun outs rows res=>rows=[]∧res=.tup []∧∃ ys:List Int,ys.Perm xs∧ys.Pairwise (·≤·)∧outs=[.row 0 1 true (intsK .u64 ys)]:=by
  by_cases h12:xs.length≤12
  · exact k_SortF xs h12
  refine con_sh mixed czd7 rfl (by simp) ?_
  have hw:IntKind.u64.wrap (xs.length:Int)=xs.length:=u64w (by omega)
  generalize hQ:finQ _=Q
  simp only [Azt,Bz70,hw,go_sem,yz0,xx9,xx8,xx6,xx7,xx5,xx0,xx1,xx2,reduceIte,xx3,xx4,reduceCtorEq]
  intro _ vs
  refine yzv (k_LenG xs.length (by omega)) qCS trivial ?_
  simp only [go_sem,yz0,xx9,xx8,xx6,xx7,xx5,xx0,xx1,xx2,reduceIte,xx3,xx4,reduceCtorEq]
  have hsv:sv (L AObj.gone [(5000,AObj.row 0 1 true (intsK .u64 xs))]) [5000] (vs 5) 0=0:=sv_0 rfl
  refine call_rowM (k_pdqL xs (by omega) hl) (r:=5000) rfl (by simp only [rowIs,boxIs,yz1f,yz13,yz1d,yz19,yz10,coe_any,coe_val,coe_ro,yzx,yzw,coe_st,yzy,coe_rp,yzz,coe_clo,yz1e,yz1a,yzu,yz1c,yz1b,L_hit,L_miss,L_nil,xx3,ne_eq,reduceCtorEq,not_false_eq_true,true_and,and_true,and_self,exists_eq_left,exists_eq_right,List.mem_cons,List.not_mem_nil,or_false,AObj.row.injEq,AObj.box.injEq,exists_eq_left',exists_and_left,exists_eq,Nat.zero_lt_one,Nat.lt_add_one,List.map_cons,List.map_nil,AObj.ver,xx5,not_true_eq_false]) (by simp only [rowIs,boxIs,yz1f,yz13,yz1d,yz19,yz10,coe_any,coe_val,coe_ro,yzx,yzw,coe_st,yzy,coe_rp,yzz,coe_clo,yz1e,yz1a,yzu,yz1c,yz1b,L_hit,L_miss,L_nil,xx3,ne_eq,reduceCtorEq,not_false_eq_true,true_and,and_true,and_self,exists_eq_left,exists_eq_right,List.mem_cons,List.not_mem_nil,or_false,AObj.row.injEq,AObj.box.injEq,exists_eq_left',exists_and_left,exists_eq,Nat.zero_lt_one,Nat.lt_add_one,List.map_cons,List.map_nil,AObj.ver,xx5,not_true_eq_false]) ?_
  rintro outs rows res ⟨rfl,rfl,ys,hp,hs,rfl⟩
  refine ⟨rfl,_,rfl,?_⟩
  simp only [hsv,Azt,← hQ,Nat.not_lt_zero,range1,yz11,yz15,yz1j,yz1l,yz14,yz1k,yz1i,yz1g,yz16,yzt,yzk,yz6,yzs,yzr,yzo,yzm,yzq,yz7,yza,yzd,yz9,yzf,yzi,yz2,yz5,yz8,yzc,yzh,yzj,List.range_zero,yz3,yz4,yzb,yzp,yzl,yzn,AVal.fresh,freshL,yz1,yzg,AObj.fresh,id,Option.isSome_some,or_true,true_or,go_sem,yz0,xx9,xx8,xx6,xx7,xx5,xx0,xx1,xx2,reduceIte,xx3,xx4,reduceCtorEq]
  exact ⟨[],by simp,by simp,by simp,by simp,ys,hp,hs,rfl⟩
end Go.Ab
namespace Go.Ab
open Go.Proofs
theorem k_CloneNil:Fun Try.prog nz1i [.val (.slice none 0 0)] (.val (.slice none 0 0)):=by
  refine fun_of mixed czd8 rfl ⟨rfl,trivial⟩ ?_
  simp only [Bz71,Bz72,Bz73,Az74,go_sem,yz0,xx9,xx8,xx6,xx7,xx5,xx0,xx1,xx2,reduceIte,xx3,xx4,reduceCtorEq]
  try (intros;trivial)
theorem k_settle (n o:Int) (next out:List (List Int)) (M:Mach n o next out) (tl:Bool) (F:Nat) (hF:Enough n.toNat F) :
    RowT Try.prog nz3k [machA n o next out,bv tl] (!decide (n=1) && (qT (dbtT next out o tl n F)).isSome) ((qT (dbtT next out o tl n F)).getD []) (if n=1 then 0 else qC (dbtT next out o tl n F)):=by
  refine con_of mixed czid rfl (by simp) ?_
  have n1:=M.aut.n1
  have n2:=M.aut.n2
  have l1:=M.aut.l1
  have l2:=M.aut.l2
  have o1:=M.o1
  have o2:=M.o2
  have hN:2 ^ n.toNat≤1024:=Nat.pow_le_pow_right (n:=2) (by omega) (show n.toNat≤10 by omega)
  have hp:=Nat.two_pow_pos n.toNat
  generalize hQ:finQ _=Q
  simp only [Az2,Bzay,Bzax,go_sem,yz0,xx9,xx8,xx6,xx7,xx5,xx0,xx1,xx2,reduceIte,xx3,xx4,reduceCtorEq]
  intro vs vs2
  by_cases hn1:n > 1
  · have hsh:=u_shl (b:=n.toNat) (by omega)
    have hsu:IntKind.u64.wrap (((2 ^ n.toNat:Nat):Int) - 1)=((2 ^ n.toNat - 1:Nat):Int):=by rw [show ((2 ^ n.toNat:Nat):Int) - 1=((2 ^ n.toNat - 1:Nat):Int) by omega];exact u64w (by omega)
    have hng:¬ n<0:=by omega
    simp only [Bz5s,decide_eq_true hn1,hsh,hsu,hng,if_false,go_sem,yz0,xx9,xx8,xx6,xx7,xx5,xx0,xx1,xx2,reduceIte,xx3,xx4,reduceCtorEq]
    intro vs3
    refine ⟨⟨_,rfl,rfl⟩,?_⟩
    simp only [Bz65,Bz5t,Bzaw,wpD_gh,go_sem,yz0,xx9,xx8,xx6,xx7,xx5,xx0,xx1,xx2,reduceIte,xx3,xx4,reduceCtorEq]
    intro hM
    refine ⟨fun h=>by simp at h,fun _ hD=>?_⟩
    refine ⟨[.fb 6 0 27],gwp_fb rfl rfl (by simp) rfl ?_⟩
    have e0:[AVal.val (Value.int IntKind.u64 ((2 ^ n.toNat - 1:Nat):Int))]=nfs [2 ^ n.toNat - 1]:=rfl
    simp only [gwp_nil,frNm_t,List.set_cons_zero,e0,go_sem,yz0,xx9,xx8,xx6,xx7,xx5,xx0,xx1,xx2,reduceIte,xx3,xx4,reduceCtorEq]
    intro vs4
    have hq0:∀ f∈[2 ^ n.toNat - 1],f<1024:=by intro f hf;simp at hf;omega
    refine ⟨⟨_,rfl,rfl⟩,?_⟩
    refine call_funE (k_doubtKey [2 ^ n.toNat - 1] hq0 (by simp)) qCS ⟨_,keyS (keyB _),rfl,keyS_bytes keyB_in⟩ ?_
    rintro _ ⟨b0,rfl,hb0⟩
    obtain rfl:=keyS_of hb0
    have f0:∀ k:Value,findKeyAt k [] 0=some none:=fun _=>rfl
    have hdb:DB n.toNat [2 ^ n.toNat - 1]:=DB_all n1 n2 hn1
    simp only [f0,go_sem,yz0,xx9,xx8,xx6,xx7,xx5,xx0,xx1,xx2,reduceIte,xx3,xx4,reduceCtorEq]
    obtain ⟨T,hT⟩:∃ T,T=dbtT next out o tl n F:=⟨_,rfl⟩
    rw [← hT] at hQ
    have hT:runG (dbtD next out o tl) next.length ([],[]) F 0 [([2 ^ n.toNat - 1],[])]=T:=hT.symm
    simp only [Bzav,Bzat,go_sem,yz0,xx9,xx8,xx6,xx7,xx5,xx0,xx1,xx2,reduceIte,xx3,xx4,reduceCtorEq]
    refine wpD_lo (fun (_,i,_)=>F - i)
      (fun (_,i,L)=>QI n.toNat next.length L∧i≤List.length L∧runG (dbtD next out o tl) next.length ([],[]) (F - i) i L=T∧(∀ p∈L,p.1≠[])∧List.length L≤2000)
      (fun ((va,i,L):Nat×Nat×QS)=>⟨Go.Ab.L .any [(1,bv tl),(2,.ptr 2 (vs 0 0) 0),(7,.own 34 va),(8,.mp 35 (vs4 2 0)),(9,iv i)],
        Go.Ab.L .gone [(2,.box (vs 0 0) [iv n,iv o,.ro none 1 (rwn next),.ro none 1 (rwn out)]),(34,.row va 2 true (dcl L)),(35,.map (vs4 2 0) (keysQ L) (trueQ L))]⟩)
      (_,0,[([2 ^ n.toNat - 1],[])]) ⟨QI0 hdb,by simp,hT,by simp,by simp⟩ (by simp only [Bz1y,go_sem,yz0,xx9,xx8,xx6,xx7,xx5,xx0,xx1,xx2,reduceIte,xx3,xx4,reduceCtorEq];try rfl) ?_
    rintro ⟨va,i,L⟩ ⟨hI,hi,hR,hne,hl2⟩
    have hi:i≤L.length:=hi
    have hl2:L.length≤2000:=hl2
    have hLF:L.length<F:=hF L hI.nd hI.rg
    have hR:runG (dbtD next out o tl) next.length ([],[]) (F - i) i L=T:=hR
    have e2:2 * L.length / 2=L.length:=by omega
    by_cases hlt:(i:Int)<L.length
    · have hlt1:i<L.length:=by omega
      have wi:IntKind.i64.wrap ((i:Int)+1)=((i+1:Nat):Int):=by rw [w64 (by omega)];simp
      have hm:=yz17 hlt1 ([],([]:List Int))
      have hdp:=hI.rg _ hm
      have hwp:=hI.wd _ hm
      obtain ⟨F',hF'⟩:∃ F',F - i=F'+1:=⟨F - i - 1,by omega⟩
      have hF'2:F - (i+1)=F':=by omega
      rw [hF'] at hR
      simp only [runG,if_pos hlt1] at hR
      simp only [Bz1y,Bz5u,Bzas,e2,decide_eq_true hlt,go_sem,yz0,xx9,xx8,xx6,xx7,xx5,xx0,xx1,xx2,reduceIte,xx3,xx4,reduceCtorEq]
      intro hM1 hM2
      simp only [Bzaq,go_sem,yz0,xx9,xx8,xx6,xx7,xx5,xx0,xx1,xx2,reduceIte,xx3,xx4,reduceCtorEq]
      refine wpD_lo (fun (_,x,_)=>next.length - x)
        (fun (_,x,L')=>x≤next.length∧L'=visQ next out o tl (L.getD i ([],[])).1 (L.getD i ([],[])).2 x L∧(∀ p∈L',p.1≠[])∧List.length L'≤2000)
        (fun ((va,x,L'):Nat×Nat×QS)=>⟨Go.Ab.L .any [(1,bv tl),(2,.ptr 2 (vs 0 0) 0),(7,.own 34 va),(8,.mp 35 (vs4 2 0)),(9,iv i),(48,iv next.length),(49,iv x)],
          Go.Ab.L .gone [(2,.box (vs 0 0) [iv n,iv o,.ro none 1 (rwn next),.ro none 1 (rwn out)]),(34,.row va 2 true (dcl L')),(35,.map (vs4 2 0) (keysQ L') (trueQ L'))]⟩)
        (_,0,L) ⟨by simp,by simp [visQ,visG],hne,hl2⟩ (by simp only [Bz1x,go_sem,yz0,xx9,xx8,xx6,xx7,xx5,xx0,xx1,xx2,reduceIte,xx3,xx4,reduceCtorEq];try rfl) ?_
      rintro ⟨va,x,L'⟩ ⟨hx,hL',hne',hl2'⟩
      have hx:x≤next.length:=hx
      have hl2':L'.length≤2000:=hl2'
      have hL':L'=visQ next out o tl (L.getD i ([],[])).1 (L.getD i ([],[])).2 x L:=hL'
      obtain ⟨hI',t,hpre⟩:=visQ_ok (tl:=tl) M hI hlt1 x hx
      rw [← hL'] at hI' hpre
      have hi2:i<L'.length:=by rw [hpre,List.length_append];omega
      have hat:L'.getD i ([],[])=L.getD i ([],[]):=by rw [hpre];exact appG_getD hlt1
      have e2':2 * L'.length / 2=L'.length:=by omega
      obtain ⟨hg1,hg2⟩:=dcl_get hi2
      by_cases hxl:(x:Int)<next.length
      · have hxl1:x<next.length:=by omega
        have w1:IntKind.i64.wrap ((x:Int)+1)=((x+1:Nat):Int):=by rw [w64 (by omega)];simp
        have hsuN:=@visQ_none next out o tl (L.getD i ([],[])).1 (L.getD i ([],[])).2 x L
        have hsuS:=fun q=>@visQ_some next out o tl (L.getD i ([],[])).1 q (L.getD i ([],[])).2 x L
        rw [← hL'] at hsuN hsuS
        rw [hat] at hg1 hg2
        generalize hfw:L.getD i ([],[])=fw at hm hdp hwp hR hsuN hsuS hg1 hg2 hL' ⊢
        have hwx:=hwp
        have hlen2:=hdp.len (by omega)
        simp only [Bz1x,Bz64,Bzap,Bzao,Bzan,e2',hg1,decide_eq_true hxl,go_sem,yz0,xx9,xx8,xx6,xx7,xx5,xx0,xx1,xx2,reduceIte,xx3,xx4,reduceCtorEq]
        intro vs5
        refine ⟨⟨by omega,by omega⟩,by omega,fun hM3=>?_⟩
        generalize hnr:next.getD x []=nr
        generalize hor:out.getD x []=orr
        simp only [Bzaj,List.length_map,go_sem,yz0,xx9,xx8,xx6,xx7,xx5,xx0,xx1,xx2,reduceIte,xx3,xx4,reduceCtorEq]
        refine wpD_lo (fun (_,j)=>fw.1.length - j) (fun (_,j)=>j≤fw.1.length)
          (fun ((v5,j):Nat×Nat)=>⟨Go.Ab.L .any [(1,bv tl),(2,.ptr 2 (vs 0 0) 0),(7,.own 34 va),(8,.mp 35 (vs4 2 0)),(9,iv i),(10,iv x),(11,.own 52 v5),(12,bv (clrF nr orr o (fw.1.take j))),(48,iv next.length),(49,iv x),(57,.ro (some none) 1 (nfs fw.1)),(58,iv fw.1.length),(59,iv j)],
            Go.Ab.L .gone [(2,.box (vs 0 0) [iv n,iv o,.ro none 1 (rwn next),.ro none 1 (rwn out)]),(34,.row va 2 true (dcl L')),(35,.map (vs4 2 0) (keysQ L') (trueQ L')),(52,.row v5 1 true (nfs (parF nr orr o (fw.1.take j))))]⟩)
          (_,0) (by simp) (by simp only [Bz1w,go_sem,yz0,xx9,xx8,xx6,xx7,xx5,xx0,xx1,xx2,reduceIte,xx3,xx4,reduceCtorEq];try rfl) ?_
        rintro ⟨v5,j⟩ hj
        have hj:j≤fw.1.length:=hj
        by_cases hjl:(j:Int)<fw.1.length
        · have hjl1:j<fw.1.length:=by omega
          have wj:IntKind.i64.wrap ((j:Int)+1)=((j+1:Nat):Int):=by rw [w64 (by omega)];simp
          have hfj:=(hdp.el _ (yz17 hjl1 0)).1
          have hdv:=k_divided n o next out M (fw.1.getD j 0) x hfj hxl1
          have hps:=parF_snoc (nr:=nr) (or:=orr) (o:=o) hjl1
          have hcs:=clrF_snoc (nr:=nr) (or:=orr) (o:=o) hjl1
          have hgj:=nfs_getD hjl1
          have hpl:=parF_len (nr:=nr) (or:=orr) (o:=o) (D:=fw.1.take j)
          rw [List.length_take] at hpl
          have hdl:=dvF_len (nr:=nr) (or:=orr) (o:=o) (S:=bitsTo (fw.1.getD j 0) 10)
          rw [hnr,hor] at hdv
          simp only [Bz1w,Bz5x,Bzai,Bzah,hgj,decide_eq_true hjl,List.length_map,go_sem,yz0,xx9,xx8,xx6,xx7,xx5,xx0,xx1,xx2,reduceIte,xx3,xx4,reduceCtorEq]
          generalize fw.1.getD j 0=f at hfj hdv hps hcs hdl ⊢
          generalize dvF nr orr o (bitsTo f 10)=dv at hdv hps hcs hdl
          refine ⟨⟨by omega,hjl1⟩,hjl1,fun vs6=>?_⟩
          refine call_fn hdv qCS (fun e=>by cases e) ?_
          rintro rows res ⟨v67,rfl,rfl⟩
          refine ⟨by simp,(fun k hk=>by obtain rfl:k=0:=(by simpa using hk);rfl),?_⟩
          have hpb:min j fw.1.length * o.toNat≤5 * 3:=Nat.mul_le_mul (by omega) (by omega)
          generalize hcc:clrF nr orr o (List.take j fw.1)=cc at hcs ⊢
          simp only [Bz1v,List.length_map,Nat.not_lt_zero,range1,yz11,yz15,yz1j,yz1l,yz14,yz1k,yz1i,yz1g,yz16,yzt,yzk,yz6,yzs,yzr,yzo,yzm,yzq,yz7,yza,yzd,yz9,yzf,yzi,yz2,yz5,yz8,yzc,yzh,yzj,List.range_zero,yz3,yz4,yzb,yzp,yzl,yzn,AVal.fresh,freshL,yz1,yzg,AObj.fresh,id,Option.isSome_some,or_true,true_or,go_sem,yz0,xx9,xx8,xx6,xx7,xx5,xx0,xx1,xx2,reduceIte,xx3,xx4,reduceCtorEq]
          cases cc with
          | true =>
            simp only [Bz1v,Bz5v,Bz5w,wj,Nat.not_lt_zero,range1,yz11,yz15,yz1j,yz1l,yz14,yz1k,yz1i,yz1g,yz16,yzt,yzk,yz6,yzs,yzr,yzo,yzm,yzq,yz7,yza,yzd,yz9,yzf,yzi,yz2,yz5,yz8,yzc,yzh,yzj,List.range_zero,yz3,yz4,yzb,yzp,yzl,yzn,AVal.fresh,freshL,yz1,yzg,AObj.fresh,id,Option.isSome_some,or_true,true_or,go_sem,yz0,xx9,xx8,xx6,xx7,xx5,xx0,xx1,xx2,reduceIte,xx3,xx4,reduceCtorEq]
            exact fun vs7=>⟨by omega,(vs7 2 0,j+1),by dsimp only;omega,by dsimp only;omega,by dsimp only;rw [hps,hcs,Bool.true_and,← nfs_app]⟩
          | false =>
            simp only [Bz1v,Bz5v,Bz5w,wj,Nat.not_lt_zero,range1,yz11,yz15,yz1j,yz1l,yz14,yz1k,yz1i,yz1g,yz16,yzt,yzk,yz6,yzs,yzr,yzo,yzm,yzq,yz7,yza,yzd,yz9,yzf,yzi,yz2,yz5,yz8,yzc,yzh,yzj,List.range_zero,yz3,yz4,yzb,yzp,yzl,yzn,AVal.fresh,freshL,yz1,yzg,AObj.fresh,id,Option.isSome_some,or_true,true_or,go_sem,yz0,xx9,xx8,xx6,xx7,xx5,xx0,xx1,xx2,reduceIte,xx3,xx4,reduceCtorEq]
            exact fun vs7=>⟨by omega,(vs7 2 0,j+1),by dsimp only;omega,by dsimp only;omega,by dsimp only;rw [hps,hcs,Bool.false_and,← nfs_app]⟩
        · obtain rfl:j=fw.1.length:=by omega
          have hpreT:∀ y,y≤next.length→∃ t,T=visQ next out o tl fw.1 fw.2 y L ++ t:=fun y hy=>by
            obtain ⟨t1,h1⟩:=visG_ext (δ:=dbtD next out o tl) (p:=fw.1) (w:=fw.2) (L:=L) (x:=y) (next.length - y)
            obtain ⟨t2,h2⟩:=runG_pre (δ:=dbtD next out o tl) (m:=next.length) (d:=([],[])) F' (i+1) (visG (dbtD next out o tl) fw.1 fw.2 next.length L)
            rw [show y+(next.length - y)=next.length by omega] at h1
            exact ⟨t1 ++ t2,by rw [← hR,h2,h1,List.append_assoc]⟩
          have hd0:dbtD next out o tl fw.1 x=if (tl && !(clrF nr orr o fw.1))=true then none else some (nrmF (parF nr orr o fw.1)):=by rw [← hnr,← hor];rfl
          simp only [Bz1w,Bz5x,Bzam,decide_eq_false hjl,List.length_map,List.take_length,go_sem,yz0,xx9,xx8,xx6,xx7,xx5,xx0,xx1,xx2,reduceIte,xx3,xx4,reduceCtorEq]
          generalize hcc:clrF nr orr o fw.1=cc at hd0 ⊢
          by_cases hcl:(tl && !cc)=true
          · rw [if_pos hcl] at hd0
            have hsu:=hsuN hd0
            obtain ⟨rfl,rfl⟩:tl=true∧cc=false:=by revert hcl;cases tl <;> cases cc <;> simp
            simp only [Bz5y,Bz63,Bzg,w1,go_sem,yz0,xx9,xx8,xx6,xx7,xx5,xx0,xx1,xx2,reduceIte,xx3,xx4,reduceCtorEq]
            exact ⟨(va,x+1,L'),by dsimp only;omega,⟨by dsimp only;omega,hsu.symm,hne',hl2'⟩,rfl⟩
          · rw [if_neg hcl] at hd0
            have hgo:tl=false∨tl=true∧cc=true:=by revert hcl;cases tl <;> cases cc <;> simp
            have hsu:=hsuS _ hd0
            have hdq:=dbt_DB M hdp hxl1 hd0
            have hDne:fw.1≠[]:=hne _ hm
            have hpsl:=parF_len (nr:=nr) (or:=orr) (o:=o) (D:=fw.1)
            have hps1:∀ g∈parF nr orr o fw.1,g<1024:=by
              have hr:=M.aut.row _ (yz17 hxl1 [])
              rw [hnr] at hr
              exact fun g hg=>Nat.lt_of_lt_of_le (parF_lt (n:=n.toNat) (fun s hs=>by have:=hr.2 s hs;omega) (by omega) (fun f hf=>(hdp.el f hf).1) g hg) hN
            have hDl:1≤fw.1.length:=by cases h:fw.1 with
              | nil=>exact absurd h hDne
              | cons=>simp
            have hps2:(parF nr orr o fw.1).length≤15:=by
              rw [hpsl];exact Nat.mul_le_mul (show fw.1.length≤5 by omega) (show o.toNat≤3 by omega)
            have hps3:1≤(parF nr orr o fw.1).length:=by rw [hpsl];exact Nat.mul_pos hDl (by omega)
            generalize hPS:parF nr orr o fw.1=ps at hd0 hsu hdq hpsl hps1 hps2 hps3 ⊢
            have hns:=fun ys=>nrm_sorted (ps:=ps) (ys:=ys) hps1
            generalize nrmF ps=q at hd0 hsu hdq hns
            have hn1':¬ n=1:=by omega
            have hq4:∀ f∈q,f<1024:=fun f hf=>Nat.lt_of_lt_of_le (hdq.el f hf).1 hN
            have hq5:=hdq.len (by omega)
            have h20:¬ (2000:Int)<L'.length:=by omega
            rcases hgo with rfl | ⟨rfl,rfl⟩ <;> (
              simp only [Bz5y,Bz63,go_sem,yz0,xx9,xx8,xx6,xx7,xx5,xx0,xx1,xx2,reduceIte,xx3,xx4,reduceCtorEq]
              intro vs6
              refine call_row1 (k_SortG (ps.map fun (f:Nat)=>(f:Int)) (by simpa using hps2)) (r:=52) (v:=v5) rfl qCS qWS ?_
              rintro outs rows res ⟨rfl,rfl,ys,hyp,hys,rfl⟩
              refine ⟨rfl,_,rfl,?_⟩
              have hyl:ys.length=ps.length:=by rw [hyp.length_eq];simp
              have hy0:ys≠[]:=fun e=>by rw [e] at hyl;simp at hyl;omega
              have hcs:=compact_sorted hys
              have hc0:Lib.compact ys≠[]:=fun e=>by
                cases hy:ys with
                | nil=>exact hy0 hy
                | cons y l =>
                  have:=(hcs.2 y).2 (by rw [hy];simp)
                  rw [e] at this;simp at this
              have hns2:=hns ys hyp hys
              simp only [sv_one,Bzal,AObj.ver,Option.getD_some,Nat.not_lt_zero,range1,yz11,yz15,yz1j,yz1l,yz14,yz1k,yz1i,yz1g,yz16,yzt,yzk,yz6,yzs,yzr,yzo,yzm,yzq,yz7,yza,yzd,yz9,yzf,yzi,yz2,yz5,yz8,yzc,yzh,yzj,List.range_zero,yz3,yz4,yzb,yzp,yzl,yzn,AVal.fresh,freshL,yz1,yzg,AObj.fresh,id,Option.isSome_some,or_true,true_or,go_sem,yz0,xx9,xx8,xx6,xx7,xx5,xx0,xx1,xx2,reduceIte,xx3,xx4,reduceCtorEq]
              intro vs7
              refine call_row1 (k_CompactF ys hy0) (r:=52) (v:=v5) rfl qCS qWS ?_
              rintro outs rows res ⟨v52,rfl,rfl,rfl⟩
              refine ⟨rfl,_,rfl,?_⟩
              simp only [sv_one,ren_own_h,AObj.ver,Option.getD_some,Nat.not_lt_zero,range1,yz11,yz15,yz1j,yz1l,yz14,yz1k,yz1i,yz1g,yz16,yzt,yzk,yz6,yzs,yzr,yzo,yzm,yzq,yz7,yza,yzd,yz9,yzf,yzi,yz2,yz5,yz8,yzc,yzh,yzj,List.range_zero,yz3,yz4,yzb,yzp,yzl,yzn,AVal.fresh,freshL,yz1,yzg,AObj.fresh,id,Option.isSome_some,or_true,true_or,go_sem,yz0,xx9,xx8,xx6,xx7,xx5,xx0,xx1,xx2,reduceIte,xx3,xx4,reduceCtorEq]
              refine call_rowM (k_DelF _ hc0) (r:=52) rfl qCS qCS ?_
              rintro outs rows res ⟨v53,rfl,rfl,rfl⟩
              refine ⟨rfl,_,rfl,?_⟩
              rw [hns2]
              simp only [sv_one,ren_own_h,AObj.ver,Option.getD_some,Bzak,hg2,Nat.not_lt_zero,range1,yz11,yz15,yz1j,yz1l,yz14,yz1k,yz1i,yz1g,yz16,yzt,yzk,yz6,yzs,yzr,yzo,yzm,yzq,yz7,yza,yzd,yz9,yzf,yzi,yz2,yz5,yz8,yzc,yzh,yzj,List.range_zero,yz3,yz4,yzb,yzp,yzl,yzn,AVal.fresh,freshL,yz1,yzg,AObj.fresh,id,Option.isSome_some,or_true,true_or,go_sem,yz0,xx9,xx8,xx6,xx7,xx5,xx0,xx1,xx2,reduceIte,xx3,xx4,reduceCtorEq]
              intro vs8
              refine ⟨⟨by omega,by omega⟩,by omega,?_⟩
              generalize sv _ [52] (vs7 2) v53=u53
              by_cases hw0:fw.2=[]
              · have hwA:wA fw.2=.val (.slice none 0 0):=by unfold wA;rw [if_pos hw0]
                simp only [hwA]
                refine yzv k_CloneNil qCS trivial ?_
                simp only [go_sem,yz0,xx9,xx8,xx6,xx7,xx5,xx0,xx1,xx2,reduceIte,xx3,xx4,reduceCtorEq]
                refine ⟨⟨_,rfl,rfl⟩,?_⟩
                have hrow:[AVal.val (Value.int .i64 (x:Int))]=ints (fw.2 ++ [(x:Int)]):=by rw [hw0];rfl
                simp only [hrow]
                simp only [Bz62,Bz5z,List.length_map,go_sem,yz0,xx9,xx8,xx6,xx7,xx5,xx0,xx1,xx2,reduceIte,xx3,xx4,reduceCtorEq]
                intro hMq
                refine ⟨fun hq0=>?_,fun hq0=>?_⟩
                · have hq0:q=[]:=List.eq_nil_of_length_eq_zero (by have:=eq_of_beq hq0;omega)
                  subst hq0
                  rw [hasG_nil hne',if_neg (by simp)] at hsu
                  obtain ⟨t9,ht9⟩:=hpreT (x+1) hxl1
                  rw [hsu,List.append_assoc] at ht9
                  have hq:=qT_some ht9 hl2' hne'
                  simp only [Az2,← hQ,go_sem,yz0,xx9,xx8,xx6,xx7,xx5,xx0,xx1,xx2,reduceIte,xx3,xx4,reduceCtorEq]
                  refine ⟨[97],by simp,by simp,by simp,?_⟩
                  simp only [range1,List.length_singleton,Nat.not_lt_zero,range1,yz11,yz15,yz1j,yz1l,yz14,yz1k,yz1i,yz1g,yz16,yzt,yzk,yz6,yzs,yzr,yzo,yzm,yzq,yz7,yza,yzd,yz9,yzf,yzi,yz2,yz5,yz8,yzc,yzh,yzj,List.range_zero,yz3,yz4,yzb,yzp,yzl,yzn,AVal.fresh,freshL,yz1,yzg,AObj.fresh,id,Option.isSome_some,or_true,true_or,go_sem,yz0,xx9,xx8,xx6,xx7,xx5,xx0,xx1,xx2,reduceIte,xx3,xx4,reduceCtorEq]
                  have hqc:qC T=0:=by unfold qC;rw [hq];rfl
                  simp only [hq,hqc,decide_eq_false hn1',if_neg hn1',Bool.not_false,Option.isSome_some,Bool.and_self,if_true,Option.getD_some]
                  exact ⟨_,rfl,rfl⟩
                · have hqne:q≠[]:=fun e=>by rw [e] at hq0;exact absurd hq0 (by decide)
                  simp only [Bz61,go_sem,yz0,xx9,xx8,xx6,xx7,xx5,xx0,xx1,xx2,reduceIte,xx3,xx4,reduceCtorEq]
                  intro vs9
                  refine call_funE (k_doubtKey q hq4 (by omega)) qCS ⟨_,dkS q,rfl,keyS_bytes keyB_in⟩ ?_
                  rintro _ ⟨b1,rfl,hb1⟩
                  have hb1:b1=dkS q:=keyS_of hb1
                  subst hb1
                  cases hh:hasG L' q with
                  | true =>
                    rw [hh,if_pos rfl] at hsu
                    obtain ⟨jj,hj1,hj2⟩:=fkQ_mem hq4 0 (hI'.lt (by omega)) hh
                    rw [Nat.zero_add] at hj1
                    have htj:(List.map (fun _=>bv true) L').getD jj AVal.any=bv true:=trueQ_getD hj2
                    simp only [Bzr,Bzq,Bz8,Bz7,Bzg,hj1,htj,e2',Option.isSome_some,Option.getD_some,decide_eq_false h20,w1,go_sem,yz0,xx9,xx8,xx6,xx7,xx5,xx0,xx1,xx2,reduceIte,xx3,xx4,reduceCtorEq]
                    exact fun hM9=>⟨(va,x+1,L'),by dsimp only;omega,⟨by dsimp only;omega,hsu.symm,hne',hl2'⟩,rfl⟩
                  | false =>
                    rw [hh,if_neg (by simp)] at hsu
                    have hj1:=fkQ_not hq4 0 (hI'.lt (by omega)) hh
                    simp only [Bzr,Bzq,Bz60,hj1,Option.isSome_none,Option.getD_none,go_sem,yz0,xx9,xx8,xx6,xx7,xx5,xx0,xx1,xx2,reduceIte,xx3,xx4,reduceCtorEq]
                    obtain ⟨L2,hL2⟩:∃ L2,L2=L' ++ [(q,fw.2 ++ [(x:Int)])]:=⟨_,rfl⟩
                    rw [← hL2] at hsu
                    have hk2:keysQ L' ++ [Value.string (dkS q)]=keysQ L2:=by rw [hL2];simp
                    have ht2:(List.map (fun _=>bv true) L') ++ [bv true]=List.map (fun _=>bv true) L2:=by rw [hL2];simp
                    have hd2:∀ a b:Nat,dnL (dcl L' ++ [.ro (some (some (a+1))) 1 (nfs q),.ro (some (some (b+1))) 1 (ints (fw.2 ++ [(x:Int)]))])=dcl L2:=by intro a b;rw [hL2];exact dnL_snocD (by simp)
                    have hl3:L2.length=L'.length+1:=by rw [hL2];simp
                    have e3:2 * L2.length / 2=L2.length:=by omega
                    have hne2:∀ p∈L2,p.1≠[]:=fun p hp=>by
                      rw [hL2] at hp
                      rcases List.mem_append.1 hp with hp | hp
                      · exact hne' p hp
                      · rw [List.mem_singleton.1 hp];exact hqne
                    refine fun vs10=>⟨by simp,by omega,?_⟩
                    by_cases h30:(2000:Int)<L2.length
                    · obtain ⟨t9,ht9⟩:=hpreT (x+1) hxl1
                      rw [hsu] at ht9
                      obtain ⟨hq,hqc⟩:=qT_lim ht9 (by omega) hne2
                      simp only [Bz8,Bz7,hd2,hk2,ht2,e3,decide_eq_true h30,Az2,← hQ,go_sem,yz0,xx9,xx8,xx6,xx7,xx5,xx0,xx1,xx2,reduceIte,xx3,xx4,reduceCtorEq]
                      intro hM9
                      refine ⟨[],by simp,by simp,by simp,?_⟩
                      simp only [List.map_nil,List.length_nil,Nat.not_lt_zero,range1,yz11,yz15,yz1j,yz1l,yz14,yz1k,yz1i,yz1g,yz16,yzt,yzk,yz6,yzs,yzr,yzo,yzm,yzq,yz7,yza,yzd,yz9,yzf,yzi,yz2,yz5,yz8,yzc,yzh,yzj,List.range_zero,yz3,yz4,yzb,yzp,yzl,yzn,AVal.fresh,freshL,yz1,yzg,AObj.fresh,id,Option.isSome_some,or_true,true_or,go_sem,yz0,xx9,xx8,xx6,xx7,xx5,xx0,xx1,xx2,reduceIte,xx3,xx4,reduceCtorEq]
                      simp only [hq,hqc,decide_eq_false hn1',if_neg hn1',Bool.not_false,Option.isSome_none,Bool.and_false,Bool.false_eq_true,if_false]
                    · simp only [Bz8,Bz7,Bzg,hd2,hk2,ht2,e3,decide_eq_false h30,w1,go_sem,yz0,xx9,xx8,xx6,xx7,xx5,xx0,xx1,xx2,reduceIte,xx3,xx4,reduceCtorEq]
                      exact fun hM9=>⟨(vs10 3 0,x+1,L2),by dsimp only;omega,⟨by dsimp only;omega,hsu.symm,hne2,by dsimp only;omega⟩,rfl⟩
              · have hwA:wA fw.2=.ro (some none) 1 (ints fw.2):=by unfold wA;rw [if_neg hw0]
                simp only [hwA]
                refine call_rowI (k_Clone fw.2 (by omega)) qCS qGN ⟨_,rfl⟩ ?_
                rintro xs v94 rfl
                simp only [go_sem,yz0,xx9,xx8,xx6,xx7,xx5,xx0,xx1,xx2,reduceIte,xx3,xx4,reduceCtorEq]
                refine ⟨⟨_,rfl,rfl⟩,by omega,?_⟩
                simp only [Bz62,Bz5z,List.length_map,go_sem,yz0,xx9,xx8,xx6,xx7,xx5,xx0,xx1,xx2,reduceIte,xx3,xx4,reduceCtorEq]
                intro hMq
                refine ⟨fun hq0=>?_,fun hq0=>?_⟩
                · have hq0:q=[]:=List.eq_nil_of_length_eq_zero (by have:=eq_of_beq hq0;omega)
                  subst hq0
                  rw [hasG_nil hne',if_neg (by simp)] at hsu
                  obtain ⟨t9,ht9⟩:=hpreT (x+1) hxl1
                  rw [hsu,List.append_assoc] at ht9
                  have hq:=qT_some ht9 hl2' hne'
                  simp only [Az2,← hQ,go_sem,yz0,xx9,xx8,xx6,xx7,xx5,xx0,xx1,xx2,reduceIte,xx3,xx4,reduceCtorEq]
                  refine ⟨[94],by simp,by simp,by simp,?_⟩
                  simp only [range1,List.length_singleton,Nat.not_lt_zero,range1,yz11,yz15,yz1j,yz1l,yz14,yz1k,yz1i,yz1g,yz16,yzt,yzk,yz6,yzs,yzr,yzo,yzm,yzq,yz7,yza,yzd,yz9,yzf,yzi,yz2,yz5,yz8,yzc,yzh,yzj,List.range_zero,yz3,yz4,yzb,yzp,yzl,yzn,AVal.fresh,freshL,yz1,yzg,AObj.fresh,id,Option.isSome_some,or_true,true_or,go_sem,yz0,xx9,xx8,xx6,xx7,xx5,xx0,xx1,xx2,reduceIte,xx3,xx4,reduceCtorEq]
                  have hqc:qC T=0:=by unfold qC;rw [hq];rfl
                  simp only [hq,hqc,decide_eq_false hn1',if_neg hn1',Bool.not_false,Option.isSome_some,Bool.and_self,if_true,Option.getD_some]
                  exact ⟨_,rfl,rfl⟩
                · have hqne:q≠[]:=fun e=>by rw [e] at hq0;exact absurd hq0 (by decide)
                  simp only [Bz61,go_sem,yz0,xx9,xx8,xx6,xx7,xx5,xx0,xx1,xx2,reduceIte,xx3,xx4,reduceCtorEq]
                  intro vs9
                  refine call_funE (k_doubtKey q hq4 (by omega)) qCS ⟨_,dkS q,rfl,keyS_bytes keyB_in⟩ ?_
                  rintro _ ⟨b1,rfl,hb1⟩
                  have hb1:b1=dkS q:=keyS_of hb1
                  subst hb1
                  cases hh:hasG L' q with
                  | true =>
                    rw [hh,if_pos rfl] at hsu
                    obtain ⟨jj,hj1,hj2⟩:=fkQ_mem hq4 0 (hI'.lt (by omega)) hh
                    rw [Nat.zero_add] at hj1
                    have htj:(List.map (fun _=>bv true) L').getD jj AVal.any=bv true:=trueQ_getD hj2
                    simp only [Bzr,Bzq,Bz8,Bz7,Bzg,hj1,htj,e2',Option.isSome_some,Option.getD_some,decide_eq_false h20,w1,go_sem,yz0,xx9,xx8,xx6,xx7,xx5,xx0,xx1,xx2,reduceIte,xx3,xx4,reduceCtorEq]
                    exact fun hM9=>⟨(va,x+1,L'),by dsimp only;omega,⟨by dsimp only;omega,hsu.symm,hne',hl2'⟩,rfl⟩
                  | false =>
                    rw [hh,if_neg (by simp)] at hsu
                    have hj1:=fkQ_not hq4 0 (hI'.lt (by omega)) hh
                    simp only [Bzr,Bzq,Bz60,hj1,Option.isSome_none,Option.getD_none,go_sem,yz0,xx9,xx8,xx6,xx7,xx5,xx0,xx1,xx2,reduceIte,xx3,xx4,reduceCtorEq]
                    obtain ⟨L2,hL2⟩:∃ L2,L2=L' ++ [(q,fw.2 ++ [(x:Int)])]:=⟨_,rfl⟩
                    rw [← hL2] at hsu
                    have hk2:keysQ L' ++ [Value.string (dkS q)]=keysQ L2:=by rw [hL2];simp
                    have ht2:(List.map (fun _=>bv true) L') ++ [bv true]=List.map (fun _=>bv true) L2:=by rw [hL2];simp
                    have hd2:∀ a b:Nat,dnL (dcl L' ++ [.ro (some (some (a+1))) 1 (nfs q),.ro (some (some (b+1))) 1 (ints (fw.2 ++ [(x:Int)]))])=dcl L2:=by intro a b;rw [hL2];exact dnL_snocD (by simp)
                    have hl3:L2.length=L'.length+1:=by rw [hL2];simp
                    have e3:2 * L2.length / 2=L2.length:=by omega
                    have hne2:∀ p∈L2,p.1≠[]:=fun p hp=>by
                      rw [hL2] at hp
                      rcases List.mem_append.1 hp with hp | hp
                      · exact hne' p hp
                      · rw [List.mem_singleton.1 hp];exact hqne
                    refine fun vs10=>⟨by simp,by omega,?_⟩
                    by_cases h30:(2000:Int)<L2.length
                    · obtain ⟨t9,ht9⟩:=hpreT (x+1) hxl1
                      rw [hsu] at ht9
                      obtain ⟨hq,hqc⟩:=qT_lim ht9 (by omega) hne2
                      simp only [Bz8,Bz7,hd2,hk2,ht2,e3,decide_eq_true h30,Az2,← hQ,go_sem,yz0,xx9,xx8,xx6,xx7,xx5,xx0,xx1,xx2,reduceIte,xx3,xx4,reduceCtorEq]
                      intro hM9
                      refine ⟨[],by simp,by simp,by simp,?_⟩
                      simp only [List.map_nil,List.length_nil,Nat.not_lt_zero,range1,yz11,yz15,yz1j,yz1l,yz14,yz1k,yz1i,yz1g,yz16,yzt,yzk,yz6,yzs,yzr,yzo,yzm,yzq,yz7,yza,yzd,yz9,yzf,yzi,yz2,yz5,yz8,yzc,yzh,yzj,List.range_zero,yz3,yz4,yzb,yzp,yzl,yzn,AVal.fresh,freshL,yz1,yzg,AObj.fresh,id,Option.isSome_some,or_true,true_or,go_sem,yz0,xx9,xx8,xx6,xx7,xx5,xx0,xx1,xx2,reduceIte,xx3,xx4,reduceCtorEq]
                      simp only [hq,hqc,decide_eq_false hn1',if_neg hn1',Bool.not_false,Option.isSome_none,Bool.and_false,Bool.false_eq_true,if_false]
                    · simp only [Bz8,Bz7,Bzg,hd2,hk2,ht2,e3,decide_eq_false h30,w1,go_sem,yz0,xx9,xx8,xx6,xx7,xx5,xx0,xx1,xx2,reduceIte,xx3,xx4,reduceCtorEq]
                      exact fun hM9=>⟨(vs10 3 0,x+1,L2),by dsimp only;omega,⟨by dsimp only;omega,hsu.symm,hne2,by dsimp only;omega⟩,rfl⟩)
      · obtain rfl:x=next.length:=by omega
        simp only [Bz1x,Bz64,Bzar,wi,decide_eq_false hxl,go_sem,yz0,xx9,xx8,xx6,xx7,xx5,xx0,xx1,xx2,reduceIte,xx3,xx4,reduceCtorEq]
        have hR':runG (dbtD next out o tl) next.length ([],[]) (F - (i+1)) (i+1) L'=T:=by rw [hF'2,hL'];exact hR
        exact ⟨(va,i+1,L'),by dsimp only;omega,⟨hI',by dsimp only;omega,hR',hne',hl2'⟩,rfl⟩
    · obtain rfl:i=L.length:=by omega
      have hLT:L=T:=by
        obtain ⟨F',hF'⟩:∃ F',F - L.length=F'+1:=⟨F - L.length - 1,by omega⟩
        rw [hF'] at hR
        simpa only [runG,Nat.lt_irrefl,if_false] using hR
      have hn1':¬ n=1:=by omega
      obtain ⟨hq,hqc⟩:=qT_end (T:=L) hl2 hne
      rw [hLT] at hq hqc
      simp only [Bz1y,Bz5u,Bzau,e2,decide_eq_false hlt,Az2,← hQ,go_sem,yz0,xx9,xx8,xx6,xx7,xx5,xx0,xx1,xx2,reduceIte,xx3,xx4,reduceCtorEq]
      intro hM1
      refine ⟨[],by simp,by simp,by simp,?_⟩
      simp only [List.map_nil,List.length_nil,Nat.not_lt_zero,range1,yz11,yz15,yz1j,yz1l,yz14,yz1k,yz1i,yz1g,yz16,yzt,yzk,yz6,yzs,yzr,yzo,yzm,yzq,yz7,yza,yzd,yz9,yzf,yzi,yz2,yz5,yz8,yzc,yzh,yzj,List.range_zero,yz3,yz4,yzb,yzp,yzl,yzn,AVal.fresh,freshL,yz1,yzg,AObj.fresh,id,Option.isSome_some,or_true,true_or,go_sem,yz0,xx9,xx8,xx6,xx7,xx5,xx0,xx1,xx2,reduceIte,xx3,xx4,reduceCtorEq]
      simp only [hq,hqc,decide_eq_false hn1',if_neg hn1',Bool.not_false,Option.isSome_none,Bool.and_false,Bool.false_eq_true,if_false]
      try trivial
  · have hn1':n=1:=by omega
    simp only [Bz5s,Bz65,Bz5t,decide_eq_false hn1,Az2,← hQ,go_sem,yz0,xx9,xx8,xx6,xx7,xx5,xx0,xx1,xx2,reduceIte,xx3,xx4,reduceCtorEq]
    refine ⟨[],by simp,by simp,by simp,?_⟩
    simp only [List.map_nil,List.length_nil,Nat.not_lt_zero,range1,yz11,yz15,yz1j,yz1l,yz14,yz1k,yz1i,yz1g,yz16,yzt,yzk,yz6,yzs,yzr,yzo,yzm,yzq,yz7,yza,yzd,yz9,yzf,yzi,yz2,yz5,yz8,yzc,yzh,yzj,List.range_zero,yz3,yz4,yzb,yzp,yzl,yzn,AVal.fresh,freshL,yz1,yzg,AObj.fresh,id,Option.isSome_some,or_true,true_or,go_sem,yz0,xx9,xx8,xx6,xx7,xx5,xx0,xx1,xx2,reduceIte,xx3,xx4,reduceCtorEq]
    simp only [decide_eq_true hn1',if_pos hn1',Bool.not_true,Bool.false_and,Bool.false_eq_true,if_false]
    try trivial
end Go.Ab
namespace Go.Ab
open Go.Proofs
abbrev dsI (L:QS):List (List Int):=L.map fun p=>p.1.map fun (f:Nat)=>(f:Int)
theorem dsI_getD {L:QS} {i:Nat} (h:i<L.length):(dsI L).getD i []=(L.getD i ([],[])).1.map fun (f:Nat)=>(f:Int):=by
  rw [List.getD_eq_getElem?_getD,List.getElem?_map,List.getElem?_eq_getElem h,List.getD_eq_getElem?_getD,List.getElem?_eq_getElem h];rfl
theorem wsQ_getD {L:QS} {i:Nat} (h:i<L.length):(L.map (·.2)).getD i []=(L.getD i ([],[])).2:=by
  rw [List.getD_eq_getElem?_getD,List.getElem?_map,List.getElem?_eq_getElem h,List.getD_eq_getElem?_getD,List.getElem?_eq_getElem h];rfl
theorem cast_inj {a b:List Nat} (h:(a.map fun (f:Nat)=>(f:Int))=b.map fun (f:Nat)=>(f:Int)):a=b:=by
  have e:∀ l:List Nat,(l.map fun (f:Nat)=>(f:Int)).map Int.toNat=l:=fun l=>by
    rw [List.map_map];conv=>rhs;rw [← List.map_id l]
    exact List.map_congr_left fun x _=>by simp
  rw [← e a,← e b,h]
theorem find_has {L:QS} {q:List Nat}:decide (0≤fidx (fun y=>decide (y=q.map fun (f:Nat)=>(f:Int))) (dsI L) 0)=hasG L q:=by
  rw [fidx_ge]
  unfold hasG dsI
  rw [List.any_map]
  congr 1
  funext p
  show decide (p.1.map (fun (f:Nat)=>(f:Int))=q.map fun (f:Nat)=>(f:Int))=decide (p.1=q)
  by_cases e:p.1=q
  · rw [decide_eq_true e,decide_eq_true (by rw [e])]
  · rw [decide_eq_false e,decide_eq_false fun h=>e (cast_inj h)]
theorem k_l06First (n o:Int) (next out:List (List Int)) (M:Mach n o next out) (tl:Bool) (F:Nat) (hF:Enough n.toNat F) :
    RowC2 Try.prog nz3m [machP n o next out,bv tl] (if n=1 then [] else (qT (dbtT next out o tl n F)).getD []) (if n=1 then 0 else qC (dbtT next out o tl n F)):=by
  refine con_of mixed czif rfl (by simp) ?_
  have n1:=M.aut.n1
  have n2:=M.aut.n2
  have l1:=M.aut.l1
  have l2:=M.aut.l2
  have hN:2 ^ n.toNat≤1024:=Nat.pow_le_pow_right (n:=2) (by omega) (show n.toNat≤10 by omega)
  have hp:=Nat.two_pow_pos n.toNat
  generalize hQ:finQ _=Q
  simp only [Azh,Bzbo,go_sem,yz0,xx9,xx8,xx6,xx7,xx5,xx0,xx1,xx2,reduceIte,xx3,xx4,reduceCtorEq]
  by_cases hn1:n=1
  · have hb1:(n == 1)=true:=by rw [hn1];rfl
    simp only [Bz6a,hb1,Azh,← hQ,go_sem,yz0,xx9,xx8,xx6,xx7,xx5,xx0,xx1,xx2,reduceIte,xx3,xx4,reduceCtorEq]
    intro vs
    refine ⟨[18],by simp,by simp,by simp,?_⟩
    simp only [range1,List.length_singleton,Nat.not_lt_zero,range1,yz11,yz15,yz1j,yz1l,yz14,yz1k,yz1i,yz1g,yz16,yzt,yzk,yz6,yzs,yzr,yzo,yzm,yzq,yz7,yza,yzd,yz9,yzf,yzi,yz2,yz5,yz8,yzc,yzh,yzj,List.range_zero,yz3,yz4,yzb,yzp,yzl,yzn,AVal.fresh,freshL,yz1,yzg,AObj.fresh,id,Option.isSome_some,or_true,true_or,go_sem,yz0,xx9,xx8,xx6,xx7,xx5,xx0,xx1,xx2,reduceIte,xx3,xx4,reduceCtorEq]
    rw [if_pos hn1,if_pos hn1]
    exact ⟨_,rfl,rfl⟩
  have hb1:(n == 1)=false:=by simpa using hn1
  have hcn:IntKind.u64.wrap n=n:=by have:=u64w (n:=n.toNat) (by omega);rwa [show ((n.toNat:Nat):Int)=n by omega] at this
  have hng:¬ n<0:=by omega
  have s1:=i_shl1 (b:=n.toNat) (by omega)
  have s2:IntKind.i64.wrap (((2 ^ n.toNat:Nat):Int) - 1)=((2 ^ n.toNat - 1:Nat):Int):=by rw [show ((2 ^ n.toNat:Nat):Int) - 1=((2 ^ n.toNat - 1:Nat):Int) by omega];exact w64 (by omega)
  simp only [Bz6a,Bzbn,hb1,hcn,hng,s1,s2,go_sem,yz0,xx9,xx8,xx6,xx7,xx5,xx0,xx1,xx2,reduceIte,xx3,xx4,reduceCtorEq]
  intro vs
  refine ⟨⟨_,rfl,rfl⟩,?_⟩
  simp only [Bzbm,Bzbl,Bzbj,go_sem,yz0,xx9,xx8,xx6,xx7,xx5,xx0,xx1,xx2,reduceIte,xx3,xx4,reduceCtorEq]
  intro vs2
  obtain ⟨T,hT⟩:∃ T,T=dbtT next out o tl n F:=⟨_,rfl⟩
  rw [← hT] at hQ
  have hT:runG (dbtD next out o tl) next.length ([],[]) F 0 [([2 ^ n.toNat - 1],[])]=T:=hT.symm
  have hdb:DB n.toNat [2 ^ n.toNat - 1]:=DB_all n1 n2 (by omega)
  refine wpD_lo (fun (_,_,i,_)=>F - i)
    (fun (_,_,i,L)=>QI n.toNat next.length L∧i≤List.length L∧runG (dbtD next out o tl) next.length ([],[]) (F - i) i L=T∧(∀ p∈L,p.1≠[])∧List.length L≤2000)
    (fun ((va,vb,i,L):Nat×Nat×Nat×QS)=>⟨Go.Ab.L .any [(0,machP n o next out),(1,bv tl),(6,.own 27 va),(7,.own 29 vb),(8,iv i)],
      Go.Ab.L .gone [(27,.row va 1 true (rws (dsI L))),(29,.row vb 1 true (rws (L.map (·.2))))]⟩)
    (_,_,0,[([2 ^ n.toNat - 1],[])]) ⟨QI0 hdb,by simp,hT,by simp,by simp⟩ (by simp only [Bz25,go_sem,yz0,xx9,xx8,xx6,xx7,xx5,xx0,xx1,xx2,reduceIte,xx3,xx4,reduceCtorEq];try rfl) ?_
  rintro ⟨va,vb,i,L⟩ ⟨hI,hi,hR,hne,hl2⟩
  have hi:i≤L.length:=hi
  have hl2:L.length≤2000:=hl2
  have hLF:L.length<F:=hF L hI.nd hI.rg
  have hR:runG (dbtD next out o tl) next.length ([],[]) (F - i) i L=T:=hR
  by_cases hlt:(i:Int)<L.length
  · have hlt1:i<L.length:=by omega
    have wi:IntKind.i64.wrap ((i:Int)+1)=((i+1:Nat):Int):=by rw [w64 (by omega)];simp
    have hm:=yz17 hlt1 ([],([]:List Int))
    have hdp:=hI.rg _ hm
    have hwp:=hI.wd _ hm
    obtain ⟨F',hF'⟩:∃ F',F - i=F'+1:=⟨F - i - 1,by omega⟩
    have hF'2:F - (i+1)=F':=by omega
    rw [hF'] at hR
    simp only [runG,if_pos hlt1] at hR
    simp only [Bz25,Bz6b,Bzbi,Bzbg,rws_len,List.length_map,decide_eq_true hlt,go_sem,yz0,xx9,xx8,xx6,xx7,xx5,xx0,xx1,xx2,reduceIte,xx3,xx4,reduceCtorEq]
    intro hM1
    refine wpD_lo (fun (_,_,x,_)=>next.length - x)
      (fun (_,_,x,L')=>x≤next.length∧L'=visQ next out o tl (L.getD i ([],[])).1 (L.getD i ([],[])).2 x L∧(∀ p∈L',p.1≠[])∧List.length L'≤2000)
      (fun ((va,vb,x,L'):Nat×Nat×Nat×QS)=>⟨Go.Ab.L .any [(0,machP n o next out),(1,bv tl),(6,.own 27 va),(7,.own 29 vb),(8,iv i),(9,iv x)],
        Go.Ab.L .gone [(27,.row va 1 true (rws (dsI L'))),(29,.row vb 1 true (rws (L'.map (·.2))))]⟩)
      (_,_,0,L) ⟨by simp,by simp [visQ,visG],hne,hl2⟩ (by simp only [Bz24,go_sem,yz0,xx9,xx8,xx6,xx7,xx5,xx0,xx1,xx2,reduceIte,xx3,xx4,reduceCtorEq];try rfl) ?_
    rintro ⟨va,vb,x,L'⟩ ⟨hx,hL',hne',hl2'⟩
    have hx:x≤next.length:=hx
    have hl2':L'.length≤2000:=hl2'
    have hL':L'=visQ next out o tl (L.getD i ([],[])).1 (L.getD i ([],[])).2 x L:=hL'
    obtain ⟨hI',t,hpre⟩:=visQ_ok (tl:=tl) M hI hlt1 x hx
    rw [← hL'] at hI' hpre
    have hi2:i<L'.length:=by rw [hpre,List.length_append];omega
    have hat:L'.getD i ([],[])=L.getD i ([],[]):=by rw [hpre];exact appG_getD hlt1
    by_cases hxl:(x:Int)<next.length
    · have hxl1:x<next.length:=by omega
      have w1:IntKind.i64.wrap ((x:Int)+1)=((x+1:Nat):Int):=by rw [w64 (by omega)];simp
      have hsuN:=@visQ_none next out o tl (L.getD i ([],[])).1 (L.getD i ([],[])).2 x L
      have hsuS:=fun q=>@visQ_some next out o tl (L.getD i ([],[])).1 q (L.getD i ([],[])).2 x L
      rw [← hL'] at hsuN hsuS
      have hgd:=dsI_getD hi2
      have hgw:=wsQ_getD hi2
      have hil1:i<(dsI L').length:=by rw [List.length_map];exact hi2
      have hil2:i<(L'.map (·.2)).length:=by rw [List.length_map];exact hi2
      rw [hat] at hgd hgw
      generalize hfw:L.getD i ([],[])=fw at hm hdp hwp hR hsuN hsuS hgd hgw hL' ⊢
      have hdK:=k_l06Doubt n o next out M tl fw.1 x hdp hxl1
      have hpreT:∀ y,y≤next.length→∃ t,T=visQ next out o tl fw.1 fw.2 y L ++ t:=fun y hy=>by
        obtain ⟨t1,h1⟩:=visG_ext (δ:=dbtD next out o tl) (p:=fw.1) (w:=fw.2) (L:=L) (x:=y) (next.length - y)
        obtain ⟨t2,h2⟩:=runG_pre (δ:=dbtD next out o tl) (m:=next.length) (d:=([],[])) F' (i+1) (visG (dbtD next out o tl) fw.1 fw.2 next.length L)
        rw [show y+(next.length - y)=next.length by omega] at h1
        exact ⟨t1 ++ t2,by rw [← hR,h2,h1,List.append_assoc]⟩
      simp only [Bz24,Bz6c,Bzbf,decide_eq_true hxl,rws_getD hil1,hgd,go_sem,yz0,xx9,xx8,xx6,xx7,xx5,xx0,xx1,xx2,reduceIte,xx3,xx4,reduceCtorEq]
      refine fun hM2 vs3=>⟨⟨by omega,hi2⟩,hi2,?_⟩
      refine call_fn hdK qCS (fun e=>by cases e) ?_
      rintro rows res ⟨v53,xs,rfl,hres⟩
      refine ⟨by simp,(fun k hk=>by obtain rfl:k=0:=(by simpa using hk);rfl),?_⟩
      cases hd:dbtD next out o tl fw.1 x with
      | none =>
        rw [hd] at hres
        obtain rfl:=hres
        have hsu:=hsuN hd
        simp only [Bz6f,Bz21,Bz23,w1,Nat.not_lt_zero,range1,yz11,yz15,yz1j,yz1l,yz14,yz1k,yz1i,yz1g,yz16,yzt,yzk,yz6,yzs,yzr,yzo,yzm,yzq,yz7,yza,yzd,yz9,yzf,yzi,yz2,yz5,yz8,yzc,yzh,yzj,List.range_zero,yz3,yz4,yzb,yzp,yzl,yzn,AVal.fresh,freshL,yz1,yzg,AObj.fresh,id,Option.isSome_some,or_true,true_or,go_sem,yz0,xx9,xx8,xx6,xx7,xx5,xx0,xx1,xx2,reduceIte,xx3,xx4,reduceCtorEq]
        exact ⟨(va,vb,x+1,L'),by dsimp only;omega,⟨by dsimp only;omega,hsu.symm,hne',hl2'⟩,rfl⟩
      | some q =>
        rw [hd] at hres
        obtain ⟨rfl,rfl⟩:=hres
        have hsu:=hsuS q hd
        have hdq:=dbt_DB M hdp hxl1 hd
        have hq5:=hdq.len (by omega)
        simp only [Bz6f,Nat.not_lt_zero,range1,yz11,yz15,yz1j,yz1l,yz14,yz1k,yz1i,yz1g,yz16,yzt,yzk,yz6,yzs,yzr,yzo,yzm,yzq,yz7,yza,yzd,yz9,yzf,yzi,yz2,yz5,yz8,yzc,yzh,yzj,List.range_zero,yz3,yz4,yzb,yzp,yzl,yzn,AVal.fresh,freshL,yz1,yzg,AObj.fresh,id,Option.isSome_some,or_true,true_or,go_sem,yz0,xx9,xx8,xx6,xx7,xx5,xx0,xx1,xx2,reduceIte,xx3,xx4,reduceCtorEq]
        intro vs4
        refine yzv (k_l01Find (dsI L') (q.map fun (f:Nat)=>(f:Int))) qCS trivial ?_
        have hfh:decide (fidx (fun y=>decide (y=q.map fun (f:Nat)=>(f:Int))) (dsI L') 0 ≥ 0)=hasG L' q:=find_has
        cases hh:hasG L' q with
        | true =>
          rw [hh,if_pos rfl] at hsu
          simp only [hfh,hh,Bz21,Bz23,w1,go_sem,yz0,xx9,xx8,xx6,xx7,xx5,xx0,xx1,xx2,reduceIte,xx3,xx4,reduceCtorEq]
          exact ⟨(va,vb,x+1,L'),by dsimp only;omega,⟨by dsimp only;omega,hsu.symm,hne',hl2'⟩,rfl⟩
        | false =>
          rw [hh,if_neg (by simp)] at hsu
          simp only [hfh,hh,Bz21,Bzbe,rws_getD hil2,hgw,go_sem,yz0,xx9,xx8,xx6,xx7,xx5,xx0,xx1,xx2,reduceIte,xx3,xx4,reduceCtorEq]
          refine fun vs5=>⟨⟨by omega,hi2⟩,hi2,?_⟩
          refine call_rowI (k_l00Own fw.2 (by omega)) qCS rfl ⟨_,rfl⟩ ?_
          rintro ys v68 rfl
          simp only [Bzbd,go_sem,yz0,xx9,xx8,xx6,xx7,xx5,xx0,xx1,xx2,reduceIte,xx3,xx4,reduceCtorEq]
          refine ⟨⟨_,rfl,rfl⟩,by omega,?_⟩
          intro hM3
          by_cases hq0:q=[]
          · subst hq0
            obtain ⟨t9,ht9⟩:=hpreT (x+1) hxl1
            rw [hsu,List.append_assoc] at ht9
            have hq:=qT_some ht9 hl2' hne'
            have hqc:qC T=0:=by unfold qC;rw [hq];rfl
            have h00:(((0:Nat):Int) == 0)=true:=rfl
            simp only [Bz22,h00,Azh,← hQ,go_sem,yz0,xx9,xx8,xx6,xx7,xx5,xx0,xx1,xx2,reduceIte,xx3,xx4,reduceCtorEq]
            refine ⟨[68],by simp,by simp,by simp,?_⟩
            simp only [range1,List.length_singleton,Nat.not_lt_zero,range1,yz11,yz15,yz1j,yz1l,yz14,yz1k,yz1i,yz1g,yz16,yzt,yzk,yz6,yzs,yzr,yzo,yzm,yzq,yz7,yza,yzd,yz9,yzf,yzi,yz2,yz5,yz8,yzc,yzh,yzj,List.range_zero,yz3,yz4,yzb,yzp,yzl,yzn,AVal.fresh,freshL,yz1,yzg,AObj.fresh,id,Option.isSome_some,or_true,true_or,go_sem,yz0,xx9,xx8,xx6,xx7,xx5,xx0,xx1,xx2,reduceIte,xx3,xx4,reduceCtorEq]
            simp only [hq,hqc,if_neg hn1,Option.getD_some]
            exact ⟨_,rfl,rfl⟩
          · have hql:q.length≠0:=fun e=>hq0 (List.eq_nil_of_length_eq_zero e)
            have hqb:((q.length:Int) == 0)=false:=by simpa using hq0
            obtain ⟨L2,hL2⟩:∃ L2,L2=L' ++ [(q,fw.2 ++ [(x:Int)])]:=⟨_,rfl⟩
            rw [← hL2] at hsu
            have hl3:L2.length=L'.length+1:=by rw [hL2];simp
            have hne2:∀ p∈L2,p.1≠[]:=fun p hp=>by
              rw [hL2] at hp
              rcases List.mem_append.1 hp with hp | hp
              · exact hne' p hp
              · rw [List.mem_singleton.1 hp];exact hq0
            by_cases h30:(2000:Int)≤L'.length
            · obtain ⟨t9,ht9⟩:=hpreT (x+1) hxl1
              rw [hsu] at ht9
              obtain ⟨hq,hqc⟩:=qT_lim ht9 (by omega) hne2
              simp only [Bz22,Bz6e,Bz6d,hqb,rws_len,List.length_map,decide_eq_true h30,Azh,← hQ,go_sem,yz0,xx9,xx8,xx6,xx7,xx5,xx0,xx1,xx2,reduceIte,xx3,xx4,reduceCtorEq]
              intro hM4 vs6
              refine ⟨[79],by simp,by simp,by simp,?_⟩
              simp only [range1,List.length_singleton,Nat.not_lt_zero,range1,yz11,yz15,yz1j,yz1l,yz14,yz1k,yz1i,yz1g,yz16,yzt,yzk,yz6,yzs,yzr,yzo,yzm,yzq,yz7,yza,yzd,yz9,yzf,yzi,yz2,yz5,yz8,yzc,yzh,yzj,List.range_zero,yz3,yz4,yzb,yzp,yzl,yzn,AVal.fresh,freshL,yz1,yzg,AObj.fresh,id,Option.isSome_some,or_true,true_or,go_sem,yz0,xx9,xx8,xx6,xx7,xx5,xx0,xx1,xx2,reduceIte,xx3,xx4,reduceCtorEq]
              simp only [hq,hqc,if_neg hn1,Option.getD_none]
              exact ⟨_,rfl,rfl⟩
            · simp only [Bz22,Bz6e,Bz6d,Bzbc,Bzbb,Bz23,hqb,rws_len,rws_snoc,List.length_map,decide_eq_false h30,w1,go_sem,yz0,xx9,xx8,xx6,xx7,xx5,xx0,xx1,xx2,reduceIte,xx3,xx4,reduceCtorEq]
              have hs1:dsI L' ++ [q.map fun (f:Nat)=>(f:Int)]=dsI L2:=by rw [hL2];simp
              have hs2:(L'.map (·.2)) ++ [fw.2 ++ [(x:Int)]]=L2.map (·.2):=by rw [hL2];simp
              exact fun hM4 vs6=>⟨by omega,fun vs7=>⟨by omega,(vs6 3 0,vs7 3 0,x+1,L2),by dsimp only;omega,⟨by dsimp only;omega,hsu.symm,hne2,by dsimp only;omega⟩,by rw [hs1,hs2]⟩⟩
    · obtain rfl:x=next.length:=by omega
      have hR':runG (dbtD next out o tl) next.length ([],[]) (F - (i+1)) (i+1) L'=T:=by rw [hF'2,hL'];exact hR
      simp only [Bz24,Bz6c,Bzbh,wi,decide_eq_false hxl,go_sem,yz0,xx9,xx8,xx6,xx7,xx5,xx0,xx1,xx2,reduceIte,xx3,xx4,reduceCtorEq]
      try intro hM9
      exact ⟨(va,vb,i+1,L'),by dsimp only;omega,⟨hI',by dsimp only;omega,hR',hne',hl2'⟩,rfl⟩
  · obtain rfl:i=L.length:=by omega
    have hLT:L=T:=by
      obtain ⟨F',hF'⟩:∃ F',F - L.length=F'+1:=⟨F - L.length - 1,by omega⟩
      rw [hF'] at hR
      simpa only [runG,Nat.lt_irrefl,if_false] using hR
    obtain ⟨hq,hqc⟩:=qT_end (T:=L) hl2 hne
    rw [hLT] at hq hqc
    simp only [Bz25,Bz6b,Bzbk,rws_len,List.length_map,decide_eq_false hlt,Azh,← hQ,go_sem,yz0,xx9,xx8,xx6,xx7,xx5,xx0,xx1,xx2,reduceIte,xx3,xx4,reduceCtorEq]
    intro hM1 vs3
    refine ⟨[88],by simp,by simp,by simp,?_⟩
    simp only [range1,List.length_singleton,Nat.not_lt_zero,range1,yz11,yz15,yz1j,yz1l,yz14,yz1k,yz1i,yz1g,yz16,yzt,yzk,yz6,yzs,yzr,yzo,yzm,yzq,yz7,yza,yzd,yz9,yzf,yzi,yz2,yz5,yz8,yzc,yzh,yzj,List.range_zero,yz3,yz4,yzb,yzp,yzl,yzn,AVal.fresh,freshL,yz1,yzg,AObj.fresh,id,Option.isSome_some,or_true,true_or,go_sem,yz0,xx9,xx8,xx6,xx7,xx5,xx0,xx1,xx2,reduceIte,xx3,xx4,reduceCtorEq]
    simp only [hq,hqc,if_neg hn1,Option.getD_none]
    exact ⟨_,rfl,rfl⟩
def homC (next out:List (List Int)) (o:Int) (tl:Bool) (n:Int) (F:Nat):Int:=if machB n o next out=true then (if n=1 then 0 else qC (dbtT next out o tl n F)) else 1
theorem k_TellingWord (n o:Int) (next out:List (List Int)) (F:Nat) (hF:machB n o next out=true→Enough n.toNat F) :
    RowT Try.prog nzl [machA n o next out] (machB n o next out && (!decide (n=1) && (qT (dbtT next out o true n F)).isSome)) ((qT (dbtT next out o true n F)).getD []) (homC next out o true n F):=by
  refine con_of mixed czi4 rfl (by simp) ?_
  generalize hQ:finQ _=Q
  simp only [Azp,Bz9b,go_sem,yz0,xx9,xx8,xx6,xx7,xx5,xx0,xx1,xx2,reduceIte,xx3,xx4,reduceCtorEq]
  intro vs vs2
  refine yzv (k_ValidMachine n o next out) qCS trivial ?_
  cases hv:machB n o next out with
  | false =>
    simp only [Bz59,Azp,← hQ,go_sem,yz0,xx9,xx8,xx6,xx7,xx5,xx0,xx1,xx2,reduceIte,xx3,xx4,reduceCtorEq]
    refine ⟨[],by simp,by simp,by simp,?_⟩
    simp only [List.map_nil,List.length_nil,Nat.not_lt_zero,range1,yz11,yz15,yz1j,yz1l,yz14,yz1k,yz1i,yz1g,yz16,yzt,yzk,yz6,yzs,yzr,yzo,yzm,yzq,yz7,yza,yzd,yz9,yzf,yzi,yz2,yz5,yz8,yzc,yzh,yzj,List.range_zero,yz3,yz4,yzb,yzp,yzl,yzn,AVal.fresh,freshL,yz1,yzg,AObj.fresh,id,Option.isSome_some,or_true,true_or,go_sem,yz0,xx9,xx8,xx6,xx7,xx5,xx0,xx1,xx2,reduceIte,xx3,xx4,reduceCtorEq]
    unfold homC
    rw [hv]
    first
      | rfl
      | exact ⟨trivial,rfl⟩
      | simp
  | true =>
    have M:=machB_iff.1 hv
    have hK:=k_settle n o next out M true F (hF hv)
    simp only [Bz59,Bz9a,go_sem,yz0,xx9,xx8,xx6,xx7,xx5,xx0,xx1,xx2,reduceIte,xx3,xx4,reduceCtorEq]
    intro vs3
    refine call_rowT hK qCS qGN (fun h v=>?_) (fun h=>?_)
    · simp only [Azp,← hQ,go_sem,yz0,xx9,xx8,xx6,xx7,xx5,xx0,xx1,xx2,reduceIte,xx3,xx4,reduceCtorEq]
      refine ⟨[8],by simp,by simp,by simp,?_⟩
      simp only [range1,List.length_singleton,Nat.not_lt_zero,range1,yz11,yz15,yz1j,yz1l,yz14,yz1k,yz1i,yz1g,yz16,yzt,yzk,yz6,yzs,yzr,yzo,yzm,yzq,yz7,yza,yzd,yz9,yzf,yzi,yz2,yz5,yz8,yzc,yzh,yzj,List.range_zero,yz3,yz4,yzb,yzp,yzl,yzn,AVal.fresh,freshL,yz1,yzg,AObj.fresh,id,Option.isSome_some,or_true,true_or,go_sem,yz0,xx9,xx8,xx6,xx7,xx5,xx0,xx1,xx2,reduceIte,xx3,xx4,reduceCtorEq]
      rw [hv,h]
      unfold homC
      rw [hv]
      exact ⟨_,rfl,rfl⟩
    · simp only [Azp,← hQ,go_sem,yz0,xx9,xx8,xx6,xx7,xx5,xx0,xx1,xx2,reduceIte,xx3,xx4,reduceCtorEq]
      refine ⟨[],by simp,by simp,by simp,?_⟩
      simp only [List.map_nil,List.length_nil,Nat.not_lt_zero,range1,yz11,yz15,yz1j,yz1l,yz14,yz1k,yz1i,yz1g,yz16,yzt,yzk,yz6,yzs,yzr,yzo,yzm,yzq,yz7,yza,yzd,yz9,yzf,yzi,yz2,yz5,yz8,yzc,yzh,yzj,List.range_zero,yz3,yz4,yzb,yzp,yzl,yzn,AVal.fresh,freshL,yz1,yzg,AObj.fresh,id,Option.isSome_some,or_true,true_or,go_sem,yz0,xx9,xx8,xx6,xx7,xx5,xx0,xx1,xx2,reduceIte,xx3,xx4,reduceCtorEq]
      rw [hv,h]
      unfold homC
      rw [hv]
      first
        | rfl
        | exact ⟨trivial,rfl⟩
        | simp
theorem k_specTellingWord (n o:Int) (next out:List (List Int)) (F:Nat) (hF:machB n o next out=true→Enough n.toNat F) :
    RowC2 Try.prog nz17 [machA n o next out] (if machB n o next out=true then (if n=1 then [] else (qT (dbtT next out o true n F)).getD []) else []) (homC next out o true n F):=by
  refine con_of mixed czi5 rfl (by simp) ?_
  generalize hQ:finQ _=Q
  simp only [Az1p,Bz9d,go_sem,yz0,xx9,xx8,xx6,xx7,xx5,xx0,xx1,xx2,reduceIte,xx3,xx4,reduceCtorEq]
  intro vs vs2
  refine yzv (k_l06Ok n o next out) qCS trivial ?_
  cases hv:machB n o next out with
  | false =>
    simp only [Bz5a,Az1p,← hQ,go_sem,yz0,xx9,xx8,xx6,xx7,xx5,xx0,xx1,xx2,reduceIte,xx3,xx4,reduceCtorEq]
    intro vs3
    refine ⟨[6],by simp,by simp,by simp,?_⟩
    simp only [range1,List.length_singleton,Nat.not_lt_zero,range1,yz11,yz15,yz1j,yz1l,yz14,yz1k,yz1i,yz1g,yz16,yzt,yzk,yz6,yzs,yzr,yzo,yzm,yzq,yz7,yza,yzd,yz9,yzf,yzi,yz2,yz5,yz8,yzc,yzh,yzj,List.range_zero,yz3,yz4,yzb,yzp,yzl,yzn,AVal.fresh,freshL,yz1,yzg,AObj.fresh,id,Option.isSome_some,or_true,true_or,go_sem,yz0,xx9,xx8,xx6,xx7,xx5,xx0,xx1,xx2,reduceIte,xx3,xx4,reduceCtorEq]
    unfold homC
    rw [hv]
    exact ⟨_,rfl,rfl⟩
  | true =>
    have M:=machB_iff.1 hv
    have hK:=k_l06First n o next out M true F (hF hv)
    simp only [Bz5a,Bz9c,go_sem,yz0,xx9,xx8,xx6,xx7,xx5,xx0,xx1,xx2,reduceIte,xx3,xx4,reduceCtorEq]
    intro vs3
    refine call_rowC2 hK qCS qGN ?_
    intro v
    simp only [Az1p,← hQ,go_sem,yz0,xx9,xx8,xx6,xx7,xx5,xx0,xx1,xx2,reduceIte,xx3,xx4,reduceCtorEq]
    refine ⟨[7],by simp,by simp,by simp,?_⟩
    simp only [range1,List.length_singleton,Nat.not_lt_zero,range1,yz11,yz15,yz1j,yz1l,yz14,yz1k,yz1i,yz1g,yz16,yzt,yzk,yz6,yzs,yzr,yzo,yzm,yzq,yz7,yza,yzd,yz9,yzf,yzi,yz2,yz5,yz8,yzc,yzh,yzj,List.range_zero,yz3,yz4,yzb,yzp,yzl,yzn,AVal.fresh,freshL,yz1,yzg,AObj.fresh,id,Option.isSome_some,or_true,true_or,go_sem,yz0,xx9,xx8,xx6,xx7,xx5,xx0,xx1,xx2,reduceIte,xx3,xx4,reduceCtorEq]
    unfold homC
    rw [hv]
    exact ⟨_,rfl,rfl⟩
end Go.Ab
namespace Go.Ab
end Go.Ab
namespace Go.Ab
theorem appg_new {α:Type} {xs:List α} {y d:α}:(xs ++ [y]).getD xs.length d=y:=by
  simp [List.getD_eq_getElem?_getD]
end Go.Ab
namespace Go.Ab
structure CI (n:Int) (L:List Int):Prop where
  nd:L.Nodup
  rg:∀ s∈L,0≤s∧s<n
  hd:L.getD 0 1=0
theorem CI.len {n:Int} {L:List Int} (h:CI n L) (hn:n≤10):1≤L.length∧L.length≤10:=by
  have h1:L≠[]:=fun e=>by have:=h.hd;rw [e] at this;simp at this
  have hm:(L.map Int.toNat).Nodup:=by
    refine List.Pairwise.map _ ?_ (List.Pairwise.and_mem.1 h.nd)
    rintro a b ⟨ha,hb,hab⟩ e
    have:=h.rg a ha
    have:=h.rg b hb
    omega
  have:=nodup_lt 10 _ hm fun x hx=>by
    obtain ⟨s,hs,rfl⟩:=List.mem_map.1 hx
    have:=h.rg s hs
    omega
  rw [List.length_map] at this
  exact ⟨List.length_pos_iff.2 h1,this⟩
structure Rel (na oa nb ob:List (List Int)) (R:Int→Int→Prop):Prop where
  len:na.length=nb.length
  step:∀ s t,R s t→∀ x,0≤x∧x<(na.length:Int)→outA oa s x=outA ob t x∧R (stepA na s x) (stepA nb t x)
  fn:∀ s t t',R s t→R s t'→t=t'
  inj:∀ s s' t,R s t→R s' t→s=s'
def RelL (R:Int→Int→Prop) (L M:List Int):Prop:=L.length=M.length∧∀ i<L.length,R (L.getD i 0) (M.getD i 0)
theorem RelL.snoc {R:Int→Int→Prop} {L M:List Int} (h:RelL R L M) {s t:Int} (hst:R s t):RelL R (L ++ [s]) (M ++ [t]):=by
  refine ⟨by simp [h.1],fun i hi=>?_⟩
  rw [List.length_append,List.length_singleton] at hi
  by_cases e:i<L.length
  · rw [getD_app e,getD_app (by rw [← h.1];exact e)];exact h.2 i e
  · have e1:i=L.length:=by omega
    subst e1
    rw [appg_new]
    rw [h.1,appg_new];exact hst
end Go.Ab
namespace Go.Ab
end Go.Ab
namespace Go.Ab
open Go.Proofs
abbrev MachR (n o:Int) (xs ys:List (List Int)) (rows:List AObj) (res:AVal):Prop :=
  ∃ v w ps qs,rows=[.row v 1 true (rwp ps),.row w 1 true (rwp qs)]∧ps.map (·.2)=xs∧qs.map (·.2)=ys∧DJ (ps ++ qs)∧res=.st [iv n,iv o,.own 6000 v,.own 6001 w]
abbrev NamM (P:Program) (g:FuncId) (args:List AVal) (n o:Int) (xs ys:List (List Int)):Prop:=Fn P g args (MachR n o xs ys)
end Go.Ab
namespace Go.Ab
open Go.Proofs
end Go.Ab
namespace Go.Ab
open Go.Proofs
abbrev MachS (n o:Int) (xs ys:List (List Int)) (rows:List AObj) (res:AVal):Prop :=
  ∃ v w,rows=[.row v 1 true (rws xs),.row w 1 true (rws ys)]∧res=.st [iv n,iv o,.own 6000 v,.own 6001 w]
theorem NamM.dn {P:Program} {g:FuncId} {args:List AVal} {n o:Int} {xs ys:List (List Int)} (h:NamM P g args n o xs ys):Fn P g args (MachS n o xs ys):=by
  refine Con.dnr h ?_
  rintro o' r x ⟨rfl,v,w,ps,qs,rfl,rfl,rfl,_,rfl⟩
  refine ⟨rfl,v,w,?_,?_⟩
  · simp only [List.map_cons,List.map_nil,AObj.dn,dnL_rwp]
  · simp only [AVal.dn,dnL]
abbrev MachRC (ok:Bool) (n o:Int) (xs ys:List (List Int)) (code:Int) (rows:List AObj) (res:AVal):Prop :=
  if ok=true then ∃ v w ps qs,rows=[.row v 1 true (rwp ps),.row w 1 true (rwp qs)]∧ps.map (·.2)=xs∧qs.map (·.2)=ys∧DJ (ps ++ qs)∧res=.tup [.st [iv n,iv o,.own 6000 v,.own 6001 w],iv code]
  else rows=[]∧res=.tup [.st [iv 0,iv 0,nilS,nilS],iv code]
abbrev NamMR (P:Program) (g:FuncId) (args:List AVal) (ok:Bool) (n o:Int) (xs ys:List (List Int)) (code:Int):Prop:=Fn P g args (MachRC ok n o xs ys code)
abbrev MachSC (n o:Int) (xs ys:List (List Int)) (rows:List AObj) (res:AVal):Prop :=
  ∃ v w,rows=[.row v 1 true (rws xs),.row w 1 true (rws ys)]∧res=.tup [.st [iv n,iv o,.own 6000 v,.own 6001 w],iv 0]
theorem NamMR.dn {P:Program} {g:FuncId} {args:List AVal} {ok:Bool} {n o:Int} {xs ys:List (List Int)} {code:Int} (h:NamMR P g args ok n o xs ys code) (hok:ok=true) (hc:code=0):Fn P g args (MachSC n o xs ys):=by
  subst hok hc
  refine Con.dnr h ?_
  rintro o' r x ⟨rfl,hR⟩
  unfold MachRC at hR
  rw [if_pos rfl] at hR
  obtain ⟨v,w,ps,qs,rfl,rfl,rfl,_,rfl⟩:=hR
  refine ⟨rfl,v,w,?_,?_⟩
  · simp only [List.map_cons,List.map_nil,AObj.dn,dnL_rwp]
  · simp only [AVal.dn,dnL]
end Go.Ab
namespace Go.Ab
open Go.Proofs
end Go.Ab
namespace Go.Ab
open Go.Proofs
end Go.Ab
namespace Go.Ab
open Go.Proofs
end Go.Ab
namespace Go.Ab
open Go.Proofs
def everyP (n:Nat) (q:Nat→Nat→Bool):Bool:=(List.range n).all fun s=>(List.range s).all fun t=>q s t
def prB (next out:List (List Int)) (w:List Int) (p:Bool→Int→Int→Bool) (s t:Nat):Bool:=p (decide (outsA next out s w=outsA next out t w)) (atA next s w) (atA next t w)
def hmP (tl:Bool) (b:Bool) (x y:Int):Bool:=!b || (!tl && x == y)
def homB (next out:List (List Int)) (tl:Bool) (n:Int) (w:List Int):Bool:=everyP n.toNat (prB next out w (hmP tl))
end Go.Ab
namespace Go.Ab
theorem outsA_snoc {next out:List (List Int)} {x:Int}:∀ {w:List Int} {s:Int},outsA next out s (w ++ [x])=outsA next out s w ++ [outA out (atA next s w) x]
  | [],s=>rfl
  | y :: w,s=>by
    have:=outsA_snoc (next:=next) (out:=out) (x:=x) (w:=w) (s:=stepA next s y)
    simp only [List.cons_append,outsA,this];rfl
theorem atA_snoc {next:List (List Int)} {x:Int} {w:List Int} {s:Int}:atA next s (w ++ [x])=stepA next (atA next s w) x:=by simp [atA]
theorem dvF_app {nr or:List Int} {o:Int} {S:List Int} {s:Int}:dvF nr or o (S ++ [s])=dvS nr or (dvF nr or o S) s:=by unfold dvF;rw [List.foldl_append];rfl
theorem set_getD5 {l:List Nat} {i j v:Nat} (hi:i<l.length):(l.set i v).getD j 0=if i=j then v else l.getD j 0:=by
  rw [List.getD_eq_getElem?_getD,List.getElem?_set,List.getD_eq_getElem?_getD]
  by_cases e:i=j
  · rw [if_pos e,if_pos e,if_pos hi];rfl
  · rw [if_neg e,if_neg e]
theorem dvF_bit {nr or:List Int} {o:Int} (ho:0≤o) {b u:Nat} (hb:b<o.toNat):∀ (k:Nat) (S:List Int),S.length=k→(∀ s∈S,0≤or.getD s.toNat 0∧or.getD s.toNat 0<o) →
    (((dvF nr or o S).1.getD b 0).testBit u=true↔∃ s∈S,(or.getD s.toNat 0).toNat=b∧(nr.getD s.toNat 0).toNat=u)
  | 0,S,hk,_=>by
    obtain rfl:=List.eq_nil_of_length_eq_zero hk
    have:(List.replicate o.toNat 0).getD b 0=0:=by
      rw [List.getD_eq_getElem?_getD,List.getElem?_replicate,if_pos hb];rfl
    unfold dvF
    simp only [List.foldl_nil]
    rw [this]
    simp
  | k+1,S,hk,hS=>by
    have hne:S≠[]:=fun e=>by rw [e] at hk;simp at hk
    have e:=List.dropLast_concat_getLast hne
    have ih:=dvF_bit (nr:=nr) (u:=u) ho hb k S.dropLast (by rw [List.length_dropLast];omega) fun s hs=>hS s (List.dropLast_subset S hs)
    have hl:=hS _ (List.getLast_mem hne)
    generalize S.getLast hne=s at e hl
    generalize S.dropLast=R at e ih
    subst e
    have hlen:=dvF_len (nr:=nr) (or:=or) (o:=o) (S:=R)
    rw [dvF_app]
    unfold dvS
    dsimp only
    rw [set_getD5 (by rw [hlen];omega)]
    by_cases e:(or.getD s.toNat 0).toNat=b
    · rw [if_pos e,e,Nat.testBit_or,Nat.testBit_two_pow,Bool.or_eq_true,ih,decide_eq_true_eq]
      constructor
      · rintro (⟨v,h1,h2,h3⟩ | h)
        · exact ⟨v,by simp [h1],h2,h3⟩
        · exact ⟨s,by simp,e,h⟩
      · rintro ⟨v,h1,h2,h3⟩
        rcases List.mem_append.1 h1 with h | h
        · exact .inl ⟨v,h,h2,h3⟩
        · rw [List.mem_singleton.1 h] at h3;exact .inr h3
    · rw [if_neg e,ih]
      constructor
      · rintro ⟨v,h1,h2,h3⟩;exact ⟨v,by simp [h1],h2,h3⟩
      · rintro ⟨v,h1,h2,h3⟩
        rcases List.mem_append.1 h1 with h | h
        · exact ⟨v,h,h2,h3⟩
        · rw [List.mem_singleton.1 h] at h2;exact absurd h2 e
theorem and_pow0 {a k:Nat}:Nat.beq (a &&& 2 ^ k) 0=!(a.testBit k):=by
  have h:(a &&& 2 ^ k=0)↔a.testBit k=false:=by
    constructor
    · intro h
      have:=congrArg (fun z=>z.testBit k) h
      simpa [Nat.testBit_and,Nat.testBit_two_pow] using this
    · intro h
      refine Nat.eq_of_testBit_eq fun i=>?_
      rw [Nat.testBit_and,Nat.testBit_two_pow,Nat.zero_testBit]
      by_cases e:k=i
      · subst e;simp [h]
      · simp [e]
  cases hb:a.testBit k with
  | false=>rw [h.2 hb];rfl
  | true =>
    have:a &&& 2 ^ k≠0:=fun e=>by rw [h.1 e] at hb;cases hb
    cases hz:a &&& 2 ^ k with
    | zero=>exact absurd hz this
    | succ z=>rfl
theorem dvF_clr {nr or:List Int} {o:Int} (ho:0≤o):∀ (k:Nat) (S:List Int),S.length=k→(∀ s∈S,0≤or.getD s.toNat 0∧or.getD s.toNat 0<o) →
    ((dvF nr or o S).2=true↔S.Pairwise fun a b=>¬ ((or.getD a.toNat 0).toNat=(or.getD b.toNat 0).toNat∧(nr.getD a.toNat 0).toNat=(nr.getD b.toNat 0).toNat))
  | 0,S,hk,_=>by
    obtain rfl:=List.eq_nil_of_length_eq_zero hk
    simp [dvF]
  | k+1,S,hk,hS=>by
    have hne:S≠[]:=fun e=>by rw [e] at hk;simp at hk
    have e:=List.dropLast_concat_getLast hne
    have ih:=dvF_clr (nr:=nr) (or:=or) ho k S.dropLast (by rw [List.length_dropLast];omega) fun s hs=>hS s (List.dropLast_subset S hs)
    have hl:=hS _ (List.getLast_mem hne)
    have hS':∀ s∈S.dropLast,0≤or.getD s.toNat 0∧or.getD s.toNat 0<o:=fun s hs=>hS s (List.dropLast_subset S hs)
    generalize S.getLast hne=s at e hl
    generalize S.dropLast=R at e ih hS'
    subst e
    have hbit:=dvF_bit (nr:=nr) (or:=or) (o:=o) (b:=(or.getD s.toNat 0).toNat) (u:=(nr.getD s.toNat 0).toNat) ho (by omega) R.length R rfl hS'
    rw [dvF_app,List.pairwise_append]
    unfold dvS
    dsimp only
    rw [and_pow0,Bool.and_eq_true,ih,Bool.not_eq_true',← Bool.not_eq_true,hbit]
    constructor
    · rintro ⟨h1,h2⟩
      refine ⟨h1,by simp,fun a ha b hb=>?_⟩
      rw [List.mem_singleton.1 hb]
      exact fun h=>h2 ⟨a,ha,h.1,h.2⟩
    · rintro ⟨h1,_,h2⟩
      exact ⟨h1,fun ⟨a,ha,h3,h4⟩=>h2 a ha s (by simp) ⟨h3,h4⟩⟩
theorem pw_all {α:Type} {R:α→α→Prop} (hs:∀ a b,R a b→R b a):∀ {l:List α},l.Pairwise R→∀ a∈l,∀ b∈l,a≠b→R a b
  | [],_,_,h,_,_,_=>by simp at h
  | x :: l,h,a,ha,b,hb,hab=>by
    rw [List.pairwise_cons] at h
    rcases List.mem_cons.1 ha with ea | ha'
    · rcases List.mem_cons.1 hb with eb | hb'
      · exact absurd (ea.trans eb.symm) hab
      · rw [ea];exact h.1 b hb'
    · rcases List.mem_cons.1 hb with eb | hb'
      · rw [eb];exact hs _ _ (h.1 a ha')
      · exact pw_all hs h.2 a ha' b hb' hab
section
variable {n o:Int} {next out:List (List Int)}
def Cls (next out:List (List Int)) (n:Int) (f:Nat) (w r:List Int):Prop:=∀ u:Nat,u∈bitsN f↔∃ s:Nat,(s:Int)<n∧outsA next out s w=r∧atA next s w=u
structure DI (next out:List (List Int)) (n:Int) (tl:Bool) (w:List Int) (D:List Nat):Prop where
  db:DB n.toNat D
  cl:∀ f∈D,∃ r,Cls next out n f w r
  ex:∀ s t:Nat,(s:Int)<n→(t:Int)<n→outsA next out s w=outsA next out t w→atA next s w≠atA next t w→∃ f∈D,Cls next out n f w (outsA next out s w)
  inj:tl=true→∀ s t:Nat,(s:Int)<n→(t:Int)<n→s≠t→outsA next out s w=outsA next out t w→atA next s w≠atA next t w
theorem two_bits_ns {f u v:Nat} (hf:f<1024) (hu:u∈bitsN f) (hv:v∈bitsN f) (h:u≠v):smallN f=false:=by
  cases hs:smallN f with
  | false=>rfl
  | true=>exact absurd ((small_iff hf).1 hs u hu v hv) h
theorem ns_two {f:Nat} (hf:f<1024) (h:smallN f=false):∃ u v,u∈bitsN f∧v∈bitsN f∧u≠v:=by
  refine Classical.byContradiction fun hc=>?_
  have:smallN f=true:=(small_iff hf).2 fun s hs t ht=>Classical.byContradiction fun e=>hc ⟨s,t,hs,ht,e⟩
  rw [h] at this;cases this
theorem DI0 (n1:1≤n) (n2:n≤10) (hn:n > 1) {tl:Bool}:DI next out n tl [] [2 ^ n.toNat - 1] where
  db:=DB_all n1 n2 hn
  cl:=fun f hf=>by
    rw [List.mem_singleton.1 hf]
    refine ⟨[],fun u=>?_⟩
    rw [all_bits ⟨n1,n2⟩]
    constructor
    · intro h;exact ⟨u,h,rfl,rfl⟩
    · rintro ⟨s,h1,_,h2⟩
      have:(s:Int)=u:=h2
      omega
  ex:=fun s t hs ht _ _=>⟨2 ^ n.toNat - 1,by simp,fun u=>by
    rw [all_bits ⟨n1,n2⟩]
    constructor
    · intro h;exact ⟨u,h,rfl,rfl⟩
    · rintro ⟨s,h1,_,h2⟩
      have:(s:Int)=u:=h2
      omega⟩
  inj:=fun _ s t _ _ hst _ e=>hst (by have:(s:Int)=t:=e;omega)
theorem Cls.part (M:Mach n o next out) {f x b:Nat} {w r:List Int} (hw:IsW next.length w) (hx:x<next.length) (hb:b<o.toNat) (h:Cls next out n f w r) (hf:f<2 ^ n.toNat) :
    Cls next out n ((dvF (next.getD x []) (out.getD x []) o (bitsTo f 10)).1.getD b 0) (w ++ [(x:Int)]) (r ++ [(b:Int)]):=by
  intro u
  have hxo:x<out.length:=by rw [M.len];exact hx
  have hnr:=M.aut.row _ (yz17 hx [])
  have hor:=M.row _ (yz17 hxo [])
  have o1:=M.o1
  have n2:=M.aut.n2
  have hin:∀ v:Nat,v∈bitsN f→v<n.toNat:=fun v hv=>bits_lt hf hv
  have hS:∀ s∈bitsTo f 10,0≤(out.getD x []).getD s.toNat 0∧(out.getD x []).getD s.toNat 0<o:=fun s hs=>by
    obtain ⟨k,hk,rfl⟩:=List.mem_map.1 (show s∈(bitsN f).map (fun (s:Nat)=>(s:Int)) from hs)
    have:=hin k hk
    exact hor.2 _ (yz17 (by rw [Int.toNat_natCast];omega) 0)
  have hbit:=dvF_bit (nr:=next.getD x []) (or:=out.getD x []) (o:=o) (b:=b) (u:=u) (by omega) hb _ (bitsTo f 10) rfl hS
  have hlt:=dvF_lt (nr:=next.getD x []) (or:=out.getD x []) (o:=o) (n:=n.toNat) (S:=bitsTo f 10) (fun s hs=>by have:=hnr.2 s hs;omega) (fun s hs=>by
    obtain ⟨k,hk,rfl⟩:=List.mem_map.1 (show s∈(bitsN f).map (fun (s:Nat)=>(s:Int)) from hs)
    have:=hin k hk
    rw [Int.toNat_natCast];omega)
  have hlen:=dvF_len (nr:=next.getD x []) (or:=out.getD x []) (o:=o) (S:=bitsTo f 10)
  have hpl:=hlt _ (yz17 (show b<(dvF (next.getD x []) (out.getD x []) o (bitsTo f 10)).1.length by omega) 0)
  have hm:u∈bitsN ((dvF (next.getD x []) (out.getD x []) o (bitsTo f 10)).1.getD b 0)↔((dvF (next.getD x []) (out.getD x []) o (bitsTo f 10)).1.getD b 0).testBit u=true:=by
    rw [mem_bits]
    refine ⟨fun h=>h.2,fun h=>⟨?_,h⟩⟩
    have:=Nat.ge_two_pow_of_testBit h
    have h3:u<n.toNat:=(Nat.pow_lt_pow_iff_right (a:=2) (by omega)).1 (Nat.lt_of_le_of_lt this hpl)
    omega
  rw [hm,hbit]
  have hat:∀ s:Nat,(s:Int)<n→0≤atA next s w∧atA next s w<n:=fun s hs=>M.aut.at ⟨by omega,hs⟩ hw
  constructor
  · rintro ⟨v,hv,h1,h2⟩
    obtain ⟨k,hk,rfl⟩:=List.mem_map.1 (show v∈(bitsN f).map (fun (s:Nat)=>(s:Int)) from hv)
    obtain ⟨s,hs,hr,ha⟩:=(h k).1 hk
    have hkn:=hin k hk
    have hok:=hor.2 _ (yz17 (show k<(out.getD x []).length by omega) 0)
    have hnk:=hnr.2 _ (yz17 (show k<(next.getD x []).length by omega) 0)
    rw [Int.toNat_natCast] at h1 h2
    refine ⟨s,hs,?_,?_⟩
    · rw [outsA_snoc,hr,ha]
      unfold outA
      rw [Int.toNat_natCast,Int.toNat_natCast,show (out.getD x []).getD k 0=(b:Int) by omega]
    · rw [atA_snoc,ha]
      unfold stepA
      rw [Int.toNat_natCast,Int.toNat_natCast];omega
  · rintro ⟨s,hs,hr,ha⟩
    rw [outsA_snoc] at hr
    rw [atA_snoc] at ha
    obtain ⟨h1,h2⟩:=List.append_inj' hr rfl
    have h2:outA out (atA next s w) x=b:=by simpa using h2
    have h3:=hat s hs
    obtain ⟨k,hk⟩:∃ k:Nat,atA next s w=k:=⟨(atA next s w).toNat,by omega⟩
    rw [hk] at h2 ha
    unfold outA at h2
    unfold stepA at ha
    rw [Int.toNat_natCast,Int.toNat_natCast] at h2 ha
    have hkb:=(h k).2 ⟨s,hs,h1,hk⟩
    refine ⟨(k:Int),List.mem_map.2 ⟨k,hkb,rfl⟩,?_,?_⟩
    · rw [Int.toNat_natCast,h2,Int.toNat_natCast]
    · rw [Int.toNat_natCast,ha,Int.toNat_natCast]
theorem DI.goes (M:Mach n o next out) {tl:Bool} {w:List Int} {D:List Nat} {x:Nat} (hw:IsW next.length w) (hx:x<next.length) (h:DI next out n tl w D) :
    match dbtD next out o tl D x with
    | some D'=>DI next out n tl (w ++ [(x:Int)]) D'
    | none=>tl=true∧∃ s t:Nat,(s:Int)<n∧(t:Int)<n∧s≠t∧outsA next out s (w ++ [(x:Int)])=outsA next out t (w ++ [(x:Int)])∧atA next s (w ++ [(x:Int)])=atA next t (w ++ [(x:Int)]):=by
  have hxo:x<out.length:=by rw [M.len];exact hx
  have hnr:=M.aut.row _ (yz17 hx [])
  have hor:=M.row _ (yz17 hxo [])
  have o1:=M.o1
  have n1:=M.aut.n1
  have n2:=M.aut.n2
  have hN:2 ^ n.toNat≤1024:=Nat.pow_le_pow_right (n:=2) (by omega) (show n.toNat≤10 by omega)
  have hat:∀ s:Nat,(s:Int)<n→0≤atA next s w∧atA next s w<n:=fun s hs=>M.aut.at ⟨by omega,hs⟩ hw
  have hS:∀ f∈D,∀ s∈bitsTo f 10,0≤(out.getD x []).getD s.toNat 0∧(out.getD x []).getD s.toNat 0<o:=fun f hf s hs=>by
    obtain ⟨k,hk,rfl⟩:=List.mem_map.1 (show s∈(bitsN f).map (fun (s:Nat)=>(s:Int)) from hs)
    have:=bits_lt (h.db.el f hf).1 hk
    exact hor.2 _ (yz17 (by rw [Int.toNat_natCast];omega) 0)
  cases hd:dbtD next out o tl D x with
  | none =>
    unfold dbtD at hd
    split at hd
    · rename_i hc
      rw [Bool.and_eq_true,Bool.not_eq_true'] at hc
      refine ⟨hc.1,?_⟩
      have hcl:=hc.2
      unfold clrF at hcl
      rw [List.all_eq_false] at hcl
      obtain ⟨f,hf,hcf⟩:=hcl
      have hcf':=mt (dvF_clr (nr:=next.getD x []) (or:=out.getD x []) (o:=o) (by omega) _ (bitsTo f 10) rfl (hS f hf)).2 hcf
      obtain ⟨r,hr⟩:=h.cl f hf
      refine Classical.byContradiction fun hno=>hcf' ?_
      have hsi:(bitsTo f 10).Pairwise (·≠·):=by
        unfold bitsTo
        rw [List.pairwise_map]
        exact (List.pairwise_lt_range.filter _).imp fun h=>by omega
      refine List.Pairwise.imp_of_mem ?_ hsi
      intro a b ha hb hab ⟨e1,e2⟩
      obtain ⟨k,hk,rfl⟩:=List.mem_map.1 (show a∈(bitsN f).map (fun (s:Nat)=>(s:Int)) from ha)
      obtain ⟨l,hl,rfl⟩:=List.mem_map.1 (show b∈(bitsN f).map (fun (s:Nat)=>(s:Int)) from hb)
      obtain ⟨s,hs1,hs2,hs3⟩:=(hr k).1 hk
      obtain ⟨t,ht1,ht2,ht3⟩:=(hr l).1 hl
      have hkn:=bits_lt (h.db.el f hf).1 hk
      have hln:=bits_lt (h.db.el f hf).1 hl
      have ok1:=hor.2 _ (yz17 (show k<(out.getD x []).length by omega) 0)
      have ok2:=hor.2 _ (yz17 (show l<(out.getD x []).length by omega) 0)
      have nk1:=hnr.2 _ (yz17 (show k<(next.getD x []).length by omega) 0)
      have nk2:=hnr.2 _ (yz17 (show l<(next.getD x []).length by omega) 0)
      rw [Int.toNat_natCast,Int.toNat_natCast] at e1 e2
      refine hno ⟨s,t,hs1,ht1,fun e=>hab (by rw [← hs3,← ht3,e]),?_,?_⟩
      · rw [outsA_snoc,outsA_snoc,hs2,ht2,hs3,ht3]
        unfold outA
        rw [Int.toNat_natCast,Int.toNat_natCast,Int.toNat_natCast]
        congr 2;omega
      · rw [atA_snoc,atA_snoc,hs3,ht3]
        unfold stepA
        rw [Int.toNat_natCast,Int.toNat_natCast,Int.toNat_natCast];omega
    · cases hd
  | some D' =>
    have hdb:=dbt_DB M h.db hx hd
    unfold dbtD at hd
    split at hd
    · cases hd
    · rename_i hc
      simp only [Option.some.injEq] at hd
      have hplt:=parF_lt (nr:=next.getD x []) (or:=out.getD x []) (o:=o) (n:=n.toNat) (D:=D) (fun s hs=>by have:=hnr.2 s hs;omega) (by omega) fun f hf=>(h.db.el f hf).1
      have hmem:=fun f=>nrmF_mem (ps:=parF (next.getD x []) (out.getD x []) o D) (f:=f) fun g hg=>Nat.lt_of_lt_of_le (hplt g hg) hN
      rw [hd] at hmem
      have hstep:∀ s t:Nat,(s:Int)<n→(t:Int)<n→outsA next out s (w ++ [(x:Int)])=outsA next out t (w ++ [(x:Int)])→outsA next out s w=outsA next out t w∧outA out (atA next s w) x=outA out (atA next t w) x:=by
        intro s t _ _ he
        rw [outsA_snoc,outsA_snoc] at he
        obtain ⟨h1,h2⟩:=List.append_inj' he rfl
        exact ⟨h1,by simpa using h2⟩
      refine ⟨hdb,fun f' hf'=>?_,fun s t hs ht ho ha=>?_,fun ht s t hs htn hst ho ha=>?_⟩
      · obtain ⟨f,hf,hp⟩:=List.mem_flatMap.1 ((hmem f').1 hf').1
        obtain ⟨b,hb,hg⟩:=List.getElem_of_mem hp
        obtain ⟨r,hr⟩:=h.cl f hf
        have hlen:=dvF_len (nr:=next.getD x []) (or:=out.getD x []) (o:=o) (S:=bitsTo f 10)
        have hc:=hr.part M hw hx (b:=b) (by omega) (h.db.el f hf).1
        rw [List.getD_eq_getElem?_getD,List.getElem?_eq_getElem hb,Option.getD_some,hg] at hc
        exact ⟨_,hc⟩
      · obtain ⟨ho1,ho2⟩:=hstep s t hs ht ho
        have ha1:atA next s w≠atA next t w:=fun e=>ha (by rw [atA_snoc,atA_snoc,e])
        obtain ⟨f,hf,hc⟩:=h.ex s t hs ht ho1 ha1
        have hs3:=hat s hs
        obtain ⟨k,hk⟩:∃ k:Nat,atA next s w=k:=⟨(atA next s w).toNat,by omega⟩
        have hok:0≤outA out (atA next s w) x∧outA out (atA next s w) x<o:=by
          rw [hk];unfold outA
          rw [Int.toNat_natCast,Int.toNat_natCast]
          exact hor.2 _ (yz17 (show k<(out.getD x []).length by omega) 0)
        obtain ⟨b,hb⟩:∃ b:Nat,outA out (atA next s w) x=b:=⟨(outA out (atA next s w) x).toNat,by omega⟩
        have hpc:=hc.part M hw hx (b:=b) (by omega) (h.db.el f hf).1
        have hr:outsA next out s (w ++ [(x:Int)])=outsA next out s w ++ [(b:Int)]:=by rw [outsA_snoc,hb]
        have hlen:=dvF_len (nr:=next.getD x []) (or:=out.getD x []) (o:=o) (S:=bitsTo f 10)
        have hbl:b<(dvF (next.getD x []) (out.getD x []) o (bitsTo f 10)).1.length:=by omega
        have hpm:(dvF (next.getD x []) (out.getD x []) o (bitsTo f 10)).1.getD b 0∈parF (next.getD x []) (out.getD x []) o D:=List.mem_flatMap.2 ⟨f,hf,yz17 hbl 0⟩
        refine ⟨_,(hmem _).2 ⟨hpm,?_⟩,by rw [hr];exact hpc⟩
        have hwx:IsW next.length (w ++ [(x:Int)]):=fun y hy=>by
          rcases List.mem_append.1 hy with hy | hy
          · exact hw y hy
          · rw [List.mem_singleton.1 hy];omega
        have hs4:=M.aut.at ⟨by omega,hs⟩ hwx (s:=s)
        have ht4:=M.aut.at ⟨by omega,ht⟩ hwx (s:=t)
        refine two_bits_ns (Nat.lt_of_lt_of_le (hplt _ hpm) hN) (u:=(atA next s (w ++ [(x:Int)])).toNat) (v:=(atA next t (w ++ [(x:Int)])).toNat) ((hpc _).2 ⟨s,hs,hr,by omega⟩) ((hpc _).2 ⟨t,ht,by rw [← ho,hr],by omega⟩) (by omega)
      · obtain ⟨ho1,ho2⟩:=hstep s t hs htn ho
        have ha1:=h.inj ht s t hs htn hst ho1
        obtain ⟨f,hf,hcf⟩:=h.ex s t hs htn ho1 ha1
        have hcl:clrF (next.getD x []) (out.getD x []) o D=true:=by
          cases hcc:clrF (next.getD x []) (out.getD x []) o D with
          | true=>rfl
          | false=>exact absurd (by rw [ht,hcc];rfl) hc
        unfold clrF at hcl
        have hcf2:=(dvF_clr (nr:=next.getD x []) (or:=out.getD x []) (o:=o) (by omega) _ (bitsTo f 10) rfl (hS f hf)).1 (List.all_eq_true.1 hcl f hf)
        have hs3:=hat s hs
        have ht3:=hat t htn
        obtain ⟨k,hk⟩:∃ k:Nat,atA next s w=k:=⟨(atA next s w).toNat,by omega⟩
        obtain ⟨l,hl⟩:∃ k:Nat,atA next t w=k:=⟨(atA next t w).toNat,by omega⟩
        have hkb:=(hcf k).2 ⟨s,hs,rfl,hk⟩
        have hlb:=(hcf l).2 ⟨t,htn,ho1.symm,hl⟩
        have hkl:(k:Int)≠l:=by rw [← hk,← hl];exact ha1
        rw [hk,hl] at ho2
        rw [atA_snoc,atA_snoc,hk,hl] at ha
        unfold outA at ho2
        unfold stepA at ha
        have hpw:=pw_all (fun a b h hh=>h ⟨hh.1.symm,hh.2.symm⟩) hcf2
        refine hpw k (List.mem_map.2 ⟨k,hkb,rfl⟩) l (List.mem_map.2 ⟨l,hlb,rfl⟩) hkl ⟨?_,?_⟩
        · rw [Int.toNat_natCast] at ho2;rw [ho2]
        · rw [Int.toNat_natCast] at ha;rw [ha]
theorem DI.word (M:Mach n o next out) (hn:n > 1) {tl:Bool}:∀ (k:Nat) (w:List Int),w.length=k→IsW next.length w →
    match goG (dbtD next out o tl) [2 ^ n.toNat - 1] w with
    | some D=>DI next out n tl w D
    | none=>tl=true∧∃ s t:Nat,(s:Int)<n∧(t:Int)<n∧s≠t∧outsA next out s w=outsA next out t w∧atA next s w=atA next t w
  | 0,w,hk,_=>by
    obtain rfl:=List.eq_nil_of_length_eq_zero hk
    exact DI0 M.aut.n1 M.aut.n2 hn
  | k+1,w,hk,hw=>by
    have hne:w≠[]:=fun e=>by rw [e] at hk;simp at hk
    have e:=List.dropLast_concat_getLast hne
    have hwd:IsW next.length w.dropLast:=fun y hy=>hw y (List.dropLast_subset w hy)
    have ih:=DI.word M hn (tl:=tl) k w.dropLast (by rw [List.length_dropLast];omega) hwd
    have hx:=hw _ (List.getLast_mem hne)
    obtain ⟨x,hxe⟩:∃ x:Nat,w.getLast hne=x:=⟨(w.getLast hne).toNat,by omega⟩
    rw [hxe] at e hx
    rw [← e]
    generalize w.dropLast=u at ih hwd e
    rw [goG_snoc,Int.toNat_natCast]
    cases hg:goG (dbtD next out o tl) [2 ^ n.toNat - 1] u with
    | none =>
      rw [hg] at ih
      simp only [Option.bind_none]
      obtain ⟨h1,s,t,h2,h3,h4,h5,h6⟩:=ih
      exact ⟨h1,s,t,h2,h3,h4,by rw [outsA_snoc,outsA_snoc,h5,h6],by rw [atA_snoc,atA_snoc,h6]⟩
    | some D =>
      rw [hg] at ih
      simp only [Option.bind_some]
      exact ih.goes M hwd (by omega)
theorem homB_iff {tl:Bool} {w:List Int}:homB next out tl n w=true↔∀ s t:Nat,(s:Int)<n→(t:Int)<n→s≠t→outsA next out s w=outsA next out t w→tl=false∧atA next s w=atA next t w:=by
  have key:∀ s t:Nat,prB next out w (hmP tl) s t=true↔(outsA next out s w=outsA next out t w→tl=false∧atA next s w=atA next t w):=fun s t=>by
    unfold prB hmP
    by_cases h:outsA next out s w=outsA next out t w
    · simp [h]
    · simp [h]
  unfold homB everyP
  simp only [List.all_eq_true,List.mem_range,key]
  constructor
  · intro h s t hs ht hst ho
    rcases Nat.lt_or_ge t s with h1 | h1
    · exact h s (by omega) t h1 ho
    · obtain ⟨h2,h3⟩:=h t (by omega) s (by omega) ho.symm
      exact ⟨h2,h3.symm⟩
  · intro h s hs t ht ho
    exact h s t (by omega) (by omega) (by omega) ho
theorem hom_go (M:Mach n o next out) (hn:n > 1) {tl:Bool} {w:List Int} (hw:IsW next.length w):homB next out tl n w=true↔goG (dbtD next out o tl) [2 ^ n.toNat - 1] w=some []:=by
  have n1:=M.aut.n1
  have n2:=M.aut.n2
  have hN:2 ^ n.toNat≤1024:=Nat.pow_le_pow_right (n:=2) (by omega) (show n.toNat≤10 by omega)
  have h:=DI.word M hn (tl:=tl) w.length w rfl hw
  rw [homB_iff]
  cases hg:goG (dbtD next out o tl) [2 ^ n.toNat - 1] w with
  | none =>
    rw [hg] at h
    obtain ⟨h1,s,t,h2,h3,h4,h5,h6⟩:=h
    refine ⟨fun hh=>?_,fun hh=>by cases hh⟩
    have:=(hh s t h2 h3 h4 h5).1
    rw [h1] at this;cases this
  | some D =>
    rw [hg] at h
    rw [Option.some.injEq]
    constructor
    · intro hh
      refine Classical.byContradiction fun hD=>?_
      obtain ⟨f,hf⟩:=List.exists_mem_of_ne_nil D hD
      obtain ⟨r,hr⟩:=h.cl f hf
      obtain ⟨u,v,hu,hv,huv⟩:=ns_two (Nat.lt_of_lt_of_le (h.db.el f hf).1 hN) (h.db.el f hf).2
      obtain ⟨s,hs1,hs2,hs3⟩:=(hr u).1 hu
      obtain ⟨t,ht1,ht2,ht3⟩:=(hr v).1 hv
      have:=(hh s t hs1 ht1 (fun e=>by rw [e,ht3] at hs3;exact huv (by omega)) (by rw [hs2,ht2])).2
      rw [hs3,ht3] at this
      exact huv (by omega)
    · rintro rfl s t hs ht hst ho
      have ha:atA next s w=atA next t w:=Classical.byContradiction fun hne=>by
        obtain ⟨f,hf,_⟩:=h.ex s t hs ht ho hne
        simp at hf
      refine ⟨?_,ha⟩
      cases tl with
      | false=>rfl
      | true=>exact absurd ha (h.inj rfl s t hs ht hst ho)
end
end Go.Ab
namespace Go.Ab
theorem DB.mono {n m:Nat} {q:List Nat} (h:DB n q) (hm:n≤m):DB m q :=
  ⟨h.lt,fun f hf=>⟨Nat.lt_of_lt_of_le (h.el f hf).1 (Nat.pow_le_pow_right (by omega) hm),(h.el f hf).2⟩,by have:=h.sm;omega⟩
def cand (B:Nat):Nat→List (List Nat)
  | 0=>[[]]
  | k+1=>[] :: (List.range B).flatMap fun f=>(cand B k).map (f :: ·)
theorem cand_mem {B:Nat}:∀ {k:Nat} {q:List Nat},q.length≤k→(∀ f∈q,f<B)→q∈cand B k
  | 0,q,hl,_=>by
    obtain rfl:q=[]:=List.eq_nil_of_length_eq_zero (by omega)
    simp [cand]
  | k+1,[],_,_=>by simp [cand]
  | k+1,f :: q,hl,hb=>by
    have:=cand_mem (k:=k) (q:=q) (by simpa using hl) fun g hg=>hb g (by simp [hg])
    simp only [cand,List.mem_cons,List.mem_flatMap,List.mem_range,List.mem_map]
    exact .inr ⟨f,hb f (by simp),q,this,rfl⟩
theorem enough_ex {n:Nat} (hn:n≤10):∃ F,Enough n F:=by
  obtain ⟨N,hN0⟩:∃ N,N=(cand 1024 5).length:=⟨_,rfl⟩
  refine ⟨N+1,fun L hd hD=>?_⟩
  have h:=len_sub hd (ps:=cand 1024 5) fun q hq=>by
    obtain ⟨p,hp,rfl⟩:=List.mem_map.1 hq
    have hN:2 ^ n≤1024:=Nat.pow_le_pow_right (n:=2) (by omega) hn
    have:=(hD p hp).len hn
    exact cand_mem (by omega) fun f hf=>Nat.lt_of_lt_of_le ((hD p hp).el f hf).1 hN
  rw [List.length_map,← hN0] at h
  omega
section
variable {n o:Int} {next out:List (List Int)}
theorem dbtT_GI (M:Mach n o next out) (hn:n > 1) {tl:Bool} {F:Nat} (hF:Enough n.toNat F) :
    GI (dbtD next out o tl) (DB n.toNat) next.length ([],[]) [2 ^ n.toNat - 1] (dbtT next out o tl n F).length 0 (dbtT next out o tl n F):=by
  have hF0:0<F:=by have:=hF [] (by simp) (by simp);simpa using this
  refine GI.run (N:=F - 1) (fun p y q hp hy h=>dbt_DB M hp hy h) (fun L h1 h2=>?_) F 0 [([2 ^ n.toNat - 1],[])] (GI0 (DB_all M.aut.n1 M.aut.n2 hn)) (by simp) (by omega)
  have:=hF L h1 h2;omega
def LenI {σ:Type} (d:σ×List Int) (L:List (σ×List Int)):Prop:=∀ k,k<L.length→(L.getD k d).2.length≤k
theorem LenI.vis {σ:Type} [DecidableEq σ] {δ:σ→Nat→Option σ} {d:σ×List Int} {p:σ} {w:List Int} {L:List (σ×List Int)} (h:LenI d L) (hw:w.length<L.length):∀ x,LenI d (visG δ p w x L)
  | 0=>h
  | x+1=>by
    have ih:=LenI.vis (δ:=δ) (p:=p) h hw x
    obtain ⟨t,ht⟩:=visG_pre (δ:=δ) (p:=p) (w:=w) x L
    simp only [visG]
    cases δ p x with
    | none=>exact ih
    | some q =>
      simp only
      split
      · exact ih
      · intro k hk
        rw [List.length_append,List.length_singleton] at hk
        by_cases e:k<(visG δ p w x L).length
        · rw [appG_getD e];exact ih k e
        · obtain rfl:k=(visG δ p w x L).length:=by omega
          rw [lastG_getD,List.length_append,List.length_singleton,ht,List.length_append];omega
theorem LenI.run {σ:Type} [DecidableEq σ] {δ:σ→Nat→Option σ} {d:σ×List Int} {m:Nat}:∀ (F i:Nat) (L:List (σ×List Int)),LenI d L→LenI d (runG δ m d F i L)
  | 0,_,_,h=>h
  | F+1,i,L,h=>by
    simp only [runG]
    split
    · rename_i hi
      exact LenI.run F (i+1) _ (h.vis (by have:=h i hi;omega) m)
    · exact h
theorem hom_first (M:Mach n o next out) (hn:n > 1) {tl:Bool} {F:Nat} (hF:Enough n.toNat F) :
    match qT (dbtT next out o tl n F) with
    | some w=>homB next out tl n w=true∧IsW next.length w∧w.length<F∧w.length≤2000∧∀ v,IsW next.length v→homB next out tl n v=true→befP v w=false
    | none=>qC (dbtT next out o tl n F)≠3→∀ v,IsW next.length v→homB next out tl n v=false:=by
  have G:=dbtT_GI M hn (tl:=tl) hF
  have hL:LenI (([],[]):List Nat×List Int) (dbtT next out o tl n F):=LenI.run F 0 _ fun k hk=>by
    have:k=0:=by simpa using hk
    subst this;simp
  have hTF:(dbtT next out o tl n F).length<F:=hF _ G.nd G.rg
  have hfst:=G.first fun q=>q.isEmpty
  generalize dbtT next out o tl n F=T at G hL hTF hfst
  cases hq:qT T with
  | some w =>
    unfold qT at hq
    rw [Option.map_eq_some_iff] at hq
    obtain ⟨p,hp,rfl⟩:=hq
    have hf:T.find? (fun p=>p.1.isEmpty)=some p:=by
      rw [← List.take_append_drop 2001 T,List.find?_append,hp];rfl
    rw [hf] at hfst
    obtain ⟨q,w⟩:=p
    obtain ⟨h1,h2,h3,h4⟩:=hfst
    obtain rfl:q=[]:=by simpa using h2
    obtain ⟨k,hk,hg⟩:=List.getElem_of_mem (List.mem_of_find?_eq_some hp)
    rw [List.length_take] at hk
    have hkT:k<T.length:=by omega
    have hlk:=hL k hkT
    rw [List.getElem_take] at hg
    rw [List.getD_eq_getElem?_getD,List.getElem?_eq_getElem hkT,Option.getD_some,hg] at hlk
    have hlk:w.length≤k:=hlk
    refine ⟨(hom_go M hn h3).2 h1,h3,by show w.length<F;omega,by show w.length≤2000;omega,fun v hv hh=>?_⟩
    exact h4 v hv [] ((hom_go M hn hv).1 hh) rfl
  | none =>
    intro hc v hv
    have hTl:T.length≤2000:=by
      refine Classical.byContradiction fun h=>hc ?_
      unfold qC
      rw [hq,if_neg (by simp),if_pos (by omega)]
    have hf:T.find? (fun p=>p.1.isEmpty)=none:=by
      unfold qT at hq
      rw [List.take_of_length_le (by omega)] at hq
      simpa using hq
    rw [hf] at hfst
    cases hh:homB next out tl n v with
    | false=>rfl
    | true =>
      have:=hfst v hv [] ((hom_go M hn hv).1 hh)
      simp at this
end
end Go.Ab
namespace Go.Ab
open Go.Proofs
theorem law_TellingWord (n o:Int) (next out:List (List Int)) (ok:Bool) (ws zs:List Int) (cc:Int) (KS:RowC2 Try.prog nz17 [.st [iv n,iv o,.ro none 1 (rwn next),.ro none 1 (rwn out)]] ws cc) (KI:RowT Try.prog nzl [.st [iv n,iv o,.ro none 1 (rwn next),.ro none 1 (rwn out)]] ok zs cc)
    (h1:ok=true→ws=zs) (h2:ok=false→ws=[]) (hz:ok=true→(zs.length:Int)≤1000000000) :
    Fun Try.prog nz3f [.st [iv n,iv o,.ro (some (some 0)) 1 (rwo next),.ro (some (some 0)) 1 (rwo out)]] (bv true):=by
  refine fun_of mixed czi3 rfl ⟨rfl,trivial⟩ ?_
  simp only [Az99,Bz98,Bz97,wpD_kp,yz18,go_sem,yz0,xx9,xx8,xx6,xx7,xx5,xx0,xx1,xx2,reduceIte,xx3,xx4,reduceCtorEq]
  rintro vs1 U1 - vs2 U2 - vs3 U3 -
  refine yzv (k_szMachine n o next out 1048576 (by omega)) qCO trivial ?_
  by_cases hsz0:(szC2 next out 1048576)<0
  · simp only [Bz58,Bz4h,decide_eq_true hsz0,wpD_kp,yz18,go_sem,yz0,xx9,xx8,xx6,xx7,xx5,xx0,xx1,xx2,reduceIte,xx3,xx4,reduceCtorEq]
    try simp
  obtain ⟨hqa0,hqb0,hqc0⟩:=szC2_ge hsz0
  obtain ⟨hsa_next,hsb_next,hsc_next⟩:=szLL_ge (xss:=next) (l:=1048576) (by omega)
  have htot_next:=szLL_tot (ps:=next.map fun x=>(0,x)) (l:=1048576) (by rw [List.map_map];simp only [Function.comp_def,List.map_id'];omega) (by omega)
  have hb_next:next.length * 24≤140737488355328:=by omega
  have hc_next:∀ xs∈next,xs.length * 8≤140737488355328:=fun xs hx=>by have:=hsb_next xs hx;omega
  have hd_next:∀ xs∈next,(xs.length:Int)≤1000000000:=fun xs hx=>by have:=hsb_next xs hx;omega
  obtain ⟨hsa_out,hsb_out,hsc_out⟩:=szLL_ge (xss:=out) (l:=(szLL next 1048576)) (by omega)
  have htot_out:=szLL_tot (ps:=out.map fun x=>(0,x)) (l:=(szLL next 1048576)) (by rw [List.map_map];simp only [Function.comp_def,List.map_id'];omega) (by omega)
  have hb_out:out.length * 24≤140737488355328:=by omega
  have hc_out:∀ xs∈out,xs.length * 8≤140737488355328:=fun xs hx=>by have:=hsb_out xs hx;omega
  have hd_out:∀ xs∈out,(xs.length:Int)≤1000000000:=fun xs hx=>by have:=hsb_out xs hx;omega
  simp only [Bz58,Bz4h,Bz96,decide_eq_false hsz0,wpD_kp,yz18,go_sem,yz0,xx9,xx8,xx6,xx7,xx5,xx0,xx1,xx2,reduceIte,xx3,xx4,reduceCtorEq]
  rintro vs4 U4 - vs5 U5 -
  refine call_rows2 (k_toMachine n o next out hb_next hc_next hb_out hc_out) qCO rfl rfl ?_
  intro v1 v2
  try simp only [List.map_cons,List.map_nil,List.cons_append,List.nil_append,wpD_kp,yz18,go_sem,yz0,xx9,xx8,xx6,xx7,xx5,xx0,xx1,xx2,reduceIte,xx3,xx4,reduceCtorEq]
  refine call_rowC2 KS qCS rfl ?_
  intro v3
  simp only [Bz95,wpD_kp,yz18,go_sem,yz0,xx9,xx8,xx6,xx7,xx5,xx0,xx1,xx2,reduceIte,xx3,xx4,reduceCtorEq]
  rintro vs6 U6 hN6
  refine call_machN (fun x y e=>(hN6.inj _ _ _ _ e).2) (k_toMachineN n o next out hb_next hc_next hb_out hc_out) qCO rfl rfl ?_
  intro v4 v5 ps_next ps_out hps_next hps_out hdj
  clear hN6
  have htt_next:totL ps_next≤1048576:=by have h:=szLL_tot (ps:=ps_next) (l:=1048576) (by rw [hps_next];omega) (by omega);omega
  have htn_next:=totL_nn ps_next
  have hdp_next:∀ p∈ps_next,(p.2.length:Int)≤1000000000:=fun p hp=>hd_next p.2 (by rw [← hps_next];exact List.mem_map_of_mem hp)
  have htt_out:totL ps_out≤1048576:=by have h:=szLL_tot (ps:=ps_out) (l:=(szLL next 1048576)) (by rw [hps_out];omega) (by omega);omega
  have htn_out:=totL_nn ps_out
  have hdp_out:∀ p∈ps_out,(p.2.length:Int)≤1000000000:=fun p hp=>hd_out p.2 (by rw [← hps_out];exact List.mem_map_of_mem hp)
  simp only [Bz94,wpD_kp,yz18,go_sem,yz0,xx9,xx8,xx6,xx7,xx5,xx0,xx1,xx2,reduceIte,xx3,xx4,reduceCtorEq]
  rintro vs7 U7 -
  cases ok with
  | true =>
    obtain rfl:=h1 rfl
    have hz:=hz rfl
    refine call_rowT KI (by simp only [← hps_next,← hps_out,coeL_rwp_t,rowIs,boxIs,yz1f,yz13,yz1d,yz19,yz10,coe_any,coe_val,coe_ro,yzx,yzw,coe_st,yzy,coe_rp,yzz,coe_clo,yz1e,yz1a,yzu,yz1c,yz1b,L_hit,L_miss,L_nil,xx3,ne_eq,reduceCtorEq,not_false_eq_true,true_and,and_true,and_self,exists_eq_left,exists_eq_right,List.mem_cons,List.not_mem_nil,or_false,AObj.row.injEq,AObj.box.injEq,exists_eq_left',exists_and_left,exists_eq,Nat.zero_lt_one,Nat.lt_add_one,List.map_cons,List.map_nil,AObj.ver,xx5,not_true_eq_false]) rfl (fun _ v6=>?_) (fun h=>by cases h)
    simp only [Bz57,wpD_kp,yz18,go_sem,yz0,xx9,xx8,xx6,xx7,xx5,xx0,xx1,xx2,reduceIte,xx3,xx4,reduceCtorEq]
    rintro vs8 U8 -
    refine yzv (k_eqInt64S ws ws) qCS trivial ?_
    simp only [Bz4i,Bz56,decide_true,Bool.and_self,bne_self_eq_false,wpD_kp,yz18,go_sem,yz0,xx9,xx8,xx6,xx7,xx5,xx0,xx1,xx2,reduceIte,xx3,xx4,reduceCtorEq]
    rintro vs9 U9 -
    refine call_rows2 (k_toMachine n o next out hb_next hc_next hb_out hc_out) qCO rfl rfl ?_
    intro v7 v8
    try simp only [List.map_cons,List.map_nil,List.cons_append,List.nil_append,wpD_kp,yz18,go_sem,yz0,xx9,xx8,xx6,xx7,xx5,xx0,xx1,xx2,reduceIte,xx3,xx4,reduceCtorEq]
    refine yzv (k_eqMachine n n o o next out next out) (by simp only [← hps_next,← hps_out,coeL_rwp_t,rowIs,boxIs,yz1f,yz13,yz1d,yz19,yz10,coe_any,coe_val,coe_ro,yzx,yzw,coe_st,yzy,coe_rp,yzz,coe_clo,yz1e,yz1a,yzu,yz1c,yz1b,L_hit,L_miss,L_nil,xx3,ne_eq,reduceCtorEq,not_false_eq_true,true_and,and_true,and_self,exists_eq_left,exists_eq_right,List.mem_cons,List.not_mem_nil,or_false,AObj.row.injEq,AObj.box.injEq,exists_eq_left',exists_and_left,exists_eq,Nat.zero_lt_one,Nat.lt_add_one,List.map_cons,List.map_nil,AObj.ver,xx5,not_true_eq_false]) trivial ?_
    simp only [Bz4j,Bz55,Bz54,decide_true,Bool.and_self,bne_self_eq_false,wpD_kp,yz18,go_sem,yz0,xx9,xx8,xx6,xx7,xx5,xx0,xx1,xx2,reduceIte,xx3,xx4,reduceCtorEq]
    rintro vs10 U10 - vs11 U11 -
    refine call_hav (k_markMachine n o ps_next ps_out hdj 1 (by omega) hdp_next hdp_out) ?_ ?_
    · simp only [coeHL_cons,coeHL_nil,coeH_val,coeH_st,and_true,true_and]
      refine ⟨?_,?_⟩ <;> exact coeH_own (nn:=true) qWS
    rintro x ⟨k1,rfl,hk1a,hk1b⟩
    have hkn1:¬ (k1<0):=by omega
    simp only [Bz53,cl_L,clT,clO,clV_any,clV_val,clV_own,clV_ptr,clV_st,clV_o,clL_ints,clL_rwo,clL_cons,clL_nil,clR_row,clR_box,clR_gone,decide_eq_false hkn1,wpD_kp,yz18,go_sem,yz0,xx9,xx8,xx6,xx7,xx5,xx0,xx1,xx2,reduceIte,xx3,xx4,reduceCtorEq]
    rintro vs12 U12 -
    refine yzv (k_eqInt64S ws ws) qCS trivial ?_
    simp only [Bz4k,Bz52,Bz51,decide_true,Bool.and_self,bne_self_eq_false,wpD_kp,yz18,go_sem,yz0,xx9,xx8,xx6,xx7,xx5,xx0,xx1,xx2,reduceIte,xx3,xx4,reduceCtorEq]
    rintro vs13 U13 - vs14 U14 -
    refine call_mark (k_markInt64S ws true 1 (by omega) (by omega)) qWS rfl ?_
    simp only [Bz50,Bz4z,wpD_kp,yz18,go_sem,yz0,xx9,xx8,xx6,xx7,xx5,xx0,xx1,xx2,reduceIte,xx3,xx4,reduceCtorEq]
    rintro vs15 U15 - vs16 U16 -
    refine yzv (k_held (seqI 1 ws.length) 1 (by omega) (by rw [seqI_len];omega) (by rw [seqI_len])) qCS trivial ?_
    have hneg:¬ ((1:Int)+ws.length<0):=by omega
    simp only [Bz4y,Bz4l,Bz4x,Bz4m,Bz4w,seqI_len,bne_self_eq_false,decide_eq_false hneg,wpD_kp,yz18,go_sem,yz0,xx9,xx8,xx6,xx7,xx5,xx0,xx1,xx2,reduceIte,xx3,xx4,reduceCtorEq]
    rintro vs17 U17 - vs18 U18 - vs19 U19 -
    refine call_rows2 (k_toMachine n o next out hb_next hc_next hb_out hc_out) qCO rfl rfl ?_
    intro v9 v10
    try simp only [List.map_cons,List.map_nil,List.cons_append,List.nil_append,wpD_kp,yz18,go_sem,yz0,xx9,xx8,xx6,xx7,xx5,xx0,xx1,xx2,reduceIte,xx3,xx4,reduceCtorEq]
    refine call_rowT KI qCS rfl (fun _ v11=>?_) (fun h=>by cases h)
    simp only [Bz4v,wpD_kp,yz18,go_sem,yz0,xx9,xx8,xx6,xx7,xx5,xx0,xx1,xx2,reduceIte,xx3,xx4,reduceCtorEq]
    rintro vs20 U20 -
    refine yzv (k_eqInt64S ws ws) qCS trivial ?_
    simp only [Bz4n,Bz4u,Bz4t,decide_true,Bool.and_self,bne_self_eq_false,wpD_kp,yz18,go_sem,yz0,xx9,xx8,xx6,xx7,xx5,xx0,xx1,xx2,reduceIte,xx3,xx4,reduceCtorEq]
    rintro vs21 U21 - vs22 U22 -
    refine yzv (k_held (seqI 1 ws.length) 1 (by omega) (by rw [seqI_len];omega) (by rw [seqI_len])) qCS trivial ?_
    simp only [Bz4s,Bz4o,Bz4r,Bz4p,Bz4q,seqI_len,bne_self_eq_false,decide_eq_false hneg,wpD_kp,yz18,go_sem,yz0,xx9,xx8,xx6,xx7,xx5,xx0,xx1,xx2,reduceIte,xx3,xx4,reduceCtorEq]
    try simp
  | false =>
    obtain rfl:=h2 rfl
    refine call_rowT KI (by simp only [← hps_next,← hps_out,coeL_rwp_t,rowIs,boxIs,yz1f,yz13,yz1d,yz19,yz10,coe_any,coe_val,coe_ro,yzx,yzw,coe_st,yzy,coe_rp,yzz,coe_clo,yz1e,yz1a,yzu,yz1c,yz1b,L_hit,L_miss,L_nil,xx3,ne_eq,reduceCtorEq,not_false_eq_true,true_and,and_true,and_self,exists_eq_left,exists_eq_right,List.mem_cons,List.not_mem_nil,or_false,AObj.row.injEq,AObj.box.injEq,exists_eq_left',exists_and_left,exists_eq,Nat.zero_lt_one,Nat.lt_add_one,List.map_cons,List.map_nil,AObj.ver,xx5,not_true_eq_false]) rfl (fun h=>by cases h) (fun _=>?_)
    simp only [Bz57,wpD_kp,yz18,go_sem,yz0,xx9,xx8,xx6,xx7,xx5,xx0,xx1,xx2,reduceIte,xx3,xx4,reduceCtorEq]
    rintro vs8 U8 -
    refine yzv (k_eqInt64S [] []) (by simp only [List.map_nil,rowIs,boxIs,yz1f,yz13,yz1d,yz19,yz10,coe_any,coe_val,coe_ro,yzx,yzw,coe_st,yzy,coe_rp,yzz,coe_clo,yz1e,yz1a,yzu,yz1c,yz1b,L_hit,L_miss,L_nil,xx3,ne_eq,reduceCtorEq,not_false_eq_true,true_and,and_true,and_self,exists_eq_left,exists_eq_right,List.mem_cons,List.not_mem_nil,or_false,AObj.row.injEq,AObj.box.injEq,exists_eq_left',exists_and_left,exists_eq,Nat.zero_lt_one,Nat.lt_add_one,List.map_cons,List.map_nil,AObj.ver,xx5,not_true_eq_false]) trivial ?_
    simp only [Bz4i,Bz56,decide_true,Bool.and_self,bne_self_eq_false,wpD_kp,yz18,go_sem,yz0,xx9,xx8,xx6,xx7,xx5,xx0,xx1,xx2,reduceIte,xx3,xx4,reduceCtorEq]
    rintro vs9 U9 -
    refine call_rows2 (k_toMachine n o next out hb_next hc_next hb_out hc_out) qCO rfl rfl ?_
    intro v6 v7
    try simp only [List.map_cons,List.map_nil,List.cons_append,List.nil_append,wpD_kp,yz18,go_sem,yz0,xx9,xx8,xx6,xx7,xx5,xx0,xx1,xx2,reduceIte,xx3,xx4,reduceCtorEq]
    refine yzv (k_eqMachine n n o o next out next out) (by simp only [← hps_next,← hps_out,coeL_rwp_t,rowIs,boxIs,yz1f,yz13,yz1d,yz19,yz10,coe_any,coe_val,coe_ro,yzx,yzw,coe_st,yzy,coe_rp,yzz,coe_clo,yz1e,yz1a,yzu,yz1c,yz1b,L_hit,L_miss,L_nil,xx3,ne_eq,reduceCtorEq,not_false_eq_true,true_and,and_true,and_self,exists_eq_left,exists_eq_right,List.mem_cons,List.not_mem_nil,or_false,AObj.row.injEq,AObj.box.injEq,exists_eq_left',exists_and_left,exists_eq,Nat.zero_lt_one,Nat.lt_add_one,List.map_cons,List.map_nil,AObj.ver,xx5,not_true_eq_false]) trivial ?_
    simp only [Bz4j,Bz55,Bz54,decide_true,Bool.and_self,bne_self_eq_false,wpD_kp,yz18,go_sem,yz0,xx9,xx8,xx6,xx7,xx5,xx0,xx1,xx2,reduceIte,xx3,xx4,reduceCtorEq]
    rintro vs10 U10 - vs11 U11 -
    refine call_hav (k_markMachine n o ps_next ps_out hdj 1 (by omega) hdp_next hdp_out) ?_ ?_
    · simp only [coeHL_cons,coeHL_nil,coeH_val,coeH_st,and_true,true_and]
      refine ⟨?_,?_⟩ <;> exact coeH_own (nn:=true) qWS
    rintro x ⟨k2,rfl,hk2a,hk2b⟩
    have hkn2:¬ (k2<0):=by omega
    simp only [Bz53,cl_L,clT,clO,clV_any,clV_val,clV_own,clV_ptr,clV_st,clV_o,clL_ints,clL_rwo,clL_cons,clL_nil,clR_row,clR_box,clR_gone,decide_eq_false hkn2,wpD_kp,yz18,go_sem,yz0,xx9,xx8,xx6,xx7,xx5,xx0,xx1,xx2,reduceIte,xx3,xx4,reduceCtorEq]
    rintro vs12 U12 -
    refine yzv (k_eqInt64S [] []) (by simp only [List.map_nil,rowIs,boxIs,yz1f,yz13,yz1d,yz19,yz10,coe_any,coe_val,coe_ro,yzx,yzw,coe_st,yzy,coe_rp,yzz,coe_clo,yz1e,yz1a,yzu,yz1c,yz1b,L_hit,L_miss,L_nil,xx3,ne_eq,reduceCtorEq,not_false_eq_true,true_and,and_true,and_self,exists_eq_left,exists_eq_right,List.mem_cons,List.not_mem_nil,or_false,AObj.row.injEq,AObj.box.injEq,exists_eq_left',exists_and_left,exists_eq,Nat.zero_lt_one,Nat.lt_add_one,List.map_cons,List.map_nil,AObj.ver,xx5,not_true_eq_false]) trivial ?_
    simp only [Bz4k,Bz52,Bz51,decide_true,Bool.and_self,bne_self_eq_false,wpD_kp,yz18,go_sem,yz0,xx9,xx8,xx6,xx7,xx5,xx0,xx1,xx2,reduceIte,xx3,xx4,reduceCtorEq]
    rintro vs13 U13 - vs14 U14 -
    refine yzv (k_markNil 1) qCS trivial ?_
    simp only [Bz50,Bz4z,wpD_kp,yz18,go_sem,yz0,xx9,xx8,xx6,xx7,xx5,xx0,xx1,xx2,reduceIte,xx3,xx4,reduceCtorEq]
    rintro vs15 U15 - vs16 U16 -
    refine yzv k_heldNil qCS trivial ?_
    simp only [Bz4y,Bz4l,Bz4x,Bz4m,Bz4w,bne_self_eq_false,dec10,wpD_kp,yz18,go_sem,yz0,xx9,xx8,xx6,xx7,xx5,xx0,xx1,xx2,reduceIte,xx3,xx4,reduceCtorEq]
    rintro vs17 U17 - vs18 U18 - vs19 U19 -
    refine call_rows2 (k_toMachine n o next out hb_next hc_next hb_out hc_out) qCO rfl rfl ?_
    intro v8 v9
    try simp only [List.map_cons,List.map_nil,List.cons_append,List.nil_append,wpD_kp,yz18,go_sem,yz0,xx9,xx8,xx6,xx7,xx5,xx0,xx1,xx2,reduceIte,xx3,xx4,reduceCtorEq]
    refine call_rowT KI qCS rfl (fun h=>by cases h) (fun _=>?_)
    simp only [Bz4v,wpD_kp,yz18,go_sem,yz0,xx9,xx8,xx6,xx7,xx5,xx0,xx1,xx2,reduceIte,xx3,xx4,reduceCtorEq]
    rintro vs20 U20 -
    refine yzv (k_eqInt64S [] []) (by simp only [List.map_nil,rowIs,boxIs,yz1f,yz13,yz1d,yz19,yz10,coe_any,coe_val,coe_ro,yzx,yzw,coe_st,yzy,coe_rp,yzz,coe_clo,yz1e,yz1a,yzu,yz1c,yz1b,L_hit,L_miss,L_nil,xx3,ne_eq,reduceCtorEq,not_false_eq_true,true_and,and_true,and_self,exists_eq_left,exists_eq_right,List.mem_cons,List.not_mem_nil,or_false,AObj.row.injEq,AObj.box.injEq,exists_eq_left',exists_and_left,exists_eq,Nat.zero_lt_one,Nat.lt_add_one,List.map_cons,List.map_nil,AObj.ver,xx5,not_true_eq_false]) trivial ?_
    simp only [Bz4n,Bz4u,Bz4t,decide_true,Bool.and_self,bne_self_eq_false,wpD_kp,yz18,go_sem,yz0,xx9,xx8,xx6,xx7,xx5,xx0,xx1,xx2,reduceIte,xx3,xx4,reduceCtorEq]
    rintro vs21 U21 - vs22 U22 -
    refine yzv k_heldNil qCS trivial ?_
    simp only [Bz4s,Bz4o,Bz4r,Bz4p,Bz4q,bne_self_eq_false,dec10,wpD_kp,yz18,go_sem,yz0,xx9,xx8,xx6,xx7,xx5,xx0,xx1,xx2,reduceIte,xx3,xx4,reduceCtorEq]
    try simp
theorem k_FnExactTellingWord (n o:Int) (next out:List (List Int)):Fun Try.prog nz3f [.st [iv n,iv o,.ro (some (some 0)) 1 (rwo next),.ro (some (some 0)) 1 (rwo out)]] (bv true):=by
  obtain ⟨F,hF⟩:∃ F,machB n o next out=true→Enough n.toNat F:=by
    by_cases h:machB n o next out=true
    · obtain ⟨F,hF⟩:=enough_ex (n:=n.toNat) (by have:=(machB_iff.1 h).aut.n2;omega)
      exact ⟨F,fun _=>hF⟩
    · exact ⟨0,fun g=>absurd g h⟩
  refine law_TellingWord n o next out (machB n o next out && (!decide (n=1) && (qT (dbtT next out o true n F)).isSome)) _ ((qT (dbtT next out o true n F)).getD []) _ (k_specTellingWord n o next out F hF) (k_TellingWord n o next out F hF) (fun h=>?_) (fun h=>?_) (fun h=>?_)
  · simp only [Bool.and_eq_true,Bool.not_eq_true',decide_eq_false_iff_not] at h
    rw [if_pos h.1,if_neg h.2.1]
  · by_cases hm:machB n o next out=true
    · rw [if_pos hm]
      by_cases h1:n=1
      · rw [if_pos h1]
      · rw [if_neg h1]
        rw [hm,decide_eq_false h1] at h
        cases hq:qT (dbtT next out o true n F) with
        | none=>rfl
        | some w=>rw [hq] at h;cases h
    · rw [if_neg hm]
  · simp only [Bool.and_eq_true,Bool.not_eq_true',decide_eq_false_iff_not] at h
    have M:=machB_iff.1 h.1
    have n1:=M.aut.n1
    have hf:=hom_first M (by omega) (tl:=true) (hF h.1)
    cases hq:qT (dbtT next out o true n F) with
    | none=>simp
    | some w =>
      rw [hq] at hf
      have:=hf.2.2.2.1
      simp only [Option.getD_some];omega
end Go.Ab
namespace Go.Ab
open Go
variable {P:Program}
theorem arg_mach {t:TypeId} {A:AVal} {fs:Array Field} {f1 f2 f3 f4:Field} (h:P.underlying t=some (.struct fs)) (hfs:fs.toList=[f1,f2,f3,f4]) (ht1:P.underlying f1.type=some (.int .i64)) (ht2:P.underlying f2.type=some (.int .i64))
    {e f:TypeId} (h2:P.underlying f3.type=some (.slice e)) (h3:P.underlying f4.type=some (.slice e)) (h1:P.cellsOf e=1) (he:P.underlying e=some (.slice f)) (hf1:P.cellsOf f=1) (hf:P.underlying f=some (.int .i64))
    (hA:ArgShp P t A):∃ n o x y,A=.st [iv n,iv o,.ro (some (some 0)) 1 (rwo x),.ro (some (some 0)) 1 (rwo y)]:=by
  obtain ⟨As,rfl,hF⟩:=arg_struct h hA
  rw [hfs] at hF
  cases hF with
  | cons hA1 hF =>
    cases hF with
    | cons hA2 hF =>
      cases hF with
      | cons hA3 hF =>
        cases hF with
        | cons hA4 hF =>
          cases hF
          obtain ⟨n,rfl⟩:=shp_int ht1 hA1
          obtain ⟨o,rfl⟩:=shp_int ht2 hA2
          obtain ⟨x,rfl⟩:=shp_rows h2 h1 he hf1 hf hA3
          obtain ⟨y,rfl⟩:=shp_rows h3 h1 he hf1 hf hA4
          exact ⟨n,o,x,y,rfl⟩
end Go.Ab
