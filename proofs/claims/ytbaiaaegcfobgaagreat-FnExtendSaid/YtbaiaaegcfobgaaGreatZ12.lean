/- Contracts and what they lean on, part 12. Conditions: none. -/
import Derived.Test.YtbaiaaegcfobgaaGreatZ11
set_option maxRecDepth 100000
set_option maxHeartbeats 4000000
set_option linter.all false
open Nat renaming reduceLeDiff → J0, reduceMul → J1, reduceSub → J2, reduceEqDiff → J3, reduceAdd → J4, reduceLT → J5
open Int renaming reduceToNat → J6, reduceNeg → J7, reduceLE → J8, reduceLT → J9
open List renaming getD_eq_getElem?_getD → Y0, map_cons → Y1, getElem?_eq_getElem → Y2, mem_map → Y3, mem_append → Y4, length_append → Y5, length_map → Y6, length_singleton → Y7, mem_cons → Y8, mem_singleton → Y9, range → Ya, map_nil → Yb, map_append → Yc, getElem?_map → Yd, length_cons → Ye, length → Yf, map_congr_left → Yg, eq_nil_of_length_eq_zero → Yh, not_mem_nil → Yi, map_map → Yj, length_take → Yk, replicate → Yl, mem_range → Ym, getElem?_eq_some_iff → Yn, all_eq_true → Yo, length_drop → Yp, getElem_map → Yq, getElem?_take → Yr, foldl_cons → Ys, mem_cons_of_mem → Yt, cons_append → Yu, getElem?_append_right → Yv, mem_of_getElem? → Yw, pairwise_cons → Yx, getElem_mem → Yy, mem_flatMap → Yz, getElem?_append_left → Y10, take_length → Y11, pairwise_append → Y12, append_assoc → Y13, drop_length → Y14, getElem?_drop → Y15, nodup_cons → Y16, length_nil → Y17, ext_getElem → Y18, nodup_append → Y19, take_succ_eq_append_getElem → Y1a, getElem_of_mem → Y1b, getElem?_eq_none → Y1c, mem_of_mem_take → Y1d, contains_iff_mem → Y1e, filter_cons_of_pos → Y1f, pairwise_iff_getElem → Y1g
open Nat renaming le_refl → Y1h, lt_of_lt_of_le → Y1i, zero_le → Y1j, pow_le_pow_right → Y1k, sub_self → Y1l, le_trans → Y1m, add_mul → Y1n, zero_add → Y1o, add_zero → Y1p, mul_le_mul_right → Y1q, two_pow_pos → Y1r, shiftRight_eq_div_pow → Y1s
open Int renaming toNat_natCast → Y1t, le_refl → Y1u
open Option renaming isSome_some → Y1v, map_eq_some_iff → Y1w, getD_some → Y1x, isSome_iff_exists → Y1y, map_some → Y1z
open Bool renaming and_eq_true → Y20, not_true → Y21, or_eq_true → Y22, false_eq_true → Y23, not_eq_true' → Y24
open Array renaming length_toList → Y25, getElem?_toList → Y26, getElem?_eq_getElem → Y27, getD_eq_getD_getElem? → Y28, getElem?_append_left → Y29
namespace Go.Ab
open Go Go.Proofs
def bkW (n:Int) (next:List (List Int)) (set w:List Int):Nat:=maskN (preA next set w n.toNat)
theorem yz91 {n:Int} {next:List (List Int)} {set w:List Int} (n2:n≤10):bitsTo (bkW n next set w) 10=preA next set w n.toNat:=(yz2w n2 yz21).2
theorem yzff {n:Int} {next:List (List Int)} {set:List Int} (hs:setB n set=true):bkW n next set []=maskN set:=by
 have h:=setB_iff.1 hs
 have h2:=setB_iff.1 (yz21 (n:=n) (next:=next) (set:=set) (w:=[]))
 unfold bkW
 congr 1
 refine yz8i h2.1 h.1 fun x=>?_
 rw [preA_mem]
 show _∧x∈set↔_
 constructor
 ·exact fun h=>h.2
 ·intro hx;have:=h.2 x hx;exact ⟨by omega,hx⟩
theorem yzf6 {n:Int} {next:List (List Int)} (A:Aut n next) {set w:List Int} {x:Nat} (hx:x<next.length):bkA n next x (bkW n next set w)=bkW n next set ((x:Int) :: w):=by
 have n1:=A.n1
 unfold bkA
 rw [yz91 A.n2]
 unfold bkW
 congr 1
 refine yz8i (setB_iff.1 yz21).1 (setB_iff.1 yz21).1 fun s=>?_
 rw [preA_mem,preA_mem,preA_mem]
 have e:atA next s ((x:Int) :: w)=atA next (atA next s [(x:Int)]) w:=yzd6 (u:=[(x:Int)]) (v:=w)
 rw [e]
 constructor
 ·rintro ⟨h1,h2,h3⟩;exact ⟨h1,h3⟩
 ·rintro ⟨h1,h3⟩
  have h2:=A.at (s:=s) (w:=[(x:Int)]) (by omega) (fun y hy=>by obtain rfl:=Y9.1 hy;omega)
  exact ⟨h1,by omega,h3⟩
theorem yza8 {hv:Nat→Bool} {L:List (Nat×List Int)} (h:bestL hv L=none) {p:Nat×List Int} (hp:p∈L):hv p.1=false:=by
 have hi:=bestL_is (hv:=hv) (L:=L)
 rw [h] at hi
 cases hh:hv p.1 with
 | false=>rfl
 | true=>exact absurd ⟨p,hp,hh,rfl⟩ (hi p.2)
theorem yzbd {n:Int} {next:List (List Int)} (A:Aut n next) {set:List Int} {hv:Nat→Bool}:∀ (f:Nat) (seen:Nat→Bool) (L:List (Nat×List Int)) (w:List Int),
  (∀ p∈L,p.1=bkW n next set p.2∧IsW next.length p.2∧(p.2=[]∨∃ x w',p.2=x :: w'∧hv (bkW n next set w')=false))→extR (bkA n next) next.length hv f seen L=some w →
   hv (bkW n next set w)=true∧IsW next.length w∧(w=[]∨∃ x w',w=x :: w'∧hv (bkW n next set w')=false)
 | 0,_,_,_,_,h=>by cases h
 | f+1,_,[],_,_,h=>by cases h
 | f+1,seen,p :: L,w,hL,h=>by
  simp only [extR] at h
  cases hb:bestL hv (p :: L) with
  | some w2 =>
   rw [hb] at h
   simp only [Option.some.injEq] at h
   subst h
   have hi:=bestL_is (hv:=hv) (L:=p :: L)
   rw [hb] at hi
   obtain ⟨q,hq,hh,rfl⟩:=hi.1
   obtain ⟨h1,h2,h3⟩:=hL q hq
   exact ⟨by rw [← h1];exact hh,h2,h3⟩
  | none =>
   rw [hb] at h
   refine yzbd A f _ _ w (fun q hq=>?_) h
   obtain ⟨h1,_,_⟩:=(yz26 (bk:=bkA n next) (K:=next.length) (seen:=seen) (L:=p :: L)).sub q hq
   obtain ⟨r,hr,x,hx,rfl⟩:=candL_mem.1 h1
   obtain ⟨g1,g2,g3⟩:=hL r hr
   refine ⟨by show bkA n next x r.1=_;rw [g1];exact yzf6 A hx,fun y hy=>?_,.inr ⟨_,_,rfl,by rw [← g1];exact yza8 hb hr⟩⟩
   rcases Y8.1 hy with rfl | hy
   ·omega
   ·exact g2 y hy
theorem yzbc {n:Int} {next:List (List Int)} {hv:Nat→Bool} {M:Nat} (hM:∀ x f,bkA n next x f<M):∀ (f:Nat) (seen:Nat→Bool) (L:List (Nat×List Int)),(L≠[]→freeN seen M<f) →
  (∀ k,seen k=true→hv k=false∨k∈L.map (·.1))→(∀ k,seen k=true→k∈L.map (·.1)∨∀ x<next.length,seen (bkA n next x k)=true) →
  extR (bkA n next) next.length hv f seen L=none→∃ S:Nat→Bool,(∀ k,seen k=true→S k=true)∧(∀ k,S k=true→hv k=false)∧∀ k,S k=true→∀ x<next.length,S (bkA n next x k)=true
 | 0,seen,L,hf,h1,h2,_=>by
  cases L with
  | nil=>exact ⟨seen,fun _ h=>h,fun k hk=>(h1 k hk).resolve_right (by simp),fun k hk=>(h2 k hk).resolve_left (by simp)⟩
  | cons p L=>have:=hf (by simp);omega
 | f+1,seen,[],hf,h1,h2,_=>⟨seen,fun _ h=>h,fun k hk=>(h1 k hk).resolve_right (by simp),fun k hk=>(h2 k hk).resolve_left (by simp)⟩
 | f+1,seen,p :: L,hf,h1,h2,h=>by
  simp only [extR] at h
  cases hb:bestL hv (p :: L) with
  | some w2=>rw [hb] at h;cases h
  | none =>
   rw [hb] at h
   have hN:=yz26 (bk:=bkA n next) (K:=next.length) (seen:=seen) (L:=p :: L)
   have hfr:=hf (by simp)
   have hlight:∀ k,k∈(p :: L).map (·.1)→hv k=false:=fun k hk=>by
    obtain ⟨q,hq,rfl⟩:=Y3.1 hk
    exact yza8 hb hq
   have hs:∀ k,seeL seen (nextL (bkA n next) next.length seen (p :: L)) k=true↔seen k=true∨k∈(nextL (bkA n next) next.length seen (p :: L)).map (·.1):=fun k=>by
    unfold seeL
    rw [Y22,Y1e]
   have q1:∀ k,seeL seen (nextL (bkA n next) next.length seen (p :: L)) k=true→hv k=false∨k∈(nextL (bkA n next) next.length seen (p :: L)).map (·.1):=fun k hk=>by
    rcases (hs k).1 hk with hk | hk
    ·rcases h1 k hk with h9 | h9
     ·exact .inl h9
     ·exact .inl (hlight k h9)
    ·exact .inr hk
   have q2:∀ k,seeL seen (nextL (bkA n next) next.length seen (p :: L)) k=true→k∈(nextL (bkA n next) next.length seen (p :: L)).map (·.1)∨∀ x<next.length,seeL seen (nextL (bkA n next) next.length seen (p :: L)) (bkA n next x k)=true:=fun k hk=>by
    rcases (hs k).1 hk with hk | hk
    ·right
     intro x hx
     rcases h2 k hk with h9 | h9
     ·obtain ⟨q,hq,rfl⟩:=Y3.1 h9
      cases hh:seen (bkA n next x q.1) with
      | true=>exact (hs _).2 (.inl hh)
      | false=>exact (hs _).2 (.inr (hN.all (bkA n next x q.1,(x:Int) :: q.2) (candL_mem.2 ⟨q,hq,x,hx,rfl⟩) hh))
     ·exact (hs _).2 (.inl (h9 x hx))
    ·exact .inl hk
   obtain ⟨S,g1,g2,g3⟩:=yzbc hM f _ _ (fun hn=>by
    have:=yz6a (bk:=bkA n next) (K:=next.length) (seen:=seen) (L:=p :: L) hM hn
    omega) q1 q2 h
   exact ⟨S,fun k hk=>g1 k ((hs k).2 (.inl hk)),g2,g3⟩
theorem extV_some {n:Int} {next:List (List Int)} (A:Aut n next) {set w:List Int} (hs:setB n set=true) (h:extV n next set=some w) :
  hvB n next set (bkW n next set w)=true∧IsW next.length w∧∃ x w',w=x :: w'∧hvB n next set (bkW n next set w')=false:=by
 obtain ⟨h1,h2,h3⟩:=yzbd A (set:=set) _ _ _ _ (fun p hp=>by
  obtain rfl:=Y9.1 hp
  exact ⟨(yzff hs).symm,(fun x hx=>by cases hx),.inl rfl⟩) h
 refine ⟨h1,h2,h3.resolve_left fun e=>?_⟩
 subst e
 rw [yzff hs] at h1
 unfold hvB at h1
 rw [(yz2w A.n2 hs).2] at h1
 exact absurd (of_decide_eq_true h1) (Int.lt_irrefl _)
theorem extV_none {n:Int} {next:List (List Int)} (A:Aut n next) {set:List Int} (hs:setB n set=true) (h:extV n next set=none):∀ w,IsW next.length w→hvB n next set (bkW n next set w)=false:=by
 have n2:=A.n2
 have hN:2 ^ n.toNat≤1024:=Y1k (n:=2) (by omega) (show n.toNat≤10 by omega)
 have hfr:=yz8r (seen:=fun k=>k == maskN set) (M:=2 ^ n.toNat)
 obtain ⟨S,g1,g2,g3⟩:=yzbc (hv:=hvB n next set) (M:=2 ^ n.toNat) (fun x f=>yz3j) 1026 (fun k=>k == maskN set) [(maskN set,[])] (fun _=>by omega) (fun k hk=>.inr (by simpa using hk)) (fun k hk=>.inl (by simpa using hk)) h
 have key:∀ w,IsW next.length w→S (bkW n next set w)=true:=by
  intro w
  induction w with
  | nil=>intro _;rw [yzff hs];exact g1 _ (by simp)
  | cons x w ih =>
   intro hw
   have hx:=hw x (by simp)
   have e:bkW n next set (x :: w)=bkA n next x.toNat (bkW n next set w):=by
    rw [yzf6 A (by omega),show ((x.toNat:Nat):Int)=x by omega]
   rw [e]
   exact g3 _ (ih fun y hy=>hw y (by simp [hy])) _ (by omega)
 exact fun w hw=>g2 _ (key w hw)
theorem yzak {n:Int} {next:List (List Int)} {hv:Nat→Bool} {M D:Nat} (hM:∀ x f,bkA n next x f<M):∀ (f:Nat) (seen:Nat→Bool) (L:List (Nat×List Int)) (w:List Int),(∀ p∈L,p.2.length+freeN seen M≤D)→extR (bkA n next) next.length hv f seen L=some w→w.length≤D
 | 0,_,_,_,_,h=>by cases h
 | f+1,_,[],_,_,h=>by cases h
 | f+1,seen,p :: L,w,hL,h=>by
  simp only [extR] at h
  cases hb:bestL hv (p :: L) with
  | some w2 =>
   rw [hb] at h
   simp only [Option.some.injEq] at h
   subst h
   have hi:=bestL_is (hv:=hv) (L:=p :: L)
   rw [hb] at hi
   obtain ⟨q,hq,_,rfl⟩:=hi.1
   have:=hL q hq;omega
  | none =>
   rw [hb] at h
   refine yzak hM f _ _ w (fun q hq=>?_) h
   have hn:nextL (bkA n next) next.length seen (p :: L)≠[]:=fun e=>by rw [e] at hq;cases hq
   have h3:=yz6a (bk:=bkA n next) (K:=next.length) (seen:=seen) (L:=p :: L) hM hn
   obtain ⟨h1,_,_⟩:=(yz26 (bk:=bkA n next) (K:=next.length) (seen:=seen) (L:=p :: L)).sub q hq
   obtain ⟨r,hr,x,hx,rfl⟩:=candL_mem.1 h1
   have:=hL r hr
   show r.2.length+1+_≤D
   omega
theorem extV_len {n:Int} {next:List (List Int)} {set w:List Int} (h:extV n next set=some w):w.length≤2 ^ n.toNat :=
 yzak (M:=2 ^ n.toNat) (fun x f=>yz3j) 1026 (fun k=>k == maskN set) [(maskN set,[])] w (fun p hp=>by
  obtain rfl:=Y9.1 hp
  have:=yz8r (seen:=fun k=>k == maskN set) (M:=2 ^ n.toNat)
  show 0+_≤_
  omega) h
theorem yzfi {f:Int→Int} {p:Int→Bool}:∀ {l:List Int},(∀ x∈l,0<f x)→((l.filter p).map f).sum≤(l.map f).sum∧((∃ x∈l,p x=false)→((l.filter p).map f).sum<(l.map f).sum)
 | [],_=>⟨by simp,fun ⟨x,hx,_⟩=>by cases hx⟩
 | a :: l,h=>by
  obtain ⟨h1,h2⟩:=yzfi (f:=f) (p:=p) (l:=l) fun x hx=>h x (by simp [hx])
  have ha:=h a (by simp)
  cases hp:p a with
  | true =>
   rw [Y1f hp,Y1,List.sum_cons,Y1,List.sum_cons]
   refine ⟨by omega,fun ⟨x,hx,e⟩=>?_⟩
   rcases Y8.1 hx with rfl | hx
   ·rw [hp] at e;cases e
   ·have:=h2 ⟨x,hx,e⟩;omega
  | false =>
   rw [List.filter_cons_of_neg (by simp [hp]),Y1,List.sum_cons]
   exact ⟨by omega,fun _=>by omega⟩
theorem wgh_pos {n:Int} {next:List (List Int)} (A:Aut n next) (hc:conB n next=true) {s:Nat} (hs:s<n.toNat):0<(wghL n next).getD s 0:=by
 unfold wghL
 rw [Y0,Yd,List.getElem?_range hs]
 show 0<(minW n next s).tdiv (gcdW n next n.toNat)
 have h1:=yz47 A hc hs
 have h2:=yz5w A hc n.toNat (Y1h _)
 have hd:∀ k,s<k→gcdW n next k ∣ minW n next s:=by
  intro k
  induction k with
  | zero=>intro h;omega
  | succ k ih =>
   intro h
   show (Int.gcd (gcdW n next k) (minW n next k):Int) ∣ _
   by_cases e:s=k
   ·subst e;exact Int.gcd_dvd_right ..
   ·exact Int.dvd_trans (Int.gcd_dvd_left ..) (ih (by omega))
 have hd2:=hd n.toNat hs
 have hle:=Int.le_of_dvd h1.1 hd2
 rw [Int.tdiv_eq_ediv_of_nonneg (by omega)]
 have hpos:=h2.2.2 (by omega)
 have h9:=Int.ediv_mul_cancel hd2
 refine Int.lt_of_not_ge fun hneg=>?_
 have:minW n next s / gcdW n next n.toNat * gcdW n next n.toNat≤0:=Int.mul_nonpos_of_nonpos_of_nonneg hneg (by omega)
 omega
theorem hvy_all {n:Int} {next:List (List Int)} (A:Aut n next) (hc:conB n next=true) {set:List Int} (hs:setB n set=true) (hne:(set.length:Int)≠n):hvy (wghL n next) set<hvy (wghL n next) (allS n):=by
 have n1:=A.n1
 have h:=setB_iff.1 hs
 have hall:SI (allS n):=by
  unfold SI allS
  rw [List.pairwise_map]
  exact List.pairwise_lt_range.imp fun h=>by omega
 have hmem:∀ x:Int,x∈allS n↔0≤x∧x<n:=fun x=>by
  simp only [allS,Y3,Ym]
  constructor
  ·rintro ⟨k,hk,rfl⟩;omega
  ·rintro ⟨h1,h2⟩;exact ⟨x.toNat,by omega,by omega⟩
 have hfil:(allS n).filter (fun x=>set.contains x)=set:=by
  refine yz8i (List.Pairwise.filter _ hall) h.1 fun x=>?_
  rw [List.mem_filter,hmem,Y1e]
  exact ⟨fun h=>h.2,fun hx=>⟨by have:=h.2 x hx;omega,hx⟩⟩
 have hmiss:∃ x∈allS n,set.contains x=false:=by
  refine Classical.byContradiction fun hno=>hne ?_
  have:set=allS n:=by
   refine yz8i h.1 hall fun x=>⟨fun hx=>(hmem x).2 (by have:=h.2 x hx;omega),fun hx=>?_⟩
   cases hcx:set.contains x with
   | true=>exact Y1e.1 hcx
   | false=>exact absurd ⟨x,hx,hcx⟩ hno
  rw [this]
  simp [allS];omega
 have h2:=(yzfi (f:=fun s=>(wghL n next).getD s.toNat 0) (p:=fun x=>set.contains x) (l:=allS n) fun x hx=>wgh_pos A hc (by have:=(hmem x).1 hx;omega)).2 hmiss
 rw [hfil] at h2
 exact h2
theorem way_word {n:Int} {next:List (List Int)} (A:Aut n next) {s t:Nat} (h:WayE (eN next) next.length s t):s<n.toNat→∃ w,IsW next.length w∧atA next s w=(t:Int):=by
 induction h with
 | here=>intro _;exact ⟨[],(fun x hx=>by cases hx),rfl⟩
 | @go s t x hx _ ih =>
  intro hs
  obtain ⟨w,h1,h2⟩:=ih (eN_lt A hx hs)
  refine ⟨(x:Int) :: w,fun y hy=>?_,?_⟩
  ·rcases Y8.1 hy with rfl | hy
   ·omega
   ·exact h1 y hy
  ·have e:atA next (s:Int) ((x:Int) :: w)=atA next (atA next (s:Int) [(x:Int)]) w:=yzd6 (u:=[(x:Int)]) (v:=w)
   have h3:=A.at (s:=(s:Int)) (w:=[(x:Int)]) (by omega) (fun y hy=>by obtain rfl:=Y9.1 hy;omega)
   have e2:atA next (s:Int) [(x:Int)]=((eN next x s:Nat):Int):=by
    have e3:atA next (s:Int) [(x:Int)]=(next.getD x []).getD s 0:=by simp [atA,stepA]
    rw [e3] at h3 ⊢
    unfold eN;omega
   rw [e,e2,h2]
theorem ext_can {n:Int} {next:List (List Int)} (A:Aut n next) (hc:conB n next=true) {set:List Int} (hs:setB n set=true) (hr:CanR n next) (h0:set≠[]) (hne:(set.length:Int)≠n):extV n next set≠none:=by
 intro hno
 have n1:=A.n1
 obtain ⟨w0,hw0,hall⟩:=hr
 obtain ⟨t,ht⟩:=List.exists_mem_of_ne_nil _ h0
 have htn:=(setB_iff.1 hs).2 t ht
 have hz:=A.at (s:=0) (w:=w0) (by omega) hw0
 obtain ⟨w1,hw1,h1⟩:=way_word A (way_of A hc (s:=(atA next 0 w0).toNat) (t:=t.toNat) (by omega) (by omega)) (by omega)
 rw [show (((atA next 0 w0).toNat:Nat):Int)=atA next 0 w0 by omega,show ((t.toNat:Nat):Int)=t by omega] at h1
 have hw:IsW next.length (w0 ++ w1):=fun y hy=>by
  rcases Y4.1 hy with hy | hy
  ·exact hw0 y hy
  ·exact hw1 y hy
 have hn:=extV_none A hs hno (w0 ++ w1) hw
 unfold hvB at hn
 rw [yz91 A.n2] at hn
 have hP:preA next set (w0 ++ w1) n.toNat=allS n:=by
  unfold preA allS
  refine List.filter_eq_self.2 fun s hs=>?_
  obtain ⟨k,hk,rfl⟩:=Y3.1 hs
  have hk:=Ym.1 hk
  rw [yzd6,hall (k:Int) 0 (by omega) (by omega),h1,Y1e]
  exact ht
 rw [hP] at hn
 exact absurd (hvy_all A hc hs hne) (of_decide_eq_false hn)
end Go.Ab
namespace Go.Ab
structure ClS (n:Int) (next:List (List Int)) (set:List Int):Prop where
 rg:∀ x∈set,0≤x∧x<n
 cl:∀ x∈set,∀ row∈next,row.getD x.toNat 0∈set
theorem renR_len {set row:List Int}:(renR set row).length=set.length:=by simp [renR]
theorem Aut.rest {n:Int} {next:List (List Int)} {set:List Int} (A:Aut n next) (C:ClS n next set) (h0:1≤set.length) (h1:set.length≤10):Aut set.length (next.map (renR set)):=by
 have l1:=A.l1
 have l2:=A.l2
 refine ⟨by omega,by omega,by rw [Y6];omega,by rw [Y6];omega,?_⟩
 intro row hr
 obtain ⟨row,hr',rfl⟩:=Y3.1 hr
 refine ⟨by rw [renR_len],fun x hx=>?_⟩
 obtain ⟨s,hs,rfl⟩:=Y3.1 hx
 obtain ⟨i,h1,h2,h3⟩:=fidx_eq 0 (C.cl s hs row hr')
 simp only [h1,Y1o]
 omega
end Go.Ab
namespace Go.Ab
open Go.Proofs
theorem yzdc (code more:List Int) (hb:∀ x∈code,0≤x∧x≤255) (hb2:∀ x∈more,0≤x∧x≤255) :
  Fun Tryz.prog nzca [.ro (some (some 0)) 1 (intsK .u8 code),.ro (some (some 0)) 1 (intsK .u8 more)] (bv true):=by
 refine yzd mixed czrf rfl ⟨rfl,trivial⟩ ?_
 simp only [Azco,Bzcn,go_sem,yz0,J9,J8,J6,J7,J5,J0,J1,J2,reduceIte,J3,J4,reduceCtorEq]
 intro vs
 refine yz5 (k_a2Long code more) qCS trivial ?_
 simp only [Bzcb,Bzcm,go_sem,yz0,J9,J8,J6,J7,J5,J0,J1,J2,reduceIte,J3,J4,reduceCtorEq]
 intro _ vs2
 refine yz4o (yz7k code hb) qCS (fun e=>by cases e) ?_
 rintro outs rows res ⟨rfl,n,next,v,A,n7,rfl,rfl⟩
 refine ⟨rfl,by simp,by rw [Y1x,yzw];simp only [go_sem,yz0,J9,J8,J6,J7,J5,J0,J1,J2,reduceIte,J3,J4,reduceCtorEq],?_⟩
 have n1:=A.n1
 have n2:=A.n2
 simp only [Bzcl,rsA,AVal.fresh,freshL,AObj.fresh,id,Y1v,go_sem,yz0,J9,J8,J6,J7,J5,J0,J1,J2,reduceIte,J3,J4,reduceCtorEq]
 intro vs3
 refine yzm (k_A2Set more n next hb2 (by omega)) qCS qWS ⟨[],by simp [setB,allIn,SI]⟩ ?_
 rintro set v8 hset
 have hv:=autB_iff.2 A
 have hKS:=yz4s n next set
 have hKI:=yz9e n next set
 simp only [Bzck,go_sem,yz0,J9,J8,J6,J7,J5,J0,J1,J2,reduceIte,J3,J4,reduceCtorEq]
 intro vs4
 cases hc:conB n next with
 | false =>
  have h4:codeW n next set=4:=by simp [codeW,hv,hset,hc]
  have h5:codeX n next set=4:=by unfold codeX;rw [h4];rfl
  have h6:wordX n next set=[]:=by unfold wordX;rw [h4];rfl
  rw [h5,h6] at hKS hKI
  refine yz4u hKS qCS qWS fun v9=>?_
  simp only [Bz2f,go_sem,yz0,J9,J8,J6,J7,J5,J0,J1,J2,reduceIte,J3,J4,reduceCtorEq]
  intro vs5
  refine yz2y hKI qCS qWS (fun h=>by cases h) (fun _=>?_)
  have e1:((4:Int) != 4)=false:=rfl
  have e2:((4:Int) == 4)=true:=rfl
  simp only [Bz2e,Bz2b,Bz2d,Bz2c,e1,e2,go_sem,yz0,J9,J8,J6,J7,J5,J0,J1,J2,reduceIte,J3,J4,reduceCtorEq]
 | true =>
  have h4:codeW n next set=0:=codeW_ok.2 ⟨hv,hset,hc⟩
  cases he:extV n next set with
  | none =>
   have h5:codeX n next set=6:=by unfold codeX;rw [if_pos h4,he];rfl
   have h6:wordX n next set=[]:=by unfold wordX;rw [if_pos h4,he];rfl
   rw [h5,h6] at hKS hKI
   refine yz4u hKS qCS qWS fun v9=>?_
   simp only [Bz2f,go_sem,yz0,J9,J8,J6,J7,J5,J0,J1,J2,reduceIte,J3,J4,reduceCtorEq]
   intro vs5
   refine yz2y hKI qCS qWS (fun h=>by cases h) (fun _=>?_)
   have e1:((6:Int) != 6)=false:=rfl
   have e2:((6:Int) == 4)=false:=rfl
   simp only [Bz2e,Bz2b,Bz2d,Bz2c,Bz6g,e1,e2,go_sem,yz0,J9,J8,J6,J7,J5,J0,J1,J2,reduceIte,J3,J4,reduceCtorEq]
   intro vs6
   refine yz5 (yz7j n next A) qCS (by simp [AVal.plain]) ?_
   have e00:((0:Int) != 0)=false:=rfl
   have e60:((6:Int) != 0)=true:=rfl
   simp only [Bz6f,Bz6c,Bz6e,Bz6d,e00,e60,go_sem,yz0,J9,J8,J6,J7,J5,J0,J1,J2,reduceIte,J3,J4,reduceCtorEq]
   cases hcr:(firstT (tourT next (2 ^ n.toNat - 1))).isSome with
   | false =>
    simp only [Bool.not_false,go_sem,yz0,J9,J8,J6,J7,J5,J0,J1,J2,reduceIte,J3,J4,reduceCtorEq]
   | true =>
    have hr:=(tour_can A).1 hcr
    by_cases h0:set=[]
    ·subst h0
     have e0:(((0:Nat):Int) == 0)=true:=rfl
     simp only [Y21,Y17,e0,go_sem,yz0,J9,J8,J6,J7,J5,J0,J1,J2,reduceIte,J3,J4,reduceCtorEq]
     try (intros;trivial)
    ·have hl:(set.length:Int)=n:=Classical.byContradiction fun hne=>ext_can A hc hset hr h0 hne he
     have hl0:((set.length:Int) == 0)=false:=by rw [beq_eq_false_iff_ne];omega
     have hln:((set.length:Int) == n)=true:=by rw [beq_iff_eq];exact hl
     simp only [Y21,hl0,hln,go_sem,yz0,J9,J8,J6,J7,J5,J0,J1,J2,reduceIte,J3,J4,reduceCtorEq]
     try (intros;trivial)
  | some w =>
   have h5:codeX n next set=0:=by unfold codeX;rw [if_pos h4,he];rfl
   have h6:wordX n next set=w:=by unfold wordX;rw [if_pos h4,he];rfl
   rw [h5,h6] at hKS hKI
   refine yz4u hKS qCS qWS fun v9=>?_
   simp only [Bz2f,go_sem,yz0,J9,J8,J6,J7,J5,J0,J1,J2,reduceIte,J3,J4,reduceCtorEq]
   intro vs5
   refine yz2y hKI qCS qWS (fun _ v10=>?_) (fun h=>by cases h)
   have e1:((0:Int) != 0)=false:=rfl
   have e2:((0:Int) == 4)=false:=rfl
   simp only [Bz2e,Bz2b,Bz2d,Bz2c,Bz6g,e1,e2,go_sem,yz0,J9,J8,J6,J7,J5,J0,J1,J2,reduceIte,J3,J4,reduceCtorEq]
   intro vs6
   refine yz5 (yz7j n next A) qCS (by simp [AVal.plain]) ?_
   have e00:((0:Int) != 0)=false:=rfl
   obtain ⟨q1,q2,x,w',rfl,q3⟩:=extV_some A hset he
   have hwl:=extV_len he
   have h128:2 ^ n.toNat≤128:=Y1k (n:=2) (by omega) (show n.toNat≤7 by omega)
   rw [Ye] at hwl
   have hw2:IsW next.length w':=fun y hy=>q2 y (by simp [hy])
   have hwB:wordB next.length (x :: w')=true:=wordB_iff.2 ⟨by rw [Ye];omega,q2⟩
   have hwB2:wordB next.length w'=true:=wordB_iff.2 ⟨by omega,hw2⟩
   have hP:=yz49 n next set (x :: w')
   have hP2:=yz49 n next set w'
   rw [hv,hset,hwB] at hP
   rw [hv,hset,hwB2] at hP2
   have hWS:=yz2d n next set
   have hWB:=yz2d n next (preA next set (x :: w') n.toNat)
   have hWP:=yz2d n next (preA next set w' n.toNat)
   have hsB:setB n (preA next set (x :: w') n.toNat)=true:=yz21
   have hsP:setB n (preA next set w' n.toNat)=true:=yz21
   rw [h4,show wosV n next set=hvy (wghL n next) set by simp [wosV,hv,hset,hc]] at hWS
   rw [show codeW n next (preA next set (x :: w') n.toNat)=0 from codeW_ok.2 ⟨hv,hsB,hc⟩,show wosV n next (preA next set (x :: w') n.toNat)=hvy (wghL n next) (preA next set (x :: w') n.toNat) by simp [wosV,hv,hsB,hc]] at hWB
   rw [show codeW n next (preA next set w' n.toNat)=0 from codeW_ok.2 ⟨hv,hsP,hc⟩,show wosV n next (preA next set w' n.toNat)=hvy (wghL n next) (preA next set w' n.toNat) by simp [wosV,hv,hsP,hc]] at hWP
   unfold hvB at q1 q3
   rw [yz91 n2] at q1 q3
   have q1:=of_decide_eq_true q1
   have q3:=of_decide_eq_false q3
   generalize hvy (wghL n next) (preA next set (x :: w') n.toNat)=gb at q1 hWB
   generalize hvy (wghL n next) (preA next set w' n.toNat)=gp at q3 hWP
   generalize hvy (wghL n next) set=gs at q1 q3 hWS
   have hpl:=yz8z (next:=next) (set:=set) (w:=x :: w') (i:=n.toNat)
   have hpl2:=yz8z (next:=next) (set:=set) (w:=w') (i:=n.toNat)
   generalize preA next set (x :: w') n.toNat=pb at hP hWB hpl
   generalize preA next set w' n.toNat=pp at hP2 hWP hpl2
   simp only [Bz6f,Bz6c,Bz6e,Bz6d,Bzcj,e00,go_sem,yz0,J9,J8,J6,J7,J5,J0,J1,J2,reduceIte,J3,J4,reduceCtorEq]
   intro vs7
   refine yz2y hP qCS qWS (fun _ v11=>?_) (fun h=>by cases h)
   simp only [Bzci,codeI,if_true,Bool.and_self,go_sem,yz0,J9,J8,J6,J7,J5,J0,J1,J2,reduceIte,J3,J4,reduceCtorEq]
   intro vs8
   refine yz6t hWS qCS ?_
   simp only [Bzch,go_sem,yz0,J9,J8,J6,J7,J5,J0,J1,J2,reduceIte,J3,J4,reduceCtorEq]
   intro vs9
   refine yz6t hWB qCS ?_
   have d1:decide (gb≤gs)=false:=decide_eq_false (by omega)
   have d2:decide (((w'.length+1:Nat):Int)<1)=false:=decide_eq_false (by omega)
   simp only [Bzcg,Bzcc,Bzcf,e00,d1,d2,Ye,yzr,go_sem,yz0,J9,J8,J6,J7,J5,J0,J1,J2,reduceIte,J3,J4,reduceCtorEq]
   intro _ hD
   refine ⟨[.tf 9 40],gwp_tf (k:=1) rfl rfl ?_⟩
   rw [frNm_tX]
   have l1:Int.toNat 1=1:=rfl
   have l2:(0:Int)≤1:=by decide
   simp only [yzh,St.bound,l1,l2,if_true,go_sem,yz0,J9,J8,J6,J7,J5,J0,J1,J2,reduceIte,J3,J4,reduceCtorEq]
   intro vs10
   refine ⟨Y1h _,?_⟩
   rw [show List.take w'.length (ints w')=ints w' from List.take_of_length_le (by simp [ints,intsK])]
   refine yz2y hP2 qCS qWS (fun _ v12=>?_) (fun h=>by cases h)
   simp only [Bzce,codeI,if_true,Bool.and_self,go_sem,yz0,J9,J8,J6,J7,J5,J0,J1,J2,reduceIte,J3,J4,reduceCtorEq]
   intro vs11
   refine yz6t hWP qCS ?_
   have d3:decide (gp≤gs)=true:=decide_eq_true (by omega)
   simp only [Bzcd,d3,go_sem,yz0,J9,J8,J6,J7,J5,J0,J1,J2,reduceIte,J3,J4,reduceCtorEq]
   try (intros;trivial)
end Go.Ab
