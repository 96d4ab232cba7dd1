/- Contracts and what they lean on, part 10. Conditions: none. -/
import Derived.Tactics
import Derived.Tactics2
import Derived.Test.YtbaiaaegcfobgaaGreatZ9
set_option maxRecDepth 100000
set_option maxHeartbeats 4000000
set_option linter.all false
open Nat renaming reduceLeDiff → J0, reduceMul → J1, reduceSub → J2, reduceEqDiff → J3, reduceAdd → J4, reduceLT → J5
open Int renaming reduceToNat → J6, reduceNeg → J7, reduceLE → J8, reduceLT → J9
open List renaming getD_eq_getElem?_getD → Y0, map_cons → Y1, getElem?_eq_getElem → Y2, mem_map → Y3, mem_append → Y4, length_append → Y5, length_map → Y6, length_singleton → Y7, mem_cons → Y8, mem_singleton → Y9, range → Ya, map_nil → Yb, map_append → Yc, getElem?_map → Yd, length_cons → Ye, length → Yf, map_congr_left → Yg, eq_nil_of_length_eq_zero → Yh, not_mem_nil → Yi, map_map → Yj, length_take → Yk, replicate → Yl, mem_range → Ym, getElem?_eq_some_iff → Yn, all_eq_true → Yo, length_drop → Yp, getElem_map → Yq, getElem?_take → Yr, foldl_cons → Ys, mem_cons_of_mem → Yt, cons_append → Yu, getElem?_append_right → Yv, mem_of_getElem? → Yw, pairwise_cons → Yx, getElem_mem → Yy, mem_flatMap → Yz, getElem?_append_left → Y10, take_length → Y11, pairwise_append → Y12, append_assoc → Y13, drop_length → Y14, getElem?_drop → Y15, nodup_cons → Y16, length_nil → Y17, ext_getElem → Y18, nodup_append → Y19, take_succ_eq_append_getElem → Y1a, getElem_of_mem → Y1b, getElem?_eq_none → Y1c, mem_of_mem_take → Y1d, contains_iff_mem → Y1e, filter_cons_of_pos → Y1f, pairwise_iff_getElem → Y1g
open Nat renaming le_refl → Y1h, lt_of_lt_of_le → Y1i, zero_le → Y1j, pow_le_pow_right → Y1k, sub_self → Y1l, le_trans → Y1m, add_mul → Y1n, zero_add → Y1o, add_zero → Y1p, mul_le_mul_right → Y1q, two_pow_pos → Y1r, shiftRight_eq_div_pow → Y1s
open Int renaming toNat_natCast → Y1t, le_refl → Y1u
open Option renaming isSome_some → Y1v, map_eq_some_iff → Y1w, getD_some → Y1x, isSome_iff_exists → Y1y, map_some → Y1z
open Bool renaming and_eq_true → Y20, not_true → Y21, or_eq_true → Y22, false_eq_true → Y23, not_eq_true' → Y24
open Array renaming length_toList → Y25, getElem?_toList → Y26, getElem?_eq_getElem → Y27, getD_eq_getD_getElem? → Y28, getElem?_append_left → Y29
namespace Go.Ab
open Go.Proofs
abbrev keysF (L:TS):List Value:=L.map fun p=>Value.int .u64 (p.1:Int)
abbrev setsI (L:TS):List Int:=L.map fun p=>(p.1:Int)
theorem yz7e {f:Nat}:∀ {L:TS} (i:Nat),hasT L f=false→findKeyAt (.int .u64 (f:Int)) (keysF L) i=some none
 | [],_,_=>rfl
 | p :: L,i,h=>by
  simp only [hasT,List.any_cons,Bool.or_eq_false_iff] at h
  have h1:((f:Int) == (p.1:Int))=false:=by
   have:p.1≠f:=fun e=>by rw [e,Nat.beq_refl] at h;cases h.1
   exact beq_false_of_ne fun e=>this (by omega)
  have h2:=yz7e (f:=f) (L:=L) (i+1) h.2
  simp only [Y1,findKeyAt,sameKey,h1,if_true]
  exact h2
theorem yzdl {f:Nat}:∀ {L:TS} (i:Nat),hasT L f=true→∃ j,findKeyAt (.int .u64 (f:Int)) (keysF L) i=some (some (i+j))∧j<L.length
 | [],_,h=>by cases h
 | p :: L,i,h=>by
  by_cases e:p.1=f
  ·refine ⟨0,?_,by simp⟩
   have h1:((f:Int) == (p.1:Int))=true:=by rw [e];exact beq_self_eq_true _
   simp only [Y1,findKeyAt,sameKey,h1,if_true,Y1p]
  ·have h0:Nat.beq p.1 f=false:=by rw [← yzer];exact decide_eq_false e
   simp only [hasT,List.any_cons,h0,Bool.false_or] at h
   have h1:((f:Int) == (p.1:Int))=false:=beq_false_of_ne fun e'=>e (by omega)
   obtain ⟨j,h2,h3⟩:=yzdl (f:=f) (L:=L) (i+1) h
   refine ⟨j+1,?_,by simp;omega⟩
   simp only [Y1,findKeyAt,sameKey,h1,if_true]
   rw [h2];congr 2;omega
theorem yzfc:∀ {L:TS} (i k:Nat),(L.map (·.1)).Nodup→i<L.length→findKeyAt (.int .u64 ((L.getD i (0,[])).1:Int)) (keysF L) k=some (some (k+i))
 | [],_,_,_,h=>by simp at h
 | p :: L,0,k,_,_=>by
  simp only [List.getD_cons_zero,Y1,findKeyAt,sameKey,beq_self_eq_true,if_true,Y1p]
 | p :: L,i+1,k,hd,h=>by
  rw [Y1,Y16] at hd
  have hi:i<L.length:=by simpa using h
  have hm:=yz4 hi (0,([]:List Int))
  have h1:(((L.getD i (0,[])).1:Int) == (p.1:Int))=false:=beq_false_of_ne fun e=>hd.1 (Y3.2 ⟨_,hm,by omega⟩)
  have h2:=yzfc (L:=L) i (k+1) hd.2 hi
  simp only [List.getD_cons_succ,Y1,findKeyAt,sameKey,h1,if_true]
  rw [h2];congr 2;omega
theorem yz77 {L:TS} {i:Nat} (h:i<L.length):(setsI L).getD i 0=((L.getD i (0,[])).1:Int):=by
 rw [Y0,Yd,Y2 h,Y0,Y2 h];rfl
theorem yz8f {L:TS} {i:Nat} (h:i<L.length):(L.map (·.2)).getD i []=(L.getD i (0,[])).2:=by
 rw [Y0,Yd,Y2 h,Y0,Y2 h];rfl
theorem k_tour (n:Int) (next:List (List Int)) (A:Aut n next) (f:Nat) (hf:f<2 ^ n.toNat) :
  Fn Tryz.prog nz5r [autA n next,fv f] (fun rows res=>∃ v w,rows=[.row v 1 true (intsK .u64 (setsI (tourT next f))),.map w (keysF (tourT next f)) (rws ((tourT next f).map (·.2)))]∧res=.st [.own 6000 v,.mp 6001 w]):=by
 refine yz90 mixed czt3 rfl (by simp) ?_
 have n1:=A.n1
 have n2:=A.n2
 have l2:=A.l2
 have hN:2 ^ n.toNat≤1024:=Y1k (n:=2) (by omega) (show n.toNat≤10 by omega)
 have f0:∀ k:Value,findKeyAt k [] 0=some none:=fun _=>rfl
 generalize hQ:finQ _=Q
 simp only [Azaa,Bzml,f0,go_sem,yz0,J9,J8,J6,J7,J5,J0,J1,J2,reduceIte,J3,J4,reduceCtorEq]
 intro vs vs2
 refine ⟨⟨_,rfl,rfl⟩,?_⟩
 simp only [Bzmk,Bzmi,go_sem,yz0,J9,J8,J6,J7,J5,J0,J1,J2,reduceIte,J3,J4,reduceCtorEq]
 refine ⟨fun r v' e=>by cases e;exact ⟨_,_,_,rfl⟩,?_⟩
 refine yzo (fun (_,_,_,i,_)=>1100 - i)
  (fun (_,_,_,i,L)=>TI n.toNat next.length L∧i≤Yf L∧runT next (1100 - i) i L=tourT next f)
  (fun ((v5,va,vm,i,L):Nat×Nat×Nat×Nat×TS)=>⟨Go.Ab.L .any [(2,.ptr 2 (vs 0 0) 0),(4,.ptr 4 (vs 1 0) 0),(5,.ptr 5 v5 0),(6,iv i)],
   Go.Ab.L .gone [(2,.box (vs 0 0) [iv n,.ro none 1 (rwn next)]),(4,.box (vs 1 0) [nilS,.val (.map none)]),(5,.box v5 [.own 13 va,.mp 14 vm]),(13,.row va 1 true (intsK .u64 (setsI L))),(14,.map vm (keysF L) (rws (L.map (·.2))))]⟩)
  (_,_,_,0,[(f,[])]) ⟨TI0 hf,by simp,rfl⟩ (by simp only [Bz46,go_sem,yz0,J9,J8,J6,J7,J5,J0,J1,J2,reduceIte,J3,J4,reduceCtorEq];try rfl) ?_
 rintro ⟨v5,va,vm,i,L⟩ ⟨hI,hi,hR⟩
 have hi:i≤L.length:=hi
 have hlen:=hI.len
 by_cases hlt:(i:Int)<L.length
 ·have hlt1:i<L.length:=by omega
  have hls:i<(setsI L).length:=by simpa using hlt1
  have hm:=yz4 hlt1 (0,([]:List Int))
  have hfi:=hI.rg _ hm
  have hwi:=hI.wd _ hm
  simp only [Bz46,Bza4,Bzmh,yz3 hls,yz77 hlt1,yzi,decide_eq_true hlt,go_sem,yz0,J9,J8,J6,J7,J5,J0,J1,J2,reduceIte,J3,J4,reduceCtorEq]
  intro hM
  refine ⟨⟨by omega,hlt1⟩,hlt1,?_⟩
  simp only [Bzmf,go_sem,yz0,J9,J8,J6,J7,J5,J0,J1,J2,reduceIte,J3,J4,reduceCtorEq]
  intro vs3
  refine yz5 (yz3v n next) qCS trivial ?_
  simp only [Bzme,go_sem,yz0,J9,J8,J6,J7,J5,J0,J1,J2,reduceIte,J3,J4,reduceCtorEq]
  have hM2:=yzc
  generalize hfw:L.getD i (0,[])=fw at hm hfi hwi ⊢
  refine yzo (fun (_,_,_,x,_)=>next.length - x)
   (fun (_,_,_,x,L')=>x≤next.length∧L'=visT next fw.1 fw.2 x L)
   (fun ((v5,va,vm,x,L'):Nat×Nat×Nat×Nat×TS)=>⟨Go.Ab.L .any [(2,.ptr 2 (vs 0 0) 0),(4,.ptr 4 (vs 1 0) 0),(5,.ptr 5 v5 0),(6,iv i),(7,fv fw.1),(32,iv next.length),(33,iv x)],
    Go.Ab.L .gone [(2,.box (vs 0 0) [iv n,.ro none 1 (rwn next)]),(4,.box (vs 1 0) [nilS,.val (.map none)]),(5,.box v5 [.own 13 va,.mp 14 vm]),(13,.row va 1 true (intsK .u64 (setsI L'))),(14,.map vm (keysF L') (rws (L'.map (·.2))))]⟩)
   (_,_,_,0,L) ⟨by simp,rfl⟩ (by simp only [Bz45,yzi,go_sem,yz0,J9,J8,J6,J7,J5,J0,J1,J2,reduceIte,J3,J4,reduceCtorEq];try rfl) ?_
  rintro ⟨v5,va,vm,x,L'⟩ ⟨hx,rfl⟩
  have hx:x≤next.length:=hx
  obtain ⟨hI',t,hpre⟩:=yzan A hI hlt1 x hx
  rw [hfw] at hI' hpre
  generalize hV:visT next fw.1 fw.2 x L=L' at hI' hpre ⊢
  have hlen':=hI'.len
  have hi2:i<L'.length:=by rw [hpre,Y5];omega
  have hat:L'.getD i (0,[])=fw:=by rw [hpre,yz6b hlt1,hfw]
  by_cases hxl:(x:Int)<next.length
  ·have hxl1:x<next.length:=by omega
   have hto:=yz9g A hxl1 hfi
   have w1:IntKind.i64.wrap ((x:Int)+1)=((x+1:Nat):Int):=by rw [w64 (by omega)];simp
   simp only [Bz45,Bza9,Bzmd,yzi,decide_eq_true hxl,go_sem,yz0,J9,J8,J6,J7,J5,J0,J1,J2,reduceIte,J3,J4,reduceCtorEq]
   simp only [Bzmc,yzi,go_sem,yz0,J9,J8,J6,J7,J5,J0,J1,J2,reduceIte,J3,J4,reduceCtorEq]
   intro vs4
   refine yz5 (k_step n next A fw.1 x hfi hxl1) qCS trivial ?_
   have hsucc:=yz2r (next:=next) (f:=fw.1) (w:=fw.2) (x:=x) (L:=L)
   rw [hV] at hsucc
   generalize stepN (next.getD x []) fw.1=to at hto hsucc ⊢
   cases hh:hasT L' to with
   | true =>
    rw [hh,if_pos rfl] at hsucc
    obtain ⟨j,hj1,hj2⟩:=yzdl 0 hh
    rw [Y1o] at hj1
    simp only [Bza7,Bza6,Bza5,Bza8,hj1,w1,yzi,go_sem,yz0,J9,J8,J6,J7,J5,J0,J1,J2,reduceIte,J3,J4,reduceCtorEq]
    exact ⟨(_,_,_,x+1,_),by dsimp only;omega,⟨by dsimp only;omega,hsucc.symm⟩,rfl⟩
   | false =>
    rw [hh,if_neg (by simp)] at hsucc
    have hj1:=yz7e 0 hh
    have hk:=yzfc i 0 hI'.nd hi2
    rw [hat,Y1o] at hk
    have hwl:i<(L'.map (·.2)).length:=by simpa using hi2
    have hwg:=yz8f hi2
    rw [hat] at hwg
    simp only [Bza7,Bza6,Bza5,hj1,hk,rws_getD hwl,hwg,yzi,go_sem,yz0,J9,J8,J6,J7,J5,J0,J1,J2,reduceIte,J3,J4,reduceCtorEq]
    intro vs5
    refine yzm (yzfk fw.2 (by omega)) qCS qGN ⟨_,rfl⟩ ?_
    rintro xs v7 rfl
    simp only [hj1,yzi,go_sem,yz0,J9,J8,J6,J7,J5,J0,J1,J2,reduceIte,J3,J4,reduceCtorEq]
    refine ⟨⟨_,rfl,rfl⟩,by omega,⟨fun r v' e=>by cases e;exact ⟨_,_,_,rfl⟩,?_⟩⟩
    simp only [Bzmb,Bza8,w1,yzi,go_sem,yz0,J9,J8,J6,J7,J5,J0,J1,J2,reduceIte,J3,J4,reduceCtorEq]
    intro vs6
    exact ⟨⟨_,rfl,rfl⟩,by omega,(v5,vs6 4 0,vm,x+1,L' ++ [(to,fw.2 ++ [(x:Int)])]),by dsimp only;omega,⟨by dsimp only;omega,hsucc.symm⟩,by simp only [Yc,Y1,Yb]⟩
  ·have:x=next.length:=by omega
   subst this
   simp only [Bz45,Bza9,Bzmg,yzi,nat1 i _ hlt1 hM,decide_eq_false hxl,go_sem,yz0,J9,J8,J6,J7,J5,J0,J1,J2,reduceIte,J3,J4,reduceCtorEq]
   obtain ⟨F,hF⟩:∃ F,1100 - i=F+1:=⟨1099 - i,by omega⟩
   have hF2:1100 - (i+1)=F:=by omega
   rw [hF] at hR
   simp only [runT,if_pos hlt1,hfw,hV] at hR
   exact ⟨(_,_,_,i+1,L'),by dsimp only;omega,⟨hI',by dsimp only;omega,by dsimp only;rw [hF2];exact hR⟩,rfl⟩
 ·have:i=L.length:=by omega
  subst this
  have hend:L=tourT next f:=by
   obtain ⟨F,hF⟩:∃ F,1100 - L.length=F+1:=⟨1099 - L.length,by omega⟩
   rw [← hR,hF];simp only [runT,Nat.lt_irrefl,if_false]
  simp only [Bz46,Bza4,Bzmj,decide_eq_false hlt,Azaa,← hQ,go_sem,yz0,J9,J8,J6,J7,J5,J0,J1,J2,reduceIte,J3,J4,reduceCtorEq]
  intro hM
  refine ⟨[13,14],by simp,by simp,by simp,?_⟩
  simp only [hend,rsA,AVal.fresh,freshL,AObj.fresh,id,Y1v,go_sem,yz0,J9,J8,J6,J7,J5,J0,J1,J2,reduceIte,J3,J4,reduceCtorEq]
  exact ⟨va,vm,rfl,rfl⟩
theorem yz52 (T:TS) (h:∀ p∈T,p.1<1024) :
  Fun Tryz.prog nz29 [.ro none 1 (intsK .u64 (setsI T)),.clo nz7 []] (iv (fidx smallN (T.map (·.1)) 0)):=by
 have hx:=yz8u (T.map (·.1)) nz7 [] smallN ⟨by simp only [go_sem,yz0,J9,J8,J6,J7,J5,J0,J1,J2,reduceIte,J3,J4,reduceCtorEq],by intros;simp only [csA,rowIs,boxIs,J3,ne_eq,reduceCtorEq,exists_eq_left,exists_eq_right,Y8,Yi,exists_eq_left',exists_and_left,exists_eq,Y1,Yb,AObj.ver,J5]⟩ (fun x hx=>by
  obtain ⟨p,hp,rfl⟩:=Y3.1 hx
  exact k_isSmall p.1 (h p hp))
 rw [Yj] at hx
 exact hx
theorem yz7o {f:Nat} {w:List Int}:∀ {T:TS} (k:Nat),firstT T=some (f,w)→∃ i,fidx smallN (T.map (·.1)) k=((k+i:Nat):Int)∧i<T.length∧T.getD i (0,[])=(f,w)
 | [],_,h=>by cases h
 | p :: T,k,h=>by
  simp only [firstT,List.find?_cons] at h
  cases hs:smallN p.1 with
  | true =>
   rw [hs] at h
   simp only [Option.some.injEq] at h
   exact ⟨0,by simp only [Y1,fidx,hs,if_true,Y1p],by simp,by simpa using h⟩
  | false =>
   rw [hs] at h
   obtain ⟨i,h1,h2,h3⟩:=yz7o (T:=T) (k+1) h
   refine ⟨i+1,?_,by simp;omega,by simpa using h3⟩
   simp only [Y1,fidx,hs,Y23,if_false,h1]
   congr 1;omega
theorem k_first (N m:Nat) (T:TS) (hI:TI N m T) (hN:2 ^ N≤1024) (f:Nat) (w:List Int) (hf:firstT T=some (f,w)) :
  Con Tryz.prog nz23 [.row 0 1 true (intsK .u64 (setsI T)),.map 1 (keysF T) (rwn (T.map (·.2)))] [.st [.own 5000 0,.mp 5001 1],.clo nz7 []] true
   fun outs rows res=>outs=[.row 0 1 true (intsK .u64 (setsI T)),.map 1 (keysF T) (rwn (T.map (·.2)))]∧rows=[]∧res=.tup [.ro none 1 (ints w),iv 0]:=by
 refine yz38 mixed czmn rfl (by simp) ?_
 obtain ⟨i,h1,h2,h3⟩:=yz7o 0 hf
 rw [Y1o] at h1
 have hls:i<(setsI T).length:=by simpa using h2
 have hsg:=yz77 h2
 have hk:=yzfc i 0 hI.nd h2
 rw [h3,Y1o] at hk
 rw [h3] at hsg
 have hwl:i<(T.map (·.2)).length:=by simpa using h2
 have hwg:=yz8f h2
 rw [h3] at hwg
 simp only [Azae,Bzad,go_sem,yz0,J9,J8,J6,J7,J5,J0,J1,J2,reduceIte,J3,J4,reduceCtorEq]
 intro vs vs2
 refine yz5 (yz52 T (fun p hp=>by have:=hI.rg p hp;omega)) qCS trivial ?_
 have hi0:¬ (i:Int)<0:=by omega
 simp only [h1,Bzac,Bzab,Bzmm,decide_eq_false hi0,yz3 hls,hsg,hk,yz19 hwl,hwg,go_sem,yz0,J9,J8,J6,J7,J5,J0,J1,J2,reduceIte,J3,J4,reduceCtorEq]
 refine ⟨⟨by omega,h2⟩,h2,[],by simp,by simp,by simp,?_⟩
 simp only [List.nil_append,Yu,Y1p,J4,rsA,AVal.fresh,freshL,AObj.fresh,id,Y1v,go_sem,yz0,J9,J8,J6,J7,J5,J0,J1,J2,reduceIte,J3,J4,reduceCtorEq]
theorem callHp_m2 {hp:Nat→AObj} {r q d:Nat} {s:Nat→Nat} {o0 o1:AObj} (hne:r≠q) :
  callHp hp [r,q] d s [o0,o1] []=upd (upd hp r (o0.ren (rid [r,q] d 0) (sv hp [r,q] s))) q (o1.ren (rid [r,q] d 0) (sv hp [r,q] s)):=by
 funext n
 by_cases h:n=q
 ·have h1:rid [r,q] d ([]:List AObj).length 5001=some n:=by rw [h];exact yzad (j:=1) (by omega) rfl
  rw [yzv (by simp [hne]) (by simp) h1]
  simp [upd,h,outHp]
 ·by_cases h':n=r
  ·have h1:rid [r,q] d ([]:List AObj).length 5000=some n:=by rw [h'];exact yzad (j:=0) (by omega) rfl
   rw [yzv (by simp [hne]) (by simp) h1]
   simp [upd,h,h',outHp,hne]
  ·rw [yze]
   ·simp [upd,h,h']
   ·rintro ⟨x,hx⟩
    rcases yz14 hx with ⟨j,rfl,_,h3⟩ | ⟨i,rfl,h3,_⟩
    ·match j,h3 with
     | 0,h3=>simp at h3;exact h' h3.symm
     | 1,h3=>simp at h3;exact h h3.symm
     | j+2,h3=>simp at h3
    ·simp at h3
theorem call_rm {P:Program} {σ:St} {g:FuncId} {As args:List AVal} {d:Nat} {s:Nat→Nat} {K:St→Prop} {r q v u:Nat} {cs cs':List AVal} {ks:List Value} {vs vs':List AVal} {R:AVal}
  (h:Con P g [.row 0 1 true cs,.map 1 ks vs] (.st [.own 5000 0,.mp 5001 1] :: args) true fun outs rows res=>outs=[.row 0 1 true cs,.map 1 ks vs]∧rows=[]∧res=R)
  (hr:σ.hp r=.row v 1 true cs') (hq:σ.hp q=.map u ks vs') (hne:r≠q) (hc:CoeL σ.hp [r,q] false cs cs') (hv:CoeL σ.hp [r,q] false vs vs') (ha:CoeL σ.hp [r,q] false args As)
  (hk:K (St.put ⟨σ.tm,upd (upd σ.hp r ((AObj.row 0 1 true cs).ren (rid [r,q] d 0) (sv σ.hp [r,q] s))) q ((AObj.map 1 ks vs).ren (rid [r,q] d 0) (sv σ.hp [r,q] s))⟩ (some d) (R.ren (rid [r,q] d 0) (sv σ.hp [r,q] s)))):wpCall P false σ g (.st [.own r v,.mp q u] :: As) (some d) s K:=by
 refine .inl ⟨[r,q],_,_,true,_,h,⟨by simp,rfl,by simp [hne],?_,?_⟩,?_,(fun e=>by cases e),?_⟩
 ·intro x hx
  simp only [Y8,Yi,or_false] at hx
  rcases hx with rfl | rfl
  ·simp [hr]
  ·simp [hq]
 ·intro j B r' hB hr'
  match j,hB,hr' with
  | 0,hB,hr' =>
   simp at hB hr';subst hB;subst hr'
   simp only [ObjCoe,hr]
   exact ⟨trivial,v,cs',rfl,hc⟩
  | 1,hB,hr' =>
   simp at hB hr';subst hB;subst hr'
   simp only [ObjCoe,hq]
   exact ⟨trivial,u,vs',rfl,hv⟩
  | j+2,hB,hr'=>simp at hB
 ·rw [yzb]
  refine ⟨?_,ha⟩
  rw [coe_st,yzb,yzb,yz1l]
  simp only [Coe]
  exact ⟨⟨0,r,v,rfl,rfl,rfl,rfl,by rw [hr];rfl⟩,⟨1,q,u,rfl,rfl,rfl,rfl,by rw [hq];rfl⟩,trivial⟩
 ·rintro outs rows res ⟨rfl,rfl,rfl⟩
  refine ⟨rfl,by simp,by simp,?_⟩
  rw [Y1x,callHp_m2 hne]
  exact hk
theorem maskN_all {n:Int} (h:1≤n∧n≤10):maskN (allS n)=2 ^ n.toNat - 1:=by
 obtain ⟨k,rfl⟩:∃ k:Nat,n=k:=⟨n.toNat,by omega⟩
 have h2:k=1∨k=2∨k=3∨k=4∨k=5∨k=6∨k=7∨k=8∨k=9∨k=10:=by omega
 rcases h2 with rfl | rfl | rfl | rfl | rfl | rfl | rfl | rfl | rfl | rfl <;> decide
def dvS (nr or:List Int) (D:List Nat×Bool) (s:Int):List Nat×Bool :=
 (D.1.set (or.getD s.toNat 0).toNat (D.1.getD (or.getD s.toNat 0).toNat 0 ||| 2 ^ (nr.getD s.toNat 0).toNat),D.2 && Nat.beq (D.1.getD (or.getD s.toNat 0).toNat 0 &&& 2 ^ (nr.getD s.toNat 0).toNat) 0)
def dvF (nr or:List Int) (o:Int) (S:List Int):List Nat×Bool:=S.foldl (dvS nr or) (Yl o.toNat 0,true)
abbrev nfs (fs:List Nat):List AVal:=intsK .u64 (fs.map fun (f:Nat)=>(f:Int))
end Go.Ab
namespace Go.Ab
open Go Go.Proofs Go.Sort
section
variable {κ:IntKind} {P:Program} {f:FuncId}
end
end Go.Ab
namespace Go.Ab
theorem yzek {α:Type} (g:α→Nat) (t:Nat):∀ (l:List α) (o:Nat),(l.foldl (fun o s=>o ||| 2 ^ g s) o).testBit t=true↔o.testBit t=true∨∃ x∈l,g x=t
 | [],o=>by simp
 | x :: l,o=>by
  rw [Ys,yzek g t l,Nat.testBit_or,Nat.testBit_two_pow,Y22,decide_eq_true_eq]
  simp only [Y8,exists_eq_or_imp,or_assoc]
theorem step_bit {row:List Int} {f t:Nat}:(stepN row f).testBit t=true↔∃ s∈bitsN f,(row.getD s 0).toNat=t:=by
 unfold stepN
 rw [yzek (fun s=>(row.getD s 0).toNat)]
 simp
def imN (next:List (List Int)) (f:Nat) (w:List Int):Nat:=w.foldl (fun f l=>stepN (next.getD l.toNat []) f) f
theorem yzcp {next:List (List Int)} {f:Nat} {w:List Int} {x:Int}:imN next f (w ++ [x])=stepN (next.getD x.toNat []) (imN next f w):=by simp [imN]
def SndT (next:List (List Int)) (f0:Nat) (L:TS):Prop:=∀ p∈L,p.1=imN next f0 p.2
theorem SndT.vis {next:List (List Int)} {f0 f:Nat} {w:List Int} (hf:f=imN next f0 w):∀ (x:Nat) {L:TS},SndT next f0 L→SndT next f0 (visT next f w x L)
 | 0,_,h=>h
 | x+1,L,h=>by
  have h1:=SndT.vis hf x h
  rw [yz2r]
  split
  ·exact h1
  ·intro p hp
   rcases Y4.1 hp with hp | hp
   ·exact h1 p hp
   ·have hp:p=(stepN (next.getD x []) f,w ++ [(x:Int)]):=by simpa using hp
    rw [hp,yzcp,← hf];rfl
theorem SndT.run {next:List (List Int)} {f0:Nat}:∀ (F i:Nat) {L:TS},SndT next f0 L→SndT next f0 (runT next F i L)
 | 0,_,_,h=>h
 | F+1,i,L,h=>by
  simp only [runT]
  split
  ·rename_i hi
   exact SndT.run F (i+1) (SndT.vis (h _ (yz4 hi _)) _ h)
  ·exact h
theorem yz93 {next:List (List Int)} {f:Nat} {w:List Int}:∀ (x:Nat) (L:TS),∃ t,visT next f w x L=L ++ t
 | 0,L=>⟨[],by simp [visT]⟩
 | x+1,L=>by
  obtain ⟨t,h⟩:=yz93 (next:=next) (f:=f) (w:=w) x L
  rw [yz2r]
  split
  ·exact ⟨t,h⟩
  ·exact ⟨t ++ [(stepN (next.getD x []) f,w ++ [(x:Int)])],by rw [← Y13,← h]⟩
theorem yzfg {L t:TS} {f:Nat} (h:hasT L f=true):hasT (L ++ t) f=true:=by
 rw [hasT_iff] at h ⊢;rw [Yc];exact Y4.2 (.inl h)
theorem yzcf {next:List (List Int)} {f:Nat} {w:List Int}:∀ (x:Nat) (L:TS) (y:Nat),y<x→hasT (visT next f w x L) (stepN (next.getD y []) f)=true
 | 0,_,_,h=>by omega
 | x+1,L,y,h=>by
  rw [yz2r]
  by_cases e:y=x
  ·subst e
   split
   ·assumption
   ·rw [hasT_iff];simp
  ·have h1:=yzcf (next:=next) (f:=f) (w:=w) x L y (by omega)
   split
   ·exact h1
   ·exact yzfg h1
theorem yzcb {next:List (List Int)}:∀ (F i:Nat) (L:TS),∃ t,runT next F i L=L ++ t
 | 0,_,L=>⟨[],by simp [runT]⟩
 | F+1,i,L=>by
  simp only [runT]
  split
  ·obtain ⟨t,h⟩:=yz93 (next:=next) (f:=(L.getD i (0,[])).1) (w:=(L.getD i (0,[])).2) next.length L
   obtain ⟨t',h'⟩:=yzcb (next:=next) F (i+1) (visT next (L.getD i (0,[])).1 (L.getD i (0,[])).2 next.length L)
   exact ⟨t ++ t',by rw [h',h,Y13]⟩
  ·exact ⟨[],by simp⟩
def CloT (next:List (List Int)) (L:TS) (k:Nat):Prop:=∀ j<k,∀ x<next.length,hasT L (stepN (next.getD x []) (L.getD j (0,[])).1)=true
theorem run_clo {n:Int} {next:List (List Int)} (A:Aut n next):∀ (F i:Nat) (L:TS),TI n.toNat next.length L→i≤L.length→1025≤F+i→CloT next L i→CloT next (runT next F i L) (runT next F i L).length
 | 0,i,L,h,hi,hF,hc=>by
  have h1:=h.len
  have:2 ^ n.toNat≤1024:=Y1k (n:=2) (by omega) (show n.toNat≤10 by have:=A.n2;omega)
  omega
 | F+1,i,L,h,hi,hF,hc=>by
  simp only [runT]
  split
  ·rename_i hi1
   have h1:=(yzan A h hi1 next.length (Y1h _)).1
   obtain ⟨t,ht⟩:=yz93 (next:=next) (f:=(L.getD i (0,[])).1) (w:=(L.getD i (0,[])).2) next.length L
   refine run_clo A F (i+1) _ h1 (by rw [ht,Y5];omega) (by omega) ?_
   intro j hj x hx
   have hg:(visT next (L.getD i (0,[])).1 (L.getD i (0,[])).2 next.length L).getD j (0,[])=L.getD j (0,[]):=by rw [ht];exact yz6b (by omega) _
   rw [hg]
   by_cases e:j=i
   ·subst e;exact yzcf _ _ _ hx
   ·have:=hc j (by omega) x hx
    rw [ht];exact yzfg this
  ·have:i=L.length:=by omega
   rw [← this];exact hc
theorem yzcy {n:Int} {next:List (List Int)} (A:Aut n next) {f:Nat} (hf:f<2 ^ n.toNat):∀ (k:Nat) (w:List Int),w.length=k→(∀ x∈w,0≤x∧x<next.length)→hasT (tourT next f) (imN next f w)=true
 | 0,w,hk,_=>by
  obtain rfl:w=[]:=Yh hk
  obtain ⟨t,ht⟩:=yzcb (next:=next) 1100 0 [(f,[])]
  unfold tourT;rw [ht]
  rw [hasT_iff];simp [imN]
 | k+1,w,hk,hw=>by
  have hne:w≠[]:=fun e=>by rw [e] at hk;simp at hk
  have e:=List.dropLast_concat_getLast hne
  have hl:=hw _ (List.getLast_mem hne)
  have h1:=yzcy A hf k w.dropLast (by rw [List.length_dropLast];omega) (fun x hx=>hw x (List.dropLast_subset w hx))
  have hc:=run_clo A 1100 0 _ (TI0 (m:=next.length) hf) (by omega) (by omega) (fun j hj=>by omega)
  have hm:=hasT_iff.1 h1
  obtain ⟨p,hp,he⟩:=Y3.1 hm
  obtain ⟨j,hj,hg⟩:=Y1b hp
  have h2:hasT (tourT next f) (stepN (next.getD (w.getLast hne).toNat []) ((tourT next f).getD j (0,[])).1)=true:=hc j hj (w.getLast hne).toNat (by omega)
  have hgd:(tourT next f).getD j (0,[])=p:=by
   rw [Y0,Y2 hj];exact hg
  rw [hgd,he] at h2
  rw [← e,yzcp];exact h2
theorem yz8a (f:Nat) (hf:f<1024):smallN f=decide ((bitsN f).length≤1) :=
 have h:∀ f:Fin 1024,smallN f=decide ((bitsN f).length≤1):=by decide +kernel
 h ⟨f,hf⟩
theorem yzaw {f:Nat} (hf:f<1024):smallN f=true↔∀ s∈bitsN f,∀ t∈bitsN f,s=t:=by
 rw [yz8a f hf,decide_eq_true_eq]
 have hn:(bitsN f).Nodup:=List.nodup_range.filter _
 constructor
 ·intro h s hs t ht
  match hb:bitsN f with
  | []=>rw [hb] at hs;simp at hs
  | [x]=>rw [hb] at hs ht;simp at hs ht;rw [hs,ht]
  | x :: y :: l=>rw [hb] at h;simp at h
 ·intro h
  match hb:bitsN f with
  | []=>simp
  | [x]=>simp
  | x :: y :: l =>
   rw [hb] at hn h
   have:=h x (by simp) y (by simp)
   rw [this] at hn;simp at hn
theorem yz9w {n:Int} {next:List (List Int)} (A:Aut n next) {f:Nat} (hf:f<2 ^ n.toNat) {l:Int} (hl:0≤l∧l<next.length) {t:Nat} :
  t∈bitsN (stepN (next.getD l.toNat []) f)↔∃ s∈bitsN f,stepA next (s:Int) l=(t:Int):=by
 have n1:=A.n1
 have n2:=A.n2
 rw [mem_bits,step_bit]
 have key:∀ s∈bitsN f,((next.getD l.toNat []).getD s 0).toNat=t↔stepA next (s:Int) l=(t:Int):=by
  intro s hs
  have h1:=yz2l hf hs
  have h2:=A.step (s:=(s:Int)) (by omega) hl
  unfold stepA at h2 ⊢
  rw [Y1t] at h2 ⊢
  omega
 constructor
 ·rintro ⟨_,s,hs,h⟩
  exact ⟨s,hs,(key s hs).1 h⟩
 ·rintro ⟨s,hs,h⟩
  have h1:=yz2l hf hs
  have h2:=A.step (s:=(s:Int)) (by omega) hl
  refine ⟨by omega,s,hs,(key s hs).2 h⟩
theorem imN_bit {n:Int} {next:List (List Int)} (A:Aut n next):∀ (w:List Int) {f:Nat},f<2 ^ n.toNat→(∀ x∈w,0≤x∧x<next.length)→imN next f w<2 ^ n.toNat∧∀ t:Nat,t∈bitsN (imN next f w)↔∃ s∈bitsN f,atA next (s:Int) w=(t:Int)
 | [],f,hf,_=>by
  refine ⟨hf,fun t=>?_⟩
  simp only [imN,atA,List.foldl_nil]
  constructor
  ·intro h;exact ⟨t,h,rfl⟩
  ·rintro ⟨s,hs,h⟩
   have:s=t:=by omega
   rw [← this];exact hs
 | l :: w,f,hf,hw=>by
  have hl:=hw l (by simp)
  have hl1:l.toNat<next.length:=by omega
  obtain ⟨h1,h2⟩:=imN_bit A w (yz9g A hl1 hf) (fun x hx=>hw x (by simp [hx]))
  refine ⟨h1,fun t=>?_⟩
  have e:imN next f (l :: w)=imN next (stepN (next.getD l.toNat []) f) w:=rfl
  rw [e,h2]
  constructor
  ·rintro ⟨s,hs,h⟩
   obtain ⟨s',hs',h'⟩:=(yz9w A hf hl).1 hs
   refine ⟨s',hs',?_⟩
   show atA next (stepA next s' l) w=t
   rw [h'];exact h
  ·rintro ⟨s',hs',h⟩
   have h3:=yz2l hf hs'
   have h4:=A.step (s:=(s':Int)) (by omega) hl
   refine ⟨(stepA next (s':Int) l).toNat,(yz9w A hf hl).2 ⟨s',hs',by omega⟩,?_⟩
   rw [show (((stepA next (s':Int) l).toNat:Nat):Int)=stepA next (s':Int) l by omega]
   exact h
def CanR (n:Int) (next:List (List Int)):Prop:=∃ w,IsW next.length w∧∀ s t:Int,0≤s∧s<n→0≤t∧t<n→atA next s w=atA next t w
theorem yz3a {n:Int} (hn:1≤n∧n≤10) {s:Nat}:s∈bitsN (2 ^ n.toNat - 1)↔(s:Int)<n:=by
 rw [mem_bits,Nat.testBit_two_pow_sub_one,decide_eq_true_eq];omega
theorem yza6 {n:Int} {next:List (List Int)} (A:Aut n next) {w:List Int} (hw:IsW next.length w):smallN (imN next (2 ^ n.toNat - 1) w)=true↔∀ s t:Int,0≤s∧s<n→0≤t∧t<n→atA next s w=atA next t w:=by
 have n1:=A.n1
 have n2:=A.n2
 have hp:=Y1r n.toNat
 have hN:2 ^ n.toNat≤1024:=Y1k (n:=2) (by omega) (show n.toNat≤10 by omega)
 obtain ⟨h1,h2⟩:=imN_bit A w (f:=2 ^ n.toNat - 1) (by omega) hw
 rw [yzaw (by omega)]
 constructor
 ·intro h s t hs ht
  have a0:=A.at (w:=w) hs hw
  have at':=A.at (w:=w) ht hw
  have a1:=(h2 (atA next s w).toNat).2 ⟨s.toNat,(yz3a ⟨n1,n2⟩).2 (by omega),by rw [show ((s.toNat:Nat):Int)=s by omega];omega⟩
  have a2:=(h2 (atA next t w).toNat).2 ⟨t.toNat,(yz3a ⟨n1,n2⟩).2 (by omega),by rw [show ((t.toNat:Nat):Int)=t by omega];omega⟩
  have:=h _ a1 _ a2
  omega
 ·intro h s hs t ht
  obtain ⟨s',hs',e1⟩:=(h2 s).1 hs
  obtain ⟨t',ht',e2⟩:=(h2 t).1 ht
  have b1:=(yz3a ⟨n1,n2⟩).1 hs'
  have b2:=(yz3a ⟨n1,n2⟩).1 ht'
  have:=h s' t' (by omega) (by omega)
  omega
theorem tour_can {n:Int} {next:List (List Int)} (A:Aut n next):(firstT (tourT next (2 ^ n.toNat - 1))).isSome=true↔CanR n next:=by
 have hp:=Y1r n.toNat
 have hf:2 ^ n.toNat - 1<2 ^ n.toNat:=by omega
 have hT:=(yzdi A 1100 0 _ (TI0 (m:=next.length) hf)).1
 have hS:SndT next (2 ^ n.toNat - 1) (tourT next (2 ^ n.toNat - 1)):=SndT.run 1100 0 (fun p hp=>by
  have:p=(2 ^ n.toNat - 1,[]):=by simpa using hp
  rw [this];rfl)
 unfold firstT
 rw [List.find?_isSome]
 constructor
 ·rintro ⟨p,hp,hs⟩
  have hw:=(hT.wd p hp).1
  rw [hS p hp,yza6 A hw] at hs
  exact ⟨p.2,hw,hs⟩
 ·rintro ⟨w,hw,h⟩
  have h1:=yzcy A hf w.length w rfl hw
  obtain ⟨p,hp,he⟩:=Y3.1 (hasT_iff.1 h1)
  refine ⟨p,hp,?_⟩
  rw [he,yza6 A hw];exact h
theorem yzd6 {next:List (List Int)} {s:Int} {u v:List Int}:atA next s (u ++ v)=atA next (atA next s u) v:=by simp [atA,List.foldl_append]
theorem fidx_eq {q:Int}:∀ {xs:List Int} (k:Nat),q∈xs→∃ i:Nat,fidx (fun y=>q == y) xs k=((k+i:Nat):Int)∧i<xs.length∧xs.getD i 0=q
 | [],_,h=>by simp at h
 | x :: xs,k,h=>by
  by_cases e:q=x
  ·exact ⟨0,by simp [fidx,e],by simp,by simpa using e.symm⟩
  ·obtain ⟨i,h1,h2,h3⟩:=fidx_eq (xs:=xs) (k+1) (by simpa [e] using h)
   have e1:(q == x)=false:=beq_false_of_ne e
   refine ⟨i+1,?_,by simp;omega,by simpa using h3⟩
   simp only [fidx,e1,Y23,if_false,h1]
   congr 1;omega
def outA (out:List (List Int)) (s l:Int):Int:=(out.getD l.toNat []).getD s.toNat 0
def outsA (next out:List (List Int)):Int→List Int→List Int
 | _,[]=>[]
 | s,x :: w=>outA out s x :: outsA next out (stepA next s x) w
def lexP:List Int→List Int→Bool
 | x :: v,y :: w=>if x=y then lexP v w else decide (x<y)
 | _,_=>false
def befP (v w:List Int):Bool:=if v.length=w.length then lexP v w else decide (v.length<w.length)
theorem yz5u:∀ u:List Int,lexP u u=false
 | []=>rfl
 | x :: u=>by simp only [lexP,if_pos rfl];exact yz5u u
theorem yz7d:∀ {u v w:List Int},lexP u v=true→lexP v w=true→lexP u w=true
 | [],_,_,h,_=>by simp [lexP] at h
 | _ :: _,[],_,h,_=>by simp [lexP] at h
 | _ :: _,_ :: _,[],_,h=>by simp [lexP] at h
 | x :: u,y :: v,z :: w,h1,h2=>by
  simp only [lexP] at h1 h2 ⊢
  by_cases e1:x=y
  ·subst e1
   rw [if_pos rfl] at h1
   by_cases e2:x=z
   ·subst e2
    rw [if_pos rfl] at h2 ⊢
    exact yz7d h1 h2
   ·rw [if_neg e2] at h2 ⊢;exact h2
  ·rw [if_neg e1] at h1
   by_cases e2:y=z
   ·subst e2
    rw [if_neg e1];exact h1
   ·rw [if_neg e2] at h2
    have h1:=of_decide_eq_true h1
    have h2:=of_decide_eq_true h2
    rw [if_neg (by omega)];exact decide_eq_true (by omega)
theorem yzba:∀ {u v:List Int} {x y:Int},u.length=v.length→lexP u v=true→lexP (u ++ [x]) (v ++ [y])=true
 | [],_,_,_,_,h=>by simp [lexP] at h
 | _ :: _,[],_,_,_,h=>by simp [lexP] at h
 | a :: u,b :: v,x,y,hl,h=>by
  simp only [lexP,Yu] at h ⊢
  by_cases e:a=b
  ·rw [if_pos e] at h ⊢;exact yzba (by simpa using hl) h
  ·rw [if_neg e] at h ⊢;exact h
theorem yza4:∀ {u:List Int} {x y:Int},x<y→lexP (u ++ [x]) (u ++ [y])=true
 | [],x,y,h=>by
  simp only [List.nil_append,lexP]
  rw [if_neg (by omega)];exact decide_eq_true h
 | a :: u,x,y,h=>by simp only [Yu,lexP,if_pos rfl];exact yza4 h
theorem yzcn {u v:List Int} (h:u.length<v.length):befP u v=true:=by
 rw [befP,if_neg (by omega)];exact decide_eq_true h
theorem yzcd {u v:List Int} (h:befP u v=true):u.length≤v.length:=by
 rw [befP] at h
 split at h
 ·omega
 ·have:=of_decide_eq_true h;omega
theorem yz5n (u:List Int):befP u u=false:=by rw [befP,if_pos rfl];exact yz5u u
theorem yz51 {u v w:List Int} (h1:befP u v=true) (h2:befP v w=true):befP u w=true:=by
 have l1:=yzcd h1
 have l2:=yzcd h2
 by_cases e:u.length=w.length
 ·rw [befP,if_pos (by omega)] at h1 h2 ⊢
  exact yz7d h1 h2
 ·exact yzcn (by omega)
theorem yz9u {u v:List Int} {x y:Int} (h:befP u v=true):befP (u ++ [x]) (v ++ [y])=true:=by
 have l1:=yzcd h
 by_cases e:u.length=v.length
 ·rw [befP,if_pos e] at h
  rw [befP,if_pos (by simp [e])]
  exact yzba e h
 ·exact yzcn (by simp;omega)
theorem befP_last {u:List Int} {x y:Int} (h:x<y):befP (u ++ [x]) (u ++ [y])=true:=by
 rw [befP,if_pos (by simp)];exact yza4 h
def leP (u v:List Int):Prop:=befP u v=true∨u=v
theorem yza5 {u v w:List Int} (h1:leP u v) (h2:leP v w):leP u w:=by
 rcases h1 with h1 | rfl
 ·rcases h2 with h2 | rfl
  ·exact .inl (yz51 h1 h2)
  ·exact .inl h1
 ·exact h2
theorem leP_not {u v:List Int} (h:leP u v):befP v u=false:=by
 cases hb:befP v u with
 | false=>rfl
 | true =>
  rcases h with h | rfl
  ·have:=yz51 h hb
   rw [yz5n] at this;cases this
  ·rw [yz5n] at hb;cases hb
def pairW (na nb:List (List Int)):Nat×Nat→List Int→Nat×Nat
 | p,[]=>p
 | p,x :: w=>pairW na nb (stepP na nb p x.toNat) w
def difW (na nb oa ob:List (List Int)):Nat×Nat→List Int→Bool
 | _,[]=>false
 | p,x :: w=>difP oa ob p x.toNat || difW na nb oa ob (stepP na nb p x.toNat) w
def isWd (k:Nat) (w:List Int):Prop:=∀ x∈w,0≤x∧x<k
structure BI (na nb oa ob:List (List Int)) (p0:Nat×Nat) (i:Nat) (L:PS):Prop where
 ok:∀ q∈L,q.1=pairW na nb p0 q.2∧difW na nb oa ob p0 q.2=false∧isWd na.length q.2
 so:L.Pairwise fun a b=>befP a.2 b.2=true
 par:∀ q∈L,q.2=[]∨∃ j<i,∃ y,q.2=(L.getD j ((0,0),[])).2 ++ [y]
 cl:∀ a<i,∀ x<na.length,difP oa ob (L.getD a ((0,0),[])).1 x=false∧∃ q∈L,q.1=stepP na nb (L.getD a ((0,0),[])).1 x∧leP q.2 ((L.getD a ((0,0),[])).2 ++ [(x:Int)])
 le:i≤L.length
 nil:∃ q∈L,q.1=p0∧q.2=[]
structure BV (na nb oa ob:List (List Int)) (p0:Nat×Nat) (i:Nat) (L:PS) (x:Nat) (L':PS):Prop where
 sub:∃ t,L'=L ++ t
 ok:∀ q∈L',q.1=pairW na nb p0 q.2∧difW na nb oa ob p0 q.2=false∧isWd na.length q.2
 so:L'.Pairwise fun a b=>befP a.2 b.2=true
 par:∀ q∈L',q.2=[]∨(∃ j<i,∃ y,q.2=(L.getD j ((0,0),[])).2 ++ [y])∨∃ y<x,q.2=(L.getD i ((0,0),[])).2 ++ [(y:Int)]
 cl:∀ y<x,∃ q∈L',q.1=stepP na nb (L.getD i ((0,0),[])).1 y∧leP q.2 ((L.getD i ((0,0),[])).2 ++ [(y:Int)])
section
variable {σ:Type} [DecidableEq σ] (δ:σ→Nat→Option σ)
def goG (p:σ):List Int→Option σ
 | []=>some p
 | x :: w=>match δ p x.toNat with
  | none=>none
  | some q=>goG q w
def hasG (L:List (σ×List Int)) (q:σ):Bool:=L.any fun p=>decide (p.1=q)
def visG (p:σ) (w:List Int):Nat→List (σ×List Int)→List (σ×List Int)
 | 0,L=>L
 | x+1,L=>match δ p x with
  | none=>visG p w x L
  | some q=>if hasG (visG p w x L) q=true then visG p w x L else visG p w x L ++ [(q,w ++ [(x:Int)])]
def runG (m:Nat) (d:σ×List Int):Nat→Nat→List (σ×List Int)→List (σ×List Int)
 | 0,_,L=>L
 | F+1,i,L=>if i<L.length then runG m d F (i+1) (visG δ (L.getD i d).1 (L.getD i d).2 m L) else L
theorem yz8j {w:List Int} {x:Int}:∀ {p:σ},goG δ p (w ++ [x])=(goG δ p w).bind fun q=>δ q x.toNat:=by
 induction w with
 | nil =>
  intro p
  simp only [List.nil_append,goG,Option.bind_some]
  cases δ p x.toNat <;> rfl
 | cons y w ih =>
  intro p
  simp only [Yu,goG]
  cases δ p y.toNat with
  | none=>rfl
  | some q=>exact ih
theorem hasG_iff {L:List (σ×List Int)} {q:σ}:hasG L q=true↔∃ p∈L,p.1=q:=by
 simp only [hasG,List.any_eq_true,decide_eq_true_eq]
structure GI (D:σ→Prop) (m:Nat) (d:σ×List Int) (p0:σ) (i x:Nat) (L:List (σ×List Int)):Prop where
 so:L.Pairwise fun a b=>befP a.2 b.2=true
 up:i<L.length→∀ p∈L,∀ z:Int,(x:Int)≤z→befP p.2 ((L.getD i d).2 ++ [z])=true
 sd:∀ p∈L,goG δ p0 p.2=some p.1∧∀ y∈p.2,0≤y∧y<m
 rg:∀ p∈L,D p.1
 nd:(L.map (·.1)).Nodup
 cl:∀ j y q,(j<i∧y<m)∨(j=i∧y<x)→j<L.length→δ (L.getD j d).1 y=some q→∃ k,k<L.length∧(L.getD k d).1=q∧leP (L.getD k d).2 ((L.getD j d).2 ++ [(y:Int)])
 ze:∃ p∈L,p=(p0,[])
theorem yz1u {L t:List (σ×List Int)} {i:Nat} {d:σ×List Int} (h:i<L.length):(L ++ t).getD i d=L.getD i d:=by
 rw [Y0,Y10 h,← Y0]
theorem yz2p {L:List (σ×List Int)} {p d:σ×List Int}:(L ++ [p]).getD L.length d=p:=by
 rw [Y0,Yv (Y1h _),Y1l];rfl
variable {δ}
theorem GI.next {D:σ→Prop} {m:Nat} {d:σ×List Int} {p0:σ} {i x:Nat} {L:List (σ×List Int)} (hD:∀ p y q,D p→y<m→δ p y=some q→D q) (h:GI δ D m d p0 i x L) (hi:i<L.length) (hx:x<m) :
  match δ (L.getD i d).1 x with
  | none=>GI δ D m d p0 i (x+1) L
  | some q=>if hasG L q=true then GI δ D m d p0 i (x+1) L else GI δ D m d p0 i (x+1) (L ++ [(q,(L.getD i d).2 ++ [(x:Int)])]):=by
 have hm:=yz4 hi d
 cases hq:δ (L.getD i d).1 x with
 | none =>
  refine ⟨h.so,fun hi p hp z hz=>h.up hi p hp z (by omega),h.sd,h.rg,h.nd,fun j y q hj hjl hd=>?_,h.ze⟩
  by_cases e:j=i∧y=x
  ·obtain ⟨rfl,rfl⟩:=e
   rw [hq] at hd;cases hd
  ·exact h.cl j y q (by omega) hjl hd
 | some q =>
  simp only
  split
  ·rename_i hh
   refine ⟨h.so,fun hi p hp z hz=>h.up hi p hp z (by omega),h.sd,h.rg,h.nd,fun j y q' hj hjl hd=>?_,h.ze⟩
   by_cases e:j=i∧y=x
   ·obtain ⟨rfl,rfl⟩:=e
    rw [hq] at hd;cases hd
    obtain ⟨p,hp,rfl⟩:=(hasG_iff).1 hh
    obtain ⟨k,hk,hg⟩:=Y1b hp
    have hkd:L.getD k d=p:=by rw [Y0,Y2 hk];exact hg
    exact ⟨k,hk,by rw [hkd],by rw [hkd];exact .inl (h.up hi p hp _ (Y1u _))⟩
   ·exact h.cl j y q' (by omega) hjl hd
  ·rename_i hh
   have hgi:(L ++ [(q,(L.getD i d).2 ++ [(x:Int)])]).getD i d=L.getD i d:=yz1u hi
   refine ⟨?_,?_,?_,?_,?_,?_,?_⟩
   ·rw [Y12]
    refine ⟨h.so,by simp,fun a ha b hb=>?_⟩
    have:b=(q,(L.getD i d).2 ++ [(x:Int)]):=by simpa using hb
    subst this
    exact h.up hi a ha _ (Y1u _)
   ·intro _ p hp z hz
    rw [hgi]
    rcases Y4.1 hp with hp | hp
    ·exact h.up hi p hp z (by omega)
    ·have:p=(q,(L.getD i d).2 ++ [(x:Int)]):=by simpa using hp
     subst this
     exact befP_last (by omega)
   ·intro p hp
    rcases Y4.1 hp with hp | hp
    ·exact h.sd p hp
    ·have:p=(q,(L.getD i d).2 ++ [(x:Int)]):=by simpa using hp
     subst this
     obtain ⟨s1,s2⟩:=h.sd _ hm
     refine ⟨by rw [yz8j,s1];exact hq,fun y hy=>?_⟩
     rcases Y4.1 hy with hy | hy
     ·exact s2 y hy
     ·have:y=(x:Int):=by simpa using hy
      omega
   ·intro p hp
    rcases Y4.1 hp with hp | hp
    ·exact h.rg p hp
    ·have:p=(q,(L.getD i d).2 ++ [(x:Int)]):=by simpa using hp
     subst this
     exact hD _ _ _ (h.rg _ hm) hx hq
   ·rw [Yc,Y19]
    refine ⟨h.nd,by simp,fun a ha b hb e=>?_⟩
    have hb:b=q:=by simpa using hb
    obtain ⟨p,hp,rfl⟩:=Y3.1 ha
    exact hh (hasG_iff.2 ⟨p,hp,by rw [e,hb]⟩)
   ·intro j y q' hj hjl hd
    rw [Y5,Y7] at hjl
    by_cases e:j=i∧y=x
    ·obtain ⟨rfl,rfl⟩:=e
     rw [hgi,hq] at hd;cases hd
     exact ⟨L.length,by simp,by rw [yz2p],by rw [yz2p,hgi];exact .inr rfl⟩
    ·have hjl2:j<L.length:=by omega
     rw [yz1u hjl2] at hd ⊢
     obtain ⟨k,k1,k2,k3⟩:=h.cl j y q' (by omega) hjl2 hd
     exact ⟨k,by rw [Y5];omega,by rw [yz1u k1];exact k2,by rw [yz1u k1];exact k3⟩
   ·obtain ⟨p,hp,e⟩:=h.ze
    exact ⟨p,Y4.2 (.inl hp),e⟩
theorem yz4e {p:σ} {w:List Int}:∀ (x:Nat) (L:List (σ×List Int)),∃ t,visG δ p w x L=L ++ t
 | 0,L=>⟨[],by simp [visG]⟩
 | x+1,L=>by
  obtain ⟨t,h⟩:=yz4e (p:=p) (w:=w) x L
  simp only [visG]
  cases δ p x with
  | none=>exact ⟨t,h⟩
  | some q =>
   simp only
   split
   ·exact ⟨t,h⟩
   ·exact ⟨t ++ [(q,w ++ [(x:Int)])],by rw [← Y13,← h]⟩
theorem GI.vis {D:σ→Prop} {m:Nat} {d:σ×List Int} {p0:σ} {i:Nat} {L:List (σ×List Int)} (hD:∀ p y q,D p→y<m→δ p y=some q→D q) (h:GI δ D m d p0 i 0 L) (hi:i<L.length) :
  ∀ x,x≤m→GI δ D m d p0 i x (visG δ (L.getD i d).1 (L.getD i d).2 x L)
 | 0,_=>h
 | x+1,hx=>by
  have h1:=GI.vis hD h hi x (by omega)
  obtain ⟨t,ht⟩:=yz4e (δ:=δ) (p:=(L.getD i d).1) (w:=(L.getD i d).2) x L
  have hl:i<(visG δ (L.getD i d).1 (L.getD i d).2 x L).length:=by rw [ht,Y5];omega
  have hg:(visG δ (L.getD i d).1 (L.getD i d).2 x L).getD i d=L.getD i d:=by rw [ht];exact yz1u hi
  have h2:=h1.next hD hl (by omega)
  rw [hg] at h2
  simp only [visG]
  cases hq:δ (L.getD i d).1 x with
  | none=>rw [hq] at h2;exact h2
  | some q =>
   rw [hq] at h2
   simp only at h2 ⊢
   split
   ·rename_i hh;rw [if_pos hh] at h2;exact h2
   ·rename_i hh;rw [if_neg hh] at h2;exact h2
theorem GI.succ {D:σ→Prop} {m:Nat} {d:σ×List Int} {p0:σ} {i:Nat} {L:List (σ×List Int)} (h:GI δ D m d p0 i m L):GI δ D m d p0 (i+1) 0 L:=by
 refine ⟨h.so,fun hi p hp z _=>?_,h.sd,h.rg,h.nd,fun j y q hj hjl hd=>h.cl j y q (by omega) hjl hd,h.ze⟩
 have h1:=h.up (by omega) p hp m (Y1u _)
 refine yz51 h1 (yz9u ?_)
 have:=Y1g.1 h.so i (i+1) (by omega) hi (by omega)
 rw [Y0,Y0,Y2 hi,Y2 (show i<L.length by omega)]
 exact this
theorem GI.run {D:σ→Prop} {m N:Nat} {d:σ×List Int} {p0:σ} (hD:∀ p y q,D p→y<m→δ p y=some q→D q)
  (hN:∀ L:List (σ×List Int),(L.map (·.1)).Nodup→(∀ p∈L,D p.1)→L.length≤N):∀ (F i:Nat) (L:List (σ×List Int)),GI δ D m d p0 i 0 L→i≤L.length→N<F+i →
  GI δ D m d p0 (runG δ m d F i L).length 0 (runG δ m d F i L)
 | 0,i,L,h,hi,hF=>by
  have:=hN L h.nd h.rg
  omega
 | F+1,i,L,h,hi,hF=>by
  simp only [runG]
  split
  ·rename_i hi1
   have h1:=(GI.vis hD h hi1 m (Y1h _)).succ
   obtain ⟨t,ht⟩:=yz4e (δ:=δ) (p:=(L.getD i d).1) (w:=(L.getD i d).2) m L
   exact GI.run hD hN F (i+1) _ h1 (by rw [ht,Y5];omega) (by omega)
  ·have:i=L.length:=by omega
   rw [← this];exact h
theorem GI.word {D:σ→Prop} {m:Nat} {d:σ×List Int} {p0:σ} {L:List (σ×List Int)} (h:GI δ D m d p0 L.length 0 L):∀ (k:Nat) (v:List Int),v.length=k→(∀ y∈v,0≤y∧y<m)→∀ q,goG δ p0 v=some q →
  ∃ j,j<L.length∧(L.getD j d).1=q∧leP (L.getD j d).2 v
 | 0,v,hk,_,q,hq=>by
  obtain rfl:v=[]:=Yh hk
  simp only [goG,Option.some.injEq] at hq
  obtain ⟨p,hp,e⟩:=h.ze
  obtain ⟨j,hj,hg⟩:=Y1b hp
  have hgd:L.getD j d=p:=by rw [Y0,Y2 hj];exact hg
  exact ⟨j,hj,by rw [hgd,e];exact hq,by rw [hgd,e];exact .inr rfl⟩
 | k+1,v,hk,hv,q,hq=>by
  have hne:v≠[]:=fun e=>by rw [e] at hk;simp at hk
  have e:=List.dropLast_concat_getLast hne
  have hl:=hv _ (List.getLast_mem hne)
  have hq:goG δ p0 (v.dropLast ++ [v.getLast hne])=some q:=by rw [e];exact hq
  rw [yz8j] at hq
  cases hg:goG δ p0 v.dropLast with
  | none=>rw [hg] at hq;cases hq
  | some p =>
   rw [hg] at hq
   simp only [Option.bind_some] at hq
   obtain ⟨j,j1,j2,j3⟩:=GI.word h k v.dropLast (by rw [List.length_dropLast];omega) (fun y hy=>hv y (List.dropLast_subset v hy)) p hg
   obtain ⟨i,i1,i2,i3⟩:=h.cl j (v.getLast hne).toNat q (.inl ⟨j1,by omega⟩) j1 (by rw [j2];exact hq)
   refine ⟨i,i1,i2,yza5 i3 ?_⟩
   have e2:(((v.getLast hne).toNat:Nat):Int)=v.getLast hne:=by omega
   rw [e2]
   have e3:leP ((L.getD j d).2 ++ [v.getLast hne]) (v.dropLast ++ [v.getLast hne]):=by
    rcases j3 with j3 | j3
    ·exact .inl (yz9u j3)
    ·rw [j3];exact .inr rfl
   rw [e] at e3;exact e3
theorem GI.first {D:σ→Prop} {m:Nat} {d:σ×List Int} {p0:σ} {L:List (σ×List Int)} (h:GI δ D m d p0 L.length 0 L) (g:σ→Bool) :
  match L.find? (fun p=>g p.1) with
  | some (q,w)=>goG δ p0 w=some q∧g q=true∧(∀ y∈w,0≤y∧y<m)∧∀ v:List Int,(∀ y∈v,0≤y∧y<m)→∀ q',goG δ p0 v=some q'→g q'=true→befP v w=false
  | none=>∀ v:List Int,(∀ y∈v,0≤y∧y<m)→∀ q',goG δ p0 v=some q'→g q'=false:=by
 cases hf:L.find? (fun p=>g p.1) with
 | none =>
  intro v hv q' hq'
  obtain ⟨j,j1,j2,_⟩:=h.word v.length v rfl hv q' hq'
  have:=List.find?_eq_none.1 hf _ (yz4 j1 d)
  rw [j2] at this;simpa using this
 | some p =>
  obtain ⟨q,w⟩:=p
  have hm:=List.mem_of_find?_eq_some hf
  have hg:=List.find?_some hf
  obtain ⟨s1,s2⟩:=h.sd _ hm
  refine ⟨s1,hg,s2,fun v hv q' hq' hgq=>?_⟩
  obtain ⟨j,j1,j2,j3⟩:=h.word v.length v rfl hv q' hq'
  refine leP_not ?_
  refine yza5 ?_ j3
  obtain ⟨_,la,lb,hab,hno⟩:=List.find?_eq_some_iff_append.1 hf
  have hj:la.length≤j:=by
   rcases Nat.lt_or_ge j la.length with hlt | hge
   ·exfalso
    have hjm:L.getD j d∈la:=by
     rw [hab,Y0,Y10 hlt,Y2 hlt]
     exact Yy hlt
    have:=hno _ hjm
    rw [j2,hgq] at this;simp at this
   ·exact hge
  have hla:la.length<L.length:=by omega
  have hgw:L.getD la.length d=(q,w):=by
   rw [hab,Y0,Yv (Y1h _),Y1l];rfl
  rcases Nat.lt_or_ge la.length j with hlt | hge
  ·have:=Y1g.1 h.so la.length j hla j1 hlt
   have e1:L[la.length]=(q,w):=by rw [← hgw,Y0,Y2 hla];rfl
   have e2:L[j]=L.getD j d:=by rw [Y0,Y2 j1];rfl
   rw [e1,e2] at this
   exact .inl this
  ·have:j=la.length:=by omega
   rw [this,hgw];exact .inr rfl
end
def pop (f:Nat):Nat:=(bitsN f).length
def parF (nr or:List Int) (o:Int) (D:List Nat):List Nat:=D.flatMap fun f=>(dvF nr or o (bitsTo f 10)).1
def clrF (nr or:List Int) (o:Int) (D:List Nat):Bool:=D.all fun f=>(dvF nr or o (bitsTo f 10)).2
def nrmF (ps:List Nat):List Nat:=(Ya 1024).filter fun f=>decide (f∈ps) && !smallN f
def dbtD (next out:List (List Int)) (o:Int) (tells:Bool) (D:List Nat) (x:Nat):Option (List Nat) :=
 if (tells && !(clrF (next.getD x []) (out.getD x []) o D))=true then none else some (nrmF (parF (next.getD x []) (out.getD x []) o D))
theorem yzfe {ps:List Nat} {f:Nat} (hp:∀ f∈ps,f<1024):f∈nrmF ps↔f∈ps∧smallN f=false:=by
 simp only [nrmF,List.mem_filter,Ym,Y20,decide_eq_true_eq,Y24]
 constructor
 ·rintro ⟨_,h⟩;exact h
 ·rintro ⟨h1,h2⟩;exact ⟨hp f h1,h1,h2⟩
theorem nrmF_lt (ps:List Nat):(nrmF ps).Pairwise (·<·):=List.Pairwise.filter _ List.pairwise_lt_range
theorem yzdx:∀ (l:List Nat) (a k:Nat),l.Nodup→(l.filter fun s=>(a ||| 2 ^ k).testBit s).length≤(l.filter fun s=>a.testBit s).length+(if k∈l then 1 else 0)
 | [],_,_,_=>by simp
 | s :: l,a,k,hd=>by
  rw [Y16] at hd
  have ih:=yzdx l a k hd.2
  have e:(a ||| 2 ^ k).testBit s=(a.testBit s || decide (k=s)):=by
   rw [Nat.testBit_or,Nat.testBit_two_pow]
  by_cases hs:k=s
  ·subst hs
   rw [if_neg hd.1] at ih
   rw [if_pos (by simp),List.filter_cons,List.filter_cons,e]
   simp only [decide_true,Bool.or_true,if_true,Ye]
   split
   ·rw [Ye];omega
   ·omega
  ·have hm:(k∈s :: l)↔k∈l:=by simp [hs]
   rw [List.filter_cons,List.filter_cons,e]
   simp only [hs,decide_false,Bool.or_false]
   have:(if k∈s :: l then 1 else 0)=if k∈l then 1 else 0:=by simp only [hm]
   rw [this]
   by_cases hb:a.testBit s=true
   ·simp only [hb,if_true,Ye];omega
   ·simp only [hb,if_false];exact ih
theorem pop_or (a k:Nat):pop (a ||| 2 ^ k)≤pop a+1:=by
 have:=yzdx (Ya 10) a k List.nodup_range
 unfold pop bitsN
 split at this <;> omega
theorem sum_set:∀ (l:List Nat) (i v:Nat),(l.set i v).sum+l.getD i 0≤l.sum+v
 | [],_,_=>by simp
 | a :: l,0,v=>by simp;omega
 | a :: l,i+1,v=>by
  have:=sum_set l i v
  simp only [List.set_cons_succ,List.sum_cons,List.getD_cons_succ];omega
theorem pop_zero:pop 0=0:=by decide
theorem sum_rep (n:Nat):((Yl n 0).map pop).sum=0:=by
 induction n with
 | zero=>rfl
 | succ n ih=>rw [List.replicate_succ,Y1,List.sum_cons,ih,pop_zero]
theorem dvS_sum {nr or:List Int} {D:List Nat×Bool} {s:Int}:((dvS nr or D s).1.map pop).sum≤(D.1.map pop).sum+1:=by
 unfold dvS
 dsimp only
 generalize (or.getD s.toNat 0).toNat=i
 generalize (nr.getD s.toNat 0).toNat=k
 rw [List.map_set]
 have h1:=sum_set (D.1.map pop) i (pop (D.1.getD i 0 ||| 2 ^ k))
 have h2:=pop_or (D.1.getD i 0) k
 have h3:(D.1.map pop).getD i 0=pop (D.1.getD i 0):=by
  rw [Y0,Yd,Y0]
  cases D.1[i]? with
  | none=>exact pop_zero.symm
  | some a=>rfl
 rw [h3] at h1;omega
theorem yz88 {nr or:List Int}:∀ (S:List Int) (D:List Nat×Bool),((S.foldl (dvS nr or) D).1.map pop).sum≤(D.1.map pop).sum+S.length
 | [],D=>by simp
 | s :: S,D=>by
  have h1:=yz88 (nr:=nr) (or:=or) S (dvS nr or D s)
  have h2:=dvS_sum (nr:=nr) (or:=or) (D:=D) (s:=s)
  rw [Ys,Ye];omega
theorem dvF_sum {nr or:List Int} {o:Int} {S:List Int}:((dvF nr or o S).1.map pop).sum≤S.length:=by
 have:=yz88 (nr:=nr) (or:=or) S (Yl o.toNat 0,true)
 rw [sum_rep] at this
 unfold dvF;omega
theorem yz7s {nr or:List Int}:∀ (S:List Int) (D:List Nat×Bool),(S.foldl (dvS nr or) D).1.length=D.1.length
 | [],D=>rfl
 | s :: S,D=>by rw [Ys,yz7s S];simp [dvS]
theorem yzao {nr or:List Int} {o:Int} {S:List Int}:(dvF nr or o S).1.length=o.toNat:=by
 unfold dvF;rw [yz7s];simp
theorem yzbg {nr or:List Int} {n:Nat} (hr:∀ s∈nr,s.toNat<n) (hl:∀ D:List Nat×Bool,True):∀ (S:List Int) (D:List Nat×Bool),(∀ s∈S,s.toNat<nr.length)→(∀ g∈D.1,g<2 ^ n)→∀ g∈(S.foldl (dvS nr or) D).1,g<2 ^ n
 | [],D,_,h=>h
 | s :: S,D,hS,h=>by
  rw [Ys]
  refine yzbg hr hl S _ (fun s hs=>hS s (Yt _ hs)) fun g hg=>?_
  unfold dvS at hg
  dsimp only at hg
  rcases List.mem_or_eq_of_mem_set hg with hg | rfl
  ·exact h g hg
  ·refine Nat.or_lt_two_pow ?_ (Nat.pow_lt_pow_right (by omega) (hr _ (yz4 (hS s (by simp)) 0)))
   by_cases hi:(or.getD s.toNat 0).toNat<D.1.length
   ·exact h _ (yz4 hi 0)
   ·rw [Y0,Y1c (by omega)];exact Y1r n
theorem dvF_lt {nr or:List Int} {o:Int} {n:Nat} {S:List Int} (hr:∀ s∈nr,s.toNat<n) (hS:∀ s∈S,s.toNat<nr.length):∀ g∈(dvF nr or o S).1,g<2 ^ n:=by
 refine yzbg hr (fun _=>trivial) S _ hS fun g hg=>?_
 rw [(List.mem_replicate.1 hg).2];exact Y1r n
theorem yzfj {nr or:List Int} {o:Int}:∀ {D:List Nat},((parF nr or o D).map pop).sum≤(D.map pop).sum
 | []=>by simp [parF]
 | f :: D=>by
  have h1:=yzfj (nr:=nr) (or:=or) (o:=o) (D:=D)
  have h2:=dvF_sum (nr:=nr) (or:=or) (o:=o) (S:=bitsTo f 10)
  have h3:(bitsTo f 10).length=pop f:=by unfold bitsTo pop bitsN;simp
  unfold parF at h1 ⊢
  rw [List.flatMap_cons,Yc,List.sum_append,Y1,List.sum_cons];omega
theorem sum_sub (g:Nat→Nat):∀ {q ps:List Nat},q.Nodup→(∀ f∈q,f∈ps)→(q.map g).sum≤(ps.map g).sum
 | [],_,_,_=>by simp
 | a :: q,ps,hd,h=>by
  rw [Y16] at hd
  have ha:=h a (by simp)
  have h1:=(List.perm_cons_erase ha)
  have h2:(ps.map g).sum=((a :: ps.erase a).map g).sum:=(h1.map g).sum_nat
  rw [h2,Y1,List.sum_cons,Y1,List.sum_cons]
  have h3:=sum_sub g (q:=q) (ps:=ps.erase a) hd.2 fun f hf=>(List.mem_erase_of_ne (fun e=>hd.1 (by rw [← e];exact hf))).2 (h f (Yt _ hf))
  omega
theorem len_sub {α:Type} [DecidableEq α]:∀ {q ps:List α},q.Nodup→(∀ f∈q,f∈ps)→q.length≤ps.length
 | [],_,_,_=>by simp
 | a :: q,ps,hd,h=>by
  rw [Y16] at hd
  have ha:=h a (by simp)
  have h1:=(List.perm_cons_erase ha).length_eq
  have h3:=len_sub (q:=q) (ps:=ps.erase a) hd.2 fun f hf=>(List.mem_erase_of_ne (fun e=>hd.1 (by rw [← e];exact hf))).2 (h f (Yt _ hf))
  rw [Ye] at h1 ⊢;omega
structure DB (n:Nat) (q:List Nat):Prop where
 lt:q.Pairwise (·<·)
 el:∀ f∈q,f<2 ^ n∧smallN f=false
 sm:(q.map pop).sum≤n
theorem two_sum:∀ {q:List Nat},(∀ f∈q,f<1024∧smallN f=false)→2 * q.length≤(q.map pop).sum
 | [],_=>by simp
 | f :: q,h=>by
  have h1:=two_sum (q:=q) fun g hg=>h g (Yt _ hg)
  obtain ⟨h2,h3⟩:=h f (by simp)
  rw [yz8a f h2] at h3
  have:¬ (bitsN f).length≤1:=by simpa using h3
  rw [Y1,List.sum_cons,Ye]
  unfold pop at h1 ⊢;omega
theorem DB.len {n:Nat} {q:List Nat} (h:DB n q) (hn:n≤10):2 * q.length≤n:=by
 have hN:2 ^ n≤1024:=Y1k (n:=2) (by omega) (show n≤10 by omega)
 have:=two_sum (q:=q) fun f hf=>⟨Y1i (h.el f hf).1 hN,(h.el f hf).2⟩
 have:=h.sm;omega
theorem DB.nil (n:Nat):DB n []:=⟨by simp,by simp,by simp⟩
theorem parF_lt {nr or:List Int} {o:Int} {n:Nat} {D:List Nat} (hr:∀ s∈nr,s.toNat<n) (hnl:nr.length=n) (hD:∀ f∈D,f<2 ^ n):∀ g∈parF nr or o D,g<2 ^ n:=by
 intro g hg
 obtain ⟨f,hf,hg⟩:=Yz.1 hg
 refine dvF_lt hr (fun s hs=>?_) g hg
 obtain ⟨k,hk,rfl⟩:=Y3.1 (show s∈(bitsN f).map (fun (s:Nat)=>(s:Int)) from hs)
 have h2:=Nat.ge_two_pow_of_testBit (mem_bits.1 hk).2
 have h3:k<n:=(Nat.pow_lt_pow_iff_right (a:=2) (by omega)).1 (Nat.lt_of_le_of_lt h2 (hD f hf))
 rw [hnl];omega
theorem DB.next {n:Nat} {q:List Nat} (h:DB n q) (hn:n≤10) {nr or:List Int} {o:Int} (hr:∀ s∈nr,s.toNat<n) (hnl:nr.length=n):DB n (nrmF (parF nr or o q)):=by
 have hN:2 ^ n≤1024:=Y1k (n:=2) (by omega) (show n≤10 by omega)
 have hlt:=parF_lt (or:=or) (o:=o) hr hnl fun f hf=>(h.el f hf).1
 have hm:=fun f=>yzfe (f:=f) fun g hg=>Y1i (hlt g hg) hN
 refine ⟨nrmF_lt _,fun f hf=>⟨hlt f ((hm f).1 hf).1,((hm f).1 hf).2⟩,?_⟩
 have h1:=sum_sub pop (q:=nrmF (parF nr or o q)) (ps:=parF nr or o q) ((nrmF_lt _).imp fun h=>Nat.ne_of_lt h) fun f hf=>((hm f).1 hf).1
 have h2:=yzfj (nr:=nr) (or:=or) (o:=o) (D:=q)
 have h3:=h.sm
 omega
theorem DB_all {n:Int} (n1:1≤n) (n2:n≤10) (hn:n > 1):DB n.toNat [2 ^ n.toNat - 1]:=by
 have key:∀ k:Fin 11,2≤k.val→smallN (2 ^ k.val - 1)=false∧pop (2 ^ k.val - 1)=k.val:=by decide +kernel
 obtain ⟨k1,k2⟩:=key ⟨n.toNat,by omega⟩ (by show 2≤n.toNat;omega)
 have hp:=Y1r n.toNat
 refine ⟨by simp,fun f hf=>?_,?_⟩
 ·rw [Y9.1 hf];exact ⟨by omega,k1⟩
 ·have k2:pop (2 ^ n.toNat - 1)=n.toNat:=k2
  simp [k2]
theorem vis_in {C:Int→Prop} {s:Int}:∀ {rs:List (List Int)} {l:List Int},(∀ row∈rs,C (row.getD s.toNat 0))→(∀ x∈l,C x)→∀ x∈visK s rs l,C x
 | [],_,_,h=>h
 | row :: rs,l,hr,h=>by
  refine vis_in (rs:=rs) (fun r hm=>hr r (by simp [hm])) fun x hx=>?_
  unfold addL at hx
  split at hx
  ·exact h x hx
  ·rcases Y4.1 hx with hx | hx
   ·exact h x hx
   ·rw [Y9.1 hx];exact hr row (by simp)
theorem runL_in {C:Int→Prop} {next:List (List Int)} (hC:∀ x,C x→∀ row∈next,C (row.getD x.toNat 0)):∀ (f:Nat) {l:List Int} {i:Nat},(∀ x∈l,C x)→∀ x∈runL next f l i,C x
 | 0,_,_,h=>h
 | f+1,l,i,h=>by
  simp only [runL]
  split
  ·rename_i hi
   exact runL_in hC f (vis_in (hC _ (h _ (yz4 hi 0))) h)
  ·exact h
theorem reach_min {C:Int→Prop} {n s:Int} {next:List (List Int)} (hC:∀ x,C x→∀ row∈next,C (row.getD x.toNat 0)) (hs:C s):∀ x∈reachL n next s,C x :=
 runL_in hC _ fun x hx=>by rw [Y9.1 hx];exact hs
theorem allS_mem {n t:Int}:t∈allS n↔0≤t∧t<n:=by
 unfold allS
 rw [Y3]
 constructor
 ·rintro ⟨k,hk,rfl⟩
  have:=Ym.1 hk
  omega
 ·rintro ⟨h1,h2⟩
  exact ⟨t.toNat,Ym.2 (by omega),by omega⟩
theorem yzd8 {n:Int} {next:List (List Int)} (A:Aut n next) {s x:Int} (hs:0≤s∧s<n) (hx:0≤x∧x<next.length):0≤stepA next s x∧stepA next s x<n:=by
 have h:=A.row _ (yz4 (show x.toNat<next.length by omega) [])
 exact h.2 _ (yz4 (by omega) 0)
theorem atA_in {n:Int} {next:List (List Int)} (A:Aut n next):∀ {w:List Int} {s:Int},(0≤s∧s<n)→IsW next.length w→0≤atA next s w∧atA next s w<n
 | [],_,hs,_=>hs
 | x :: w,s,hs,hw=>atA_in A (w:=w) (s:=stepA next s x) (yzd8 A hs (hw x (by simp))) fun y hy=>hw y (by simp [hy])
def Per (n:Int) (next:List (List Int)) (far:Int→Int) (p:Int):Prop:=∀ s x,0≤s∧s<n→0≤x∧x<(next.length:Int)→p ∣ far s+1 - far (stepA next s x)
theorem Per.word {n p:Int} {next:List (List Int)} {far:Int→Int} (A:Aut n next) (h:Per n next far p):∀ {w:List Int} {s:Int},(0≤s∧s<n)→IsW next.length w→p ∣ far s+w.length - far (atA next s w)
 | [],s,_,_=>by
  have e:far s+(([]:List Int).length:Int) - far (atA next s [])=0:=by simp [atA]
  rw [e];exact Int.dvd_zero p
 | x :: w,s,hs,hw=>by
  have hx:=hw x (by simp)
  have h1:=h s x hs hx
  have h2:=Per.word A h (w:=w) (s:=stepA next s x) (yzd8 A hs hx) fun y hy=>hw y (by simp [hy])
  have e:far s+((x :: w).length:Int) - far (atA next s (x :: w))=(far s+1 - far (stepA next s x))+(far (stepA next s x)+(w.length:Int) - far (atA next (stepA next s x) w)):=by
   have e2:atA next s (x :: w)=atA next (stepA next s x) w:=rfl
   rw [e2,Ye];omega
  rw [e];exact Int.dvd_add h1 h2
theorem Per.loop {n p s:Int} {next:List (List Int)} {far:Int→Int} (A:Aut n next) (h:Per n next far p) {w:List Int} (hs:0≤s∧s<n) (hw:IsW next.length w) (e:atA next s w=s):p ∣ (w.length:Int):=by
 have:=h.word A hs hw
 rw [e] at this
 rwa [show far s+(w.length:Int) - far s=w.length by omega] at this
theorem Per.pos {n p:Int} {next:List (List Int)} {far:Int→Int} (A:Aut n next) (h:Per n next far p):p≠0:=by
 intro hp
 subst hp
 have n1:=A.n1
 have l1:=A.l1
 have hW:∀ k:Nat,IsW next.length (Yl k 0):=fun k x hx=>by rw [List.eq_of_mem_replicate hx];omega
 have hf:∀ k:Nat,far (atA next 0 (Yl k 0))=far 0+k:=fun k=>by
  have:=Int.zero_dvd.1 (h.word A (s:=0) ⟨Y1u 0,by omega⟩ (hW k))
  rw [List.length_replicate] at this;omega
 have hl:=len_sub (q:=(Ya (n.toNat+1)).map fun k=>atA next 0 (Yl k 0)) (ps:=allS n) (by
  refine (List.pairwise_map.2 (List.nodup_range.imp fun {a b} hne e=>hne ?_))
  have h1:=hf a
  have h2:=hf b
  rw [e] at h1;omega) fun t ht=>by
  obtain ⟨k,_,rfl⟩:=Y3.1 ht
  exact allS_mem.2 (atA_in A ⟨Y1u 0,by omega⟩ (hW k))
 unfold allS at hl
 rw [Y6,List.length_range,Y6,List.length_range] at hl
 omega
end Go.Ab
namespace Go.Ab
open Go.Proofs
def conB (n:Int) (next:List (List Int)):Bool:=(Ya n.toNat).all fun (s:Nat)=>!decide (((nrm (reachL n next s)).length:Int)<n)
theorem yz7z (n:Int) (next:List (List Int)) (A:Aut n next):Fun Tryz.prog nz5k [autA n next] (bv (conB n next)):=by
 refine yzd mixed czss rfl ⟨rfl,trivial⟩ ?_
 have n1:=A.n1
 have n2:=A.n2
 simp only [Azkr,Bzkq,Bzko,go_sem,yz0,J9,J8,J6,J7,J5,J0,J1,J2,reduceIte,J3,J4,reduceCtorEq]
 intro vs
 refine yzo (fun s=>n.toNat - s) (fun s=>s≤n.toNat∧((Ya s).all fun (s:Nat)=>!decide (((nrm (reachL n next s)).length:Int)<n))=true)
  (fun s:Nat=>⟨L .any [(1,.ptr 1 (vs 0 0) 0),(5,iv n),(6,iv s)],L .gone [(1,.box (vs 0 0) [iv n,.ro none 1 (rwn next)])]⟩) 0 ⟨by omega,rfl⟩ (by simp only [Bz3u,go_sem,yz0,J9,J8,J6,J7,J5,J0,J1,J2,reduceIte,J3,J4,reduceCtorEq];try rfl) ?_
 rintro s ⟨hs,ha⟩
 by_cases hlt:(s:Int)<n
 ·simp only [Bz3u,Bz9j,Bzkn,Bzkl,decide_eq_true hlt,go_sem,yz0,J9,J8,J6,J7,J5,J0,J1,J2,reduceIte,J3,J4,reduceCtorEq]
  intro vs2
  refine yzm (k_reached n next s A (by omega)) qCS qGN ⟨_,rfl⟩ ?_
  rintro ys v rfl
  simp only [go_sem,yz0,J9,J8,J6,J7,J5,J0,J1,J2,reduceIte,J3,J4,reduceCtorEq]
  refine yz5 (k_size (nrm (reachL n next s))) qCS trivial ?_
  have ws:IntKind.i64.wrap ((s:Int)+1)=((s+1:Nat):Int):=by rw [w64 (by omega)];simp
  by_cases hd:((nrm (reachL n next s)).length:Int)<n
  ·simp only [Bz9i,decide_eq_true hd,go_sem,yz0,J9,J8,J6,J7,J5,J0,J1,J2,reduceIte,J3,J4,reduceCtorEq]
   have:conB n next=false:=by
    rw [Bool.eq_false_iff]
    intro h
    have:=Yo.1 h s (Ym.2 (by omega))
    rw [decide_eq_true hd] at this;cases this
   rw [this]
  ·simp only [Bz9i,Bzkm,decide_eq_false hd,ws,go_sem,yz0,J9,J8,J6,J7,J5,J0,J1,J2,reduceIte,J3,J4,reduceCtorEq]
   exact ⟨s+1,by omega,⟨by omega,by rw [List.range_succ,List.all_append,ha];simp [decide_eq_false hd]⟩,rfl⟩
 ·obtain rfl:s=n.toNat:=by omega
  simp only [Bz3u,Bz9j,Bzkp,decide_eq_false hlt,go_sem,yz0,J9,J8,J6,J7,J5,J0,J1,J2,reduceIte,J3,J4,reduceCtorEq]
  unfold conB
  rw [ha]
end Go.Ab
namespace Go.Ab
def divS:Int→List Int→Bool
 | _,[]=>true
 | u,c :: cs=>(decide (0≤c) && decide (c≤u)) && divS (max u (c+1)) cs
def usedS:Int→List Int→Int
 | u,[]=>u
 | u,c :: cs=>usedS (max u (c+1)) cs
def divB (cl:List Int) (n:Int):Bool:=divS 0 cl && decide ((cl.length:Int)=n)
theorem yzf5:∀ {cs:List Int} {u:Int},u≤usedS u cs
 | [],_=>Y1u _
 | c :: cs,u=>by
  have:=yzf5 (cs:=cs) (u:=max u (c+1))
  simp only [usedS];omega
theorem yz59:∀ {cs:List Int} {u c:Int},c∈cs→c+1≤usedS u cs
 | x :: cs,u,c,h=>by
  simp only [usedS]
  rcases Y8.1 h with rfl | h
  ·have:=yzf5 (cs:=cs) (u:=max u (c+1));omega
  ·exact yz59 h
theorem divS_cons {u c:Int} {cs:List Int}:divS u (c :: cs)=true↔(0≤c∧c≤u)∧divS (max u (c+1)) cs=true:=by
 simp [divS,Y20,decide_eq_true_eq]
theorem div_nn:∀ {cs:List Int} {u c:Int},divS u cs=true→c∈cs→0≤c
 | x :: cs,u,c,h,hc=>by
  obtain ⟨h1,h2⟩:=divS_cons.1 h
  rcases Y8.1 hc with rfl | hc
  ·exact h1.1
  ·exact div_nn h2 hc
theorem yze1:∀ {cs:List Int} {u c:Int},divS u cs=true→u≤c→c<usedS u cs→c∈cs
 | [],u,c,_,h1,h2=>by simp only [usedS] at h2;omega
 | x :: cs,u,c,h,h1,h2=>by
  obtain ⟨g1,g2⟩:=divS_cons.1 h
  simp only [usedS] at h2
  by_cases e:c=x
  ·rw [e];simp
  ·exact Yt _ (yze1 g2 (by omega) h2)
theorem yzca:∀ {cs:List Int} {u:Int},divS u cs=true→usedS u cs≤u+cs.length
 | [],u,_=>by simp [usedS]
 | x :: cs,u,h=>by
  obtain ⟨g1,g2⟩:=divS_cons.1 h
  have:=yzca g2
  simp only [usedS,Ye];omega
theorem yz9y:∀ {cs:List Int} {u c:Int},divS u (cs ++ [c])=(divS u cs && (decide (0≤c) && decide (c≤usedS u cs)))
 | [],u,c=>by simp only [List.nil_append,divS,usedS,Bool.and_true,Bool.true_and];rfl
 | x :: cs,u,c=>by simp only [Yu,divS,usedS,yz9y (cs:=cs),Bool.and_assoc];rfl
theorem yz6d:∀ {cs:List Int} {u c:Int},usedS u (cs ++ [c])=max (usedS u cs) (c+1)
 | [],u,c=>rfl
 | x :: cs,u,c=>by simp only [Yu,usedS,yz6d (cs:=cs)]
structure Div (cl:List Int) (n k:Int):Prop where
 ln:(cl.length:Int)=n
 nn:∀ c∈cl,0≤c∧c<k
 on:∀ c,0≤c→c<k→c∈cl
 le:k≤n
theorem Div.of {cl:List Int} {n:Int} (h:divB cl n=true):Div cl n (usedS 0 cl):=by
 unfold divB at h
 rw [Y20,decide_eq_true_eq] at h
 exact ⟨h.2,fun c hc=>⟨div_nn h.1 hc,by have:=yz59 (u:=0) hc;omega⟩,fun c h1 h2=>yze1 h.1 h1 h2,by have:=yzca h.1;omega⟩
theorem Div.at {cl:List Int} {n k:Int} (D:Div cl n k) {s:Nat} (hs:(s:Int)<n):0≤cl.getD s 0∧cl.getD s 0<k:=D.nn _ (yz4 (by have:=D.ln;omega) 0)
theorem Div.pos {cl:List Int} {n k:Int} (D:Div cl n k) (hn:1≤n):1≤k:=by
 have:=D.at (s:=0) (by omega);omega
end Go.Ab
namespace Go.Ab
open Go.Proofs
structure TidP (xs ys:List Int):Prop where
 ln:ys.length≤xs.length
 dv:divS 0 ys=true
 eq:∀ i j,i<ys.length→j<ys.length→(ys.getD i 0=ys.getD j 0↔xs.getD i 0=xs.getD j 0)
theorem TidP.nil {xs:List Int}:TidP xs []:=⟨by simp,rfl,by simp⟩
theorem yz12 {ys:List Int} {c:Int} {i:Nat} (h:i<ys.length):(ys ++ [c]).getD i 0=ys.getD i 0:=by
 rw [Y0,Y10 h,← Y0]
theorem yz2m {ys:List Int} {c:Int}:(ys ++ [c]).getD ys.length 0=c:=by
 rw [Y0,Yv (Y1h _)];simp
theorem TidP.add {xs ys:List Int} {c:Int} (T:TidP xs ys) (hlt:ys.length<xs.length) (hd:0≤c∧c≤usedS 0 ys) (he:∀ i<ys.length,(ys.getD i 0=c↔xs.getD i 0=xs.getD ys.length 0)):TidP xs (ys ++ [c]):=by
 refine ⟨by simp;omega,by rw [yz9y,T.dv];simp [hd],fun i j hi hj=>?_⟩
 rw [Y5,Y7] at hi hj
 by_cases h1:i<ys.length
 ·by_cases h2:j<ys.length
  ·rw [yz12 h1,yz12 h2];exact T.eq i j h1 h2
  ·obtain rfl:j=ys.length:=by omega
   rw [yz12 h1,yz2m];exact he i h1
 ·obtain rfl:i=ys.length:=by omega
  by_cases h2:j<ys.length
  ·rw [yz12 h2,yz2m]
   constructor
   ·intro h;exact ((he j h2).1 h.symm).symm
   ·intro h;exact ((he j h2).2 h.symm).symm
  ·obtain rfl:j=ys.length:=by omega
   simp
theorem TidP.new {xs ys:List Int} (T:TidP xs ys) (hlt:ys.length<xs.length) (h:∀ k<ys.length,xs.getD k 0≠xs.getD ys.length 0):TidP xs (ys ++ [usedS 0 ys]):=by
 refine T.add hlt ⟨yzf5,Y1u _⟩ fun i hi=>⟨fun e=>?_,fun e=>absurd e (h i hi)⟩
 have:=yz59 (u:=0) (yz4 hi 0)
 omega
theorem TidP.old {xs ys:List Int} (T:TidP xs ys) (hlt:ys.length<xs.length) {k:Nat} (hk:k<ys.length) (h:xs.getD k 0=xs.getD ys.length 0):TidP xs (ys ++ [ys.getD k 0]):=by
 have hm:=yz4 hk 0
 refine T.add hlt ⟨div_nn T.dv hm,by have:=yz59 (u:=0) hm;omega⟩ fun i hi=>?_
 rw [T.eq i k hi hk,h]
end Go.Ab
namespace Go.Ab
end Go.Ab
namespace Go.Ab
theorem yzem {α:Type} {xs:List α} {y d:α}:(xs ++ [y]).getD xs.length d=y:=by
 simp [Y0]
end Go.Ab
namespace Go.Ab
structure CI (n:Int) (L:List Int):Prop where
 nd:L.Nodup
 rg:∀ s∈L,0≤s∧s<n
 hd:L.getD 0 1=0
theorem CI.len {n:Int} {L:List Int} (h:CI n L) (hn:n≤10):1≤L.length∧L.length≤10:=by
 have h1:L≠[]:=fun e=>by have:=h.hd;rw [e] at this;simp at this
 have hm:(L.map Int.toNat).Nodup:=by
  refine List.Pairwise.map _ ?_ (List.Pairwise.and_mem.1 h.nd)
  rintro a b ⟨ha,hb,hab⟩ e
  have:=h.rg a ha
  have:=h.rg b hb
  omega
 have:=yz3h 10 _ hm fun x hx=>by
  obtain ⟨s,hs,rfl⟩:=Y3.1 hx
  have:=h.rg s hs
  omega
 rw [Y6] at this
 exact ⟨List.length_pos_iff.2 h1,this⟩
structure Rel (na oa nb ob:List (List Int)) (R:Int→Int→Prop):Prop where
 len:na.length=nb.length
 step:∀ s t,R s t→∀ x,0≤x∧x<(na.length:Int)→outA oa s x=outA ob t x∧R (stepA na s x) (stepA nb t x)
 fn:∀ s t t',R s t→R s t'→t=t'
 inj:∀ s s' t,R s t→R s' t→s=s'
def RelL (R:Int→Int→Prop) (L M:List Int):Prop:=L.length=M.length∧∀ i<L.length,R (L.getD i 0) (M.getD i 0)
theorem RelL.snoc {R:Int→Int→Prop} {L M:List Int} (h:RelL R L M) {s t:Int} (hst:R s t):RelL R (L ++ [s]) (M ++ [t]):=by
 refine ⟨by simp [h.1],fun i hi=>?_⟩
 rw [Y5,Y7] at hi
 by_cases e:i<L.length
 ·rw [yz6b e,yz6b (by rw [← h.1];exact e)];exact h.2 i e
 ·have e1:i=L.length:=by omega
  subst e1
  rw [yzem]
  rw [h.1,yzem];exact hst
end Go.Ab
namespace Go.Ab
end Go.Ab
namespace Go.Ab
open Go.Proofs
abbrev MachR (n o:Int) (xs ys:List (List Int)) (rows:List AObj) (res:AVal):Prop :=
 ∃ v w ps qs,rows=[.row v 1 true (rwp ps),.row w 1 true (rwp qs)]∧ps.map (·.2)=xs∧qs.map (·.2)=ys∧DJ (ps ++ qs)∧res=.st [iv n,iv o,.own 6000 v,.own 6001 w]
abbrev NamM (P:Program) (g:FuncId) (args:List AVal) (n o:Int) (xs ys:List (List Int)):Prop:=Fn P g args (MachR n o xs ys)
end Go.Ab
namespace Go.Ab
open Go.Proofs
end Go.Ab
namespace Go.Ab
open Go.Proofs
abbrev MachS (n o:Int) (xs ys:List (List Int)) (rows:List AObj) (res:AVal):Prop :=
 ∃ v w,rows=[.row v 1 true (rws xs),.row w 1 true (rws ys)]∧res=.st [iv n,iv o,.own 6000 v,.own 6001 w]
theorem NamM.dn {P:Program} {g:FuncId} {args:List AVal} {n o:Int} {xs ys:List (List Int)} (h:NamM P g args n o xs ys):Fn P g args (MachS n o xs ys):=by
 refine Con.dnr h ?_
 rintro o' r x ⟨rfl,v,w,ps,qs,rfl,rfl,rfl,_,rfl⟩
 refine ⟨rfl,v,w,?_,?_⟩
 ·simp only [Y1,Yb,AObj.dn,yzaf]
 ·simp only [AVal.dn,dnL]
abbrev MachRC (ok:Bool) (n o:Int) (xs ys:List (List Int)) (code:Int) (rows:List AObj) (res:AVal):Prop :=
 if ok=true then ∃ v w ps qs,rows=[.row v 1 true (rwp ps),.row w 1 true (rwp qs)]∧ps.map (·.2)=xs∧qs.map (·.2)=ys∧DJ (ps ++ qs)∧res=.tup [.st [iv n,iv o,.own 6000 v,.own 6001 w],iv code]
 else rows=[]∧res=.tup [.st [iv 0,iv 0,nilS,nilS],iv code]
abbrev NamMR (P:Program) (g:FuncId) (args:List AVal) (ok:Bool) (n o:Int) (xs ys:List (List Int)) (code:Int):Prop:=Fn P g args (MachRC ok n o xs ys code)
abbrev MachSC (n o:Int) (xs ys:List (List Int)) (rows:List AObj) (res:AVal):Prop :=
 ∃ v w,rows=[.row v 1 true (rws xs),.row w 1 true (rws ys)]∧res=.tup [.st [iv n,iv o,.own 6000 v,.own 6001 w],iv 0]
theorem NamMR.dn {P:Program} {g:FuncId} {args:List AVal} {ok:Bool} {n o:Int} {xs ys:List (List Int)} {code:Int} (h:NamMR P g args ok n o xs ys code) (hok:ok=true) (hc:code=0):Fn P g args (MachSC n o xs ys):=by
 subst hok hc
 refine Con.dnr h ?_
 rintro o' r x ⟨rfl,hR⟩
 unfold MachRC at hR
 rw [if_pos rfl] at hR
 obtain ⟨v,w,ps,qs,rfl,rfl,rfl,_,rfl⟩:=hR
 refine ⟨rfl,v,w,?_,?_⟩
 ·simp only [Y1,Yb,AObj.dn,yzaf]
 ·simp only [AVal.dn,dnL]
end Go.Ab
namespace Go.Ab
open Go.Proofs
structure NumI (cl K ys:List Int) (i:Nat):Prop where
 t:TidP cl ys
 ln:ys.length=i
 nd:K.Nodup
 us:usedS 0 ys=K.length
 a:∀ j<i,K.getD (ys.getD j 0).toNat 0=cl.getD j 0
 b:∀ m:Nat,m<K.length→∃ j<i,ys.getD j 0=m
theorem NumI.rg {cl K ys:List Int} {i:Nat} (I:NumI cl K ys i) {j:Nat} (hj:j<i):0≤ys.getD j 0∧ys.getD j 0<K.length:=by
 have hm:=yz4 (show j<ys.length by rw [I.ln];exact hj) (0:Int)
 have h1:=div_nn I.t.dv hm
 have h2:=yz59 (u:=0) hm
 rw [I.us] at h2
 omega
theorem NumI.new {cl K ys:List Int} {i:Nat} (I:NumI cl K ys i) (hi:i<cl.length) (h:cl.getD i 0 ∉ K):NumI cl (K ++ [cl.getD i 0]) (ys ++ [(K.length:Int)]) (i+1):=by
 have hln:=I.ln
 have hT:=I.t.new (by omega) (fun k hk e=>h (by
  rw [hln] at e hk
  have h1:=I.rg hk
  rw [← e,← I.a k hk]
  exact yz4 (by omega) 0))
 rw [I.us] at hT
 refine ⟨hT,by simp [hln],?_,by rw [yz6d,I.us];simp;omega,fun j hj=>?_,fun m hm=>?_⟩
 ·refine Y19.2 ⟨I.nd,by simp,fun x hx y hy=>?_⟩
  rw [Y9.1 hy];exact fun e=>h (e ▸ hx)
 ·by_cases e:j<i
  ·have h1:=I.rg e
   have e1:(ys ++ [(K.length:Int)]).getD j 0=ys.getD j 0:=yz12 (by omega)
   have e2:(K ++ [cl.getD i 0]).getD (ys.getD j 0).toNat 0=K.getD (ys.getD j 0).toNat 0:=yz12 (by omega)
   rw [e1,e2]
   exact I.a j e
  ·obtain rfl:j=i:=by omega
   have e2:(ys ++ [(K.length:Int)]).getD j 0=K.length:=by rw [← hln];exact yz2m
   rw [e2,Y1t]
   exact yz2m
 ·rw [Y5,Y7] at hm
  by_cases e:m<K.length
  ·obtain ⟨j,h1,h2⟩:=I.b m e
   exact ⟨j,by omega,by rw [yz12 (by omega)];exact h2⟩
  ·obtain rfl:m=K.length:=by omega
   exact ⟨i,by omega,by rw [← hln];exact yz2m⟩
theorem NumI.old {cl K ys:List Int} {i m:Nat} (I:NumI cl K ys i) (hi:i<cl.length) (hm:m<K.length) (h:K.getD m 0=cl.getD i 0):NumI cl K (ys ++ [(m:Int)]) (i+1):=by
 have hln:=I.ln
 obtain ⟨j0,h1,h2⟩:=I.b m hm
 have h3:=I.a j0 h1
 rw [h2,Y1t,h] at h3
 have hT:=I.t.old (by omega) (show j0<ys.length by omega) (by rw [hln];exact h3.symm)
 rw [h2] at hT
 refine ⟨hT,by simp [hln],I.nd,by rw [yz6d,I.us];omega,fun j hj=>?_,fun m' hm'=>?_⟩
 ·by_cases e:j<i
  ·rw [yz12 (by omega)];exact I.a j e
  ·obtain rfl:j=i:=by omega
   have e2:(ys ++ [(m:Int)]).getD j 0=m:=by rw [← hln];exact yz2m
   rw [e2,Y1t];exact h
 ·obtain ⟨j,g1,g2⟩:=I.b m' hm'
  exact ⟨j,by omega,by rw [yz12 (by omega)];exact g2⟩
end Go.Ab
namespace Go.Ab
theorem yz3y {l:List Int} {i j:Nat} {v:Int}:(l.set i v).getD j 0=if i=j∧i<l.length then v else l.getD j 0:=by
 rw [Y0,List.getElem?_set,Y0]
 by_cases e:i=j
 ·subst e
  by_cases h:i<l.length
  ·rw [if_pos rfl,if_pos h,if_pos ⟨rfl,h⟩];rfl
  ·rw [if_pos rfl,if_neg h,if_neg (fun g=>h g.2),Y1c (by omega)]
 ·rw [if_neg e,if_neg (fun g=>e g.1)]
structure Ext (P Q:List Int):Prop where
 len:Q.length=P.length
 eq:∀ k,0≤P.getD k 0→Q.getD k 0=P.getD k 0
theorem Ext.refl (P:List Int):Ext P P:=⟨rfl,fun _ _=>rfl⟩
theorem Ext.trans {P Q R:List Int} (h:Ext P Q) (g:Ext Q R):Ext P R :=
 ⟨g.len.trans h.len,fun k hk=>by have e:=h.eq k hk;rw [g.eq k (by omega),e]⟩
theorem Ext.set {P:List Int} {i:Nat} {s:Int} (hi:P.getD i 0<0):Ext P (P.set i s) :=
 ⟨by simp,fun k hk=>by
  rw [yz3y,if_neg (fun e=>by rw [e.1] at hi;omega)]⟩
def Ed (na nb:List (List Int)) (Q:List Int) (k:Nat):Prop:=∀ l:Nat,l<na.length→Q.getD (stepA nb k l).toNat 0=stepA na (Q.getD k 0) l
theorem Ed.ext {na nb:List (List Int)} {Q R:List Int} {k:Nat} (hA:∀ s l,0≤stepA na s l) (h:Ed na nb Q k) (hk:0≤Q.getD k 0) (g:Ext Q R):Ed na nb R k:=fun l hl=>by
 have e:=h l hl
 rw [g.eq k hk,g.eq _ (by rw [e];exact hA _ _),e]
structure Iso (na nb:List (List Int)) (ph:List Int):Prop where
 nn:∀ x∈ph,0≤x
 nd:ph.Nodup
 ed:∀ k:Nat,k<ph.length→∀ l:Nat,l<na.length→(stepA nb k l).toNat<ph.length∧ph.getD (stepA nb k l).toNat 0=stepA na (ph.getD k 0) l
structure Sub (P ph:List Int):Prop where
 len:P.length=ph.length
 eq:∀ k,k<ph.length→0≤P.getD k 0→P.getD k 0=ph.getD k 0
theorem Sub.set {P ph:List Int} {i:Nat} (h:Sub P ph):Sub (P.set i (ph.getD i 0)) ph :=
 ⟨by rw [List.length_set];exact h.len,fun k hk h0=>by
  rw [yz3y] at h0 ⊢
  by_cases e:i=k∧i<P.length
  ·rw [if_pos e,e.1]
  ·rw [if_neg e] at h0 ⊢;exact h.eq k hk h0⟩
structure Prt2 (n:Int) (P:List Int):Prop where
 len:P.length=n.toNat
 rg:∀ x∈P,-1≤x∧x<n
 inj:∀ j k,j<P.length→k<P.length→0≤P.getD j 0→P.getD j 0=P.getD k 0→j=k
theorem Prt2.set {n:Int} {P:List Int} {i:Nat} {s:Int} (h:Prt2 n P) (hs:0≤s∧s<n) (hn:s ∉ P):Prt2 n (P.set i s):=by
 have hm:∀ k,k<P.length→P.getD k 0≠s:=fun k hk e=>hn (by rw [← e];exact yz4 hk 0)
 refine ⟨by rw [List.length_set];exact h.len,fun x hx=>?_,fun j k hj hk h0 e=>?_⟩
 ·rcases List.mem_or_eq_of_mem_set hx with hx | rfl
  ·exact h.rg x hx
  ·omega
 ·rw [List.length_set] at hj hk
  rw [yz3y] at h0 e
  rw [yz3y] at e
  by_cases e1:i=j∧i<P.length
  ·by_cases e2:i=k∧i<P.length
   ·omega
   ·rw [if_pos e1,if_neg e2] at e
    exact absurd e.symm (hm k hk)
  ·by_cases e2:i=k∧i<P.length
   ·rw [if_neg e1,if_pos e2] at e
    exact absurd e (hm j hj)
   ·rw [if_neg e1] at h0
    rw [if_neg e1,if_neg e2] at e
    exact h.inj j k hj hk h0 e
theorem stepA_nn {n:Int} {na:List (List Int)} (A:Aut n na) (s l:Int):0≤stepA na s l:=by
 unfold stepA
 by_cases h1:l.toNat<na.length
 ·have h2:=A.row _ (yz4 h1 [])
  generalize na.getD l.toNat []=row at h2 ⊢
  by_cases h3:s.toNat<row.length
  ·exact (h2.2 _ (yz4 h3 0)).1
  ·rw [Y0,Y1c (by omega)];exact Y1u 0
 ·have e:na.getD l.toNat []=[]:=by rw [Y0,Y1c (by omega)];rfl
  rw [e];simp
end Go.Ab
namespace Go.Ab
open Go.Proofs
def rww (x:List (List (List Int))):List AVal:=x.map fun xss=>.ro (some none) 1 (rws xss)
def rwwn (x:List (List (List Int))):List AVal:=x.map fun xss=>.ro none 1 (rwn xss)
theorem dnL_rww {x:List (List (List Int))}:dnL (rww x)=rww x:=by
 simp only [yz17,rww,Yj]
 exact Yg fun o _=>by simp [AVal.dn,yzi,dnNm]
theorem dnL_rwwn {x:List (List (List Int))}:dnL (rwwn x)=rwwn x:=by
 simp only [yz17,rwwn,Yj]
 exact Yg fun o _=>by simp [AVal.dn,dnL_rwn,dnNm]
theorem one_rww {hp:Nat→AObj} {x:List (List (List Int))}:(∀ A∈rww x,One hp A)=True:=by
 refine eq_true ?_
 intro A hA
 simp only [rww,Y3] at hA
 obtain ⟨y,_,rfl⟩:=hA
 exact trivial
theorem frz_rww {hp:Nat→AObj} {x:List (List (List Int))}:(rww x).map (frz hp)=rww x:=by simp [rww,frz]
theorem yzb3:∀ {x:List (List (List Int))},owned (rww x)=[]
 | []=>rfl
 | _ :: x=>yzb3 (x:=x)
theorem rww_snoc {x:List (List (List Int))} {y:List (List Int)}:rww x ++ [.ro (some none) 1 (rws y)]=rww (x ++ [y]):=by simp [rww]
theorem rww_len {x:List (List (List Int))}:(rww x).length=x.length:=by simp [rww]
theorem rwwn_len {x:List (List (List Int))}:(rwwn x).length=x.length:=by simp [rwwn]
theorem rww_nil:rww []=[]:=rfl
attribute [go_sem] dnL_rww dnL_rwwn one_rww frz_rww yzb3 rww_snoc rww_len rwwn_len rww_nil
structure Chc (n:Int) (nx:List (List (List Int))):Prop where
 n1:1≤n
 n2:n≤10
 l1:1≤nx.length
 l2:nx.length≤3
 row:∀ r∈nx,(r.length:Int)=n∧∀ s∈r,setB n s=true
structure Prt (n:Int) (next:List (List Int)):Prop where
 n1:1≤n
 n2:n≤10
 l1:1≤next.length
 l2:next.length≤3
 row:∀ row∈next,(row.length:Int)=n∧∀ x∈row,-1≤x∧x<n
theorem Prt.at {n:Int} {next:List (List Int)} (P:Prt n next) {l:Nat} (hl:l<next.length) {s:Int} (hs:0≤s∧s<n):s.toNat<(next.getD l []).length∧-1≤(next.getD l []).getD s.toNat 0∧(next.getD l []).getD s.toNat 0<n:=by
 have h1:=P.row _ (yz4 hl [])
 have h2:s.toNat<(next.getD l []).length:=by omega
 have h3:=h1.2 _ (yz4 h2 0)
 exact ⟨h2,h3⟩
theorem yzal {f:Nat}:bitsTo f 10=(bitsN f).map fun (s:Nat)=>(s:Int):=rfl
theorem mem_bitsTo {f:Nat} {x:Int}:x∈bitsTo f 10↔0≤x∧x<10∧f.testBit x.toNat=true:=by
 rw [yzal,Y3]
 constructor
 ·rintro ⟨s,hs,rfl⟩
  rw [mem_bits] at hs
  exact ⟨by omega,by omega,by rw [Y1t];exact hs.2⟩
 ·rintro ⟨h1,h2,h3⟩
  exact ⟨x.toNat,mem_bits.2 ⟨by omega,h3⟩,by omega⟩
end Go.Ab
namespace Go.Ab
def pairI (n:Int) (p:List Int):Nat:=(fidx (fun q=>decide (q=p)) (every n) 0).toNat
def wocW (n:Int) (words:List (List Int)) (set:List Int):List Int:=words.getD (pairI n (set.take 2)) []
def wocR (n:Int) (next words:List (List Int)):Nat→List Int→List Int→List Int
 | 0,_,out=>out
 | F+1,set,out=>if set.length≤1 then out else wocR n next words F (imgL next set (wocW n words set)) (out ++ wocW n words set)
structure WS1 (n:Int) (set:List Int):Prop where
 si:SI set
 rg:∀ x∈set,0≤x∧x<n
end Go.Ab
namespace Go.Ab
open Go.Proofs
noncomputable def wocF (n:Int) (next words:List (List Int)):List Int:=wocR n next words n.toNat (allS n) []
theorem tf_L {l:List (Nat×AVal)} {h:List (Nat×AObj)} {t q ver k:Nat} {nn:Bool} {cs:List AVal} :
  St.tf ⟨L .any l,L .gone h⟩ t q ver k nn cs=⟨L .any ((t,.ro (frNm nn cs.length ver) k cs) :: l),L .gone ((q,.gone) :: h)⟩:=by
 have h1:∀ x,(if x=t then AVal.ro (frNm nn cs.length ver) k cs else L .any l x)=L .any ((t,.ro (frNm nn cs.length ver) k cs) :: l) x:=fun x=>by
  by_cases e:x=t <;> simp [L,e,eq_comm]
 have h2:∀ x,(if x=q then AObj.gone else L .gone h x)=L .gone ((q,.gone) :: h) x:=fun x=>by
  by_cases e:x=q <;> simp [L,e,eq_comm]
 exact congr (congrArg St.mk (funext h1)) (funext h2)
theorem gwp_tf {gs:List GStep} {K:St→Prop} {l:List (Nat×AVal)} {h:List (Nat×AObj)} {t q k ver:Nat} {nn:Bool} {cs:List AVal} (ht:L .any l t=.own q ver)
  (hq:L .gone h q=.row ver k nn cs) (hk:gwp gs K ⟨L .any ((t,.ro (frNm nn cs.length ver) k cs) :: l),L .gone ((q,.gone) :: h)⟩):gwp (.tf t q :: gs) K ⟨L .any l,L .gone h⟩ :=
 ⟨ver,k,nn,cs,ht,hq,by rw [tf_L];exact hk⟩
structure WocI (n:Int) (next words:List (List Int)) (set out:List Int):Prop where
 ws:WS1 n set
 ln:out.length+400 * (set.length - 1)≤4000
 fu:∃ F,set.length≤F∧wocR n next words F set out=wocF n next words
abbrev QS:=List (List Nat×List Int)
structure QI (n m:Nat) (L:QS):Prop where
 rg:∀ p∈L,DB n p.1
 wd:∀ p∈L,(∀ y∈p.2,0≤y∧y<m)∧p.2.length<L.length
 nd:(L.map (·.1)).Nodup
 ne:∀ i,0<i→i<L.length→(L.getD i ([],[])).2≠[]
 z:∃ q t,L=(q,[]) :: t
theorem QI.lt {n m:Nat} {L:QS} (h:QI n m L) (hn:n≤10):∀ p∈L,∀ f∈p.1,f<1024:=fun p hp f hf =>
 Y1i ((h.rg p hp).el f hf).1 (Y1k (n:=2) (by omega) (show n≤10 by omega))
def wA (w:List Int):AVal:=if w=[] then .val (.slice none 0 0) else .ro (some none) 1 (ints w)
def dcl (L:QS):List AVal:=L.flatMap fun p=>[.ro (some none) 1 (nfs p.1),wA p.2]
theorem dcl_len:∀ {L:QS},(dcl L).length=2 * L.length
 | []=>rfl
 | p :: L=>by
  have:=dcl_len (L:=L)
  unfold dcl at this ⊢
  rw [List.flatMap_cons,Y5,this,Ye];simp;omega
theorem wA_cases (w:List Int):wA w=.val (.slice none 0 0)∨wA w=.ro (some none) 1 (ints w):=by
 unfold wA;split
 ·exact .inl rfl
 ·exact .inr rfl
theorem yz9t {L:QS} {A:AVal} (h:A∈dcl L):(∃ q,A=.ro (some none) 1 (nfs q))∨(∃ w,A=.ro (some none) 1 (ints w))∨A=.val (.slice none 0 0):=by
 obtain ⟨p,_,h⟩:=Yz.1 h
 rcases Y8.1 h with rfl | h
 ·exact .inl ⟨_,rfl⟩
 ·rw [Y9.1 h]
  rcases wA_cases p.2 with e | e
  ·exact .inr (.inr e)
  ·exact .inr (.inl ⟨_,e⟩)
theorem dnL_dcl {L:QS}:dnL (dcl L)=dcl L:=by
 rw [yz17]
 have h:(dcl L).map AVal.dn=(dcl L).map id:=Yg fun A hA=>by
  rcases yz9t hA with ⟨q,rfl⟩ | ⟨w,rfl⟩ | rfl
  ·simp [AVal.dn,yz17,dnNm]
  ·simp [AVal.dn,yz17,dnNm]
  ·rfl
 rw [h,List.map_id]
theorem one_dcl {hp:Nat→AObj} {L:QS}:(∀ A∈dcl L,One hp A)=True:=by
 refine eq_true fun A hA=>?_
 rcases yz9t hA with ⟨q,rfl⟩ | ⟨w,rfl⟩ | rfl
 ·trivial
 ·trivial
 ·rfl
theorem frz_dcl {hp:Nat→AObj} {L:QS}:(dcl L).map (frz hp)=dcl L:=by
 have h:(dcl L).map (frz hp)=(dcl L).map id:=Yg fun A hA=>by
  rcases yz9t hA with ⟨q,rfl⟩ | ⟨w,rfl⟩ | rfl <;> rfl
 rw [h,List.map_id]
theorem owned_dcl {L:QS}:owned (dcl L)=[]:=by
 refine List.eq_nil_iff_forall_not_mem.2 fun r hr=>?_
 obtain ⟨v,hv⟩:=owned_mem.1 hr
 rcases yz9t hv with ⟨q,h⟩ | ⟨w,h⟩ | h <;> cases h
theorem dnL_trueQ {L:QS}:dnL (L.map fun _=>bv true)=L.map fun _=>bv true:=by
 rw [yz17,Yj];rfl
attribute [go_sem] dnL_trueQ dnL_dcl one_dcl frz_dcl owned_dcl dcl_len
theorem dbt_DB {n o:Int} {next out:List (List Int)} (M:Mach n o next out) {tl:Bool} {q q':List Nat} {x:Nat} (h:DB n.toNat q) (hx:x<next.length) (e:dbtD next out o tl q x=some q'):DB n.toNat q':=by
 unfold dbtD at e
 split at e
 ·cases e
 ·simp only [Option.some.injEq] at e
  subst e
  have hr:=M.aut.row _ (yz4 hx [])
  have n1:=M.aut.n1
  have n2:=M.aut.n2
  exact h.next (by omega) (fun s hs=>by have:=hr.2 s hs;omega) (by omega)
theorem QI.snoc {n m:Nat} {L:QS} (h:QI n m L) {q:List Nat} {w:List Int} {x:Nat} (hq:DB n q) (hx:x<m) (hw:(∀ y∈w,0≤y∧y<m)∧w.length<L.length) (hn:hasG L q=false):QI n m (L ++ [(q,w ++ [(x:Int)])]) where
 rg:=fun p hp=>by
  rcases Y4.1 hp with hp | hp
  ·exact h.rg p hp
  ·rw [Y9.1 hp];exact hq
 wd:=fun p hp=>by
  rw [Y5,Y7]
  rcases Y4.1 hp with hp | hp
  ·have:=h.wd p hp;exact ⟨this.1,by omega⟩
  ·rw [Y9.1 hp]
   refine ⟨fun y hy=>?_,by rw [Y5,Y7];omega⟩
   rcases Y4.1 hy with hy | hy
   ·exact hw.1 y hy
   ·rw [Y9.1 hy];omega
 nd:=by
  rw [Yc,Y19]
  refine ⟨h.nd,by simp,fun a ha b hb e=>?_⟩
  have hb:b=q:=by simpa using hb
  obtain ⟨p,hp,rfl⟩:=Y3.1 ha
  have:hasG L q=true:=hasG_iff.2 ⟨p,hp,by rw [e,hb]⟩
  rw [hn] at this;cases this
 ne:=fun i h0 hi=>by
  rw [Y5,Y7] at hi
  by_cases e:i<L.length
  ·rw [yz1u e];exact h.ne i h0 e
  ·obtain rfl:i=L.length:=by omega
   rw [yz2p];simp
 z:=by
  obtain ⟨q0,t,e⟩:=h.z
  exact ⟨q0,t ++ [(q,w ++ [(x:Int)])],by rw [e];rfl⟩
end Go.Ab
namespace Go.Ab
theorem yzx {next out:List (List Int)} {x:Int}:∀ {w:List Int} {s:Int},outsA next out s (w ++ [x])=outsA next out s w ++ [outA out (atA next s w) x]
 | [],s=>rfl
 | y :: w,s=>by
  have:=yzx (next:=next) (out:=out) (x:=x) (w:=w) (s:=stepA next s y)
  simp only [Yu,outsA,this];rfl
theorem yz1m {next:List (List Int)} {x:Int} {w:List Int} {s:Int}:atA next s (w ++ [x])=stepA next (atA next s w) x:=by simp [atA]
theorem dvF_app {nr or:List Int} {o:Int} {S:List Int} {s:Int}:dvF nr or o (S ++ [s])=dvS nr or (dvF nr or o S) s:=by unfold dvF;rw [List.foldl_append];rfl
theorem set_getD5 {l:List Nat} {i j v:Nat} (hi:i<l.length):(l.set i v).getD j 0=if i=j then v else l.getD j 0:=by
 rw [Y0,List.getElem?_set,Y0]
 by_cases e:i=j
 ·rw [if_pos e,if_pos e,if_pos hi];rfl
 ·rw [if_neg e,if_neg e]
theorem yzd5 {nr or:List Int} {o:Int} (ho:0≤o) {b u:Nat} (hb:b<o.toNat):∀ (k:Nat) (S:List Int),S.length=k→(∀ s∈S,0≤or.getD s.toNat 0∧or.getD s.toNat 0<o) →
  (((dvF nr or o S).1.getD b 0).testBit u=true↔∃ s∈S,(or.getD s.toNat 0).toNat=b∧(nr.getD s.toNat 0).toNat=u)
 | 0,S,hk,_=>by
  obtain rfl:=Yh hk
  have:(Yl o.toNat 0).getD b 0=0:=by
   rw [Y0,List.getElem?_replicate,if_pos hb];rfl
  unfold dvF
  simp only [List.foldl_nil]
  rw [this]
  simp
 | k+1,S,hk,hS=>by
  have hne:S≠[]:=fun e=>by rw [e] at hk;simp at hk
  have e:=List.dropLast_concat_getLast hne
  have ih:=yzd5 (nr:=nr) (u:=u) ho hb k S.dropLast (by rw [List.length_dropLast];omega) fun s hs=>hS s (List.dropLast_subset S hs)
  have hl:=hS _ (List.getLast_mem hne)
  generalize S.getLast hne=s at e hl
  generalize S.dropLast=R at e ih
  subst e
  have hlen:=yzao (nr:=nr) (or:=or) (o:=o) (S:=R)
  rw [dvF_app]
  unfold dvS
  dsimp only
  rw [set_getD5 (by rw [hlen];omega)]
  by_cases e:(or.getD s.toNat 0).toNat=b
  ·rw [if_pos e,e,Nat.testBit_or,Nat.testBit_two_pow,Y22,ih,decide_eq_true_eq]
   constructor
   ·rintro (⟨v,h1,h2,h3⟩ | h)
    ·exact ⟨v,by simp [h1],h2,h3⟩
    ·exact ⟨s,by simp,e,h⟩
   ·rintro ⟨v,h1,h2,h3⟩
    rcases Y4.1 h1 with h | h
    ·exact .inl ⟨v,h,h2,h3⟩
    ·rw [Y9.1 h] at h3;exact .inr h3
  ·rw [if_neg e,ih]
   constructor
   ·rintro ⟨v,h1,h2,h3⟩;exact ⟨v,by simp [h1],h2,h3⟩
   ·rintro ⟨v,h1,h2,h3⟩
    rcases Y4.1 h1 with h | h
    ·exact ⟨v,h,h2,h3⟩
    ·rw [Y9.1 h] at h2;exact absurd h2 e
theorem and_pow0 {a k:Nat}:Nat.beq (a &&& 2 ^ k) 0=!(a.testBit k):=by
 have h:(a &&& 2 ^ k=0)↔a.testBit k=false:=by
  constructor
  ·intro h
   have:=congrArg (fun z=>z.testBit k) h
   simpa [Nat.testBit_and,Nat.testBit_two_pow] using this
  ·intro h
   refine Nat.eq_of_testBit_eq fun i=>?_
   rw [Nat.testBit_and,Nat.testBit_two_pow,Nat.zero_testBit]
   by_cases e:k=i
   ·subst e;simp [h]
   ·simp [e]
 cases hb:a.testBit k with
 | false=>rw [h.2 hb];rfl
 | true =>
  have:a &&& 2 ^ k≠0:=fun e=>by rw [h.1 e] at hb;cases hb
  cases hz:a &&& 2 ^ k with
  | zero=>exact absurd hz this
  | succ z=>rfl
theorem yzcs {nr or:List Int} {o:Int} (ho:0≤o):∀ (k:Nat) (S:List Int),S.length=k→(∀ s∈S,0≤or.getD s.toNat 0∧or.getD s.toNat 0<o) →
  ((dvF nr or o S).2=true↔S.Pairwise fun a b=>¬ ((or.getD a.toNat 0).toNat=(or.getD b.toNat 0).toNat∧(nr.getD a.toNat 0).toNat=(nr.getD b.toNat 0).toNat))
 | 0,S,hk,_=>by
  obtain rfl:=Yh hk
  simp [dvF]
 | k+1,S,hk,hS=>by
  have hne:S≠[]:=fun e=>by rw [e] at hk;simp at hk
  have e:=List.dropLast_concat_getLast hne
  have ih:=yzcs (nr:=nr) (or:=or) ho k S.dropLast (by rw [List.length_dropLast];omega) fun s hs=>hS s (List.dropLast_subset S hs)
  have hl:=hS _ (List.getLast_mem hne)
  have hS':∀ s∈S.dropLast,0≤or.getD s.toNat 0∧or.getD s.toNat 0<o:=fun s hs=>hS s (List.dropLast_subset S hs)
  generalize S.getLast hne=s at e hl
  generalize S.dropLast=R at e ih hS'
  subst e
  have hbit:=yzd5 (nr:=nr) (or:=or) (o:=o) (b:=(or.getD s.toNat 0).toNat) (u:=(nr.getD s.toNat 0).toNat) ho (by omega) R.length R rfl hS'
  rw [dvF_app,Y12]
  unfold dvS
  dsimp only
  rw [and_pow0,Y20,ih,Y24,← Bool.not_eq_true,hbit]
  constructor
  ·rintro ⟨h1,h2⟩
   refine ⟨h1,by simp,fun a ha b hb=>?_⟩
   rw [Y9.1 hb]
   exact fun h=>h2 ⟨a,ha,h.1,h.2⟩
  ·rintro ⟨h1,_,h2⟩
   exact ⟨h1,fun ⟨a,ha,h3,h4⟩=>h2 a ha s (by simp) ⟨h3,h4⟩⟩
theorem pw_all {α:Type} {R:α→α→Prop} (hs:∀ a b,R a b→R b a):∀ {l:List α},l.Pairwise R→∀ a∈l,∀ b∈l,a≠b→R a b
 | [],_,_,h,_,_,_=>by simp at h
 | x :: l,h,a,ha,b,hb,hab=>by
  rw [Yx] at h
  rcases Y8.1 ha with ea | ha'
  ·rcases Y8.1 hb with eb | hb'
   ·exact absurd (ea.trans eb.symm) hab
   ·rw [ea];exact h.1 b hb'
  ·rcases Y8.1 hb with eb | hb'
   ·rw [eb];exact hs _ _ (h.1 a ha')
   ·exact pw_all hs h.2 a ha' b hb' hab
section
variable {n o:Int} {next out:List (List Int)}
def Cls (next out:List (List Int)) (n:Int) (f:Nat) (w r:List Int):Prop:=∀ u:Nat,u∈bitsN f↔∃ s:Nat,(s:Int)<n∧outsA next out s w=r∧atA next s w=u
structure DI (next out:List (List Int)) (n:Int) (tl:Bool) (w:List Int) (D:List Nat):Prop where
 db:DB n.toNat D
 cl:∀ f∈D,∃ r,Cls next out n f w r
 ex:∀ s t:Nat,(s:Int)<n→(t:Int)<n→outsA next out s w=outsA next out t w→atA next s w≠atA next t w→∃ f∈D,Cls next out n f w (outsA next out s w)
 inj:tl=true→∀ s t:Nat,(s:Int)<n→(t:Int)<n→s≠t→outsA next out s w=outsA next out t w→atA next s w≠atA next t w
theorem yzc0 {f u v:Nat} (hf:f<1024) (hu:u∈bitsN f) (hv:v∈bitsN f) (h:u≠v):smallN f=false:=by
 cases hs:smallN f with
 | false=>rfl
 | true=>exact absurd ((yzaw hf).1 hs u hu v hv) h
theorem DI0 (n1:1≤n) (n2:n≤10) (hn:n > 1) {tl:Bool}:DI next out n tl [] [2 ^ n.toNat - 1] where
 db:=DB_all n1 n2 hn
 cl:=fun f hf=>by
  rw [Y9.1 hf]
  refine ⟨[],fun u=>?_⟩
  rw [yz3a ⟨n1,n2⟩]
  constructor
  ·intro h;exact ⟨u,h,rfl,rfl⟩
  ·rintro ⟨s,h1,_,h2⟩
   have:(s:Int)=u:=h2
   omega
 ex:=fun s t hs ht _ _=>⟨2 ^ n.toNat - 1,by simp,fun u=>by
  rw [yz3a ⟨n1,n2⟩]
  constructor
  ·intro h;exact ⟨u,h,rfl,rfl⟩
  ·rintro ⟨s,h1,_,h2⟩
   have:(s:Int)=u:=h2
   omega⟩
 inj:=fun _ s t _ _ hst _ e=>hst (by have:(s:Int)=t:=e;omega)
theorem Cls.part (M:Mach n o next out) {f x b:Nat} {w r:List Int} (hw:IsW next.length w) (hx:x<next.length) (hb:b<o.toNat) (h:Cls next out n f w r) (hf:f<2 ^ n.toNat) :
  Cls next out n ((dvF (next.getD x []) (out.getD x []) o (bitsTo f 10)).1.getD b 0) (w ++ [(x:Int)]) (r ++ [(b:Int)]):=by
 intro u
 have hxo:x<out.length:=by rw [M.len];exact hx
 have hnr:=M.aut.row _ (yz4 hx [])
 have hor:=M.row _ (yz4 hxo [])
 have o1:=M.o1
 have n2:=M.aut.n2
 have hin:∀ v:Nat,v∈bitsN f→v<n.toNat:=fun v hv=>yz2l hf hv
 have hS:∀ s∈bitsTo f 10,0≤(out.getD x []).getD s.toNat 0∧(out.getD x []).getD s.toNat 0<o:=fun s hs=>by
  obtain ⟨k,hk,rfl⟩:=Y3.1 (show s∈(bitsN f).map (fun (s:Nat)=>(s:Int)) from hs)
  have:=hin k hk
  exact hor.2 _ (yz4 (by rw [Y1t];omega) 0)
 have hbit:=yzd5 (nr:=next.getD x []) (or:=out.getD x []) (o:=o) (b:=b) (u:=u) (by omega) hb _ (bitsTo f 10) rfl hS
 have hlt:=dvF_lt (nr:=next.getD x []) (or:=out.getD x []) (o:=o) (n:=n.toNat) (S:=bitsTo f 10) (fun s hs=>by have:=hnr.2 s hs;omega) (fun s hs=>by
  obtain ⟨k,hk,rfl⟩:=Y3.1 (show s∈(bitsN f).map (fun (s:Nat)=>(s:Int)) from hs)
  have:=hin k hk
  rw [Y1t];omega)
 have hlen:=yzao (nr:=next.getD x []) (or:=out.getD x []) (o:=o) (S:=bitsTo f 10)
 have hpl:=hlt _ (yz4 (show b<(dvF (next.getD x []) (out.getD x []) o (bitsTo f 10)).1.length by omega) 0)
 have hm:u∈bitsN ((dvF (next.getD x []) (out.getD x []) o (bitsTo f 10)).1.getD b 0)↔((dvF (next.getD x []) (out.getD x []) o (bitsTo f 10)).1.getD b 0).testBit u=true:=by
  rw [mem_bits]
  refine ⟨fun h=>h.2,fun h=>⟨?_,h⟩⟩
  have:=Nat.ge_two_pow_of_testBit h
  have h3:u<n.toNat:=(Nat.pow_lt_pow_iff_right (a:=2) (by omega)).1 (Nat.lt_of_le_of_lt this hpl)
  omega
 rw [hm,hbit]
 have hat:∀ s:Nat,(s:Int)<n→0≤atA next s w∧atA next s w<n:=fun s hs=>M.aut.at ⟨by omega,hs⟩ hw
 constructor
 ·rintro ⟨v,hv,h1,h2⟩
  obtain ⟨k,hk,rfl⟩:=Y3.1 (show v∈(bitsN f).map (fun (s:Nat)=>(s:Int)) from hv)
  obtain ⟨s,hs,hr,ha⟩:=(h k).1 hk
  have hkn:=hin k hk
  have hok:=hor.2 _ (yz4 (show k<(out.getD x []).length by omega) 0)
  have hnk:=hnr.2 _ (yz4 (show k<(next.getD x []).length by omega) 0)
  rw [Y1t] at h1 h2
  refine ⟨s,hs,?_,?_⟩
  ·rw [yzx,hr,ha]
   unfold outA
   rw [Y1t,Y1t,show (out.getD x []).getD k 0=(b:Int) by omega]
  ·rw [yz1m,ha]
   unfold stepA
   rw [Y1t,Y1t];omega
 ·rintro ⟨s,hs,hr,ha⟩
  rw [yzx] at hr
  rw [yz1m] at ha
  obtain ⟨h1,h2⟩:=List.append_inj' hr rfl
  have h2:outA out (atA next s w) x=b:=by simpa using h2
  have h3:=hat s hs
  obtain ⟨k,hk⟩:∃ k:Nat,atA next s w=k:=⟨(atA next s w).toNat,by omega⟩
  rw [hk] at h2 ha
  unfold outA at h2
  unfold stepA at ha
  rw [Y1t,Y1t] at h2 ha
  have hkb:=(h k).2 ⟨s,hs,h1,hk⟩
  refine ⟨(k:Int),Y3.2 ⟨k,hkb,rfl⟩,?_,?_⟩
  ·rw [Y1t,h2,Y1t]
  ·rw [Y1t,ha,Y1t]
theorem DI.goes (M:Mach n o next out) {tl:Bool} {w:List Int} {D:List Nat} {x:Nat} (hw:IsW next.length w) (hx:x<next.length) (h:DI next out n tl w D) :
  match dbtD next out o tl D x with
  | some D'=>DI next out n tl (w ++ [(x:Int)]) D'
  | none=>tl=true∧∃ s t:Nat,(s:Int)<n∧(t:Int)<n∧s≠t∧outsA next out s (w ++ [(x:Int)])=outsA next out t (w ++ [(x:Int)])∧atA next s (w ++ [(x:Int)])=atA next t (w ++ [(x:Int)]):=by
 have hxo:x<out.length:=by rw [M.len];exact hx
 have hnr:=M.aut.row _ (yz4 hx [])
 have hor:=M.row _ (yz4 hxo [])
 have o1:=M.o1
 have n1:=M.aut.n1
 have n2:=M.aut.n2
 have hN:2 ^ n.toNat≤1024:=Y1k (n:=2) (by omega) (show n.toNat≤10 by omega)
 have hat:∀ s:Nat,(s:Int)<n→0≤atA next s w∧atA next s w<n:=fun s hs=>M.aut.at ⟨by omega,hs⟩ hw
 have hS:∀ f∈D,∀ s∈bitsTo f 10,0≤(out.getD x []).getD s.toNat 0∧(out.getD x []).getD s.toNat 0<o:=fun f hf s hs=>by
  obtain ⟨k,hk,rfl⟩:=Y3.1 (show s∈(bitsN f).map (fun (s:Nat)=>(s:Int)) from hs)
  have:=yz2l (h.db.el f hf).1 hk
  exact hor.2 _ (yz4 (by rw [Y1t];omega) 0)
 cases hd:dbtD next out o tl D x with
 | none =>
  unfold dbtD at hd
  split at hd
  ·rename_i hc
   rw [Y20,Y24] at hc
   refine ⟨hc.1,?_⟩
   have hcl:=hc.2
   unfold clrF at hcl
   rw [List.all_eq_false] at hcl
   obtain ⟨f,hf,hcf⟩:=hcl
   have hcf':=mt (yzcs (nr:=next.getD x []) (or:=out.getD x []) (o:=o) (by omega) _ (bitsTo f 10) rfl (hS f hf)).2 hcf
   obtain ⟨r,hr⟩:=h.cl f hf
   refine Classical.byContradiction fun hno=>hcf' ?_
   have hsi:(bitsTo f 10).Pairwise (·≠·):=by
    unfold bitsTo
    rw [List.pairwise_map]
    exact (List.pairwise_lt_range.filter _).imp fun h=>by omega
   refine List.Pairwise.imp_of_mem ?_ hsi
   intro a b ha hb hab ⟨e1,e2⟩
   obtain ⟨k,hk,rfl⟩:=Y3.1 (show a∈(bitsN f).map (fun (s:Nat)=>(s:Int)) from ha)
   obtain ⟨l,hl,rfl⟩:=Y3.1 (show b∈(bitsN f).map (fun (s:Nat)=>(s:Int)) from hb)
   obtain ⟨s,hs1,hs2,hs3⟩:=(hr k).1 hk
   obtain ⟨t,ht1,ht2,ht3⟩:=(hr l).1 hl
   have hkn:=yz2l (h.db.el f hf).1 hk
   have hln:=yz2l (h.db.el f hf).1 hl
   have ok1:=hor.2 _ (yz4 (show k<(out.getD x []).length by omega) 0)
   have ok2:=hor.2 _ (yz4 (show l<(out.getD x []).length by omega) 0)
   have nk1:=hnr.2 _ (yz4 (show k<(next.getD x []).length by omega) 0)
   have nk2:=hnr.2 _ (yz4 (show l<(next.getD x []).length by omega) 0)
   rw [Y1t,Y1t] at e1 e2
   refine hno ⟨s,t,hs1,ht1,fun e=>hab (by rw [← hs3,← ht3,e]),?_,?_⟩
   ·rw [yzx,yzx,hs2,ht2,hs3,ht3]
    unfold outA
    rw [Y1t,Y1t,Y1t]
    congr 2;omega
   ·rw [yz1m,yz1m,hs3,ht3]
    unfold stepA
    rw [Y1t,Y1t,Y1t];omega
  ·cases hd
 | some D' =>
  have hdb:=dbt_DB M h.db hx hd
  unfold dbtD at hd
  split at hd
  ·cases hd
  ·rename_i hc
   simp only [Option.some.injEq] at hd
   have hplt:=parF_lt (nr:=next.getD x []) (or:=out.getD x []) (o:=o) (n:=n.toNat) (D:=D) (fun s hs=>by have:=hnr.2 s hs;omega) (by omega) fun f hf=>(h.db.el f hf).1
   have hmem:=fun f=>yzfe (ps:=parF (next.getD x []) (out.getD x []) o D) (f:=f) fun g hg=>Y1i (hplt g hg) hN
   rw [hd] at hmem
   have hstep:∀ s t:Nat,(s:Int)<n→(t:Int)<n→outsA next out s (w ++ [(x:Int)])=outsA next out t (w ++ [(x:Int)])→outsA next out s w=outsA next out t w∧outA out (atA next s w) x=outA out (atA next t w) x:=by
    intro s t _ _ he
    rw [yzx,yzx] at he
    obtain ⟨h1,h2⟩:=List.append_inj' he rfl
    exact ⟨h1,by simpa using h2⟩
   refine ⟨hdb,fun f' hf'=>?_,fun s t hs ht ho ha=>?_,fun ht s t hs htn hst ho ha=>?_⟩
   ·obtain ⟨f,hf,hp⟩:=Yz.1 ((hmem f').1 hf').1
    obtain ⟨b,hb,hg⟩:=Y1b hp
    obtain ⟨r,hr⟩:=h.cl f hf
    have hlen:=yzao (nr:=next.getD x []) (or:=out.getD x []) (o:=o) (S:=bitsTo f 10)
    have hc:=hr.part M hw hx (b:=b) (by omega) (h.db.el f hf).1
    rw [Y0,Y2 hb,Y1x,hg] at hc
    exact ⟨_,hc⟩
   ·obtain ⟨ho1,ho2⟩:=hstep s t hs ht ho
    have ha1:atA next s w≠atA next t w:=fun e=>ha (by rw [yz1m,yz1m,e])
    obtain ⟨f,hf,hc⟩:=h.ex s t hs ht ho1 ha1
    have hs3:=hat s hs
    obtain ⟨k,hk⟩:∃ k:Nat,atA next s w=k:=⟨(atA next s w).toNat,by omega⟩
    have hok:0≤outA out (atA next s w) x∧outA out (atA next s w) x<o:=by
     rw [hk];unfold outA
     rw [Y1t,Y1t]
     exact hor.2 _ (yz4 (show k<(out.getD x []).length by omega) 0)
    obtain ⟨b,hb⟩:∃ b:Nat,outA out (atA next s w) x=b:=⟨(outA out (atA next s w) x).toNat,by omega⟩
    have hpc:=hc.part M hw hx (b:=b) (by omega) (h.db.el f hf).1
    have hr:outsA next out s (w ++ [(x:Int)])=outsA next out s w ++ [(b:Int)]:=by rw [yzx,hb]
    have hlen:=yzao (nr:=next.getD x []) (or:=out.getD x []) (o:=o) (S:=bitsTo f 10)
    have hbl:b<(dvF (next.getD x []) (out.getD x []) o (bitsTo f 10)).1.length:=by omega
    have hpm:(dvF (next.getD x []) (out.getD x []) o (bitsTo f 10)).1.getD b 0∈parF (next.getD x []) (out.getD x []) o D:=Yz.2 ⟨f,hf,yz4 hbl 0⟩
    refine ⟨_,(hmem _).2 ⟨hpm,?_⟩,by rw [hr];exact hpc⟩
    have hwx:IsW next.length (w ++ [(x:Int)]):=fun y hy=>by
     rcases Y4.1 hy with hy | hy
     ·exact hw y hy
     ·rw [Y9.1 hy];omega
    have hs4:=M.aut.at ⟨by omega,hs⟩ hwx (s:=s)
    have ht4:=M.aut.at ⟨by omega,ht⟩ hwx (s:=t)
    refine yzc0 (Y1i (hplt _ hpm) hN) (u:=(atA next s (w ++ [(x:Int)])).toNat) (v:=(atA next t (w ++ [(x:Int)])).toNat) ((hpc _).2 ⟨s,hs,hr,by omega⟩) ((hpc _).2 ⟨t,ht,by rw [← ho,hr],by omega⟩) (by omega)
   ·obtain ⟨ho1,ho2⟩:=hstep s t hs htn ho
    have ha1:=h.inj ht s t hs htn hst ho1
    obtain ⟨f,hf,hcf⟩:=h.ex s t hs htn ho1 ha1
    have hcl:clrF (next.getD x []) (out.getD x []) o D=true:=by
     cases hcc:clrF (next.getD x []) (out.getD x []) o D with
     | true=>rfl
     | false=>exact absurd (by rw [ht,hcc];rfl) hc
    unfold clrF at hcl
    have hcf2:=(yzcs (nr:=next.getD x []) (or:=out.getD x []) (o:=o) (by omega) _ (bitsTo f 10) rfl (hS f hf)).1 (Yo.1 hcl f hf)
    have hs3:=hat s hs
    have ht3:=hat t htn
    obtain ⟨k,hk⟩:∃ k:Nat,atA next s w=k:=⟨(atA next s w).toNat,by omega⟩
    obtain ⟨l,hl⟩:∃ k:Nat,atA next t w=k:=⟨(atA next t w).toNat,by omega⟩
    have hkb:=(hcf k).2 ⟨s,hs,rfl,hk⟩
    have hlb:=(hcf l).2 ⟨t,htn,ho1.symm,hl⟩
    have hkl:(k:Int)≠l:=by rw [← hk,← hl];exact ha1
    rw [hk,hl] at ho2
    rw [yz1m,yz1m,hk,hl] at ha
    unfold outA at ho2
    unfold stepA at ha
    have hpw:=pw_all (fun a b h hh=>h ⟨hh.1.symm,hh.2.symm⟩) hcf2
    refine hpw k (Y3.2 ⟨k,hkb,rfl⟩) l (Y3.2 ⟨l,hlb,rfl⟩) hkl ⟨?_,?_⟩
    ·rw [Y1t] at ho2;rw [ho2]
    ·rw [Y1t] at ha;rw [ha]
theorem DI.word (M:Mach n o next out) (hn:n > 1) {tl:Bool}:∀ (k:Nat) (w:List Int),w.length=k→IsW next.length w →
  match goG (dbtD next out o tl) [2 ^ n.toNat - 1] w with
  | some D=>DI next out n tl w D
  | none=>tl=true∧∃ s t:Nat,(s:Int)<n∧(t:Int)<n∧s≠t∧outsA next out s w=outsA next out t w∧atA next s w=atA next t w
 | 0,w,hk,_=>by
  obtain rfl:=Yh hk
  exact DI0 M.aut.n1 M.aut.n2 hn
 | k+1,w,hk,hw=>by
  have hne:w≠[]:=fun e=>by rw [e] at hk;simp at hk
  have e:=List.dropLast_concat_getLast hne
  have hwd:IsW next.length w.dropLast:=fun y hy=>hw y (List.dropLast_subset w hy)
  have ih:=DI.word M hn (tl:=tl) k w.dropLast (by rw [List.length_dropLast];omega) hwd
  have hx:=hw _ (List.getLast_mem hne)
  obtain ⟨x,hxe⟩:∃ x:Nat,w.getLast hne=x:=⟨(w.getLast hne).toNat,by omega⟩
  rw [hxe] at e hx
  rw [← e]
  generalize w.dropLast=u at ih hwd e
  rw [yz8j,Y1t]
  cases hg:goG (dbtD next out o tl) [2 ^ n.toNat - 1] u with
  | none =>
   rw [hg] at ih
   simp only [Option.bind_none]
   obtain ⟨h1,s,t,h2,h3,h4,h5,h6⟩:=ih
   exact ⟨h1,s,t,h2,h3,h4,by rw [yzx,yzx,h5,h6],by rw [yz1m,yz1m,h6]⟩
  | some D =>
   rw [hg] at ih
   simp only [Option.bind_some]
   exact ih.goes M hwd (by omega)
end
theorem DB.mono {n m:Nat} {q:List Nat} (h:DB n q) (hm:n≤m):DB m q :=
 ⟨h.lt,fun f hf=>⟨Y1i (h.el f hf).1 (Y1k (by omega) hm),(h.el f hf).2⟩,by have:=h.sm;omega⟩
section
variable {n o:Int} {next out:List (List Int)}
def LenI {σ:Type} (d:σ×List Int) (L:List (σ×List Int)):Prop:=∀ k,k<L.length→(L.getD k d).2.length≤k
theorem LenI.vis {σ:Type} [DecidableEq σ] {δ:σ→Nat→Option σ} {d:σ×List Int} {p:σ} {w:List Int} {L:List (σ×List Int)} (h:LenI d L) (hw:w.length<L.length):∀ x,LenI d (visG δ p w x L)
 | 0=>h
 | x+1=>by
  have ih:=LenI.vis (δ:=δ) (p:=p) h hw x
  obtain ⟨t,ht⟩:=yz4e (δ:=δ) (p:=p) (w:=w) x L
  simp only [visG]
  cases δ p x with
  | none=>exact ih
  | some q =>
   simp only
   split
   ·exact ih
   ·intro k hk
    rw [Y5,Y7] at hk
    by_cases e:k<(visG δ p w x L).length
    ·rw [yz1u e];exact ih k e
    ·obtain rfl:k=(visG δ p w x L).length:=by omega
     rw [yz2p,Y5,Y7,ht,Y5];omega
theorem LenI.run {σ:Type} [DecidableEq σ] {δ:σ→Nat→Option σ} {d:σ×List Int} {m:Nat}:∀ (F i:Nat) (L:List (σ×List Int)),LenI d L→LenI d (runG δ m d F i L)
 | 0,_,_,h=>h
 | F+1,i,L,h=>by
  simp only [runG]
  split
  ·rename_i hi
   exact LenI.run F (i+1) _ (h.vis (by have:=h i hi;omega) m)
  ·exact h
end
end Go.Ab
namespace Go.Ab
open Go.Proofs
end Go.Ab
namespace Go.Ab
section
variable {n o:Int} {next out:List (List Int)}
end
theorem Iso.at {n:Int} {na nb:List (List Int)} (B:Aut n nb) {ph:List Int} (I:Iso na nb ph) (hl:na.length=nb.length) (hn:ph.length=n.toNat):∀ {w:List Int} {k:Nat},k<ph.length→IsW na.length w→ph.getD (atA nb k w).toNat 0=atA na (ph.getD k 0) w
 | [],k,_,_=>by simp [atA]
 | x :: w,k,hk,hw=>by
  have hx:=hw x (by simp)
  obtain ⟨e1,e2⟩:=I.ed k hk x.toNat (by omega)
  rw [show ((x.toNat:Nat):Int)=x by omega] at e1 e2
  have hs:=stepA_nn B (k:Int) x
  have:=Iso.at B I hl hn (w:=w) e1 fun y hy=>hw y (by simp [hy])
  rw [show (((stepA nb k x).toNat:Nat):Int)=stepA nb k x by omega,e2] at this
  exact this
end Go.Ab
namespace Go.Ab
open Go.Proofs
theorem yzez (a b:Int):Int.gcd b (a.tmod b)=Int.gcd a b:=by
 have h:a.tmod b+b * (a.tdiv b)=a:=Int.tmod_add_mul_tdiv a b
 refine Nat.dvd_antisymm (Int.natCast_dvd_natCast.1 (Int.dvd_coe_gcd ?_ (Int.gcd_dvd_left ..))) (Int.natCast_dvd_natCast.1 (Int.dvd_coe_gcd (Int.gcd_dvd_right ..) ?_))
 ·rw [← h]
  refine Int.dvd_add ?_ (Int.dvd_trans (Int.gcd_dvd_left ..) (Int.dvd_mul_right ..))
  rw [h];exact Int.gcd_dvd_right ..
 ·rw [show a.tmod b=a - b * a.tdiv b by omega]
  exact Int.dvd_sub (Int.gcd_dvd_left ..) (Int.dvd_trans (Int.gcd_dvd_right ..) (Int.dvd_mul_right ..))
theorem k_divisor (a b:Int) (ha:-4611686018427387904≤a∧a≤4611686018427387904) (hb:-4611686018427387904≤b∧b≤4611686018427387904):Fun Tryz.prog nz5m [iv a,iv b] (iv (Int.gcd a b)):=by
 refine yzd mixed czsu rfl ⟨rfl,trivial⟩ ?_
 simp only [Azle,Bzld,go_sem,yz0,J9,J8,J6,J7,J5,J0,J1,J2,reduceIte,J3,J4,reduceCtorEq]
 refine yzo (fun (_,y)=>y.natAbs) (fun (x,y)=>(-4611686018427387904≤x∧x≤4611686018427387904)∧(-4611686018427387904≤y∧y≤4611686018427387904)∧Int.gcd x y=Int.gcd a b)
  (fun ((x,y):Int×Int)=>⟨L .any [(0,iv x),(1,iv y)],L .gone []⟩) (a,b) ⟨ha,hb,rfl⟩ (by simp only [Bz3z,go_sem,yz0,J9,J8,J6,J7,J5,J0,J1,J2,reduceIte,J3,J4,reduceCtorEq];try rfl) ?_
 rintro ⟨x,y⟩ ⟨hx,hy,hg⟩
 have hx:-4611686018427387904≤x∧x≤4611686018427387904:=hx
 have hy:-4611686018427387904≤y∧y≤4611686018427387904:=hy
 have hg:Int.gcd x y=Int.gcd a b:=hg
 by_cases h0:y=0
 ·subst h0
  have e0:((0:Int) != 0)=false:=rfl
  simp only [e0,Bz3z,Bz9r,Bzlc,go_sem,yz0,J9,J8,J6,J7,J5,J0,J1,J2,reduceIte,J3,J4,reduceCtorEq]
  have h1:IntKind.i64.wrap (0 - x)=-x:=by rw [w64 (by omega)];omega
  rw [Int.gcd_zero_right] at hg
  rw [h1,← hg]
  refine congrArg (fun z=>AVal.val (Value.int IntKind.i64 z)) ?_
  split <;> omega
 ·have e0:(y != 0)=true:=by simpa using h0
  simp only [e0,Bz3z,Bz9r,Bzlb,go_sem,yz0,J9,J8,J6,J7,J5,J0,J1,J2,reduceIte,J3,J4,reduceCtorEq]
  rw [if_neg h0]
  have h1:=Int.natAbs_tmod x y
  have h2:x.natAbs % y.natAbs<y.natAbs:=Nat.mod_lt _ (by omega)
  exact ⟨rfl,(y,x.tmod y),by dsimp only;omega,⟨hy,by dsimp only;omega,by dsimp only;rw [yzez];exact hg⟩,rfl⟩
structure PerI (next:List (List Int)) (l fs:List Int) (p:Int) (i k:Nat):Prop where
 len:fs.length=l.length
 rg:∀ j,j<l.length→0≤fs.getD j 0∧fs.getD j 0≤j
 pos:0≤p∧p≤100
 dv:∀ j x,(j<i∨j=i∧x<k)→x<next.length→stepA next (l.getD j 0) x∈l∧p ∣ fs.getD j 0+1 - fs.getD (l.idxOf (stepA next (l.getD j 0) x)) 0
theorem PerI.snoc {next:List (List Int)} {l fs:List Int} {p:Int} {i k:Nat} (h:PerI next l fs p i k) (hi:i<l.length) {t f:Int} (hf:0≤f∧f≤l.length):PerI next (l ++ [t]) (fs ++ [f]) p i k:=by
 have hl:=h.len
 refine ⟨by simp [hl],fun j hj=>?_,h.pos,fun j x hj hx=>?_⟩
 ·rw [Y5,Y7] at hj
  by_cases e:j<l.length
  ·rw [yz12 (by omega)];exact h.rg j e
  ·obtain rfl:j=l.length:=by omega
   rw [← hl,yz2m,hl];exact hf
 ·have hjl:j<l.length:=by omega
  obtain ⟨h1,h2⟩:=h.dv j x hj hx
  rw [yz12 hjl,yz12 (show j<fs.length by omega),List.idxOf_append,if_pos h1,yz12 (show l.idxOf _<fs.length by rw [hl];exact List.idxOf_lt_length_of_mem h1)]
  exact ⟨List.mem_append_left _ h1,h2⟩
theorem PerI.step {next:List (List Int)} {l fs:List Int} {p:Int} {i k:Nat} (h:PerI next l fs p i k) (hi:i<l.length) (hl10:l.length≤10) (hm:stepA next (l.getD i 0) k∈l) (h0:p≠0∨True) :
  PerI next l fs (Int.gcd p (fs.getD i 0+1 - fs.getD (l.idxOf (stepA next (l.getD i 0) k)) 0)) i (k+1):=by
 have hx:=List.idxOf_lt_length_of_mem hm
 have r1:=h.rg i hi
 have r2:=h.rg _ hx
 have hp:=h.pos
 generalize hD:fs.getD i 0+1 - fs.getD (l.idxOf (stepA next (l.getD i 0) k)) 0=D
 refine ⟨h.len,h.rg,⟨Int.natCast_nonneg _,?_⟩,fun j x hj hx2=>?_⟩
 ·by_cases e:p=0
  ·subst e
   rw [Int.gcd_zero_left];omega
  ·have:=Nat.le_of_dvd (by omega) (Int.natCast_dvd_natCast.1 (show ((Int.gcd p D:Nat):Int) ∣ ((p.natAbs:Nat):Int) by rw [Int.dvd_natAbs];exact Int.gcd_dvd_left ..))
   omega
 ·by_cases e:j=i∧x=k
  ·obtain ⟨rfl,rfl⟩:=e
   refine ⟨hm,?_⟩
   rw [hD];exact Int.gcd_dvd_right ..
  ·obtain ⟨g1,g2⟩:=h.dv j x (by omega) hx2
   exact ⟨g1,Int.dvd_trans (Int.gcd_dvd_left ..) g2⟩
theorem PerI.next {next:List (List Int)} {l fs:List Int} {p:Int} {i:Nat} (h:PerI next l fs p i next.length):PerI next l fs p (i+1) 0:=⟨h.len,h.rg,h.pos,fun j x hj hx=>h.dv j x (by omega) hx⟩
end Go.Ab
namespace Go.Ab
open Go Go.Proofs
def eN (next:List (List Int)) (x s:Nat):Nat:=((next.getD x []).getD s 0).toNat
abbrev lapA (next:List (List Int)):Nat→Nat→Int:=lapE (eN next) next.length
theorem eN_lt {n:Int} {next:List (List Int)} (A:Aut n next) {x s:Nat} (hx:x<next.length) (hs:s<n.toNat):eN next x s<n.toNat:=by
 have hr:=A.row _ (yz4 hx [])
 have:=hr.2 _ (yz4 (show s<(next.getD x []).length by have:=hr.1;omega) 0)
 unfold eN;omega
theorem way_snoc {e:Nat→Nat→Nat} {L s t x:Nat} (h:WayE e L s t) (hx:x<L):WayE e L s (e x t):=by
 induction h with
 | here=>exact .go hx .here
 | go h1 _ ih=>exact .go h1 ih
theorem way_of {n:Int} {next:List (List Int)} (A:Aut n next) (h:conB n next=true) {s t:Nat} (hs:s<n.toNat) (ht:t<n.toNat):WayE (eN next) next.length s t:=by
 have n1:=A.n1
 have hmem:(t:Int)∈reachL n next s:=by
  unfold conB at h
  rw [Yo] at h
  have h1:=h s (Ym.2 hs)
  have ho:=yz7x A (s:=(s:Int)) (by omega)
  rw [yz55 ho.nd] at h1
  have h3:¬ (((reachL n next s).length:Int)<n):=by simpa using h1
  rcases Decidable.em ((t:Int)∈reachL n next s) with g | g
  ·exact g
  ·have h2:Once n ((t:Int) :: reachL n next s):=⟨Y16.2 ⟨g,ho.nd⟩,fun x hx=>by
    rcases Y8.1 hx with rfl | hx
    ·omega
    ·exact ho.rg x hx⟩
   have:=h2.len n1
   simp only [Ye] at this
   omega
 have:=reach_min (C:=fun x=>(0≤x∧x<n)∧WayE (eN next) next.length s x.toNat) (n:=n) (s:=(s:Int)) (next:=next) (fun x hx row hrow=>by
  obtain ⟨i,hi,rfl⟩:=Y1b hrow
  have e:next.getD i []=next[i]:=by rw [Y0,Y2 hi];rfl
  have hr:=A.row _ (yz4 hi [])
  rw [e] at hr
  have hb:=hr.2 _ (yz4 (show x.toNat<next[i].length by omega) 0)
  refine ⟨hb,?_⟩
  have:=way_snoc hx.2 hi
  unfold eN at this
  rw [e] at this
  exact this) ⟨by omega,by rw [Y1t];exact .here⟩ _ hmem
 have h4:=this.2
 rwa [Y1t] at h4
def minW (n:Int) (next:List (List Int)) (s:Nat):Int:=lead (minM (lapA next) s) (n.toNat - 1)
theorem yzdm {n:Int} {next:List (List Int)} (A:Aut n next) (h:conB n next=true) {s:Nat} (hs:s<n.toNat):ZM (minM (lapA next) s) (n.toNat - 1) 0 1:=by
 have n1:=A.n1
 have e:n.toNat - 1+1=n.toNat:=by omega
 exact red_zm A.l2 (by omega) (fun x hx t ht=>by rw [e] at ht ⊢;exact eN_lt A hx ht) (fun t ht=>by rw [e] at ht;exact way_of A h ht hs)
theorem yz47 {n:Int} {next:List (List Int)} (A:Aut n next) (h:conB n next=true) {s:Nat} (hs:s<n.toNat):0<minW n next s∧minW n next s≤19683:=by
 have n2:=A.n2
 exact yz5y (yzdm A h hs) (by omega) (Y1h _)
def gcdW (n:Int) (next:List (List Int)):Nat→Int
 | 0=>0
 | k+1=>(Int.gcd (gcdW n next k) (minW n next k):Int)
theorem yz5w {n:Int} {next:List (List Int)} (A:Aut n next) (h:conB n next=true):∀ k,k≤n.toNat→0≤gcdW n next k∧gcdW n next k≤19683∧(0<k→0<gcdW n next k)
 | 0,_=>⟨Y1u _,by show (0:Int)≤19683;omega,fun h=>by omega⟩
 | k+1,hk=>by
  obtain ⟨h1,h2⟩:=yz47 A h (s:=k) (by omega)
  have hd:(Int.gcd (gcdW n next k) (minW n next k):Int) ∣ minW n next k:=Int.gcd_dvd_right ..
  have hle:=Int.le_of_dvd h1 hd
  have hne:Int.gcd (gcdW n next k) (minW n next k)≠0:=fun e=>by
   rw [e] at hd
   have:=Int.zero_dvd.1 hd
   omega
  show 0≤(Int.gcd (gcdW n next k) (minW n next k):Int)∧(Int.gcd (gcdW n next k) (minW n next k):Int)≤19683∧_
  refine ⟨by omega,by omega,fun _=>?_⟩
  show 0<(Int.gcd (gcdW n next k) (minW n next k):Int)
  omega
def wghL (n:Int) (next:List (List Int)):List Int:=(Ya n.toNat).map fun s=>(minW n next s).tdiv (gcdW n next n.toNat)
theorem lap_rg {e:Nat→Nat→Nat} {s t:Nat}:∀ {L:Nat},-(L:Int)≤lapE e L s t∧lapE e L s t≤L
 | 0=>⟨by show -(0:Int)≤0;omega,by show (0:Int)≤0;omega⟩
 | L+1=>by
  show _≤lapE e L s t+((if t=s then 1 else 0) - (if t=e L s then 1 else 0))∧lapE e L s t+((if t=s then 1 else 0) - (if t=e L s then 1 else 0))≤_
  have:=lap_rg (e:=e) (s:=s) (t:=t) (L:=L)
  split <;> split <;> omega
theorem yz6o {f:Nat→Int} {k:Nat}:tabR f (k+1)=tabR f k ++ [f k]:=by simp [tabR,List.range_succ]
theorem tabR_zero {N:Nat}:Yl N (0:Int)=tabR (fun _=>0) N:=by unfold tabR;rw [List.map_const'];simp
theorem yz9r (n:Int) (next:List (List Int)) (A:Aut n next) (hc:conB n next=true):RowI Tryz.prog nz1r [autA n next] (fun ys=>ys=wghL n next):=by
 refine yz1k mixed czs2 rfl ?_
 have n1:=A.n1
 have n2:=A.n2
 have l2:=A.l2
 have hM:=yzc
 obtain ⟨N,hN⟩:∃ N:Nat,n.toNat=N+1:=⟨n.toNat - 1,by omega⟩
 have hnN:n=((N+1:Nat):Int):=by omega
 generalize hQ:finQ _=Q
 simp only [Az87,Bzhi,go_sem,yz0,J9,J8,J6,J7,J5,J0,J1,J2,reduceIte,J3,J4,reduceCtorEq]
 intro vs vs2
 simp only [Bzhh,Bzh3,go_sem,yz0,J9,J8,J6,J7,J5,J0,J1,J2,reduceIte,J3,J4,reduceCtorEq]
 refine yzo (fun (_,s)=>N+1 - s) (fun (_,s)=>s≤N+1)
  (fun ((v,s):Nat×Nat)=>⟨L .any [(1,.ptr 1 (vs 0 0) 0),(3,.own 13 v),(15,iv n),(16,iv s)],
   L .gone [(1,.box (vs 0 0) [iv n,.ro none 1 (rwn next)]),(13,.row v 1 true (rws (tabC (lapA next) s (N+1))))]⟩)
  (_,0) (Y1j _) (by simp only [Bz3a,tabC,List.range_zero,Yb,go_sem,yz0,J9,J8,J6,J7,J5,J0,J1,J2,reduceIte,J3,J4,reduceCtorEq];try rfl) ?_
 rintro ⟨v,s⟩ hs
 have hs:s≤N+1:=hs
 by_cases hlt:(s:Int)<n
 ·have hs1:s<N+1:=by omega
  have ws:IntKind.i64.wrap ((s:Int)+1)=((s+1:Nat):Int):=by rw [w64 (by omega)];simp
  simp only [Bz3a,Bz84,Bzh2,Bzh0,yzi,decide_eq_true hlt,go_sem,yz0,J9,J8,J6,J7,J5,J0,J1,J2,reduceIte,J3,J4,reduceCtorEq]
  intro vs3
  refine ⟨⟨by omega,by omega,by omega,by omega⟩,?_⟩
  rw [hN,tabR_zero]
  simp only [Bzgz,Bzgx,yzi,go_sem,yz0,J9,J8,J6,J7,J5,J0,J1,J2,reduceIte,J3,J4,reduceCtorEq]
  intro hM1
  refine yzo (fun (x:Nat)=>next.length - x) (fun x=>x≤next.length)
   (fun (x:Nat)=>⟨L .any [(1,.ptr 1 (vs 0 0) 0),(3,.own 13 v),(4,iv s),(5,.own 21 (vs3 2 0)),(15,iv n),(16,iv s),(23,.ro none 1 (rwn next)),(24,iv next.length),(25,iv x)],
    L .gone [(1,.box (vs 0 0) [iv n,.ro none 1 (rwn next)]),(13,.row v 1 true (rws (tabC (lapA next) s (N+1)))),(21,.row (vs3 2 0) 1 true (ints (tabR (fun t=>lapE (eN next) x s t) (N+1))))]⟩)
   0 (Y1j _) (by simp only [Bz39,yzi,go_sem,yz0,J9,J8,J6,J7,J5,J0,J1,J2,reduceIte,J3,J4,reduceCtorEq];try rfl) ?_
  intro x hx
  have hx:x≤next.length:=hx
  by_cases hxl:(x:Int)<next.length
  ·have hx1:x<next.length:=by omega
   have wx:IntKind.i64.wrap ((x:Int)+1)=((x+1:Nat):Int):=by rw [w64 (by omega)];simp
   have hrow:=A.row _ (yz4 hx1 [])
   have he:=eN_lt A hx1 (s:=s) (by omega)
   have hsl:s<(next.getD x []).length:=by have:=hrow.1;omega
   have hev:(next.getD x []).getD s 0=((eN next x s:Nat):Int):=by
    have:=hrow.2 _ (yz4 hsl 0)
    unfold eN;omega
   have r1:=lap_rg (e:=eN next) (s:=s) (t:=s) (L:=x)
   have r2:=lap_rg (e:=eN next) (s:=s) (t:=eN next x s) (L:=x)
   have he1:eN next x s<N+1:=by omega
   have w1:IntKind.i64.wrap (lapE (eN next) x s s+1)=lapE (eN next) x s s+1:=w64 (by omega)
   have hset1:(tabR (fun t=>lapE (eN next) x s t) (N+1)).set s (lapE (eN next) x s s+1)=tabR (fun t=>lapE (eN next) x s t+if t=s then 1 else 0) (N+1):=yz3b fun b _=>by
    by_cases e:b=s
    ·subst e;rw [if_pos rfl,if_pos rfl]
    ·rw [if_neg e,if_neg e];omega
   have hset2:(tabR (fun t=>lapE (eN next) x s t+if t=s then 1 else 0) (N+1)).set (eN next x s) (lapE (eN next) x s (eN next x s)+(if eN next x s=s then 1 else 0) - 1)=tabR (fun t=>lapE (eN next) (x+1) s t) (N+1):=yz3b fun b _=>by
    show lapE (eN next) x s b+((if b=s then 1 else 0) - (if b=eN next x s then 1 else 0))=_
    by_cases e:b=eN next x s
    ·subst e;rw [if_pos rfl,if_pos rfl];omega
    ·rw [if_neg e,if_neg e];omega
   have w2:IntKind.i64.wrap (lapE (eN next) x s (eN next x s)+(if eN next x s=s then 1 else 0) - 1)=lapE (eN next) x s (eN next x s)+(if eN next x s=s then 1 else 0) - 1:=w64 (by split <;> omega)
   have t1:(tabR (fun t=>lapE (eN next) x s t) (N+1)).length=N+1:=yzg
   have t2:(tabR (fun t=>lapE (eN next) x s t+if t=s then 1 else 0) (N+1)).length=N+1:=yzg
   have g1:(tabR (fun t=>lapE (eN next) x s t) (N+1)).getD s 0=lapE (eN next) x s s:=yzp hs1
   have g2:(tabR (fun t=>lapE (eN next) x s t+if t=s then 1 else 0) (N+1)).getD (eN next x s) 0=lapE (eN next) x s (eN next x s)+if eN next x s=s then 1 else 0:=yzp he1
   generalize tabR (fun t=>lapE (eN next) x s t) (N+1)=R1 at hset1 t1 g1 ⊢
   generalize tabR (fun t=>lapE (eN next) x s t+if t=s then 1 else 0) (N+1)=R2 at hset1 hset2 t2 g2
   have hp1:=yz37 (v:=lapE (eN next) x s s+1) (show s<R1.length by omega)
   have hp2:=yz37 (v:=lapE (eN next) x s (eN next x s)+(if eN next x s=s then 1 else 0) - 1) (show eN next x s<R2.length by omega)
   rw [hset1] at hp1
   rw [hset2] at hp2
   have i1:s<R1.length:=by omega
   have i2:eN next x s<R2.length:=by omega
   simp only [Bz39,Bz83,Bzgw,Bzgu,decide_eq_true hxl,yz19 hx1,yz3 i1,g1,w1,yzi,go_sem,yz0,J9,J8,J6,J7,J5,J0,J1,J2,reduceIte,J3,J4,reduceCtorEq]
   refine ⟨⟨by omega,hx1⟩,hx1,⟨by omega,i1⟩,i1,⟨by omega,i1⟩,i1,?_⟩
   simp only [hp1,Bzgt,yz3 hsl,hev,yz3 i2,g2,w2,yzi,go_sem,yz0,J9,J8,J6,J7,J5,J0,J1,J2,reduceIte,J3,J4,reduceCtorEq]
   refine ⟨⟨by omega,hsl⟩,hsl,⟨by omega,i2⟩,i2,⟨by omega,i2⟩,i2,?_⟩
   simp only [hp2,Bzgv,wx,yzi,go_sem,yz0,J9,J8,J6,J7,J5,J0,J1,J2,reduceIte,J3,J4,reduceCtorEq]
   exact ⟨x+1,by omega,by omega,rfl⟩
  ·obtain rfl:x=next.length:=by omega
   simp only [Bz39,Bz83,Bzgy,Bzh1,decide_eq_false hxl,ws,yzi,go_sem,yz0,J9,J8,J6,J7,J5,J0,J1,J2,reduceIte,J3,J4,reduceCtorEq]
   intro vs4
   have hcl:(tabC (lapA next) s (N+1)).length=s:=by simp [tabC]
   refine ⟨by rw [hcl];omega,(vs4 3 0,s+1),by dsimp only;omega,by dsimp only;omega,?_⟩
   dsimp only
   rw [yz6g]
 ·obtain rfl:s=N+1:=by omega
  have hcl:(tabC (lapA next) (N+1) (N+1)).length=N+1:=by simp [tabC]
  simp only [Bz3a,Bz84,Bzhg,hcl,decide_eq_false hlt,yzi,go_sem,yz0,J9,J8,J6,J7,J5,J0,J1,J2,reduceIte,J3,J4,reduceCtorEq]
  intro vs3
  simp only [Bzhf,hcl,yzi,go_sem,yz0,J9,J8,J6,J7,J5,J0,J1,J2,reduceIte,J3,J4,reduceCtorEq]
  intro hM1
  simp only [Bzh8,yzi,go_sem,yz0,J9,J8,J6,J7,J5,J0,J1,J2,reduceIte,J3,J4,reduceCtorEq]
  refine yzo (fun (_,k)=>N+1 - k) (fun (_,k)=>k≤N+1)
   (fun ((v8,k):Nat×Nat)=>⟨L .any [(3,.own 13 v),(8,.own 50 v8),(9,iv (gcdW n next k)),(52,iv ((N+1:Nat):Int)),(53,iv k)],
    L .gone [(13,.row v 1 true (rws (tabM (lapA next) (N+1)))),(50,.row v8 1 true (ints (tabR (minW n next) k)))]⟩)
   (_,0) (Y1j _) (by simp only [Bz3b,gcdW,tabR,List.range_zero,Yb,yzi,go_sem,yz0,J9,J8,J6,J7,J5,J0,J1,J2,reduceIte,J3,J4,reduceCtorEq];try rfl) ?_
  rintro ⟨v8,k⟩ hk
  have hk:k≤N+1:=hk
  by_cases hkl:(k:Int)<((N+1:Nat):Int)
  ·have hk1:k<N+1:=by omega
   have wk:IntKind.i64.wrap ((k:Int)+1)=((k+1:Nat):Int):=by rw [w64 (by omega)];simp
   have hmr:=yz47 A hc (s:=k) (by omega)
   have hgr:=yz5w A hc k (by omega)
   have hZ:=yzdm A hc (s:=k) (by omega)
   have hNe:n.toNat - 1=N:=by omega
   have hmw:lead (minM (lapA next) k) N=minW n next k:=by unfold minW;rw [hNe]
   rw [hNe] at hZ
   simp only [Bz3b,Bz85,Bzh7,Bzh5,decide_eq_true hkl,yzi,go_sem,yz0,J9,J8,J6,J7,J5,J0,J1,J2,reduceIte,J3,J4,reduceCtorEq]
   intro vs4
   refine yz5 (k_minor (lapA next) N k hk1 (by omega) hZ) qCS trivial ?_
   rw [hmw]
   simp only [Bzh4,yzi,go_sem,yz0,J9,J8,J6,J7,J5,J0,J1,J2,reduceIte,J3,J4,reduceCtorEq]
   intro vs5
   refine ⟨⟨_,rfl,rfl⟩,by rw [yzg];omega,?_⟩
   refine yz5 (k_divisor (gcdW n next k) (minW n next k) (by omega) (by omega)) qCS trivial ?_
   rw [← yz6o]
   simp only [Bzh6,wk,yzi,go_sem,yz0,J9,J8,J6,J7,J5,J0,J1,J2,reduceIte,J3,J4,reduceCtorEq]
   exact ⟨(vs5 3 0,k+1),by dsimp only;omega,by dsimp only;omega,rfl⟩
  ·obtain rfl:k=N+1:=by omega
   have hgr:=yz5w A hc (N+1) (by omega)
   have hg0:¬ gcdW n next (N+1)=0:=by have:=hgr.2.2 (by omega);omega
   have hbl:(tabR (minW n next) (N+1)).length=N+1:=yzg
   simp only [Bz3b,Bz85,Bzhe,hbl,decide_eq_false hkl,yzi,go_sem,yz0,J9,J8,J6,J7,J5,J0,J1,J2,reduceIte,J3,J4,reduceCtorEq]
   intro hM2
   simp only [Bzhc,yzi,go_sem,yz0,J9,J8,J6,J7,J5,J0,J1,J2,reduceIte,J3,J4,reduceCtorEq]
   refine yzo (fun (i:Nat)=>N+1 - i) (fun i=>i≤N+1)
    (fun (i:Nat)=>⟨L .any [(8,.own 50 v8),(9,iv (gcdW n next (N+1))),(68,iv ((N+1:Nat):Int)),(69,iv i)],
     L .gone [(50,.row v8 1 true (ints (tabR (fun s=>if s<i then (minW n next s).tdiv (gcdW n next (N+1)) else minW n next s) (N+1))))]⟩)
    0 (Y1j _) (by
     have:tabR (fun s=>if s<0 then (minW n next s).tdiv (gcdW n next (N+1)) else minW n next s) (N+1)=tabR (minW n next) (N+1):=yz15 fun b _=>by rw [if_neg (by omega)]
     rw [this]
     simp only [Bz3c,yzi,go_sem,yz0,J9,J8,J6,J7,J5,J0,J1,J2,reduceIte,J3,J4,reduceCtorEq];try rfl) ?_
   intro i hi
   have hi:i≤N+1:=hi
   by_cases hil:(i:Int)<((N+1:Nat):Int)
   ·have hi1:i<N+1:=by omega
    have wi:IntKind.i64.wrap ((i:Int)+1)=((i+1:Nat):Int):=by rw [w64 (by omega)];simp
    have hmr:=yz47 A hc (s:=i) (by omega)
    have hset:(tabR (fun s=>if s<i then (minW n next s).tdiv (gcdW n next (N+1)) else minW n next s) (N+1)).set i ((minW n next i).tdiv (gcdW n next (N+1)))=tabR (fun s=>if s<i+1 then (minW n next s).tdiv (gcdW n next (N+1)) else minW n next s) (N+1):=yz3b fun b _=>by
     by_cases e:b=i
     ·subst e;rw [if_pos rfl,if_pos (by omega)]
     ·rw [if_neg e]
      by_cases e2:b<i
      ·rw [if_pos e2,if_pos (by omega)]
      ·rw [if_neg e2,if_neg (by omega)]
    have hg:(tabR (fun s=>if s<i then (minW n next s).tdiv (gcdW n next (N+1)) else minW n next s) (N+1)).getD i 0=minW n next i:=by rw [yzp hi1,if_neg (by omega)]
    have hdv:0≤(minW n next i).tdiv (gcdW n next (N+1))∧(minW n next i).tdiv (gcdW n next (N+1))≤minW n next i:=by
     rw [Int.tdiv_eq_ediv_of_nonneg (by omega)]
     exact ⟨Int.ediv_nonneg (by omega) hgr.1,Int.ediv_le_self _ (by omega)⟩
    have w1:IntKind.i64.wrap ((minW n next i).tdiv (gcdW n next (N+1)))=(minW n next i).tdiv (gcdW n next (N+1)):=w64 (by omega)
    have hRl:(tabR (fun s=>if s<i then (minW n next s).tdiv (gcdW n next (N+1)) else minW n next s) (N+1)).length=N+1:=yzg
    generalize tabR (fun s=>if s<i then (minW n next s).tdiv (gcdW n next (N+1)) else minW n next s) (N+1)=R1 at hset hg hRl ⊢
    have i1:i<R1.length:=by omega
    have hp1:=yz37 (v:=(minW n next i).tdiv (gcdW n next (N+1))) i1
    rw [hset] at hp1
    simp only [Bz3c,Bz86,Bzhb,Bzh9,decide_eq_true hil,yz3 i1,hg,hg0,w1,if_false,yzi,go_sem,yz0,J9,J8,J6,J7,J5,J0,J1,J2,reduceIte,J3,J4,reduceCtorEq]
    refine ⟨⟨by omega,i1⟩,i1,⟨by omega,i1⟩,i1,?_⟩
    simp only [hp1,Bzha,wi,go_sem,yz0,J9,J8,J6,J7,J5,J0,J1,J2,reduceIte,J3,J4,reduceCtorEq]
    exact ⟨i+1,by omega,by omega,rfl⟩
   ·obtain rfl:i=N+1:=by omega
    have hend:tabR (fun s=>if s<N+1 then (minW n next s).tdiv (gcdW n next (N+1)) else minW n next s) (N+1)=wghL n next:=by
     unfold wghL
     rw [hN]
     exact yz15 fun b hb=>by rw [if_pos hb]
    rw [hend]
    simp only [Bz3c,Bz86,Bzhd,Az87,← hQ,decide_eq_false hil,go_sem,yz0,J9,J8,J6,J7,J5,J0,J1,J2,reduceIte,J3,J4,reduceCtorEq]
    exact ⟨50,v8,wghL n next,by omega,rfl,by simp only [go_sem,yz0,J9,J8,J6,J7,J5,J0,J1,J2,reduceIte,J3,J4,reduceCtorEq],rfl⟩
def lapQ (e:Nat→Nat→Nat) (L x s t:Nat):Int:=(if t=s then (L:Int) else 0) - sumN x (fun y=>if t=e y s then (1:Int) else 0)
theorem yz6v {e:Nat→Nat→Nat} {L x s t:Nat}:lapQ e L (x+1) s t=lapQ e L x s t - if t=e x s then 1 else 0:=by
 unfold lapQ;show _ - (sumN x _+(if t=e x s then (1:Int) else 0))=_ - _ - _;omega
theorem yzdd {e:Nat→Nat→Nat} {s t:Nat}:∀ {L:Nat},lapQ e L L s t=lapE e L s t
 | 0=>by
  show (if t=s then ((0:Nat):Int) else 0) - 0=0
  split <;> rfl
 | L+1=>by
  have:=yzdd (e:=e) (s:=s) (t:=t) (L:=L)
  show (if t=s then ((L+1:Nat):Int) else 0) - (sumN L _+if t=e L s then 1 else 0)=lapE e L s t+((if t=s then 1 else 0) - (if t=e L s then 1 else 0))
  rw [← this]
  unfold lapQ
  by_cases h:t=s
  ·rw [if_pos h,if_pos h,if_pos h];omega
  ·rw [if_neg h,if_neg h,if_neg h];omega
theorem lapQ_rg {e:Nat→Nat→Nat} {L s t:Nat}:∀ {x:Nat},-(x:Int)≤lapQ e L x s t∧lapQ e L x s t≤L
 | 0=>by
  show -((0:Nat):Int)≤(if t=s then (L:Int) else 0) - 0∧(if t=s then (L:Int) else 0) - 0≤_
  split <;> omega
 | x+1=>by
  rw [yz6v]
  have:=lapQ_rg (e:=e) (L:=L) (s:=s) (t:=t) (x:=x)
  split <;> omega
theorem skp_at {w i:Nat} (h:i≠w):skp w (if i≤w then i else i - 1)=i:=by
 unfold skp
 by_cases h1:i≤w
 ·rw [if_pos h1,if_pos (by omega)]
 ·rw [if_neg h1,if_neg (by omega)];omega
theorem yzfh (n:Int) (next:List (List Int)) (A:Aut n next) (hc:conB n next=true) (w:Nat) (hw:w<n.toNat):Fun Tryz.prog nz5h [autP n next,iv (w:Int)] (iv (minW n next w)):=by
 refine yzd mixed czso rfl ⟨rfl,trivial⟩ ?_
 have n1:=A.n1
 have n2:=A.n2
 have l2:=A.l2
 have hM:=yzc
 obtain ⟨N,hN⟩:∃ N:Nat,n.toNat=N+1:=⟨n.toNat - 1,by omega⟩
 have hnN:n=((N+1:Nat):Int):=by omega
 have hZ:=yzdm A hc hw
 have hNe:n.toNat - 1=N:=by omega
 have hmw:lead (minM (lapA next) w) N=minW n next w:=by unfold minW;rw [hNe]
 rw [hNe] at hZ
 generalize hQ:finQ _=Q
 simp only [Az9d,Bzk7,yz2,yz1,go_sem,yz0,J9,J8,J6,J7,J5,J0,J1,J2,reduceIte,J3,J4,reduceCtorEq]
 intro vs0 U0 hN0 vs1 U1 hN1
 simp only [Bzk6,yz2,yz1,go_sem,yz0,J9,J8,J6,J7,J5,J0,J1,J2,reduceIte,J3,J4,reduceCtorEq]
 intro vs2 U2 hN2
 simp only [Bzk4,yz2,yz1,go_sem,yz0,J9,J8,J6,J7,J5,J0,J1,J2,reduceIte,J3,J4,reduceCtorEq]
 refine yz16 (fun (x:Nat×Nat×List (Nat×List Int))=>N+1 - x.2.1) (fun x=>x.2.1≤N+1∧DJ x.2.2∧x.2.2.map (·.2)=tabC (minM (lapA next) w) (if x.2.1≤w then x.2.1 else x.2.1 - 1) N)
  (fun (x:Nat×Nat×List (Nat×List Int))=>⟨L .any [(0,autP n next),(1,iv w),(5,.own 11 x.1),(6,iv x.2.1)],
   L .gone [(11,.row x.1 1 true (rwp x.2.2)),(73,.gone),(5000,.gone),(5001,.gone)]⟩)
  (_,0,[]) ⟨Y1j _,by simp [DJ],by simp [tabC]⟩ (by simp only [Bz3r,yz64,go_sem,yz0,J9,J8,J6,J7,J5,J0,J1,J2,reduceIte,J3,J4,reduceCtorEq];try rfl) ?_
 rintro ⟨v5,s,ps⟩ ⟨hs,hdj,hps⟩
 have hs:s≤N+1:=hs
 have hdj:DJ ps:=hdj
 have hps:ps.map (·.2)=tabC (minM (lapA next) w) (if s≤w then s else s - 1) N:=hps
 have hpl:ps.length=if s≤w then s else s - 1:=by
  have:=congrArg Yf hps
  simpa [tabC] using this
 by_cases hlt:(s:Int)<n
 ·have hs1:s<N+1:=by omega
  have ws:IntKind.i64.wrap ((s:Int)+1)=((s+1:Nat):Int):=by rw [w64 (by omega)];simp
  simp only [Bz3r,Bz93,Bzk3,decide_eq_true hlt,yz2,yz1,go_sem,yz0,J9,J8,J6,J7,J5,J0,J1,J2,reduceIte,J3,J4,reduceCtorEq]
  intro vs3 U3 hN3 vs4 U4 hN4
  simp only [Bzk2,Bzk0,yz2,yz1,go_sem,yz0,J9,J8,J6,J7,J5,J0,J1,J2,reduceIte,J3,J4,reduceCtorEq]
  intro vs5 U5 hN5
  refine yz16 (fun (x:Nat×Nat)=>N+1 - x.2) (fun x=>x.2≤N+1)
   (fun (x:Nat×Nat)=>⟨L .any [(0,autP n next),(1,iv w),(5,.own 11 v5),(6,iv s),(7,.own 20 x.1),(8,iv x.2)],
    L .gone [(11,.row v5 1 true (rwp ps)),(20,.row x.1 1 true (ints (tabR (fun b=>lapA next s (skp w b)) (if x.2≤w then x.2 else x.2 - 1)))),(66,.gone),(73,.gone),(5000,.gone),(5001,.gone)]⟩)
   (_,0) (Y1j _) (by simp only [Bz3q,Y1j,if_true,tabR,List.range_zero,Yb,go_sem,yz0,J9,J8,J6,J7,J5,J0,J1,J2,reduceIte,J3,J4,reduceCtorEq];try rfl) ?_
  rintro ⟨v7,t⟩ ht
  have ht:t≤N+1:=ht
  by_cases htl:(t:Int)<n
  ·have ht1:t<N+1:=by omega
   have wt:IntKind.i64.wrap ((t:Int)+1)=((t+1:Nat):Int):=by rw [w64 (by omega)];simp
   simp only [Bz3q,Bz94,Bzjz,Bzjy,decide_eq_true htl,yz2,yz1,go_sem,yz0,J9,J8,J6,J7,J5,J0,J1,J2,reduceIte,J3,J4,reduceCtorEq]
   intro vs6 U6 hN6 vs7 U7 hN7 vs8 U8 hN8
   generalize hK:blockQ 3 _=K
   have key:wpD Tryz.prog Bz16 K ⟨L .any [(0,autP n next),(1,iv w),(5,.own 11 v5),(6,iv s),(7,.own 20 v7),(8,iv t),(9,iv (if t=s then (next.length:Int) else 0))],
    L .gone [(11,.row v5 1 true (rwp ps)),(20,.row v7 1 true (ints (tabR (fun b=>lapA next s (skp w b)) (if t≤w then t else t - 1)))),(66,.gone),(73,.gone),(5000,.gone),(5001,.gone)]⟩:=by
    rw [← hK]
    clear hK
    simp only [Bz16,yz2,yz1,go_sem,yz0,J9,J8,J6,J7,J5,J0,J1,J2,reduceIte,J3,J4,reduceCtorEq]
    intro vs9 U9 hN9
    simp only [Bzjw,yz2,yz1,go_sem,yz0,J9,J8,J6,J7,J5,J0,J1,J2,reduceIte,J3,J4,reduceCtorEq]
    have hsn:s<n.toNat:=by omega
    refine yz16 (fun (x:Nat)=>next.length - x) (fun x=>x≤next.length)
     (fun (x:Nat)=>⟨L .any [(0,autP n next),(1,iv w),(5,.own 11 v5),(6,iv s),(7,.own 20 v7),(8,iv t),(9,iv (lapQ (eN next) next.length x s t)),(10,iv x)],
      L .gone [(11,.row v5 1 true (rwp ps)),(20,.row v7 1 true (ints (tabR (fun b=>lapA next s (skp w b)) (if t≤w then t else t - 1)))),(66,.gone),(73,.gone),(5000,.gone),(5001,.gone)]⟩)
     0 (Y1j _) (by
      have:lapQ (eN next) next.length 0 s t=if t=s then (next.length:Int) else 0:=by unfold lapQ;show _ - 0=_;omega
      rw [this]
      simp only [Bz3p,go_sem,yz0,J9,J8,J6,J7,J5,J0,J1,J2,reduceIte,J3,J4,reduceCtorEq];try rfl) ?_
    intro x hx
    have hx:x≤next.length:=hx
    by_cases hxl:(x:Int)<next.length
    ·have hx1:x<next.length:=by omega
     have wx:IntKind.i64.wrap ((x:Int)+1)=((x+1:Nat):Int):=by rw [w64 (by omega)];simp
     have hrow:=A.row _ (yz4 hx1 [])
     have he:=eN_lt A hx1 hsn
     have hsl:s<(next.getD x []).length:=by have:=hrow.1;omega
     have hev:(next.getD x []).getD s 0=((eN next x s:Nat):Int):=by
      have:=hrow.2 _ (yz4 hsl 0)
      unfold eN;omega
     have hrg:=lapQ_rg (e:=eN next) (L:=next.length) (s:=s) (t:=t) (x:=x)
     simp only [Bz3p,Bz96,Bzjv,decide_eq_true hxl,yz2,yz1,go_sem,yz0,J9,J8,J6,J7,J5,J0,J1,J2,reduceIte,J3,J4,reduceCtorEq]
     intro vs10 U10 hN10 hM10 vs11 U11 hN11
     simp only [yz19 hx1,yz3 hsl,hev,yz2,yz1,go_sem,yz0,J9,J8,J6,J7,J5,J0,J1,J2,reduceIte,J3,J4,reduceCtorEq]
     refine ⟨⟨by omega,hx1⟩,hx1,⟨by omega,hsl⟩,hsl,?_⟩
     by_cases het:eN next x s=t
     ·have heq:(((eN next x s:Nat):Int) == (t:Int))=true:=by rw [beq_iff_eq];omega
      have w1:IntKind.i64.wrap (lapQ (eN next) next.length x s t - 1)=lapQ (eN next) next.length (x+1) s t:=by rw [yz6v,if_pos het.symm];exact w64 (by omega)
      simp only [Bz97,heq,yz2,yz1,go_sem,yz0,J9,J8,J6,J7,J5,J0,J1,J2,reduceIte,J3,J4,reduceCtorEq]
      intro vs12 U12 hN12
      simp only [Bz98,w1,wx,yz2,yz1,go_sem,yz0,J9,J8,J6,J7,J5,J0,J1,J2,reduceIte,J3,J4,reduceCtorEq]
      intro vs13 U13 hN13
      exact ⟨x+1,by omega,by omega,rfl⟩
     ·have heq:(((eN next x s:Nat):Int) == (t:Int))=false:=by rw [beq_eq_false_iff_ne];omega
      have w1:lapQ (eN next) next.length x s t=lapQ (eN next) next.length (x+1) s t:=by rw [yz6v,if_neg (fun e=>het e.symm)];omega
      simp only [Bz97,heq,yz2,yz1,go_sem,yz0,J9,J8,J6,J7,J5,J0,J1,J2,reduceIte,J3,J4,reduceCtorEq]
      simp only [Bz98,w1,wx,yz2,yz1,go_sem,yz0,J9,J8,J6,J7,J5,J0,J1,J2,reduceIte,J3,J4,reduceCtorEq]
      intro vs13 U13 hN13
      exact ⟨x+1,by omega,by omega,rfl⟩
    ·obtain rfl:x=next.length:=by omega
     simp only [Bz3p,Bz96,Bzjx,yzdd,decide_eq_false hxl,yz2,yz1,go_sem,yz0,J9,J8,J6,J7,J5,J0,J1,J2,reduceIte,J3,J4,reduceCtorEq]
     intro vs10 U10 hN10 hM10 vs11 U11 hN11
     have hlr:(tabR (fun b=>lapA next s (skp w b)) (if t≤w then t else t - 1)).length≤10:=by rw [yzg];split <;> omega
     by_cases htw:t=w
     ·subst htw
      simp only [Bz99,bne_self_eq_false,yz2,yz1,go_sem,yz0,J9,J8,J6,J7,J5,J0,J1,J2,reduceIte,J3,J4,reduceCtorEq]
      simp only [Bz9a,wt,yz2,yz1,go_sem,yz0,J9,J8,J6,J7,J5,J0,J1,J2,reduceIte,J3,J4,reduceCtorEq]
      intro vs12 U12 hN12
      exact ⟨(v7,t+1),by dsimp only;omega,by dsimp only;omega,by dsimp only;rw [if_pos (Y1h _),if_neg (by omega)];rfl⟩
     ·have hne:(((t:Nat):Int) != (w:Int))=true:=by rw [bne_iff_ne];omega
      simp only [Bz99,hne,yz2,yz1,go_sem,yz0,J9,J8,J6,J7,J5,J0,J1,J2,reduceIte,J3,J4,reduceCtorEq]
      intro vs12 U12 hN12
      refine ⟨⟨_,rfl,rfl⟩,by omega,?_⟩
      have hk:tabR (fun b=>lapA next s (skp w b)) (if t≤w then t else t - 1) ++ [lapE (eN next) next.length s t]=tabR (fun b=>lapA next s (skp w b)) (if t+1≤w then t+1 else t+1 - 1):=by
       rw [show (if t+1≤w then t+1 else t+1 - 1)=(if t≤w then t else t - 1)+1 by split <;> split <;> omega,yz6o]
       rw [skp_at htw]
      simp only [Bz9a,wt,hk,yz2,yz1,go_sem,yz0,J9,J8,J6,J7,J5,J0,J1,J2,reduceIte,J3,J4,reduceCtorEq]
      intro vs13 U13 hN13
      exact ⟨(vs12 3 0,t+1),by dsimp only;omega,by dsimp only;omega,rfl⟩
   by_cases hst:s=t
   ·subst hst
    rw [if_pos rfl] at key
    simp only [Bz95,beq_self_eq_true,yz2,yz1,go_sem,yz0,J9,J8,J6,J7,J5,J0,J1,J2,reduceIte,J3,J4,reduceCtorEq]
    intro vs9 U9 hN9 hM9
    simp only [Bz16,yz2,yz1,go_sem,yz0,J9,J8,J6,J7,J5,J0,J1,J2,reduceIte,J3,J4,reduceCtorEq] at key ⊢
    exact key
   ·have hne:(((s:Nat):Int) == (t:Int))=false:=by rw [beq_eq_false_iff_ne];omega
    rw [if_neg (fun e=>hst e.symm)] at key
    simp only [Bz95,hne,yz2,yz1,go_sem,yz0,J9,J8,J6,J7,J5,J0,J1,J2,reduceIte,J3,J4,reduceCtorEq]
    simp only [Bz16,yz2,yz1,go_sem,yz0,J9,J8,J6,J7,J5,J0,J1,J2,reduceIte,J3,J4,reduceCtorEq] at key ⊢
    exact key
  ·obtain rfl:t=N+1:=by omega
   have hk:(if N+1≤w then N+1 else N+1 - 1)=N:=by rw [if_neg (by omega)];rfl
   rw [hk]
   simp only [Bz3q,Bz94,Bzk1,decide_eq_false htl,yz2,yz1,go_sem,yz0,J9,J8,J6,J7,J5,J0,J1,J2,reduceIte,J3,J4,reduceCtorEq]
   intro vs6 U6 hN6 vs7 U7 hN7
   by_cases hsw:s=w
   ·subst hsw
    simp only [Bz9b,bne_self_eq_false,yz2,yz1,yzr,go_sem,yz0,J9,J8,J6,J7,J5,J0,J1,J2,reduceIte,J3,J4,reduceCtorEq]
    intro _
    refine ⟨[],?_⟩
    simp only [Bz9c,ws,yzh,yz2,yz1,go_sem,yz0,J9,J8,J6,J7,J5,J0,J1,J2,reduceIte,J3,J4,reduceCtorEq]
    intro vs8 U8 hN8
    refine ⟨(v5,s+1,ps),by dsimp only;omega,⟨by dsimp only;omega,hdj,?_⟩,rfl⟩
    rw [hps,if_pos (Y1h _)]
    dsimp only
    rw [if_neg (by omega)];rfl
   ·have hne:(((s:Nat):Int) != (w:Int))=true:=by rw [bne_iff_ne];omega
    simp only [Bz9b,hne,yz2,yz1,yzr,go_sem,yz0,J9,J8,J6,J7,J5,J0,J1,J2,reduceIte,J3,J4,reduceCtorEq]
    intro hD
    refine ⟨[],?_⟩
    simp only [yzh,yz2,yz1,go_sem,yz0,J9,J8,J6,J7,J5,J0,J1,J2,reduceIte,J3,J4,reduceCtorEq]
    have hf:∀ p∈ps,p.2=[]∨p.1≠v7:=fun p hp=>by
     by_cases e:p.2=[]
     ·exact .inl e
     ·exact .inr (hD 11 v5 1 true (rwp ps) 20 v7 rfl rfl p.1 1 (ints p.2) (Y3.2 ⟨p,hp,rfl⟩) (by simpa using e))
    have hp10:ps.length≤10:=by rw [hpl];split <;> omega
    intro vs8 U8 hN8
    refine ⟨by rw [yz7];omega,?_⟩
    simp only [Bz9c,ws,yz36,yz2,yz1,go_sem,yz0,J9,J8,J6,J7,J5,J0,J1,J2,reduceIte,J3,J4,reduceCtorEq]
    intro vs9 U9 hN9
    refine ⟨(vs8 3 0,s+1,ps ++ [(v7,tabR (fun b=>lapA next s (skp w b)) N)]),by dsimp only;omega,⟨by dsimp only;omega,hdj.snoc hf,?_⟩,rfl⟩
    have hrow:tabR (fun b=>lapA next s (skp w b)) N=tabR (minM (lapA next) w (if s≤w then s else s - 1)) N:=by
     unfold minM;rw [skp_at hsw]
    dsimp only
    rw [Yc,hps,show (if s+1≤w then s+1 else s+1 - 1)=(if s≤w then s else s - 1)+1 by split <;> split <;> omega,yz6g,hrow];rfl
 ·obtain rfl:s=N+1:=by omega
  rw [if_neg (show ¬ N+1≤w by omega),Nat.add_sub_cancel] at hps hpl
  have hps:ps.map (·.2)=tabM (minM (lapA next) w) N:=hps
  simp only [Bz3r,Bz93,Bzk5,decide_eq_false hlt,yz2,yz1,go_sem,yz0,J9,J8,J6,J7,J5,J0,J1,J2,reduceIte,J3,J4,reduceCtorEq]
  intro vs6 U6 hN6 vs7 U7 hN7
  refine call_hav (yzf2 (minM (lapA next) w) N (by omega) hZ ps hdj hps) ?_ ?_
  ·rw [yz4p,coeHL_nil];exact ⟨coeH_own rfl,trivial⟩
  rintro _ rfl
  rw [cl_L,hmw]
  simp only [clT,clO,clV_own,← hQ,Az9d,go_sem,yz0,J9,J8,J6,J7,J5,J0,J1,J2,reduceIte,J3,J4,reduceCtorEq]
theorem k_l01Gcd (a b:Int) (ha:0≤a∧a≤4611686018427387904) (hb:0≤b∧b≤4611686018427387904):Fun Tryz.prog nz5i [iv a,iv b] (iv (Int.gcd a b)):=by
 refine yzd mixed czsp rfl ⟨rfl,trivial⟩ ?_
 simp only [Azkd,Bzkc,go_sem,yz0,J9,J8,J6,J7,J5,J0,J1,J2,reduceIte,J3,J4,reduceCtorEq]
 refine yzo (fun (_,y)=>y.natAbs) (fun (x,y)=>(0≤x∧x≤4611686018427387904)∧(0≤y∧y≤4611686018427387904)∧Int.gcd x y=Int.gcd a b)
  (fun ((x,y):Int×Int)=>⟨L .any [(0,iv x),(1,iv y)],L .gone []⟩) (a,b) ⟨ha,hb,rfl⟩ (by simp only [Bz3s,go_sem,yz0,J9,J8,J6,J7,J5,J0,J1,J2,reduceIte,J3,J4,reduceCtorEq];try rfl) ?_
 rintro ⟨x,y⟩ ⟨hx,hy,hg⟩
 have hx:0≤x∧x≤4611686018427387904:=hx
 have hy:0≤y∧y≤4611686018427387904:=hy
 have hg:Int.gcd x y=Int.gcd a b:=hg
 by_cases h0:y=0
 ·subst h0
  have e0:((0:Int) != 0)=false:=rfl
  simp only [e0,Bz3s,Bz9e,Bzkb,go_sem,yz0,J9,J8,J6,J7,J5,J0,J1,J2,reduceIte,J3,J4,reduceCtorEq]
  rw [Int.gcd_zero_right] at hg
  rw [← hg]
  refine congrArg (fun z=>AVal.val (Value.int IntKind.i64 z)) ?_
  omega
 ·have e0:(y != 0)=true:=by simpa using h0
  simp only [e0,Bz3s,Bz9e,Bzka,Bzk9,Bzk8,go_sem,yz0,J9,J8,J6,J7,J5,J0,J1,J2,reduceIte,J3,J4,reduceCtorEq]
  rw [if_neg h0]
  have h1:=Int.natAbs_tmod x y
  have h2:x.natAbs % y.natAbs<y.natAbs:=Nat.mod_lt _ (by omega)
  have h3:=Int.tmod_nonneg y hx.1
  exact ⟨rfl,(y,x.tmod y),by dsimp only;omega,⟨hy,⟨h3,by dsimp only;omega⟩,by dsimp only;rw [yzez];exact hg⟩,rfl⟩
theorem yz9f (n:Int) (next:List (List Int)) (A:Aut n next) (hc:conB n next=true):RowI Tryz.prog nz57 [autP n next] (fun ys=>ys=wghL n next):=by
 refine yz1k mixed czrv rfl ?_
 have n1:=A.n1
 have n2:=A.n2
 have hM:=yzc
 obtain ⟨N,hN⟩:∃ N:Nat,n.toNat=N+1:=⟨n.toNat - 1,by omega⟩
 have hnN:n=((N+1:Nat):Int):=by omega
 generalize hQ:finQ _=Q
 simp only [Az7i,Bzfl,go_sem,yz0,J9,J8,J6,J7,J5,J0,J1,J2,reduceIte,J3,J4,reduceCtorEq]
 intro vs
 simp only [Bzfk,Bzfj,Bzfd,go_sem,yz0,J9,J8,J6,J7,J5,J0,J1,J2,reduceIte,J3,J4,reduceCtorEq]
 refine yzo (fun (_,k)=>N+1 - k) (fun (_,k)=>k≤N+1)
  (fun ((v3,k):Nat×Nat)=>⟨L .any [(0,autP n next),(3,.own 7 v3),(4,iv (gcdW n next k)),(5,iv k)],
   L .gone [(7,.row v3 1 true (ints (tabR (minW n next) k)))]⟩)
  (_,0) (Y1j _) (by simp only [Bz2y,gcdW,tabR,List.range_zero,Yb,go_sem,yz0,J9,J8,J6,J7,J5,J0,J1,J2,reduceIte,J3,J4,reduceCtorEq];try rfl) ?_
 rintro ⟨v3,k⟩ hk
 have hk:k≤N+1:=hk
 by_cases hkl:(k:Int)<n
 ·have hk1:k<N+1:=by omega
  have wk:IntKind.i64.wrap ((k:Int)+1)=((k+1:Nat):Int):=by rw [w64 (by omega)];simp
  have hmr:=yz47 A hc (s:=k) (by omega)
  have hgr:=yz5w A hc k (by omega)
  have hbl:k<(tabR (minW n next) (k+1)).length:=by rw [yzg];omega
  have hgd:(tabR (minW n next) (k+1)).getD k 0=minW n next k:=yzp (by omega)
  simp only [Bz2y,Bz7g,Bzfc,decide_eq_true hkl,go_sem,yz0,J9,J8,J6,J7,J5,J0,J1,J2,reduceIte,J3,J4,reduceCtorEq]
  intro vs2
  refine yz5 (yzfh n next A hc k (by omega)) qCS trivial ?_
  simp only [go_sem,yz0,J9,J8,J6,J7,J5,J0,J1,J2,reduceIte,J3,J4,reduceCtorEq]
  refine ⟨⟨_,rfl,rfl⟩,by rw [yzg];omega,?_⟩
  rw [← yz6o]
  simp only [Bzfa,yz3 hbl,hgd,go_sem,yz0,J9,J8,J6,J7,J5,J0,J1,J2,reduceIte,J3,J4,reduceCtorEq]
  intro vs3
  refine ⟨⟨by omega,hbl⟩,hbl,?_⟩
  refine yz5 (k_l01Gcd (gcdW n next k) (minW n next k) (by omega) (by omega)) qCS trivial ?_
  simp only [Bzfb,wk,go_sem,yz0,J9,J8,J6,J7,J5,J0,J1,J2,reduceIte,J3,J4,reduceCtorEq]
  exact ⟨(vs2 5 0,k+1),by dsimp only;omega,by dsimp only;omega,rfl⟩
 ·obtain rfl:k=N+1:=by omega
  have hgr:=yz5w A hc (N+1) (by omega)
  have hg0:¬ gcdW n next (N+1)=0:=by have:=hgr.2.2 (by omega);omega
  simp only [Bz2y,Bz7g,Bzfi,Bzfg,decide_eq_false hkl,go_sem,yz0,J9,J8,J6,J7,J5,J0,J1,J2,reduceIte,J3,J4,reduceCtorEq]
  refine yzo (fun (i:Nat)=>N+1 - i) (fun i=>i≤N+1)
   (fun (i:Nat)=>⟨L .any [(3,.own 7 v3),(4,iv (gcdW n next (N+1))),(6,iv i)],
    L .gone [(7,.row v3 1 true (ints (tabR (fun s=>if s<i then (minW n next s).tdiv (gcdW n next (N+1)) else minW n next s) (N+1))))]⟩)
   0 (Y1j _) (by
    have:tabR (fun s=>if s<0 then (minW n next s).tdiv (gcdW n next (N+1)) else minW n next s) (N+1)=tabR (minW n next) (N+1):=yz15 fun b _=>by rw [if_neg (by omega)]
    rw [this]
    simp only [Bz2z,go_sem,yz0,J9,J8,J6,J7,J5,J0,J1,J2,reduceIte,J3,J4,reduceCtorEq];try rfl) ?_
  intro i hi
  have hi:i≤N+1:=hi
  have hRl:(tabR (fun s=>if s<i then (minW n next s).tdiv (gcdW n next (N+1)) else minW n next s) (N+1)).length=N+1:=yzg
  by_cases hil:(i:Int)<((N+1:Nat):Int)
  ·have hi1:i<N+1:=by omega
   have wi:IntKind.i64.wrap ((i:Int)+1)=((i+1:Nat):Int):=by rw [w64 (by omega)];simp
   have hmr:=yz47 A hc (s:=i) (by omega)
   have hset:(tabR (fun s=>if s<i then (minW n next s).tdiv (gcdW n next (N+1)) else minW n next s) (N+1)).set i ((minW n next i).tdiv (gcdW n next (N+1)))=tabR (fun s=>if s<i+1 then (minW n next s).tdiv (gcdW n next (N+1)) else minW n next s) (N+1):=yz3b fun b _=>by
    by_cases e:b=i
    ·subst e;rw [if_pos rfl,if_pos (by omega)]
    ·rw [if_neg e]
     by_cases e2:b<i
     ·rw [if_pos e2,if_pos (by omega)]
     ·rw [if_neg e2,if_neg (by omega)]
   have hg:(tabR (fun s=>if s<i then (minW n next s).tdiv (gcdW n next (N+1)) else minW n next s) (N+1)).getD i 0=minW n next i:=by rw [yzp hi1,if_neg (by omega)]
   have hdv:0≤(minW n next i).tdiv (gcdW n next (N+1))∧(minW n next i).tdiv (gcdW n next (N+1))≤minW n next i:=by
    rw [Int.tdiv_eq_ediv_of_nonneg (by omega)]
    exact ⟨Int.ediv_nonneg (by omega) hgr.1,Int.ediv_le_self _ (by omega)⟩
   have w1:IntKind.i64.wrap ((minW n next i).tdiv (gcdW n next (N+1)))=(minW n next i).tdiv (gcdW n next (N+1)):=w64 (by omega)
   generalize tabR (fun s=>if s<i then (minW n next s).tdiv (gcdW n next (N+1)) else minW n next s) (N+1)=R1 at hset hg hRl ⊢
   have i1:i<R1.length:=by omega
   have hlr:(i:Int)<(R1.length:Int):=by omega
   have hp1:=yz37 (v:=(minW n next i).tdiv (gcdW n next (N+1))) i1
   rw [hset] at hp1
   simp only [Bz2z,Bz7h,Bzff,decide_eq_true hlr,yz3 i1,hg,hg0,w1,if_false,go_sem,yz0,J9,J8,J6,J7,J5,J0,J1,J2,reduceIte,J3,J4,reduceCtorEq]
   intro hM2
   refine ⟨⟨by omega,i1⟩,i1,⟨by omega,i1⟩,i1,?_⟩
   simp only [hp1,Bzfe,wi,go_sem,yz0,J9,J8,J6,J7,J5,J0,J1,J2,reduceIte,J3,J4,reduceCtorEq]
   exact ⟨i+1,by omega,by omega,rfl⟩
  ·obtain rfl:i=N+1:=by omega
   have hend:tabR (fun s=>if s<N+1 then (minW n next s).tdiv (gcdW n next (N+1)) else minW n next s) (N+1)=wghL n next:=by
    unfold wghL
    rw [hN]
    exact yz15 fun b hb=>by rw [if_pos hb]
   rw [hend] at hRl ⊢
   simp only [Bz2z,Bz7h,Bzfh,Az7i,← hQ,hRl,decide_eq_false hil,go_sem,yz0,J9,J8,J6,J7,J5,J0,J1,J2,reduceIte,J3,J4,reduceCtorEq]
   intro hM2
   exact ⟨7,v3,wghL n next,by omega,rfl,by simp only [go_sem,yz0,J9,J8,J6,J7,J5,J0,J1,J2,reduceIte,J3,J4,reduceCtorEq],rfl⟩
theorem yzbk (n:Int) (next:List (List Int)) (A:Aut n next):Fun Tryz.prog nz56 [autP n next] (bv (conB n next)):=by
 refine yzd mixed czru rfl ⟨rfl,trivial⟩ ?_
 have n1:=A.n1
 have n2:=A.n2
 simp only [Azf9,Bzf8,Bzf6,go_sem,yz0,J9,J8,J6,J7,J5,J0,J1,J2,reduceIte,J3,J4,reduceCtorEq]
 refine yzo (fun s=>n.toNat - s) (fun s=>s≤n.toNat∧((Ya s).all fun (s:Nat)=>!decide (((nrm (reachL n next s)).length:Int)<n))=true)
  (fun s:Nat=>⟨L .any [(0,autP n next),(3,iv s)],L .gone []⟩) 0 ⟨by omega,rfl⟩ (by simp only [Bz2x,go_sem,yz0,J9,J8,J6,J7,J5,J0,J1,J2,reduceIte,J3,J4,reduceCtorEq];try rfl) ?_
 rintro s ⟨hs,ha⟩
 by_cases hlt:(s:Int)<n
 ·have ho:=yz7x A (s:=(s:Int)) ⟨by omega,hlt⟩
  have hle:=ho.len n1
  have hnl:=yz55 ho.nd
  have ws:IntKind.i64.wrap ((s:Int)+1)=((s+1:Nat):Int):=by rw [w64 (by omega)];simp
  simp only [Bz2x,Bz7e,Bzf5,decide_eq_true hlt,go_sem,yz0,J9,J8,J6,J7,J5,J0,J1,J2,reduceIte,J3,J4,reduceCtorEq]
  intro vs2
  refine yzm (yz95 n next s A (by omega)) qCS qGN ⟨_,rfl⟩ ?_
  rintro ys v rfl
  simp only [go_sem,yz0,J9,J8,J6,J7,J5,J0,J1,J2,reduceIte,J3,J4,reduceCtorEq]
  by_cases hd:((nrm (reachL n next s)).length:Int)<n
  ·have hne:(((nrm (reachL n next s)).length:Int) != n)=true:=by rw [bne_iff_ne];omega
   simp only [Bz7f,hne,go_sem,yz0,J9,J8,J6,J7,J5,J0,J1,J2,reduceIte,J3,J4,reduceCtorEq]
   have:conB n next=false:=by
    rw [Bool.eq_false_iff]
    intro h
    have:=Yo.1 h s (Ym.2 (by omega))
    rw [decide_eq_true hd] at this;cases this
   rw [this]
  ·have hne:(((nrm (reachL n next s)).length:Int) != n)=false:=by
    have:((nrm (reachL n next s)).length:Int)=n:=by omega
    rw [this,bne_self_eq_false]
   simp only [Bz7f,Bzf4,hne,ws,go_sem,yz0,J9,J8,J6,J7,J5,J0,J1,J2,reduceIte,J3,J4,reduceCtorEq]
   exact ⟨s+1,by omega,⟨by omega,by rw [List.range_succ,List.all_append,ha];simp [decide_eq_false hd]⟩,rfl⟩
 ·obtain rfl:s=n.toNat:=by omega
  simp only [Bz2x,Bz7e,Bzf7,decide_eq_false hlt,go_sem,yz0,J9,J8,J6,J7,J5,J0,J1,J2,reduceIte,J3,J4,reduceCtorEq]
  unfold conB
  rw [ha]
def codeW (n:Int) (next:List (List Int)) (set:List Int):Int :=
 if autB n next then (if setB n set then (if conB n next then 0 else 4) else 2) else 1
theorem yz6u (n:Int) (next:List (List Int)) (set:List Int) (hn:1≤n∧n≤10) :
  Fun Tryz.prog nz20 [.rp [.ro none 1 (ints set)] 0,autP n next] (bv (setB n set)):=by
 refine yzd mixed czsr rfl ⟨rfl,trivial⟩ ?_
 simp only [Bzkj,Azkk,go_sem,yz0,J9,J8,J6,J7,J5,J0,J1,J2,reduceIte,J3,J4,reduceCtorEq]
 intro vs
 refine yz5 (k_isSet set n hn) qCS trivial ?_
 simp only [go_sem,yz0,J9,J8,J6,J7,J5,J0,J1,J2,reduceIte,J3,J4,reduceCtorEq]
theorem yz44 (n:Int) (next:List (List Int)) (set:List Int):Fun Tryz.prog nz1q [autA n next,.ro none 1 (ints set)] (iv (codeW n next set)):=by
 refine yzd mixed czs1 rfl ⟨rfl,trivial⟩ ?_
 simp only [Azgs,Bzgr,go_sem,yz0,J9,J8,J6,J7,J5,J0,J1,J2,reduceIte,J3,J4,reduceCtorEq]
 intro vs vs2
 refine yz5 (k_code n next nz20 [.rp [.ro none 1 (ints set)] 0,autP n next] _ ⟨by simp only [go_sem,yz0,J9,J8,J6,J7,J5,J0,J1,J2,reduceIte,J3,J4,reduceCtorEq],by intros;simp only [csA,rowIs,boxIs,J3,ne_eq,reduceCtorEq,exists_eq_left,exists_eq_right,Y8,Yi,exists_eq_left',exists_and_left,exists_eq,Y1,Yb,AObj.ver,J5]⟩
  (fun hv=>yz6u n next set ⟨(autB_iff.1 hv).n1,(autB_iff.1 hv).n2⟩)) qCS trivial ?_
 cases hv:autB n next with
 | false =>
  have h3:codeI false (setB n set)=1:=by simp [codeI]
  have h4:codeW n next set=1:=by simp [codeW,hv]
  have e0:((1:Int) == 0)=false:=rfl
  simp only [h3,h4,e0,Bz38,Bzz,Bz10,go_sem,yz0,J9,J8,J6,J7,J5,J0,J1,J2,reduceIte,J3,J4,reduceCtorEq]
 | true =>
  have A:=autB_iff.1 hv
  cases hw:setB n set with
  | false =>
   have h3:codeI true false=2:=by simp [codeI]
   have h4:codeW n next set=2:=by simp [codeW,hv,hw]
   have e0:((2:Int) == 0)=false:=rfl
   simp only [h3,h4,e0,Bz38,Bzz,Bz10,go_sem,yz0,J9,J8,J6,J7,J5,J0,J1,J2,reduceIte,J3,J4,reduceCtorEq]
  | true =>
   have h3:codeI true true=0:=by simp [codeI]
   have e0:((0:Int) == 0)=true:=rfl
   simp only [h3,e0,Bz38,go_sem,yz0,J9,J8,J6,J7,J5,J0,J1,J2,reduceIte,J3,J4,reduceCtorEq]
   intro vs3
   refine yz5 (yz7z n next A) qCS trivial ?_
   cases hb:conB n next with
   | false =>
    have h4:codeW n next set=4:=by simp [codeW,hv,hw,hb]
    simp only [h4,Bzz,Bz10,go_sem,yz0,J9,J8,J6,J7,J5,J0,J1,J2,reduceIte,J3,J4,reduceCtorEq]
   | true =>
    have h4:codeW n next set=0:=by simp [codeW,hv,hw,hb]
    simp only [h4,Bzz,Bz10,go_sem,yz0,J9,J8,J6,J7,J5,J0,J1,J2,reduceIte,J3,J4,reduceCtorEq]
theorem codeW_ok {n:Int} {next:List (List Int)} {set:List Int}:codeW n next set=0↔autB n next=true∧setB n set=true∧conB n next=true:=by
 unfold codeW
 cases autB n next <;> cases setB n set <;> cases conB n next <;> simp
def hvy (ws set:List Int):Int:=(set.map fun s=>ws.getD s.toNat 0).sum
theorem yzew {ws:List Int}:hvy ws []=0:=rfl
theorem yzdb {ws set:List Int} {i:Nat} (h:i<set.length):hvy ws (set.take (i+1))=hvy ws (set.take i)+ws.getD (set.getD i 0).toNat 0:=by
 have e:set.getD i 0=set[i]:=by rw [Y0,Y2 h];rfl
 unfold hvy
 rw [Y1a h,Yc,List.sum_append,e]
 simp
theorem hvy_rg {ws:List Int} (hw:∀ x∈ws,0≤x∧x≤19683):∀ {set:List Int},(∀ s∈set,0≤s∧s<ws.length)→0≤hvy ws set∧hvy ws set≤19683 * set.length
 | [],_=>by rw [yzew];simp
 | s :: set,h=>by
  have h1:=hvy_rg hw (set:=set) fun x hx=>h x (Yt _ hx)
  have h2:=h s (List.mem_cons_self ..)
  have h3:=hw _ (yz4 (show s.toNat<ws.length by omega) 0)
  have e:hvy ws (s :: set)=ws.getD s.toNat 0+hvy ws set:=by simp [hvy]
  rw [e,Ye]
  omega
theorem yzdh (ws set:List Int) (hw:∀ x∈ws,0≤x∧x≤19683) (hs:∀ s∈set,0≤s∧s<ws.length) (hl:set.length≤1000000):Fun Tryz.prog nzq [.ro none 1 (ints ws),.ro none 1 (ints set)] (iv (hvy ws set)):=by
 refine yzd mixed czs3 rfl ⟨rfl,trivial⟩ ?_
 simp only [Azhq,Bzhp,Bzho,go_sem,yz0,J9,J8,J6,J7,J5,J0,J1,J2,reduceIte,J3,J4,reduceCtorEq]
 intro hM
 simp only [Bzhm,go_sem,yz0,J9,J8,J6,J7,J5,J0,J1,J2,reduceIte,J3,J4,reduceCtorEq]
 refine yzo (fun (i:Nat)=>set.length - i) (fun i=>i≤set.length)
  (fun (i:Nat)=>⟨L .any [(0,.ro none 1 (ints ws)),(5,iv (hvy ws (set.take i))),(8,.ro none 1 (ints set)),(9,iv set.length),(10,iv i)],L .gone []⟩)
  0 (Y1j _) (by simp only [Bz3d,List.take_zero,yzew,go_sem,yz0,J9,J8,J6,J7,J5,J0,J1,J2,reduceIte,J3,J4,reduceCtorEq];try rfl) ?_
 intro i hi
 have hi:i≤set.length:=hi
 by_cases hlt:(i:Int)<set.length
 ·have hlt1:i<set.length:=by omega
  have wi:IntKind.i64.wrap ((i:Int)+1)=((i+1:Nat):Int):=by rw [w64 (by omega)];simp
  have hsi:=hs _ (yz4 hlt1 0)
  have hsl:(set.getD i 0).toNat<ws.length:=by omega
  have hsn:(((set.getD i 0).toNat:Nat):Int)=set.getD i 0:=by omega
  have hrg:=hvy_rg hw (set:=set.take (i+1)) fun x hx=>hs x (Y1d hx)
  have hlen:(set.take (i+1)).length≤1000000:=by rw [Yk];omega
  have hst:=yzdb (ws:=ws) hlt1
  have w1:IntKind.i64.wrap (hvy ws (set.take i)+ws.getD (set.getD i 0).toNat 0)=hvy ws (set.take (i+1)):=by rw [← hst];exact w64 (by omega)
  simp only [Bz3d,Bz88,Bzhl,decide_eq_true hlt,yz3 hlt1,go_sem,yz0,J9,J8,J6,J7,J5,J0,J1,J2,reduceIte,J3,J4,reduceCtorEq]
  refine ⟨⟨by omega,hlt1⟩,hlt1,?_⟩
  simp only [Bzhj,yz3 hsl,w1,go_sem,yz0,J9,J8,J6,J7,J5,J0,J1,J2,reduceIte,J3,J4,reduceCtorEq]
  refine ⟨⟨by omega,hsl⟩,hsl,?_⟩
  simp only [Bzhk,wi,go_sem,yz0,J9,J8,J6,J7,J5,J0,J1,J2,reduceIte,J3,J4,reduceCtorEq]
  exact ⟨i+1,by omega,by omega,rfl⟩
 ·obtain rfl:i=set.length:=by omega
  simp only [Bz3d,Bz88,Bzhn,decide_eq_false hlt,Y11,go_sem,yz0,J9,J8,J6,J7,J5,J0,J1,J2,reduceIte,J3,J4,reduceCtorEq]
theorem yz7q (ws set:List Int) (hw:∀ x∈ws,0≤x∧x≤19683) (hs:∀ s∈set,0≤s∧s<ws.length) (hl:set.length≤1000000):Fun Tryz.prog nz1n [.ro none 1 (ints ws),.ro none 1 (ints set)] (iv (hvy ws set)):=by
 refine yzd mixed czrx rfl ⟨rfl,trivial⟩ ?_
 simp only [Azfz,Bzfy,Bzfx,Bzfv,go_sem,yz0,J9,J8,J6,J7,J5,J0,J1,J2,reduceIte,J3,J4,reduceCtorEq]
 refine yzo (fun (i:Nat)=>set.length - i) (fun i=>i≤set.length)
  (fun (i:Nat)=>⟨L .any [(0,.ro none 1 (ints ws)),(1,.ro none 1 (ints set)),(5,iv (hvy ws (set.take i))),(6,iv i)],L .gone []⟩)
  0 (Y1j _) (by simp only [Bz31,List.take_zero,yzew,go_sem,yz0,J9,J8,J6,J7,J5,J0,J1,J2,reduceIte,J3,J4,reduceCtorEq];try rfl) ?_
 intro i hi
 have hi:i≤set.length:=hi
 by_cases hlt:(i:Int)<set.length
 ·have hlt1:i<set.length:=by omega
  have wi:IntKind.i64.wrap ((i:Int)+1)=((i+1:Nat):Int):=by rw [w64 (by omega)];simp
  have hsi:=hs _ (yz4 hlt1 0)
  have hsl:(set.getD i 0).toNat<ws.length:=by omega
  have hrg:=hvy_rg hw (set:=set.take (i+1)) fun x hx=>hs x (Y1d hx)
  have hlen:(set.take (i+1)).length≤1000000:=by rw [Yk];omega
  have hst:=yzdb (ws:=ws) hlt1
  have w1:IntKind.i64.wrap (hvy ws (set.take i)+ws.getD (set.getD i 0).toNat 0)=hvy ws (set.take (i+1)):=by rw [← hst];exact w64 (by omega)
  simp only [Bz31,Bz7k,Bzfu,decide_eq_true hlt,yz3 hlt1,yz3 hsl,w1,go_sem,yz0,J9,J8,J6,J7,J5,J0,J1,J2,reduceIte,J3,J4,reduceCtorEq]
  intro hM
  refine ⟨⟨by omega,hlt1⟩,hlt1,⟨by omega,hsl⟩,hsl,?_⟩
  simp only [Bzft,wi,go_sem,yz0,J9,J8,J6,J7,J5,J0,J1,J2,reduceIte,J3,J4,reduceCtorEq]
  exact ⟨i+1,by omega,by omega,rfl⟩
 ·obtain rfl:i=set.length:=by omega
  simp only [Bz31,Bz7k,Bzfw,decide_eq_false hlt,Y11,go_sem,yz0,J9,J8,J6,J7,J5,J0,J1,J2,reduceIte,J3,J4,reduceCtorEq]
  try (intro hM;rfl)
theorem yz4h {n:Int} {next:List (List Int)}:(wghL n next).length=n.toNat:=by simp [wghL]
theorem yzep {n:Int} {next:List (List Int)} (A:Aut n next) (hc:conB n next=true):∀ x∈wghL n next,0≤x∧x≤19683:=by
 intro x hx
 unfold wghL at hx
 obtain ⟨s,hs,rfl⟩:=Y3.1 hx
 have h1:=yz47 A hc (Ym.1 hs)
 have h2:=yz5w A hc n.toNat (Y1h _)
 rw [Int.tdiv_eq_ediv_of_nonneg (by omega)]
 exact ⟨Int.ediv_nonneg (by omega) h2.1,Int.le_trans (Int.ediv_le_self _ (by omega)) h1.2⟩
def wosV (n:Int) (next:List (List Int)) (set:List Int):Int:=if autB n next && (setB n set && conB n next) then hvy (wghL n next) set else 0
theorem set_le {n:Int} {set:List Int} (n2:n≤10) (h:setB n set=true):(∀ s∈set,0≤s∧s<n)∧set.length≤1000000:=by
 have Z:=setB_iff.1 h
 refine ⟨fun s hs=>by have:=Z.2 s hs;omega,?_⟩
 rcases SI_len Z.1 Z.2 with h8 | h8
 ·omega
 ·rw [h8];simp
theorem yz2d (n:Int) (next:List (List Int)) (set:List Int):Fun2 Tryz.prog nzn [autA n next,.ro none 1 (ints set)] (.int .i64 (wosV n next set)) (.int .i64 (codeW n next set)):=by
 refine fun2_of mixed czrn rfl ?_
 simp only [Azed,Bzec,go_sem,yz0,J9,J8,J6,J7,J5,J0,J1,J2,reduceIte,J3,J4,reduceCtorEq]
 intro vs vs2
 refine yz5 (yz44 n next set) qCS trivial ?_
 cases hok:(autB n next && (setB n set && conB n next)) with
 | false =>
  have h0:(codeW n next set != 0)=true:=by
   rw [bne_iff_ne]
   intro h
   have:=codeW_ok.1 h
   rw [this.1,this.2.1,this.2.2] at hok;cases hok
  have hv:wosV n next set=0:=by unfold wosV;rw [hok];rfl
  simp only [h0,hv,Bz78,Bz77,go_sem,yz0,J9,J8,J6,J7,J5,J0,J1,J2,reduceIte,J3,J4,reduceCtorEq]
  try simp
 | true =>
  have hv:wosV n next set=hvy (wghL n next) set:=by unfold wosV;rw [hok];rfl
  rw [Y20,Y20] at hok
  have A:=autB_iff.1 hok.1
  have h0:codeW n next set=0:=codeW_ok.2 ⟨hok.1,hok.2.1,hok.2.2⟩
  have hz:=set_le A.n2 hok.2.1
  simp only [h0,hv,Bz78,Bz77,Bzeb,bne_self_eq_false,go_sem,yz0,J9,J8,J6,J7,J5,J0,J1,J2,reduceIte,J3,J4,reduceCtorEq]
  intro vs3
  refine yzm (yz9r n next A hok.2.2) qCS rfl ⟨_,rfl⟩ ?_
  rintro ys v rfl
  simp only [go_sem,yz0,J9,J8,J6,J7,J5,J0,J1,J2,reduceIte,J3,J4,reduceCtorEq]
  refine yz5 (yzdh (wghL n next) set (yzep A hok.2.2) (fun s hs=>by have:=hz.1 s hs;rw [yz4h];omega) hz.2) qCS trivial ?_
  simp only [go_sem,yz0,J9,J8,J6,J7,J5,J0,J1,J2,reduceIte,J3,J4,reduceCtorEq]
  try simp
end Go.Ab
