/- Contracts and what they lean on, part 10. Conditions: none. -/
import Derived.Test.YtlijcimaeplgbaaZ9
set_option maxRecDepth 100000
set_option maxHeartbeats 4000000
set_option linter.all false
open Nat renaming reduceLeDiff → xx0, reduceMul → xx1, reduceSub → xx2, reduceEqDiff → xx3, reduceAdd → xx4, reduceLT → xx5
open Int renaming reduceToNat → xx6, reduceNeg → xx7, reduceLE → xx8, reduceLT → xx9
namespace Go.Ab
open Go.Proofs
theorem k_l02Walk_word (L:TS) (B C:List Int) (hB:BT L B C) (k:Nat) (hk:k<L.length) (hL:L.length≤2000) :
    RowI Try.prog nz3w [walkP L B C,iv k] (fun ys=>ys=(L.getD k (0,[])).2):=by
  refine rowI_of mixed czjn rfl ?_
  have lb:=hB.lb
  have lc:=hB.lc
  simp only [Azes,Bzer,go_sem,yz0,xx9,xx8,xx6,xx7,xx5,xx0,xx1,xx2,reduceIte,xx3,xx4,reduceCtorEq]
  intro vs
  simp only [Bzeq,go_sem,yz0,xx9,xx8,xx6,xx7,xx5,xx0,xx1,xx2,reduceIte,xx3,xx4,reduceCtorEq]
  refine wpD_lo (fun (_,a,_)=>a) (fun (_,a,bk)=>a<L.length∧(L.getD k (0,[])).2=(L.getD a (0,[])).2 ++ (bk:List Int).reverse∧bk.length+a≤k)
    (fun ((v,a,bk):Nat×Nat×List Int)=>⟨Go.Ab.L .any [(0,walkP L B C),(1,iv a),(5,.own 8 v)],Go.Ab.L .gone [(8,.row v 1 true (ints bk))]⟩)
    (_,k,[]) ⟨hk,by simp,by simp⟩ (by simp only [Bz2r,go_sem,yz0,xx9,xx8,xx6,xx7,xx5,xx0,xx1,xx2,reduceIte,xx3,xx4,reduceCtorEq];try rfl) ?_
  rintro ⟨v,a,bk⟩ ⟨ha,he,hl⟩
  have ha:a<L.length:=ha
  have hl:bk.length+a≤k:=hl
  have he:(L.getD k (0,[])).2=(L.getD a (0,[])).2 ++ bk.reverse:=he
  have hab:a<B.length:=by omega
  have hac:a<C.length:=by omega
  rcases hB.wd a ha with ⟨h1,h2⟩ | ⟨h1,h2,h3⟩
  · have hd:¬ B.getD a 0 ≥ 0:=by omega
    rw [h2,List.nil_append] at he
    simp only [Bz2r,Bz6o,Bzep,Bzeo,yz1c hab,decide_eq_false hd,go_sem,yz0,xx9,xx8,xx6,xx7,xx5,xx0,xx1,xx2,reduceIte,xx3,xx4,reduceCtorEq]
    refine ⟨⟨by omega,hab⟩,hab,?_⟩
    intro vs2 hM
    have w1:IntKind.i64.wrap ((bk.length:Int) - 1)=(bk.length:Int) - 1 - ((0:Nat):Int):=by rw [w64 (by omega)];omega
    simp only [w1,Bzem,go_sem,yz0,xx9,xx8,xx6,xx7,xx5,xx0,xx1,xx2,reduceIte,xx3,xx4,reduceCtorEq]
    refine wpD_lo (fun (_,j)=>bk.length - j) (fun (_,j)=>j≤bk.length)
      (fun ((v2,j):Nat×Nat)=>⟨Go.Ab.L .any [(5,.own 8 v),(6,.own 34 v2),(7,iv ((bk.length:Int) - 1 - (j:Nat)))],Go.Ab.L .gone [(8,.row v 1 true (ints bk)),(34,.row v2 1 true (ints (bk.reverse.take j)))]⟩)
      (_,0) (by simp) (by simp only [Bz2s,go_sem,yz0,xx9,xx8,xx6,xx7,xx5,xx0,xx1,xx2,reduceIte,xx3,xx4,reduceCtorEq];try rfl) ?_
    rintro ⟨v2,j⟩ hj
    have hj:j≤bk.length:=hj
    by_cases hjl:j<bk.length
    · have hd2:(bk.length:Int) - 1 - (j:Nat) ≥ 0:=by omega
      have hix:((bk.length:Int) - 1 - (j:Nat)).toNat<bk.length:=by omega
      have w2:IntKind.i64.wrap ((bk.length:Int) - 1 - (j:Nat) - 1)=(bk.length:Int) - 1 - ((j+1:Nat):Int):=by rw [w64 (by omega)];omega
      have hr:bk.reverse.take j ++ [bk.getD ((bk.length:Int) - 1 - (j:Nat)).toNat 0]=bk.reverse.take (j+1):=by
        have hjr:j<bk.reverse.length:=by rw [List.length_reverse];exact hjl
        rw [List.take_succ_eq_append_getElem hjr,List.getElem_reverse,List.getD_eq_getElem?_getD,List.getElem?_eq_getElem hix,Option.getD_some]
        congr 3;omega
      simp only [Bz2s,Bz6p,Bzel,Bzek,yz1c hix,w2,hr,decide_eq_true hd2,go_sem,yz0,xx9,xx8,xx6,xx7,xx5,xx0,xx1,xx2,reduceIte,xx3,xx4,reduceCtorEq]
      intro vs3
      refine ⟨⟨by omega,hix⟩,hix,⟨_,rfl,rfl⟩,by rw [List.length_take,List.length_reverse];omega,?_⟩
      exact ⟨(_,j+1),by dsimp only;omega,by dsimp only;omega,rfl⟩
    · have hd2:¬ (bk.length:Int) - 1 - (j:Nat) ≥ 0:=by omega
      have e:bk.reverse.take j=bk.reverse:=List.take_of_length_le (by rw [List.length_reverse];omega)
      simp only [Bz2s,Bz6p,Bzen,e,decide_eq_false hd2,go_sem,yz0,xx9,xx8,xx6,xx7,xx5,xx0,xx1,xx2,reduceIte,xx3,xx4,reduceCtorEq]
      exact ⟨34,v2,bk.reverse,by omega,rfl,by simp only [go_sem,yz0,xx9,xx8,xx6,xx7,xx5,xx0,xx1,xx2,reduceIte,xx3,xx4,reduceCtorEq],he.symm⟩
  · have hd:B.getD a 0 ≥ 0:=h1
    have hBn:B.getD a 0=((B.getD a 0).toNat:Int):=by omega
    simp only [Bz2r,Bz6o,Bzej,Bzei,yz1c hab,yz1c hac,decide_eq_true hd,go_sem,yz0,xx9,xx8,xx6,xx7,xx5,xx0,xx1,xx2,reduceIte,xx3,xx4,reduceCtorEq]
    refine ⟨⟨by omega,hab⟩,hab,?_⟩
    intro vs2
    refine ⟨⟨by omega,hac⟩,hac,⟨_,rfl,rfl⟩,by omega,?_⟩
    refine ⟨⟨by omega,hab⟩,hab,?_⟩
    refine ⟨(vs2 9 0,(B.getD a 0).toNat,bk ++ [C.getD a 0]),by dsimp only;omega,⟨by dsimp only;omega,?_,by dsimp only;rw [List.length_append,List.length_singleton];omega⟩,?_⟩
    · dsimp only
      rw [he,h3];simp
    · dsimp only
      rw [← hBn]
theorem firstT_at {T:TS} {i:Nat} (hi:i<T.length) (hj:∀ j<i,smallN (T.getD j (0,[])).1=false) (hs:smallN (T.getD i (0,[])).1=true):firstT T=some (T.getD i (0,[])):=by
  unfold firstT
  rw [List.find?_eq_some_iff_getElem]
  refine ⟨hs,i,hi,by rw [List.getD_eq_getElem?_getD,List.getElem?_eq_getElem hi];rfl,fun j hji=>?_⟩
  have:=hj j hji
  rw [List.getD_eq_getElem?_getD,List.getElem?_eq_getElem (by omega)] at this
  simpa using this
theorem firstT_none {T:TS} (hj:∀ j<T.length,smallN (T.getD j (0,[])).1=false):firstT T=none:=by
  unfold firstT
  rw [List.find?_eq_none]
  intro p hp
  obtain ⟨j,hjl,rfl⟩:=List.getElem_of_mem hp
  have:=hj j hjl
  rw [List.getD_eq_getElem?_getD,List.getElem?_eq_getElem hjl] at this
  simpa using this
abbrev ToldB (x:Option (Nat×List Int)) (rows:List AObj) (res:AVal):Prop:=∃ v,rows=[.row v 1 true (ints ((x.map (·.2)).getD []))]∧res=.tup [.own 6000 v,bv x.isSome]
theorem k_l02Shrink (n:Int) (next:List (List Int)) (A:Aut n next) (f:Nat) (hf:f<2 ^ n.toNat) :
    Fn Try.prog nz3n [autP n next,iv f] (ToldB (firstT (tourT next f))):=by
  refine con_of mixed czir rfl (by simp) ?_
  have n1:=A.n1
  have n2:=A.n2
  have hN:=pow_lt10' (k:=n.toNat) (by omega)
  generalize hQ:finQ _=Q
  simp only [Az2c,Bzb6,go_sem,yz0,xx9,xx8,xx6,xx7,xx5,xx0,xx1,xx2,reduceIte,xx3,xx4,reduceCtorEq]
  intro vs
  refine call_fn (k_l02From n next A f hf) qCS (fun e=>by cases e) ?_
  rintro rows res ⟨v0,va,vb,vc,B,C,hB,rfl,rfl⟩
  have hT:=(runT_ok A 1100 0 _ (TI0 (m:=next.length) hf)).1
  have hlen:=hT.len
  refine ⟨by simp,by rw [Option.getD_some,gone_four];simp only [go_sem,yz0,xx9,xx8,xx6,xx7,xx5,xx0,xx1,xx2,reduceIte,xx3,xx4,reduceCtorEq],?_⟩
  have hTT:tourT next f=runT next 1100 0 [(f,[])]:=rfl
  rw [← hTT] at hT hlen
  generalize hGT:tourT next f=T at hB hT hlen ⊢
  simp only [Option.getD_some,callHp_four,ren_own_r3,Bzb5,Bzb3,Nat.not_lt_zero,range1,yzu,yzx,yz12,yz15,yzw,yz13,yz14,yz11,yzv,yzn,yze,yz3,yzq,yzs,yzo,yzm,yzr,yz9,yzc,yza,yz7,yzg,yzf,yz2,yz5,yzd,yzb,yzj,yzi,List.range_zero,yz6,yz4,yz8,yzt,yzl,yzp,AVal.fresh,freshL,yz1,yzh,AObj.fresh,id,Option.isSome_some,or_true,true_or,go_sem,yz0,xx9,xx8,xx6,xx7,xx5,xx0,xx1,xx2,reduceIte,xx3,xx4,reduceCtorEq]
  refine wpD_lo (fun i=>T.length - i) (fun i=>i≤T.length∧∀ j<i,smallN (T.getD j (0,[])).1=false)
    (fun i:Nat=>⟨Go.Ab.L .any [(6,.ptr 10 (vs 2 v0) 0),(7,iv i)],Go.Ab.L .gone [(10,.box (vs 2 v0) [.own 1010 (vs 2 va),.own 2010 (vs 2 vb),.own 3010 (vs 2 vc)]),(1010,.row (vs 2 va) 1 true (ints (setsI T))),(2010,.row (vs 2 vb) 1 true (ints B)),(3010,.row (vs 2 vc) 1 true (ints C))]⟩)
    0 ⟨by simp,by simp⟩ (by simp only [Bz2b,go_sem,yz0,xx9,xx8,xx6,xx7,xx5,xx0,xx1,xx2,reduceIte,xx3,xx4,reduceCtorEq];try rfl) ?_
  rintro i ⟨hi,hj⟩
  by_cases hlt:(i:Int)<T.length
  · have hlt1:i<T.length:=by omega
    have hls:i<(setsI T).length:=by simpa using hlt1
    have hm:=hT.rg _ (yz17 hlt1 (0,([]:List Int)))
    simp only [Bz2b,Bz5e,Bzb2,List.length_map,yz1c hls,setsI_getD hlt1,decide_eq_true hlt,go_sem,yz0,xx9,xx8,xx6,xx7,xx5,xx0,xx1,xx2,reduceIte,xx3,xx4,reduceCtorEq]
    intro hM vs2
    refine ⟨⟨by omega,hlt1⟩,hlt1,?_⟩
    refine yz10 (k_l02Single (T.getD i (0,[])).1 (by omega)) qCS trivial ?_
    cases hs:smallN (T.getD i (0,[])).1 with
    | true =>
      have hF:=firstT_at hlt1 hj hs
      simp only [Bz5f,go_sem,yz0,xx9,xx8,xx6,xx7,xx5,xx0,xx1,xx2,reduceIte,xx3,xx4,reduceCtorEq]
      intro vs3
      refine call_rowI (k_l02Walk_word T B C hB i hlt1 (by omega)) qCS qGN ⟨_,rfl⟩ ?_
      rintro ys v rfl
      simp only [Az2c,← hQ,go_sem,yz0,xx9,xx8,xx6,xx7,xx5,xx0,xx1,xx2,reduceIte,xx3,xx4,reduceCtorEq]
      refine ⟨[30],by simp,by simp,by simp,?_⟩
      simp only [ToldB,hGT,hF,Option.map_some,Option.getD_some,Option.isSome_some,range1,List.length_singleton,Nat.not_lt_zero,range1,yzu,yzx,yz12,yz15,yzw,yz13,yz14,yz11,yzv,yzn,yze,yz3,yzq,yzs,yzo,yzm,yzr,yz9,yzc,yza,yz7,yzg,yzf,yz2,yz5,yzd,yzb,yzj,yzi,List.range_zero,yz6,yz4,yz8,yzt,yzl,yzp,AVal.fresh,freshL,yz1,yzh,AObj.fresh,id,Option.isSome_some,or_true,true_or,go_sem,yz0,xx9,xx8,xx6,xx7,xx5,xx0,xx1,xx2,reduceIte,xx3,xx4,reduceCtorEq]
      exact ⟨v,rfl,rfl⟩
    | false =>
      simp only [Bz5f,Bzb1,nat1 i _ hlt1 hM,go_sem,yz0,xx9,xx8,xx6,xx7,xx5,xx0,xx1,xx2,reduceIte,xx3,xx4,reduceCtorEq]
      refine ⟨i+1,by omega,⟨by omega,fun j hji=>?_⟩,rfl⟩
      by_cases e:j=i
      · rw [e];exact hs
      · exact hj j (by omega)
  · have e:i=T.length:=by omega
    subst e
    have hF:=firstT_none hj
    simp only [Bz2b,Bz5e,Bzb4,List.length_map,decide_eq_false hlt,Az2c,← hQ,go_sem,yz0,xx9,xx8,xx6,xx7,xx5,xx0,xx1,xx2,reduceIte,xx3,xx4,reduceCtorEq]
    intro _ vs2
    refine ⟨[31],by simp,by simp,by simp,?_⟩
    simp only [ToldB,hGT,hF,Option.map_none,Option.getD_none,Option.isSome_none,range1,List.length_singleton,List.map_nil,Nat.not_lt_zero,range1,yzu,yzx,yz12,yz15,yzw,yz13,yz14,yz11,yzv,yzn,yze,yz3,yzq,yzs,yzo,yzm,yzr,yz9,yzc,yza,yz7,yzg,yzf,yz2,yz5,yzd,yzb,yzj,yzi,List.range_zero,yz6,yz4,yz8,yzt,yzl,yzp,AVal.fresh,freshL,yz1,yzh,AObj.fresh,id,Option.isSome_some,or_true,true_or,go_sem,yz0,xx9,xx8,xx6,xx7,xx5,xx0,xx1,xx2,reduceIte,xx3,xx4,reduceCtorEq]
    exact ⟨_,rfl,rfl⟩
theorem k_l02Told (xs:List Int) (ok:Bool):Con Try.prog nz3m [.row 0 1 true (ints xs)] [.own 5000 0,bv ok] true fun outs rows res =>
    outs=[.row 0 1 true (ints xs)]∧(ok=true∧rows=[]∧res=.tup [.own 5000 0,iv 0]∨ok=false∧∃ w,rows=[.row w 1 true []]∧res=.tup [.own 6000 w,iv 6]):=by
  refine con_sh mixed cziq rfl (by simp) ?_
  cases ok with
  | true =>
    simp only [Az5d,Bz5c,Bz5a,Bz5b,Bool.not_true,go_sem,yz0,xx9,xx8,xx6,xx7,xx5,xx0,xx1,xx2,reduceIte,xx3,xx4,reduceCtorEq]
    refine ⟨[],by simp,by simp,by simp,?_⟩
    have e5:AVal.ren (expo []) id (AVal.own 5000 0)=.own 5000 0:=ren_own (expo_in (j:=0) (by omega))
    simp only [range1,List.length_singleton,e5,Nat.not_lt_zero,range1,yzu,yzx,yz12,yz15,yzw,yz13,yz14,yz11,yzv,yzn,yze,yz3,yzq,yzs,yzo,yzm,yzr,yz9,yzc,yza,yz7,yzg,yzf,yz2,yz5,yzd,yzb,yzj,yzi,List.range_zero,yz6,yz4,yz8,yzt,yzl,yzp,AVal.fresh,freshL,yz1,yzh,AObj.fresh,id,Option.isSome_some,or_true,true_or,go_sem,yz0,xx9,xx8,xx6,xx7,xx5,xx0,xx1,xx2,reduceIte,xx3,xx4,reduceCtorEq]
  | false =>
    simp only [Az5d,Bz5c,Bz5a,Bz5b,Bool.not_false,go_sem,yz0,xx9,xx8,xx6,xx7,xx5,xx0,xx1,xx2,reduceIte,xx3,xx4,reduceCtorEq]
    intro vs
    refine ⟨[8],by simp,by simp,by simp,?_⟩
    simp only [range1,List.length_singleton,Nat.not_lt_zero,range1,yzu,yzx,yz12,yz15,yzw,yz13,yz14,yz11,yzv,yzn,yze,yz3,yzq,yzs,yzo,yzm,yzr,yz9,yzc,yza,yz7,yzg,yzf,yz2,yz5,yzd,yzb,yzj,yzi,List.range_zero,yz6,yz4,yz8,yzt,yzl,yzp,AVal.fresh,freshL,yz1,yzh,AObj.fresh,id,Option.isSome_some,or_true,true_or,go_sem,yz0,xx9,xx8,xx6,xx7,xx5,xx0,xx1,xx2,reduceIte,xx3,xx4,reduceCtorEq]
    exact .inr ⟨_,rfl,rfl⟩
theorem call_told {P:Program} {σ:St} {g:FuncId} {xs:List Int} {ok:Bool} {d:Nat} {s:Nat→Nat} {K:St→Prop} {r v:Nat}
    (h:Con P g [.row 0 1 true (ints xs)] [.own 5000 0,bv ok] true fun outs rows res =>
      outs=[.row 0 1 true (ints xs)]∧(ok=true∧rows=[]∧res=.tup [.own 5000 0,iv 0]∨ok=false∧∃ w,rows=[.row w 1 true []]∧res=.tup [.own 6000 w,iv 6]))
    (hr:σ.hp r=.row v 1 true (ints xs)) (hg:σ.hp d=.gone)
    (h1:ok=true→K (St.put ⟨σ.tm,upd σ.hp r (.row v 1 true (ints xs))⟩ (some d) (.tup [.own r v,iv 0])))
    (h2:ok=false→∀ w,K (St.put ⟨σ.tm,upd (upd σ.hp r (.row v 1 true (ints xs))) d (.row w 1 true [])⟩ (some d) (.tup [.own d w,iv 6]))):wpCall P false σ g [.own r v,bv ok] (some d) s K:=by
  have hne:d≠r:=fun e=>by rw [e,hr] at hg;cases hg
  refine .inl ⟨[r],[.row 0 1 true (ints xs)],[.own 5000 0,bv ok],true,_,h,⟨by simp,rfl,by simp,by simp [hr],?_⟩,?_,(fun e=>by cases e),?_⟩
  · intro j B r' hB hr'
    cases j with
    | succ j=>simp at hB
    | zero =>
      simp at hB hr';subst hB;subst hr'
      simp only [ObjCoe,hr]
      exact ⟨trivial,v,_,rfl,coeL_ints⟩
  · rw [yzz,yzz,yz1d]
    simp only [Coe,and_true]
    exact ⟨0,r,v,rfl,rfl,rfl,rfl,by rw [hr];rfl⟩
  · have e:sv σ.hp [r] s 0=v:=by simp [sv,hr,AObj.ver]
    rintro outs rows res ⟨rfl,⟨ho,rfl,rfl⟩ | ⟨ho,w,rfl,rfl⟩⟩
    · refine ⟨rfl,by simp,by simp,?_⟩
      rw [Option.getD_some,callHp_m,yzm,e]
      have h3:=h1 ho
      have e2:AVal.ren (rid [r] d ([]:List AObj).length) (sv σ.hp [r] s) (.own 5000 0)=.own r v:=by rw [← e];exact ren_own (rid_m (j:=0) (by omega) rfl)
      simp only [Option.getD_some,List.length_nil] at e2
      simp only [Option.getD_some,yz3,yzv,yze,yzn,yzu,List.length_nil,e2]
      exact h3
    · refine ⟨rfl,by simp,by rw [Option.getD_some,yzl];exact hg,?_⟩
      rw [Option.getD_some,callHp_mr hne,yzm,yzm,e]
      have h3:=h2 ho (sv σ.hp [r] s w)
      simp only [Option.getD_some,List.length_singleton,yz3,yzv,yze,yzn,yzu,yz2]
      exact h3
theorem k_specShortestReset (n:Int) (next:List (List Int)) (A:Aut n next) :
    Fn Try.prog nz3c [autA n next] fun rows res=>∃ v xs,rows=[.row v 1 true (ints xs)]∧res=.tup [.own 6000 v,iv (if (firstT (tourT next (2 ^ n.toNat - 1))).isSome then 0 else 6)]:=by
  refine con_of mixed czib rfl (by simp) ?_
  have n1:=A.n1
  have n2:=A.n2
  have hp:=Nat.two_pow_pos n.toNat
  have hv:autB n next=true:=autB_iff.2 A
  simp only [Az8y,Bz8x,go_sem,yz0,xx9,xx8,xx6,xx7,xx5,xx0,xx1,xx2,reduceIte,xx3,xx4,reduceCtorEq]
  intro vs vs2
  refine yz10 (k_l01Ok n next) qCS trivial ?_
  simp only [hv,Bz8v,Bz8w,go_sem,yz0,xx9,xx8,xx6,xx7,xx5,xx0,xx1,xx2,reduceIte,xx3,xx4,reduceCtorEq]
  intro vs3
  refine yz10 (k_l02Full n next ⟨n1,n2⟩) qCS trivial ?_
  simp only [go_sem,yz0,xx9,xx8,xx6,xx7,xx5,xx0,xx1,xx2,reduceIte,xx3,xx4,reduceCtorEq]
  refine call_fn (k_l02Shrink n next A (2 ^ n.toNat - 1) (by omega)) qCS (fun e=>by cases e) ?_
  rintro rows res ⟨v,rfl,rfl⟩
  refine ⟨by simp,by rw [Option.getD_some,yzl];simp only [go_sem,yz0,xx9,xx8,xx6,xx7,xx5,xx0,xx1,xx2,reduceIte,xx3,xx4,reduceCtorEq],?_⟩
  generalize firstT (tourT next (2 ^ n.toNat - 1))=F
  simp only [Option.getD_some,Nat.not_lt_zero,range1,yzu,yzx,yz12,yz15,yzw,yz13,yz14,yz11,yzv,yzn,yze,yz3,yzq,yzs,yzo,yzm,yzr,yz9,yzc,yza,yz7,yzg,yzf,yz2,yz5,yzd,yzb,yzj,yzi,List.range_zero,yz6,yz4,yz8,yzt,yzl,yzp,AVal.fresh,freshL,yz1,yzh,AObj.fresh,id,Option.isSome_some,or_true,true_or,go_sem,yz0,xx9,xx8,xx6,xx7,xx5,xx0,xx1,xx2,reduceIte,xx3,xx4,reduceCtorEq]
  refine call_told (k_l02Told _ F.isSome) rfl qGN (fun ho=>?_) (fun ho w=>?_)
  · simp only [ho,if_true,go_sem,yz0,xx9,xx8,xx6,xx7,xx5,xx0,xx1,xx2,reduceIte,xx3,xx4,reduceCtorEq]
    refine ⟨[8],by simp,by simp,by simp,?_⟩
    simp only [Nat.not_lt_zero,range1,yzu,yzx,yz12,yz15,yzw,yz13,yz14,yz11,yzv,yzn,yze,yz3,yzq,yzs,yzo,yzm,yzr,yz9,yzc,yza,yz7,yzg,yzf,yz2,yz5,yzd,yzb,yzj,yzi,List.range_zero,yz6,yz4,yz8,yzt,yzl,yzp,AVal.fresh,freshL,yz1,yzh,AObj.fresh,id,Option.isSome_some,or_true,true_or,go_sem,yz0,xx9,xx8,xx6,xx7,xx5,xx0,xx1,xx2,reduceIte,xx3,xx4,reduceCtorEq]
    exact ⟨_,_,rfl,rfl⟩
  · simp only [ho,go_sem,yz0,xx9,xx8,xx6,xx7,xx5,xx0,xx1,xx2,reduceIte,xx3,xx4,reduceCtorEq]
    refine ⟨[11],by simp,by simp,by simp,?_⟩
    simp only [Nat.not_lt_zero,range1,yzu,yzx,yz12,yz15,yzw,yz13,yz14,yz11,yzv,yzn,yze,yz3,yzq,yzs,yzo,yzm,yzr,yz9,yzc,yza,yz7,yzg,yzf,yz2,yz5,yzd,yzb,yzj,yzi,List.range_zero,yz6,yz4,yz8,yzt,yzl,yzp,AVal.fresh,freshL,yz1,yzh,AObj.fresh,id,Option.isSome_some,or_true,true_or,go_sem,yz0,xx9,xx8,xx6,xx7,xx5,xx0,xx1,xx2,reduceIte,xx3,xx4,reduceCtorEq]
    exact ⟨w,[],rfl,rfl⟩
end Go.Ab
namespace Go.Ab
open Go.Proofs
noncomputable def wocF (n:Int) (next words:List (List Int)):List Int:=wocR n next words n.toNat (allS n) []
theorem tf_L {l:List (Nat×AVal)} {h:List (Nat×AObj)} {t q ver k:Nat} {nn:Bool} {cs:List AVal} :
    St.tf ⟨L .any l,L .gone h⟩ t q ver k nn cs=⟨L .any ((t,.ro (frNm nn cs.length ver) k cs) :: l),L .gone ((q,.gone) :: h)⟩:=by
  have h1:∀ x,(if x=t then AVal.ro (frNm nn cs.length ver) k cs else L .any l x)=L .any ((t,.ro (frNm nn cs.length ver) k cs) :: l) x:=fun x=>by
    by_cases e:x=t <;> simp [L,e,eq_comm]
  have h2:∀ x,(if x=q then AObj.gone else L .gone h x)=L .gone ((q,.gone) :: h) x:=fun x=>by
    by_cases e:x=q <;> simp [L,e,eq_comm]
  exact congr (congrArg St.mk (funext h1)) (funext h2)
theorem gwp_tf {gs:List GStep} {K:St→Prop} {l:List (Nat×AVal)} {h:List (Nat×AObj)} {t q k ver:Nat} {nn:Bool} {cs:List AVal} (ht:L .any l t=.own q ver)
    (hq:L .gone h q=.row ver k nn cs) (hk:gwp gs K ⟨L .any ((t,.ro (frNm nn cs.length ver) k cs) :: l),L .gone ((q,.gone) :: h)⟩):gwp (.tf t q :: gs) K ⟨L .any l,L .gone h⟩ :=
  ⟨ver,k,nn,cs,ht,hq,by rw [tf_L];exact hk⟩
structure WocI (n:Int) (next words:List (List Int)) (set out:List Int):Prop where
  ws:WS1 n set
  ln:out.length+400 * (set.length - 1)≤4000
  fu:∃ F,set.length≤F∧wocR n next words F set out=wocF n next words
end Go.Ab
namespace Go.Ab
open Go.Proofs
theorem fb_L {l:List (Nat×AVal)} {h:List (Nat×AObj)} {r i q v ver k':Nat} {nn':Bool} {cs cs':List AVal} (hr:L .gone h r=.box v cs) :
    St.fb ⟨L .any l,L .gone h⟩ r i q ver k' nn' cs'=⟨L .any l,L .gone ((r,.box v (cs.set i (.ro (frNm nn' cs'.length ver) k' cs'))) :: (q,.gone) :: h)⟩:=by
  have h2:∀ x,(if x=r then (match L .gone h r with | .box v cs=>AObj.box v (cs.set i (.ro (frNm nn' cs'.length ver) k' cs')) | o=>o) else if x=q then AObj.gone else L .gone h x)=L .gone ((r,.box v (cs.set i (.ro (frNm nn' cs'.length ver) k' cs'))) :: (q,.gone) :: h) x:=fun x=>by
    rw [hr]
    by_cases e:x=r
    · simp [L,e]
    · by_cases e2:x=q <;> simp [L,e,e2,Ne.symm e,eq_comm]
  exact congrArg (St.mk _) (funext h2)
theorem gwp_fb {gs:List GStep} {K:St→Prop} {l:List (Nat×AVal)} {h:List (Nat×AObj)} {r i q v ver k':Nat} {nn':Bool} {cs cs':List AVal} (hr:L .gone h r=.box v cs)
    (hi:cs[i]?=some (.own q ver)) (hqr:q≠r) (hq:L .gone h q=.row ver k' nn' cs') (hk:gwp gs K ⟨L .any l,L .gone ((r,.box v (cs.set i (.ro (frNm nn' cs'.length ver) k' cs'))) :: (q,.gone) :: h)⟩) :
    gwp (.fb r i q :: gs) K ⟨L .any l,L .gone h⟩:=⟨v,cs,ver,k',nn',cs',hr,hi,hqr,hq,by rw [fb_L hr];exact hk⟩
end Go.Ab
namespace Go.Ab
open Go Go.Proofs
theorem k_FnShortest (code more:List Int) (hb:∀ x∈code,0≤x∧x≤255) (hb2:∀ x∈more,0≤x∧x≤255) :
    Fun Try.prog nz81 [.ro (some (some 0)) 1 (intsK .u8 code),.ro (some (some 0)) 1 (intsK .u8 more)] (bv true):=by
  refine fun_of mixed czi8 rfl ⟨rfl,trivial⟩ ?_
  simp only [Az8p,Bz8o,go_sem,yz0,xx9,xx8,xx6,xx7,xx5,xx0,xx1,xx2,reduceIte,xx3,xx4,reduceCtorEq]
  intro vs
  refine yz10 (k_a2Long code more) qCS trivial ?_
  simp only [Bz82,Bz8n,go_sem,yz0,xx9,xx8,xx6,xx7,xx5,xx0,xx1,xx2,reduceIte,xx3,xx4,reduceCtorEq]
  intro _ vs2
  refine call_sh (k_A2Automaton code hb) qCS (fun e=>by cases e) ?_
  rintro outs rows res ⟨rfl,n,next,v,A,n7,rfl,rfl⟩
  refine ⟨rfl,by simp,by rw [Option.getD_some,yzl];simp only [go_sem,yz0,xx9,xx8,xx6,xx7,xx5,xx0,xx1,xx2,reduceIte,xx3,xx4,reduceCtorEq],?_⟩
  have n1:=A.n1
  have n2:=A.n2
  have hp:=Nat.two_pow_pos n.toNat
  have hN:2 ^ n.toNat≤128:=Nat.pow_le_pow_right (n:=2) (by omega) (show n.toNat≤7 by omega)
  have hFl:2 ^ n.toNat - 1<2 ^ n.toNat:=by omega
  have hM:=maxLen_le
  have hT:TI n.toNat next.length (tourT next (2 ^ n.toNat - 1)):=(runT_ok A 1100 0 _ (TI0 (m:=next.length) hFl)).1
  have hTl:=hT.len
  have e00:((0:Int) != 0)=false:=rfl
  have e60:((6:Int) != 0)=true:=rfl
  have ez:((0:Int) == 0)=true:=rfl
  have hlow:=fun p h w hw hs=>first_le A (f:=2 ^ n.toNat - 1) hFl (p:=p) h (w:=w) hw hs
  simp only [Bz8m,wpD_gh,Nat.not_lt_zero,range1,yzu,yzx,yz12,yz15,yzw,yz13,yz14,yz11,yzv,yzn,yze,yz3,yzq,yzs,yzo,yzm,yzr,yz9,yzc,yza,yz7,yzg,yzf,yz2,yz5,yzd,yzb,yzj,yzi,List.range_zero,yz6,yz4,yz8,yzt,yzl,yzp,AVal.fresh,freshL,yz1,yzh,AObj.fresh,id,Option.isSome_some,or_true,true_or,go_sem,yz0,xx9,xx8,xx6,xx7,xx5,xx0,xx1,xx2,reduceIte,xx3,xx4,reduceCtorEq]
  intro _
  refine ⟨[.fb 5 1 35],gwp_fb rfl rfl (by simp) rfl ?_⟩
  simp only [gwp_nil,List.set_cons_zero,List.set_cons_succ,go_sem,yz0,xx9,xx8,xx6,xx7,xx5,xx0,xx1,xx2,reduceIte,xx3,xx4,reduceCtorEq]
  intro vs3
  refine call_fn (k_specShortestReset n next A) qCS (fun e=>by cases e) ?_
  rintro rows res ⟨v38,xs,rfl,rfl⟩
  refine ⟨by simp,by rw [Option.getD_some,yzl];simp only [go_sem,yz0,xx9,xx8,xx6,xx7,xx5,xx0,xx1,xx2,reduceIte,xx3,xx4,reduceCtorEq],?_⟩
  simp only [Option.getD_some,Bz8l,yz1g,dnL_rwn,Nat.not_lt_zero,range1,yzu,yzx,yz12,yz15,yzw,yz13,yz14,yz11,yzv,yzn,yze,yz3,yzq,yzs,yzo,yzm,yzr,yz9,yzc,yza,yz7,yzg,yzf,yz2,yz5,yzd,yzb,yzj,yzi,List.range_zero,yz6,yz4,yz8,yzt,yzl,yzp,AVal.fresh,freshL,yz1,yzh,AObj.fresh,id,Option.isSome_some,or_true,true_or,go_sem,yz0,xx9,xx8,xx6,xx7,xx5,xx0,xx1,xx2,reduceIte,xx3,xx4,reduceCtorEq]
  intro vs4
  refine call_sh (k_ShortestB n next A) qCS (fun e=>by cases e) ?_
  rintro outs rows res ⟨rfl,rfl,rfl⟩
  refine ⟨rfl,by simp,by simp,?_⟩
  unfold shortR
  cases hF:firstT (tourT next (2 ^ n.toNat - 1)) with
  | none =>
    have hno:∀ w:List Int,IsW next.length w→smallN (imN next (2 ^ n.toNat - 1) w)=false:=fun w hw=>by
      cases hs:smallN (imN next (2 ^ n.toNat - 1) w) with
      | false=>rfl
      | true =>
        obtain ⟨q,h1,_⟩:=first_set A hFl hw hs
        rw [hF] at h1;cases h1
    have htg:targL next n=[]:=by
      refine List.eq_nil_iff_forall_not_mem.2 fun s hs=>?_
      obtain ⟨h1,h2,h3⟩:=targ_mem.1 hs
      rw [← hasT_find,Option.isSome_iff_exists] at h3
      obtain ⟨q,hq⟩:=h3
      have hqm:=List.mem_of_find?_eq_some hq
      have hqc:q.1=2 ^ s.toNat:=by have:=List.find?_some hq;simpa using this
      have hqS:=two_snd (next:=next) (f:=2 ^ n.toNat - 1) q hqm
      have:=hno q.2 (hT.wd q hqm).1
      rw [← hqS,hqc,small_pow (by omega)] at this
      cases this
    have hTg:=k_TargetsOf n next A
    rw [htg] at hTg
    have hCR:=k_CountResets n next A 12 (by omega)
    rw [res_zero fun w _ hw=>hno w hw,show (((12:Nat)):Int)=12 from rfl] at hCR
    simp only [Option.isSome_none,Bool.false_eq_true,if_false,bne_self_eq_false,Bz4o,Bz4b,Bz4n,yz1g,dnL_rwn,Nat.not_lt_zero,range1,yzu,yzx,yz12,yz15,yzw,yz13,yz14,yz11,yzv,yzn,yze,yz3,yzq,yzs,yzo,yzm,yzr,yz9,yzc,yza,yz7,yzg,yzf,yz2,yz5,yzd,yzb,yzj,yzi,List.range_zero,yz6,yz4,yz8,yzt,yzl,yzp,AVal.fresh,freshL,yz1,yzh,AObj.fresh,id,Option.isSome_some,or_true,true_or,go_sem,yz0,xx9,xx8,xx6,xx7,xx5,xx0,xx1,xx2,reduceIte,xx3,xx4,reduceCtorEq]
    intro vs5
    refine call_rowT hTg qCS rfl (fun h=>by cases h) (fun _=>?_)
    simp only [List.length_nil,if_true,e60,Bz4m,Bz4c,yz1g,dnL_rwn,Nat.not_lt_zero,range1,yzu,yzx,yz12,yz15,yzw,yz13,yz14,yz11,yzv,yzn,yze,yz3,yzq,yzs,yzo,yzm,yzr,yz9,yzc,yza,yz7,yzg,yzf,yz2,yz5,yzd,yzb,yzj,yzi,List.range_zero,yz6,yz4,yz8,yzt,yzl,yzp,AVal.fresh,freshL,yz1,yzh,AObj.fresh,id,Option.isSome_some,or_true,true_or,go_sem,yz0,xx9,xx8,xx6,xx7,xx5,xx0,xx1,xx2,reduceIte,xx3,xx4,reduceCtorEq]
    intro vs6
    refine call_fun2 hCR qCS ?_
    have e66:((6:Int) == 6)=true:=rfl
    simp only [Bz83,e66,ez,Int.cast_ofNat_Int,yz1g,dnL_rwn,Nat.not_lt_zero,range1,yzu,yzx,yz12,yz15,yzw,yz13,yz14,yz11,yzv,yzn,yze,yz3,yzq,yzs,yzo,yzm,yzr,yz9,yzc,yza,yz7,yzg,yzf,yz2,yz5,yzd,yzb,yzj,yzi,List.range_zero,yz6,yz4,yz8,yzt,yzl,yzp,AVal.fresh,freshL,yz1,yzh,AObj.fresh,id,Option.isSome_some,or_true,true_or,go_sem,yz0,xx9,xx8,xx6,xx7,xx5,xx0,xx1,xx2,reduceIte,xx3,xx4,reduceCtorEq]
    try rfl
  | some p =>
    obtain ⟨f,w⟩:=p
    have hpm:=List.mem_of_find?_eq_some hF
    have hps:smallN f=true:=by have:=List.find?_some hF;exact this
    have hpS:f=imN next (2 ^ n.toNat - 1) w:=two_snd (next:=next) (f:=2 ^ n.toNat - 1) (f,w) hpm
    have hpw:=hT.wd (f,w) hpm
    have hw:IsW next.length w:=hpw.1
    have hwl:w.length<(tourT next (2 ^ n.toNat - 1)).length:=hpw.2
    have hw4:w.length≤400:=by omega
    rw [hpS] at hps
    have hlw:=fun u hu hs=>hlow (f,w) hF u hu hs
    dsimp only at hlw
    obtain ⟨s0,hs0,hi0⟩:=small_one A hw hps
    have htg:1≤(targL next n).length:=by
      refine List.length_pos_of_mem (a:=(s0:Int)) (targ_mem.2 ⟨by omega,hs0,?_⟩)
      rw [Int.toNat_natCast,← hi0,← hpS,hasT_iff]
      exact List.mem_map_of_mem (f:=fun q:Nat×List Int=>q.1) hpm
    have hwB:wordB next.length w=true:=wordB_iff.2 ⟨by omega,hw⟩
    have hTg:=k_TargetsOf n next A
    have htl:(targL next n).length≤10:=by
      unfold targL
      have:=List.length_filter_le (fun s=>hasT (tourT next (2 ^ n.toNat - 1)) (2 ^ s.toNat)) (allS n)
      have e:(allS n).length=n.toNat:=by simp [allS]
      omega
    generalize htgl:targL next n=tg at hTg htg htl
    have htn:¬ tg.length=0:=by omega
    rw [decide_eq_false htn,if_neg htn] at hTg
    have hR:=k_IsReset n next w
    have hR1:(imgA n next w).length=1:=by
      unfold imgA
      rw [img_bits A hw,hi0]
      have:cntN (2 ^ s0)=1:=by
        rw [cntN_bits]
        have h1:bitsN (2 ^ s0)=[s0]:=by
          have hnd:=bitsN_nodup (f:=2 ^ s0)
          have hin:∀ t,t∈bitsN (2 ^ s0)↔t=s0:=fun t=>mem_pow (by omega)
          match hb:bitsN (2 ^ s0),hnd,hin with
          | [],_,hin=>exact absurd ((hin s0).2 rfl) (by simp)
          | [a],_,hin=>rw [(hin a).1 (by simp)]
          | a :: b :: l,hnd,hin =>
            rw [(hin a).1 (by simp),(hin b).1 (by simp)] at hnd
            simp at hnd
        rw [h1];rfl
      exact this
    rw [autB_iff.2 A,hwB,decide_eq_true hR1] at hR
    simp only [Option.isSome_some,if_true,bne_self_eq_false,Bz4o,Bz4b,Bz4n,yz1g,dnL_rwn,Nat.not_lt_zero,range1,yzu,yzx,yz12,yz15,yzw,yz13,yz14,yz11,yzv,yzn,yze,yz3,yzq,yzs,yzo,yzm,yzr,yz9,yzc,yza,yz7,yzg,yzf,yz2,yz5,yzd,yzb,yzj,yzi,List.range_zero,yz6,yz4,yz8,yzt,yzl,yzp,AVal.fresh,freshL,yz1,yzh,AObj.fresh,id,Option.isSome_some,or_true,true_or,go_sem,yz0,xx9,xx8,xx6,xx7,xx5,xx0,xx1,xx2,reduceIte,xx3,xx4,reduceCtorEq]
    intro vs5
    refine call_rowT hTg qCS qWS (fun _ v51=>?_) (fun h=>by cases h)
    simp only [e00,Bz4m,Bz4c,Bz8k,yz1g,dnL_rwn,Nat.not_lt_zero,range1,yzu,yzx,yz12,yz15,yzw,yz13,yz14,yz11,yzv,yzn,yze,yz3,yzq,yzs,yzo,yzm,yzr,yz9,yzc,yza,yz7,yzg,yzf,yz2,yz5,yzd,yzb,yzj,yzi,List.range_zero,yz6,yz4,yz8,yzt,yzl,yzp,AVal.fresh,freshL,yz1,yzh,AObj.fresh,id,Option.isSome_some,or_true,true_or,go_sem,yz0,xx9,xx8,xx6,xx7,xx5,xx0,xx1,xx2,reduceIte,xx3,xx4,reduceCtorEq]
    intro vs6
    refine call_fun2 hR qCS ?_
    have c1:decide ((tg.length:Int)<1)=false:=by rw [decide_eq_false_iff_not];omega
    simp only [Bz8j,Bz84,Bz8i,codeI,Bool.and_self,if_true,e00,c1,Bool.not_true,yz1g,dnL_rwn,Nat.not_lt_zero,range1,yzu,yzx,yz12,yz15,yzw,yz13,yz14,yz11,yzv,yzn,yze,yz3,yzq,yzs,yzo,yzm,yzr,yz9,yzc,yza,yz7,yzg,yzf,yz2,yz5,yzd,yzb,yzj,yzi,List.range_zero,yz6,yz4,yz8,yzt,yzl,yzp,AVal.fresh,freshL,yz1,yzh,AObj.fresh,id,Option.isSome_some,or_true,true_or,go_sem,yz0,xx9,xx8,xx6,xx7,xx5,xx0,xx1,xx2,reduceIte,xx3,xx4,reduceCtorEq]
    intro hM1
    simp only [Bz89,yz1g,dnL_rwn,Nat.not_lt_zero,range1,yzu,yzx,yz12,yz15,yzw,yz13,yz14,yz11,yzv,yzn,yze,yz3,yzq,yzs,yzo,yzm,yzr,yz9,yzc,yza,yz7,yzg,yzf,yz2,yz5,yzd,yzb,yzj,yzi,List.range_zero,yz6,yz4,yz8,yzt,yzl,yzp,AVal.fresh,freshL,yz1,yzh,AObj.fresh,id,Option.isSome_some,or_true,true_or,go_sem,yz0,xx9,xx8,xx6,xx7,xx5,xx0,xx1,xx2,reduceIte,xx3,xx4,reduceCtorEq]
    refine wpD_lo (fun i=>w.length - i) (fun i=>i≤w.length)
      (fun (i:Nat)=>⟨L .any [(1,.ro (some (some 0)) 1 (intsK .u8 more)),(5,.ptr 5 (vs2 2 0) 0),(8,.ro none 1 (ints w)),(10,.own 51 v51),(16,iv i)],
        L .gone [(5,.box (vs2 2 0) [iv n,.ro (some none) 1 (rws next)]),(51,.row v51 1 true (ints tg))]⟩)
      0 (by omega) (by simp only [Bzs,yz1g,dnL_rwn,Nat.not_lt_zero,range1,yzu,yzx,yz12,yz15,yzw,yz13,yz14,yz11,yzv,yzn,yze,yz3,yzq,yzs,yzo,yzm,yzr,yz9,yzc,yza,yz7,yzg,yzf,yz2,yz5,yzd,yzb,yzj,yzi,List.range_zero,yz6,yz4,yz8,yzt,yzl,yzp,AVal.fresh,freshL,yz1,yzh,AObj.fresh,id,Option.isSome_some,or_true,true_or,go_sem,yz0,xx9,xx8,xx6,xx7,xx5,xx0,xx1,xx2,reduceIte,xx3,xx4,reduceCtorEq];try rfl) ?_
    intro i hi
    have wi:IntKind.i64.wrap ((i:Int)+1)=((i+1:Nat):Int):=by rw [w64 (by omega)];simp
    have tail:wpD Try.prog Bz1s (finQ fun σ=>σ.tm 4=bv true) ⟨L .any [(1,.ro (some (some 0)) 1 (intsK .u8 more)),(5,.ptr 5 (vs2 2 0) 0),(8,.ro none 1 (ints w)),(10,.own 51 v51)],
        L .gone [(5,.box (vs2 2 0) [iv n,.ro (some none) 1 (rws next)]),(51,.row v51 1 true (ints tg))]⟩:=by
      have tail2:wpD Try.prog Bz4l (finQ fun σ=>σ.tm 4=bv true) ⟨L .any [(1,.ro (some (some 0)) 1 (intsK .u8 more)),(5,.ptr 5 (vs2 2 0) 0),(8,.ro none 1 (ints w)),(10,.own 51 v51)],
          L .gone [(5,.box (vs2 2 0) [iv n,.ro (some none) 1 (rws next)]),(51,.row v51 1 true (ints tg))]⟩:=by
        simp only [Bz4l,Bz8d,yz1g,dnL_rwn,Nat.not_lt_zero,range1,yzu,yzx,yz12,yz15,yzw,yz13,yz14,yz11,yzv,yzn,yze,yz3,yzq,yzs,yzo,yzm,yzr,yz9,yzc,yza,yz7,yzg,yzf,yz2,yz5,yzd,yzb,yzj,yzi,List.range_zero,yz6,yz4,yz8,yzt,yzl,yzp,AVal.fresh,freshL,yz1,yzh,AObj.fresh,id,Option.isSome_some,or_true,true_or,go_sem,yz0,xx9,xx8,xx6,xx7,xx5,xx0,xx1,xx2,reduceIte,xx3,xx4,reduceCtorEq]
        refine wpD_lo (fun s=>n.toNat - s) (fun s=>s≤n.toNat)
          (fun (s:Nat)=>⟨L .any [(1,.ro (some (some 0)) 1 (intsK .u8 more)),(5,.ptr 5 (vs2 2 0) 0),(8,.ro none 1 (ints w)),(10,.own 51 v51),(21,iv s)],
            L .gone [(5,.box (vs2 2 0) [iv n,.ro (some none) 1 (rws next)]),(51,.row v51 1 true (ints tg))]⟩)
          0 (by omega) (by simp only [Bz1r,yz1g,dnL_rwn,Nat.not_lt_zero,range1,yzu,yzx,yz12,yz15,yzw,yz13,yz14,yz11,yzv,yzn,yze,yz3,yzq,yzs,yzo,yzm,yzr,yz9,yzc,yza,yz7,yzg,yzf,yz2,yz5,yzd,yzb,yzj,yzi,List.range_zero,yz6,yz4,yz8,yzt,yzl,yzp,AVal.fresh,freshL,yz1,yzh,AObj.fresh,id,Option.isSome_some,or_true,true_or,go_sem,yz0,xx9,xx8,xx6,xx7,xx5,xx0,xx1,xx2,reduceIte,xx3,xx4,reduceCtorEq];try rfl) ?_
        intro s hs
        by_cases hls:(s:Int)<n
        · have wsn:IntKind.i64.wrap ((s:Int)+1)=((s+1:Nat):Int):=by rw [w64 (by omega)];simp
          have hST:=k_ShortestTo n next A s hls
          simp only [Bz1r,Bz4e,Bz8c,decide_eq_true hls,yz1g,dnL_rwn,Nat.not_lt_zero,range1,yzu,yzx,yz12,yz15,yzw,yz13,yz14,yz11,yzv,yzn,yze,yz3,yzq,yzs,yzo,yzm,yzr,yz9,yzc,yza,yz7,yzg,yzf,yz2,yz5,yzd,yzb,yzj,yzi,List.range_zero,yz6,yz4,yz8,yzt,yzl,yzp,AVal.fresh,freshL,yz1,yzh,AObj.fresh,id,Option.isSome_some,or_true,true_or,go_sem,yz0,xx9,xx8,xx6,xx7,xx5,xx0,xx1,xx2,reduceIte,xx3,xx4,reduceCtorEq]
          intro vs8
          refine call_sh hST qCS (fun e=>by cases e) ?_
          rintro outs rows res ⟨rfl,rfl,rfl⟩
          refine ⟨rfl,by simp,by simp,?_⟩
          have hfi:=hasT_find (T:=tourT next (2 ^ n.toNat - 1)) (f:=2 ^ s)
          have hcn:tg.contains (s:Int)=hasT (tourT next (2 ^ n.toNat - 1)) (2 ^ s):=by
            rw [Bool.eq_iff_iff,List.contains_iff_mem,← htgl,targ_mem,Int.toNat_natCast]
            constructor
            · exact fun h=>h.2.2
            · exact fun h=>⟨by omega,hls,h⟩
          cases hq:(tourT next (2 ^ n.toNat - 1)).find? fun q=>q.1 == 2 ^ s with
          | none =>
            rw [hq] at hfi
            rw [← hfi] at hcn
            have e06:((6:Int) == 0)=false:=rfl
            simp only [findR,Bz4j,e06,yz1g,dnL_rwn,Nat.not_lt_zero,range1,yzu,yzx,yz12,yz15,yzw,yz13,yz14,yz11,yzv,yzn,yze,yz3,yzq,yzs,yzo,yzm,yzr,yz9,yzc,yza,yz7,yzg,yzf,yz2,yz5,yzd,yzb,yzj,yzi,List.range_zero,yz6,yz4,yz8,yzt,yzl,yzp,AVal.fresh,freshL,yz1,yzh,AObj.fresh,id,Option.isSome_some,or_true,true_or,go_sem,yz0,xx9,xx8,xx6,xx7,xx5,xx0,xx1,xx2,reduceIte,xx3,xx4,reduceCtorEq]
            intro vs9
            refine yz10 (k_a2Has tg (s:Int)) qCS trivial ?_
            simp only [hcn,e06,Option.isSome_none,Bz4f,Bz4i,beq_self_eq_true,yz1g,dnL_rwn,Nat.not_lt_zero,range1,yzu,yzx,yz12,yz15,yzw,yz13,yz14,yz11,yzv,yzn,yze,yz3,yzq,yzs,yzo,yzm,yzr,yz9,yzc,yza,yz7,yzg,yzf,yz2,yz5,yzd,yzb,yzj,yzi,List.range_zero,yz6,yz4,yz8,yzt,yzl,yzp,AVal.fresh,freshL,yz1,yzh,AObj.fresh,id,Option.isSome_some,or_true,true_or,go_sem,yz0,xx9,xx8,xx6,xx7,xx5,xx0,xx1,xx2,reduceIte,xx3,xx4,reduceCtorEq]
            intro vs10
            refine call_tupI (k_ActionOf n next [] A (by intro x hx;simp at hx) (by simp)) (by simp only [List.map_nil,rowIs,boxIs,coe_argN,yz1f,coe_ro_o,yz1d,yzz,coe_any,coe_val,coe_ro,yz1b,yz1a,coe_st,yz19,coe_rp,yz18,coe_clo,coe_own0,yz1h,yz16,coeL_rws,coeL_rwn,L_hit,L_miss,L_nil,xx3,ne_eq,reduceCtorEq,not_false_eq_true,true_and,and_true,and_self,exists_eq_left,exists_eq_right,List.mem_cons,List.not_mem_nil,or_false,AObj.row.injEq,AObj.box.injEq,exists_eq_left',exists_and_left,exists_eq,Nat.zero_lt_one,Nat.lt_add_one,List.map_cons,List.map_nil,AObj.ver,xx5,not_true_eq_false]) qWS ⟨_,rfl⟩ ?_
            rintro ac vac rfl
            simp only [e06,Bz4h,Bz4g,Bz4k,wsn,yz1g,dnL_rwn,Nat.not_lt_zero,range1,yzu,yzx,yz12,yz15,yzw,yz13,yz14,yz11,yzv,yzn,yze,yz3,yzq,yzs,yzo,yzm,yzr,yz9,yzc,yza,yz7,yzg,yzf,yz2,yz5,yzd,yzb,yzj,yzi,List.range_zero,yz6,yz4,yz8,yzt,yzl,yzp,AVal.fresh,freshL,yz1,yzh,AObj.fresh,id,Option.isSome_some,or_true,true_or,go_sem,yz0,xx9,xx8,xx6,xx7,xx5,xx0,xx1,xx2,reduceIte,xx3,xx4,reduceCtorEq]
            exact ⟨s+1,by omega,by omega,rfl⟩
          | some q =>
            rw [hq] at hfi
            rw [← hfi] at hcn
            have hqm:=List.mem_of_find?_eq_some hq
            have hqc:q.1=2 ^ s:=by have:=List.find?_some hq;simpa using this
            have hqS:=two_snd (next:=next) (f:=2 ^ n.toNat - 1) q hqm
            have hqw:=hT.wd q hqm
            obtain ⟨g,u⟩:=q
            dsimp only at hqS hqc hqw
            have hu:IsW next.length u:=hqw.1
            have hus:imN next (2 ^ n.toNat - 1) u=2 ^ s:=by rw [← hqS,hqc]
            have hul:=hlw u hu (by rw [hus];exact small_pow (by omega))
            have hat:=at_one A hu (by omega) hus
            simp only [findR,Bz4j,ez,yz1g,dnL_rwn,Nat.not_lt_zero,range1,yzu,yzx,yz12,yz15,yzw,yz13,yz14,yz11,yzv,yzn,yze,yz3,yzq,yzs,yzo,yzm,yzr,yz9,yzc,yza,yz7,yzg,yzf,yz2,yz5,yzd,yzb,yzj,yzi,List.range_zero,yz6,yz4,yz8,yzt,yzl,yzp,AVal.fresh,freshL,yz1,yzh,AObj.fresh,id,Option.isSome_some,or_true,true_or,go_sem,yz0,xx9,xx8,xx6,xx7,xx5,xx0,xx1,xx2,reduceIte,xx3,xx4,reduceCtorEq]
            intro vs9
            refine yz10 (k_a2Has tg (s:Int)) qCS trivial ?_
            have cul:decide ((u.length:Int)<(w.length:Int))=false:=by rw [decide_eq_false_iff_not];omega
            simp only [hcn,ez,cul,Option.isSome_some,Bz4f,Bz4i,beq_self_eq_true,yz1g,dnL_rwn,Nat.not_lt_zero,range1,yzu,yzx,yz12,yz15,yzw,yz13,yz14,yz11,yzv,yzn,yze,yz3,yzq,yzs,yzo,yzm,yzr,yz9,yzc,yza,yz7,yzg,yzf,yz2,yz5,yzd,yzb,yzj,yzi,List.range_zero,yz6,yz4,yz8,yzt,yzl,yzp,AVal.fresh,freshL,yz1,yzh,AObj.fresh,id,Option.isSome_some,or_true,true_or,go_sem,yz0,xx9,xx8,xx6,xx7,xx5,xx0,xx1,xx2,reduceIte,xx3,xx4,reduceCtorEq]
            intro hM4 hM5 vs10
            refine call_tupI (k_ActionOf n next u A hu (by omega)) qCS qWS ⟨_,rfl⟩ ?_
            rintro ac vac rfl
            have hal:(actA n next u).length=n.toNat:=by simp [actA]
            have ha0:(actA n next u).getD 0 0=(s:Int):=by
              unfold actA
              rw [List.getD_eq_getElem?_getD,List.getElem?_map,List.getElem?_range (by omega)]
              exact hat
            generalize actA n next u=ac at hal ha0
            have h0l:0<ac.length:=by omega
            have c9:decide ((ac.length:Int)<1)=false:=by rw [decide_eq_false_iff_not];omega
            have e01:(0:Int).toNat=0:=rfl
            simp only [e00,ez,e01,c9,Bz4h,yz1c h0l,ha0,bne_self_eq_false,yz1g,dnL_rwn,Nat.not_lt_zero,range1,yzu,yzx,yz12,yz15,yzw,yz13,yz14,yz11,yzv,yzn,yze,yz3,yzq,yzs,yzo,yzm,yzr,yz9,yzc,yza,yz7,yzg,yzf,yz2,yz5,yzd,yzb,yzj,yzi,List.range_zero,yz6,yz4,yz8,yzt,yzl,yzp,AVal.fresh,freshL,yz1,yzh,AObj.fresh,id,Option.isSome_some,or_true,true_or,go_sem,yz0,xx9,xx8,xx6,xx7,xx5,xx0,xx1,xx2,reduceIte,xx3,xx4,reduceCtorEq]
            intro hM6
            refine ⟨h0l,h0l,?_⟩
            simp only [Bz4g,Bz4k,wsn,yz1g,dnL_rwn,Nat.not_lt_zero,range1,yzu,yzx,yz12,yz15,yzw,yz13,yz14,yz11,yzv,yzn,yze,yz3,yzq,yzs,yzo,yzm,yzr,yz9,yzc,yza,yz7,yzg,yzf,yz2,yz5,yzd,yzb,yzj,yzi,List.range_zero,yz6,yz4,yz8,yzt,yzl,yzp,AVal.fresh,freshL,yz1,yzh,AObj.fresh,id,Option.isSome_some,or_true,true_or,go_sem,yz0,xx9,xx8,xx6,xx7,xx5,xx0,xx1,xx2,reduceIte,xx3,xx4,reduceCtorEq]
            exact ⟨s+1,by omega,by omega,rfl⟩
        · obtain rfl:s=n.toNat:=by omega
          simp only [Bz1r,Bz4e,Bz8h,decide_eq_false hls,yz1g,dnL_rwn,Nat.not_lt_zero,range1,yzu,yzx,yz12,yz15,yzw,yz13,yz14,yz11,yzv,yzn,yze,yz3,yzq,yzs,yzo,yzm,yzr,yz9,yzc,yza,yz7,yzg,yzf,yz2,yz5,yzd,yzb,yzj,yzi,List.range_zero,yz6,yz4,yz8,yzt,yzl,yzp,AVal.fresh,freshL,yz1,yzh,AObj.fresh,id,Option.isSome_some,or_true,true_or,go_sem,yz0,xx9,xx8,xx6,xx7,xx5,xx0,xx1,xx2,reduceIte,xx3,xx4,reduceCtorEq]
          intro vs8
          refine call_rowI (k_A2Set more n next hb2 (by omega)) qCS qWS ⟨[],by simp [setB,allIn,SI]⟩ ?_
          rintro set vset hset
          obtain ⟨hml,hmb⟩:=set_bits n2 hset
          obtain ⟨q,hq1,hq2,hq3,hq4,hq5⟩:=first_set A hml hw hps
          have hTM:TI n.toNat next.length (tourT next (maskN set)):=(runT_ok A 1100 0 _ (TI0 (m:=next.length) hml)).1
          have hTMl:=hTM.len
          obtain ⟨g,u⟩:=q
          have hSF:=k_ShortestFor n next A set hset hml
          unfold shortS at hSF
          rw [hq1] at hSF
          have hu:IsW next.length u:=hq2
          have hul:u.length<(tourT next (maskN set)).length:=hq3
          have hI:=k_ImageOf n next set u
          have himg:=img_set A hml hu
          rw [hmb] at himg
          rw [autB_iff.2 A,hset,wordB_iff.2 ⟨by omega,hu⟩,himg] at hI
          have hil:(bitsTo (imN next (maskN set) u) 10).length≤1:=hq4
          generalize bitsTo (imN next (maskN set) u) 10=img at hI hil
          simp only [Bz8g,wpD_gh,yz1g,dnL_rwn,Nat.not_lt_zero,range1,yzu,yzx,yz12,yz15,yzw,yz13,yz14,yz11,yzv,yzn,yze,yz3,yzq,yzs,yzo,yzm,yzr,yz9,yzc,yza,yz7,yzg,yzf,yz2,yz5,yzd,yzb,yzj,yzi,List.range_zero,yz6,yz4,yz8,yzt,yzl,yzp,AVal.fresh,freshL,yz1,yzh,AObj.fresh,id,Option.isSome_some,or_true,true_or,go_sem,yz0,xx9,xx8,xx6,xx7,xx5,xx0,xx1,xx2,reduceIte,xx3,xx4,reduceCtorEq]
          intro _
          refine ⟨[.tf 26 186],gwp_tf rfl rfl ?_⟩
          simp only [gwp_nil,frNm_t,yz1g,dnL_rwn,Nat.not_lt_zero,range1,yzu,yzx,yz12,yz15,yzw,yz13,yz14,yz11,yzv,yzn,yze,yz3,yzq,yzs,yzo,yzm,yzr,yz9,yzc,yza,yz7,yzg,yzf,yz2,yz5,yzd,yzb,yzj,yzi,List.range_zero,yz6,yz4,yz8,yzt,yzl,yzp,AVal.fresh,freshL,yz1,yzh,AObj.fresh,id,Option.isSome_some,or_true,true_or,go_sem,yz0,xx9,xx8,xx6,xx7,xx5,xx0,xx1,xx2,reduceIte,xx3,xx4,reduceCtorEq]
          intro vs9
          refine call_sh hSF qCS (fun e=>by cases e) ?_
          rintro outs rows res ⟨rfl,rfl,rfl⟩
          refine ⟨rfl,by simp,by simp,?_⟩
          simp only [Bz8f,yz1g,dnL_rwn,Nat.not_lt_zero,range1,yzu,yzx,yz12,yz15,yzw,yz13,yz14,yz11,yzv,yzn,yze,yz3,yzq,yzs,yzo,yzm,yzr,yz9,yzc,yza,yz7,yzg,yzf,yz2,yz5,yzd,yzb,yzj,yzi,List.range_zero,yz6,yz4,yz8,yzt,yzl,yzp,AVal.fresh,freshL,yz1,yzh,AObj.fresh,id,Option.isSome_some,or_true,true_or,go_sem,yz0,xx9,xx8,xx6,xx7,xx5,xx0,xx1,xx2,reduceIte,xx3,xx4,reduceCtorEq]
          intro vs10
          refine call_rowT hI qCS qWS (fun _ vi=>?_) (fun h=>by cases h)
          have d1:decide ((img.length:Int)≤1)=true:=by rw [decide_eq_true_eq];omega
          have d2:decide ((u.length:Int)≤(w.length:Int))=true:=by rw [decide_eq_true_eq];have:u.length≤w.length:=hq5;omega
          simp only [Bz8e,codeI,Bool.and_self,if_true,ez,d1,d2,yz1g,dnL_rwn,Nat.not_lt_zero,range1,yzu,yzx,yz12,yz15,yzw,yz13,yz14,yz11,yzv,yzn,yze,yz3,yzq,yzs,yzo,yzm,yzr,yz9,yzc,yza,yz7,yzg,yzf,yz2,yz5,yzd,yzb,yzj,yzi,List.range_zero,yz6,yz4,yz8,yzt,yzl,yzp,AVal.fresh,freshL,yz1,yzh,AObj.fresh,id,Option.isSome_some,or_true,true_or,go_sem,yz0,xx9,xx8,xx6,xx7,xx5,xx0,xx1,xx2,reduceIte,xx3,xx4,reduceCtorEq]
      by_cases h20:(w.length:Int)≤20
      · have hCR:=k_CountResets n next A w.length (by omega)
        have hpos:=res_pos hw hps
        simp only [Bz1s,Bz4d,decide_eq_true h20,yz1g,dnL_rwn,Nat.not_lt_zero,range1,yzu,yzx,yz12,yz15,yzw,yz13,yz14,yz11,yzv,yzn,yze,yz3,yzq,yzs,yzo,yzm,yzr,yz9,yzc,yza,yz7,yzg,yzf,yz2,yz5,yzd,yzb,yzj,yzi,List.range_zero,yz6,yz4,yz8,yzt,yzl,yzp,AVal.fresh,freshL,yz1,yzh,AObj.fresh,id,Option.isSome_some,or_true,true_or,go_sem,yz0,xx9,xx8,xx6,xx7,xx5,xx0,xx1,xx2,reduceIte,xx3,xx4,reduceCtorEq]
        intro hM2 vs7 _
        refine call_fun2 hCR qCS ?_
        have c2:decide (((resN next n w.length:Nat):Int)<1)=false:=by rw [decide_eq_false_iff_not];omega
        simp only [Bz8b,Bz8a,e00,c2,yz1g,dnL_rwn,Nat.not_lt_zero,range1,yzu,yzx,yz12,yz15,yzw,yz13,yz14,yz11,yzv,yzn,yze,yz3,yzq,yzs,yzo,yzm,yzr,yz9,yzc,yza,yz7,yzg,yzf,yz2,yz5,yzd,yzb,yzj,yzi,List.range_zero,yz6,yz4,yz8,yzt,yzl,yzp,AVal.fresh,freshL,yz1,yzh,AObj.fresh,id,Option.isSome_some,or_true,true_or,go_sem,yz0,xx9,xx8,xx6,xx7,xx5,xx0,xx1,xx2,reduceIte,xx3,xx4,reduceCtorEq]
        exact wpD_kpdn_of4 (by simp only [yz1g,dnL_rwn,Nat.not_lt_zero,range1,yzu,yzx,yz12,yz15,yzw,yz13,yz14,yz11,yzv,yzn,yze,yz3,yzq,yzs,yzo,yzm,yzr,yz9,yzc,yza,yz7,yzg,yzf,yz2,yz5,yzd,yzb,yzj,yzi,List.range_zero,yz6,yz4,yz8,yzt,yzl,yzp,AVal.fresh,freshL,yz1,yzh,AObj.fresh,id,Option.isSome_some,or_true,true_or,go_sem,yz0,xx9,xx8,xx6,xx7,xx5,xx0,xx1,xx2,reduceIte,xx3,xx4,reduceCtorEq];try rfl) tail2
      · simp only [Bz1s,Bz4d,decide_eq_false h20,yz1g,dnL_rwn,Nat.not_lt_zero,range1,yzu,yzx,yz12,yz15,yzw,yz13,yz14,yz11,yzv,yzn,yze,yz3,yzq,yzs,yzo,yzm,yzr,yz9,yzc,yza,yz7,yzg,yzf,yz2,yz5,yzd,yzb,yzj,yzi,List.range_zero,yz6,yz4,yz8,yzt,yzl,yzp,AVal.fresh,freshL,yz1,yzh,AObj.fresh,id,Option.isSome_some,or_true,true_or,go_sem,yz0,xx9,xx8,xx6,xx7,xx5,xx0,xx1,xx2,reduceIte,xx3,xx4,reduceCtorEq]
        intro hM2
        exact wpD_kpdn_of4 (by simp only [yz1g,dnL_rwn,Nat.not_lt_zero,range1,yzu,yzx,yz12,yz15,yzw,yz13,yz14,yz11,yzv,yzn,yze,yz3,yzq,yzs,yzo,yzm,yzr,yz9,yzc,yza,yz7,yzg,yzf,yz2,yz5,yzd,yzb,yzj,yzi,List.range_zero,yz6,yz4,yz8,yzt,yzl,yzp,AVal.fresh,freshL,yz1,yzh,AObj.fresh,id,Option.isSome_some,or_true,true_or,go_sem,yz0,xx9,xx8,xx6,xx7,xx5,xx0,xx1,xx2,reduceIte,xx3,xx4,reduceCtorEq];try rfl) tail2
    by_cases hlt:(i:Int)<w.length
    · have hz:=k_CountResets n next A i
      by_cases h20:(i:Int)≤20
      · have hz:=hz (by omega)
        rw [res_zero fun u hul hu=>by
          cases hs:smallN (imN next (2 ^ n.toNat - 1) u) with
          | false=>rfl
          | true=>have:=hlw u hu hs;omega] at hz
        have z0:((0:Nat):Int)=0:=rfl
        rw [z0] at hz
        simp only [Bzs,Bz1q,Bz88,decide_eq_true hlt,decide_eq_true h20,yz1g,dnL_rwn,Nat.not_lt_zero,range1,yzu,yzx,yz12,yz15,yzw,yz13,yz14,yz11,yzv,yzn,yze,yz3,yzq,yzs,yzo,yzm,yzr,yz9,yzc,yza,yz7,yzg,yzf,yz2,yz5,yzd,yzb,yzj,yzi,List.range_zero,yz6,yz4,yz8,yzt,yzl,yzp,AVal.fresh,freshL,yz1,yzh,AObj.fresh,id,Option.isSome_some,or_true,true_or,go_sem,yz0,xx9,xx8,xx6,xx7,xx5,xx0,xx1,xx2,reduceIte,xx3,xx4,reduceCtorEq]
        intro hM2 vs7
        refine call_fun2 hz qCS ?_
        simp only [Bz86,Bz85,Bz87,e00,wi,yz1g,dnL_rwn,Nat.not_lt_zero,range1,yzu,yzx,yz12,yz15,yzw,yz13,yz14,yz11,yzv,yzn,yze,yz3,yzq,yzs,yzo,yzm,yzr,yz9,yzc,yza,yz7,yzg,yzf,yz2,yz5,yzd,yzb,yzj,yzi,List.range_zero,yz6,yz4,yz8,yzt,yzl,yzp,AVal.fresh,freshL,yz1,yzh,AObj.fresh,id,Option.isSome_some,or_true,true_or,go_sem,yz0,xx9,xx8,xx6,xx7,xx5,xx0,xx1,xx2,reduceIte,xx3,xx4,reduceCtorEq]
        exact ⟨i+1,by omega,by omega,rfl⟩
      · simp only [Bzs,Bz1q,decide_eq_true hlt,decide_eq_false h20,yz1g,dnL_rwn,Nat.not_lt_zero,range1,yzu,yzx,yz12,yz15,yzw,yz13,yz14,yz11,yzv,yzn,yze,yz3,yzq,yzs,yzo,yzm,yzr,yz9,yzc,yza,yz7,yzg,yzf,yz2,yz5,yzd,yzb,yzj,yzi,List.range_zero,yz6,yz4,yz8,yzt,yzl,yzp,AVal.fresh,freshL,yz1,yzh,AObj.fresh,id,Option.isSome_some,or_true,true_or,go_sem,yz0,xx9,xx8,xx6,xx7,xx5,xx0,xx1,xx2,reduceIte,xx3,xx4,reduceCtorEq]
        intro hM2
        exact wpD_kpdn_of4 (by simp only [yz1g,dnL_rwn,Nat.not_lt_zero,range1,yzu,yzx,yz12,yz15,yzw,yz13,yz14,yz11,yzv,yzn,yze,yz3,yzq,yzs,yzo,yzm,yzr,yz9,yzc,yza,yz7,yzg,yzf,yz2,yz5,yzd,yzb,yzj,yzi,List.range_zero,yz6,yz4,yz8,yzt,yzl,yzp,AVal.fresh,freshL,yz1,yzh,AObj.fresh,id,Option.isSome_some,or_true,true_or,go_sem,yz0,xx9,xx8,xx6,xx7,xx5,xx0,xx1,xx2,reduceIte,xx3,xx4,reduceCtorEq];try rfl) tail
    · simp only [Bzs,Bz1q,decide_eq_false hlt,yz1g,dnL_rwn,Nat.not_lt_zero,range1,yzu,yzx,yz12,yz15,yzw,yz13,yz14,yz11,yzv,yzn,yze,yz3,yzq,yzs,yzo,yzm,yzr,yz9,yzc,yza,yz7,yzg,yzf,yz2,yz5,yzd,yzb,yzj,yzi,List.range_zero,yz6,yz4,yz8,yzt,yzl,yzp,AVal.fresh,freshL,yz1,yzh,AObj.fresh,id,Option.isSome_some,or_true,true_or,go_sem,yz0,xx9,xx8,xx6,xx7,xx5,xx0,xx1,xx2,reduceIte,xx3,xx4,reduceCtorEq]
      intro hM2
      exact wpD_kpdn_of4 (by simp only [yz1g,dnL_rwn,Nat.not_lt_zero,range1,yzu,yzx,yz12,yz15,yzw,yz13,yz14,yz11,yzv,yzn,yze,yz3,yzq,yzs,yzo,yzm,yzr,yz9,yzc,yza,yz7,yzg,yzf,yz2,yz5,yzd,yzb,yzj,yzi,List.range_zero,yz6,yz4,yz8,yzt,yzl,yzp,AVal.fresh,freshL,yz1,yzh,AObj.fresh,id,Option.isSome_some,or_true,true_or,go_sem,yz0,xx9,xx8,xx6,xx7,xx5,xx0,xx1,xx2,reduceIte,xx3,xx4,reduceCtorEq];try rfl) tail
end Go.Ab
