/- Contracts and what they lean on, part 10. Conditions: none. -/
import Derived.Test.YtkongfngkjbmpaaGreatZ9
set_option maxRecDepth 100000
set_option maxHeartbeats 4000000
set_option linter.all false
open Nat renaming reduceLeDiff → xx0, reduceMul → xx1, reduceSub → xx2, reduceEqDiff → xx3, reduceAdd → xx4, reduceLT → xx5
open Int renaming reduceToNat → xx6, reduceNeg → xx7, reduceLE → xx8, reduceLT → xx9
namespace Go.Ab
open Go.Proofs
abbrev bls2 (bs:List Bool):List AVal:=bs.map bv
theorem dnL_bls2 {bs:List Bool}:dnL (bls2 bs)=bls2 bs:=by simp [dnL_eq,AVal.dn]
theorem bls2_getD {bs:List Bool} {i:Nat} (h:i<bs.length):(bls2 bs).getD i .any=bv (bs.getD i false):=by
  rw [List.getD_eq_getElem?_getD,List.getElem?_map,List.getElem?_eq_getElem h,List.getD_eq_getElem?_getD,List.getElem?_eq_getElem h];rfl
theorem bls2_put {bs:List Bool} {i:Nat} {b:Bool}:(bls2 bs).take i ++ [bv b] ++ (bls2 bs).drop (i+1)=bls2 (bs.take i ++ [b] ++ bs.drop (i+1)):=by
  simp only [List.map_append,List.map_take,List.map_drop,List.map_cons,List.map_nil]
abbrev walkP (L:TS) (B C:List Int):AVal:=.rp [.ro none 1 (ints (setsI L)),.ro none 1 (ints B),.ro none 1 (ints C)] 0
abbrev WalkR (L:TS) (rows:List AObj) (res:AVal):Prop :=
  ∃ v va vb vc B C,BT L B C∧rows=[.box v [.own 6001 va,.own 6002 vb,.own 6003 vc],.row va 1 true (ints (setsI L)),.row vb 1 true (ints B),.row vc 1 true (ints C)]∧res=.ptr 6000 v 0
theorem k_l02From (n:Int) (next:List (List Int)) (A:Aut n next) (f:Nat) (hf:f<2 ^ n.toNat) :
    Fn Tryz.prog nz68 [autP n next,iv f] (WalkR (tourT next f)):=by
  refine con_of mixed czrf rfl (by simp) ?_
  have n1:=A.n1
  have n2:=A.n2
  have l2:=A.l2
  have hN:=pow_lt10' (k:=n.toNat) (by omega)
  generalize hQ:finQ _=Q
  have h64:IntKind.u64.wrap n=n:=by rw [show n=((n.toNat:Nat):Int) by omega];exact u64w (by omega)
  have hn0:¬ n<0:=by omega
  have hsl:=i_shl (b:=n.toNat) (by omega)
  have hp0:¬ ((2 ^ n.toNat:Nat):Int)<0:=by omega
  simp only [Azb9,Bzng,go_sem,yz0,xx9,xx8,xx6,xx7,xx5,xx0,xx1,xx2,reduceIte,xx3,xx4,reduceCtorEq]
  intro vs
  refine ⟨⟨_,rfl,rfl⟩,⟨_,rfl,rfl⟩,⟨_,rfl,rfl⟩,?_⟩
  simp only [Bznf,h64,hn0,hsl,go_sem,yz0,xx9,xx8,xx6,xx7,xx5,xx0,xx1,xx2,reduceIte,xx3,xx4,reduceCtorEq]
  intro vs2
  refine ⟨⟨by omega,Int.le_refl _,by omega,by omega⟩,?_⟩
  have hrep:(List.replicate (2 ^ n.toNat) [AVal.val (Value.bool false)]).flatten=bls2 (List.replicate (2 ^ n.toNat) false):=by
    induction 2 ^ n.toNat with
    | zero=>rfl
    | succ k ih=>rw [List.replicate_succ,List.flatten_cons,ih,List.replicate_succ];rfl
  simp only [Int.toNat_natCast,List.map_cons,List.map_nil,hrep,dnL_bls2,Bzne,go_sem,yz0,xx9,xx8,xx6,xx7,xx5,xx0,xx1,xx2,reduceIte,xx3,xx4,reduceCtorEq]
  refine ⟨⟨by omega,by rw [List.length_replicate];exact hf⟩,by rw [List.length_replicate];exact hf,?_⟩
  rw [bls2_put,seenT_one hf]
  simp only [dnL_bls2,Bznd,Bznb,go_sem,yz0,xx9,xx8,xx6,xx7,xx5,xx0,xx1,xx2,reduceIte,xx3,xx4,reduceCtorEq]
  refine wpD_lo (fun (_,_,_,i,_,_,_)=>1100 - i)
    (fun (_,_,_,i,L,B,C)=>TI n.toNat next.length L∧i≤List.length L∧runT next (1100 - i) i L=tourT next f∧BT L B C)
    (fun ((va,vb,vc,i,L,B,C):Nat×Nat×Nat×Nat×TS×List Int×List Int)=>⟨Go.Ab.L .any [(0,autP n next),(5,.ptr 15 (vs 5 0) 0),(6,.own 22 (vs2 6 0)),(7,iv i)],
      Go.Ab.L .gone [(11,.row va 1 true (ints (setsI L))),(12,.row vb 1 true (ints B)),(13,.row vc 1 true (ints C)),(15,.box (vs 5 0) [.own 11 va,.own 12 vb,.own 13 vc]),(22,.row (vs2 6 0) 1 true (bls2 (seenT (2 ^ n.toNat) L)))]⟩)
    (_,_,_,0,[(f,[])],[-1],[0]) ⟨TI0 hf,by simp,rfl,BT0⟩ (by simp only [Bz4x,dnL_bls2,go_sem,yz0,xx9,xx8,xx6,xx7,xx5,xx0,xx1,xx2,reduceIte,xx3,xx4,reduceCtorEq];try rfl) ?_
  rintro ⟨va,vb,vc,i,L,B,C⟩ ⟨hI,hi,hR,hB⟩
  have hi:i≤L.length:=hi
  have hlen:=hI.len
  by_cases hlt:(i:Int)<L.length
  · have hlt1:i<L.length:=by omega
    have hls:i<(setsI L).length:=by simpa using hlt1
    have hm:=yz1f hlt1 (0,([]:List Int))
    have hfi:=hI.rg _ hm
    have hwi:=hI.wd _ hm
    simp only [Bz4x,Bzb4,Bzna,Bzn8,dnL_bls2,List.length_map,decide_eq_true hlt,go_sem,yz0,xx9,xx8,xx6,xx7,xx5,xx0,xx1,xx2,reduceIte,xx3,xx4,reduceCtorEq]
    intro hM
    generalize hfw:L.getD i (0,[])=fw at hm hfi hwi ⊢
    refine wpD_lo (fun (_,_,_,x,_,_,_)=>next.length - x)
      (fun (_,_,_,x,L',B',C')=>x≤next.length∧L'=visT next fw.1 fw.2 x L∧BT L' B' C')
      (fun ((va,vb,vc,x,L',B',C'):Nat×Nat×Nat×Nat×TS×List Int×List Int)=>⟨Go.Ab.L .any [(0,autP n next),(5,.ptr 15 (vs 5 0) 0),(6,.own 22 (vs2 6 0)),(7,iv i),(8,iv x)],
        Go.Ab.L .gone [(11,.row va 1 true (ints (setsI L'))),(12,.row vb 1 true (ints B')),(13,.row vc 1 true (ints C')),(15,.box (vs 5 0) [.own 11 va,.own 12 vb,.own 13 vc]),(22,.row (vs2 6 0) 1 true (bls2 (seenT (2 ^ n.toNat) L')))]⟩)
      (_,_,_,0,L,B,C) ⟨by simp,rfl,hB⟩ (by simp only [Bz4w,dnL_bls2,go_sem,yz0,xx9,xx8,xx6,xx7,xx5,xx0,xx1,xx2,reduceIte,xx3,xx4,reduceCtorEq];try rfl) ?_
    rintro ⟨va,vb,vc,x,L',B',C'⟩ ⟨hx,rfl,hB'⟩
    have hx:x≤next.length:=hx
    have hB':BT (visT next fw.1 fw.2 x L) B' C':=hB'
    obtain ⟨hI',t,hpre⟩:=visT_ok A hI hlt1 x hx
    rw [hfw] at hI' hpre
    generalize hV:visT next fw.1 fw.2 x L=L' at hI' hpre hB' ⊢
    have hlen':=hI'.len
    have hi2:i<L'.length:=by rw [hpre,List.length_append];omega
    have hat:L'.getD i (0,[])=fw:=by rw [hpre,getD_app hlt1,hfw]
    by_cases hxl:(x:Int)<next.length
    · have hxl1:x<next.length:=by omega
      have hto:=stepN_lt A hxl1 hfi
      have w1:IntKind.i64.wrap ((x:Int)+1)=((x+1:Nat):Int):=by rw [w64 (by omega)];simp
      have hls2:i<(setsI L').length:=by simpa using hi2
      have hsg:=setsI_getD hi2
      rw [hat] at hsg
      have hrow:=A.row _ (yz1f hxl1 [])
      simp only [Bz4w,Bzb5,Bzn7,dnL_bls2,List.length_map,rwn_getD hxl1,yzx hls2,hsg,decide_eq_true hxl,go_sem,yz0,xx9,xx8,xx6,xx7,xx5,xx0,xx1,xx2,reduceIte,xx3,xx4,reduceCtorEq]
      intro hMx vs3
      refine ⟨⟨by omega,hxl1⟩,hxl1,⟨by omega,hi2⟩,hi2,?_⟩
      have hrl:(next.getD x []).length=n.toNat:=by have:=hrow.1;omega
      refine yz12 (k_l02Moved (next.getD x []) fw.1 (by omega) (fun y hy=>by have:=hrow.2 y hy;omega) (by rw [hrl];exact hfi)) qCS trivial ?_
      have hsucc:=visT_succ (next:=next) (f:=fw.1) (w:=fw.2) (x:=x) (L:=L)
      rw [hV] at hsucc
      generalize stepN (next.getD x []) fw.1=to at hto hsucc ⊢
      have hsn:(bls2 (seenT (2 ^ n.toNat) L')).getD to .any=bv (hasT L' to):=by rw [bls2_getD (by rw [seenT_len];exact hto),seenT_getD hto]
      cases hh:hasT L' to with
      | true =>
        rw [hh] at hsn
        rw [hh,if_pos rfl] at hsucc
        simp only [Bzb7,Bzb6,Bzb8,hsn,List.length_map,seenT_len,w1,dnL_bls2,go_sem,yz0,xx9,xx8,xx6,xx7,xx5,xx0,xx1,xx2,reduceIte,xx3,xx4,reduceCtorEq]
        refine ⟨⟨by omega,hto⟩,hto,?_⟩
        exact ⟨(_,_,_,x+1,_,_,_),by dsimp only;omega,⟨by dsimp only;omega,hsucc.symm,hB'⟩,rfl⟩
      | false =>
        rw [hh] at hsn
        rw [hh,if_neg (by simp)] at hsucc
        have hB2:=hB'.add hi2 to x
        rw [hat] at hB2
        have lb:=hB'.lb
        have lc:=hB'.lc
        simp only [Bzb7,Bzb6,hsn,List.length_map,seenT_len,dnL_bls2,go_sem,yz0,xx9,xx8,xx6,xx7,xx5,xx0,xx1,xx2,reduceIte,xx3,xx4,reduceCtorEq]
        refine ⟨⟨by omega,hto⟩,hto,⟨by omega,hto⟩,hto,?_⟩
        rw [bls2_put,← seenT_add (w:=fw.2 ++ [(x:Int)]) hto]
        simp only [Bzn6,dnL_bls2,List.length_map,go_sem,yz0,xx9,xx8,xx6,xx7,xx5,xx0,xx1,xx2,reduceIte,xx3,xx4,reduceCtorEq]
        intro vs4
        refine ⟨⟨_,rfl,rfl⟩,by omega,?_⟩
        simp only [Bzn5,dnL_bls2,List.length_map,go_sem,yz0,xx9,xx8,xx6,xx7,xx5,xx0,xx1,xx2,reduceIte,xx3,xx4,reduceCtorEq]
        intro vs5
        refine ⟨⟨_,rfl,rfl⟩,by omega,?_⟩
        simp only [Bzn4,dnL_bls2,List.length_map,go_sem,yz0,xx9,xx8,xx6,xx7,xx5,xx0,xx1,xx2,reduceIte,xx3,xx4,reduceCtorEq]
        intro vs6
        refine ⟨⟨_,rfl,rfl⟩,by omega,?_⟩
        simp only [Bzb8,w1,dnL_bls2,go_sem,yz0,xx9,xx8,xx6,xx7,xx5,xx0,xx1,xx2,reduceIte,xx3,xx4,reduceCtorEq]
        exact ⟨(vs4 7 0,vs5 7 0,vs6 7 0,x+1,L' ++ [(to,fw.2 ++ [(x:Int)])],B' ++ [(i:Int)],C' ++ [(x:Int)]),by dsimp only;omega,⟨by dsimp only;omega,hsucc.symm,hB2⟩,by simp only [List.map_append,List.map_cons,List.map_nil]⟩
    · have:x=next.length:=by omega
      subst this
      have w2:IntKind.i64.wrap ((i:Int)+1)=((i+1:Nat):Int):=by rw [w64 (by omega)];simp
      simp only [Bz4w,Bzb5,Bzn9,dnL_bls2,w2,decide_eq_false hxl,go_sem,yz0,xx9,xx8,xx6,xx7,xx5,xx0,xx1,xx2,reduceIte,xx3,xx4,reduceCtorEq]
      intro _
      obtain ⟨F,hF⟩:∃ F,1100 - i=F+1:=⟨1099 - i,by omega⟩
      have hF2:1100 - (i+1)=F:=by omega
      rw [hF] at hR
      simp only [runT,if_pos hlt1,hfw,hV] at hR
      exact ⟨(_,_,_,i+1,L',B',C'),by dsimp only;omega,⟨hI',by dsimp only;omega,by dsimp only;rw [hF2];exact hR,by dsimp only;first | exact hB' | (rw [← hV];exact hB')⟩,rfl⟩
  · have:i=L.length:=by omega
    subst this
    have hend:L=tourT next f:=by
      obtain ⟨F,hF⟩:∃ F,1100 - L.length=F+1:=⟨1099 - L.length,by omega⟩
      rw [← hR,hF];simp only [runT,Nat.lt_irrefl,if_false]
    simp only [Bz4x,Bzb4,Bznc,List.length_map,dnL_bls2,decide_eq_false hlt,Azb9,← hQ,go_sem,yz0,xx9,xx8,xx6,xx7,xx5,xx0,xx1,xx2,reduceIte,xx3,xx4,reduceCtorEq]
    intro hM
    refine ⟨[15,11,12,13],by simp,by simp,by simp,?_⟩
    have e3:AVal.ren (expo [15,11,12,13]) id (AVal.own 13 vc)=.own 6003 vc:=ren_own (expo_id (i:=3) (by simp) rfl (by omega))
    simp only [WalkR,e3,Nat.not_lt_zero,range1,yz15,yz1a,yz1l,yz1k,yz19,yz1n,yz1m,yz1j,yz17,yzv,yzf,yz4,yzy,yz11,yzs,yzp,yzz,yz8,yzd,yz9,yzb,yzi,yzh,yz3,yz7,yze,yzc,yzj,yzk,List.range_zero,yz6,yz5,yza,yz10,yzl,yzu,AVal.fresh,freshL,yz1,yzg,AObj.fresh,id,Option.isSome_some,or_true,true_or,go_sem,yz0,xx9,xx8,xx6,xx7,xx5,xx0,xx1,xx2,reduceIte,xx3,xx4,reduceCtorEq]
    exact ⟨_,_,_,_,B,C,by rw [← hend];exact hB,by rw [hend],rfl⟩
end Go.Ab
namespace Go.Ab
open Go.Proofs
theorem k_l02Walk_word (L:TS) (B C:List Int) (hB:BT L B C) (k:Nat) (hk:k<L.length) (hL:L.length≤2000) :
    RowI Tryz.prog nz6a [walkP L B C,iv k] (fun ys=>ys=(L.getD k (0,[])).2):=by
  refine rowI_of mixed czrh rfl ?_
  have lb:=hB.lb
  have lc:=hB.lc
  simp only [Aznr,Bznq,go_sem,yz0,xx9,xx8,xx6,xx7,xx5,xx0,xx1,xx2,reduceIte,xx3,xx4,reduceCtorEq]
  intro vs
  simp only [Bznp,go_sem,yz0,xx9,xx8,xx6,xx7,xx5,xx0,xx1,xx2,reduceIte,xx3,xx4,reduceCtorEq]
  refine wpD_lo (fun (_,a,_)=>a) (fun (_,a,bk)=>a<L.length∧(L.getD k (0,[])).2=(L.getD a (0,[])).2 ++ (bk:List Int).reverse∧bk.length+a≤k)
    (fun ((v,a,bk):Nat×Nat×List Int)=>⟨Go.Ab.L .any [(0,walkP L B C),(1,iv a),(5,.own 8 v)],Go.Ab.L .gone [(8,.row v 1 true (ints bk))]⟩)
    (_,k,[]) ⟨hk,by simp,by simp⟩ (by simp only [Bz4y,go_sem,yz0,xx9,xx8,xx6,xx7,xx5,xx0,xx1,xx2,reduceIte,xx3,xx4,reduceCtorEq];try rfl) ?_
  rintro ⟨v,a,bk⟩ ⟨ha,he,hl⟩
  have ha:a<L.length:=ha
  have hl:bk.length+a≤k:=hl
  have he:(L.getD k (0,[])).2=(L.getD a (0,[])).2 ++ bk.reverse:=he
  have hab:a<B.length:=by omega
  have hac:a<C.length:=by omega
  rcases hB.wd a ha with ⟨h1,h2⟩ | ⟨h1,h2,h3⟩
  · have hd:¬ B.getD a 0 ≥ 0:=by omega
    rw [h2,List.nil_append] at he
    simp only [Bz4y,Bzbc,Bzno,Bznn,yzx hab,decide_eq_false hd,go_sem,yz0,xx9,xx8,xx6,xx7,xx5,xx0,xx1,xx2,reduceIte,xx3,xx4,reduceCtorEq]
    refine ⟨⟨by omega,hab⟩,hab,?_⟩
    intro vs2 hM
    have w1:IntKind.i64.wrap ((bk.length:Int) - 1)=(bk.length:Int) - 1 - ((0:Nat):Int):=by rw [w64 (by omega)];omega
    simp only [w1,Bznl,go_sem,yz0,xx9,xx8,xx6,xx7,xx5,xx0,xx1,xx2,reduceIte,xx3,xx4,reduceCtorEq]
    refine wpD_lo (fun (_,j)=>bk.length - j) (fun (_,j)=>j≤bk.length)
      (fun ((v2,j):Nat×Nat)=>⟨Go.Ab.L .any [(5,.own 8 v),(6,.own 34 v2),(7,iv ((bk.length:Int) - 1 - (j:Nat)))],Go.Ab.L .gone [(8,.row v 1 true (ints bk)),(34,.row v2 1 true (ints (bk.reverse.take j)))]⟩)
      (_,0) (by simp) (by simp only [Bz4z,go_sem,yz0,xx9,xx8,xx6,xx7,xx5,xx0,xx1,xx2,reduceIte,xx3,xx4,reduceCtorEq];try rfl) ?_
    rintro ⟨v2,j⟩ hj
    have hj:j≤bk.length:=hj
    by_cases hjl:j<bk.length
    · have hd2:(bk.length:Int) - 1 - (j:Nat) ≥ 0:=by omega
      have hix:((bk.length:Int) - 1 - (j:Nat)).toNat<bk.length:=by omega
      have w2:IntKind.i64.wrap ((bk.length:Int) - 1 - (j:Nat) - 1)=(bk.length:Int) - 1 - ((j+1:Nat):Int):=by rw [w64 (by omega)];omega
      have hr:bk.reverse.take j ++ [bk.getD ((bk.length:Int) - 1 - (j:Nat)).toNat 0]=bk.reverse.take (j+1):=by
        have hjr:j<bk.reverse.length:=by rw [List.length_reverse];exact hjl
        rw [List.take_succ_eq_append_getElem hjr,List.getElem_reverse,List.getD_eq_getElem?_getD,List.getElem?_eq_getElem hix,Option.getD_some]
        congr 3;omega
      simp only [Bz4z,Bzbd,Bznk,Bznj,yzx hix,w2,hr,decide_eq_true hd2,go_sem,yz0,xx9,xx8,xx6,xx7,xx5,xx0,xx1,xx2,reduceIte,xx3,xx4,reduceCtorEq]
      intro vs3
      refine ⟨⟨by omega,hix⟩,hix,⟨_,rfl,rfl⟩,by rw [List.length_take,List.length_reverse];omega,?_⟩
      exact ⟨(_,j+1),by dsimp only;omega,by dsimp only;omega,rfl⟩
    · have hd2:¬ (bk.length:Int) - 1 - (j:Nat) ≥ 0:=by omega
      have e:bk.reverse.take j=bk.reverse:=List.take_of_length_le (by rw [List.length_reverse];omega)
      simp only [Bz4z,Bzbd,Bznm,e,decide_eq_false hd2,go_sem,yz0,xx9,xx8,xx6,xx7,xx5,xx0,xx1,xx2,reduceIte,xx3,xx4,reduceCtorEq]
      exact ⟨34,v2,bk.reverse,by omega,rfl,by simp only [go_sem,yz0,xx9,xx8,xx6,xx7,xx5,xx0,xx1,xx2,reduceIte,xx3,xx4,reduceCtorEq],he.symm⟩
  · have hd:B.getD a 0 ≥ 0:=h1
    have hBn:B.getD a 0=((B.getD a 0).toNat:Int):=by omega
    simp only [Bz4y,Bzbc,Bzni,Bznh,yzx hab,yzx hac,decide_eq_true hd,go_sem,yz0,xx9,xx8,xx6,xx7,xx5,xx0,xx1,xx2,reduceIte,xx3,xx4,reduceCtorEq]
    refine ⟨⟨by omega,hab⟩,hab,?_⟩
    intro vs2
    refine ⟨⟨by omega,hac⟩,hac,⟨_,rfl,rfl⟩,by omega,?_⟩
    refine ⟨⟨by omega,hab⟩,hab,?_⟩
    refine ⟨(vs2 9 0,(B.getD a 0).toNat,bk ++ [C.getD a 0]),by dsimp only;omega,⟨by dsimp only;omega,?_,by dsimp only;rw [List.length_append,List.length_singleton];omega⟩,?_⟩
    · dsimp only
      rw [he,h3];simp
    · dsimp only
      rw [← hBn]
theorem firstT_at {T:TS} {i:Nat} (hi:i<T.length) (hj:∀ j<i,smallN (T.getD j (0,[])).1=false) (hs:smallN (T.getD i (0,[])).1=true):firstT T=some (T.getD i (0,[])):=by
  unfold firstT
  rw [List.find?_eq_some_iff_getElem]
  refine ⟨hs,i,hi,by rw [List.getD_eq_getElem?_getD,List.getElem?_eq_getElem hi];rfl,fun j hji=>?_⟩
  have:=hj j hji
  rw [List.getD_eq_getElem?_getD,List.getElem?_eq_getElem (by omega)] at this
  simpa using this
theorem firstT_none {T:TS} (hj:∀ j<T.length,smallN (T.getD j (0,[])).1=false):firstT T=none:=by
  unfold firstT
  rw [List.find?_eq_none]
  intro p hp
  obtain ⟨j,hjl,rfl⟩:=List.getElem_of_mem hp
  have:=hj j hjl
  rw [List.getD_eq_getElem?_getD,List.getElem?_eq_getElem hjl] at this
  simpa using this
abbrev ToldB (x:Option (Nat×List Int)) (rows:List AObj) (res:AVal):Prop:=∃ v,rows=[.row v 1 true (ints ((x.map (·.2)).getD []))]∧res=.tup [.own 6000 v,bv x.isSome]
theorem k_l02Shrink (n:Int) (next:List (List Int)) (A:Aut n next) (f:Nat) (hf:f<2 ^ n.toNat) :
    Fn Tryz.prog nz5u [autP n next,iv f] (ToldB (firstT (tourT next f))):=by
  refine con_of mixed czqs rfl (by simp) ?_
  have n1:=A.n1
  have n2:=A.n2
  have hN:=pow_lt10' (k:=n.toNat) (by omega)
  generalize hQ:finQ _=Q
  simp only [Az44,Bzjd,go_sem,yz0,xx9,xx8,xx6,xx7,xx5,xx0,xx1,xx2,reduceIte,xx3,xx4,reduceCtorEq]
  intro vs
  refine call_fn (k_l02From n next A f hf) qCS (fun e=>by cases e) ?_
  rintro rows res ⟨v0,va,vb,vc,B,C,hB,rfl,rfl⟩
  have hT:=(runT_ok A 1100 0 _ (TI0 (m:=next.length) hf)).1
  have hlen:=hT.len
  refine ⟨by simp,by rw [Option.getD_some,gone_four];simp only [go_sem,yz0,xx9,xx8,xx6,xx7,xx5,xx0,xx1,xx2,reduceIte,xx3,xx4,reduceCtorEq],?_⟩
  have hTT:tourT next f=runT next 1100 0 [(f,[])]:=rfl
  rw [← hTT] at hT hlen
  generalize hGT:tourT next f=T at hB hT hlen ⊢
  simp only [Option.getD_some,callHp_four,ren_own_r3,Bzjc,Bzja,Nat.not_lt_zero,range1,yz15,yz1a,yz1l,yz1k,yz19,yz1n,yz1m,yz1j,yz17,yzv,yzf,yz4,yzy,yz11,yzs,yzp,yzz,yz8,yzd,yz9,yzb,yzi,yzh,yz3,yz7,yze,yzc,yzj,yzk,List.range_zero,yz6,yz5,yza,yz10,yzl,yzu,AVal.fresh,freshL,yz1,yzg,AObj.fresh,id,Option.isSome_some,or_true,true_or,go_sem,yz0,xx9,xx8,xx6,xx7,xx5,xx0,xx1,xx2,reduceIte,xx3,xx4,reduceCtorEq]
  refine wpD_lo (fun i=>T.length - i) (fun i=>i≤T.length∧∀ j<i,smallN (T.getD j (0,[])).1=false)
    (fun i:Nat=>⟨Go.Ab.L .any [(6,.ptr 10 (vs 2 v0) 0),(7,iv i)],Go.Ab.L .gone [(10,.box (vs 2 v0) [.own 1010 (vs 2 va),.own 2010 (vs 2 vb),.own 3010 (vs 2 vc)]),(1010,.row (vs 2 va) 1 true (ints (setsI T))),(2010,.row (vs 2 vb) 1 true (ints B)),(3010,.row (vs 2 vc) 1 true (ints C))]⟩)
    0 ⟨by simp,by simp⟩ (by simp only [Bz43,go_sem,yz0,xx9,xx8,xx6,xx7,xx5,xx0,xx1,xx2,reduceIte,xx3,xx4,reduceCtorEq];try rfl) ?_
  rintro i ⟨hi,hj⟩
  by_cases hlt:(i:Int)<T.length
  · have hlt1:i<T.length:=by omega
    have hls:i<(setsI T).length:=by simpa using hlt1
    have hm:=hT.rg _ (yz1f hlt1 (0,([]:List Int)))
    simp only [Bz43,Bz9m,Bzj9,List.length_map,yzx hls,setsI_getD hlt1,decide_eq_true hlt,go_sem,yz0,xx9,xx8,xx6,xx7,xx5,xx0,xx1,xx2,reduceIte,xx3,xx4,reduceCtorEq]
    intro hM vs2
    refine ⟨⟨by omega,hlt1⟩,hlt1,?_⟩
    refine yz12 (k_l02Single (T.getD i (0,[])).1 (by omega)) qCS trivial ?_
    cases hs:smallN (T.getD i (0,[])).1 with
    | true =>
      have hF:=firstT_at hlt1 hj hs
      simp only [Bz9n,go_sem,yz0,xx9,xx8,xx6,xx7,xx5,xx0,xx1,xx2,reduceIte,xx3,xx4,reduceCtorEq]
      intro vs3
      refine call_rowI (k_l02Walk_word T B C hB i hlt1 (by omega)) qCS qGN ⟨_,rfl⟩ ?_
      rintro ys v rfl
      simp only [Az44,← hQ,go_sem,yz0,xx9,xx8,xx6,xx7,xx5,xx0,xx1,xx2,reduceIte,xx3,xx4,reduceCtorEq]
      refine ⟨[30],by simp,by simp,by simp,?_⟩
      simp only [ToldB,hGT,hF,Option.map_some,Option.getD_some,Option.isSome_some,range1,List.length_singleton,Nat.not_lt_zero,range1,yz15,yz1a,yz1l,yz1k,yz19,yz1n,yz1m,yz1j,yz17,yzv,yzf,yz4,yzy,yz11,yzs,yzp,yzz,yz8,yzd,yz9,yzb,yzi,yzh,yz3,yz7,yze,yzc,yzj,yzk,List.range_zero,yz6,yz5,yza,yz10,yzl,yzu,AVal.fresh,freshL,yz1,yzg,AObj.fresh,id,Option.isSome_some,or_true,true_or,go_sem,yz0,xx9,xx8,xx6,xx7,xx5,xx0,xx1,xx2,reduceIte,xx3,xx4,reduceCtorEq]
      exact ⟨v,rfl,rfl⟩
    | false =>
      simp only [Bz9n,Bzj8,nat1 i _ hlt1 hM,go_sem,yz0,xx9,xx8,xx6,xx7,xx5,xx0,xx1,xx2,reduceIte,xx3,xx4,reduceCtorEq]
      refine ⟨i+1,by omega,⟨by omega,fun j hji=>?_⟩,rfl⟩
      by_cases e:j=i
      · rw [e];exact hs
      · exact hj j (by omega)
  · have e:i=T.length:=by omega
    subst e
    have hF:=firstT_none hj
    simp only [Bz43,Bz9m,Bzjb,List.length_map,decide_eq_false hlt,Az44,← hQ,go_sem,yz0,xx9,xx8,xx6,xx7,xx5,xx0,xx1,xx2,reduceIte,xx3,xx4,reduceCtorEq]
    intro _ vs2
    refine ⟨[31],by simp,by simp,by simp,?_⟩
    simp only [ToldB,hGT,hF,Option.map_none,Option.getD_none,Option.isSome_none,range1,List.length_singleton,List.map_nil,Nat.not_lt_zero,range1,yz15,yz1a,yz1l,yz1k,yz19,yz1n,yz1m,yz1j,yz17,yzv,yzf,yz4,yzy,yz11,yzs,yzp,yzz,yz8,yzd,yz9,yzb,yzi,yzh,yz3,yz7,yze,yzc,yzj,yzk,List.range_zero,yz6,yz5,yza,yz10,yzl,yzu,AVal.fresh,freshL,yz1,yzg,AObj.fresh,id,Option.isSome_some,or_true,true_or,go_sem,yz0,xx9,xx8,xx6,xx7,xx5,xx0,xx1,xx2,reduceIte,xx3,xx4,reduceCtorEq]
    exact ⟨_,rfl,rfl⟩
end Go.Ab
namespace Go.Ab
def pairI (n:Int) (p:List Int):Nat:=(fidx (fun q=>decide (q=p)) (every n) 0).toNat
def wocW (n:Int) (words:List (List Int)) (set:List Int):List Int:=words.getD (pairI n (set.take 2)) []
def wocR (n:Int) (next words:List (List Int)):Nat→List Int→List Int→List Int
  | 0,_,out=>out
  | F+1,set,out=>if set.length≤1 then out else wocR n next words F (imgL next set (wocW n words set)) (out ++ wocW n words set)
theorem fidx_is {x:List Int}:∀ {xs:List (List Int)} (k:Nat),x∈xs→∃ i:Nat,fidx (fun q=>decide (q=x)) xs k=((k+i:Nat):Int)∧i<xs.length∧xs.getD i []=x
  | [],_,h=>by simp at h
  | y :: xs,k,h=>by
    by_cases e:y=x
    · exact ⟨0,by simp [fidx,e],by simp,by simpa using e⟩
    · obtain ⟨i,h1,h2,h3⟩:=fidx_is (xs:=xs) (k+1) (by simpa [Ne.symm e] using h)
      refine ⟨i+1,?_,by simp;omega,by simpa using h3⟩
      simp only [fidx,e,decide_false,Bool.false_eq_true,if_false,h1]
      congr 1;omega
theorem nrm_dup {x:Int} {l:List Int}:nrm (x :: x :: l)=nrm (x :: l):=by
  refine SI_ext (nrm_SI _) (nrm_SI _) fun y=>?_
  rw [nrm_mem,nrm_mem]
  simp only [List.mem_cons]
  constructor
  · rintro (h | h | h)
    · exact .inl h
    · exact .inl h
    · exact .inr h
  · rintro (h | h)
    · exact .inl h
    · exact .inr (.inr h)
structure WS1 (n:Int) (set:List Int):Prop where
  si:SI set
  rg:∀ x∈set,0≤x∧x<n
theorem woc_step {n:Int} {next words:List (List Int)} (A:Aut n next) {set:List Int} (S:WS1 n set) (h2:2≤set.length)
    (hm:words.length=(every n).length∧∀ i<words.length,wordB next.length (words.getD i [])=true∧(imgL next ((every n).getD i []) (words.getD i [])).length=1) :
    set.take 2∈every n∧pairI n (set.take 2)<words.length∧fidx (fun q=>decide (q=set.take 2)) (every n) 0=(pairI n (set.take 2):Int)∧wordB next.length (wocW n words set)=true ∧
      WS1 n (imgL next set (wocW n words set))∧(imgL next set (wocW n words set)).length<set.length∧1≤(imgL next set (wocW n words set)).length:=by
  have n1:=A.n1
  match set,h2 with
  | a :: b :: l,_ =>
    have hab:a<b:=by
      have:=S.si;unfold SI at this
      rw [List.pairwise_cons] at this
      exact this.1 b (by simp)
    have ha:=S.rg a (by simp)
    have hb:=S.rg b (by simp)
    have hmem:[a,b]∈every n:=(pairsL_mem (by omega)).2 ⟨a,b,ha.1,hab,hb.2,rfl,rfl⟩
    obtain ⟨i,h1,h3,h4⟩:=fidx_is 0 hmem
    rw [Nat.zero_add] at h1
    have hp:pairI n [a,b]=i:=by unfold pairI;rw [h1];simp
    have hil:i<words.length:=by rw [hm.1];exact h3
    obtain ⟨g1,g2⟩:=hm.2 i hil
    rw [h4,img2] at g2
    have hw:wocW n words (a :: b :: l)=words.getD i []:=by unfold wocW;rw [show (a :: b :: l).take 2=[a,b] from rfl,hp]
    have hW:=wordB_iff.1 g1
    have ht:(a :: b :: l).take 2=[a,b]:=rfl
    rw [hw,ht,hp]
    refine ⟨hmem,hil,h1,g1,⟨nrm_SI _,fun x hx=>?_⟩,?_,?_⟩
    · rw [nrm_mem] at hx
      obtain ⟨s,hs,rfl⟩:=List.mem_map.1 hx
      exact A.at (S.rg s hs) hW.2
    · unfold imgL
      rw [List.map_cons,List.map_cons,g2,nrm_dup]
      have:=nrm_len (atA next b (words.getD i []) :: l.map fun s=>atA next s (words.getD i []))
      simp only [List.length_cons,List.length_map] at this ⊢
      omega
    · exact List.length_pos_of_mem (nrm_mem.2 (List.mem_map.2 ⟨a,by simp,rfl⟩))
theorem wocR_pre {n:Int} {next words:List (List Int)}:∀ (F:Nat) (set out:List Int),∃ t,wocR n next words F set out=out ++ t
  | 0,_,out=>⟨[],by simp [wocR]⟩
  | F+1,set,out=>by
    simp only [wocR]
    split
    · exact ⟨[],by simp⟩
    · obtain ⟨t,h⟩:=wocR_pre F (imgL next set (wocW n words set)) (out ++ wocW n words set)
      exact ⟨wocW n words set ++ t,by rw [h,List.append_assoc]⟩
end Go.Ab
namespace Go.Ab
theorem imgL_app {next:List (List Int)} {set u v:List Int}:imgL next (imgL next set u) v=imgL next set (u ++ v):=by
  refine SI_ext (nrm_SI _) (nrm_SI _) fun y=>?_
  rw [nrm_mem,nrm_mem]
  simp only [List.mem_map,imgL,nrm_mem]
  have ha:∀ s,atA next s (u ++ v)=atA next (atA next s u) v:=fun s=>by simp [atA,List.foldl_append]
  constructor
  · rintro ⟨x,⟨s,hs,rfl⟩,rfl⟩;exact ⟨s,hs,ha s⟩
  · rintro ⟨s,hs,rfl⟩;exact ⟨_,⟨s,hs,rfl⟩,(ha s).symm⟩
theorem imgL_nil {next:List (List Int)} {set:List Int} (h:SI set):imgL next set []=set:=by
  refine SI_ext (nrm_SI _) h fun y=>?_
  rw [nrm_mem]
  simp [atA]
theorem wocR_resets {n:Int} {next words:List (List Int)} (A:Aut n next)
    (hm:words.length=(every n).length∧∀ i<words.length,wordB next.length (words.getD i [])=true∧(imgL next ((every n).getD i []) (words.getD i [])).length=1) :
    ∀ (F:Nat) (set out:List Int),WS1 n set→set.length≤F→1≤set.length→IsW next.length out→imgL next (allS n) out=set →
      IsW next.length (wocR n next words F set out)∧(imgL next (allS n) (wocR n next words F set out)).length=1
  | 0,set,out,_,h1,h2,_,_=>by omega
  | F+1,set,out,S,h1,h2,hw,hi=>by
    rw [wocR]
    split
    · exact ⟨hw,by rw [hi];omega⟩
    · obtain ⟨_,_,_,h5,h6,h7,h8⟩:=woc_step A S (by omega) hm
      refine wocR_resets A hm F _ _ h6 (by omega) h8 ?_ ?_
      · intro x hx
        rcases List.mem_append.1 hx with hx | hx
        · exact hw x hx
        · exact (wordB_iff.1 h5).2 x hx
      · rw [← imgL_app,hi]
end Go.Ab
namespace Go.Ab
theorem every_SI {n:Int} (hn:0≤n) {p:List Int} (h:p∈every n):SI p∧p.length=2∧∀ x∈p,0≤x∧x<n:=by
  obtain ⟨a,b,h1,h2,h3,_,rfl⟩:=(pairsL_mem hn).1 h
  refine ⟨by simp [SI];omega,rfl,fun x hx=>?_⟩
  simp at hx;omega
theorem apart_img {n:Int} {next pairs:List (List Int)} (hn:0≤n) (h:apartW n next pairs):∀ (w:List Int),IsW next.length w→∀ p∈pairs,imgL next p w∈pairs
  | [],_,p,hp=>by
    obtain ⟨i,hi,rfl⟩:=List.mem_iff_getElem.1 hp
    have hi2:pairs[i]=pairs.getD i []:=by rw [List.getD_eq_getElem?_getD,List.getElem?_eq_getElem hi];rfl
    have h2:=(h.2 i hi).1
    rw [← hi2] at h2
    rw [imgL_nil (every_SI hn h2).1];exact hp
  | x :: w,hw,p,hp=>by
    obtain ⟨i,hi,rfl⟩:=List.mem_iff_getElem.1 hp
    have hi2:pairs[i]=pairs.getD i []:=by rw [List.getD_eq_getElem?_getD,List.getElem?_eq_getElem hi];rfl
    have hx:=hw x (by simp)
    have h3:=(h.2 i hi).2.2 x.toNat (by omega)
    rw [Int.toNat_of_nonneg hx.1,← hi2] at h3
    have e:imgL next pairs[i] (x :: w)=imgL next (imgL next pairs[i] [x]) w:=by rw [imgL_app];rfl
    rw [e]
    exact apart_img hn h w (fun y hy=>hw y (by simp [hy])) _ h3
end Go.Ab
namespace Go.Ab
def twoN (s t:Int):Nat:=2 ^ s.toNat ||| 2 ^ t.toNat
def mergQ (next:List (List Int)) (s t:Int):Option (List Int):=(firstT (tourT next (twoN s t))).map (·.2)
theorem twoN_comm (s t:Int):twoN s t=twoN t s:=Nat.or_comm _ _
theorem mergQ_comm {next:List (List Int)} (s t:Int):mergQ next s t=mergQ next t s:=by unfold mergQ;rw [twoN_comm]
theorem two_lt {n s t:Int} (hs:0≤s∧s<n) (ht:0≤t∧t<n):twoN s t<2 ^ n.toNat :=
  Nat.or_lt_two_pow (Nat.pow_lt_pow_right (by omega) (by omega)) (Nat.pow_lt_pow_right (by omega) (by omega))
theorem two_bits {n s t:Int} (hn:n≤10) (hs:0≤s∧s<n) (ht:0≤t∧t<n) {u:Nat}:u∈bitsN (twoN s t)↔u=s.toNat∨u=t.toNat:=by
  rw [mem_bits,twoN,Nat.testBit_or,Nat.testBit_two_pow,Nat.testBit_two_pow,Bool.or_eq_true,decide_eq_true_eq,decide_eq_true_eq]
  omega
theorem small_two {n:Int} {next:List (List Int)} (A:Aut n next) {s t:Int} (hs:0≤s∧s<n) (ht:0≤t∧t<n) {w:List Int} (hw:IsW next.length w) :
    smallN (imN next (twoN s t) w)=true↔atA next s w=atA next t w:=by
  have n1:=A.n1
  have n2:=A.n2
  have hN:2 ^ n.toNat≤1024:=Nat.pow_le_pow_right (n:=2) (by omega) (show n.toNat≤10 by omega)
  obtain ⟨h1,h2⟩:=imN_bit A w (two_lt hs ht) hw
  have a0:=A.at (w:=w) hs hw
  have a1:=A.at (w:=w) ht hw
  have es:((s.toNat:Nat):Int)=s:=by omega
  have et:((t.toNat:Nat):Int)=t:=by omega
  rw [small_iff (by omega)]
  constructor
  · intro h
    have b1:=(h2 (atA next s w).toNat).2 ⟨s.toNat,(two_bits n2 hs ht).2 (.inl rfl),by rw [es];omega⟩
    have b2:=(h2 (atA next t w).toNat).2 ⟨t.toNat,(two_bits n2 hs ht).2 (.inr rfl),by rw [et];omega⟩
    have:=h _ b1 _ b2
    omega
  · intro h x hx y hy
    obtain ⟨x',hx',e1⟩:=(h2 x).1 hx
    obtain ⟨y',hy',e2⟩:=(h2 y).1 hy
    have c1:atA next (x':Int) w=atA next s w:=by
      rcases (two_bits n2 hs ht).1 hx' with rfl | rfl
      · rw [es]
      · rw [et,h]
    have c2:atA next (y':Int) w=atA next s w:=by
      rcases (two_bits n2 hs ht).1 hy' with rfl | rfl
      · rw [es]
      · rw [et,h]
    omega
theorem two_snd {next:List (List Int)} {f:Nat}:SndT next f (tourT next f):=SndT.run 1100 0 (fun p hp=>by
  have:p=(f,[]):=by simpa using hp
  rw [this];rfl)
theorem merg_some {n:Int} {next:List (List Int)} (A:Aut n next) {s t:Int} (hs:0≤s∧s<n) (ht:0≤t∧t<n) {w:List Int} (h:mergQ next s t=some w) :
    IsW next.length w∧atA next s w=atA next t w∧w.length<2 ^ n.toNat:=by
  have hT:=(runT_ok A 1100 0 _ (TI0 (m:=next.length) (two_lt hs ht))).1
  have hl:=hT.len
  unfold mergQ at h
  obtain ⟨p,hp,rfl⟩:=Option.map_eq_some_iff.1 h
  have hm:=List.mem_of_find?_eq_some hp
  have hsm:smallN p.1=true:=by simpa using List.find?_some hp
  have hw:=hT.wd p hm
  rw [two_snd p hm,small_two A hs ht hw.1] at hsm
  exact ⟨hw.1,hsm,by have:=hw.2;omega⟩
theorem merg_none {n:Int} {next:List (List Int)} (A:Aut n next) {s t:Int} (hs:0≤s∧s<n) (ht:0≤t∧t<n) (h:mergQ next s t=none) {w:List Int} (hw:IsW next.length w) :
    atA next s w≠atA next t w:=by
  intro he
  unfold mergQ at h
  rw [Option.map_eq_none_iff] at h
  unfold firstT at h
  rw [List.find?_eq_none] at h
  have h1:=tour_mem A (two_lt hs ht) w.length w rfl hw
  obtain ⟨p,hp,hpe⟩:=List.mem_map.1 (hasT_iff.1 h1)
  have:=h p hp
  rw [hpe,(small_two A hs ht hw).2 he] at this
  exact this rfl
def apartL (n:Int) (next:List (List Int)):List (List Int):=pairsL n fun s t=>(mergQ next s t).isNone
def wordsL (n:Int) (next:List (List Int)):List (List Int):=(every n).map fun p=>(mergQ next (p.getD 0 0) (p.getD 1 0)).getD []
theorem cmpI_lt {a b:Int} (h:a<b):cmpI a b=-1:=by simp [cmpI,h]
theorem cmpI_eq {a:Int}:cmpI a a=0:=by simp [cmpI]
theorem prow_sort {p:Int→Int→Bool} {s:Int}:∀ (m:Nat) (t:Int),(prow p s t m).Pairwise fun x y=>cmpL x y<0
  | 0,t=>by simp [prow]
  | m+1,t=>by
    have ih:=prow_sort (p:=p) (s:=s) m (t+1)
    simp only [prow]
    refine List.pairwise_append.2 ⟨by split <;> simp,ih,fun x hx y hy=>?_⟩
    split at hx
    · obtain rfl:x=[s,t]:=by simpa using hx
      obtain ⟨u,h1,_,_,rfl⟩:=(prow_mem _ _).1 hy
      have:t<u:=by omega
      simp [cmpL,cmpI_eq,cmpI_lt this]
    · cases hx
theorem pall_sort {p:Int→Int→Bool} {n:Int}:∀ (m:Nat) (s:Int),s+m=n→(pall p n s m).Pairwise fun x y=>cmpL x y<0
  | 0,s,_=>by simp [pall]
  | m+1,s,hm=>by
    simp only [pall]
    refine List.pairwise_append.2 ⟨prow_sort _ _,pall_sort m (s+1) (by omega),fun x hx y hy=>?_⟩
    obtain ⟨u,_,_,_,rfl⟩:=(prow_mem _ _).1 hx
    obtain ⟨a,b,h1,_,_,_,rfl⟩:=(pall_mem _ _ (by omega)).1 hy
    have:s<a:=by omega
    simp [cmpL,cmpI_lt this]
theorem pairsL_sort {p:Int→Int→Bool} {n:Int} (hn:0≤n):(pairsL n p).Pairwise fun x y=>cmpL x y<0:=pall_sort _ _ (by omega)
theorem nrm_two {a b:Int} (h:a<b):nrm [a,b]=[a,b]:=SI_ext (nrm_SI _) (by simp [SI];omega) fun y=>nrm_mem
theorem nrm_two' {a b:Int} (h:b<a):nrm [a,b]=[b,a]:=SI_ext (nrm_SI _) (by simp [SI];omega) fun y=>by rw [nrm_mem];simp;exact or_comm
theorem merg_behind {n:Int} {next:List (List Int)} (A:Aut n next) {s t l:Int} (hs:0≤s∧s<n) (ht:0≤t∧t<n) (hl:0≤l∧l<next.length) (h:mergQ next s t=none) :
    mergQ next (stepA next s l) (stepA next t l)=none:=by
  have h1:=(A.step hs hl).2.2
  have h2:=(A.step ht hl).2.2
  cases hq:mergQ next (stepA next s l) (stepA next t l) with
  | none=>rfl
  | some w =>
    obtain ⟨g1,g2,_⟩:=merg_some A h1 h2 hq
    exact absurd g2 (merg_none A hs ht h (w:=l :: w) (by
      intro x hx
      rcases List.mem_cons.1 hx with rfl | hx
      · exact hl
      · exact g1 x hx))
theorem apart_right {n:Int} {next:List (List Int)} (A:Aut n next) (h:apartL n next≠[]):apartW n next (apartL n next):=by
  have n1:=A.n1
  refine ⟨List.length_pos_iff.2 h,fun i hi=>?_⟩
  have hm:=yz1f hi []
  obtain ⟨a,b,h1,h2,h3,h4,h5⟩:=(pairsL_mem (by omega)).1 hm
  refine ⟨(pairsL_mem (by omega)).2 ⟨a,b,h1,h2,h3,rfl,h5⟩,fun h0=>?_,fun l hl=>?_⟩
  · have:=(List.pairwise_iff_getElem.1 (pairsL_sort (p:=fun s t=>(mergQ next s t).isNone) (n:=n) (by omega))) (i - 1) i (by unfold apartL at hi;omega) hi (by omega)
    rw [List.getD_eq_getElem?_getD,List.getD_eq_getElem?_getD,List.getElem?_eq_getElem hi,List.getElem?_eq_getElem (by omega)]
    exact this
  · rw [h5]
    have hn:mergQ next a b=none:=by simpa using h4
    have hl':(0:Int)≤(l:Int)∧(l:Int)<next.length:=by omega
    have g:=merg_behind A (s:=a) (t:=b) (l:=(l:Int)) (by omega) (by omega) hl' hn
    have g1:=(A.step (s:=a) (l:=(l:Int)) (by omega) hl').2.2
    have g2:=(A.step (s:=b) (l:=(l:Int)) (by omega) hl').2.2
    have gne:stepA next a l≠stepA next b l:=fun e=>merg_none A (s:=a) (t:=b) (by omega) (by omega) hn (w:=[(l:Int)]) (by intro x hx;rw [List.mem_singleton.1 hx];exact hl') e
    show nrm [stepA next a l,stepA next b l]∈_
    by_cases e:stepA next a l<stepA next b l
    · rw [nrm_two e]
      exact (pairsL_mem (by omega)).2 ⟨_,_,by omega,e,by omega,by rw [g];rfl,rfl⟩
    · rw [nrm_two' (by omega)]
      exact (pairsL_mem (by omega)).2 ⟨_,_,by omega,by omega,by omega,by rw [mergQ_comm,g];rfl,rfl⟩
theorem words_right {n:Int} {next:List (List Int)} (A:Aut n next) (h7:n≤7) (h:apartL n next=[]):mergeW n next (wordsL n next):=by
  have n1:=A.n1
  refine ⟨by simp [wordsL],fun i hi=>?_⟩
  obtain ⟨a,b,h1,h2,h3,hg⟩:=every_get (by omega) hi
  have hget:(wordsL n next).getD i []=(mergQ next a b).getD []:=by
    unfold wordsL
    rw [List.getD_eq_getElem?_getD,List.getElem?_map,List.getElem?_eq_getElem hi]
    rw [List.getD_eq_getElem?_getD,List.getElem?_eq_getElem hi] at hg
    simp only [Option.getD_some] at hg
    simp [hg]
  rw [hget,hg]
  cases hq:mergQ next a b with
  | none =>
    exfalso
    have:[a,b]∈apartL n next:=(pairsL_mem (by omega)).2 ⟨a,b,h1,h2,h3,by rw [hq];rfl,rfl⟩
    rw [h] at this;simp at this
  | some w =>
    obtain ⟨g1,g2,g3⟩:=merg_some A (by omega) (by omega) hq
    have hN:2 ^ n.toNat≤128:=Nat.pow_le_pow_right (n:=2) (by omega) (show n.toNat≤7 by omega)
    exact ⟨wordB_iff.2 ⟨by simp only [Option.getD_some];omega,g1⟩,g2⟩
theorem img_can {n:Int} {next:List (List Int)} (hn:1≤n) {w:List Int} (h:(imgL next (allS n) w).length=1):∀ s t:Int,0≤s∧s<n→0≤t∧t<n→atA next s w=atA next t w:=by
  intro s t hs ht
  obtain ⟨x,hx⟩:=List.length_eq_one_iff.1 h
  have hm:∀ u:Int,0≤u∧u<n→atA next u w=x:=fun u hu=>by
    have:atA next u w∈imgL next (allS n) w:=nrm_mem.2 (List.mem_map.2 ⟨u,by simp only [allS,List.mem_map,List.mem_range];exact ⟨u.toNat,by omega,by omega⟩,rfl⟩)
    rw [hx] at this;simpa using this
  rw [hm s hs,hm t ht]
theorem wocF_can {n:Int} {next words:List (List Int)} (A:Aut n next)
    (hm:words.length=(every n).length∧∀ i<words.length,wordB next.length (words.getD i [])=true∧(imgL next ((every n).getD i []) (words.getD i [])).length=1) :
    IsW next.length (wocR n next words n.toNat (allS n) [])∧(imgL next (allS n) (wocR n next words n.toNat (allS n) [])).length=1:=by
  have n1:=A.n1
  have hal:(allS n).length=n.toNat:=by simp [allS]
  have hsi:SI (allS n):=by
    unfold SI allS
    rw [List.pairwise_map]
    exact List.pairwise_lt_range.imp fun h=>by omega
  refine wocR_resets A hm n.toNat (allS n) [] ⟨hsi,allS_in⟩ (by omega) (by omega) (by intro x hx;simp at hx) (imgL_nil hsi)
theorem right_can {n kind:Int} {next pairs words:List (List Int)} (A:Aut n next) (h:rightB n next kind pairs words=true):CanR n next↔kind=1:=by
  have n1:=A.n1
  by_cases h1:kind=1
  · subst h1
    have hm:mergeP n next pairs words:=by
      by_cases hm:mergeP n next pairs words
      · exact hm
      · rw [right1_f hm] at h;cases h
    refine ⟨fun _=>rfl,fun _=>?_⟩
    have g:=wocF_can A ⟨hm.2.1,fun i hi=>by
      have hi2:i<(every n).length:=by have:=hm.2.1;omega
      obtain ⟨h1,h2⟩:=hm.2.2 i hi2
      obtain ⟨a,b,ha,hab,hb,hget⟩:=every_get (by omega) hi2
      rw [hget] at h2 ⊢
      exact ⟨h1,img2.2 h2⟩⟩
    exact ⟨_,g.1,img_can n1 g.2⟩
  · by_cases h2:kind=2
    · subst h2
      have hm:apartP n next pairs words:=by
        by_cases hm:apartP n next pairs words
        · exact hm
        · rw [right2_f hm] at h;cases h
      refine ⟨?_,fun h=>by omega⟩
      rintro ⟨w,hw,hc⟩
      exfalso
      obtain ⟨i0,i1⟩:=hm.2
      have hp:=i1 0 i0
      have hq:=apart_img (by omega) ⟨i0,i1⟩ w hw _ (yz1f i0 [])
      obtain ⟨a,b,g1,g2,g3,_,g5⟩:=(pairsL_mem (by omega)).1 hp.1
      rw [g5] at hq
      have e:imgL next [a,b] w=[atA next b w]:=by
        show nrm [atA next a w,atA next b w]=_
        rw [hc a b (by omega) (by omega),nrm_dup];rfl
      rw [e] at hq
      obtain ⟨i,hi,he⟩:=List.mem_iff_getElem.1 hq
      have h4:=(i1 i hi).1
      rw [List.getD_eq_getElem?_getD,List.getElem?_eq_getElem hi,Option.getD_some,he] at h4
      have:=(every_SI (by omega) h4).2.1
      simp at this
    · rw [right_f h1 h2] at h;cases h
noncomputable def findK (n:Int) (next:List (List Int)):Int:=open Classical in if apartL n next=[] then 1 else 2
noncomputable def findP (n:Int) (next:List (List Int)):List (List Int):=apartL n next
noncomputable def findW (n:Int) (next:List (List Int)):List (List Int):=open Classical in if apartL n next=[] then wordsL n next else []
theorem find_right {n:Int} {next:List (List Int)} (A:Aut n next) (h7:n≤7):rightB n next (findK n next) (findP n next) (findW n next)=true:=by
  by_cases h:apartL n next=[]
  · have hw:=words_right A h7 h
    simp only [findK,findP,findW,h,if_true]
    exact right1_t ⟨rfl,hw⟩
  · have ha:=apart_right A h
    simp only [findK,findP,findW,h,if_false]
    exact right2_t ⟨rfl,ha⟩
end Go.Ab
namespace Go.Ab
open Go.Proofs
def optC:Option (List Int)→AVal
  | some w=>.ro none 1 (ints w)
  | none=>.val (.slice none 0 0)
def optL (os:List (Option (List Int))):List AVal:=os.map optC
def rzs (oss:List (List (Option (List Int)))):List AVal:=oss.map fun os=>.ro (some none) 1 (optL os)
def rzn (oss:List (List (Option (List Int)))):List AVal:=oss.map fun os=>.ro none 1 (optL os)
theorem dn_optC {o:Option (List Int)}:(optC o).dn=optC o:=by cases o <;> simp [optC,AVal.dn,ints,dnL_eq,dnNm]
theorem ren_optC {f:Nat→Option Nat} {s:Nat→Nat} {o:Option (List Int)}:AVal.ren f s (optC o)=optC o:=by cases o <;> simp [optC,AVal.ren,ints,renL_eq,rnNm]
theorem dnL_opt {os:List (Option (List Int))}:dnL (optL os)=optL os:=by
  simp only [dnL_eq,optL,List.map_map]
  exact List.map_congr_left fun o _=>dn_optC
theorem renL_opt {f:Nat→Option Nat} {s:Nat→Nat} {os:List (Option (List Int))}:renL f s (optL os)=optL os:=by
  simp only [renL_eq,optL,List.map_map]
  exact List.map_congr_left fun o _=>ren_optC
theorem dnL_rzs {oss:List (List (Option (List Int)))}:dnL (rzs oss)=rzs oss:=by
  simp only [dnL_eq,rzs,List.map_map]
  exact List.map_congr_left fun o _=>by simp [AVal.dn,dnL_opt,dnNm]
theorem dnL_rzn {oss:List (List (Option (List Int)))}:dnL (rzn oss)=rzn oss:=by
  simp only [dnL_eq,rzn,List.map_map]
  exact List.map_congr_left fun o _=>by simp [AVal.dn,dnL_opt,dnNm]
theorem renL_rzs {f:Nat→Option Nat} {s:Nat→Nat} {oss:List (List (Option (List Int)))}:renL f s (rzs oss)=rzs oss:=by
  simp only [renL_eq,rzs,List.map_map]
  exact List.map_congr_left fun o _=>by simp [AVal.ren,renL_opt,rnNm]
theorem one_optC {hp:Nat→AObj} {o:Option (List Int)}:One hp (optC o)=True:=by cases o <;> simp [optC,One,Value.oneCell']
theorem one_opt {hp:Nat→AObj} {os:List (Option (List Int))}:(∀ A∈optL os,One hp A)=True:=by
  refine eq_true ?_
  intro A hA
  simp only [optL,List.mem_map] at hA
  obtain ⟨x,_,rfl⟩:=hA
  exact of_eq_true one_optC
theorem one_rzs {hp:Nat→AObj} {oss:List (List (Option (List Int)))}:(∀ A∈rzs oss,One hp A)=True:=by
  refine eq_true ?_
  intro A hA
  simp only [rzs,List.mem_map] at hA
  obtain ⟨x,_,rfl⟩:=hA
  exact trivial
theorem frz_optC {hp:Nat→AObj} {o:Option (List Int)}:frz hp (optC o)=optC o:=by cases o <;> simp [optC,frz]
theorem frz_opt {hp:Nat→AObj} {os:List (Option (List Int))}:(optL os).map (frz hp)=optL os:=by
  simp only [optL,List.map_map]
  exact List.map_congr_left fun o _=>frz_optC
theorem frz_rzs {hp:Nat→AObj} {oss:List (List (Option (List Int)))}:(rzs oss).map (frz hp)=rzs oss:=by simp [rzs,frz]
theorem owned_opt:∀ {os:List (Option (List Int))},owned (optL os)=[]
  | []=>rfl
  | some _ :: os=>owned_opt (os:=os)
  | none :: os=>owned_opt (os:=os)
theorem owned_rzs:∀ {oss:List (List (Option (List Int)))},owned (rzs oss)=[]
  | []=>rfl
  | _ :: oss=>owned_rzs (oss:=oss)
theorem opt_some {os:List (Option (List Int))} {w:List Int}:optL os ++ [.ro none 1 (ints w)]=optL (os ++ [some w]):=by simp [optL,optC]
theorem opt_none {os:List (Option (List Int))}:optL os ++ [.val (.slice none 0 0)]=optL (os ++ [none]):=by simp [optL,optC]
theorem rzs_snoc {oss:List (List (Option (List Int)))} {os:List (Option (List Int))}:rzs oss ++ [.ro (some none) 1 (optL os)]=rzs (oss ++ [os]):=by simp [rzs]
theorem opt_len {os:List (Option (List Int))}:(optL os).length=os.length:=by simp [optL]
theorem rzs_len {oss:List (List (Option (List Int)))}:(rzs oss).length=oss.length:=by simp [rzs]
theorem rzn_len {oss:List (List (Option (List Int)))}:(rzn oss).length=oss.length:=by simp [rzn]
theorem opt_getD {os:List (Option (List Int))} {i:Nat} (h:i<os.length):(optL os).getD i .any=optC (os.getD i none):=by
  simp [optL,List.getD_eq_getElem?_getD,h]
theorem rzs_getD {oss:List (List (Option (List Int)))} {i:Nat} (h:i<oss.length):(rzs oss).getD i .any=.ro (some none) 1 (optL (oss.getD i [])):=by
  simp [rzs,List.getD_eq_getElem?_getD,h]
theorem rzn_getD {oss:List (List (Option (List Int)))} {i:Nat} (h:i<oss.length):(rzn oss).getD i .any=.ro none 1 (optL (oss.getD i [])):=by
  simp [rzn,List.getD_eq_getElem?_getD,h]
theorem coeL_opt {hp:Nat→AObj} {m:List Nat} {len:Bool}:∀ {os:List (Option (List Int))},CoeL hp m len (optL os) (optL os)=True
  | []=>yz14
  | o :: os=>by
    have h:=coeL_opt (hp:=hp) (m:=m) (len:=len) (os:=os)
    simp only [optL,List.map_cons] at h ⊢
    rw [yzm,h]
    cases o with
    | none=>simp [optC,yz1g]
    | some w=>rw [optC,coe_ro];simp [yzn (k:=.i64)]
theorem coeL_rzs {hp:Nat→AObj} {m:List Nat} {len:Bool}:∀ {oss:List (List (Option (List Int)))},CoeL hp m len (rzn oss) (rzs oss)=True
  | []=>yz14
  | os :: oss=>by
    have h:=coeL_rzs (hp:=hp) (m:=m) (len:=len) (oss:=oss)
    simp only [rzs,rzn,List.map_cons] at h ⊢
    rw [yzm,h,coe_ro]
    simp [coeL_opt]
theorem coeL_rzn {hp:Nat→AObj} {m:List Nat} {len:Bool}:∀ {oss:List (List (Option (List Int)))},CoeL hp m len (rzn oss) (rzn oss)=True
  | []=>yz14
  | os :: oss=>by
    have h:=coeL_rzn (hp:=hp) (m:=m) (len:=len) (oss:=oss)
    simp only [rzn,List.map_cons] at h ⊢
    rw [yzm,h,coe_ro]
    simp [coeL_opt]
attribute [local go_sem] dnL_opt dnL_rzs dnL_rzn one_opt one_rzs frz_opt frz_rzs owned_opt owned_rzs opt_some opt_none rzs_snoc rzs_len rzn_len opt_len
theorem call_steG {P:Program} {σ:St} {g:FuncId} {x:AVal} {xs:List AVal} {y:Value} {d:Nat} {s:Nat→Nat} {K:St→Prop} {r v:Nat} {cs cs':List AVal} {R:List AObj→AVal→Prop}
    (h:Con P g [.row 0 1 true cs] (.st [x,.own 5000 0] :: xs) true fun outs rows res=>outs=[.row 0 1 true cs]∧R rows res) (hx:x=.val y) (hxs:CoeL σ.hp [r] false xs xs)
    (hr:σ.hp r=.row v 1 true cs') (hc:CoeL σ.hp [r] false cs cs')
    (hk:∀ rows res,R rows res→rows.length≤1000∧(∀ i,i<rows.length→σ.hp (newId d i)=.gone)∧K (St.put ⟨σ.tm,callHp σ.hp [r] d s [.row 0 1 true cs] rows⟩ (some d) (res.ren (rid [r] d rows.length) (sv σ.hp [r] s)))):wpCall P false σ g (.st [x,.own r v] :: xs) (some d) s K:=by
  subst hx
  refine .inl ⟨[r],_,_,true,_,h,⟨by simp,rfl,by simp,by simp [hr],?_⟩,?_,(fun e=>by cases e),?_⟩
  · intro j B r' hB hr'
    match j,hB,hr' with
    | 0,hB,hr' =>
      simp at hB hr';subst hB;subst hr'
      simp only [ObjCoe,hr]
      exact ⟨trivial,v,cs',rfl,hc⟩
    | j+1,hB,hr'=>simp at hB
  · rw [yzm,coe_st,yzm,yzm,yz14]
    refine ⟨?_,hxs⟩
    simp only [Coe]
    exact ⟨trivial,⟨0,r,v,rfl,rfl,rfl,rfl,by rw [hr];rfl⟩,trivial⟩
  · rintro outs rows res ⟨rfl,hR⟩
    obtain ⟨h1,h2,h3⟩:=hk rows res hR
    exact ⟨rfl,h1,h2,h3⟩
def mergR (next:List (List Int)) (s t:Int):AVal:=.tup [optC (mergQ next s t),iv (if (mergQ next s t).isSome then 0 else 6)]
theorem k_mergingH (n:Int) (next:List (List Int)) (A:Aut n next) (s t:Int) (hs:0≤s∧s<n) (ht:0≤t∧t<n) :
    Con Tryz.prog nz5r [.row 0 1 true (rwn next)] [.st [iv n,.own 5000 0],iv s,iv t] true
      fun outs rows res=>outs=[.row 0 1 true (rwn next)]∧rows=[]∧res=mergR next s t:=by
  refine con_sh mixed czqk rfl (by simp) ?_
  have n1:=A.n1
  have n2:=A.n2
  have hN:2 ^ n.toNat≤1024:=Nat.pow_le_pow_right (n:=2) (by omega) (show n.toNat≤10 by omega)
  have hf:=two_lt hs ht
  have hs0:¬ s<0:=by omega
  have ht0:¬ t<0:=by omega
  have hsl:=u_shl (b:=s.toNat) (by omega)
  have htl:=u_shl (b:=t.toNat) (by omega)
  have hps:=pow_lt10 (k:=s.toNat) (by omega)
  have hpt:=pow_lt10 (k:=t.toNat) (by omega)
  have hor:_=((twoN s t:Nat):Int):=u_orW (x:=2 ^ s.toNat) (y:=2 ^ t.toNat) (by omega) (by omega)
  simp only [Azi8,Bzi7,hs0,ht0,hsl,htl,hor,go_sem,yz0,xx9,xx8,xx6,xx7,xx5,xx0,xx1,xx2,reduceIte,xx3,xx4,reduceCtorEq]
  intro vs vs2
  refine call_fn (k_tour n next A (twoN s t) hf) qCS (fun e=>by cases e) ?_
  rintro rows res ⟨v1,v2,rfl,rfl⟩
  refine ⟨by simp,by rw [Option.getD_some,yzu];simp only [go_sem,yz0,xx9,xx8,xx6,xx7,xx5,xx0,xx1,xx2,reduceIte,xx3,xx4,reduceCtorEq],?_⟩
  have hT:=(runT_ok A 1100 0 _ (TI0 (m:=next.length) hf)).1
  simp only [Option.getD_some,Nat.not_lt_zero,range1,yz15,yz1a,yz1l,yz1k,yz19,yz1n,yz1m,yz1j,yz17,yzv,yzf,yz4,yzy,yz11,yzs,yzp,yzz,yz8,yzd,yz9,yzb,yzi,yzh,yz3,yz7,yze,yzc,yzj,yzk,List.range_zero,yz6,yz5,yza,yz10,yzl,yzu,AVal.fresh,freshL,yz1,yzg,AObj.fresh,id,Option.isSome_some,or_true,true_or,go_sem,yz0,xx9,xx8,xx6,xx7,xx5,xx0,xx1,xx2,reduceIte,xx3,xx4,reduceCtorEq]
  unfold mergR mergQ
  cases hq:firstT (tourT next (twoN s t)) with
  | some p =>
    obtain ⟨f,w⟩:=p
    refine call_rm (k_first n.toNat next.length (tourT next (twoN s t)) hT hN f w hq) rfl rfl (by omega) qCS qCS qCS ?_
    simp only [Nat.not_lt_zero,range1,yz15,yz1a,yz1l,yz1k,yz19,yz1n,yz1m,yz1j,yz17,yzv,yzf,yz4,yzy,yz11,yzs,yzp,yzz,yz8,yzd,yz9,yzb,yzi,yzh,yz3,yz7,yze,yzc,yzj,yzk,List.range_zero,yz6,yz5,yza,yz10,yzl,yzu,AVal.fresh,freshL,yz1,yzg,AObj.fresh,id,Option.isSome_some,or_true,true_or,go_sem,yz0,xx9,xx8,xx6,xx7,xx5,xx0,xx1,xx2,reduceIte,xx3,xx4,reduceCtorEq]
    exact ⟨[],by simp,by simp,by simp,rfl,rfl⟩
  | none =>
    refine call_rm (k_firstN n.toNat next.length (tourT next (twoN s t)) hT hN hq) rfl rfl (by omega) qCS qCS qCS ?_
    simp only [Nat.not_lt_zero,range1,yz15,yz1a,yz1l,yz1k,yz19,yz1n,yz1m,yz1j,yz17,yzv,yzf,yz4,yzy,yz11,yzs,yzp,yzz,yz8,yzd,yz9,yzb,yzi,yzh,yz3,yz7,yze,yzc,yzj,yzk,List.range_zero,yz6,yz5,yza,yz10,yzl,yzu,AVal.fresh,freshL,yz1,yzg,AObj.fresh,id,Option.isSome_some,or_true,true_or,go_sem,yz0,xx9,xx8,xx6,xx7,xx5,xx0,xx1,xx2,reduceIte,xx3,xx4,reduceCtorEq]
    exact ⟨[],by simp,by simp,by simp,rfl,rfl⟩
def mergW (next:List (List Int)) (s:Int) (j:Nat):List (Option (List Int)):=(List.range j).map fun t:Nat=>mergQ next s (t:Int)
def mergT (next:List (List Int)) (n i:Nat):List (List (Option (List Int))):=(List.range i).map fun s:Nat=>mergW next (s:Int) n
theorem mergW_succ {next:List (List Int)} {s:Int} {j:Nat}:mergW next s (j+1)=mergW next s j ++ [mergQ next s (j:Int)]:=by simp [mergW,List.range_succ]
theorem mergT_succ {next:List (List Int)} {n i:Nat}:mergT next n (i+1)=mergT next n i ++ [mergW next (i:Int) n]:=by simp [mergT,List.range_succ]
theorem mergW_len {next:List (List Int)} {s:Int} {j:Nat}:(mergW next s j).length=j:=by simp [mergW]
theorem mergT_len {next:List (List Int)} {n i:Nat}:(mergT next n i).length=i:=by simp [mergT]
theorem mergW_getD {next:List (List Int)} {s:Int} {j t:Nat} (h:t<j):(mergW next s j).getD t none=mergQ next s (t:Int):=by
  unfold mergW
  rw [List.getD_eq_getElem?_getD,List.getElem?_map,List.getElem?_range h];rfl
theorem mergT_getD {next:List (List Int)} {n i s:Nat} (h:s<i):(mergT next n i).getD s []=mergW next (s:Int) n:=by
  unfold mergT
  rw [List.getD_eq_getElem?_getD,List.getElem?_map,List.getElem?_range h];rfl
theorem k_mergesH (n:Int) (next:List (List Int)) (A:Aut n next) :
    Con Tryz.prog nz5i [.row 0 1 true (rwn next)] [.st [iv n,.own 5000 0]] true
      fun outs rows res=>outs=[.row 0 1 true (rwn next)]∧∃ v,rows=[.row v 1 true (rzs (mergT next n.toNat n.toNat))]∧res=.own 6000 v:=by
  refine con_sh mixed czpn rfl (by simp) ?_
  have n1:=A.n1
  have n2:=A.n2
  simp only [Azed,Bzec,Bzeb,Bze9,go_sem,yz0,xx9,xx8,xx6,xx7,xx5,xx0,xx1,xx2,reduceIte,xx3,xx4,reduceCtorEq]
  intro vs vs2
  refine wpD_lo (fun (_,i)=>n.toNat - i) (fun (_,i)=>i≤n.toNat)
    (fun ((v3,i):Nat×Nat)=>⟨L .any [(1,.ptr 1 (vs 0 0) 0),(3,.own 9 v3),(11,iv n),(12,iv i)],
      L .gone [(1,.box (vs 0 0) [iv n,.own 5000 0]),(9,.row v3 1 true (rzs (mergT next n.toNat i))),(5000,.row 0 1 true (rwn next))]⟩)
    (_,0) (by simp) (by simp only [Bz3c,go_sem,yz0,xx9,xx8,xx6,xx7,xx5,xx0,xx1,xx2,reduceIte,xx3,xx4,reduceCtorEq];try rfl) ?_
  rintro ⟨v3,i⟩ hi
  have hi:i≤n.toNat:=hi
  by_cases hlt:(i:Int)<n
  · have w1:IntKind.i64.wrap ((i:Int)+1)=((i+1:Nat):Int):=by rw [w64 (by omega)];simp
    simp only [Bz3c,Bz7m,Bze8,Bze6,Bze5,Bze3,decide_eq_true hlt,go_sem,yz0,xx9,xx8,xx6,xx7,xx5,xx0,xx1,xx2,reduceIte,xx3,xx4,reduceCtorEq]
    intro vs3
    refine wpD_lo (fun (_,j)=>n.toNat - j) (fun (_,j)=>j≤n.toNat)
      (fun ((v5,j):Nat×Nat)=>⟨L .any [(1,.ptr 1 (vs 0 0) 0),(3,.own 9 v3),(4,iv i),(5,.own 15 v5),(11,iv n),(12,iv i),(17,iv n),(18,iv j)],
        L .gone [(1,.box (vs 0 0) [iv n,.own 5000 0]),(9,.row v3 1 true (rzs (mergT next n.toNat i))),(15,.row v5 1 true (optL (mergW next (i:Int) j))),(5000,.row 0 1 true (rwn next))]⟩)
      (_,0) (by simp) (by simp only [Bz3b,go_sem,yz0,xx9,xx8,xx6,xx7,xx5,xx0,xx1,xx2,reduceIte,xx3,xx4,reduceCtorEq];try rfl) ?_
    rintro ⟨v5,j⟩ hj
    have hj:j≤n.toNat:=hj
    by_cases hlj:(j:Int)<n
    · have w2:IntKind.i64.wrap ((j:Int)+1)=((j+1:Nat):Int):=by rw [w64 (by omega)];simp
      simp only [Bz3b,Bz7l,Bze2,Bze1,decide_eq_true hlj,go_sem,yz0,xx9,xx8,xx6,xx7,xx5,xx0,xx1,xx2,reduceIte,xx3,xx4,reduceCtorEq]
      intro vs4
      refine call_steG (R:=fun rows res=>rows=[]∧res=mergR next i j) (k_mergingH n next A i j (by omega) (by omega)) rfl qCS rfl (of_eq_true yz18) ?_
      rintro rows res ⟨rfl,rfl⟩
      refine ⟨by simp,by simp,?_⟩
      rw [callHp_m]
      have e0:sv (L .gone [(1,.box (vs 0 0) [iv n,.own 5000 0]),(9,.row v3 1 true (rzs (mergT next n.toNat i))),(15,.row v5 1 true (optL (mergW next (i:Int) j))),(5000,.row 0 1 true (rwn next))]) [5000] (vs4 3) 0=0:=rfl
      unfold mergR
      cases hq:mergQ next (i:Int) (j:Int) with
      | some w =>
        simp only [optC,e0,Bz7j,Bz7k,w2,Nat.not_lt_zero,range1,yz15,yz1a,yz1l,yz1k,yz19,yz1n,yz1m,yz1j,yz17,yzv,yzf,yz4,yzy,yz11,yzs,yzp,yzz,yz8,yzd,yz9,yzb,yzi,yzh,yz3,yz7,yze,yzc,yzj,yzk,List.range_zero,yz6,yz5,yza,yz10,yzl,yzu,AVal.fresh,freshL,yz1,yzg,AObj.fresh,id,Option.isSome_some,or_true,true_or,go_sem,yz0,xx9,xx8,xx6,xx7,xx5,xx0,xx1,xx2,reduceIte,xx3,xx4,reduceCtorEq]
        intro vs5
        refine ⟨by rw [mergW_len];omega,?_⟩
        exact ⟨(_,j+1),by dsimp only;omega,by dsimp only;omega,by rw [mergW_succ,hq]⟩
      | none =>
        simp only [optC,e0,Bz7j,Bz7k,w2,Nat.not_lt_zero,range1,yz15,yz1a,yz1l,yz1k,yz19,yz1n,yz1m,yz1j,yz17,yzv,yzf,yz4,yzy,yz11,yzs,yzp,yzz,yz8,yzd,yz9,yzb,yzi,yzh,yz3,yz7,yze,yzc,yzj,yzk,List.range_zero,yz6,yz5,yza,yz10,yzl,yzu,AVal.fresh,freshL,yz1,yzg,AObj.fresh,id,Option.isSome_some,or_true,true_or,go_sem,yz0,xx9,xx8,xx6,xx7,xx5,xx0,xx1,xx2,reduceIte,xx3,xx4,reduceCtorEq]
        intro vs5
        refine ⟨by rw [mergW_len];omega,?_⟩
        exact ⟨(_,j+1),by dsimp only;omega,by dsimp only;omega,by rw [mergW_succ,hq]⟩
    · obtain rfl:j=n.toNat:=by omega
      simp only [Bz3b,Bz7l,Bze4,Bze7,decide_eq_false hlj,w1,go_sem,yz0,xx9,xx8,xx6,xx7,xx5,xx0,xx1,xx2,reduceIte,xx3,xx4,reduceCtorEq]
      intro vs4
      refine ⟨by rw [mergT_len];omega,?_⟩
      exact ⟨(_,i+1),by dsimp only;omega,by dsimp only;omega,by rw [mergT_succ]⟩
  · obtain rfl:i=n.toNat:=by omega
    simp only [Bz3c,Bz7m,Bzea,decide_eq_false hlt,go_sem,yz0,xx9,xx8,xx6,xx7,xx5,xx0,xx1,xx2,reduceIte,xx3,xx4,reduceCtorEq]
    refine ⟨[9],by simp,by simp,by simp,?_⟩
    simp only [renL_rzs,range1,List.length_singleton,Nat.not_lt_zero,range1,yz15,yz1a,yz1l,yz1k,yz19,yz1n,yz1m,yz1j,yz17,yzv,yzf,yz4,yzy,yz11,yzs,yzp,yzz,yz8,yzd,yz9,yzb,yzi,yzh,yz3,yz7,yze,yzc,yzj,yzk,List.range_zero,yz6,yz5,yza,yz10,yzl,yzu,AVal.fresh,freshL,yz1,yzg,AObj.fresh,id,Option.isSome_some,or_true,true_or,go_sem,yz0,xx9,xx8,xx6,xx7,xx5,xx0,xx1,xx2,reduceIte,xx3,xx4,reduceCtorEq]
    exact ⟨_,rfl,rfl⟩
end Go.Ab
namespace Go.Ab
open Go.Proofs
attribute [local go_sem] dnL_opt dnL_rzs dnL_rzn one_opt one_rzs frz_opt frz_rzs owned_opt owned_rzs opt_some opt_none rzs_snoc rzs_len rzn_len opt_len
theorem k_FindCertificate_2 (s t:Int):Fun Tryz.prog nz26 [iv s,iv t] (bv true):=by
  refine fun_of mixed czpq rfl ⟨rfl,trivial⟩ ?_
  simp only [Bzem,Azen,go_sem,yz0,xx9,xx8,xx6,xx7,xx5,xx0,xx1,xx2,reduceIte,xx3,xx4,reduceCtorEq]
theorem k_FindCertificate_1 (oss:List (List (Option (List Int)))) (s t:Int) (hs:0≤s∧s.toNat<oss.length) (ht:0≤t∧t.toNat<(oss.getD s.toNat []).length) (o:Option (List Int))
    (ho:(oss.getD s.toNat []).getD t.toNat none=o) (hw:o≠some []):Fun Tryz.prog nz25 [iv s,iv t,.rp [.ro none 1 (rzn oss)] 0] (bv o.isNone):=by
  refine fun_of mixed czpp rfl ⟨rfl,trivial⟩ ?_
  cases o with
  | none =>
    simp only [Bz7t,Az7u,rzn_getD hs.2,opt_getD ht.2,ho,optC,go_sem,yz0,xx9,xx8,xx6,xx7,xx5,xx0,xx1,xx2,reduceIte,xx3,xx4,reduceCtorEq]
    exact ⟨⟨hs.1,hs.2⟩,hs.2,⟨ht.1,ht.2⟩,ht.2,rfl⟩
  | some w =>
    have hl:0<w.length:=List.length_pos_iff.2 fun e=>hw (by rw [e])
    simp only [Bz7t,Az7u,rzn_getD hs.2,opt_getD ht.2,ho,optC,go_sem,yz0,xx9,xx8,xx6,xx7,xx5,xx0,xx1,xx2,reduceIte,xx3,xx4,reduceCtorEq]
    exact ⟨⟨hs.1,hs.2⟩,hs.2,⟨ht.1,ht.2⟩,ht.2,.inr hl,rfl⟩
theorem rwnS {xss:List (List Int)} {xs:List Int}:rwn xss ++ [.ro none 1 (ints xs)]=rwn (xss ++ [xs]):=by simp [rwn]
theorem frz_rwnS {hp:Nat→AObj} {xss:List (List Int)}:(rwn xss).map (frz hp)=rwn xss:=by simp [rwn,frz]
theorem owned_rwnS:∀ {xss:List (List Int)},owned (rwn xss)=[]
  | []=>rfl
  | _ :: xss=>owned_rwnS (xss:=xss)
attribute [local go_sem] rwnS frz_rwnS owned_rwnS
theorem words_getD1 {n:Int} {next:List (List Int)} {i:Nat} (hi:i<(every n).length) {a b:Int} (hg:(every n).getD i []=[a,b]) {w:List Int} (hw:mergQ next a b=some w) :
    (wordsL n next).take (i+1)=(wordsL n next).take i ++ [w]:=by
  have hl:i<(wordsL n next).length:=by simpa [wordsL] using hi
  rw [List.take_succ_eq_append_getElem hl]
  congr 2
  rw [List.getD_eq_getElem?_getD,List.getElem?_eq_getElem hi] at hg
  simp only [Option.getD_some] at hg
  simp [wordsL,hg,hw]
theorem mergQ_ne {n:Int} {next:List (List Int)} (A:Aut n next) {s t:Int} (hs:0≤s∧s<n) (ht:0≤t∧t<n) (h:s≠t):mergQ next s t≠some []:=by
  intro e
  have:=(merg_some A hs ht e).2.1
  exact h this
theorem k_FindH (n:Int) (next:List (List Int)) (A:Aut n next) (h7:n≤7) :
    Con Tryz.prog nz5c [.row 0 1 true (rwn next)] [.st [iv n,.own 5000 0]] true
      fun outs rows res=>outs=[.row 0 1 true (rwn next)]∧((apartL n next=[]∧∃ v nn,rows=[.row v 1 nn (rwn (wordsL n next))]∧res=.tup [.st [iv 1,.val (.slice none 0 0),.own 6000 v],iv 0]) ∨
        (apartL n next≠[]∧∃ v,rows=[.row v 1 true (rws (apartL n next))]∧res=.tup [.st [iv 2,.own 6000 v,.val (.slice none 0 0)],iv 0])):=by
  refine con_sh mixed czpa rfl (by simp) ?_
  have n1:=A.n1
  have n2:=A.n2
  have hv:autB n next=true:=autB_iff.2 A
  generalize hQ:finQ _=Q
  simp only [Az2v,Bzch,go_sem,yz0,xx9,xx8,xx6,xx7,xx5,xx0,xx1,xx2,reduceIte,xx3,xx4,reduceCtorEq]
  intro vs vs2
  refine yz12 (k_Valid n next) qCS trivial ?_
  simp only [hv,Bzc6,Bzcg,go_sem,yz0,xx9,xx8,xx6,xx7,xx5,xx0,xx1,xx2,reduceIte,xx3,xx4,reduceCtorEq]
  intro vs3
  refine call_steG (R:=fun rows res=>∃ v,rows=[.row v 1 true (rzs (mergT next n.toNat n.toNat))]∧res=.own 6000 v) (k_mergesH n next A) rfl qCS rfl (of_eq_true yz18) ?_
  rintro rows res ⟨v,rfl,rfl⟩
  refine ⟨by simp,by rw [yzl];rfl,?_⟩
  rw [callHp_mr (by omega)]
  simp only [List.length_singleton,renL_rzs,Bzcf,Nat.not_lt_zero,range1,yz15,yz1a,yz1l,yz1k,yz19,yz1n,yz1m,yz1j,yz17,yzv,yzf,yz4,yzy,yz11,yzs,yzp,yzz,yz8,yzd,yz9,yzb,yzi,yzh,yz3,yz7,yze,yzc,yzj,yzk,List.range_zero,yz6,yz5,yza,yz10,yzl,yzu,AVal.fresh,freshL,yz1,yzg,AObj.fresh,id,Option.isSome_some,or_true,true_or,go_sem,yz0,xx9,xx8,xx6,xx7,xx5,xx0,xx1,xx2,reduceIte,xx3,xx4,reduceCtorEq]
  generalize hf:sv (L .gone _) [5000] (vs3 1)=f
  have hf0:f 0=0:=by rw [← hf];simp [sv,AObj.ver,L]
  rw [hf0]
  intro vs4
  have hlen:=mergT_len (next:=next) (n:=n.toNat) (i:=n.toNat)
  refine call_rowR (k_pairs n next nz25 [.rp [.ro none 1 (rzn (mergT next n.toNat n.toNat))] 0] (fun s t=>(mergQ next s t).isNone) ⟨n1,n2⟩ ⟨by simp only [go_sem,yz0,xx9,xx8,xx6,xx7,xx5,xx0,xx1,xx2,reduceIte,xx3,xx4,reduceCtorEq],by intros;simp only [coeL_rzn,rowIs,boxIs,yz1c,yz13,yz1d,yz14,yzm,yz1i,yz1g,coe_ro,yzt,yzo,coe_st,yzq,coe_rp,yzr,yz1h,yz1e,yz16,yzn,yz1b,yz18,L_hit,L_miss,L_nil,xx3,ne_eq,reduceCtorEq,not_false_eq_true,true_and,and_true,and_self,exists_eq_left,exists_eq_right,List.mem_cons,List.not_mem_nil,or_false,AObj.row.injEq,AObj.box.injEq,exists_eq_left',exists_and_left,exists_eq,Nat.zero_lt_one,Nat.lt_add_one,List.map_cons,List.map_nil,AObj.ver,xx5,not_true_eq_false]⟩ (fun s t h1 h2 h3=>?_)) (by simp only [coeL_rzs,rowIs,boxIs,yz1c,yz13,yz1d,yz14,yzm,yz1i,yz1g,coe_ro,yzt,yzo,coe_st,yzq,coe_rp,yzr,yz1h,yz1e,yz16,yzn,yz1b,yz18,L_hit,L_miss,L_nil,xx3,ne_eq,reduceCtorEq,not_false_eq_true,true_and,and_true,and_self,exists_eq_left,exists_eq_right,List.mem_cons,List.not_mem_nil,or_false,AObj.row.injEq,AObj.box.injEq,exists_eq_left',exists_and_left,exists_eq,Nat.zero_lt_one,Nat.lt_add_one,List.map_cons,List.map_nil,AObj.ver,xx5,not_true_eq_false]) rfl ⟨_,rfl⟩ ?_
  · have e1:(mergT next n.toNat n.toNat).getD s.toNat []=mergW next s n.toNat:=by rw [mergT_getD (by omega),show ((s.toNat:Nat):Int)=s by omega]
    have e2:(mergW next s n.toNat).getD t.toNat none=mergQ next s t:=by rw [mergW_getD (by omega),show ((t.toNat:Nat):Int)=t by omega]
    exact k_FindCertificate_1 _ s t ⟨h1,by omega⟩ ⟨by omega,by rw [e1,mergW_len];omega⟩ (mergQ next s t) (by rw [e1,e2]) (mergQ_ne A (by omega) (by omega) (by omega))
  rintro xss vp rfl
  have hap:(pairsL n fun s t=>(mergQ next s t).isNone)=apartL n next:=rfl
  rw [hap]
  simp only [Bzc7,go_sem,yz0,xx9,xx8,xx6,xx7,xx5,xx0,xx1,xx2,reduceIte,xx3,xx4,reduceCtorEq]
  intro hM
  by_cases h:apartL n next=[]
  · have hd:¬ (0:Int)<(apartL n next).length:=by rw [h];simp
    simp only [Bz6t,Bzce,Bzcd,decide_eq_false hd,go_sem,yz0,xx9,xx8,xx6,xx7,xx5,xx0,xx1,xx2,reduceIte,xx3,xx4,reduceCtorEq]
    intro vs5 vs6
    refine call_rowR (k_pairs n next nz26 [] (fun _ _=>true) ⟨n1,n2⟩ ⟨by simp only [go_sem,yz0,xx9,xx8,xx6,xx7,xx5,xx0,xx1,xx2,reduceIte,xx3,xx4,reduceCtorEq],by intros;simp only [rowIs,boxIs,yz1c,yz13,yz1d,yz14,yzm,yz1i,yz1g,coe_ro,yzt,yzo,coe_st,yzq,coe_rp,yzr,yz1h,yz1e,yz16,yzn,yz1b,yz18,L_hit,L_miss,L_nil,xx3,ne_eq,reduceCtorEq,not_false_eq_true,true_and,and_true,and_self,exists_eq_left,exists_eq_right,List.mem_cons,List.not_mem_nil,or_false,AObj.row.injEq,AObj.box.injEq,exists_eq_left',exists_and_left,exists_eq,Nat.zero_lt_one,Nat.lt_add_one,List.map_cons,List.map_nil,AObj.ver,xx5,not_true_eq_false]⟩ (fun s t _ _ _=>k_FindCertificate_2 s t)) qCS rfl ⟨_,rfl⟩ ?_
    rintro xss vq rfl
    have hev:(pairsL n fun _ _=>true)=every n:=rfl
    rw [hev]
    have hel:(every n).length≤100:=pairsL_len ⟨n1,n2⟩ (p:=fun _ _=>true)
    simp only [Bzcb,go_sem,yz0,xx9,xx8,xx6,xx7,xx5,xx0,xx1,xx2,reduceIte,xx3,xx4,reduceCtorEq]
    intro hM2 ver
    have hwl:(wordsL n next).length=(every n).length:=by simp [wordsL]
    refine wpD_lo (fun (_,_,i)=>(every n).length - i) (fun (_,nn,i)=>i≤(every n).length∧(nn=false→i=0))
      (fun ((v45,nn,i):Nat×Bool×Nat)=>⟨L .any [(2,.ptr 2 (vs 1 0) 0),(4,.ptr 4 (vs3 2 0) 0),(6,.ptr 6 (vs5 1 0) 0),(25,.own 25 vq),(26,iv (every n).length),(27,iv i)],
        L .gone [(1,.box (vs 0 0) [iv n,.own 5000 0]),(2,.box (vs 1 0) [iv 0,.val (.slice none 0 0),.val (.slice none 0 0)]),(4,.box (vs3 2 0) [.own 14 (f v)]),(6,.box (vs5 1 0) [iv 1,.val (.slice none 0 0),.own 45 v45]),
          (14,.row (f v) 1 true (rzs (mergT next n.toNat n.toNat))),(17,.row vp 1 true (rws (apartL n next))),(25,.row vq 1 true (rws (every n))),(45,.row v45 1 nn (rwn ((wordsL n next).take i))),(5000,.row 0 1 true (rwn next))]⟩)
      (ver,false,0) ⟨by simp,by simp⟩ (by simp only [Bz2u,List.take_zero,go_sem,yz0,xx9,xx8,xx6,xx7,xx5,xx0,xx1,xx2,reduceIte,xx3,xx4,reduceCtorEq];try rfl) ?_
    rintro ⟨v45,nn,i⟩ ⟨hi,hnn⟩
    have hi:i≤(every n).length:=hi
    by_cases hlt:(i:Int)<(every n).length
    · have hlt1:i<(every n).length:=by omega
      obtain ⟨a,b,ha,hab,hb,hg⟩:=every_get (by omega) hlt1
      have w1:IntKind.i64.wrap ((i:Int)+1)=((i+1:Nat):Int):=by rw [w64 (by omega)];simp
      simp only [Bz2u,Bz6u,Bzca,rws_getD hlt1,hg,decide_eq_true hlt,go_sem,yz0,xx9,xx8,xx6,xx7,xx5,xx0,xx1,xx2,reduceIte,xx3,xx4,reduceCtorEq]
      refine ⟨⟨by omega,hlt1⟩,hlt1,?_⟩
      have g0:(0:Nat)<([a,b]:List Int).length:=by simp
      have g1:(1:Nat)<([a,b]:List Int).length:=by simp
      have r1:a.toNat<(mergT next n.toNat n.toNat).length:=by omega
      have e1:(mergT next n.toNat n.toNat).getD a.toNat []=mergW next a n.toNat:=by rw [mergT_getD (by omega),show ((a.toNat:Nat):Int)=a by omega]
      have r2:b.toNat<(mergW next a n.toNat).length:=by rw [mergW_len];omega
      have e2:(mergW next a n.toNat).getD b.toNat none=mergQ next a b:=by rw [mergW_getD (by omega),show ((b.toNat:Nat):Int)=b by omega]
      cases hq:mergQ next a b with
      | none =>
        exfalso
        have:[a,b]∈apartL n next:=(pairsL_mem (by omega)).2 ⟨a,b,ha,hab,hb,by rw [hq];rfl,rfl⟩
        rw [h] at this;simp at this
      | some w =>
        rw [hq] at e2
        simp only [Bzc8,yzx g0,yzx g1,rzs_getD r1,e1,opt_getD r2,e2,optC,go_sem,yz0,xx9,xx8,xx6,xx7,xx5,xx0,xx1,xx2,reduceIte,xx3,xx4,reduceCtorEq]
        intro vs7
        refine ⟨⟨ha,r1⟩,r1,⟨by omega,r2⟩,r2,by rw [List.length_take];omega,?_⟩
        simp only [Bzc9,w1,go_sem,yz0,xx9,xx8,xx6,xx7,xx5,xx0,xx1,xx2,reduceIte,xx3,xx4,reduceCtorEq]
        exact ⟨(_,true,i+1),by dsimp only;omega,⟨by dsimp only;omega,by simp⟩,by rw [words_getD1 hlt1 hg hq]⟩
    · obtain rfl:i=(every n).length:=by omega
      have ht:(wordsL n next).take (every n).length=wordsL n next:=List.take_of_length_le (by omega)
      simp only [Bz2u,Bz6u,Bzcc,decide_eq_false hlt,ht,Az2v,← hQ,go_sem,yz0,xx9,xx8,xx6,xx7,xx5,xx0,xx1,xx2,reduceIte,xx3,xx4,reduceCtorEq]
      refine ⟨[45],by simp,by simp,by simp,?_⟩
      simp only [range1,List.length_singleton,Nat.not_lt_zero,range1,yz15,yz1a,yz1l,yz1k,yz19,yz1n,yz1m,yz1j,yz17,yzv,yzf,yz4,yzy,yz11,yzs,yzp,yzz,yz8,yzd,yz9,yzb,yzi,yzh,yz3,yz7,yze,yzc,yzj,yzk,List.range_zero,yz6,yz5,yza,yz10,yzl,yzu,AVal.fresh,freshL,yz1,yzg,AObj.fresh,id,Option.isSome_some,or_true,true_or,go_sem,yz0,xx9,xx8,xx6,xx7,xx5,xx0,xx1,xx2,reduceIte,xx3,xx4,reduceCtorEq]
      exact .inl ⟨h,_,_,rfl,rfl⟩
  · have hd:(0:Int)<(apartL n next).length:=by have:=List.length_pos_iff.2 h;omega
    simp only [Bz6t,decide_eq_true hd,Az2v,← hQ,go_sem,yz0,xx9,xx8,xx6,xx7,xx5,xx0,xx1,xx2,reduceIte,xx3,xx4,reduceCtorEq]
    refine ⟨[17],by simp,by simp,by simp,?_⟩
    simp only [range1,List.length_singleton,Nat.not_lt_zero,range1,yz15,yz1a,yz1l,yz1k,yz19,yz1n,yz1m,yz1j,yz17,yzv,yzf,yz4,yzy,yz11,yzs,yzp,yzz,yz8,yzd,yz9,yzb,yzi,yzh,yz3,yz7,yze,yzc,yzj,yzk,List.range_zero,yz6,yz5,yza,yz10,yzl,yzu,AVal.fresh,freshL,yz1,yzg,AObj.fresh,id,Option.isSome_some,or_true,true_or,go_sem,yz0,xx9,xx8,xx6,xx7,xx5,xx0,xx1,xx2,reduceIte,xx3,xx4,reduceCtorEq]
    exact .inr ⟨h,_,rfl,rfl⟩
end Go.Ab
namespace Go.Ab
open Go.Proofs
theorem k_l02Bits (set:List Int) (h:∀ s∈set,0≤s∧s<10):Fun Tryz.prog nz5v [.ro none 1 (ints set)] (iv (maskN set)):=by
  refine fun_of mixed czqt rfl ⟨rfl,trivial⟩ ?_
  simp only [Azjk,Bzjj,Bzji,Bzjg,go_sem,yz0,xx9,xx8,xx6,xx7,xx5,xx0,xx1,xx2,reduceIte,xx3,xx4,reduceCtorEq]
  refine wpD_lo (fun i=>set.length - i) (fun i=>i≤set.length)
    (fun i:Nat=>⟨L .any [(0,.ro none 1 (ints set)),(3,iv (maskN (set.take i))),(4,iv i)],L .gone []⟩) 0 (by simp) (by simp only [Bz45,List.take_zero,go_sem,yz0,xx9,xx8,xx6,xx7,xx5,xx0,xx1,xx2,reduceIte,xx3,xx4,reduceCtorEq];try rfl) ?_
  intro i hi
  by_cases hlt:(i:Int)<set.length
  · have hlt1:i<set.length:=by omega
    have hs:=h _ (yz1f hlt1 0)
    have hs0:¬ set.getD i 0<0:=by omega
    have h1:=maskN_lt (set:=set.take i) (fun s hs=>h s (List.mem_of_mem_take hs))
    have h2:=pow_lt10 (k:=(set.getD i 0).toNat) (by omega)
    have hx64:IntKind.u64.wrap (set.getD i 0)=set.getD i 0:=by
      rw [show set.getD i 0=(((set.getD i 0).toNat:Nat):Int) by omega];exact u64w (by omega)
    have hsl:=i_shl (b:=(set.getD i 0).toNat) (by omega)
    have hor:=i_or (x:=maskN (set.take i)) (y:=2 ^ (set.getD i 0).toNat) (by omega) (by omega)
    have hr:maskN (set.take i) ||| 2 ^ (set.getD i 0).toNat=maskN (set.take (i+1)):=getD_snoc set (fun o s=>o ||| 2 ^ s.toNat) 0 0 hlt1
    simp only [Bz45,Bz9o,Bzjf,Bzje,hs0,hx64,hsl,hor,hr,yzx hlt1,decide_eq_true hlt,go_sem,yz0,xx9,xx8,xx6,xx7,xx5,xx0,xx1,xx2,reduceIte,xx3,xx4,reduceCtorEq]
    intro hM
    simp only [nat1 i _ hlt1 hM,go_sem,yz0,xx9,xx8,xx6,xx7,xx5,xx0,xx1,xx2,reduceIte,xx3,xx4,reduceCtorEq]
    exact ⟨⟨by omega,hlt1⟩,hlt1,i+1,by omega,by omega,rfl⟩
  · obtain rfl:i=set.length:=by omega
    simp only [Bz45,Bz9o,Bzjh,decide_eq_false hlt,List.take_length,go_sem,yz0,xx9,xx8,xx6,xx7,xx5,xx0,xx1,xx2,reduceIte,xx3,xx4,reduceCtorEq]
    try (intro _;trivial)
theorem mask_two {a b:Int}:maskN [a,b]=twoN a b:=by simp [maskN,twoN]
abbrev SpecC (rows:List AObj) (res:AVal):Prop:=∃ v xs,xs.length≤100∧(∀ x∈xs,x.length≤1024)∧rows=[.row v 1 true (rws xs)] ∧
  (res=.tup [.st [iv 1,.val (.slice none 0 0),.own 6000 v],iv 0]∨res=.tup [.st [iv 2,.own 6000 v,.val (.slice none 0 0)],iv 0])
theorem k_specFind (n:Int) (next:List (List Int)) (A:Aut n next):Fn Tryz.prog nz5k [autA n next] SpecC:=by
  refine con_of mixed czpt rfl (by simp) ?_
  have n1:=A.n1
  have n2:=A.n2
  have hv:autB n next=true:=autB_iff.2 A
  have hN:2 ^ n.toNat≤1024:=Nat.pow_le_pow_right (n:=2) (by omega) (show n.toNat≤10 by omega)
  generalize hQ:finQ _=Q
  simp only [Az3m,Bzfi,go_sem,yz0,xx9,xx8,xx6,xx7,xx5,xx0,xx1,xx2,reduceIte,xx3,xx4,reduceCtorEq]
  intro vs vs2
  refine yz12 (k_l01Ok n next) qCS trivial ?_
  simp only [hv,Bzf8,Bzfh,go_sem,yz0,xx9,xx8,xx6,xx7,xx5,xx0,xx1,xx2,reduceIte,xx3,xx4,reduceCtorEq]
  intro vs3
  refine call_rowR (k_l02Pairs n ⟨n1,n2⟩) qCS rfl ⟨_,rfl⟩ ?_
  rintro xss vp rfl
  have hev:(pairsL n fun _ _=>true)=every n:=rfl
  rw [hev]
  have hel:(every n).length≤100:=pairsL_len ⟨n1,n2⟩ (p:=fun _ _=>true)
  simp only [Bzfg,Bzff,go_sem,yz0,xx9,xx8,xx6,xx7,xx5,xx0,xx1,xx2,reduceIte,xx3,xx4,reduceCtorEq]
  intro vs4
  simp only [Bzfe,Bzfb,go_sem,yz0,xx9,xx8,xx6,xx7,xx5,xx0,xx1,xx2,reduceIte,xx3,xx4,reduceCtorEq]
  intro vs5
  refine wpD_lo (fun (_,_,_,_,i)=>(every n).length - i) (fun (_,_,ws,ap,i)=>i≤(every n).length∧List.length ws=i∧List.length ap≤i∧(∀ x∈ws,List.length x≤1024)∧(∀ x∈ap,List.length x≤1024))
    (fun ((v5,v6,ws,ap,i):Nat×Nat×List (List Int)×List (List Int)×Nat)=>⟨L .any [(1,.ptr 1 (vs 0 0) 0),(2,.ptr 2 (vs 1 0) 0),(4,.own 15 vp),(5,.own 16 v5),(6,.own 17 v6),(7,iv i)],
      L .gone [(1,.box (vs 0 0) [iv n,.ro none 1 (rwn next)]),(2,.box (vs 1 0) [iv 0,.val (.slice none 0 0),.val (.slice none 0 0)]),(15,.row vp 1 true (rws (every n))),(16,.row v5 1 true (rws ws)),(17,.row v6 1 true (rws ap))]⟩)
    (_,_,[],[],0) ⟨by simp,by simp,by simp,by simp,by simp⟩ (by simp only [Bz3l,rws_nil,go_sem,yz0,xx9,xx8,xx6,xx7,xx5,xx0,xx1,xx2,reduceIte,xx3,xx4,reduceCtorEq];try rfl) ?_
  rintro ⟨v5,v6,ws,ap,i⟩ ⟨hi,hw,ha,hwl,hal⟩
  have hi:i≤(every n).length:=hi
  have hw:ws.length=i:=hw
  have ha:ap.length≤i:=ha
  by_cases hlt:(i:Int)<(every n).length
  · have hlt1:i<(every n).length:=by omega
    obtain ⟨a,b,g1,g2,g3,hg⟩:=every_get (by omega) hlt1
    have w1:IntKind.i64.wrap ((i:Int)+1)=((i+1:Nat):Int):=by rw [w64 (by omega)];simp
    simp only [Bz3l,Bz84,Bzfa,rws_getD hlt1,hg,decide_eq_true hlt,go_sem,yz0,xx9,xx8,xx6,xx7,xx5,xx0,xx1,xx2,reduceIte,xx3,xx4,reduceCtorEq]
    intro hM vs6
    refine ⟨⟨by omega,hlt1⟩,hlt1,?_⟩
    refine yz12 (k_l02Bits [a,b] (fun s hs=>by simp at hs;omega)) qCS trivial ?_
    rw [mask_two]
    simp only [go_sem,yz0,xx9,xx8,xx6,xx7,xx5,xx0,xx1,xx2,reduceIte,xx3,xx4,reduceCtorEq]
    have hf:twoN a b<2 ^ n.toNat:=two_lt (by omega) (by omega)
    refine call_fn (k_l02Shrink n next A (twoN a b) hf) qCS (fun e=>by cases e) ?_
    rintro rows res ⟨vw,rfl,rfl⟩
    refine ⟨by simp,by rw [Option.getD_some,yzl];simp only [go_sem,yz0,xx9,xx8,xx6,xx7,xx5,xx0,xx1,xx2,reduceIte,xx3,xx4,reduceCtorEq],?_⟩
    have hT:=(runT_ok A 1100 0 _ (TI0 (m:=next.length) hf)).1
    have hwd:(((firstT (tourT next (twoN a b))).map (·.2)).getD []).length≤1024:=by
      cases hq:(firstT (tourT next (twoN a b))).map (·.2) with
      | none=>simp
      | some w=>have:=(merg_some A (s:=a) (t:=b) (by omega) (by omega) hq).2.2;simp;omega
    generalize ((firstT (tourT next (twoN a b))).map (·.2)).getD []=w at hwd
    generalize (firstT (tourT next (twoN a b))).isSome=ok
    simp only [Option.getD_some,Bzf9,Nat.not_lt_zero,range1,yz15,yz1a,yz1l,yz1k,yz19,yz1n,yz1m,yz1j,yz17,yzv,yzf,yz4,yzy,yz11,yzs,yzp,yzz,yz8,yzd,yz9,yzb,yzi,yzh,yz3,yz7,yze,yzc,yzj,yzk,List.range_zero,yz6,yz5,yza,yz10,yzl,yzu,AVal.fresh,freshL,yz1,yzg,AObj.fresh,id,Option.isSome_some,or_true,true_or,go_sem,yz0,xx9,xx8,xx6,xx7,xx5,xx0,xx1,xx2,reduceIte,xx3,xx4,reduceCtorEq]
    intro vs7
    refine ⟨by omega,?_⟩
    have hws:∀ x∈ws ++ [w],List.length x≤1024:=fun x hx=>by
      rcases List.mem_append.1 hx with h | h
      · exact hwl x h
      · rw [List.mem_singleton.1 h];exact hwd
    cases ok with
    | true =>
      simp only [Bz86,Bz85,Bz87,Bool.not_true,w1,go_sem,yz0,xx9,xx8,xx6,xx7,xx5,xx0,xx1,xx2,reduceIte,xx3,xx4,reduceCtorEq]
      exact ⟨(_,_,ws ++ [w],ap,i+1),by dsimp only;omega,⟨by dsimp only;omega,by simp [hw],by dsimp only;omega,hws,hal⟩,rfl⟩
    | false =>
      simp only [Bz86,Bz85,Bz87,Bool.not_false,rws_getD hlt1,hg,w1,go_sem,yz0,xx9,xx8,xx6,xx7,xx5,xx0,xx1,xx2,reduceIte,xx3,xx4,reduceCtorEq]
      intro vs8
      refine ⟨⟨by omega,hlt1⟩,hlt1,by omega,?_⟩
      exact ⟨(_,_,ws ++ [w],ap ++ [[a,b]],i+1),by dsimp only;omega,⟨by dsimp only;omega,by simp [hw],by simp;omega,hws,fun x hx=>by
        rcases List.mem_append.1 hx with h | h
        · exact hal x h
        · rw [List.mem_singleton.1 h];simp⟩,by dsimp only;rw [← rws_snoc (xss:=ap) (xs:=[a,b])];rfl⟩
  · simp only [Bz3l,Bz84,Bzfd,decide_eq_false hlt,go_sem,yz0,xx9,xx8,xx6,xx7,xx5,xx0,xx1,xx2,reduceIte,xx3,xx4,reduceCtorEq]
    intro hM hM2
    by_cases hd:(0:Int)<ap.length
    · simp only [Bz88,decide_eq_true hd,Az3m,← hQ,go_sem,yz0,xx9,xx8,xx6,xx7,xx5,xx0,xx1,xx2,reduceIte,xx3,xx4,reduceCtorEq]
      refine ⟨[17],by simp,by simp,by simp,?_⟩
      simp only [range1,List.length_singleton,Nat.not_lt_zero,range1,yz15,yz1a,yz1l,yz1k,yz19,yz1n,yz1m,yz1j,yz17,yzv,yzf,yz4,yzy,yz11,yzs,yzp,yzz,yz8,yzd,yz9,yzb,yzi,yzh,yz3,yz7,yze,yzc,yzj,yzk,List.range_zero,yz6,yz5,yza,yz10,yzl,yzu,AVal.fresh,freshL,yz1,yzg,AObj.fresh,id,Option.isSome_some,or_true,true_or,go_sem,yz0,xx9,xx8,xx6,xx7,xx5,xx0,xx1,xx2,reduceIte,xx3,xx4,reduceCtorEq]
      exact ⟨_,ap,by omega,hal,rfl,.inr rfl⟩
    · simp only [Bz88,Bzfc,decide_eq_false hd,Az3m,← hQ,go_sem,yz0,xx9,xx8,xx6,xx7,xx5,xx0,xx1,xx2,reduceIte,xx3,xx4,reduceCtorEq]
      refine ⟨[16],by simp,by simp,by simp,?_⟩
      simp only [range1,List.length_singleton,Nat.not_lt_zero,range1,yz15,yz1a,yz1l,yz1k,yz19,yz1n,yz1m,yz1j,yz17,yzv,yzf,yz4,yzy,yz11,yzs,yzp,yzz,yz8,yzd,yz9,yzb,yzi,yzh,yz3,yz7,yze,yzc,yzj,yzk,List.range_zero,yz6,yz5,yza,yz10,yzl,yzu,AVal.fresh,freshL,yz1,yzg,AObj.fresh,id,Option.isSome_some,or_true,true_or,go_sem,yz0,xx9,xx8,xx6,xx7,xx5,xx0,xx1,xx2,reduceIte,xx3,xx4,reduceCtorEq]
      exact ⟨_,ws,by omega,hwl,rfl,.inl rfl⟩
abbrev CertR (rows:List AObj) (res:AVal):Prop:=∃ v xs,rows=[.row v 1 true (rws xs)] ∧
  (res=.st [iv 1,.val (.slice none 0 0),.own 6000 v]∨res=.st [iv 2,.own 6000 v,.val (.slice none 0 0)])
theorem rws_take {xss:List (List Int)} {k:Nat}:List.take k (rws xss)=rws (xss.take k):=by simp [rws]
theorem rws_drop {xss:List (List Int)} {k:Nat}:List.drop k (rws xss)=rws (xss.drop k):=by simp [rws]
theorem rws_mid {xs ys:List (List Int)} {zs:List Int}:rws xs ++ [AVal.ro (some none) 1 (ints zs)] ++ rws ys=rws (xs ++ [zs] ++ ys):=by simp [rws]
theorem k_A2Cert (code:List Int) (n:Int) (next:List (List Int)) (hb:∀ x∈code,0≤x∧x≤255) (A:Aut n next) :
    Fn Tryz.prog nz5e [.ro (some (some 0)) 1 (intsK .u8 code),autA n next] CertR:=by
  refine con_of mixed czpd rfl (by simp) ?_
  have n1:=A.n1
  have n2:=A.n2
  generalize hQ:finQ _=Q
  simp only [Az4,Bzcq,go_sem,yz0,xx9,xx8,xx6,xx7,xx5,xx0,xx1,xx2,reduceIte,xx3,xx4,reduceCtorEq]
  intro vs vs2
  refine call_sh (k_from code) qCS (fun _=>⟨_,_,_,rfl,0,rfl,rfl⟩) ?_
  rintro outs rows res ⟨rfl,v0,rfl,rfl⟩
  refine ⟨rfl,by simp,by rw [Option.getD_some,yzl];simp only [go_sem,yz0,xx9,xx8,xx6,xx7,xx5,xx0,xx1,xx2,reduceIte,xx3,xx4,reduceCtorEq],?_⟩
  simp only [Bzcp,Nat.not_lt_zero,range1,yz15,yz1a,yz1l,yz1k,yz19,yz1n,yz1m,yz1j,yz17,yzv,yzf,yz4,yzy,yz11,yzs,yzp,yzz,yz8,yzd,yz9,yzb,yzi,yzh,yz3,yz7,yze,yzc,yzj,yzk,List.range_zero,yz6,yz5,yza,yz10,yzl,yzu,AVal.fresh,freshL,yz1,yzg,AObj.fresh,id,Option.isSome_some,or_true,true_or,go_sem,yz0,xx9,xx8,xx6,xx7,xx5,xx0,xx1,xx2,reduceIte,xx3,xx4,reduceCtorEq]
  intro vs3
  refine call_fn (k_specFind n next A) qCS (fun e=>by cases e) ?_
  rintro rows res ⟨v,xs,hl,hx,rfl,hres⟩
  refine ⟨by simp,by rw [Option.getD_some,yzl];simp only [go_sem,yz0,xx9,xx8,xx6,xx7,xx5,xx0,xx1,xx2,reduceIte,xx3,xx4,reduceCtorEq],?_⟩
  rcases hres with rfl | rfl
  · simp only [Option.getD_some,Bz70,Nat.not_lt_zero,range1,yz15,yz1a,yz1l,yz1k,yz19,yz1n,yz1m,yz1j,yz17,yzv,yzf,yz4,yzy,yz11,yzs,yzp,yzz,yz8,yzd,yz9,yzb,yzi,yzh,yz3,yz7,yze,yzc,yzj,yzk,List.range_zero,yz6,yz5,yza,yz10,yzl,yzu,AVal.fresh,freshL,yz1,yzg,AObj.fresh,id,Option.isSome_some,or_true,true_or,go_sem,yz0,xx9,xx8,xx6,xx7,xx5,xx0,xx1,xx2,reduceIte,xx3,xx4,reduceCtorEq]
    intro vs4
    refine call_funB (k_pick code 0 0 6 hb (by omega)) rfl qCS qCS ?_
    rintro cs' x ⟨a1,s1,b1,rfl,e1,e2,rfl,e3,e4⟩
    by_cases h0:b1=0
    · subst h0
      have q0:((0:Int) == 0)=true:=rfl
      by_cases hd:(0:Int)<xs.length
      · simp only [q0,Bz6,Bz5,Bz2w,rws_len,decide_eq_true hd,go_sem,yz0,xx9,xx8,xx6,xx7,xx5,xx0,xx1,xx2,reduceIte,xx3,xx4,reduceCtorEq]
        intro hM5 vs5
        refine call_funBN (k_pick code a1 s1 xs.length hb (by omega)) rfl (by simp) qCS qCS ⟨srcC code a1 0,.int .i64 0,⟨a1,0,0,rfl,by omega,by omega,rfl,by omega,.inr rfl⟩,flat_srcC⟩ ?_
        rintro cs' x ⟨a2,s2,b2,rfl,g1,g2,rfl,g3,g4⟩
        have hbx:b2.toNat<xs.length:=by omega
        have em:rws (xs.take b2.toNat) ++ [AVal.ro (some none) 1 [AVal.val (.int .i64 0),AVal.val (.int .i64 0)]] ++ rws (xs.drop (b2.toNat+1))=rws (xs.take b2.toNat ++ [[0,0]] ++ xs.drop (b2.toNat+1)):=rws_mid (zs:=[0,0])
        simp only [Bz7,rws_take,rws_drop,em,Az4,← hQ,go_sem,yz0,xx9,xx8,xx6,xx7,xx5,xx0,xx1,xx2,reduceIte,xx3,xx4,reduceCtorEq]
        refine ⟨⟨⟨_,rfl,rfl⟩,⟨_,rfl,rfl⟩⟩,⟨g3,hbx⟩,by omega,?_⟩
        refine ⟨[13],by simp,by simp,by simp,?_⟩
        simp only [em,range1,List.length_singleton,Nat.not_lt_zero,range1,yz15,yz1a,yz1l,yz1k,yz19,yz1n,yz1m,yz1j,yz17,yzv,yzf,yz4,yzy,yz11,yzs,yzp,yzz,yz8,yzd,yz9,yzb,yzi,yzh,yz3,yz7,yze,yzc,yzj,yzk,List.range_zero,yz6,yz5,yza,yz10,yzl,yzu,AVal.fresh,freshL,yz1,yzg,AObj.fresh,id,Option.isSome_some,or_true,true_or,go_sem,yz0,xx9,xx8,xx6,xx7,xx5,xx0,xx1,xx2,reduceIte,xx3,xx4,reduceCtorEq]
        exact ⟨_,_,rfl,.inl rfl⟩
      · simp only [q0,Bz6,Bz5,Bz2w,Bz7,rws_len,decide_eq_false hd,Az4,← hQ,go_sem,yz0,xx9,xx8,xx6,xx7,xx5,xx0,xx1,xx2,reduceIte,xx3,xx4,reduceCtorEq]
        intro _
        refine ⟨[13],by simp,by simp,by simp,?_⟩
        simp only [range1,List.length_singleton,Nat.not_lt_zero,range1,yz15,yz1a,yz1l,yz1k,yz19,yz1n,yz1m,yz1j,yz17,yzv,yzf,yz4,yzy,yz11,yzs,yzp,yzz,yz8,yzd,yz9,yzb,yzi,yzh,yz3,yz7,yze,yzc,yzj,yzk,List.range_zero,yz6,yz5,yza,yz10,yzl,yzu,AVal.fresh,freshL,yz1,yzg,AObj.fresh,id,Option.isSome_some,or_true,true_or,go_sem,yz0,xx9,xx8,xx6,xx7,xx5,xx0,xx1,xx2,reduceIte,xx3,xx4,reduceCtorEq]
        exact ⟨_,xs,rfl,.inl rfl⟩
    · have q0:(b1 == 0)=false:=beqF h0
      by_cases h1:b1=1
      · subst h1
        have q1:((1:Int) == 1)=true:=rfl
        have d0:¬ (0:Int)<((0:Nat):Int):=by simp
        simp only [q0,q1,Bz6,Bz5,Bzc,Bz2x,Bz7,d0,Az4,← hQ,go_sem,yz0,xx9,xx8,xx6,xx7,xx5,xx0,xx1,xx2,reduceIte,xx3,xx4,reduceCtorEq]
        refine ⟨[13],by simp,by simp,by simp,?_⟩
        simp only [range1,List.length_singleton,Nat.not_lt_zero,range1,yz15,yz1a,yz1l,yz1k,yz19,yz1n,yz1m,yz1j,yz17,yzv,yzf,yz4,yzy,yz11,yzs,yzp,yzz,yz8,yzd,yz9,yzb,yzi,yzh,yz3,yz7,yze,yzc,yzj,yzk,List.range_zero,yz6,yz5,yza,yz10,yzl,yzu,AVal.fresh,freshL,yz1,yzg,AObj.fresh,id,Option.isSome_some,or_true,true_or,go_sem,yz0,xx9,xx8,xx6,xx7,xx5,xx0,xx1,xx2,reduceIte,xx3,xx4,reduceCtorEq]
        exact ⟨_,xs,rfl,.inl rfl⟩
      · have q1:(b1 == 1)=false:=beqF h1
        by_cases h2:b1=2
        · subst h2
          have q2:((2:Int) == 2)=true:=rfl
          simp only [q0,q1,q2,Bz6,Bz5,Bzc,Bz1f,Bz6z,go_sem,yz0,xx9,xx8,xx6,xx7,xx5,xx0,xx1,xx2,reduceIte,xx3,xx4,reduceCtorEq]
          refine wpD_lo (fun (_,_,_,_,i)=>xs.length - i) (fun (_,a,_,ys,i)=>i≤xs.length∧List.length ys=xs.length∧(∀ y∈ys,List.length y≤1024+i)∧a1≤a∧a≤a1+2 * (i:Nat))
            (fun ((v13,a,s,ys,i):Nat×Int×Int×List (List Int)×Nat)=>⟨L .any [(3,.ptr 3 (vs 0 0) 0),(4,.ptr 4 (vs 1 0) 0),(5,.ptr 10 (vs2 1 v0) 0),(6,.ptr 6 (vs3 5 0) 0),(8,iv i)],
              L .gone [(3,.box (vs 0 0) [iv n,.ro none 1 (rwn next)]),(4,.box (vs 1 0) [iv 0,.val (.slice none 0 0),.val (.slice none 0 0)]),(6,.box (vs3 5 0) [iv 1,.val (.slice none 0 0),.own 13 v13]),(10,.box (vs2 1 v0) (srcC code a s)),(13,.row v13 1 true (rws ys))]⟩)
            (_,a1,s1,xs,0) ⟨by simp,rfl,fun y hy=>by have:=hx y hy;omega,Int.le_refl _,by simp⟩ (by simp only [Bz10,go_sem,yz0,xx9,xx8,xx6,xx7,xx5,xx0,xx1,xx2,reduceIte,xx3,xx4,reduceCtorEq];try rfl) ?_
          rintro ⟨v13,a,s,ys,i⟩ ⟨k1,k2,k3,k4,k5⟩
          have k1:i≤xs.length:=k1
          have k2:ys.length=xs.length:=k2
          have k4:a1≤a:=k4
          have k5:a≤a1+2 * (i:Nat):=k5
          by_cases hlt:(i:Int)<ys.length
          · have hlt1:i<ys.length:=by omega
            have w1:IntKind.i64.wrap ((i:Int)+1)=((i+1:Nat):Int):=by rw [w64 (by omega)];simp
            have hyi:=k3 _ (yz1f hlt1 [])
            simp only [Bz10,Bz2y,rws_len,decide_eq_true hlt,go_sem,yz0,xx9,xx8,xx6,xx7,xx5,xx0,xx1,xx2,reduceIte,xx3,xx4,reduceCtorEq]
            intro hM5
            simp only [Bzco,rws_getD hlt1,go_sem,yz0,xx9,xx8,xx6,xx7,xx5,xx0,xx1,xx2,reduceIte,xx3,xx4,reduceCtorEq]
            intro vs5
            refine ⟨⟨by omega,hlt1⟩,hlt1,?_⟩
            refine call_rowI (k_l00Own (ys.getD i []) (by omega)) qCS qGN ⟨_,rfl⟩ ?_
            rintro zs v60 rfl
            simp only [go_sem,yz0,xx9,xx8,xx6,xx7,xx5,xx0,xx1,xx2,reduceIte,xx3,xx4,reduceCtorEq]
            refine call_funBN (k_pick code a s next.length hb (by omega)) rfl (by simp) qCS qCS ⟨srcC code a 0,.int .i64 0,⟨a,0,0,rfl,by omega,by omega,rfl,by omega,.inr rfl⟩,flat_srcC⟩ ?_
            rintro cs' x ⟨a2,s2,b2,rfl,g1,g2,rfl,g3,g4⟩
            simp only [rws_take,rws_drop,Bzcn,w1,go_sem,yz0,xx9,xx8,xx6,xx7,xx5,xx0,xx1,xx2,reduceIte,xx3,xx4,reduceCtorEq]
            refine ⟨⟨_,rfl,rfl⟩,by omega,⟨by omega,hlt1⟩,by omega,?_⟩
            refine ⟨(_,a2,s2,ys.take i ++ [ys.getD i [] ++ [b2]] ++ ys.drop (i+1),i+1),by dsimp only;omega,⟨by dsimp only;omega,by simp only [List.length_append,List.length_take,List.length_drop,List.length_singleton];omega,?_,by dsimp only;omega,by dsimp only;omega⟩,rfl⟩
            intro y hy
            have hy:y∈ys.take i ++ [ys.getD i [] ++ [b2]] ++ ys.drop (i+1):=hy
            show y.length≤1024+(i+1)
            simp only [List.mem_append,List.mem_singleton] at hy
            rcases hy with (hy | rfl) | hy
            · have:=k3 y (List.mem_of_mem_take hy);omega
            · rw [List.length_append,List.length_singleton];omega
            · have:=k3 y (List.mem_of_mem_drop hy);omega
          · simp only [Bz10,Bz2y,Bz7,rws_len,decide_eq_false hlt,Az4,← hQ,go_sem,yz0,xx9,xx8,xx6,xx7,xx5,xx0,xx1,xx2,reduceIte,xx3,xx4,reduceCtorEq]
            intro _
            refine ⟨[13],by simp,by simp,by simp,?_⟩
            simp only [range1,List.length_singleton,Nat.not_lt_zero,range1,yz15,yz1a,yz1l,yz1k,yz19,yz1n,yz1m,yz1j,yz17,yzv,yzf,yz4,yzy,yz11,yzs,yzp,yzz,yz8,yzd,yz9,yzb,yzi,yzh,yz3,yz7,yze,yzc,yzj,yzk,List.range_zero,yz6,yz5,yza,yz10,yzl,yzu,AVal.fresh,freshL,yz1,yzg,AObj.fresh,id,Option.isSome_some,or_true,true_or,go_sem,yz0,xx9,xx8,xx6,xx7,xx5,xx0,xx1,xx2,reduceIte,xx3,xx4,reduceCtorEq]
            exact ⟨_,ys,rfl,.inl rfl⟩
        · have q2:(b1 == 2)=false:=beqF h2
          simp only [q0,q1,q2,Bz6,Bz5,Bzc,Bz1f,Bz7,Az4,← hQ,go_sem,yz0,xx9,xx8,xx6,xx7,xx5,xx0,xx1,xx2,reduceIte,xx3,xx4,reduceCtorEq]
          refine ⟨[13],by simp,by simp,by simp,?_⟩
          simp only [range1,List.length_singleton,Nat.not_lt_zero,range1,yz15,yz1a,yz1l,yz1k,yz19,yz1n,yz1m,yz1j,yz17,yzv,yzf,yz4,yzy,yz11,yzs,yzp,yzz,yz8,yzd,yz9,yzb,yzi,yzh,yz3,yz7,yze,yzc,yzj,yzk,List.range_zero,yz6,yz5,yza,yz10,yzl,yzu,AVal.fresh,freshL,yz1,yzg,AObj.fresh,id,Option.isSome_some,or_true,true_or,go_sem,yz0,xx9,xx8,xx6,xx7,xx5,xx0,xx1,xx2,reduceIte,xx3,xx4,reduceCtorEq]
          exact ⟨_,xs,rfl,.inl rfl⟩
  · simp only [Option.getD_some,Bz70,Nat.not_lt_zero,range1,yz15,yz1a,yz1l,yz1k,yz19,yz1n,yz1m,yz1j,yz17,yzv,yzf,yz4,yzy,yz11,yzs,yzp,yzz,yz8,yzd,yz9,yzb,yzi,yzh,yz3,yz7,yze,yzc,yzj,yzk,List.range_zero,yz6,yz5,yza,yz10,yzl,yzu,AVal.fresh,freshL,yz1,yzg,AObj.fresh,id,Option.isSome_some,or_true,true_or,go_sem,yz0,xx9,xx8,xx6,xx7,xx5,xx0,xx1,xx2,reduceIte,xx3,xx4,reduceCtorEq]
    intro vs4
    refine call_funB (k_pick code 0 0 6 hb (by omega)) rfl qCS qCS ?_
    rintro cs' x ⟨a1,s1,b1,rfl,e1,e2,rfl,e3,e4⟩
    have d0:¬ (0:Int)<((0:Nat):Int):=by simp
    by_cases h0:b1=0
    · subst h0
      have q0:((0:Int) == 0)=true:=rfl
      simp only [q0,Bz6,Bz5,Bz2w,Bz7,d0,Az4,← hQ,go_sem,yz0,xx9,xx8,xx6,xx7,xx5,xx0,xx1,xx2,reduceIte,xx3,xx4,reduceCtorEq]
      refine ⟨[13],by simp,by simp,by simp,?_⟩
      simp only [range1,List.length_singleton,Nat.not_lt_zero,range1,yz15,yz1a,yz1l,yz1k,yz19,yz1n,yz1m,yz1j,yz17,yzv,yzf,yz4,yzy,yz11,yzs,yzp,yzz,yz8,yzd,yz9,yzb,yzi,yzh,yz3,yz7,yze,yzc,yzj,yzk,List.range_zero,yz6,yz5,yza,yz10,yzl,yzu,AVal.fresh,freshL,yz1,yzg,AObj.fresh,id,Option.isSome_some,or_true,true_or,go_sem,yz0,xx9,xx8,xx6,xx7,xx5,xx0,xx1,xx2,reduceIte,xx3,xx4,reduceCtorEq]
      exact ⟨_,xs,rfl,.inr rfl⟩
    · have q0:(b1 == 0)=false:=beqF h0
      by_cases h1:b1=1
      · subst h1
        have q1:((1:Int) == 1)=true:=rfl
        by_cases hd:(0:Int)<xs.length
        · simp only [q0,q1,Bz6,Bz5,Bzc,Bz2x,Bz7,rws_len,bnd1,bndN,rws_take,rws_drop,decide_eq_true hd,Az4,← hQ,go_sem,yz0,xx9,xx8,xx6,xx7,xx5,xx0,xx1,xx2,reduceIte,xx3,xx4,reduceCtorEq]
          intro _ vs5
          refine ⟨⟨by omega,Nat.le_refl _⟩,?_⟩
          refine ⟨[13],by simp,by simp,by simp,?_⟩
          simp only [rws_take,rws_drop,range1,List.length_singleton,Nat.not_lt_zero,range1,yz15,yz1a,yz1l,yz1k,yz19,yz1n,yz1m,yz1j,yz17,yzv,yzf,yz4,yzy,yz11,yzs,yzp,yzz,yz8,yzd,yz9,yzb,yzi,yzh,yz3,yz7,yze,yzc,yzj,yzk,List.range_zero,yz6,yz5,yza,yz10,yzl,yzu,AVal.fresh,freshL,yz1,yzg,AObj.fresh,id,Option.isSome_some,or_true,true_or,go_sem,yz0,xx9,xx8,xx6,xx7,xx5,xx0,xx1,xx2,reduceIte,xx3,xx4,reduceCtorEq]
          exact ⟨_,_,rfl,.inr rfl⟩
        · simp only [q0,q1,Bz6,Bz5,Bzc,Bz2x,Bz7,rws_len,decide_eq_false hd,Az4,← hQ,go_sem,yz0,xx9,xx8,xx6,xx7,xx5,xx0,xx1,xx2,reduceIte,xx3,xx4,reduceCtorEq]
          intro _
          refine ⟨[13],by simp,by simp,by simp,?_⟩
          simp only [range1,List.length_singleton,Nat.not_lt_zero,range1,yz15,yz1a,yz1l,yz1k,yz19,yz1n,yz1m,yz1j,yz17,yzv,yzf,yz4,yzy,yz11,yzs,yzp,yzz,yz8,yzd,yz9,yzb,yzi,yzh,yz3,yz7,yze,yzc,yzj,yzk,List.range_zero,yz6,yz5,yza,yz10,yzl,yzu,AVal.fresh,freshL,yz1,yzg,AObj.fresh,id,Option.isSome_some,or_true,true_or,go_sem,yz0,xx9,xx8,xx6,xx7,xx5,xx0,xx1,xx2,reduceIte,xx3,xx4,reduceCtorEq]
          exact ⟨_,xs,rfl,.inr rfl⟩
      · have q1:(b1 == 1)=false:=beqF h1
        by_cases h2:b1=2
        · subst h2
          have q2:((2:Int) == 2)=true:=rfl
          simp only [q0,q1,q2,Bz6,Bz5,Bzc,Bz1f,Bz6z,go_sem,yz0,xx9,xx8,xx6,xx7,xx5,xx0,xx1,xx2,reduceIte,xx3,xx4,reduceCtorEq]
          refine wpD_lo (fun _=>0) (fun _=>True)
            (fun _:Unit=>⟨L .any [(3,.ptr 3 (vs 0 0) 0),(4,.ptr 4 (vs 1 0) 0),(5,.ptr 10 (vs2 1 v0) 0),(6,.ptr 6 (vs3 5 0) 0),(8,iv 0)],
              L .gone [(3,.box (vs 0 0) [iv n,.ro none 1 (rwn next)]),(4,.box (vs 1 0) [iv 0,.val (.slice none 0 0),.val (.slice none 0 0)]),(6,.box (vs3 5 0) [iv 2,.own 13 (vs3 1 v),.val (.slice none 0 0)]),(10,.box (vs2 1 v0) (srcC code a1 s1)),(13,.row (vs3 1 v) 1 true (rws xs))]⟩)
            () trivial (by simp only [Bz10,go_sem,yz0,xx9,xx8,xx6,xx7,xx5,xx0,xx1,xx2,reduceIte,xx3,xx4,reduceCtorEq];try rfl) ?_
          rintro ⟨⟩ -
          simp only [Bz10,Bz2y,Bz7,d0,Az4,← hQ,go_sem,yz0,xx9,xx8,xx6,xx7,xx5,xx0,xx1,xx2,reduceIte,xx3,xx4,reduceCtorEq]
          refine ⟨[13],by simp,by simp,by simp,?_⟩
          simp only [range1,List.length_singleton,Nat.not_lt_zero,range1,yz15,yz1a,yz1l,yz1k,yz19,yz1n,yz1m,yz1j,yz17,yzv,yzf,yz4,yzy,yz11,yzs,yzp,yzz,yz8,yzd,yz9,yzb,yzi,yzh,yz3,yz7,yze,yzc,yzj,yzk,List.range_zero,yz6,yz5,yza,yz10,yzl,yzu,AVal.fresh,freshL,yz1,yzg,AObj.fresh,id,Option.isSome_some,or_true,true_or,go_sem,yz0,xx9,xx8,xx6,xx7,xx5,xx0,xx1,xx2,reduceIte,xx3,xx4,reduceCtorEq]
          exact ⟨_,xs,rfl,.inr rfl⟩
        · have q2:(b1 == 2)=false:=beqF h2
          simp only [q0,q1,q2,Bz6,Bz5,Bzc,Bz1f,Bz7,Az4,← hQ,go_sem,yz0,xx9,xx8,xx6,xx7,xx5,xx0,xx1,xx2,reduceIte,xx3,xx4,reduceCtorEq]
          refine ⟨[13],by simp,by simp,by simp,?_⟩
          simp only [range1,List.length_singleton,Nat.not_lt_zero,range1,yz15,yz1a,yz1l,yz1k,yz19,yz1n,yz1m,yz1j,yz17,yzv,yzf,yz4,yzy,yz11,yzs,yzp,yzz,yz8,yzd,yz9,yzb,yzi,yzh,yz3,yz7,yze,yzc,yzj,yzk,List.range_zero,yz6,yz5,yza,yz10,yzl,yzu,AVal.fresh,freshL,yz1,yzg,AObj.fresh,id,Option.isSome_some,or_true,true_or,go_sem,yz0,xx9,xx8,xx6,xx7,xx5,xx0,xx1,xx2,reduceIte,xx3,xx4,reduceCtorEq]
          exact ⟨_,xs,rfl,.inr rfl⟩
end Go.Ab
namespace Go.Ab
open Go.Proofs
noncomputable def wocF (n:Int) (next words:List (List Int)):List Int:=wocR n next words n.toNat (allS n) []
noncomputable def wocC (n:Int) (next:List (List Int)) (kind:Int) (pairs words:List (List Int)):Int :=
  if autB n next=true then if rightB n next kind pairs words=true then if kind=2 then 4 else if (wocF n next words).length≤400 then 0 else 3 else 8 else 1
theorem wocC_len {n:Int} {next:List (List Int)} {kind:Int} {pairs words:List (List Int)} (h:wocC n next kind pairs words=0):(wocF n next words).length≤400:=by
  unfold wocC at h
  split at h
  · split at h
    · split at h
      · omega
      · split at h
        · assumption
        · omega
    · omega
  · omega
theorem right_m {n kind:Int} {next pairs words:List (List Int)} (h:rightB n next kind pairs words=true) (hk:kind≠2) (hn:1≤n) :
    words.length=(every n).length∧∀ i<words.length,wordB next.length (words.getD i [])=true∧(imgL next ((every n).getD i []) (words.getD i [])).length=1:=by
  by_cases hk1:kind=1
  · subst hk1
    have h:mergeP n next pairs words:=by
      by_cases hm:mergeP n next pairs words
      · exact hm
      · rw [right1_f hm] at h;cases h
    refine ⟨h.2.1,fun i hi=>?_⟩
    have hi2:i<(every n).length:=by have:=h.2.1;omega
    obtain ⟨h1,h2⟩:=h.2.2 i hi2
    obtain ⟨a,b,ha,hab,hb,hget⟩:=every_get (by omega) hi2
    rw [hget] at h2 ⊢
    exact ⟨h1,img2.2 h2⟩
  · rw [right_f hk1 hk] at h;cases h
theorem wocR_one {n:Int} {next words:List (List Int)} {F:Nat} {set out:List Int} (h:set.length≤1):wocR n next words F set out=out:=by
  cases F with
  | zero=>rfl
  | succ F=>rw [wocR,if_pos h]
theorem wocR_two {n:Int} {next words:List (List Int)} {F:Nat} {set out:List Int} (h:2≤set.length) (hF:set.length≤F) :
    ∃ F',wocR n next words F set out=wocR n next words F' (imgL next set (wocW n words set)) (out ++ wocW n words set)∧F=F'+1:=by
  cases F with
  | zero=>omega
  | succ F=>exact ⟨F,by rw [wocR,if_neg (by omega)],rfl⟩
theorem k_WordOfCertificate_1 (s t:Int):Fun Tryz.prog nz2b [iv s,iv t] (bv true):=by
  refine fun_of mixed czq1 rfl ⟨rfl,trivial⟩ ?_
  simp only [Bzgf,Azgg,go_sem,yz0,xx9,xx8,xx6,xx7,xx5,xx0,xx1,xx2,reduceIte,xx3,xx4,reduceCtorEq]
theorem k_WordOfCertificate_2 (p set:List Int) (h:2≤set.length):Fun Tryz.prog nz2d [.ro none 1 (ints p),.rp [.ro none 1 (ints set)] 0] (bv (decide (p=set.take 2))):=by
  refine fun_of mixed czq4 rfl ⟨rfl,trivial⟩ ?_
  have h0:Int.toNat 2≤set.length:=h
  have ht:List.drop 0 (List.take (Int.toNat 2) (intsK .i64 set))=ints (set.take 2):=by rw [List.drop_zero,intsK_take];rfl
  simp only [Bzgq,Azgr,St.bound,ht,go_sem,yz0,xx9,xx8,xx6,xx7,xx5,xx0,xx1,xx2,reduceIte,xx3,xx4,reduceCtorEq]
  intro vs
  refine ⟨h0,?_⟩
  refine yz12 (k_Equal p (set.take 2)) (by rw [intsK_take];exact qCS) trivial ?_
  simp only [go_sem,yz0,xx9,xx8,xx6,xx7,xx5,xx0,xx1,xx2,reduceIte,xx3,xx4,reduceCtorEq]
theorem tf_L {l:List (Nat×AVal)} {h:List (Nat×AObj)} {t q ver k:Nat} {nn:Bool} {cs:List AVal} :
    St.tf ⟨L .any l,L .gone h⟩ t q ver k nn cs=⟨L .any ((t,.ro (frNm nn cs.length ver) k cs) :: l),L .gone ((q,.gone) :: h)⟩:=by
  have h1:∀ x,(if x=t then AVal.ro (frNm nn cs.length ver) k cs else L .any l x)=L .any ((t,.ro (frNm nn cs.length ver) k cs) :: l) x:=fun x=>by
    by_cases e:x=t <;> simp [L,e,eq_comm]
  have h2:∀ x,(if x=q then AObj.gone else L .gone h x)=L .gone ((q,.gone) :: h) x:=fun x=>by
    by_cases e:x=q <;> simp [L,e,eq_comm]
  exact congr (congrArg St.mk (funext h1)) (funext h2)
theorem gwp_tf {gs:List GStep} {K:St→Prop} {l:List (Nat×AVal)} {h:List (Nat×AObj)} {t q k ver:Nat} {nn:Bool} {cs:List AVal} (ht:L .any l t=.own q ver)
    (hq:L .gone h q=.row ver k nn cs) (hk:gwp gs K ⟨L .any ((t,.ro (frNm nn cs.length ver) k cs) :: l),L .gone ((q,.gone) :: h)⟩):gwp (.tf t q :: gs) K ⟨L .any l,L .gone h⟩ :=
  ⟨ver,k,nn,cs,ht,hq,by rw [tf_L];exact hk⟩
structure WocI (n:Int) (next words:List (List Int)) (set out:List Int):Prop where
  ws:WS1 n set
  ln:out.length+400 * (set.length - 1)≤4000
  fu:∃ F,set.length≤F∧wocR n next words F set out=wocF n next words
theorem wocI_0 {n:Int} {next words:List (List Int)} (A:Aut n next):WocI n next words (allS n) []:=by
  have n1:=A.n1
  have n2:=A.n2
  refine ⟨⟨?_,allS_in⟩,by rw [allS_len];simp;omega,n.toNat,by rw [allS_len];omega,rfl⟩
  unfold SI allS
  rw [List.pairwise_map]
  exact List.pairwise_lt_range.imp fun h=>by omega
theorem wocI_s {n:Int} {next words:List (List Int)} (A:Aut n next) {set out:List Int} (I:WocI n next words set out) (h2:2≤set.length)
    (hm:words.length=(every n).length∧∀ i<words.length,wordB next.length (words.getD i [])=true∧(imgL next ((every n).getD i []) (words.getD i [])).length=1) :
    WocI n next words (imgL next set (wocW n words set)) (out ++ wocW n words set)∧(imgL next set (wocW n words set)).length<set.length:=by
  obtain ⟨h1,h3,h4,h5,h6,h7,h8⟩:=woc_step A I.ws h2 hm
  obtain ⟨F,hF,he⟩:=I.fu
  obtain ⟨F',e1,e2⟩:=wocR_two (n:=n) (next:=next) (words:=words) (out:=out) h2 hF
  have hw:=(wordB_iff.1 h5).1
  have hl:=I.ln
  exact ⟨⟨h6,by rw [List.length_append];omega,F',by omega,by rw [← e1,he]⟩,h7⟩
theorem wocI_long {n:Int} {next words:List (List Int)} {set out:List Int} (I:WocI n next words set out) (h:400<out.length):400<(wocF n next words).length:=by
  obtain ⟨F,_,he⟩:=I.fu
  obtain ⟨t,ht⟩:=wocR_pre (n:=n) (next:=next) (words:=words) F set out
  rw [← he,ht,List.length_append];omega
theorem wocI_end {n:Int} {next words:List (List Int)} {set out:List Int} (I:WocI n next words set out) (h:set.length≤1):out=wocF n next words:=by
  obtain ⟨F,_,he⟩:=I.fu
  rw [← he,wocR_one h]
theorem k_WordOfCertificate (n:Int) (next:List (List Int)) (kind:Int) (pairs words:List (List Int)) :
    RowT Tryz.prog nz5h [autA n next,certA kind pairs words] (decide (wocC n next kind pairs words=0)) (wocF n next words) (wocC n next kind pairs words):=by
  refine con_of mixed czpg rfl (by simp) ?_
  simp only [Azd9,Bzd8,go_sem,yz0,xx9,xx8,xx6,xx7,xx5,xx0,xx1,xx2,reduceIte,xx3,xx4,reduceCtorEq]
  intro vs vs2
  refine yz12 (k_Valid n next) qCS trivial ?_
  cases hv:autB n next with
  | false =>
    have hc:wocC n next kind pairs words=1:=by unfold wocC;rw [if_neg (by rw [hv];decide)]
    rw [hc]
    simp only [Bz7b,go_sem,yz0,xx9,xx8,xx6,xx7,xx5,xx0,xx1,xx2,reduceIte,xx3,xx4,reduceCtorEq]
    refine ⟨[],by simp,by simp,by simp,?_⟩
    simp only [Nat.not_lt_zero,range1,yz15,yz1a,yz1l,yz1k,yz19,yz1n,yz1m,yz1j,yz17,yzv,yzf,yz4,yzy,yz11,yzs,yzp,yzz,yz8,yzd,yz9,yzb,yzi,yzh,yz3,yz7,yze,yzc,yzj,yzk,List.range_zero,yz6,yz5,yza,yz10,yzl,yzu,AVal.fresh,freshL,yz1,yzg,AObj.fresh,id,Option.isSome_some,or_true,true_or,go_sem,yz0,xx9,xx8,xx6,xx7,xx5,xx0,xx1,xx2,reduceIte,xx3,xx4,reduceCtorEq]
    all_goals first | trivial | exact ⟨rfl,rfl⟩
  | true =>
    have A:=autB_iff.1 hv
    have n1:=A.n1
    have n2:=A.n2
    simp only [Bz7b,go_sem,yz0,xx9,xx8,xx6,xx7,xx5,xx0,xx1,xx2,reduceIte,xx3,xx4,reduceCtorEq]
    intro vs3
    refine yz12 (k_isRight n next kind pairs words A) qCS trivial ?_
    cases hr:rightB n next kind pairs words with
    | false =>
      have hc:wocC n next kind pairs words=8:=by unfold wocC;rw [if_pos hv,if_neg (by rw [hr];decide)]
      rw [hc]
      simp only [Bz30,go_sem,yz0,xx9,xx8,xx6,xx7,xx5,xx0,xx1,xx2,reduceIte,xx3,xx4,reduceCtorEq]
      refine ⟨[],by simp,by simp,by simp,?_⟩
      simp only [Nat.not_lt_zero,range1,yz15,yz1a,yz1l,yz1k,yz19,yz1n,yz1m,yz1j,yz17,yzv,yzf,yz4,yzy,yz11,yzs,yzp,yzz,yz8,yzd,yz9,yzb,yzi,yzh,yz3,yz7,yze,yzc,yzj,yzk,List.range_zero,yz6,yz5,yza,yz10,yzl,yzu,AVal.fresh,freshL,yz1,yzg,AObj.fresh,id,Option.isSome_some,or_true,true_or,go_sem,yz0,xx9,xx8,xx6,xx7,xx5,xx0,xx1,xx2,reduceIte,xx3,xx4,reduceCtorEq]
      all_goals first | trivial | exact ⟨rfl,rfl⟩
    | true =>
      by_cases hk:kind=2
      · have hc:wocC n next kind pairs words=4:=by unfold wocC;rw [if_pos hv,if_pos hr,if_pos hk]
        rw [hc]
        subst hk
        simp only [Bz30,Bz7a,beq_self_eq_true,go_sem,yz0,xx9,xx8,xx6,xx7,xx5,xx0,xx1,xx2,reduceIte,xx3,xx4,reduceCtorEq]
        refine ⟨[],by simp,by simp,by simp,?_⟩
        simp only [Nat.not_lt_zero,range1,yz15,yz1a,yz1l,yz1k,yz19,yz1n,yz1m,yz1j,yz17,yzv,yzf,yz4,yzy,yz11,yzs,yzp,yzz,yz8,yzd,yz9,yzb,yzi,yzh,yz3,yz7,yze,yzc,yzj,yzk,List.range_zero,yz6,yz5,yza,yz10,yzl,yzu,AVal.fresh,freshL,yz1,yzg,AObj.fresh,id,Option.isSome_some,or_true,true_or,go_sem,yz0,xx9,xx8,xx6,xx7,xx5,xx0,xx1,xx2,reduceIte,xx3,xx4,reduceCtorEq]
        all_goals first | trivial | exact ⟨rfl,rfl⟩
      · have hm:=right_m hr hk n1
        have hk2:(kind == 2)=false:=beqF hk
        have hel:=pairsL_len ⟨n1,n2⟩ (p:=fun _ _=>true)
        simp only [Bz30,Bz7a,Bzd7,hk2,go_sem,yz0,xx9,xx8,xx6,xx7,xx5,xx0,xx1,xx2,reduceIte,xx3,xx4,reduceCtorEq]
        intro vs4
        refine call_rowR (k_pairs n next nz2b [] (fun _ _=>true) ⟨n1,n2⟩ ⟨by simp only [go_sem,yz0,xx9,xx8,xx6,xx7,xx5,xx0,xx1,xx2,reduceIte,xx3,xx4,reduceCtorEq],by intros;simp only [rowIs,boxIs,yz1c,yz13,yz1d,yz14,yzm,yz1i,yz1g,coe_ro,yzt,yzo,coe_st,yzq,coe_rp,yzr,yz1h,yz1e,yz16,yzn,yz1b,yz18,L_hit,L_miss,L_nil,xx3,ne_eq,reduceCtorEq,not_false_eq_true,true_and,and_true,and_self,exists_eq_left,exists_eq_right,List.mem_cons,List.not_mem_nil,or_false,AObj.row.injEq,AObj.box.injEq,exists_eq_left',exists_and_left,exists_eq,Nat.zero_lt_one,Nat.lt_add_one,List.map_cons,List.map_nil,AObj.ver,xx5,not_true_eq_false]⟩ (fun s t _ _ _=>k_WordOfCertificate_1 s t)) qCS rfl ⟨_,rfl⟩ ?_
        rintro xss vp rfl
        simp only [Bzd6,go_sem,yz0,xx9,xx8,xx6,xx7,xx5,xx0,xx1,xx2,reduceIte,xx3,xx4,reduceCtorEq]
        intro vs5
        refine call_rowI (k_all n next A) qCS rfl ⟨_,rfl⟩ ?_
        rintro xs vq rfl
        simp only [Bzd5,go_sem,yz0,xx9,xx8,xx6,xx7,xx5,xx0,xx1,xx2,reduceIte,xx3,xx4,reduceCtorEq]
        refine wpD_lm (fun (_,set,_,_)=>set.length) (fun (_,set,_,out)=>WocI n next words set out∧out.length≤400)
          (fun ((vq,set,vo,out):Nat×List Int×Nat×List Int)=>⟨L .any [(2,.ptr 2 (vs 0 0) 0),(3,.ptr 3 (vs 1 0) 0),(6,.own 24 vp),(7,.own 25 vo),(8,.ptr 8 (vs5 3 0) 0)],
            L .gone [(2,.box (vs 0 0) [iv n,.ro none 1 (rwn next)]),(3,.box (vs 1 0) [iv kind,.ro none 1 (rwn pairs),.ro none 1 (rwn words)]),(8,.box (vs5 3 0) [.own 27 vq]),(24,.row vp 1 true (rws (every n))),(25,.row vo 1 true (ints out)),(27,.row vq 1 true (ints set))]⟩)
          (_,allS n,_,[]) ⟨wocI_0 A,by simp⟩ (by intro u;simp only [Bz31,List.map_nil,go_sem,yz0,xx9,xx8,xx6,xx7,xx5,xx0,xx1,xx2,reduceIte,xx3,xx4,reduceCtorEq];rfl) ?_
        rintro ⟨vq,set,vo,out⟩ ⟨I,ho⟩
        have I:WocI n next words set out:=I
        have ho:out.length≤400:=ho
        by_cases h2:2≤set.length
        · obtain ⟨h1,h3,h4,h5,h6,h7,h8⟩:=woc_step A I.ws h2 hm
          obtain ⟨J,hlt⟩:=wocI_s A I h2 hm
          have hd:(set.length:Int) > 1:=by omega
          simp only [Bz31,Bz7c,Bzd3,decide_eq_true hd,go_sem,yz0,xx9,xx8,xx6,xx7,xx5,xx0,xx1,xx2,reduceIte,xx3,xx4,reduceCtorEq]
          intro hM vs6
          refine yz12 (k_IndexFunc (every n) nz2d [.rp [.ro none 1 (ints set)] 0] _ ⟨by simp only [go_sem,yz0,xx9,xx8,xx6,xx7,xx5,xx0,xx1,xx2,reduceIte,xx3,xx4,reduceCtorEq],by intros;simp only [rowIs,boxIs,yz1c,yz13,yz1d,yz14,yzm,yz1i,yz1g,coe_ro,yzt,yzo,coe_st,yzq,coe_rp,yzr,yz1h,yz1e,yz16,yzn,yz1b,yz18,L_hit,L_miss,L_nil,xx3,ne_eq,reduceCtorEq,not_false_eq_true,true_and,and_true,and_self,exists_eq_left,exists_eq_right,List.mem_cons,List.not_mem_nil,or_false,AObj.row.injEq,AObj.box.injEq,exists_eq_left',exists_and_left,exists_eq,Nat.zero_lt_one,Nat.lt_add_one,List.map_cons,List.map_nil,AObj.ver,xx5,not_true_eq_false]⟩ (fun x _=>k_WordOfCertificate_2 x set h2)) qCS trivial ?_
          have hW:words.getD (pairI n (set.take 2)) []=wocW n words set:=rfl
          have hwl:=(wordB_iff.1 h5).1
          simp only [h4,Bzd2,rwn_getD h3,hW,go_sem,yz0,xx9,xx8,xx6,xx7,xx5,xx0,xx1,xx2,reduceIte,xx3,xx4,reduceCtorEq]
          intro vs7
          have hsl:set.length≤1000000:=by rcases SI_len I.ws.si I.ws.rg with h9 | h9;omega;rw [h9];simp
          refine ⟨⟨by omega,h3⟩,h3,by omega,⟨by omega,h3⟩,h3,?_⟩
          refine call_rowI (k_image n next set (wocW n words set) A I.ws.rg (wordB_iff.1 h5).2 hsl) qCS rfl ⟨_,rfl⟩ ?_
          rintro ys v8 rfl
          simp only [Bzd1,go_sem,yz0,xx9,xx8,xx6,xx7,xx5,xx0,xx1,xx2,reduceIte,xx3,xx4,reduceCtorEq]
          intro hMo
          by_cases ho2:400<((out ++ wocW n words set).length:Int)
          · have hl:=wocI_long J (by omega)
            have hc:wocC n next kind pairs words=3:=by unfold wocC;rw [if_pos hv,if_pos hr,if_neg hk,if_neg (by omega)]
            rw [hc]
            simp only [Bz7d,decide_eq_true ho2,go_sem,yz0,xx9,xx8,xx6,xx7,xx5,xx0,xx1,xx2,reduceIte,xx3,xx4,reduceCtorEq]
            refine ⟨[],by simp,by simp,by simp,?_⟩
            simp only [Nat.not_lt_zero,range1,yz15,yz1a,yz1l,yz1k,yz19,yz1n,yz1m,yz1j,yz17,yzv,yzf,yz4,yzy,yz11,yzs,yzp,yzz,yz8,yzd,yz9,yzb,yzi,yzh,yz3,yz7,yze,yzc,yzj,yzk,List.range_zero,yz6,yz5,yza,yz10,yzl,yzu,AVal.fresh,freshL,yz1,yzg,AObj.fresh,id,Option.isSome_some,or_true,true_or,go_sem,yz0,xx9,xx8,xx6,xx7,xx5,xx0,xx1,xx2,reduceIte,xx3,xx4,reduceCtorEq]
            all_goals first | trivial | exact ⟨rfl,rfl⟩
          · simp only [Bz7d,decide_eq_false ho2,go_sem,yz0,xx9,xx8,xx6,xx7,xx5,xx0,xx1,xx2,reduceIte,xx3,xx4,reduceCtorEq]
            refine ⟨(imgL next set (wocW n words set)).length,hlt,fun u=>⟨(u,imgL next set (wocW n words set),vs7 6 0,out ++ wocW n words set),rfl,⟨J,by dsimp only;omega⟩,rfl⟩⟩
        · have hd:¬ (set.length:Int) > 1:=by omega
          simp only [Bz31,Bz7c,Bzd4,decide_eq_false hd,go_sem,yz0,xx9,xx8,xx6,xx7,xx5,xx0,xx1,xx2,reduceIte,xx3,xx4,reduceCtorEq]
          intro hM
          have he:=wocI_end I (by omega)
          have hc:wocC n next kind pairs words=0:=by unfold wocC;rw [if_pos hv,if_pos hr,if_neg hk,if_pos (by rw [← he];exact ho)]
          rw [hc,← he]
          refine ⟨[25],by simp,by simp,by simp,?_⟩
          simp only [range1,List.length_singleton,decide_true,if_true,Nat.not_lt_zero,range1,yz15,yz1a,yz1l,yz1k,yz19,yz1n,yz1m,yz1j,yz17,yzv,yzf,yz4,yzy,yz11,yzs,yzp,yzz,yz8,yzd,yz9,yzb,yzi,yzh,yz3,yz7,yze,yzc,yzj,yzk,List.range_zero,yz6,yz5,yza,yz10,yzl,yzu,AVal.fresh,freshL,yz1,yzg,AObj.fresh,id,Option.isSome_some,or_true,true_or,go_sem,yz0,xx9,xx8,xx6,xx7,xx5,xx0,xx1,xx2,reduceIte,xx3,xx4,reduceCtorEq]
          exact ⟨_,rfl,rfl⟩
theorem k_specWordOfCertificate (n:Int) (next:List (List Int)) (kind:Int) (pairs words:List (List Int)) :
    RowC2 Tryz.prog nz5g [autA n next,certA kind pairs words] (if wocC n next kind pairs words=0 then wocF n next words else []) (wocC n next kind pairs words):=by
  refine con_of mixed czpf rfl (by simp) ?_
  simp only [Azd0,Bzcz,yzw,yz2,go_sem,yz0,xx9,xx8,xx6,xx7,xx5,xx0,xx1,xx2,reduceIte,xx3,xx4,reduceCtorEq]
  rintro vs1 U1 - vs2 U2 -
  refine yz12 (k_l01Ok n next) qCS trivial ?_
  cases hv:autB n next with
  | false =>
    have hc:wocC n next kind pairs words=1:=by unfold wocC;rw [if_neg (by rw [hv];decide)]
    rw [hc]
    simp only [Bz72,yzw,yz2,go_sem,yz0,xx9,xx8,xx6,xx7,xx5,xx0,xx1,xx2,reduceIte,xx3,xx4,reduceCtorEq]
    rintro vs3 U3 -
    refine ⟨[12],by simp,by simp,by simp,?_⟩
    simp only [range1,List.length_singleton,Nat.not_lt_zero,range1,yz15,yz1a,yz1l,yz1k,yz19,yz1n,yz1m,yz1j,yz17,yzv,yzf,yz4,yzy,yz11,yzs,yzp,yzz,yz8,yzd,yz9,yzb,yzi,yzh,yz3,yz7,yze,yzc,yzj,yzk,List.range_zero,yz6,yz5,yza,yz10,yzl,yzu,AVal.fresh,freshL,yz1,yzg,AObj.fresh,id,Option.isSome_some,or_true,true_or,go_sem,yz0,xx9,xx8,xx6,xx7,xx5,xx0,xx1,xx2,reduceIte,xx3,xx4,reduceCtorEq]
    exact ⟨_,rfl,rfl⟩
  | true =>
    have A:=autB_iff.1 hv
    have n1:=A.n1
    have n2:=A.n2
    simp only [Bz72,Bzcy,yzw,yz2,go_sem,yz0,xx9,xx8,xx6,xx7,xx5,xx0,xx1,xx2,reduceIte,xx3,xx4,reduceCtorEq]
    rintro vs3 U3 -
    refine yz12 (k_l02Right n next kind pairs words A) qCS trivial ?_
    cases hr:rightB n next kind pairs words with
    | false =>
      have hc:wocC n next kind pairs words=8:=by unfold wocC;rw [if_pos hv,if_neg (by rw [hr];decide)]
      rw [hc]
      simp only [Bz2z,yzw,yz2,go_sem,yz0,xx9,xx8,xx6,xx7,xx5,xx0,xx1,xx2,reduceIte,xx3,xx4,reduceCtorEq]
      rintro vs4 U4 -
      refine ⟨[15],by simp,by simp,by simp,?_⟩
      simp only [range1,List.length_singleton,Nat.not_lt_zero,range1,yz15,yz1a,yz1l,yz1k,yz19,yz1n,yz1m,yz1j,yz17,yzv,yzf,yz4,yzy,yz11,yzs,yzp,yzz,yz8,yzd,yz9,yzb,yzi,yzh,yz3,yz7,yze,yzc,yzj,yzk,List.range_zero,yz6,yz5,yza,yz10,yzl,yzu,AVal.fresh,freshL,yz1,yzg,AObj.fresh,id,Option.isSome_some,or_true,true_or,go_sem,yz0,xx9,xx8,xx6,xx7,xx5,xx0,xx1,xx2,reduceIte,xx3,xx4,reduceCtorEq]
      exact ⟨_,rfl,rfl⟩
    | true =>
      by_cases hk:kind=2
      · have hc:wocC n next kind pairs words=4:=by unfold wocC;rw [if_pos hv,if_pos hr,if_pos hk]
        rw [hc]
        subst hk
        simp only [Bz2z,Bz79,Bz73,beq_self_eq_true,yzw,yz2,go_sem,yz0,xx9,xx8,xx6,xx7,xx5,xx0,xx1,xx2,reduceIte,xx3,xx4,reduceCtorEq]
        rintro vs4 U4 - vs5 U5 -
        refine ⟨[19],by simp,by simp,by simp,?_⟩
        simp only [range1,List.length_singleton,Nat.not_lt_zero,range1,yz15,yz1a,yz1l,yz1k,yz19,yz1n,yz1m,yz1j,yz17,yzv,yzf,yz4,yzy,yz11,yzs,yzp,yzz,yz8,yzd,yz9,yzb,yzi,yzh,yz3,yz7,yze,yzc,yzj,yzk,List.range_zero,yz6,yz5,yza,yz10,yzl,yzu,AVal.fresh,freshL,yz1,yzg,AObj.fresh,id,Option.isSome_some,or_true,true_or,go_sem,yz0,xx9,xx8,xx6,xx7,xx5,xx0,xx1,xx2,reduceIte,xx3,xx4,reduceCtorEq]
        exact ⟨_,rfl,rfl⟩
      · have hm:=right_m hr hk n1
        have hk2:(kind == 2)=false:=beqF hk
        have hel:=pairsL_len ⟨n1,n2⟩ (p:=fun _ _=>true)
        simp only [Bz2z,Bz79,Bz73,Bzcx,hk2,yzw,yz2,go_sem,yz0,xx9,xx8,xx6,xx7,xx5,xx0,xx1,xx2,reduceIte,xx3,xx4,reduceCtorEq]
        rintro vs4 U4 - vs5 U5 -
        refine call_rowR (k_l02Pairs n ⟨n1,n2⟩) qCS rfl ⟨_,rfl⟩ ?_
        rintro xss vp rfl
        simp only [Bzcw,Bzcv,yzw,yz2,go_sem,yz0,xx9,xx8,xx6,xx7,xx5,xx0,xx1,xx2,reduceIte,xx3,xx4,reduceCtorEq]
        rintro vs6 U6 - vs7 U7 -
        refine call_rowI (k_l01All n ⟨by omega,by omega⟩) qCS rfl ⟨_,rfl⟩ ?_
        rintro xs vq rfl
        simp only [Bzcu,yzw,yz2,go_sem,yz0,xx9,xx8,xx6,xx7,xx5,xx0,xx1,xx2,reduceIte,xx3,xx4,reduceCtorEq]
        refine wpD_lp (fun (_,_,set,_,_)=>set.length) (fun (q,_,set,_,out)=>(q=26∨q=43)∧WocI n next words set out)
          (fun ((q,v,set,vo,out):Nat×Nat×List Int×Nat×List Int)=>⟨L .any [(2,.ptr 2 (vs1 0 0) 0),(3,.ptr 3 (vs1 1 0) 0),(6,.own 22 vp),(7,.own 23 vo),(8,.own q v)],
            L .gone [(2,.box (vs1 0 0) [iv n,.ro none 1 (rwn next)]),(3,.box (vs1 1 0) [iv kind,.ro none 1 (rwn pairs),.ro none 1 (rwn words)]),(22,.row vp 1 true (rws (every n))),(23,.row vo 1 true (ints out)),
              (26,if q=26 then .row v 1 true (ints set) else .gone),(40,.gone),(43,if q=43 then .row v 1 true (ints set) else .gone),(5000,.gone),(5001,.gone)]⟩)
          (26,_,allS n,_,[]) ⟨.inl rfl,wocI_0 A⟩ (by simp only [Bz11,List.map_nil,go_sem,yz0,xx9,xx8,xx6,xx7,xx5,xx0,xx1,xx2,reduceIte,xx3,xx4,reduceCtorEq];rfl) ?_
        rintro ⟨q,v,set,vo,out⟩ ⟨hq,I⟩
        have I:WocI n next words set out:=I
        have hq:q=26∨q=43:=hq
        rcases hq with rfl | rfl
        · by_cases h2:2≤set.length
          · obtain ⟨h1,h3,h4,h5,h6,h7,h8⟩:=woc_step A I.ws h2 hm
            obtain ⟨J,hlt⟩:=wocI_s A I h2 hm
            have hd:(set.length:Int) > 1:=by omega
            simp only [Bz11,Bz1g,xx3,if_true,if_false,yzw,yz2,decide_eq_true hd,go_sem,yz0,xx9,xx8,xx6,xx7,xx5,xx0,xx1,xx2,reduceIte,xx3,xx4,reduceCtorEq]
            rintro vs8 U8 - hMl
            simp only [Bz76,yzw,wpD_gh,go_sem,yz0,xx9,xx8,xx6,xx7,xx5,xx0,xx1,xx2,reduceIte,xx3,xx4,reduceCtorEq]
            intro _
            refine ⟨[.tf 8 26],gwp_tf rfl rfl ?_⟩
            have h0:Int.toNat 2≤set.length:=h2
            simp only [gwp_nil,yzw,yz2,frNm_t,St.bound,List.drop_zero,intsK_take,go_sem,yz0,xx9,xx8,xx6,xx7,xx5,xx0,xx1,xx2,reduceIte,xx3,xx4,reduceCtorEq]
            rintro vs10 U10 -
            refine ⟨h2,?_⟩
            have hW:words.getD (pairI n (set.take 2)) []=wocW n words set:=rfl
            have hwl:=(wordB_iff.1 h5).1
            have hln:=I.ln
            have hsl:set.length≤1000000:=by rcases SI_len I.ws.si I.ws.rg with h9 | h9;omega;rw [h9];simp
            refine yz12 (k_l01Find (every n) (set.take 2)) qCS trivial ?_
            simp only [h4,Bz75,rwn_getD h3,hW,yzw,yz2,go_sem,yz0,xx9,xx8,xx6,xx7,xx5,xx0,xx1,xx2,reduceIte,xx3,xx4,reduceCtorEq]
            refine ⟨⟨by omega,h3⟩,h3,?_⟩
            rintro vs11 U11 -
            refine ⟨by omega,?_⟩
            simp only [Bz74,yzw,yz2,go_sem,yz0,xx9,xx8,xx6,xx7,xx5,xx0,xx1,xx2,reduceIte,xx3,xx4,reduceCtorEq]
            rintro vs12 U12 -
            refine call_rowI (k_l01Image n next set (wocW n words set) A I.ws.rg (wordB_iff.1 h5).2 hsl) qCS rfl ⟨_,rfl⟩ ?_
            rintro ys v9 rfl
            simp only [go_sem,yz0,xx9,xx8,xx6,xx7,xx5,xx0,xx1,xx2,reduceIte,xx3,xx4,reduceCtorEq]
            exact ⟨(43,_,_,_,_),hlt,⟨.inr rfl,J⟩,rfl⟩
          · have hd:¬ (set.length:Int) > 1:=by omega
            simp only [Bz11,Bz1g,Bz78,xx3,if_true,if_false,yzw,yz2,decide_eq_false hd,go_sem,yz0,xx9,xx8,xx6,xx7,xx5,xx0,xx1,xx2,reduceIte,xx3,xx4,reduceCtorEq]
            rintro vs8 U8 - hMl vs9 U9 - hMo
            have he:=wocI_end I (by omega)
            by_cases ho:400<(out.length:Int)
            · have hc:wocC n next kind pairs words=3:=by unfold wocC;rw [if_pos hv,if_pos hr,if_neg hk,if_neg (by rw [← he];omega)]
              rw [hc]
              simp only [Bz1h,decide_eq_true ho,yzw,yz2,go_sem,yz0,xx9,xx8,xx6,xx7,xx5,xx0,xx1,xx2,reduceIte,xx3,xx4,reduceCtorEq]
              rintro vs10 U10 -
              refine ⟨[47],by simp,by simp,by simp,?_⟩
              simp only [range1,List.length_singleton,Nat.not_lt_zero,range1,yz15,yz1a,yz1l,yz1k,yz19,yz1n,yz1m,yz1j,yz17,yzv,yzf,yz4,yzy,yz11,yzs,yzp,yzz,yz8,yzd,yz9,yzb,yzi,yzh,yz3,yz7,yze,yzc,yzj,yzk,List.range_zero,yz6,yz5,yza,yz10,yzl,yzu,AVal.fresh,freshL,yz1,yzg,AObj.fresh,id,Option.isSome_some,or_true,true_or,go_sem,yz0,xx9,xx8,xx6,xx7,xx5,xx0,xx1,xx2,reduceIte,xx3,xx4,reduceCtorEq]
              exact ⟨_,rfl,rfl⟩
            · have hc:wocC n next kind pairs words=0:=by unfold wocC;rw [if_pos hv,if_pos hr,if_neg hk,if_pos (by rw [← he];omega)]
              rw [hc,if_pos rfl,← he]
              simp only [Bz1h,Bz77,decide_eq_false ho,yzw,yz2,go_sem,yz0,xx9,xx8,xx6,xx7,xx5,xx0,xx1,xx2,reduceIte,xx3,xx4,reduceCtorEq]
              rintro vs10 U10 -
              refine ⟨[23],by simp,by simp,by simp,?_⟩
              simp only [range1,List.length_singleton,Nat.not_lt_zero,range1,yz15,yz1a,yz1l,yz1k,yz19,yz1n,yz1m,yz1j,yz17,yzv,yzf,yz4,yzy,yz11,yzs,yzp,yzz,yz8,yzd,yz9,yzb,yzi,yzh,yz3,yz7,yze,yzc,yzj,yzk,List.range_zero,yz6,yz5,yza,yz10,yzl,yzu,AVal.fresh,freshL,yz1,yzg,AObj.fresh,id,Option.isSome_some,or_true,true_or,go_sem,yz0,xx9,xx8,xx6,xx7,xx5,xx0,xx1,xx2,reduceIte,xx3,xx4,reduceCtorEq]
              exact ⟨_,rfl,rfl⟩
        · by_cases h2:2≤set.length
          · obtain ⟨h1,h3,h4,h5,h6,h7,h8⟩:=woc_step A I.ws h2 hm
            obtain ⟨J,hlt⟩:=wocI_s A I h2 hm
            have hd:(set.length:Int) > 1:=by omega
            simp only [Bz11,Bz1g,xx3,if_true,if_false,yzw,yz2,decide_eq_true hd,go_sem,yz0,xx9,xx8,xx6,xx7,xx5,xx0,xx1,xx2,reduceIte,xx3,xx4,reduceCtorEq]
            rintro vs8 U8 - hMl
            simp only [Bz76,yzw,wpD_gh,go_sem,yz0,xx9,xx8,xx6,xx7,xx5,xx0,xx1,xx2,reduceIte,xx3,xx4,reduceCtorEq]
            intro _
            refine ⟨[.tf 8 43],gwp_tf rfl rfl ?_⟩
            have h0:Int.toNat 2≤set.length:=h2
            simp only [gwp_nil,yzw,yz2,frNm_t,St.bound,List.drop_zero,intsK_take,go_sem,yz0,xx9,xx8,xx6,xx7,xx5,xx0,xx1,xx2,reduceIte,xx3,xx4,reduceCtorEq]
            rintro vs10 U10 -
            refine ⟨h2,?_⟩
            have hW:words.getD (pairI n (set.take 2)) []=wocW n words set:=rfl
            have hwl:=(wordB_iff.1 h5).1
            have hln:=I.ln
            have hsl:set.length≤1000000:=by rcases SI_len I.ws.si I.ws.rg with h9 | h9;omega;rw [h9];simp
            refine yz12 (k_l01Find (every n) (set.take 2)) qCS trivial ?_
            simp only [h4,Bz75,rwn_getD h3,hW,yzw,yz2,go_sem,yz0,xx9,xx8,xx6,xx7,xx5,xx0,xx1,xx2,reduceIte,xx3,xx4,reduceCtorEq]
            refine ⟨⟨by omega,h3⟩,h3,?_⟩
            rintro vs11 U11 -
            refine ⟨by omega,?_⟩
            simp only [Bz74,yzw,yz2,go_sem,yz0,xx9,xx8,xx6,xx7,xx5,xx0,xx1,xx2,reduceIte,xx3,xx4,reduceCtorEq]
            rintro vs12 U12 -
            refine call_rowI (k_l01Image n next set (wocW n words set) A I.ws.rg (wordB_iff.1 h5).2 hsl) qCS rfl ⟨_,rfl⟩ ?_
            rintro ys v9 rfl
            simp only [go_sem,yz0,xx9,xx8,xx6,xx7,xx5,xx0,xx1,xx2,reduceIte,xx3,xx4,reduceCtorEq]
            exact ⟨(43,_,_,_,_),hlt,⟨.inr rfl,J⟩,rfl⟩
          · have hd:¬ (set.length:Int) > 1:=by omega
            simp only [Bz11,Bz1g,Bz78,xx3,if_true,if_false,yzw,yz2,decide_eq_false hd,go_sem,yz0,xx9,xx8,xx6,xx7,xx5,xx0,xx1,xx2,reduceIte,xx3,xx4,reduceCtorEq]
            rintro vs8 U8 - hMl vs9 U9 - hMo
            have he:=wocI_end I (by omega)
            by_cases ho:400<(out.length:Int)
            · have hc:wocC n next kind pairs words=3:=by unfold wocC;rw [if_pos hv,if_pos hr,if_neg hk,if_neg (by rw [← he];omega)]
              rw [hc]
              simp only [Bz1h,decide_eq_true ho,yzw,yz2,go_sem,yz0,xx9,xx8,xx6,xx7,xx5,xx0,xx1,xx2,reduceIte,xx3,xx4,reduceCtorEq]
              rintro vs10 U10 -
              refine ⟨[47],by simp,by simp,by simp,?_⟩
              simp only [range1,List.length_singleton,Nat.not_lt_zero,range1,yz15,yz1a,yz1l,yz1k,yz19,yz1n,yz1m,yz1j,yz17,yzv,yzf,yz4,yzy,yz11,yzs,yzp,yzz,yz8,yzd,yz9,yzb,yzi,yzh,yz3,yz7,yze,yzc,yzj,yzk,List.range_zero,yz6,yz5,yza,yz10,yzl,yzu,AVal.fresh,freshL,yz1,yzg,AObj.fresh,id,Option.isSome_some,or_true,true_or,go_sem,yz0,xx9,xx8,xx6,xx7,xx5,xx0,xx1,xx2,reduceIte,xx3,xx4,reduceCtorEq]
              exact ⟨_,rfl,rfl⟩
            · have hc:wocC n next kind pairs words=0:=by unfold wocC;rw [if_pos hv,if_pos hr,if_neg hk,if_pos (by rw [← he];omega)]
              rw [hc,if_pos rfl,← he]
              simp only [Bz1h,Bz77,decide_eq_false ho,yzw,yz2,go_sem,yz0,xx9,xx8,xx6,xx7,xx5,xx0,xx1,xx2,reduceIte,xx3,xx4,reduceCtorEq]
              rintro vs10 U10 -
              refine ⟨[23],by simp,by simp,by simp,?_⟩
              simp only [range1,List.length_singleton,Nat.not_lt_zero,range1,yz15,yz1a,yz1l,yz1k,yz19,yz1n,yz1m,yz1j,yz17,yzv,yzf,yz4,yzy,yz11,yzs,yzp,yzz,yz8,yzd,yz9,yzb,yzi,yzh,yz3,yz7,yze,yzc,yzj,yzk,List.range_zero,yz6,yz5,yza,yz10,yzl,yzu,AVal.fresh,freshL,yz1,yzg,AObj.fresh,id,Option.isSome_some,or_true,true_or,go_sem,yz0,xx9,xx8,xx6,xx7,xx5,xx0,xx1,xx2,reduceIte,xx3,xx4,reduceCtorEq]
              exact ⟨_,rfl,rfl⟩
end Go.Ab
namespace Go.Ab
open Go.Proofs
theorem rwn_nilC:rwn []=[]:=rfl
theorem cert_rest (n:Int) (next:List (List Int)) (A:Aut n next) (kind:Int) (pairs words:List (List Int)) (can:Bool) (hcan:can=true↔CanR n next) (v5 v27 v12 v67:Nat) (X Y:AVal) (xs:List (List Int))
    (hX:(X=.val (.slice none 0 0)∧Y=.own 67 v67∧pairs=[]∧words=xs)∨(X=.own 67 v67∧Y=.val (.slice none 0 0)∧pairs=xs∧words=[])) :
    ∀ σ:St,σ.kd Bz3.kts Bz3.khs=⟨L .any [(5,.ptr 5 v5 0),(8,bv can),(12,.ptr 12 v12 0)],L .gone [(5,.box v5 [iv n,.own 27 v27]),(12,.box v12 [iv kind,X,Y]),(27,.row v27 1 true (rwn next)),(67,.row v67 1 true (rws xs))]⟩ →
      wpD Tryz.prog Bz3 (finQ fun σ=>σ.tm 4=bv true) σ:=by
  intro σ hS
  rw [wpD_lab rfl,hS]
  have n1:=A.n1
  have n2:=A.n2
  have hv:autB n next=true:=autB_iff.2 A
  have hC1:=k_specCheckCertificate n next kind pairs words
  have hC2:=k_CheckCertificate n next kind pairs words
  have hW1:=k_specWordOfCertificate n next kind pairs words
  have hW2:=k_WordOfCertificate n next kind pairs words
  rw [hv] at hC1 hC2
  simp only [if_true,Bool.true_and] at hC1 hC2
  have hrc:=fun h=>right_can (kind:=kind) (pairs:=pairs) (words:=words) A h
  have hwoc:wocC n next kind pairs words=0→kind=1∧rightB n next kind pairs words=true∧(wocF n next words).length≤400:=by
    intro h
    have hl:=wocC_len h
    unfold wocC at h
    rw [if_pos hv] at h
    split at h
    · rename_i hr
      split at h
      · omega
      · rename_i hk
        refine ⟨?_,hr,hl⟩
        by_cases h1:kind=1
        · exact h1
        · rw [right_f h1 hk] at hr;cases hr
    · omega
  have e00:((0:Int) != 0)=false:=rfl
  have e0:((0:Int) == 0)=true:=rfl
  have hI:wocC n next kind pairs words=0→Fun2 Tryz.prog nz22 [autA n next,.ro none 1 (ints (wocF n next words))] (.bool true) (.int .i64 0):=by
    intro h
    obtain ⟨hk,hr,hl⟩:=hwoc h
    have hm:=right_m hr (by omega) n1
    have g:=wocF_can A hm
    have h1:=k_IsReset n next (wocF n next words)
    have hwb:wordB next.length (wocF n next words)=true:=wordB_iff.2 ⟨by omega,g.1⟩
    have himg:(imgA n next (wocF n next words)).length=1:=g.2
    rw [hv,hwb,decide_eq_true himg] at h1
    exact h1
  have hbq:rightB n next kind pairs words=true→(can == (kind == 1))=true:=by
    intro h
    have h1:=hrc h
    cases hc:can with
    | true=>have:=h1.1 (hcan.1 hc);subst this;rfl
    | false =>
      have:kind≠1:=fun e=>by have:=hcan.2 (h1.2 e);rw [hc] at this;cases this
      rw [beqF this];rfl
  have hz2:rightB n next kind pairs words=false→wocC n next kind pairs words≠0:=fun h h2=>by rw [(hwoc h2).2.1] at h;cases h
  generalize wocF n next words=wf at hW1 hW2 hI
  generalize wocC n next kind pairs words=wc at hW1 hW2 hI hz2
  clear hwoc hrc
  rcases hX with ⟨rfl,rfl,rfl,rfl⟩ | ⟨rfl,rfl,rfl,rfl⟩
  · cases hR:rightB n next kind [] words with
    | false =>
      rw [hR] at hC1 hC2
      have hwz:decide (wc=0)=false:=decide_eq_false (hz2 hR)
      have hwb:(wc == 0)=false:=beqF (hz2 hR)
      rw [hwz] at hW2
      rw [if_neg (hz2 hR)] at hW1
      simp only [Bz3,dnL_rwn,go_sem,yz0,xx9,xx8,xx6,xx7,xx5,xx0,xx1,xx2,reduceIte,xx3,xx4,reduceCtorEq]
      intro vs
      refine call_fun2 hC1 (by simp only [rwn_nilC,rowIs,boxIs,yz1c,yz13,yz1d,yz14,yzm,yz1i,yz1g,coe_ro,yzt,yzo,coe_st,yzq,coe_rp,yzr,yz1h,yz1e,yz16,yzn,yz1b,yz18,L_hit,L_miss,L_nil,xx3,ne_eq,reduceCtorEq,not_false_eq_true,true_and,and_true,and_self,exists_eq_left,exists_eq_right,List.mem_cons,List.not_mem_nil,or_false,AObj.row.injEq,AObj.box.injEq,exists_eq_left',exists_and_left,exists_eq,Nat.zero_lt_one,Nat.lt_add_one,List.map_cons,List.map_nil,AObj.ver,xx5,not_true_eq_false]) ?_
      simp only [Bzp,dnL_rwn,go_sem,yz0,xx9,xx8,xx6,xx7,xx5,xx0,xx1,xx2,reduceIte,xx3,xx4,reduceCtorEq]
      intro vs2
      refine call_fun2 hC2 (by simp only [rwn_nilC,rowIs,boxIs,yz1c,yz13,yz1d,yz14,yzm,yz1i,yz1g,coe_ro,yzt,yzo,coe_st,yzq,coe_rp,yzr,yz1h,yz1e,yz16,yzn,yz1b,yz18,L_hit,L_miss,L_nil,xx3,ne_eq,reduceCtorEq,not_false_eq_true,true_and,and_true,and_self,exists_eq_left,exists_eq_right,List.mem_cons,List.not_mem_nil,or_false,AObj.row.injEq,AObj.box.injEq,exists_eq_left',exists_and_left,exists_eq,Nat.zero_lt_one,Nat.lt_add_one,List.map_cons,List.map_nil,AObj.ver,xx5,not_true_eq_false]) ?_
      simp only [e00,beq_self_eq_true,Bzo,Bzg,Bzn,Bool.not_true,dnL_rwn,go_sem,yz0,xx9,xx8,xx6,xx7,xx5,xx0,xx1,xx2,reduceIte,xx3,xx4,reduceCtorEq]
      intro vs3
      refine call_rowC2 hW1 (by simp only [rwn_nilC,rowIs,boxIs,yz1c,yz13,yz1d,yz14,yzm,yz1i,yz1g,coe_ro,yzt,yzo,coe_st,yzq,coe_rp,yzr,yz1h,yz1e,yz16,yzn,yz1b,yz18,L_hit,L_miss,L_nil,xx3,ne_eq,reduceCtorEq,not_false_eq_true,true_and,and_true,and_self,exists_eq_left,exists_eq_right,List.mem_cons,List.not_mem_nil,or_false,AObj.row.injEq,AObj.box.injEq,exists_eq_left',exists_and_left,exists_eq,Nat.zero_lt_one,Nat.lt_add_one,List.map_cons,List.map_nil,AObj.ver,xx5,not_true_eq_false]) qWS (fun v90=>?_)
      simp only [Bzm,dnL_rwn,go_sem,yz0,xx9,xx8,xx6,xx7,xx5,xx0,xx1,xx2,reduceIte,xx3,xx4,reduceCtorEq]
      intro vs4
      refine call_rowT hW2 (by simp only [rwn_nilC,rowIs,boxIs,yz1c,yz13,yz1d,yz14,yzm,yz1i,yz1g,coe_ro,yzt,yzo,coe_st,yzq,coe_rp,yzr,yz1h,yz1e,yz16,yzn,yz1b,yz18,L_hit,L_miss,L_nil,xx3,ne_eq,reduceCtorEq,not_false_eq_true,true_and,and_true,and_self,exists_eq_left,exists_eq_right,List.mem_cons,List.not_mem_nil,or_false,AObj.row.injEq,AObj.box.injEq,exists_eq_left',exists_and_left,exists_eq,Nat.zero_lt_one,Nat.lt_add_one,List.map_cons,List.map_nil,AObj.ver,xx5,not_true_eq_false]) qWS (fun hz=>by cases hz) (fun _=>?_)
      simp only [hwb,bne_self_eq_false,Bzl,Bzh,Bzk,Bzi,Bzj,Bool.not_false,dnL_rwn,go_sem,yz0,xx9,xx8,xx6,xx7,xx5,xx0,xx1,xx2,reduceIte,xx3,xx4,reduceCtorEq]
    | true =>
      have hbq:=hbq hR
      rw [hR] at hC1 hC2
      by_cases hz:wc=0
      · subst hz
        have hI:=hI rfl
        rw [decide_eq_true rfl] at hW2
        rw [if_pos rfl] at hW1
        simp only [Bz3,dnL_rwn,go_sem,yz0,xx9,xx8,xx6,xx7,xx5,xx0,xx1,xx2,reduceIte,xx3,xx4,reduceCtorEq]
        intro vs
        refine call_fun2 hC1 (by simp only [rwn_nilC,rowIs,boxIs,yz1c,yz13,yz1d,yz14,yzm,yz1i,yz1g,coe_ro,yzt,yzo,coe_st,yzq,coe_rp,yzr,yz1h,yz1e,yz16,yzn,yz1b,yz18,L_hit,L_miss,L_nil,xx3,ne_eq,reduceCtorEq,not_false_eq_true,true_and,and_true,and_self,exists_eq_left,exists_eq_right,List.mem_cons,List.not_mem_nil,or_false,AObj.row.injEq,AObj.box.injEq,exists_eq_left',exists_and_left,exists_eq,Nat.zero_lt_one,Nat.lt_add_one,List.map_cons,List.map_nil,AObj.ver,xx5,not_true_eq_false]) ?_
        simp only [Bzp,dnL_rwn,go_sem,yz0,xx9,xx8,xx6,xx7,xx5,xx0,xx1,xx2,reduceIte,xx3,xx4,reduceCtorEq]
        intro vs2
        refine call_fun2 hC2 (by simp only [rwn_nilC,rowIs,boxIs,yz1c,yz13,yz1d,yz14,yzm,yz1i,yz1g,coe_ro,yzt,yzo,coe_st,yzq,coe_rp,yzr,yz1h,yz1e,yz16,yzn,yz1b,yz18,L_hit,L_miss,L_nil,xx3,ne_eq,reduceCtorEq,not_false_eq_true,true_and,and_true,and_self,exists_eq_left,exists_eq_right,List.mem_cons,List.not_mem_nil,or_false,AObj.row.injEq,AObj.box.injEq,exists_eq_left',exists_and_left,exists_eq,Nat.zero_lt_one,Nat.lt_add_one,List.map_cons,List.map_nil,AObj.ver,xx5,not_true_eq_false]) ?_
        simp only [e00,beq_self_eq_true,Bzo,Bzg,Bzn,Bool.not_true,dnL_rwn,go_sem,yz0,xx9,xx8,xx6,xx7,xx5,xx0,xx1,xx2,reduceIte,xx3,xx4,reduceCtorEq]
        intro vs3
        refine call_rowC2 hW1 (by simp only [rwn_nilC,rowIs,boxIs,yz1c,yz13,yz1d,yz14,yzm,yz1i,yz1g,coe_ro,yzt,yzo,coe_st,yzq,coe_rp,yzr,yz1h,yz1e,yz16,yzn,yz1b,yz18,L_hit,L_miss,L_nil,xx3,ne_eq,reduceCtorEq,not_false_eq_true,true_and,and_true,and_self,exists_eq_left,exists_eq_right,List.mem_cons,List.not_mem_nil,or_false,AObj.row.injEq,AObj.box.injEq,exists_eq_left',exists_and_left,exists_eq,Nat.zero_lt_one,Nat.lt_add_one,List.map_cons,List.map_nil,AObj.ver,xx5,not_true_eq_false]) qWS (fun v90=>?_)
        simp only [Bzm,dnL_rwn,go_sem,yz0,xx9,xx8,xx6,xx7,xx5,xx0,xx1,xx2,reduceIte,xx3,xx4,reduceCtorEq]
        intro vs4
        refine call_rowT hW2 (by simp only [rwn_nilC,rowIs,boxIs,yz1c,yz13,yz1d,yz14,yzm,yz1i,yz1g,coe_ro,yzt,yzo,coe_st,yzq,coe_rp,yzr,yz1h,yz1e,yz16,yzn,yz1b,yz18,L_hit,L_miss,L_nil,xx3,ne_eq,reduceCtorEq,not_false_eq_true,true_and,and_true,and_self,exists_eq_left,exists_eq_right,List.mem_cons,List.not_mem_nil,or_false,AObj.row.injEq,AObj.box.injEq,exists_eq_left',exists_and_left,exists_eq,Nat.zero_lt_one,Nat.lt_add_one,List.map_cons,List.map_nil,AObj.ver,xx5,not_true_eq_false]) qWS (fun _ v96=>?_) (fun h=>by cases h)
        simp only [e0,e00,Bzl,Bzh,Bzk,Bzi,dnL_rwn,go_sem,yz0,xx9,xx8,xx6,xx7,xx5,xx0,xx1,xx2,reduceIte,xx3,xx4,reduceCtorEq]
        intro vs5
        refine call_fun2 hI (by simp only [rwn_nilC,rowIs,boxIs,yz1c,yz13,yz1d,yz14,yzm,yz1i,yz1g,coe_ro,yzt,yzo,coe_st,yzq,coe_rp,yzr,yz1h,yz1e,yz16,yzn,yz1b,yz18,L_hit,L_miss,L_nil,xx3,ne_eq,reduceCtorEq,not_false_eq_true,true_and,and_true,and_self,exists_eq_left,exists_eq_right,List.mem_cons,List.not_mem_nil,or_false,AObj.row.injEq,AObj.box.injEq,exists_eq_left',exists_and_left,exists_eq,Nat.zero_lt_one,Nat.lt_add_one,List.map_cons,List.map_nil,AObj.ver,xx5,not_true_eq_false]) ?_
        simp only [e00,hbq,Bz6o,Bz6n,Bzj,Bool.not_true,dnL_rwn,go_sem,yz0,xx9,xx8,xx6,xx7,xx5,xx0,xx1,xx2,reduceIte,xx3,xx4,reduceCtorEq]
      · have hwz:decide (wc=0)=false:=decide_eq_false hz
        have hwb:(wc == 0)=false:=beqF hz
        rw [hwz] at hW2
        rw [if_neg hz] at hW1
        simp only [Bz3,dnL_rwn,go_sem,yz0,xx9,xx8,xx6,xx7,xx5,xx0,xx1,xx2,reduceIte,xx3,xx4,reduceCtorEq]
        intro vs
        refine call_fun2 hC1 (by simp only [rwn_nilC,rowIs,boxIs,yz1c,yz13,yz1d,yz14,yzm,yz1i,yz1g,coe_ro,yzt,yzo,coe_st,yzq,coe_rp,yzr,yz1h,yz1e,yz16,yzn,yz1b,yz18,L_hit,L_miss,L_nil,xx3,ne_eq,reduceCtorEq,not_false_eq_true,true_and,and_true,and_self,exists_eq_left,exists_eq_right,List.mem_cons,List.not_mem_nil,or_false,AObj.row.injEq,AObj.box.injEq,exists_eq_left',exists_and_left,exists_eq,Nat.zero_lt_one,Nat.lt_add_one,List.map_cons,List.map_nil,AObj.ver,xx5,not_true_eq_false]) ?_
        simp only [Bzp,dnL_rwn,go_sem,yz0,xx9,xx8,xx6,xx7,xx5,xx0,xx1,xx2,reduceIte,xx3,xx4,reduceCtorEq]
        intro vs2
        refine call_fun2 hC2 (by simp only [rwn_nilC,rowIs,boxIs,yz1c,yz13,yz1d,yz14,yzm,yz1i,yz1g,coe_ro,yzt,yzo,coe_st,yzq,coe_rp,yzr,yz1h,yz1e,yz16,yzn,yz1b,yz18,L_hit,L_miss,L_nil,xx3,ne_eq,reduceCtorEq,not_false_eq_true,true_and,and_true,and_self,exists_eq_left,exists_eq_right,List.mem_cons,List.not_mem_nil,or_false,AObj.row.injEq,AObj.box.injEq,exists_eq_left',exists_and_left,exists_eq,Nat.zero_lt_one,Nat.lt_add_one,List.map_cons,List.map_nil,AObj.ver,xx5,not_true_eq_false]) ?_
        simp only [e00,beq_self_eq_true,Bzo,Bzg,Bzn,Bool.not_true,dnL_rwn,go_sem,yz0,xx9,xx8,xx6,xx7,xx5,xx0,xx1,xx2,reduceIte,xx3,xx4,reduceCtorEq]
        intro vs3
        refine call_rowC2 hW1 (by simp only [rwn_nilC,rowIs,boxIs,yz1c,yz13,yz1d,yz14,yzm,yz1i,yz1g,coe_ro,yzt,yzo,coe_st,yzq,coe_rp,yzr,yz1h,yz1e,yz16,yzn,yz1b,yz18,L_hit,L_miss,L_nil,xx3,ne_eq,reduceCtorEq,not_false_eq_true,true_and,and_true,and_self,exists_eq_left,exists_eq_right,List.mem_cons,List.not_mem_nil,or_false,AObj.row.injEq,AObj.box.injEq,exists_eq_left',exists_and_left,exists_eq,Nat.zero_lt_one,Nat.lt_add_one,List.map_cons,List.map_nil,AObj.ver,xx5,not_true_eq_false]) qWS (fun v90=>?_)
        simp only [Bzm,dnL_rwn,go_sem,yz0,xx9,xx8,xx6,xx7,xx5,xx0,xx1,xx2,reduceIte,xx3,xx4,reduceCtorEq]
        intro vs4
        refine call_rowT hW2 (by simp only [rwn_nilC,rowIs,boxIs,yz1c,yz13,yz1d,yz14,yzm,yz1i,yz1g,coe_ro,yzt,yzo,coe_st,yzq,coe_rp,yzr,yz1h,yz1e,yz16,yzn,yz1b,yz18,L_hit,L_miss,L_nil,xx3,ne_eq,reduceCtorEq,not_false_eq_true,true_and,and_true,and_self,exists_eq_left,exists_eq_right,List.mem_cons,List.not_mem_nil,or_false,AObj.row.injEq,AObj.box.injEq,exists_eq_left',exists_and_left,exists_eq,Nat.zero_lt_one,Nat.lt_add_one,List.map_cons,List.map_nil,AObj.ver,xx5,not_true_eq_false]) qWS (fun h=>by cases h) (fun _=>?_)
        simp only [hwb,hbq,bne_self_eq_false,Bzl,Bzh,Bzk,Bzi,Bzj,Bool.not_true,dnL_rwn,go_sem,yz0,xx9,xx8,xx6,xx7,xx5,xx0,xx1,xx2,reduceIte,xx3,xx4,reduceCtorEq]
  · cases hR:rightB n next kind pairs [] with
    | false =>
      rw [hR] at hC1 hC2
      have hwz:decide (wc=0)=false:=decide_eq_false (hz2 hR)
      have hwb:(wc == 0)=false:=beqF (hz2 hR)
      rw [hwz] at hW2
      rw [if_neg (hz2 hR)] at hW1
      simp only [Bz3,dnL_rwn,go_sem,yz0,xx9,xx8,xx6,xx7,xx5,xx0,xx1,xx2,reduceIte,xx3,xx4,reduceCtorEq]
      intro vs
      refine call_fun2 hC1 (by simp only [rwn_nilC,rowIs,boxIs,yz1c,yz13,yz1d,yz14,yzm,yz1i,yz1g,coe_ro,yzt,yzo,coe_st,yzq,coe_rp,yzr,yz1h,yz1e,yz16,yzn,yz1b,yz18,L_hit,L_miss,L_nil,xx3,ne_eq,reduceCtorEq,not_false_eq_true,true_and,and_true,and_self,exists_eq_left,exists_eq_right,List.mem_cons,List.not_mem_nil,or_false,AObj.row.injEq,AObj.box.injEq,exists_eq_left',exists_and_left,exists_eq,Nat.zero_lt_one,Nat.lt_add_one,List.map_cons,List.map_nil,AObj.ver,xx5,not_true_eq_false]) ?_
      simp only [Bzp,dnL_rwn,go_sem,yz0,xx9,xx8,xx6,xx7,xx5,xx0,xx1,xx2,reduceIte,xx3,xx4,reduceCtorEq]
      intro vs2
      refine call_fun2 hC2 (by simp only [rwn_nilC,rowIs,boxIs,yz1c,yz13,yz1d,yz14,yzm,yz1i,yz1g,coe_ro,yzt,yzo,coe_st,yzq,coe_rp,yzr,yz1h,yz1e,yz16,yzn,yz1b,yz18,L_hit,L_miss,L_nil,xx3,ne_eq,reduceCtorEq,not_false_eq_true,true_and,and_true,and_self,exists_eq_left,exists_eq_right,List.mem_cons,List.not_mem_nil,or_false,AObj.row.injEq,AObj.box.injEq,exists_eq_left',exists_and_left,exists_eq,Nat.zero_lt_one,Nat.lt_add_one,List.map_cons,List.map_nil,AObj.ver,xx5,not_true_eq_false]) ?_
      simp only [e00,beq_self_eq_true,Bzo,Bzg,Bzn,Bool.not_true,dnL_rwn,go_sem,yz0,xx9,xx8,xx6,xx7,xx5,xx0,xx1,xx2,reduceIte,xx3,xx4,reduceCtorEq]
      intro vs3
      refine call_rowC2 hW1 (by simp only [rwn_nilC,rowIs,boxIs,yz1c,yz13,yz1d,yz14,yzm,yz1i,yz1g,coe_ro,yzt,yzo,coe_st,yzq,coe_rp,yzr,yz1h,yz1e,yz16,yzn,yz1b,yz18,L_hit,L_miss,L_nil,xx3,ne_eq,reduceCtorEq,not_false_eq_true,true_and,and_true,and_self,exists_eq_left,exists_eq_right,List.mem_cons,List.not_mem_nil,or_false,AObj.row.injEq,AObj.box.injEq,exists_eq_left',exists_and_left,exists_eq,Nat.zero_lt_one,Nat.lt_add_one,List.map_cons,List.map_nil,AObj.ver,xx5,not_true_eq_false]) qWS (fun v90=>?_)
      simp only [Bzm,dnL_rwn,go_sem,yz0,xx9,xx8,xx6,xx7,xx5,xx0,xx1,xx2,reduceIte,xx3,xx4,reduceCtorEq]
      intro vs4
      refine call_rowT hW2 (by simp only [rwn_nilC,rowIs,boxIs,yz1c,yz13,yz1d,yz14,yzm,yz1i,yz1g,coe_ro,yzt,yzo,coe_st,yzq,coe_rp,yzr,yz1h,yz1e,yz16,yzn,yz1b,yz18,L_hit,L_miss,L_nil,xx3,ne_eq,reduceCtorEq,not_false_eq_true,true_and,and_true,and_self,exists_eq_left,exists_eq_right,List.mem_cons,List.not_mem_nil,or_false,AObj.row.injEq,AObj.box.injEq,exists_eq_left',exists_and_left,exists_eq,Nat.zero_lt_one,Nat.lt_add_one,List.map_cons,List.map_nil,AObj.ver,xx5,not_true_eq_false]) qWS (fun hz=>by cases hz) (fun _=>?_)
      simp only [hwb,bne_self_eq_false,Bzl,Bzh,Bzk,Bzi,Bzj,Bool.not_false,dnL_rwn,go_sem,yz0,xx9,xx8,xx6,xx7,xx5,xx0,xx1,xx2,reduceIte,xx3,xx4,reduceCtorEq]
    | true =>
      have hbq:=hbq hR
      rw [hR] at hC1 hC2
      by_cases hz:wc=0
      · subst hz
        have hI:=hI rfl
        rw [decide_eq_true rfl] at hW2
        rw [if_pos rfl] at hW1
        simp only [Bz3,dnL_rwn,go_sem,yz0,xx9,xx8,xx6,xx7,xx5,xx0,xx1,xx2,reduceIte,xx3,xx4,reduceCtorEq]
        intro vs
        refine call_fun2 hC1 (by simp only [rwn_nilC,rowIs,boxIs,yz1c,yz13,yz1d,yz14,yzm,yz1i,yz1g,coe_ro,yzt,yzo,coe_st,yzq,coe_rp,yzr,yz1h,yz1e,yz16,yzn,yz1b,yz18,L_hit,L_miss,L_nil,xx3,ne_eq,reduceCtorEq,not_false_eq_true,true_and,and_true,and_self,exists_eq_left,exists_eq_right,List.mem_cons,List.not_mem_nil,or_false,AObj.row.injEq,AObj.box.injEq,exists_eq_left',exists_and_left,exists_eq,Nat.zero_lt_one,Nat.lt_add_one,List.map_cons,List.map_nil,AObj.ver,xx5,not_true_eq_false]) ?_
        simp only [Bzp,dnL_rwn,go_sem,yz0,xx9,xx8,xx6,xx7,xx5,xx0,xx1,xx2,reduceIte,xx3,xx4,reduceCtorEq]
        intro vs2
        refine call_fun2 hC2 (by simp only [rwn_nilC,rowIs,boxIs,yz1c,yz13,yz1d,yz14,yzm,yz1i,yz1g,coe_ro,yzt,yzo,coe_st,yzq,coe_rp,yzr,yz1h,yz1e,yz16,yzn,yz1b,yz18,L_hit,L_miss,L_nil,xx3,ne_eq,reduceCtorEq,not_false_eq_true,true_and,and_true,and_self,exists_eq_left,exists_eq_right,List.mem_cons,List.not_mem_nil,or_false,AObj.row.injEq,AObj.box.injEq,exists_eq_left',exists_and_left,exists_eq,Nat.zero_lt_one,Nat.lt_add_one,List.map_cons,List.map_nil,AObj.ver,xx5,not_true_eq_false]) ?_
        simp only [e00,beq_self_eq_true,Bzo,Bzg,Bzn,Bool.not_true,dnL_rwn,go_sem,yz0,xx9,xx8,xx6,xx7,xx5,xx0,xx1,xx2,reduceIte,xx3,xx4,reduceCtorEq]
        intro vs3
        refine call_rowC2 hW1 (by simp only [rwn_nilC,rowIs,boxIs,yz1c,yz13,yz1d,yz14,yzm,yz1i,yz1g,coe_ro,yzt,yzo,coe_st,yzq,coe_rp,yzr,yz1h,yz1e,yz16,yzn,yz1b,yz18,L_hit,L_miss,L_nil,xx3,ne_eq,reduceCtorEq,not_false_eq_true,true_and,and_true,and_self,exists_eq_left,exists_eq_right,List.mem_cons,List.not_mem_nil,or_false,AObj.row.injEq,AObj.box.injEq,exists_eq_left',exists_and_left,exists_eq,Nat.zero_lt_one,Nat.lt_add_one,List.map_cons,List.map_nil,AObj.ver,xx5,not_true_eq_false]) qWS (fun v90=>?_)
        simp only [Bzm,dnL_rwn,go_sem,yz0,xx9,xx8,xx6,xx7,xx5,xx0,xx1,xx2,reduceIte,xx3,xx4,reduceCtorEq]
        intro vs4
        refine call_rowT hW2 (by simp only [rwn_nilC,rowIs,boxIs,yz1c,yz13,yz1d,yz14,yzm,yz1i,yz1g,coe_ro,yzt,yzo,coe_st,yzq,coe_rp,yzr,yz1h,yz1e,yz16,yzn,yz1b,yz18,L_hit,L_miss,L_nil,xx3,ne_eq,reduceCtorEq,not_false_eq_true,true_and,and_true,and_self,exists_eq_left,exists_eq_right,List.mem_cons,List.not_mem_nil,or_false,AObj.row.injEq,AObj.box.injEq,exists_eq_left',exists_and_left,exists_eq,Nat.zero_lt_one,Nat.lt_add_one,List.map_cons,List.map_nil,AObj.ver,xx5,not_true_eq_false]) qWS (fun _ v96=>?_) (fun h=>by cases h)
        simp only [e0,e00,Bzl,Bzh,Bzk,Bzi,dnL_rwn,go_sem,yz0,xx9,xx8,xx6,xx7,xx5,xx0,xx1,xx2,reduceIte,xx3,xx4,reduceCtorEq]
        intro vs5
        refine call_fun2 hI (by simp only [rwn_nilC,rowIs,boxIs,yz1c,yz13,yz1d,yz14,yzm,yz1i,yz1g,coe_ro,yzt,yzo,coe_st,yzq,coe_rp,yzr,yz1h,yz1e,yz16,yzn,yz1b,yz18,L_hit,L_miss,L_nil,xx3,ne_eq,reduceCtorEq,not_false_eq_true,true_and,and_true,and_self,exists_eq_left,exists_eq_right,List.mem_cons,List.not_mem_nil,or_false,AObj.row.injEq,AObj.box.injEq,exists_eq_left',exists_and_left,exists_eq,Nat.zero_lt_one,Nat.lt_add_one,List.map_cons,List.map_nil,AObj.ver,xx5,not_true_eq_false]) ?_
        simp only [e00,hbq,Bz6o,Bz6n,Bzj,Bool.not_true,dnL_rwn,go_sem,yz0,xx9,xx8,xx6,xx7,xx5,xx0,xx1,xx2,reduceIte,xx3,xx4,reduceCtorEq]
      · have hwz:decide (wc=0)=false:=decide_eq_false hz
        have hwb:(wc == 0)=false:=beqF hz
        rw [hwz] at hW2
        rw [if_neg hz] at hW1
        simp only [Bz3,dnL_rwn,go_sem,yz0,xx9,xx8,xx6,xx7,xx5,xx0,xx1,xx2,reduceIte,xx3,xx4,reduceCtorEq]
        intro vs
        refine call_fun2 hC1 (by simp only [rwn_nilC,rowIs,boxIs,yz1c,yz13,yz1d,yz14,yzm,yz1i,yz1g,coe_ro,yzt,yzo,coe_st,yzq,coe_rp,yzr,yz1h,yz1e,yz16,yzn,yz1b,yz18,L_hit,L_miss,L_nil,xx3,ne_eq,reduceCtorEq,not_false_eq_true,true_and,and_true,and_self,exists_eq_left,exists_eq_right,List.mem_cons,List.not_mem_nil,or_false,AObj.row.injEq,AObj.box.injEq,exists_eq_left',exists_and_left,exists_eq,Nat.zero_lt_one,Nat.lt_add_one,List.map_cons,List.map_nil,AObj.ver,xx5,not_true_eq_false]) ?_
        simp only [Bzp,dnL_rwn,go_sem,yz0,xx9,xx8,xx6,xx7,xx5,xx0,xx1,xx2,reduceIte,xx3,xx4,reduceCtorEq]
        intro vs2
        refine call_fun2 hC2 (by simp only [rwn_nilC,rowIs,boxIs,yz1c,yz13,yz1d,yz14,yzm,yz1i,yz1g,coe_ro,yzt,yzo,coe_st,yzq,coe_rp,yzr,yz1h,yz1e,yz16,yzn,yz1b,yz18,L_hit,L_miss,L_nil,xx3,ne_eq,reduceCtorEq,not_false_eq_true,true_and,and_true,and_self,exists_eq_left,exists_eq_right,List.mem_cons,List.not_mem_nil,or_false,AObj.row.injEq,AObj.box.injEq,exists_eq_left',exists_and_left,exists_eq,Nat.zero_lt_one,Nat.lt_add_one,List.map_cons,List.map_nil,AObj.ver,xx5,not_true_eq_false]) ?_
        simp only [e00,beq_self_eq_true,Bzo,Bzg,Bzn,Bool.not_true,dnL_rwn,go_sem,yz0,xx9,xx8,xx6,xx7,xx5,xx0,xx1,xx2,reduceIte,xx3,xx4,reduceCtorEq]
        intro vs3
        refine call_rowC2 hW1 (by simp only [rwn_nilC,rowIs,boxIs,yz1c,yz13,yz1d,yz14,yzm,yz1i,yz1g,coe_ro,yzt,yzo,coe_st,yzq,coe_rp,yzr,yz1h,yz1e,yz16,yzn,yz1b,yz18,L_hit,L_miss,L_nil,xx3,ne_eq,reduceCtorEq,not_false_eq_true,true_and,and_true,and_self,exists_eq_left,exists_eq_right,List.mem_cons,List.not_mem_nil,or_false,AObj.row.injEq,AObj.box.injEq,exists_eq_left',exists_and_left,exists_eq,Nat.zero_lt_one,Nat.lt_add_one,List.map_cons,List.map_nil,AObj.ver,xx5,not_true_eq_false]) qWS (fun v90=>?_)
        simp only [Bzm,dnL_rwn,go_sem,yz0,xx9,xx8,xx6,xx7,xx5,xx0,xx1,xx2,reduceIte,xx3,xx4,reduceCtorEq]
        intro vs4
        refine call_rowT hW2 (by simp only [rwn_nilC,rowIs,boxIs,yz1c,yz13,yz1d,yz14,yzm,yz1i,yz1g,coe_ro,yzt,yzo,coe_st,yzq,coe_rp,yzr,yz1h,yz1e,yz16,yzn,yz1b,yz18,L_hit,L_miss,L_nil,xx3,ne_eq,reduceCtorEq,not_false_eq_true,true_and,and_true,and_self,exists_eq_left,exists_eq_right,List.mem_cons,List.not_mem_nil,or_false,AObj.row.injEq,AObj.box.injEq,exists_eq_left',exists_and_left,exists_eq,Nat.zero_lt_one,Nat.lt_add_one,List.map_cons,List.map_nil,AObj.ver,xx5,not_true_eq_false]) qWS (fun h=>by cases h) (fun _=>?_)
        simp only [hwb,hbq,bne_self_eq_false,Bzl,Bzh,Bzk,Bzi,Bzj,Bool.not_true,dnL_rwn,go_sem,yz0,xx9,xx8,xx6,xx7,xx5,xx0,xx1,xx2,reduceIte,xx3,xx4,reduceCtorEq]
theorem cert_tail (n:Int) (next:List (List Int)) (A:Aut n next) (more:List Int) (hb2:∀ x∈more,0≤x∧x≤255) (can:Bool) (hcan:can=true↔CanR n next) (v5 v27:Nat) :
    ∀ σ:St,σ.kd Bzq.kts Bzq.khs=⟨L .any [(1,.ro (some (some 0)) 1 (intsK .u8 more)),(5,.ptr 5 v5 0),(8,bv can)],L .gone [(5,.box v5 [iv n,.own 27 v27]),(27,.row v27 1 true (rwn next))]⟩ →
      wpD Tryz.prog Bzq (finQ fun σ=>σ.tm 4=bv true) σ:=by
  intro σ hS
  rw [wpD_lab rfl,hS]
  simp only [Bzq,dnL_rwn,go_sem,yz0,xx9,xx8,xx6,xx7,xx5,xx0,xx1,xx2,reduceIte,xx3,xx4,reduceCtorEq]
  intro vs
  refine call_fn (k_A2Cert more n next hb2 A) qCS (fun e=>by cases e) ?_
  rintro rows res ⟨v,xs,rfl,hres⟩
  refine ⟨by simp,by rw [Option.getD_some,yzl];simp only [go_sem,yz0,xx9,xx8,xx6,xx7,xx5,xx0,xx1,xx2,reduceIte,xx3,xx4,reduceCtorEq],?_⟩
  rcases hres with rfl | rfl
  · simp only [Option.getD_some,dnL_rwn,Nat.not_lt_zero,range1,yz15,yz1a,yz1l,yz1k,yz19,yz1n,yz1m,yz1j,yz17,yzv,yzf,yz4,yzy,yz11,yzs,yzp,yzz,yz8,yzd,yz9,yzb,yzi,yzh,yz3,yz7,yze,yzc,yzj,yzk,List.range_zero,yz6,yz5,yza,yz10,yzl,yzu,AVal.fresh,freshL,yz1,yzg,AObj.fresh,id,Option.isSome_some,or_true,true_or,go_sem,yz0,xx9,xx8,xx6,xx7,xx5,xx0,xx1,xx2,reduceIte,xx3,xx4,reduceCtorEq]
    exact cert_rest n next A 1 [] xs can hcan v5 v27 _ _ _ _ xs (.inl ⟨rfl,rfl,rfl,rfl⟩) _ (by simp only [Bz3,dnL_rwn,go_sem,yz0,xx9,xx8,xx6,xx7,xx5,xx0,xx1,xx2,reduceIte,xx3,xx4,reduceCtorEq];try rfl)
  · simp only [Option.getD_some,dnL_rwn,Nat.not_lt_zero,range1,yz15,yz1a,yz1l,yz1k,yz19,yz1n,yz1m,yz1j,yz17,yzv,yzf,yz4,yzy,yz11,yzs,yzp,yzz,yz8,yzd,yz9,yzb,yzi,yzh,yz3,yz7,yze,yzc,yzj,yzk,List.range_zero,yz6,yz5,yza,yz10,yzl,yzu,AVal.fresh,freshL,yz1,yzg,AObj.fresh,id,Option.isSome_some,or_true,true_or,go_sem,yz0,xx9,xx8,xx6,xx7,xx5,xx0,xx1,xx2,reduceIte,xx3,xx4,reduceCtorEq]
    exact cert_rest n next A 2 xs [] can hcan v5 v27 _ _ _ _ xs (.inr ⟨rfl,rfl,rfl,rfl⟩) _ (by simp only [Bz3,dnL_rwn,go_sem,yz0,xx9,xx8,xx6,xx7,xx5,xx0,xx1,xx2,reduceIte,xx3,xx4,reduceCtorEq];try rfl)
theorem k_FnCertificates (code more:List Int) (hb:∀ x∈code,0≤x∧x≤255) (hb2:∀ x∈more,0≤x∧x≤255) :
    Fun Tryz.prog nzbv [.ro (some (some 0)) 1 (intsK .u8 code),.ro (some (some 0)) 1 (intsK .u8 more)] (bv true):=by
  refine fun_of mixed czp7 rfl ⟨rfl,trivial⟩ ?_
  simp only [Azc0,Bzbz,go_sem,yz0,xx9,xx8,xx6,xx7,xx5,xx0,xx1,xx2,reduceIte,xx3,xx4,reduceCtorEq]
  intro vs
  refine yz12 (k_a2Long code more) qCS trivial ?_
  simp only [Bzbw,Bzby,go_sem,yz0,xx9,xx8,xx6,xx7,xx5,xx0,xx1,xx2,reduceIte,xx3,xx4,reduceCtorEq]
  intro _ vs2
  refine call_sh (k_A2Automaton code hb) qCS (fun e=>by cases e) ?_
  rintro outs rows res ⟨rfl,n,next,v,A,n7,rfl,rfl⟩
  refine ⟨rfl,by simp,by rw [Option.getD_some,yzl];simp only [go_sem,yz0,xx9,xx8,xx6,xx7,xx5,xx0,xx1,xx2,reduceIte,xx3,xx4,reduceCtorEq],?_⟩
  have n1:=A.n1
  have n2:=A.n2
  have hR:=find_right A n7
  have hrc:=right_can A hR
  have hC:=k_CanReset n next A
  have hcan:=tour_can A
  generalize (firstT (tourT next (2 ^ n.toNat - 1))).isSome=can at hC hcan
  have hK:=k_CheckCertificate n next (findK n next) (findP n next) (findW n next)
  rw [autB_iff.2 A,hR] at hK
  simp only [if_true,Bool.and_self] at hK
  have e00:((0:Int) != 0)=false:=rfl
  have tail:=cert_tail n next A more hb2 can hcan
  simp only [Bzbx,Nat.not_lt_zero,range1,yz15,yz1a,yz1l,yz1k,yz19,yz1n,yz1m,yz1j,yz17,yzv,yzf,yz4,yzy,yz11,yzs,yzp,yzz,yz8,yzd,yz9,yzb,yzi,yzh,yz3,yz7,yze,yzc,yzj,yzk,List.range_zero,yz6,yz5,yza,yz10,yzl,yzu,AVal.fresh,freshL,yz1,yzg,AObj.fresh,id,Option.isSome_some,or_true,true_or,go_sem,yz0,xx9,xx8,xx6,xx7,xx5,xx0,xx1,xx2,reduceIte,xx3,xx4,reduceCtorEq]
  intro vs3
  refine call_steG (R:=fun rows res=>(apartL n next=[]∧∃ v nn,rows=[.row v 1 nn (rwn (wordsL n next))]∧res=.tup [.st [iv 1,.val (.slice none 0 0),.own 6000 v],iv 0]) ∨
        (apartL n next≠[]∧∃ v,rows=[.row v 1 true (rws (apartL n next))]∧res=.tup [.st [iv 2,.own 6000 v,.val (.slice none 0 0)],iv 0])) (k_FindH n next A n7) rfl qCS rfl qCS ?_
  rintro rows res (⟨h,v6,nn,rfl,rfl⟩ | ⟨h,v6,rfl,rfl⟩)
  · refine ⟨by simp,by rw [yzl];rfl,?_⟩
    rw [callHp_mr (by omega)]
    have hf1:findK n next=1:=by simp [findK,h]
    have hf2:findP n next=[]:=h
    have hf3:findW n next=wordsL n next:=by simp [findW,h]
    rw [hf1,hf2,hf3] at hK
    rw [hf1] at hrc
    have hct:can=true:=hcan.2 (hrc.2 rfl)
    subst hct
    have hq:(true == ((1:Int) == 1))=true:=rfl
    simp only [List.length_singleton,Bz6r,Nat.not_lt_zero,range1,yz15,yz1a,yz1l,yz1k,yz19,yz1n,yz1m,yz1j,yz17,yzv,yzf,yz4,yzy,yz11,yzs,yzp,yzz,yz8,yzd,yz9,yzb,yzi,yzh,yz3,yz7,yze,yzc,yzj,yzk,List.range_zero,yz6,yz5,yza,yz10,yzl,yzu,AVal.fresh,freshL,yz1,yzg,AObj.fresh,id,Option.isSome_some,or_true,true_or,go_sem,yz0,xx9,xx8,xx6,xx7,xx5,xx0,xx1,xx2,reduceIte,xx3,xx4,reduceCtorEq]
    generalize hf:sv (L .gone _) [27] (vs3 1)=f
    have hf0:f 0=vs2 1 v:=by rw [← hf];rfl
    rw [hf0]
    intro vs4
    refine yz12 hC qCS (by simp [AVal.plain]) ?_
    simp only [Bz6q,dnL_rwn,go_sem,yz0,xx9,xx8,xx6,xx7,xx5,xx0,xx1,xx2,reduceIte,xx3,xx4,reduceCtorEq]
    intro vs5
    refine call_fun2 hK (by simp only [rwn_nilC,rowIs,boxIs,yz1c,yz13,yz1d,yz14,yzm,yz1i,yz1g,coe_ro,yzt,yzo,coe_st,yzq,coe_rp,yzr,yz1h,yz1e,yz16,yzn,yz1b,yz18,L_hit,L_miss,L_nil,xx3,ne_eq,reduceCtorEq,not_false_eq_true,true_and,and_true,and_self,exists_eq_left,exists_eq_right,List.mem_cons,List.not_mem_nil,or_false,AObj.row.injEq,AObj.box.injEq,exists_eq_left',exists_and_left,exists_eq,Nat.zero_lt_one,Nat.lt_add_one,List.map_cons,List.map_nil,AObj.ver,xx5,not_true_eq_false]) ?_
    simp only [e00,hq,Bz6p,Bz6m,Bool.not_true,dnL_rwn,go_sem,yz0,xx9,xx8,xx6,xx7,xx5,xx0,xx1,xx2,reduceIte,xx3,xx4,reduceCtorEq]
    exact tail _ _ _ (by simp only [Bzq,dnL_rwn,go_sem,yz0,xx9,xx8,xx6,xx7,xx5,xx0,xx1,xx2,reduceIte,xx3,xx4,reduceCtorEq];try rfl)
  · refine ⟨by simp,by rw [yzl];rfl,?_⟩
    rw [callHp_mr (by omega)]
    have hf1:findK n next=2:=by simp [findK,h]
    have hf2:findP n next=apartL n next:=rfl
    have hf3:findW n next=[]:=by simp [findW,h]
    rw [hf1,hf2,hf3] at hK
    rw [hf1] at hrc
    have hct:can=false:=by
      cases hc:can with
      | false=>rfl
      | true=>have:=hrc.1 (hcan.1 hc);omega
    subst hct
    have hq:(false == ((2:Int) == 1))=true:=rfl
    simp only [List.length_singleton,Bz6r,Nat.not_lt_zero,range1,yz15,yz1a,yz1l,yz1k,yz19,yz1n,yz1m,yz1j,yz17,yzv,yzf,yz4,yzy,yz11,yzs,yzp,yzz,yz8,yzd,yz9,yzb,yzi,yzh,yz3,yz7,yze,yzc,yzj,yzk,List.range_zero,yz6,yz5,yza,yz10,yzl,yzu,AVal.fresh,freshL,yz1,yzg,AObj.fresh,id,Option.isSome_some,or_true,true_or,go_sem,yz0,xx9,xx8,xx6,xx7,xx5,xx0,xx1,xx2,reduceIte,xx3,xx4,reduceCtorEq]
    generalize hf:sv (L .gone _) [27] (vs3 1)=f
    have hf0:f 0=vs2 1 v:=by rw [← hf];rfl
    rw [hf0]
    intro vs4
    refine yz12 hC qCS (by simp [AVal.plain]) ?_
    simp only [Bz6q,dnL_rwn,go_sem,yz0,xx9,xx8,xx6,xx7,xx5,xx0,xx1,xx2,reduceIte,xx3,xx4,reduceCtorEq]
    intro vs5
    refine call_fun2 hK (by simp only [rwn_nilC,rowIs,boxIs,yz1c,yz13,yz1d,yz14,yzm,yz1i,yz1g,coe_ro,yzt,yzo,coe_st,yzq,coe_rp,yzr,yz1h,yz1e,yz16,yzn,yz1b,yz18,L_hit,L_miss,L_nil,xx3,ne_eq,reduceCtorEq,not_false_eq_true,true_and,and_true,and_self,exists_eq_left,exists_eq_right,List.mem_cons,List.not_mem_nil,or_false,AObj.row.injEq,AObj.box.injEq,exists_eq_left',exists_and_left,exists_eq,Nat.zero_lt_one,Nat.lt_add_one,List.map_cons,List.map_nil,AObj.ver,xx5,not_true_eq_false]) ?_
    simp only [e00,hq,Bz6p,Bz6m,Bool.not_true,dnL_rwn,go_sem,yz0,xx9,xx8,xx6,xx7,xx5,xx0,xx1,xx2,reduceIte,xx3,xx4,reduceCtorEq]
    exact tail _ _ _ (by simp only [Bzq,dnL_rwn,go_sem,yz0,xx9,xx8,xx6,xx7,xx5,xx0,xx1,xx2,reduceIte,xx3,xx4,reduceCtorEq];try rfl)
end Go.Ab
