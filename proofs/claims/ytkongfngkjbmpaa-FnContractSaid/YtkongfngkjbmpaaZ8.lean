/- Contracts and what they lean on, part 8. Conditions: none. -/
import Derived.Test.YtkongfngkjbmpaaZ7
set_option maxRecDepth 100000
set_option maxHeartbeats 4000000
set_option linter.all false
open Nat renaming reduceLeDiff → xx0, reduceMul → xx1, reduceSub → xx2, reduceEqDiff → xx3, reduceAdd → xx4, reduceLT → xx5
open Int renaming reduceToNat → xx6, reduceNeg → xx7, reduceLE → xx8, reduceLT → xx9
namespace Go.Ab
open Go.Proofs
theorem k_l01Division (cl:List Int) (n:Int):Fun Try.prog nz2d [.ro none 1 (ints cl),iv n] (bv (divB cl n)):=by
  refine fun_of mixed czeu rfl ⟨rfl,trivial⟩ ?_
  simp only [Azae,Bzad,Bzac,Bzaa,go_sem,yz0,xx9,xx8,xx6,xx7,xx5,xx0,xx1,xx2,reduceIte,xx3,xx4,reduceCtorEq]
  refine wpD_lo (fun i=>cl.length - i) (fun i=>i≤cl.length∧divS 0 (cl.take i)=true)
    (fun i:Nat=>⟨L .any [(0,.ro none 1 (ints cl)),(1,iv n),(5,iv (usedS 0 (cl.take i))),(6,iv i)],L .gone []⟩)
    0 ⟨by simp,rfl⟩ (by simp only [Bz1m,List.take_zero,usedS,go_sem,yz0,xx9,xx8,xx6,xx7,xx5,xx0,xx1,xx2,reduceIte,xx3,xx4,reduceCtorEq];try rfl) ?_
  rintro i ⟨hi,hd⟩
  by_cases hlt:(i:Int)<cl.length
  · have hlt1:i<cl.length:=by omega
    have hg:=take_getD hlt1
    have hu0:=used_ge (cs:=cl.take i) (u:=0)
    have hul:=used_len hd
    have htl:(cl.take i).length=i:=by rw [List.length_take];omega
    have hds:=divS_snoc (cs:=cl.take i) (u:=0) (c:=cl.getD i 0)
    have hus:=used_snoc (cs:=cl.take i) (u:=0) (c:=cl.getD i 0)
    rw [← hg] at hds hus
    rw [hd,Bool.true_and] at hds
    have hgd:=yz1 (k:=.i64) hlt1
    generalize cl.getD i 0=c at hds hus hgd
    simp only [Bz1m,Bz48,Bza9,hgd,decide_eq_true hlt,go_sem,yz0,xx9,xx8,xx6,xx7,xx5,xx0,xx1,xx2,reduceIte,xx3,xx4,reduceCtorEq]
    intro hM
    have hM2:=maxLen_le
    intro vs
    refine ⟨⟨by omega,hlt1⟩,hlt1,?_⟩
    refine yz4 (k_l00In c 0 (usedS 0 (cl.take i))) qCS trivial ?_
    by_cases hc:0≤c∧c≤usedS 0 (cl.take i)
    · have hcb:(decide (0≤c) && decide (c≤usedS 0 (cl.take i)))=true:=by simp [hc]
      rw [hcb] at hds
      by_cases he:c=usedS 0 (cl.take i)
      · have heb:(c == usedS 0 (cl.take i))=true:=beqT he
        have w1:IntKind.i64.wrap (usedS 0 (cl.take i)+1)=usedS 0 (cl.take (i+1)):=by rw [w64 (by omega),hus];omega
        simp only [hcb,heb,hgd,Bz1l,Bz4a,Bz49,Bz4b,Bool.not_true,w1,nat1 i _ hlt1 hM,go_sem,yz0,xx9,xx8,xx6,xx7,xx5,xx0,xx1,xx2,reduceIte,xx3,xx4,reduceCtorEq]
        exact ⟨⟨by omega,hlt1⟩,hlt1,i+1,by omega,⟨by omega,hds⟩,rfl⟩
      · have heb:(c == usedS 0 (cl.take i))=false:=beqF he
        have w1:usedS 0 (cl.take i)=usedS 0 (cl.take (i+1)):=by rw [hus];omega
        simp only [hcb,heb,hgd,Bz1l,Bz4a,Bz49,Bz4b,Bool.not_true,nat1 i _ hlt1 hM,go_sem,yz0,xx9,xx8,xx6,xx7,xx5,xx0,xx1,xx2,reduceIte,xx3,xx4,reduceCtorEq]
        exact ⟨⟨by omega,hlt1⟩,hlt1,i+1,by omega,⟨by omega,hds⟩,by rw [← w1]⟩
    · have hcb:(decide (0≤c) && decide (c≤usedS 0 (cl.take i)))=false:=by
        rw [Bool.and_eq_false_iff]
        by_cases h0:0≤c
        · right;simp;omega
        · left;simp;omega
      rw [hcb] at hds
      simp only [hcb,Bz1l,Bool.not_false,divB_no hds,go_sem,yz0,xx9,xx8,xx6,xx7,xx5,xx0,xx1,xx2,reduceIte,xx3,xx4,reduceCtorEq]
  · obtain rfl:i=cl.length:=by omega
    rw [List.take_length] at hd
    have hbq:((cl.length:Int) == n)=divB cl n:=by
      unfold divB
      rw [hd,Bool.true_and,Bool.eq_iff_iff,beq_iff_eq,decide_eq_true_iff]
    simp only [Bz1m,Bz48,Bzab,hbq,decide_eq_false hlt,go_sem,yz0,xx9,xx8,xx6,xx7,xx5,xx0,xx1,xx2,reduceIte,xx3,xx4,reduceCtorEq]
    try (intros;trivial)
theorem set_getD {ys:List Int} {i j:Nat} {v:Int} (hi:i<ys.length):(ys.set i v).getD j 0=if j=i then v else ys.getD j 0:=by
  rw [List.getD_eq_getElem?_getD,List.getD_eq_getElem?_getD,List.getElem?_set]
  by_cases h:i=j
  · subst h;simp [hi]
  · rw [if_neg h,if_neg (fun e=>h e.symm)]
theorem swap_perm:∀ (k:Nat) (ys:List Int),k+1<ys.length→((ys.set (k+1) (ys.getD k 0)).set k (ys.getD (k+1) 0)).Perm ys
  | 0,x :: y :: B,_=>by simpa using List.Perm.swap x y B
  | k+1,z :: ys,h=>by
    have h:k+1<ys.length:=by simpa using h
    have ih:=swap_perm k ys h
    simpa using ih
theorem put_set {ys:List Int} {i:Nat} {v:Int} (h:i<ys.length):ys.take i ++ [v] ++ ys.drop (i+1)=ys.set i v:=by
  rw [List.set_eq_take_append_cons_drop,if_pos h];simp
structure Sink (ys:List Int) (i k:Nat):Prop where
  a:∀ x y,x<y→y≤i→x≠k→y≠k→ys.getD x 0≤ys.getD y 0
  b:∀ y,k<y→y≤i→ys.getD k 0≤ys.getD y 0
def SrtTo (ys:List Int) (i:Nat):Prop:=∀ x y,x<y→y≤i→ys.getD x 0≤ys.getD y 0
theorem Sink.start {ys:List Int} {i:Nat} (h:SrtTo ys (i - 1)):Sink ys i i:=⟨fun x y h1 h2 h3 h4=>h x y h1 (by omega),fun y h1 h2=>by omega⟩
theorem Sink.done {ys:List Int} {i k:Nat} (h:Sink ys i k) (hk:k=0∨ys.getD (k - 1) 0≤ys.getD k 0):SrtTo ys i:=by
  intro x y h1 h2
  by_cases hx:x=k
  · subst hx;exact h.b y h1 h2
  · by_cases hy:y=k
    · subst hy
      rcases hk with hk | hk
      · omega
      · by_cases e:x=y - 1
        · subst e;exact hk
        · have:=h.a x (y - 1) (by omega) (by omega) hx (by omega);omega
    · exact h.a x y h1 h2 hx hy
theorem Sink.swap {ys:List Int} {i k:Nat} (h:Sink ys i (k+1)) (hi:i<ys.length) (hk:k+1≤i) (hlt:ys.getD (k+1) 0<ys.getD k 0):Sink ((ys.set (k+1) (ys.getD k 0)).set k (ys.getD (k+1) 0)) i k:=by
  have e:∀ j,((ys.set (k+1) (ys.getD k 0)).set k (ys.getD (k+1) 0)).getD j 0=if j=k then ys.getD (k+1) 0 else if j=k+1 then ys.getD k 0 else ys.getD j 0:=by
    intro j
    rw [set_getD (by rw [List.length_set];omega),set_getD (by omega)]
  refine ⟨fun x y h1 h2 h3 h4=>?_,fun y h1 h2=>?_⟩
  · rw [e,e,if_neg h3,if_neg h4]
    by_cases hx:x=k+1
    · rw [if_pos hx,if_neg (by omega)]
      exact h.a k y (by omega) h2 (by omega) (by omega)
    · rw [if_neg hx]
      by_cases hy:y=k+1
      · rw [if_pos hy];exact h.a x k (by omega) (by omega) hx (by omega)
      · rw [if_neg hy];exact h.a x y h1 h2 hx hy
  · rw [e,e,if_pos rfl,if_neg (by omega)]
    by_cases hy:y=k+1
    · rw [if_pos hy];omega
    · rw [if_neg hy];exact h.b y (by omega) h2
theorem SrtTo.srt {ys:List Int} (h:SrtTo ys (ys.length - 1)):Srt ys:=by
  refine List.pairwise_iff_getElem.2 fun i j hi hj hij=>?_
  have:=h i j hij (by omega)
  rw [List.getD_eq_getElem?_getD,List.getD_eq_getElem?_getD,List.getElem?_eq_getElem hi,List.getElem?_eq_getElem hj] at this
  exact this
theorem ints_putC {us:List Int} {i:Nat} {v:Int} (h:i<us.length):List.take i (ints us) ++ [AVal.val (.int .i64 v)] ++ List.drop (i+1) (ints us)=ints (us.set i v):=by rw [← put_set h];simp
theorem k_l05Sorted (xs:List Int) (hx:xs.length * 8≤140737488355328):RowI Try.prog nz2n [.ro none 1 (ints xs)] (fun ys=>ys=srt xs):=by
  refine rowI_of mixed czfd rfl ?_
  simp only [Azd0,Bzcz,go_sem,yz0,xx9,xx8,xx6,xx7,xx5,xx0,xx1,xx2,reduceIte,xx3,xx4,reduceCtorEq]
  intro vs
  refine call_rowI (k_l00Own xs hx) qCS qGN ⟨_,rfl⟩ ?_
  rintro zs v0 rfl
  simp only [Bzcy,Bzcw,go_sem,yz0,xx9,xx8,xx6,xx7,xx5,xx0,xx1,xx2,reduceIte,xx3,xx4,reduceCtorEq]
  refine wpD_lo (fun (_,_,i)=>zs.length+1 - i) (fun (_,ys,i)=>1≤i∧List.length ys=zs.length∧List.Perm ys zs∧SrtTo ys (i - 1))
    (fun ((v8,ys,i):Nat×List Int×Nat)=>⟨L .any [(3,.own 8 v8),(4,iv i)],L .gone [(8,.row v8 1 true (ints ys))]⟩)
    (_,zs,1) ⟨by simp,rfl,List.Perm.refl _,fun x y h1 h2=>by omega⟩ (by simp only [Bz1w,go_sem,yz0,xx9,xx8,xx6,xx7,xx5,xx0,xx1,xx2,reduceIte,xx3,xx4,reduceCtorEq];try rfl) ?_
  rintro ⟨v8,ys,i⟩ ⟨hi,hl,hp,hs⟩
  have hi:1≤i:=hi
  have hl:ys.length=zs.length:=hl
  by_cases hlt:(i:Int)<ys.length
  · have hlt1:i<ys.length:=by omega
    have w1:IntKind.i64.wrap ((i:Int)+1)=((i+1:Nat):Int):=by rw [w64 (by omega)];simp
    simp only [Bz1w,Bz53,Bzcv,decide_eq_true hlt,go_sem,yz0,xx9,xx8,xx6,xx7,xx5,xx0,xx1,xx2,reduceIte,xx3,xx4,reduceCtorEq]
    intro hM
    simp only [Bzcu,go_sem,yz0,xx9,xx8,xx6,xx7,xx5,xx0,xx1,xx2,reduceIte,xx3,xx4,reduceCtorEq]
    refine wpD_lo (fun (_,_,k)=>k) (fun (_,ys,k)=>k≤i∧List.length ys=zs.length∧List.Perm ys zs∧Sink ys i k)
      (fun ((v8,ys,k):Nat×List Int×Nat)=>⟨L .any [(3,.own 8 v8),(4,iv i),(5,iv k)],L .gone [(8,.row v8 1 true (ints ys))]⟩)
      (v8,ys,i) ⟨Nat.le_refl _,hl,hp,Sink.start hs⟩ (by simp only [Bzg,go_sem,yz0,xx9,xx8,xx6,xx7,xx5,xx0,xx1,xx2,reduceIte,xx3,xx4,reduceCtorEq];try rfl) ?_
    rintro ⟨v,us,k⟩ ⟨hk,hul,hup,hsk⟩
    have hk:k≤i:=hk
    have hul:us.length=zs.length:=hul
    match k,hk,hsk with
    | 0,hk,hsk =>
      have hd:¬ ((0:Nat):Int) > 0:=by simp
      simp only [Bzg,Bz1v,Bz54,decide_eq_false hd,w1,go_sem,yz0,xx9,xx8,xx6,xx7,xx5,xx0,xx1,xx2,reduceIte,xx3,xx4,reduceCtorEq]
      exact ⟨(v,us,i+1),by dsimp only;omega,⟨by dsimp only;omega,hul,hup,hsk.done (.inl rfl)⟩,rfl⟩
    | k+1,hk,hsk =>
      have hd:((k+1:Nat):Int) > 0:=by omega
      have g1:k+1<us.length:=by omega
      have g2:k<us.length:=by omega
      have wk:IntKind.i64.wrap (((k+1:Nat):Int) - 1)=(k:Int):=by rw [w64 (by omega)];omega
      by_cases hlt2:us.getD (k+1) 0<us.getD k 0
      · have e1:(us.take (k+1) ++ [us.getD k 0] ++ us.drop (k+1+1))=us.set (k+1) (us.getD k 0):=put_set g1
        have e2:((us.set (k+1) (us.getD k 0)).take k ++ [us.getD (k+1) 0] ++ (us.set (k+1) (us.getD k 0)).drop (k+1))=(us.set (k+1) (us.getD k 0)).set k (us.getD (k+1) 0):=put_set (by rw [List.length_set];exact g2)
        have hswp:=swap_perm k us g1
        have hsw:=hsk.swap (by omega) hk hlt2
        simp only [Bzg,Bz1v,Bzct,yz1 g1,yz1 g2,wk,decide_eq_true hd,decide_eq_true hlt2,go_sem,yz0,xx9,xx8,xx6,xx7,xx5,xx0,xx1,xx2,reduceIte,xx3,xx4,reduceCtorEq]
        refine ⟨⟨by omega,g1⟩,g1,⟨by omega,g2⟩,g2,⟨by omega,g1⟩,g1,?_⟩
        have e1':=ints_putC (v:=us.getD k 0) g1
        have g3:k<(us.set (k+1) (us.getD k 0)).length:=by rw [List.length_set];exact g2
        have e2':=ints_putC (v:=us.getD (k+1) 0) g3
        simp only [Bzcr,yz1 g2,wk,e1',go_sem,yz0,xx9,xx8,xx6,xx7,xx5,xx0,xx1,xx2,reduceIte,xx3,xx4,reduceCtorEq]
        refine ⟨⟨by omega,g2⟩,g2,⟨by omega,g1⟩,by omega,?_⟩
        simp only [Bzcq,Bzcs,wk,e1',e2',List.length_set,go_sem,yz0,xx9,xx8,xx6,xx7,xx5,xx0,xx1,xx2,reduceIte,xx3,xx4,reduceCtorEq]
        refine ⟨⟨by omega,g2⟩,by omega,?_⟩
        exact ⟨(v,(us.set (k+1) (us.getD k 0)).set k (us.getD (k+1) 0),k),by dsimp only;omega,⟨by dsimp only;omega,by simp only [List.length_set];exact hul,hswp.trans hup,hsw⟩,rfl⟩
      · simp only [Bzg,Bz1v,Bz54,yz1 g1,yz1 g2,wk,w1,decide_eq_true hd,decide_eq_false hlt2,go_sem,yz0,xx9,xx8,xx6,xx7,xx5,xx0,xx1,xx2,reduceIte,xx3,xx4,reduceCtorEq]
        refine ⟨⟨by omega,g1⟩,g1,⟨by omega,g2⟩,g2,?_⟩
        exact ⟨(v,us,i+1),by dsimp only;omega,⟨by dsimp only;omega,hul,hup,hsk.done (.inr (by show us.getD k 0≤us.getD (k+1) 0;omega))⟩,rfl⟩
  · simp only [Bz1w,Bz53,Bzcx,decide_eq_false hlt,go_sem,yz0,xx9,xx8,xx6,xx7,xx5,xx0,xx1,xx2,reduceIte,xx3,xx4,reduceCtorEq]
    intro hM
    exact ⟨8,v8,ys,by omega,rfl,by simp only [go_sem,yz0,xx9,xx8,xx6,xx7,xx5,xx0,xx1,xx2,reduceIte,xx3,xx4,reduceCtorEq],srt_uniq (SrtTo.srt fun x y h1 h2=>hs x y h1 (by omega)) hp⟩
theorem k_l05Led (n:Int) (out:List (List Int)) (d:Nat) (cl:List Int) (s:Nat) (R:RoadB n out d) (hl:(cl.length:Int)=n) (hs:(s:Int)<n) :
    RowI Try.prog nz2e [autP n out,.ro none 1 (ints cl),iv s] (fun ys=>ys=ownL out cl s):=by
  refine rowI_of mixed czev rfl ?_
  obtain ⟨hso,hmem⟩:=R.get (s:=s) hs
  obtain ⟨r1,r2,_⟩:=R.row _ hmem
  have hdd:=R.d3
  have hn7:=R.n7
  have hown:ownL out cl s=srt ((out.getD s []).map fun t=>cl.getD t.toNat 0):=rfl
  have hg:=rwn_getD hso
  generalize out.getD s []=row at r1 r2 hown hg
  simp only [Azal,Bzak,go_sem,yz0,xx9,xx8,xx6,xx7,xx5,xx0,xx1,xx2,reduceIte,xx3,xx4,reduceCtorEq]
  intro vs
  simp only [Bzaj,Bzah,go_sem,yz0,xx9,xx8,xx6,xx7,xx5,xx0,xx1,xx2,reduceIte,xx3,xx4,reduceCtorEq]
  refine wpD_lo (fun (_,j)=>row.length - j) (fun (_,j)=>j≤row.length)
    (fun ((v9,j):Nat×Nat)=>⟨L .any [(0,autP n out),(1,.ro none 1 (ints cl)),(2,iv s),(7,.own 9 v9),(8,iv j)],L .gone [(9,.row v9 1 true (ints ((row.take j).map fun t=>cl.getD t.toNat 0)))]⟩)
    (_,0) (by simp) (by simp only [Bz1n,List.take_zero,go_sem,yz0,xx9,xx8,xx6,xx7,xx5,xx0,xx1,xx2,reduceIte,xx3,xx4,reduceCtorEq];try rfl) ?_
  rintro ⟨v9,j⟩ hj
  have hj:j≤row.length:=hj
  by_cases hlj:(j:Int)<row.length
  · have hj1:j<row.length:=by omega
    have wj:IntKind.i64.wrap ((j:Int)+1)=((j+1:Nat):Int):=by rw [w64 (by omega)];simp
    have hx:=r2 _ (getD_mem hj1 0)
    have htk:=take_getD hj1
    have hgj:=yz1 (k:=.i64) hj1
    generalize row.getD j 0=x at hx htk hgj
    have hxc:x.toNat<cl.length:=by omega
    simp only [Bz1n,Bz4c,Bzag,Bzaf,hg,hgj,yz1 hxc,wj,decide_eq_true hlj,go_sem,yz0,xx9,xx8,xx6,xx7,xx5,xx0,xx1,xx2,reduceIte,xx3,xx4,reduceCtorEq]
    refine ⟨⟨by omega,hso⟩,hso,fun _ vs3=>⟨⟨by omega,hso⟩,hso,⟨by omega,hj1⟩,hj1,⟨hx.1,hxc⟩,hxc,⟨_,rfl,rfl⟩,by rw [List.length_take];omega,?_⟩⟩
    exact ⟨(_,j+1),by dsimp only;omega,by dsimp only;omega,by rw [htk,List.map_append];rfl⟩
  · obtain rfl:j=row.length:=by omega
    simp only [Bz1n,Bz4c,Bzai,hg,List.take_length,decide_eq_false hlj,go_sem,yz0,xx9,xx8,xx6,xx7,xx5,xx0,xx1,xx2,reduceIte,xx3,xx4,reduceCtorEq]
    refine ⟨⟨by omega,hso⟩,hso,fun _ vs3=>?_⟩
    refine call_rowI (k_l05Sorted (row.map fun t=>cl.getD t.toNat 0) (by rw [List.length_map];omega)) qCS qWS ⟨_,rfl⟩ ?_
    rintro ys v rfl
    simp only [go_sem,yz0,xx9,xx8,xx6,xx7,xx5,xx0,xx1,xx2,reduceIte,xx3,xx4,reduceCtorEq]
    exact ⟨39,v,srt (row.map fun t=>cl.getD t.toNat 0),by omega,rfl,by simp only [go_sem,yz0,xx9,xx8,xx6,xx7,xx5,xx0,xx1,xx2,reduceIte,xx3,xx4,reduceCtorEq],hown.symm⟩
theorem k_A2Alike (code:List Int) (hb:∀ x∈code,0≤x∧x≤255) :
    Fn Try.prog nzh [.ro (some (some 0)) 1 (intsK .u8 code)] fun rows res=>∃ n next cl v w,Aut n next∧n≤6∧divB cl n=true∧congP next cl∧rows=[.row v 1 true (rws next),.row w 1 true (ints cl)]∧res=.tup [.st [iv n,.own 6000 v],.own 6001 w]:=by
  refine con_of mixed cze8 rfl (by simp) ?_
  generalize hQ:finQ _=Q
  simp only [Az2v,Bz5r,go_sem,yz0,xx9,xx8,xx6,xx7,xx5,xx0,xx1,xx2,reduceIte,xx3,xx4,reduceCtorEq]
  intro vs vs2
  refine call_sh (k_from code) qCS (fun _=>⟨_,_,_,rfl,0,rfl,rfl⟩) ?_
  rintro outs rows res ⟨rfl,v0,rfl,rfl⟩
  refine ⟨rfl,by simp,by rw [Option.getD_some,yzh];simp only [go_sem,yz0,xx9,xx8,xx6,xx7,xx5,xx0,xx1,xx2,reduceIte,xx3,xx4,reduceCtorEq],?_⟩
  simp only [Nat.not_lt_zero,range1,ren_val,ren_any,ren_ro,rnNm_n,rnNm_sn,rnNm_o,rnNm_s,ren_st,ren_tup,renL_nil,yzm,yzd,renL_rws,renL_rwn,oren_box,oren_row,oren_map,yze,yza,yzb,yzf,yzk,yzn,yz7,yz8,yzc,yz9,yzj,yzl,List.range_zero,yz5,yz6,yzg,gone_nil,yzh,gone_two,AVal.fresh,freshL,yz3,yzi,AObj.fresh,id,Option.isSome_some,or_true,true_or,go_sem,yz0,xx9,xx8,xx6,xx7,xx5,xx0,xx1,xx2,reduceIte,xx3,xx4,reduceCtorEq]
  refine call_con (r:=5) (k_l01AlikeD code 0 0 hb (by omega)) rfl qCS qCS ?_
  rintro outs rows res ⟨n,ps,v,w,xs,a',s',A,hdj,hn,hd,hc,h1,h2,rfl,rfl,rfl⟩
  refine ⟨rfl,by simp,by rw [Option.getD_some,gone_two];simp only [go_sem,yz0,xx9,xx8,xx6,xx7,xx5,xx0,xx1,xx2,reduceIte,xx3,xx4,reduceCtorEq],?_⟩
  rw [Option.getD_some,callHp_mrr (by omega) (by omega)]
  simp only [renL_rwp,dnL_rwp,Az2v,← hQ,Nat.not_lt_zero,range1,ren_val,ren_any,ren_ro,rnNm_n,rnNm_sn,rnNm_o,rnNm_s,ren_st,ren_tup,renL_nil,yzm,yzd,renL_rws,renL_rwn,oren_box,oren_row,oren_map,yze,yza,yzb,yzf,yzk,yzn,yz7,yz8,yzc,yz9,yzj,yzl,List.range_zero,yz5,yz6,yzg,gone_nil,yzh,gone_two,AVal.fresh,freshL,yz3,yzi,AObj.fresh,id,Option.isSome_some,or_true,true_or,go_sem,yz0,xx9,xx8,xx6,xx7,xx5,xx0,xx1,xx2,reduceIte,xx3,xx4,reduceCtorEq]
  refine ⟨[6,1006],by simp,by simp,by simp,?_⟩
  simp only [List.map_map,renL_rwp,dnL_rwp,Nat.not_lt_zero,range1,ren_val,ren_any,ren_ro,rnNm_n,rnNm_sn,rnNm_o,rnNm_s,ren_st,ren_tup,renL_nil,yzm,yzd,renL_rws,renL_rwn,oren_box,oren_row,oren_map,yze,yza,yzb,yzf,yzk,yzn,yz7,yz8,yzc,yz9,yzj,yzl,List.range_zero,yz5,yz6,yzg,gone_nil,yzh,gone_two,AVal.fresh,freshL,yz3,yzi,AObj.fresh,id,Option.isSome_some,or_true,true_or,go_sem,yz0,xx9,xx8,xx6,xx7,xx5,xx0,xx1,xx2,reduceIte,xx3,xx4,reduceCtorEq]
  exact ⟨n,ps.map (·.2),xs,_,_,A,hn,hd,hc,rfl,rfl⟩
theorem k_l05Ok (n:Int) (out:List (List Int)) (d:Nat) (R:RoadB n out d):Fun Try.prog nz2c [autP n out] (bv true):=by
  refine fun_of mixed czet rfl ⟨rfl,trivial⟩ ?_
  have n1:=R.n1
  have n7:=R.n7
  have hol:=R.ln
  have hw1:(decide (1≤n) && decide (n≤7))=true:=by simp [R.n1,R.n7]
  have hw2:(decide (1≤(d:Int)) && decide ((d:Int)≤3))=true:=by have:=R.d1;have:=R.d3;simp;omega
  have hb:((out.length:Int) != n)=false:=bneF R.ln
  have d3:=R.d3
  obtain ⟨h0,hm⟩:=R.get (s:=0) (by omega)
  have hd0:=(R.row _ hm).1
  simp only [Aza8,Bza7,go_sem,yz0,xx9,xx8,xx6,xx7,xx5,xx0,xx1,xx2,reduceIte,xx3,xx4,reduceCtorEq]
  intro vs
  refine yz4 (k_l00In n 1 7) qCS trivial ?_
  simp only [hw1,hb,rwn_getD h0,hd0,Bool.not_true,go_sem,yz0,xx9,xx8,xx6,xx7,xx5,xx0,xx1,xx2,reduceIte,xx3,xx4,reduceCtorEq]
  refine ⟨h0,h0,?_⟩
  refine yz4 (k_l00In d 1 3) qCS trivial ?_
  simp only [hw2,Bool.not_true,Bz9y,Bza6,Bza4,go_sem,yz0,xx9,xx8,xx6,xx7,xx5,xx0,xx1,xx2,reduceIte,xx3,xx4,reduceCtorEq]
  refine wpD_lo (fun s=>out.length - s) (fun s=>s≤out.length) (fun s:Nat=>⟨L .any [(0,autP n out),(3,iv s)],L .gone []⟩) 0 (by simp) (by simp only [Bz1k,go_sem,yz0,xx9,xx8,xx6,xx7,xx5,xx0,xx1,xx2,reduceIte,xx3,xx4,reduceCtorEq];try rfl) ?_
  intro s hs
  by_cases hlt:(s:Int)<out.length
  · have ws:IntKind.i64.wrap ((s:Int)+1)=((s+1:Nat):Int):=by rw [w64 (by omega)];simp
    obtain ⟨hso,hmem⟩:=R.get (s:=s) (by omega)
    obtain ⟨r1,r2,r3⟩:=R.row _ hmem
    have hg:=rwn_getD hso
    generalize out.getD s []=row at r1 r2 r3 hg
    have hb2:((row.length:Int) != (d:Int))=false:=bneF (by omega)
    simp only [Bz1k,Bz44,Bza3,hg,rwn_getD h0,hd0,hb2,decide_eq_true hlt,go_sem,yz0,xx9,xx8,xx6,xx7,xx5,xx0,xx1,xx2,reduceIte,xx3,xx4,reduceCtorEq]
    intro _
    refine ⟨⟨by omega,hso⟩,hso,h0,h0,?_⟩
    simp only [Bz9z,Bza1,Bza0,go_sem,yz0,xx9,xx8,xx6,xx7,xx5,xx0,xx1,xx2,reduceIte,xx3,xx4,reduceCtorEq]
    refine wpD_lo (fun k=>row.length - k) (fun k=>k≤row.length) (fun k:Nat=>⟨L .any [(0,autP n out),(3,iv s),(4,iv k)],L .gone []⟩) 0 (by simp) (by simp only [Bzc,go_sem,yz0,xx9,xx8,xx6,xx7,xx5,xx0,xx1,xx2,reduceIte,xx3,xx4,reduceCtorEq];try rfl) ?_
    intro k hk
    by_cases hlk:(k:Int)<row.length
    · have hk1:k<row.length:=by omega
      have wk:IntKind.i64.wrap ((k:Int)+1)=((k+1:Nat):Int):=by rw [w64 (by omega)];simp
      have wn:IntKind.i64.wrap (n - 1)=n - 1:=w64 (by omega)
      have hx:=r2 _ (getD_mem hk1 0)
      have hxw:(decide (0≤row.getD k 0) && decide (row.getD k 0≤n - 1))=true:=by simp only [Bool.and_eq_true,decide_eq_true_eq];omega
      have hgk:=yz1 (k:=.i64) hk1
      by_cases h0k:(k:Int) > 0
      · have wk1:IntKind.i64.wrap ((k:Int) - 1)=((k - 1:Nat):Int):=by rw [w64 (by omega)];omega
        have hk2:k - 1<row.length:=by omega
        have hle:=srt_le r3 (i:=k - 1) (by omega)
        rw [show k - 1+1=k by omega] at hle
        have hgt:¬ row.getD (k - 1) 0 > row.getD k 0:=by omega
        simp only [Bzc,Bz1j,Bz47,hg,hgk,yz1 hk2,wn,wk1,decide_eq_true hlk,decide_eq_true h0k,decide_eq_false hgt,go_sem,yz0,xx9,xx8,xx6,xx7,xx5,xx0,xx1,xx2,reduceIte,xx3,xx4,reduceCtorEq]
        refine ⟨⟨by omega,hso⟩,hso,fun _ vs3=>⟨⟨by omega,hso⟩,hso,⟨by omega,hk1⟩,hk1,?_⟩⟩
        refine yz4 (k_l00In (row.getD k 0) 0 (n - 1)) qCS trivial ?_
        simp only [hxw,Bool.not_true,hg,hgk,yz1 hk2,wk1,decide_eq_true h0k,decide_eq_false hgt,Bz45,Bz46,wk,go_sem,yz0,xx9,xx8,xx6,xx7,xx5,xx0,xx1,xx2,reduceIte,xx3,xx4,reduceCtorEq]
        exact ⟨⟨by omega,hso⟩,hso,⟨by omega,hk2⟩,hk2,⟨by omega,hso⟩,hso,⟨by omega,hk1⟩,hk1,k+1,by omega,by omega,rfl⟩
      · simp only [Bzc,Bz1j,Bz47,hg,hgk,wn,decide_eq_true hlk,decide_eq_false h0k,go_sem,yz0,xx9,xx8,xx6,xx7,xx5,xx0,xx1,xx2,reduceIte,xx3,xx4,reduceCtorEq]
        refine ⟨⟨by omega,hso⟩,hso,fun _ vs3=>⟨⟨by omega,hso⟩,hso,⟨by omega,hk1⟩,hk1,?_⟩⟩
        refine yz4 (k_l00In (row.getD k 0) 0 (n - 1)) qCS trivial ?_
        simp only [hxw,Bool.not_true,hg,hgk,decide_eq_false h0k,Bz45,Bz46,wk,go_sem,yz0,xx9,xx8,xx6,xx7,xx5,xx0,xx1,xx2,reduceIte,xx3,xx4,reduceCtorEq]
        exact ⟨k+1,by omega,by omega,rfl⟩
    · simp only [Bzc,Bz1j,Bza2,hg,ws,decide_eq_false hlk,go_sem,yz0,xx9,xx8,xx6,xx7,xx5,xx0,xx1,xx2,reduceIte,xx3,xx4,reduceCtorEq]
      exact ⟨⟨by omega,hso⟩,hso,fun _=>⟨s+1,by omega,by omega,rfl⟩⟩
  · simp only [Bz1k,Bz44,Bza5,decide_eq_false hlt,go_sem,yz0,xx9,xx8,xx6,xx7,xx5,xx0,xx1,xx2,reduceIte,xx3,xx4,reduceCtorEq]
    try (intros;trivial)
structure ConS (out:List (List Int)) (cl:List Int) (os:List (List Int)) (s:Nat):Prop where
  ln:(os.length:Int)=usedS 0 (cl.take s)
  a:∀ t<s,os.getD (cl.getD t 0).toNat []=ownL out cl t
theorem ConS.rc {out:List (List Int)} {cl:List Int} {os:List (List Int)} (h:ConS out cl os cl.length) {n k:Int} (D:Div cl n k):rcP out cl:=by
  intro s t hs ht he
  rw [← h.a s hs,← h.a t ht,he]
theorem take_cls {cl:List Int} {s t:Nat} (h:t<s) (hs:s≤cl.length):cl.getD t 0∈cl.take s:=by
  have h1:t<(cl.take s).length:=by rw [List.length_take];omega
  have e:(cl.take s).getD t 0=cl.getD t 0:=by
    rw [List.getD_eq_getElem?_getD,List.getD_eq_getElem?_getD,List.getElem?_take_of_lt h]
  rw [← e];exact getD_mem h1 0
theorem k_specContract (n:Int) (out:List (List Int)) (d:Nat) (cl:List Int) (R:RoadB n out d) :
    Fn Try.prog nz25 [autA n out,.ro none 1 (ints cl)] fun rows res =>
      (divB cl n=false∧rows=[]∧res=.tup [.st [iv 0,.val (.slice none 0 0)],iv 2])∨(divB cl n=true∧¬ rcP out cl∧rows=[]∧res=.tup [.st [iv 0,.val (.slice none 0 0)],iv 4]) ∨
      (divB cl n=true∧rcP out cl∧∃ v k os,rows=[.row v 1 true (rws os)]∧res=.tup [.st [iv k,.own 6000 v],iv 0]):=by
  refine con_of mixed czee rfl (by simp) ?_
  have n1:=R.n1
  have n7:=R.n7
  have hol:=R.ln
  generalize hQ:finQ _=Q
  simp only [Aza,Bz7c,go_sem,yz0,xx9,xx8,xx6,xx7,xx5,xx0,xx1,xx2,reduceIte,xx3,xx4,reduceCtorEq]
  intro vs vs2
  refine yz4 (k_l05Ok n out d R) qCS trivial ?_
  simp only [Bool.not_true,Bz74,Bz7b,go_sem,yz0,xx9,xx8,xx6,xx7,xx5,xx0,xx1,xx2,reduceIte,xx3,xx4,reduceCtorEq]
  intro vs3
  refine yz4 (k_l01Division cl n) qCS trivial ?_
  cases hd:divB cl n with
  | false =>
    simp only [Bz36,Bool.not_false,Aza,← hQ,go_sem,yz0,xx9,xx8,xx6,xx7,xx5,xx0,xx1,xx2,reduceIte,xx3,xx4,reduceCtorEq]
    refine ⟨[],by simp,by simp,by simp,?_⟩
    simp only [List.length_singleton,Nat.not_lt_zero,range1,ren_val,ren_any,ren_ro,rnNm_n,rnNm_sn,rnNm_o,rnNm_s,ren_st,ren_tup,renL_nil,yzm,yzd,renL_rws,renL_rwn,oren_box,oren_row,oren_map,yze,yza,yzb,yzf,yzk,yzn,yz7,yz8,yzc,yz9,yzj,yzl,List.range_zero,yz5,yz6,yzg,gone_nil,yzh,gone_two,AVal.fresh,freshL,yz3,yzi,AObj.fresh,id,Option.isSome_some,or_true,true_or,go_sem,yz0,xx9,xx8,xx6,xx7,xx5,xx0,xx1,xx2,reduceIte,xx3,xx4,reduceCtorEq]
    exact .inl hd
  | true =>
    have D:=Div.of hd
    generalize hk:usedS 0 cl=k at D
    have hk1:=D.pos n1
    have hkn:=D.le
    have hln:=D.ln
    have hds:divS 0 cl=true:=by
      unfold divB at hd
      rw [Bool.and_eq_true] at hd
      exact hd.1
    simp only [Bz36,Bz7a,Bool.not_true,go_sem,yz0,xx9,xx8,xx6,xx7,xx5,xx0,xx1,xx2,reduceIte,xx3,xx4,reduceCtorEq]
    intro vs4
    simp only [Bz79,Bz77,go_sem,yz0,xx9,xx8,xx6,xx7,xx5,xx0,xx1,xx2,reduceIte,xx3,xx4,reduceCtorEq]
    intro ver
    refine wpD_lo (fun (_,_,_,s)=>cl.length - s) (fun (_,nn,os,s)=>s≤cl.length∧ConS out cl os s∧(nn=false→s=0))
      (fun ((v43,nn,os,s):Nat×Bool×List (List Int)×Nat)=>⟨L .any [(1,.ro none 1 (ints cl)),(2,.ptr 2 (vs 0 0) 0),(4,.ptr 4 (vs 1 0) 0),(6,.ptr 6 (vs4 1 0) 0),(7,iv s)],
        L .gone [(2,.box (vs 0 0) [iv n,.ro none 1 (rwn out)]),(4,.box (vs 1 0) [iv 0,.val (.slice none 0 0)]),(6,.box (vs4 1 0) [iv os.length,.own 43 v43]),(43,.row v43 1 nn (rws os))]⟩)
      (ver,false,[],0) ⟨by simp,⟨by simp [usedS],fun t h=>by omega⟩,by simp⟩ (by simp only [Bz14,go_sem,yz0,xx9,xx8,xx6,xx7,xx5,xx0,xx1,xx2,reduceIte,xx3,xx4,reduceCtorEq];try rfl) ?_
    rintro ⟨v43,nn,os,s⟩ ⟨hs,I,hnn⟩
    have hs:s≤cl.length:=hs
    have I:ConS out cl os s:=I
    have hnn:nn=false→s=0:=hnn
    by_cases hlt:(s:Int)<cl.length
    · have hs1:s<cl.length:=by omega
      have ws:IntKind.i64.wrap ((s:Int)+1)=((s+1:Nat):Int):=by rw [w64 (by omega)];simp
      have hsc:=D.at (s:=s) (by omega)
      have hgc:=yz1 (k:=.i64) hs1
      have htk:=take_getD hs1
      have hus:=used_snoc (cs:=cl.take s) (u:=0) (c:=cl.getD s 0)
      have hdc:cl.getD s 0≤usedS 0 (cl.take s):=by
        have h1:=div_take hds (s+1)
        rw [htk,divS_snoc] at h1
        simp at h1
        have e:cl.getD s 0=cl[s]?.getD 0:=List.getD_eq_getElem?_getD
        omega
      rw [← htk] at hus
      have hul:=used_len (div_take hds s)
      have htl:(cl.take s).length=s:=by rw [List.length_take];omega
      have hln2:=I.ln
      have hmx:∀ t<s,cl.getD t 0+1≤usedS 0 (cl.take s):=fun t ht=>used_mem (take_cls ht hs)
      simp only [Bz14,Bz37,Bz76,decide_eq_true hlt,go_sem,yz0,xx9,xx8,xx6,xx7,xx5,xx0,xx1,xx2,reduceIte,xx3,xx4,reduceCtorEq]
      intro hM vs5
      refine call_rowI (k_l05Led n out d cl s R D.ln (by omega)) qCS qWS ⟨_,rfl⟩ ?_
      rintro ys v27 rfl
      by_cases hc:cl.getD s 0=os.length
      · have hcb:(cl.getD s 0 == (os.length:Int))=true:=beqT hc
        have wu:IntKind.i64.wrap ((os.length:Int)+1)=((os.length+1:Nat):Int):=by rw [w64 (by omega)];simp
        have I2:ConS out cl (os ++ [ownL out cl s]) (s+1):=by
          refine ⟨by rw [List.length_append,List.length_singleton,hus];omega,fun t ht=>?_⟩
          by_cases e:t=s
          · subst e
            rw [List.getD_eq_getElem?_getD,List.getElem?_append_right (by omega),show (cl.getD t 0).toNat - os.length=0 by omega];rfl
          · have h1:=D.at (s:=t) (by omega)
            have h2:=hmx t (by omega)
            rw [List.getD_eq_getElem?_getD,List.getElem?_append_left (by omega),← List.getD_eq_getElem?_getD]
            exact I.a t (by omega)
        simp only [Bz3a,Bz39,hgc,hcb,wu,go_sem,yz0,xx9,xx8,xx6,xx7,xx5,xx0,xx1,xx2,reduceIte,xx3,xx4,reduceCtorEq]
        refine ⟨⟨by omega,hs1⟩,hs1,?_⟩
        simp only [Bz75,Bz3b,ws,go_sem,yz0,xx9,xx8,xx6,xx7,xx5,xx0,xx1,xx2,reduceIte,xx3,xx4,reduceCtorEq]
        intro vs6
        refine ⟨by omega,?_⟩
        exact ⟨(_,true,os ++ [ownL out cl s],s+1),by dsimp only;omega,⟨by dsimp only;omega,I2,by simp⟩,by simp only [List.length_append,List.length_singleton];rfl⟩
      · have hcb:(cl.getD s 0 == (os.length:Int))=false:=beqF hc
        have hcl:(cl.getD s 0).toNat<os.length:=by omega
        simp only [Bz3a,Bz39,hgc,hcb,rws_getD hcl,go_sem,yz0,xx9,xx8,xx6,xx7,xx5,xx0,xx1,xx2,reduceIte,xx3,xx4,reduceCtorEq]
        refine ⟨⟨by omega,hs1⟩,hs1,?_⟩
        intro vs6
        refine ⟨⟨by omega,hs1⟩,hs1,⟨hsc.1,hcl⟩,hcl,?_⟩
        refine yz4 (k_l00Same (os.getD (cl.getD s 0).toNat []) (ownL out cl s)) qCS trivial ?_
        have hus2:usedS 0 (cl.take (s+1))=usedS 0 (cl.take s):=by rw [hus];omega
        by_cases hw:os.getD (cl.getD s 0).toNat []=ownL out cl s
        · have I2:ConS out cl os (s+1):=by
            refine ⟨by rw [hus2];exact hln2,fun t ht=>?_⟩
            by_cases e:t=s
            · subst e;exact hw
            · exact I.a t (by omega)
          simp only [decide_eq_true hw,Bool.not_true,Bz38,Bz3b,ws,go_sem,yz0,xx9,xx8,xx6,xx7,xx5,xx0,xx1,xx2,reduceIte,xx3,xx4,reduceCtorEq]
          exact ⟨(v43,nn,os,s+1),by dsimp only;omega,⟨by dsimp only;omega,I2,fun h=>by have:=hnn h;subst this;have h0:=I.ln;simp [usedS] at h0;subst h0;simp at hcl⟩,rfl⟩
        · have hno:¬ rcP out cl:=by
            intro hrc
            have hmem:=div_surj (u:=0) (div_take hds s) (c:=cl.getD s 0) hsc.1 (by omega)
            obtain ⟨t,ht,he⟩:=List.mem_iff_getElem.1 hmem
            rw [List.getElem_take] at he
            have ht2:t<s:=by rw [List.length_take] at ht;omega
            have he2:cl.getD t 0=cl.getD s 0:=by rw [List.getD_eq_getElem?_getD,List.getElem?_eq_getElem (by omega)];exact he
            have h1:=I.a t ht2
            rw [he2] at h1
            exact hw (h1.trans (hrc t s (by omega) hs1 he2))
          simp only [decide_eq_false hw,Bool.not_false,Bz38,Aza,← hQ,go_sem,yz0,xx9,xx8,xx6,xx7,xx5,xx0,xx1,xx2,reduceIte,xx3,xx4,reduceCtorEq]
          refine ⟨[],by simp,by simp,by simp,?_⟩
          simp only [List.length_singleton,Nat.not_lt_zero,range1,ren_val,ren_any,ren_ro,rnNm_n,rnNm_sn,rnNm_o,rnNm_s,ren_st,ren_tup,renL_nil,yzm,yzd,renL_rws,renL_rwn,oren_box,oren_row,oren_map,yze,yza,yzb,yzf,yzk,yzn,yz7,yz8,yzc,yz9,yzj,yzl,List.range_zero,yz5,yz6,yzg,gone_nil,yzh,gone_two,AVal.fresh,freshL,yz3,yzi,AObj.fresh,id,Option.isSome_some,or_true,true_or,go_sem,yz0,xx9,xx8,xx6,xx7,xx5,xx0,xx1,xx2,reduceIte,xx3,xx4,reduceCtorEq]
          exact .inr (.inl ⟨hd,hno⟩)
    · obtain rfl:s=cl.length:=by omega
      obtain rfl:nn=true:=by
        cases nn with
        | true=>rfl
        | false=>have:=hnn rfl;omega
      simp only [Bz14,Bz37,Bz78,decide_eq_false hlt,Aza,← hQ,go_sem,yz0,xx9,xx8,xx6,xx7,xx5,xx0,xx1,xx2,reduceIte,xx3,xx4,reduceCtorEq]
      intro _
      refine ⟨[43],by simp,by simp,by simp,?_⟩
      simp only [range1,List.length_singleton,Nat.not_lt_zero,range1,ren_val,ren_any,ren_ro,rnNm_n,rnNm_sn,rnNm_o,rnNm_s,ren_st,ren_tup,renL_nil,yzm,yzd,renL_rws,renL_rwn,oren_box,oren_row,oren_map,yze,yza,yzb,yzf,yzk,yzn,yz7,yz8,yzc,yz9,yzj,yzl,List.range_zero,yz5,yz6,yzg,gone_nil,yzh,gone_two,AVal.fresh,freshL,yz3,yzi,AObj.fresh,id,Option.isSome_some,or_true,true_or,go_sem,yz0,xx9,xx8,xx6,xx7,xx5,xx0,xx1,xx2,reduceIte,xx3,xx4,reduceCtorEq]
      exact .inr (.inr ⟨hd,I.rc D,_,_,os,rfl,rfl⟩)
end Go.Ab
namespace Go.Ab
open Go.Proofs
theorem k_FnContract (code more:List Int) (hb:∀ x∈code,0≤x∧x≤255) (hb2:∀ x∈more,0≤x∧x≤255) :
    Fun Try.prog nz5a [.ro (some (some 0)) 1 (intsK .u8 code),.ro (some (some 0)) 1 (intsK .u8 more)] (bv true):=by
  refine fun_of mixed cze6 rfl ⟨rfl,trivial⟩ ?_
  simp only [Az5o,Bz5n,go_sem,yz0,xx9,xx8,xx6,xx7,xx5,xx0,xx1,xx2,reduceIte,xx3,xx4,reduceCtorEq]
  intro vs
  refine yz4 (k_a2Long code more) qCS trivial ?_
  simp only [Bz5b,Bz5m,go_sem,yz0,xx9,xx8,xx6,xx7,xx5,xx0,xx1,xx2,reduceIte,xx3,xx4,reduceCtorEq]
  intro _ vs2
  refine call_fn (k_A2Alike code hb) (by simp only [coe_argN,rowIs,boxIs,coe_argN,coe_argNs,coe_ro_o,coeL_nil,coeL_cons,coe_any,coe_val,coe_ro,coe_ro_nil,coe_ro_own,coe_st,coe_st_agg,coe_rp,coe_rp_ptr,coe_clo,coe_own0,coe_ptr0,coeL_intsK,coeL_rws,coeL_rwn,L_hit,L_miss,L_nil,xx3,ne_eq,reduceCtorEq,not_false_eq_true,true_and,and_true,and_self,exists_eq_left,exists_eq_right,List.mem_cons,List.not_mem_nil,or_false,AObj.row.injEq,AObj.box.injEq,exists_eq_left',exists_and_left,exists_eq,Nat.zero_lt_one,Nat.lt_add_one,List.map_cons,List.map_nil,AObj.ver,xx5,not_true_eq_false]) (fun e=>by cases e) ?_
  rintro rows res ⟨n,next,cl,v,w,A,n6,hd,hc,rfl,rfl⟩
  refine ⟨by simp,by rw [Option.getD_some,gone_two];simp only [go_sem,yz0,xx9,xx8,xx6,xx7,xx5,xx0,xx1,xx2,reduceIte,xx3,xx4,reduceCtorEq],?_⟩
  have n1:=A.n1
  have n2:=A.n2
  have D:=Div.of hd
  generalize hk:usedS 0 cl=k at D
  have hk1:=D.pos n1
  have hkn:=D.le
  have Q:=quo_aut A D
  have R:=road_ok A (by omega)
  have hrc:=road_cong D hc
  have hrd:=road_con (by omega) D (next:=next)
  have e00:((0:Int) != 0)=false:=rfl
  simp only [Option.getD_some,Bz5l,Nat.not_lt_zero,range1,ren_val,ren_any,ren_ro,rnNm_n,rnNm_sn,rnNm_o,rnNm_s,ren_st,ren_tup,renL_nil,yzm,yzd,renL_rws,renL_rwn,oren_box,oren_row,oren_map,yze,yza,yzb,yzf,yzk,yzn,yz7,yz8,yzc,yz9,yzj,yzl,List.range_zero,yz5,yz6,yzg,gone_nil,yzh,gone_two,AVal.fresh,freshL,yz3,yzi,AObj.fresh,id,Option.isSome_some,or_true,true_or,go_sem,yz0,xx9,xx8,xx6,xx7,xx5,xx0,xx1,xx2,reduceIte,xx3,xx4,reduceCtorEq]
  intro vs3
  refine call_fn (k_RoadsOf n next A (by omega)) qCS (fun e=>by cases e) ?_
  rintro rows res ⟨v31,rfl,rfl⟩
  refine ⟨by simp,by rw [Option.getD_some,yzh];simp only [go_sem,yz0,xx9,xx8,xx6,xx7,xx5,xx0,xx1,xx2,reduceIte,xx3,xx4,reduceCtorEq],?_⟩
  simp only [Option.getD_some,Bz5k,Nat.not_lt_zero,range1,ren_val,ren_any,ren_ro,rnNm_n,rnNm_sn,rnNm_o,rnNm_s,ren_st,ren_tup,renL_nil,yzm,yzd,renL_rws,renL_rwn,oren_box,oren_row,oren_map,yze,yza,yzb,yzf,yzk,yzn,yz7,yz8,yzc,yz9,yzj,yzl,List.range_zero,yz5,yz6,yzg,gone_nil,yzh,gone_two,AVal.fresh,freshL,yz3,yzi,AObj.fresh,id,Option.isSome_some,or_true,true_or,go_sem,yz0,xx9,xx8,xx6,xx7,xx5,xx0,xx1,xx2,reduceIte,xx3,xx4,reduceCtorEq]
  intro vs4
  refine call_fn (k_QuotientOf n k next cl A hd D hc) qCS (fun e=>by cases e) ?_
  rintro rows res ⟨v37,rfl,rfl⟩
  refine ⟨by simp,by rw [Option.getD_some,yzh];simp only [go_sem,yz0,xx9,xx8,xx6,xx7,xx5,xx0,xx1,xx2,reduceIte,xx3,xx4,reduceCtorEq],?_⟩
  simp only [Option.getD_some,Bz5j,Nat.not_lt_zero,range1,ren_val,ren_any,ren_ro,rnNm_n,rnNm_sn,rnNm_o,rnNm_s,ren_st,ren_tup,renL_nil,yzm,yzd,renL_rws,renL_rwn,oren_box,oren_row,oren_map,yze,yza,yzb,yzf,yzk,yzn,yz7,yz8,yzc,yz9,yzj,yzl,List.range_zero,yz5,yz6,yzg,gone_nil,yzh,gone_two,AVal.fresh,freshL,yz3,yzi,AObj.fresh,id,Option.isSome_some,or_true,true_or,go_sem,yz0,xx9,xx8,xx6,xx7,xx5,xx0,xx1,xx2,reduceIte,xx3,xx4,reduceCtorEq]
  intro vs5
  refine call_fn (k_ContractRoads n _ _ cl R) qCS (fun e=>by cases e) ?_
  rintro rows res (⟨h,_⟩ | ⟨_,h,_⟩ | ⟨_,_,v43,rfl,rfl⟩)
  · rw [hd] at h;cases h
  · exact absurd hrc h
  refine ⟨by simp,by rw [Option.getD_some,yzh];simp only [go_sem,yz0,xx9,xx8,xx6,xx7,xx5,xx0,xx1,xx2,reduceIte,xx3,xx4,reduceCtorEq],?_⟩
  rw [hk,hrd]
  simp only [Option.getD_some,e00,Bz5i,Bz5c,Bz5h,Nat.not_lt_zero,range1,ren_val,ren_any,ren_ro,rnNm_n,rnNm_sn,rnNm_o,rnNm_s,ren_st,ren_tup,renL_nil,yzm,yzd,renL_rws,renL_rwn,oren_box,oren_row,oren_map,yze,yza,yzb,yzf,yzk,yzn,yz7,yz8,yzc,yz9,yzj,yzl,List.range_zero,yz5,yz6,yzg,gone_nil,yzh,gone_two,AVal.fresh,freshL,yz3,yzi,AObj.fresh,id,Option.isSome_some,or_true,true_or,go_sem,yz0,xx9,xx8,xx6,xx7,xx5,xx0,xx1,xx2,reduceIte,xx3,xx4,reduceCtorEq]
  intro vs6
  refine call_fun2 (k_IsColouring k _ Q (by omega)) qCS ?_
  simp only [e00,Bool.not_true,Bz5g,Bz5d,Bz5f,go_sem,yz0,xx9,xx8,xx6,xx7,xx5,xx0,xx1,xx2,reduceIte,xx3,xx4,reduceCtorEq]
  intro vs7
  refine call_fn (k_A2Alike more hb2) (by simp only [coe_argN,rowIs,boxIs,coe_argN,coe_argNs,coe_ro_o,coeL_nil,coeL_cons,coe_any,coe_val,coe_ro,coe_ro_nil,coe_ro_own,coe_st,coe_st_agg,coe_rp,coe_rp_ptr,coe_clo,coe_own0,coe_ptr0,coeL_intsK,coeL_rws,coeL_rwn,L_hit,L_miss,L_nil,xx3,ne_eq,reduceCtorEq,not_false_eq_true,true_and,and_true,and_self,exists_eq_left,exists_eq_right,List.mem_cons,List.not_mem_nil,or_false,AObj.row.injEq,AObj.box.injEq,exists_eq_left',exists_and_left,exists_eq,Nat.zero_lt_one,Nat.lt_add_one,List.map_cons,List.map_nil,AObj.ver,xx5,not_true_eq_false]) (fun e=>by cases e) ?_
  rintro rows res ⟨n',next',cl',v',w',A',n6',hd',hc',rfl,rfl⟩
  refine ⟨by simp,by rw [Option.getD_some,gone_two];simp only [go_sem,yz0,xx9,xx8,xx6,xx7,xx5,xx0,xx1,xx2,reduceIte,xx3,xx4,reduceCtorEq],?_⟩
  simp only [Option.getD_some,Bz5e,Nat.not_lt_zero,range1,ren_val,ren_any,ren_ro,rnNm_n,rnNm_sn,rnNm_o,rnNm_s,ren_st,ren_tup,renL_nil,yzm,yzd,renL_rws,renL_rwn,oren_box,oren_row,oren_map,yze,yza,yzb,yzf,yzk,yzn,yz7,yz8,yzc,yz9,yzj,yzl,List.range_zero,yz5,yz6,yzg,gone_nil,yzh,gone_two,AVal.fresh,freshL,yz3,yzi,AObj.fresh,id,Option.isSome_some,or_true,true_or,go_sem,yz0,xx9,xx8,xx6,xx7,xx5,xx0,xx1,xx2,reduceIte,xx3,xx4,reduceCtorEq]
  intro vs8
  have hS:=k_specContract n _ _ cl' R
  have hI:=k_ContractRoads n _ _ cl' R
  refine call_fn hS qCS (fun e=>by cases e) ?_
  rintro rows res (⟨h1,rfl,rfl⟩ | ⟨h1,h2,rfl,rfl⟩ | ⟨h1,h2,v76,k',os,rfl,rfl⟩)
  · refine ⟨by simp,by simp,?_⟩
    simp only [Option.getD_some,Bzy,Nat.not_lt_zero,range1,ren_val,ren_any,ren_ro,rnNm_n,rnNm_sn,rnNm_o,rnNm_s,ren_st,ren_tup,renL_nil,yzm,yzd,renL_rws,renL_rwn,oren_box,oren_row,oren_map,yze,yza,yzb,yzf,yzk,yzn,yz7,yz8,yzc,yz9,yzj,yzl,List.range_zero,yz5,yz6,yzg,gone_nil,yzh,gone_two,AVal.fresh,freshL,yz3,yzi,AObj.fresh,id,Option.isSome_some,or_true,true_or,go_sem,yz0,xx9,xx8,xx6,xx7,xx5,xx0,xx1,xx2,reduceIte,xx3,xx4,reduceCtorEq]
    intro vs9
    refine call_fn hI qCS (fun e=>by cases e) ?_
    rintro rows res (⟨_,rfl,rfl⟩ | ⟨h,_⟩ | ⟨h,_⟩)
    · refine ⟨by simp,by simp,?_⟩
      simp only [Option.getD_some,beq_self_eq_true,Bzx,Nat.not_lt_zero,range1,ren_val,ren_any,ren_ro,rnNm_n,rnNm_sn,rnNm_o,rnNm_s,ren_st,ren_tup,renL_nil,yzm,yzd,renL_rws,renL_rwn,oren_box,oren_row,oren_map,yze,yza,yzb,yzf,yzk,yzn,yz7,yz8,yzc,yz9,yzj,yzl,List.range_zero,yz5,yz6,yzg,gone_nil,yzh,gone_two,AVal.fresh,freshL,yz3,yzi,AObj.fresh,id,Option.isSome_some,or_true,true_or,go_sem,yz0,xx9,xx8,xx6,xx7,xx5,xx0,xx1,xx2,reduceIte,xx3,xx4,reduceCtorEq]
    · rw [h1] at h;cases h
    · rw [h1] at h;cases h
  · refine ⟨by simp,by simp,?_⟩
    simp only [Option.getD_some,Bzy,Nat.not_lt_zero,range1,ren_val,ren_any,ren_ro,rnNm_n,rnNm_sn,rnNm_o,rnNm_s,ren_st,ren_tup,renL_nil,yzm,yzd,renL_rws,renL_rwn,oren_box,oren_row,oren_map,yze,yza,yzb,yzf,yzk,yzn,yz7,yz8,yzc,yz9,yzj,yzl,List.range_zero,yz5,yz6,yzg,gone_nil,yzh,gone_two,AVal.fresh,freshL,yz3,yzi,AObj.fresh,id,Option.isSome_some,or_true,true_or,go_sem,yz0,xx9,xx8,xx6,xx7,xx5,xx0,xx1,xx2,reduceIte,xx3,xx4,reduceCtorEq]
    intro vs9
    refine call_fn hI qCS (fun e=>by cases e) ?_
    rintro rows res (⟨h,_⟩ | ⟨_,_,rfl,rfl⟩ | ⟨_,h,_⟩)
    · rw [h1] at h;cases h
    · refine ⟨by simp,by simp,?_⟩
      simp only [Option.getD_some,beq_self_eq_true,Bzx,Nat.not_lt_zero,range1,ren_val,ren_any,ren_ro,rnNm_n,rnNm_sn,rnNm_o,rnNm_s,ren_st,ren_tup,renL_nil,yzm,yzd,renL_rws,renL_rwn,oren_box,oren_row,oren_map,yze,yza,yzb,yzf,yzk,yzn,yz7,yz8,yzc,yz9,yzj,yzl,List.range_zero,yz5,yz6,yzg,gone_nil,yzh,gone_two,AVal.fresh,freshL,yz3,yzi,AObj.fresh,id,Option.isSome_some,or_true,true_or,go_sem,yz0,xx9,xx8,xx6,xx7,xx5,xx0,xx1,xx2,reduceIte,xx3,xx4,reduceCtorEq]
    · exact absurd h h2
  · refine ⟨by simp,by rw [Option.getD_some,yzh];simp only [go_sem,yz0,xx9,xx8,xx6,xx7,xx5,xx0,xx1,xx2,reduceIte,xx3,xx4,reduceCtorEq],?_⟩
    simp only [Option.getD_some,Bzy,Nat.not_lt_zero,range1,ren_val,ren_any,ren_ro,rnNm_n,rnNm_sn,rnNm_o,rnNm_s,ren_st,ren_tup,renL_nil,yzm,yzd,renL_rws,renL_rwn,oren_box,oren_row,oren_map,yze,yza,yzb,yzf,yzk,yzn,yz7,yz8,yzc,yz9,yzj,yzl,List.range_zero,yz5,yz6,yzg,gone_nil,yzh,gone_two,AVal.fresh,freshL,yz3,yzi,AObj.fresh,id,Option.isSome_some,or_true,true_or,go_sem,yz0,xx9,xx8,xx6,xx7,xx5,xx0,xx1,xx2,reduceIte,xx3,xx4,reduceCtorEq]
    intro vs9
    refine call_fn hI qCS (fun e=>by cases e) ?_
    rintro rows res (⟨h,_⟩ | ⟨_,h,_⟩ | ⟨_,_,v82,rfl,rfl⟩)
    · rw [h1] at h;cases h
    · exact absurd h2 h
    · refine ⟨by simp,by rw [Option.getD_some,yzh];simp only [go_sem,yz0,xx9,xx8,xx6,xx7,xx5,xx0,xx1,xx2,reduceIte,xx3,xx4,reduceCtorEq],?_⟩
      simp only [Option.getD_some,beq_self_eq_true,Bzx,Nat.not_lt_zero,range1,ren_val,ren_any,ren_ro,rnNm_n,rnNm_sn,rnNm_o,rnNm_s,ren_st,ren_tup,renL_nil,yzm,yzd,renL_rws,renL_rwn,oren_box,oren_row,oren_map,yze,yza,yzb,yzf,yzk,yzn,yz7,yz8,yzc,yz9,yzj,yzl,List.range_zero,yz5,yz6,yzg,gone_nil,yzh,gone_two,AVal.fresh,freshL,yz3,yzi,AObj.fresh,id,Option.isSome_some,or_true,true_or,go_sem,yz0,xx9,xx8,xx6,xx7,xx5,xx0,xx1,xx2,reduceIte,xx3,xx4,reduceCtorEq]
end Go.Ab
