/- Contracts and what they lean on, part 8. Conditions: none. -/
import Derived.Test.YtkongfngkjbmpaaGreatZ7
set_option maxRecDepth 100000
set_option maxHeartbeats 4000000
set_option linter.all false
open Nat renaming reduceLeDiff → xx0, reduceMul → xx1, reduceSub → xx2, reduceEqDiff → xx3, reduceAdd → xx4, reduceLT → xx5
open Int renaming reduceToNat → xx6, reduceNeg → xx7, reduceLE → xx8, reduceLT → xx9
namespace Go.Ab
open Go.Proofs
theorem k_Sort (zs:List Int) (nn:Bool) (hz:zs.length<4611686018427387904):Con Tryz.prog nz6e [.row 0 1 nn (ints zs)] [.own 5000 0] true
    fun outs rows res=>outs=[.row 0 1 nn (ints (zs.mergeSort fun x y=>decide (x≤y)))]∧rows=[]∧res=.tup []:=by
  refine con_inrow x_slices_Sort_LI zs _ (by simp) (fun g off cap w hH hb _ _=>?_) (fun p cap w=>?_) nn
  · refine (AnyG.slices_Sort_int Tryz.lsort g off cap zs w hH hb hz).mono ?_
    rintro e w' ⟨he,n,os,hw⟩
    exact ⟨he,n,os,hw⟩
  · exact AnyG.slices_Sort_int_none Tryz.lsort p cap w
theorem k_Compact (zs:List Int) (nn:Bool):Con Tryz.prog nz6f [.row 0 1 nn (ints zs)] [.own 5000 0] true
    fun outs rows res=>∃ v,outs=[.row v 1 nn (ints (Lib.compact zs))]∧rows=[]∧res=.own 5000 v:=by
  have hl:=compact_len zs
  have h:=con_inrowS x_slices_Compact_LI zs (Lib.compact zs ++ List.replicate (zs.length - (Lib.compact zs).length) 0) (Lib.compact zs).length (by simp;omega) hl
    (fun g off cap w hH hb hm hc=>by
      refine (AnyG.slices_Compact_int Tryz.lcompact g off cap zs w hH (by have:=maxLen_le;omega) hc).mono ?_
      rintro e w' ⟨he,q,hw⟩
      exact ⟨he,q,#[],by rw [Sort.grow_empty];exact hw⟩)
    (fun p cap w=>AnyG.slices_Compact_int_empty Tryz.lcompact p cap w) nn
  rw [List.take_left] at h
  exact h
theorem call_row1 {P:Program} {σ:St} {g:FuncId} {As:List AVal} {d:Option Nat} {s:Nat→Nat} {K:St→Prop} {r v:Nat} {cs cs':List AVal} {nn:Bool} {R:List AObj→List AObj→AVal→Prop}
    (h:Con P g [.row 0 1 nn cs'] [.own 5000 0] true R) (hr:σ.hp r=.row v 1 nn cs) (hco:CoeL σ.hp [r] false cs' cs) (hA:As=[.own r v])
    (hk:∀ outs rows res,R outs rows res→rows=[]∧∃ o,outs=[o]∧K (St.put ⟨σ.tm,upd σ.hp r (o.ren (rid [r] (d.getD 0) 0) (sv σ.hp [r] s))⟩ d (res.ren (rid [r] (d.getD 0) 0) (sv σ.hp [r] s)))) :
    wpCall P false σ g As d s K:=by
  subst hA
  refine .inl ⟨[r],[.row 0 1 nn cs'],[.own 5000 0],true,R,h,⟨by simp,rfl,by simp,by simp [hr],?_⟩,?_,(fun e=>by cases e),?_⟩
  · intro j B r' hB hr'
    cases j with
    | succ j=>simp at hB
    | zero =>
      simp at hB hr';subst hB;subst hr'
      simp only [ObjCoe,hr]
      exact ⟨trivial,v,cs,rfl,hco⟩
  · rw [yzm]
    simp only [Coe,yz14,and_true]
    exact ⟨0,r,v,rfl,rfl,rfl,rfl,by rw [hr];rfl⟩
  · intro outs rows res hR
    obtain ⟨rfl,o,rfl,hK⟩:=hk outs rows res hR
    refine ⟨rfl,by simp,by simp,?_⟩
    rw [callHp_m]
    exact hK
theorem coe_argN_self {hp:Nat→AObj} {m:List Nat} {len:Bool} {xs:List Int}:Coe hp m len (.ro (argN xs) 1 (ints xs)) (.ro (argN xs) 1 (ints xs))=True:=by
  by_cases h:xs.length=0
  · have e:argN xs=some none:=by unfold argN;rw [if_pos h]
    have:=yz1c (hp:=hp) (m:=m) (len:=len) (xs:=xs)
    rw [e] at this ⊢;exact this
  · have e:argN xs=none:=by unfold argN;rw [if_neg h]
    rw [e,coe_ro]
    exact eq_true ⟨by omega,coeL_self fun A hA=>by simp only [List.mem_map] at hA;obtain ⟨x,_,rfl⟩:=hA;exact ⟨_,rfl⟩⟩
theorem coe_argN_own {hp:Nat→AObj} {r v:Nat} {xs:List Int} (h:hp r=.row v 1 true (ints xs)):Coe hp [] true (.ro (argN xs) 1 (ints xs)) (.own r v):=by
  simp only [Coe]
  refine ⟨?_,by omega,.inr (.inr ⟨trivial,r,v,true,ints xs,rfl,by simp,h,coeL_ints⟩)⟩
  by_cases e:xs.length=0
  · have h0:xs=[]:=List.eq_nil_of_length_eq_zero e
    subst h0
    exact .inr (.inr ⟨rfl,rfl,.inr ⟨r,v,1,_,rfl,h⟩⟩)
  · left;unfold argN;rw [if_neg e]
theorem sv_0 {hp:Nat→AObj} {r v:Nat} {s:Nat→Nat} (h:(hp r).ver=some v):sv hp [r] s 0=v:=by
  unfold sv;simp [h]
theorem ren_own_h {r d n u:Nat} {s:Nat→Nat}:AVal.ren (rid [r] d n) s (.own 5000 u)=.own r (s u):=by
  have h1:rid [r] d n 5000=some r:=rid_m (j:=0) (by omega) rfl
  simp only [AVal.ren,h1]
theorem k_sorted (xs:List Int) (h:xs.length * 8≤140737488355328):RowI Tryz.prog nz61 [.ro (argN xs) 1 (ints xs)] (fun ys=>ys=nrm xs):=by
  refine rowI_of mixed czr2 rfl ?_
  simp only [Azl4,Bzl3,go_sem,yz0,xx9,xx8,xx6,xx7,xx5,xx0,xx1,xx2,reduceIte,xx3,xx4,reduceCtorEq]
  intro vs
  refine call_rowI (k_Clone xs h) (by simp only [coe_argN_self,rowIs,boxIs,yz1c,yz13,yz1d,yz14,yzm,yz1i,yz1g,coe_ro,yzt,yzo,coe_st,yzq,coe_rp,yzr,yz1h,yz1e,yz16,yzn,yz1b,yz18,L_hit,L_miss,L_nil,xx3,ne_eq,reduceCtorEq,not_false_eq_true,true_and,and_true,and_self,exists_eq_left,exists_eq_right,List.mem_cons,List.not_mem_nil,or_false,AObj.row.injEq,AObj.box.injEq,exists_eq_left',exists_and_left,exists_eq,Nat.zero_lt_one,Nat.lt_add_one,List.map_cons,List.map_nil,AObj.ver,xx5,not_true_eq_false]) rfl ⟨_,rfl⟩ ?_
  rintro ys v rfl
  simp only [Bzl2,go_sem,yz0,xx9,xx8,xx6,xx7,xx5,xx0,xx1,xx2,reduceIte,xx3,xx4,reduceCtorEq]
  intro vs2
  refine call_row1 (k_Sort ys true (by omega)) (r:=5) (v:=v) qWS coeL_ints qWS ?_
  rintro outs rows res ⟨rfl,rfl,rfl⟩
  refine ⟨rfl,_,rfl,?_⟩
  have e0:=sv_0 (hp:=L AObj.gone [(5,AObj.row v 1 true (ints ys))]) (r:=5) (v:=v) (s:=vs2 1) rfl
  simp only [e0,Nat.not_lt_zero,range1,yz15,yz1a,yz1l,yz1k,yz19,yz1n,yz1m,yz1j,yz17,yzv,yzf,yz4,yzy,yz11,yzs,yzp,yzz,yz8,yzd,yz9,yzb,yzi,yzh,yz3,yz7,yze,yzc,yzj,yzk,List.range_zero,yz6,yz5,yza,yz10,yzl,yzu,AVal.fresh,freshL,yz1,yzg,AObj.fresh,id,Option.isSome_some,or_true,true_or,go_sem,yz0,xx9,xx8,xx6,xx7,xx5,xx0,xx1,xx2,reduceIte,xx3,xx4,reduceCtorEq]
  simp only [Bzl1,go_sem,yz0,xx9,xx8,xx6,xx7,xx5,xx0,xx1,xx2,reduceIte,xx3,xx4,reduceCtorEq]
  intro vs3
  refine call_row1 (k_Compact _ true) (r:=5) (v:=v) (by simp only [go_sem,yz0,xx9,xx8,xx6,xx7,xx5,xx0,xx1,xx2,reduceIte,xx3,xx4,reduceCtorEq];rfl) coeL_ints qWS ?_
  rintro outs rows res ⟨u,rfl,rfl,rfl⟩
  refine ⟨rfl,_,rfl,?_⟩
  simp only [compact_nrm,ren_own_h,Nat.not_lt_zero,range1,yz15,yz1a,yz1l,yz1k,yz19,yz1n,yz1m,yz1j,yz17,yzv,yzf,yz4,yzy,yz11,yzs,yzp,yzz,yz8,yzd,yz9,yzb,yzi,yzh,yz3,yz7,yze,yzc,yzj,yzk,List.range_zero,yz6,yz5,yza,yz10,yzl,yzu,AVal.fresh,freshL,yz1,yzg,AObj.fresh,id,Option.isSome_some,or_true,true_or,go_sem,yz0,xx9,xx8,xx6,xx7,xx5,xx0,xx1,xx2,reduceIte,xx3,xx4,reduceCtorEq]
  exact ⟨5,_,nrm ys,by omega,rfl,by simp only [go_sem,yz0,xx9,xx8,xx6,xx7,xx5,xx0,xx1,xx2,reduceIte,xx3,xx4,reduceCtorEq],rfl⟩
theorem k_image (n:Int) (next:List (List Int)) (set w:List Int) (A:Aut n next) (hs:∀ s∈set,0≤s∧s<n) (hw:IsW next.length w) (hl:set.length≤1000000) :
    RowI Tryz.prog nzw [autA n next,.ro none 1 (ints set),.ro none 1 (ints w)] (fun ys=>ys=nrm (set.map fun s=>atA next s w)):=by
  refine rowI_of mixed czq6 rfl ?_
  simp only [Azh6,Bzh5,go_sem,yz0,xx9,xx8,xx6,xx7,xx5,xx0,xx1,xx2,reduceIte,xx3,xx4,reduceCtorEq]
  intro vs vs2
  simp only [Bzh4,Bzh2,go_sem,yz0,xx9,xx8,xx6,xx7,xx5,xx0,xx1,xx2,reduceIte,xx3,xx4,reduceCtorEq]
  intro hM
  refine wpD_lo (fun (_,i)=>set.length - i) (fun (_,i)=>i≤set.length)
    (fun ((v,i):Nat×Nat)=>⟨L .any [(2,.ro none 1 (ints w)),(3,.ptr 3 (vs 0 0) 0),(7,.own 10 v),(11,.ro none 1 (ints set)),(12,iv set.length),(13,iv i)],L .gone [(3,.box (vs 0 0) [iv n,.ro none 1 (rwn next)]),(10,.row v 1 true (ints ((set.take i).map fun s=>atA next s w)))]⟩) (_,0) (by simp) (by simp only [Bz3v,go_sem,yz0,xx9,xx8,xx6,xx7,xx5,xx0,xx1,xx2,reduceIte,xx3,xx4,reduceCtorEq];try rfl) ?_
  rintro ⟨v,i⟩ hi
  by_cases hlt:(i:Int)<set.length
  · have hlt1:i<set.length:=by omega
    simp only [Bz3v,Bz8w,Bz8v,yzx hlt1,decide_eq_true hlt,go_sem,yz0,xx9,xx8,xx6,xx7,xx5,xx0,xx1,xx2,reduceIte,xx3,xx4,reduceCtorEq]
    refine ⟨⟨by omega,hlt1⟩,hlt1,?_⟩
    simp only [Bzh0,go_sem,yz0,xx9,xx8,xx6,xx7,xx5,xx0,xx1,xx2,reduceIte,xx3,xx4,reduceCtorEq]
    intro vs3
    refine yz12 (k_at n next (set.getD i 0) w A (hs _ (yz1f hlt1 _)) hw) qCS trivial ?_
    have hr:((set.take i).map fun s=>atA next s w) ++ [atA next (set.getD i 0) w]=(set.take (i+1)).map fun s=>atA next s w:=by
      rw [List.take_succ_eq_append_getElem hlt1,List.map_append,List.getD_eq_getElem?_getD,List.getElem?_eq_getElem hlt1];rfl
    simp only [Bzh1,nat1 i _ hlt1 hM,go_sem,yz0,xx9,xx8,xx6,xx7,xx5,xx0,xx1,xx2,reduceIte,xx3,xx4,reduceCtorEq]
    rw [hr]
    refine ⟨⟨_,rfl,rfl⟩,by simp;omega,(_,i+1),by dsimp only;omega,by dsimp only;omega,rfl⟩
  · have:i=set.length:=by have:i≤set.length:=hi;omega
    subst this
    simp only [Bz3v,Bz8w,Bz8v,Bzh3,decide_eq_false hlt,List.take_length,go_sem,yz0,xx9,xx8,xx6,xx7,xx5,xx0,xx1,xx2,reduceIte,xx3,xx4,reduceCtorEq]
    intro vs3
    refine call_rowI (k_sorted (set.map fun s=>atA next s w) (by simp;omega)) ?_ rfl ⟨_,rfl⟩ ?_
    · simp only [yzm,yz14,and_true]
      exact coe_argN_own rfl
    · rintro ys v' rfl
      simp only [go_sem,yz0,xx9,xx8,xx6,xx7,xx5,xx0,xx1,xx2,reduceIte,xx3,xx4,reduceCtorEq]
      exact ⟨26,v',_,by omega,rfl,by simp only [go_sem,yz0,xx9,xx8,xx6,xx7,xx5,xx0,xx1,xx2,reduceIte,xx3,xx4,reduceCtorEq],rfl⟩
theorem actA_nil' (n:Int) (next:List (List Int)):actA n next []=allS n:=rfl
theorem k_all (n:Int) (next:List (List Int)) (A:Aut n next):RowI Tryz.prog nz19 [autA n next] (fun xs=>xs=allS n):=by
  refine rowI_of mixed czq2 rfl ?_
  simp only [Azgi,Bzgh,go_sem,yz0,xx9,xx8,xx6,xx7,xx5,xx0,xx1,xx2,reduceIte,xx3,xx4,reduceCtorEq]
  intro vs vs2
  refine call_rowI (k_action n next [] A (by intro x hx;simp at hx)) (by simp only [List.map_nil,rowIs,boxIs,yz1c,yz13,yz1d,yz14,yzm,yz1i,yz1g,coe_ro,yzt,yzo,coe_st,yzq,coe_rp,yzr,yz1h,yz1e,yz16,yzn,yz1b,yz18,L_hit,L_miss,L_nil,xx3,ne_eq,reduceCtorEq,not_false_eq_true,true_and,and_true,and_self,exists_eq_left,exists_eq_right,List.mem_cons,List.not_mem_nil,or_false,AObj.row.injEq,AObj.box.injEq,exists_eq_left',exists_and_left,exists_eq,Nat.zero_lt_one,Nat.lt_add_one,List.map_cons,List.map_nil,AObj.ver,xx5,not_true_eq_false]) rfl ⟨_,rfl⟩ ?_
  rintro xs v rfl
  simp only [go_sem,yz0,xx9,xx8,xx6,xx7,xx5,xx0,xx1,xx2,reduceIte,xx3,xx4,reduceCtorEq]
  exact ⟨4,v,allS n,by omega,rfl,by simp only [actA_nil',go_sem,yz0,xx9,xx8,xx6,xx7,xx5,xx0,xx1,xx2,reduceIte,xx3,xx4,reduceCtorEq],rfl⟩
abbrev Fun2 (P:Program) (g:FuncId) (args:List AVal) (x y:Value):Prop:=Fn P g args fun rows res=>rows=[]∧res=.tup [.val x,.val y]
theorem fun2_of {P:Program} {g:FuncId} {F:AFn} (hm:P.follows .mixedOrders=true) {no:Option (List Nat×List FuncId)} (hF:cFn (drV no) P g F) {args:List AVal} (hargs:args.length=F.nparams) {x y:Value}
    (h:wpD P F.code (finQ fun σ=>(∀ x∈F.res,σ.there x)∧σ.value F.res=.tup [.val x,.val y]) (St.init args [])):Fun2 P g args x y:=by
  refine con_of hm hF hargs (by simp) (wpD_mono _ _ _ _ (fun e σ he=>?_) h)
  have:((∀ x∈F.res,σ.there x)∧σ.value F.res=.tup [.val x,.val y])→_:=fun ⟨h1,h2⟩ =>
    (show (∀ x∈F.res,σ.there x)∧∃ ids:List Nat,ids.length≤1000∧ids.Nodup∧(∀ n∈ids,n<5000)∧(σ.value F.res).fresh∧(∀ n∈ids,(σ.hp n).fresh)∧(∀ j,j<([]:List AObj).length→(σ.hp (5000+j)).fresh) ∧
      (fun outs rows res=>outs=[]∧rows=[]∧res=AVal.tup [.val x,.val y]) ((List.range ([]:List AObj).length).map fun j=>(σ.hp (5000+j)).ren (expo ids) id) (ids.map fun n=>(σ.hp n).ren (expo ids) id) ((σ.value F.res).ren (expo ids) id) from
    ⟨h1,[],by simp,by simp,by simp,by rw [h2];simp [AVal.fresh,freshL],by simp,by simp,rfl,rfl,by rw [h2];simp only [Nat.not_lt_zero,range1,yz15,yz1a,yz1l,yz1k,yz19,yz1n,yz1m,yz1j,yz17,yzv,yzf,yz4,yzy,yz11,yzs,yzp,yzz,yz8,yzd,yz9,yzb,yzi,yzh,yz3,yz7,yze,yzc,yzj,yzk,List.range_zero,yz6,yz5,yza,yz10,yzl,yzu,AVal.fresh,freshL,yz1,yzg,AObj.fresh,id,Option.isSome_some,or_true,true_or]⟩)
  cases e with
  | exit _=>exact he
  | normal=>exact this he
  | ret=>exact this he
theorem call_fun2 {P:Program} {pu:Bool} {σ:St} {g:FuncId} {As args:List AVal} {d:Option Nat} {s:Nat→Nat} {K:St→Prop} {x y:Value} (h:Fun2 P g args x y) (hco:CoeL σ.hp [] true args As)
    (hk:K (St.put σ d (.tup [.val x,.val y]))):wpCall P pu σ g As d s K:=by
  refine call_fn h hco (fun _=>⟨_,_,rfl,rfl⟩) ?_
  rintro rows res ⟨rfl,rfl⟩
  refine ⟨by simp,by simp,?_⟩
  simp only [Nat.not_lt_zero,range1,yz15,yz1a,yz1l,yz1k,yz19,yz1n,yz1m,yz1j,yz17,yzv,yzf,yz4,yzy,yz11,yzs,yzp,yzz,yz8,yzd,yz9,yzb,yzi,yzh,yz3,yz7,yze,yzc,yzj,yzk,List.range_zero,yz6,yz5,yza,yz10,yzl,yzu,AVal.fresh,freshL,yz1,yzg,AObj.fresh,id,Option.isSome_some,or_true,true_or]
  exact hk
theorem k_IsReset_1 (n:Int) (next:List (List Int)) (w:List Int) (hl:1≤next.length∧next.length≤3):Fun Tryz.prog nz2f [autP n next,.rp [.ro none 1 (ints w)] 0] (bv (wordB next.length w)):=by
  refine fun_of mixed czq8 rfl ⟨rfl,trivial⟩ ?_
  simp only [Bzhc,Azhd,go_sem,yz0,xx9,xx8,xx6,xx7,xx5,xx0,xx1,xx2,reduceIte,xx3,xx4,reduceCtorEq]
  intro vs
  refine yz12 (k_isWord n next w hl) qCS trivial ?_
  simp only [go_sem,yz0,xx9,xx8,xx6,xx7,xx5,xx0,xx1,xx2,reduceIte,xx3,xx4,reduceCtorEq]
def imgA (n:Int) (next:List (List Int)) (w:List Int):List Int:=nrm ((allS n).map fun s=>atA next s w)
theorem allS_in {n:Int}:∀ s∈allS n,0≤s∧s<n:=by
  intro s hs
  simp only [allS,List.mem_map,List.mem_range] at hs
  obtain ⟨i,hi,rfl⟩:=hs
  omega
theorem allS_len {n:Int}:(allS n).length=n.toNat:=by simp [allS]
theorem wordB_iff {l:Nat} {w:List Int}:wordB l w=true↔(w.length:Int)≤400∧IsW l w:=by
  simp only [wordB,Bool.and_eq_true,decide_eq_true_eq,allIn_iff]
  constructor
  · rintro ⟨h1,h2⟩;exact ⟨h1,fun x hx=>by have:=h2 x hx;omega⟩
  · rintro ⟨h1,h2⟩;exact ⟨h1,fun x hx=>by have:=h2 x hx;omega⟩
theorem ne10:((1:Int) != 0)=true:=rfl
theorem ne20:((2:Int) != 0)=true:=rfl
theorem eq1_dec {k:Nat}:((k:Int) == 1)=decide (k=1):=by
  by_cases h:k=1
  · subst h;rfl
  · rw [decide_eq_false h,beq_eq_false_iff_ne];omega
theorem k_IsReset (n:Int) (next:List (List Int)) (w:List Int) :
    Fun2 Tryz.prog nz22 [autA n next,.ro none 1 (ints w)] (.bool (autB n next && wordB next.length w && decide ((imgA n next w).length=1))) (.int .i64 (codeI (autB n next) (wordB next.length w))):=by
  refine fun2_of mixed czph rfl ?_
  simp only [Azdc,Bzdb,go_sem,yz0,xx9,xx8,xx6,xx7,xx5,xx0,xx1,xx2,reduceIte,xx3,xx4,reduceCtorEq]
  intro vs vs2
  refine yz12 (k_code n next nz2f [autP n next,.rp [.ro none 1 (ints w)] 0] _ ⟨by simp only [go_sem,yz0,xx9,xx8,xx6,xx7,xx5,xx0,xx1,xx2,reduceIte,xx3,xx4,reduceCtorEq],by intros;simp only [rowIs,boxIs,yz1c,yz13,yz1d,yz14,yzm,yz1i,yz1g,coe_ro,yzt,yzo,coe_st,yzq,coe_rp,yzr,yz1h,yz1e,yz16,yzn,yz1b,yz18,L_hit,L_miss,L_nil,xx3,ne_eq,reduceCtorEq,not_false_eq_true,true_and,and_true,and_self,exists_eq_left,exists_eq_right,List.mem_cons,List.not_mem_nil,or_false,AObj.row.injEq,AObj.box.injEq,exists_eq_left',exists_and_left,exists_eq,Nat.zero_lt_one,Nat.lt_add_one,List.map_cons,List.map_nil,AObj.ver,xx5,not_true_eq_false]⟩ (fun hv=>k_IsReset_1 n next w ⟨(autB_iff.1 hv).l1,(autB_iff.1 hv).l2⟩)) qCS trivial ?_
  cases hv:autB n next with
  | false =>
    have h3:codeI false (wordB next.length w)=1:=by simp [codeI]
    simp only [h3,ne10,Bz33,Bz32,Bool.false_and,go_sem,yz0,xx9,xx8,xx6,xx7,xx5,xx0,xx1,xx2,reduceIte,xx3,xx4,reduceCtorEq]
  | true =>
    have A:=autB_iff.1 hv
    cases hw:wordB next.length w with
    | false =>
      have h3:codeI true false=2:=by simp [codeI]
      simp only [h3,ne20,Bz33,Bz32,Bool.false_and,Bool.and_false,go_sem,yz0,xx9,xx8,xx6,xx7,xx5,xx0,xx1,xx2,reduceIte,xx3,xx4,reduceCtorEq]
    | true =>
      have W:=wordB_iff.1 hw
      have h3:codeI true true=0:=by simp [codeI]
      simp only [h3,Bz33,Bz32,Bzda,bne_self_eq_false,go_sem,yz0,xx9,xx8,xx6,xx7,xx5,xx0,xx1,xx2,reduceIte,xx3,xx4,reduceCtorEq]
      intro vs3
      refine call_rowI (k_all n next A) qCS rfl ⟨_,rfl⟩ ?_
      rintro xs v rfl
      simp only [go_sem,yz0,xx9,xx8,xx6,xx7,xx5,xx0,xx1,xx2,reduceIte,xx3,xx4,reduceCtorEq]
      refine call_rowI (k_image n next (allS n) w A allS_in W.2 (by rw [allS_len];have:=A.n2;omega)) qCS rfl ⟨_,rfl⟩ ?_
      rintro ys v' rfl
      simp only [go_sem,yz0,xx9,xx8,xx6,xx7,xx5,xx0,xx1,xx2,reduceIte,xx3,xx4,reduceCtorEq]
      rw [eq1_dec];rfl
attribute [go_sem] dnL_rwo mvL_rwo rwo_len
theorem k_l01Word (n:Int) (next:List (List Int)) (w:List Int) (hl:next.length≤1000000):Fun Tryz.prog nz6b [autP n next,.ro none 1 (ints w)] (bv (wordB next.length w)):=by
  refine fun_of mixed czri rfl ⟨rfl,trivial⟩ ?_
  simp only [Aznx,Bznw,Bznu,go_sem,yz0,xx9,xx8,xx6,xx7,xx5,xx0,xx1,xx2,reduceIte,xx3,xx4,reduceCtorEq]
  refine wpD_lo (fun i=>w.length - i) (fun i=>i≤w.length∧allIn (w.take i) 0 ((next.length:Int) - 1)=true)
    (fun i:Nat=>⟨L .any [(0,autP n next),(1,.ro none 1 (ints w)),(5,iv i)],L .gone []⟩) 0 (by simp [allIn]) (by simp only [Bz50,go_sem,yz0,xx9,xx8,xx6,xx7,xx5,xx0,xx1,xx2,reduceIte,xx3,xx4,reduceCtorEq];try rfl) ?_
  rintro i ⟨hi,he⟩
  have w1:IntKind.i64.wrap ((next.length:Int) - 1)=(next.length:Int) - 1:=w64 (by omega)
  by_cases hlt:(i:Int)<w.length
  · have hlt1:i<w.length:=by omega
    simp only [Bz50,Bzbe,Bzbf,yzx hlt1,decide_eq_true hlt,go_sem,yz0,xx9,xx8,xx6,xx7,xx5,xx0,xx1,xx2,reduceIte,xx3,xx4,reduceCtorEq]
    intro hM vs
    refine ⟨⟨by omega,hlt1⟩,hlt1,?_⟩
    rw [w1]
    refine yz12 (k_l00In (w.getD i 0) 0 ((next.length:Int) - 1)) qCS trivial ?_
    have ht:w.take (i+1)=w.take i ++ [w.getD i 0]:=by
      rw [List.take_succ_eq_append_getElem hlt1,List.getD_eq_getElem?_getD,List.getElem?_eq_getElem hlt1];rfl
    simp only [Bzns,Bznt,nat1 i _ hlt1 hM,go_sem,yz0,xx9,xx8,xx6,xx7,xx5,xx0,xx1,xx2,reduceIte,xx3,xx4,reduceCtorEq]
    refine ⟨fun h=>?_,fun h=>⟨i+1,by omega,⟨by omega,?_⟩,rfl⟩⟩
    · have:wordB next.length w=false:=by
        cases hb:wordB next.length w with
        | false=>rfl
        | true =>
          have:=(wordB_iff.1 hb).2 (w.getD i 0) (yz1f hlt1 _)
          simp only [w1,Bool.not_eq_true',Bool.and_eq_false_iff,decide_eq_false_iff_not] at h;omega
      rw [this]
    · rw [ht,allIn_iff]
      intro x hx
      rcases List.mem_append.1 hx with hx | hx
      · exact allIn_iff.1 he x hx
      · have hx:x=w.getD i 0:=by simpa using hx
        subst hx
        simp only [w1,Bool.not_eq_false',Bool.and_eq_true,decide_eq_true_eq] at h;omega
  · have:i=w.length:=by omega
    subst this
    rw [List.take_length] at he
    simp only [Bz50,Bzbe,Bzbf,Bznv,decide_eq_false hlt,go_sem,yz0,xx9,xx8,xx6,xx7,xx5,xx0,xx1,xx2,reduceIte,xx3,xx4,reduceCtorEq]
    intro _ _
    simp only [wordB,he,Bool.and_true]
theorem k_l01To (n:Int) (next:List (List Int)) (s:Int) (w:List Int) (A:Aut n next) (hs:0≤s∧s<n) (hw:IsW next.length w):Fun Tryz.prog nz1c [autP n next,iv s,.ro none 1 (ints w)] (iv (atA next s w)):=by
  refine fun_of mixed czqz rfl ⟨rfl,trivial⟩ ?_
  simp only [Azkn,Bzkm,Bzkk,go_sem,yz0,xx9,xx8,xx6,xx7,xx5,xx0,xx1,xx2,reduceIte,xx3,xx4,reduceCtorEq]
  refine wpD_lo (fun (i,_)=>w.length - i) (fun (i,t)=>i≤w.length∧(0≤t∧t<n)∧atA next t (w.drop i)=atA next s w)
    (fun ((i,t):Nat×Int)=>⟨L .any [(0,autP n next),(1,iv t),(2,.ro none 1 (ints w)),(7,iv i)],L .gone []⟩) (0,s) (by dsimp only;exact ⟨by omega,hs,rfl⟩) (by simp only [Bz4e,go_sem,yz0,xx9,xx8,xx6,xx7,xx5,xx0,xx1,xx2,reduceIte,xx3,xx4,reduceCtorEq];try rfl) ?_
  rintro ⟨i,t⟩ ⟨hi,hs',he⟩
  by_cases hlt:(i:Int)<w.length
  · have hlt':i<w.length:=by omega
    have hx:=hw _ (yz1f hlt' 0)
    obtain ⟨a1,a2,a3⟩:=A.step hs' hx
    rw [drop_getD hlt' 0] at he
    simp only [Bz4e,Bzaa,Bzab,yzx hlt',rwn_getD a1,yzx a2,decide_eq_true hlt,go_sem,yz0,xx9,xx8,xx6,xx7,xx5,xx0,xx1,xx2,reduceIte,xx3,xx4,reduceCtorEq]
    intro hM
    refine ⟨⟨by omega,hlt'⟩,hlt',⟨hx.1,a1⟩,a1,⟨hs'.1,a2⟩,a2,?_⟩
    simp only [Bzkj,nat1 i _ hlt' hM,go_sem,yz0,xx9,xx8,xx6,xx7,xx5,xx0,xx1,xx2,reduceIte,xx3,xx4,reduceCtorEq]
    refine ⟨(i+1,_),by dsimp only;omega,⟨by dsimp only;omega,a3,he⟩,rfl⟩
  · have:i=w.length:=by have:i≤w.length:=hi;omega
    subst this
    rw [List.drop_length] at he
    simp only [Bz4e,Bzaa,Bzab,Bzkl,decide_eq_false hlt,go_sem,yz0,xx9,xx8,xx6,xx7,xx5,xx0,xx1,xx2,reduceIte,xx3,xx4,reduceCtorEq]
    intro _
    rw [← he];rfl
theorem k_l00Put (xs:List Int) (x:Int) (h:xs.length≤1000000):RowI Tryz.prog nz5z [.ro none 1 (ints xs),iv x] (fun ys=>ys=put xs x):=by
  refine rowI_of mixed czqy rfl ?_
  simp only [Azki,Bzkh,go_sem,yz0,xx9,xx8,xx6,xx7,xx5,xx0,xx1,xx2,reduceIte,xx3,xx4,reduceCtorEq]
  intro vs
  simp only [Bzkg,Bzkf,Bzke,go_sem,yz0,xx9,xx8,xx6,xx7,xx5,xx0,xx1,xx2,reduceIte,xx3,xx4,reduceCtorEq]
  refine wpD_lo (fun (_,_,i,_)=>xs.length - i) (fun (_,d,i,out)=>i≤xs.length∧List.length out≤i+d.toNat∧out ++ (if d=true then xs.drop i else put (xs.drop i) x)=put xs x)
    (fun ((v,d,i,out):Nat×Bool×Nat×List Int)=>⟨L .any [(0,.ro none 1 (ints xs)),(1,iv x),(5,.own 8 v),(6,bv d),(7,iv i)],L .gone [(8,.row v 1 true (ints out))]⟩) (_,false,0,[]) (by simp) (by simp only [Bz15,go_sem,yz0,xx9,xx8,xx6,xx7,xx5,xx0,xx1,xx2,reduceIte,xx3,xx4,reduceCtorEq];try rfl) ?_
  rintro ⟨v,d,i,out⟩ ⟨hi,ho,he⟩
  by_cases hlt:(i:Int)<xs.length
  · have hlt1:i<xs.length:=by omega
    have hdr:=drop_getD hlt1 (0:Int)
    have hsn:∀ u:List Int,u ++ [xs.getD i 0]=u ++ [xs.getD i 0]:=fun _=>rfl
    cases d with
    | true =>
      simp only [if_true,hdr] at he
      simp only [Bool.toNat_true] at ho
      simp only [Bz15,Bz1p,Bz1s,Bz4d,Bz1q,Bz1r,yzx hlt1,decide_eq_true hlt,go_sem,yz0,xx9,xx8,xx6,xx7,xx5,xx0,xx1,xx2,reduceIte,xx3,xx4,reduceCtorEq]
      intro hM vs2
      refine ⟨⟨by omega,hlt1⟩,hlt1,⟨_,rfl,rfl⟩,by omega,?_⟩
      simp only [nat1 i _ hlt1 hM,go_sem,yz0,xx9,xx8,xx6,xx7,xx5,xx0,xx1,xx2,reduceIte,xx3,xx4,reduceCtorEq]
      exact ⟨(_,true,i+1,out ++ [xs.getD i 0]),by dsimp only;omega,⟨by dsimp only;omega,by dsimp only;simp;omega,by dsimp only;rw [if_pos rfl,← he];simp⟩,rfl⟩
    | false =>
      simp only [Bool.false_eq_true,if_false,hdr,put] at he
      simp only [Bool.toNat_false,Nat.add_zero] at ho
      simp only [Bz15,Bz1p,Bz1s,yzx hlt1,decide_eq_true hlt,go_sem,yz0,xx9,xx8,xx6,xx7,xx5,xx0,xx1,xx2,reduceIte,xx3,xx4,reduceCtorEq]
      intro hM
      refine ⟨⟨by omega,hlt1⟩,hlt1,?_⟩
      by_cases hge:x≤xs.getD i 0
      · rw [if_pos hge] at he
        simp only [Bz4d,Bzkd,yzx hlt1,decide_eq_true hge,go_sem,yz0,xx9,xx8,xx6,xx7,xx5,xx0,xx1,xx2,reduceIte,xx3,xx4,reduceCtorEq]
        refine ⟨⟨by omega,hlt1⟩,hlt1,?_⟩
        by_cases hgt:x<xs.getD i 0
        · rw [if_pos hgt] at he
          simp only [Bza6,Bz1q,Bz1r,yzx hlt1,decide_eq_true hgt,go_sem,yz0,xx9,xx8,xx6,xx7,xx5,xx0,xx1,xx2,reduceIte,xx3,xx4,reduceCtorEq]
          refine ⟨⟨_,rfl,rfl⟩,by omega,?_⟩
          intro vs3
          refine ⟨⟨by omega,hlt1⟩,hlt1,⟨_,rfl,rfl⟩,by simp;omega,?_⟩
          simp only [nat1 i _ hlt1 hM,go_sem,yz0,xx9,xx8,xx6,xx7,xx5,xx0,xx1,xx2,reduceIte,xx3,xx4,reduceCtorEq]
          exact ⟨(_,true,i+1,out ++ [x] ++ [xs.getD i 0]),by dsimp only;omega,⟨by dsimp only;omega,by dsimp only;simp;omega,by dsimp only;rw [if_pos rfl,← he];simp⟩,rfl⟩
        · rw [if_neg hgt] at he
          simp only [Bza6,Bz1q,Bz1r,yzx hlt1,decide_eq_false hgt,go_sem,yz0,xx9,xx8,xx6,xx7,xx5,xx0,xx1,xx2,reduceIte,xx3,xx4,reduceCtorEq]
          intro vs2
          refine ⟨⟨by omega,hlt1⟩,hlt1,⟨_,rfl,rfl⟩,by omega,?_⟩
          simp only [nat1 i _ hlt1 hM,go_sem,yz0,xx9,xx8,xx6,xx7,xx5,xx0,xx1,xx2,reduceIte,xx3,xx4,reduceCtorEq]
          exact ⟨(_,true,i+1,out ++ [xs.getD i 0]),by dsimp only;omega,⟨by dsimp only;omega,by dsimp only;simp;omega,by dsimp only;rw [if_pos rfl,← he];simp⟩,rfl⟩
      · rw [if_neg hge] at he
        simp only [Bz4d,Bz1q,Bz1r,yzx hlt1,decide_eq_false hge,go_sem,yz0,xx9,xx8,xx6,xx7,xx5,xx0,xx1,xx2,reduceIte,xx3,xx4,reduceCtorEq]
        intro vs2
        refine ⟨⟨by omega,hlt1⟩,hlt1,⟨_,rfl,rfl⟩,by omega,?_⟩
        simp only [nat1 i _ hlt1 hM,go_sem,yz0,xx9,xx8,xx6,xx7,xx5,xx0,xx1,xx2,reduceIte,xx3,xx4,reduceCtorEq]
        exact ⟨(_,false,i+1,out ++ [xs.getD i 0]),by dsimp only;omega,⟨by dsimp only;omega,by dsimp only;simp;omega,by dsimp only;rw [if_neg (by simp),← he];simp⟩,rfl⟩
  · have:i=xs.length:=by have:i≤xs.length:=hi;omega
    subst this
    rw [List.drop_length] at he
    have ho2:out.length≤xs.length+1:=by have:=ho;cases d <;> simp at this <;> omega
    cases d with
    | true =>
      simp only [Bz15,Bz1p,Bz1s,Bza9,Bza7,Bza8,decide_eq_false hlt,go_sem,yz0,xx9,xx8,xx6,xx7,xx5,xx0,xx1,xx2,reduceIte,xx3,xx4,reduceCtorEq]
      intro _
      refine ⟨8,v,out,by omega,rfl,by simp only [go_sem,yz0,xx9,xx8,xx6,xx7,xx5,xx0,xx1,xx2,reduceIte,xx3,xx4,reduceCtorEq],?_⟩
      rw [← he];simp
    | false =>
      simp only [Bz15,Bz1p,Bz1s,Bza9,Bza7,Bza8,decide_eq_false hlt,go_sem,yz0,xx9,xx8,xx6,xx7,xx5,xx0,xx1,xx2,reduceIte,xx3,xx4,reduceCtorEq]
      intro _ vs2
      refine ⟨⟨_,rfl,rfl⟩,by omega,?_⟩
      refine ⟨8,_,out ++ [x],by omega,rfl,by simp only [go_sem,yz0,xx9,xx8,xx6,xx7,xx5,xx0,xx1,xx2,reduceIte,xx3,xx4,reduceCtorEq],?_⟩
      rw [← he];simp [put]
theorem k_l01Image (n:Int) (next:List (List Int)) (set w:List Int) (A:Aut n next) (hs:∀ s∈set,0≤s∧s<n) (hw:IsW next.length w) (hl:set.length≤1000000) :
    RowI Tryz.prog nz2a [autP n next,.ro none 1 (ints set),.ro none 1 (ints w)] (fun ys=>ys=nrm (set.map fun s=>atA next s w)):=by
  refine rowI_of mixed czq0 rfl ?_
  simp only [Azge,Bzgd,go_sem,yz0,xx9,xx8,xx6,xx7,xx5,xx0,xx1,xx2,reduceIte,xx3,xx4,reduceCtorEq]
  intro vs
  simp only [Bzgc,Bzga,go_sem,yz0,xx9,xx8,xx6,xx7,xx5,xx0,xx1,xx2,reduceIte,xx3,xx4,reduceCtorEq]
  refine wpD_lm (fun (_,i)=>set.length - i) (fun (_,i)=>i≤set.length)
    (fun ((v,i):Nat×Nat)=>⟨L .any [(0,autP n next),(1,.ro none 1 (ints set)),(2,.ro none 1 (ints w)),(7,.own 9 v),(8,iv i)],L .gone [(9,.row v 1 true (ints (nrm ((set.take i).map fun s=>atA next s w))))]⟩) (_,0) (by simp) (by intro u;simp only [Bz3s,go_sem,yz0,xx9,xx8,xx6,xx7,xx5,xx0,xx1,xx2,reduceIte,xx3,xx4,reduceCtorEq];try rfl) ?_
  rintro ⟨v,i⟩ hi
  by_cases hlt:(i:Int)<set.length
  · have hlt1:i<set.length:=by omega
    have hr:nrm ((set.take (i+1)).map fun s=>atA next s w)=put (nrm ((set.take i).map fun s=>atA next s w)) (atA next (set.getD i 0) w):=by
      rw [← nrm_snoc,List.take_succ_eq_append_getElem hlt1,List.map_append,List.getD_eq_getElem?_getD,List.getElem?_eq_getElem hlt1];rfl
    simp only [Bz3s,Bz8o,Bz8p,yzx hlt1,decide_eq_true hlt,go_sem,yz0,xx9,xx8,xx6,xx7,xx5,xx0,xx1,xx2,reduceIte,xx3,xx4,reduceCtorEq]
    intro hM vs2
    refine ⟨⟨by omega,hlt1⟩,hlt1,?_⟩
    refine yz12 (k_l01To n next (set.getD i 0) w A (hs _ (yz1f hlt1 _)) hw) qCS trivial ?_
    simp only [go_sem,yz0,xx9,xx8,xx6,xx7,xx5,xx0,xx1,xx2,reduceIte,xx3,xx4,reduceCtorEq]
    refine call_rowI (k_l00Put (nrm ((set.take i).map fun s=>atA next s w)) (atA next (set.getD i 0) w) (by have:=nrm_len ((set.take i).map fun s=>atA next s w);rw [List.length_map,List.length_take] at this;omega)) ?_ rfl ⟨_,rfl⟩ ?_
    · simp only [rowIs,boxIs,yz1c,yz13,yz1d,yz14,yzm,yz1i,yz1g,coe_ro,yzt,yzo,coe_st,yzq,coe_rp,yzr,yz1h,yz1e,yz16,yzn,yz1b,yz18,L_hit,L_miss,L_nil,xx3,ne_eq,reduceCtorEq,not_false_eq_true,true_and,and_true,and_self,exists_eq_left,exists_eq_right,List.mem_cons,List.not_mem_nil,or_false,AObj.row.injEq,AObj.box.injEq,exists_eq_left',exists_and_left,exists_eq,Nat.zero_lt_one,Nat.lt_add_one,List.map_cons,List.map_nil,AObj.ver,xx5,not_true_eq_false]
    rintro ys v' rfl
    simp only [Bzg9,nat1 i _ hlt1 hM,go_sem,yz0,xx9,xx8,xx6,xx7,xx5,xx0,xx1,xx2,reduceIte,xx3,xx4,reduceCtorEq]
    exact ⟨set.length - (i+1),by omega,fun u=>⟨(u,i+1),rfl,by dsimp only;omega,by rw [hr]⟩⟩
  · have:i=set.length:=by have:i≤set.length:=hi;omega
    subst this
    simp only [Bz3s,Bz8o,Bz8p,Bzgb,decide_eq_false hlt,List.take_length,go_sem,yz0,xx9,xx8,xx6,xx7,xx5,xx0,xx1,xx2,reduceIte,xx3,xx4,reduceCtorEq]
    intro _
    exact ⟨9,v,_,by omega,rfl,by simp only [go_sem,yz0,xx9,xx8,xx6,xx7,xx5,xx0,xx1,xx2,reduceIte,xx3,xx4,reduceCtorEq],rfl⟩
end Go.Ab
namespace Go.Ab
open Go.Proofs
instance (l:List Int):Decidable (SI l):=inferInstanceAs (Decidable (l.Pairwise (·<·)))
def setB (n:Int) (set:List Int):Bool:=decide (SI set) && allIn set 0 (n - 1)
theorem setB_iff {n:Int} {set:List Int}:setB n set=true↔SI set∧∀ x∈set,0≤x∧x<n:=by
  simp only [setB,Bool.and_eq_true,decide_eq_true_eq,allIn_iff]
  constructor
  · rintro ⟨h1,h2⟩;exact ⟨h1,fun x hx=>by have:=h2 x hx;omega⟩
  · rintro ⟨h1,h2⟩;exact ⟨h1,fun x hx=>by have:=h2 x hx;omega⟩
theorem SI_take_succ {set:List Int} {i:Nat} (hi:i<set.length) (h:SI (set.take i)):SI (set.take (i+1))↔(0<i→set.getD (i - 1) 0<set.getD i 0):=by
  have ht:set.take (i+1)=set.take i ++ [set.getD i 0]:=by
    rw [List.take_succ_eq_append_getElem hi,List.getD_eq_getElem?_getD,List.getElem?_eq_getElem hi];rfl
  have hg:∀ j,j<i→(set.take i)[j]?=some (set.getD j 0):=by
    intro j hj
    rw [List.getElem?_take,if_pos hj,List.getD_eq_getElem?_getD,List.getElem?_eq_getElem (by omega)];rfl
  rw [ht]
  unfold SI at h ⊢
  rw [List.pairwise_append]
  constructor
  · rintro ⟨_,_,h3⟩ h0
    exact h3 _ (List.mem_of_getElem? (hg (i - 1) (by omega))) _ (by simp)
  · intro h3
    refine ⟨h,by simp,fun y hy z hz=>?_⟩
    have hz:z=set.getD i 0:=by simpa using hz
    subst hz
    obtain ⟨j,hj⟩:=List.getElem?_of_mem hy
    have hj2:j<i:=by
      have:=(List.getElem?_eq_some_iff.1 hj).1;rw [List.length_take] at this;omega
    rw [hg j hj2] at hj
    have hj:set.getD j 0=y:=by simpa using hj
    have h4:=h3 (by omega)
    by_cases e:j=i - 1
    · rw [← hj,e];exact h4
    · rw [List.pairwise_iff_getElem] at h
      have h5:=h j (i - 1) (by rw [List.length_take];omega) (by rw [List.length_take];omega) (by omega)
      have e1:(set.take i)[j]'(by rw [List.length_take];omega)=set.getD j 0:=by
        have:=hg j hj2;rw [List.getElem?_eq_getElem (by rw [List.length_take];omega)] at this;simpa using this
      have e2:(set.take i)[i - 1]'(by rw [List.length_take];omega)=set.getD (i - 1) 0:=by
        have:=hg (i - 1) (by omega);rw [List.getElem?_eq_getElem (by rw [List.length_take];omega)] at this;simpa using this
      rw [e1,e2] at h5
      omega
theorem SI_len {n:Int}:∀ {set:List Int},SI set→(∀ x∈set,0≤x∧x<n)→(set.length:Int)≤n∨set=[]
  | set,h,hx=>by
    by_cases h0:set=[]
    · exact .inr h0
    left
    have key:∀ i,i<set.length→(i:Int)≤set.getD i 0:=by
      intro i
      induction i with
      | zero =>
        intro hi
        exact (hx _ (yz1f hi 0)).1
      | succ i ih =>
        intro hi
        have h1:=ih (by omega)
        unfold SI at h
        rw [List.pairwise_iff_getElem] at h
        have h2:=h i (i+1) (by omega) hi (by omega)
        have e1:set.getD i 0=set[i]:=by rw [List.getD_eq_getElem?_getD,List.getElem?_eq_getElem (by omega)];rfl
        have e2:set.getD (i+1) 0=set[i+1]:=by rw [List.getD_eq_getElem?_getD,List.getElem?_eq_getElem hi];rfl
        rw [e1] at h1;rw [e2];omega
    have hp:0<set.length:=List.length_pos_iff.2 h0
    have h1:=key (set.length - 1) (by omega)
    have h2:=(hx _ (yz1f (show set.length - 1<set.length by omega) 0)).2
    omega
theorem SI_of_take {set:List Int} {i:Nat} (h:SI set):SI (set.take i):=List.Pairwise.sublist (List.take_sublist i set) h
abbrev RowT (P:Program) (g:FuncId) (args:List AVal) (ok:Bool) (xs:List Int) (code:Int):Prop:=Fn P g args fun rows res =>
  if ok=true then ∃ v,rows=[.row v 1 true (ints xs)]∧res=.tup [.own 6000 v,iv code] else rows=[]∧res=.tup [nilS,iv code]
theorem call_rowT {P:Program} {pu:Bool} {σ:St} {g:FuncId} {As args:List AVal} {d:Nat} {s:Nat→Nat} {K:St→Prop} {ok:Bool} {xs:List Int} {code:Int} (h:RowT P g args ok xs code)
    (hco:CoeL σ.hp [] true args As) (hg:σ.hp d=.gone)
    (h1:ok=true→∀ v,K (St.put ⟨σ.tm,upd σ.hp d (.row v 1 true (ints xs))⟩ (some d) (.tup [.own d v,iv code])))
    (h2:ok=false→K (St.put ⟨σ.tm,σ.hp⟩ (some d) (.tup [nilS,iv code]))):wpCall P pu σ g As (some d) s K:=by
  refine call_fn h hco (fun _=>?_) ?_
  · cases ok with
    | true=>exact ⟨[.row 0 1 true (ints xs)],.tup [.own 6000 0,iv code],by rw [if_pos rfl];exact ⟨0,rfl,rfl⟩⟩
    | false=>exact ⟨[],.tup [nilS,iv code],by rw [if_neg (by simp)];exact ⟨rfl,rfl⟩⟩
  · intro rows res hR
    cases ok with
    | true =>
      simp only [if_true] at hR
      obtain ⟨v,rfl,rfl⟩:=hR
      refine ⟨by simp,?_,?_⟩
      · simp only [Option.getD_some,yzl];exact hg
      · simp only [Option.getD_some,List.length_singleton,Nat.not_lt_zero,range1,yz15,yz1a,yz1l,yz1k,yz19,yz1n,yz1m,yz1j,yz17,yzv,yzf,yz4,yzy,yz11,yzs,yzp,yzz,yz8,yzd,yz9,yzb,yzi,yzh,yz3,yz7,yze,yzc,yzj,yzk,List.range_zero,yz6,yz5,yza,yz10,yzl,yzu,AVal.fresh,freshL,yz1,yzg,AObj.fresh,id,Option.isSome_some,or_true,true_or]
        exact h1 rfl _
    | false =>
      simp only [Bool.false_eq_true,if_false] at hR
      obtain ⟨rfl,rfl⟩:=hR
      refine ⟨by simp,by simp,?_⟩
      simp only [Nat.not_lt_zero,range1,yz15,yz1a,yz1l,yz1k,yz19,yz1n,yz1m,yz1j,yz17,yzv,yzf,yz4,yzy,yz11,yzs,yzp,yzz,yz8,yzd,yz9,yzb,yzi,yzh,yz3,yz7,yze,yzc,yzj,yzk,List.range_zero,yz6,yz5,yza,yz10,yzl,yzu,AVal.fresh,freshL,yz1,yzg,AObj.fresh,id,Option.isSome_some,or_true,true_or]
      exact h2 rfl
end Go.Ab
namespace Go.Ab
open Go.Proofs
end Go.Ab
namespace Go.Ab
open Go.Proofs
theorem k_l00Rises (set:List Int) (lo hi:Int):Fun Tryz.prog nz6l [.ro none 1 (ints set),iv lo,iv hi] (bv (decide (SI set) && allIn set lo hi)):=by
  refine fun_of mixed czrs rfl ⟨rfl,trivial⟩ ?_
  simp only [Azp6,Bzp5,Bzp3,go_sem,yz0,xx9,xx8,xx6,xx7,xx5,xx0,xx1,xx2,reduceIte,xx3,xx4,reduceCtorEq]
  refine wpD_lo (fun i=>set.length - i) (fun i=>i≤set.length∧SI (set.take i)∧allIn (set.take i) lo hi=true)
    (fun i:Nat=>⟨L .any [(0,.ro none 1 (ints set)),(1,iv lo),(2,iv hi),(7,iv i)],L .gone []⟩) 0 (by simp [allIn,SI]) (by simp only [Bz59,go_sem,yz0,xx9,xx8,xx6,xx7,xx5,xx0,xx1,xx2,reduceIte,xx3,xx4,reduceCtorEq];try rfl) ?_
  rintro i ⟨hi',hs,ha⟩
  by_cases hlt:(i:Int)<set.length
  · have hlt1:i<set.length:=by omega
    have ht:set.take (i+1)=set.take i ++ [set.getD i 0]:=by
      rw [List.take_succ_eq_append_getElem hlt1,List.getD_eq_getElem?_getD,List.getElem?_eq_getElem hlt1];rfl
    have hmem:=yz1f hlt1 (0:Int)
    simp only [Bz59,Bzbs,Bzbu,yzx hlt1,decide_eq_true hlt,go_sem,yz0,xx9,xx8,xx6,xx7,xx5,xx0,xx1,xx2,reduceIte,xx3,xx4,reduceCtorEq]
    intro hM vs
    have hM2:=maxLen_le
    refine ⟨⟨by omega,hlt1⟩,hlt1,?_⟩
    refine yz12 (k_l00In (set.getD i 0) lo hi) qCS trivial ?_
    by_cases hin:lo≤set.getD i 0∧set.getD i 0≤hi
    · have e1:(decide (lo≤set.getD i 0) && decide (set.getD i 0≤hi))=true:=by rw [decide_eq_true hin.1,decide_eq_true hin.2];rfl
      have ha2:allIn (set.take (i+1)) lo hi=true:=by
        rw [ht,allIn_iff]
        intro x hx
        rcases List.mem_append.1 hx with hx | hx
        · exact allIn_iff.1 ha x hx
        · have hx:x=set.getD i 0:=by simpa using hx
          subst hx;exact hin
      by_cases h0:(0:Int)<i
      · have hi1:i - 1<set.length:=by omega
        have w2:IntKind.i64.wrap ((i:Int) - 1)=((i - 1:Nat):Int):=by rw [w64 (by omega)];omega
        simp only [e1,decide_eq_true h0,w2,yzx hi1,yzx hlt1,go_sem,yz0,xx9,xx8,xx6,xx7,xx5,xx0,xx1,xx2,reduceIte,xx3,xx4,reduceCtorEq]
        refine ⟨⟨by omega,hi1⟩,hi1,⟨by omega,hlt1⟩,hlt1,?_⟩
        have hk:=SI_take_succ hlt1 hs
        by_cases hle:set.getD i 0≤set.getD (i - 1) 0
        · have hf:(decide (SI set) && allIn set lo hi)=false:=by
            rw [Bool.and_eq_false_iff];left
            rw [decide_eq_false_iff_not]
            intro hb
            have:=hk.1 (SI_of_take hb) (by omega)
            omega
          simp only [Bz20,decide_eq_true hle,hf,go_sem,yz0,xx9,xx8,xx6,xx7,xx5,xx0,xx1,xx2,reduceIte,xx3,xx4,reduceCtorEq]
        · simp only [Bz20,Bzbt,decide_eq_false hle,nat1 i _ hlt1 hM,go_sem,yz0,xx9,xx8,xx6,xx7,xx5,xx0,xx1,xx2,reduceIte,xx3,xx4,reduceCtorEq]
          exact ⟨i+1,by omega,⟨by omega,hk.2 fun _=>by omega,ha2⟩,rfl⟩
      · have:i=0:=by omega
        subst this
        simp only [e1,decide_eq_false h0,go_sem,yz0,xx9,xx8,xx6,xx7,xx5,xx0,xx1,xx2,reduceIte,xx3,xx4,reduceCtorEq]
        simp only [Bz20,Bzbt,nat1 0 _ hlt1 hM,go_sem,yz0,xx9,xx8,xx6,xx7,xx5,xx0,xx1,xx2,reduceIte,xx3,xx4,reduceCtorEq]
        exact ⟨1,by omega,⟨by omega,(SI_take_succ hlt1 hs).2 fun h=>by omega,ha2⟩,rfl⟩
    · have e1:(decide (lo≤set.getD i 0) && decide (set.getD i 0≤hi))=false:=by
        rw [Bool.and_eq_false_iff,decide_eq_false_iff_not,decide_eq_false_iff_not];omega
      have hf:(decide (SI set) && allIn set lo hi)=false:=by
        rw [Bool.and_eq_false_iff];right
        cases hb:allIn set lo hi with
        | false=>rfl
        | true=>exact absurd (allIn_iff.1 hb _ hmem) hin
      simp only [e1,Bz20,hf,go_sem,yz0,xx9,xx8,xx6,xx7,xx5,xx0,xx1,xx2,reduceIte,xx3,xx4,reduceCtorEq]
  · have:i=set.length:=by omega
    subst this
    rw [List.take_length] at hs ha
    simp only [Bz59,Bzbs,Bzbu,Bzp4,decide_eq_false hlt,go_sem,yz0,xx9,xx8,xx6,xx7,xx5,xx0,xx1,xx2,reduceIte,xx3,xx4,reduceCtorEq]
    intro _
    simp [hs,ha]
theorem k_l01Set (n:Int) (next:List (List Int)) (set:List Int) (hn:1≤n∧n≤10):Fun Tryz.prog nz6c [autP n next,.ro none 1 (ints set)] (bv (setB n set)):=by
  refine fun_of mixed czrj rfl ⟨rfl,trivial⟩ ?_
  have w1:IntKind.i64.wrap (n - 1)=n - 1:=w64 (by omega)
  simp only [Bzny,Aznz,w1,go_sem,yz0,xx9,xx8,xx6,xx7,xx5,xx0,xx1,xx2,reduceIte,xx3,xx4,reduceCtorEq]
  intro vs
  refine yz12 (k_l00Rises set 0 (n - 1)) qCS trivial ?_
  simp only [setB,go_sem,yz0,xx9,xx8,xx6,xx7,xx5,xx0,xx1,xx2,reduceIte,xx3,xx4,reduceCtorEq]
abbrev RowC2 (P:Program) (g:FuncId) (args:List AVal) (xs:List Int) (code:Int):Prop:=Fn P g args fun rows res=>∃ v,rows=[.row v 1 true (ints xs)]∧res=.tup [.own 6000 v,iv code]
theorem call_rowC2 {P:Program} {pu:Bool} {σ:St} {g:FuncId} {As args:List AVal} {d:Nat} {s:Nat→Nat} {K:St→Prop} {xs:List Int} {code:Int} (h:RowC2 P g args xs code)
    (hco:CoeL σ.hp [] true args As) (hg:σ.hp d=.gone) (h1:∀ v,K (St.put ⟨σ.tm,upd σ.hp d (.row v 1 true (ints xs))⟩ (some d) (.tup [.own d v,iv code]))):wpCall P pu σ g As (some d) s K:=by
  refine call_fn h hco (fun _=>⟨_,_,0,rfl,rfl⟩) ?_
  rintro rows res ⟨v,rfl,rfl⟩
  refine ⟨by simp,?_,?_⟩
  · simp only [Option.getD_some,yzl];exact hg
  · simp only [Option.getD_some,List.length_singleton,Nat.not_lt_zero,range1,yz15,yz1a,yz1l,yz1k,yz19,yz1n,yz1m,yz1j,yz17,yzv,yzf,yz4,yzy,yz11,yzs,yzp,yzz,yz8,yzd,yz9,yzb,yzi,yzh,yz3,yz7,yze,yzc,yzj,yzk,List.range_zero,yz6,yz5,yza,yz10,yzl,yzu,AVal.fresh,freshL,yz1,yzg,AObj.fresh,id,Option.isSome_some,or_true,true_or]
    exact h1 _
theorem coeL_rwp_t {hp:Nat→AObj} {m:List Nat} {len:Bool} {ps:List (Nat×List Int)}:CoeL hp m len (rwn (ps.map (·.2))) (rwp ps)=True:=eq_true coeL_rwp
end Go.Ab
namespace Go.Ab
theorem put_len_new {x:Int}:∀ {xs:List Int},x ∉ xs→(put xs x).length=xs.length+1
  | [],_=>by simp [put]
  | y :: xs,h=>by
    have h1:x≠y:=fun e=>h (by simp [e])
    have h2:x ∉ xs:=fun e=>h (by simp [e])
    simp only [put]
    split
    · split
      · simp
      · omega
    · have:=put_len_new (x:=x) (xs:=xs) h2
      simp only [List.length_cons];omega
theorem nrm_len_nd {l:List Int} (h:l.Nodup):(nrm l).length=l.length:=by
  have gen:∀ (l acc:List Int),l.Nodup→(∀ x∈l,x ∉ acc)→(l.foldl put acc).length=acc.length+l.length:=by
    intro l
    induction l with
    | nil=>intro acc _ _;simp
    | cons x l ih =>
      intro acc h1 h2
      rw [List.nodup_cons] at h1
      rw [List.foldl_cons,ih (put acc x) h1.2 (fun y hy hm=>?_),put_len_new (h2 x (by simp)),List.length_cons]
      · omega
      · rcases put_mem.1 hm with rfl | hm
        · exact h1.1 hy
        · exact h2 y (by simp [hy]) hm
  have:=gen l [] h (by simp)
  simpa [nrm] using this
structure Once (n:Int) (l:List Int):Prop where
  nd:l.Nodup
  rg:∀ x∈l,0≤x∧x<n
theorem Once.len {n:Int} {l:List Int} (hn:1≤n) (h:Once n l):(l.length:Int)≤n:=by
  have h1:=nrm_len_nd h.nd
  rcases SI_len (nrm_SI l) (fun x hx=>h.rg x (nrm_mem.1 hx)) with h2 | h2
  · omega
  · rw [h2] at h1;simp at h1;omega
theorem Once.snoc {n:Int} {l:List Int} {x:Int} (h:Once n l) (hx:0≤x∧x<n) (hm:x ∉ l):Once n (l ++ [x]):=by
  refine ⟨?_,?_⟩
  · rw [List.nodup_append]
    refine ⟨h.nd,by simp,?_⟩
    intro a ha b hb
    have:b=x:=by simpa using hb
    subst this
    rintro rfl
    exact hm ha
  · intro y hy
    rcases List.mem_append.1 hy with hy | hy
    · exact h.rg y hy
    · have:y=x:=by simpa using hy
      subst this;exact hx
def addL (l:List Int) (x:Int):List Int:=if l.contains x=true then l else l ++ [x]
theorem Once.add {n:Int} {l:List Int} {x:Int} (h:Once n l) (hx:0≤x∧x<n):Once n (addL l x):=by
  unfold addL
  split
  · exact h
  · rename_i h1
    exact h.snoc hx (by simpa using h1)
def visK (s:Int):List (List Int)→List Int→List Int
  | [],l=>l
  | row :: rs,l=>visK s rs (addL l (row.getD s.toNat 0))
theorem Once.vis {n s:Int} (hs:0≤s∧s<n):∀ {rs:List (List Int)} {l:List Int},(∀ row∈rs,(row.length:Int)=n∧∀ x∈row,0≤x∧x<n)→Once n l→Once n (visK s rs l)
  | [],_,_,h=>h
  | row :: rs,l,hr,h=>by
    have h1:=hr row (by simp)
    have h2:s.toNat<row.length:=by omega
    exact Once.vis (rs:=rs) hs (fun r hm=>hr r (by simp [hm])) (h.add (h1.2 _ (yz1f h2 0)))
end Go.Ab
namespace Go.Ab
open Go.Proofs
theorem bnd1 {σ:St} {n:Nat} {k:IntKind}:St.bound σ n (some (.c (.int k 1)))=some 1:=rfl
theorem bndN {σ:St} {n:Nat}:St.bound σ n none=some n:=rfl
end Go.Ab
namespace Go.Ab
open Go.Proofs
def cmpI (x y:Int):Int:=if x<y then -1 else if x > y then 1 else 0
theorem k_isNaN (x:Int):Fun Tryz.prog nz2s [iv x] (bv false):=by
  refine fun_of mixed czrq rfl ⟨rfl,trivial⟩ ?_
  simp only [Bzow,Azox,bne_self_eq_false,go_sem,yz0,xx9,xx8,xx6,xx7,xx5,xx0,xx1,xx2,reduceIte,xx3,xx4,reduceCtorEq]
theorem k_cmp (x y:Int):Fun Tryz.prog nz67 [iv x,iv y] (iv (cmpI x y)):=by
  refine fun_of mixed czre rfl ⟨rfl,trivial⟩ ?_
  simp only [Azn3,Bzn2,go_sem,yz0,xx9,xx8,xx6,xx7,xx5,xx0,xx1,xx2,reduceIte,xx3,xx4,reduceCtorEq]
  intro vs
  refine yz12 (k_isNaN x) qCS trivial ?_
  simp only [Bzn1,go_sem,yz0,xx9,xx8,xx6,xx7,xx5,xx0,xx1,xx2,reduceIte,xx3,xx4,reduceCtorEq]
  intro vs2
  refine yz12 (k_isNaN y) qCS trivial ?_
  by_cases h1:x<y
  · simp only [Bz4v,Bz4q,Bz4u,Bz4r,Bz4t,Bz4s,cmpI,if_pos h1,decide_eq_true h1,go_sem,yz0,xx9,xx8,xx6,xx7,xx5,xx0,xx1,xx2,reduceIte,xx3,xx4,reduceCtorEq]
    try rfl
  · by_cases h2:x > y
    · simp only [Bz4v,Bz4q,Bz4u,Bz4r,Bz4t,Bz4s,Bzb3,Bzb2,cmpI,if_neg h1,if_pos h2,decide_eq_false h1,decide_eq_true h2,go_sem,yz0,xx9,xx8,xx6,xx7,xx5,xx0,xx1,xx2,reduceIte,xx3,xx4,reduceCtorEq]
      try rfl
    · simp only [Bz4v,Bz4q,Bz4u,Bz4r,Bz4t,Bz4s,Bzb3,Bzb2,Bzn0,cmpI,if_neg h1,if_neg h2,decide_eq_false h1,decide_eq_false h2,go_sem,yz0,xx9,xx8,xx6,xx7,xx5,xx0,xx1,xx2,reduceIte,xx3,xx4,reduceCtorEq]
      try rfl
def cmpL:List Int→List Int→Int
  | [],[]=>0
  | [],_ :: _=>-1
  | _ :: _,[]=>1
  | x :: xs,y :: ys=>if cmpI x y=0 then cmpL xs ys else cmpI x y
theorem k_CompareL (xs ys:List Int):Fun Tryz.prog nz5t [.ro none 1 (ints xs),.ro none 1 (ints ys)] (iv (cmpL xs ys)):=by
  refine fun_of mixed czqr rfl ⟨rfl,trivial⟩ ?_
  simp only [Azj7,Bzj6,go_sem,yz0,xx9,xx8,xx6,xx7,xx5,xx0,xx1,xx2,reduceIte,xx3,xx4,reduceCtorEq]
  intro hx
  simp only [Bzj3,go_sem,yz0,xx9,xx8,xx6,xx7,xx5,xx0,xx1,xx2,reduceIte,xx3,xx4,reduceCtorEq]
  refine wpD_lo (fun i=>xs.length - i) (fun i=>i≤xs.length∧i≤ys.length∧cmpL (xs.drop i) (ys.drop i)=cmpL xs ys)
    (fun i:Nat=>⟨L .any [(0,.ro none 1 (ints xs)),(1,.ro none 1 (ints ys)),(9,.ro none 1 (ints xs)),(10,iv xs.length),(11,iv i)],L .gone []⟩) 0 (by simp) (by simp only [Bz42,go_sem,yz0,xx9,xx8,xx6,xx7,xx5,xx0,xx1,xx2,reduceIte,xx3,xx4,reduceCtorEq];try rfl) ?_
  rintro i ⟨hi,hi2,hc⟩
  have hM:=maxLen_le
  by_cases hlt:(i:Int)<xs.length
  · have hlt1:i<xs.length:=by omega
    rw [drop_getD hlt1 0] at hc
    simp only [Bz42,Bz9k,Bz9j,Bzj1,decide_eq_true hlt,yzx hlt1,go_sem,yz0,xx9,xx8,xx6,xx7,xx5,xx0,xx1,xx2,reduceIte,xx3,xx4,reduceCtorEq]
    refine ⟨⟨by omega,hlt1⟩,hlt1,?_⟩
    intro hy
    by_cases hge:(i:Int) ≥ ys.length
    · have:ys.drop i=[]:=List.drop_eq_nil_of_le (by omega)
      rw [this] at hc
      simp only [cmpL] at hc
      simp only [Bz9g,decide_eq_true hge,← hc,go_sem,yz0,xx9,xx8,xx6,xx7,xx5,xx0,xx1,xx2,reduceIte,xx3,xx4,reduceCtorEq]
      try rfl
    · have hlt2:i<ys.length:=by omega
      rw [drop_getD hlt2 0] at hc
      simp only [cmpL] at hc
      simp only [Bz9g,Bzj0,Bziz,decide_eq_false hge,yzx hlt2,go_sem,yz0,xx9,xx8,xx6,xx7,xx5,xx0,xx1,xx2,reduceIte,xx3,xx4,reduceCtorEq]
      refine ⟨⟨by omega,hlt2⟩,hlt2,fun vs=>?_⟩
      refine yz12 (k_cmp (xs.getD i 0) (ys.getD i 0)) qCS trivial ?_
      by_cases h0:cmpI (xs.getD i 0) (ys.getD i 0)=0
      · rw [if_pos h0] at hc
        simp only [Bz9i,Bz9h,Bzj2,h0,bne_self_eq_false,nat1 i _ hlt1 hx,go_sem,yz0,xx9,xx8,xx6,xx7,xx5,xx0,xx1,xx2,reduceIte,xx3,xx4,reduceCtorEq]
        exact ⟨i+1,by omega,⟨by omega,by omega,hc⟩,rfl⟩
      · rw [if_neg h0] at hc
        have e1:(cmpI (xs.getD i 0) (ys.getD i 0) != 0)=true:=by simpa using h0
        simp only [Bz9i,Bz9h,e1,← hc,go_sem,yz0,xx9,xx8,xx6,xx7,xx5,xx0,xx1,xx2,reduceIte,xx3,xx4,reduceCtorEq]
  · have:i=xs.length:=by omega
    subst this
    rw [List.drop_length] at hc
    simp only [Bz42,Bz9k,Bz9j,Bzj5,decide_eq_false hlt,go_sem,yz0,xx9,xx8,xx6,xx7,xx5,xx0,xx1,xx2,reduceIte,xx3,xx4,reduceCtorEq]
    intro _ hy
    by_cases hl:(xs.length:Int)<ys.length
    · have hl2:xs.length<ys.length:=by omega
      rw [drop_getD hl2 0] at hc
      simp only [cmpL] at hc
      simp only [Bz9l,decide_eq_true hl,← hc,go_sem,yz0,xx9,xx8,xx6,xx7,xx5,xx0,xx1,xx2,reduceIte,xx3,xx4,reduceCtorEq]
      try rfl
    · have:ys.drop xs.length=[]:=List.drop_eq_nil_of_le (by omega)
      rw [this] at hc
      simp only [cmpL] at hc
      simp only [Bz9l,Bzj4,decide_eq_false hl,← hc,go_sem,yz0,xx9,xx8,xx6,xx7,xx5,xx0,xx1,xx2,reduceIte,xx3,xx4,reduceCtorEq]
def prow (p:Int→Int→Bool) (s:Int):Int→Nat→List (List Int)
  | _,0=>[]
  | t,m+1=>(if p s t=true then [[s,t]] else []) ++ prow p s (t+1) m
def pall (p:Int→Int→Bool) (n:Int):Int→Nat→List (List Int)
  | _,0=>[]
  | s,m+1=>prow p s (s+1) (n - (s+1)).toNat ++ pall p n (s+1) m
def pairsL (n:Int) (p:Int→Int→Bool):List (List Int):=pall p n 0 n.toNat
theorem prow_len {p:Int→Int→Bool} {s:Int}:∀ (m:Nat) (t:Int),(prow p s t m).length≤m
  | 0,t=>by simp [prow]
  | m+1,t=>by
    have:=prow_len (p:=p) (s:=s) m (t+1)
    simp only [prow,List.length_append]
    split <;> simp <;> omega
theorem pall_len {p:Int→Int→Bool} {n:Int}:∀ (m:Nat) (s:Int),0≤s→(pall p n s m).length≤m * n.toNat
  | 0,s,_=>by simp [pall]
  | m+1,s,hs=>by
    have h1:=pall_len (p:=p) (n:=n) m (s+1) (by omega)
    have h2:=prow_len (p:=p) (s:=s) (n - (s+1)).toNat (s+1)
    simp only [pall,List.length_append,Nat.succ_mul]
    omega
theorem pairsL_len {n:Int} (hn:1≤n∧n≤10) {p:Int→Int→Bool}:(pairsL n p).length≤100:=by
  have h:=pall_len (p:=p) (n:=n) n.toNat 0 (by omega)
  have:n.toNat * n.toNat≤10 * 10:=Nat.mul_le_mul (by omega) (by omega)
  unfold pairsL;omega
theorem prow_mem {p:Int→Int→Bool} {s:Int} {x:List Int}:∀ (m:Nat) (t:Int),x∈prow p s t m↔∃ u:Int,t≤u∧u<t+m∧p s u=true∧x=[s,u]
  | 0,t=>by
    simp only [prow,List.not_mem_nil,false_iff]
    rintro ⟨u,h1,h2,_⟩;omega
  | m+1,t=>by
    have ih:=prow_mem (p:=p) (s:=s) (x:=x) m (t+1)
    simp only [prow,List.mem_append,ih]
    constructor
    · rintro (h | ⟨u,h1,h2,h3⟩)
      · split at h
        · rename_i hp
          exact ⟨t,by omega,by omega,hp,by simpa using h⟩
        · cases h
      · exact ⟨u,by omega,by omega,h3⟩
    · rintro ⟨u,h1,h2,h3,h4⟩
      by_cases hu:u=t
      · subst hu
        left;rw [if_pos h3];simpa using h4
      · exact .inr ⟨u,by omega,by omega,h3,h4⟩
theorem pall_mem {p:Int→Int→Bool} {n:Int} {x:List Int}:∀ (m:Nat) (s:Int),s+m=n→(x∈pall p n s m↔∃ a b:Int,s≤a∧a<b∧b<n∧p a b=true∧x=[a,b])
  | 0,s,hm=>by
    simp only [pall,List.not_mem_nil,false_iff]
    rintro ⟨a,b,h1,h2,h3,_⟩;omega
  | m+1,s,hm=>by
    have ih:=pall_mem (p:=p) (n:=n) (x:=x) m (s+1) (by omega)
    simp only [pall,List.mem_append,ih,prow_mem]
    constructor
    · rintro (⟨u,h1,h2,h3,h4⟩ | ⟨a,b,h1,h2⟩)
      · exact ⟨s,u,by omega,by omega,by omega,h3,h4⟩
      · exact ⟨a,b,by omega,h2⟩
    · rintro ⟨a,b,h1,h2,h3,h4,h5⟩
      by_cases ha:a=s
      · subst ha;exact .inl ⟨b,by omega,by omega,h4,h5⟩
      · exact .inr ⟨a,b,by omega,h2,h3,h4,h5⟩
theorem pairsL_mem {n:Int} (hn:0≤n) {p:Int→Int→Bool} {x:List Int}:x∈pairsL n p↔∃ a b:Int,0≤a∧a<b∧b<n∧p a b=true∧x=[a,b]:=pall_mem _ _ (by omega)
theorem k_pairs (n:Int) (next:List (List Int)) (g:FuncId) (caps:List AVal) (p:Int→Int→Bool) (hn:1≤n∧n≤10) (hc:Caps caps) (h:∀ s t,0≤s→s<t→t<n→Fun Tryz.prog g (iv s :: iv t :: caps) (bv (p s t))) :
    RowR Tryz.prog nzv [autA n next,.clo g caps] (fun xss=>xss=pairsL n p):=by
  refine rowR_of mixed czpo rfl ?_
  have hpl:=pairsL_len hn (p:=p)
  simp only [Azel,Bzek,hc.dn,go_sem,yz0,xx9,xx8,xx6,xx7,xx5,xx0,xx1,xx2,reduceIte,xx3,xx4,reduceCtorEq]
  intro vs vs2
  simp only [Bzej,Bzeh,hc.dn,go_sem,yz0,xx9,xx8,xx6,xx7,xx5,xx0,xx1,xx2,reduceIte,xx3,xx4,reduceCtorEq]
  refine wpD_lo (fun (_,_,s)=>n.toNat - s) (fun (_,acc,s)=>(s:Int)≤n∧acc ++ pall p n s (n.toNat - s)=pairsL n p)
    (fun ((v,acc,s):Nat×List (List Int)×Nat)=>⟨L .any [(1,.clo g caps),(2,.ptr 2 (vs 0 0) 0),(5,.own 8 v),(10,iv n),(11,iv s)],L .gone [(2,.box (vs 0 0) [iv n,.ro none 1 (rwn next)]),(8,.row v 1 true (rws acc))]⟩)
    (_,[],0) ⟨by omega,rfl⟩ (by simp only [Bz3e,hc.dn,go_sem,yz0,xx9,xx8,xx6,xx7,xx5,xx0,xx1,xx2,reduceIte,xx3,xx4,reduceCtorEq];try rfl) ?_
  rintro ⟨v,acc,s⟩ ⟨hs,hacc⟩
  have hs:(s:Int)≤n:=hs
  by_cases hlt:(s:Int)<n
  · have w0:IntKind.i64.wrap ((s:Int)+1)=((s+1:Nat):Int):=by rw [w64 (by omega)];omega
    have e1:n.toNat - s=(n.toNat - (s+1))+1:=by omega
    rw [e1] at hacc
    simp only [pall] at hacc
    simp only [Bz3e,Bz7s,Bz7r,Bzef,Bzee,w0,decide_eq_true hlt,hc.dn,go_sem,yz0,xx9,xx8,xx6,xx7,xx5,xx0,xx1,xx2,reduceIte,xx3,xx4,reduceCtorEq]
    refine wpD_lo (fun (_,_,t)=>n.toNat - t) (fun (_,acc',t)=>(t:Int)≤n∧s<t∧acc' ++ (prow p s t (n - t).toNat ++ pall p n ((s:Int)+1) (n.toNat - (s+1)))=pairsL n p)
      (fun ((v,acc',t):Nat×List (List Int)×Nat)=>⟨L .any [(1,.clo g caps),(2,.ptr 2 (vs 0 0) 0),(5,.own 8 v),(6,iv s),(7,iv t),(10,iv n),(11,iv s)],L .gone [(2,.box (vs 0 0) [iv n,.ro none 1 (rwn next)]),(8,.row v 1 true (rws acc'))]⟩)
      (_,acc,s+1) ⟨by omega,by omega,hacc⟩ (by simp only [Bz3d,hc.dn,go_sem,yz0,xx9,xx8,xx6,xx7,xx5,xx0,xx1,xx2,reduceIte,xx3,xx4,reduceCtorEq];try rfl) ?_
    rintro ⟨v',acc',t⟩ ⟨ht,hst,hacc'⟩
    have ht:(t:Int)≤n:=ht
    have hst:s<t:=hst
    have w1:IntKind.i64.wrap ((t:Int)+1)=((t+1:Nat):Int):=by rw [w64 (by omega)];omega
    by_cases hlt2:(t:Int)<n
    · have e2:(n - (t:Int)).toNat=(n - ((t+1:Nat):Int)).toNat+1:=by omega
      have e3:((t+1:Nat):Int)=(t:Int)+1:=by omega
      rw [e2] at hacc'
      simp only [prow] at hacc'
      simp only [Bz3d,Bz7n,Bz7q,decide_eq_true hlt2,hc.dn,go_sem,yz0,xx9,xx8,xx6,xx7,xx5,xx0,xx1,xx2,reduceIte,xx3,xx4,reduceCtorEq]
      intro vs3
      refine yz12 (h s t (by omega) (by omega) hlt2) (by simp only [rowIs,boxIs,yz1c,yz13,yz1d,yz14,yzm,yz1i,yz1g,coe_ro,yzt,yzo,coe_st,yzq,coe_rp,yzr,yz1h,yz1e,yz16,yzn,yz1b,yz18,L_hit,L_miss,L_nil,xx3,ne_eq,reduceCtorEq,not_false_eq_true,true_and,and_true,and_self,exists_eq_left,exists_eq_right,List.mem_cons,List.not_mem_nil,or_false,AObj.row.injEq,AObj.box.injEq,exists_eq_left',exists_and_left,exists_eq,Nat.zero_lt_one,Nat.lt_add_one,List.map_cons,List.map_nil,AObj.ver,xx5,not_true_eq_false];exact hc.coe _ _ _) trivial ?_
      cases hp:p s t with
      | true =>
        rw [hp,if_pos rfl] at hacc'
        have hal:acc'.length≤100:=by rw [← hacc',List.length_append] at hpl;omega
        have hr:rws acc' ++ [.ro (some none) 1 [.val (.int .i64 s),.val (.int .i64 t)]]=rws (acc' ++ [[(s:Int),(t:Int)]]):=by simp [rws]
        simp only [Bz7o,Bz7p,w1,hr,hc.dn,go_sem,yz0,xx9,xx8,xx6,xx7,xx5,xx0,xx1,xx2,reduceIte,xx3,xx4,reduceCtorEq]
        intro vs4
        exact ⟨⟨⟨_,rfl,rfl⟩,_,rfl,rfl⟩,by omega,(vs4 5 0,acc' ++ [[(s:Int),(t:Int)]],t+1),by dsimp only;omega,⟨by dsimp only;omega,by dsimp only;omega,by dsimp only;rw [e3,List.append_assoc,← hacc',← e3,List.append_assoc]⟩,rfl⟩
      | false =>
        rw [hp,if_neg (by simp),List.nil_append] at hacc'
        simp only [Bz7o,Bz7p,w1,hc.dn,go_sem,yz0,xx9,xx8,xx6,xx7,xx5,xx0,xx1,xx2,reduceIte,xx3,xx4,reduceCtorEq]
        exact ⟨(_,acc',t+1),by dsimp only;omega,⟨by dsimp only;omega,by dsimp only;omega,by dsimp only;rw [e3];exact hacc'⟩,rfl⟩
    · have ht2:(t:Int)=n:=by omega
      have e2:(n - (t:Int)).toNat=0:=by omega
      rw [e2] at hacc'
      simp only [prow,List.nil_append] at hacc'
      simp only [Bz3d,Bz7n,Bz7q,Bzeg,w0,decide_eq_false hlt2,hc.dn,go_sem,yz0,xx9,xx8,xx6,xx7,xx5,xx0,xx1,xx2,reduceIte,xx3,xx4,reduceCtorEq]
      exact ⟨(_,acc',s+1),by dsimp only;omega,⟨by dsimp only;omega,by dsimp only;rw [show ((s+1:Nat):Int)=(s:Int)+1 by omega];exact hacc'⟩,rfl⟩
  · have hs2:n.toNat - s=0:=by omega
    rw [hs2] at hacc
    simp only [pall,List.append_nil] at hacc
    simp only [Bz3e,Bz7s,Bz7r,Bzei,decide_eq_false hlt,hc.dn,go_sem,yz0,xx9,xx8,xx6,xx7,xx5,xx0,xx1,xx2,reduceIte,xx3,xx4,reduceCtorEq]
    exact ⟨8,v,acc,by omega,rfl,by simp only [go_sem,yz0,xx9,xx8,xx6,xx7,xx5,xx0,xx1,xx2,reduceIte,xx3,xx4,reduceCtorEq],hacc⟩
theorem k_l02Pairs (n:Int) (hn:1≤n∧n≤10):RowR Tryz.prog nz18 [iv n] (fun xss=>xss=pairsL n fun _ _=>true):=by
  refine rowR_of mixed czpx rfl ?_
  have hpl:=pairsL_len hn (p:=fun _ _=>true)
  simp only [Azfw,Bzfv,go_sem,yz0,xx9,xx8,xx6,xx7,xx5,xx0,xx1,xx2,reduceIte,xx3,xx4,reduceCtorEq]
  intro vs
  simp only [Bzfu,Bzfs,go_sem,yz0,xx9,xx8,xx6,xx7,xx5,xx0,xx1,xx2,reduceIte,xx3,xx4,reduceCtorEq]
  refine wpD_lo (fun (_,_,s)=>n.toNat - s) (fun (_,acc,s)=>(s:Int)≤n∧acc ++ pall (fun _ _=>true) n s (n.toNat - s)=pairsL n fun _ _=>true)
    (fun ((v,acc,s):Nat×List (List Int)×Nat)=>⟨L .any [(0,iv n),(3,.own 6 v),(4,iv s)],L .gone [(6,.row v 1 true (rws acc))]⟩)
    (_,[],0) ⟨by omega,rfl⟩ (by simp only [Bz3p,go_sem,yz0,xx9,xx8,xx6,xx7,xx5,xx0,xx1,xx2,reduceIte,xx3,xx4,reduceCtorEq];try rfl) ?_
  rintro ⟨v,acc,s⟩ ⟨hs,hacc⟩
  have hs:(s:Int)≤n:=hs
  by_cases hlt:(s:Int)<n
  · have w0:IntKind.i64.wrap ((s:Int)+1)=((s+1:Nat):Int):=by rw [w64 (by omega)];omega
    have e1:n.toNat - s=(n.toNat - (s+1))+1:=by omega
    rw [e1] at hacc
    simp only [pall] at hacc
    simp only [Bz3p,Bz8g,Bz8j,Bzfq,w0,decide_eq_true hlt,go_sem,yz0,xx9,xx8,xx6,xx7,xx5,xx0,xx1,xx2,reduceIte,xx3,xx4,reduceCtorEq]
    refine wpD_lo (fun (_,_,t)=>n.toNat - t) (fun (_,acc',t)=>(t:Int)≤n∧s<t∧acc' ++ (prow (fun _ _=>true) s t (n - t).toNat ++ pall (fun _ _=>true) n ((s:Int)+1) (n.toNat - (s+1)))=pairsL n fun _ _=>true)
      (fun ((v,acc',t):Nat×List (List Int)×Nat)=>⟨L .any [(0,iv n),(3,.own 6 v),(4,iv s),(5,iv t)],L .gone [(6,.row v 1 true (rws acc'))]⟩)
      (_,acc,s+1) ⟨by omega,by omega,hacc⟩ (by simp only [Bz3o,go_sem,yz0,xx9,xx8,xx6,xx7,xx5,xx0,xx1,xx2,reduceIte,xx3,xx4,reduceCtorEq];try rfl) ?_
    rintro ⟨v',acc',t⟩ ⟨ht,hst,hacc'⟩
    have ht:(t:Int)≤n:=ht
    have hst:s<t:=hst
    have w1:IntKind.i64.wrap ((t:Int)+1)=((t+1:Nat):Int):=by rw [w64 (by omega)];omega
    by_cases hlt2:(t:Int)<n
    · have e2:(n - (t:Int)).toNat=(n - ((t+1:Nat):Int)).toNat+1:=by omega
      have e3:((t+1:Nat):Int)=(t:Int)+1:=by omega
      rw [e2] at hacc'
      simp only [prow,if_true] at hacc'
      have hal:acc'.length≤100:=by rw [← hacc',List.length_append] at hpl;omega
      have hr:rws acc' ++ [.ro (some none) 1 [.val (.int .i64 s),.val (.int .i64 t)]]=rws (acc' ++ [[(s:Int),(t:Int)]]):=by simp [rws]
      simp only [Bz3o,Bz8h,Bz8i,Bzfp,w1,hr,decide_eq_true hlt2,go_sem,yz0,xx9,xx8,xx6,xx7,xx5,xx0,xx1,xx2,reduceIte,xx3,xx4,reduceCtorEq]
      intro vs4
      exact ⟨⟨⟨_,rfl,rfl⟩,_,rfl,rfl⟩,by omega,(vs4 5 0,acc' ++ [[(s:Int),(t:Int)]],t+1),by dsimp only;omega,⟨by dsimp only;omega,by dsimp only;omega,by dsimp only;rw [e3,List.append_assoc,← hacc',← e3,List.append_assoc]⟩,rfl⟩
    · have ht2:(t:Int)=n:=by omega
      have e2:(n - (t:Int)).toNat=0:=by omega
      rw [e2] at hacc'
      simp only [prow,List.nil_append] at hacc'
      simp only [Bz3o,Bz8h,Bz8i,Bzfr,w0,decide_eq_false hlt2,go_sem,yz0,xx9,xx8,xx6,xx7,xx5,xx0,xx1,xx2,reduceIte,xx3,xx4,reduceCtorEq]
      exact ⟨(_,acc',s+1),by dsimp only;omega,⟨by dsimp only;omega,by dsimp only;rw [show ((s+1:Nat):Int)=(s:Int)+1 by omega];exact hacc'⟩,rfl⟩
  · have hs2:n.toNat - s=0:=by omega
    rw [hs2] at hacc
    simp only [pall,List.append_nil] at hacc
    simp only [Bz3p,Bz8g,Bz8j,Bzft,decide_eq_false hlt,go_sem,yz0,xx9,xx8,xx6,xx7,xx5,xx0,xx1,xx2,reduceIte,xx3,xx4,reduceCtorEq]
    exact ⟨6,v,acc,by omega,rfl,by simp only [go_sem,yz0,xx9,xx8,xx6,xx7,xx5,xx0,xx1,xx2,reduceIte,xx3,xx4,reduceCtorEq],hacc⟩
end Go.Ab
namespace Go.Ab
open Go.Proofs
theorem bneF {a b:Int} (h:a=b):(a != b)=false:=by simp [h]
theorem bneT {a b:Int} (h:a≠b):(a != b)=true:=by simp [h]
theorem beqT {a b:Int} (h:a=b):(a == b)=true:=by simp [h]
theorem beqF {a b:Int} (h:a≠b):(a == b)=false:=by simp [h]
abbrev certA (kind:Int) (pairs words:List (List Int)):AVal:=.st [iv kind,.ro none 1 (rwn pairs),.ro none 1 (rwn words)]
abbrev certP (kind:Int) (pairs words:List (List Int)):AVal:=.rp [iv kind,.ro none 1 (rwn pairs),.ro none 1 (rwn words)] 0
abbrev every (n:Int):List (List Int):=pairsL n fun _ _=>true
abbrev imgL (next:List (List Int)) (set w:List Int):List Int:=nrm (set.map fun s=>atA next s w)
def mergeP (n:Int) (next pairs words:List (List Int)):Prop:=pairs.length=0∧words.length=(every n).length ∧
  ∀ i,i<(every n).length→wordB next.length (words.getD i [])=true∧atA next (((every n).getD i []).getD 0 0) (words.getD i [])=atA next (((every n).getD i []).getD 1 0) (words.getD i [])
def apartP (n:Int) (next pairs words:List (List Int)):Prop:=words.length=0∧0<pairs.length ∧
  ∀ i,i<pairs.length→pairs.getD i []∈every n∧(0<i→cmpL (pairs.getD (i - 1) []) (pairs.getD i [])<0)∧∀ l:Nat,l<next.length→imgL next (pairs.getD i []) [(l:Int)]∈pairs
open Classical in
noncomputable def rightB (n:Int) (next:List (List Int)) (kind:Int) (pairs words:List (List Int)):Bool :=
  if kind=1 then decide (mergeP n next pairs words) else if kind=2 then decide (apartP n next pairs words) else false
theorem right1_t {n:Int} {next pairs words:List (List Int)} (h:mergeP n next pairs words):rightB n next 1 pairs words=true:=by simp [rightB,h]
theorem right1_f {n:Int} {next pairs words:List (List Int)} (h:¬ mergeP n next pairs words):rightB n next 1 pairs words=false:=by simp [rightB,h]
theorem right2_t {n:Int} {next pairs words:List (List Int)} (h:apartP n next pairs words):rightB n next 2 pairs words=true:=by simp [rightB,h]
theorem right2_f {n:Int} {next pairs words:List (List Int)} (h:¬ apartP n next pairs words):rightB n next 2 pairs words=false:=by simp [rightB,h]
theorem right_f {n kind:Int} {next pairs words:List (List Int)} (h1:kind≠1) (h2:kind≠2):rightB n next kind pairs words=false:=by simp [rightB,h1,h2]
theorem k_isRight_1 (s t:Int):Fun Tryz.prog nz2l [iv s,iv t] (bv true):=by
  refine fun_of mixed czqo rfl ⟨rfl,trivial⟩ ?_
  simp only [Bzit,Aziu,go_sem,yz0,xx9,xx8,xx6,xx7,xx5,xx0,xx1,xx2,reduceIte,xx3,xx4,reduceCtorEq]
theorem k_isRight_2_1 (q p:List Int):Fun Tryz.prog nz2m [.ro none 1 (ints q),.rp [.ro none 1 (ints p)] 0] (bv (decide (p=q))):=by
  refine fun_of mixed czqq rfl ⟨rfl,trivial⟩ ?_
  simp only [Bzix,Aziy,go_sem,yz0,xx9,xx8,xx6,xx7,xx5,xx0,xx1,xx2,reduceIte,xx3,xx4,reduceCtorEq]
  intro vs
  refine yz12 (k_Equal p q) qCS trivial ?_
  simp only [go_sem,yz0,xx9,xx8,xx6,xx7,xx5,xx0,xx1,xx2,reduceIte,xx3,xx4,reduceCtorEq]
theorem k_has (list:List (List Int)) (p:List Int):Fun Tryz.prog nzy [.ro none 1 (rwn list),.ro none 1 (ints p)] (bv (decide (p∈list))):=by
  refine fun_of mixed czqp rfl ⟨rfl,trivial⟩ ?_
  simp only [Bziv,Aziw,go_sem,yz0,xx9,xx8,xx6,xx7,xx5,xx0,xx1,xx2,reduceIte,xx3,xx4,reduceCtorEq]
  intro vs vs2
  refine yz12 (k_ContainsFunc list nz2m [.rp [.ro none 1 (ints p)] 0] (fun q=>decide (p=q)) ⟨by simp only [go_sem,yz0,xx9,xx8,xx6,xx7,xx5,xx0,xx1,xx2,reduceIte,xx3,xx4,reduceCtorEq],by intros;simp only [rowIs,boxIs,yz1c,yz13,yz1d,yz14,yzm,yz1i,yz1g,coe_ro,yzt,yzo,coe_st,yzq,coe_rp,yzr,yz1h,yz1e,yz16,yzn,yz1b,yz18,L_hit,L_miss,L_nil,xx3,ne_eq,reduceCtorEq,not_false_eq_true,true_and,and_true,and_self,exists_eq_left,exists_eq_right,List.mem_cons,List.not_mem_nil,or_false,AObj.row.injEq,AObj.box.injEq,exists_eq_left',exists_and_left,exists_eq,Nat.zero_lt_one,Nat.lt_add_one,List.map_cons,List.map_nil,AObj.ver,xx5,not_true_eq_false]⟩ (fun q _=>k_isRight_2_1 q p)) qCS trivial ?_
  have e:(list.any fun q=>decide (p=q))=decide (p∈list):=by
    rw [Bool.eq_iff_iff];simp
  simp only [e,go_sem,yz0,xx9,xx8,xx6,xx7,xx5,xx0,xx1,xx2,reduceIte,xx3,xx4,reduceCtorEq]
theorem every_get {n:Int} (hn:0≤n) {i:Nat} (hi:i<(every n).length):∃ a b:Int,0≤a∧a<b∧b<n∧(every n).getD i []=[a,b]:=by
  have h:=(pairsL_mem hn).1 (yz1f hi [])
  obtain ⟨a,b,h1,h2,h3,_,h4⟩:=h
  exact ⟨a,b,h1,h2,h3,h4⟩
theorem img2 {next:List (List Int)} {a b:Int} {w:List Int}:(imgL next [a,b] w).length=1↔atA next a w=atA next b w:=by
  simp only [imgL,List.map_cons,List.map_nil,nrm,List.foldl_cons,List.foldl_nil,put]
  split
  · split
    · simp;omega
    · simp;omega
  · simp;omega
theorem k_isRight (n:Int) (next:List (List Int)) (kind:Int) (pairs words:List (List Int)) (A:Aut n next) :
    Fun Tryz.prog nz27 [autA n next,certA kind pairs words] (bv (rightB n next kind pairs words)):=by
  refine fun_of mixed czps rfl ⟨rfl,trivial⟩ ?_
  have n1:=A.n1
  have n2:=A.n2
  have l1:=A.l1
  have l2:=A.l2
  have hM:=maxLen_le
  have hel:=pairsL_len ⟨n1,n2⟩ (p:=fun _ _=>true)
  simp only [Azf7,Bzf6,go_sem,yz0,xx9,xx8,xx6,xx7,xx5,xx0,xx1,xx2,reduceIte,xx3,xx4,reduceCtorEq]
  intro vs vs2
  refine call_rowR (k_pairs n next nz2l [] (fun _ _=>true) ⟨n1,n2⟩ ⟨by simp only [go_sem,yz0,xx9,xx8,xx6,xx7,xx5,xx0,xx1,xx2,reduceIte,xx3,xx4,reduceCtorEq],by intros;simp only [rowIs,boxIs,yz1c,yz13,yz1d,yz14,yzm,yz1i,yz1g,coe_ro,yzt,yzo,coe_st,yzq,coe_rp,yzr,yz1h,yz1e,yz16,yzn,yz1b,yz18,L_hit,L_miss,L_nil,xx3,ne_eq,reduceCtorEq,not_false_eq_true,true_and,and_true,and_self,exists_eq_left,exists_eq_right,List.mem_cons,List.not_mem_nil,or_false,AObj.row.injEq,AObj.box.injEq,exists_eq_left',exists_and_left,exists_eq,Nat.zero_lt_one,Nat.lt_add_one,List.map_cons,List.map_nil,AObj.ver,xx5,not_true_eq_false]⟩ (fun s t _ _ _=>k_isRight_1 s t)) qCS rfl ⟨_,rfl⟩ ?_
  rintro xss v rfl
  simp only [Bzf5,Bzf4,Bzf2,go_sem,yz0,xx9,xx8,xx6,xx7,xx5,xx0,xx1,xx2,reduceIte,xx3,xx4,reduceCtorEq]
  by_cases hk1:kind=1
  · subst hk1
    by_cases hp0:(0:Int)<pairs.length
    · have hf:rightB n next 1 pairs words=false:=right1_f fun h=>by have:=h.1;omega
      simp only [Bz12,Bz3f,beq_self_eq_true,decide_eq_true hp0,hf,go_sem,yz0,xx9,xx8,xx6,xx7,xx5,xx0,xx1,xx2,reduceIte,xx3,xx4,reduceCtorEq]
      try (intro _;trivial)
    · simp only [Bz12,beq_self_eq_true,decide_eq_false hp0,go_sem,yz0,xx9,xx8,xx6,xx7,xx5,xx0,xx1,xx2,reduceIte,xx3,xx4,reduceCtorEq]
      intro hMp hMw hMe
      by_cases hle:words.length=(every n).length
      · have e0:((words.length:Int) != ((every n).length:Int))=false:=by simp [hle]
        simp only [Bz3f,Bzex,Bzev,e0,go_sem,yz0,xx9,xx8,xx6,xx7,xx5,xx0,xx1,xx2,reduceIte,xx3,xx4,reduceCtorEq]
        intro _
        refine wpD_lo (fun i=>(every n).length - i) (fun i=>i≤(every n).length∧∀ j,j<i→wordB next.length (words.getD j [])=true∧atA next (((every n).getD j []).getD 0 0) (words.getD j [])=atA next (((every n).getD j []).getD 1 0) (words.getD j []))
          (fun i:Nat=>⟨L .any [(2,.ptr 2 (vs 0 0) 0),(3,.ptr 3 (vs 1 0) 0),(31,.own 14 v),(32,iv (every n).length),(33,iv i)],L .gone [(2,.box (vs 0 0) [iv n,.ro none 1 (rwn next)]),(3,.box (vs 1 0) [iv 1,.ro none 1 (rwn pairs),.ro none 1 (rwn words)]),(14,.row v 1 true (rws (every n)))]⟩) 0 ⟨by simp,fun j hj=>by omega⟩ (by simp only [Bz3h,go_sem,yz0,xx9,xx8,xx6,xx7,xx5,xx0,xx1,xx2,reduceIte,xx3,xx4,reduceCtorEq];try rfl) ?_
        rintro i ⟨hi,hall⟩
        by_cases hlt:(i:Int)<(every n).length
        · have hlt1:i<(every n).length:=by omega
          have hlt2:i<words.length:=by omega
          obtain ⟨a,b,ha,hab,hb,hget⟩:=every_get (by omega) hlt1
          have hni:IntKind.i64.wrap (i:Int)=i:=w64 (by omega)
          simp only [Bz3h,Bz7w,Bz7v,Bzet,Bzes,rws_getD hlt1,rwn_getD hlt2,decide_eq_true hlt,go_sem,yz0,xx9,xx8,xx6,xx7,xx5,xx0,xx1,xx2,reduceIte,xx3,xx4,reduceCtorEq]
          refine ⟨⟨by omega,hlt1⟩,hlt1,⟨by omega,hlt2⟩,hlt2,?_⟩
          intro vs3
          refine yz12 (k_isWord n next (words.getD i []) ⟨l1,l2⟩) qCS trivial ?_
          cases hw:wordB next.length (words.getD i []) with
          | false =>
            have hf:rightB n next 1 pairs words=false:=right1_f fun h=>by have:=(h.2.2 i hlt1).1;rw [hw] at this;cases this
            simp only [Bz3g,hf,go_sem,yz0,xx9,xx8,xx6,xx7,xx5,xx0,xx1,xx2,reduceIte,xx3,xx4,reduceCtorEq]
          | true =>
            simp only [go_sem,yz0,xx9,xx8,xx6,xx7,xx5,xx0,xx1,xx2,reduceIte,xx3,xx4,reduceCtorEq]
            refine call_rowI (k_image n next ((every n).getD i []) (words.getD i []) A (by rw [hget];intro x hx;simp at hx;omega) (wordB_iff.1 hw).2 (by rw [hget];simp)) qCS rfl ⟨_,rfl⟩ ?_
            rintro ys v4 rfl
            simp only [go_sem,yz0,xx9,xx8,xx6,xx7,xx5,xx0,xx1,xx2,reduceIte,xx3,xx4,reduceCtorEq]
            intro hM4
            have hcmp:=img2 (next:=next) (a:=a) (b:=b) (w:=words.getD i [])
            rw [← hget] at hcmp
            have hg0:((every n).getD i []).getD 0 0=a:=by rw [hget];rfl
            have hg1:((every n).getD i []).getD 1 0=b:=by rw [hget];rfl
            by_cases hz:(imgL next ((every n).getD i []) (words.getD i [])).length=1
            · have e4:(((imgL next ((every n).getD i []) (words.getD i [])).length:Int) != 1)=false:=bneF (by omega)
              simp only [Bz3g,Bzeu,e4,nat1 i _ hlt1 hMe,go_sem,yz0,xx9,xx8,xx6,xx7,xx5,xx0,xx1,xx2,reduceIte,xx3,xx4,reduceCtorEq]
              refine ⟨i+1,by omega,⟨by omega,fun j hj=>?_⟩,rfl⟩
              by_cases hji:j<i
              · exact hall j hji
              · have:j=i:=by omega
                subst this
                rw [hg0,hg1]
                exact ⟨hw,hcmp.1 hz⟩
            · have e4:(((imgL next ((every n).getD i []) (words.getD i [])).length:Int) != 1)=true:=bneT (by omega)
              have hf:rightB n next 1 pairs words=false:=right1_f fun h=>hz (hcmp.2 (by have:=(h.2.2 i hlt1).2;rwa [hg0,hg1] at this))
              simp only [Bz3g,e4,hf,go_sem,yz0,xx9,xx8,xx6,xx7,xx5,xx0,xx1,xx2,reduceIte,xx3,xx4,reduceCtorEq]
        · have hfin:i=(every n).length:=by omega
          have ht:rightB n next 1 pairs words=true:=right1_t ⟨by omega,hle,fun j hj=>hall j (by omega)⟩
          simp only [Bz3h,Bz7w,Bz7v,Bzew,decide_eq_false hlt,ht,go_sem,yz0,xx9,xx8,xx6,xx7,xx5,xx0,xx1,xx2,reduceIte,xx3,xx4,reduceCtorEq]
      · have e0:((words.length:Int) != ((every n).length:Int))=true:=by simp;omega
        have hf:rightB n next 1 pairs words=false:=right1_f fun h=>hle h.2.1
        simp only [Bz3f,e0,hf,go_sem,yz0,xx9,xx8,xx6,xx7,xx5,xx0,xx1,xx2,reduceIte,xx3,xx4,reduceCtorEq]
  · have e1:(kind == 1)=false:=beq_false_of_ne hk1
    by_cases hk2:kind=2
    · subst hk2
      by_cases hw0:(0:Int)<words.length
      · have hf:rightB n next 2 pairs words=false:=right2_f fun h=>by have:=h.1;omega
        simp only [Bz12,Bz3k,Bz3i,e1,beq_self_eq_true,decide_eq_true hw0,hf,go_sem,yz0,xx9,xx8,xx6,xx7,xx5,xx0,xx1,xx2,reduceIte,xx3,xx4,reduceCtorEq]
        try (intro _;trivial)
      simp only [Bz12,Bz3k,e1,beq_self_eq_true,decide_eq_false hw0,go_sem,yz0,xx9,xx8,xx6,xx7,xx5,xx0,xx1,xx2,reduceIte,xx3,xx4,reduceCtorEq]
      intro hMw hMp
      by_cases hp0:pairs.length=0
      · have e0:((pairs.length:Int) == 0)=true:=by simp [hp0]
        have hf:rightB n next 2 pairs words=false:=right2_f fun h=>by have:=h.2.1;omega
        simp only [Bz3i,e0,hf,go_sem,yz0,xx9,xx8,xx6,xx7,xx5,xx0,xx1,xx2,reduceIte,xx3,xx4,reduceCtorEq]
      have e0:((pairs.length:Int) == 0)=false:=beqF (by omega)
      simp only [Bz3i,Bzf1,Bzez,e0,go_sem,yz0,xx9,xx8,xx6,xx7,xx5,xx0,xx1,xx2,reduceIte,xx3,xx4,reduceCtorEq]
      intro _
      refine wpD_lo (fun i=>pairs.length - i) (fun i=>i≤pairs.length∧∀ j,j<i→pairs.getD j []∈every n∧(0<j→cmpL (pairs.getD (j - 1) []) (pairs.getD j [])<0)∧∀ l:Nat,l<next.length→imgL next (pairs.getD j []) [(l:Int)]∈pairs)
        (fun i:Nat=>⟨L .any [(2,.ptr 2 (vs 0 0) 0),(3,.ptr 3 (vs 1 0) 0),(5,.own 14 v),(6,.clo nzy []),(69,.ro none 1 (rwn pairs)),(70,iv pairs.length),(71,iv i)],L .gone [(2,.box (vs 0 0) [iv n,.ro none 1 (rwn next)]),(3,.box (vs 1 0) [iv 2,.ro none 1 (rwn pairs),.ro none 1 (rwn words)]),(14,.row v 1 true (rws (every n)))]⟩) 0 ⟨by simp,fun j hj=>by omega⟩ (by simp only [Bz3j,go_sem,yz0,xx9,xx8,xx6,xx7,xx5,xx0,xx1,xx2,reduceIte,xx3,xx4,reduceCtorEq];try rfl) ?_
      rintro i ⟨hi,hall⟩
      by_cases hlt:(i:Int)<pairs.length
      · have hlt1:i<pairs.length:=by omega
        have hni:IntKind.i64.wrap (i:Int)=i:=w64 (by omega)
        simp only [Bz3j,Bz83,Bz82,Bzey,rwn_getD hlt1,decide_eq_true hlt,go_sem,yz0,xx9,xx8,xx6,xx7,xx5,xx0,xx1,xx2,reduceIte,xx3,xx4,reduceCtorEq]
        refine ⟨⟨by omega,hlt1⟩,hlt1,?_⟩
        intro vs3
        refine yz12 (k_has (every n) (pairs.getD i [])) qCS trivial ?_
        by_cases hmem:pairs.getD i []∈every n
        · obtain ⟨a,b,ha,hab,hb,_,hpab⟩:=(pairsL_mem (by omega)).1 hmem
          by_cases h0:(i:Int) > 0
          · have hi1:i - 1<pairs.length:=by omega
            have w2:IntKind.i64.wrap ((i:Int) - 1)=((i - 1:Nat):Int):=by rw [w64 (by omega)];omega
            simp only [decide_eq_true hmem,decide_eq_true h0,w2,rwn_getD hi1,go_sem,yz0,xx9,xx8,xx6,xx7,xx5,xx0,xx1,xx2,reduceIte,xx3,xx4,reduceCtorEq]
            refine ⟨⟨by omega,hi1⟩,hi1,?_⟩
            refine yz12 (k_CompareL (pairs.getD (i - 1) []) (pairs.getD i [])) qCS trivial ?_
            by_cases hcm:cmpL (pairs.getD (i - 1) []) (pairs.getD i []) ≥ 0
            · have hf:rightB n next 2 pairs words=false:=right2_f fun h=>by have:=(h.2.2 i hlt1).2.1 (by omega);omega
              simp only [Bz1i,decide_eq_true hcm,hf,go_sem,yz0,xx9,xx8,xx6,xx7,xx5,xx0,xx1,xx2,reduceIte,xx3,xx4,reduceCtorEq]
            · simp only [Bz1i,Bz80,decide_eq_false hcm,go_sem,yz0,xx9,xx8,xx6,xx7,xx5,xx0,xx1,xx2,reduceIte,xx3,xx4,reduceCtorEq]
              have hord:0<i→cmpL (pairs.getD (i - 1) []) (pairs.getD i [])<0:=fun _=>by omega
              intro vs4
              refine yz12 (k_letters n next) qCS trivial ?_
              simp only [Bz7z,go_sem,yz0,xx9,xx8,xx6,xx7,xx5,xx0,xx1,xx2,reduceIte,xx3,xx4,reduceCtorEq]
              refine wpD_lo (fun k=>next.length - k) (fun k=>k≤next.length∧∀ l:Nat,l<k→imgL next (pairs.getD i []) [(l:Int)]∈pairs)
                (fun k:Nat=>⟨L .any [(2,.ptr 2 (vs 0 0) 0),(3,.ptr 3 (vs 1 0) 0),(5,.own 14 v),(6,.clo nzy []),(11,.ro none 1 (ints (pairs.getD i []))),(69,.ro none 1 (rwn pairs)),(70,iv pairs.length),(71,iv i),(97,iv next.length),(98,iv k)],L .gone [(2,.box (vs 0 0) [iv n,.ro none 1 (rwn next)]),(3,.box (vs 1 0) [iv 2,.ro none 1 (rwn pairs),.ro none 1 (rwn words)]),(14,.row v 1 true (rws (every n)))]⟩) 0 ⟨by simp,fun j hj=>by omega⟩ (by simp only [Bzr,go_sem,yz0,xx9,xx8,xx6,xx7,xx5,xx0,xx1,xx2,reduceIte,xx3,xx4,reduceCtorEq];try rfl) ?_
              rintro k ⟨hk,hl⟩
              by_cases hkl:(k:Int)<next.length
              · have hkl1:k<next.length:=by omega
                have w3:IntKind.i64.wrap ((k:Int)+1)=((k+1:Nat):Int):=by rw [w64 (by omega)];omega
                simp only [Bzr,Bz1l,Bz1k,Bz7x,decide_eq_true hkl,go_sem,yz0,xx9,xx8,xx6,xx7,xx5,xx0,xx1,xx2,reduceIte,xx3,xx4,reduceCtorEq]
                intro vs5
                refine ⟨⟨_,rfl,rfl⟩,?_⟩
                refine call_rowI (k_image n next (pairs.getD i []) [(k:Int)] A (by rw [hpab];intro x hx;simp at hx;omega) (by intro x hx;simp at hx;omega) (by rw [hpab];simp)) (by simp only [List.map_cons,List.map_nil,rowIs,boxIs,yz1c,yz13,yz1d,yz14,yzm,yz1i,yz1g,coe_ro,yzt,yzo,coe_st,yzq,coe_rp,yzr,yz1h,yz1e,yz16,yzn,yz1b,yz18,L_hit,L_miss,L_nil,xx3,ne_eq,reduceCtorEq,not_false_eq_true,true_and,and_true,and_self,exists_eq_left,exists_eq_right,List.mem_cons,List.not_mem_nil,or_false,AObj.row.injEq,AObj.box.injEq,exists_eq_left',exists_and_left,exists_eq,Nat.zero_lt_one,Nat.lt_add_one,List.map_cons,List.map_nil,AObj.ver,xx5,not_true_eq_false]) rfl ⟨_,rfl⟩ ?_
                rintro ys v6 rfl
                simp only [go_sem,yz0,xx9,xx8,xx6,xx7,xx5,xx0,xx1,xx2,reduceIte,xx3,xx4,reduceCtorEq]
                refine yz12 (k_has pairs (imgL next (pairs.getD i []) [(k:Int)])) qCS trivial ?_
                by_cases hin:imgL next (pairs.getD i []) [(k:Int)]∈pairs
                · simp only [Bz1j,Bz7y,decide_eq_true hin,w3,go_sem,yz0,xx9,xx8,xx6,xx7,xx5,xx0,xx1,xx2,reduceIte,xx3,xx4,reduceCtorEq]
                  refine ⟨k+1,by omega,⟨by omega,fun l hl2=>?_⟩,rfl⟩
                  by_cases hlk:l<k
                  · exact hl l hlk
                  · have:l=k:=by omega
                    subst this;exact hin
                · have hf:rightB n next 2 pairs words=false:=right2_f fun h=>hin ((h.2.2 i hlt1).2.2 k hkl1)
                  simp only [Bz1j,decide_eq_false hin,hf,go_sem,yz0,xx9,xx8,xx6,xx7,xx5,xx0,xx1,xx2,reduceIte,xx3,xx4,reduceCtorEq]
              · have hkf:k=next.length:=by omega
                simp only [Bzr,Bz1l,Bz1k,Bz81,decide_eq_false hkl,nat1 i _ hlt1 hMp,go_sem,yz0,xx9,xx8,xx6,xx7,xx5,xx0,xx1,xx2,reduceIte,xx3,xx4,reduceCtorEq]
                refine ⟨i+1,by omega,⟨by omega,fun j hj=>?_⟩,rfl⟩
                by_cases hji:j<i
                · exact hall j hji
                · have:j=i:=by omega
                  subst this
                  exact ⟨hmem,hord,fun l hl2=>hl l (by omega)⟩
          · simp only [Bz1i,Bz80,decide_eq_true hmem,decide_eq_false h0,go_sem,yz0,xx9,xx8,xx6,xx7,xx5,xx0,xx1,xx2,reduceIte,xx3,xx4,reduceCtorEq]
            have hord:0<i→cmpL (pairs.getD (i - 1) []) (pairs.getD i [])<0:=fun h=>by omega
            intro vs4
            refine yz12 (k_letters n next) qCS trivial ?_
            simp only [Bz7z,go_sem,yz0,xx9,xx8,xx6,xx7,xx5,xx0,xx1,xx2,reduceIte,xx3,xx4,reduceCtorEq]
            refine wpD_lo (fun k=>next.length - k) (fun k=>k≤next.length∧∀ l:Nat,l<k→imgL next (pairs.getD i []) [(l:Int)]∈pairs)
              (fun k:Nat=>⟨L .any [(2,.ptr 2 (vs 0 0) 0),(3,.ptr 3 (vs 1 0) 0),(5,.own 14 v),(6,.clo nzy []),(11,.ro none 1 (ints (pairs.getD i []))),(69,.ro none 1 (rwn pairs)),(70,iv pairs.length),(71,iv i),(97,iv next.length),(98,iv k)],L .gone [(2,.box (vs 0 0) [iv n,.ro none 1 (rwn next)]),(3,.box (vs 1 0) [iv 2,.ro none 1 (rwn pairs),.ro none 1 (rwn words)]),(14,.row v 1 true (rws (every n)))]⟩) 0 ⟨by simp,fun j hj=>by omega⟩ (by simp only [Bzr,go_sem,yz0,xx9,xx8,xx6,xx7,xx5,xx0,xx1,xx2,reduceIte,xx3,xx4,reduceCtorEq];try rfl) ?_
            rintro k ⟨hk,hl⟩
            by_cases hkl:(k:Int)<next.length
            · have hkl1:k<next.length:=by omega
              have w3:IntKind.i64.wrap ((k:Int)+1)=((k+1:Nat):Int):=by rw [w64 (by omega)];omega
              simp only [Bzr,Bz1l,Bz1k,Bz7x,decide_eq_true hkl,go_sem,yz0,xx9,xx8,xx6,xx7,xx5,xx0,xx1,xx2,reduceIte,xx3,xx4,reduceCtorEq]
              intro vs5
              refine ⟨⟨_,rfl,rfl⟩,?_⟩
              refine call_rowI (k_image n next (pairs.getD i []) [(k:Int)] A (by rw [hpab];intro x hx;simp at hx;omega) (by intro x hx;simp at hx;omega) (by rw [hpab];simp)) (by simp only [List.map_cons,List.map_nil,rowIs,boxIs,yz1c,yz13,yz1d,yz14,yzm,yz1i,yz1g,coe_ro,yzt,yzo,coe_st,yzq,coe_rp,yzr,yz1h,yz1e,yz16,yzn,yz1b,yz18,L_hit,L_miss,L_nil,xx3,ne_eq,reduceCtorEq,not_false_eq_true,true_and,and_true,and_self,exists_eq_left,exists_eq_right,List.mem_cons,List.not_mem_nil,or_false,AObj.row.injEq,AObj.box.injEq,exists_eq_left',exists_and_left,exists_eq,Nat.zero_lt_one,Nat.lt_add_one,List.map_cons,List.map_nil,AObj.ver,xx5,not_true_eq_false]) rfl ⟨_,rfl⟩ ?_
              rintro ys v6 rfl
              simp only [go_sem,yz0,xx9,xx8,xx6,xx7,xx5,xx0,xx1,xx2,reduceIte,xx3,xx4,reduceCtorEq]
              refine yz12 (k_has pairs (imgL next (pairs.getD i []) [(k:Int)])) qCS trivial ?_
              by_cases hin:imgL next (pairs.getD i []) [(k:Int)]∈pairs
              · simp only [Bz1j,Bz7y,decide_eq_true hin,w3,go_sem,yz0,xx9,xx8,xx6,xx7,xx5,xx0,xx1,xx2,reduceIte,xx3,xx4,reduceCtorEq]
                refine ⟨k+1,by omega,⟨by omega,fun l hl2=>?_⟩,rfl⟩
                by_cases hlk:l<k
                · exact hl l hlk
                · have:l=k:=by omega
                  subst this;exact hin
              · have hf:rightB n next 2 pairs words=false:=right2_f fun h=>hin ((h.2.2 i hlt1).2.2 k hkl1)
                simp only [Bz1j,decide_eq_false hin,hf,go_sem,yz0,xx9,xx8,xx6,xx7,xx5,xx0,xx1,xx2,reduceIte,xx3,xx4,reduceCtorEq]
            · have hkf:k=next.length:=by omega
              simp only [Bzr,Bz1l,Bz1k,Bz81,decide_eq_false hkl,nat1 i _ hlt1 hMp,go_sem,yz0,xx9,xx8,xx6,xx7,xx5,xx0,xx1,xx2,reduceIte,xx3,xx4,reduceCtorEq]
              refine ⟨i+1,by omega,⟨by omega,fun j hj=>?_⟩,rfl⟩
              by_cases hji:j<i
              · exact hall j hji
              · have:j=i:=by omega
                subst this
                exact ⟨hmem,hord,fun l hl2=>hl l (by omega)⟩
        · have hf:rightB n next 2 pairs words=false:=right2_f fun h=>hmem (h.2.2 i hlt1).1
          simp only [Bz1i,decide_eq_false hmem,hf,go_sem,yz0,xx9,xx8,xx6,xx7,xx5,xx0,xx1,xx2,reduceIte,xx3,xx4,reduceCtorEq]
      · have hfin:i=pairs.length:=by omega
        have ht:rightB n next 2 pairs words=true:=right2_t ⟨by omega,by omega,fun j hj=>hall j (by omega)⟩
        simp only [Bz3j,Bz83,Bz82,Bzf0,decide_eq_false hlt,ht,go_sem,yz0,xx9,xx8,xx6,xx7,xx5,xx0,xx1,xx2,reduceIte,xx3,xx4,reduceCtorEq]
    · have e2:(kind == 2)=false:=beq_false_of_ne hk2
      simp only [Bz12,Bz3k,Bzf3,e1,e2,right_f hk1 hk2,go_sem,yz0,xx9,xx8,xx6,xx7,xx5,xx0,xx1,xx2,reduceIte,xx3,xx4,reduceCtorEq]
end Go.Ab
namespace Go.Ab
open Go.Proofs
theorem fidx_neg (x:List Int):∀ (xs:List (List Int)) (i:Nat),decide (fidx (fun y=>decide (y=x)) xs i<0)=decide (x ∉ xs)
  | [],i=>by simp [fidx]
  | y :: xs,i=>by
    have h:=fidx_neg x xs (i+1)
    simp only [fidx]
    by_cases hy:y=x
    · have:x∈y :: xs:=by simp [hy]
      simp [hy]
    · have:(x ∉ y :: xs)↔(x ∉ xs):=by simp [Ne.symm hy]
      simp only [hy,decide_false,Bool.false_eq_true,if_false,h]
      exact decide_eq_decide.2 this.symm
def mergeW (n:Int) (next words:List (List Int)):Prop:=words.length=(every n).length ∧
  ∀ i,i<(every n).length→wordB next.length (words.getD i [])=true∧atA next (((every n).getD i []).getD 0 0) (words.getD i [])=atA next (((every n).getD i []).getD 1 0) (words.getD i [])
def apartW (n:Int) (next pairs:List (List Int)):Prop:=0<pairs.length ∧
  ∀ i,i<pairs.length→pairs.getD i []∈every n∧(0<i→cmpL (pairs.getD (i - 1) []) (pairs.getD i [])<0)∧∀ l:Nat,l<next.length→imgL next (pairs.getD i []) [(l:Int)]∈pairs
open Classical in
noncomputable def mwB (n:Int) (next words:List (List Int)):Bool:=decide (mergeW n next words)
open Classical in
noncomputable def awB (n:Int) (next pairs:List (List Int)):Bool:=decide (apartW n next pairs)
theorem mwB_t {n:Int} {next words:List (List Int)} (h:mergeW n next words):mwB n next words=true:=by simp [mwB,h]
theorem mwB_f {n:Int} {next words:List (List Int)} (h:¬ mergeW n next words):mwB n next words=false:=by simp [mwB,h]
theorem awB_t {n:Int} {next words:List (List Int)} (h:apartW n next words):awB n next words=true:=by simp [awB,h]
theorem awB_f {n:Int} {next words:List (List Int)} (h:¬ apartW n next words):awB n next words=false:=by simp [awB,h]
theorem every_iff {n:Int} (hn:0≤n) {x:List Int}:x∈every n↔x.length=2∧setB n x=true:=by
  rw [pairsL_mem hn,setB_iff]
  constructor
  · rintro ⟨a,b,h1,h2,h3,_,rfl⟩
    refine ⟨rfl,?_,fun y hy=>?_⟩
    · simp [SI];omega
    · simp at hy;omega
  · rintro ⟨h1,h2,h3⟩
    match x,h1,h2,h3 with
    | [a,b],_,h2,h3 =>
      have ha:=h3 a (by simp)
      have hb:=h3 b (by simp)
      have hab:a<b:=by simpa [SI] using h2
      exact ⟨a,b,ha.1,hab,hb.2,rfl,rfl⟩
theorem k_l02Before (p q:List Int) (hp:p.length=2) (hq:q.length=2):Fun Tryz.prog nz6d [.ro none 1 (ints p),.ro none 1 (ints q)] (bv (decide (cmpL p q<0))):=by
  refine fun_of mixed czrk rfl ⟨rfl,trivial⟩ ?_
  have p0:0<p.length:=by omega
  have p1:1<p.length:=by omega
  have q0:0<q.length:=by omega
  have q1:1<q.length:=by omega
  have hc:decide (cmpL p q<0)=(decide (p.getD 0 0<q.getD 0 0) || ((p.getD 0 0 == q.getD 0 0) && decide (p.getD 1 0<q.getD 1 0))):=by
    match p,q,hp,hq with
    | [a,b],[c,d],_,_ =>
      simp only [cmpL,List.getD_cons_zero,List.getD_cons_succ]
      rcases Int.lt_trichotomy a c with h | h | h
      · simp [cmpI,h]
      · subst h
        rcases Int.lt_trichotomy b d with h | h | h
        · simp [cmpI,h]
        · subst h;simp [cmpI]
        · have h3:¬ b<d:=by omega
          simp [cmpI,h,h3]
      · have h3:¬ a<c:=by omega
        have h4:a≠c:=by omega
        simp [cmpI,h,h3,h4]
  rw [hc]
  by_cases h1:p.getD 0 0<q.getD 0 0
  · simp only [Az52,Bz51,yzx p0,yzx q0,decide_eq_true h1,Bool.true_or,go_sem,yz0,xx9,xx8,xx6,xx7,xx5,xx0,xx1,xx2,reduceIte,xx3,xx4,reduceCtorEq]
    exact ⟨p0,p0,q0,q0⟩
  · cases h2:(p.getD 0 0 == q.getD 0 0) with
    | false =>
      simp only [Az52,Bz51,yzx p0,yzx q0,decide_eq_false h1,h2,Bool.false_or,Bool.false_and,go_sem,yz0,xx9,xx8,xx6,xx7,xx5,xx0,xx1,xx2,reduceIte,xx3,xx4,reduceCtorEq]
      exact ⟨p0,p0,q0,q0,p0,p0,q0,q0⟩
    | true =>
      simp only [Az52,Bz51,yzx p0,yzx q0,yzx p1,yzx q1,decide_eq_false h1,h2,Bool.false_or,Bool.true_and,go_sem,yz0,xx9,xx8,xx6,xx7,xx5,xx0,xx1,xx2,reduceIte,xx3,xx4,reduceCtorEq]
      exact ⟨p0,p0,q0,q0,p0,p0,q0,q0,p1,p1,q1,q1⟩
theorem k_l02Merges (n:Int) (next words:List (List Int)) (A:Aut n next):Fun Tryz.prog nz5w [autP n next,.ro none 1 (rwn words)] (bv (mwB n next words)):=by
  refine fun_of mixed czqv rfl ⟨rfl,trivial⟩ ?_
  have n1:=A.n1
  have n2:=A.n2
  have l2:=A.l2
  have hM:=maxLen_le
  have hel:=pairsL_len ⟨n1,n2⟩ (p:=fun _ _=>true)
  simp only [Azjr,Bzjq,go_sem,yz0,xx9,xx8,xx6,xx7,xx5,xx0,xx1,xx2,reduceIte,xx3,xx4,reduceCtorEq]
  intro vs
  refine call_rowR (k_l02Pairs n ⟨n1,n2⟩) qCS rfl ⟨_,rfl⟩ ?_
  rintro xss v rfl
  simp only [Bzjp,go_sem,yz0,xx9,xx8,xx6,xx7,xx5,xx0,xx1,xx2,reduceIte,xx3,xx4,reduceCtorEq]
  intro hMw hMe
  by_cases hle:words.length=(every n).length
  · have e0:((words.length:Int) != ((every n).length:Int))=false:=bneF (by omega)
    simp only [Bz9y,Bzjo,Bzjm,e0,go_sem,yz0,xx9,xx8,xx6,xx7,xx5,xx0,xx1,xx2,reduceIte,xx3,xx4,reduceCtorEq]
    refine wpD_lo (fun i=>(every n).length - i) (fun i=>i≤(every n).length∧∀ j,j<i→wordB next.length (words.getD j [])=true∧atA next (((every n).getD j []).getD 0 0) (words.getD j [])=atA next (((every n).getD j []).getD 1 0) (words.getD j []))
      (fun i:Nat=>⟨L .any [(0,autP n next),(1,.ro none 1 (rwn words)),(5,.own 11 v),(6,iv i)],L .gone [(11,.row v 1 true (rws (every n)))]⟩) 0 ⟨by simp,fun j hj=>by omega⟩ (by simp only [Bz47,go_sem,yz0,xx9,xx8,xx6,xx7,xx5,xx0,xx1,xx2,reduceIte,xx3,xx4,reduceCtorEq];try rfl) ?_
    rintro i ⟨hi,hall⟩
    by_cases hlt:(i:Int)<(every n).length
    · have hlt1:i<(every n).length:=by omega
      have hlt2:i<words.length:=by omega
      obtain ⟨a,b,ha,hab,hb,hget⟩:=every_get (by omega) hlt1
      have h20:0<((every n).getD i []).length:=by rw [hget];simp
      have h21:1<((every n).getD i []).length:=by rw [hget];simp
      have hg0:((every n).getD i []).getD 0 0=a:=by rw [hget];rfl
      have hg1:((every n).getD i []).getD 1 0=b:=by rw [hget];rfl
      simp only [Bz47,Bz9z,Bza0,rwn_getD hlt2,decide_eq_true hlt,go_sem,yz0,xx9,xx8,xx6,xx7,xx5,xx0,xx1,xx2,reduceIte,xx3,xx4,reduceCtorEq]
      intro _ vs2
      refine ⟨⟨by omega,hlt2⟩,hlt2,?_⟩
      refine yz12 (k_l01Word n next (words.getD i []) (by omega)) qCS trivial ?_
      cases hw:wordB next.length (words.getD i []) with
      | false =>
        have hf:mwB n next words=false:=mwB_f fun h=>by have:=(h.2 i hlt1).1;rw [hw] at this;cases this
        simp only [Bz46,hf,go_sem,yz0,xx9,xx8,xx6,xx7,xx5,xx0,xx1,xx2,reduceIte,xx3,xx4,reduceCtorEq]
      | true =>
        have hww:=(wordB_iff.1 hw).2
        simp only [rws_getD hlt1,rwn_getD hlt2,yzx h20,yzx h21,hg0,hg1,go_sem,yz0,xx9,xx8,xx6,xx7,xx5,xx0,xx1,xx2,reduceIte,xx3,xx4,reduceCtorEq]
        refine ⟨⟨by omega,hlt1⟩,hlt1,h20,h20,⟨by omega,hlt2⟩,hlt2,?_⟩
        refine yz12 (k_l01To n next a (words.getD i []) A ⟨ha,by omega⟩ hww) qCS trivial ?_
        simp only [rws_getD hlt1,rwn_getD hlt2,yzx h20,yzx h21,hg0,hg1,go_sem,yz0,xx9,xx8,xx6,xx7,xx5,xx0,xx1,xx2,reduceIte,xx3,xx4,reduceCtorEq]
        refine ⟨⟨by omega,hlt1⟩,hlt1,h21,h21,⟨by omega,hlt2⟩,hlt2,?_⟩
        refine yz12 (k_l01To n next b (words.getD i []) A ⟨by omega,hb⟩ hww) qCS trivial ?_
        by_cases he:atA next a (words.getD i [])=atA next b (words.getD i [])
        · simp only [Bz46,Bzjl,bneF he,nat1 i _ hlt1 hMe,go_sem,yz0,xx9,xx8,xx6,xx7,xx5,xx0,xx1,xx2,reduceIte,xx3,xx4,reduceCtorEq]
          refine ⟨i+1,by omega,⟨by omega,fun j hj=>?_⟩,rfl⟩
          by_cases hji:j<i
          · exact hall j hji
          · have:j=i:=by omega
            subst this
            rw [hg0,hg1]
            exact ⟨hw,he⟩
        · have hf:mwB n next words=false:=mwB_f fun h=>he (by have:=(h.2 i hlt1).2;rwa [hg0,hg1] at this)
          simp only [Bz46,bneT he,hf,go_sem,yz0,xx9,xx8,xx6,xx7,xx5,xx0,xx1,xx2,reduceIte,xx3,xx4,reduceCtorEq]
    · have hfin:i=(every n).length:=by omega
      have ht:mwB n next words=true:=mwB_t ⟨hle,fun j hj=>hall j (by omega)⟩
      simp only [Bz47,Bz9z,Bza0,Bzjn,decide_eq_false hlt,ht,go_sem,yz0,xx9,xx8,xx6,xx7,xx5,xx0,xx1,xx2,reduceIte,xx3,xx4,reduceCtorEq]
      try (intro _;trivial)
  · have e0:((words.length:Int) != ((every n).length:Int))=true:=bneT (by omega)
    have hf:mwB n next words=false:=mwB_f fun h=>hle h.1
    simp only [Bz9y,e0,hf,go_sem,yz0,xx9,xx8,xx6,xx7,xx5,xx0,xx1,xx2,reduceIte,xx3,xx4,reduceCtorEq]
theorem k_l02Apart (n:Int) (next pairs:List (List Int)) (A:Aut n next):Fun Tryz.prog nz5x [autP n next,.ro none 1 (rwn pairs)] (bv (awB n next pairs)):=by
  refine fun_of mixed czqw rfl ⟨rfl,trivial⟩ ?_
  have n1:=A.n1
  have n2:=A.n2
  have l2:=A.l2
  have hM:=maxLen_le
  simp only [Azk1,Bzk0,Bzjs,go_sem,yz0,xx9,xx8,xx6,xx7,xx5,xx0,xx1,xx2,reduceIte,xx3,xx4,reduceCtorEq]
  refine wpD_lo (fun i=>pairs.length - i) (fun i=>i≤pairs.length∧∀ j,j<i→pairs.getD j []∈every n∧(0<j→cmpL (pairs.getD (j - 1) []) (pairs.getD j [])<0))
    (fun i:Nat=>⟨L .any [(0,autP n next),(1,.ro none 1 (rwn pairs)),(5,iv i)],L .gone []⟩) 0 ⟨by simp,fun j hj=>by omega⟩ (by simp only [Bz1o,go_sem,yz0,xx9,xx8,xx6,xx7,xx5,xx0,xx1,xx2,reduceIte,xx3,xx4,reduceCtorEq];try rfl) ?_
  rintro i ⟨hi,hall⟩
  by_cases hlt:(i:Int)<pairs.length
  · have hlt1:i<pairs.length:=by omega
    by_cases hl2:(pairs.getD i []).length=2
    · have e2:(((pairs.getD i []).length:Int) != 2)=false:=bneF (by omega)
      simp only [Bz1o,Bz48,Bz49,rwn_getD hlt1,e2,decide_eq_true hlt,go_sem,yz0,xx9,xx8,xx6,xx7,xx5,xx0,xx1,xx2,reduceIte,xx3,xx4,reduceCtorEq]
      intro hMp vs
      refine ⟨⟨by omega,hlt1⟩,hlt1,?_⟩
      refine ⟨⟨by omega,hlt1⟩,hlt1,?_⟩
      refine yz12 (k_l01Set n next (pairs.getD i []) ⟨n1,n2⟩) qCS trivial ?_
      cases hset:setB n (pairs.getD i []) with
      | false =>
        have hf:awB n next pairs=false:=awB_f fun h=>by have:=((every_iff (by omega)).1 (h.2 i hlt1).1).2;rw [hset] at this;cases this
        simp only [Bz14,hf,go_sem,yz0,xx9,xx8,xx6,xx7,xx5,xx0,xx1,xx2,reduceIte,xx3,xx4,reduceCtorEq]
      | true =>
        have hmem:pairs.getD i []∈every n:=(every_iff (by omega)).2 ⟨hl2,hset⟩
        by_cases h0:(i:Int) > 0
        · have hi1:i - 1<pairs.length:=by omega
          have w2:IntKind.i64.wrap ((i:Int) - 1)=((i - 1:Nat):Int):=by rw [w64 (by omega)];omega
          have hprev:=((every_iff (by omega)).1 (hall (i - 1) (by omega)).1).1
          simp only [decide_eq_true h0,w2,rwn_getD hlt1,rwn_getD hi1,go_sem,yz0,xx9,xx8,xx6,xx7,xx5,xx0,xx1,xx2,reduceIte,xx3,xx4,reduceCtorEq]
          refine ⟨⟨by omega,hi1⟩,hi1,⟨by omega,hlt1⟩,hlt1,?_⟩
          refine yz12 (k_l02Before (pairs.getD (i - 1) []) (pairs.getD i []) hprev hl2) qCS trivial ?_
          by_cases hcm:cmpL (pairs.getD (i - 1) []) (pairs.getD i [])<0
          · simp only [Bz14,Bza1,decide_eq_true hcm,nat1 i _ hlt1 hMp,go_sem,yz0,xx9,xx8,xx6,xx7,xx5,xx0,xx1,xx2,reduceIte,xx3,xx4,reduceCtorEq]
            refine ⟨i+1,by omega,⟨by omega,fun j hj=>?_⟩,rfl⟩
            by_cases hji:j<i
            · exact hall j hji
            · have:j=i:=by omega
              subst this
              exact ⟨hmem,fun _=>hcm⟩
          · have hf:awB n next pairs=false:=awB_f fun h=>hcm ((h.2 i hlt1).2.1 (by omega))
            simp only [Bz14,decide_eq_false hcm,hf,go_sem,yz0,xx9,xx8,xx6,xx7,xx5,xx0,xx1,xx2,reduceIte,xx3,xx4,reduceCtorEq]
        · simp only [Bz14,Bza1,decide_eq_false h0,nat1 i _ hlt1 hMp,go_sem,yz0,xx9,xx8,xx6,xx7,xx5,xx0,xx1,xx2,reduceIte,xx3,xx4,reduceCtorEq]
          refine ⟨i+1,by omega,⟨by omega,fun j hj=>?_⟩,rfl⟩
          have:j=i:=by omega
          subst this
          exact ⟨hmem,fun h=>by omega⟩
    · have e2:(((pairs.getD i []).length:Int) != 2)=true:=bneT (by omega)
      have hf:awB n next pairs=false:=awB_f fun h=>hl2 ((every_iff (by omega)).1 (h.2 i hlt1).1).1
      simp only [Bz1o,Bz48,Bz49,Bz14,rwn_getD hlt1,e2,decide_eq_true hlt,hf,go_sem,yz0,xx9,xx8,xx6,xx7,xx5,xx0,xx1,xx2,reduceIte,xx3,xx4,reduceCtorEq]
      intro _
      first | exact ⟨⟨by omega,hlt1⟩,hlt1⟩ | exact ⟨hlt1,hlt1⟩ | (refine ⟨⟨by omega,hlt1⟩,hlt1,?_⟩;intro _;trivial) | (intro _;exact ⟨⟨by omega,hlt1⟩,hlt1⟩)
  · have hfin:i=pairs.length:=by omega
    subst hfin
    simp only [Bz1o,Bz48,Bz49,Bzjz,Bzjx,decide_eq_false hlt,go_sem,yz0,xx9,xx8,xx6,xx7,xx5,xx0,xx1,xx2,reduceIte,xx3,xx4,reduceCtorEq]
    intro _
    refine wpD_lo (fun i=>pairs.length - i) (fun i=>i≤pairs.length∧∀ j,j<i→∀ l:Nat,l<next.length→imgL next (pairs.getD j []) [(l:Int)]∈pairs)
      (fun i:Nat=>⟨L .any [(0,autP n next),(1,.ro none 1 (rwn pairs)),(6,iv i)],L .gone []⟩) 0 ⟨by simp,fun j hj=>by omega⟩ (by simp only [Bz4c,go_sem,yz0,xx9,xx8,xx6,xx7,xx5,xx0,xx1,xx2,reduceIte,xx3,xx4,reduceCtorEq];try rfl) ?_
    rintro i ⟨hi,hall2⟩
    by_cases hlt:(i:Int)<pairs.length
    · have hlt1:i<pairs.length:=by omega
      obtain ⟨a,b,ha,hab,hb,_,hpab⟩:=(pairsL_mem (by omega)).1 (hall i hlt1).1
      simp only [Bz4c,Bza2,Bza5,Bzjv,decide_eq_true hlt,go_sem,yz0,xx9,xx8,xx6,xx7,xx5,xx0,xx1,xx2,reduceIte,xx3,xx4,reduceCtorEq]
      intro hMp
      refine wpD_lo (fun k=>next.length - k) (fun k=>k≤next.length∧∀ l:Nat,l<k→imgL next (pairs.getD i []) [(l:Int)]∈pairs)
        (fun k:Nat=>⟨L .any [(0,autP n next),(1,.ro none 1 (rwn pairs)),(6,iv i),(7,iv k)],L .gone []⟩) 0 ⟨by simp,fun j hj=>by omega⟩ (by simp only [Bz4b,go_sem,yz0,xx9,xx8,xx6,xx7,xx5,xx0,xx1,xx2,reduceIte,xx3,xx4,reduceCtorEq];try rfl) ?_
      rintro k ⟨hk,hl⟩
      by_cases hkl:(k:Int)<next.length
      · have hkl1:k<next.length:=by omega
        have w3:IntKind.i64.wrap ((k:Int)+1)=((k+1:Nat):Int):=by rw [w64 (by omega)];omega
        simp only [Bz4b,Bza3,Bza4,rwn_getD hlt1,decide_eq_true hkl,go_sem,yz0,xx9,xx8,xx6,xx7,xx5,xx0,xx1,xx2,reduceIte,xx3,xx4,reduceCtorEq]
        intro hMn vs2
        refine ⟨⟨by omega,hlt1⟩,hlt1,⟨_,rfl,rfl⟩,?_⟩
        refine call_rowI (k_l01Image n next (pairs.getD i []) [(k:Int)] A (by rw [hpab];intro x hx;simp at hx;omega) (by intro x hx;simp at hx;omega) (by rw [hpab];simp)) (by simp only [List.map_cons,List.map_nil,rowIs,boxIs,yz1c,yz13,yz1d,yz14,yzm,yz1i,yz1g,coe_ro,yzt,yzo,coe_st,yzq,coe_rp,yzr,yz1h,yz1e,yz16,yzn,yz1b,yz18,L_hit,L_miss,L_nil,xx3,ne_eq,reduceCtorEq,not_false_eq_true,true_and,and_true,and_self,exists_eq_left,exists_eq_right,List.mem_cons,List.not_mem_nil,or_false,AObj.row.injEq,AObj.box.injEq,exists_eq_left',exists_and_left,exists_eq,Nat.zero_lt_one,Nat.lt_add_one,List.map_cons,List.map_nil,AObj.ver,xx5,not_true_eq_false]) rfl ⟨_,rfl⟩ ?_
        rintro ys v6 rfl
        simp only [Bzjt,go_sem,yz0,xx9,xx8,xx6,xx7,xx5,xx0,xx1,xx2,reduceIte,xx3,xx4,reduceCtorEq]
        intro vs7 hMt
        have hil:(imgL next (pairs.getD i []) [(k:Int)]).length≤2:=by have:=nrm_len ((pairs.getD i []).map fun s=>atA next s [(k:Int)]);rw [List.length_map,hpab] at this;rw [hpab];exact this
        by_cases h2l:(imgL next (pairs.getD i []) [(k:Int)]).length=2
        · have e2:(((imgL next (pairs.getD i []) [(k:Int)]).length:Int) != 2)=false:=bneF (by omega)
          simp only [e2,go_sem,yz0,xx9,xx8,xx6,xx7,xx5,xx0,xx1,xx2,reduceIte,xx3,xx4,reduceCtorEq]
          refine yz12 (k_l01Find pairs (imgL next (pairs.getD i []) [(k:Int)])) qCS trivial ?_
          by_cases hin:imgL next (pairs.getD i []) [(k:Int)]∈pairs
          · have hin2:decide (imgL next (pairs.getD i []) [(k:Int)] ∉ pairs)=false:=decide_eq_false (not_not_intro hin)
            simp only [Bz4a,Bzju,fidx_neg,hin2,w3,go_sem,yz0,xx9,xx8,xx6,xx7,xx5,xx0,xx1,xx2,reduceIte,xx3,xx4,reduceCtorEq]
            refine ⟨k+1,by omega,⟨by omega,fun l hl2=>?_⟩,rfl⟩
            by_cases hlk:l<k
            · exact hl l hlk
            · have:l=k:=by omega
              subst this;exact hin
          · have hin2:decide (imgL next (pairs.getD i []) [(k:Int)] ∉ pairs)=true:=decide_eq_true hin
            have hf:awB n next pairs=false:=awB_f fun h=>hin ((h.2 i hlt1).2.2 k hkl1)
            simp only [Bz4a,fidx_neg,hin2,hf,go_sem,yz0,xx9,xx8,xx6,xx7,xx5,xx0,xx1,xx2,reduceIte,xx3,xx4,reduceCtorEq]
        · have e2:(((imgL next (pairs.getD i []) [(k:Int)]).length:Int) != 2)=true:=bneT (by omega)
          have hf:awB n next pairs=false:=awB_f fun h=>h2l (by
            have h5:=(h.2 i hlt1).2.2 k hkl1
            obtain ⟨j,hj⟩:=List.getElem?_of_mem h5
            have hj2:j<pairs.length:=(List.getElem?_eq_some_iff.1 hj).1
            have h6:=((every_iff (by omega)).1 (h.2 j hj2).1).1
            rw [List.getD_eq_getElem?_getD,hj] at h6
            exact h6)
          simp only [Bz4a,e2,hf,go_sem,yz0,xx9,xx8,xx6,xx7,xx5,xx0,xx1,xx2,reduceIte,xx3,xx4,reduceCtorEq]
      · have hkf:k=next.length:=by omega
        simp only [Bz4b,Bza3,Bza4,Bzjw,decide_eq_false hkl,nat1 i _ hlt1 hMp,go_sem,yz0,xx9,xx8,xx6,xx7,xx5,xx0,xx1,xx2,reduceIte,xx3,xx4,reduceCtorEq]
        intro _
        refine ⟨i+1,by omega,⟨by omega,fun j hj=>?_⟩,rfl⟩
        by_cases hji:j<i
        · exact hall2 j hji
        · have:j=i:=by omega
          subst this
          exact fun l hl2=>hl l (by omega)
    · have hfin:i=pairs.length:=by omega
      subst hfin
      simp only [Bz4c,Bza2,Bza5,Bzjy,decide_eq_false hlt,go_sem,yz0,xx9,xx8,xx6,xx7,xx5,xx0,xx1,xx2,reduceIte,xx3,xx4,reduceCtorEq]
      intro _ _
      by_cases h0:pairs.length=0
      · have hf:awB n next pairs=false:=awB_f fun h=>by have:=h.1;omega
        rw [hf];simp [h0]
      · have ht:awB n next pairs=true:=awB_t ⟨by omega,fun j hj=>⟨(hall j hj).1,(hall j hj).2,hall2 j hj⟩⟩
        rw [ht];simp;omega
end Go.Ab
namespace Go.Ab
open Go.Proofs
theorem k_l02Right (n:Int) (next:List (List Int)) (kind:Int) (pairs words:List (List Int)) (A:Aut n next) :
    Fun Tryz.prog nz28 [autP n next,certP kind pairs words] (bv (rightB n next kind pairs words)):=by
  refine fun_of mixed czpw rfl ⟨rfl,trivial⟩ ?_
  simp only [Azfo,Bzfn,Bzfl,go_sem,yz0,xx9,xx8,xx6,xx7,xx5,xx0,xx1,xx2,reduceIte,xx3,xx4,reduceCtorEq]
  by_cases hk1:kind=1
  · subst hk1
    by_cases hp0:pairs.length=0
    · have e0:((pairs.length:Int) == 0)=true:=beqT (by omega)
      have er:rightB n next 1 pairs words=mwB n next words:=by
        by_cases h:mergeW n next words
        · rw [mwB_t h];exact right1_t ⟨hp0,h.1,h.2⟩
        · rw [mwB_f h];exact right1_f fun h2=>h ⟨h2.2.1,h2.2.2⟩
      simp only [Bz13,beq_self_eq_true,e0,go_sem,yz0,xx9,xx8,xx6,xx7,xx5,xx0,xx1,xx2,reduceIte,xx3,xx4,reduceCtorEq]
      intro _ vs
      refine yz12 (k_l02Merges n next words A) qCS trivial ?_
      simp only [er,go_sem,yz0,xx9,xx8,xx6,xx7,xx5,xx0,xx1,xx2,reduceIte,xx3,xx4,reduceCtorEq]
    · have e0:((pairs.length:Int) == 0)=false:=beqF (by omega)
      have hf:rightB n next 1 pairs words=false:=right1_f fun h=>hp0 h.1
      simp only [Bz13,beq_self_eq_true,e0,hf,go_sem,yz0,xx9,xx8,xx6,xx7,xx5,xx0,xx1,xx2,reduceIte,xx3,xx4,reduceCtorEq]
      try (intro _;trivial)
  · have e1:(kind == 1)=false:=beqF hk1
    by_cases hk2:kind=2
    · subst hk2
      by_cases hw0:words.length=0
      · have e0:((words.length:Int) == 0)=true:=beqT (by omega)
        have er:rightB n next 2 pairs words=awB n next pairs:=by
          by_cases h:apartW n next pairs
          · rw [awB_t h];exact right2_t ⟨hw0,h.1,h.2⟩
          · rw [awB_f h];exact right2_f fun h2=>h ⟨h2.2.1,h2.2.2⟩
        simp only [Bz13,Bz3n,beq_self_eq_true,e1,e0,go_sem,yz0,xx9,xx8,xx6,xx7,xx5,xx0,xx1,xx2,reduceIte,xx3,xx4,reduceCtorEq]
        intro _ vs
        refine yz12 (k_l02Apart n next pairs A) qCS trivial ?_
        simp only [er,go_sem,yz0,xx9,xx8,xx6,xx7,xx5,xx0,xx1,xx2,reduceIte,xx3,xx4,reduceCtorEq]
      · have e0:((words.length:Int) == 0)=false:=beqF (by omega)
        have hf:rightB n next 2 pairs words=false:=right2_f fun h=>hw0 h.1
        simp only [Bz13,Bz3n,beq_self_eq_true,e1,e0,hf,go_sem,yz0,xx9,xx8,xx6,xx7,xx5,xx0,xx1,xx2,reduceIte,xx3,xx4,reduceCtorEq]
        try (intro _;trivial)
    · have e2:(kind == 2)=false:=beqF hk2
      simp only [Bz13,Bz3n,Bzfm,e1,e2,right_f hk1 hk2,go_sem,yz0,xx9,xx8,xx6,xx7,xx5,xx0,xx1,xx2,reduceIte,xx3,xx4,reduceCtorEq]
theorem k_CheckCertificate (n:Int) (next:List (List Int)) (kind:Int) (pairs words:List (List Int)) :
    Fun2 Tryz.prog nz21 [autA n next,certA kind pairs words] (.bool (autB n next && rightB n next kind pairs words)) (.int .i64 (if autB n next=true then 0 else 1)):=by
  refine fun2_of mixed czpc rfl ?_
  simp only [Azcm,Bzcl,go_sem,yz0,xx9,xx8,xx6,xx7,xx5,xx0,xx1,xx2,reduceIte,xx3,xx4,reduceCtorEq]
  intro vs vs2
  refine yz12 (k_Valid n next) qCS trivial ?_
  cases hv:autB n next with
  | false =>
    simp only [Bz6y,Bool.false_and,Bool.false_eq_true,if_false,go_sem,yz0,xx9,xx8,xx6,xx7,xx5,xx0,xx1,xx2,reduceIte,xx3,xx4,reduceCtorEq]
  | true =>
    simp only [Bz6y,Bzck,Bool.true_and,if_true,go_sem,yz0,xx9,xx8,xx6,xx7,xx5,xx0,xx1,xx2,reduceIte,xx3,xx4,reduceCtorEq]
    intro vs3
    refine yz12 (k_isRight n next kind pairs words (autB_iff.1 hv)) qCS trivial ?_
    simp only [go_sem,yz0,xx9,xx8,xx6,xx7,xx5,xx0,xx1,xx2,reduceIte,xx3,xx4,reduceCtorEq]
theorem k_specCheckCertificate (n:Int) (next:List (List Int)) (kind:Int) (pairs words:List (List Int)) :
    Fun2 Tryz.prog nz5f [autA n next,certA kind pairs words] (.bool (autB n next && rightB n next kind pairs words)) (.int .i64 (if autB n next=true then 0 else 1)):=by
  refine fun2_of mixed czpe rfl ?_
  simp only [Azct,Bzcs,go_sem,yz0,xx9,xx8,xx6,xx7,xx5,xx0,xx1,xx2,reduceIte,xx3,xx4,reduceCtorEq]
  intro vs vs2
  refine yz12 (k_l01Ok n next) qCS trivial ?_
  cases hv:autB n next with
  | false =>
    simp only [Bz71,Bool.false_and,Bool.false_eq_true,if_false,go_sem,yz0,xx9,xx8,xx6,xx7,xx5,xx0,xx1,xx2,reduceIte,xx3,xx4,reduceCtorEq]
  | true =>
    simp only [Bz71,Bzcr,Bool.true_and,if_true,go_sem,yz0,xx9,xx8,xx6,xx7,xx5,xx0,xx1,xx2,reduceIte,xx3,xx4,reduceCtorEq]
    intro vs3
    refine yz12 (k_l02Right n next kind pairs words (autB_iff.1 hv)) qCS trivial ?_
    simp only [go_sem,yz0,xx9,xx8,xx6,xx7,xx5,xx0,xx1,xx2,reduceIte,xx3,xx4,reduceCtorEq]
end Go.Ab
namespace Go.Ab
open Go.Proofs
theorem thaw_L {l:List (Nat×AVal)} {h:List (Nat×AObj)} {r i q n m v k k':Nat} {nn:Bool} {cs cs':List AVal} (hr:L .gone h r=.row v k nn cs) :
    St.thaw ⟨L .any l,L .gone h⟩ r i q n m k' cs'=⟨L .any (woT n l),L .gone ((q,.row m k' true (woL n cs')) :: (r,.row v k nn ((woL n cs).set i (.own q m))) :: woO n h)⟩:=by
  unfold St.thaw
  congr 1
  · funext x;exact (woT_eq l x).symm
  · funext x
    simp only [L]
    split
    · rfl
    · split
      · rw [hr]
      · exact (woO_eq h x).symm
theorem gwp_thaw {gs:List GStep} {K:St→Prop} {l:List (Nat×AVal)} {h:List (Nat×AObj)} {r i q n v k k':Nat} {nn:Bool} {cs cs':List AVal} (hr:L .gone h r=.row v k nn cs)
    (hi:cs[i]?=some (.ro (some (some (n+1))) k' cs')) (hne:cs'≠[]) (hq:L .gone h q=.gone)
    (hk:∀ m,gwp gs K ⟨L .any (woT n l),L .gone ((q,.row m k' true (woL n cs')) :: (r,.row v k nn ((woL n cs).set i (.own q m))) :: woO n h)⟩):gwp (.thaw r i q :: gs) K ⟨L .any l,L .gone h⟩ :=
  ⟨v,k,nn,cs,n,k',cs',hr,hi,hne,hq,fun m=>by rw [thaw_L hr];exact hk m⟩
theorem wo_o {n k:Nat} {cs:List AVal}:AVal.wo n (.ro (some (some 0)) k cs)=.ro (some (some 0)) k (woL n cs):=by cases cs <;> simp [AVal.wo,woL]
theorem wo_st {n:Nat} {cs:List AVal}:AVal.wo n (.st cs)=.st (woL n cs):=by simp only [AVal.wo]
theorem wo_ptr {n r u o:Nat}:AVal.wo n (.ptr r u o)=.ptr r u o:=by simp only [AVal.wo]
theorem woL_nil {n:Nat}:woL n []=[]:=by simp only [woL]
theorem woL_cons {n:Nat} {A:AVal} {cs:List AVal}:woL n (A :: cs)=AVal.wo n A :: woL n cs:=by simp only [woL]
theorem woO_row {n v k:Nat} {nn:Bool} {cs:List AVal}:AObj.wo n (.row v k nn cs)=.row v k nn (woL n cs):=rfl
theorem woO_box {n v:Nat} {cs:List AVal}:AObj.wo n (.box v cs)=.box v (woL n cs):=rfl
theorem callHp_h2 {hp:Nat→AObj} {r q1 d:Nat} {s:Nat→Nat} {o0 o1:AObj} (hnd:[r,q1].Nodup) :
    callHp hp [r,q1] d s [o0,o1] []=(upd (upd hp r (o0.ren (rid [r,q1] d 0) (sv hp [r,q1] s))) q1 (o1.ren (rid [r,q1] d 0) (sv hp [r,q1] s))):=by
  have hnd':=hnd
  simp only [List.nodup_cons,List.mem_cons,List.not_mem_nil,or_false,not_or,List.nodup_nil,and_true,not_false_eq_true] at hnd'
  funext n
  by_cases e1:n=q1
  · have h1:rid [r,q1] d ([]:List AObj).length 5001=some n:=by rw [e1];exact rid_m (j:=1) (by omega) rfl
    rw [callHp_at hnd (by simp) h1]
    simp [upd,e1,outHp,hnd',Ne.symm]
    try (intros;simp_all)
  by_cases e0:n=r
  · have h1:rid [r,q1] d ([]:List AObj).length 5000=some n:=by rw [e0];exact rid_m (j:=0) (by omega) rfl
    rw [callHp_at hnd (by simp) h1]
    simp [upd,e0,outHp,hnd',Ne.symm]
    try (intros;simp_all)
  rw [callHp_not]
  · simp [upd,e0,e1]
  · rintro ⟨x,hx⟩
    rcases rid_cases hx with ⟨j,rfl,_,h3⟩ | ⟨i,rfl,h3,_⟩
    · match j,h3 with
      | 0,h3=>simp at h3;exact e0 h3.symm
      | 1,h3=>simp at h3;exact e1 h3.symm
      | j+2,h3=>simp at h3
    · simp at h3
end Go.Ab
namespace Go.Ab
open Go.Proofs
end Go.Ab
namespace Go.Ab
open Go.Proofs
end Go.Ab
namespace Go.Ab
open Go.Proofs
end Go.Ab
namespace Go.Ab
open Go.Proofs
theorem wo_any {n:Nat}:AVal.wo n .any=.any:=by simp only [AVal.wo]
end Go.Ab
namespace Go.Ab
open Go.Proofs
end Go.Ab
namespace Go.Ab
open Go.Proofs
structure Mach (n o:Int) (next out:List (List Int)):Prop where
  aut:Aut n next
  o1:1≤o
  o2:o≤3
  len:out.length=next.length
  row:∀ row∈out,(row.length:Int)=n∧∀ x∈row,0≤x∧x<o
end Go.Ab
namespace Go.Ab
def bitsN (f:Nat):List Nat:=(List.range 10).filter fun s=>f.testBit s
def stepN (row:List Int) (f:Nat):Nat:=(bitsN f).foldl (fun o s=>o ||| 2 ^ (row.getD s 0).toNat) 0
def maskN (set:List Int):Nat:=set.foldl (fun o s=>o ||| 2 ^ s.toNat) 0
abbrev TS:=List (Nat×List Int)
def hasT (L:TS) (f:Nat):Bool:=L.any fun p=>Nat.beq p.1 f
def visT (next:List (List Int)) (f:Nat) (w:List Int):Nat→TS→TS
  | 0,L=>L
  | x+1,L=>match visT next f w x L with
    | L'=>match stepN (next.getD x []) f with
      | to=>if hasT L' to then L' else L' ++ [(to,w ++ [(x:Int)])]
def runT (next:List (List Int)):Nat→Nat→TS→TS
  | 0,_,L=>L
  | F+1,i,L=>if i<L.length then runT next F (i+1) (visT next (L.getD i (0,[])).1 (L.getD i (0,[])).2 next.length L) else L
def tourT (next:List (List Int)) (f:Nat):TS:=runT next 1100 0 [(f,[])]
def smallN (f:Nat):Bool:=Nat.beq (f &&& (f - 1)) 0
def firstT (L:TS):Option (Nat×List Int):=L.find? fun p=>smallN p.1
theorem hasT_iff {L:TS} {f:Nat}:hasT L f=true↔f∈L.map (·.1):=by
  simp only [hasT,List.any_eq_true,List.mem_map]
  constructor
  · rintro ⟨p,hp,h⟩;exact ⟨p,hp,Nat.eq_of_beq_eq_true h⟩
  · rintro ⟨p,hp,rfl⟩;exact ⟨p,hp,Nat.beq_refl _⟩
theorem or_lt {a b:Nat} (ha:a<1024) (hb:b<1024):a ||| b<1024:=Nat.or_lt_two_pow (n:=10) ha hb
theorem pow_lt10 {k:Nat} (h:k<10):2 ^ k<1024:=Nat.pow_lt_pow_right (a:=2) (by omega) (n:=10) h
theorem fold_lt {α:Type} (g:α→Nat):∀ (l:List α) (o:Nat),(∀ x∈l,g x<10)→o<1024→l.foldl (fun o s=>o ||| 2 ^ g s) o<1024
  | [],o,_,h=>h
  | x :: l,o,hl,h=>by
    rw [List.foldl_cons]
    exact fold_lt g l _ (fun y hy=>hl y (by simp [hy])) (or_lt h (pow_lt10 (hl x (by simp))))
theorem mem_bits {f s:Nat}:s∈bitsN f↔s<10∧f.testBit s=true:=by simp [bitsN]
theorem bits_lt {f n s:Nat} (h:f<2 ^ n) (hs:s∈bitsN f):s<n:=by
  rw [mem_bits] at hs
  by_cases hn:s<n
  · exact hn
  · have:=Nat.testBit_lt_two_pow (Nat.lt_of_lt_of_le h (Nat.pow_le_pow_right (n:=2) (by omega) (show n≤s by omega)))
    rw [this] at hs;simp at hs
structure TI (N m:Nat) (L:TS):Prop where
  nd:(L.map (·.1)).Nodup
  rg:∀ p∈L,p.1<2 ^ N
  wd:∀ p∈L,(∀ x∈p.2,0≤x∧x<m)∧p.2.length<L.length
theorem nodup_lt:∀ (n:Nat) (l:List Nat),l.Nodup→(∀ x∈l,x<n)→l.length≤n
  | 0,l,_,h=>by
    cases l with
    | nil=>simp
    | cons x l=>exact absurd (h x (by simp)) (by omega)
  | n+1,l,hd,h=>by
    by_cases hm:n∈l
    · have h1:=List.length_erase_of_mem hm
      have h2:=nodup_lt n (l.erase n) (hd.erase n) (fun x hx=>by
        rw [hd.mem_erase_iff] at hx
        have:=h x hx.2;omega)
      omega
    · have:=nodup_lt n l hd (fun x hx=>by
        have h1:=h x hx
        have:x≠n:=fun e=>hm (e ▸ hx)
        omega)
      omega
theorem TI.len {N m:Nat} {L:TS} (h:TI N m L):L.length≤2 ^ N:=by
  have:=nodup_lt (2 ^ N) (L.map (·.1)) h.nd (fun x hx=>by
    obtain ⟨p,hp,rfl⟩:=List.mem_map.1 hx
    exact h.rg p hp)
  simpa using this
theorem TI.add {N m:Nat} {L:TS} (h:TI N m L) {to:Nat} {w:List Int} {x:Int} (ht:to<2 ^ N) (hn:hasT L to=false) (hw:(∀ x∈w,0≤x∧x<m)∧w.length<L.length) (hx:0≤x∧x<m):TI N m (L ++ [(to,w ++ [x])]):=by
  refine ⟨?_,?_,?_⟩
  · rw [List.map_append,List.nodup_append]
    refine ⟨h.nd,by simp,?_⟩
    intro a ha b hb e
    simp at hb
    rw [e,hb,← hasT_iff,hn] at ha
    cases ha
  · intro p hp
    rcases List.mem_append.1 hp with hp | hp
    · exact h.rg p hp
    · have hp:p=(to,w ++ [x]):=by simpa using hp
      rw [hp];exact ht
  · intro p hp
    rw [List.length_append,List.length_singleton]
    rcases List.mem_append.1 hp with hp | hp
    · have:=h.wd p hp
      exact ⟨this.1,by omega⟩
    · have hp:p=(to,w ++ [x]):=by simpa using hp
      subst hp
      refine ⟨fun y hy=>?_,by rw [List.length_append,List.length_singleton];omega⟩
      rcases List.mem_append.1 hy with hy | hy
      · exact hw.1 y hy
      · have hy:y=x:=by simpa using hy
        rw [hy];exact hx
theorem stepN_lt {n:Int} {next:List (List Int)} (A:Aut n next) {x f:Nat} (hx:x<next.length) (hf:f<2 ^ n.toNat):stepN (next.getD x []) f<2 ^ n.toNat:=by
  have n1:=A.n1
  have hr:=A.row _ (yz1f hx [])
  unfold stepN
  have gen:∀ (l:List Nat) (o:Nat),(∀ s∈l,s<n.toNat)→o<2 ^ n.toNat→l.foldl (fun o s=>o ||| 2 ^ ((next.getD x []).getD s 0).toNat) o<2 ^ n.toNat:=by
    intro l
    induction l with
    | nil=>intro o _ h;exact h
    | cons s l ih =>
      intro o hl h
      rw [List.foldl_cons]
      refine ih _ (fun y hy=>hl y (by simp [hy])) (Nat.or_lt_two_pow h ?_)
      have hs:=hl s (by simp)
      have:=hr.2 _ (yz1f (show s<(next.getD x []).length by omega) 0)
      exact Nat.pow_lt_pow_right (by omega) (by omega)
  exact gen _ 0 (fun s hs=>bits_lt hf hs) (Nat.two_pow_pos _)
theorem visT_succ {next:List (List Int)} {f:Nat} {w:List Int} {x:Nat} {L:TS}:visT next f w (x+1) L=if hasT (visT next f w x L) (stepN (next.getD x []) f) then visT next f w x L else visT next f w x L ++ [(stepN (next.getD x []) f,w ++ [(x:Int)])]:=rfl
theorem visT_ok {n:Int} {next:List (List Int)} (A:Aut n next) {L:TS} (h:TI n.toNat next.length L) {i:Nat} (hi:i<L.length) :
    ∀ x,x≤next.length→TI n.toNat next.length (visT next (L.getD i (0,[])).1 (L.getD i (0,[])).2 x L)∧∃ t,visT next (L.getD i (0,[])).1 (L.getD i (0,[])).2 x L=L ++ t
  | 0,_=>⟨h,[],by simp [visT]⟩
  | x+1,hx=>by
    obtain ⟨h1,t,h2⟩:=visT_ok A h hi x (by omega)
    have hm:=yz1f hi (0,([]:List Int))
    rw [visT_succ]
    cases hh:hasT (visT next (L.getD i (0,[])).1 (L.getD i (0,[])).2 x L) (stepN (next.getD x []) (L.getD i (0,[])).1) with
    | true=>rw [if_pos rfl];exact ⟨h1,t,h2⟩
    | false =>
      rw [if_neg (by simp)]
      refine ⟨h1.add (stepN_lt A (by omega) (h.rg _ hm)) hh ⟨(h.wd _ hm).1,?_⟩ (by omega),t ++ [(stepN (next.getD x []) (L.getD i (0,[])).1,(L.getD i (0,[])).2 ++ [(x:Int)])],?_⟩
      · have:=(h.wd _ hm).2
        rw [h2,List.length_append];omega
      · rw [← List.append_assoc,← h2]
theorem TI0 {N m f:Nat} (hf:f<2 ^ N):TI N m [(f,[])]:=⟨by simp,by simpa using hf,by simp⟩
theorem getD_app {α:Type} {L t:List α} {i:Nat} (h:i<L.length) (d:α):(L ++ t).getD i d=L.getD i d:=by
  rw [List.getD_eq_getElem?_getD,List.getElem?_append_left h,← List.getD_eq_getElem?_getD]
theorem runT_ok {n:Int} {next:List (List Int)} (A:Aut n next):∀ (F i:Nat) (L:TS),TI n.toNat next.length L→TI n.toNat next.length (runT next F i L)∧∃ t,runT next F i L=L ++ t
  | 0,i,L,h=>⟨h,[],by simp [runT]⟩
  | F+1,i,L,h=>by
    simp only [runT]
    split
    · rename_i hi
      obtain ⟨h1,t,h2⟩:=visT_ok A h hi next.length (Nat.le_refl _)
      obtain ⟨h3,t',h4⟩:=runT_ok A F (i+1) _ h1
      exact ⟨h3,t ++ t',by rw [h4,h2,List.append_assoc]⟩
    · exact ⟨h,[],by simp⟩
end Go.Ab
namespace Go.Ab
abbrev PS:=List ((Nat×Nat)×List Int)
def stepP (na nb:List (List Int)) (p:Nat×Nat) (x:Nat):Nat×Nat:=(((na.getD x []).getD p.1 0).toNat,((nb.getD x []).getD p.2 0).toNat)
def eqP (p q:Nat×Nat):Bool:=Nat.beq p.1 q.1 && Nat.beq p.2 q.2
def hasP (L:PS) (p:Nat×Nat):Bool:=L.any fun q=>eqP q.1 p
def difP (oa ob:List (List Int)) (p:Nat×Nat) (x:Nat):Bool:=(oa.getD x []).getD p.1 0 != (ob.getD x []).getD p.2 0
theorem eqP_iff {p q:Nat×Nat}:eqP p q=true↔p=q:=by
  unfold eqP
  rw [Bool.and_eq_true,Nat.beq_eq,Nat.beq_eq]
  constructor
  · rintro ⟨h1,h2⟩;exact Prod.ext h1 h2
  · rintro rfl;exact ⟨rfl,rfl⟩
theorem hasP_iff {L:PS} {p:Nat×Nat}:hasP L p=true↔p∈L.map (·.1):=by
  simp only [hasP,List.any_eq_true,List.mem_map]
  constructor
  · rintro ⟨q,hq,h⟩;exact ⟨q,hq,eqP_iff.1 h⟩
  · rintro ⟨q,hq,rfl⟩;exact ⟨q,hq,eqP_iff.2 rfl⟩
structure PI (a b m:Nat) (L:PS):Prop where
  nd:(L.map (·.1)).Nodup
  rg:∀ p∈L,p.1.1<a∧p.1.2<b
  wd:∀ p∈L,(∀ x∈p.2,0≤x∧x<m)∧p.2.length<L.length
theorem PI.len {a b m:Nat} {L:PS} (h:PI a b m L) (ha:a≤10) (hb:b≤10):L.length≤100:=by
  have hn:((L.map (·.1)).map fun p:Nat×Nat=>10 * p.1+p.2).Nodup:=by
    refine List.Pairwise.map _ ?_ (List.Pairwise.and_mem.1 h.nd)
    rintro p q ⟨hp,hq,hpq⟩ e
    obtain ⟨x,hx,rfl⟩:=List.mem_map.1 hp
    obtain ⟨y,hy,rfl⟩:=List.mem_map.1 hq
    have h1:=h.rg x hx
    have h2:=h.rg y hy
    exact hpq (Prod.ext (by omega) (by omega))
  have:=nodup_lt 100 _ hn (fun x hx=>by
    obtain ⟨p,hp,rfl⟩:=List.mem_map.1 hx
    obtain ⟨q,hq,rfl⟩:=List.mem_map.1 hp
    have:=h.rg q hq
    omega)
  simpa using this
theorem PI.add {a b m:Nat} {L:PS} (h:PI a b m L) {to:Nat×Nat} {w:List Int} {x:Int} (ht:to.1<a∧to.2<b) (hn:hasP L to=false) (hw:(∀ x∈w,0≤x∧x<m)∧w.length<L.length) (hx:0≤x∧x<m):PI a b m (L ++ [(to,w ++ [x])]):=by
  refine ⟨?_,?_,?_⟩
  · rw [List.map_append,List.nodup_append]
    refine ⟨h.nd,by simp,?_⟩
    intro a ha b hb e
    simp at hb
    rw [e,hb,← hasP_iff,hn] at ha
    cases ha
  · intro p hp
    rcases List.mem_append.1 hp with hp | hp
    · exact h.rg p hp
    · have hp:p=(to,w ++ [x]):=by simpa using hp
      rw [hp];exact ht
  · intro p hp
    rw [List.length_append,List.length_singleton]
    rcases List.mem_append.1 hp with hp | hp
    · have:=h.wd p hp
      exact ⟨this.1,by omega⟩
    · have hp:p=(to,w ++ [x]):=by simpa using hp
      subst hp
      refine ⟨fun y hy=>?_,by rw [List.length_append,List.length_singleton];omega⟩
      rcases List.mem_append.1 hy with hy | hy
      · exact hw.1 y hy
      · have hy:y=x:=by simpa using hy
        rw [hy];exact hx
structure Two (n n':Int) (na nb:List (List Int)):Prop where
  a:Aut n na
  b:Aut n' nb
  len:nb.length=na.length
theorem Two.step {n n':Int} {na nb:List (List Int)} (T:Two n n' na nb) {x:Nat} {p:Nat×Nat} (hx:x<na.length) (hp:p.1<n.toNat∧p.2<n'.toNat):(stepP na nb p x).1<n.toNat∧(stepP na nb p x).2<n'.toNat:=by
  have h1:=T.a.row _ (yz1f hx [])
  have h2:=T.b.row _ (yz1f (show x<nb.length by rw [T.len];exact hx) [])
  have n1:=T.a.n1
  have n2:=T.b.n1
  have h3:=h1.2 _ (yz1f (show p.1<(na.getD x []).length by omega) 0)
  have h4:=h2.2 _ (yz1f (show p.2<(nb.getD x []).length by omega) 0)
  unfold stepP
  dsimp only
  omega
end Go.Ab
namespace Go.Ab
open Go.Proofs
end Go.Ab
namespace Go.Ab
open Go.Proofs
end Go.Ab
namespace Go.Ab
end Go.Ab
namespace Go.Ab
open Go.Proofs
end Go.Ab
namespace Go.Ab
open Go.Proofs
end Go.Ab
namespace Go.Ab
open Go.Proofs
theorem DJ_perm {ps qs:List (Nat×List Int)} (h:ps.Perm qs) (hp:DJ ps):DJ qs :=
  (h.pairwise_iff fun {x y} e=>by
    rcases e with e | e | e
    · exact .inr (.inl e)
    · exact .inl e
    · exact .inr (.inr (Ne.symm e))).1 hp
theorem ints_put {xs:List Int} {i:Nat} {v:Int}:List.take i (ints xs) ++ [iv v] ++ List.drop (i+1) (ints xs)=ints (xs.take i ++ [v] ++ xs.drop (i+1)):=by
  simp only [List.map_append,List.map_take,List.map_drop,List.map_cons,List.map_nil]
theorem lput_len {xs:List Int} {i:Nat} {v:Int} (h:i<xs.length):(xs.take i ++ [v] ++ xs.drop (i+1)).length=xs.length:=by
  simp only [List.length_append,List.length_take,List.length_drop,List.length_cons,List.length_nil];omega
theorem lput_mem {xs:List Int} {i:Nat} {v:Int} {Q:Int→Prop} (h:∀ x∈xs,Q x) (hv:Q v):∀ x∈xs.take i ++ [v] ++ xs.drop (i+1),Q x:=by
  intro x hx
  simp only [List.mem_append,List.mem_singleton] at hx
  rcases hx with (hx | rfl) | hx
  · exact h x (List.mem_of_mem_take hx)
  · exact hv
  · exact h x (List.mem_of_mem_drop hx)
theorem call_boxrow {P:Program} {σ:St} {g:FuncId} {As args:List AVal} {d:Nat} {s:Nat→Nat} {K:St→Prop} {r q v u:Nat} {cs:List AVal} {xs:List Int} {Q:List AVal→Value→Prop}
    (h:Con P g [.box 0 cs,.row 1 1 true (ints xs)] args true fun outs rows res=>∃ cs' x,Q cs' x∧flatL cs'∧outs=[.box 0 cs',.row 1 1 true (ints xs)]∧rows=[]∧res=.val x)
    (hr:σ.hp r=.box v cs) (hq:σ.hp q=.row u 1 true (ints xs)) (hne:[r,q].Nodup) (hcs:CoeL σ.hp [r,q] false cs cs) (ha:CoeL σ.hp [r,q] false args As)
    (hk:∀ cs' x,Q cs' x→K (St.put ⟨σ.tm,upd (upd σ.hp r (.box v cs')) q (.row u 1 true (ints xs))⟩ (some d) (.val x))):wpCall P false σ g As (some d) s K:=by
  refine .inl ⟨[r,q],_,_,true,_,h,⟨by simp,rfl,hne,?_,?_⟩,ha,(fun e=>by cases e),?_⟩
  · intro x hx
    simp only [List.mem_cons,List.not_mem_nil,or_false] at hx
    rcases hx with rfl | rfl
    · simp [hr]
    · simp [hq]
  · intro j B r' hB hr'
    match j,hB,hr' with
    | 0,hB,hr' =>
      simp at hB hr';subst hB;subst hr'
      rw [hr]
      exact ⟨rfl,v,cs,rfl,hcs⟩
    | 1,hB,hr' =>
      simp at hB hr';subst hB;subst hr'
      simp only [ObjCoe,hq]
      exact ⟨trivial,u,_,rfl,coeL_ints⟩
    | j+2,hB,hr'=>simp at hB
  · rintro outs rows res ⟨cs',x,hQ,hf,rfl,rfl,rfl⟩
    refine ⟨rfl,by simp,by simp,?_⟩
    have s0:sv σ.hp [r,q] s 0=v:=by simp [sv,hr,AObj.ver]
    have s1:sv σ.hp [r,q] s 1=u:=by simp [sv,hq,AObj.ver]
    rw [Option.getD_some,callHp_h2 hne]
    simp only [yzp,yzs,renL_flat cs' hf,yz4,yz15,s0,s1]
    exact hk cs' x hQ
theorem k_among (code:List Int) (at_ seed:Int) (list:List Int) (hb:∀ x∈code,0≤x∧x≤255) (ha:0≤at_∧at_≤1000000000000) (hl:list≠[]) :
    Con Tryz.prog nz1d [.box 0 (srcC code at_ seed),.row 1 1 true (ints list)] [.ptr 5000 0 0,.own 5001 1] true fun outs rows res=>∃ cs' x,(∃ at' seed' b,cs'=srcC code at' seed'∧at_≤at'∧at'≤at_+2∧x=.int .i64 b∧b∈list)∧flatL cs' ∧
      outs=[.box 0 cs',.row 1 1 true (ints list)]∧rows=[]∧res=.val x:=by
  refine con_sh mixed czrm rfl (by simp) ?_
  simp only [Bzoe,Azof,go_sem,yz0,xx9,xx8,xx6,xx7,xx5,xx0,xx1,xx2,reduceIte,xx3,xx4,reduceCtorEq]
  intro vs hM
  refine call_funB (k_pick code at_ seed list.length hb ha) rfl qCS qCS ?_
  rintro cs' x ⟨a',s',b,rfl,h1,h2,rfl,h3,h4⟩
  have hpos:0<list.length:=List.length_pos_iff.2 hl
  have hb2:b.toNat<list.length:=by omega
  simp only [yzx hb2,go_sem,yz0,xx9,xx8,xx6,xx7,xx5,xx0,xx1,xx2,reduceIte,xx3,xx4,reduceCtorEq]
  refine ⟨⟨h3,hb2⟩,hb2,[],by simp,by simp,by simp,?_⟩
  simp only [Nat.not_lt_zero,range1,yz15,yz1a,yz1l,yz1k,yz19,yz1n,yz1m,yz1j,yz17,yzv,yzf,yz4,yzy,yz11,yzs,yzp,yzz,yz8,yzd,yz9,yzb,yzi,yzh,yz3,yz7,yze,yzc,yzj,yzk,List.range_zero,yz6,yz5,yza,yz10,yzl,yzu,AVal.fresh,freshL,yz1,yzg,AObj.fresh,id,Option.isSome_some,or_true,true_or,go_sem,yz0,xx9,xx8,xx6,xx7,xx5,xx0,xx1,xx2,reduceIte,xx3,xx4,reduceCtorEq]
  exact ⟨_,_,⟨a',s',list.getD b.toNat 0,rfl,h1,h2,rfl,yz1f hb2 0⟩,by simp [flatL,AVal.flat,flat_vals],rfl,rfl⟩
end Go.Ab
namespace Go.Ab
open Go.Proofs
theorem k_l02SlowN (n:Int) (hn:2≤n∧n≤10) :
    Con Tryz.prog nz17 [] [iv n] true fun outs rows res=>outs=[]∧∃ v ps,Aut n (ps.map (·.2))∧DJ ps∧rows=[.row v 1 true (rwp ps)]∧res=.st [iv n,.own 6000 v]:=by
  refine con_sh mixed czpl rfl (by simp) ?_
  generalize hQ:finQ _=Q
  simp only [Az7i,Bzdy,yzw,yz2,go_sem,yz0,xx9,xx8,xx6,xx7,xx5,xx0,xx1,xx2,reduceIte,xx3,xx4,reduceCtorEq]
  intro vs0 U0 hN0 vs1 U1 hN1
  simp only [Bzdx,yzw,yz2,go_sem,yz0,xx9,xx8,xx6,xx7,xx5,xx0,xx1,xx2,reduceIte,xx3,xx4,reduceCtorEq]
  intro vs2 U2 hN2
  simp only [Bzdw,Bzdu,yzw,yz2,go_sem,yz0,xx9,xx8,xx6,xx7,xx5,xx0,xx1,xx2,reduceIte,xx3,xx4,reduceCtorEq]
  intro vs3 U3 hN3
  refine wpD_lp (fun (_,_,xs,_)=>n.toNat - List.length xs)
    (fun (v3,v4,xs,ys)=>(List.length xs:Int)≤n∧List.length ys=List.length xs∧(∀ x∈xs,0≤x∧x<n)∧(∀ x∈ys,0≤x∧x<n)∧v3≠v4)
    (fun ((v3,v4,xs,ys):Nat×Nat×List Int×List Int)=>⟨L .any [(0,iv n),(2,.ptr 2 (vs0 0 0) 0),(3,.own 6 v3),(4,.own 7 v4),(5,iv xs.length)],
      L .gone [(2,.box (vs0 0 0) [iv 0,.val (.slice none 0 0)]),(6,.row v3 1 true (ints xs)),(7,.row v4 1 true (ints ys)),(19,.gone),(26,.gone),(30,.gone),(5000,.gone)]⟩)
    (vs1 0 0,vs2 0 0,[],[]) ⟨by simp;omega,rfl,by simp,by simp,fun e=>hN2.new 0 0 (by rw [← e];exact (hN2.hp 6).1)⟩ (by simp only [Bz3a,go_sem,yz0,xx9,xx8,xx6,xx7,xx5,xx0,xx1,xx2,reduceIte,xx3,xx4,reduceCtorEq];try rfl) ?_
  rintro ⟨v3,v4,xs,ys⟩ ⟨h1,h2,h3,h4,h5⟩
  have h1:(xs.length:Int)≤n:=h1
  have h2:ys.length=xs.length:=h2
  have h5:v3≠v4:=h5
  by_cases hlt:(xs.length:Int)<n
  · have w1:IntKind.i64.wrap ((xs.length:Int)+1)=((xs.length+1:Nat):Int):=by rw [w64 (by omega)];simp
    have w2:IntKind.i64.wrap (n - 1)=n - 1:=w64 (by omega)
    have hn0:¬ n=0:=by omega
    have hn1:¬ n - 1=0:=by omega
    have t1:=tmod_in (a:=((xs.length+1:Nat):Int)) (n:=n) (by omega) (by omega)
    have t2:=tmod_in (a:=(xs.length:Int)) (n:=n - 1) (by omega) (by omega)
    simp only [Bz3a,Bz7h,Bzdt,decide_eq_true hlt,w1,hn0,yzw,yz2,go_sem,yz0,xx9,xx8,xx6,xx7,xx5,xx0,xx1,xx2,reduceIte,xx3,xx4,reduceCtorEq]
    intro vs4 U4 hN4 vs5 U5 hN5
    refine ⟨⟨_,rfl,rfl⟩,by omega,?_⟩
    simp only [Bzdr,w2,hn1,yzw,yz2,go_sem,yz0,xx9,xx8,xx6,xx7,xx5,xx0,xx1,xx2,reduceIte,xx3,xx4,reduceCtorEq]
    intro vs6 U6 hN6
    refine ⟨⟨_,rfl,rfl⟩,by omega,?_⟩
    simp only [Bzds,w1,yzw,yz2,go_sem,yz0,xx9,xx8,xx6,xx7,xx5,xx0,xx1,xx2,reduceIte,xx3,xx4,reduceCtorEq]
    intro vs7 U7 hN7
    refine ⟨(vs5 6 0,vs6 6 0,xs ++ [((xs.length+1:Nat):Int).tmod n],ys ++ [(xs.length:Int).tmod (n - 1)]),by dsimp only;rw [List.length_append,List.length_singleton];omega,
      ⟨by dsimp only;rw [List.length_append,List.length_singleton];omega,by dsimp only;rw [List.length_append,List.length_append,h2];rfl,?_,?_,fun e=>hN6.new 6 0 ((show vs5 6 0=vs6 6 0 from e) ▸ (show U6 (vs5 6 0) from (hN6.hp 6).1))⟩,?_⟩
    · intro x hx
      rcases List.mem_append.1 hx with h | h
      · exact h3 x h
      · rw [List.mem_singleton.1 h];exact t1
    · intro x hx
      rcases List.mem_append.1 hx with h | h
      · exact h4 x h
      · rw [List.mem_singleton.1 h];omega
    · simp only [List.length_append,List.length_singleton]
  · have hxl:(xs.length:Int)=n:=by omega
    simp only [Bz3a,Bz7h,Bzdv,decide_eq_false hlt,yzw,yz2,go_sem,yz0,xx9,xx8,xx6,xx7,xx5,xx0,xx1,xx2,reduceIte,xx3,xx4,reduceCtorEq]
    intro vs4 U4 hN4 vs5 U5 hN5
    refine ⟨by decide,?_⟩
    simp only [Az7i,← hQ,go_sem,yz0,xx9,xx8,xx6,xx7,xx5,xx0,xx1,xx2,reduceIte,xx3,xx4,reduceCtorEq]
    refine ⟨[30],by simp,by simp,by simp,?_⟩
    have e:[AVal.ro (some (some (v3+1))) 1 (ints xs),AVal.ro (some (some (v4+1))) 1 (ints ys)]=rwp [(v3,xs),(v4,ys)]:=rfl
    simp only [e,range1,List.length_singleton,renL_rwp,Nat.not_lt_zero,range1,yz15,yz1a,yz1l,yz1k,yz19,yz1n,yz1m,yz1j,yz17,yzv,yzf,yz4,yzy,yz11,yzs,yzp,yzz,yz8,yzd,yz9,yzb,yzi,yzh,yz3,yz7,yze,yzc,yzj,yzk,List.range_zero,yz6,yz5,yza,yz10,yzl,yzu,AVal.fresh,freshL,yz1,yzg,AObj.fresh,id,Option.isSome_some,or_true,true_or,go_sem,yz0,xx9,xx8,xx6,xx7,xx5,xx0,xx1,xx2,reduceIte,xx3,xx4,reduceCtorEq]
    refine ⟨vs5 3 0,[(v3,xs),(v4,ys)],⟨by omega,by omega,by simp,by simp,?_⟩,?_,by simp,rfl⟩
    · intro r hr
      simp only [List.map_cons,List.map_nil,List.mem_cons,List.not_mem_nil,or_false] at hr
      rcases hr with rfl | rfl
      · exact ⟨hxl,h3⟩
      · exact ⟨by omega,h4⟩
    · simp only [DJ,List.pairwise_cons,List.mem_singleton,forall_eq]
      exact ⟨.inr (.inr h5),by simp,.nil⟩
theorem k_l01Tidied (xs:List Int) (hl:xs.length≤100000):RowI Tryz.prog nz6g [.ro none 1 (ints xs)] (fun _=>True):=by
  refine rowI_of mixed czrl rfl ?_
  simp only [Azod,Bzoc,go_sem,yz0,xx9,xx8,xx6,xx7,xx5,xx0,xx1,xx2,reduceIte,xx3,xx4,reduceCtorEq]
  intro vs
  simp only [Bzob,Bzoa,Bzo8,go_sem,yz0,xx9,xx8,xx6,xx7,xx5,xx0,xx1,xx2,reduceIte,xx3,xx4,reduceCtorEq]
  refine wpD_lo (fun (_,_,ys)=>xs.length - List.length ys) (fun (_,c,ys)=>List.length ys≤xs.length∧0≤c∧c≤List.length ys)
    (fun ((va,c,ys):Nat×Int×List Int)=>⟨L .any [(0,.ro none 1 (ints xs)),(3,.own 8 va),(4,iv c),(5,iv ys.length)],L .gone [(8,.row va 1 true (ints ys))]⟩)
    (_,0,[]) ⟨by simp,Int.le_refl _,by simp⟩ (by simp only [Bz54,go_sem,yz0,xx9,xx8,xx6,xx7,xx5,xx0,xx1,xx2,reduceIte,xx3,xx4,reduceCtorEq];try rfl) ?_
  rintro ⟨va,c,ys⟩ ⟨h1,h2,h3⟩
  have h1:ys.length≤xs.length:=h1
  have h3:c≤ys.length:=h3
  by_cases hlt:(ys.length:Int)<xs.length
  · have hlt1:ys.length<xs.length:=by omega
    have w1:IntKind.i64.wrap ((ys.length:Int)+1)=((ys.length+1:Nat):Int):=by rw [w64 (by omega)];simp
    simp only [Bz54,Bzbg,Bzo7,decide_eq_true hlt,go_sem,yz0,xx9,xx8,xx6,xx7,xx5,xx0,xx1,xx2,reduceIte,xx3,xx4,reduceCtorEq]
    intro hM
    simp only [Bzo6,Bzo3,go_sem,yz0,xx9,xx8,xx6,xx7,xx5,xx0,xx1,xx2,reduceIte,xx3,xx4,reduceCtorEq]
    refine wpD_lo (fun (k,_)=>ys.length - k) (fun (k,_)=>k≤ys.length)
      (fun ((k,o):Nat×Int)=>⟨L .any [(0,.ro none 1 (ints xs)),(3,.own 8 va),(4,iv c),(5,iv ys.length),(6,iv o),(7,iv k)],L .gone [(8,.row va 1 true (ints ys))]⟩)
      (0,-1) (by simp) (by simp only [Bz53,go_sem,yz0,xx9,xx8,xx6,xx7,xx5,xx0,xx1,xx2,reduceIte,xx3,xx4,reduceCtorEq];try rfl) ?_
    rintro ⟨k,o⟩ hk
    have hk:k≤ys.length:=hk
    by_cases hkl:(k:Int)<ys.length
    · have hk1:k<ys.length:=by omega
      have hk2:k<xs.length:=by omega
      have w2:IntKind.i64.wrap ((k:Int)+1)=((k+1:Nat):Int):=by rw [w64 (by omega)];simp
      simp only [Bz53,Bzbh,Bzo2,decide_eq_true hkl,yzx hk2,yzx hlt1,go_sem,yz0,xx9,xx8,xx6,xx7,xx5,xx0,xx1,xx2,reduceIte,xx3,xx4,reduceCtorEq]
      refine ⟨⟨by omega,hk2⟩,hk2,⟨by omega,hlt1⟩,hlt1,?_⟩
      simp only [Bzo0,Bzo1,yzx hk1,w2,go_sem,yz0,xx9,xx8,xx6,xx7,xx5,xx0,xx1,xx2,reduceIte,xx3,xx4,reduceCtorEq]
      exact ⟨fun _=>⟨⟨by omega,hk1⟩,hk1,(k+1,ys.getD k 0),by dsimp only;omega,by dsimp only;omega,rfl⟩,fun _=>⟨(k+1,o),by dsimp only;omega,by dsimp only;omega,rfl⟩⟩
    · simp only [Bz53,Bzbh,Bzo5,decide_eq_false hkl,go_sem,yz0,xx9,xx8,xx6,xx7,xx5,xx0,xx1,xx2,reduceIte,xx3,xx4,reduceCtorEq]
      by_cases ho:o<0
      · have w3:IntKind.i64.wrap (c+1)=c+1:=w64 (by omega)
        simp only [Bzbi,Bzo4,Bzbj,Bzbk,decide_eq_true ho,w1,w3,go_sem,yz0,xx9,xx8,xx6,xx7,xx5,xx0,xx1,xx2,reduceIte,xx3,xx4,reduceCtorEq]
        intro vs2
        refine ⟨⟨_,rfl,rfl⟩,by omega,?_⟩
        exact ⟨(vs2 3 0,c+1,ys ++ [c]),by dsimp only;rw [List.length_append,List.length_singleton];omega,⟨by dsimp only;rw [List.length_append,List.length_singleton];omega,by dsimp only;omega,by dsimp only;rw [List.length_append,List.length_singleton];omega⟩,by simp only [List.length_append,List.length_singleton]⟩
      · simp only [Bzbi,Bzbj,Bzbk,decide_eq_false ho,w1,go_sem,yz0,xx9,xx8,xx6,xx7,xx5,xx0,xx1,xx2,reduceIte,xx3,xx4,reduceCtorEq]
        intro vs2
        refine ⟨⟨_,rfl,rfl⟩,by omega,?_⟩
        exact ⟨(vs2 3 0,c,ys ++ [o]),by dsimp only;rw [List.length_append,List.length_singleton];omega,⟨by dsimp only;rw [List.length_append,List.length_singleton];omega,h2,by dsimp only;rw [List.length_append,List.length_singleton];omega⟩,by simp only [List.length_append,List.length_singleton]⟩
  · simp only [Bz54,Bzbg,Bzo9,decide_eq_false hlt,go_sem,yz0,xx9,xx8,xx6,xx7,xx5,xx0,xx1,xx2,reduceIte,xx3,xx4,reduceCtorEq]
    intro hM
    exact ⟨8,va,ys,by omega,rfl,by simp only [go_sem,yz0,xx9,xx8,xx6,xx7,xx5,xx0,xx1,xx2,reduceIte,xx3,xx4,reduceCtorEq]⟩
end Go.Ab
namespace Go.Ab
open Go.Proofs
abbrev AlR (code:List Int) (at_:Int) (outs rows:List AObj) (res:AVal):Prop :=
  ∃ n ps v w xs a' s',Aut n (ps.map (·.2))∧DJ ps∧n≤6∧at_≤a'∧a'≤at_+2000∧outs=[.box 0 (srcC code a' s')]∧rows=[.row v 1 true (rwp ps),.row w 1 true (ints xs)]∧res=.tup [.st [iv n,.own 6000 v],.own 6001 w]
theorem rwp_getD {ps:List (Nat×List Int)} {i:Nat} (h:i<ps.length):(rwp ps).getD i .any=.ro (some (some ((ps.getD i (0,[])).1+1))) 1 (ints (ps.getD i (0,[])).2):=by
  rw [List.getD_eq_getElem?_getD,rwp,List.getElem?_map,List.getElem?_eq_getElem h,List.getD_eq_getElem?_getD,List.getElem?_eq_getElem h];rfl
theorem k_l01Alike (code:List Int) (at_ seed:Int) (hb:∀ x∈code,0≤x∧x≤255) (ha:0≤at_∧at_≤100000) :
    Con Tryz.prog nz62 [.box 0 (srcC code at_ seed)] [.ptr 5000 0 0] true (AlR code at_):=by
  refine con_sh mixed czr3 rfl (by simp) ?_
  generalize hQ:finQ _=Q
  simp only [Azam,Bzlt,yzw,yz2,go_sem,yz0,xx9,xx8,xx6,xx7,xx5,xx0,xx1,xx2,reduceIte,xx3,xx4,reduceCtorEq]
  intro vs0 U0 hN0 vs1 U1 hN1
  refine call_con (r:=5000) (k_DrawnN code at_ seed 3 hb (by omega) (by omega)) rfl (by simp only [Bool.not_true,rowIs,boxIs,yz1c,yz13,yz1d,yz14,yzm,yz1i,yz1g,coe_ro,yzt,yzo,coe_st,yzq,coe_rp,yzr,yz1h,yz1e,yz16,yzn,yz1b,yz18,L_hit,L_miss,L_nil,xx3,ne_eq,reduceCtorEq,not_false_eq_true,true_and,and_true,and_self,exists_eq_left,exists_eq_right,List.mem_cons,List.not_mem_nil,or_false,AObj.row.injEq,AObj.box.injEq,exists_eq_left',exists_and_left,exists_eq,Nat.zero_lt_one,Nat.lt_add_one,List.map_cons,List.map_nil,AObj.ver,xx5,not_true_eq_false]) (by simp only [Bool.not_true,rowIs,boxIs,yz1c,yz13,yz1d,yz14,yzm,yz1i,yz1g,coe_ro,yzt,yzo,coe_st,yzq,coe_rp,yzr,yz1h,yz1e,yz16,yzn,yz1b,yz18,L_hit,L_miss,L_nil,xx3,ne_eq,reduceCtorEq,not_false_eq_true,true_and,and_true,and_self,exists_eq_left,exists_eq_right,List.mem_cons,List.not_mem_nil,or_false,AObj.row.injEq,AObj.box.injEq,exists_eq_left',exists_and_left,exists_eq,Nat.zero_lt_one,Nat.lt_add_one,List.map_cons,List.map_nil,AObj.ver,xx5,not_true_eq_false]) ?_
  rintro outs rows res ⟨q,qs,vq,a1,s1,A,hd,hq3,h1,h2,rfl,rfl,rfl⟩
  refine ⟨rfl,by simp,by rw [Option.getD_some,yzl];simp only [go_sem,yz0,xx9,xx8,xx6,xx7,xx5,xx0,xx1,xx2,reduceIte,xx3,xx4,reduceCtorEq],?_⟩
  rw [Option.getD_some,callHp_mr (by omega)]
  simp only [renL_rwp,Bzls,yzw,yz2,Nat.not_lt_zero,range1,yz15,yz1a,yz1l,yz1k,yz19,yz1n,yz1m,yz1j,yz17,yzv,yzf,yz4,yzy,yz11,yzs,yzp,yzz,yz8,yzd,yz9,yzb,yzi,yzh,yz3,yz7,yze,yzc,yzj,yzk,List.range_zero,yz6,yz5,yza,yz10,yzl,yzu,AVal.fresh,freshL,yz1,yzg,AObj.fresh,id,Option.isSome_some,or_true,true_or,go_sem,yz0,xx9,xx8,xx6,xx7,xx5,xx0,xx1,xx2,reduceIte,xx3,xx4,reduceCtorEq]
  intro vs2 U2 hN2
  generalize hf:sv (L .gone _) [5000] (vs1 1)=f
  have hf0:f 0=0:=by rw [← hf];simp [sv,AObj.ver,L]
  rw [hf0]
  generalize hps0:List.map (fun p=>(f p.1,p.2)) qs=ps0
  have A0:Aut q (ps0.map (·.2)):=by
    rw [← hps0,List.map_map];exact A
  have n1:=A0.n1
  have l1:=A0.l1
  have l2:=A0.l2
  rw [List.length_map] at l1 l2
  refine call_funBN (k_pick code a1 s1 4 hb (by omega)) rfl (by simp) qCS qCS ⟨srcC code a1 0,.int .i64 0,⟨a1,0,0,rfl,by omega,by omega,rfl,by omega,.inr rfl⟩,flat_srcC⟩ ?_
  rintro cs' x ⟨a2,s2,b2,rfl,g1,g2,rfl,g3,g4⟩
  obtain ⟨n,hn⟩:∃ n:Int,n=q+b2:=⟨_,rfl⟩
  have wn:IntKind.i64.wrap (q+b2)=n:=by rw [hn];exact w64 (by omega)
  simp only [wn,Bzlr,yzw,yz2,go_sem,yz0,xx9,xx8,xx6,xx7,xx5,xx0,xx1,xx2,reduceIte,xx3,xx4,reduceCtorEq]
  intro vs3 U3 hN3
  simp only [Bzlq,Bzl6,yzw,yz2,go_sem,yz0,xx9,xx8,xx6,xx7,xx5,xx0,xx1,xx2,reduceIte,xx3,xx4,reduceCtorEq]
  intro vs4 U4 hN4
  refine wpD_lp (fun (_,_,_,xs)=>n.toNat - List.length xs)
    (fun (_,a,_,xs)=>a2≤a∧a≤a2+2 * List.length xs∧(List.length xs:Int)≤n∧∀ x∈xs,0≤x∧x<q)
    (fun ((v6,a,s,xs):Nat×Int×Int×List Int)=>⟨L .any [(0,.ptr 5000 0 0),(2,.ptr 2 (vs0 0 0) 0),(4,.ptr 4 (vs1 2 0) 0),(5,iv n),(6,.own 23 v6),(7,iv xs.length)],
      L .gone [(2,.box (vs0 0 0) [iv 0,.val (.slice none 0 0)]),(4,.box (vs1 2 0) [iv q,.own 17 (f vq)]),(8,.gone),(17,.row (f vq) 1 true (rwp ps0)),(23,.row v6 1 true (ints xs)),(36,.gone),(43,.gone),(93,.gone),(5000,.box 0 (srcC code a s))]⟩)
    (_,a2,s2,[]) ⟨Int.le_refl _,by simp,by simp;omega,by simp⟩ (by simp only [Bz4h,go_sem,yz0,xx9,xx8,xx6,xx7,xx5,xx0,xx1,xx2,reduceIte,xx3,xx4,reduceCtorEq];try rfl) ?_
  rintro ⟨v6,a,s,xs⟩ ⟨i1,i2,i3,i4⟩
  have i1:a2≤a:=i1
  have i2:a≤a2+2 * xs.length:=i2
  have i3:(xs.length:Int)≤n:=i3
  by_cases hlt:(xs.length:Int)<n
  · have w1:IntKind.i64.wrap ((xs.length:Int)+1)=((xs.length+1:Nat):Int):=by rw [w64 (by omega)];simp
    simp only [Bz4h,Bzag,Bzl5,decide_eq_true hlt,yzw,yz2,go_sem,yz0,xx9,xx8,xx6,xx7,xx5,xx0,xx1,xx2,reduceIte,xx3,xx4,reduceCtorEq]
    intro vs5 U5 hN5 vs6 U6 hN6
    by_cases hq:(xs.length:Int)<q
    · simp only [Bzah,Bzai,decide_eq_true hq,w1,yzw,yz2,go_sem,yz0,xx9,xx8,xx6,xx7,xx5,xx0,xx1,xx2,reduceIte,xx3,xx4,reduceCtorEq]
      intro vs7 U7 hN7
      refine ⟨⟨_,rfl,rfl⟩,by omega,?_⟩
      intro vs8 U8 hN8
      refine ⟨(vs7 3 0,a,s,xs ++ [(xs.length:Int)]),by dsimp only;rw [List.length_append,List.length_singleton];omega,⟨i1,by dsimp only;rw [List.length_append,List.length_singleton];omega,by dsimp only;rw [List.length_append,List.length_singleton];omega,fun x hx=>?_⟩,?_⟩
      · rcases List.mem_append.1 hx with h | h
        · exact i4 x h
        · rw [List.mem_singleton.1 h];omega
      · simp only [List.length_append,List.length_singleton]
    · simp only [Bzah,decide_eq_false hq,yzw,yz2,go_sem,yz0,xx9,xx8,xx6,xx7,xx5,xx0,xx1,xx2,reduceIte,xx3,xx4,reduceCtorEq]
      intro vs7 U7 hN7
      refine call_funB (k_pick code a s q hb (by omega)) rfl qCS qCS ?_
      rintro cs' x ⟨a3,s3,b3,rfl,e1,e2,rfl,e3,e4⟩
      simp only [Bzai,w1,yzw,yz2,go_sem,yz0,xx9,xx8,xx6,xx7,xx5,xx0,xx1,xx2,reduceIte,xx3,xx4,reduceCtorEq]
      refine ⟨⟨_,rfl,rfl⟩,by omega,?_⟩
      intro vs8 U8 hN8
      refine ⟨(vs7 6 0,a3,s3,xs ++ [b3]),by dsimp only;rw [List.length_append,List.length_singleton];omega,⟨by dsimp only;omega,by dsimp only;rw [List.length_append,List.length_singleton];omega,by dsimp only;rw [List.length_append,List.length_singleton];omega,fun x hx=>?_⟩,?_⟩
      · rcases List.mem_append.1 hx with h | h
        · exact i4 x h
        · rw [List.mem_singleton.1 h];omega
      · simp only [List.length_append,List.length_singleton]
  have hxl:(xs.length:Int)=n:=by omega
  simp only [Bz4h,Bzag,Bzlp,decide_eq_false hlt,yzw,yz2,go_sem,yz0,xx9,xx8,xx6,xx7,xx5,xx0,xx1,xx2,reduceIte,xx3,xx4,reduceCtorEq]
  intro vs5 U5 hN5 vs6 U6 hN6
  simp only [Bzlo,Bzlm,yzw,yz2,go_sem,yz0,xx9,xx8,xx6,xx7,xx5,xx0,xx1,xx2,reduceIte,xx3,xx4,reduceCtorEq]
  intro vs7 U7 hN7 ver
  refine wpD_lp (fun (_,_,_,_,ps)=>ps0.length - List.length ps)
    (fun (_,nn,a',_,ps)=>a≤a'∧a'≤a+60 * List.length ps∧List.length ps≤ps0.length∧(ps≠[]→nn=true)∧(∀ p∈ps,(List.length p.2:Int)=n∧∀ x∈p.2,0≤x∧x<n)∧DJ ps)
    (fun ((v93,nn,a,s,ps):Nat×Bool×Int×Int×List (Nat×List Int))=>⟨L .any [(0,.ptr 5000 0 0),(2,.ptr 2 (vs0 0 0) 0),(4,.ptr 4 (vs1 2 0) 0),(5,iv n),(6,.own 23 v6),(8,.ptr 8 (vs6 2 0) 0),(9,iv ps.length)],
      L .gone [(2,.box (vs0 0 0) [iv 0,.val (.slice none 0 0)]),(4,.box (vs1 2 0) [iv q,.own 17 (f vq)]),(8,.box (vs6 2 0) [iv n,.own 93 v93]),(17,.row (f vq) 1 true (rwp ps0)),(23,.row v6 1 true (ints xs)),(36,.gone),(43,.gone),(93,.row v93 1 nn (rwp ps)),(5000,.box 0 (srcC code a s))]⟩)
    (ver,false,a,s,[]) ⟨Int.le_refl _,by simp,by simp,by simp,by simp,by simp [DJ]⟩ (by simp only [Bz4k,go_sem,yz0,xx9,xx8,xx6,xx7,xx5,xx0,xx1,xx2,reduceIte,xx3,xx4,reduceCtorEq];try rfl) ?_
  rintro ⟨v93,nn,a',s',ps⟩ ⟨j1,j2,j3,j4,j5,j6⟩
  have j1:a≤a':=j1
  have j2:a'≤a+60 * ps.length:=j2
  have j3:ps.length≤ps0.length:=j3
  by_cases hlp:(ps.length:Int)<ps0.length
  · have hlp1:ps.length<ps0.length:=by omega
    have hrw:=A0.row _ (List.mem_map_of_mem (f:=(·.2)) (yz1f hlp1 (0,[])))
    generalize hr0:ps0.getD ps.length (0,[])=r0 at hrw
    simp only [Bz4k,Bzaj,Bzll,rwp_len,decide_eq_true hlp,yzw,yz2,go_sem,yz0,xx9,xx8,xx6,xx7,xx5,xx0,xx1,xx2,reduceIte,xx3,xx4,reduceCtorEq]
    intro vs8 U8 hN8 hM8 vs9 U9 hN9
    simp only [Bzlj,Bzlh,yzw,yz2,go_sem,yz0,xx9,xx8,xx6,xx7,xx5,xx0,xx1,xx2,reduceIte,xx3,xx4,reduceCtorEq]
    intro vs10 U10 hN10
    refine wpD_lp (fun (_,_,_,row)=>n.toNat - List.length row)
      (fun (_,a3,_,row)=>a'≤a3∧a3≤a'+8 * List.length row∧(List.length row:Int)≤n∧∀ x∈row,0≤x∧x<n)
      (fun ((v10,a,s,row):Nat×Int×Int×List Int)=>⟨L .any [(0,.ptr 5000 0 0),(2,.ptr 2 (vs0 0 0) 0),(4,.ptr 4 (vs1 2 0) 0),(5,iv n),(6,.own 23 v6),(8,.ptr 8 (vs6 2 0) 0),(9,iv ps.length),(10,.own 53 v10),(11,iv row.length)],
        L .gone [(2,.box (vs0 0 0) [iv 0,.val (.slice none 0 0)]),(4,.box (vs1 2 0) [iv q,.own 17 (f vq)]),(8,.box (vs6 2 0) [iv n,.own 93 v93]),(17,.row (f vq) 1 true (rwp ps0)),(23,.row v6 1 true (ints xs)),(36,.gone),(43,.gone),(53,.row v10 1 true (ints row)),(88,.gone),(93,.row v93 1 nn (rwp ps)),(5000,.box 0 (srcC code a s))]⟩)
      (_,a',s',[]) ⟨Int.le_refl _,by simp,by simp;omega,by simp⟩ (by simp only [Bz4j,go_sem,yz0,xx9,xx8,xx6,xx7,xx5,xx0,xx1,xx2,reduceIte,xx3,xx4,reduceCtorEq];try rfl) ?_
    rintro ⟨v10,a3,s3,row⟩ ⟨k1,k2,k3,k4⟩
    have k1:a'≤a3:=k1
    have k2:a3≤a'+8 * row.length:=k2
    have k3:(row.length:Int)≤n:=k3
    by_cases hlr:(row.length:Int)<n
    · have hx1:row.length<xs.length:=by omega
      have hm:=i4 _ (yz1f hx1 0)
      generalize hmx:xs.getD row.length 0=m at hm
      have hm1:m.toNat<r0.2.length:=by omega
      have hw:=hrw.2 _ (yz1f hm1 0)
      generalize hwx:r0.2.getD m.toNat 0=want at hw
      simp only [Bz4j,Bzak,Bzlg,rwp_getD hlp1,hr0,yzx hx1,hmx,yzx hm1,hwx,decide_eq_true hlr,yzw,yz2,go_sem,yz0,xx9,xx8,xx6,xx7,xx5,xx0,xx1,xx2,reduceIte,xx3,xx4,reduceCtorEq]
      intro vs11 U11 hN11 vs12 U12 hN12
      have hlw:(rwp ps0).length=ps0.length:=rwp_len
      refine ⟨⟨by omega,by omega⟩,by omega,⟨by omega,hx1⟩,hx1,⟨hm.1,hm1⟩,hm1,?_⟩
      simp only [Bzle,Bzld,Bzlb,yzw,yz2,go_sem,yz0,xx9,xx8,xx6,xx7,xx5,xx0,xx1,xx2,reduceIte,xx3,xx4,reduceCtorEq]
      intro vs13 U13 hN13 vs14 U14 hN14
      refine wpD_lp (fun (_,_,_,j)=>4 - j)
        (fun (a4,_,t,j)=>a3≤a4∧a4≤a3+2 * (j:Nat)∧j≤4∧0≤t∧t<n)
        (fun ((a,s,t,j):Int×Int×Int×Nat)=>⟨L .any [(0,.ptr 5000 0 0),(2,.ptr 2 (vs0 0 0) 0),(4,.ptr 4 (vs1 2 0) 0),(5,iv n),(6,.own 23 v6),(8,.ptr 8 (vs6 2 0) 0),(9,iv ps.length),(10,.own 53 v10),(11,iv row.length),(12,iv want),(13,iv t),(14,iv j)],
          L .gone [(2,.box (vs0 0 0) [iv 0,.val (.slice none 0 0)]),(4,.box (vs1 2 0) [iv q,.own 17 (f vq)]),(8,.box (vs6 2 0) [iv n,.own 93 v93]),(17,.row (f vq) 1 true (rwp ps0)),(23,.row v6 1 true (ints xs)),(36,.gone),(43,.gone),(53,.row v10 1 true (ints row)),(88,.gone),(93,.row v93 1 nn (rwp ps)),(5000,.box 0 (srcC code a s))]⟩)
        (a3,s3,want,0) ⟨Int.le_refl _,by simp,by simp,hw.1,by omega⟩ (by simp only [Bz4i,go_sem,yz0,xx9,xx8,xx6,xx7,xx5,xx0,xx1,xx2,reduceIte,xx3,xx4,reduceCtorEq];try rfl) ?_
      rintro ⟨a4,s4,t,j⟩ ⟨m1,m2,m3,m4,m5⟩
      have m1:a3≤a4:=m1
      have m2:a4≤a3+2 * (j:Nat):=m2
      have m3:j≤4:=m3
      by_cases hj:(j:Int)<4
      · have w1:IntKind.i64.wrap ((j:Int)+1)=((j+1:Nat):Int):=by rw [w64 (by omega)];simp
        simp only [Bz4i,Bzal,Bzla,decide_eq_true hj,yzw,yz2,go_sem,yz0,xx9,xx8,xx6,xx7,xx5,xx0,xx1,xx2,reduceIte,xx3,xx4,reduceCtorEq]
        intro vs15 U15 hN15 vs16 U16 hN16
        refine call_funB (k_pick code a4 s4 n hb (by omega)) rfl qCS qCS ?_
        rintro cs' x ⟨a5,s5,b5,rfl,e1,e2,rfl,e3,e4⟩
        have hb5:b5.toNat<xs.length:=by omega
        simp only [Bzl8,yzx hb5,yzw,yz2,go_sem,yz0,xx9,xx8,xx6,xx7,xx5,xx0,xx1,xx2,reduceIte,xx3,xx4,reduceCtorEq]
        intro vs17 U17 hN17
        refine ⟨⟨e3,hb5⟩,hb5,?_⟩
        simp only [Bzl7,Bzl9,w1,yzw,yz2,go_sem,yz0,xx9,xx8,xx6,xx7,xx5,xx0,xx1,xx2,reduceIte,xx3,xx4,reduceCtorEq]
        refine ⟨fun _ vs18 U18 hN18 vs19 U19 hN19=>⟨(a5,s5,b5,j+1),by dsimp only;omega,⟨by dsimp only;omega,by dsimp only;omega,by dsimp only;omega,e3,by dsimp only;omega⟩,rfl⟩,
          fun _ vs18 U18 hN18=>⟨(a5,s5,t,j+1),by dsimp only;omega,⟨by dsimp only;omega,by dsimp only;omega,by dsimp only;omega,m4,m5⟩,rfl⟩⟩
      · have w1:IntKind.i64.wrap ((row.length:Int)+1)=((row.length+1:Nat):Int):=by rw [w64 (by omega)];simp
        simp only [Bz4i,Bzal,Bzlc,decide_eq_false hj,yzw,yz2,go_sem,yz0,xx9,xx8,xx6,xx7,xx5,xx0,xx1,xx2,reduceIte,xx3,xx4,reduceCtorEq]
        intro vs15 U15 hN15 vs16 U16 hN16
        refine ⟨⟨_,rfl,rfl⟩,by omega,?_⟩
        simp only [Bzlf,w1,yzw,yz2,go_sem,yz0,xx9,xx8,xx6,xx7,xx5,xx0,xx1,xx2,reduceIte,xx3,xx4,reduceCtorEq]
        intro vs17 U17 hN17
        refine ⟨(vs16 3 0,a4,s4,row ++ [t]),by dsimp only;rw [List.length_append,List.length_singleton];omega,⟨by dsimp only;omega,by dsimp only;rw [List.length_append,List.length_singleton];omega,by dsimp only;rw [List.length_append,List.length_singleton];omega,fun x hx=>?_⟩,?_⟩
        · rcases List.mem_append.1 hx with h | h
          · exact k4 x h
          · rw [List.mem_singleton.1 h];exact ⟨m4,m5⟩
        · simp only [List.length_append,List.length_singleton]
    · have hrl:(row.length:Int)=n:=by omega
      have w1:IntKind.i64.wrap ((ps.length:Int)+1)=((ps.length+1:Nat):Int):=by rw [w64 (by omega)];simp
      simp only [Bz4j,Bzak,Bzli,decide_eq_false hlr,yzw,yz2,wpD_gh,go_sem,yz0,xx9,xx8,xx6,xx7,xx5,xx0,xx1,xx2,reduceIte,xx3,xx4,reduceCtorEq]
      intro vs11 U11 hN11 hD
      refine ⟨[],?_⟩
      have hf:∀ p∈ps,p.2=[]∨p.1≠v10:=fun p hp=>by
        by_cases e:p.2=[]
        · exact .inl e
        · exact .inr (hD 93 v93 1 nn (rwp ps) 53 v10 rfl rfl p.1 1 (ints p.2) (List.mem_map.2 ⟨p,hp,rfl⟩) (by simpa using e))
      simp only [gwp_nil,yzw,yz2,go_sem,yz0,xx9,xx8,xx6,xx7,xx5,xx0,xx1,xx2,reduceIte,xx3,xx4,reduceCtorEq]
      intro vs12 U12 hN12
      rw [rwp_len]
      refine ⟨by omega,?_⟩
      simp only [Bzlk,w1,rwp_snoc,yzw,yz2,go_sem,yz0,xx9,xx8,xx6,xx7,xx5,xx0,xx1,xx2,reduceIte,xx3,xx4,reduceCtorEq]
      intro vs13 U13 hN13
      refine ⟨(vs12 4 0,true,a3,s3,ps ++ [(v10,row)]),by dsimp only;rw [List.length_append,List.length_singleton];omega,
        ⟨by dsimp only;omega,by dsimp only;rw [List.length_append,List.length_singleton];omega,by dsimp only;rw [List.length_append,List.length_singleton];omega,by simp,fun p hp=>?_,j6.snoc hf⟩,?_⟩
      · rcases List.mem_append.1 hp with h | h
        · exact j5 p h
        · rw [List.mem_singleton.1 h];exact ⟨hrl,k4⟩
      · simp only [List.length_append,List.length_singleton]
  · have hlen:ps.length=ps0.length:=by omega
    obtain rfl:=j4 (fun e=>by rw [e] at hlen;simp at hlen;omega)
    simp only [Bz4k,Bzaj,Bzln,rwp_len,decide_eq_false hlp,yzw,yz2,go_sem,yz0,xx9,xx8,xx6,xx7,xx5,xx0,xx1,xx2,reduceIte,xx3,xx4,reduceCtorEq]
    intro vs8 U8 hN8 hM8 vs9 U9 hN9
    refine call_rowI (k_l01Tidied xs (by omega)) qCS qGN ⟨[],trivial⟩ ?_
    rintro ys vy -
    simp only [Azam,← hQ,yzw,yz2,go_sem,yz0,xx9,xx8,xx6,xx7,xx5,xx0,xx1,xx2,reduceIte,xx3,xx4,reduceCtorEq]
    refine ⟨[93,97],by simp,by simp,by simp,?_⟩
    simp only [range1,List.length_singleton,renL_rwp,Nat.not_lt_zero,range1,yz15,yz1a,yz1l,yz1k,yz19,yz1n,yz1m,yz1j,yz17,yzv,yzf,yz4,yzy,yz11,yzs,yzp,yzz,yz8,yzd,yz9,yzb,yzi,yzh,yz3,yz7,yze,yzc,yzj,yzk,List.range_zero,yz6,yz5,yza,yz10,yzl,yzu,AVal.fresh,freshL,yz1,yzg,AObj.fresh,id,Option.isSome_some,or_true,true_or,go_sem,yz0,xx9,xx8,xx6,xx7,xx5,xx0,xx1,xx2,reduceIte,xx3,xx4,reduceCtorEq]
    exact ⟨n,ps,v93,vy,ys,a',s',⟨by omega,by omega,by rw [List.length_map];omega,by rw [List.length_map];omega,fun r hr=>by obtain ⟨p,hp,rfl⟩:=List.mem_map.1 hr;exact j5 p hp⟩,j6,by omega,by omega,by omega,rfl,by simp,rfl⟩
end Go.Ab
namespace Go.Ab
theorem rwp_putN {ps:List (Nat×List Int)} {i:Nat} {p:Nat×List Int}:(rwp ps).take i ++ [.ro (some (some (p.1+1))) 1 (ints p.2)] ++ (rwp ps).drop (i+1)=rwp (ps.take i ++ [p] ++ ps.drop (i+1)):=by
  simp only [rwp,List.map_append,List.map_take,List.map_drop,List.map_cons,List.map_nil]
theorem DJ_put {A C:List (Nat×List Int)} {b b':Nat×List Int} (h:DJ (A ++ b :: C)) (h1:b'.1=b.1) (h2:b.2=[]→b'.2=[]):DJ (A ++ b' :: C):=by
  unfold DJ at h ⊢
  rw [List.pairwise_append] at h ⊢
  obtain ⟨hA,hC,hX⟩:=h
  rw [List.pairwise_cons] at hC ⊢
  refine ⟨hA,⟨fun x hx=>?_,hC.2⟩,fun x hx y hy=>?_⟩
  · rcases hC.1 x hx with e | e | e
    · exact .inl (h2 e)
    · exact .inr (.inl e)
    · exact .inr (.inr (by rw [h1];exact e))
  · rcases List.mem_cons.1 hy with rfl | hy
    · rcases hX x hx b (List.mem_cons_self ..) with e | e | e
      · exact .inl e
      · exact .inr (.inl (h2 e))
      · exact .inr (.inr (by rw [h1];exact e))
    · exact hX x hx y (List.mem_cons_of_mem _ hy)
theorem DJ_set {ps:List (Nat×List Int)} {i:Nat} (hi:i<ps.length) {xs:List Int} (h:DJ ps) (h2:(ps.getD i (0,[])).2=[]→xs=[]):DJ (ps.take i ++ [((ps.getD i (0,[])).1,xs)] ++ ps.drop (i+1)):=by
  have e:ps=ps.take i ++ ps.getD i (0,[]) :: ps.drop (i+1):=by
    rw [List.getD_eq_getElem?_getD,List.getElem?_eq_getElem hi,Option.getD_some,List.getElem_cons_drop,List.take_append_drop]
  rw [e] at h
  rw [List.append_assoc,List.singleton_append]
  exact DJ_put h rfl h2
end Go.Ab
