/- Contracts and what they lean on, part 10. Conditions: none. -/
import Derived.Lib.SliceRun
import Derived.Sort.WalkA
import Derived.Tactics
import Derived.Tactics2
import Derived.Shelf.Abstract
import Derived.Sort.WalkB12
import Derived.Test.YtlijcimaeplgbaaGreatZ9
set_option maxRecDepth 100000
set_option maxHeartbeats 4000000
set_option linter.all false
open Nat renaming reduceLeDiff → xx0, reduceMul → xx1, reduceSub → xx2, reduceEqDiff → xx3, reduceAdd → xx4, reduceLT → xx5
open Int renaming reduceToNat → xx6, reduceNeg → xx7, reduceLE → xx8, reduceLT → xx9
namespace Go.Ab
open Go Go.Proofs
def numK (xs:List Int):List Int:=(numG ([],[]) xs).2
theorem numK_inv (xs:List Int):∀ i,i≤xs.length→NumI xs (numG ([],[]) (xs.take i)).1 (numG ([],[]) (xs.take i)).2 i∧∀ x,x∈(numG ([],[]) (xs.take i)).1↔x∈xs.take i
  | 0,_=>⟨⟨TidP.nil,rfl,by simp [numG],rfl,fun j h=>by omega,fun m h=>by simp [numG] at h⟩,fun x=>by simp [numG]⟩
  | i+1,h=>by
    obtain ⟨I,hm⟩:=numK_inv xs i (by omega)
    have hi:i<xs.length:=by omega
    have e:xs.take (i+1)=xs.take i ++ [xs.getD i 0]:=by rw [List.take_succ_eq_append_getElem hi,List.getD_eq_getElem?_getD,List.getElem?_eq_getElem hi];rfl
    rw [e,numG_snoc]
    generalize numG ([],[]) (xs.take i)=p at I hm ⊢
    obtain ⟨K,ys⟩:=p
    dsimp only at I hm
    by_cases hx:xs.getD i 0∈K
    · simp only [numS,if_pos hx]
      have h1:=List.idxOf_lt_length_of_mem hx
      refine ⟨I.old hi h1 ?_,fun x=>?_⟩
      · rw [List.getD_eq_getElem?_getD,List.getElem?_eq_getElem h1]
        simp
      · rw [List.mem_append,List.mem_singleton,hm]
        constructor
        · exact .inl
        · rintro (h | rfl)
          · exact h
          · exact (hm _).1 hx
    · simp only [numS,if_neg hx]
      refine ⟨I.new hi hx,fun x=>?_⟩
      rw [List.mem_append,List.mem_append,hm]
theorem numK_len {xs:List Int}:(numK xs).length=xs.length:=by
  have:=(numK_inv xs xs.length (Nat.le_refl _)).1.ln
  rw [List.take_length] at this;exact this
theorem numK_tid (xs:List Int):TidP xs (numK xs):=by
  have:=(numK_inv xs xs.length (Nat.le_refl _)).1.t
  rw [List.take_length] at this;exact this
theorem numK_cls (xs:List Int):∃ K:List Int,K.Nodup∧(∀ x,x∈K↔x∈xs)∧usedS 0 (numK xs)=K.length:=by
  obtain ⟨I,hm⟩:=numK_inv xs xs.length (Nat.le_refl _)
  rw [List.take_length] at I hm
  exact ⟨_,I.nd,hm,I.us⟩
theorem numK_rg {xs:List Int} {j:Nat} (hj:j<xs.length):0≤(numK xs).getD j 0∧(numK xs).getD j 0<xs.length∧(numK xs).getD j 0<usedS 0 (numK xs):=by
  obtain ⟨I,hm⟩:=numK_inv xs xs.length (Nat.le_refl _)
  rw [List.take_length] at I hm
  have h1:=I.rg hj
  have h2:(numG ([],[]) xs).1.length≤xs.length:=by
    have hn:=I.nd
    have hs:=fun x=>(hm x).1
    clear I
    generalize (numG ([],[]) xs).1=K at hn hs
    clear hm h1
    clear hj
    induction K generalizing xs with
    | nil=>simp
    | cons a K ih =>
      rw [List.nodup_cons] at hn
      have ha:=hs a (by simp)
      have:=ih (xs:=xs.erase a) hn.2 fun x hx=>by
        have hne:x≠a:=fun e=>hn.1 (e ▸ hx)
        exact (List.mem_erase_of_ne hne).2 (hs x (by simp [hx]))
      rw [List.length_erase_of_mem ha] at this
      have hp:=List.length_pos_of_mem ha
      simp only [List.length_cons];omega
  have h3:=I.us
  unfold numK
  rw [h3]
  omega
theorem numK_eq {xs ys:List Int} (hl:xs.length=ys.length) (h:∀ i j,i<xs.length→j<xs.length→(xs.getD i 0=xs.getD j 0↔ys.getD i 0=ys.getD j 0)):numK xs=numK ys:=by
  have T:=numK_tid xs
  have T':=numK_tid ys
  have e1:=numK_len (xs:=xs)
  have e2:=numK_len (xs:=ys)
  refine div_uniq _ _ T.dv T'.dv (by omega) fun i j hi hj=>?_
  rw [T.eq i j (by omega) (by omega),T'.eq i j (by omega) (by omega),h i j (by omega) (by omega)]
def kerA (n:Int) (next:List (List Int)) (w:List Int):List Int:=numK (actA n next w)
theorem actA_len {n:Int} {next:List (List Int)} {w:List Int}:(actA n next w).length=n.toNat:=by simp [actA]
theorem actA_get {n:Int} {next:List (List Int)} {w:List Int} {s:Nat} (h:s<n.toNat):(actA n next w).getD s 0=atA next (s:Int) w:=by
  unfold actA
  rw [List.getD_eq_getElem?_getD,List.getElem?_map,List.getElem?_range h];rfl
theorem kerA_len {n:Int} {next:List (List Int)} {w:List Int}:(kerA n next w).length=n.toNat:=by unfold kerA;rw [numK_len,actA_len]
theorem kerA_eq {n:Int} {next:List (List Int)} {w:List Int} {s t:Nat} (hs:s<n.toNat) (ht:t<n.toNat):(kerA n next w).getD s 0=(kerA n next w).getD t 0↔atA next (s:Int) w=atA next (t:Int) w:=by
  have T:=numK_tid (actA n next w)
  have e1:=numK_len (xs:=actA n next w)
  rw [actA_len] at e1
  unfold kerA
  rw [T.eq s t (by omega) (by omega),actA_get hs,actA_get ht]
theorem nodup_leI {l:List Int} (h:l.Nodup):∀ (m:List Int),(∀ x∈l,x∈m)→l.length≤m.length:=by
  induction l with
  | nil=>intro m _;simp
  | cons a l ih =>
    intro m hm
    rw [List.nodup_cons] at h
    have ha:=hm a (by simp)
    have:=ih h.2 (m.erase a) fun x hx=>by
      have hne:x≠a:=fun e=>h.1 (e ▸ hx)
      exact (List.mem_erase_of_ne hne).2 (hm x (by simp [hx]))
    rw [List.length_erase_of_mem ha] at this
    have hp:=List.length_pos_of_mem ha
    simp only [List.length_cons];omega
theorem kerA_cls {n:Int} {next:List (List Int)} (A:Aut n next) {w:List Int} (hw:IsW next.length w):usedS 0 (kerA n next w)=(cntN (imN next (2 ^ n.toNat - 1) w):Int):=by
  obtain ⟨K,h1,h2,h3⟩:=numK_cls (actA n next w)
  unfold kerA
  rw [h3]
  have hb:=img_bits A hw
  unfold cntN
  rw [← hb]
  have hmem:∀ x,x∈K↔x∈nrm ((allS n).map fun s=>atA next s w):=fun x=>by
    rw [h2,nrm_mem]
    unfold actA allS
    rw [List.map_map];rfl
  have hnd:(nrm ((allS n).map fun s=>atA next s w)).Nodup:=by
    have:=nrm_SI ((allS n).map fun s=>atA next s w)
    unfold SI at this
    exact this.imp fun h=>Int.ne_of_lt h
  have l1:=nodup_leI h1 _ fun x hx=>(hmem x).1 hx
  have l2:=nodup_leI hnd _ fun x hx=>(hmem x).2 hx
  omega
theorem k_KernelOf (n:Int) (next:List (List Int)) (A:Aut n next) (w:List Int) (hw:IsW next.length w) (hl:w.length≤400):TupI Tryz.prog nz15 [autA n next,.ro none 1 (ints w)] (fun xs=>xs=kerA n next w):=by
  refine con_of mixed cziy rfl (by simp) ?_
  have e00:((0:Int) != 0)=false:=rfl
  have n1:=A.n1
  have n2:=A.n2
  have hal:=actA_len (n:=n) (next:=next) (w:=w)
  generalize hQ:finQ _=Q
  simp only [Az4v,Bzaj,go_sem,yz0,xx9,xx8,xx6,xx7,xx5,xx0,xx1,xx2,reduceIte,xx3,xx4,reduceCtorEq]
  intro vs vs2
  refine call_tupI (k_ActionOf n next w A hw hl) qCS qWS ⟨_,rfl⟩ ?_
  rintro xs v rfl
  simp only [Bzai,Bzag,Bzah,e00,go_sem,yz0,xx9,xx8,xx6,xx7,xx5,xx0,xx1,xx2,reduceIte,xx3,xx4,reduceCtorEq]
  intro vs3
  refine call_rowI (k_numbered (actA n next w) (by omega)) qCS qWS ⟨_,rfl⟩ ?_
  rintro ys u rfl
  simp only [go_sem,yz0,xx9,xx8,xx6,xx7,xx5,xx0,xx1,xx2,reduceIte,xx3,xx4,reduceCtorEq]
  rw [← hQ]
  simp only [Az4v,Nat.not_lt_zero,range1,yzv,yz13,yz1e,yz1c,yz12,yz1d,yz1f,yz1b,yz11,yzo,yzf,yz5,yzr,yzp,yzn,yzm,yzt,yzc,yzb,yzd,yza,yzg,yzh,yz3,yz7,yz8,yz9,yzk,yzj,List.range_zero,yz6,yz4,yze,yzs,yzl,yzq,AVal.fresh,freshL,yz1,yzi,AObj.fresh,id,Option.isSome_some,or_true,true_or,go_sem,yz0,xx9,xx8,xx6,xx7,xx5,xx0,xx1,xx2,reduceIte,xx3,xx4,reduceCtorEq]
  refine ⟨[18],by simp,by simp,by simp,?_,ints (kerA n next w),u,⟨_,rfl,rfl⟩,flat_intsK,?_,?_⟩
  · intro x hx
    rw [List.mem_singleton.1 hx]
    simp only [Nat.not_lt_zero,range1,yzv,yz13,yz1e,yz1c,yz12,yz1d,yz1f,yz1b,yz11,yzo,yzf,yz5,yzr,yzp,yzn,yzm,yzt,yzc,yzb,yzd,yza,yzg,yzh,yz3,yz7,yz8,yz9,yzk,yzj,List.range_zero,yz6,yz4,yze,yzs,yzl,yzq,AVal.fresh,freshL,yz1,yzi,AObj.fresh,id,Option.isSome_some,or_true,true_or,go_sem,yz0,xx9,xx8,xx6,xx7,xx5,xx0,xx1,xx2,reduceIte,xx3,xx4,reduceCtorEq]
  · simp only [List.map_cons,List.map_nil,Nat.not_lt_zero,range1,yzv,yz13,yz1e,yz1c,yz12,yz1d,yz1f,yz1b,yz11,yzo,yzf,yz5,yzr,yzp,yzn,yzm,yzt,yzc,yzb,yzd,yza,yzg,yzh,yz3,yz7,yz8,yz9,yzk,yzj,List.range_zero,yz6,yz4,yze,yzs,yzl,yzq,AVal.fresh,freshL,yz1,yzi,AObj.fresh,id,Option.isSome_some,or_true,true_or,go_sem,yz0,xx9,xx8,xx6,xx7,xx5,xx0,xx1,xx2,reduceIte,xx3,xx4,reduceCtorEq]
    rfl
  · simp only [Nat.not_lt_zero,range1,yzv,yz13,yz1e,yz1c,yz12,yz1d,yz1f,yz1b,yz11,yzo,yzf,yz5,yzr,yzp,yzn,yzm,yzt,yzc,yzb,yzd,yza,yzg,yzh,yz3,yz7,yz8,yz9,yzk,yzj,List.range_zero,yz6,yz4,yze,yzs,yzl,yzq,AVal.fresh,freshL,yz1,yzi,AObj.fresh,id,Option.isSome_some,or_true,true_or,go_sem,yz0,xx9,xx8,xx6,xx7,xx5,xx0,xx1,xx2,reduceIte,xx3,xx4,reduceCtorEq]
def leastI (T:TS) (r:Nat):List (List Int):=(T.filter fun p=>cntN p.1 == r).map fun p=>bitsTo p.1 10
theorem leastI_take {T:TS} {r i:Nat} (h:i<T.length):leastI (T.take (i+1)) r=leastI (T.take i) r ++ (if cntN (T.getD i (0,[])).1=r then [bitsTo (T.getD i (0,[])).1 10] else []):=by
  unfold leastI
  rw [List.take_succ_eq_append_getElem h,List.filter_append,List.map_append,List.getD_eq_getElem?_getD,List.getElem?_eq_getElem h,Option.getD_some]
  congr 1
  by_cases e:cntN T[i].1=r
  · rw [if_pos e,List.filter_cons,if_pos (by simpa using e)];rfl
  · rw [if_neg e,List.filter_cons,if_neg (by simpa using e)];rfl
theorem leastI_len {T:TS} {r i:Nat}:(leastI (T.take i) r).length≤i:=by
  unfold leastI
  rw [List.length_map]
  have:=List.length_filter_le (fun p=>cntN p.1 == r) (T.take i)
  rw [List.length_take] at this;omega
theorem k_LeastImages (n:Int) (next:List (List Int)) (A:Aut n next) :
    Con Tryz.prog nz3j [] [autA n next] true fun outs rows res=>outs=[]∧∃ v yss,yss.Perm (leastI (tourT next (2 ^ n.toNat - 1)) (rankT next n))∧rows=[.row v 1 true (rwn yss)]∧res=.tup [.own 6000 v,iv 0]:=by
  refine con_sh mixed cziq rfl (by simp) ?_
  have n1:=A.n1
  have n2:=A.n2
  have hp:=Nat.two_pow_pos n.toNat
  have hN:2 ^ n.toNat≤1024:=Nat.pow_le_pow_right (n:=2) (by omega) (show n.toNat≤10 by omega)
  have hva:=k_Valid n next
  rw [autB_iff.2 A] at hva
  have hM:=maxLen_le
  have hF:2 ^ n.toNat - 1<2 ^ n.toNat:=by omega
  have hT:=(runT_ok A 1100 0 _ (TI0 (m:=next.length) hF)).1
  have hrk:=k_rank n next A
  obtain ⟨p0,hp0,he0⟩:=(leastT_word A hF).2
  have he0:rankT next n=cntN p0.1:=he0
  generalize rankT next n=r at hrk he0 ⊢
  generalize hQ:finQ _=Q
  simp only [Az4h,Bz91,go_sem,yz0,xx9,xx8,xx6,xx7,xx5,xx0,xx1,xx2,reduceIte,xx3,xx4,reduceCtorEq]
  intro vs vs2
  refine yzy hva qCS trivial ?_
  simp only [Bz8t,Bz90,Bool.not_true,go_sem,yz0,xx9,xx8,xx6,xx7,xx5,xx0,xx1,xx2,reduceIte,xx3,xx4,reduceCtorEq]
  intro vs3
  refine yzy hrk qCS trivial ?_
  simp only [Bz8z,go_sem,yz0,xx9,xx8,xx6,xx7,xx5,xx0,xx1,xx2,reduceIte,xx3,xx4,reduceCtorEq]
  intro vs4
  refine call_rowI (k_all n next A) qCS rfl ⟨_,rfl⟩ ?_
  rintro xs v rfl
  simp only [go_sem,yz0,xx9,xx8,xx6,xx7,xx5,xx0,xx1,xx2,reduceIte,xx3,xx4,reduceCtorEq]
  refine yzy (k_flockOf (allS n) (fun s hs=>by have:=allS_in s hs;omega)) qCS trivial ?_
  rw [maskN_all ⟨n1,n2⟩]
  simp only [go_sem,yz0,xx9,xx8,xx6,xx7,xx5,xx0,xx1,xx2,reduceIte,xx3,xx4,reduceCtorEq]
  refine call_fn (k_tour n next A (2 ^ n.toNat - 1) (by omega)) qCS (fun _=>⟨_,_,0,0,rfl,rfl⟩) ?_
  rintro rows res ⟨v1,v2,rfl,rfl⟩
  refine ⟨by simp,by rw [Option.getD_some,yzq];simp only [go_sem,yz0,xx9,xx8,xx6,xx7,xx5,xx0,xx1,xx2,reduceIte,xx3,xx4,reduceCtorEq],?_⟩
  simp only [Option.getD_some,Bz8w,Nat.not_lt_zero,range1,yzv,yz13,yz1e,yz1c,yz12,yz1d,yz1f,yz1b,yz11,yzo,yzf,yz5,yzr,yzp,yzn,yzm,yzt,yzc,yzb,yzd,yza,yzg,yzh,yz3,yz7,yz8,yz9,yzk,yzj,List.range_zero,yz6,yz4,yze,yzs,yzl,yzq,AVal.fresh,freshL,yz1,yzi,AObj.fresh,id,Option.isSome_some,or_true,true_or,go_sem,yz0,xx9,xx8,xx6,xx7,xx5,xx0,xx1,xx2,reduceIte,xx3,xx4,reduceCtorEq]
  have hTl:=hT.len
  have hrg:=hT.rg
  change TI n.toNat next.length (tourT next (2 ^ n.toNat - 1)) at hT
  have hTl:(tourT next (2 ^ n.toNat - 1)).length≤1024:=Nat.le_trans hTl hN
  have hne:leastI (tourT next (2 ^ n.toNat - 1)) r≠[]:=by
    have:bitsTo p0.1 10∈leastI (tourT next (2 ^ n.toNat - 1)) r:=by
      unfold leastI
      exact List.mem_map_of_mem (f:=fun p:Nat×List Int=>bitsTo p.1 10) (List.mem_filter.2 ⟨hp0,by simpa using he0.symm⟩)
    exact List.ne_nil_of_mem this
  have hrg:∀ p∈tourT next (2 ^ n.toNat - 1),p.1<1024:=fun p hp=>Nat.lt_of_lt_of_le (hrg p hp) hN
  generalize tourT next (2 ^ n.toNat - 1)=T at hT hTl hrg hQ hne ⊢
  refine wpD_lo (fun (_,i)=>T.length - i) (fun (_,i)=>i≤T.length)
    (fun ((v,i):Nat×Nat)=>⟨L .any [(4,iv r),(5,.own 13 v),(19,.own 18 (vs4 4 v1)),(20,iv T.length),(21,iv i)],
      L .gone [(1,.box (vs 0 0) [iv n,.ro none 1 (rwn next)]),(13,.row v 1 true (rws (leastI (T.take i) r))),(18,.row (vs4 4 v1) 1 true (intsK .u64 (setsI T))),(1018,.map (vs4 4 v2) (keysF T) (rws (T.map fun x=>x.2)))]⟩)
    (_,0) (Nat.zero_le _) (by simp only [Bz1t,List.take_zero,leastI,List.filter_nil,List.map_nil,yz14,go_sem,yz0,xx9,xx8,xx6,xx7,xx5,xx0,xx1,xx2,reduceIte,xx3,xx4,reduceCtorEq];try rfl) ?_
  rintro ⟨v,i⟩ hi
  have hi:i≤T.length:=hi
  by_cases hlt:(i:Int)<T.length
  · have hlt1:i<T.length:=by omega
    have hls:i<(setsI T).length:=by simpa using hlt1
    have wi:IntKind.i64.wrap ((i:Int)+1)=((i+1:Nat):Int):=by rw [w64 (by omega)];simp
    have hsg:=setsI_getD hlt1
    have hmem:=yzz hlt1 ((0:Nat),([]:List Int))
    have hp1:=hrg _ hmem
    have htk:=leastI_take (r:=r) hlt1
    have hll:=leastI_len (T:=T) (r:=r) (i:=i)
    simp only [Bz1t,Bz4g,Bz8v,yz10 hls,hsg,decide_eq_true hlt,yz14,go_sem,yz0,xx9,xx8,xx6,xx7,xx5,xx0,xx1,xx2,reduceIte,xx3,xx4,reduceCtorEq]
    refine ⟨⟨by omega,hlt1⟩,hlt1,?_⟩
    simp only [Bz8u,yz14,go_sem,yz0,xx9,xx8,xx6,xx7,xx5,xx0,xx1,xx2,reduceIte,xx3,xx4,reduceCtorEq]
    intro vs5
    refine yzy (k_count (T.getD i (0,[])).1 hp1) qCS trivial ?_
    by_cases hc:cntN (T.getD i (0,[])).1=r
    · have hce:(((cntN (T.getD i (0,[])).1:Nat):Int) == (r:Int))=true:=by rw [hc];exact beq_self_eq_true _
      rw [if_pos hc] at htk
      simp only [Bz4e,hce,yz14,go_sem,yz0,xx9,xx8,xx6,xx7,xx5,xx0,xx1,xx2,reduceIte,xx3,xx4,reduceCtorEq]
      intro vs6
      refine call_rowI (k_flock_set (T.getD i (0,[])).1 hp1) qCS qGN ⟨_,rfl⟩ ?_
      rintro ys u rfl
      simp only [Bz4f,wi,yz14,go_sem,yz0,xx9,xx8,xx6,xx7,xx5,xx0,xx1,xx2,reduceIte,xx3,xx4,reduceCtorEq]
      exact ⟨by omega,(vs6 4 0,i+1),by dsimp only;omega,by dsimp only;omega,by dsimp only;rw [htk]⟩
    · have hce:(((cntN (T.getD i (0,[])).1:Nat):Int) == (r:Int))=false:=by rw [beq_eq_false_iff_ne];omega
      rw [if_neg hc,List.append_nil] at htk
      simp only [Bz4e,Bz4f,hce,wi,yz14,go_sem,yz0,xx9,xx8,xx6,xx7,xx5,xx0,xx1,xx2,reduceIte,xx3,xx4,reduceCtorEq]
      exact ⟨(v,i+1),by dsimp only;omega,by dsimp only;omega,by dsimp only;rw [htk]⟩
  · obtain rfl:i=T.length:=by omega
    have hll:=leastI_len (T:=T) (r:=r) (i:=T.length)
    rw [List.take_length] at hll
    simp only [Bz1t,Bz4g,Bz8y,decide_eq_false hlt,List.take_length,yz14,go_sem,yz0,xx9,xx8,xx6,xx7,xx5,xx0,xx1,xx2,reduceIte,xx3,xx4,reduceCtorEq]
    intro vs5
    have hS:=k_SortRows (leastI T r) hne (by omega) none nze (enters_of Tryz.func30 (by decide) rfl) cmpL swoL (fun xs ys _ _=>k_CompareL xs ys)
    refine call_row1C hS rfl ?_ qCS ?_
    · show CoeL _ _ _ (rwn (leastI T r)) _
      rw [coeL_rws];trivial
    · rintro outs rows res ⟨yss,h1,h2,rfl,rfl,rfl⟩
      refine ⟨rfl,_,rfl,?_⟩
      have er:yss.map (fun xs=>AVal.ro none 1 (ints xs))=rwn yss:=rfl
      have e0:=sv_0 (hp:=L AObj.gone [(13,AObj.row v 1 true (rws (leastI T r))),(5000,AObj.row 0 1 true (rwn next))]) (r:=13) (v:=v) (s:=vs5 1) rfl
      simp only [e0,er,Bz8x,yzp,dnL_rwn,yz14,Nat.not_lt_zero,range1,yzv,yz13,yz1e,yz1c,yz12,yz1d,yz1f,yz1b,yz11,yzo,yzf,yz5,yzr,yzp,yzn,yzm,yzt,yzc,yzb,yzd,yza,yzg,yzh,yz3,yz7,yz8,yz9,yzk,yzj,List.range_zero,yz6,yz4,yze,yzs,yzl,yzq,AVal.fresh,freshL,yz1,yzi,AObj.fresh,id,Option.isSome_some,or_true,true_or,go_sem,yz0,xx9,xx8,xx6,xx7,xx5,xx0,xx1,xx2,reduceIte,xx3,xx4,reduceCtorEq]
      rw [← hQ]
      simp only [Az4h,Nat.not_lt_zero,range1,yzv,yz13,yz1e,yz1c,yz12,yz1d,yz1f,yz1b,yz11,yzo,yzf,yz5,yzr,yzp,yzn,yzm,yzt,yzc,yzb,yzd,yza,yzg,yzh,yz3,yz7,yz8,yz9,yzk,yzj,List.range_zero,yz6,yz4,yze,yzs,yzl,yzq,AVal.fresh,freshL,yz1,yzi,AObj.fresh,id,Option.isSome_some,or_true,true_or,go_sem,yz0,xx9,xx8,xx6,xx7,xx5,xx0,xx1,xx2,reduceIte,xx3,xx4,reduceCtorEq]
      refine ⟨[13],by simp,by simp,by simp,v,yss,h1,?_⟩
      simp only [List.map_cons,List.map_nil,Nat.not_lt_zero,range1,yzv,yz13,yz1e,yz1c,yz12,yz1d,yz1f,yz1b,yz11,yzo,yzf,yz5,yzr,yzp,yzn,yzm,yzt,yzc,yzb,yzd,yza,yzg,yzh,yz3,yz7,yz8,yz9,yzk,yzj,List.range_zero,yz6,yz4,yze,yzs,yzl,yzq,AVal.fresh,freshL,yz1,yzi,AObj.fresh,id,Option.isSome_some,or_true,true_or,go_sem,yz0,xx9,xx8,xx6,xx7,xx5,xx0,xx1,xx2,reduceIte,xx3,xx4,reduceCtorEq]
      try exact congrArg (fun z=>[AObj.row z 1 true (rwn yss)]) (sv_0 rfl)
end Go.Ab
namespace Go.Ab
open Go.Proofs
abbrev LL:=List (List Int)
def compA (next:LL) (row:List Int) (x:Nat):List Int:=row.map fun s=>stepA next s x
def mstep (next:LL) (i x:Nat) (st:LL×LL):LL×LL :=
  if compA next (st.1.getD i []) x∈st.1 then st else (st.1 ++ [compA next (st.1.getD i []) x],st.2 ++ [st.2.getD i [] ++ [(x:Int)]])
structure MI (n:Int) (next:LL) (st:LL×LL):Prop where
  len:st.1.length=st.2.length
  row:∀ row∈st.1,(row.length:Int)=n∧∀ x∈row,0≤x∧x<n
  word:∀ w∈st.2,w.length≤st.2.length∧IsW next.length w
theorem compA_ok {n:Int} {next:LL} (A:Aut n next) {row:List Int} (h:(row.length:Int)=n∧∀ x∈row,0≤x∧x<n) {x:Nat} (hx:x<next.length) :
    ((compA next row x).length:Int)=n∧∀ y∈compA next row x,0≤y∧y<n:=by
  refine ⟨by simp [compA,h.1],fun y hy=>?_⟩
  simp only [compA,List.mem_map] at hy
  obtain ⟨s,hs,rfl⟩:=hy
  exact (A.step (h.2 s hs) (l:=x) (by omega)).2.2
theorem MI.step {n:Int} {next:LL} (A:Aut n next) {st:LL×LL} (h:MI n next st) {i x:Nat} (hi:i<st.1.length) (hx:x<next.length):MI n next (mstep next i x st):=by
  unfold mstep
  split
  · exact h
  · have hi2:i<st.2.length:=by have:=h.len;omega
    refine ⟨by simp [h.len],fun row hr=>?_,fun w hw=>?_⟩
    · simp only [List.mem_append,List.mem_singleton] at hr
      rcases hr with hr | rfl
      · exact h.row row hr
      · exact compA_ok A (h.row _ (yzz hi [])) hx
    · simp only [List.mem_append,List.mem_singleton] at hw
      simp only [List.length_append,List.length_singleton]
      rcases hw with hw | rfl
      · have:=h.word w hw
        exact ⟨by omega,this.2⟩
      · have:=h.word _ (yzz hi2 [])
        refine ⟨by simp only [List.length_append,List.length_singleton];omega,fun y hy=>?_⟩
        simp only [List.mem_append,List.mem_singleton] at hy
        rcases hy with hy | rfl
        · exact this.2 y hy
        · omega
end Go.Ab
namespace Go.Ab
open Go.Proofs
abbrev keysV (ss:List ByteArray):List Value:=ss.map Value.string
theorem ba_beq (a b:ByteArray):(a == b)=decide (a=b):=by
  obtain ⟨a⟩:=a
  obtain ⟨b⟩:=b
  have h1:((⟨a⟩:ByteArray) == ⟨b⟩)=(a == b):=rfl
  rw [h1]
  by_cases h:a=b
  · subst h;simp
  · have:¬ (⟨a⟩:ByteArray)=⟨b⟩:=fun e=>h (by injection e)
    simp [h]
theorem fk_not {k:ByteArray}:∀ {ss:List ByteArray} {i:Nat},k ∉ ss→findKeyAt (.string k) (keysV ss) i=some none
  | [],i,_=>rfl
  | s :: ss,i,h=>by
    simp only [List.mem_cons,not_or] at h
    have h1:(k == s)=false:=by rw [ba_beq];simpa using h.1
    simp only [List.map_cons,findKeyAt,sameKey,h1]
    exact fk_not h.2
theorem fk_mem {k:ByteArray}:∀ {ss:List ByteArray} {i:Nat},k∈ss→∃ j,findKeyAt (.string k) (keysV ss) i=some (some (i+j))∧j<ss.length
  | [],i,h=>by simp at h
  | s :: ss,i,h=>by
    by_cases h1:k=s
    · subst h1
      refine ⟨0,?_,by simp⟩
      simp [findKeyAt,sameKey,ba_beq]
    · have h2:(k == s)=false:=by rw [ba_beq];simpa using h1
      simp only [List.mem_cons,h1,false_or] at h
      obtain ⟨j,h3,h4⟩:=fk_mem (i:=i+1) h
      refine ⟨j+1,?_,by simp;omega⟩
      simp only [List.map_cons,findKeyAt,sameKey,h2]
      rw [h3]
      congr 2;omega
theorem u8wrap {n:Int} (h:0≤n∧n<256):IntKind.u8.wrap n=n:=by
  unfold IntKind.wrap
  simp [IntKind.bits,IntKind.signed]
  omega
theorem keyS_inj {xs ys:List Int} (hx:∀ x∈xs,0≤x∧x<256) (hy:∀ y∈ys,0≤y∧y<256) (h:keyS xs=keyS ys):xs=ys:=by
  have h1:(xs.map IntKind.u8.wrap).map (fun n=>UInt8.ofNat n.toNat)=(ys.map IntKind.u8.wrap).map (fun n=>UInt8.ofNat n.toNat):=by
    have:=congrArg (fun b=>b.data.toList) h
    simpa [keyS] using this
  have h2:∀ zs:List Int,(∀ z∈zs,0≤z∧z<256)→((zs.map IntKind.u8.wrap).map (fun n=>UInt8.ofNat n.toNat)).map (fun u=>(u.toNat:Int))=zs:=by
    intro zs hz
    rw [List.map_map,List.map_map]
    conv=>rhs;rw [← List.map_id zs]
    refine List.map_congr_left fun z hm=>?_
    have:=hz z hm
    simp only [Function.comp,id,u8wrap this]
    have:z.toNat<256:=by omega
    simp [UInt8.toNat_ofNat']
    omega
  rw [← h2 xs hx,← h2 ys hy,h1]
end Go.Ab
namespace Go.Ab
open Go Go.Proofs
def extK (row k:List Int):List Int:=numK (row.map fun t=>k.getD t.toNat 0)
theorem ext_ker {n:Int} {next:List (List Int)} (A:Aut n next) {w:List Int} {x:Nat} (hx:x<next.length):extK (next.getD x []) (kerA n next w)=kerA n next ((x:Int) :: w):=by
  have n1:=A.n1
  have hrow:=A.row _ (yzz hx [])
  unfold extK
  conv=>rhs;unfold kerA
  have hat:∀ s:Nat,s<n.toNat→atA next (s:Int) ((x:Int) :: w)=atA next ((next.getD x []).getD s 0) w:=fun s hs=>by
    show atA next (stepA next (s:Int) (x:Int)) w=_
    unfold stepA
    rw [Int.toNat_natCast,Int.toNat_natCast]
  have hrg:∀ s:Nat,s<n.toNat→0≤(next.getD x []).getD s 0∧(next.getD x []).getD s 0<n:=fun s hs=>hrow.2 _ (yzz (by omega) 0)
  have hg:∀ s:Nat,s<n.toNat→((next.getD x []).map fun t=>(kerA n next w).getD t.toNat 0).getD s 0=(kerA n next w).getD ((next.getD x []).getD s 0).toNat 0:=fun s hs=>by
    rw [List.getD_eq_getElem?_getD,List.getElem?_map,List.getD_eq_getElem?_getD (l:=next.getD x []),List.getElem?_eq_getElem (show s<(next.getD x []).length by omega)];rfl
  refine numK_eq (by rw [List.length_map,actA_len];omega) fun i j hi hj=>?_
  rw [List.length_map] at hi hj
  have hi':i<n.toNat:=by omega
  have hj':j<n.toNat:=by omega
  have ri:=hrg i hi'
  have rj:=hrg j hj'
  rw [hg i hi',hg j hj',actA_get hi',actA_get hj',hat i hi',hat j hj',kerA_eq (by omega) (by omega)]
  rw [show ((((next.getD x []).getD i 0).toNat:Nat):Int)=(next.getD x []).getD i 0 by omega,show ((((next.getD x []).getD j 0).toNat:Nat):Int)=(next.getD x []).getD j 0 by omega]
def allL (b:Nat):Nat→List (List Int)
  | 0=>[[]]
  | k+1=>(List.range b).flatMap fun (x:Nat)=>(allL b k).map fun l=>(x:Int) :: l
theorem allL_len {b:Nat}:∀ k,(allL b k).length=b ^ k
  | 0=>rfl
  | k+1=>by
    unfold allL
    rw [List.length_flatMap]
    have:(List.range b).map (fun (x:Nat)=>((allL b k).map fun l=>(x:Int) :: l).length)=List.replicate b (b ^ k):=by
      rw [List.eq_replicate_iff]
      refine ⟨by simp,fun y hy=>?_⟩
      obtain ⟨x,_,rfl⟩:=List.mem_map.1 hy
      rw [List.length_map,allL_len k]
    rw [this,List.sum_replicate_nat,Nat.pow_succ,Nat.mul_comm]
theorem allL_mem {b:Nat}:∀ {k:Nat} {l:List Int},l.length=k→(∀ x∈l,0≤x∧x<b)→l∈allL b k
  | 0,l,h,_=>by rw [List.eq_nil_of_length_eq_zero h];simp [allL]
  | k+1,[],h,_=>by simp at h
  | k+1,x :: l,h,hl=>by
    unfold allL
    rw [List.mem_flatMap]
    have hx:=hl x (by simp)
    refine ⟨x.toNat,List.mem_range.2 (by omega),List.mem_map.2 ⟨l,allL_mem (by simpa using h) (fun y hy=>hl y (by simp [hy])),?_⟩⟩
    rw [show ((x.toNat:Nat):Int)=x by omega]
theorem nodup_leL {l:List (List Int)} (h:l.Nodup):∀ (m:List (List Int)),(∀ x∈l,x∈m)→l.length≤m.length:=by
  induction l with
  | nil=>intro m _;simp
  | cons a l ih =>
    intro m hm
    rw [List.nodup_cons] at h
    have ha:=hm a (by simp)
    have:=ih h.2 (m.erase a) fun x hx=>by
      have hne:x≠a:=fun e=>h.1 (e ▸ hx)
      exact (List.mem_erase_of_ne hne).2 (hm x (by simp [hx]))
    rw [List.length_erase_of_mem ha] at this
    have hp:=List.length_pos_of_mem ha
    simp only [List.length_cons];omega
theorem kerA_rg {n:Int} {next:List (List Int)} {w:List Int}:∀ x∈kerA n next w,0≤x∧x<n.toNat:=by
  intro x hx
  obtain ⟨i,hi,rfl⟩:=List.getElem_of_mem hx
  unfold kerA at hi
  rw [numK_len] at hi
  have:=numK_rg hi
  rw [actA_len] at this
  unfold kerA
  rw [List.getD_eq_getElem?_getD,List.getElem?_eq_getElem (by rw [numK_len];exact hi),Option.getD_some] at this
  exact ⟨this.1,this.2.1⟩
structure KrI (n:Int) (next:List (List Int)) (Ks:List (List Int)):Prop where
  of:∀ k∈Ks,∃ w,IsW next.length w∧k=kerA n next w
  nd:Ks.Nodup
  id:kerA n next []∈Ks
theorem KrI.len {n:Int} {next:List (List Int)} {Ks:List (List Int)} (I:KrI n next Ks) (n7:n≤7):Ks.length≤823543:=by
  have h:=nodup_leL I.nd (allL n.toNat n.toNat) fun k hk=>by
    obtain ⟨w,_,rfl⟩:=I.of k hk
    exact allL_mem kerA_len kerA_rg
  rw [allL_len] at h
  have h1:n.toNat ^ n.toNat≤7 ^ n.toNat:=Nat.pow_le_pow_left (by omega) _
  have h2:7 ^ n.toNat≤7 ^ 7:=Nat.pow_le_pow_right (by omega) (by omega)
  exact Nat.le_trans h (Nat.le_trans h1 h2)
theorem KrI.add {n:Int} {next:List (List Int)} {Ks:List (List Int)} (I:KrI n next Ks) {w:List Int} (hw:IsW next.length w) (h:kerA n next w ∉ Ks):KrI n next (Ks ++ [kerA n next w]):=by
  refine ⟨fun k hk=>?_,List.nodup_append.2 ⟨I.nd,by simp,fun x hx y hy=>?_⟩,List.mem_append_left _ I.id⟩
  · rcases List.mem_append.1 hk with hk | hk
    · exact I.of k hk
    · exact ⟨w,hw,by simpa using hk⟩
  · rw [List.mem_singleton.1 hy];exact fun e=>h (e ▸ hx)
theorem KrI.all {n:Int} {next:List (List Int)} (A:Aut n next) {Ks:List (List Int)} (I:KrI n next Ks) (h:∀ j<Ks.length,∀ x<next.length,extK (next.getD x []) (Ks.getD j [])∈Ks):∀ w:List Int,IsW next.length w→kerA n next w∈Ks
  | [],_=>I.id
  | x :: w,hw=>by
    have hx:=hw x (by simp)
    have ih:=I.all A h w fun y hy=>hw y (by simp [hy])
    obtain ⟨j,hj,e⟩:=List.getElem_of_mem ih
    have:=h j hj x.toNat (by omega)
    rw [show Ks.getD j []=Ks[j] by rw [List.getD_eq_getElem?_getD,List.getElem?_eq_getElem hj];rfl,e,ext_ker A (by omega),show ((x.toNat:Nat):Int)=x by omega] at this
    exact this
theorem key_mem {n:Int} {next:List (List Int)} {Ks:List (List Int)} (I:KrI n next Ks) (n7:n≤7) {w:List Int} (h:keyS (kerA n next w)∈Ks.map keyS):kerA n next w∈Ks:=by
  obtain ⟨k,hk,e⟩:=List.mem_map.1 h
  obtain ⟨u,_,rfl⟩:=I.of k hk
  have:=keyS_inj (fun x hx=>by have:=kerA_rg (n:=n) (next:=next) (w:=u) x hx;omega) (fun x hx=>by have:=kerA_rg (n:=n) (next:=next) (w:=w) x hx;omega) e
  rw [← this];exact hk
end Go.Ab
namespace Go.Ab
open Go Go.Sort
structure LV (w W:World) (g off:Nat) (cells:Array Value) (t:TypeId) (D:List Value):Prop where
  os:W.os=w.os
  tape:W.tape=w.tape
  output:W.output=w.output
  drawn:w.drawn≤W.drawn
  size:w.heap.size≤W.heap.size
  ne:∀ b,b<w.heap.size→b≠g→W.heap[b]?=w.heap[b]?
  at_:W.heap[g]?=some (.cells (putCells (fun v:Value=>v) off D.toArray cells) t (0,0))
  was:w.heap[g]?=some (.cells cells t (0,0))
variable {w W:World} {g off:Nat} {cells:Array Value} {t:TypeId} {D:List Value}
theorem LV.left (h:LV w W g off cells t D):LeftV w W g off D:=by
  refine ⟨W.drawn - w.drawn,W.heap.extract w.heap.size W.heap.size,?_⟩
  have hg:=yzx h.was
  have hh:W.heap=w.heap.modify g (onCells (putCells (fun v:Value=>v) off D.toArray)) ++ W.heap.extract w.heap.size W.heap.size:=by
    have hs:=h.size
    apply Array.ext_getElem?
    intro i
    by_cases hi:i<w.heap.size
    · rw [Array.getElem?_append_left (by rw [Array.size_modify];exact hi),Array.getElem?_modify]
      by_cases e:g=i
      · subst e;rw [if_pos rfl,h.at_,h.was];rfl
      · rw [if_neg e];exact h.ne i hi (Ne.symm e)
    · rw [Array.getElem?_append_right (by rw [Array.size_modify];omega),Array.getElem?_extract,Array.size_modify]
      split
      · congr 1;omega
      · rw [Array.getElem?_eq_none (by omega)]
  show W={ heap:=w.heap.modify g (onCells (putCells (fun v:Value=>v) off D.toArray)) ++ W.heap.extract w.heap.size W.heap.size,tape:=w.tape,drawn:=w.drawn+(W.drawn - w.drawn),os:=w.os,output:=w.output }
  rw [← hh,← h.tape,← h.os,← h.output,Nat.add_sub_cancel' h.drawn]
theorem putCells_same {L:List Value} (he:(cells.toList.drop off).take L.length=L) (hfit:off+L.length≤cells.size):putCells (fun v:Value=>v) off L.toArray cells=cells:=by
  apply Array.ext
  · simp [putCells]
  intro i h1 h2
  simp only [putCells,Array.getElem_mapIdx,List.size_toArray]
  split
  · rename_i h
    have h3:i - off<L.length:=by omega
    rw [getElem!_pos _ _ (by simpa using h3)]
    have:L[i - off]?=cells[i]?:=by
      conv=>lhs;rw [← he]
      rw [List.getElem?_take,if_pos h3,List.getElem?_drop,Array.getElem?_toList]
      congr 1;omega
    rw [List.getElem?_eq_getElem h3,Array.getElem?_eq_getElem h2] at this
    simpa using this
  · rfl
theorem LV.refl {L:List Value} (hw:w.heap[g]?=some (.cells cells t (0,0))) (he:(cells.toList.drop off).take L.length=L) (hfit:off+L.length≤cells.size):LV w w g off cells t L :=
  ⟨rfl,rfl,rfl,Nat.le_refl _,Nat.le_refl _,fun _ _ _=>rfl,by rw [putCells_same he hfit];exact hw,hw⟩
theorem LV.cell (h:LV w W g off cells t D) (hfit:off+D.length≤cells.size) {j:Nat} (hj:j<D.length):W.cell? ⟨g,off+j,none⟩=some D[j]∧W.frozen? ⟨g,off+j,none⟩=false:=by
  refine ⟨?_,?_⟩
  · rw [cell_of_row W g (off+j) _ t (0,0) h.at_]
    have h1:off+j<cells.size:=by omega
    simp only [putCells,Array.getElem?_mapIdx,Array.getElem?_eq_getElem h1,Option.map_some,List.size_toArray]
    rw [if_pos (by omega),Nat.add_sub_cancel_left,getElem!_pos _ j (by simpa using hj)]
    simp
  · unfold World.frozen?
    simp [h.at_]
theorem LV.set (h:LV w W g off cells t D) {j:Nat} (hj:j<D.length) (v:Value):LV w (W.setCell ⟨g,off+j,none⟩ v) g off cells t (D.set j v):=by
  rw [setCell_eq]
  refine ⟨h.os,h.tape,h.output,h.drawn,?_,fun b hb hne=>?_,?_,h.was⟩
  · show w.heap.size≤(W.heap.modify g _).size
    rw [Array.size_modify];exact h.size
  · show (W.heap.modify g _)[b]?=_
    rw [Array.getElem?_modify,if_neg (Ne.symm hne)];exact h.ne b hb hne
  · show (W.heap.modify g _)[g]?=_
    rw [Array.getElem?_modify,if_pos rfl,h.at_]
    show some (Obj.cells _ t (0,0))=_
    congr 2
    apply Array.ext_getElem?
    intro i
    rw [Array.getElem?_setIfInBounds]
    have hfit:(putCells (fun v:Value=>v) off D.toArray cells).size=cells.size:=by simp [putCells]
    by_cases e:off+j=i
    · subst e
      rw [if_pos rfl,hfit]
      by_cases hc:off+j<cells.size
      · rw [if_pos hc]
        simp only [putCells,Array.getElem?_mapIdx,Array.getElem?_eq_getElem hc,Option.map_some,List.size_toArray,List.length_set]
        rw [if_pos (by omega),Nat.add_sub_cancel_left,getElem!_pos _ j (by simpa using hj)]
        simp
      · rw [if_neg hc]
        simp only [putCells,Array.getElem?_mapIdx,Array.getElem?_eq_none (Nat.le_of_not_lt hc),Option.map_none]
    · rw [if_neg e]
      simp only [putCells,Array.getElem?_mapIdx,List.size_toArray,List.length_set]
      cases cells[i]? with
      | none=>rfl
      | some y =>
        simp only [Option.map_some]
        by_cases c:off≤i∧i<off+D.length
        · rw [if_pos c,if_pos c,getElem!_pos _ (i - off) (by simp;omega),getElem!_pos _ (i - off) (by simp;omega)]
          have:¬ j=i - off:=by omega
          simp [List.getElem_set,this]
        · rw [if_neg c,if_neg c]
theorem LV.clear (z:Value):∀ (k:Nat) {W:World} {D:List Value} {j:Nat},LV w W g off cells t D→j+k≤D.length→LV w (W.setCells g (off+j) (List.replicate k z)) g off cells t (D.take j ++ List.replicate k z ++ D.drop (j+k))
  | 0,W,D,j,h,_=>by
    show LV w W g off cells t _
    simpa using h
  | k+1,W,D,j,h,hk=>by
    have h1:=(h.set (j:=j) (by omega) z).clear z k (j:=j+1) (by rw [List.length_set];omega)
    have e:(D.set j z).take (j+1) ++ List.replicate k z ++ (D.set j z).drop (j+1+k)=D.take j ++ List.replicate (k+1) z ++ D.drop (j+(k+1)):=by
      have hj:j<D.length:=by omega
      apply List.ext_getElem?
      intro i
      have l1:((D.set j z).take (j+1)).length=j+1:=by rw [List.length_take,List.length_set];omega
      have l2:(D.take j).length=j:=by rw [List.length_take];omega
      by_cases h1:i<j
      · rw [List.append_assoc,List.append_assoc,List.getElem?_append_left (by omega),List.getElem?_append_left (by omega),List.getElem?_take,List.getElem?_take,if_pos (by omega),if_pos h1,List.getElem?_set_ne (by omega)]
      · by_cases h2:i=j
        · subst h2
          rw [List.append_assoc,List.getElem?_append_left (by omega),List.getElem?_take,if_pos (by omega),List.getElem?_set_self hj,List.append_assoc,List.getElem?_append_right (by omega),l2,Nat.sub_self,List.getElem?_append_left (by simp)]
          simp
        · by_cases h3:i<j+(k+1)
          · rw [List.append_assoc,List.append_assoc,List.getElem?_append_right (by omega),l1,List.getElem?_append_left (by simp;omega),List.getElem?_append_right (by omega),l2,List.getElem?_append_left (by simp;omega),List.getElem?_replicate,List.getElem?_replicate,if_pos (by omega),if_pos (by omega)]
          · rw [List.append_assoc,List.append_assoc,List.getElem?_append_right (by omega),l1,List.getElem?_append_right (by simp;omega),List.getElem?_append_right (by omega),l2,List.getElem?_append_right (by simp;omega),List.length_replicate,List.length_replicate,List.getElem?_drop,List.getElem?_drop,List.getElem?_set_ne (by omega)]
            congr 1;omega
    rw [e] at h1
    exact h1
theorem LV.grow (h:LV w W g off cells t D) (q:Nat) (os':Array Obj):LV w (Sort.grow (W.drewN q) os') g off cells t D:=by
  have hg:=yzx h.at_
  refine ⟨h.os,h.tape,h.output,?_,?_,fun b hb hne=>?_,?_,h.was⟩
  · show w.drawn≤W.drawn+q
    have:=h.drawn;omega
  · show w.heap.size≤(W.heap ++ os').size
    rw [Array.size_append];have:=h.size;omega
  · show (W.heap ++ os')[b]?=_
    rw [Array.getElem?_append_left (by have:=h.size;omega)];exact h.ne b hb hne
  · show (W.heap ++ os')[g]?=_
    rw [Array.getElem?_append_left hg];exact h.at_
end Go.Ab
namespace Go.Ab
open Go Go.Proofs Go.Sort Go.Lib Go.Shelf
def withC (Ks:List (List Int)) (r:Int):List (List Int):=Ks.filter fun k=>usedS 0 k == r
theorem used_or:∀ (cs:List Int) (u:Int),usedS u cs=u∨usedS u cs - 1∈cs
  | [],_=>.inl rfl
  | c :: cs,u=>by
    simp only [usedS]
    rcases used_or cs (max u (c+1)) with h | h
    · rw [h]
      by_cases e:u≤c+1
      · right;rw [Int.max_eq_right e,Int.add_sub_cancel];simp
      · left;exact Int.max_eq_left (by omega)
    · right;exact List.mem_cons_of_mem _ h
theorem k_LK1 (xs:List Int) (r:Int) (hn:xs≠[]) (hl:xs.length≤1000) (hd:divS 0 xs=true) (hu:usedS 0 xs≤1001):Fun Tryz.prog nz3 [.ro none 1 (ints xs),.rp [iv r] 0] (bv (usedS 0 xs != r)):=by
  have hmem:usedS 0 xs - 1∈xs:=by
    rcases used_or xs 0 with h | h
    · cases xs with
      | nil=>exact absurd rfl hn
      | cons c cs =>
        have:=(divS_cons.1 hd).1.1
        have h2:=used_ge (cs:=cs) (u:=max 0 (c+1))
        have h3:usedS 0 (c :: cs)=usedS (max 0 (c+1)) cs:=rfl
        omega
    · exact h
  have h0:=used_ge (cs:=xs) (u:=0)
  have w1:IntKind.i64.wrap (usedS 0 xs - 1+1)=usedS 0 xs:=by rw [Int.sub_add_cancel];exact w64 (by omega)
  refine fun_of mixed czjf rfl ⟨rfl,trivial⟩ ?_
  simp only [Bzcv,Azcw,go_sem,yz0,xx9,xx8,xx6,xx7,xx5,xx0,xx1,xx2,reduceIte,xx3,xx4,reduceCtorEq]
  intro vs
  refine yzy (k_Max xs (usedS 0 xs - 1) hmem (fun x hx=>by have:=used_mem (u:=0) hx;omega) (by omega)) qCS trivial ?_
  simp only [w1,go_sem,yz0,xx9,xx8,xx6,xx7,xx5,xx0,xx1,xx2,reduceIte,xx3,xx4,reduceCtorEq]
theorem rep_start {c:Cz} {W:World} (hW:∀ b,c.imm b→b<W.heap.size∧W.heap[b]?=c.w.heap[b]?) {xs:List Int} {v:Value} (hp:Rep c (.ro none 1 (ints xs)) v):Rep (Cz.start W) (.ro none 1 (ints xs)) v:=by
  simp only [Rep] at hp ⊢
  obtain ⟨base,len,cap,h1,h2,h3,h4,_,h6⟩:=hp
  refine ⟨base,len,cap,h1,h2,h3,h4,(fun n e=>by cases e),?_⟩
  rcases h6 with h6 | ⟨b,o,e,hb,hr⟩
  · exact .inl h6
  · refine .inr ⟨b,o,e,start_imm (hW b hb).1,RepAt.of_get fun i A hA=>?_⟩
    obtain ⟨v,g1,g2⟩:=hr.get hA
    obtain ⟨z,rfl⟩:∃ z,A=.val z:=by
      have:=List.mem_of_getElem? hA
      simp only [List.mem_map] at this
      obtain ⟨y,_,rfl⟩:=this
      exact ⟨_,rfl⟩
    refine ⟨v,?_,by simpa only [Rep] using g2⟩
    rw [← g1];exact World.cell?_of_block (w:=c.w) (hW b hb).2
def keptL (b:Nat→Bool) (L:List Value) (m:Nat):List Value:=((List.range m).filter fun j=>!b j).map fun j=>L.getD j undef
theorem keptL_succ {b:Nat→Bool} {L:List Value} {m:Nat}:keptL b L (m+1)=keptL b L m ++ (if b m then [] else [L.getD m undef]):=by
  unfold keptL
  rw [List.range_succ,List.filter_append,List.map_append]
  cases h:b m with
  | true=>simp [h]
  | false=>simp [h]
structure DelI (b:Nat→Bool) (L D:List Value) (i j:Nat):Prop where
  ln:D.length=L.length
  lt:i<j
  le:(keptL b L j).length=i
  lo:D.take i=keptL b L j
  hi:∀ m,i≤m→D[m]?=L[m]?
theorem DelI.keep {b:Nat→Bool} {L D:List Value} {i j:Nat} (I:DelI b L D i j) (hj:j<L.length) (h:b j=false) {v:Value} (hv:L[j]?=some v):DelI b L (D.set i v) (i+1) (j+1):=by
  have hlt:=I.lt
  have hln:=I.ln
  have e:L.getD j undef=v:=by rw [List.getD_eq_getElem?_getD,hv];rfl
  refine ⟨by simp [hln],by omega,?_,?_,fun m hm=>?_⟩
  · rw [keptL_succ,h,if_neg (by simp),List.length_append,I.le];rfl
  · rw [keptL_succ,h,if_neg (by simp),e,← I.lo]
    have hi:i<(D.set i v).length:=by simp;omega
    rw [List.take_succ_eq_append_getElem hi,List.getElem_set_self,List.take_set_of_le (Nat.le_refl _)]
  · rw [List.getElem?_set_ne (by omega)];exact I.hi m (by omega)
theorem DelI.skip {b:Nat→Bool} {L D:List Value} {i j:Nat} (I:DelI b L D i j) (h:b j=true):DelI b L D i (j+1):=by
  refine ⟨I.ln,by have:=I.lt;omega,?_,?_,I.hi⟩
  · rw [keptL_succ,h,if_pos rfl,List.append_nil];exact I.le
  · rw [keptL_succ,h,if_pos rfl,List.append_nil];exact I.lo
theorem keptL_all {b:Nat→Bool} {L:List Value}:∀ {m:Nat},m≤L.length→(∀ j<m,b j=false)→keptL b L m=L.take m
  | 0,_,_=>by simp [keptL]
  | m+1,hm,h=>by
    have hm1:m<L.length:=by omega
    rw [keptL_succ,h m (by omega),if_neg (by simp),keptL_all (m:=m) (by omega) fun j hj=>h j (by omega),List.take_succ_eq_append_getElem hm1,List.getD_eq_getElem?_getD,List.getElem?_eq_getElem hm1];rfl
theorem DelI.start {b:Nat→Bool} {L:List Value} {k:Nat} (hk:k<L.length) (h:∀ j<k,b j=false) (hb:b k=true):DelI b L L k (k+1):=by
  have e:=keptL_all (b:=b) (L:=L) (m:=k) (by omega) h
  refine ⟨rfl,by omega,?_,?_,fun _ _=>rfl⟩
  · rw [keptL_succ,hb,if_pos rfl,List.append_nil,e,List.length_take];omega
  · rw [keptL_succ,hb,if_pos rfl,List.append_nil,e]
theorem del_raw (w:World) (g off cap:Nat) (cells:Array Value) (t:TypeId) (L:List Value) (lb:Array Value) (b:Nat→Bool)
    (hw:w.heap[g]?=some (.cells cells t (0,0))) (he:(cells.toList.drop off).take L.length=L) (hfit:off+L.length≤cells.size) (hcap:L.length≤cap) (hm:L.length≤maxLen)
    (h1:∀ v∈L,∃ a n c,v=.slice a n c) (k0:Int) (hk0:(∃ k:Nat,k<L.length∧k0=k∧b k=true∧∀ j<k,b j=false)∨(k0=-1∧∀ j<L.length,b j=false))
    (hidx:Calls Tryz.prog nzq #[.slice (some ⟨g,off,none⟩) L.length cap,.func (.func nz3) #[] lb] w fun e w'=>e=.returned (.int .i64 k0)∧LV w w' g off cells t L)
    (hcall:∀ (j:Nat) (v:Value),L[j]?=some v→∀ (W:World) (D:List Value),LV w W g off cells t D→D.length=L.length→Calls Tryz.prog nz3 (#[v] ++ lb) W fun e w'=>e=.returned (.bool (b j))∧LV w w' g off cells t D) :
    Calls Tryz.prog nz1b #[.slice (some ⟨g,off,none⟩) L.length cap,.func (.func nz3) #[] lb] w fun e w' =>
      e=.returned (.slice (some ⟨g,off,none⟩) (keptL b L L.length).length cap)∧LV w w' g off cells t (keptL b L L.length ++ List.replicate (L.length - (keptL b L L.length).length) (.slice none 0 0)):=by
  have hmm:=maxLen_le
  change Calls Tryz.prog 63 _ _ _ at hidx
  rcases hk0 with ⟨k,hk,rfl,hbk,hlow⟩ | ⟨rfl,hall⟩
  · have hne1:((k:Int) == -1)=false:=beq_eq_false_iff_ne.2 (by omega)
    go_enter Tryz.func33,Tryz.ntmps33
    go_wp2_with (go_at_call 63;refine hidx.mono ?_;rintro e w' ⟨rfl,hL⟩)
    go_loopg [5,6,7] L.length (fun gg s5 s6 _ wr=>∃ (i j:Nat) (D:List Value),s5=.int .i64 i∧s6=.int .i64 j∧j≤L.length∧L.length - j≤gg∧Aside (LV w wr g off cells t D)∧Aside (DelI b L D i j))
    case atStart=>exact ⟨k,k+1,L,rfl,by go_num,by omega,by omega,hL,DelI.start hk hlow hbk⟩
    case round =>
      obtain ⟨i,j,D,rfl,rfl,hjd,hgg,hLV,hI⟩:=hrel
      have I:=hI.out
      have V:=hLV.out
      have hij:=I.lt
      have hDl:=I.ln
      by_cases hlt:j<L.length
      · have hltz:(j:Int)<(L.length:Int):=by omega
        obtain ⟨cj,_⟩:=V.cell (by omega) (j:=j) (by omega)
        have hDj:D[j]'(by omega)=L[j]:=by
          have:=I.hi j (by omega)
          rw [List.getElem?_eq_getElem (by omega),List.getElem?_eq_getElem hlt] at this
          simpa using this
        rw [hDj] at cj
        have hLj:L[j]?=some L[j]:=List.getElem?_eq_getElem hlt
        have hone:=h1 _ (List.getElem_mem hlt)
        have hcj:=hcall j _ hLj wr D V hDl
        clear hDj
        generalize L[j]=u at cj hLj hone hcj
        obtain ⟨ua,un,uc,rfl⟩:=hone
        change Calls Tryz.prog 34 _ _ _ at hcj
        cases hq:b j with
        | false =>
          rw [hq] at hcj
          go_wp2_with (go_at_call 34;refine hcj.mono ?_;rintro e w' ⟨rfl,V2⟩;obtain ⟨ci,fi⟩:=V2.cell (by omega) (j:=i) (by omega);have V3:Aside (LV w w' g off cells t D):=V2;clear V2)
          go_roundg (L.length - (j+1))
          case measure=>omega
          case rel=>exact ⟨i+1,j+1,D.set i _,by go_num,by go_num,by omega,Nat.le_refl _,V3.out.set (by omega) _,I.keep hlt hq hLj⟩
        | true =>
          rw [hq] at hcj
          go_wp2_with (go_at_call 34;refine hcj.mono ?_;rintro e w' ⟨rfl,V2⟩;have V3:Aside (LV w w' g off cells t D):=V2;clear V2)
          go_roundg (L.length - (j+1))
          case measure=>omega
          case rel=>exact ⟨i,j+1,D,rfl,by go_num,by omega,Nat.le_refl _,V3,I.skip hq⟩
      · obtain rfl:j=L.length:=by omega
        have hltz:¬ (L.length:Int)<(L.length:Int):=by omega
        have hcl:∀ ty,(Builtin.clear_ #[24] ty #[.slice (some ⟨g,off+i,none⟩) (L.length - i) (cap - i)]).run Tryz.prog wr=.ok (.tuple #[]) (wr.setCells g (off+i) (List.replicate (L.length - i) (.slice none 0 0))) :=
          fun ty=>Lib.run_clear_slice wr _ _ ty _ Tryz.underlying24 Tryz.zeroValue32 rfl rfl g (off+i) _ _ (by omega)
            (fun m hm=>by rw [show off+i+m=off+(i+m) by omega,(V.cell (by omega) (j:=i+m) (by omega)).1];rfl) (fun m hm=>by rw [show off+i+m=off+(i+m) by omega];exact (V.cell (by omega) (j:=i+m) (by omega)).2)
        go_wp2
        go_ret
        refine ⟨by rw [I.le];rfl,?_⟩
        have h2:=V.clear (.slice none 0 0) (L.length - i) (j:=i) (by omega)
        rw [I.lo,List.drop_eq_nil_of_le (by omega),List.append_nil] at h2
        rw [I.le]
        exact h2
  · have e0:=keptL_all (b:=b) (L:=L) (m:=L.length) (Nat.le_refl _) hall
    rw [List.take_length] at e0
    rw [e0]
    go_enter Tryz.func33,Tryz.ntmps33
    go_wp2_with (go_at_call 63;refine hidx.mono ?_;rintro e w' ⟨rfl,hL⟩)
    go_ret
    exact ⟨rfl,by simpa using hL⟩
theorem fidx_or {α:Type} {p:α→Bool}:∀ {xs:List α} (i:Nat),(∃ k:Nat,∃ h:k<xs.length,fidx p xs i=((i+k:Nat):Int)∧p xs[k]=true∧∀ j (hj:j<k),p (xs[j]'(by omega))=false)∨(fidx p xs i=-1∧∀ j (hj:j<xs.length),p xs[j]=false)
  | [],i=>.inr ⟨rfl,fun j hj=>by simp at hj⟩
  | x :: xs,i=>by
    unfold fidx
    cases h:p x with
    | true=>exact .inl ⟨0,by simp,by simp,h,fun j hj=>by omega⟩
    | false =>
      rcases fidx_or (p:=p) (xs:=xs) (i+1) with ⟨k,hk,h1,h2,h3⟩ | ⟨h1,h2⟩
      · refine .inl ⟨k+1,by simpa using hk,?_,by simpa using h2,fun j hj=>?_⟩
        · rw [if_neg (by simp),h1];congr 1;omega
        · cases j with
          | zero=>exact h
          | succ j=>simpa using h3 j (by omega)
      · refine .inr ⟨by rw [if_neg (by simp),h1],fun j hj=>?_⟩
        cases j with
        | zero=>exact h
        | succ j=>simpa using h2 j (by simpa using hj)
theorem repL_nils {c:Cz}:∀ k:Nat,RepL c (List.replicate k (.val (.slice none 0 0))) (List.replicate k (.slice none 0 0))
  | 0=>by simp [RepL]
  | k+1=>by
    simp only [List.replicate_succ,RepL,Rep,true_and]
    exact repL_nils k
theorem repL_kept {c:Cz} {zs:List (List Int)} {L:List Value} {r:Int} (h:RepL c (rwn zs) L):∀ m,m≤zs.length→RepL c (rwn (withC (zs.take m) r)) (keptL (fun j=>usedS 0 (zs.getD j []) != r) L m)
  | 0,_=>by simp [withC,keptL,rwn,RepL]
  | m+1,hm=>by
    have hm1:m<zs.length:=by omega
    have ih:=repL_kept (r:=r) h m (by omega)
    obtain ⟨v,hv,hr⟩:=h.get (i:=m) (A:=.ro none 1 (ints (zs.getD m []))) (by unfold rwn;rw [List.getElem?_map,List.getElem?_eq_getElem hm1,List.getD_eq_getElem?_getD,List.getElem?_eq_getElem hm1];rfl)
    have e1:L.getD m undef=v:=by rw [List.getD_eq_getElem?_getD,hv];rfl
    have e2:zs.getD m []=zs[m]:=by rw [List.getD_eq_getElem?_getD,List.getElem?_eq_getElem hm1];rfl
    have e3:withC (zs.take (m+1)) r=withC (zs.take m) r ++ (if usedS 0 (zs.getD m []) != r then [] else [zs.getD m []]):=by
      unfold withC
      rw [List.take_succ_eq_append_getElem hm1,List.filter_append,e2]
      congr 1
      cases hq:(usedS 0 zs[m] == r) with
      | true=>simp [hq,bne]
      | false=>simp [hq,bne]
    rw [keptL_succ,e3]
    cases hq:(usedS 0 (zs.getD m []) != r) with
    | true=>simpa [rwn] using ih
    | false =>
      rw [if_neg (by simp),if_neg (by simp),e1]
      have:rwn (withC (zs.take m) r ++ [zs.getD m []])=rwn (withC (zs.take m) r) ++ [.ro none 1 (ints (zs.getD m []))]:=by simp [rwn]
      rw [this]
      exact RepL.append ih (by simp only [RepL,and_true];exact hr)
theorem k_DelRows (zs:List (List Int)) (hz:zs≠[]) (hd:∀ z∈zs,divS 0 z=true∧z≠[]∧z.length≤1000) (hu:∀ z∈zs,usedS 0 z≤1001) (r:Int):Con Tryz.prog nz1b [.row 0 1 true (rwn zs),.box 1 [iv r]] [.own 5000 0,.clo nz3 [.ptr 5001 1 0]] true
    fun outs rows res=>∃ v,outs=[.row v 1 true (rwn (withC zs r)),.box 1 [iv r]]∧rows=[]∧res=.own 5000 v:=by
  refine ⟨x_slices_DeleteFunc_LLI,fun c0 outsB vs G hhp hrep=>?_⟩
  have hr:c0.hp 5000=.row 0 1 true (rwn zs):=by rw [hhp];rfl
  have hb:c0.hp 5001=.box 1 [iv r]:=by rw [hhp];rfl
  have hne:∀ x,x≠5000→x≠5001→c0.hp x=.gone:=by
    intro x h h'
    rw [hhp]
    by_cases hg:outHp [.row 0 1 true (rwn zs),.box 1 [iv r]] [] x=.gone
    · exact hg
    · rcases outHp_live hg with ⟨j,rfl,_,hj,_⟩ | ⟨i,_,_,hi,_⟩
      · match j,hj with
        | 0,_=>exact absurd rfl h
        | 1,_=>exact absurd rfl h'
        | j+2,hj=>simp at hj;omega
      · simp at hi
  match vs,hrep with
  | [v,f],hrep =>
  simp only [RepL,Rep,and_true] at hrep
  obtain ⟨hv0,fs,rfl,hfs⟩:=hrep
  have hv:v=c0.loc 5000:=hv0.2 (by rw [hr];rfl)
  obtain ⟨fl⟩:=fs
  match fl,hfs with
  | [pv],hfs =>
  simp only [RepL,Rep,and_true] at hfs
  obtain ⟨pb,po,hpl,rfl⟩:=hfs.2 (by rw [hb];rfl)
  have hO:=G.obj 5000
  rw [hr] at hO
  obtain ⟨base,n,cap,hloc,_,hl,hnc,hcm,hnn,hcase⟩:=hO
  have hlen:zs.length=n:=by rw [rwn_len] at hl;omega
  have hB:=G.obj 5001
  rw [hb] at hB
  obtain ⟨bb,bt,bcells,hbl,hbh,hbr⟩:=hB
  rw [hbl] at hpl
  simp only [baseOf,Option.some.injEq,Addr.mk.injEq,and_true] at hpl
  obtain ⟨rfl,rfl⟩:=hpl
  have hn0:n≠0:=by rw [← hlen];exact fun e=>hz (List.eq_nil_of_length_eq_zero e)
  have hc0:cap≠0:=by omega
  rcases hcase with h | ⟨g,off,t,cells,rfl,hheap,hfit,hrepr⟩
  · exact absurd h hc0
  rw [Nat.mul_one] at hrepr hfit
  generalize hL:(cells.toList.drop off).take n=L at hrepr
  have hLn:L.length=n:=by rw [← hrepr.length,rwn_len];exact hlen
  have hbg:bb≠g:=by
    rintro rfl
    have:=G.inj 5000 5001 bb (by rw [hr];simp) (by rw [hb];simp) (by rw [hloc];simp [blockOf,hc0]) (by rw [hbl];rfl)
    omega
  have himm:∀ b,c0.imm b→b≠g:=by
    rintro b ⟨_,_,h3⟩ rfl
    exact h3 ⟨5000,by rw [hr];simp,by rw [hloc];simp [blockOf,hc0]⟩
  have hW:∀ (W:World) (D:List Value),LV c0.w W g off cells t D→∀ b,c0.imm b→b<W.heap.size∧W.heap[b]?=c0.w.heap[b]?:=fun W D V b hb=>by
    have h1:=hb.2.1
    have h2:=V.ne b h1 (himm b hb)
    exact ⟨Nat.lt_of_lt_of_le h1 V.size,h2⟩
  have hbs:=yzx hbh
  have hbc:bcells.toList=[.int .i64 r]:=by
    match hx:bcells.toList,hbr with
    | [x],hbr=>simp only [RepL,Rep,and_true] at hbr;rw [hbr]
  have hptr:∀ (W:World) (D:List Value),LV c0.w W g off cells t D→Rep (Cz.start W) (.rp [iv r] 0) (.pointer (some ⟨bb,0+0,none⟩)):=fun W D V=>by
    simp only [Rep,RepAt,and_true]
    refine ⟨bb,0,rfl,start_imm (Nat.lt_of_lt_of_le hbs V.size),.int .i64 r,?_,rfl⟩
    have h1:W.heap[bb]?=some (.cells bcells bt (0,0)):=by rw [V.ne bb hbs hbg];exact hbh
    show W.cell? ⟨bb,0,none⟩=_
    rw [cell_of_row W bb 0 _ bt (0,0) h1,← Array.getElem?_toList,hbc];rfl
  have hcall:∀ (j:Nat) (v:Value),L[j]?=some v→∀ (W:World) (D:List Value),LV c0.w W g off cells t D→D.length=L.length→Calls Tryz.prog nz3 (#[v] ++ #[.pointer (some ⟨bb,0+0,none⟩)]) W fun e w'=>e=.returned (.bool (usedS 0 (zs.getD j []) != r))∧LV c0.w w' g off cells t D:=fun j v hj W D V _=>by
    have hjl:j<zs.length:=by have:=(List.getElem?_eq_some_iff.1 hj).1;omega
    obtain ⟨v',hv',hr'⟩:=hrepr.get (i:=j) (A:=.ro none 1 (ints (zs.getD j []))) (by unfold rwn;rw [List.getElem?_map,List.getElem?_eq_getElem hjl,List.getD_eq_getElem?_getD,List.getElem?_eq_getElem hjl];rfl)
    rw [hj] at hv'
    cases hv'
    have hm:=yzz hjl ([]:List Int)
    have hz1:=hd _ hm
    refine ((k_LK1 (zs.getD j []) r hz1.2.1 hz1.2.2 hz1.1 (hu _ hm)).2 (Cz.start W) (fun _=>False) [v,.pointer (some ⟨bb,0+0,none⟩)] (start_good W) (start_outHp W) (by simp only [RepL];exact ⟨rep_start (hW W D V) hr',hptr W D V,trivial⟩)).mono ?_
    rintro e w' ⟨v1,c1,outs,rows,res,⟨rfl,rfl,rfl⟩,rfl,rfl,G1,_,hr1,_⟩
    simp only [Rep] at hr1
    subst hr1
    obtain ⟨q,os,hg1⟩:=G1.grown
    refine ⟨rfl,?_⟩
    rw [hg1]
    exact V.grow q os
  have V0:LV c0.w c0.w g off cells t L:=LV.refl hheap (by rw [hLn];exact hL) (by omega)
  have hidx:Calls Tryz.prog nzq #[.slice (some ⟨g,off,none⟩) L.length cap,.func (.func nz3) #[] #[.pointer (some ⟨bb,0+0,none⟩)]] c0.w fun e w'=>e=.returned (.int .i64 (fidx (fun z=>usedS 0 z != r) zs 0))∧LV c0.w w' g off cells t L:=by
    refine ((k_IndexFunc zs nz3 [.rp [iv r] 0] (fun z=>usedS 0 z != r) ⟨by simp only [go_sem,yz0,xx9,xx8,xx6,xx7,xx5,xx0,xx1,xx2,reduceIte,xx3,xx4,reduceCtorEq],by intros;simp only [rowIs,boxIs,coe_argN,coe_argNs,coe_ro_o,yz16,yzw,coe_any,coe_val,coe_ro,yz18,yz19,coe_st,yz1a,coe_rp,yz17,coe_clo,coe_own0,coe_ptr0,yz15,coeL_rws,coeL_rwn,L_hit,L_miss,L_nil,xx3,ne_eq,reduceCtorEq,not_false_eq_true,true_and,and_true,and_self,exists_eq_left,exists_eq_right,List.mem_cons,List.not_mem_nil,or_false,AObj.row.injEq,AObj.box.injEq,exists_eq_left',exists_and_left,exists_eq,Nat.zero_lt_one,Nat.lt_add_one,List.map_cons,List.map_nil,AObj.ver,xx5,not_true_eq_false]⟩ (fun x hx=>by have:=hd x hx;exact k_LK1 x r this.2.1 this.2.2 this.1 (hu x hx))).2 (Cz.start c0.w) (fun _=>False) [.slice (some ⟨g,off,none⟩) L.length cap,.func (.func nz3) #[] #[.pointer (some ⟨bb,0+0,none⟩)]] (start_good c0.w) (start_outHp c0.w) ?_).mono ?_
    · rw [RepL,RepL,RepL]
      refine ⟨?_,?_,trivial⟩
      · simp only [Rep]
        refine ⟨some ⟨g,off,none⟩,L.length,cap,rfl,by omega,by rw [rwn_len];omega,⟨by omega,hcm⟩,(fun n e=>by cases e),.inr ⟨g,off,rfl,start_imm (yzx hheap),RepAt.of_get fun i A hA=>?_⟩⟩
        obtain ⟨v',hv',hr'⟩:=hrepr.get hA
        have hi:=(List.getElem?_eq_some_iff.1 hv').1
        refine ⟨v',?_,?_⟩
        · show c0.w.cell? _=_
          rw [(V0.cell (by omega) hi).1]
          rw [List.getElem?_eq_getElem hi] at hv'
          exact hv'
        · unfold rwn at hA
          rw [List.getElem?_map] at hA
          cases hzi:zs[i]? with
          | none=>rw [hzi] at hA;cases hA
          | some z =>
            rw [hzi] at hA
            simp only [Option.map_some,Option.some.injEq] at hA
            subst hA
            exact rep_start (hW c0.w L V0) hr'
      · simp only [Rep,RepL,and_true]
        refine ⟨_,rfl,?_⟩
        show RepL _ _ [_]
        rw [RepL,RepL]
        exact ⟨hptr c0.w L V0,trivial⟩
    · rintro e w' ⟨v1,c1,outs,rows,res,⟨rfl,rfl,rfl⟩,rfl,rfl,G1,_,hr1,_⟩
      simp only [Rep] at hr1
      subst hr1
      obtain ⟨q,os,hg1⟩:=G1.grown
      refine ⟨rfl,?_⟩
      rw [hg1]
      exact V0.grow q os
  have hsl:∀ v∈L,∃ a n c,v=.slice a n c:=fun v hv=>by
    obtain ⟨i,hi⟩:=List.getElem?_of_mem hv
    have hil:=(List.getElem?_eq_some_iff.1 hi).1
    obtain ⟨v',hv',hr'⟩:=hrepr.get (i:=i) (A:=.ro none 1 (ints (zs.getD i []))) (by unfold rwn;rw [List.getElem?_map,List.getElem?_eq_getElem (by omega),List.getD_eq_getElem?_getD,List.getElem?_eq_getElem (by omega)];rfl)
    rw [hi] at hv'
    cases hv'
    simp only [Rep] at hr'
    obtain ⟨base,len,cap,h,_⟩:=hr'
    exact ⟨_,_,_,h⟩
  have hraw:=del_raw c0.w g off cap cells t L #[.pointer (some ⟨bb,0+0,none⟩)] (fun j=>usedS 0 (zs.getD j []) != r) hheap (by rw [hLn];exact hL) (by omega) (by omega) (by omega) hsl (fidx (fun z=>usedS 0 z != r) zs 0) (by
    rcases fidx_or (p:=fun z=>usedS 0 z != r) (xs:=zs) 0 with ⟨k,hk,h1,h2,h3⟩ | ⟨h1,h2⟩
    · refine .inl ⟨k,by omega,by rw [h1];simp,?_,fun j hj=>?_⟩
      · rw [List.getD_eq_getElem?_getD,List.getElem?_eq_getElem hk];exact h2
      · rw [List.getD_eq_getElem?_getD,List.getElem?_eq_getElem (by omega)];exact h3 j hj
    · refine .inr ⟨h1,fun j hj=>?_⟩
      rw [List.getD_eq_getElem?_getD,List.getElem?_eq_getElem (by omega)];exact h2 j (by omega)) hidx hcall
  rw [hv,hloc,← hLn]
  refine hraw.mono ?_
  rintro e w' ⟨rfl,V⟩
  have hkept:=repL_kept (c:=c0) (r:=r) hrepr zs.length (Nat.le_refl _)
  rw [List.take_length,hlen,← hLn] at hkept
  have hkl:=hkept.length
  rw [rwn_len] at hkl
  have hkle:(withC zs r).length≤L.length:=by
    have:=List.length_filter_le (fun k=>usedS 0 k == r) zs
    unfold withC;omega
  generalize keptL (fun j=>usedS 0 (zs.getD j []) != r) L L.length=D at V hkept hkl
  have hrD:=hkept.append (repL_nils (c:=c0) (L.length - D.length))
  obtain ⟨u,hu2⟩:=G.fin
  have hnu:¬ c0.used u:=fun h=>absurd (hu2 u h) (Nat.lt_irrefl _)
  rw [← hLn] at hloc hnc
  obtain ⟨G1,K1⟩:=inrow_coreV G hr hloc hnc hcm hc0 hheap (by omega) V.left (by rw [List.length_append,List.length_replicate];omega) hrD (m:=D.length) (ver:=u) (by omega) (.inr hnu)
  have htk:(rwn (withC zs r) ++ List.replicate (L.length - D.length) (AVal.val (.slice none 0 0))).take D.length=rwn (withC zs r):=by
    rw [← hkl,List.take_append_of_le_length (by rw [rwn_len];exact Nat.le_refl _),List.take_of_length_le (by rw [rwn_len];exact Nat.le_refl _)]
  rw [htk] at G1 K1
  refine ⟨_,_,_,_,_,⟨u,rfl,rfl,rfl⟩,rfl,rfl,G1,?_,?_,fun b hb=>.inl ⟨rfl,hb⟩,fun _ h=>h,?_,fun _ h=>.inl h⟩
  · funext x
    show (if x=5000 then _ else c0.hp x)=_
    by_cases e:x=5000
    · subst e;rfl
    · rw [if_neg e]
      by_cases e1:x=5001
      · subst e1;rw [hb];rfl
      · rw [hne x e e1]
        by_cases hg:outHp [AObj.row u 1 true (rwn (withC zs r)),AObj.box 1 [iv r]] [] x=.gone
        · exact hg.symm
        · rcases outHp_live hg with ⟨j,rfl,_,hj,_⟩ | ⟨i,_,_,hi,_⟩
          · match j,hj with
            | 0,_=>exact absurd rfl e
            | 1,_=>exact absurd rfl e1
            | j+2,hj=>simp at hj;omega
          · simp at hi
  · simp only [Rep]
    refine ⟨.inr rfl,fun _=>?_⟩
    simp only [Cz.upd,if_true]
  · intro x u' hu' h
    exact K1.loc x u' hu' h
end Go.Ab
namespace Go.Ab
open Go Go.Proofs
abbrev tts (k:Nat):List AVal:=List.replicate k (bv true)
theorem dnL_tts {k:Nat}:dnL (tts k)=tts k:=by simp [dnL_eq,AVal.dn]
theorem tts_getD {k j:Nat} (h:j<k):(tts k).getD j .any=bv true:=by rw [List.getD_eq_getElem?_getD,List.getElem?_replicate,if_pos h];rfl
theorem tts_snoc {k:Nat}:tts k ++ [bv true]=tts (k+1):=by simp [List.replicate_succ']
abbrev keysKs (Ks:List (List Int)):List Value:=keysV (Ks.map keyS)
theorem keysKs_snoc {Ks:List (List Int)} {k:List Int}:keysKs Ks ++ [Value.string (keyS k)]=keysKs (Ks ++ [k]):=by simp
theorem call_delR {P:Program} {σ:St} {g gt:FuncId} {d:Nat} {s:Nat→Nat} {K:St→Prop} {r v b z:Nat} {zs ys:List (List Int)} {cs:List AVal} {q:Int}
    (h:Con P g [.row 0 1 true (rwn zs),.box 1 [iv q]] [.own 5000 0,.clo gt [.ptr 5001 1 0]] true fun outs rows res=>∃ v,outs=[.row v 1 true (rwn ys),.box 1 [iv q]]∧rows=[]∧res=.own 5000 v)
    (hr:σ.hp r=.row v 1 true cs) (hb:σ.hp b=.box z [iv q]) (hne:r≠b) (hcs:CoeL σ.hp [r,b] false (rwn zs) cs)
    (hk:∀ u z',K (St.put ⟨σ.tm,upd (upd σ.hp r (.row u 1 true (rwn ys))) b (.box z' [iv q])⟩ (some d) (.own r u))):wpCall P false σ g [.own r v,.clo gt [.ptr b z 0]] (some d) s K:=by
  refine .inl ⟨[r,b],_,_,true,_,h,⟨by simp,rfl,by simp [hne],?_,?_⟩,?_,(fun e=>by cases e),?_⟩
  · intro x hx
    simp only [List.mem_cons,List.not_mem_nil,or_false] at hx
    rcases hx with rfl | rfl
    · simp [hr]
    · simp [hb]
  · intro j B r' hB hr'
    match j,hB,hr' with
    | 0,hB,hr' =>
      simp at hB hr';subst hB;subst hr'
      simp only [ObjCoe,hr]
      exact ⟨trivial,v,cs,rfl,hcs⟩
    | 1,hB,hr' =>
      simp at hB hr';subst hB;subst hr'
      simp only [ObjCoe,hb]
      exact ⟨trivial,z,[iv q],rfl,by simp only [yzw,yz16,coe_val,and_true]⟩
    | j+2,hB,hr'=>simp at hB
  · rw [yzw,yzw,yz16,coe_clo,yzw,yz16]
    simp only [Coe]
    exact ⟨⟨0,r,v,rfl,rfl,rfl,rfl,by rw [hr];rfl⟩,⟨⟨1,b,z,rfl,rfl,rfl,rfl,by rw [hb];rfl⟩,trivial⟩,trivial⟩
  · rintro outs rows res ⟨u,rfl,rfl,rfl⟩
    refine ⟨rfl,by simp,by simp,?_⟩
    have i0:rid [r,b] d 0 5000=some r:=rid_m (j:=0) (by omega) rfl
    rw [Option.getD_some,callHp_m2 hne]
    simp only [AObj.ren,AVal.ren,yzp,yzf,yzo,yzv,List.length_nil,i0]
    exact hk _ _
theorem k_LeastKernels (n:Int) (next:List (List Int)) (A:Aut n next) (n7:n≤7) :
    Con Tryz.prog nz3k [] [autA n next] true fun outs rows res=>outs=[]∧∃ v yss,(∀ k,k∈yss↔∃ w,IsW next.length w∧k=kerA n next w∧cntN (imN next (2 ^ n.toNat - 1) w)=rankT next n)∧yss.length≤823543∧rows=[.row v 1 true (rwn yss)]∧res=.tup [.own 6000 v,iv 0]:=by
  refine con_sh mixed czir rfl (by simp) ?_
  have n1:=A.n1
  have n2:=A.n2
  have hva:=k_Valid n next
  rw [autB_iff.2 A] at hva
  have hM:=maxLen_le
  have hrk:=k_rank n next A
  have f0:∀ k:Value,findKeyAt k [] 0=some none:=fun _=>rfl
  have hall:allS n=actA n next []:=by simp [allS,actA,atA]
  generalize hQ:finQ _=Q
  simp only [Az4o,Bz9o,go_sem,yz0,xx9,xx8,xx6,xx7,xx5,xx0,xx1,xx2,reduceIte,xx3,xx4,reduceCtorEq]
  intro vs vs2
  refine yzy hva qCS trivial ?_
  simp only [Bz92,Bz9n,Bool.not_true,go_sem,yz0,xx9,xx8,xx6,xx7,xx5,xx0,xx1,xx2,reduceIte,xx3,xx4,reduceCtorEq]
  intro vs3
  refine call_rowI (k_all n next A) qCS rfl ⟨_,rfl⟩ ?_
  rintro xs v rfl
  simp only [go_sem,yz0,xx9,xx8,xx6,xx7,xx5,xx0,xx1,xx2,reduceIte,xx3,xx4,reduceCtorEq]
  refine call_rowI (k_numbered (allS n) (by simp [allS];omega)) qCS rfl ⟨_,rfl⟩ ?_
  rintro ys u rfl
  have hk0:(numG ([],[]) (allS n)).2=kerA n next []:=by rw [hall];rfl
  rw [hk0]
  have hk0l:=kerA_len (n:=n) (next:=next) (w:=[])
  have hkeyl:∀ w:List Int,(kerA n next w).length≤1000000:=fun w=>by rw [kerA_len];omega
  simp only [Bz9m,go_sem,yz0,xx9,xx8,xx6,xx7,xx5,xx0,xx1,xx2,reduceIte,xx3,xx4,reduceCtorEq]
  intro vs4
  refine yzy (k_keyOf (kerA n next []) (hkeyl [])) qCS trivial ?_
  simp only [f0,Bz9l,Bz9g,go_sem,yz0,xx9,xx8,xx6,xx7,xx5,xx0,xx1,xx2,reduceIte,xx3,xx4,reduceCtorEq]
  have hext:∀ (w:List Int) (x:Nat),x<next.length→IsW next.length w→IsW next.length ((x:Int) :: w):=fun w x hx hw y hy=>by
    rcases List.mem_cons.1 hy with rfl | hy
    · omega
    · exact hw y hy
  refine wpD_lo (fun (_,_,i,_)=>823544 - i) (fun (_,_,i,Ks)=>KrI n next Ks∧i≤List.length Ks∧∀ j<i,∀ x<next.length,extK (next.getD x []) (Ks.getD j [])∈Ks)
    (fun ((v4,v5,i,Ks):Nat×Nat×Nat×List (List Int))=>⟨L .any [(1,.ptr 1 (vs 0 0) 0),(4,.own 21 v4),(5,.mp 22 v5),(6,iv i)],
      L .gone [(1,.box (vs 0 0) [iv n,.ro none 1 (rwn next)]),(21,.row v4 1 true (rws Ks)),(22,.map v5 (keysKs Ks) (tts Ks.length))]⟩)
    (_,_,0,[kerA n next []]) ⟨⟨fun k hk=>⟨[],by intro x hx;simp at hx,by simpa using hk⟩,by simp,by simp⟩,by simp,fun j hj=>by omega⟩ (by simp only [Bz1w,go_sem,yz0,xx9,xx8,xx6,xx7,xx5,xx0,xx1,xx2,reduceIte,xx3,xx4,reduceCtorEq];try rfl) ?_
  rintro ⟨v4,v5,i,Ks⟩ ⟨I,hi,hcl⟩
  have hi:i≤Ks.length:=hi
  have hKl:=I.len n7
  have hKl:Ks.length≤823543:=hKl
  have hcl:∀ j<i,∀ x<next.length,extK (next.getD x []) (Ks.getD j [])∈Ks:=hcl
  by_cases hlt:(i:Int)<Ks.length
  · have hlt1:i<Ks.length:=by omega
    have wi:IntKind.i64.wrap ((i:Int)+1)=((i+1:Nat):Int):=by rw [w64 (by omega)];simp
    simp only [Bz1w,Bz4i,Bz9f,yz14,dnL_tts,decide_eq_true hlt,go_sem,yz0,xx9,xx8,xx6,xx7,xx5,xx0,xx1,xx2,reduceIte,xx3,xx4,reduceCtorEq]
    intro hM2 hM3
    simp only [Bz9d,yz14,dnL_tts,go_sem,yz0,xx9,xx8,xx6,xx7,xx5,xx0,xx1,xx2,reduceIte,xx3,xx4,reduceCtorEq]
    refine wpD_lo (fun (_,_,x,_)=>next.length - x) (fun (_,_,x,Ks')=>KrI n next Ks'∧x≤next.length∧(∃ t,Ks'=Ks ++ t)∧∀ x'<x,extK (next.getD x' []) (Ks.getD i [])∈Ks')
      (fun ((v4,v5,x,Ks'):Nat×Nat×Nat×List (List Int))=>⟨L .any [(1,.ptr 1 (vs 0 0) 0),(4,.own 21 v4),(5,.mp 22 v5),(6,iv i),(35,.ro none 1 (rwn next)),(36,iv next.length),(37,iv x)],
        L .gone [(1,.box (vs 0 0) [iv n,.ro none 1 (rwn next)]),(21,.row v4 1 true (rws Ks')),(22,.map v5 (keysKs Ks') (tts Ks'.length))]⟩)
      (_,_,0,Ks) ⟨I,by omega,⟨[],by simp⟩,fun x' hx'=>by omega⟩ (by simp only [Bz1v,yz14,dnL_rwn,dnL_tts,go_sem,yz0,xx9,xx8,xx6,xx7,xx5,xx0,xx1,xx2,reduceIte,xx3,xx4,reduceCtorEq];try rfl) ?_
    rintro ⟨v4,v5,x,Ks'⟩ ⟨I',hx,⟨t,ht⟩,hdone⟩
    have hx:x≤next.length:=hx
    have ht:Ks'=Ks ++ t:=ht
    have hdone:∀ x'<x,extK (next.getD x' []) (Ks.getD i [])∈Ks':=hdone
    have hKl':=I'.len n7
    have hKl':Ks'.length≤823543:=hKl'
    have hi':i<Ks'.length:=by rw [ht,List.length_append];omega
    have hgi:Ks'.getD i []=Ks.getD i []:=by rw [ht];exact getD_app hlt1 _
    by_cases hlx:(x:Int)<next.length
    · have hlx1:x<next.length:=by omega
      have wx:IntKind.i64.wrap ((x:Int)+1)=((x+1:Nat):Int):=by rw [w64 (by omega)];simp
      have hrow:=A.row _ (yzz hlx1 [])
      obtain ⟨w,hw,hkw⟩:=I.of _ (yzz hlt1 [])
      have hek:=ext_ker A (w:=w) hlx1
      rw [← hkw] at hek
      have hkgl:(Ks.getD i []).length=n.toNat:=by rw [hkw,kerA_len]
      unfold extK at hek
      generalize hrw:next.getD x []=row at hrow hek
      have hrl:row.length=n.toNat:=by have:=hrow.1;omega
      simp only [Bz1v,Bz4n,Bz9c,rwn_getD hlx1,hrw,yz14,dnL_rwn,dnL_tts,decide_eq_true hlx,go_sem,yz0,xx9,xx8,xx6,xx7,xx5,xx0,xx1,xx2,reduceIte,xx3,xx4,reduceCtorEq]
      refine ⟨⟨by omega,hlx1⟩,hlx1,?_⟩
      simp only [Bz9b,yz14,dnL_rwn,dnL_tts,go_sem,yz0,xx9,xx8,xx6,xx7,xx5,xx0,xx1,xx2,reduceIte,xx3,xx4,reduceCtorEq]
      intro vs5
      simp only [Bz9a,yz14,dnL_rwn,dnL_tts,go_sem,yz0,xx9,xx8,xx6,xx7,xx5,xx0,xx1,xx2,reduceIte,xx3,xx4,reduceCtorEq]
      intro hM4
      simp only [Bz96,yz14,dnL_rwn,dnL_tts,go_sem,yz0,xx9,xx8,xx6,xx7,xx5,xx0,xx1,xx2,reduceIte,xx3,xx4,reduceCtorEq]
      generalize hkg:Ks.getD i []=kg at hek hkgl hkw
      refine wpD_lo (fun (_,j)=>row.length - j) (fun (_,j)=>j≤row.length)
        (fun ((v9,j):Nat×Nat)=>⟨L .any [(1,.ptr 1 (vs 0 0) 0),(4,.own 21 v4),(5,.mp 22 v5),(6,iv i),(9,.own 41 v9),(35,.ro none 1 (rwn next)),(36,iv next.length),(37,iv x),(42,.ro none 1 (ints row)),(43,iv row.length),(44,iv j)],
          L .gone [(1,.box (vs 0 0) [iv n,.ro none 1 (rwn next)]),(21,.row v4 1 true (rws Ks')),(22,.map v5 (keysKs Ks') (tts Ks'.length)),(41,.row v9 1 true (ints ((row.take j).map fun t=>kg.getD t.toNat 0)))]⟩)
        (_,0) (Nat.zero_le _) (by simp only [Bz1u,List.take_zero,List.map_nil,yz14,dnL_rwn,dnL_tts,go_sem,yz0,xx9,xx8,xx6,xx7,xx5,xx0,xx1,xx2,reduceIte,xx3,xx4,reduceCtorEq];try rfl) ?_
      rintro ⟨v9,j⟩ hj
      have hj:j≤row.length:=hj
      by_cases hlj:(j:Int)<row.length
      · have hlj1:j<row.length:=by omega
        have wj:IntKind.i64.wrap ((j:Int)+1)=((j+1:Nat):Int):=by rw [w64 (by omega)];simp
        have hrj:=hrow.2 _ (yzz hlj1 0)
        have hrj1:(row.getD j 0).toNat<kg.length:=by omega
        have htk:(row.take (j+1)).map (fun t=>kg.getD t.toNat 0)=(row.take j).map (fun t=>kg.getD t.toNat 0) ++ [kg.getD (row.getD j 0).toNat 0]:=by
          rw [List.take_succ_eq_append_getElem hlj1,List.map_append,List.getD_eq_getElem?_getD (l:=row),List.getElem?_eq_getElem hlj1];rfl
        have hcgi:Ks'.getD i []=kg:=by rw [hgi,hkg]
        simp only [Bz1u,Bz4j,Bz95,yz10 hlj1,yz14,dnL_rwn,dnL_tts,decide_eq_true hlj,go_sem,yz0,xx9,xx8,xx6,xx7,xx5,xx0,xx1,xx2,reduceIte,xx3,xx4,reduceCtorEq]
        refine ⟨⟨by omega,hlj1⟩,hlj1,?_⟩
        simp only [Bz93,Bz94,rws_getD hi',hcgi,yz10 hrj1,wj,yz14,dnL_rwn,dnL_tts,go_sem,yz0,xx9,xx8,xx6,xx7,xx5,xx0,xx1,xx2,reduceIte,xx3,xx4,reduceCtorEq]
        intro vs6
        exact ⟨⟨by omega,hi'⟩,hi',⟨hrj.1,hrj1⟩,hrj1,⟨_,rfl,rfl⟩,by rw [List.length_take];omega,(vs6 9 0,j+1),by dsimp only;omega,by dsimp only;omega,by dsimp only;rw [htk]⟩
      · obtain rfl:j=row.length:=by omega
        simp only [Bz1u,Bz4j,Bz99,List.take_length,decide_eq_false hlj,yz14,dnL_rwn,dnL_tts,go_sem,yz0,xx9,xx8,xx6,xx7,xx5,xx0,xx1,xx2,reduceIte,xx3,xx4,reduceCtorEq]
        intro vs6
        refine call_rowI (k_numbered (row.map fun t=>kg.getD t.toNat 0) (by rw [List.length_map];omega)) qCS qGN ⟨_,rfl⟩ ?_
        rintro ys v60 rfl
        have hnk:(numG ([],[]) (row.map fun t=>kg.getD t.toNat 0)).2=kerA n next ((x:Int) :: w):=hek
        rw [hnk]
        simp only [Bz98,yz14,dnL_rwn,dnL_tts,go_sem,yz0,xx9,xx8,xx6,xx7,xx5,xx0,xx1,xx2,reduceIte,xx3,xx4,reduceCtorEq]
        intro vs7
        refine yzy (k_keyOf (kerA n next ((x:Int) :: w)) (hkeyl _)) qCS trivial ?_
        have hwx:=hext w x hlx1 hw
        have hdn:∀ Ks2:List (List Int),(∀ k∈Ks',k∈Ks2)→kerA n next ((x:Int) :: w)∈Ks2→∀ x'<x+1,extK (next.getD x' []) kg∈Ks2:=fun Ks2 hs hm x' hx'=>by
          by_cases e:x'=x
          · subst e;rw [hrw];unfold extK;rw [hek];exact hm
          · have:=hdone x' (by omega);rw [hkg] at this;exact hs _ this
        by_cases hin:keyS (kerA n next ((x:Int) :: w))∈Ks'.map keyS
        · obtain ⟨j2,hj2,hjl⟩:=fk_mem (i:=0) hin
          rw [Nat.zero_add] at hj2
          rw [List.length_map] at hjl
          simp only [Bz4l,Bz4k,Bz4m,hj2,tts_getD hjl,wx,Bool.not_true,yz14,dnL_rwn,dnL_tts,go_sem,yz0,xx9,xx8,xx6,xx7,xx5,xx0,xx1,xx2,reduceIte,xx3,xx4,reduceCtorEq]
          exact ⟨(v4,v5,x+1,Ks'),by dsimp only;omega,⟨I',by dsimp only;omega,⟨t,ht⟩,hdn Ks' (fun _ h=>h) (key_mem I' n7 hin)⟩,rfl⟩
        · have hj2:=fk_not (i:=0) hin
          have hnin:kerA n next ((x:Int) :: w) ∉ Ks':=fun h=>hin (List.mem_map_of_mem h)
          simp only [Bz4l,Bz4k,Bz97,Bz4m,hj2,wx,Bool.not_false,yz14,dnL_rwn,dnL_tts,go_sem,yz0,xx9,xx8,xx6,xx7,xx5,xx0,xx1,xx2,reduceIte,xx3,xx4,reduceCtorEq]
          intro vs8
          refine ⟨by omega,(vs8 3 0,v5,x+1,Ks' ++ [kerA n next ((x:Int) :: w)]),by dsimp only;omega,⟨I'.add hwx hnin,by dsimp only;omega,⟨t ++ [kerA n next ((x:Int) :: w)],by rw [ht,List.append_assoc]⟩,hdn _ (fun k hk=>List.mem_append_left _ hk) (by simp)⟩,?_⟩
          dsimp only
          rw [keysKs_snoc,tts_snoc,List.length_append];rfl
    · obtain rfl:x=next.length:=by omega
      simp only [Bz1v,Bz4n,Bz9e,wi,decide_eq_false hlx,yz14,dnL_rwn,dnL_tts,go_sem,yz0,xx9,xx8,xx6,xx7,xx5,xx0,xx1,xx2,reduceIte,xx3,xx4,reduceCtorEq]
      refine ⟨(v4,v5,i+1,Ks'),by dsimp only;omega,⟨I',by dsimp only;omega,fun j hj x hx=>?_⟩,rfl⟩
      dsimp only at hj ⊢
      by_cases e:j=i
      · subst e;rw [hgi];exact hdone x hx
      · have:=hcl j (by omega) x hx
        rw [ht,getD_app (by omega)]
        exact List.mem_append_left _ this
  · obtain rfl:i=Ks.length:=by omega
    have hall2:=I.all A hcl
    simp only [Bz1w,Bz4i,Bz9k,decide_eq_false hlt,yz14,dnL_rwn,dnL_tts,go_sem,yz0,xx9,xx8,xx6,xx7,xx5,xx0,xx1,xx2,reduceIte,xx3,xx4,reduceCtorEq]
    intro hM5 vs5
    refine yzy hrk qCS trivial ?_
    simp only [Bz9j,yz14,dnL_rwn,dnL_tts,go_sem,yz0,xx9,xx8,xx6,xx7,xx5,xx0,xx1,xx2,reduceIte,xx3,xx4,reduceCtorEq]
    have hKne:Ks≠[]:=List.ne_nil_of_mem I.id
    have hr10:rankT next n≤10:=by
      have hp:=Nat.two_pow_pos n.toNat
      have h1:=(rank_facts A).2.1 [] (by intro x hx;simp at hx)
      have h2:cntN (2 ^ n.toNat - 1)≤n.toNat:=cntN_le (by omega) (by omega)
      have h3:cntN (imN next (2 ^ n.toNat - 1) [])=cntN (2 ^ n.toNat - 1):=rfl
      omega
    have hDel:=k_DelRows Ks hKne (fun z hz=>by
      obtain ⟨w,_,rfl⟩:=I.of z hz
      refine ⟨(numK_tid _).dv,?_,by rw [kerA_len];omega⟩
      intro e
      have:=kerA_len (n:=n) (next:=next) (w:=w)
      rw [e] at this
      simp at this;omega) (fun z hz=>by
      obtain ⟨w,hw,rfl⟩:=I.of z hz
      rw [kerA_cls A hw]
      have hp:=Nat.two_pow_pos n.toNat
      have h1:=(imN_bit A w (f:=2 ^ n.toNat - 1) (by omega) hw).1
      have h2:=cntN_le (N:=n.toNat) (by omega) h1
      omega) (rankT next n)
    intro vs6
    refine call_delR hDel rfl rfl (by omega) (by show CoeL _ _ _ (rwn Ks) _;rw [coeL_rws];trivial) ?_
    intro u14 z13
    have hmem:∀ k,k∈withC Ks (rankT next n)↔∃ w,IsW next.length w∧k=kerA n next w∧cntN (imN next (2 ^ n.toNat - 1) w)=rankT next n:=fun k=>by
      unfold withC
      rw [List.mem_filter]
      constructor
      · rintro ⟨h1,h2⟩
        obtain ⟨w,hw,rfl⟩:=I.of k h1
        rw [beq_iff_eq,kerA_cls A hw] at h2
        exact ⟨w,hw,rfl,by omega⟩
      · rintro ⟨w,hw,rfl,h2⟩
        refine ⟨hall2 w hw,?_⟩
        rw [beq_iff_eq,kerA_cls A hw,h2]
    have hp:=Nat.two_pow_pos n.toNat
    obtain ⟨w0,hw0,he0⟩:=least_word A (f:=2 ^ n.toNat - 1) (by omega)
    have hne:withC Ks (rankT next n)≠[]:=List.ne_nil_of_mem ((hmem (kerA n next w0)).2 ⟨w0,hw0,rfl,he0.symm⟩)
    have hwl:(withC Ks (rankT next n)).length≤823543:=Nat.le_trans (List.length_filter_le _ _) hKl
    simp only [Bz9i,yz14,dnL_rwn,dnL_tts,go_sem,yz0,xx9,xx8,xx6,xx7,xx5,xx0,xx1,xx2,reduceIte,xx3,xx4,reduceCtorEq]
    intro vs7
    have hS:=k_SortRows (withC Ks (rankT next n)) hne (by omega) none nze (enters_of Tryz.func30 (by decide) rfl) cmpL swoL (fun xs ys _ _=>k_CompareL xs ys)
    generalize withC Ks (rankT next n)=W at hmem hne hwl hS ⊢
    refine call_row1C hS rfl ?_ qCS ?_
    · show CoeL _ _ _ (rwn W) _
      rw [coeL_rwn];trivial
    · rintro outs rows res ⟨yss,h1,h2,rfl,rfl,rfl⟩
      refine ⟨rfl,_,rfl,?_⟩
      have er:yss.map (fun xs=>AVal.ro none 1 (ints xs))=rwn yss:=rfl
      have e0:=sv_0 (hp:=L AObj.gone [(13,AObj.box z13 [AVal.val (Value.int IntKind.i64 (rankT next n))]),(21,AObj.row u14 1 true (rwn W))]) (r:=21) (v:=u14) (s:=vs7 1) rfl
      simp only [e0,er,Bz9h,yzp,dnL_rwn,yz14,Nat.not_lt_zero,range1,yzv,yz13,yz1e,yz1c,yz12,yz1d,yz1f,yz1b,yz11,yzo,yzf,yz5,yzr,yzp,yzn,yzm,yzt,yzc,yzb,yzd,yza,yzg,yzh,yz3,yz7,yz8,yz9,yzk,yzj,List.range_zero,yz6,yz4,yze,yzs,yzl,yzq,AVal.fresh,freshL,yz1,yzi,AObj.fresh,id,Option.isSome_some,or_true,true_or,go_sem,yz0,xx9,xx8,xx6,xx7,xx5,xx0,xx1,xx2,reduceIte,xx3,xx4,reduceCtorEq]
      rw [← hQ]
      simp only [Az4o,yzp,dnL_rwn,Nat.not_lt_zero,range1,yzv,yz13,yz1e,yz1c,yz12,yz1d,yz1f,yz1b,yz11,yzo,yzf,yz5,yzr,yzp,yzn,yzm,yzt,yzc,yzb,yzd,yza,yzg,yzh,yz3,yz7,yz8,yz9,yzk,yzj,List.range_zero,yz6,yz4,yze,yzs,yzl,yzq,AVal.fresh,freshL,yz1,yzi,AObj.fresh,id,Option.isSome_some,or_true,true_or,go_sem,yz0,xx9,xx8,xx6,xx7,xx5,xx0,xx1,xx2,reduceIte,xx3,xx4,reduceCtorEq]
      refine ⟨[21],by simp,by simp,by simp,u14,yss,fun k=>by rw [h1.mem_iff];exact hmem k,by rw [h1.length_eq];exact hwl,?_⟩
      simp only [e0,yzp,dnL_rwn,List.map_cons,List.map_nil,Nat.not_lt_zero,range1,yzv,yz13,yz1e,yz1c,yz12,yz1d,yz1f,yz1b,yz11,yzo,yzf,yz5,yzr,yzp,yzn,yzm,yzt,yzc,yzb,yzd,yza,yzg,yzh,yz3,yz7,yz8,yz9,yzk,yzj,List.range_zero,yz6,yz4,yze,yzs,yzl,yzq,AVal.fresh,freshL,yz1,yzi,AObj.fresh,id,Option.isSome_some,or_true,true_or,go_sem,yz0,xx9,xx8,xx6,xx7,xx5,xx0,xx1,xx2,reduceIte,xx3,xx4,reduceCtorEq]
end Go.Ab
namespace Go.Ab
open Go Go.Proofs
theorem imN_app {next:List (List Int)} {f:Nat} {u w:List Int}:imN next f (u ++ w)=imN next (imN next f u) w:=by simp [imN]
theorem nrm_nodup {l:List Int}:(nrm l).Nodup:=by
  have:=nrm_SI l
  unfold SI at this
  exact this.imp fun h=>Int.ne_of_lt h
theorem bitsTo_nodup {f:Nat}:(bitsTo f 10).Nodup:=by
  have:=bitsN_SI (f:=f)
  unfold SI at this
  exact this.imp fun h=>Int.ne_of_lt h
theorem img_le {n:Int} {next:List (List Int)} (A:Aut n next) {f:Nat} (hf:f<2 ^ n.toNat) {w:List Int} (hw:IsW next.length w):cntN (imN next f w)≤cntN f:=by
  unfold cntN
  rw [← img_set A hf hw]
  have:=nodup_leI nrm_nodup ((bitsTo f 10).map fun s=>atA next s w) fun x hx=>by rwa [nrm_mem] at hx
  rwa [List.length_map] at this
theorem img_inj {n:Int} {next:List (List Int)} (A:Aut n next) {f:Nat} (hf:f<2 ^ n.toNat) {w:List Int} (hw:IsW next.length w) (h:cntN f≤cntN (imN next f w)) {a b:Int} (ha:a∈bitsTo f 10) (hb:b∈bitsTo f 10) (e:atA next a w=atA next b w):a=b:=by
  rcases Decidable.em (a=b) with g | g
  · exact g
  · exfalso
    unfold cntN at h
    rw [← img_set A hf hw] at h
    have key:∀ x∈nrm ((bitsTo f 10).map fun s=>atA next s w),x∈((bitsTo f 10).erase b).map fun s=>atA next s w:=by
      intro x hx
      rw [nrm_mem,List.mem_map] at hx
      obtain ⟨s,hs,hsx⟩:=hx
      rw [List.mem_map]
      by_cases g2:s=b
      · exact ⟨a,(List.mem_erase_of_ne g).2 ha,by rw [← hsx,g2];exact e⟩
      · exact ⟨s,(List.mem_erase_of_ne g2).2 hs,hsx⟩
    have:=nodup_leI nrm_nodup _ key
    rw [List.length_map,List.length_erase_of_mem hb] at this
    have:=List.length_pos_of_mem hb
    omega
theorem all_there {met:List Int} {r:Nat} (hn:met.Nodup) (hl:met.length=r) (hr:∀ x∈met,0≤x∧x<r) {x:Int} (hx:0≤x∧x<r):x∈met:=by
  rcases Decidable.em (x∈met) with g | g
  · exact g
  · have:=nodup_leI (l:=x :: met) (List.nodup_cons.2 ⟨g,hn⟩) (allS r) fun y hy=>by
      have hy2:0≤y∧y<r:=by
        rcases List.mem_cons.1 hy with rfl | hy
        · exact hx
        · exact hr y hy
      unfold allS
      exact List.mem_map.2 ⟨y.toNat,List.mem_range.2 (by omega),by omega⟩
    have e:(allS (r:Int)).length=r:=by simp [allS]
    rw [List.length_cons,e] at this
    omega
theorem cross {n:Int} {next:List (List Int)} (A:Aut n next) {u v:List Int} (hu:IsW next.length u) (hv:IsW next.length v) (eu:cntN (imN next (2 ^ n.toNat - 1) u)=rankT next n) (ev:cntN (imN next (2 ^ n.toNat - 1) v)=rankT next n) :
    (∀ a∈bitsTo (imN next (2 ^ n.toNat - 1) u) 10,∀ b∈bitsTo (imN next (2 ^ n.toNat - 1) u) 10,(kerA n next v).getD a.toNat 0=(kerA n next v).getD b.toNat 0→a=b) ∧
    ∀ x∈kerA n next v,x∈(bitsTo (imN next (2 ^ n.toNat - 1) u) 10).map fun a=>(kerA n next v).getD a.toNat 0:=by
  have n1:=A.n1
  have n2:=A.n2
  have hp:=Nat.two_pow_pos n.toNat
  have hF:2 ^ n.toNat - 1<2 ^ n.toNat:=by omega
  have hul:=(imN_bit A u hF hu).1
  have huv:IsW next.length (u ++ v):=fun x hx=>by
    rcases List.mem_append.1 hx with h | h
    · exact hu x h
    · exact hv x h
  have hge:=(rank_facts A).2.1 (u ++ v) huv
  rw [imN_app] at hge
  have hrg:∀ a∈bitsTo (imN next (2 ^ n.toNat - 1) u) 10,0≤a∧a<n:=fun a ha=>by
    rw [bitsTo_eq,List.mem_map] at ha
    obtain ⟨t,ht,rfl⟩:=ha
    have:=bitsN_lt hul ht
    omega
  have hinj:∀ a∈bitsTo (imN next (2 ^ n.toNat - 1) u) 10,∀ b∈bitsTo (imN next (2 ^ n.toNat - 1) u) 10,(kerA n next v).getD a.toNat 0=(kerA n next v).getD b.toNat 0→a=b:=fun a ha b hb e=>by
    have ra:=hrg a ha
    have rb:=hrg b hb
    rw [kerA_eq (by omega) (by omega),show ((a.toNat:Nat):Int)=a by omega,show ((b.toNat:Nat):Int)=b by omega] at e
    exact img_inj A hul hv (by omega) ha hb e
  refine ⟨hinj,fun x hx=>?_⟩
  have hcls:=kerA_cls A hv
  rw [ev] at hcls
  have hKr:∀ s:Nat,s<n.toNat→0≤(kerA n next v).getD s 0∧(kerA n next v).getD s 0<rankT next n:=fun s hs=>by
    have:=numK_rg (xs:=actA n next v) (j:=s) (by rw [actA_len];exact hs)
    unfold kerA at hcls ⊢
    rw [hcls] at this
    exact ⟨this.1,this.2.2⟩
  refine all_there (r:=rankT next n) ?_ (by rw [List.length_map];exact eu) (fun y hy=>?_) ?_
  · have hnd:=bitsTo_nodup (f:=imN next (2 ^ n.toNat - 1) u)
    unfold List.Nodup at hnd ⊢
    rw [List.pairwise_map]
    refine List.Pairwise.imp_of_mem ?_ hnd
    intro a b ha hb hne e
    exact hne (hinj a ha b hb e)
  · obtain ⟨a,ha,rfl⟩:=List.mem_map.1 hy
    have ra:=hrg a ha
    exact hKr _ (by omega)
  · obtain ⟨i,hi,rfl⟩:=List.getElem_of_mem hx
    have:=hKr i (by rw [kerA_len] at hi;exact hi)
    rw [List.getD_eq_getElem?_getD,List.getElem?_eq_getElem hi] at this
    exact this
theorem leastI_mem {n:Int} {next:List (List Int)} (A:Aut n next) {I:List Int}:I∈leastI (tourT next (2 ^ n.toNat - 1)) (rankT next n)↔∃ u,IsW next.length u∧cntN (imN next (2 ^ n.toNat - 1) u)=rankT next n∧I=bitsTo (imN next (2 ^ n.toNat - 1) u) 10:=by
  have hp:=Nat.two_pow_pos n.toNat
  have hF:2 ^ n.toNat - 1<2 ^ n.toNat:=by omega
  have hT:=(runT_ok A 1100 0 _ (TI0 (m:=next.length) hF)).1
  unfold leastI
  rw [List.mem_map]
  constructor
  · rintro ⟨p,hp,rfl⟩
    obtain ⟨h1,h2⟩:=List.mem_filter.1 hp
    have hS:=two_snd (next:=next) (f:=2 ^ n.toNat - 1) p h1
    exact ⟨p.2,(hT.wd p h1).1,by rw [← hS];simpa using h2,by rw [← hS]⟩
  · rintro ⟨u,hu,h1,rfl⟩
    obtain ⟨j,hj,h2,_⟩:=tour_le A hF u.length u rfl hu
    exact ⟨_,List.mem_filter.2 ⟨yzz hj (0,[]),by rw [h2,h1];simp⟩,by rw [h2]⟩
end Go.Ab
namespace Go.Ab
theorem rwp_putN {ps:List (Nat×List Int)} {i:Nat} {p:Nat×List Int}:(rwp ps).take i ++ [.ro (some (some (p.1+1))) 1 (ints p.2)] ++ (rwp ps).drop (i+1)=rwp (ps.take i ++ [p] ++ ps.drop (i+1)):=by
  simp only [rwp,List.map_append,List.map_take,List.map_drop,List.map_cons,List.map_nil]
theorem DJ_put {A C:List (Nat×List Int)} {b b':Nat×List Int} (h:DJ (A ++ b :: C)) (h1:b'.1=b.1) (h2:b.2=[]→b'.2=[]):DJ (A ++ b' :: C):=by
  unfold DJ at h ⊢
  rw [List.pairwise_append] at h ⊢
  obtain ⟨hA,hC,hX⟩:=h
  rw [List.pairwise_cons] at hC ⊢
  refine ⟨hA,⟨fun x hx=>?_,hC.2⟩,fun x hx y hy=>?_⟩
  · rcases hC.1 x hx with e | e | e
    · exact .inl (h2 e)
    · exact .inr (.inl e)
    · exact .inr (.inr (by rw [h1];exact e))
  · rcases List.mem_cons.1 hy with rfl | hy
    · rcases hX x hx b (List.mem_cons_self ..) with e | e | e
      · exact .inl e
      · exact .inr (.inl (h2 e))
      · exact .inr (.inr (by rw [h1];exact e))
    · exact hX x hx y (List.mem_cons_of_mem _ hy)
theorem DJ_set {ps:List (Nat×List Int)} {i:Nat} (hi:i<ps.length) {xs:List Int} (h:DJ ps) (h2:(ps.getD i (0,[])).2=[]→xs=[]):DJ (ps.take i ++ [((ps.getD i (0,[])).1,xs)] ++ ps.drop (i+1)):=by
  have e:ps=ps.take i ++ ps.getD i (0,[]) :: ps.drop (i+1):=by
    rw [List.getD_eq_getElem?_getD,List.getElem?_eq_getElem hi,Option.getD_some,List.getElem_cons_drop,List.take_append_drop]
  rw [e] at h
  rw [List.append_assoc,List.singleton_append]
  exact DJ_put h rfl h2
end Go.Ab
namespace Go.Ab
open Go.Proofs
abbrev LoR (code:List Int) (at_ k:Int) (outs rows:List AObj) (res:AVal):Prop :=
  ∃ n ps v a' s',(ps.length≤3→DJ ps)∧ps.length≤10∧-1≤n∧n≤11∧(∀ p∈ps,p.2.length≤10)∧at_≤a'∧a'≤at_+k∧outs=[.box 0 (srcC code a' s')]∧rows=[.row v 1 true (rwp ps)]∧res=.st [iv n,.own 6000 v]
theorem call_boxrowN {P:Program} {nos:List Nat} {σ:St} {g:FuncId} {As args:List AVal} {d:Nat} {s:Nat→Nat} {K:St→Prop} {r q v u:Nat} {cs cs0:List AVal} {xs:List Int} {Q:List AVal→Value→Prop}
    (h:Con P g [.box 0 cs,.row 1 1 true (ints xs)] args true fun outs rows res=>∃ cs' x,Q cs' x∧flatL cs'∧outs=[.box 0 cs',.row 1 1 true (ints xs)]∧rows=[]∧res=.val x)
    (hr:σ.hp r=.box v cs0) (hq:σ.hp q=.row u 1 true (ints xs)) (hm:r∈nos∧q∈nos) (hne:[r,q].Nodup) (hcs:CoeL σ.hp [r,q] false cs cs0) (ha:CoeL σ.hp [r,q] false args As) (hex:∃ cs' x,Q cs' x∧flatL cs')
    (hk:∀ cs' x,Q cs' x→K (St.put ⟨σ.tm,upd (upd σ.hp r (.box v cs')) q (.row u 1 true (ints xs))⟩ (some d) (.val x))):wpCallN P nos σ g As (some d) s K:=by
  refine ⟨[r,q],_,_,true,_,h,⟨by simp,rfl,hne,?_,?_⟩,ha,⟨by simp [hm.1,hm.2],?_⟩,?_⟩
  · intro x hx
    simp only [List.mem_cons,List.not_mem_nil,or_false] at hx
    rcases hx with rfl | rfl
    · simp [hr]
    · simp [hq]
  · intro j B r' hB hr'
    match j,hB,hr' with
    | 0,hB,hr' =>
      simp at hB hr';subst hB;subst hr'
      rw [hr]
      exact ⟨rfl,v,cs0,rfl,hcs⟩
    | 1,hB,hr' =>
      simp at hB hr';subst hB;subst hr'
      simp only [ObjCoe,hq]
      exact ⟨trivial,u,_,rfl,coeL_ints⟩
    | j+2,hB,hr'=>simp at hB
  · obtain ⟨cs',x,hq,hf⟩:=hex
    exact ⟨_,_,_,cs',x,hq,hf,rfl,rfl,rfl⟩
  · rintro outs rows res ⟨cs',x,hQ,hf,rfl,rfl,rfl⟩
    refine ⟨rfl,rfl,?_⟩
    have s0:sv σ.hp [r,q] s 0=v:=by simp [sv,hr,AObj.ver]
    have s1:sv σ.hp [r,q] s 1=u:=by simp [sv,hq,AObj.ver]
    rw [Option.getD_some,callHp_h2 hne]
    simp only [yzm,yzn,renL_flat cs' hf,yz5,yzv,s0,s1]
    exact hk cs' x hQ
theorem k_l01Bent (code:List Int) (at_ seed:Int) (hb:∀ x∈code,0≤x∧x≤255) (ha:0≤at_∧at_≤100000) :
    Con Tryz.prog nz44 [.box 0 (srcC code at_ seed)] [.ptr 5000 0 0] true (LoR code at_ 3000):=by
  refine con_shE mixed czkf rfl (by simp) ?_
  generalize hQ:finQ _=Q
  have h12:∀ (σ:St) (v2 v3:Nat) (r v:Nat) (o6 o10 o61 o73 o77:AObj) (a s n:Int) (ps:List (Nat×List Int)),
      (ps.length≤3→DJ ps)→ps.length≤10→-1≤n∧n≤11→(∀ p∈ps,p.2.length≤10)→at_≤a∧a≤at_+3000 →
      (r=6∧o6=.row v 1 true (rwp ps)∨r=10∧o10=.row v 1 true (rwp ps)∨r=77∧o77=.row v 1 true (rwp ps)) →
      σ.keep [2,3] [2,3,6,10,61,73,77,5000,901]=⟨L .any [(2,.ptr 2 v2 0),(3,.ptr 3 v3 0)],
        L .gone [(2,.box v2 [iv 0,.val (.slice none 0 0)]),(3,.box v3 [iv n,.own r v]),(6,o6),(10,o10),(61,o61),(73,o73),(77,o77),(5000,.box 0 (srcC code a s)),(901,.gone)]⟩ →
      wpD Tryz.prog Bzz Q σ:=by
    intro σ v2 v3 r v o6 o10 o61 o73 o77 a s n ps hd hl hn hr ha' hrv hS
    unfold Bzz
    rw [yzu,hS]
    simp only [wpD_gh]
    intro _
    refine ⟨[],?_⟩
    rcases hrv with ⟨rfl,rfl⟩ | ⟨rfl,rfl⟩ | ⟨rfl,rfl⟩
    · simp only [gwp_nil,yzu,yz2,go_sem,yz0,xx9,xx8,xx6,xx7,xx5,xx0,xx1,xx2,reduceIte,xx3,xx4,reduceCtorEq]
      intro vs U hN
      simp only [← hQ,Aza,go_sem,yz0,xx9,xx8,xx6,xx7,xx5,xx0,xx1,xx2,reduceIte,xx3,xx4,reduceCtorEq]
      refine ⟨[6],by simp,by simp,by simp,?_⟩
      simp only [range1,List.length_singleton,renL_rwp,Nat.not_lt_zero,range1,yzv,yz13,yz1e,yz1c,yz12,yz1d,yz1f,yz1b,yz11,yzo,yzf,yz5,yzr,yzp,yzn,yzm,yzt,yzc,yzb,yzd,yza,yzg,yzh,yz3,yz7,yz8,yz9,yzk,yzj,List.range_zero,yz6,yz4,yze,yzs,yzl,yzq,AVal.fresh,freshL,yz1,yzi,AObj.fresh,id,Option.isSome_some,or_true,true_or,go_sem,yz0,xx9,xx8,xx6,xx7,xx5,xx0,xx1,xx2,reduceIte,xx3,xx4,reduceCtorEq]
      exact ⟨n,ps,v,a,s,hd,hl,hn.1,hn.2,hr,ha'.1,ha'.2,rfl,by simp,rfl⟩
    · simp only [gwp_nil,yzu,yz2,go_sem,yz0,xx9,xx8,xx6,xx7,xx5,xx0,xx1,xx2,reduceIte,xx3,xx4,reduceCtorEq]
      intro vs U hN
      simp only [← hQ,Aza,go_sem,yz0,xx9,xx8,xx6,xx7,xx5,xx0,xx1,xx2,reduceIte,xx3,xx4,reduceCtorEq]
      refine ⟨[10],by simp,by simp,by simp,?_⟩
      simp only [range1,List.length_singleton,renL_rwp,Nat.not_lt_zero,range1,yzv,yz13,yz1e,yz1c,yz12,yz1d,yz1f,yz1b,yz11,yzo,yzf,yz5,yzr,yzp,yzn,yzm,yzt,yzc,yzb,yzd,yza,yzg,yzh,yz3,yz7,yz8,yz9,yzk,yzj,List.range_zero,yz6,yz4,yze,yzs,yzl,yzq,AVal.fresh,freshL,yz1,yzi,AObj.fresh,id,Option.isSome_some,or_true,true_or,go_sem,yz0,xx9,xx8,xx6,xx7,xx5,xx0,xx1,xx2,reduceIte,xx3,xx4,reduceCtorEq]
      exact ⟨n,ps,v,a,s,hd,hl,hn.1,hn.2,hr,ha'.1,ha'.2,rfl,by simp,rfl⟩
    · simp only [gwp_nil,yzu,yz2,go_sem,yz0,xx9,xx8,xx6,xx7,xx5,xx0,xx1,xx2,reduceIte,xx3,xx4,reduceCtorEq]
      intro vs U hN
      simp only [← hQ,Aza,go_sem,yz0,xx9,xx8,xx6,xx7,xx5,xx0,xx1,xx2,reduceIte,xx3,xx4,reduceCtorEq]
      refine ⟨[77],by simp,by simp,by simp,?_⟩
      simp only [range1,List.length_singleton,renL_rwp,Nat.not_lt_zero,range1,yzv,yz13,yz1e,yz1c,yz12,yz1d,yz1f,yz1b,yz11,yzo,yzf,yz5,yzr,yzp,yzn,yzm,yzt,yzc,yzb,yzd,yza,yzg,yzh,yz3,yz7,yz8,yz9,yzk,yzj,List.range_zero,yz6,yz4,yze,yzs,yzl,yzq,AVal.fresh,freshL,yz1,yzi,AObj.fresh,id,Option.isSome_some,or_true,true_or,go_sem,yz0,xx9,xx8,xx6,xx7,xx5,xx0,xx1,xx2,reduceIte,xx3,xx4,reduceCtorEq]
      exact ⟨n,ps,v,a,s,hd,hl,hn.1,hn.2,hr,ha'.1,ha'.2,rfl,by simp,rfl⟩
  have h12b:∀ (σ:St) (v2 v3 r v m:Nat) (o6 o10:AObj) (a s n:Int) (A2 C2:List (Nat×List Int)) (b:Nat×List Int) (cur:List Int),
      DJ (A2 ++ b :: C2)→(A2 ++ b :: C2).length≤10→-1≤n∧n≤11→(∀ p∈A2 ++ C2,p.2.length≤10)→cur.length≤10→at_≤a∧a≤at_+3000 →
      (r=6∧o6=.row v 1 true (rwp A2 ++ .own 901 m :: rwp C2)∨r=10∧o10=.row v 1 true (rwp A2 ++ .own 901 m :: rwp C2)) →
      σ.keep [2,3] [2,3,6,10,61,73,77,5000,901]=⟨L .any [(2,.ptr 2 v2 0),(3,.ptr 3 v3 0)],
        L .gone [(2,.box v2 [iv 0,.val (.slice none 0 0)]),(3,.box v3 [iv n,.own r v]),(6,o6),(10,o10),(61,.gone),(73,.gone),(77,.gone),(5000,.box 0 (srcC code a s)),(901,.row m 1 true (ints cur))]⟩ →
      wpD Tryz.prog Bzz Q σ:=by
    intro σ v2 v3 r v m o6 o10 a s n A2 C2 b cur hd hl hn hr hc ha' hrv hS
    unfold Bzz
    rw [yzu,hS]
    simp only [wpD_gh]
    intro hD
    have hset4:∀ X:AVal,(rwp A2 ++ AVal.own 901 m :: rwp C2).set A2.length X=rwp A2 ++ X :: rwp C2:=fun X=>by
      rw [List.set_append_right _ _ (by rw [rwp_len];exact Nat.le_refl _),rwp_len,Nat.sub_self];rfl
    rw [List.length_append,List.length_cons] at hl
    have key:(∀ n k'' cs'',AVal.ro (some (some (n+1))) k'' cs''∈rwp A2 ++ AVal.own 901 m :: rwp C2→cs''≠[]→n≠m)→DJ (A2 ++ (m,cur) :: C2):=fun hf=>DJ_in hd fun p hp=>by
      by_cases e:p.2=[]
      · exact .inl e
      · refine .inr (hf p.1 1 (ints p.2) ?_ (by simpa using e))
        rcases List.mem_append.1 hp with h | h
        · exact List.mem_append.2 (.inl (List.mem_map.2 ⟨p,h,rfl⟩))
        · exact List.mem_append.2 (.inr (List.mem_cons.2 (.inr (List.mem_map.2 ⟨p,h,rfl⟩))))
    have hr2:∀ p∈A2 ++ (m,cur) :: C2,p.2.length≤10:=fun p hp=>by
      simp only [List.mem_append,List.mem_cons] at hp
      rcases hp with h | rfl | h
      · exact hr p (by simp [h])
      · exact hc
      · exact hr p (by simp [h])
    rcases hrv with ⟨rfl,rfl⟩ | ⟨rfl,rfl⟩
    · refine ⟨[.rf 6 A2.length 901],gwp_rf (k:=1) (nn:=true) rfl (own_get rfl) (by decide) rfl fun hf=>?_⟩
      have D1:=key hf
      simp only [hset4,frNm_t,rwp_cat,gwp_nil,yzu,yz2,go_sem,yz0,xx9,xx8,xx6,xx7,xx5,xx0,xx1,xx2,reduceIte,xx3,xx4,reduceCtorEq]
      intro vs U hN
      simp only [← hQ,Aza,go_sem,yz0,xx9,xx8,xx6,xx7,xx5,xx0,xx1,xx2,reduceIte,xx3,xx4,reduceCtorEq]
      refine ⟨[6],by simp,by simp,by simp,?_⟩
      simp only [range1,List.length_singleton,renL_rwp,Nat.not_lt_zero,range1,yzv,yz13,yz1e,yz1c,yz12,yz1d,yz1f,yz1b,yz11,yzo,yzf,yz5,yzr,yzp,yzn,yzm,yzt,yzc,yzb,yzd,yza,yzg,yzh,yz3,yz7,yz8,yz9,yzk,yzj,List.range_zero,yz6,yz4,yze,yzs,yzl,yzq,AVal.fresh,freshL,yz1,yzi,AObj.fresh,id,Option.isSome_some,or_true,true_or,go_sem,yz0,xx9,xx8,xx6,xx7,xx5,xx0,xx1,xx2,reduceIte,xx3,xx4,reduceCtorEq]
      exact ⟨n,A2 ++ (m,cur) :: C2,v,a,s,fun _=>D1,by simp;omega,hn.1,hn.2,hr2,ha'.1,ha'.2,rfl,by simp,rfl⟩
    · refine ⟨[.rf 10 A2.length 901],gwp_rf (k:=1) (nn:=true) rfl (own_get rfl) (by decide) rfl fun hf=>?_⟩
      have D1:=key hf
      simp only [hset4,frNm_t,rwp_cat,gwp_nil,yzu,yz2,go_sem,yz0,xx9,xx8,xx6,xx7,xx5,xx0,xx1,xx2,reduceIte,xx3,xx4,reduceCtorEq]
      intro vs U hN
      simp only [← hQ,Aza,go_sem,yz0,xx9,xx8,xx6,xx7,xx5,xx0,xx1,xx2,reduceIte,xx3,xx4,reduceCtorEq]
      refine ⟨[10],by simp,by simp,by simp,?_⟩
      simp only [range1,List.length_singleton,renL_rwp,Nat.not_lt_zero,range1,yzv,yz13,yz1e,yz1c,yz12,yz1d,yz1f,yz1b,yz11,yzo,yzf,yz5,yzr,yzp,yzn,yzm,yzt,yzc,yzb,yzd,yza,yzg,yzh,yz3,yz7,yz8,yz9,yzk,yzj,List.range_zero,yz6,yz4,yze,yzs,yzl,yzq,AVal.fresh,freshL,yz1,yzi,AObj.fresh,id,Option.isSome_some,or_true,true_or,go_sem,yz0,xx9,xx8,xx6,xx7,xx5,xx0,xx1,xx2,reduceIte,xx3,xx4,reduceCtorEq]
      exact ⟨n,A2 ++ (m,cur) :: C2,v,a,s,fun _=>D1,by simp;omega,hn.1,hn.2,hr2,ha'.1,ha'.2,rfl,by simp,rfl⟩
  have h4:∀ (σ:St) (v2 v3:Nat) (r v:Nat) (o6 o10:AObj) (a s n:Int) (ps:List (Nat×List Int)),
      Aut n (ps.map (·.2))→DJ ps→at_≤a∧a≤at_+2500→(r=6∧o6=.row v 1 true (rwp ps)∨r=10∧o10=.row v 1 true (rwp ps)) →
      σ.keep [0,2,3] [2,3,6,10,61,73,77,5000,901]=⟨L .any [(0,.ptr 5000 0 0),(2,.ptr 2 v2 0),(3,.ptr 3 v3 0)],
        L .gone [(2,.box v2 [iv 0,.val (.slice none 0 0)]),(3,.box v3 [iv n,.own r v]),(6,o6),(10,o10),(61,.gone),(73,.gone),(77,.gone),(5000,.box 0 (srcC code a s)),(901,.gone)]⟩ →
      wpD Tryz.prog Bz79 Q σ:=by
    intro σ v2 v3 r v o6 o10 a s n ps A hd ha' hrv hS
    unfold Bz79
    rw [yzu,hS]
    have l1:=A.l1
    have l2:=A.l2
    have n1:=A.n1
    have n2:=A.n2
    rw [List.length_map] at l1 l2
    rcases hrv with ⟨rfl,rfl⟩ | ⟨rfl,rfl⟩
    · simp only [rwp_len,yzu,yz2,go_sem,yz0,xx9,xx8,xx6,xx7,xx5,xx0,xx1,xx2,reduceIte,xx3,xx4,reduceCtorEq]
      intro vs U hN hM
      refine call_funB (k_pick code a s ps.length hb (by omega)) rfl qCS qCS ?_
      rintro cs' x ⟨a1,s1,at1,rfl,e1,e2,rfl,e3,e4⟩
      have hat:at1.toNat<ps.length:=by omega
      simp only [Bz78,yzu,yz2,go_sem,yz0,xx9,xx8,xx6,xx7,xx5,xx0,xx1,xx2,reduceIte,xx3,xx4,reduceCtorEq]
      intro vs1 U1 hN1
      refine call_funB (k_pick code a1 s1 24 hb (by omega)) rfl qCS qCS ?_
      rintro cs' x ⟨a2,s2,kd,rfl,f1,f2,rfl,f3,f4⟩
      have hps:∀ p∈ps,p.2.length≤10:=fun p hp=>by have:=(A.row p.2 (List.mem_map.2 ⟨p,hp,rfl⟩)).1;omega
      by_cases k0:kd=0
      · subst k0
        have w1:IntKind.i64.wrap (n+1)=n+1:=w64 (by omega)
        simp only [Bz2,Bz1,w1,beq_self_eq_true,yzu,yz2,go_sem,yz0,xx9,xx8,xx6,xx7,xx5,xx0,xx1,xx2,reduceIte,xx3,xx4,reduceCtorEq]
        intro vs2 U2 hN2 vs3 U3 hN3
        refine ⟨⟨⟨_,rfl,rfl⟩,⟨_,rfl,rfl⟩,⟨_,rfl,rfl⟩,_,rfl,rfl⟩,?_⟩
        refine call_boxrow (r:=5000) (q:=24) (k_among code a2 s2 [0,-1,n+1,11] hb (by omega) (by simp)) rfl rfl (by decide) qCS (by simp only [yzw,yz16,and_true,Coe];exact ⟨⟨0,_,_,rfl,rfl,rfl,rfl,rfl⟩,1,_,_,rfl,rfl,rfl,rfl,rfl⟩) ?_
        rintro cs' x ⟨a3,s3,b3,rfl,g3,g4,rfl,g5⟩
        have hb3:-1≤b3∧b3≤11:=by simp at g5;omega
        simp only [go_sem,yz0,xx9,xx8,xx6,xx7,xx5,xx0,xx1,xx2,reduceIte,xx3,xx4,reduceCtorEq]
        exact h12 _ v2 v3 6 v _ o10 .gone .gone .gone a3 s3 b3 ps (fun _=>hd) (by omega) hb3 hps (by omega) (.inl ⟨rfl,rfl⟩) (by simp only [go_sem,yz0,xx9,xx8,xx6,xx7,xx5,xx0,xx1,xx2,reduceIte,xx3,xx4,reduceCtorEq];try rfl)
      by_cases k1:kd=1
      · subst k1
        simp only [beq_false_of_ne (show (1:Int)≠0 by omega),Bz2,Bz1,Bz4,rwp_getD hat,St.bound,List.take_length,beq_self_eq_true,yzu,yz2,go_sem,yz0,xx9,xx8,xx6,xx7,xx5,xx0,xx1,xx2,reduceIte,xx3,xx4,reduceCtorEq]
        intro _ _ _ _ _ _ vs4 U4 hN4
        have hlw:(rwp ps).length=ps.length:=rwp_len
        have hrl:=(A.row _ (List.mem_map.2 ⟨_,yzz hat (0,[]),rfl⟩)).1
        refine ⟨⟨e3,by omega⟩,by omega,⟨by omega,Nat.le_refl _⟩,⟨e3,by omega⟩,by omega,?_⟩
        have ed:List.drop 1 (ints (ps.getD at1.toNat (0,[])).2)=ints ((ps.getD at1.toNat (0,[])).2.drop 1):=by simp only [List.map_drop]
        rw [ed,rwp_putN (p:=((ps.getD at1.toNat (0,[])).1,(ps.getD at1.toNat (0,[])).2.drop 1))]
        have hlp:(ps.take at1.toNat ++ [((ps.getD at1.toNat (0,[])).1,(ps.getD at1.toNat (0,[])).2.drop 1)] ++ ps.drop (at1.toNat+1)).length=ps.length:=by
          simp only [List.length_append,List.length_take,List.length_drop,List.length_singleton];omega
        exact h12 _ v2 v3 6 v _ o10 .gone .gone .gone a2 s2 n _ (fun _=>DJ_set (xs:=(ps.getD at1.toNat (0,[])).2.drop 1) hat hd fun e=>by rw [e];rfl) (by rw [hlp];omega) (by omega) (fun p hp=>by
          simp only [List.mem_append,List.mem_singleton] at hp
          rcases hp with (hp | rfl) | hp
          · exact hps p (List.mem_of_mem_take hp)
          · have:=hps _ (yzz hat (0,[]));simp only [List.length_drop];omega
          · exact hps p (List.mem_of_mem_drop hp)) (by omega) (.inl ⟨rfl,rfl⟩) (by simp only [go_sem,yz0,xx9,xx8,xx6,xx7,xx5,xx0,xx1,xx2,reduceIte,xx3,xx4,reduceCtorEq];try rfl)
      by_cases k2:kd=2
      · subst k2
        obtain ⟨A2,b,C2,rfl,hAk⟩:=rwp_split hat
        have hbr:=A.row b.2 (by simp)
        have hbn:b.2≠[]:=fun e=>by rw [e] at hbr;simp at hbr;omega
        have hbl:0<b.2.length:=by omega
        have F0:=DJ_out hd hbn
        have F0a:∀ p∈A2 ++ C2,p.2=[]∨p.1≠b.1:=F0
        simp only [beq_false_of_ne (show (2:Int)≠0 by omega),beq_false_of_ne (show (2:Int)≠1 by omega),Bz2,Bz1,Bz4,yzu,yz2,go_sem,yz0,xx9,xx8,xx6,xx7,xx5,xx0,xx1,xx2,reduceIte,xx3,xx4,reduceCtorEq]
        intro _ _ _ _ _ _ _ _ _
        simp only [beq_self_eq_true,Bz6,yzu,wpD_gh,go_sem,yz0,xx9,xx8,xx6,xx7,xx5,xx0,xx1,xx2,reduceIte,xx3,xx4,reduceCtorEq]
        intro _
        refine ⟨[.thaw 6 at1.toNat 901],gwp_thaw (n:=b.1) rfl (rwp_get hAk.symm) (by simpa using hbn) rfl fun m1=>?_⟩
        have hset:(woL b.1 (rwp (A2 ++ b :: C2))).set at1.toNat (AVal.own 901 m1)=rwp A2 ++ AVal.own 901 m1 :: rwp C2:=by rw [← hAk];exact woL_set F0a
        have ho1:(rwp A2 ++ AVal.own 901 m1 :: rwp C2).getD at1.toNat .any=.own 901 m1:=own_at hAk.symm
        have hol:(rwp A2 ++ AVal.own 901 m1 :: rwp C2).length=A2.length+(C2.length+1):=by rw [List.length_append,List.length_cons,rwp_len,rwp_len]
        have hkl:at1.toNat<(rwp A2 ++ AVal.own 901 m1 :: rwp C2).length:=by omega
        simp only [hset,woT,woO,woL_cons,woL_nil,woV_val,woV_own,wo_ptr,wo_o,woL_ints,wo_st,woO_row,woO_box,woO_gone,wo_any,gwp_nil,yzu,yz2,go_sem,yz0,xx9,xx8,xx6,xx7,xx5,xx0,xx1,xx2,reduceIte,xx3,xx4,reduceCtorEq]
        intro vs4 U4 hN4
        simp only [ho1,go_sem,yz0,xx9,xx8,xx6,xx7,xx5,xx0,xx1,xx2,reduceIte,xx3,xx4,reduceCtorEq]
        refine ⟨⟨e3,hkl⟩,hkl,⟨⟨_,rfl,rfl⟩,_,rfl,rfl⟩,?_⟩
        refine call_boxrowN (r:=5000) (q:=49) (cs0:=srcC code a2 s2) (k_among code a2 s2 [-1,n] hb (by omega) (by simp)) rfl rfl (by simp) (by decide) qCS (by simp only [yzw,yz16,and_true,Coe];exact ⟨⟨0,_,_,rfl,rfl,rfl,rfl,rfl⟩,1,_,_,rfl,rfl,rfl,rfl,rfl⟩) ⟨srcC code a2 0,.int .i64 n,⟨a2,0,n,rfl,by omega,by omega,rfl,by simp⟩,flat_srcC⟩ ?_
        rintro cs' x ⟨a3,s3,b3,rfl,g3,g4,rfl,g5⟩
        simp only [yzu,yz2,go_sem,yz0,xx9,xx8,xx6,xx7,xx5,xx0,xx1,xx2,reduceIte,xx3,xx4,reduceCtorEq]
        refine ⟨hbl,hbl,?_⟩
        have ed:AVal.val (.int .i64 b3) :: List.drop 1 (ints b.2)=ints (b3 :: b.2.drop 1):=by simp [List.map_drop]
        rw [ed]
        exact h12b _ v2 v3 6 v m1 _ (AObj.wo b.1 o10) a3 s3 n A2 C2 b (b3 :: b.2.drop 1) hd (by omega) (by omega) (fun p hp=>hps p (by simp only [List.mem_append,List.mem_cons] at hp ⊢;rcases hp with h | h <;> simp [h])) (by simp only [List.length_cons,List.length_drop];omega) (by omega) (.inl ⟨rfl,rfl⟩) (by simp only [go_sem,yz0,xx9,xx8,xx6,xx7,xx5,xx0,xx1,xx2,reduceIte,xx3,xx4,reduceCtorEq];try rfl)
      by_cases k3:kd=3
      · subst k3
        have h00:0<ps.length:=by omega
        simp only [beq_false_of_ne (show (3:Int)≠0 by omega),beq_false_of_ne (show (3:Int)≠1 by omega),Bz2,Bz1,Bz4,yzu,yz2,go_sem,yz0,xx9,xx8,xx6,xx7,xx5,xx0,xx1,xx2,reduceIte,xx3,xx4,reduceCtorEq]
        intro _ _ _ _ _ _ _ _ _
        simp only [beq_false_of_ne (show (3:Int)≠2 by omega),Bz6,yzu,wpD_gh,go_sem,yz0,xx9,xx8,xx6,xx7,xx5,xx0,xx1,xx2,reduceIte,xx3,xx4,reduceCtorEq]
        intro _
        refine ⟨[],?_⟩
        simp only [beq_self_eq_true,Bz9,rwp_getD h00,gwp_nil,yzu,yz2,go_sem,yz0,xx9,xx8,xx6,xx7,xx5,xx0,xx1,xx2,reduceIte,xx3,xx4,reduceCtorEq]
        intro _ _ _ vs9 U9 hN9
        have hlw:(rwp ps).length=ps.length:=rwp_len
        refine ⟨by omega,by omega,by omega,by omega,by omega,by omega,by omega,by rw [List.length_append,List.length_singleton];omega,?_⟩
        generalize hp0:ps.getD 0 (0,[])=p0
        have hp0m:p0∈ps:=hp0 ▸ yzz h00 (0,[])
        have e5:rwp ps ++ [AVal.ro (some (some (p0.1+1))) 1 (ints p0.2)] ++ [AVal.ro (some (some (p0.1+1))) 1 (ints p0.2),AVal.ro (some (some (p0.1+1))) 1 (ints p0.2)]=rwp (ps ++ [p0] ++ [p0,p0]):=by simp only [rwp,List.map_append,List.map_cons,List.map_nil]
        rw [e5]
        have hl6:(ps ++ [p0] ++ [p0,p0]).length=ps.length+3:=by simp
        exact h12 _ v2 v3 6 (vs9 19 0) _ o10 .gone .gone .gone a2 s2 n (ps ++ [p0] ++ [p0,p0]) (fun h=>absurd h (by omega)) (by omega) (by omega) (fun p hp=>by
          simp only [List.mem_append,List.mem_cons,List.not_mem_nil,or_false] at hp
          rcases hp with (hp | rfl) | rfl | rfl
          · exact hps p hp
          · exact hps _ hp0m
          · exact hps _ hp0m
          · exact hps _ hp0m) (by omega) (.inl ⟨rfl,rfl⟩) (by simp only [go_sem,yz0,xx9,xx8,xx6,xx7,xx5,xx0,xx1,xx2,reduceIte,xx3,xx4,reduceCtorEq];try rfl)
      by_cases k4:kd=4
      · subst k4
        simp only [beq_false_of_ne (show (4:Int)≠0 by omega),beq_false_of_ne (show (4:Int)≠1 by omega),Bz2,Bz1,Bz4,yzu,yz2,go_sem,yz0,xx9,xx8,xx6,xx7,xx5,xx0,xx1,xx2,reduceIte,xx3,xx4,reduceCtorEq]
        intro _ _ _ _ _ _ _ _ _
        simp only [beq_false_of_ne (show (4:Int)≠2 by omega),Bz6,yzu,wpD_gh,go_sem,yz0,xx9,xx8,xx6,xx7,xx5,xx0,xx1,xx2,reduceIte,xx3,xx4,reduceCtorEq]
        intro _
        refine ⟨[],?_⟩
        simp only [beq_false_of_ne (show (4:Int)≠3 by omega),Bz9,Bzy,beq_self_eq_true,gwp_nil,yzu,yz2,go_sem,yz0,xx9,xx8,xx6,xx7,xx5,xx0,xx1,xx2,reduceIte,xx3,xx4,reduceCtorEq]
        intro _ _ _ _ _ _ vs9 U9 hN9
        exact h12 _ v2 v3 77 (vs9 0 0) _ o10 .gone .gone _ a2 s2 n [] (fun _=>by simp [DJ]) (by simp) (by omega) (by simp) (by omega) (.inr (.inr ⟨rfl,rfl⟩)) (by simp only [rwp_nil,go_sem,yz0,xx9,xx8,xx6,xx7,xx5,xx0,xx1,xx2,reduceIte,xx3,xx4,reduceCtorEq];try rfl)
      simp only [beq_false_of_ne k0,beq_false_of_ne k1,Bz2,Bz1,Bz4,yzu,yz2,go_sem,yz0,xx9,xx8,xx6,xx7,xx5,xx0,xx1,xx2,reduceIte,xx3,xx4,reduceCtorEq]
      intro _ _ _ _ _ _ _ _ _
      simp only [beq_false_of_ne k2,Bz6,yzu,wpD_gh,go_sem,yz0,xx9,xx8,xx6,xx7,xx5,xx0,xx1,xx2,reduceIte,xx3,xx4,reduceCtorEq]
      intro _
      refine ⟨[],?_⟩
      simp only [beq_false_of_ne k3,beq_false_of_ne k4,Bz9,Bzy,gwp_nil,yzu,yz2,go_sem,yz0,xx9,xx8,xx6,xx7,xx5,xx0,xx1,xx2,reduceIte,xx3,xx4,reduceCtorEq]
      intro _ _ _ _ _ _
      exact h12 _ v2 v3 6 v _ o10 .gone .gone .gone a2 s2 n ps (fun _=>hd) (by omega) (by omega) hps (by omega) (.inl ⟨rfl,rfl⟩) (by simp only [go_sem,yz0,xx9,xx8,xx6,xx7,xx5,xx0,xx1,xx2,reduceIte,xx3,xx4,reduceCtorEq];try rfl)
    · simp only [rwp_len,yzu,yz2,go_sem,yz0,xx9,xx8,xx6,xx7,xx5,xx0,xx1,xx2,reduceIte,xx3,xx4,reduceCtorEq]
      intro vs U hN hM
      refine call_funB (k_pick code a s ps.length hb (by omega)) rfl qCS qCS ?_
      rintro cs' x ⟨a1,s1,at1,rfl,e1,e2,rfl,e3,e4⟩
      have hat:at1.toNat<ps.length:=by omega
      simp only [Bz78,yzu,yz2,go_sem,yz0,xx9,xx8,xx6,xx7,xx5,xx0,xx1,xx2,reduceIte,xx3,xx4,reduceCtorEq]
      intro vs1 U1 hN1
      refine call_funB (k_pick code a1 s1 24 hb (by omega)) rfl qCS qCS ?_
      rintro cs' x ⟨a2,s2,kd,rfl,f1,f2,rfl,f3,f4⟩
      have hps:∀ p∈ps,p.2.length≤10:=fun p hp=>by have:=(A.row p.2 (List.mem_map.2 ⟨p,hp,rfl⟩)).1;omega
      by_cases k0:kd=0
      · subst k0
        have w1:IntKind.i64.wrap (n+1)=n+1:=w64 (by omega)
        simp only [Bz2,Bz1,w1,beq_self_eq_true,yzu,yz2,go_sem,yz0,xx9,xx8,xx6,xx7,xx5,xx0,xx1,xx2,reduceIte,xx3,xx4,reduceCtorEq]
        intro vs2 U2 hN2 vs3 U3 hN3
        refine ⟨⟨⟨_,rfl,rfl⟩,⟨_,rfl,rfl⟩,⟨_,rfl,rfl⟩,_,rfl,rfl⟩,?_⟩
        refine call_boxrow (r:=5000) (q:=24) (k_among code a2 s2 [0,-1,n+1,11] hb (by omega) (by simp)) rfl rfl (by decide) qCS (by simp only [yzw,yz16,and_true,Coe];exact ⟨⟨0,_,_,rfl,rfl,rfl,rfl,rfl⟩,1,_,_,rfl,rfl,rfl,rfl,rfl⟩) ?_
        rintro cs' x ⟨a3,s3,b3,rfl,g3,g4,rfl,g5⟩
        have hb3:-1≤b3∧b3≤11:=by simp at g5;omega
        simp only [go_sem,yz0,xx9,xx8,xx6,xx7,xx5,xx0,xx1,xx2,reduceIte,xx3,xx4,reduceCtorEq]
        exact h12 _ v2 v3 10 v o6 _ .gone .gone .gone a3 s3 b3 ps (fun _=>hd) (by omega) hb3 hps (by omega) (.inr (.inl ⟨rfl,rfl⟩)) (by simp only [go_sem,yz0,xx9,xx8,xx6,xx7,xx5,xx0,xx1,xx2,reduceIte,xx3,xx4,reduceCtorEq];try rfl)
      by_cases k1:kd=1
      · subst k1
        simp only [beq_false_of_ne (show (1:Int)≠0 by omega),Bz2,Bz1,Bz4,rwp_getD hat,St.bound,List.take_length,beq_self_eq_true,yzu,yz2,go_sem,yz0,xx9,xx8,xx6,xx7,xx5,xx0,xx1,xx2,reduceIte,xx3,xx4,reduceCtorEq]
        intro _ _ _ _ _ _ vs4 U4 hN4
        have hlw:(rwp ps).length=ps.length:=rwp_len
        have hrl:=(A.row _ (List.mem_map.2 ⟨_,yzz hat (0,[]),rfl⟩)).1
        refine ⟨⟨e3,by omega⟩,by omega,⟨by omega,Nat.le_refl _⟩,⟨e3,by omega⟩,by omega,?_⟩
        have ed:List.drop 1 (ints (ps.getD at1.toNat (0,[])).2)=ints ((ps.getD at1.toNat (0,[])).2.drop 1):=by simp only [List.map_drop]
        rw [ed,rwp_putN (p:=((ps.getD at1.toNat (0,[])).1,(ps.getD at1.toNat (0,[])).2.drop 1))]
        have hlp:(ps.take at1.toNat ++ [((ps.getD at1.toNat (0,[])).1,(ps.getD at1.toNat (0,[])).2.drop 1)] ++ ps.drop (at1.toNat+1)).length=ps.length:=by
          simp only [List.length_append,List.length_take,List.length_drop,List.length_singleton];omega
        exact h12 _ v2 v3 10 v o6 _ .gone .gone .gone a2 s2 n _ (fun _=>DJ_set (xs:=(ps.getD at1.toNat (0,[])).2.drop 1) hat hd fun e=>by rw [e];rfl) (by rw [hlp];omega) (by omega) (fun p hp=>by
          simp only [List.mem_append,List.mem_singleton] at hp
          rcases hp with (hp | rfl) | hp
          · exact hps p (List.mem_of_mem_take hp)
          · have:=hps _ (yzz hat (0,[]));simp only [List.length_drop];omega
          · exact hps p (List.mem_of_mem_drop hp)) (by omega) (.inr (.inl ⟨rfl,rfl⟩)) (by simp only [go_sem,yz0,xx9,xx8,xx6,xx7,xx5,xx0,xx1,xx2,reduceIte,xx3,xx4,reduceCtorEq];try rfl)
      by_cases k2:kd=2
      · subst k2
        obtain ⟨A2,b,C2,rfl,hAk⟩:=rwp_split hat
        have hbr:=A.row b.2 (by simp)
        have hbn:b.2≠[]:=fun e=>by rw [e] at hbr;simp at hbr;omega
        have hbl:0<b.2.length:=by omega
        have F0:=DJ_out hd hbn
        have F0a:∀ p∈A2 ++ C2,p.2=[]∨p.1≠b.1:=F0
        simp only [beq_false_of_ne (show (2:Int)≠0 by omega),beq_false_of_ne (show (2:Int)≠1 by omega),Bz2,Bz1,Bz4,yzu,yz2,go_sem,yz0,xx9,xx8,xx6,xx7,xx5,xx0,xx1,xx2,reduceIte,xx3,xx4,reduceCtorEq]
        intro _ _ _ _ _ _ _ _ _
        simp only [beq_self_eq_true,Bz6,yzu,wpD_gh,go_sem,yz0,xx9,xx8,xx6,xx7,xx5,xx0,xx1,xx2,reduceIte,xx3,xx4,reduceCtorEq]
        intro _
        refine ⟨[.thaw 10 at1.toNat 901],gwp_thaw (n:=b.1) rfl (rwp_get hAk.symm) (by simpa using hbn) rfl fun m1=>?_⟩
        have hset:(woL b.1 (rwp (A2 ++ b :: C2))).set at1.toNat (AVal.own 901 m1)=rwp A2 ++ AVal.own 901 m1 :: rwp C2:=by rw [← hAk];exact woL_set F0a
        have ho1:(rwp A2 ++ AVal.own 901 m1 :: rwp C2).getD at1.toNat .any=.own 901 m1:=own_at hAk.symm
        have hol:(rwp A2 ++ AVal.own 901 m1 :: rwp C2).length=A2.length+(C2.length+1):=by rw [List.length_append,List.length_cons,rwp_len,rwp_len]
        have hkl:at1.toNat<(rwp A2 ++ AVal.own 901 m1 :: rwp C2).length:=by omega
        simp only [hset,woT,woO,woL_cons,woL_nil,woV_val,woV_own,wo_ptr,wo_o,woL_ints,wo_st,woO_row,woO_box,woO_gone,wo_any,gwp_nil,yzu,yz2,go_sem,yz0,xx9,xx8,xx6,xx7,xx5,xx0,xx1,xx2,reduceIte,xx3,xx4,reduceCtorEq]
        intro vs4 U4 hN4
        simp only [ho1,go_sem,yz0,xx9,xx8,xx6,xx7,xx5,xx0,xx1,xx2,reduceIte,xx3,xx4,reduceCtorEq]
        refine ⟨⟨e3,hkl⟩,hkl,⟨⟨_,rfl,rfl⟩,_,rfl,rfl⟩,?_⟩
        refine call_boxrowN (r:=5000) (q:=49) (cs0:=srcC code a2 s2) (k_among code a2 s2 [-1,n] hb (by omega) (by simp)) rfl rfl (by simp) (by decide) qCS (by simp only [yzw,yz16,and_true,Coe];exact ⟨⟨0,_,_,rfl,rfl,rfl,rfl,rfl⟩,1,_,_,rfl,rfl,rfl,rfl,rfl⟩) ⟨srcC code a2 0,.int .i64 n,⟨a2,0,n,rfl,by omega,by omega,rfl,by simp⟩,flat_srcC⟩ ?_
        rintro cs' x ⟨a3,s3,b3,rfl,g3,g4,rfl,g5⟩
        simp only [yzu,yz2,go_sem,yz0,xx9,xx8,xx6,xx7,xx5,xx0,xx1,xx2,reduceIte,xx3,xx4,reduceCtorEq]
        refine ⟨hbl,hbl,?_⟩
        have ed:AVal.val (.int .i64 b3) :: List.drop 1 (ints b.2)=ints (b3 :: b.2.drop 1):=by simp [List.map_drop]
        rw [ed]
        exact h12b _ v2 v3 10 v m1 (AObj.wo b.1 o6) _ a3 s3 n A2 C2 b (b3 :: b.2.drop 1) hd (by omega) (by omega) (fun p hp=>hps p (by simp only [List.mem_append,List.mem_cons] at hp ⊢;rcases hp with h | h <;> simp [h])) (by simp only [List.length_cons,List.length_drop];omega) (by omega) (.inr ⟨rfl,rfl⟩) (by simp only [go_sem,yz0,xx9,xx8,xx6,xx7,xx5,xx0,xx1,xx2,reduceIte,xx3,xx4,reduceCtorEq];try rfl)
      by_cases k3:kd=3
      · subst k3
        have h00:0<ps.length:=by omega
        simp only [beq_false_of_ne (show (3:Int)≠0 by omega),beq_false_of_ne (show (3:Int)≠1 by omega),Bz2,Bz1,Bz4,yzu,yz2,go_sem,yz0,xx9,xx8,xx6,xx7,xx5,xx0,xx1,xx2,reduceIte,xx3,xx4,reduceCtorEq]
        intro _ _ _ _ _ _ _ _ _
        simp only [beq_false_of_ne (show (3:Int)≠2 by omega),Bz6,yzu,wpD_gh,go_sem,yz0,xx9,xx8,xx6,xx7,xx5,xx0,xx1,xx2,reduceIte,xx3,xx4,reduceCtorEq]
        intro _
        refine ⟨[],?_⟩
        simp only [beq_self_eq_true,Bz9,rwp_getD h00,gwp_nil,yzu,yz2,go_sem,yz0,xx9,xx8,xx6,xx7,xx5,xx0,xx1,xx2,reduceIte,xx3,xx4,reduceCtorEq]
        intro _ _ _ vs9 U9 hN9
        have hlw:(rwp ps).length=ps.length:=rwp_len
        refine ⟨by omega,by omega,by omega,by omega,by omega,by omega,by omega,by rw [List.length_append,List.length_singleton];omega,?_⟩
        generalize hp0:ps.getD 0 (0,[])=p0
        have hp0m:p0∈ps:=hp0 ▸ yzz h00 (0,[])
        have e5:rwp ps ++ [AVal.ro (some (some (p0.1+1))) 1 (ints p0.2)] ++ [AVal.ro (some (some (p0.1+1))) 1 (ints p0.2),AVal.ro (some (some (p0.1+1))) 1 (ints p0.2)]=rwp (ps ++ [p0] ++ [p0,p0]):=by simp only [rwp,List.map_append,List.map_cons,List.map_nil]
        rw [e5]
        have hl6:(ps ++ [p0] ++ [p0,p0]).length=ps.length+3:=by simp
        exact h12 _ v2 v3 10 (vs9 19 0) o6 _ .gone .gone .gone a2 s2 n (ps ++ [p0] ++ [p0,p0]) (fun h=>absurd h (by omega)) (by omega) (by omega) (fun p hp=>by
          simp only [List.mem_append,List.mem_cons,List.not_mem_nil,or_false] at hp
          rcases hp with (hp | rfl) | rfl | rfl
          · exact hps p hp
          · exact hps _ hp0m
          · exact hps _ hp0m
          · exact hps _ hp0m) (by omega) (.inr (.inl ⟨rfl,rfl⟩)) (by simp only [go_sem,yz0,xx9,xx8,xx6,xx7,xx5,xx0,xx1,xx2,reduceIte,xx3,xx4,reduceCtorEq];try rfl)
      by_cases k4:kd=4
      · subst k4
        simp only [beq_false_of_ne (show (4:Int)≠0 by omega),beq_false_of_ne (show (4:Int)≠1 by omega),Bz2,Bz1,Bz4,yzu,yz2,go_sem,yz0,xx9,xx8,xx6,xx7,xx5,xx0,xx1,xx2,reduceIte,xx3,xx4,reduceCtorEq]
        intro _ _ _ _ _ _ _ _ _
        simp only [beq_false_of_ne (show (4:Int)≠2 by omega),Bz6,yzu,wpD_gh,go_sem,yz0,xx9,xx8,xx6,xx7,xx5,xx0,xx1,xx2,reduceIte,xx3,xx4,reduceCtorEq]
        intro _
        refine ⟨[],?_⟩
        simp only [beq_false_of_ne (show (4:Int)≠3 by omega),Bz9,Bzy,beq_self_eq_true,gwp_nil,yzu,yz2,go_sem,yz0,xx9,xx8,xx6,xx7,xx5,xx0,xx1,xx2,reduceIte,xx3,xx4,reduceCtorEq]
        intro _ _ _ _ _ _ vs9 U9 hN9
        exact h12 _ v2 v3 77 (vs9 0 0) o6 _ .gone .gone _ a2 s2 n [] (fun _=>by simp [DJ]) (by simp) (by omega) (by simp) (by omega) (.inr (.inr ⟨rfl,rfl⟩)) (by simp only [rwp_nil,go_sem,yz0,xx9,xx8,xx6,xx7,xx5,xx0,xx1,xx2,reduceIte,xx3,xx4,reduceCtorEq];try rfl)
      simp only [beq_false_of_ne k0,beq_false_of_ne k1,Bz2,Bz1,Bz4,yzu,yz2,go_sem,yz0,xx9,xx8,xx6,xx7,xx5,xx0,xx1,xx2,reduceIte,xx3,xx4,reduceCtorEq]
      intro _ _ _ _ _ _ _ _ _
      simp only [beq_false_of_ne k2,Bz6,yzu,wpD_gh,go_sem,yz0,xx9,xx8,xx6,xx7,xx5,xx0,xx1,xx2,reduceIte,xx3,xx4,reduceCtorEq]
      intro _
      refine ⟨[],?_⟩
      simp only [beq_false_of_ne k3,beq_false_of_ne k4,Bz9,Bzy,gwp_nil,yzu,yz2,go_sem,yz0,xx9,xx8,xx6,xx7,xx5,xx0,xx1,xx2,reduceIte,xx3,xx4,reduceCtorEq]
      intro _ _ _ _ _ _
      exact h12 _ v2 v3 10 v o6 _ .gone .gone .gone a2 s2 n ps (fun _=>hd) (by omega) (by omega) hps (by omega) (.inr (.inl ⟨rfl,rfl⟩)) (by simp only [go_sem,yz0,xx9,xx8,xx6,xx7,xx5,xx0,xx1,xx2,reduceIte,xx3,xx4,reduceCtorEq];try rfl)
  simp only [Aza,Bzh8,yzu,yz2,go_sem,yz0,xx9,xx8,xx6,xx7,xx5,xx0,xx1,xx2,reduceIte,xx3,xx4,reduceCtorEq]
  intro vs0 U0 hN0 vs1 U1 hN1
  refine call_con (r:=5000) (k_DrawnN code at_ seed 6 hb (by omega) (by omega)) rfl (by simp only [Bool.not_true,rowIs,boxIs,coe_argN,coe_argNs,coe_ro_o,yz16,yzw,coe_any,coe_val,coe_ro,yz18,yz19,coe_st,yz1a,coe_rp,yz17,coe_clo,coe_own0,coe_ptr0,yz15,coeL_rws,coeL_rwn,L_hit,L_miss,L_nil,xx3,ne_eq,reduceCtorEq,not_false_eq_true,true_and,and_true,and_self,exists_eq_left,exists_eq_right,List.mem_cons,List.not_mem_nil,or_false,AObj.row.injEq,AObj.box.injEq,exists_eq_left',exists_and_left,exists_eq,Nat.zero_lt_one,Nat.lt_add_one,List.map_cons,List.map_nil,AObj.ver,xx5,not_true_eq_false]) (by simp only [Bool.not_true,rowIs,boxIs,coe_argN,coe_argNs,coe_ro_o,yz16,yzw,coe_any,coe_val,coe_ro,yz18,yz19,coe_st,yz1a,coe_rp,yz17,coe_clo,coe_own0,coe_ptr0,yz15,coeL_rws,coeL_rwn,L_hit,L_miss,L_nil,xx3,ne_eq,reduceCtorEq,not_false_eq_true,true_and,and_true,and_self,exists_eq_left,exists_eq_right,List.mem_cons,List.not_mem_nil,or_false,AObj.row.injEq,AObj.box.injEq,exists_eq_left',exists_and_left,exists_eq,Nat.zero_lt_one,Nat.lt_add_one,List.map_cons,List.map_nil,AObj.ver,xx5,not_true_eq_false]) ?_
  rintro outs rows res ⟨q,qs,vq,a1,s1,A,hd,hq3,h1,h2,rfl,rfl,rfl⟩
  refine ⟨rfl,by simp,by rw [Option.getD_some,yzl];simp only [go_sem,yz0,xx9,xx8,xx6,xx7,xx5,xx0,xx1,xx2,reduceIte,xx3,xx4,reduceCtorEq],?_⟩
  rw [Option.getD_some,callHp_mr (by omega)]
  have hv0:∀ y,vs1 1 y≠0:=fun y e=>by
    have h:=hN1.hp 5000
    simp only [AObj.uses,go_sem,yz0,xx9,xx8,xx6,xx7,xx5,xx0,xx1,xx2,reduceIte,xx3,xx4,reduceCtorEq] at h
    exact hN1.new 1 y (by rw [e];exact h.1)
  simp only [renL_rwp,Bzh7,yzu,yz2,Nat.not_lt_zero,range1,yzv,yz13,yz1e,yz1c,yz12,yz1d,yz1f,yz1b,yz11,yzo,yzf,yz5,yzr,yzp,yzn,yzm,yzt,yzc,yzb,yzd,yza,yzg,yzh,yz3,yz7,yz8,yz9,yzk,yzj,List.range_zero,yz6,yz4,yze,yzs,yzl,yzq,AVal.fresh,freshL,yz1,yzi,AObj.fresh,id,Option.isSome_some,or_true,true_or,go_sem,yz0,xx9,xx8,xx6,xx7,xx5,xx0,xx1,xx2,reduceIte,xx3,xx4,reduceCtorEq]
  intro vs2 U2 hN2
  clear hN2
  have hsi:=fun l (h:L .gone l 5000=.box 0 (srcC code at_ seed))=>sv_inj (hp:=L .gone l) (r:=5000) h (fun x y e=>(hN1.inj _ _ _ _ e).2) hv0
  have hs0:=fun l (h:L .gone l 5000=.box 0 (srcC code at_ seed))=>(sv_m (s:=vs1 1) h:sv (L .gone l) [5000] (vs1 1) 0=0)
  generalize hl0:[(2,AObj.box (vs0 0 0) [iv 0,AVal.val (Value.slice none 0 0)]),(3,AObj.gone),(6,AObj.gone),(10,AObj.gone),(61,AObj.gone),(73,AObj.gone),(77,AObj.gone),(5000,AObj.box 0 (srcC code at_ seed)),(901,AObj.gone)]=l0
  have hi:=hsi l0 (by rw [← hl0];rfl)
  have h0:=hs0 l0 (by rw [← hl0];rfl)
  generalize sv (L .gone l0) [5000] (vs1 1)=f at hi h0 ⊢
  rw [h0]
  have A0:Aut q ((qs.map fun p=>(f p.1,p.2)).map (·.2)):=by rw [List.map_map];exact A
  have hd0:=hd.ren hi
  generalize (qs.map fun p=>(f p.1,p.2))=ps0 at A0 hd0 ⊢
  refine call_funB (k_one code a1 s1 8 hb (by omega)) rfl qCS qCS ?_
  rintro cs' x ⟨a2,s2,b2,rfl,g1,g2,rfl⟩
  simp only [Bzh6,yzu,yz2,go_sem,yz0,xx9,xx8,xx6,xx7,xx5,xx0,xx1,xx2,reduceIte,xx3,xx4,reduceCtorEq]
  refine ⟨fun _ vs3 U3 hN3=>?_,fun _=>?_⟩
  · refine call_con (r:=5000) (k_DrawnN code a2 s2 10 hb (by omega) (by omega)) rfl (by simp only [Bool.not_true,rowIs,boxIs,coe_argN,coe_argNs,coe_ro_o,yz16,yzw,coe_any,coe_val,coe_ro,yz18,yz19,coe_st,yz1a,coe_rp,yz17,coe_clo,coe_own0,coe_ptr0,yz15,coeL_rws,coeL_rwn,L_hit,L_miss,L_nil,xx3,ne_eq,reduceCtorEq,not_false_eq_true,true_and,and_true,and_self,exists_eq_left,exists_eq_right,List.mem_cons,List.not_mem_nil,or_false,AObj.row.injEq,AObj.box.injEq,exists_eq_left',exists_and_left,exists_eq,Nat.zero_lt_one,Nat.lt_add_one,List.map_cons,List.map_nil,AObj.ver,xx5,not_true_eq_false]) (by simp only [Bool.not_true,rowIs,boxIs,coe_argN,coe_argNs,coe_ro_o,yz16,yzw,coe_any,coe_val,coe_ro,yz18,yz19,coe_st,yz1a,coe_rp,yz17,coe_clo,coe_own0,coe_ptr0,yz15,coeL_rws,coeL_rwn,L_hit,L_miss,L_nil,xx3,ne_eq,reduceCtorEq,not_false_eq_true,true_and,and_true,and_self,exists_eq_left,exists_eq_right,List.mem_cons,List.not_mem_nil,or_false,AObj.row.injEq,AObj.box.injEq,exists_eq_left',exists_and_left,exists_eq,Nat.zero_lt_one,Nat.lt_add_one,List.map_cons,List.map_nil,AObj.ver,xx5,not_true_eq_false]) ?_
    rintro outs rows res ⟨q',qs',vq',a3,s3,A',hd',hq',g3,g4,rfl,rfl,rfl⟩
    refine ⟨rfl,by simp,by rw [Option.getD_some,yzl];simp only [go_sem,yz0,xx9,xx8,xx6,xx7,xx5,xx0,xx1,xx2,reduceIte,xx3,xx4,reduceCtorEq],?_⟩
    rw [Option.getD_some,callHp_mr (by omega)]
    have hv1:∀ y,vs3 1 y≠0:=fun y e=>by
      have h:=hN3.hp 5000
      simp only [AObj.uses,go_sem,yz0,xx9,xx8,xx6,xx7,xx5,xx0,xx1,xx2,reduceIte,xx3,xx4,reduceCtorEq] at h
      exact hN3.new 1 y (by rw [e];exact h.1)
    simp only [renL_rwp,yzu,yz2,Nat.not_lt_zero,range1,yzv,yz13,yz1e,yz1c,yz12,yz1d,yz1f,yz1b,yz11,yzo,yzf,yz5,yzr,yzp,yzn,yzm,yzt,yzc,yzb,yzd,yza,yzg,yzh,yz3,yz7,yz8,yz9,yzk,yzj,List.range_zero,yz6,yz4,yze,yzs,yzl,yzq,AVal.fresh,freshL,yz1,yzi,AObj.fresh,id,Option.isSome_some,or_true,true_or,go_sem,yz0,xx9,xx8,xx6,xx7,xx5,xx0,xx1,xx2,reduceIte,xx3,xx4,reduceCtorEq]
    have hsi:=fun l (h:L .gone l 5000=.box 0 (srcC code a2 s2))=>sv_inj (hp:=L .gone l) (r:=5000) h (fun x y e=>(hN3.inj _ _ _ _ e).2) hv1
    have hs0:=fun l (h:L .gone l 5000=.box 0 (srcC code a2 s2))=>(sv_m (s:=vs3 1) h:sv (L .gone l) [5000] (vs3 1) 0=0)
    generalize hl1:[(2,AObj.box (vs0 0 0) [iv 0,AVal.val (Value.slice none 0 0)]),(3,AObj.box (vs1 2 0) [iv q,.own 6 (f vq)]),(6,AObj.row (f vq) 1 true (rwp ps0)),(10,AObj.gone),(61,AObj.gone),(73,AObj.gone),(77,AObj.gone),(5000,AObj.box 0 (srcC code a2 s2)),(901,AObj.gone)]=l1
    have hi1:=hsi l1 (by rw [← hl1];rfl)
    have h01:=hs0 l1 (by rw [← hl1];rfl)
    generalize sv (L .gone l1) [5000] (vs3 1)=f1 at hi1 h01 ⊢
    rw [h01]
    have A1:Aut q' ((qs'.map fun p=>(f1 p.1,p.2)).map (·.2)):=by rw [List.map_map];exact A'
    have hd1:=hd'.ren hi1
    generalize (qs'.map fun p=>(f1 p.1,p.2))=ps1 at A1 hd1 ⊢
    exact h4 _ (vs0 0 0) (vs1 2 0) 10 (f1 vq') _ _ a3 s3 q' ps1 A1 hd1 (by omega) (.inr ⟨rfl,rfl⟩) (by simp only [← hl1,go_sem,yz0,xx9,xx8,xx6,xx7,xx5,xx0,xx1,xx2,reduceIte,xx3,xx4,reduceCtorEq];try rfl)
  · exact h4 _ (vs0 0 0) (vs1 2 0) 6 (f vq) _ .gone a2 s2 q ps0 A0 hd0 (by omega) (.inl ⟨rfl,rfl⟩) (by simp only [go_sem,yz0,xx9,xx8,xx6,xx7,xx5,xx0,xx1,xx2,reduceIte,xx3,xx4,reduceCtorEq];try rfl)
end Go.Ab
namespace Go.Ab
open Go.Proofs
def FRen (F:Int→List (Nat×List Int)→Prop):Prop:=∀ n ps (f:Nat→Nat),(∀ x y,f x=f y→x=y)→F n ps→F n (ps.map fun p=>(f p.1,p.2))
theorem New.box {vs:Nat→Nat→Nat} {U:Nat→Prop} {σ:St} {r v:Nat} {cs:List AVal} (h:New vs U σ) (hr:σ.hp r=.box v cs) (i y:Nat):vs i y≠v:=fun e=>by
  have h1:=h.hp r
  rw [hr] at h1
  simp only [AObj.uses] at h1
  exact h.new i y (by rw [e];exact h1.1)
theorem call_lo {P:Program} {F:Int→List (Nat×List Int)→Prop} (hF:FRen F) {σ:St} {g:FuncId} {As args:List AVal} {d:Nat} {s:Nat→Nat} {K:St→Prop} {r v:Nat} {code:List Int} {a s0 k:Int}
    (h:Con P g [.box 0 (srcC code a s0)] (.ptr 5000 0 0 :: args) true fun outs rows res=>∃ n ps v a' s',F n ps∧a≤a'∧a'≤a+k∧outs=[.box 0 (srcC code a' s')]∧rows=[.row v 1 true (rwp ps)]∧res=.st [iv n,.own 6000 v])
    (hr:σ.hp r=.box v (srcC code a s0)) (hs:∀ x y,s x=s y→x=y) (hv:∀ y,s y≠v) (hco:CoeL σ.hp [r] false args As) (hd:σ.hp d=.gone)
    (hk:∀ n ps v' a' s',F n ps→a≤a'→a'≤a+k→K (St.put ⟨σ.tm,upd (upd σ.hp r (.box v (srcC code a' s'))) d (.row v' 1 true (rwp ps))⟩ (some d) (.st [iv n,.own d v']))):wpCall P false σ g (.ptr r v 0 :: As) (some d) s K:=by
  have hne:d≠r:=fun e=>by rw [e,hr] at hd;cases hd
  refine call_con (r:=r) h hr (by simp only [Bool.not_true,rowIs,boxIs,coe_argN,coe_argNs,coe_ro_o,yz16,yzw,coe_any,coe_val,coe_ro,yz18,yz19,coe_st,yz1a,coe_rp,yz17,coe_clo,coe_own0,coe_ptr0,yz15,coeL_rws,coeL_rwn,L_hit,L_miss,L_nil,xx3,ne_eq,reduceCtorEq,not_false_eq_true,true_and,and_true,and_self,exists_eq_left,exists_eq_right,List.mem_cons,List.not_mem_nil,or_false,AObj.row.injEq,AObj.box.injEq,exists_eq_left',exists_and_left,exists_eq,Nat.zero_lt_one,Nat.lt_add_one,List.map_cons,List.map_nil,AObj.ver,xx5,not_true_eq_false]) (by rw [Bool.not_true,yzw,coe_ptr0,hr];exact ⟨rfl,hco⟩) ?_
  rintro outs rows res ⟨n,ps,w,a',s',hf,h1,h2,rfl,rfl,rfl⟩
  refine ⟨rfl,by simp,by rw [Option.getD_some,yzl];exact hd,?_⟩
  rw [Option.getD_some,callHp_mr hne]
  have hi:=sv_inj (hp:=σ.hp) (r:=r) hr hs hv
  have h0:sv σ.hp [r] s 0=v:=sv_m hr
  simp only [yzn,yzm,renL_rwp,renL_flat _ flat_srcC,yz1b,yzf,yzo,yzv,List.length_singleton,yz3,h0]
  exact hk n _ _ a' s' (hF n ps _ hi hf) h1 h2
theorem call_lo0 {P:Program} {F:Int→List (Nat×List Int)→Prop} (hF:FRen F) {σ:St} {g:FuncId} {As args:List AVal} {d:Nat} {s:Nat→Nat} {K:St→Prop}
    (h:Con P g [] args true fun outs rows res=>outs=[]∧∃ n v ps,F n ps∧rows=[.row v 1 true (rwp ps)]∧res=.st [iv n,.own 6000 v])
    (hs:∀ x y,s x=s y→x=y) (hco:CoeL σ.hp [] false args As) (hd:σ.hp d=.gone)
    (hk:∀ n ps v',F n ps→K (St.put ⟨σ.tm,upd σ.hp d (.row v' 1 true (rwp ps))⟩ (some d) (.st [iv n,.own d v']))):wpCall P false σ g As (some d) s K:=by
  refine call_sh h hco (fun e=>by cases e) ?_
  rintro outs rows res ⟨rfl,n,w,ps,hf,rfl,rfl⟩
  refine ⟨rfl,by simp,by rw [Option.getD_some,yzl];exact hd,?_⟩
  rw [Option.getD_some,yz4]
  simp only [yzm,renL_rwp,yz1b,yzf,yzo,yzv,List.length_singleton,yz3]
  exact hk n _ _ (hF n ps _ hs hf)
theorem call_lo2 {P:Program} {F:Int→List (Nat×List Int)→Prop} (hF:FRen F) {σ:St} {g:FuncId} {As args:List AVal} {d:Nat} {s:Nat→Nat} {K:St→Prop} {r v:Nat} {code:List Int} {a s0 k:Int}
    (h:Con P g [.box 0 (srcC code a s0)] (.ptr 5000 0 0 :: args) true fun outs rows res=>∃ n ps v w xs a' s',F n ps∧a≤a'∧a'≤a+k∧outs=[.box 0 (srcC code a' s')]∧rows=[.row v 1 true (rwp ps),.row w 1 true (ints xs)]∧res=.tup [.st [iv n,.own 6000 v],.own 6001 w])
    (hr:σ.hp r=.box v (srcC code a s0)) (hs:∀ x y,s x=s y→x=y) (hv:∀ y,s y≠v) (hco:CoeL σ.hp [r] false args As) (hd:σ.hp d=.gone) (hd2:σ.hp (d+1000)=.gone)
    (hk:∀ n ps v' w' xs a' s',F n ps→a≤a'→a'≤a+k→K (St.put ⟨σ.tm,upd (upd (upd σ.hp r (.box v (srcC code a' s'))) d (.row v' 1 true (rwp ps))) (d+1000) (.row w' 1 true (ints xs))⟩ (some d) (.tup [.st [iv n,.own d v'],.own (d+1000) w']))):wpCall P false σ g (.ptr r v 0 :: As) (some d) s K:=by
  have hne:d≠r:=fun e=>by rw [e,hr] at hd;cases hd
  have hne2:d+1000≠r:=fun e=>by rw [e,hr] at hd2;cases hd2
  refine call_con (r:=r) h hr (by simp only [Bool.not_true,rowIs,boxIs,coe_argN,coe_argNs,coe_ro_o,yz16,yzw,coe_any,coe_val,coe_ro,yz18,yz19,coe_st,yz1a,coe_rp,yz17,coe_clo,coe_own0,coe_ptr0,yz15,coeL_rws,coeL_rwn,L_hit,L_miss,L_nil,xx3,ne_eq,reduceCtorEq,not_false_eq_true,true_and,and_true,and_self,exists_eq_left,exists_eq_right,List.mem_cons,List.not_mem_nil,or_false,AObj.row.injEq,AObj.box.injEq,exists_eq_left',exists_and_left,exists_eq,Nat.zero_lt_one,Nat.lt_add_one,List.map_cons,List.map_nil,AObj.ver,xx5,not_true_eq_false]) (by rw [Bool.not_true,yzw,coe_ptr0,hr];exact ⟨rfl,hco⟩) ?_
  rintro outs rows res ⟨n,ps,w,w2,xs,a',s',hf,h1,h2,rfl,rfl,rfl⟩
  refine ⟨rfl,by simp,by rw [Option.getD_some,yzq];exact ⟨hd,hd2⟩,?_⟩
  rw [Option.getD_some,callHp_mrr hne hne2]
  have hi:=sv_inj (hp:=σ.hp) (r:=r) hr hs hv
  have h0:sv σ.hp [r] s 0=v:=sv_m hr
  have e2:([AObj.row w 1 true (rwp ps),AObj.row w2 1 true (ints xs)]:List AObj).length=2:=rfl
  simp only [yzn,yzm,renL_rwp,renL_flat _ flat_srcC,yz1b,yz11,yzf,yzo,yz5,yzv,e2,yz3,yz7,h0]
  exact hk n _ _ _ xs a' s' (hF n ps _ hi hf) h1 h2
def FAut (m:Int) (n:Int) (ps:List (Nat×List Int)):Prop:=Aut n (ps.map (·.2))∧DJ ps∧n≤m
def FLo (n:Int) (ps:List (Nat×List Int)):Prop:=(ps.length≤3→DJ ps)∧ps.length≤10∧-1≤n∧n≤11∧∀ p∈ps,p.2.length≤10
theorem map_named {ps:List (Nat×List Int)} {f:Nat→Nat}:(ps.map fun p=>(f p.1,p.2)).map (·.2)=ps.map (·.2):=by rw [List.map_map];rfl
theorem FAut_ren (m:Int):FRen (FAut m):=by
  rintro n ps f hf ⟨h1,h2,h3⟩
  exact ⟨by rw [map_named];exact h1,h2.ren hf,h3⟩
theorem FLo_ren:FRen FLo:=by
  rintro n ps f hf ⟨h1,h2,h3,h4,h5⟩
  refine ⟨fun h=>(h1 (by simpa using h)).ren hf,by simpa using h2,h3,h4,fun p hp=>?_⟩
  obtain ⟨q,hq,rfl⟩:=List.mem_map.1 hp
  exact h5 q hq
theorem FAut.lo {m n:Int} {ps:List (Nat×List Int)} (h:FAut m n ps):FLo n ps:=by
  obtain ⟨A,hd,hm⟩:=h
  have n1:=A.n1
  have n2:=A.n2
  have l2:=A.l2
  rw [List.length_map] at l2
  exact ⟨fun _=>hd,by omega,by omega,by omega,fun p hp=>by have:=(A.row p.2 (List.mem_map.2 ⟨p,hp,rfl⟩)).1;omega⟩
theorem DJ_refrozen {A2 C2:List (Nat×List Int)} {b:Nat×List Int} {m:Nat} {cur:List Int} (hd:DJ (A2 ++ b :: C2))
    (hf:∀ n k'' cs'',AVal.ro (some (some (n+1))) k'' cs''∈rwp A2 ++ AVal.own 901 m :: rwp C2→cs''≠[]→n≠m):DJ (A2 ++ (m,cur) :: C2):=DJ_in hd fun p hp=>by
  by_cases e:p.2=[]
  · exact .inl e
  · refine .inr (hf p.1 1 (ints p.2) ?_ (by simpa using e))
    rcases List.mem_append.1 hp with h | h
    · exact List.mem_append.2 (.inl (List.mem_map.2 ⟨p,h,rfl⟩))
    · exact List.mem_append.2 (.inr (List.mem_cons.2 (.inr (List.mem_map.2 ⟨p,h,rfl⟩))))
theorem Aut_put {n:Int} {A2 C2:List (Nat×List Int)} {b:Nat×List Int} {u:Nat} {cur:List Int} (A:Aut n ((A2 ++ b :: C2).map (·.2))) (hl:cur.length=b.2.length) (hm:∀ x∈cur,0≤x∧x<n):Aut n ((A2 ++ (u,cur) :: C2).map (·.2)):=by
  have l1:=A.l1
  have l2:=A.l2
  have hbr:=A.row b.2 (by simp)
  refine ⟨A.n1,A.n2,by rw [List.length_map] at l1 ⊢;simpa using l1,by rw [List.length_map] at l2 ⊢;simpa using l2,fun row hr=>?_⟩
  rw [List.map_append,List.map_cons,List.mem_append,List.mem_cons] at hr
  rcases hr with h | h | h
  · exact A.row row (by rw [List.map_append];exact List.mem_append.2 (.inl h))
  · rw [h];exact ⟨by dsimp only;omega,hm⟩
  · exact A.row row (by rw [List.map_append,List.map_cons];exact List.mem_append.2 (.inr (List.mem_cons_of_mem _ h)))
theorem k_l02Drawn (code:List Int) (at_ seed:Int) (hb:∀ x∈code,0≤x∧x≤255) (ha:0≤at_∧at_≤10000) :
    Con Tryz.prog nz3w [.box 0 (srcC code at_ seed)] [.ptr 5000 0 0] true fun outs rows res=>∃ n ps v a' s',FLo n ps∧at_≤a'∧a'≤at_+5000∧outs=[.box 0 (srcC code a' s')]∧rows=[.row v 1 true (rwp ps)]∧res=.st [iv n,.own 6000 v]:=by
  refine con_sh mixed czjr rfl (by simp) ?_
  generalize hQ:finQ _=Q
  simp only [Az8,Bzeb,yzu,yz2,go_sem,yz0,xx9,xx8,xx6,xx7,xx5,xx0,xx1,xx2,reduceIte,xx3,xx4,reduceCtorEq]
  intro vs0 U0 hN0 vs1 U1 hN1
  refine call_funB (k_pick code at_ seed 6 hb (by omega)) rfl qCS qCS ?_
  rintro cs' x ⟨a1,s1,b1,rfl,g1,g2,rfl,g3,g4⟩
  by_cases k0:b1=0
  · subst k0
    simp only [Bzx,Bzw,beq_self_eq_true,yzu,yz2,go_sem,yz0,xx9,xx8,xx6,xx7,xx5,xx0,xx1,xx2,reduceIte,xx3,xx4,reduceCtorEq]
    intro vs2 U2 hN2 vs3 U3 hN3
    refine call_funB (k_pick code a1 s1 6 hb (by omega)) rfl qCS qCS ?_
    rintro cs' x ⟨a2,s2,b2,rfl,g5,g6,rfl,g7,g8⟩
    have w1:IntKind.i64.wrap (2+b2)=2+b2:=w64 (by omega)
    simp only [w1,yzu,yz2,go_sem,yz0,xx9,xx8,xx6,xx7,xx5,xx0,xx1,xx2,reduceIte,xx3,xx4,reduceCtorEq]
    refine call_lo0 (FAut_ren 10) (Con.mono (k_l02SlowN (2+b2) (by omega)) ?_) (fun x y e=>(hN3.inj _ _ _ _ e).2) qCS qGN ?_
    · rintro outs rows res ⟨h1,v,ps,h2,h3,h4,h5⟩
      exact ⟨h1,_,v,ps,⟨h2,h3,by omega⟩,h4,h5⟩
    intro n ps v' hf
    simp only [← hQ,Az8,yzu,yz2,go_sem,yz0,xx9,xx8,xx6,xx7,xx5,xx0,xx1,xx2,reduceIte,xx3,xx4,reduceCtorEq]
    refine ⟨[14],by simp,by simp,by simp,?_⟩
    simp only [range1,List.length_singleton,renL_rwp,Nat.not_lt_zero,range1,yzv,yz13,yz1e,yz1c,yz12,yz1d,yz1f,yz1b,yz11,yzo,yzf,yz5,yzr,yzp,yzn,yzm,yzt,yzc,yzb,yzd,yza,yzg,yzh,yz3,yz7,yz8,yz9,yzk,yzj,List.range_zero,yz6,yz4,yze,yzs,yzl,yzq,AVal.fresh,freshL,yz1,yzi,AObj.fresh,id,Option.isSome_some,or_true,true_or,go_sem,yz0,xx9,xx8,xx6,xx7,xx5,xx0,xx1,xx2,reduceIte,xx3,xx4,reduceCtorEq]
    exact ⟨n,ps,v',a2,s2,hf.lo,by omega,by omega,rfl,by simp,rfl⟩
  by_cases k1:b1=1
  · subst k1
    simp only [beq_false_of_ne (show (1:Int)≠0 by omega),Bzx,Bzw,Bz2r,beq_self_eq_true,yzu,yz2,go_sem,yz0,xx9,xx8,xx6,xx7,xx5,xx0,xx1,xx2,reduceIte,xx3,xx4,reduceCtorEq]
    intro vs2 U2 hN2 vs3 U3 hN3 vs4 U4 hN4
    refine call_lo2 (k:=2000) (FAut_ren 10) (Con.mono (k_l01Alike code a1 s1 hb (by omega)) ?_) rfl (fun x y e=>(hN4.inj _ _ _ _ e).2) (hN4.box (r:=5000) rfl 1) qCS qGN qGN ?_
    · rintro outs rows res ⟨n,ps,v,w,xs,a',s',h1,h2,h3,h4,h5,h6⟩
      exact ⟨n,ps,v,w,xs,a',s',⟨h1,h2,by omega⟩,h4,h5,h6⟩
    intro n ps v' w' xs a2 s2 hf h1 h2
    simp only [yzu,yz2,go_sem,yz0,xx9,xx8,xx6,xx7,xx5,xx0,xx1,xx2,reduceIte,xx3,xx4,reduceCtorEq]
    simp only [Bze7,← hQ,Az8,yzu,yz2,go_sem,yz0,xx9,xx8,xx6,xx7,xx5,xx0,xx1,xx2,reduceIte,xx3,xx4,reduceCtorEq]
    intro vs5 U5 hN5
    refine ⟨[19],by simp,by simp,by simp,?_⟩
    simp only [range1,List.length_singleton,renL_rwp,Nat.not_lt_zero,range1,yzv,yz13,yz1e,yz1c,yz12,yz1d,yz1f,yz1b,yz11,yzo,yzf,yz5,yzr,yzp,yzn,yzm,yzt,yzc,yzb,yzd,yza,yzg,yzh,yz3,yz7,yz8,yz9,yzk,yzj,List.range_zero,yz6,yz4,yze,yzs,yzl,yzq,AVal.fresh,freshL,yz1,yzi,AObj.fresh,id,Option.isSome_some,or_true,true_or,go_sem,yz0,xx9,xx8,xx6,xx7,xx5,xx0,xx1,xx2,reduceIte,xx3,xx4,reduceCtorEq]
    exact ⟨n,ps,v',a2,s2,hf.lo,by omega,by omega,rfl,by simp,rfl⟩
  by_cases k2:b1=2
  · subst k2
    simp only [beq_false_of_ne (show (2:Int)≠0 by omega),beq_false_of_ne (show (2:Int)≠1 by omega),Bzx,Bzw,Bz2r,Bz6a,beq_self_eq_true,yzu,yz2,go_sem,yz0,xx9,xx8,xx6,xx7,xx5,xx0,xx1,xx2,reduceIte,xx3,xx4,reduceCtorEq]
    intro vs2 U2 hN2 vs3 U3 hN3 vs4 U4 hN4 vs5 U5 hN5
    refine call_lo (k:=3000) FLo_ren (Con.mono (k_l01Bent code a1 s1 hb (by omega)) ?_) rfl (fun x y e=>(hN5.inj _ _ _ _ e).2) (hN5.box (r:=5000) rfl 1) qCS qGN ?_
    · rintro outs rows res ⟨n,ps,v,a',s',h1,h2,h3,h4,h5,h6⟩
      exact ⟨n,ps,v,a',s',⟨h1,h2,h3,h4,h5⟩,h6⟩
    intro n ps v' a2 s2 hf h1 h2
    simp only [← hQ,Az8,yzu,yz2,go_sem,yz0,xx9,xx8,xx6,xx7,xx5,xx0,xx1,xx2,reduceIte,xx3,xx4,reduceCtorEq]
    refine ⟨[26],by simp,by simp,by simp,?_⟩
    simp only [range1,List.length_singleton,renL_rwp,Nat.not_lt_zero,range1,yzv,yz13,yz1e,yz1c,yz12,yz1d,yz1f,yz1b,yz11,yzo,yzf,yz5,yzr,yzp,yzn,yzm,yzt,yzc,yzb,yzd,yza,yzg,yzh,yz3,yz7,yz8,yz9,yzk,yzj,List.range_zero,yz6,yz4,yze,yzs,yzl,yzq,AVal.fresh,freshL,yz1,yzi,AObj.fresh,id,Option.isSome_some,or_true,true_or,go_sem,yz0,xx9,xx8,xx6,xx7,xx5,xx0,xx1,xx2,reduceIte,xx3,xx4,reduceCtorEq]
    exact ⟨n,ps,v',a2,s2,hf,by omega,by omega,rfl,by simp,rfl⟩
  simp only [beq_false_of_ne k0,beq_false_of_ne k1,beq_false_of_ne k2,Bzx,Bzw,Bz2r,Bz6a,Bzea,yzu,yz2,go_sem,yz0,xx9,xx8,xx6,xx7,xx5,xx0,xx1,xx2,reduceIte,xx3,xx4,reduceCtorEq]
  intro vs2 U2 hN2 vs3 U3 hN3 vs4 U4 hN4 vs5 U5 hN5
  refine call_lo (k:=1000) (FAut_ren 6) (Con.mono (k_DrawnN code a1 s1 6 hb (by omega) (by omega)) ?_) rfl (fun x y e=>(hN5.inj _ _ _ _ e).2) (hN5.box (r:=5000) rfl 1) qCS qGN ?_
  · rintro outs rows res ⟨n,ps,v,a',s',h1,h2,h3,h4,h5,h6⟩
    exact ⟨n,ps,v,a',s',⟨h1,h2,h3⟩,h4,h5,h6⟩
  intro n ps v' a2 s2 hf h1 h2
  simp only [Bze9,yzu,yz2,go_sem,yz0,xx9,xx8,xx6,xx7,xx5,xx0,xx1,xx2,reduceIte,xx3,xx4,reduceCtorEq]
  intro vs6 U6 hN6
  refine call_funB (k_one code a2 s2 2 hb (by omega)) rfl qCS qCS ?_
  rintro cs' x ⟨a3,s3,b3,rfl,g5,g6,rfl⟩
  obtain ⟨A,hdj,hn6⟩:=hf
  have l1:=A.l1
  have l2:=A.l2
  have n1:=A.n1
  have n2:=A.n2
  rw [List.length_map] at l1 l2
  have hend:∀ (σ:St) (v2 v5:Nat) (ps:List (Nat×List Int)) (a s:Int),FLo n ps→at_≤a∧a≤at_+5000 →
      σ.keep [2,5] [2,3,5,14,19,26,28,1019,5000,901]=⟨L .any [(2,.ptr 2 v2 0),(5,.ptr 5 v5 0)],
        L .gone [(2,.box v2 [iv 0,.val (.slice none 0 0)]),(3,.gone),(5,.box v5 [iv n,.own 28 v']),(14,.gone),(19,.gone),(26,.gone),(28,.row v' 1 true (rwp ps)),(1019,.gone),(5000,.box 0 (srcC code a s)),(901,.gone)]⟩ →
      wpD Tryz.prog Bz2s Q σ:=by
    intro σ v2 v5 ps a s hf ha' hS
    unfold Bz2s
    rw [yzu,hS]
    simp only [wpD_gh]
    intro _
    refine ⟨[],?_⟩
    simp only [gwp_nil,yzu,yz2,go_sem,yz0,xx9,xx8,xx6,xx7,xx5,xx0,xx1,xx2,reduceIte,xx3,xx4,reduceCtorEq]
    intro vs U hN
    simp only [← hQ,Az8,go_sem,yz0,xx9,xx8,xx6,xx7,xx5,xx0,xx1,xx2,reduceIte,xx3,xx4,reduceCtorEq]
    refine ⟨[28],by simp,by simp,by simp,?_⟩
    simp only [range1,List.length_singleton,renL_rwp,Nat.not_lt_zero,range1,yzv,yz13,yz1e,yz1c,yz12,yz1d,yz1f,yz1b,yz11,yzo,yzf,yz5,yzr,yzp,yzn,yzm,yzt,yzc,yzb,yzd,yza,yzg,yzh,yz3,yz7,yz8,yz9,yzk,yzj,List.range_zero,yz6,yz4,yze,yzs,yzl,yzq,AVal.fresh,freshL,yz1,yzi,AObj.fresh,id,Option.isSome_some,or_true,true_or,go_sem,yz0,xx9,xx8,xx6,xx7,xx5,xx0,xx1,xx2,reduceIte,xx3,xx4,reduceCtorEq]
    exact ⟨n,ps,v',a,s,hf,ha'.1,ha'.2,rfl,by simp,rfl⟩
  cases b3 with
  | false =>
    simp only [Bz6b,yzu,yz2,go_sem,yz0,xx9,xx8,xx6,xx7,xx5,xx0,xx1,xx2,reduceIte,xx3,xx4,reduceCtorEq]
    exact hend _ (vs0 0 0) (vs5 2 0) ps a3 s3 (FAut.lo ⟨A,hdj,hn6⟩) (by omega) (by simp only [go_sem,yz0,xx9,xx8,xx6,xx7,xx5,xx0,xx1,xx2,reduceIte,xx3,xx4,reduceCtorEq];try rfl)
  | true =>
    simp only [Bz6b,rwp_len,yzu,yz2,go_sem,yz0,xx9,xx8,xx6,xx7,xx5,xx0,xx1,xx2,reduceIte,xx3,xx4,reduceCtorEq]
    intro vs7 U7 hN7 hM7
    refine call_funB (k_pick code a3 s3 ps.length hb (by omega)) rfl qCS qCS ?_
    rintro cs' x ⟨a4,s4,x0,rfl,g7,g8,rfl,g9,g10⟩
    have hat:x0.toNat<ps.length:=by omega
    obtain ⟨A2,b,C2,rfl,hAk⟩:=rwp_split hat
    have hbr:=A.row b.2 (by simp)
    have hbn:b.2≠[]:=fun e=>by rw [e] at hbr;simp at hbr;omega
    have F0a:=DJ_out hdj hbn
    simp only [Bze8,yzu,wpD_gh,go_sem,yz0,xx9,xx8,xx6,xx7,xx5,xx0,xx1,xx2,reduceIte,xx3,xx4,reduceCtorEq]
    intro _
    refine ⟨[.thaw 28 x0.toNat 901],gwp_thaw (n:=b.1) rfl (rwp_get hAk.symm) (by simpa using hbn) rfl fun m1=>?_⟩
    have hset:(woL b.1 (rwp (A2 ++ b :: C2))).set x0.toNat (AVal.own 901 m1)=rwp A2 ++ AVal.own 901 m1 :: rwp C2:=by rw [← hAk];exact woL_set F0a
    have ho1:(rwp A2 ++ AVal.own 901 m1 :: rwp C2).getD x0.toNat .any=.own 901 m1:=own_at hAk.symm
    have hol:(rwp A2 ++ AVal.own 901 m1 :: rwp C2).length=A2.length+(C2.length+1):=by rw [List.length_append,List.length_cons,rwp_len,rwp_len]
    have hkl:x0.toNat<(rwp A2 ++ AVal.own 901 m1 :: rwp C2).length:=by omega
    simp only [hset,woT,woO,woL_cons,woL_nil,woV_val,woV_own,wo_ptr,wo_o,woL_ints,wo_st,woO_row,woO_box,woO_gone,wo_any,gwp_nil,yzu,yz2,go_sem,yz0,xx9,xx8,xx6,xx7,xx5,xx0,xx1,xx2,reduceIte,xx3,xx4,reduceCtorEq]
    intro vs8 U8 hN8
    simp only [ho1,go_sem,yz0,xx9,xx8,xx6,xx7,xx5,xx0,xx1,xx2,reduceIte,xx3,xx4,reduceCtorEq]
    refine ⟨⟨g9,hkl⟩,hkl,?_⟩
    refine call_funBN (k_pick code a4 s4 n hb (by omega)) rfl (by simp) qCS qCS ⟨srcC code a4 0,.int .i64 0,⟨a4,0,0,rfl,by omega,by omega,rfl,by omega,.inr rfl⟩,flat_srcC⟩ ?_
    rintro cs' x ⟨a5,s5,y1,rfl,p1,p2,rfl,p3,p4⟩
    have hy1:y1.toNat<b.2.length:=by omega
    simp only [ho1,yzu,yz2,go_sem,yz0,xx9,xx8,xx6,xx7,xx5,xx0,xx1,xx2,reduceIte,xx3,xx4,reduceCtorEq]
    refine ⟨⟨g9,hkl⟩,hkl,?_⟩
    refine call_funBN (k_pick code a5 s5 n hb (by omega)) rfl (by simp) qCS qCS ⟨srcC code a5 0,.int .i64 0,⟨a5,0,0,rfl,by omega,by omega,rfl,by omega,.inr rfl⟩,flat_srcC⟩ ?_
    rintro cs' x ⟨a6,s6,y2,rfl,p5,p6,rfl,p7,p8⟩
    have hy2:y2.toNat<b.2.length:=by omega
    simp only [yz10 hy2,yzu,yz2,go_sem,yz0,xx9,xx8,xx6,xx7,xx5,xx0,xx1,xx2,reduceIte,xx3,xx4,reduceCtorEq]
    refine ⟨⟨p7,hy2⟩,hy2,⟨p3,hy1⟩,hy1,?_⟩
    have hcl:=lput_len (xs:=b.2) (v:=b.2.getD y2.toNat 0) hy1
    have hcm:=lput_mem (xs:=b.2) (i:=y1.toNat) (v:=b.2.getD y2.toNat 0) (Q:=fun z=>0≤z∧z<n) hbr.2 (hbr.2 _ (yzz hy2 0))
    simp only [ints_put]
    generalize hcu:b.2.take y1.toNat ++ [b.2.getD y2.toNat 0] ++ b.2.drop (y1.toNat+1)=cur at hcl hcm ⊢
    simp only [Bz2s,yzu,wpD_gh,go_sem,yz0,xx9,xx8,xx6,xx7,xx5,xx0,xx1,xx2,reduceIte,xx3,xx4,reduceCtorEq]
    intro hD
    refine ⟨[.rf 28 x0.toNat 901],gwp_rf (k:=1) (nn:=true) rfl (own_get hAk.symm) (by decide) rfl fun hf=>?_⟩
    have D1:=DJ_refrozen hdj hf (cur:=cur)
    have A1:=Aut_put A (u:=m1) hcl hcm
    have hset4:∀ X:AVal,(rwp A2 ++ AVal.own 901 m1 :: rwp C2).set x0.toNat X=rwp A2 ++ X :: rwp C2:=fun X=>by
      rw [← hAk,List.set_append_right _ _ (by rw [rwp_len];exact Nat.le_refl _),rwp_len,Nat.sub_self];rfl
    simp only [hset4,frNm_t,rwp_cat,gwp_nil,yzu,yz2,go_sem,yz0,xx9,xx8,xx6,xx7,xx5,xx0,xx1,xx2,reduceIte,xx3,xx4,reduceCtorEq]
    intro vs9 U9 hN9
    simp only [← hQ,Az8,go_sem,yz0,xx9,xx8,xx6,xx7,xx5,xx0,xx1,xx2,reduceIte,xx3,xx4,reduceCtorEq]
    refine ⟨[28],by simp,by simp,by simp,?_⟩
    simp only [range1,List.length_singleton,renL_rwp,Nat.not_lt_zero,range1,yzv,yz13,yz1e,yz1c,yz12,yz1d,yz1f,yz1b,yz11,yzo,yzf,yz5,yzr,yzp,yzn,yzm,yzt,yzc,yzb,yzd,yza,yzg,yzh,yz3,yz7,yz8,yz9,yzk,yzj,List.range_zero,yz6,yz4,yze,yzs,yzl,yzq,AVal.fresh,freshL,yz1,yzi,AObj.fresh,id,Option.isSome_some,or_true,true_or,go_sem,yz0,xx9,xx8,xx6,xx7,xx5,xx0,xx1,xx2,reduceIte,xx3,xx4,reduceCtorEq]
    exact ⟨n,A2 ++ (m1,cur) :: C2,v',a6,s6,FAut.lo ⟨A1,D1,hn6⟩,by omega,by omega,rfl,by simp,rfl⟩
theorem k_l03Linked (code:List Int) (at_ seed:Int) (hb:∀ x∈code,0≤x∧x≤255) (ha:0≤at_∧at_≤1000) :
    Con Tryz.prog nz17 [.box 0 (srcC code at_ seed)] [.ptr 5000 0 0] true fun outs rows res=>∃ n ps v a' s',FLo n ps∧at_≤a'∧a'≤at_+6000∧outs=[.box 0 (srcC code a' s')]∧rows=[.row v 1 true (rwp ps)]∧res=.st [iv n,.own 6000 v]:=by
  refine con_sh mixed czj2 rfl (by simp) ?_
  generalize hQ:finQ _=Q
  simp only [Az2a,Bzaz,yzu,yz2,go_sem,yz0,xx9,xx8,xx6,xx7,xx5,xx0,xx1,xx2,reduceIte,xx3,xx4,reduceCtorEq]
  intro vs0 U0 hN0 vs1 U1 hN1
  refine call_lo (k:=5000) FLo_ren (k_l02Drawn code at_ seed hb (by omega)) rfl (fun x y e=>(hN1.inj _ _ _ _ e).2) (hN1.box (r:=5000) rfl 1) qCS qGN ?_
  intro n ps v' a1 s1 hf h1 h2
  have hend:∀ (σ:St) (v2 v3:Nat) (a s:Int),at_≤a∧a≤at_+6000 →
      σ.keep [2,3] [2,3,6,5000,901]=⟨L .any [(2,.ptr 2 v2 0),(3,.ptr 3 v3 0)],
        L .gone [(2,.box v2 [iv 0,.val (.slice none 0 0)]),(3,.box v3 [iv n,.own 6 v']),(6,.row v' 1 true (rwp ps)),(5000,.box 0 (srcC code a s)),(901,.gone)]⟩ →
      wpD Tryz.prog Bz29 Q σ:=by
    intro σ v2 v3 a s ha' hS
    unfold Bz29
    rw [yzu,hS]
    simp only [wpD_gh]
    intro _
    refine ⟨[],?_⟩
    simp only [gwp_nil,yzu,yz2,go_sem,yz0,xx9,xx8,xx6,xx7,xx5,xx0,xx1,xx2,reduceIte,xx3,xx4,reduceCtorEq]
    intro vs U hN
    simp only [← hQ,Az2a,go_sem,yz0,xx9,xx8,xx6,xx7,xx5,xx0,xx1,xx2,reduceIte,xx3,xx4,reduceCtorEq]
    refine ⟨[6],by simp,by simp,by simp,?_⟩
    simp only [range1,List.length_singleton,renL_rwp,Nat.not_lt_zero,range1,yzv,yz13,yz1e,yz1c,yz12,yz1d,yz1f,yz1b,yz11,yzo,yzf,yz5,yzr,yzp,yzn,yzm,yzt,yzc,yzb,yzd,yza,yzg,yzh,yz3,yz7,yz8,yz9,yzk,yzj,List.range_zero,yz6,yz4,yze,yzs,yzl,yzq,AVal.fresh,freshL,yz1,yzi,AObj.fresh,id,Option.isSome_some,or_true,true_or,go_sem,yz0,xx9,xx8,xx6,xx7,xx5,xx0,xx1,xx2,reduceIte,xx3,xx4,reduceCtorEq]
    exact ⟨n,ps,v',a,s,hf,ha'.1,ha'.2,rfl,by simp,rfl⟩
  simp only [Bzay,yzu,yz2,go_sem,yz0,xx9,xx8,xx6,xx7,xx5,xx0,xx1,xx2,reduceIte,xx3,xx4,reduceCtorEq]
  intro vs2 U2 hN2
  refine yzy (k_l01Ok n (ps.map (·.2))) (by simp only [coeL_rwp_t,rowIs,boxIs,coe_argN,coe_argNs,coe_ro_o,yz16,yzw,coe_any,coe_val,coe_ro,yz18,yz19,coe_st,yz1a,coe_rp,yz17,coe_clo,coe_own0,coe_ptr0,yz15,coeL_rws,coeL_rwn,L_hit,L_miss,L_nil,xx3,ne_eq,reduceCtorEq,not_false_eq_true,true_and,and_true,and_self,exists_eq_left,exists_eq_right,List.mem_cons,List.not_mem_nil,or_false,AObj.row.injEq,AObj.box.injEq,exists_eq_left',exists_and_left,exists_eq,Nat.zero_lt_one,Nat.lt_add_one,List.map_cons,List.map_nil,AObj.ver,xx5,not_true_eq_false]) trivial ?_
  cases hA:autB n (ps.map (·.2)) with
  | false =>
    simp only [Bz28,yzu,yz2,go_sem,yz0,xx9,xx8,xx6,xx7,xx5,xx0,xx1,xx2,reduceIte,xx3,xx4,reduceCtorEq]
    exact hend _ (vs0 0 0) (vs1 2 0) a1 s1 (by omega) (by simp only [go_sem,yz0,xx9,xx8,xx6,xx7,xx5,xx0,xx1,xx2,reduceIte,xx3,xx4,reduceCtorEq];try rfl)
  | true =>
    have A:=autB_iff.1 hA
    have n1:=A.n1
    have n2:=A.n2
    have l1:=A.l1
    have l2:=A.l2
    rw [List.length_map] at l1 l2
    have hdj:DJ ps:=hf.1 l2
    simp only [yzu,yz2,go_sem,yz0,xx9,xx8,xx6,xx7,xx5,xx0,xx1,xx2,reduceIte,xx3,xx4,reduceCtorEq]
    refine call_funB (k_one code a1 s1 4 hb (by omega)) rfl qCS qCS ?_
    rintro cs' x ⟨a2,s2,b2,rfl,g1,g2,rfl⟩
    cases b2 with
    | true =>
      simp only [Bz28,Bool.not_true,yzu,yz2,go_sem,yz0,xx9,xx8,xx6,xx7,xx5,xx0,xx1,xx2,reduceIte,xx3,xx4,reduceCtorEq]
      exact hend _ (vs0 0 0) (vs1 2 0) a2 s2 (by omega) (by simp only [go_sem,yz0,xx9,xx8,xx6,xx7,xx5,xx0,xx1,xx2,reduceIte,xx3,xx4,reduceCtorEq];try rfl)
    | false =>
      obtain ⟨A2,b,C2,rfl,hAk⟩:=rwp_split (show 0<ps.length by omega)
      have hbr:=A.row b.2 (by simp)
      have hbn:b.2≠[]:=fun e=>by rw [e] at hbr;simp at hbr;omega
      have F0a:=DJ_out hdj hbn
      simp only [Bz28,Bool.not_false,yzu,yz2,go_sem,yz0,xx9,xx8,xx6,xx7,xx5,xx0,xx1,xx2,reduceIte,xx3,xx4,reduceCtorEq]
      intro vs3 U3 hN3
      simp only [Bzax,yzu,wpD_gh,go_sem,yz0,xx9,xx8,xx6,xx7,xx5,xx0,xx1,xx2,reduceIte,xx3,xx4,reduceCtorEq]
      intro _
      refine ⟨[.thaw 6 0 901],gwp_thaw (n:=b.1) rfl (rwp_get hAk.symm) (by simpa using hbn) rfl fun m1=>?_⟩
      have hset:(woL b.1 (rwp (A2 ++ b :: C2))).set 0 (AVal.own 901 m1)=rwp A2 ++ AVal.own 901 m1 :: rwp C2:=by rw [← hAk];exact woL_set F0a
      have ho1:(rwp A2 ++ AVal.own 901 m1 :: rwp C2).getD 0 .any=.own 901 m1:=own_at hAk.symm
      have hol:(rwp A2 ++ AVal.own 901 m1 :: rwp C2).length=A2.length+(C2.length+1):=by rw [List.length_append,List.length_cons,rwp_len,rwp_len]
      have hkl:0<(rwp A2 ++ AVal.own 901 m1 :: rwp C2).length:=by omega
      simp only [hset,woT,woO,woL_cons,woL_nil,woV_val,woV_own,wo_ptr,wo_o,woL_ints,wo_st,woO_row,woO_box,woO_gone,wo_any,gwp_nil,yzu,yz2,go_sem,yz0,xx9,xx8,xx6,xx7,xx5,xx0,xx1,xx2,reduceIte,xx3,xx4,reduceCtorEq]
      refine wpD_lp (fun (x:Nat×List Int)=>n.toNat - x.1) (fun x=>(x.1:Int)≤n∧x.2.length=b.2.length∧∀ z∈x.2,0≤z∧z<n)
        (fun (x:Nat×List Int)=>⟨L .any [(2,.ptr 2 (vs0 0 0) 0),(3,.ptr 3 (vs1 2 0) 0),(4,iv x.1)],
          L .gone [(2,.box (vs0 0 0) [iv 0,.val (.slice none 0 0)]),(3,.box (vs1 2 0) [iv n,.own 6 v']),(6,.row v' 1 true (rwp A2 ++ .own 901 m1 :: rwp C2)),(5000,.box 0 (srcC code a2 s2)),(901,.row m1 1 true (ints x.2))]⟩)
        (0,b.2) ⟨by simp;omega,rfl,hbr.2⟩ (by simp only [Bz27,go_sem,yz0,xx9,xx8,xx6,xx7,xx5,xx0,xx1,xx2,reduceIte,xx3,xx4,reduceCtorEq];try rfl) ?_
      rintro ⟨i,cur⟩ ⟨h3,h4,h5⟩
      have h3:(i:Int)≤n:=h3
      have h4:cur.length=b.2.length:=h4
      have h5:∀ z∈cur,0≤z∧z<n:=h5
      by_cases hlt:(i:Int)<n
      · have w1:IntKind.i64.wrap ((i:Int)+1)=((i+1:Nat):Int):=by rw [w64 (by omega)];simp
        have hn0:¬ n=0:=by omega
        have hil:i<cur.length:=by omega
        have t1:=tmod_in (a:=((i+1:Nat):Int)) (n:=n) (by omega) (by omega)
        simp only [Bz27,Bz4y,Bzaw,decide_eq_true hlt,yzu,yz2,go_sem,yz0,xx9,xx8,xx6,xx7,xx5,xx0,xx1,xx2,reduceIte,xx3,xx4,reduceCtorEq]
        intro vs4 U4 hN4 vs5 U5 hN5
        simp only [ho1,w1,hn0,go_sem,yz0,xx9,xx8,xx6,xx7,xx5,xx0,xx1,xx2,reduceIte,xx3,xx4,reduceCtorEq]
        refine ⟨hkl,hkl,⟨by omega,hil⟩,by omega,?_⟩
        have hcl:=lput_len (xs:=cur) (v:=((i+1:Nat):Int).tmod n) hil
        have hcm:=lput_mem (xs:=cur) (i:=i) (v:=((i+1:Nat):Int).tmod n) (Q:=fun z=>0≤z∧z<n) h5 t1
        simp only [ints_put]
        generalize hcu:cur.take i ++ [((i+1:Nat):Int).tmod n] ++ cur.drop (i+1)=cur2 at hcl hcm ⊢
        simp only [Bzav,w1,yzu,yz2,go_sem,yz0,xx9,xx8,xx6,xx7,xx5,xx0,xx1,xx2,reduceIte,xx3,xx4,reduceCtorEq]
        intro vs6 U6 hN6
        exact ⟨(i+1,cur2),by dsimp only;omega,⟨by dsimp only;omega,by dsimp only;omega,hcm⟩,rfl⟩
      · simp only [Bz27,Bz4y,Bz29,decide_eq_false hlt,yzu,yz2,wpD_gh,go_sem,yz0,xx9,xx8,xx6,xx7,xx5,xx0,xx1,xx2,reduceIte,xx3,xx4,reduceCtorEq]
        intro vs4 U4 hN4 hD
        refine ⟨[.rf 6 0 901],gwp_rf (k:=1) (nn:=true) rfl (own_get hAk.symm) (by decide) rfl fun hf2=>?_⟩
        have D1:=DJ_refrozen hdj hf2 (cur:=cur)
        have A1:=Aut_put A (u:=m1) h4 h5
        have hset4:∀ X:AVal,(rwp A2 ++ AVal.own 901 m1 :: rwp C2).set 0 X=rwp A2 ++ X :: rwp C2:=fun X=>by
          rw [← hAk,List.set_append_right _ _ (by rw [rwp_len];exact Nat.le_refl _),rwp_len,Nat.sub_self];rfl
        simp only [hset4,frNm_t,rwp_cat,gwp_nil,yzu,yz2,go_sem,yz0,xx9,xx8,xx6,xx7,xx5,xx0,xx1,xx2,reduceIte,xx3,xx4,reduceCtorEq]
        intro vs9 U9 hN9
        simp only [← hQ,Az2a,go_sem,yz0,xx9,xx8,xx6,xx7,xx5,xx0,xx1,xx2,reduceIte,xx3,xx4,reduceCtorEq]
        refine ⟨[6],by simp,by simp,by simp,?_⟩
        simp only [range1,List.length_singleton,renL_rwp,Nat.not_lt_zero,range1,yzv,yz13,yz1e,yz1c,yz12,yz1d,yz1f,yz1b,yz11,yzo,yzf,yz5,yzr,yzp,yzn,yzm,yzt,yzc,yzb,yzd,yza,yzg,yzh,yz3,yz7,yz8,yz9,yzk,yzj,List.range_zero,yz6,yz4,yze,yzs,yzl,yzq,AVal.fresh,freshL,yz1,yzi,AObj.fresh,id,Option.isSome_some,or_true,true_or,go_sem,yz0,xx9,xx8,xx6,xx7,xx5,xx0,xx1,xx2,reduceIte,xx3,xx4,reduceCtorEq]
        exact ⟨n,A2 ++ (m1,cur) :: C2,v',a2,s2,FAut.lo (m:=10) ⟨A1,D1,by omega⟩,by omega,by omega,rfl,by simp,rfl⟩
theorem k_A2Automaton (code:List Int) (hb:∀ x∈code,0≤x∧x≤255) :
    Con Tryz.prog nz3h [] [.ro (some (some 0)) 1 (intsK .u8 code)] true fun outs rows res=>outs=[]∧∃ n next v,Aut n next∧n≤7∧rows=[.row v 1 true (rws next)]∧res=.st [iv n,.own 6000 v]:=by
  refine con_sh mixed czio rfl (by simp) ?_
  generalize hQ:finQ _=Q
  simp only [Azs,Bz8o,go_sem,yz0,xx9,xx8,xx6,xx7,xx5,xx0,xx1,xx2,reduceIte,xx3,xx4,reduceCtorEq]
  intro vs0 vs1
  refine call_sh (k_from code) qCS (fun e=>by cases e) ?_
  rintro outs rows res ⟨rfl,v,rfl,rfl⟩
  refine ⟨rfl,by simp,by rw [Option.getD_some,yzl];rfl,?_⟩
  simp only [Bz8n,Nat.not_lt_zero,range1,yzv,yz13,yz1e,yz1c,yz12,yz1d,yz1f,yz1b,yz11,yzo,yzf,yz5,yzr,yzp,yzn,yzm,yzt,yzc,yzb,yzd,yza,yzg,yzh,yz3,yz7,yz8,yz9,yzk,yzj,List.range_zero,yz6,yz4,yze,yzs,yzl,yzq,AVal.fresh,freshL,yz1,yzi,AObj.fresh,id,Option.isSome_some,or_true,true_or,go_sem,yz0,xx9,xx8,xx6,xx7,xx5,xx0,xx1,xx2,reduceIte,xx3,xx4,reduceCtorEq]
  intro vs2
  have h:Con Tryz.prog nz17 [.box 0 (srcC code 0 0)] [.ptr 5000 0 0] true fun outs rows res=>∃ n next v a' s',outs=[.box 0 (srcC code a' s')]∧rows=[.row v 1 true (rws next)]∧res=.st [iv n,.own 6000 v]:=by
    refine Con.dnr (k_l03Linked code 0 0 hb (by omega)) ?_
    rintro o r x ⟨n,ps,v,a',s',hf,h1,h2,rfl,rfl,rfl⟩
    refine ⟨n,ps.map (·.2),v,a',s',?_,?_,?_⟩
    · simp only [List.map_cons,List.map_nil,AObj.dn,dnL,AVal.dn,dnL_ints,dnNm]
    · simp only [List.map_cons,List.map_nil,AObj.dn,dnL_rwp]
    · simp only [AVal.dn,dnL]
  refine call_con (r:=6) h rfl (by simp only [Bool.not_true,rowIs,boxIs,coe_argN,coe_argNs,coe_ro_o,yz16,yzw,coe_any,coe_val,coe_ro,yz18,yz19,coe_st,yz1a,coe_rp,yz17,coe_clo,coe_own0,coe_ptr0,yz15,coeL_rws,coeL_rwn,L_hit,L_miss,L_nil,xx3,ne_eq,reduceCtorEq,not_false_eq_true,true_and,and_true,and_self,exists_eq_left,exists_eq_right,List.mem_cons,List.not_mem_nil,or_false,AObj.row.injEq,AObj.box.injEq,exists_eq_left',exists_and_left,exists_eq,Nat.zero_lt_one,Nat.lt_add_one,List.map_cons,List.map_nil,AObj.ver,xx5,not_true_eq_false]) (by simp only [Bool.not_true,rowIs,boxIs,coe_argN,coe_argNs,coe_ro_o,yz16,yzw,coe_any,coe_val,coe_ro,yz18,yz19,coe_st,yz1a,coe_rp,yz17,coe_clo,coe_own0,coe_ptr0,yz15,coeL_rws,coeL_rwn,L_hit,L_miss,L_nil,xx3,ne_eq,reduceCtorEq,not_false_eq_true,true_and,and_true,and_self,exists_eq_left,exists_eq_right,List.mem_cons,List.not_mem_nil,or_false,AObj.row.injEq,AObj.box.injEq,exists_eq_left',exists_and_left,exists_eq,Nat.zero_lt_one,Nat.lt_add_one,List.map_cons,List.map_nil,AObj.ver,xx5,not_true_eq_false]) ?_
  rintro outs rows res ⟨n,next,v',a',s',rfl,rfl,rfl⟩
  refine ⟨rfl,by simp,by rw [Option.getD_some,yzl];simp only [go_sem,yz0,xx9,xx8,xx6,xx7,xx5,xx0,xx1,xx2,reduceIte,xx3,xx4,reduceCtorEq],?_⟩
  rw [Option.getD_some,callHp_mr (by omega)]
  have hslow:Con Tryz.prog nzj [] [iv 4] true fun outs rows res=>outs=[]∧∃ next v,Aut 4 next∧rows=[.row v 1 true (rws next)]∧res=.st [iv 4,.own 6000 v]:=by
    refine Con.dnr (k_l02SlowN 4 (by omega)) ?_
    rintro o r x ⟨rfl,v,ps,hA,hd,rfl,rfl⟩
    refine ⟨rfl,ps.map (·.2),v,hA,?_,?_⟩
    · simp only [List.map_cons,List.map_nil,AObj.dn,dnL_rwp]
    · simp only [AVal.dn,dnL]
  simp only [Bz8m,Nat.not_lt_zero,range1,yzv,yz13,yz1e,yz1c,yz12,yz1d,yz1f,yz1b,yz11,yzo,yzf,yz5,yzr,yzp,yzn,yzm,yzt,yzc,yzb,yzd,yza,yzg,yzh,yz3,yz7,yz8,yz9,yzk,yzj,List.range_zero,yz6,yz4,yze,yzs,yzl,yzq,AVal.fresh,freshL,yz1,yzi,AObj.fresh,id,Option.isSome_some,or_true,true_or,go_sem,yz0,xx9,xx8,xx6,xx7,xx5,xx0,xx1,xx2,reduceIte,xx3,xx4,reduceCtorEq]
  intro vs3
  refine yzy (k_l01Ok n next) qCS trivial ?_
  cases hA:autB n next with
  | false =>
    simp only [Bz1s,Bz4d,go_sem,yz0,xx9,xx8,xx6,xx7,xx5,xx0,xx1,xx2,reduceIte,xx3,xx4,reduceCtorEq]
    intro vs5
    refine call_sh hslow qCS (fun e=>by cases e) ?_
    rintro outs rows res ⟨rfl,next2,v2,A2,rfl,rfl⟩
    refine ⟨rfl,by simp,by rw [Option.getD_some,yzl];simp only [go_sem,yz0,xx9,xx8,xx6,xx7,xx5,xx0,xx1,xx2,reduceIte,xx3,xx4,reduceCtorEq],?_⟩
    simp only [← hQ,Azs,yz14,Nat.not_lt_zero,range1,yzv,yz13,yz1e,yz1c,yz12,yz1d,yz1f,yz1b,yz11,yzo,yzf,yz5,yzr,yzp,yzn,yzm,yzt,yzc,yzb,yzd,yza,yzg,yzh,yz3,yz7,yz8,yz9,yzk,yzj,List.range_zero,yz6,yz4,yze,yzs,yzl,yzq,AVal.fresh,freshL,yz1,yzi,AObj.fresh,id,Option.isSome_some,or_true,true_or,go_sem,yz0,xx9,xx8,xx6,xx7,xx5,xx0,xx1,xx2,reduceIte,xx3,xx4,reduceCtorEq]
    refine ⟨[16],by simp,by simp,by simp,?_⟩
    simp only [Nat.not_lt_zero,range1,yzv,yz13,yz1e,yz1c,yz12,yz1d,yz1f,yz1b,yz11,yzo,yzf,yz5,yzr,yzp,yzn,yzm,yzt,yzc,yzb,yzd,yza,yzg,yzh,yz3,yz7,yz8,yz9,yzk,yzj,List.range_zero,yz6,yz4,yze,yzs,yzl,yzq,AVal.fresh,freshL,yz1,yzi,AObj.fresh,id,Option.isSome_some,or_true,true_or,go_sem,yz0,xx9,xx8,xx6,xx7,xx5,xx0,xx1,xx2,reduceIte,xx3,xx4,reduceCtorEq]
    exact ⟨4,next2,_,A2,by omega,rfl,rfl⟩
  | true =>
    have A:=autB_iff.1 hA
    by_cases h7:n≤7
    · simp only [decide_eq_true h7,Bz1s,← hQ,Azs,yz14,go_sem,yz0,xx9,xx8,xx6,xx7,xx5,xx0,xx1,xx2,reduceIte,xx3,xx4,reduceCtorEq]
      refine ⟨[8],by simp,by simp,by simp,?_⟩
      simp only [Nat.not_lt_zero,range1,yzv,yz13,yz1e,yz1c,yz12,yz1d,yz1f,yz1b,yz11,yzo,yzf,yz5,yzr,yzp,yzn,yzm,yzt,yzc,yzb,yzd,yza,yzg,yzh,yz3,yz7,yz8,yz9,yzk,yzj,List.range_zero,yz6,yz4,yze,yzs,yzl,yzq,AVal.fresh,freshL,yz1,yzi,AObj.fresh,id,Option.isSome_some,or_true,true_or,go_sem,yz0,xx9,xx8,xx6,xx7,xx5,xx0,xx1,xx2,reduceIte,xx3,xx4,reduceCtorEq]
      exact ⟨n,next,_,A,h7,rfl,rfl⟩
    · simp only [Bz1s,Bz4d,decide_eq_false h7,go_sem,yz0,xx9,xx8,xx6,xx7,xx5,xx0,xx1,xx2,reduceIte,xx3,xx4,reduceCtorEq]
      intro vs5
      refine call_sh hslow qCS (fun e=>by cases e) ?_
      rintro outs rows res ⟨rfl,next2,v2,A2,rfl,rfl⟩
      refine ⟨rfl,by simp,by rw [Option.getD_some,yzl];simp only [go_sem,yz0,xx9,xx8,xx6,xx7,xx5,xx0,xx1,xx2,reduceIte,xx3,xx4,reduceCtorEq],?_⟩
      simp only [← hQ,Azs,yz14,Nat.not_lt_zero,range1,yzv,yz13,yz1e,yz1c,yz12,yz1d,yz1f,yz1b,yz11,yzo,yzf,yz5,yzr,yzp,yzn,yzm,yzt,yzc,yzb,yzd,yza,yzg,yzh,yz3,yz7,yz8,yz9,yzk,yzj,List.range_zero,yz6,yz4,yze,yzs,yzl,yzq,AVal.fresh,freshL,yz1,yzi,AObj.fresh,id,Option.isSome_some,or_true,true_or,go_sem,yz0,xx9,xx8,xx6,xx7,xx5,xx0,xx1,xx2,reduceIte,xx3,xx4,reduceCtorEq]
      refine ⟨[16],by simp,by simp,by simp,?_⟩
      simp only [Nat.not_lt_zero,range1,yzv,yz13,yz1e,yz1c,yz12,yz1d,yz1f,yz1b,yz11,yzo,yzf,yz5,yzr,yzp,yzn,yzm,yzt,yzc,yzb,yzd,yza,yzg,yzh,yz3,yz7,yz8,yz9,yzk,yzj,List.range_zero,yz6,yz4,yze,yzs,yzl,yzq,AVal.fresh,freshL,yz1,yzi,AObj.fresh,id,Option.isSome_some,or_true,true_or,go_sem,yz0,xx9,xx8,xx6,xx7,xx5,xx0,xx1,xx2,reduceIte,xx3,xx4,reduceCtorEq]
      exact ⟨4,next2,_,A2,by omega,rfl,rfl⟩
end Go.Ab
