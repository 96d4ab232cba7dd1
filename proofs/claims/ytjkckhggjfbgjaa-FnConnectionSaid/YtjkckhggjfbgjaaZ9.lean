/- Contracts and what they lean on, part 9. Conditions: none. -/
import Derived.Test.YtjkckhggjfbgjaaZ8
set_option maxRecDepth 100000
set_option maxHeartbeats 4000000
set_option linter.all false
open Nat renaming reduceLeDiff → xx0, reduceMul → xx1, reduceSub → xx2, reduceEqDiff → xx3, reduceAdd → xx4, reduceLT → xx5
open Int renaming reduceToNat → xx6, reduceNeg → xx7, reduceLE → xx8, reduceLT → xx9
namespace Go.Ab
theorem vis_in {C:Int→Prop} {s:Int}:∀ {rs:List (List Int)} {l:List Int},(∀ row∈rs,C (row.getD s.toNat 0))→(∀ x∈l,C x)→∀ x∈visK s rs l,C x
  | [],_,_,h=>h
  | row :: rs,l,hr,h=>by
    refine vis_in (rs:=rs) (fun r hm=>hr r (by simp [hm])) fun x hx=>?_
    unfold addL at hx
    split at hx
    · exact h x hx
    · rcases List.mem_append.1 hx with hx | hx
      · exact h x hx
      · rw [List.mem_singleton.1 hx];exact hr row (by simp)
theorem runL_in {C:Int→Prop} {next:List (List Int)} (hC:∀ x,C x→∀ row∈next,C (row.getD x.toNat 0)):∀ (f:Nat) {l:List Int} {i:Nat},(∀ x∈l,C x)→∀ x∈runL next f l i,C x
  | 0,_,_,h=>h
  | f+1,l,i,h=>by
    simp only [runL]
    split
    · rename_i hi
      exact runL_in hC f (vis_in (hC _ (h _ (yzq hi 0))) h)
    · exact h
theorem reach_min {C:Int→Prop} {n s:Int} {next:List (List Int)} (hC:∀ x,C x→∀ row∈next,C (row.getD x.toNat 0)) (hs:C s):∀ x∈reachL n next s,C x :=
  runL_in hC _ fun x hx=>by rw [List.mem_singleton.1 hx];exact hs
theorem reach_trans {n u s t:Int} {next:List (List Int)} (A:Aut n next) (hu:0≤u∧u<n) (h1:s∈reachL n next u) (h2:t∈reachL n next s):t∈reachL n next u :=
  reach_min (C:=fun x=>x∈reachL n next u) (reach_closed A hu).2 h1 t h2
def skF (n:Int) (next:List (List Int)) (k:Nat) (out:List Int):List Int:=(List.range k).foldl (fun out (s:Nat)=>out.filter fun t=>(nrm (reachL n next s)).contains t) out
theorem skF_succ {n:Int} {next:List (List Int)} {k:Nat} {out:List Int}:skF n next (k+1) out=(skF n next k out).filter fun t=>(nrm (reachL n next k)).contains t:=by
  unfold skF
  rw [List.range_succ,List.foldl_append];rfl
theorem skF_mem {n:Int} {next:List (List Int)} {out:List Int} {t:Int}:∀ {k:Nat},t∈skF n next k out↔t∈out∧∀ s:Nat,s<k→t∈reachL n next s
  | 0=>by simp [skF]
  | k+1=>by
    rw [skF_succ,List.mem_filter,skF_mem (k:=k),List.contains_iff_mem,nrm_mem]
    constructor
    · rintro ⟨⟨h1,h2⟩,h3⟩
      refine ⟨h1,fun s hs=>?_⟩
      by_cases e:s=k
      · rw [e];exact h3
      · exact h2 s (by omega)
    · rintro ⟨h1,h2⟩
      exact ⟨⟨h1,fun s hs=>h2 s (by omega)⟩,h2 k (by omega)⟩
theorem skF_SI {n:Int} {next:List (List Int)} {out:List Int} (h:SI out):∀ {k:Nat},SI (skF n next k out)
  | 0=>h
  | k+1=>by rw [skF_succ];exact List.Pairwise.filter _ (skF_SI h)
theorem allS_mem {n t:Int}:t∈allS n↔0≤t∧t<n:=by
  unfold allS
  rw [List.mem_map]
  constructor
  · rintro ⟨k,hk,rfl⟩
    have:=List.mem_range.1 hk
    omega
  · rintro ⟨h1,h2⟩
    exact ⟨t.toNat,List.mem_range.2 (by omega),by omega⟩
def sinkL (n:Int) (next:List (List Int)):List Int:=skF n next n.toNat (allS n)
theorem sinkL_mem {n t:Int} {next:List (List Int)}:t∈sinkL n next↔(0≤t∧t<n)∧∀ s:Int,0≤s→s<n→t∈reachL n next s:=by
  unfold sinkL
  rw [skF_mem,allS_mem]
  constructor
  · rintro ⟨h1,h2⟩
    refine ⟨h1,fun s a b=>?_⟩
    have:=h2 s.toNat (by omega)
    rwa [show ((s.toNat:Nat):Int)=s by omega] at this
  · rintro ⟨h1,h2⟩
    exact ⟨h1,fun s hs=>h2 s (by omega) (by omega)⟩
theorem sinkL_SI {n:Int} {next:List (List Int)}:SI (sinkL n next):=skF_SI (allS_SI n)
theorem sink_prog {n:Int} {next:List (List Int)} (A:Aut n next):skF n next n.toNat (nrm (reachL n next 0))=sinkL n next:=by
  have n1:=A.n1
  refine SI_ext (skF_SI (nrm_SI _)) sinkL_SI fun t=>?_
  rw [skF_mem,sinkL_mem,nrm_mem]
  constructor
  · rintro ⟨h1,h2⟩
    refine ⟨(reach_once A ⟨Int.le_refl 0,by omega⟩).rg t h1,fun s a b=>?_⟩
    have:=h2 s.toNat (by omega)
    rwa [show ((s.toNat:Nat):Int)=s by omega] at this
  · rintro ⟨h1,h2⟩
    exact ⟨h2 0 (by omega) (by omega),fun s hs=>h2 s (by omega) (by omega)⟩
theorem sink_reach {n s:Int} {next:List (List Int)} (A:Aut n next) (hs:s∈sinkL n next):nrm (reachL n next s)=sinkL n next:=by
  obtain ⟨h1,h2⟩:=sinkL_mem.1 hs
  refine SI_ext (nrm_SI _) sinkL_SI fun t=>?_
  rw [nrm_mem,sinkL_mem]
  constructor
  · exact fun ht=>⟨(reach_once A h1).rg t ht,fun u a b=>reach_trans A ⟨a,b⟩ (h2 u a b) ht⟩
  · exact fun ht=>ht.2 s h1.1 h1.2
theorem stepA_in {n:Int} {next:List (List Int)} (A:Aut n next) {s x:Int} (hs:0≤s∧s<n) (hx:0≤x∧x<next.length):0≤stepA next s x∧stepA next s x<n:=by
  have h:=A.row _ (yzq (show x.toNat<next.length by omega) [])
  exact h.2 _ (yzq (by omega) 0)
theorem atA_in {n:Int} {next:List (List Int)} (A:Aut n next):∀ {w:List Int} {s:Int},(0≤s∧s<n)→IsW next.length w→0≤atA next s w∧atA next s w<n
  | [],_,hs,_=>hs
  | x :: w,s,hs,hw=>atA_in A (w:=w) (s:=stepA next s x) (stepA_in A hs (hw x (by simp))) fun y hy=>hw y (by simp [hy])
def Per (n:Int) (next:List (List Int)) (far:Int→Int) (p:Int):Prop:=∀ s x,0≤s∧s<n→0≤x∧x<(next.length:Int)→p ∣ far s+1 - far (stepA next s x)
theorem Per.word {n p:Int} {next:List (List Int)} {far:Int→Int} (A:Aut n next) (h:Per n next far p):∀ {w:List Int} {s:Int},(0≤s∧s<n)→IsW next.length w→p ∣ far s+w.length - far (atA next s w)
  | [],s,_,_=>by
    have e:far s+(([]:List Int).length:Int) - far (atA next s [])=0:=by simp [atA]
    rw [e];exact Int.dvd_zero p
  | x :: w,s,hs,hw=>by
    have hx:=hw x (by simp)
    have h1:=h s x hs hx
    have h2:=Per.word A h (w:=w) (s:=stepA next s x) (stepA_in A hs hx) fun y hy=>hw y (by simp [hy])
    have e:far s+((x :: w).length:Int) - far (atA next s (x :: w))=(far s+1 - far (stepA next s x))+(far (stepA next s x)+(w.length:Int) - far (atA next (stepA next s x) w)):=by
      have e2:atA next s (x :: w)=atA next (stepA next s x) w:=rfl
      rw [e2,List.length_cons];omega
    rw [e];exact Int.dvd_add h1 h2
theorem Per.loop {n p s:Int} {next:List (List Int)} {far:Int→Int} (A:Aut n next) (h:Per n next far p) {w:List Int} (hs:0≤s∧s<n) (hw:IsW next.length w) (e:atA next s w=s):p ∣ (w.length:Int):=by
  have:=h.word A hs hw
  rw [e] at this
  rwa [show far s+(w.length:Int) - far s=w.length by omega] at this
theorem Per.pos {n p:Int} {next:List (List Int)} {far:Int→Int} (A:Aut n next) (h:Per n next far p):p≠0:=by
  intro hp
  subst hp
  have n1:=A.n1
  have l1:=A.l1
  have hW:∀ k:Nat,IsW next.length (List.replicate k 0):=fun k x hx=>by rw [List.eq_of_mem_replicate hx];omega
  have hf:∀ k:Nat,far (atA next 0 (List.replicate k 0))=far 0+k:=fun k=>by
    have:=Int.zero_dvd.1 (h.word A (s:=0) ⟨Int.le_refl 0,by omega⟩ (hW k))
    rw [List.length_replicate] at this;omega
  have hl:=len_sub (q:=(List.range (n.toNat+1)).map fun k=>atA next 0 (List.replicate k 0)) (ps:=allS n) (by
    refine (List.pairwise_map.2 (List.nodup_range.imp fun {a b} hne e=>hne ?_))
    have h1:=hf a
    have h2:=hf b
    rw [e] at h1;omega) fun t ht=>by
    obtain ⟨k,_,rfl⟩:=List.mem_map.1 ht
    exact allS_mem.2 (atA_in A ⟨Int.le_refl 0,by omega⟩ (hW k))
  unfold allS at hl
  rw [List.length_map,List.length_range,List.length_map,List.length_range] at hl
  omega
end Go.Ab
namespace Go.Ab
open Go.Proofs
def conB (n:Int) (next:List (List Int)):Bool:=(List.range n.toNat).all fun (s:Nat)=>!decide (((nrm (reachL n next s)).length:Int)<n)
theorem k_isConnected (n:Int) (next:List (List Int)) (A:Aut n next):Fun Try.prog nz19 [autA n next] (bv (conB n next)):=by
  refine fun_of mixed czh3 rfl ⟨rfl,trivial⟩ ?_
  have n1:=A.n1
  have n2:=A.n2
  simp only [Aza7,Bza6,Bza4,go_sem,yz0,xx9,xx8,xx6,xx7,xx5,xx0,xx1,xx2,reduceIte,xx3,xx4,reduceCtorEq]
  intro vs
  refine wpD_lo (fun s=>n.toNat - s) (fun s=>s≤n.toNat∧((List.range s).all fun (s:Nat)=>!decide (((nrm (reachL n next s)).length:Int)<n))=true)
    (fun s:Nat=>⟨L .any [(1,.ptr 1 (vs 0 0) 0),(5,iv n),(6,iv s)],L .gone [(1,.box (vs 0 0) [iv n,.ro none 1 (rwn next)])]⟩) 0 ⟨by omega,rfl⟩ (by simp only [Bz23,go_sem,yz0,xx9,xx8,xx6,xx7,xx5,xx0,xx1,xx2,reduceIte,xx3,xx4,reduceCtorEq];try rfl) ?_
  rintro s ⟨hs,ha⟩
  by_cases hlt:(s:Int)<n
  · simp only [Bz23,Bz51,Bza3,Bza1,decide_eq_true hlt,go_sem,yz0,xx9,xx8,xx6,xx7,xx5,xx0,xx1,xx2,reduceIte,xx3,xx4,reduceCtorEq]
    intro vs2
    refine call_rowI (k_reached n next s A (by omega)) qCS qGN ⟨_,rfl⟩ ?_
    rintro ys v rfl
    simp only [go_sem,yz0,xx9,xx8,xx6,xx7,xx5,xx0,xx1,xx2,reduceIte,xx3,xx4,reduceCtorEq]
    refine yzz (k_size (nrm (reachL n next s))) qCS trivial ?_
    have ws:IntKind.i64.wrap ((s:Int)+1)=((s+1:Nat):Int):=by rw [w64 (by omega)];simp
    by_cases hd:((nrm (reachL n next s)).length:Int)<n
    · simp only [Bz50,decide_eq_true hd,go_sem,yz0,xx9,xx8,xx6,xx7,xx5,xx0,xx1,xx2,reduceIte,xx3,xx4,reduceCtorEq]
      have:conB n next=false:=by
        rw [Bool.eq_false_iff]
        intro h
        have:=List.all_eq_true.1 h s (List.mem_range.2 (by omega))
        rw [decide_eq_true hd] at this;cases this
      rw [this]
    · simp only [Bz50,Bza2,decide_eq_false hd,ws,go_sem,yz0,xx9,xx8,xx6,xx7,xx5,xx0,xx1,xx2,reduceIte,xx3,xx4,reduceCtorEq]
      exact ⟨s+1,by omega,⟨by omega,by rw [List.range_succ,List.all_append,ha];simp [decide_eq_false hd]⟩,rfl⟩
  · obtain rfl:s=n.toNat:=by omega
    simp only [Bz23,Bz51,Bza5,decide_eq_false hlt,go_sem,yz0,xx9,xx8,xx6,xx7,xx5,xx0,xx1,xx2,reduceIte,xx3,xx4,reduceCtorEq]
    unfold conB
    rw [ha]
theorem k_IsConnected (n:Int) (next:List (List Int)) (A:Aut n next):Fun2 Try.prog nz31 [autA n next] (.bool (conB n next)) (.int .i64 0):=by
  refine fun2_of mixed czgn rfl ?_
  have hva:=k_Valid n next
  rw [autB_iff.2 A] at hva
  simp only [Az84,Bz83,go_sem,yz0,xx9,xx8,xx6,xx7,xx5,xx0,xx1,xx2,reduceIte,xx3,xx4,reduceCtorEq]
  intro vs vs2
  refine yzz hva qCS trivial ?_
  simp only [Bz81,Bz82,Bool.not_true,go_sem,yz0,xx9,xx8,xx6,xx7,xx5,xx0,xx1,xx2,reduceIte,xx3,xx4,reduceCtorEq]
  intro vs3
  refine yzz (k_isConnected n next A) qCS trivial ?_
  simp only [go_sem,yz0,xx9,xx8,xx6,xx7,xx5,xx0,xx1,xx2,reduceIte,xx3,xx4,reduceCtorEq]
theorem k_sink (n:Int) (next:List (List Int)) (A:Aut n next):RowI Try.prog nz3a [autA n next] (fun ys=>ys=sinkL n next):=by
  refine rowI_of mixed czh4 rfl ?_
  have n1:=A.n1
  have n2:=A.n2
  simp only [Azag,Bzaf,go_sem,yz0,xx9,xx8,xx6,xx7,xx5,xx0,xx1,xx2,reduceIte,xx3,xx4,reduceCtorEq]
  intro vs vs2
  refine call_rowI (k_reached n next 0 A (by omega)) qCS qGN ⟨_,rfl⟩ ?_
  rintro ys v rfl
  simp only [Bzae,Bzac,go_sem,yz0,xx9,xx8,xx6,xx7,xx5,xx0,xx1,xx2,reduceIte,xx3,xx4,reduceCtorEq]
  refine wpD_lo (fun (_,s)=>n.toNat - s) (fun (_,s)=>s≤n.toNat)
    (fun ((v,s):Nat×Nat)=>⟨L .any [(1,.ptr 1 (vs 0 0) 0),(3,.own 7 v),(9,iv n),(10,iv s)],L .gone [(1,.box (vs 0 0) [iv n,.ro none 1 (rwn next)]),(7,.row v 1 true (ints (skF n next s (nrm (reachL n next 0)))))]⟩) (v,0) (Nat.zero_le _)
    (by simp only [Bz24,skF,List.range_zero,List.foldl_nil,go_sem,yz0,xx9,xx8,xx6,xx7,xx5,xx0,xx1,xx2,reduceIte,xx3,xx4,reduceCtorEq];try rfl) ?_
  rintro ⟨v,s⟩ hs
  have hs:s≤n.toNat:=hs
  by_cases hlt:(s:Int)<n
  · simp only [Bz24,Bz52,Bzab,Bza9,decide_eq_true hlt,go_sem,yz0,xx9,xx8,xx6,xx7,xx5,xx0,xx1,xx2,reduceIte,xx3,xx4,reduceCtorEq]
    intro vs2
    refine call_rowI (k_reached n next s A (by omega)) qCS qGN ⟨_,rfl⟩ ?_
    rintro ys u rfl
    simp only [Bza8,go_sem,yz0,xx9,xx8,xx6,xx7,xx5,xx0,xx1,xx2,reduceIte,xx3,xx4,reduceCtorEq]
    intro vs3
    have hne:nrm (reachL n next s)≠[]:=fun e=>by
      have h1:=(reach_closed A (s:=s) (by omega)).1
      rw [← nrm_mem,e] at h1;simp at h1
    refine call_del (k_DelSink (skF n next s (nrm (reachL n next 0))) (nrm (reachL n next s)) hne) rfl ?_ ?_
    · simp only [go_sem,yz0,xx9,xx8,xx6,xx7,xx5,xx0,xx1,xx2,reduceIte,xx3,xx4,reduceCtorEq,rowIs,boxIs,coe_argN,coe_argNs,coe_ro_o,coeL_nil,yz12,coe_any,coe_val,coe_ro,yz16,yz17,coe_st,yz18,coe_rp,yz19,coe_clo,coe_own0,coe_ptr0,yz15,coeL_rws,coeL_rwn,L_hit,L_miss,L_nil,xx3,ne_eq,reduceCtorEq,not_false_eq_true,true_and,and_true,and_self,exists_eq_left,exists_eq_right,List.mem_cons,List.not_mem_nil,or_false,AObj.row.injEq,AObj.box.injEq,exists_eq_left',exists_and_left,exists_eq,Nat.zero_lt_one,Nat.lt_add_one,List.map_cons,List.map_nil,AObj.ver,xx5,not_true_eq_false]
    · intro w
      have ws:IntKind.i64.wrap ((s:Int)+1)=((s+1:Nat):Int):=by rw [w64 (by omega)];simp
      rw [← skF_succ]
      simp only [Bzaa,ws,go_sem,yz0,xx9,xx8,xx6,xx7,xx5,xx0,xx1,xx2,reduceIte,xx3,xx4,reduceCtorEq]
      exact ⟨(w,s+1),by dsimp only;omega,by dsimp only;omega,rfl⟩
  · obtain rfl:s=n.toNat:=by omega
    simp only [Bz24,Bz52,Bzad,decide_eq_false hlt,go_sem,yz0,xx9,xx8,xx6,xx7,xx5,xx0,xx1,xx2,reduceIte,xx3,xx4,reduceCtorEq]
    exact ⟨7,v,_,by omega,rfl,by simp only [go_sem,yz0,xx9,xx8,xx6,xx7,xx5,xx0,xx1,xx2,reduceIte,xx3,xx4,reduceCtorEq],sink_prog A⟩
theorem k_SinkOf (n:Int) (next:List (List Int)) (A:Aut n next):RowT Try.prog nz32 [autA n next] (!decide ((sinkL n next).length=0)) (sinkL n next) (if (sinkL n next).length=0 then 6 else 0):=by
  refine con_of mixed czgo rfl (by simp) ?_
  have hva:=k_Valid n next
  rw [autB_iff.2 A] at hva
  generalize hQ:finQ _=Q
  simp only [Az1n,Bz89,go_sem,yz0,xx9,xx8,xx6,xx7,xx5,xx0,xx1,xx2,reduceIte,xx3,xx4,reduceCtorEq]
  intro vs vs2
  refine yzz hva qCS trivial ?_
  simp only [Bz85,Bz88,Bool.not_true,go_sem,yz0,xx9,xx8,xx6,xx7,xx5,xx0,xx1,xx2,reduceIte,xx3,xx4,reduceCtorEq]
  intro vs3
  refine call_rowI (k_sink n next A) qCS qGN ⟨_,rfl⟩ ?_
  rintro ys v rfl
  simp only [Bz87,go_sem,yz0,xx9,xx8,xx6,xx7,xx5,xx0,xx1,xx2,reduceIte,xx3,xx4,reduceCtorEq]
  intro hM
  generalize sinkL n next=ys at hM hQ ⊢
  by_cases h0:ys.length=0
  · have e:(((ys.length:Nat):Int) == 0)=true:=by rw [h0];rfl
    simp only [Bz4a,e,go_sem,yz0,xx9,xx8,xx6,xx7,xx5,xx0,xx1,xx2,reduceIte,xx3,xx4,reduceCtorEq]
    rw [← hQ]
    simp only [Az1n,h0,decide_true,Bool.not_true,Nat.not_lt_zero,range1,yzx,yz11,ren_ro,rnNm_n,yz10,rnNm_o,rnNm_s,ren_st,yzy,yzp,yzf,yz4,yzu,yzv,yzo,yzm,yzs,yzb,yzd,yzc,yza,yzj,yzi,yz3,yz7,yz8,yz9,yzg,yzk,List.range_zero,yz6,yz5,yze,yzt,yzl,yzr,AVal.fresh,freshL,yz2,yzh,AObj.fresh,id,Option.isSome_some,or_true,true_or,go_sem,yz0,xx9,xx8,xx6,xx7,xx5,xx0,xx1,xx2,reduceIte,xx3,xx4,reduceCtorEq]
    exact ⟨[],by simp,by simp,by simp,by simp,by simp⟩
  · have e:(((ys.length:Nat):Int) == 0)=false:=by simpa using h0
    simp only [Bz4a,Bz86,e,go_sem,yz0,xx9,xx8,xx6,xx7,xx5,xx0,xx1,xx2,reduceIte,xx3,xx4,reduceCtorEq]
    rw [← hQ]
    simp only [Az1n,decide_eq_false h0,Bool.not_false,Nat.not_lt_zero,range1,yzx,yz11,ren_ro,rnNm_n,yz10,rnNm_o,rnNm_s,ren_st,yzy,yzp,yzf,yz4,yzu,yzv,yzo,yzm,yzs,yzb,yzd,yzc,yza,yzj,yzi,yz3,yz7,yz8,yz9,yzg,yzk,List.range_zero,yz6,yz5,yze,yzt,yzl,yzr,AVal.fresh,freshL,yz2,yzh,AObj.fresh,id,Option.isSome_some,or_true,true_or,go_sem,yz0,xx9,xx8,xx6,xx7,xx5,xx0,xx1,xx2,reduceIte,xx3,xx4,reduceCtorEq]
    refine ⟨[9],by simp,by simp,by simp,?_,?_⟩
    · intro x hx
      rw [List.mem_singleton.1 hx]
      simp only [Nat.not_lt_zero,range1,yzx,yz11,ren_ro,rnNm_n,yz10,rnNm_o,rnNm_s,ren_st,yzy,yzp,yzf,yz4,yzu,yzv,yzo,yzm,yzs,yzb,yzd,yzc,yza,yzj,yzi,yz3,yz7,yz8,yz9,yzg,yzk,List.range_zero,yz6,yz5,yze,yzt,yzl,yzr,AVal.fresh,freshL,yz2,yzh,AObj.fresh,id,Option.isSome_some,or_true,true_or,go_sem,yz0,xx9,xx8,xx6,xx7,xx5,xx0,xx1,xx2,reduceIte,xx3,xx4,reduceCtorEq]
    · simp only [List.map_cons,List.map_nil,if_false,Nat.not_lt_zero,range1,yzx,yz11,ren_ro,rnNm_n,yz10,rnNm_o,rnNm_s,ren_st,yzy,yzp,yzf,yz4,yzu,yzv,yzo,yzm,yzs,yzb,yzd,yzc,yza,yzj,yzi,yz3,yz7,yz8,yz9,yzg,yzk,List.range_zero,yz6,yz5,yze,yzt,yzl,yzr,AVal.fresh,freshL,yz2,yzh,AObj.fresh,id,Option.isSome_some,or_true,true_or,go_sem,yz0,xx9,xx8,xx6,xx7,xx5,xx0,xx1,xx2,reduceIte,xx3,xx4,reduceCtorEq]
      exact ⟨_,rfl,by rw [if_neg h0]⟩
theorem k_l01Sink (n:Int) (next:List (List Int)) (A:Aut n next) :
    Fn Try.prog nz3c [autP n next] fun rows res=>∃ v,rows=[.row v 1 true (ints (sinkL n next))]∧res=.tup [.own 6000 v,bv (decide ((0:Int)<(sinkL n next).length))]:=by
  refine con_of mixed czh6 rfl (by simp) ?_
  have n1:=A.n1
  have n2:=A.n2
  generalize hQ:finQ _=Q
  simp only [Az5f,Bzb3,go_sem,yz0,xx9,xx8,xx6,xx7,xx5,xx0,xx1,xx2,reduceIte,xx3,xx4,reduceCtorEq]
  intro vs
  refine call_rowI (k_l01All n (by omega)) qCS qGN ⟨_,rfl⟩ ?_
  rintro ys v rfl
  simp only [Bzb2,Bzb0,go_sem,yz0,xx9,xx8,xx6,xx7,xx5,xx0,xx1,xx2,reduceIte,xx3,xx4,reduceCtorEq]
  have hlen:∀ s,(skF n next s (allS n)).length≤10:=fun s=>by
    have h:∀ k,(skF n next k (allS n)).length≤n.toNat:=fun k=>by
      induction k with
      | zero=>simp [skF,allS]
      | succ k ih=>rw [skF_succ];exact Nat.le_trans (List.length_filter_le _ _) ih
    have:=h s;omega
  have hM:=maxLen_le
  refine wpD_lm (fun (_,s)=>n.toNat - s) (fun (_,s)=>s≤n.toNat)
    (fun ((v,s):Nat×Nat)=>⟨L .any [(0,autP n next),(4,.own 13 v),(5,iv s)],L .gone [(13,.row v 1 true (ints (skF n next s (allS n))))]⟩) (v,0) (Nat.zero_le _)
    (by intro u;simp only [Bz28,skF,List.range_zero,List.foldl_nil,go_sem,yz0,xx9,xx8,xx6,xx7,xx5,xx0,xx1,xx2,reduceIte,xx3,xx4,reduceCtorEq];try rfl) ?_
  rintro ⟨v,s⟩ hs
  have hs:s≤n.toNat:=hs
  by_cases hlt:(s:Int)<n
  · have ho:=hlen s
    have hsu:=skF_succ (n:=n) (next:=next) (k:=s) (out:=allS n)
    generalize hout:skF n next s (allS n)=out at ho hsu
    have hr:=reach_once A (s:=(s:Int)) (by omega)
    simp only [hout,Bz28,Bz5b,Bzaz,Bzax,decide_eq_true hlt,go_sem,yz0,xx9,xx8,xx6,xx7,xx5,xx0,xx1,xx2,reduceIte,xx3,xx4,reduceCtorEq]
    intro vs2 vs3
    refine call_rowI (k_l01Reached n next s A (by omega)) qCS qGN ⟨_,rfl⟩ ?_
    rintro ys u rfl
    simp only [Bzaw,Bzau,go_sem,yz0,xx9,xx8,xx6,xx7,xx5,xx0,xx1,xx2,reduceIte,xx3,xx4,reduceCtorEq]
    generalize nrm (reachL n next s)=here at hsu ⊢
    refine wpD_lo (fun (_,i)=>out.length - i) (fun (_,i)=>i≤out.length)
      (fun ((w,i):Nat×Nat)=>⟨L .any [(0,autP n next),(4,.own 13 v),(5,iv s),(6,.own 22 w),(7,.own 25 u),(8,iv i)],L .gone [(13,.row v 1 true (ints out)),(22,.row w 1 true (ints ((out.take i).filter fun t=>here.contains t))),(25,.row u 1 true (ints here))]⟩) (_,0) (Nat.zero_le _)
      (by simp only [Bz27,List.take_zero,List.filter_nil,List.map_nil,go_sem,yz0,xx9,xx8,xx6,xx7,xx5,xx0,xx1,xx2,reduceIte,xx3,xx4,reduceCtorEq];try rfl) ?_
    rintro ⟨w,i⟩ hi
    have hi:i≤out.length:=hi
    have hfl:=List.length_filter_le (fun t=>here.contains t) (out.take i)
    rw [List.length_take] at hfl
    by_cases hl2:(i:Int)<out.length
    · have hlt1:i<out.length:=by omega
      have gi:=yzw (k:=.i64) hlt1
      have wi:IntKind.i64.wrap ((i:Int)+1)=((i+1:Nat):Int):=by rw [w64 (by omega)];simp
      have htk:out.take (i+1)=out.take i ++ [out.getD i 0]:=by
        rw [List.take_succ_eq_append_getElem hlt1,List.getD_eq_getElem?_getD,List.getElem?_eq_getElem hlt1];rfl
      simp only [Bz27,Bz5c,Bzat,gi,decide_eq_true hl2,go_sem,yz0,xx9,xx8,xx6,xx7,xx5,xx0,xx1,xx2,reduceIte,xx3,xx4,reduceCtorEq]
      intro hM2 vs4
      refine ⟨⟨by omega,hlt1⟩,hlt1,?_⟩
      refine yzz (k_l00Has here (out.getD i 0)) qCS trivial ?_
      cases hc:here.contains (out.getD i 0) with
      | true =>
        simp only [Bz5d,Bz5e,gi,wi,go_sem,yz0,xx9,xx8,xx6,xx7,xx5,xx0,xx1,xx2,reduceIte,xx3,xx4,reduceCtorEq]
        intro vs5
        refine ⟨⟨by omega,hlt1⟩,hlt1,⟨_,rfl,rfl⟩,by omega,(vs5 6 0,i+1),by dsimp only;omega,by dsimp only;omega,?_⟩
        simp only [htk,List.filter_append,List.filter_cons,List.filter_nil,hc,if_true,go_sem,yz0,xx9,xx8,xx6,xx7,xx5,xx0,xx1,xx2,reduceIte,xx3,xx4,reduceCtorEq]
      | false =>
        simp only [Bz5d,Bz5e,wi,go_sem,yz0,xx9,xx8,xx6,xx7,xx5,xx0,xx1,xx2,reduceIte,xx3,xx4,reduceCtorEq]
        refine ⟨(w,i+1),by dsimp only;omega,by dsimp only;omega,?_⟩
        simp only [htk,List.filter_append,List.filter_cons,List.filter_nil,hc,Bool.false_eq_true,if_false,List.append_nil]
    · obtain rfl:i=out.length:=by omega
      have ws:IntKind.i64.wrap ((s:Int)+1)=((s+1:Nat):Int):=by rw [w64 (by omega)];simp
      simp only [Bz27,Bz5c,Bzav,Bzay,ws,decide_eq_false hl2,go_sem,yz0,xx9,xx8,xx6,xx7,xx5,xx0,xx1,xx2,reduceIte,xx3,xx4,reduceCtorEq]
      intro _
      refine ⟨n.toNat - (s+1),by omega,fun u=>⟨(u,s+1),rfl,by dsimp only;omega,?_⟩⟩
      simp only [List.take_length,hsu,go_sem,yz0,xx9,xx8,xx6,xx7,xx5,xx0,xx1,xx2,reduceIte,xx3,xx4,reduceCtorEq]
  · obtain rfl:s=n.toNat:=by omega
    simp only [Bz28,Bz5b,Bzb1,decide_eq_false hlt,go_sem,yz0,xx9,xx8,xx6,xx7,xx5,xx0,xx1,xx2,reduceIte,xx3,xx4,reduceCtorEq]
    intro hM2
    rw [← hQ]
    simp only [Az5f,Nat.not_lt_zero,range1,yzx,yz11,ren_ro,rnNm_n,yz10,rnNm_o,rnNm_s,ren_st,yzy,yzp,yzf,yz4,yzu,yzv,yzo,yzm,yzs,yzb,yzd,yzc,yza,yzj,yzi,yz3,yz7,yz8,yz9,yzg,yzk,List.range_zero,yz6,yz5,yze,yzt,yzl,yzr,AVal.fresh,freshL,yz2,yzh,AObj.fresh,id,Option.isSome_some,or_true,true_or,go_sem,yz0,xx9,xx8,xx6,xx7,xx5,xx0,xx1,xx2,reduceIte,xx3,xx4,reduceCtorEq]
    refine ⟨[13],by simp,by simp,by simp,?_,v,?_⟩
    · intro x hx
      rw [List.mem_singleton.1 hx]
      simp only [Nat.not_lt_zero,range1,yzx,yz11,ren_ro,rnNm_n,yz10,rnNm_o,rnNm_s,ren_st,yzy,yzp,yzf,yz4,yzu,yzv,yzo,yzm,yzs,yzb,yzd,yzc,yza,yzj,yzi,yz3,yz7,yz8,yz9,yzg,yzk,List.range_zero,yz6,yz5,yze,yzt,yzl,yzr,AVal.fresh,freshL,yz2,yzh,AObj.fresh,id,Option.isSome_some,or_true,true_or,go_sem,yz0,xx9,xx8,xx6,xx7,xx5,xx0,xx1,xx2,reduceIte,xx3,xx4,reduceCtorEq]
    · simp only [List.map_cons,List.map_nil,Nat.not_lt_zero,range1,yzx,yz11,ren_ro,rnNm_n,yz10,rnNm_o,rnNm_s,ren_st,yzy,yzp,yzf,yz4,yzu,yzv,yzo,yzm,yzs,yzb,yzd,yzc,yza,yzj,yzi,yz3,yz7,yz8,yz9,yzg,yzk,List.range_zero,yz6,yz5,yze,yzt,yzl,yzr,AVal.fresh,freshL,yz2,yzh,AObj.fresh,id,Option.isSome_some,or_true,true_or,go_sem,yz0,xx9,xx8,xx6,xx7,xx5,xx0,xx1,xx2,reduceIte,xx3,xx4,reduceCtorEq]
      exact ⟨rfl,rfl⟩
end Go.Ab
namespace Go.Ab
open Go.Proofs
end Go.Ab
namespace Go.Ab
open Go.Proofs
abbrev keyI (ks:List Int):List Value:=ks.map fun c=>.int .i64 c
theorem fkI_not {c:Int}:∀ {ks:List Int} (i:Nat),c ∉ ks→findKeyAt (.int .i64 c) (keyI ks) i=some none
  | [],_,_=>rfl
  | k :: ks,i,h=>by
    have h1:(c == k)=false:=by simp;exact fun e=>h (e ▸ List.mem_cons_self)
    have h2:=fkI_not (c:=c) (ks:=ks) (i+1) fun m=>h (List.mem_cons_of_mem _ m)
    simp only [List.map_cons,findKeyAt,sameKey,if_true,h1]
    exact h2
theorem fkI_mem {c:Int}:∀ {ks:List Int} (i:Nat),c∈ks→findKeyAt (.int .i64 c) (keyI ks) i=some (some (i+ks.idxOf c))
  | [],_,h=>by simp at h
  | k :: ks,i,h=>by
    by_cases e:c=k
    · subst e
      simp only [List.map_cons,findKeyAt,sameKey,if_true,beq_self_eq_true,List.idxOf_cons_self,Nat.add_zero]
    · have h1:(c == k)=false:=by simpa using e
      have hm:c∈ks:=by simpa [e] using h
      have h2:=fkI_mem (c:=c) (ks:=ks) (i+1) hm
      simp only [List.map_cons,findKeyAt,sameKey,if_true,h1]
      rw [h2,List.idxOf_cons,show (k == c)=false by simpa using Ne.symm e]
      simp only [cond_false];congr 2;omega
end Go.Ab
namespace Go.Ab
open Go.Proofs
abbrev DrN (code:List Int) (at_ most:Int) (outs rows:List AObj) (res:AVal):Prop :=
  ∃ n ps v a' s',Aut n (ps.map (·.2))∧DJ ps∧n≤most∧at_≤a'∧a'≤at_+1000∧outs=[.box 0 (srcC code a' s')]∧rows=[.row v 1 true (rwp ps)]∧res=.st [iv n,.own 6000 v]
theorem k_DrawnN (code:List Int) (at_ seed most:Int) (hb:∀ x∈code,0≤x∧x≤255) (ha:0≤at_∧at_≤1000000) (hm:1≤most∧most≤10) :
    Con Try.prog nzi [.box 0 (srcC code at_ seed)] [.ptr 5000 0 0,iv most] true (DrN code at_ most):=by
  refine con_sh mixed czih rfl (by simp) ?_
  generalize hQ:finQ _=Q
  have h7:∀ (σ:St) (v4:Nat) (a s n l:Int),at_≤a∧a≤at_+20∧1≤n∧n≤most∧1≤l∧l≤3→σ.keep [0,4,5,6] [4,7,87,5000,5001] =
      ⟨L .any [(0,.ptr 5000 0 0),(4,.ptr 4 v4 0),(5,iv n),(6,iv l)],L .gone [(4,.box v4 [iv 0,.val (.slice none 0 0)]),(7,.gone),(87,.gone),(5000,.box 0 (srcC code a s)),(5001,.gone)]⟩→wpD Try.prog Bz16 Q σ:=by
    rintro σ v4 a s n l ⟨i1,i2,i3,i4,i5,i6⟩ hS
    unfold Bz16
    rw [yzn,hS]
    simp only [yzn,yz1,go_sem,yz0,xx9,xx8,xx6,xx7,xx5,xx0,xx1,xx2,reduceIte,xx3,xx4,reduceCtorEq]
    intro vs U hN
    simp only [Bzfd,Bzfb,yzn,yz1,go_sem,yz0,xx9,xx8,xx6,xx7,xx5,xx0,xx1,xx2,reduceIte,xx3,xx4,reduceCtorEq]
    intro vs1 U1 hN1 ver
    refine wpD_lp (fun (_,_,_,_,_,_,next)=>l.toNat - List.length next)
      (fun (_,_,_,nn,a,_,next)=>at_≤a∧a≤at_+20+44 * List.length next∧(List.length next:Int)≤l∧(next≠[]→nn=true)∧(∀ row∈next,(List.length row.2:Int)=n∧∀ x∈row.2,0≤x∧x<n)∧DJ next)
      (fun ((v4,v7,v87,nn,a,s,next):Nat×Nat×Nat×Bool×Int×Int×List (Nat×List Int)) =>
        ⟨L .any [(0,.ptr 5000 0 0),(4,.ptr 4 v4 0),(5,iv n),(6,iv l),(7,.ptr 7 v7 0),(8,iv next.length)],
         L .gone [(4,.box v4 [iv 0,.val (.slice none 0 0)]),(7,.box v7 [iv n,.own 87 v87]),(87,.row v87 1 nn (rwp next)),(5000,.box 0 (srcC code a s)),(5001,.gone)]⟩)
      (v4,_,_,_,a,s,[]) ?_ (by simp only [Bz2s,yzn,yz1,go_sem,yz0,xx9,xx8,xx6,xx7,xx5,xx0,xx1,xx2,reduceIte,xx3,xx4,reduceCtorEq];try rfl) ?_
    · exact ⟨by omega,by simp;omega,by simp;omega,by simp,by simp,by simp [DJ]⟩
    · rintro ⟨v4,v7,v87,nn,a,s,next⟩ ⟨j1,j2,j3,j5,j4,j6⟩
      by_cases hlt:(next.length:Int)<l
      · simp only [Bz2s,Bz6u,Bz6y,decide_eq_true hlt,yzn,yz1,go_sem,yz0,xx9,xx8,xx6,xx7,xx5,xx0,xx1,xx2,reduceIte,xx3,xx4,reduceCtorEq]
        intro vs2 U2 hN2 vs2b U2b hN2b
        simp only [Bzf9,yzn,yz1,go_sem,yz0,xx9,xx8,xx6,xx7,xx5,xx0,xx1,xx2,reduceIte,xx3,xx4,reduceCtorEq]
        intro vs3 U3 hN3
        refine call_funB (k_pick code a s 5 hb (by omega)) rfl qCS qCS ?_
        rintro cs' x ⟨a1,s1,kind,rfl,h1,h2,rfl,h3,h4⟩
        simp only [Bzf8,Bzf6,yzn,yz1,go_sem,yz0,xx9,xx8,xx6,xx7,xx5,xx0,xx1,xx2,reduceIte,xx3,xx4,reduceCtorEq]
        intro vs3b U3b hN3b
        refine wpD_lp (fun (_,_,_,row)=>n.toNat - List.length row)
          (fun (_,a',_,row)=>at_≤a'∧a'≤a1+4 * List.length row∧(List.length row:Int)≤n∧∀ x∈row,0≤x∧x<n)
          (fun ((v9,a,s,row):Nat×Int×Int×List Int)=>⟨L .any [(0,.ptr 5000 0 0),(4,.ptr 4 v4 0),(5,iv n),(6,iv l),(7,.ptr 7 v7 0),(8,iv next.length),(9,.own 46 v9),(10,iv kind),(11,iv row.length)],L .gone [(4,.box v4 [iv 0,.val (.slice none 0 0)]),(7,.box v7 [iv n,.own 87 v87]),(46,.row v9 1 true (ints row)),(82,.gone),(87,.row v87 1 nn (rwp next)),(5000,.box 0 (srcC code a s)),(5001,.gone)]⟩)
          (_,a1,s1,[]) ?_ (by simp only [Bz2r,yzn,yz1,go_sem,yz0,xx9,xx8,xx6,xx7,xx5,xx0,xx1,xx2,reduceIte,xx3,xx4,reduceCtorEq];try rfl) ?_
        · simp;omega
        · rintro ⟨v9,a,s,row⟩ ⟨q1,q2,q3,q4⟩
          by_cases hlt2:(row.length:Int)<n
          · simp only [Bz2r,Bz6v,Bz6x,decide_eq_true hlt2,yzn,yz1,go_sem,yz0,xx9,xx8,xx6,xx7,xx5,xx0,xx1,xx2,reduceIte,xx3,xx4,reduceCtorEq]
            intro vs4a U4a hN4a vs4 U4 hN4
            refine call_funB (k_pick code a s n hb (by omega)) rfl qCS qCS ?_
            rintro cs' x ⟨a2,s2,to,rfl,f1,f2,rfl,f3,f4⟩
            simp only [yzn,yz1,go_sem,yz0,xx9,xx8,xx6,xx7,xx5,xx0,xx1,xx2,reduceIte,xx3,xx4,reduceCtorEq]
            unfold Bzf4
            rw [yzn]
            refine wpD_cutn (α:=Int×Int×Int) (fun (a',_,t)=>a2≤a'∧a'≤a2+2∧0≤t∧t<n)
              (fun ((a,s,t):Int×Int×Int)=>⟨L .any [(0,.ptr 5000 0 0),(4,.ptr 4 v4 0),(5,iv n),(6,iv l),(7,.ptr 7 v7 0),(8,iv next.length),(9,.own 46 v9),(10,iv kind),(11,iv row.length),(12,iv t)],L .gone [(4,.box v4 [iv 0,.val (.slice none 0 0)]),(7,.box v7 [iv n,.own 87 v87]),(46,.row v9 1 true (ints row)),(82,.gone),(87,.row v87 1 nn (rwp next)),(5000,.box 0 (srcC code a s)),(5001,.gone)]⟩) ?_ ?_
            · have w1:IntKind.i64.wrap ((row.length:Int)+1)=row.length+1:=w64 (by omega)
              have w2:IntKind.i64.wrap (n - 1)=n - 1:=w64 (by omega)
              have w3:IntKind.i64.wrap (n - 1 - row.length)=n - 1 - row.length:=w64 (by omega)
              have hn0:¬ n=0:=by omega
              have ht:=tmod_in (a:=(row.length:Int)+1) (n:=n) (by omega) i3
              by_cases k0:kind=0
              · subst k0
                simp only [w1,hn0,Bz15,Bz14,yzn,yz1,go_sem,yz0,xx9,xx8,xx6,xx7,xx5,xx0,xx1,xx2,reduceIte,xx3,xx4,reduceCtorEq]
                intro _ _ _ _ _ _ _ _ _
                exact ⟨(_,_,((row.length:Int)+1).tmod n),(by dsimp only;omega),rfl⟩
              by_cases k1:kind=1
              · subst k1
                simp only [beq_false_of_ne (show (1:Int)≠0 by omega),Bz15,Bz14,Bz2q,yzn,yz1,go_sem,yz0,xx9,xx8,xx6,xx7,xx5,xx0,xx1,xx2,reduceIte,xx3,xx4,reduceCtorEq]
                intro _ _ _ _ _ _ _ _ _ vs5 U5 hN5
                refine call_funB (k_one code a2 s2 4 hb (by omega)) rfl qCS qCS ?_
                rintro cs' x ⟨a3,s3,b,rfl,e1,e2,rfl⟩
                simp only [Bzf1,yzn,yz1,go_sem,yz0,xx9,xx8,xx6,xx7,xx5,xx0,xx1,xx2,reduceIte,xx3,xx4,reduceCtorEq]
                exact ⟨fun _ _ _ _=>⟨(_,_,(row.length:Int)),(by dsimp only;omega),rfl⟩,fun _=>⟨(_,_,to),(by dsimp only;omega),rfl⟩⟩
              by_cases k2:kind=2
              · subst k2
                simp only [beq_false_of_ne (show (2:Int)≠0 by omega),beq_false_of_ne (show (2:Int)≠1 by omega),Bz15,Bz14,Bz2q,Bz6w,yzn,yz1,go_sem,yz0,xx9,xx8,xx6,xx7,xx5,xx0,xx1,xx2,reduceIte,xx3,xx4,reduceCtorEq]
                intro _ _ _ _ _ _ _ _ _ _ _ _ vs5 U5 hN5
                refine call_funB (k_one code a2 s2 3 hb (by omega)) rfl qCS qCS ?_
                rintro cs' x ⟨a3,s3,b,rfl,e1,e2,rfl⟩
                simp only [w2,w3,Bzf2,yzn,yz1,go_sem,yz0,xx9,xx8,xx6,xx7,xx5,xx0,xx1,xx2,reduceIte,xx3,xx4,reduceCtorEq]
                exact ⟨fun _ _ _ _=>⟨(_,_,n - 1 - (row.length:Int)),(by dsimp only;omega),rfl⟩,fun _=>⟨(_,_,to),(by dsimp only;omega),rfl⟩⟩
              simp only [beq_false_of_ne k0,beq_false_of_ne k1,beq_false_of_ne k2,Bz15,Bz14,Bz2q,Bz6w,yzn,yz1,go_sem,yz0,xx9,xx8,xx6,xx7,xx5,xx0,xx1,xx2,reduceIte,xx3,xx4,reduceCtorEq]
              intro _ _ _ _ _ _ _ _ _ _ _ _
              exact ⟨(_,_,to),(by dsimp only;omega),rfl⟩
            · rintro ⟨a3,s3,t⟩ ⟨e1,e2,e3,e4⟩
              have w1:IntKind.i64.wrap ((row.length:Int)+1)=((row ++ [t]).length:Int):=by rw [w64 (by omega)];simp
              simp only [w1,Bzf3,Bzf5,yzn,yz1,go_sem,yz0,xx9,xx8,xx6,xx7,xx5,xx0,xx1,xx2,reduceIte,xx3,xx4,reduceCtorEq]
              intro vs6 U6 hN6
              refine ⟨⟨_,rfl,rfl⟩,by omega,?_⟩
              intro vs7 U7 hN7
              refine ⟨(_,_,_,row ++ [t]),?_,⟨?_,?_,?_,?_⟩,rfl⟩
              · simp;omega
              · show at_≤a3;omega
              · simp;omega
              · simp;omega
              · intro x hx
                simp only [List.mem_append,List.mem_singleton] at hx
                rcases hx with hx | rfl
                · exact q4 x hx
                · omega
          · simp only [Bz2r,Bz6v,Bz6x,decide_eq_false hlt2,yzn,yz1,go_sem,yz0,xx9,xx8,xx6,xx7,xx5,xx0,xx1,xx2,reduceIte,xx3,xx4,reduceCtorEq]
            intro vs4 U4 hN4
            have hrow:(row.length:Int)=n:=by omega
            have w1:IntKind.i64.wrap ((next.length:Int)+1)=((next ++ [(v9,row)]).length:Int):=by rw [w64 (by omega)];simp
            simp only [Bzf7,yzn,wpD_gh,go_sem,yz0,xx9,xx8,xx6,xx7,xx5,xx0,xx1,xx2,reduceIte,xx3,xx4,reduceCtorEq]
            intro hD
            refine ⟨[],?_⟩
            have hf:∀ p∈next,p.2=[]∨p.1≠v9:=fun p hp=>by
              by_cases e:p.2=[]
              · exact .inl e
              · exact .inr (hD 87 v87 1 nn (rwp next) 46 v9 rfl rfl p.1 1 (ints p.2) (List.mem_map.2 ⟨p,hp,rfl⟩) (by simpa using e))
            simp only [gwp_nil,yzn,yz1,go_sem,yz0,xx9,xx8,xx6,xx7,xx5,xx0,xx1,xx2,reduceIte,xx3,xx4,reduceCtorEq]
            intro vs7 U7 hN7
            rw [rwp_len]
            refine ⟨by omega,?_⟩
            simp only [w1,Bzfa,rwp_snoc,yzn,yz1,go_sem,yz0,xx9,xx8,xx6,xx7,xx5,xx0,xx1,xx2,reduceIte,xx3,xx4,reduceCtorEq]
            intro vs8 U8 hN8
            refine ⟨(_,_,_,_,_,_,next ++ [(v9,row)]),?_,⟨?_,?_,?_,?_,?_,j6.snoc hf⟩,rfl⟩
            · simp;omega
            · show at_≤a;omega
            · simp;omega
            · simp;omega
            · exact fun _=>rfl
            · intro r hr
              simp only [List.mem_append,List.mem_singleton] at hr
              rcases hr with hr | rfl
              · exact j4 r hr
              · exact ⟨hrow,q4⟩
      · simp only [Bz2s,Bz6u,Bz6y,decide_eq_false hlt,yzn,yz1,go_sem,yz0,xx9,xx8,xx6,xx7,xx5,xx0,xx1,xx2,reduceIte,xx3,xx4,reduceCtorEq]
        intro vs2 U2 hN2
        have hnn:nn=true:=j5 (by intro e;rw [e] at hlt;simp at hlt;omega)
        subst hnn
        simp only [Bzfc,← hQ,Az71,yzn,yz1,go_sem,yz0,xx9,xx8,xx6,xx7,xx5,xx0,xx1,xx2,reduceIte,xx3,xx4,reduceCtorEq]
        intro vs3 U3 hN3
        refine ⟨[87],by simp,by simp,by simp,?_⟩
        simp only [range1,List.length_singleton,renL_rwp,Nat.not_lt_zero,range1,yzx,yz11,ren_ro,rnNm_n,yz10,rnNm_o,rnNm_s,ren_st,yzy,yzp,yzf,yz4,yzu,yzv,yzo,yzm,yzs,yzb,yzd,yzc,yza,yzj,yzi,yz3,yz7,yz8,yz9,yzg,yzk,List.range_zero,yz6,yz5,yze,yzt,yzl,yzr,AVal.fresh,freshL,yz2,yzh,AObj.fresh,id,Option.isSome_some,or_true,true_or,yzn,yz1,go_sem,yz0,xx9,xx8,xx6,xx7,xx5,xx0,xx1,xx2,reduceIte,xx3,xx4,reduceCtorEq]
        exact ⟨n,next,v87,a,s,⟨i3,by omega,by rw [List.length_map];omega,by rw [List.length_map];omega,fun r hr=>by obtain ⟨p,hp,rfl⟩:=List.mem_map.1 hr;exact j4 p hp⟩,j6,i4,by omega,by omega,rfl,by simp,rfl⟩
  have h4:∀ (σ:St) (v4:Nat) (a s n:Int),at_≤a∧a≤at_+10∧1≤n∧n≤most→σ.keep [0,4,5] [4,7,87,5000,5001] =
      ⟨L .any [(0,.ptr 5000 0 0),(4,.ptr 4 v4 0),(5,iv n)],L .gone [(4,.box v4 [iv 0,.val (.slice none 0 0)]),(7,.gone),(87,.gone),(5000,.box 0 (srcC code a s)),(5001,.gone)]⟩→wpD Try.prog Bzk Q σ:=by
    rintro σ v4 a s n ⟨i1,i2,i3,i4⟩ hS
    unfold Bzk
    rw [yzn,hS]
    simp only [yzn,yz1,go_sem,yz0,xx9,xx8,xx6,xx7,xx5,xx0,xx1,xx2,reduceIte,xx3,xx4,reduceCtorEq]
    intro vs U hN
    refine call_funB (k_pick code a s 3 hb (by omega)) rfl qCS qCS ?_
    rintro cs' x ⟨a1,s1,b1,rfl,h1,h2,rfl,h3,h4⟩
    have hw:IntKind.i64.wrap (1+b1)=1+b1:=w64 (by omega)
    by_cases he:1+b1=1
    · simp only [hw.trans he,Bz6z,yzn,yz1,go_sem,yz0,xx9,xx8,xx6,xx7,xx5,xx0,xx1,xx2,reduceIte,xx3,xx4,reduceCtorEq]
      intro vs2 U2 hN2
      refine call_funB (k_one code a1 s1 3 hb (by omega)) rfl qCS qCS ?_
      rintro cs' x ⟨a2,s2,b2,rfl,g1,g2,rfl⟩
      simp only [Bz6t,yzn,yz1,go_sem,yz0,xx9,xx8,xx6,xx7,xx5,xx0,xx1,xx2,reduceIte,xx3,xx4,reduceCtorEq]
      refine ⟨fun _ vs3 U3 hN3=>h7 _ v4 a2 s2 n 2 (by omega) ?_,fun _=>h7 _ v4 a2 s2 n 1 (by omega) ?_⟩ <;> (simp only [Bz16,yzn,yz1,go_sem,yz0,xx9,xx8,xx6,xx7,xx5,xx0,xx1,xx2,reduceIte,xx3,xx4,reduceCtorEq];try rfl)
    · simp only [hw,beq_false_of_ne he,Bz6z,yzn,yz1,go_sem,yz0,xx9,xx8,xx6,xx7,xx5,xx0,xx1,xx2,reduceIte,xx3,xx4,reduceCtorEq]
      intro vs2 U2 hN2
      simp only [Bz6t,yzn,yz1,go_sem,yz0,xx9,xx8,xx6,xx7,xx5,xx0,xx1,xx2,reduceIte,xx3,xx4,reduceCtorEq]
      refine h7 _ v4 a1 s1 n (1+b1) (by omega) ?_
      simp only [Bz16,yzn,yz1,go_sem,yz0,xx9,xx8,xx6,xx7,xx5,xx0,xx1,xx2,reduceIte,xx3,xx4,reduceCtorEq];try rfl
  simp only [Az71,Bzfe,yzn,yz1,go_sem,yz0,xx9,xx8,xx6,xx7,xx5,xx0,xx1,xx2,reduceIte,xx3,xx4,reduceCtorEq]
  intro vs U hN vs2 U2 hN2
  refine call_funB (k_pick code at_ seed most hb (by omega)) rfl qCS qCS ?_
  rintro cs' x ⟨a1,s1,b1,rfl,h1,h2,rfl,h3,h4'⟩
  have hn1:IntKind.i64.wrap (1+b1)=1+b1:=w64 (by omega)
  by_cases hlt:1+b1<3
  · simp only [hn1,decide_eq_true hlt,Bz70,yzn,yz1,go_sem,yz0,xx9,xx8,xx6,xx7,xx5,xx0,xx1,xx2,reduceIte,xx3,xx4,reduceCtorEq]
    intro vs3 U3 hN3
    refine call_funB (k_one code a1 s1 3 hb (by omega)) rfl qCS qCS ?_
    rintro cs' x ⟨a2,s2,b2,rfl,g1,g2,rfl⟩
    simp only [Bz6s,yzn,yz1,go_sem,yz0,xx9,xx8,xx6,xx7,xx5,xx0,xx1,xx2,reduceIte,xx3,xx4,reduceCtorEq]
    refine ⟨fun _ vs4 U4 hN4=>?_,fun _=>h4 _ (vs 0 0) a2 s2 (1+b1) (by omega) ?_⟩
    · refine call_funB (k_pick code a2 s2 3 hb (by omega)) rfl qCS qCS ?_
      rintro cs' x ⟨a3,s3,b3,rfl,f1,f2,rfl,f3,f4⟩
      have hn2:IntKind.i64.wrap (3+b3)=3+b3:=w64 (by omega)
      simp only [hn2,yzn,yz1,go_sem,yz0,xx9,xx8,xx6,xx7,xx5,xx0,xx1,xx2,reduceIte,xx3,xx4,reduceCtorEq]
      refine yzz (k_l00Min most (3+b3)) qCS trivial ?_
      simp only [yzn,yz1,go_sem,yz0,xx9,xx8,xx6,xx7,xx5,xx0,xx1,xx2,reduceIte,xx3,xx4,reduceCtorEq]
      refine h4 _ (vs 0 0) a3 s3 (min most (3+b3)) (by omega) ?_
      simp only [Bzk,yzn,yz1,go_sem,yz0,xx9,xx8,xx6,xx7,xx5,xx0,xx1,xx2,reduceIte,xx3,xx4,reduceCtorEq];try rfl
    · simp only [Bzk,yzn,yz1,go_sem,yz0,xx9,xx8,xx6,xx7,xx5,xx0,xx1,xx2,reduceIte,xx3,xx4,reduceCtorEq];try rfl
  · simp only [hn1,decide_eq_false hlt,Bz70,yzn,yz1,go_sem,yz0,xx9,xx8,xx6,xx7,xx5,xx0,xx1,xx2,reduceIte,xx3,xx4,reduceCtorEq]
    intro vs3 U3 hN3
    simp only [Bz6s,yzn,yz1,go_sem,yz0,xx9,xx8,xx6,xx7,xx5,xx0,xx1,xx2,reduceIte,xx3,xx4,reduceCtorEq]
    refine h4 _ (vs 0 0) a1 s1 (1+b1) (by omega) ?_
    simp only [Bzk,yzn,yz1,go_sem,yz0,xx9,xx8,xx6,xx7,xx5,xx0,xx1,xx2,reduceIte,xx3,xx4,reduceCtorEq];try rfl
end Go.Ab
namespace Go.Ab
open Go.Proofs
end Go.Ab
namespace Go.Ab
open Go.Proofs
end Go.Ab
namespace Go.Ab
open Go.Proofs
theorem DJ_perm {ps qs:List (Nat×List Int)} (h:ps.Perm qs) (hp:DJ ps):DJ qs :=
  (h.pairwise_iff fun {x y} e=>by
    rcases e with e | e | e
    · exact .inr (.inl e)
    · exact .inl e
    · exact .inr (.inr (Ne.symm e))).1 hp
theorem ints_put {xs:List Int} {i:Nat} {v:Int}:List.take i (ints xs) ++ [iv v] ++ List.drop (i+1) (ints xs)=ints (xs.take i ++ [v] ++ xs.drop (i+1)):=by
  simp only [List.map_append,List.map_take,List.map_drop,List.map_cons,List.map_nil]
theorem lput_len {xs:List Int} {i:Nat} {v:Int} (h:i<xs.length):(xs.take i ++ [v] ++ xs.drop (i+1)).length=xs.length:=by
  simp only [List.length_append,List.length_take,List.length_drop,List.length_cons,List.length_nil];omega
theorem lput_mem {xs:List Int} {i:Nat} {v:Int} {Q:Int→Prop} (h:∀ x∈xs,Q x) (hv:Q v):∀ x∈xs.take i ++ [v] ++ xs.drop (i+1),Q x:=by
  intro x hx
  simp only [List.mem_append,List.mem_singleton] at hx
  rcases hx with (hx | rfl) | hx
  · exact h x (List.mem_of_mem_take hx)
  · exact hv
  · exact h x (List.mem_of_mem_drop hx)
theorem call_boxrow {P:Program} {σ:St} {g:FuncId} {As args:List AVal} {d:Nat} {s:Nat→Nat} {K:St→Prop} {r q v u:Nat} {cs:List AVal} {xs:List Int} {Q:List AVal→Value→Prop}
    (h:Con P g [.box 0 cs,.row 1 1 true (ints xs)] args true fun outs rows res=>∃ cs' x,Q cs' x∧flatL cs'∧outs=[.box 0 cs',.row 1 1 true (ints xs)]∧rows=[]∧res=.val x)
    (hr:σ.hp r=.box v cs) (hq:σ.hp q=.row u 1 true (ints xs)) (hne:[r,q].Nodup) (hcs:CoeL σ.hp [r,q] false cs cs) (ha:CoeL σ.hp [r,q] false args As)
    (hk:∀ cs' x,Q cs' x→K (St.put ⟨σ.tm,upd (upd σ.hp r (.box v cs')) q (.row u 1 true (ints xs))⟩ (some d) (.val x))):wpCall P false σ g As (some d) s K:=by
  refine .inl ⟨[r,q],_,_,true,_,h,⟨by simp,rfl,hne,?_,?_⟩,ha,(fun e=>by cases e),?_⟩
  · intro x hx
    simp only [List.mem_cons,List.not_mem_nil,or_false] at hx
    rcases hx with rfl | rfl
    · simp [hr]
    · simp [hq]
  · intro j B r' hB hr'
    match j,hB,hr' with
    | 0,hB,hr' =>
      simp at hB hr';subst hB;subst hr'
      rw [hr]
      exact ⟨rfl,v,cs,rfl,hcs⟩
    | 1,hB,hr' =>
      simp at hB hr';subst hB;subst hr'
      simp only [ObjCoe,hq]
      exact ⟨trivial,u,_,rfl,coeL_ints⟩
    | j+2,hB,hr'=>simp at hB
  · rintro outs rows res ⟨cs',x,hQ,hf,rfl,rfl,rfl⟩
    refine ⟨rfl,by simp,by simp,?_⟩
    have s0:sv σ.hp [r,q] s 0=v:=by simp [sv,hr,AObj.ver]
    have s1:sv σ.hp [r,q] s 1=u:=by simp [sv,hq,AObj.ver]
    rw [Option.getD_some,callHp_h2 hne]
    simp only [yzm,yzo,renL_flat cs' hf,yz4,yzx,s0,s1]
    exact hk cs' x hQ
theorem k_among (code:List Int) (at_ seed:Int) (list:List Int) (hb:∀ x∈code,0≤x∧x≤255) (ha:0≤at_∧at_≤1000000000000) (hl:list≠[]) :
    Con Try.prog nzp [.box 0 (srcC code at_ seed),.row 1 1 true (ints list)] [.ptr 5000 0 0,.own 5001 1] true fun outs rows res=>∃ cs' x,(∃ at' seed' b,cs'=srcC code at' seed'∧at_≤at'∧at'≤at_+2∧x=.int .i64 b∧b∈list)∧flatL cs' ∧
      outs=[.box 0 cs',.row 1 1 true (ints list)]∧rows=[]∧res=.val x:=by
  refine con_sh mixed czim rfl (by simp) ?_
  simp only [Bzgd,Azge,go_sem,yz0,xx9,xx8,xx6,xx7,xx5,xx0,xx1,xx2,reduceIte,xx3,xx4,reduceCtorEq]
  intro vs hM
  refine call_funB (k_pick code at_ seed list.length hb ha) rfl qCS qCS ?_
  rintro cs' x ⟨a',s',b,rfl,h1,h2,rfl,h3,h4⟩
  have hpos:0<list.length:=List.length_pos_iff.2 hl
  have hb2:b.toNat<list.length:=by omega
  simp only [yzw hb2,go_sem,yz0,xx9,xx8,xx6,xx7,xx5,xx0,xx1,xx2,reduceIte,xx3,xx4,reduceCtorEq]
  refine ⟨⟨h3,hb2⟩,hb2,[],by simp,by simp,by simp,?_⟩
  simp only [Nat.not_lt_zero,range1,yzx,yz11,ren_ro,rnNm_n,yz10,rnNm_o,rnNm_s,ren_st,yzy,yzp,yzf,yz4,yzu,yzv,yzo,yzm,yzs,yzb,yzd,yzc,yza,yzj,yzi,yz3,yz7,yz8,yz9,yzg,yzk,List.range_zero,yz6,yz5,yze,yzt,yzl,yzr,AVal.fresh,freshL,yz2,yzh,AObj.fresh,id,Option.isSome_some,or_true,true_or,go_sem,yz0,xx9,xx8,xx6,xx7,xx5,xx0,xx1,xx2,reduceIte,xx3,xx4,reduceCtorEq]
  exact ⟨_,_,⟨a',s',list.getD b.toNat 0,rfl,h1,h2,rfl,yzq hb2 0⟩,by simp [flatL,AVal.flat,flat_vals],rfl,rfl⟩
end Go.Ab
namespace Go.Ab
open Go.Proofs
theorem k_l02SlowN (n:Int) (hn:2≤n∧n≤10) :
    Con Try.prog nzn [] [iv n] true fun outs rows res=>outs=[]∧∃ v ps,Aut n (ps.map (·.2))∧DJ ps∧rows=[.row v 1 true (rwp ps)]∧res=.st [iv n,.own 6000 v]:=by
  refine con_sh mixed czh0 rfl (by simp) ?_
  generalize hQ:finQ _=Q
  simp only [Az4s,Bz9y,yzn,yz1,go_sem,yz0,xx9,xx8,xx6,xx7,xx5,xx0,xx1,xx2,reduceIte,xx3,xx4,reduceCtorEq]
  intro vs0 U0 hN0 vs1 U1 hN1
  simp only [Bz9x,yzn,yz1,go_sem,yz0,xx9,xx8,xx6,xx7,xx5,xx0,xx1,xx2,reduceIte,xx3,xx4,reduceCtorEq]
  intro vs2 U2 hN2
  simp only [Bz9w,Bz9u,yzn,yz1,go_sem,yz0,xx9,xx8,xx6,xx7,xx5,xx0,xx1,xx2,reduceIte,xx3,xx4,reduceCtorEq]
  intro vs3 U3 hN3
  refine wpD_lp (fun (_,_,xs,_)=>n.toNat - List.length xs)
    (fun (v3,v4,xs,ys)=>(List.length xs:Int)≤n∧List.length ys=List.length xs∧(∀ x∈xs,0≤x∧x<n)∧(∀ x∈ys,0≤x∧x<n)∧v3≠v4)
    (fun ((v3,v4,xs,ys):Nat×Nat×List Int×List Int)=>⟨L .any [(0,iv n),(2,.ptr 2 (vs0 0 0) 0),(3,.own 6 v3),(4,.own 7 v4),(5,iv xs.length)],
      L .gone [(2,.box (vs0 0 0) [iv 0,.val (.slice none 0 0)]),(6,.row v3 1 true (ints xs)),(7,.row v4 1 true (ints ys)),(19,.gone),(26,.gone),(30,.gone),(5000,.gone)]⟩)
    (vs1 0 0,vs2 0 0,[],[]) ⟨by simp;omega,rfl,by simp,by simp,fun e=>hN2.new 0 0 (by rw [← e];exact (hN2.hp 6).1)⟩ (by simp only [Bz22,go_sem,yz0,xx9,xx8,xx6,xx7,xx5,xx0,xx1,xx2,reduceIte,xx3,xx4,reduceCtorEq];try rfl) ?_
  rintro ⟨v3,v4,xs,ys⟩ ⟨h1,h2,h3,h4,h5⟩
  have h1:(xs.length:Int)≤n:=h1
  have h2:ys.length=xs.length:=h2
  have h5:v3≠v4:=h5
  by_cases hlt:(xs.length:Int)<n
  · have w1:IntKind.i64.wrap ((xs.length:Int)+1)=((xs.length+1:Nat):Int):=by rw [w64 (by omega)];simp
    have w2:IntKind.i64.wrap (n - 1)=n - 1:=w64 (by omega)
    have hn0:¬ n=0:=by omega
    have hn1:¬ n - 1=0:=by omega
    have t1:=tmod_in (a:=((xs.length+1:Nat):Int)) (n:=n) (by omega) (by omega)
    have t2:=tmod_in (a:=(xs.length:Int)) (n:=n - 1) (by omega) (by omega)
    simp only [Bz22,Bz4r,Bz9t,decide_eq_true hlt,w1,hn0,yzn,yz1,go_sem,yz0,xx9,xx8,xx6,xx7,xx5,xx0,xx1,xx2,reduceIte,xx3,xx4,reduceCtorEq]
    intro vs4 U4 hN4 vs5 U5 hN5
    refine ⟨⟨_,rfl,rfl⟩,by omega,?_⟩
    simp only [Bz9r,w2,hn1,yzn,yz1,go_sem,yz0,xx9,xx8,xx6,xx7,xx5,xx0,xx1,xx2,reduceIte,xx3,xx4,reduceCtorEq]
    intro vs6 U6 hN6
    refine ⟨⟨_,rfl,rfl⟩,by omega,?_⟩
    simp only [Bz9s,w1,yzn,yz1,go_sem,yz0,xx9,xx8,xx6,xx7,xx5,xx0,xx1,xx2,reduceIte,xx3,xx4,reduceCtorEq]
    intro vs7 U7 hN7
    refine ⟨(vs5 6 0,vs6 6 0,xs ++ [((xs.length+1:Nat):Int).tmod n],ys ++ [(xs.length:Int).tmod (n - 1)]),by dsimp only;rw [List.length_append,List.length_singleton];omega,
      ⟨by dsimp only;rw [List.length_append,List.length_singleton];omega,by dsimp only;rw [List.length_append,List.length_append,h2];rfl,?_,?_,fun e=>hN6.new 6 0 ((show vs5 6 0=vs6 6 0 from e) ▸ (show U6 (vs5 6 0) from (hN6.hp 6).1))⟩,?_⟩
    · intro x hx
      rcases List.mem_append.1 hx with h | h
      · exact h3 x h
      · rw [List.mem_singleton.1 h];exact t1
    · intro x hx
      rcases List.mem_append.1 hx with h | h
      · exact h4 x h
      · rw [List.mem_singleton.1 h];omega
    · simp only [List.length_append,List.length_singleton]
  · have hxl:(xs.length:Int)=n:=by omega
    simp only [Bz22,Bz4r,Bz9v,decide_eq_false hlt,yzn,yz1,go_sem,yz0,xx9,xx8,xx6,xx7,xx5,xx0,xx1,xx2,reduceIte,xx3,xx4,reduceCtorEq]
    intro vs4 U4 hN4 vs5 U5 hN5
    refine ⟨by decide,?_⟩
    simp only [Az4s,← hQ,go_sem,yz0,xx9,xx8,xx6,xx7,xx5,xx0,xx1,xx2,reduceIte,xx3,xx4,reduceCtorEq]
    refine ⟨[30],by simp,by simp,by simp,?_⟩
    have e:[AVal.ro (some (some (v3+1))) 1 (ints xs),AVal.ro (some (some (v4+1))) 1 (ints ys)]=rwp [(v3,xs),(v4,ys)]:=rfl
    simp only [e,range1,List.length_singleton,renL_rwp,Nat.not_lt_zero,range1,yzx,yz11,ren_ro,rnNm_n,yz10,rnNm_o,rnNm_s,ren_st,yzy,yzp,yzf,yz4,yzu,yzv,yzo,yzm,yzs,yzb,yzd,yzc,yza,yzj,yzi,yz3,yz7,yz8,yz9,yzg,yzk,List.range_zero,yz6,yz5,yze,yzt,yzl,yzr,AVal.fresh,freshL,yz2,yzh,AObj.fresh,id,Option.isSome_some,or_true,true_or,go_sem,yz0,xx9,xx8,xx6,xx7,xx5,xx0,xx1,xx2,reduceIte,xx3,xx4,reduceCtorEq]
    refine ⟨vs5 3 0,[(v3,xs),(v4,ys)],⟨by omega,by omega,by simp,by simp,?_⟩,?_,by simp,rfl⟩
    · intro r hr
      simp only [List.map_cons,List.map_nil,List.mem_cons,List.not_mem_nil,or_false] at hr
      rcases hr with rfl | rfl
      · exact ⟨hxl,h3⟩
      · exact ⟨by omega,h4⟩
    · simp only [DJ,List.pairwise_cons,List.mem_singleton,forall_eq]
      exact ⟨.inr (.inr h5),by simp,.nil⟩
theorem k_l01Tidied (xs:List Int) (hl:xs.length≤100000):RowI Try.prog nz3y [.ro none 1 (ints xs)] (fun _=>True):=by
  refine rowI_of mixed czil rfl ?_
  simp only [Azgc,Bzgb,go_sem,yz0,xx9,xx8,xx6,xx7,xx5,xx0,xx1,xx2,reduceIte,xx3,xx4,reduceCtorEq]
  intro vs
  simp only [Bzga,Bzg9,Bzg7,go_sem,yz0,xx9,xx8,xx6,xx7,xx5,xx0,xx1,xx2,reduceIte,xx3,xx4,reduceCtorEq]
  refine wpD_lo (fun (_,_,ys)=>xs.length - List.length ys) (fun (_,c,ys)=>List.length ys≤xs.length∧0≤c∧c≤List.length ys)
    (fun ((va,c,ys):Nat×Int×List Int)=>⟨L .any [(0,.ro none 1 (ints xs)),(3,.own 8 va),(4,iv c),(5,iv ys.length)],L .gone [(8,.row va 1 true (ints ys))]⟩)
    (_,0,[]) ⟨by simp,Int.le_refl _,by simp⟩ (by simp only [Bz2x,go_sem,yz0,xx9,xx8,xx6,xx7,xx5,xx0,xx1,xx2,reduceIte,xx3,xx4,reduceCtorEq];try rfl) ?_
  rintro ⟨va,c,ys⟩ ⟨h1,h2,h3⟩
  have h1:ys.length≤xs.length:=h1
  have h3:c≤ys.length:=h3
  by_cases hlt:(ys.length:Int)<xs.length
  · have hlt1:ys.length<xs.length:=by omega
    have w1:IntKind.i64.wrap ((ys.length:Int)+1)=((ys.length+1:Nat):Int):=by rw [w64 (by omega)];simp
    simp only [Bz2x,Bz79,Bzg6,decide_eq_true hlt,go_sem,yz0,xx9,xx8,xx6,xx7,xx5,xx0,xx1,xx2,reduceIte,xx3,xx4,reduceCtorEq]
    intro hM
    simp only [Bzg5,Bzg2,go_sem,yz0,xx9,xx8,xx6,xx7,xx5,xx0,xx1,xx2,reduceIte,xx3,xx4,reduceCtorEq]
    refine wpD_lo (fun (k,_)=>ys.length - k) (fun (k,_)=>k≤ys.length)
      (fun ((k,o):Nat×Int)=>⟨L .any [(0,.ro none 1 (ints xs)),(3,.own 8 va),(4,iv c),(5,iv ys.length),(6,iv o),(7,iv k)],L .gone [(8,.row va 1 true (ints ys))]⟩)
      (0,-1) (by simp) (by simp only [Bz2w,go_sem,yz0,xx9,xx8,xx6,xx7,xx5,xx0,xx1,xx2,reduceIte,xx3,xx4,reduceCtorEq];try rfl) ?_
    rintro ⟨k,o⟩ hk
    have hk:k≤ys.length:=hk
    by_cases hkl:(k:Int)<ys.length
    · have hk1:k<ys.length:=by omega
      have hk2:k<xs.length:=by omega
      have w2:IntKind.i64.wrap ((k:Int)+1)=((k+1:Nat):Int):=by rw [w64 (by omega)];simp
      simp only [Bz2w,Bz7a,Bzg1,decide_eq_true hkl,yzw hk2,yzw hlt1,go_sem,yz0,xx9,xx8,xx6,xx7,xx5,xx0,xx1,xx2,reduceIte,xx3,xx4,reduceCtorEq]
      refine ⟨⟨by omega,hk2⟩,hk2,⟨by omega,hlt1⟩,hlt1,?_⟩
      simp only [Bzfz,Bzg0,yzw hk1,w2,go_sem,yz0,xx9,xx8,xx6,xx7,xx5,xx0,xx1,xx2,reduceIte,xx3,xx4,reduceCtorEq]
      exact ⟨fun _=>⟨⟨by omega,hk1⟩,hk1,(k+1,ys.getD k 0),by dsimp only;omega,by dsimp only;omega,rfl⟩,fun _=>⟨(k+1,o),by dsimp only;omega,by dsimp only;omega,rfl⟩⟩
    · simp only [Bz2w,Bz7a,Bzg4,decide_eq_false hkl,go_sem,yz0,xx9,xx8,xx6,xx7,xx5,xx0,xx1,xx2,reduceIte,xx3,xx4,reduceCtorEq]
      by_cases ho:o<0
      · have w3:IntKind.i64.wrap (c+1)=c+1:=w64 (by omega)
        simp only [Bz7b,Bzg3,Bz7c,Bz7d,decide_eq_true ho,w1,w3,go_sem,yz0,xx9,xx8,xx6,xx7,xx5,xx0,xx1,xx2,reduceIte,xx3,xx4,reduceCtorEq]
        intro vs2
        refine ⟨⟨_,rfl,rfl⟩,by omega,?_⟩
        exact ⟨(vs2 3 0,c+1,ys ++ [c]),by dsimp only;rw [List.length_append,List.length_singleton];omega,⟨by dsimp only;rw [List.length_append,List.length_singleton];omega,by dsimp only;omega,by dsimp only;rw [List.length_append,List.length_singleton];omega⟩,by simp only [List.length_append,List.length_singleton]⟩
      · simp only [Bz7b,Bz7c,Bz7d,decide_eq_false ho,w1,go_sem,yz0,xx9,xx8,xx6,xx7,xx5,xx0,xx1,xx2,reduceIte,xx3,xx4,reduceCtorEq]
        intro vs2
        refine ⟨⟨_,rfl,rfl⟩,by omega,?_⟩
        exact ⟨(vs2 3 0,c,ys ++ [o]),by dsimp only;rw [List.length_append,List.length_singleton];omega,⟨by dsimp only;rw [List.length_append,List.length_singleton];omega,h2,by dsimp only;rw [List.length_append,List.length_singleton];omega⟩,by simp only [List.length_append,List.length_singleton]⟩
  · simp only [Bz2x,Bz79,Bzg8,decide_eq_false hlt,go_sem,yz0,xx9,xx8,xx6,xx7,xx5,xx0,xx1,xx2,reduceIte,xx3,xx4,reduceCtorEq]
    intro hM
    exact ⟨8,va,ys,by omega,rfl,by simp only [go_sem,yz0,xx9,xx8,xx6,xx7,xx5,xx0,xx1,xx2,reduceIte,xx3,xx4,reduceCtorEq]⟩
end Go.Ab
namespace Go.Ab
open Go.Proofs
abbrev AlR (code:List Int) (at_:Int) (outs rows:List AObj) (res:AVal):Prop :=
  ∃ n ps v w xs a' s',Aut n (ps.map (·.2))∧DJ ps∧n≤6∧at_≤a'∧a'≤at_+2000∧outs=[.box 0 (srcC code a' s')]∧rows=[.row v 1 true (rwp ps),.row w 1 true (ints xs)]∧res=.tup [.st [iv n,.own 6000 v],.own 6001 w]
theorem rwp_getD {ps:List (Nat×List Int)} {i:Nat} (h:i<ps.length):(rwp ps).getD i .any=.ro (some (some ((ps.getD i (0,[])).1+1))) 1 (ints (ps.getD i (0,[])).2):=by
  rw [List.getD_eq_getElem?_getD,rwp,List.getElem?_map,List.getElem?_eq_getElem h,List.getD_eq_getElem?_getD,List.getElem?_eq_getElem h];rfl
theorem k_l01Alike (code:List Int) (at_ seed:Int) (hb:∀ x∈code,0≤x∧x≤255) (ha:0≤at_∧at_≤100000) :
    Con Try.prog nz3s [.box 0 (srcC code at_ seed)] [.ptr 5000 0 0] true (AlR code at_):=by
  refine con_sh mixed czif rfl (by simp) ?_
  generalize hQ:finQ _=Q
  simp only [Az6p,Bzex,yzn,yz1,go_sem,yz0,xx9,xx8,xx6,xx7,xx5,xx0,xx1,xx2,reduceIte,xx3,xx4,reduceCtorEq]
  intro vs0 U0 hN0 vs1 U1 hN1
  refine call_con (r:=5000) (k_DrawnN code at_ seed 3 hb (by omega) (by omega)) rfl (by simp only [Bool.not_true,rowIs,boxIs,coe_argN,coe_argNs,coe_ro_o,coeL_nil,yz12,coe_any,coe_val,coe_ro,yz16,yz17,coe_st,yz18,coe_rp,yz19,coe_clo,coe_own0,coe_ptr0,yz15,coeL_rws,coeL_rwn,L_hit,L_miss,L_nil,xx3,ne_eq,reduceCtorEq,not_false_eq_true,true_and,and_true,and_self,exists_eq_left,exists_eq_right,List.mem_cons,List.not_mem_nil,or_false,AObj.row.injEq,AObj.box.injEq,exists_eq_left',exists_and_left,exists_eq,Nat.zero_lt_one,Nat.lt_add_one,List.map_cons,List.map_nil,AObj.ver,xx5,not_true_eq_false]) (by simp only [Bool.not_true,rowIs,boxIs,coe_argN,coe_argNs,coe_ro_o,coeL_nil,yz12,coe_any,coe_val,coe_ro,yz16,yz17,coe_st,yz18,coe_rp,yz19,coe_clo,coe_own0,coe_ptr0,yz15,coeL_rws,coeL_rwn,L_hit,L_miss,L_nil,xx3,ne_eq,reduceCtorEq,not_false_eq_true,true_and,and_true,and_self,exists_eq_left,exists_eq_right,List.mem_cons,List.not_mem_nil,or_false,AObj.row.injEq,AObj.box.injEq,exists_eq_left',exists_and_left,exists_eq,Nat.zero_lt_one,Nat.lt_add_one,List.map_cons,List.map_nil,AObj.ver,xx5,not_true_eq_false]) ?_
  rintro outs rows res ⟨q,qs,vq,a1,s1,A,hd,hq3,h1,h2,rfl,rfl,rfl⟩
  refine ⟨rfl,by simp,by rw [Option.getD_some,yzl];simp only [go_sem,yz0,xx9,xx8,xx6,xx7,xx5,xx0,xx1,xx2,reduceIte,xx3,xx4,reduceCtorEq],?_⟩
  rw [Option.getD_some,callHp_mr (by omega)]
  simp only [renL_rwp,Bzew,yzn,yz1,Nat.not_lt_zero,range1,yzx,yz11,ren_ro,rnNm_n,yz10,rnNm_o,rnNm_s,ren_st,yzy,yzp,yzf,yz4,yzu,yzv,yzo,yzm,yzs,yzb,yzd,yzc,yza,yzj,yzi,yz3,yz7,yz8,yz9,yzg,yzk,List.range_zero,yz6,yz5,yze,yzt,yzl,yzr,AVal.fresh,freshL,yz2,yzh,AObj.fresh,id,Option.isSome_some,or_true,true_or,go_sem,yz0,xx9,xx8,xx6,xx7,xx5,xx0,xx1,xx2,reduceIte,xx3,xx4,reduceCtorEq]
  intro vs2 U2 hN2
  generalize hf:sv (L .gone _) [5000] (vs1 1)=f
  have hf0:f 0=0:=by rw [← hf];simp [sv,AObj.ver,L]
  rw [hf0]
  generalize hps0:List.map (fun p=>(f p.1,p.2)) qs=ps0
  have A0:Aut q (ps0.map (·.2)):=by
    rw [← hps0,List.map_map];exact A
  have n1:=A0.n1
  have l1:=A0.l1
  have l2:=A0.l2
  rw [List.length_map] at l1 l2
  refine call_funBN (k_pick code a1 s1 4 hb (by omega)) rfl (by simp) qCS qCS ⟨srcC code a1 0,.int .i64 0,⟨a1,0,0,rfl,by omega,by omega,rfl,by omega,.inr rfl⟩,flat_srcC⟩ ?_
  rintro cs' x ⟨a2,s2,b2,rfl,g1,g2,rfl,g3,g4⟩
  obtain ⟨n,hn⟩:∃ n:Int,n=q+b2:=⟨_,rfl⟩
  have wn:IntKind.i64.wrap (q+b2)=n:=by rw [hn];exact w64 (by omega)
  simp only [wn,Bzev,yzn,yz1,go_sem,yz0,xx9,xx8,xx6,xx7,xx5,xx0,xx1,xx2,reduceIte,xx3,xx4,reduceCtorEq]
  intro vs3 U3 hN3
  simp only [Bzeu,Bzea,yzn,yz1,go_sem,yz0,xx9,xx8,xx6,xx7,xx5,xx0,xx1,xx2,reduceIte,xx3,xx4,reduceCtorEq]
  intro vs4 U4 hN4
  refine wpD_lp (fun (_,_,_,xs)=>n.toNat - List.length xs)
    (fun (_,a,_,xs)=>a2≤a∧a≤a2+2 * List.length xs∧(List.length xs:Int)≤n∧∀ x∈xs,0≤x∧x<q)
    (fun ((v6,a,s,xs):Nat×Int×Int×List Int)=>⟨L .any [(0,.ptr 5000 0 0),(2,.ptr 2 (vs0 0 0) 0),(4,.ptr 4 (vs1 2 0) 0),(5,iv n),(6,.own 23 v6),(7,iv xs.length)],
      L .gone [(2,.box (vs0 0 0) [iv 0,.val (.slice none 0 0)]),(4,.box (vs1 2 0) [iv q,.own 17 (f vq)]),(8,.gone),(17,.row (f vq) 1 true (rwp ps0)),(23,.row v6 1 true (ints xs)),(36,.gone),(43,.gone),(93,.gone),(5000,.box 0 (srcC code a s))]⟩)
    (_,a2,s2,[]) ⟨Int.le_refl _,by simp,by simp;omega,by simp⟩ (by simp only [Bz2m,go_sem,yz0,xx9,xx8,xx6,xx7,xx5,xx0,xx1,xx2,reduceIte,xx3,xx4,reduceCtorEq];try rfl) ?_
  rintro ⟨v6,a,s,xs⟩ ⟨i1,i2,i3,i4⟩
  have i1:a2≤a:=i1
  have i2:a≤a2+2 * xs.length:=i2
  have i3:(xs.length:Int)≤n:=i3
  by_cases hlt:(xs.length:Int)<n
  · have w1:IntKind.i64.wrap ((xs.length:Int)+1)=((xs.length+1:Nat):Int):=by rw [w64 (by omega)];simp
    simp only [Bz2m,Bz6j,Bze9,decide_eq_true hlt,yzn,yz1,go_sem,yz0,xx9,xx8,xx6,xx7,xx5,xx0,xx1,xx2,reduceIte,xx3,xx4,reduceCtorEq]
    intro vs5 U5 hN5 vs6 U6 hN6
    by_cases hq:(xs.length:Int)<q
    · simp only [Bz6k,Bz6l,decide_eq_true hq,w1,yzn,yz1,go_sem,yz0,xx9,xx8,xx6,xx7,xx5,xx0,xx1,xx2,reduceIte,xx3,xx4,reduceCtorEq]
      intro vs7 U7 hN7
      refine ⟨⟨_,rfl,rfl⟩,by omega,?_⟩
      intro vs8 U8 hN8
      refine ⟨(vs7 3 0,a,s,xs ++ [(xs.length:Int)]),by dsimp only;rw [List.length_append,List.length_singleton];omega,⟨i1,by dsimp only;rw [List.length_append,List.length_singleton];omega,by dsimp only;rw [List.length_append,List.length_singleton];omega,fun x hx=>?_⟩,?_⟩
      · rcases List.mem_append.1 hx with h | h
        · exact i4 x h
        · rw [List.mem_singleton.1 h];omega
      · simp only [List.length_append,List.length_singleton]
    · simp only [Bz6k,decide_eq_false hq,yzn,yz1,go_sem,yz0,xx9,xx8,xx6,xx7,xx5,xx0,xx1,xx2,reduceIte,xx3,xx4,reduceCtorEq]
      intro vs7 U7 hN7
      refine call_funB (k_pick code a s q hb (by omega)) rfl qCS qCS ?_
      rintro cs' x ⟨a3,s3,b3,rfl,e1,e2,rfl,e3,e4⟩
      simp only [Bz6l,w1,yzn,yz1,go_sem,yz0,xx9,xx8,xx6,xx7,xx5,xx0,xx1,xx2,reduceIte,xx3,xx4,reduceCtorEq]
      refine ⟨⟨_,rfl,rfl⟩,by omega,?_⟩
      intro vs8 U8 hN8
      refine ⟨(vs7 6 0,a3,s3,xs ++ [b3]),by dsimp only;rw [List.length_append,List.length_singleton];omega,⟨by dsimp only;omega,by dsimp only;rw [List.length_append,List.length_singleton];omega,by dsimp only;rw [List.length_append,List.length_singleton];omega,fun x hx=>?_⟩,?_⟩
      · rcases List.mem_append.1 hx with h | h
        · exact i4 x h
        · rw [List.mem_singleton.1 h];omega
      · simp only [List.length_append,List.length_singleton]
  have hxl:(xs.length:Int)=n:=by omega
  simp only [Bz2m,Bz6j,Bzet,decide_eq_false hlt,yzn,yz1,go_sem,yz0,xx9,xx8,xx6,xx7,xx5,xx0,xx1,xx2,reduceIte,xx3,xx4,reduceCtorEq]
  intro vs5 U5 hN5 vs6 U6 hN6
  simp only [Bzes,Bzeq,yzn,yz1,go_sem,yz0,xx9,xx8,xx6,xx7,xx5,xx0,xx1,xx2,reduceIte,xx3,xx4,reduceCtorEq]
  intro vs7 U7 hN7 ver
  refine wpD_lp (fun (_,_,_,_,ps)=>ps0.length - List.length ps)
    (fun (_,nn,a',_,ps)=>a≤a'∧a'≤a+60 * List.length ps∧List.length ps≤ps0.length∧(ps≠[]→nn=true)∧(∀ p∈ps,(List.length p.2:Int)=n∧∀ x∈p.2,0≤x∧x<n)∧DJ ps)
    (fun ((v93,nn,a,s,ps):Nat×Bool×Int×Int×List (Nat×List Int))=>⟨L .any [(0,.ptr 5000 0 0),(2,.ptr 2 (vs0 0 0) 0),(4,.ptr 4 (vs1 2 0) 0),(5,iv n),(6,.own 23 v6),(8,.ptr 8 (vs6 2 0) 0),(9,iv ps.length)],
      L .gone [(2,.box (vs0 0 0) [iv 0,.val (.slice none 0 0)]),(4,.box (vs1 2 0) [iv q,.own 17 (f vq)]),(8,.box (vs6 2 0) [iv n,.own 93 v93]),(17,.row (f vq) 1 true (rwp ps0)),(23,.row v6 1 true (ints xs)),(36,.gone),(43,.gone),(93,.row v93 1 nn (rwp ps)),(5000,.box 0 (srcC code a s))]⟩)
    (ver,false,a,s,[]) ⟨Int.le_refl _,by simp,by simp,by simp,by simp,by simp [DJ]⟩ (by simp only [Bz2p,go_sem,yz0,xx9,xx8,xx6,xx7,xx5,xx0,xx1,xx2,reduceIte,xx3,xx4,reduceCtorEq];try rfl) ?_
  rintro ⟨v93,nn,a',s',ps⟩ ⟨j1,j2,j3,j4,j5,j6⟩
  have j1:a≤a':=j1
  have j2:a'≤a+60 * ps.length:=j2
  have j3:ps.length≤ps0.length:=j3
  by_cases hlp:(ps.length:Int)<ps0.length
  · have hlp1:ps.length<ps0.length:=by omega
    have hrw:=A0.row _ (List.mem_map_of_mem (f:=(·.2)) (yzq hlp1 (0,[])))
    generalize hr0:ps0.getD ps.length (0,[])=r0 at hrw
    simp only [Bz2p,Bz6m,Bzep,rwp_len,decide_eq_true hlp,yzn,yz1,go_sem,yz0,xx9,xx8,xx6,xx7,xx5,xx0,xx1,xx2,reduceIte,xx3,xx4,reduceCtorEq]
    intro vs8 U8 hN8 hM8 vs9 U9 hN9
    simp only [Bzen,Bzel,yzn,yz1,go_sem,yz0,xx9,xx8,xx6,xx7,xx5,xx0,xx1,xx2,reduceIte,xx3,xx4,reduceCtorEq]
    intro vs10 U10 hN10
    refine wpD_lp (fun (_,_,_,row)=>n.toNat - List.length row)
      (fun (_,a3,_,row)=>a'≤a3∧a3≤a'+8 * List.length row∧(List.length row:Int)≤n∧∀ x∈row,0≤x∧x<n)
      (fun ((v10,a,s,row):Nat×Int×Int×List Int)=>⟨L .any [(0,.ptr 5000 0 0),(2,.ptr 2 (vs0 0 0) 0),(4,.ptr 4 (vs1 2 0) 0),(5,iv n),(6,.own 23 v6),(8,.ptr 8 (vs6 2 0) 0),(9,iv ps.length),(10,.own 53 v10),(11,iv row.length)],
        L .gone [(2,.box (vs0 0 0) [iv 0,.val (.slice none 0 0)]),(4,.box (vs1 2 0) [iv q,.own 17 (f vq)]),(8,.box (vs6 2 0) [iv n,.own 93 v93]),(17,.row (f vq) 1 true (rwp ps0)),(23,.row v6 1 true (ints xs)),(36,.gone),(43,.gone),(53,.row v10 1 true (ints row)),(88,.gone),(93,.row v93 1 nn (rwp ps)),(5000,.box 0 (srcC code a s))]⟩)
      (_,a',s',[]) ⟨Int.le_refl _,by simp,by simp;omega,by simp⟩ (by simp only [Bz2o,go_sem,yz0,xx9,xx8,xx6,xx7,xx5,xx0,xx1,xx2,reduceIte,xx3,xx4,reduceCtorEq];try rfl) ?_
    rintro ⟨v10,a3,s3,row⟩ ⟨k1,k2,k3,k4⟩
    have k1:a'≤a3:=k1
    have k2:a3≤a'+8 * row.length:=k2
    have k3:(row.length:Int)≤n:=k3
    by_cases hlr:(row.length:Int)<n
    · have hx1:row.length<xs.length:=by omega
      have hm:=i4 _ (yzq hx1 0)
      generalize hmx:xs.getD row.length 0=m at hm
      have hm1:m.toNat<r0.2.length:=by omega
      have hw:=hrw.2 _ (yzq hm1 0)
      generalize hwx:r0.2.getD m.toNat 0=want at hw
      simp only [Bz2o,Bz6n,Bzek,rwp_getD hlp1,hr0,yzw hx1,hmx,yzw hm1,hwx,decide_eq_true hlr,yzn,yz1,go_sem,yz0,xx9,xx8,xx6,xx7,xx5,xx0,xx1,xx2,reduceIte,xx3,xx4,reduceCtorEq]
      intro vs11 U11 hN11 vs12 U12 hN12
      have hlw:(rwp ps0).length=ps0.length:=rwp_len
      refine ⟨⟨by omega,by omega⟩,by omega,⟨by omega,hx1⟩,hx1,⟨hm.1,hm1⟩,hm1,?_⟩
      simp only [Bzei,Bzeh,Bzef,yzn,yz1,go_sem,yz0,xx9,xx8,xx6,xx7,xx5,xx0,xx1,xx2,reduceIte,xx3,xx4,reduceCtorEq]
      intro vs13 U13 hN13 vs14 U14 hN14
      refine wpD_lp (fun (_,_,_,j)=>4 - j)
        (fun (a4,_,t,j)=>a3≤a4∧a4≤a3+2 * (j:Nat)∧j≤4∧0≤t∧t<n)
        (fun ((a,s,t,j):Int×Int×Int×Nat)=>⟨L .any [(0,.ptr 5000 0 0),(2,.ptr 2 (vs0 0 0) 0),(4,.ptr 4 (vs1 2 0) 0),(5,iv n),(6,.own 23 v6),(8,.ptr 8 (vs6 2 0) 0),(9,iv ps.length),(10,.own 53 v10),(11,iv row.length),(12,iv want),(13,iv t),(14,iv j)],
          L .gone [(2,.box (vs0 0 0) [iv 0,.val (.slice none 0 0)]),(4,.box (vs1 2 0) [iv q,.own 17 (f vq)]),(8,.box (vs6 2 0) [iv n,.own 93 v93]),(17,.row (f vq) 1 true (rwp ps0)),(23,.row v6 1 true (ints xs)),(36,.gone),(43,.gone),(53,.row v10 1 true (ints row)),(88,.gone),(93,.row v93 1 nn (rwp ps)),(5000,.box 0 (srcC code a s))]⟩)
        (a3,s3,want,0) ⟨Int.le_refl _,by simp,by simp,hw.1,by omega⟩ (by simp only [Bz2n,go_sem,yz0,xx9,xx8,xx6,xx7,xx5,xx0,xx1,xx2,reduceIte,xx3,xx4,reduceCtorEq];try rfl) ?_
      rintro ⟨a4,s4,t,j⟩ ⟨m1,m2,m3,m4,m5⟩
      have m1:a3≤a4:=m1
      have m2:a4≤a3+2 * (j:Nat):=m2
      have m3:j≤4:=m3
      by_cases hj:(j:Int)<4
      · have w1:IntKind.i64.wrap ((j:Int)+1)=((j+1:Nat):Int):=by rw [w64 (by omega)];simp
        simp only [Bz2n,Bz6o,Bzee,decide_eq_true hj,yzn,yz1,go_sem,yz0,xx9,xx8,xx6,xx7,xx5,xx0,xx1,xx2,reduceIte,xx3,xx4,reduceCtorEq]
        intro vs15 U15 hN15 vs16 U16 hN16
        refine call_funB (k_pick code a4 s4 n hb (by omega)) rfl qCS qCS ?_
        rintro cs' x ⟨a5,s5,b5,rfl,e1,e2,rfl,e3,e4⟩
        have hb5:b5.toNat<xs.length:=by omega
        simp only [Bzec,yzw hb5,yzn,yz1,go_sem,yz0,xx9,xx8,xx6,xx7,xx5,xx0,xx1,xx2,reduceIte,xx3,xx4,reduceCtorEq]
        intro vs17 U17 hN17
        refine ⟨⟨e3,hb5⟩,hb5,?_⟩
        simp only [Bzeb,Bzed,w1,yzn,yz1,go_sem,yz0,xx9,xx8,xx6,xx7,xx5,xx0,xx1,xx2,reduceIte,xx3,xx4,reduceCtorEq]
        refine ⟨fun _ vs18 U18 hN18 vs19 U19 hN19=>⟨(a5,s5,b5,j+1),by dsimp only;omega,⟨by dsimp only;omega,by dsimp only;omega,by dsimp only;omega,e3,by dsimp only;omega⟩,rfl⟩,
          fun _ vs18 U18 hN18=>⟨(a5,s5,t,j+1),by dsimp only;omega,⟨by dsimp only;omega,by dsimp only;omega,by dsimp only;omega,m4,m5⟩,rfl⟩⟩
      · have w1:IntKind.i64.wrap ((row.length:Int)+1)=((row.length+1:Nat):Int):=by rw [w64 (by omega)];simp
        simp only [Bz2n,Bz6o,Bzeg,decide_eq_false hj,yzn,yz1,go_sem,yz0,xx9,xx8,xx6,xx7,xx5,xx0,xx1,xx2,reduceIte,xx3,xx4,reduceCtorEq]
        intro vs15 U15 hN15 vs16 U16 hN16
        refine ⟨⟨_,rfl,rfl⟩,by omega,?_⟩
        simp only [Bzej,w1,yzn,yz1,go_sem,yz0,xx9,xx8,xx6,xx7,xx5,xx0,xx1,xx2,reduceIte,xx3,xx4,reduceCtorEq]
        intro vs17 U17 hN17
        refine ⟨(vs16 3 0,a4,s4,row ++ [t]),by dsimp only;rw [List.length_append,List.length_singleton];omega,⟨by dsimp only;omega,by dsimp only;rw [List.length_append,List.length_singleton];omega,by dsimp only;rw [List.length_append,List.length_singleton];omega,fun x hx=>?_⟩,?_⟩
        · rcases List.mem_append.1 hx with h | h
          · exact k4 x h
          · rw [List.mem_singleton.1 h];exact ⟨m4,m5⟩
        · simp only [List.length_append,List.length_singleton]
    · have hrl:(row.length:Int)=n:=by omega
      have w1:IntKind.i64.wrap ((ps.length:Int)+1)=((ps.length+1:Nat):Int):=by rw [w64 (by omega)];simp
      simp only [Bz2o,Bz6n,Bzem,decide_eq_false hlr,yzn,yz1,wpD_gh,go_sem,yz0,xx9,xx8,xx6,xx7,xx5,xx0,xx1,xx2,reduceIte,xx3,xx4,reduceCtorEq]
      intro vs11 U11 hN11 hD
      refine ⟨[],?_⟩
      have hf:∀ p∈ps,p.2=[]∨p.1≠v10:=fun p hp=>by
        by_cases e:p.2=[]
        · exact .inl e
        · exact .inr (hD 93 v93 1 nn (rwp ps) 53 v10 rfl rfl p.1 1 (ints p.2) (List.mem_map.2 ⟨p,hp,rfl⟩) (by simpa using e))
      simp only [gwp_nil,yzn,yz1,go_sem,yz0,xx9,xx8,xx6,xx7,xx5,xx0,xx1,xx2,reduceIte,xx3,xx4,reduceCtorEq]
      intro vs12 U12 hN12
      rw [rwp_len]
      refine ⟨by omega,?_⟩
      simp only [Bzeo,w1,rwp_snoc,yzn,yz1,go_sem,yz0,xx9,xx8,xx6,xx7,xx5,xx0,xx1,xx2,reduceIte,xx3,xx4,reduceCtorEq]
      intro vs13 U13 hN13
      refine ⟨(vs12 4 0,true,a3,s3,ps ++ [(v10,row)]),by dsimp only;rw [List.length_append,List.length_singleton];omega,
        ⟨by dsimp only;omega,by dsimp only;rw [List.length_append,List.length_singleton];omega,by dsimp only;rw [List.length_append,List.length_singleton];omega,by simp,fun p hp=>?_,j6.snoc hf⟩,?_⟩
      · rcases List.mem_append.1 hp with h | h
        · exact j5 p h
        · rw [List.mem_singleton.1 h];exact ⟨hrl,k4⟩
      · simp only [List.length_append,List.length_singleton]
  · have hlen:ps.length=ps0.length:=by omega
    obtain rfl:=j4 (fun e=>by rw [e] at hlen;simp at hlen;omega)
    simp only [Bz2p,Bz6m,Bzer,rwp_len,decide_eq_false hlp,yzn,yz1,go_sem,yz0,xx9,xx8,xx6,xx7,xx5,xx0,xx1,xx2,reduceIte,xx3,xx4,reduceCtorEq]
    intro vs8 U8 hN8 hM8 vs9 U9 hN9
    refine call_rowI (k_l01Tidied xs (by omega)) qCS qGN ⟨[],trivial⟩ ?_
    rintro ys vy -
    simp only [Az6p,← hQ,yzn,yz1,go_sem,yz0,xx9,xx8,xx6,xx7,xx5,xx0,xx1,xx2,reduceIte,xx3,xx4,reduceCtorEq]
    refine ⟨[93,97],by simp,by simp,by simp,?_⟩
    simp only [range1,List.length_singleton,renL_rwp,Nat.not_lt_zero,range1,yzx,yz11,ren_ro,rnNm_n,yz10,rnNm_o,rnNm_s,ren_st,yzy,yzp,yzf,yz4,yzu,yzv,yzo,yzm,yzs,yzb,yzd,yzc,yza,yzj,yzi,yz3,yz7,yz8,yz9,yzg,yzk,List.range_zero,yz6,yz5,yze,yzt,yzl,yzr,AVal.fresh,freshL,yz2,yzh,AObj.fresh,id,Option.isSome_some,or_true,true_or,go_sem,yz0,xx9,xx8,xx6,xx7,xx5,xx0,xx1,xx2,reduceIte,xx3,xx4,reduceCtorEq]
    exact ⟨n,ps,v93,vy,ys,a',s',⟨by omega,by omega,by rw [List.length_map];omega,by rw [List.length_map];omega,fun r hr=>by obtain ⟨p,hp,rfl⟩:=List.mem_map.1 hr;exact j5 p hp⟩,j6,by omega,by omega,by omega,rfl,by simp,rfl⟩
end Go.Ab
namespace Go.Ab
def divS:Int→List Int→Bool
  | _,[]=>true
  | u,c :: cs=>(decide (0≤c) && decide (c≤u)) && divS (max u (c+1)) cs
def usedS:Int→List Int→Int
  | u,[]=>u
  | u,c :: cs=>usedS (max u (c+1)) cs
def divB (cl:List Int) (n:Int):Bool:=divS 0 cl && decide ((cl.length:Int)=n)
theorem used_ge:∀ {cs:List Int} {u:Int},u≤usedS u cs
  | [],_=>Int.le_refl _
  | c :: cs,u=>by
    have:=used_ge (cs:=cs) (u:=max u (c+1))
    simp only [usedS];omega
theorem used_mem:∀ {cs:List Int} {u c:Int},c∈cs→c+1≤usedS u cs
  | x :: cs,u,c,h=>by
    simp only [usedS]
    rcases List.mem_cons.1 h with rfl | h
    · have:=used_ge (cs:=cs) (u:=max u (c+1));omega
    · exact used_mem h
theorem divS_cons {u c:Int} {cs:List Int}:divS u (c :: cs)=true↔(0≤c∧c≤u)∧divS (max u (c+1)) cs=true:=by
  simp [divS,Bool.and_eq_true,decide_eq_true_eq]
theorem div_nn:∀ {cs:List Int} {u c:Int},divS u cs=true→c∈cs→0≤c
  | x :: cs,u,c,h,hc=>by
    obtain ⟨h1,h2⟩:=divS_cons.1 h
    rcases List.mem_cons.1 hc with rfl | hc
    · exact h1.1
    · exact div_nn h2 hc
theorem div_surj:∀ {cs:List Int} {u c:Int},divS u cs=true→u≤c→c<usedS u cs→c∈cs
  | [],u,c,_,h1,h2=>by simp only [usedS] at h2;omega
  | x :: cs,u,c,h,h1,h2=>by
    obtain ⟨g1,g2⟩:=divS_cons.1 h
    simp only [usedS] at h2
    by_cases e:c=x
    · rw [e];simp
    · exact List.mem_cons_of_mem _ (div_surj g2 (by omega) h2)
theorem used_len:∀ {cs:List Int} {u:Int},divS u cs=true→usedS u cs≤u+cs.length
  | [],u,_=>by simp [usedS]
  | x :: cs,u,h=>by
    obtain ⟨g1,g2⟩:=divS_cons.1 h
    have:=used_len g2
    simp only [usedS,List.length_cons];omega
theorem divS_snoc:∀ {cs:List Int} {u c:Int},divS u (cs ++ [c])=(divS u cs && (decide (0≤c) && decide (c≤usedS u cs)))
  | [],u,c=>by simp only [List.nil_append,divS,usedS,Bool.and_true,Bool.true_and];rfl
  | x :: cs,u,c=>by simp only [List.cons_append,divS,usedS,divS_snoc (cs:=cs),Bool.and_assoc];rfl
theorem used_snoc:∀ {cs:List Int} {u c:Int},usedS u (cs ++ [c])=max (usedS u cs) (c+1)
  | [],u,c=>rfl
  | x :: cs,u,c=>by simp only [List.cons_append,usedS,used_snoc (cs:=cs)]
structure Div (cl:List Int) (n k:Int):Prop where
  ln:(cl.length:Int)=n
  nn:∀ c∈cl,0≤c∧c<k
  on:∀ c,0≤c→c<k→c∈cl
  le:k≤n
theorem Div.of {cl:List Int} {n:Int} (h:divB cl n=true):Div cl n (usedS 0 cl):=by
  unfold divB at h
  rw [Bool.and_eq_true,decide_eq_true_eq] at h
  exact ⟨h.2,fun c hc=>⟨div_nn h.1 hc,by have:=used_mem (u:=0) hc;omega⟩,fun c h1 h2=>div_surj h.1 h1 h2,by have:=used_len h.1;omega⟩
theorem Div.at {cl:List Int} {n k:Int} (D:Div cl n k) {s:Nat} (hs:(s:Int)<n):0≤cl.getD s 0∧cl.getD s 0<k:=D.nn _ (yzq (by have:=D.ln;omega) 0)
theorem Div.pos {cl:List Int} {n k:Int} (D:Div cl n k) (hn:1≤n):1≤k:=by
  have:=D.at (s:=0) (by omega);omega
end Go.Ab
namespace Go.Ab
open Go.Proofs
structure TidP (xs ys:List Int):Prop where
  ln:ys.length≤xs.length
  dv:divS 0 ys=true
  eq:∀ i j,i<ys.length→j<ys.length→(ys.getD i 0=ys.getD j 0↔xs.getD i 0=xs.getD j 0)
theorem TidP.nil {xs:List Int}:TidP xs []:=⟨by simp,rfl,by simp⟩
theorem getD_snl {ys:List Int} {c:Int} {i:Nat} (h:i<ys.length):(ys ++ [c]).getD i 0=ys.getD i 0:=by
  rw [List.getD_eq_getElem?_getD,List.getElem?_append_left h,← List.getD_eq_getElem?_getD]
theorem getD_snr {ys:List Int} {c:Int}:(ys ++ [c]).getD ys.length 0=c:=by
  rw [List.getD_eq_getElem?_getD,List.getElem?_append_right (Nat.le_refl _)];simp
theorem TidP.add {xs ys:List Int} {c:Int} (T:TidP xs ys) (hlt:ys.length<xs.length) (hd:0≤c∧c≤usedS 0 ys) (he:∀ i<ys.length,(ys.getD i 0=c↔xs.getD i 0=xs.getD ys.length 0)):TidP xs (ys ++ [c]):=by
  refine ⟨by simp;omega,by rw [divS_snoc,T.dv];simp [hd],fun i j hi hj=>?_⟩
  rw [List.length_append,List.length_singleton] at hi hj
  by_cases h1:i<ys.length
  · by_cases h2:j<ys.length
    · rw [getD_snl h1,getD_snl h2];exact T.eq i j h1 h2
    · obtain rfl:j=ys.length:=by omega
      rw [getD_snl h1,getD_snr];exact he i h1
  · obtain rfl:i=ys.length:=by omega
    by_cases h2:j<ys.length
    · rw [getD_snl h2,getD_snr]
      constructor
      · intro h;exact ((he j h2).1 h.symm).symm
      · intro h;exact ((he j h2).2 h.symm).symm
    · obtain rfl:j=ys.length:=by omega
      simp
theorem TidP.new {xs ys:List Int} (T:TidP xs ys) (hlt:ys.length<xs.length) (h:∀ k<ys.length,xs.getD k 0≠xs.getD ys.length 0):TidP xs (ys ++ [usedS 0 ys]):=by
  refine T.add hlt ⟨used_ge,Int.le_refl _⟩ fun i hi=>⟨fun e=>?_,fun e=>absurd e (h i hi)⟩
  have:=used_mem (u:=0) (yzq hi 0)
  omega
theorem TidP.old {xs ys:List Int} (T:TidP xs ys) (hlt:ys.length<xs.length) {k:Nat} (hk:k<ys.length) (h:xs.getD k 0=xs.getD ys.length 0):TidP xs (ys ++ [ys.getD k 0]):=by
  have hm:=yzq hk 0
  refine T.add hlt ⟨div_nn T.dv hm,by have:=used_mem (u:=0) hm;omega⟩ fun i hi=>?_
  rw [T.eq i k hi hk,h]
end Go.Ab
namespace Go.Ab
open Go.Proofs
theorem rf_L {l:List (Nat×AVal)} {h:List (Nat×AObj)} {r i q v k k' ver:Nat} {nn nn':Bool} {cs cs':List AVal} (hr:L .gone h r=.row v k nn cs) (hqr:q≠r) :
    St.rf ⟨L .any l,L .gone h⟩ r i q ver k' nn' cs'=⟨L .any l,L .gone ((r,.row v k nn (cs.set i (.ro (frNm nn' cs'.length ver) k' cs'))) :: (q,.gone) :: h)⟩:=by
  unfold St.rf
  congr 1
  funext x
  simp only [L]
  split
  · rw [hr]
  · split <;> rfl
theorem gwp_rf {gs:List GStep} {K:St→Prop} {l:List (Nat×AVal)} {h:List (Nat×AObj)} {r i q v k k' ver:Nat} {nn nn':Bool} {cs cs':List AVal} (hr:L .gone h r=.row v k nn cs)
    (hi:cs[i]?=some (.own q ver)) (hqr:q≠r) (hq:L .gone h q=.row ver k' nn' cs')
    (hk:(∀ n k'' cs'',AVal.ro (some (some (n+1))) k'' cs''∈cs→cs''≠[]→n≠ver)→gwp gs K ⟨L .any l,L .gone ((r,.row v k nn (cs.set i (.ro (frNm nn' cs'.length ver) k' cs'))) :: (q,.gone) :: h)⟩):gwp (.rf r i q :: gs) K ⟨L .any l,L .gone h⟩ :=
  ⟨v,k,nn,cs,ver,k',nn',cs',hr,hi,hqr,hq,fun hd=>by rw [rf_L hr hqr];exact hk hd⟩
theorem woL_set {A C:List (Nat×List Int)} {b:Nat×List Int} {X:AVal} (h:∀ p∈A ++ C,p.2=[]∨p.1≠b.1):(woL b.1 (rwp (A ++ b :: C))).set A.length X=rwp A ++ X :: rwp C:=by
  have e:rwp (A ++ b :: C)=rwp A ++ (.ro (some (some (b.1+1))) 1 (ints b.2)) :: rwp C:=by simp [rwp]
  have hl:(rwp A).length=A.length:=rwp_len
  have hA:=woL_rwp (n:=b.1) (ps:=A) fun p hp=>h p (List.mem_append.2 (.inl hp))
  have hC:=woL_rwp (n:=b.1) (ps:=C) fun p hp=>h p (List.mem_append.2 (.inr hp))
  have happ:∀ l l':List AVal,woL b.1 (l ++ l')=woL b.1 l ++ woL b.1 l':=by
    intro l l'
    simp only [woL_eq,List.map_append]
  rw [e,happ,hA,woL_cons,hC,List.set_append_right _ _ (by omega),hl,Nat.sub_self]
  rfl
theorem own_at {A C:List (Nat×List Int)} {X:AVal} {i:Nat} (h:i=A.length):(rwp A ++ X :: rwp C).getD i .any=X:=by
  subst h
  rw [List.getD_eq_getElem?_getD,List.getElem?_append_right (by rw [rwp_len];exact Nat.le_refl _),rwp_len];simp
theorem DJ_out {X Y:List (Nat×List Int)} {b:Nat×List Int} (h:DJ (X ++ b :: Y)) (hb:b.2≠[]):∀ p∈X ++ Y,p.2=[]∨p.1≠b.1:=by
  intro p hp
  rcases (List.pairwise_cons.1 (DJ_perm List.perm_middle h)).1 p hp with e | e | e
  · exact absurd e hb
  · exact .inl e
  · exact .inr (Ne.symm e)
theorem DJ_in {X Y:List (Nat×List Int)} {b:Nat×List Int} {u:Nat} {r:List Int} (h:DJ (X ++ b :: Y)) (hu:∀ p∈X ++ Y,p.2=[]∨p.1≠u):DJ (X ++ (u,r) :: Y) :=
  DJ_perm List.perm_middle.symm (List.pairwise_cons.2 ⟨fun p hp=>by
    rcases hu p hp with e | e
    · exact .inr (.inl e)
    · exact .inr (.inr (Ne.symm e)),(List.pairwise_cons.1 (DJ_perm List.perm_middle h)).2⟩)
theorem rwp_get {A C:List (Nat×List Int)} {b:Nat×List Int} {i:Nat} (h:i=A.length):(rwp (A ++ b :: C))[i]?=some (.ro (some (some (b.1+1))) 1 (ints b.2)):=by
  subst h
  rw [rwp,List.map_append,List.getElem?_append_right (by simp)]
  simp
theorem own_get {A C:List (Nat×List Int)} {X:AVal} {i:Nat} (h:i=A.length):(rwp A ++ X :: rwp C)[i]?=some X:=by
  subst h
  rw [List.getElem?_append_right (by rw [rwp_len];exact Nat.le_refl _),rwp_len];simp
theorem rwp_cat {A C:List (Nat×List Int)} {u:Nat} {xs:List Int}:rwp A ++ (.ro (some (some (u+1))) 1 (ints xs)) :: rwp C=rwp (A ++ (u,xs) :: C):=by simp [rwp]
theorem rwp_split {ps:List (Nat×List Int)} {k:Nat} (h:k<ps.length):∃ A b C,ps=A ++ b :: C∧A.length=k :=
  ⟨ps.take k,ps[k],ps.drop (k+1),by rw [← List.drop_eq_getElem_cons h,List.take_append_drop],by rw [List.length_take];omega⟩
theorem callHp_mrr {hp:Nat→AObj} {r d:Nat} {s:Nat→Nat} {o o1 o2:AObj} (hne:d≠r) (hne2:d+1000≠r) :
    callHp hp [r] d s [o] [o1,o2]=upd (upd (upd hp r (o.ren (rid [r] d 2) (sv hp [r] s))) d (o1.ren (rid [r] d 2) (sv hp [r] s))) (d+1000) (o2.ren (rid [r] d 2) (sv hp [r] s)):=by
  have hnew:∀ i,i<[o1,o2].length→newId d i ∉ [r]:=by
    intro i hi
    have:i=0∨i=1:=by simp at hi;omega
    rcases this with rfl | rfl
    · simpa [newId] using hne
    · simpa [newId] using hne2
  funext n
  by_cases h:n=d+1000
  · have h1:rid [r] d [o1,o2].length 6001=some n:=by rw [h];exact rid1
    rw [callHp_at (by simp) hnew h1]
    simp [upd,h,outHp]
  · by_cases h2:n=d
    · have h1:rid [r] d [o1,o2].length 6000=some n:=by rw [h2];exact rid0
      rw [callHp_at (by simp) hnew h1]
      have hne3:d≠d+1000:=by omega
      simp [upd,h2,outHp,hne3]
    · by_cases h':n=r
      · have h1:rid [r] d [o1,o2].length 5000=some n:=by rw [h'];exact rid_m (j:=0) (by omega) rfl
        rw [callHp_at (by simp) hnew h1]
        simp [upd,h',outHp,Ne.symm hne,Ne.symm hne2]
      · rw [callHp_not]
        · simp [upd,h,h2,h']
        · rintro ⟨q,hq⟩
          rcases rid_cases hq with ⟨j,rfl,_,h1⟩ | ⟨i,rfl,h1,h3⟩
          · cases j with
            | zero=>simp at h1;exact h' h1.symm
            | succ j=>simp at h1
          · have:i=0∨i=1:=by simp at h1;omega
            rcases this with rfl | rfl
            · exact h2 (by simpa [newId] using h3)
            · exact h (by simpa [newId] using h3)
theorem sv_inj {hp:Nat→AObj} {r v:Nat} {s:Nat→Nat} {cs:List AVal} (hr:hp r=.box v cs) (hs:∀ x y,s x=s y→x=y) (hv:∀ y,s y≠v):∀ x y,sv hp [r] s x=sv hp [r] s y→x=y:=by
  intro x y e
  rcases Nat.eq_zero_or_pos x with rfl | hx <;> rcases Nat.eq_zero_or_pos y with rfl | hy
  · rfl
  · rw [sv_m hr,sv_new hy] at e;exact absurd e.symm (hv y)
  · rw [sv_new hx,sv_m hr] at e;exact absurd e (hv x)
  · rw [sv_new hx,sv_new hy] at e;exact hs _ _ e
structure TwI (n m:Int) (A B:List (Nat×List Int)) (top:Int) (low:Int):Prop where
  a:∀ p∈A,(p.2.length:Int)=m∧∀ x∈p.2,0≤x∧x<top
  b:∀ p∈B,(p.2.length:Int)=n∧∀ x∈p.2,0≤x∧x<low
end Go.Ab
namespace Go.Ab
open Go.Proofs
end Go.Ab
namespace Go.Ab
open Go.Proofs
end Go.Ab
namespace Go.Ab
end Go.Ab
namespace Go.Ab
theorem appg_new {α:Type} {xs:List α} {y d:α}:(xs ++ [y]).getD xs.length d=y:=by
  simp [List.getD_eq_getElem?_getD]
end Go.Ab
namespace Go.Ab
structure CI (n:Int) (L:List Int):Prop where
  nd:L.Nodup
  rg:∀ s∈L,0≤s∧s<n
  hd:L.getD 0 1=0
theorem CI.len {n:Int} {L:List Int} (h:CI n L) (hn:n≤10):1≤L.length∧L.length≤10:=by
  have h1:L≠[]:=fun e=>by have:=h.hd;rw [e] at this;simp at this
  have hm:(L.map Int.toNat).Nodup:=by
    refine List.Pairwise.map _ ?_ (List.Pairwise.and_mem.1 h.nd)
    rintro a b ⟨ha,hb,hab⟩ e
    have:=h.rg a ha
    have:=h.rg b hb
    omega
  have:=nodup_lt 10 _ hm fun x hx=>by
    obtain ⟨s,hs,rfl⟩:=List.mem_map.1 hx
    have:=h.rg s hs
    omega
  rw [List.length_map] at this
  exact ⟨List.length_pos_iff.2 h1,this⟩
structure Rel (na oa nb ob:List (List Int)) (R:Int→Int→Prop):Prop where
  len:na.length=nb.length
  step:∀ s t,R s t→∀ x,0≤x∧x<(na.length:Int)→outA oa s x=outA ob t x∧R (stepA na s x) (stepA nb t x)
  fn:∀ s t t',R s t→R s t'→t=t'
  inj:∀ s s' t,R s t→R s' t→s=s'
def RelL (R:Int→Int→Prop) (L M:List Int):Prop:=L.length=M.length∧∀ i<L.length,R (L.getD i 0) (M.getD i 0)
theorem RelL.snoc {R:Int→Int→Prop} {L M:List Int} (h:RelL R L M) {s t:Int} (hst:R s t):RelL R (L ++ [s]) (M ++ [t]):=by
  refine ⟨by simp [h.1],fun i hi=>?_⟩
  rw [List.length_append,List.length_singleton] at hi
  by_cases e:i<L.length
  · rw [getD_app e,getD_app (by rw [← h.1];exact e)];exact h.2 i e
  · have e1:i=L.length:=by omega
    subst e1
    rw [appg_new]
    rw [h.1,appg_new];exact hst
end Go.Ab
namespace Go.Ab
end Go.Ab
namespace Go.Ab
open Go.Proofs
abbrev MachR (n o:Int) (xs ys:List (List Int)) (rows:List AObj) (res:AVal):Prop :=
  ∃ v w ps qs,rows=[.row v 1 true (rwp ps),.row w 1 true (rwp qs)]∧ps.map (·.2)=xs∧qs.map (·.2)=ys∧DJ (ps ++ qs)∧res=.st [iv n,iv o,.own 6000 v,.own 6001 w]
abbrev NamM (P:Program) (g:FuncId) (args:List AVal) (n o:Int) (xs ys:List (List Int)):Prop:=Fn P g args (MachR n o xs ys)
end Go.Ab
namespace Go.Ab
open Go.Proofs
end Go.Ab
namespace Go.Ab
open Go.Proofs
abbrev MachS (n o:Int) (xs ys:List (List Int)) (rows:List AObj) (res:AVal):Prop :=
  ∃ v w,rows=[.row v 1 true (rws xs),.row w 1 true (rws ys)]∧res=.st [iv n,iv o,.own 6000 v,.own 6001 w]
theorem NamM.dn {P:Program} {g:FuncId} {args:List AVal} {n o:Int} {xs ys:List (List Int)} (h:NamM P g args n o xs ys):Fn P g args (MachS n o xs ys):=by
  refine Con.dnr h ?_
  rintro o' r x ⟨rfl,v,w,ps,qs,rfl,rfl,rfl,_,rfl⟩
  refine ⟨rfl,v,w,?_,?_⟩
  · simp only [List.map_cons,List.map_nil,AObj.dn,dnL_rwp]
  · simp only [AVal.dn,dnL]
abbrev MachRC (ok:Bool) (n o:Int) (xs ys:List (List Int)) (code:Int) (rows:List AObj) (res:AVal):Prop :=
  if ok=true then ∃ v w ps qs,rows=[.row v 1 true (rwp ps),.row w 1 true (rwp qs)]∧ps.map (·.2)=xs∧qs.map (·.2)=ys∧DJ (ps ++ qs)∧res=.tup [.st [iv n,iv o,.own 6000 v,.own 6001 w],iv code]
  else rows=[]∧res=.tup [.st [iv 0,iv 0,nilS,nilS],iv code]
abbrev NamMR (P:Program) (g:FuncId) (args:List AVal) (ok:Bool) (n o:Int) (xs ys:List (List Int)) (code:Int):Prop:=Fn P g args (MachRC ok n o xs ys code)
abbrev MachSC (n o:Int) (xs ys:List (List Int)) (rows:List AObj) (res:AVal):Prop :=
  ∃ v w,rows=[.row v 1 true (rws xs),.row w 1 true (rws ys)]∧res=.tup [.st [iv n,iv o,.own 6000 v,.own 6001 w],iv 0]
theorem NamMR.dn {P:Program} {g:FuncId} {args:List AVal} {ok:Bool} {n o:Int} {xs ys:List (List Int)} {code:Int} (h:NamMR P g args ok n o xs ys code) (hok:ok=true) (hc:code=0):Fn P g args (MachSC n o xs ys):=by
  subst hok hc
  refine Con.dnr h ?_
  rintro o' r x ⟨rfl,hR⟩
  unfold MachRC at hR
  rw [if_pos rfl] at hR
  obtain ⟨v,w,ps,qs,rfl,rfl,rfl,_,rfl⟩:=hR
  refine ⟨rfl,v,w,?_,?_⟩
  · simp only [List.map_cons,List.map_nil,AObj.dn,dnL_rwp]
  · simp only [AVal.dn,dnL]
end Go.Ab
namespace Go.Ab
open Go.Proofs
end Go.Ab
namespace Go.Ab
open Go.Proofs
end Go.Ab
namespace Go.Ab
open Go.Proofs
structure NumI (cl K ys:List Int) (i:Nat):Prop where
  t:TidP cl ys
  ln:ys.length=i
  nd:K.Nodup
  us:usedS 0 ys=K.length
  a:∀ j<i,K.getD (ys.getD j 0).toNat 0=cl.getD j 0
  b:∀ m:Nat,m<K.length→∃ j<i,ys.getD j 0=m
theorem NumI.rg {cl K ys:List Int} {i:Nat} (I:NumI cl K ys i) {j:Nat} (hj:j<i):0≤ys.getD j 0∧ys.getD j 0<K.length:=by
  have hm:=yzq (show j<ys.length by rw [I.ln];exact hj) (0:Int)
  have h1:=div_nn I.t.dv hm
  have h2:=used_mem (u:=0) hm
  rw [I.us] at h2
  omega
theorem NumI.new {cl K ys:List Int} {i:Nat} (I:NumI cl K ys i) (hi:i<cl.length) (h:cl.getD i 0 ∉ K):NumI cl (K ++ [cl.getD i 0]) (ys ++ [(K.length:Int)]) (i+1):=by
  have hln:=I.ln
  have hT:=I.t.new (by omega) (fun k hk e=>h (by
    rw [hln] at e hk
    have h1:=I.rg hk
    rw [← e,← I.a k hk]
    exact yzq (by omega) 0))
  rw [I.us] at hT
  refine ⟨hT,by simp [hln],?_,by rw [used_snoc,I.us];simp;omega,fun j hj=>?_,fun m hm=>?_⟩
  · refine List.nodup_append.2 ⟨I.nd,by simp,fun x hx y hy=>?_⟩
    rw [List.mem_singleton.1 hy];exact fun e=>h (e ▸ hx)
  · by_cases e:j<i
    · have h1:=I.rg e
      have e1:(ys ++ [(K.length:Int)]).getD j 0=ys.getD j 0:=getD_snl (by omega)
      have e2:(K ++ [cl.getD i 0]).getD (ys.getD j 0).toNat 0=K.getD (ys.getD j 0).toNat 0:=getD_snl (by omega)
      rw [e1,e2]
      exact I.a j e
    · obtain rfl:j=i:=by omega
      have e2:(ys ++ [(K.length:Int)]).getD j 0=K.length:=by rw [← hln];exact getD_snr
      rw [e2,Int.toNat_natCast]
      exact getD_snr
  · rw [List.length_append,List.length_singleton] at hm
    by_cases e:m<K.length
    · obtain ⟨j,h1,h2⟩:=I.b m e
      exact ⟨j,by omega,by rw [getD_snl (by omega)];exact h2⟩
    · obtain rfl:m=K.length:=by omega
      exact ⟨i,by omega,by rw [← hln];exact getD_snr⟩
theorem NumI.old {cl K ys:List Int} {i m:Nat} (I:NumI cl K ys i) (hi:i<cl.length) (hm:m<K.length) (h:K.getD m 0=cl.getD i 0):NumI cl K (ys ++ [(m:Int)]) (i+1):=by
  have hln:=I.ln
  obtain ⟨j0,h1,h2⟩:=I.b m hm
  have h3:=I.a j0 h1
  rw [h2,Int.toNat_natCast,h] at h3
  have hT:=I.t.old (by omega) (show j0<ys.length by omega) (by rw [hln];exact h3.symm)
  rw [h2] at hT
  refine ⟨hT,by simp [hln],I.nd,by rw [used_snoc,I.us];omega,fun j hj=>?_,fun m' hm'=>?_⟩
  · by_cases e:j<i
    · rw [getD_snl (by omega)];exact I.a j e
    · obtain rfl:j=i:=by omega
      have e2:(ys ++ [(m:Int)]).getD j 0=m:=by rw [← hln];exact getD_snr
      rw [e2,Int.toNat_natCast];exact h
  · obtain ⟨j,g1,g2⟩:=I.b m' hm'
    exact ⟨j,by omega,by rw [getD_snl (by omega)];exact g2⟩
end Go.Ab
namespace Go.Ab
theorem set_getD7 {l:List Int} {i j:Nat} {v:Int}:(l.set i v).getD j 0=if i=j∧i<l.length then v else l.getD j 0:=by
  rw [List.getD_eq_getElem?_getD,List.getElem?_set,List.getD_eq_getElem?_getD]
  by_cases e:i=j
  · subst e
    by_cases h:i<l.length
    · rw [if_pos rfl,if_pos h,if_pos ⟨rfl,h⟩];rfl
    · rw [if_pos rfl,if_neg h,if_neg (fun g=>h g.2),List.getElem?_eq_none (by omega)]
  · rw [if_neg e,if_neg (fun g=>e g.1)]
structure Ext (P Q:List Int):Prop where
  len:Q.length=P.length
  eq:∀ k,0≤P.getD k 0→Q.getD k 0=P.getD k 0
theorem Ext.refl (P:List Int):Ext P P:=⟨rfl,fun _ _=>rfl⟩
theorem Ext.trans {P Q R:List Int} (h:Ext P Q) (g:Ext Q R):Ext P R :=
  ⟨g.len.trans h.len,fun k hk=>by have e:=h.eq k hk;rw [g.eq k (by omega),e]⟩
theorem Ext.set {P:List Int} {i:Nat} {s:Int} (hi:P.getD i 0<0):Ext P (P.set i s) :=
  ⟨by simp,fun k hk=>by
    rw [set_getD7,if_neg (fun e=>by rw [e.1] at hi;omega)]⟩
def Ed (na nb:List (List Int)) (Q:List Int) (k:Nat):Prop:=∀ l:Nat,l<na.length→Q.getD (stepA nb k l).toNat 0=stepA na (Q.getD k 0) l
theorem Ed.ext {na nb:List (List Int)} {Q R:List Int} {k:Nat} (hA:∀ s l,0≤stepA na s l) (h:Ed na nb Q k) (hk:0≤Q.getD k 0) (g:Ext Q R):Ed na nb R k:=fun l hl=>by
  have e:=h l hl
  rw [g.eq k hk,g.eq _ (by rw [e];exact hA _ _),e]
structure Iso (na nb:List (List Int)) (ph:List Int):Prop where
  nn:∀ x∈ph,0≤x
  nd:ph.Nodup
  ed:∀ k:Nat,k<ph.length→∀ l:Nat,l<na.length→(stepA nb k l).toNat<ph.length∧ph.getD (stepA nb k l).toNat 0=stepA na (ph.getD k 0) l
structure Sub (P ph:List Int):Prop where
  len:P.length=ph.length
  eq:∀ k,k<ph.length→0≤P.getD k 0→P.getD k 0=ph.getD k 0
theorem Sub.set {P ph:List Int} {i:Nat} (h:Sub P ph):Sub (P.set i (ph.getD i 0)) ph :=
  ⟨by rw [List.length_set];exact h.len,fun k hk h0=>by
    rw [set_getD7] at h0 ⊢
    by_cases e:i=k∧i<P.length
    · rw [if_pos e,e.1]
    · rw [if_neg e] at h0 ⊢;exact h.eq k hk h0⟩
end Go.Ab
namespace Go.Ab
structure Prt2 (n:Int) (P:List Int):Prop where
  len:P.length=n.toNat
  rg:∀ x∈P,-1≤x∧x<n
  inj:∀ j k,j<P.length→k<P.length→0≤P.getD j 0→P.getD j 0=P.getD k 0→j=k
theorem Prt2.set {n:Int} {P:List Int} {i:Nat} {s:Int} (h:Prt2 n P) (hs:0≤s∧s<n) (hn:s ∉ P):Prt2 n (P.set i s):=by
  have hm:∀ k,k<P.length→P.getD k 0≠s:=fun k hk e=>hn (by rw [← e];exact yzq hk 0)
  refine ⟨by rw [List.length_set];exact h.len,fun x hx=>?_,fun j k hj hk h0 e=>?_⟩
  · rcases List.mem_or_eq_of_mem_set hx with hx | rfl
    · exact h.rg x hx
    · omega
  · rw [List.length_set] at hj hk
    rw [set_getD7] at h0 e
    rw [set_getD7] at e
    by_cases e1:i=j∧i<P.length
    · by_cases e2:i=k∧i<P.length
      · omega
      · rw [if_pos e1,if_neg e2] at e
        exact absurd e.symm (hm k hk)
    · by_cases e2:i=k∧i<P.length
      · rw [if_neg e1,if_pos e2] at e
        exact absurd e (hm j hj)
      · rw [if_neg e1] at h0
        rw [if_neg e1,if_neg e2] at e
        exact h.inj j k hj hk h0 e
theorem stepA_nn {n:Int} {na:List (List Int)} (A:Aut n na) (s l:Int):0≤stepA na s l:=by
  unfold stepA
  by_cases h1:l.toNat<na.length
  · have h2:=A.row _ (yzq h1 [])
    generalize na.getD l.toNat []=row at h2 ⊢
    by_cases h3:s.toNat<row.length
    · exact (h2.2 _ (yzq h3 0)).1
    · rw [List.getD_eq_getElem?_getD,List.getElem?_eq_none (by omega)];exact Int.le_refl 0
  · have e:na.getD l.toNat []=[]:=by rw [List.getD_eq_getElem?_getD,List.getElem?_eq_none (by omega)];rfl
    rw [e];simp
end Go.Ab
namespace Go.Ab
open Go.Proofs
def rww (x:List (List (List Int))):List AVal:=x.map fun xss=>.ro (some none) 1 (rws xss)
def rwwn (x:List (List (List Int))):List AVal:=x.map fun xss=>.ro none 1 (rwn xss)
theorem dnL_rww {x:List (List (List Int))}:dnL (rww x)=rww x:=by
  simp only [dnL_eq,rww,List.map_map]
  exact List.map_congr_left fun o _=>by simp [AVal.dn,yz14,dnNm]
theorem dnL_rwwn {x:List (List (List Int))}:dnL (rwwn x)=rwwn x:=by
  simp only [dnL_eq,rwwn,List.map_map]
  exact List.map_congr_left fun o _=>by simp [AVal.dn,dnL_rwn,dnNm]
theorem one_rww {hp:Nat→AObj} {x:List (List (List Int))}:(∀ A∈rww x,One hp A)=True:=by
  refine eq_true ?_
  intro A hA
  simp only [rww,List.mem_map] at hA
  obtain ⟨y,_,rfl⟩:=hA
  exact trivial
theorem frz_rww {hp:Nat→AObj} {x:List (List (List Int))}:(rww x).map (frz hp)=rww x:=by simp [rww,frz]
theorem owned_rww:∀ {x:List (List (List Int))},owned (rww x)=[]
  | []=>rfl
  | _ :: x=>owned_rww (x:=x)
theorem rww_snoc {x:List (List (List Int))} {y:List (List Int)}:rww x ++ [.ro (some none) 1 (rws y)]=rww (x ++ [y]):=by simp [rww]
theorem rww_len {x:List (List (List Int))}:(rww x).length=x.length:=by simp [rww]
theorem rwwn_len {x:List (List (List Int))}:(rwwn x).length=x.length:=by simp [rwwn]
theorem rww_nil:rww []=[]:=rfl
attribute [go_sem] dnL_rww dnL_rwwn one_rww frz_rww owned_rww rww_snoc rww_len rwwn_len rww_nil
structure Chc (n:Int) (nx:List (List (List Int))):Prop where
  n1:1≤n
  n2:n≤10
  l1:1≤nx.length
  l2:nx.length≤3
  row:∀ r∈nx,(r.length:Int)=n∧∀ s∈r,setB n s=true
end Go.Ab
namespace Go.Ab
open Go.Proofs
end Go.Ab
namespace Go.Ab
open Go.Proofs
structure Prt (n:Int) (next:List (List Int)):Prop where
  n1:1≤n
  n2:n≤10
  l1:1≤next.length
  l2:next.length≤3
  row:∀ row∈next,(row.length:Int)=n∧∀ x∈row,-1≤x∧x<n
theorem Prt.at {n:Int} {next:List (List Int)} (P:Prt n next) {l:Nat} (hl:l<next.length) {s:Int} (hs:0≤s∧s<n):s.toNat<(next.getD l []).length∧-1≤(next.getD l []).getD s.toNat 0∧(next.getD l []).getD s.toNat 0<n:=by
  have h1:=P.row _ (yzq hl [])
  have h2:s.toNat<(next.getD l []).length:=by omega
  have h3:=h1.2 _ (yzq h2 0)
  exact ⟨h2,h3⟩
end Go.Ab
namespace Go.Ab
open Go.Proofs
end Go.Ab
namespace Go.Ab
open Go.Proofs
end Go.Ab
namespace Go.Ab
open Go.Proofs
end Go.Ab
namespace Go.Ab
def pairI (n:Int) (p:List Int):Nat:=(fidx (fun q=>decide (q=p)) (every n) 0).toNat
def wocW (n:Int) (words:List (List Int)) (set:List Int):List Int:=words.getD (pairI n (set.take 2)) []
def wocR (n:Int) (next words:List (List Int)):Nat→List Int→List Int→List Int
  | 0,_,out=>out
  | F+1,set,out=>if set.length≤1 then out else wocR n next words F (imgL next set (wocW n words set)) (out ++ wocW n words set)
structure WS1 (n:Int) (set:List Int):Prop where
  si:SI set
  rg:∀ x∈set,0≤x∧x<n
end Go.Ab
namespace Go.Ab
open Go.Proofs
noncomputable def wocF (n:Int) (next words:List (List Int)):List Int:=wocR n next words n.toNat (allS n) []
structure WocI (n:Int) (next words:List (List Int)) (set out:List Int):Prop where
  ws:WS1 n set
  ln:out.length+400 * (set.length - 1)≤4000
  fu:∃ F,set.length≤F∧wocR n next words F set out=wocF n next words
end Go.Ab
namespace Go.Ab
open Go.Proofs
abbrev QS:=List (List Nat×List Int)
structure QI (n m:Nat) (L:QS):Prop where
  rg:∀ p∈L,DB n p.1
  wd:∀ p∈L,(∀ y∈p.2,0≤y∧y<m)∧p.2.length<L.length
  nd:(L.map (·.1)).Nodup
  ne:∀ i,0<i→i<L.length→(L.getD i ([],[])).2≠[]
  z:∃ q t,L=(q,[]) :: t
theorem QI.lt {n m:Nat} {L:QS} (h:QI n m L) (hn:n≤10):∀ p∈L,∀ f∈p.1,f<1024:=fun p hp f hf =>
  Nat.lt_of_lt_of_le ((h.rg p hp).el f hf).1 (Nat.pow_le_pow_right (n:=2) (by omega) (show n≤10 by omega))
def wA (w:List Int):AVal:=if w=[] then .val (.slice none 0 0) else .ro (some none) 1 (ints w)
def dcl (L:QS):List AVal:=L.flatMap fun p=>[.ro (some none) 1 (nfs p.1),wA p.2]
theorem dcl_len:∀ {L:QS},(dcl L).length=2 * L.length
  | []=>rfl
  | p :: L=>by
    have:=dcl_len (L:=L)
    unfold dcl at this ⊢
    rw [List.flatMap_cons,List.length_append,this,List.length_cons];simp;omega
theorem wA_cases (w:List Int):wA w=.val (.slice none 0 0)∨wA w=.ro (some none) 1 (ints w):=by
  unfold wA;split
  · exact .inl rfl
  · exact .inr rfl
theorem dcl_mem {L:QS} {A:AVal} (h:A∈dcl L):(∃ q,A=.ro (some none) 1 (nfs q))∨(∃ w,A=.ro (some none) 1 (ints w))∨A=.val (.slice none 0 0):=by
  obtain ⟨p,_,h⟩:=List.mem_flatMap.1 h
  rcases List.mem_cons.1 h with rfl | h
  · exact .inl ⟨_,rfl⟩
  · rw [List.mem_singleton.1 h]
    rcases wA_cases p.2 with e | e
    · exact .inr (.inr e)
    · exact .inr (.inl ⟨_,e⟩)
theorem dnL_dcl {L:QS}:dnL (dcl L)=dcl L:=by
  rw [dnL_eq]
  have h:(dcl L).map AVal.dn=(dcl L).map id:=List.map_congr_left fun A hA=>by
    rcases dcl_mem hA with ⟨q,rfl⟩ | ⟨w,rfl⟩ | rfl
    · simp [AVal.dn,dnL_eq,dnNm]
    · simp [AVal.dn,dnL_eq,dnNm]
    · rfl
  rw [h,List.map_id]
theorem one_dcl {hp:Nat→AObj} {L:QS}:(∀ A∈dcl L,One hp A)=True:=by
  refine eq_true fun A hA=>?_
  rcases dcl_mem hA with ⟨q,rfl⟩ | ⟨w,rfl⟩ | rfl
  · trivial
  · trivial
  · rfl
theorem frz_dcl {hp:Nat→AObj} {L:QS}:(dcl L).map (frz hp)=dcl L:=by
  have h:(dcl L).map (frz hp)=(dcl L).map id:=List.map_congr_left fun A hA=>by
    rcases dcl_mem hA with ⟨q,rfl⟩ | ⟨w,rfl⟩ | rfl <;> rfl
  rw [h,List.map_id]
theorem owned_dcl {L:QS}:owned (dcl L)=[]:=by
  refine List.eq_nil_iff_forall_not_mem.2 fun r hr=>?_
  obtain ⟨v,hv⟩:=owned_mem.1 hr
  rcases dcl_mem hv with ⟨q,h⟩ | ⟨w,h⟩ | h <;> cases h
theorem dnL_trueQ {L:QS}:dnL (L.map fun _=>bv true)=L.map fun _=>bv true:=by
  rw [dnL_eq,List.map_map];rfl
attribute [go_sem] dnL_trueQ dnL_dcl one_dcl frz_dcl owned_dcl dcl_len
theorem dbt_DB {n o:Int} {next out:List (List Int)} (M:Mach n o next out) {tl:Bool} {q q':List Nat} {x:Nat} (h:DB n.toNat q) (hx:x<next.length) (e:dbtD next out o tl q x=some q'):DB n.toNat q':=by
  unfold dbtD at e
  split at e
  · cases e
  · simp only [Option.some.injEq] at e
    subst e
    have hr:=M.aut.row _ (yzq hx [])
    have n1:=M.aut.n1
    have n2:=M.aut.n2
    exact h.next (by omega) (fun s hs=>by have:=hr.2 s hs;omega) (by omega)
theorem QI.snoc {n m:Nat} {L:QS} (h:QI n m L) {q:List Nat} {w:List Int} {x:Nat} (hq:DB n q) (hx:x<m) (hw:(∀ y∈w,0≤y∧y<m)∧w.length<L.length) (hn:hasG L q=false):QI n m (L ++ [(q,w ++ [(x:Int)])]) where
  rg:=fun p hp=>by
    rcases List.mem_append.1 hp with hp | hp
    · exact h.rg p hp
    · rw [List.mem_singleton.1 hp];exact hq
  wd:=fun p hp=>by
    rw [List.length_append,List.length_singleton]
    rcases List.mem_append.1 hp with hp | hp
    · have:=h.wd p hp;exact ⟨this.1,by omega⟩
    · rw [List.mem_singleton.1 hp]
      refine ⟨fun y hy=>?_,by rw [List.length_append,List.length_singleton];omega⟩
      rcases List.mem_append.1 hy with hy | hy
      · exact hw.1 y hy
      · rw [List.mem_singleton.1 hy];omega
  nd:=by
    rw [List.map_append,List.nodup_append]
    refine ⟨h.nd,by simp,fun a ha b hb e=>?_⟩
    have hb:b=q:=by simpa using hb
    obtain ⟨p,hp,rfl⟩:=List.mem_map.1 ha
    have:hasG L q=true:=hasG_iff.2 ⟨p,hp,by rw [e,hb]⟩
    rw [hn] at this;cases this
  ne:=fun i h0 hi=>by
    rw [List.length_append,List.length_singleton] at hi
    by_cases e:i<L.length
    · rw [appG_getD e];exact h.ne i h0 e
    · obtain rfl:i=L.length:=by omega
      rw [lastG_getD];simp
  z:=by
    obtain ⟨q0,t,e⟩:=h.z
    exact ⟨q0,t ++ [(q,w ++ [(x:Int)])],by rw [e];rfl⟩
end Go.Ab
namespace Go.Ab
open Go.Proofs
end Go.Ab
namespace Go.Ab
open Go.Proofs
end Go.Ab
namespace Go.Ab
open Go.Proofs
end Go.Ab
namespace Go.Ab
open Go.Proofs
end Go.Ab
namespace Go.Ab
theorem outsA_snoc {next out:List (List Int)} {x:Int}:∀ {w:List Int} {s:Int},outsA next out s (w ++ [x])=outsA next out s w ++ [outA out (atA next s w) x]
  | [],s=>rfl
  | y :: w,s=>by
    have:=outsA_snoc (next:=next) (out:=out) (x:=x) (w:=w) (s:=stepA next s y)
    simp only [List.cons_append,outsA,this];rfl
theorem atA_snoc {next:List (List Int)} {x:Int} {w:List Int} {s:Int}:atA next s (w ++ [x])=stepA next (atA next s w) x:=by simp [atA]
theorem dvF_app {nr or:List Int} {o:Int} {S:List Int} {s:Int}:dvF nr or o (S ++ [s])=dvS nr or (dvF nr or o S) s:=by unfold dvF;rw [List.foldl_append];rfl
theorem set_getD5 {l:List Nat} {i j v:Nat} (hi:i<l.length):(l.set i v).getD j 0=if i=j then v else l.getD j 0:=by
  rw [List.getD_eq_getElem?_getD,List.getElem?_set,List.getD_eq_getElem?_getD]
  by_cases e:i=j
  · rw [if_pos e,if_pos e,if_pos hi];rfl
  · rw [if_neg e,if_neg e]
theorem dvF_bit {nr or:List Int} {o:Int} (ho:0≤o) {b u:Nat} (hb:b<o.toNat):∀ (k:Nat) (S:List Int),S.length=k→(∀ s∈S,0≤or.getD s.toNat 0∧or.getD s.toNat 0<o) →
    (((dvF nr or o S).1.getD b 0).testBit u=true↔∃ s∈S,(or.getD s.toNat 0).toNat=b∧(nr.getD s.toNat 0).toNat=u)
  | 0,S,hk,_=>by
    obtain rfl:=List.eq_nil_of_length_eq_zero hk
    have:(List.replicate o.toNat 0).getD b 0=0:=by
      rw [List.getD_eq_getElem?_getD,List.getElem?_replicate,if_pos hb];rfl
    unfold dvF
    simp only [List.foldl_nil]
    rw [this]
    simp
  | k+1,S,hk,hS=>by
    have hne:S≠[]:=fun e=>by rw [e] at hk;simp at hk
    have e:=List.dropLast_concat_getLast hne
    have ih:=dvF_bit (nr:=nr) (u:=u) ho hb k S.dropLast (by rw [List.length_dropLast];omega) fun s hs=>hS s (List.dropLast_subset S hs)
    have hl:=hS _ (List.getLast_mem hne)
    generalize S.getLast hne=s at e hl
    generalize S.dropLast=R at e ih
    subst e
    have hlen:=dvF_len (nr:=nr) (or:=or) (o:=o) (S:=R)
    rw [dvF_app]
    unfold dvS
    dsimp only
    rw [set_getD5 (by rw [hlen];omega)]
    by_cases e:(or.getD s.toNat 0).toNat=b
    · rw [if_pos e,e,Nat.testBit_or,Nat.testBit_two_pow,Bool.or_eq_true,ih,decide_eq_true_eq]
      constructor
      · rintro (⟨v,h1,h2,h3⟩ | h)
        · exact ⟨v,by simp [h1],h2,h3⟩
        · exact ⟨s,by simp,e,h⟩
      · rintro ⟨v,h1,h2,h3⟩
        rcases List.mem_append.1 h1 with h | h
        · exact .inl ⟨v,h,h2,h3⟩
        · rw [List.mem_singleton.1 h] at h3;exact .inr h3
    · rw [if_neg e,ih]
      constructor
      · rintro ⟨v,h1,h2,h3⟩;exact ⟨v,by simp [h1],h2,h3⟩
      · rintro ⟨v,h1,h2,h3⟩
        rcases List.mem_append.1 h1 with h | h
        · exact ⟨v,h,h2,h3⟩
        · rw [List.mem_singleton.1 h] at h2;exact absurd h2 e
theorem and_pow0 {a k:Nat}:Nat.beq (a &&& 2 ^ k) 0=!(a.testBit k):=by
  have h:(a &&& 2 ^ k=0)↔a.testBit k=false:=by
    constructor
    · intro h
      have:=congrArg (fun z=>z.testBit k) h
      simpa [Nat.testBit_and,Nat.testBit_two_pow] using this
    · intro h
      refine Nat.eq_of_testBit_eq fun i=>?_
      rw [Nat.testBit_and,Nat.testBit_two_pow,Nat.zero_testBit]
      by_cases e:k=i
      · subst e;simp [h]
      · simp [e]
  cases hb:a.testBit k with
  | false=>rw [h.2 hb];rfl
  | true =>
    have:a &&& 2 ^ k≠0:=fun e=>by rw [h.1 e] at hb;cases hb
    cases hz:a &&& 2 ^ k with
    | zero=>exact absurd hz this
    | succ z=>rfl
theorem dvF_clr {nr or:List Int} {o:Int} (ho:0≤o):∀ (k:Nat) (S:List Int),S.length=k→(∀ s∈S,0≤or.getD s.toNat 0∧or.getD s.toNat 0<o) →
    ((dvF nr or o S).2=true↔S.Pairwise fun a b=>¬ ((or.getD a.toNat 0).toNat=(or.getD b.toNat 0).toNat∧(nr.getD a.toNat 0).toNat=(nr.getD b.toNat 0).toNat))
  | 0,S,hk,_=>by
    obtain rfl:=List.eq_nil_of_length_eq_zero hk
    simp [dvF]
  | k+1,S,hk,hS=>by
    have hne:S≠[]:=fun e=>by rw [e] at hk;simp at hk
    have e:=List.dropLast_concat_getLast hne
    have ih:=dvF_clr (nr:=nr) (or:=or) ho k S.dropLast (by rw [List.length_dropLast];omega) fun s hs=>hS s (List.dropLast_subset S hs)
    have hl:=hS _ (List.getLast_mem hne)
    have hS':∀ s∈S.dropLast,0≤or.getD s.toNat 0∧or.getD s.toNat 0<o:=fun s hs=>hS s (List.dropLast_subset S hs)
    generalize S.getLast hne=s at e hl
    generalize S.dropLast=R at e ih hS'
    subst e
    have hbit:=dvF_bit (nr:=nr) (or:=or) (o:=o) (b:=(or.getD s.toNat 0).toNat) (u:=(nr.getD s.toNat 0).toNat) ho (by omega) R.length R rfl hS'
    rw [dvF_app,List.pairwise_append]
    unfold dvS
    dsimp only
    rw [and_pow0,Bool.and_eq_true,ih,Bool.not_eq_true',← Bool.not_eq_true,hbit]
    constructor
    · rintro ⟨h1,h2⟩
      refine ⟨h1,by simp,fun a ha b hb=>?_⟩
      rw [List.mem_singleton.1 hb]
      exact fun h=>h2 ⟨a,ha,h.1,h.2⟩
    · rintro ⟨h1,_,h2⟩
      exact ⟨h1,fun ⟨a,ha,h3,h4⟩=>h2 a ha s (by simp) ⟨h3,h4⟩⟩
theorem pw_all {α:Type} {R:α→α→Prop} (hs:∀ a b,R a b→R b a):∀ {l:List α},l.Pairwise R→∀ a∈l,∀ b∈l,a≠b→R a b
  | [],_,_,h,_,_,_=>by simp at h
  | x :: l,h,a,ha,b,hb,hab=>by
    rw [List.pairwise_cons] at h
    rcases List.mem_cons.1 ha with ea | ha'
    · rcases List.mem_cons.1 hb with eb | hb'
      · exact absurd (ea.trans eb.symm) hab
      · rw [ea];exact h.1 b hb'
    · rcases List.mem_cons.1 hb with eb | hb'
      · rw [eb];exact hs _ _ (h.1 a ha')
      · exact pw_all hs h.2 a ha' b hb' hab
section
variable {n o:Int} {next out:List (List Int)}
def Cls (next out:List (List Int)) (n:Int) (f:Nat) (w r:List Int):Prop:=∀ u:Nat,u∈bitsN f↔∃ s:Nat,(s:Int)<n∧outsA next out s w=r∧atA next s w=u
structure DI (next out:List (List Int)) (n:Int) (tl:Bool) (w:List Int) (D:List Nat):Prop where
  db:DB n.toNat D
  cl:∀ f∈D,∃ r,Cls next out n f w r
  ex:∀ s t:Nat,(s:Int)<n→(t:Int)<n→outsA next out s w=outsA next out t w→atA next s w≠atA next t w→∃ f∈D,Cls next out n f w (outsA next out s w)
  inj:tl=true→∀ s t:Nat,(s:Int)<n→(t:Int)<n→s≠t→outsA next out s w=outsA next out t w→atA next s w≠atA next t w
theorem two_bits_ns {f u v:Nat} (hf:f<1024) (hu:u∈bitsN f) (hv:v∈bitsN f) (h:u≠v):smallN f=false:=by
  cases hs:smallN f with
  | false=>rfl
  | true=>exact absurd ((small_iff hf).1 hs u hu v hv) h
theorem DI0 (n1:1≤n) (n2:n≤10) (hn:n > 1) {tl:Bool}:DI next out n tl [] [2 ^ n.toNat - 1] where
  db:=DB_all n1 n2 hn
  cl:=fun f hf=>by
    rw [List.mem_singleton.1 hf]
    refine ⟨[],fun u=>?_⟩
    rw [all_bits ⟨n1,n2⟩]
    constructor
    · intro h;exact ⟨u,h,rfl,rfl⟩
    · rintro ⟨s,h1,_,h2⟩
      have:(s:Int)=u:=h2
      omega
  ex:=fun s t hs ht _ _=>⟨2 ^ n.toNat - 1,by simp,fun u=>by
    rw [all_bits ⟨n1,n2⟩]
    constructor
    · intro h;exact ⟨u,h,rfl,rfl⟩
    · rintro ⟨s,h1,_,h2⟩
      have:(s:Int)=u:=h2
      omega⟩
  inj:=fun _ s t _ _ hst _ e=>hst (by have:(s:Int)=t:=e;omega)
theorem Cls.part (M:Mach n o next out) {f x b:Nat} {w r:List Int} (hw:IsW next.length w) (hx:x<next.length) (hb:b<o.toNat) (h:Cls next out n f w r) (hf:f<2 ^ n.toNat) :
    Cls next out n ((dvF (next.getD x []) (out.getD x []) o (bitsTo f 10)).1.getD b 0) (w ++ [(x:Int)]) (r ++ [(b:Int)]):=by
  intro u
  have hxo:x<out.length:=by rw [M.len];exact hx
  have hnr:=M.aut.row _ (yzq hx [])
  have hor:=M.row _ (yzq hxo [])
  have o1:=M.o1
  have n2:=M.aut.n2
  have hin:∀ v:Nat,v∈bitsN f→v<n.toNat:=fun v hv=>bits_lt hf hv
  have hS:∀ s∈bitsTo f 10,0≤(out.getD x []).getD s.toNat 0∧(out.getD x []).getD s.toNat 0<o:=fun s hs=>by
    obtain ⟨k,hk,rfl⟩:=List.mem_map.1 (show s∈(bitsN f).map (fun (s:Nat)=>(s:Int)) from hs)
    have:=hin k hk
    exact hor.2 _ (yzq (by rw [Int.toNat_natCast];omega) 0)
  have hbit:=dvF_bit (nr:=next.getD x []) (or:=out.getD x []) (o:=o) (b:=b) (u:=u) (by omega) hb _ (bitsTo f 10) rfl hS
  have hlt:=dvF_lt (nr:=next.getD x []) (or:=out.getD x []) (o:=o) (n:=n.toNat) (S:=bitsTo f 10) (fun s hs=>by have:=hnr.2 s hs;omega) (fun s hs=>by
    obtain ⟨k,hk,rfl⟩:=List.mem_map.1 (show s∈(bitsN f).map (fun (s:Nat)=>(s:Int)) from hs)
    have:=hin k hk
    rw [Int.toNat_natCast];omega)
  have hlen:=dvF_len (nr:=next.getD x []) (or:=out.getD x []) (o:=o) (S:=bitsTo f 10)
  have hpl:=hlt _ (yzq (show b<(dvF (next.getD x []) (out.getD x []) o (bitsTo f 10)).1.length by omega) 0)
  have hm:u∈bitsN ((dvF (next.getD x []) (out.getD x []) o (bitsTo f 10)).1.getD b 0)↔((dvF (next.getD x []) (out.getD x []) o (bitsTo f 10)).1.getD b 0).testBit u=true:=by
    rw [mem_bits]
    refine ⟨fun h=>h.2,fun h=>⟨?_,h⟩⟩
    have:=Nat.ge_two_pow_of_testBit h
    have h3:u<n.toNat:=(Nat.pow_lt_pow_iff_right (a:=2) (by omega)).1 (Nat.lt_of_le_of_lt this hpl)
    omega
  rw [hm,hbit]
  have hat:∀ s:Nat,(s:Int)<n→0≤atA next s w∧atA next s w<n:=fun s hs=>M.aut.at ⟨by omega,hs⟩ hw
  constructor
  · rintro ⟨v,hv,h1,h2⟩
    obtain ⟨k,hk,rfl⟩:=List.mem_map.1 (show v∈(bitsN f).map (fun (s:Nat)=>(s:Int)) from hv)
    obtain ⟨s,hs,hr,ha⟩:=(h k).1 hk
    have hkn:=hin k hk
    have hok:=hor.2 _ (yzq (show k<(out.getD x []).length by omega) 0)
    have hnk:=hnr.2 _ (yzq (show k<(next.getD x []).length by omega) 0)
    rw [Int.toNat_natCast] at h1 h2
    refine ⟨s,hs,?_,?_⟩
    · rw [outsA_snoc,hr,ha]
      unfold outA
      rw [Int.toNat_natCast,Int.toNat_natCast,show (out.getD x []).getD k 0=(b:Int) by omega]
    · rw [atA_snoc,ha]
      unfold stepA
      rw [Int.toNat_natCast,Int.toNat_natCast];omega
  · rintro ⟨s,hs,hr,ha⟩
    rw [outsA_snoc] at hr
    rw [atA_snoc] at ha
    obtain ⟨h1,h2⟩:=List.append_inj' hr rfl
    have h2:outA out (atA next s w) x=b:=by simpa using h2
    have h3:=hat s hs
    obtain ⟨k,hk⟩:∃ k:Nat,atA next s w=k:=⟨(atA next s w).toNat,by omega⟩
    rw [hk] at h2 ha
    unfold outA at h2
    unfold stepA at ha
    rw [Int.toNat_natCast,Int.toNat_natCast] at h2 ha
    have hkb:=(h k).2 ⟨s,hs,h1,hk⟩
    refine ⟨(k:Int),List.mem_map.2 ⟨k,hkb,rfl⟩,?_,?_⟩
    · rw [Int.toNat_natCast,h2,Int.toNat_natCast]
    · rw [Int.toNat_natCast,ha,Int.toNat_natCast]
theorem DI.goes (M:Mach n o next out) {tl:Bool} {w:List Int} {D:List Nat} {x:Nat} (hw:IsW next.length w) (hx:x<next.length) (h:DI next out n tl w D) :
    match dbtD next out o tl D x with
    | some D'=>DI next out n tl (w ++ [(x:Int)]) D'
    | none=>tl=true∧∃ s t:Nat,(s:Int)<n∧(t:Int)<n∧s≠t∧outsA next out s (w ++ [(x:Int)])=outsA next out t (w ++ [(x:Int)])∧atA next s (w ++ [(x:Int)])=atA next t (w ++ [(x:Int)]):=by
  have hxo:x<out.length:=by rw [M.len];exact hx
  have hnr:=M.aut.row _ (yzq hx [])
  have hor:=M.row _ (yzq hxo [])
  have o1:=M.o1
  have n1:=M.aut.n1
  have n2:=M.aut.n2
  have hN:2 ^ n.toNat≤1024:=Nat.pow_le_pow_right (n:=2) (by omega) (show n.toNat≤10 by omega)
  have hat:∀ s:Nat,(s:Int)<n→0≤atA next s w∧atA next s w<n:=fun s hs=>M.aut.at ⟨by omega,hs⟩ hw
  have hS:∀ f∈D,∀ s∈bitsTo f 10,0≤(out.getD x []).getD s.toNat 0∧(out.getD x []).getD s.toNat 0<o:=fun f hf s hs=>by
    obtain ⟨k,hk,rfl⟩:=List.mem_map.1 (show s∈(bitsN f).map (fun (s:Nat)=>(s:Int)) from hs)
    have:=bits_lt (h.db.el f hf).1 hk
    exact hor.2 _ (yzq (by rw [Int.toNat_natCast];omega) 0)
  cases hd:dbtD next out o tl D x with
  | none =>
    unfold dbtD at hd
    split at hd
    · rename_i hc
      rw [Bool.and_eq_true,Bool.not_eq_true'] at hc
      refine ⟨hc.1,?_⟩
      have hcl:=hc.2
      unfold clrF at hcl
      rw [List.all_eq_false] at hcl
      obtain ⟨f,hf,hcf⟩:=hcl
      have hcf':=mt (dvF_clr (nr:=next.getD x []) (or:=out.getD x []) (o:=o) (by omega) _ (bitsTo f 10) rfl (hS f hf)).2 hcf
      obtain ⟨r,hr⟩:=h.cl f hf
      refine Classical.byContradiction fun hno=>hcf' ?_
      have hsi:(bitsTo f 10).Pairwise (·≠·):=by
        unfold bitsTo
        rw [List.pairwise_map]
        exact (List.pairwise_lt_range.filter _).imp fun h=>by omega
      refine List.Pairwise.imp_of_mem ?_ hsi
      intro a b ha hb hab ⟨e1,e2⟩
      obtain ⟨k,hk,rfl⟩:=List.mem_map.1 (show a∈(bitsN f).map (fun (s:Nat)=>(s:Int)) from ha)
      obtain ⟨l,hl,rfl⟩:=List.mem_map.1 (show b∈(bitsN f).map (fun (s:Nat)=>(s:Int)) from hb)
      obtain ⟨s,hs1,hs2,hs3⟩:=(hr k).1 hk
      obtain ⟨t,ht1,ht2,ht3⟩:=(hr l).1 hl
      have hkn:=bits_lt (h.db.el f hf).1 hk
      have hln:=bits_lt (h.db.el f hf).1 hl
      have ok1:=hor.2 _ (yzq (show k<(out.getD x []).length by omega) 0)
      have ok2:=hor.2 _ (yzq (show l<(out.getD x []).length by omega) 0)
      have nk1:=hnr.2 _ (yzq (show k<(next.getD x []).length by omega) 0)
      have nk2:=hnr.2 _ (yzq (show l<(next.getD x []).length by omega) 0)
      rw [Int.toNat_natCast,Int.toNat_natCast] at e1 e2
      refine hno ⟨s,t,hs1,ht1,fun e=>hab (by rw [← hs3,← ht3,e]),?_,?_⟩
      · rw [outsA_snoc,outsA_snoc,hs2,ht2,hs3,ht3]
        unfold outA
        rw [Int.toNat_natCast,Int.toNat_natCast,Int.toNat_natCast]
        congr 2;omega
      · rw [atA_snoc,atA_snoc,hs3,ht3]
        unfold stepA
        rw [Int.toNat_natCast,Int.toNat_natCast,Int.toNat_natCast];omega
    · cases hd
  | some D' =>
    have hdb:=dbt_DB M h.db hx hd
    unfold dbtD at hd
    split at hd
    · cases hd
    · rename_i hc
      simp only [Option.some.injEq] at hd
      have hplt:=parF_lt (nr:=next.getD x []) (or:=out.getD x []) (o:=o) (n:=n.toNat) (D:=D) (fun s hs=>by have:=hnr.2 s hs;omega) (by omega) fun f hf=>(h.db.el f hf).1
      have hmem:=fun f=>nrmF_mem (ps:=parF (next.getD x []) (out.getD x []) o D) (f:=f) fun g hg=>Nat.lt_of_lt_of_le (hplt g hg) hN
      rw [hd] at hmem
      have hstep:∀ s t:Nat,(s:Int)<n→(t:Int)<n→outsA next out s (w ++ [(x:Int)])=outsA next out t (w ++ [(x:Int)])→outsA next out s w=outsA next out t w∧outA out (atA next s w) x=outA out (atA next t w) x:=by
        intro s t _ _ he
        rw [outsA_snoc,outsA_snoc] at he
        obtain ⟨h1,h2⟩:=List.append_inj' he rfl
        exact ⟨h1,by simpa using h2⟩
      refine ⟨hdb,fun f' hf'=>?_,fun s t hs ht ho ha=>?_,fun ht s t hs htn hst ho ha=>?_⟩
      · obtain ⟨f,hf,hp⟩:=List.mem_flatMap.1 ((hmem f').1 hf').1
        obtain ⟨b,hb,hg⟩:=List.getElem_of_mem hp
        obtain ⟨r,hr⟩:=h.cl f hf
        have hlen:=dvF_len (nr:=next.getD x []) (or:=out.getD x []) (o:=o) (S:=bitsTo f 10)
        have hc:=hr.part M hw hx (b:=b) (by omega) (h.db.el f hf).1
        rw [List.getD_eq_getElem?_getD,List.getElem?_eq_getElem hb,Option.getD_some,hg] at hc
        exact ⟨_,hc⟩
      · obtain ⟨ho1,ho2⟩:=hstep s t hs ht ho
        have ha1:atA next s w≠atA next t w:=fun e=>ha (by rw [atA_snoc,atA_snoc,e])
        obtain ⟨f,hf,hc⟩:=h.ex s t hs ht ho1 ha1
        have hs3:=hat s hs
        obtain ⟨k,hk⟩:∃ k:Nat,atA next s w=k:=⟨(atA next s w).toNat,by omega⟩
        have hok:0≤outA out (atA next s w) x∧outA out (atA next s w) x<o:=by
          rw [hk];unfold outA
          rw [Int.toNat_natCast,Int.toNat_natCast]
          exact hor.2 _ (yzq (show k<(out.getD x []).length by omega) 0)
        obtain ⟨b,hb⟩:∃ b:Nat,outA out (atA next s w) x=b:=⟨(outA out (atA next s w) x).toNat,by omega⟩
        have hpc:=hc.part M hw hx (b:=b) (by omega) (h.db.el f hf).1
        have hr:outsA next out s (w ++ [(x:Int)])=outsA next out s w ++ [(b:Int)]:=by rw [outsA_snoc,hb]
        have hlen:=dvF_len (nr:=next.getD x []) (or:=out.getD x []) (o:=o) (S:=bitsTo f 10)
        have hbl:b<(dvF (next.getD x []) (out.getD x []) o (bitsTo f 10)).1.length:=by omega
        have hpm:(dvF (next.getD x []) (out.getD x []) o (bitsTo f 10)).1.getD b 0∈parF (next.getD x []) (out.getD x []) o D:=List.mem_flatMap.2 ⟨f,hf,yzq hbl 0⟩
        refine ⟨_,(hmem _).2 ⟨hpm,?_⟩,by rw [hr];exact hpc⟩
        have hwx:IsW next.length (w ++ [(x:Int)]):=fun y hy=>by
          rcases List.mem_append.1 hy with hy | hy
          · exact hw y hy
          · rw [List.mem_singleton.1 hy];omega
        have hs4:=M.aut.at ⟨by omega,hs⟩ hwx (s:=s)
        have ht4:=M.aut.at ⟨by omega,ht⟩ hwx (s:=t)
        refine two_bits_ns (Nat.lt_of_lt_of_le (hplt _ hpm) hN) (u:=(atA next s (w ++ [(x:Int)])).toNat) (v:=(atA next t (w ++ [(x:Int)])).toNat) ((hpc _).2 ⟨s,hs,hr,by omega⟩) ((hpc _).2 ⟨t,ht,by rw [← ho,hr],by omega⟩) (by omega)
      · obtain ⟨ho1,ho2⟩:=hstep s t hs htn ho
        have ha1:=h.inj ht s t hs htn hst ho1
        obtain ⟨f,hf,hcf⟩:=h.ex s t hs htn ho1 ha1
        have hcl:clrF (next.getD x []) (out.getD x []) o D=true:=by
          cases hcc:clrF (next.getD x []) (out.getD x []) o D with
          | true=>rfl
          | false=>exact absurd (by rw [ht,hcc];rfl) hc
        unfold clrF at hcl
        have hcf2:=(dvF_clr (nr:=next.getD x []) (or:=out.getD x []) (o:=o) (by omega) _ (bitsTo f 10) rfl (hS f hf)).1 (List.all_eq_true.1 hcl f hf)
        have hs3:=hat s hs
        have ht3:=hat t htn
        obtain ⟨k,hk⟩:∃ k:Nat,atA next s w=k:=⟨(atA next s w).toNat,by omega⟩
        obtain ⟨l,hl⟩:∃ k:Nat,atA next t w=k:=⟨(atA next t w).toNat,by omega⟩
        have hkb:=(hcf k).2 ⟨s,hs,rfl,hk⟩
        have hlb:=(hcf l).2 ⟨t,htn,ho1.symm,hl⟩
        have hkl:(k:Int)≠l:=by rw [← hk,← hl];exact ha1
        rw [hk,hl] at ho2
        rw [atA_snoc,atA_snoc,hk,hl] at ha
        unfold outA at ho2
        unfold stepA at ha
        have hpw:=pw_all (fun a b h hh=>h ⟨hh.1.symm,hh.2.symm⟩) hcf2
        refine hpw k (List.mem_map.2 ⟨k,hkb,rfl⟩) l (List.mem_map.2 ⟨l,hlb,rfl⟩) hkl ⟨?_,?_⟩
        · rw [Int.toNat_natCast] at ho2;rw [ho2]
        · rw [Int.toNat_natCast] at ha;rw [ha]
theorem DI.word (M:Mach n o next out) (hn:n > 1) {tl:Bool}:∀ (k:Nat) (w:List Int),w.length=k→IsW next.length w →
    match goG (dbtD next out o tl) [2 ^ n.toNat - 1] w with
    | some D=>DI next out n tl w D
    | none=>tl=true∧∃ s t:Nat,(s:Int)<n∧(t:Int)<n∧s≠t∧outsA next out s w=outsA next out t w∧atA next s w=atA next t w
  | 0,w,hk,_=>by
    obtain rfl:=List.eq_nil_of_length_eq_zero hk
    exact DI0 M.aut.n1 M.aut.n2 hn
  | k+1,w,hk,hw=>by
    have hne:w≠[]:=fun e=>by rw [e] at hk;simp at hk
    have e:=List.dropLast_concat_getLast hne
    have hwd:IsW next.length w.dropLast:=fun y hy=>hw y (List.dropLast_subset w hy)
    have ih:=DI.word M hn (tl:=tl) k w.dropLast (by rw [List.length_dropLast];omega) hwd
    have hx:=hw _ (List.getLast_mem hne)
    obtain ⟨x,hxe⟩:∃ x:Nat,w.getLast hne=x:=⟨(w.getLast hne).toNat,by omega⟩
    rw [hxe] at e hx
    rw [← e]
    generalize w.dropLast=u at ih hwd e
    rw [goG_snoc,Int.toNat_natCast]
    cases hg:goG (dbtD next out o tl) [2 ^ n.toNat - 1] u with
    | none =>
      rw [hg] at ih
      simp only [Option.bind_none]
      obtain ⟨h1,s,t,h2,h3,h4,h5,h6⟩:=ih
      exact ⟨h1,s,t,h2,h3,h4,by rw [outsA_snoc,outsA_snoc,h5,h6],by rw [atA_snoc,atA_snoc,h6]⟩
    | some D =>
      rw [hg] at ih
      simp only [Option.bind_some]
      exact ih.goes M hwd (by omega)
end
end Go.Ab
namespace Go.Ab
theorem DB.mono {n m:Nat} {q:List Nat} (h:DB n q) (hm:n≤m):DB m q :=
  ⟨h.lt,fun f hf=>⟨Nat.lt_of_lt_of_le (h.el f hf).1 (Nat.pow_le_pow_right (by omega) hm),(h.el f hf).2⟩,by have:=h.sm;omega⟩
section
variable {n o:Int} {next out:List (List Int)}
def LenI {σ:Type} (d:σ×List Int) (L:List (σ×List Int)):Prop:=∀ k,k<L.length→(L.getD k d).2.length≤k
theorem LenI.vis {σ:Type} [DecidableEq σ] {δ:σ→Nat→Option σ} {d:σ×List Int} {p:σ} {w:List Int} {L:List (σ×List Int)} (h:LenI d L) (hw:w.length<L.length):∀ x,LenI d (visG δ p w x L)
  | 0=>h
  | x+1=>by
    have ih:=LenI.vis (δ:=δ) (p:=p) h hw x
    obtain ⟨t,ht⟩:=visG_pre (δ:=δ) (p:=p) (w:=w) x L
    simp only [visG]
    cases δ p x with
    | none=>exact ih
    | some q =>
      simp only
      split
      · exact ih
      · intro k hk
        rw [List.length_append,List.length_singleton] at hk
        by_cases e:k<(visG δ p w x L).length
        · rw [appG_getD e];exact ih k e
        · obtain rfl:k=(visG δ p w x L).length:=by omega
          rw [lastG_getD,List.length_append,List.length_singleton,ht,List.length_append];omega
theorem LenI.run {σ:Type} [DecidableEq σ] {δ:σ→Nat→Option σ} {d:σ×List Int} {m:Nat}:∀ (F i:Nat) (L:List (σ×List Int)),LenI d L→LenI d (runG δ m d F i L)
  | 0,_,_,h=>h
  | F+1,i,L,h=>by
    simp only [runG]
    split
    · rename_i hi
      exact LenI.run F (i+1) _ (h.vis (by have:=h i hi;omega) m)
    · exact h
end
end Go.Ab
namespace Go.Ab
open Go.Proofs
end Go.Ab
namespace Go.Ab
section
variable {n o:Int} {next out:List (List Int)}
end
end Go.Ab
namespace Go.Ab
theorem getElem_of_getD {l:List Int} {i:Nat} (h:i<l.length):l.getD i 0=l[i]:=by
  rw [List.getD_eq_getElem?_getD,List.getElem?_eq_getElem h];rfl
theorem nodup_at {l:List Int} (hd:l.Nodup) {i j:Nat} (hi:i<l.length) (hj:j<l.length) (e:l.getD i 0=l.getD j 0):i=j:=by
  rw [getElem_of_getD hi,getElem_of_getD hj] at e
  have hp:=List.pairwise_iff_getElem.1 hd
  rcases Nat.lt_trichotomy i j with h1 | h1 | h1
  · exact absurd e (hp i j hi hj h1)
  · exact h1
  · exact absurd e.symm (hp j i hj hi h1)
theorem ord_all {n:Int} {l:List Int} (hl:l.length=n.toNat) (hd:l.Nodup) (hr:∀ x∈l,0≤x∧x<n) {s:Int} (hs:0≤s∧s<n):s∈l:=by
  by_cases h:s∈l
  · exact h
  · have:=len_sub (q:=s :: l) (ps:=allS n) (List.nodup_cons.2 ⟨h,hd⟩) fun x hx=>by
      rcases List.mem_cons.1 hx with rfl | hx
      · exact allS_mem.2 hs
      · exact allS_mem.2 (hr x hx)
    unfold allS at this
    rw [List.length_cons,List.length_map,List.length_range] at this
    omega
theorem Iso.at {n:Int} {na nb:List (List Int)} (B:Aut n nb) {ph:List Int} (I:Iso na nb ph) (hl:na.length=nb.length) (hn:ph.length=n.toNat):∀ {w:List Int} {k:Nat},k<ph.length→IsW na.length w→ph.getD (atA nb k w).toNat 0=atA na (ph.getD k 0) w
  | [],k,_,_=>by simp [atA]
  | x :: w,k,hk,hw=>by
    have hx:=hw x (by simp)
    obtain ⟨e1,e2⟩:=I.ed k hk x.toNat (by omega)
    rw [show ((x.toNat:Nat):Int)=x by omega] at e1 e2
    have hs:=stepA_nn B (k:Int) x
    have:=Iso.at B I hl hn (w:=w) e1 fun y hy=>hw y (by simp [hy])
    rw [show (((stepA nb k x).toNat:Nat):Int)=stepA nb k x by omega,e2] at this
    exact this
end Go.Ab
namespace Go.Ab
open Go.Proofs
theorem k_specSinkOf (n:Int) (next:List (List Int)) (A:Aut n next) :
    Fn Try.prog nz34 [autA n next] fun rows res=>∃ v xs,rows=[.row v 1 true (ints xs)]∧res=.tup [.own 6000 v,iv (if (sinkL n next).length=0 then 6 else 0)]:=by
  refine con_of mixed czgq rfl (by simp) ?_
  have hva:=k_l01Ok n next
  rw [autB_iff.2 A] at hva
  generalize hQ:finQ _=Q
  simp only [Az1p,Bz8g,go_sem,yz0,xx9,xx8,xx6,xx7,xx5,xx0,xx1,xx2,reduceIte,xx3,xx4,reduceCtorEq]
  intro vs vs2
  refine yzz hva qCS trivial ?_
  simp only [Bz8d,Bz8f,Bool.not_true,go_sem,yz0,xx9,xx8,xx6,xx7,xx5,xx0,xx1,xx2,reduceIte,xx3,xx4,reduceCtorEq]
  intro vs3
  refine call_fn (k_l01Sink n next A) qCS (fun e=>by cases e) ?_
  rintro rows res ⟨v,rfl,rfl⟩
  refine ⟨by simp,by rw [Option.getD_some,yzl];simp only [go_sem,yz0,xx9,xx8,xx6,xx7,xx5,xx0,xx1,xx2,reduceIte,xx3,xx4,reduceCtorEq],?_⟩
  generalize sinkL n next=ys at hQ ⊢
  by_cases h0:ys.length=0
  · have e:decide ((0:Int)<(ys.length:Int))=false:=by rw [decide_eq_false_iff_not];omega
    simp only [Option.getD_some,e,Bz4d,Bz4c,Bool.not_false,Nat.not_lt_zero,range1,yzx,yz11,ren_ro,rnNm_n,yz10,rnNm_o,rnNm_s,ren_st,yzy,yzp,yzf,yz4,yzu,yzv,yzo,yzm,yzs,yzb,yzd,yzc,yza,yzj,yzi,yz3,yz7,yz8,yz9,yzg,yzk,List.range_zero,yz6,yz5,yze,yzt,yzl,yzr,AVal.fresh,freshL,yz2,yzh,AObj.fresh,id,Option.isSome_some,or_true,true_or,go_sem,yz0,xx9,xx8,xx6,xx7,xx5,xx0,xx1,xx2,reduceIte,xx3,xx4,reduceCtorEq]
    intro vs4
    rw [← hQ]
    simp only [Az1p,if_pos h0,Nat.not_lt_zero,range1,yzx,yz11,ren_ro,rnNm_n,yz10,rnNm_o,rnNm_s,ren_st,yzy,yzp,yzf,yz4,yzu,yzv,yzo,yzm,yzs,yzb,yzd,yzc,yza,yzj,yzi,yz3,yz7,yz8,yz9,yzg,yzk,List.range_zero,yz6,yz5,yze,yzt,yzl,yzr,AVal.fresh,freshL,yz2,yzh,AObj.fresh,id,Option.isSome_some,or_true,true_or,go_sem,yz0,xx9,xx8,xx6,xx7,xx5,xx0,xx1,xx2,reduceIte,xx3,xx4,reduceCtorEq]
    refine ⟨[15],by simp,by simp,by simp,?_,vs4 0 0,[],?_⟩
    · intro x hx
      rw [List.mem_singleton.1 hx]
      simp only [Nat.not_lt_zero,range1,yzx,yz11,ren_ro,rnNm_n,yz10,rnNm_o,rnNm_s,ren_st,yzy,yzp,yzf,yz4,yzu,yzv,yzo,yzm,yzs,yzb,yzd,yzc,yza,yzj,yzi,yz3,yz7,yz8,yz9,yzg,yzk,List.range_zero,yz6,yz5,yze,yzt,yzl,yzr,AVal.fresh,freshL,yz2,yzh,AObj.fresh,id,Option.isSome_some,or_true,true_or,go_sem,yz0,xx9,xx8,xx6,xx7,xx5,xx0,xx1,xx2,reduceIte,xx3,xx4,reduceCtorEq]
    · simp only [List.map_cons,List.map_nil,Nat.not_lt_zero,range1,yzx,yz11,ren_ro,rnNm_n,yz10,rnNm_o,rnNm_s,ren_st,yzy,yzp,yzf,yz4,yzu,yzv,yzo,yzm,yzs,yzb,yzd,yzc,yza,yzj,yzi,yz3,yz7,yz8,yz9,yzg,yzk,List.range_zero,yz6,yz5,yze,yzt,yzl,yzr,AVal.fresh,freshL,yz2,yzh,AObj.fresh,id,Option.isSome_some,or_true,true_or,go_sem,yz0,xx9,xx8,xx6,xx7,xx5,xx0,xx1,xx2,reduceIte,xx3,xx4,reduceCtorEq]
  · have e:decide ((0:Int)<(ys.length:Int))=true:=by rw [decide_eq_true_eq];omega
    simp only [Option.getD_some,e,Bz4d,Bz4c,Bz8e,Bool.not_true,Nat.not_lt_zero,range1,yzx,yz11,ren_ro,rnNm_n,yz10,rnNm_o,rnNm_s,ren_st,yzy,yzp,yzf,yz4,yzu,yzv,yzo,yzm,yzs,yzb,yzd,yzc,yza,yzj,yzi,yz3,yz7,yz8,yz9,yzg,yzk,List.range_zero,yz6,yz5,yze,yzt,yzl,yzr,AVal.fresh,freshL,yz2,yzh,AObj.fresh,id,Option.isSome_some,or_true,true_or,go_sem,yz0,xx9,xx8,xx6,xx7,xx5,xx0,xx1,xx2,reduceIte,xx3,xx4,reduceCtorEq]
    rw [← hQ]
    simp only [Az1p,if_neg h0,Nat.not_lt_zero,range1,yzx,yz11,ren_ro,rnNm_n,yz10,rnNm_o,rnNm_s,ren_st,yzy,yzp,yzf,yz4,yzu,yzv,yzo,yzm,yzs,yzb,yzd,yzc,yza,yzj,yzi,yz3,yz7,yz8,yz9,yzg,yzk,List.range_zero,yz6,yz5,yze,yzt,yzl,yzr,AVal.fresh,freshL,yz2,yzh,AObj.fresh,id,Option.isSome_some,or_true,true_or,go_sem,yz0,xx9,xx8,xx6,xx7,xx5,xx0,xx1,xx2,reduceIte,xx3,xx4,reduceCtorEq]
    refine ⟨[10],by simp,by simp,by simp,?_,vs3 0 v,ys,?_⟩
    · intro x hx
      rw [List.mem_singleton.1 hx]
      simp only [Nat.not_lt_zero,range1,yzx,yz11,ren_ro,rnNm_n,yz10,rnNm_o,rnNm_s,ren_st,yzy,yzp,yzf,yz4,yzu,yzv,yzo,yzm,yzs,yzb,yzd,yzc,yza,yzj,yzi,yz3,yz7,yz8,yz9,yzg,yzk,List.range_zero,yz6,yz5,yze,yzt,yzl,yzr,AVal.fresh,freshL,yz2,yzh,AObj.fresh,id,Option.isSome_some,or_true,true_or,go_sem,yz0,xx9,xx8,xx6,xx7,xx5,xx0,xx1,xx2,reduceIte,xx3,xx4,reduceCtorEq]
    · simp only [List.map_cons,List.map_nil,Nat.not_lt_zero,range1,yzx,yz11,ren_ro,rnNm_n,yz10,rnNm_o,rnNm_s,ren_st,yzy,yzp,yzf,yz4,yzu,yzv,yzo,yzm,yzs,yzb,yzd,yzc,yza,yzj,yzi,yz3,yz7,yz8,yz9,yzg,yzk,List.range_zero,yz6,yz5,yze,yzt,yzl,yzr,AVal.fresh,freshL,yz2,yzh,AObj.fresh,id,Option.isSome_some,or_true,true_or,go_sem,yz0,xx9,xx8,xx6,xx7,xx5,xx0,xx1,xx2,reduceIte,xx3,xx4,reduceCtorEq]
theorem gcd_tmod (a b:Int):Int.gcd b (a.tmod b)=Int.gcd a b:=by
  have h:a.tmod b+b * (a.tdiv b)=a:=Int.tmod_add_mul_tdiv a b
  refine Nat.dvd_antisymm (Int.natCast_dvd_natCast.1 (Int.dvd_coe_gcd ?_ (Int.gcd_dvd_left ..))) (Int.natCast_dvd_natCast.1 (Int.dvd_coe_gcd (Int.gcd_dvd_right ..) ?_))
  · rw [← h]
    refine Int.dvd_add ?_ (Int.dvd_trans (Int.gcd_dvd_left ..) (Int.dvd_mul_right ..))
    rw [h];exact Int.gcd_dvd_right ..
  · rw [show a.tmod b=a - b * a.tdiv b by omega]
    exact Int.dvd_sub (Int.gcd_dvd_left ..) (Int.dvd_trans (Int.gcd_dvd_right ..) (Int.dvd_mul_right ..))
theorem k_divisor (a b:Int) (ha:-4611686018427387904≤a∧a≤4611686018427387904) (hb:-4611686018427387904≤b∧b≤4611686018427387904):Fun Try.prog nz3k [iv a,iv b] (iv (Int.gcd a b)):=by
  refine fun_of mixed czi5 rfl ⟨rfl,trivial⟩ ?_
  simp only [Azd1,Bzd0,go_sem,yz0,xx9,xx8,xx6,xx7,xx5,xx0,xx1,xx2,reduceIte,xx3,xx4,reduceCtorEq]
  refine wpD_lo (fun (_,y)=>y.natAbs) (fun (x,y)=>(-4611686018427387904≤x∧x≤4611686018427387904)∧(-4611686018427387904≤y∧y≤4611686018427387904)∧Int.gcd x y=Int.gcd a b)
    (fun ((x,y):Int×Int)=>⟨L .any [(0,iv x),(1,iv y)],L .gone []⟩) (a,b) ⟨ha,hb,rfl⟩ (by simp only [Bz2f,go_sem,yz0,xx9,xx8,xx6,xx7,xx5,xx0,xx1,xx2,reduceIte,xx3,xx4,reduceCtorEq];try rfl) ?_
  rintro ⟨x,y⟩ ⟨hx,hy,hg⟩
  have hx:-4611686018427387904≤x∧x≤4611686018427387904:=hx
  have hy:-4611686018427387904≤y∧y≤4611686018427387904:=hy
  have hg:Int.gcd x y=Int.gcd a b:=hg
  by_cases h0:y=0
  · subst h0
    have e0:((0:Int) != 0)=false:=rfl
    simp only [e0,Bz2f,Bz61,Bzcz,go_sem,yz0,xx9,xx8,xx6,xx7,xx5,xx0,xx1,xx2,reduceIte,xx3,xx4,reduceCtorEq]
    have h1:IntKind.i64.wrap (0 - x)=-x:=by rw [w64 (by omega)];omega
    rw [Int.gcd_zero_right] at hg
    rw [h1,← hg]
    refine congrArg (fun z=>AVal.val (Value.int IntKind.i64 z)) ?_
    split <;> omega
  · have e0:(y != 0)=true:=by simpa using h0
    simp only [e0,Bz2f,Bz61,Bzcy,go_sem,yz0,xx9,xx8,xx6,xx7,xx5,xx0,xx1,xx2,reduceIte,xx3,xx4,reduceCtorEq]
    rw [if_neg h0]
    have h1:=Int.natAbs_tmod x y
    have h2:x.natAbs % y.natAbs<y.natAbs:=Nat.mod_lt _ (by omega)
    exact ⟨rfl,(y,x.tmod y),by dsimp only;omega,⟨hy,by dsimp only;omega,by dsimp only;rw [gcd_tmod];exact hg⟩,rfl⟩
structure PerI (next:List (List Int)) (l fs:List Int) (p:Int) (i k:Nat):Prop where
  len:fs.length=l.length
  rg:∀ j,j<l.length→0≤fs.getD j 0∧fs.getD j 0≤j
  pos:0≤p∧p≤100
  dv:∀ j x,(j<i∨j=i∧x<k)→x<next.length→stepA next (l.getD j 0) x∈l∧p ∣ fs.getD j 0+1 - fs.getD (l.idxOf (stepA next (l.getD j 0) x)) 0
theorem PerI.snoc {next:List (List Int)} {l fs:List Int} {p:Int} {i k:Nat} (h:PerI next l fs p i k) (hi:i<l.length) {t f:Int} (hf:0≤f∧f≤l.length):PerI next (l ++ [t]) (fs ++ [f]) p i k:=by
  have hl:=h.len
  refine ⟨by simp [hl],fun j hj=>?_,h.pos,fun j x hj hx=>?_⟩
  · rw [List.length_append,List.length_singleton] at hj
    by_cases e:j<l.length
    · rw [getD_snl (by omega)];exact h.rg j e
    · obtain rfl:j=l.length:=by omega
      rw [← hl,getD_snr,hl];exact hf
  · have hjl:j<l.length:=by omega
    obtain ⟨h1,h2⟩:=h.dv j x hj hx
    rw [getD_snl hjl,getD_snl (show j<fs.length by omega),List.idxOf_append,if_pos h1,getD_snl (show l.idxOf _<fs.length by rw [hl];exact List.idxOf_lt_length_of_mem h1)]
    exact ⟨List.mem_append_left _ h1,h2⟩
theorem PerI.step {next:List (List Int)} {l fs:List Int} {p:Int} {i k:Nat} (h:PerI next l fs p i k) (hi:i<l.length) (hl10:l.length≤10) (hm:stepA next (l.getD i 0) k∈l) (h0:p≠0∨True) :
    PerI next l fs (Int.gcd p (fs.getD i 0+1 - fs.getD (l.idxOf (stepA next (l.getD i 0) k)) 0)) i (k+1):=by
  have hx:=List.idxOf_lt_length_of_mem hm
  have r1:=h.rg i hi
  have r2:=h.rg _ hx
  have hp:=h.pos
  generalize hD:fs.getD i 0+1 - fs.getD (l.idxOf (stepA next (l.getD i 0) k)) 0=D
  refine ⟨h.len,h.rg,⟨Int.natCast_nonneg _,?_⟩,fun j x hj hx2=>?_⟩
  · by_cases e:p=0
    · subst e
      rw [Int.gcd_zero_left];omega
    · have:=Nat.le_of_dvd (by omega) (Int.natCast_dvd_natCast.1 (show ((Int.gcd p D:Nat):Int) ∣ ((p.natAbs:Nat):Int) by rw [Int.dvd_natAbs];exact Int.gcd_dvd_left ..))
      omega
  · by_cases e:j=i∧x=k
    · obtain ⟨rfl,rfl⟩:=e
      refine ⟨hm,?_⟩
      rw [hD];exact Int.gcd_dvd_right ..
    · obtain ⟨g1,g2⟩:=h.dv j x (by omega) hx2
      exact ⟨g1,Int.dvd_trans (Int.gcd_dvd_left ..) g2⟩
theorem PerI.next {next:List (List Int)} {l fs:List Int} {p:Int} {i:Nat} (h:PerI next l fs p i next.length):PerI next l fs p (i+1) 0:=⟨h.len,h.rg,h.pos,fun j x hj hx=>h.dv j x (by omega) hx⟩
theorem k_period (n:Int) (next:List (List Int)) (A:Aut n next) :
    Fn Try.prog nz3b [autA n next] fun rows res=>∃ p fs,rows=[]∧res=iv p∧PerI next (reachL n next 0) fs p (reachL n next 0).length 0:=by
  refine con_of mixed czh5 rfl (by simp) ?_
  have n1:=A.n1
  have n2:=A.n2
  have l2:=A.l2
  have hM:=maxLen_le
  generalize hQ:finQ _=Q
  have f0:findKeyAt (Value.int IntKind.i64 0) [] 0=some none:=rfl
  simp only [Az5a,Bzas,f0,go_sem,yz0,xx9,xx8,xx6,xx7,xx5,xx0,xx1,xx2,reduceIte,xx3,xx4,reduceCtorEq]
  intro vs vs2
  refine ⟨⟨_,rfl,rfl⟩,?_⟩
  simp only [Bzar,Bzaq,Bzao,go_sem,yz0,xx9,xx8,xx6,xx7,xx5,xx0,xx1,xx2,reduceIte,xx3,xx4,reduceCtorEq]
  refine wpD_lo (fun (_,_,_,_,i,_)=>n.toNat+1 - i) (fun (_,_,l,fs,i,p)=>Once n l∧i≤List.length l∧runL next (n.toNat - i+1) l i=reachL n next 0∧PerI next l fs p i 0)
    (fun ((v,vm,l,fs,i,p):Nat×Nat×List Int×List Int×Nat×Int)=>⟨L .any [(1,.ptr 1 (vs 0 0) 0),(3,.mp 13 vm),(4,.own 15 v),(5,iv p),(6,iv i)],L .gone [(1,.box (vs 0 0) [iv n,.ro none 1 (rwn next)]),(13,.map vm (keyI l) (ints fs)),(15,.row v 1 true (ints l))]⟩)
    (_,_,[0],[0],0,0) ⟨one_once ⟨Int.le_refl 0,by omega⟩,by simp,rfl,⟨rfl,fun j hj=>by simp at hj;subst hj;simp,by omega,fun j x hj=>by omega⟩⟩ (by simp only [Bz26,List.map_cons,List.map_nil,go_sem,yz0,xx9,xx8,xx6,xx7,xx5,xx0,xx1,xx2,reduceIte,xx3,xx4,reduceCtorEq];try rfl) ?_
  rintro ⟨v,vm,l,fs,i,p⟩ ⟨ho,hi,hR,hI⟩
  have hi:i≤l.length:=hi
  have hI:PerI next l fs p i 0:=hI
  have hll:=ho.len n1
  by_cases hlt:(i:Int)<l.length
  · have hlt1:i<l.length:=by omega
    have hnow:=ho.rg _ (yzq hlt1 0)
    have hstep:=run_step A ho hlt1 hR
    have gi:=yzw (k:=.i64) hlt1
    have wi:IntKind.i64.wrap ((i:Int)+1)=((i+1:Nat):Int):=by rw [w64 (by omega)];simp
    simp only [Bz26,Bz53,Bzan,gi,decide_eq_true hlt,go_sem,yz0,xx9,xx8,xx6,xx7,xx5,xx0,xx1,xx2,reduceIte,xx3,xx4,reduceCtorEq]
    intro hM2
    refine ⟨⟨by omega,hlt1⟩,hlt1,?_⟩
    simp only [Bzal,Bzak,go_sem,yz0,xx9,xx8,xx6,xx7,xx5,xx0,xx1,xx2,reduceIte,xx3,xx4,reduceCtorEq]
    intro hM3
    refine wpD_lo (fun (_,_,_,_,k,_)=>next.length - k) (fun (_,_,l',fs,k,p)=>k≤next.length∧Once n l'∧(∃ t,l'=l ++ t)∧visK (l.getD i 0) (next.drop k) l'=visK (l.getD i 0) next l∧PerI next l' fs p i k)
      (fun ((v,vm,l',fs,k,p):Nat×Nat×List Int×List Int×Nat×Int)=>⟨L .any [(1,.ptr 1 (vs 0 0) 0),(3,.mp 13 vm),(4,.own 15 v),(5,iv p),(6,iv i),(7,iv (l.getD i 0)),(27,.ro none 1 (rwn next)),(28,iv next.length),(29,iv k)],L .gone [(1,.box (vs 0 0) [iv n,.ro none 1 (rwn next)]),(13,.map vm (keyI l') (ints fs)),(15,.row v 1 true (ints l'))]⟩)
      (_,_,l,fs,0,p) ⟨by simp,ho,⟨[],by simp⟩,rfl,hI⟩ (by simp only [Bz25,go_sem,yz0,xx9,xx8,xx6,xx7,xx5,xx0,xx1,xx2,reduceIte,xx3,xx4,reduceCtorEq];try rfl) ?_
    rintro ⟨v',vm',l',fs',k,p'⟩ ⟨hk,ho',⟨t,rfl⟩,hv,hI'⟩
    have hk:k≤next.length:=hk
    have hI':PerI next (l ++ t) fs' p' i k:=hI'
    have hll':=ho'.len n1
    by_cases hkl:(k:Int)<next.length
    · have hkl1:k<next.length:=by omega
      have hrow:=A.row _ (yzq hkl1 [])
      have hc:(l.getD i 0).toNat<(next.getD k []).length:=by omega
      have ht:=hrow.2 _ (yzq hc 0)
      have hi2:i<(l ++ t).length:=by rw [List.length_append];omega
      have hg:(l ++ t).getD i 0=l.getD i 0:=by rw [List.getD_eq_getElem?_getD,List.getElem?_append_left hlt1,← List.getD_eq_getElem?_getD]
      have hsx:stepA next ((l ++ t).getD i 0) (k:Int)=(next.getD k []).getD (l.getD i 0).toNat 0:=by rw [hg];rfl
      have gl:=yzw (k:=.i64) hc
      rw [visK_drop _ _ hkl1] at hv
      generalize hx:(next.getD k []).getD (l.getD i 0).toNat 0=x at ht hv gl hsx
      have wk:IntKind.i64.wrap ((k:Int)+1)=((k+1:Nat):Int):=by rw [w64 (by omega)];simp
      have hsm:l.getD i 0∈l ++ t:=by rw [← hg];exact yzq hi2 0
      have hsi:(l ++ t).idxOf (l.getD i 0)=i:=by
        have h1:=List.idxOf_lt_length_of_mem hsm
        refine nodup_at ho'.nd h1 hi2 ?_
        rw [hg,getElem_of_getD h1,List.getElem_idxOf]
      have fs1:=fkI_mem 0 hsm
      rw [hsi,Nat.zero_add] at fs1
      have hfl:=hI'.len
      have gfi:=yzw (k:=.i64) (show i<fs'.length by omega)
      have r1:=hI'.rg i hi2
      simp only [Bz25,Bz59,Bzaj,Bzai,rwn_getD hkl1,gl,decide_eq_true hkl,go_sem,yz0,xx9,xx8,xx6,xx7,xx5,xx0,xx1,xx2,reduceIte,xx3,xx4,reduceCtorEq]
      refine ⟨⟨by omega,hkl1⟩,hkl1,⟨hnow.1,hc⟩,hc,?_⟩
      by_cases hm:x∈l ++ t
      · have fx:=fkI_mem 0 hm
        have hxi:=List.idxOf_lt_length_of_mem hm
        rw [Nat.zero_add] at fx
        have gfx:=yzw (k:=.i64) (show (l ++ t).idxOf x<fs'.length by omega)
        have r2:=hI'.rg _ hxi
        have w1:IntKind.i64.wrap (fs'.getD i 0+1)=fs'.getD i 0+1:=w64 (by omega)
        have w2:IntKind.i64.wrap (fs'.getD i 0+1 - fs'.getD ((l ++ t).idxOf x) 0)=fs'.getD i 0+1 - fs'.getD ((l ++ t).idxOf x) 0:=w64 (by omega)
        have ha:addL (l ++ t) x=l ++ t:=by unfold addL;rw [if_pos (List.contains_iff_mem.2 hm)]
        rw [ha] at hv
        simp only [Bz57,Bz55,Bz54,Bz56,fx,gfx,fs1,gfi,w1,w2,go_sem,yz0,xx9,xx8,xx6,xx7,xx5,xx0,xx1,xx2,reduceIte,xx3,xx4,reduceCtorEq]
        intro vs3
        have hD:=k_divisor p' (fs'.getD i 0+1 - fs'.getD ((l ++ t).idxOf x) 0) (by have:=hI'.pos;omega) (by omega)
        refine yzz hD qCS trivial ?_
        simp only [Bz58,wk,go_sem,yz0,xx9,xx8,xx6,xx7,xx5,xx0,xx1,xx2,reduceIte,xx3,xx4,reduceCtorEq]
        refine ⟨(v',vm',l ++ t,fs',k+1,_),by dsimp only;omega,⟨by dsimp only;omega,ho',⟨t,rfl⟩,hv,?_⟩,rfl⟩
        have:=hI'.step hi2 (by omega) (by rw [hsx];exact hm) (.inr trivial)
        rwa [hsx] at this
      · have fx:=fkI_not 0 hm
        have ha:addL (l ++ t) x=l ++ t ++ [x]:=by unfold addL;rw [if_neg (by rw [List.contains_iff_mem];exact hm)]
        rw [ha] at hv
        have ho2:=ho'.add ht
        rw [ha] at ho2
        have hl2:=ho2.len n1
        rw [List.length_append,List.length_singleton] at hl2
        have hsm2:l.getD i 0∈l ++ t ++ [x]:=List.mem_append_left _ hsm
        have hxm2:x∈l ++ t ++ [x]:=by simp
        have fs2:=fkI_mem 0 hsm2
        rw [List.idxOf_append,if_pos hsm,hsi,Nat.zero_add] at fs2
        have fx2:=fkI_mem 0 hxm2
        have hxi:(l ++ t ++ [x]).idxOf x=(l ++ t).length:=by
          rw [List.idxOf_append,if_neg hm];simp
        rw [hxi,Nat.zero_add] at fx2
        have hk2:keyI (l ++ t) ++ [.int .i64 x]=keyI (l ++ t ++ [x]):=by simp
        have w1:IntKind.i64.wrap (fs'.getD i 0+1)=fs'.getD i 0+1:=w64 (by omega)
        have hI2:=hI'.snoc hi2 (t:=x) (f:=fs'.getD i 0+1) (by omega)
        have g1:(fs' ++ [fs'.getD i 0+1]).getD i 0=fs'.getD i 0:=getD_snl (by omega)
        have g2:(fs' ++ [fs'.getD i 0+1]).getD (l ++ t).length 0=fs'.getD i 0+1:=by rw [← hfl];exact getD_snr
        have hl7:(l ++ t).length<(fs' ++ [fs'.getD i 0+1]).length:=by
          have h:(fs' ++ [fs'.getD i 0+1]).length=fs'.length+1:=by simp
          omega
        have gg1:=yzw (k:=.i64) (xs:=fs' ++ [fs'.getD i 0+1]) (show i<(fs' ++ [fs'.getD i 0+1]).length by simp;omega)
        have gg2:=yzw (k:=.i64) (xs:=fs' ++ [fs'.getD i 0+1]) hl7
        rw [g1] at gg1
        rw [g2] at gg2
        have w2:IntKind.i64.wrap (fs'.getD i 0+1 - (fs'.getD i 0+1))=0:=by rw [Int.sub_self];decide
        simp only [Bz57,Bz55,Bz54,fx,fs1,gfi,w1,hk2,Bool.not_false,go_sem,yz0,xx9,xx8,xx6,xx7,xx5,xx0,xx1,xx2,reduceIte,xx3,xx4,reduceCtorEq]
        simp only [Bzah,go_sem,yz0,xx9,xx8,xx6,xx7,xx5,xx0,xx1,xx2,reduceIte,xx3,xx4,reduceCtorEq]
        intro vs3
        refine ⟨⟨_,rfl,rfl⟩,by rw [List.length_append] at hll';rw [List.length_append];omega,?_⟩
        simp only [Bz56,fx2,fs2,gg1,gg2,w1,w2,go_sem,yz0,xx9,xx8,xx6,xx7,xx5,xx0,xx1,xx2,reduceIte,xx3,xx4,reduceCtorEq]
        intro vs4
        have hD:=k_divisor p' 0 (by have:=hI'.pos;omega) (by omega)
        refine yzz hD qCS trivial ?_
        simp only [Bz58,wk,go_sem,yz0,xx9,xx8,xx6,xx7,xx5,xx0,xx1,xx2,reduceIte,xx3,xx4,reduceCtorEq]
        have hgx:(l ++ t ++ [x]).getD i 0=l.getD i 0:=by rw [getD_snl hi2];exact hg
        have hsx2:stepA next ((l ++ t ++ [x]).getD i 0) (k:Int)=x:=by rw [hgx,← hsx,hg]
        refine ⟨(_,_,l ++ t ++ [x],fs' ++ [fs'.getD i 0+1],k+1,((Int.gcd p' 0:Nat):Int)),by dsimp only;omega,⟨by dsimp only;omega,ho2,⟨t ++ [x],by simp⟩,hv,?_⟩,rfl⟩
        have:=hI2.step (by rw [List.length_append];omega) (by rw [List.length_append,List.length_singleton];omega) (by rw [hsx2];exact hxm2) (.inr trivial)
        rw [hsx2,hxi,g1,g2,Int.sub_self] at this
        exact this
    · obtain rfl:k=next.length:=by omega
      rw [List.drop_length] at hv
      have hv:l ++ t=visK (l.getD i 0) next l:=hv
      rw [← hv] at hstep
      simp only [Bz25,Bz59,Bzam,wi,decide_eq_false hkl,go_sem,yz0,xx9,xx8,xx6,xx7,xx5,xx0,xx1,xx2,reduceIte,xx3,xx4,reduceCtorEq]
      exact ⟨(v',vm',l ++ t,fs',i+1,p'),by dsimp only;omega,⟨ho',by dsimp only;rw [List.length_append];omega,hstep,hI'.next⟩,rfl⟩
  · have hend:=run_end (by omega) hR
    have hil:i=l.length:=by omega
    subst hend
    rw [hil] at hI
    simp only [Bz26,Bz53,Bzap,decide_eq_false hlt,go_sem,yz0,xx9,xx8,xx6,xx7,xx5,xx0,xx1,xx2,reduceIte,xx3,xx4,reduceCtorEq]
    intro hM2
    rw [← hQ]
    simp only [Az5a,Nat.not_lt_zero,range1,yzx,yz11,ren_ro,rnNm_n,yz10,rnNm_o,rnNm_s,ren_st,yzy,yzp,yzf,yz4,yzu,yzv,yzo,yzm,yzs,yzb,yzd,yzc,yza,yzj,yzi,yz3,yz7,yz8,yz9,yzg,yzk,List.range_zero,yz6,yz5,yze,yzt,yzl,yzr,AVal.fresh,freshL,yz2,yzh,AObj.fresh,id,Option.isSome_some,or_true,true_or,go_sem,yz0,xx9,xx8,xx6,xx7,xx5,xx0,xx1,xx2,reduceIte,xx3,xx4,reduceCtorEq]
    exact ⟨[],by simp,by simp,by simp,by simp,p,fs,rfl,rfl,hI⟩
end Go.Ab
namespace Go.Ab
theorem rwp_putN {ps:List (Nat×List Int)} {i:Nat} {p:Nat×List Int}:(rwp ps).take i ++ [.ro (some (some (p.1+1))) 1 (ints p.2)] ++ (rwp ps).drop (i+1)=rwp (ps.take i ++ [p] ++ ps.drop (i+1)):=by
  simp only [rwp,List.map_append,List.map_take,List.map_drop,List.map_cons,List.map_nil]
theorem DJ_put {A C:List (Nat×List Int)} {b b':Nat×List Int} (h:DJ (A ++ b :: C)) (h1:b'.1=b.1) (h2:b.2=[]→b'.2=[]):DJ (A ++ b' :: C):=by
  unfold DJ at h ⊢
  rw [List.pairwise_append] at h ⊢
  obtain ⟨hA,hC,hX⟩:=h
  rw [List.pairwise_cons] at hC ⊢
  refine ⟨hA,⟨fun x hx=>?_,hC.2⟩,fun x hx y hy=>?_⟩
  · rcases hC.1 x hx with e | e | e
    · exact .inl (h2 e)
    · exact .inr (.inl e)
    · exact .inr (.inr (by rw [h1];exact e))
  · rcases List.mem_cons.1 hy with rfl | hy
    · rcases hX x hx b (List.mem_cons_self ..) with e | e | e
      · exact .inl e
      · exact .inr (.inl (h2 e))
      · exact .inr (.inr (by rw [h1];exact e))
    · exact hX x hx y (List.mem_cons_of_mem _ hy)
theorem DJ_set {ps:List (Nat×List Int)} {i:Nat} (hi:i<ps.length) {xs:List Int} (h:DJ ps) (h2:(ps.getD i (0,[])).2=[]→xs=[]):DJ (ps.take i ++ [((ps.getD i (0,[])).1,xs)] ++ ps.drop (i+1)):=by
  have e:ps=ps.take i ++ ps.getD i (0,[]) :: ps.drop (i+1):=by
    rw [List.getD_eq_getElem?_getD,List.getElem?_eq_getElem hi,Option.getD_some,List.getElem_cons_drop,List.take_append_drop]
  rw [e] at h
  rw [List.append_assoc,List.singleton_append]
  exact DJ_put h rfl h2
end Go.Ab
