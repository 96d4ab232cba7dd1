/- Contracts and what they lean on, part 11. Conditions: none. -/
import Derived.Test.YtlbacpkmdldihaaZ10
set_option maxRecDepth 100000
set_option maxHeartbeats 4000000
set_option linter.all false
open Nat renaming reduceLeDiff → xx0, reduceMul → xx1, reduceSub → xx2, reduceEqDiff → xx3, reduceAdd → xx4, reduceLT → xx5
open Int renaming reduceToNat → xx6, reduceNeg → xx7, reduceLE → xx8, reduceLT → xx9
namespace Go.Ab
open Go.Proofs
theorem found_ren {n:Int} {next:List (List Int)} (A:Aut n next) {order:List Int} (ho:ordB n order=true) :
    ∃ ph,fnd next (next.map (renR order)) n (n.toNat+1) (n.toNat+1) (List.replicate n.toNat (-1))=some ph∧lexle ph order∧ordB n ph=true∧next.map (renR ph)=next.map (renR order):=by
  have n1:=A.n1
  obtain ⟨o1,o2⟩:=(ordB_iff n1).1 ho
  obtain ⟨o3,o4⟩:=ord_nodup n1 ho
  have B:=ren_aut A ho
  have I:=ren_iso A ho
  have hl:next.length=(next.map (renR order)).length:=by rw [List.length_map]
  have hgd:∀ k,(List.replicate n.toNat (-1:Int)).getD k 0=if k<n.toNat then -1 else 0:=fun k=>by
    rw [List.getD_eq_getElem?_getD,List.getElem?_replicate]
    split <;> rfl
  have P0:Prt2 n (List.replicate n.toNat (-1)):=⟨by simp,fun x hx=>by rw [List.eq_of_mem_replicate hx];omega,fun j k hj hk h0=>by
    rw [List.length_replicate] at hj
    rw [hgd,if_pos hj] at h0;omega⟩
  have S0:Sub (List.replicate n.toNat (-1)) order:=⟨by rw [List.length_replicate];omega,fun k hk h0=>by
    rw [hgd,if_pos (by omega)] at h0;omega⟩
  have hul:(uns (List.replicate n.toNat (-1:Int))).length<n.toNat+1:=by
    unfold uns
    refine Nat.lt_succ_of_le (Nat.le_trans (List.length_filter_le _ _) ?_)
    rw [List.length_range,List.length_replicate];exact Nat.le_refl _
  obtain ⟨ph,f1,f2⟩:=fnd_cmp A B hl I (fun x hx=>(o4 x hx).2) (n.toNat+1) _ P0 S0 hul hul
  have C0:Clsd next (next.map (renR order)) (List.replicate n.toNat (-1)):=fun k hk h0=>by
    rw [List.length_replicate] at hk
    rw [hgd,if_pos hk] at h0;omega
  obtain ⟨g1,g2,g3⟩:=fnd_snd A B hl (n.toNat+1) _ _ P0 C0 f1
  have I2:=iso_of A B hl g1 g2 g3
  have hr:∀ x∈ph,x<n:=fun x hx=>(g1.rg x hx).2
  exact ⟨ph,f1,f2,(ordB_iff n1).2 ⟨fun s hs=>ord_all g1.len I2.nd (fun x hx=>⟨g3 x hx,hr x hx⟩) hs,by have:=g1.len;omega⟩,ren_of_iso A B hl I2 g1.len hr⟩
theorem k_FnRenumber (code more:List Int) (hb:∀ x∈code,0≤x∧x≤255) (hb2:∀ x∈more,0≤x∧x≤255) :
    Fun Try.prog nz76 [.ro (some (some 0)) 1 (intsK .u8 code),.ro (some (some 0)) 1 (intsK .u8 more)] (bv true):=by
  refine fun_of mixed czgh rfl ⟨rfl,trivial⟩ ?_
  simp only [Az7k,Bz7j,go_sem,yz0,xx9,xx8,xx6,xx7,xx5,xx0,xx1,xx2,reduceIte,xx3,xx4,reduceCtorEq]
  intro vs
  refine yz11 (k_a2Long code more) qCS trivial ?_
  simp only [Bz77,Bz7i,go_sem,yz0,xx9,xx8,xx6,xx7,xx5,xx0,xx1,xx2,reduceIte,xx3,xx4,reduceCtorEq]
  intro _ vs2
  refine call_sh (k_A2Automaton code hb) qCS (fun e=>by cases e) ?_
  rintro outs rows res ⟨rfl,n,next,v,A,n7,rfl,rfl⟩
  refine ⟨rfl,by simp,by rw [Option.getD_some,yzl];simp only [go_sem,yz0,xx9,xx8,xx6,xx7,xx5,xx0,xx1,xx2,reduceIte,xx3,xx4,reduceCtorEq],?_⟩
  have n1:=A.n1
  have n2:=A.n2
  have hp:=Nat.two_pow_pos n.toNat
  have e60:((6:Int) != 0)=true:=rfl
  have e66:((6:Int) != 6)=false:=rfl
  have e00:((0:Int) != 0)=false:=rfl
  have ez:((0:Int) == 0)=true:=rfl
  simp only [Bz7h,Nat.not_lt_zero,range1,yzx,yz10,yz1b,yz19,yzz,yz1d,yz1c,yz1a,yzy,yzs,yzf,yz3,yzw,yzr,yzp,yzo,yzu,yz8,yzd,yze,yzc,yzi,yzk,yz4,yz7,yz9,yzb,yzh,yzj,List.range_zero,yz6,yz5,yza,yzv,yzl,yzt,AVal.fresh,freshL,yz2,yzg,AObj.fresh,id,Option.isSome_some,or_true,true_or,go_sem,yz0,xx9,xx8,xx6,xx7,xx5,xx0,xx1,xx2,reduceIte,xx3,xx4,reduceCtorEq]
  intro vs3
  refine call_rowI (k_A2Order more n hb2 (by omega)) qCS qGN ⟨allS n,(ordB_iff n1).2 ⟨fun s hs=>allS_mem.2 hs,by unfold allS;rw [List.length_map,List.length_range];omega⟩⟩ ?_
  intro order vo ho
  obtain ⟨ph,f1,f2,f3,f4⟩:=found_ren A ho
  have B:=ren_aut A ho
  have hl:next.length=(next.map (renR order)).length:=by rw [List.length_map]
  simp only [Bz7g,Nat.not_lt_zero,range1,yzx,yz10,yz1b,yz19,yzz,yz1d,yz1c,yz1a,yzy,yzs,yzf,yz3,yzw,yzr,yzp,yzo,yzu,yz8,yzd,yze,yzc,yzi,yzk,yz4,yz7,yz9,yzb,yzh,yzj,List.range_zero,yz6,yz5,yza,yzv,yzl,yzt,AVal.fresh,freshL,yz2,yzg,AObj.fresh,id,Option.isSome_some,or_true,true_or,go_sem,yz0,xx9,xx8,xx6,xx7,xx5,xx0,xx1,xx2,reduceIte,xx3,xx4,reduceCtorEq]
  intro vs4
  have hR:=k_RenumberStates n next order
  rw [autB_iff.2 A,ho] at hR
  refine call_namU hR qCS qGN ?_
  intro w ps hps
  simp only [Bz7f,codeI,if_true,dnL_rwp,hps,Nat.not_lt_zero,range1,yzx,yz10,yz1b,yz19,yzz,yz1d,yz1c,yz1a,yzy,yzs,yzf,yz3,yzw,yzr,yzp,yzo,yzu,yz8,yzd,yze,yzc,yzi,yzk,yz4,yz7,yz9,yzb,yzh,yzj,List.range_zero,yz6,yz5,yza,yzv,yzl,yzt,AVal.fresh,freshL,yz2,yzg,AObj.fresh,id,Option.isSome_some,or_true,true_or,go_sem,yz0,xx9,xx8,xx6,xx7,xx5,xx0,xx1,xx2,reduceIte,xx3,xx4,reduceCtorEq]
  intro vs5
  have hF:=k_RenumberingOf n next (next.map (renR order)) A B hl
  rw [f1] at hF
  refine call_rowT hF qCS qGN (fun _ v6=>?_) (fun h=>by cases h)
  simp only [Bz7e,Option.isSome_some,Option.getD_some,if_true,Nat.not_lt_zero,range1,yzx,yz10,yz1b,yz19,yzz,yz1d,yz1c,yz1a,yzy,yzs,yzf,yz3,yzw,yzr,yzp,yzo,yzu,yz8,yzd,yze,yzc,yzi,yzk,yz4,yz7,yz9,yzb,yzh,yzj,List.range_zero,yz6,yz5,yza,yzv,yzl,yzt,AVal.fresh,freshL,yz2,yzg,AObj.fresh,id,Option.isSome_some,or_true,true_or,go_sem,yz0,xx9,xx8,xx6,xx7,xx5,xx0,xx1,xx2,reduceIte,xx3,xx4,reduceCtorEq]
  intro vs6
  have hR2:=k_RenumberStates n next ph
  rw [autB_iff.2 A,f3] at hR2
  refine call_namU hR2 qCS qGN ?_
  intro w2 ps2 hps2
  rw [f4] at hps2
  have hV:=k_specValid n (next.map (renR order))
  rw [autB_iff.2 B] at hV
  have hS:=k_SameAutomaton n (next.map (renR order))
  simp only [Bz7d,codeI,if_true,dnL_rwp,hps2,e00,Nat.not_lt_zero,range1,yzx,yz10,yz1b,yz19,yzz,yz1d,yz1c,yz1a,yzy,yzs,yzf,yz3,yzw,yzr,yzp,yzo,yzu,yz8,yzd,yze,yzc,yzi,yzk,yz4,yz7,yz9,yzb,yzh,yzj,List.range_zero,yz6,yz5,yza,yzv,yzl,yzt,AVal.fresh,freshL,yz2,yzg,AObj.fresh,id,Option.isSome_some,or_true,true_or,go_sem,yz0,xx9,xx8,xx6,xx7,xx5,xx0,xx1,xx2,reduceIte,xx3,xx4,reduceCtorEq]
  intro vs7
  refine yz11 hV qCS trivial ?_
  simp only [go_sem,yz0,xx9,xx8,xx6,xx7,xx5,xx0,xx1,xx2,reduceIte,xx3,xx4,reduceCtorEq]
  refine yz11 hS qCS trivial ?_
  simp only [Bz78,Bz7c,Bz7b,Bool.not_true,dnL_rws,go_sem,yz0,xx9,xx8,xx6,xx7,xx5,xx0,xx1,xx2,reduceIte,xx3,xx4,reduceCtorEq]
  have lo:order.length=n.toNat:=by have:=((ordB_iff n1).1 ho).2;omega
  have lp:ph.length=n.toNat:=by have:=((ordB_iff n1).1 f3).2;omega
  have hM:=maxLen_le
  have tail:wpD Try.prog Bz41 (finQ fun σ=>σ.tm 4=bv true) ⟨L .any [(5,.ptr 5 (vs2 2 0) 0),(7,.ptr 7 (vs4 6 0) 0)],
      L .gone [(5,.box (vs2 2 0) [iv n,.own 22 (vs2 1 v)]),(7,.box (vs4 6 0) [iv n,.own 30 w]),(22,.row (vs2 1 v) 1 true (rws next)),(26,.row vo 1 true (ints order)),(30,.row w 1 true (rws (next.map (renR order))))]⟩:=by
    simp only [Bz41,dnL_rws,go_sem,yz0,xx9,xx8,xx6,xx7,xx5,xx0,xx1,xx2,reduceIte,xx3,xx4,reduceCtorEq]
    intro vs8
    refine call_ste (k_ShortestH n next A) rfl rfl qCS ?_
    have hsi:=short_iso A B hl (ren_iso A ho) lo (fun x hx=>((ord_nodup n1 ho).2 x hx).2)
    have hB:=k_ShortestH n (next.map (renR order)) B
    unfold shortR at hB ⊢
    generalize firstT (tourT next (2 ^ n.toNat - 1))=F1 at hsi ⊢
    generalize firstT (tourT (next.map (renR order)) (2 ^ n.toNat - 1))=F2 at hsi hB
    cases F1 with
    | none =>
      cases F2 with
      | some q=>simp at hsi
      | none =>
        simp only [Option.getD_some,Bz40,dnL_rwn,Nat.not_lt_zero,range1,yzx,yz10,yz1b,yz19,yzz,yz1d,yz1c,yz1a,yzy,yzs,yzf,yz3,yzw,yzr,yzp,yzo,yzu,yz8,yzd,yze,yzc,yzi,yzk,yz4,yz7,yz9,yzb,yzh,yzj,List.range_zero,yz6,yz5,yza,yzv,yzl,yzt,AVal.fresh,freshL,yz2,yzg,AObj.fresh,id,Option.isSome_some,or_true,true_or,go_sem,yz0,xx9,xx8,xx6,xx7,xx5,xx0,xx1,xx2,reduceIte,xx3,xx4,reduceCtorEq]
        intro vs9
        refine call_ste hB rfl rfl qCS ?_
        simp only [Option.getD_some,Bz3z,dnL_rwn,beq_self_eq_true,Nat.not_lt_zero,range1,yzx,yz10,yz1b,yz19,yzz,yz1d,yz1c,yz1a,yzy,yzs,yzf,yz3,yzw,yzr,yzp,yzo,yzu,yz8,yzd,yze,yzc,yzi,yzk,yz4,yz7,yz9,yzb,yzh,yzj,List.range_zero,yz6,yz5,yza,yzv,yzl,yzt,AVal.fresh,freshL,yz2,yzg,AObj.fresh,id,Option.isSome_some,or_true,true_or,go_sem,yz0,xx9,xx8,xx6,xx7,xx5,xx0,xx1,xx2,reduceIte,xx3,xx4,reduceCtorEq]
        intro vs10
        refine yz11 (k_a2Same [] []) qCS trivial ?_
        simp only [decide_true,go_sem,yz0,xx9,xx8,xx6,xx7,xx5,xx0,xx1,xx2,reduceIte,xx3,xx4,reduceCtorEq]
    | some p =>
      cases F2 with
      | none=>simp at hsi
      | some q =>
        obtain ⟨f,u⟩:=p
        obtain ⟨g,u2⟩:=q
        have:u=u2:=by simpa using hsi
        subst this
        simp only [Option.getD_some,Bz40,dnL_rwn,Nat.not_lt_zero,range1,yzx,yz10,yz1b,yz19,yzz,yz1d,yz1c,yz1a,yzy,yzs,yzf,yz3,yzw,yzr,yzp,yzo,yzu,yz8,yzd,yze,yzc,yzi,yzk,yz4,yz7,yz9,yzb,yzh,yzj,List.range_zero,yz6,yz5,yza,yzv,yzl,yzt,AVal.fresh,freshL,yz2,yzg,AObj.fresh,id,Option.isSome_some,or_true,true_or,go_sem,yz0,xx9,xx8,xx6,xx7,xx5,xx0,xx1,xx2,reduceIte,xx3,xx4,reduceCtorEq]
        intro vs9
        refine call_ste hB rfl rfl qCS ?_
        simp only [Option.getD_some,Bz3z,dnL_rwn,beq_self_eq_true,Nat.not_lt_zero,range1,yzx,yz10,yz1b,yz19,yzz,yz1d,yz1c,yz1a,yzy,yzs,yzf,yz3,yzw,yzr,yzp,yzo,yzu,yz8,yzd,yze,yzc,yzi,yzk,yz4,yz7,yz9,yzb,yzh,yzj,List.range_zero,yz6,yz5,yza,yzv,yzl,yzt,AVal.fresh,freshL,yz2,yzg,AObj.fresh,id,Option.isSome_some,or_true,true_or,go_sem,yz0,xx9,xx8,xx6,xx7,xx5,xx0,xx1,xx2,reduceIte,xx3,xx4,reduceCtorEq]
        intro vs10
        refine yz11 (k_a2Same u u) qCS trivial ?_
        simp only [decide_true,go_sem,yz0,xx9,xx8,xx6,xx7,xx5,xx0,xx1,xx2,reduceIte,xx3,xx4,reduceCtorEq]
  refine wpD_lo (fun i=>n.toNat - i) (fun i=>i≤n.toNat∧∀ m,m<i→ph.getD m 0=order.getD m 0)
    (fun i:Nat=>⟨L .any [(5,.ptr 5 (vs2 2 0) 0),(6,.own 26 vo),(7,.ptr 7 (vs4 6 0) 0),(9,.own 36 v6),(13,iv i)],
      L .gone [(5,.box (vs2 2 0) [iv n,.own 22 (vs2 1 v)]),(7,.box (vs4 6 0) [iv n,.own 30 w]),(22,.row (vs2 1 v) 1 true (rws next)),(26,.row vo 1 true (ints order)),(30,.row w 1 true (rws (next.map (renR order)))),(36,.row v6 1 true (ints ph))]⟩)
    0 ⟨by omega,fun m hm=>by omega⟩ (by simp only [Bz1e,dnL_rws,go_sem,yz0,xx9,xx8,xx6,xx7,xx5,xx0,xx1,xx2,reduceIte,xx3,xx4,reduceCtorEq];try rfl) ?_
  rintro i ⟨hi,hE⟩
  by_cases hlt:(i:Int)<n
  · have hip:i<ph.length:=by omega
    have hio:i<order.length:=by omega
    have d1:decide ((i:Int)<(ph.length:Int))=true:=by rw [decide_eq_true_eq];omega
    have d2:decide ((i:Int)<(order.length:Int))=true:=by rw [decide_eq_true_eq];omega
    have gp:=yz14 (k:=.i64) hip
    have go:=yz14 (k:=.i64) hio
    simp only [Bz1e,Bz3w,d1,d2,dnL_rws,go_sem,yz0,xx9,xx8,xx6,xx7,xx5,xx0,xx1,xx2,reduceIte,xx3,xx4,reduceCtorEq]
    intro hM1 hM2
    by_cases he:ph.getD i 0=order.getD i 0
    · have hne:(ph.getD i 0 != order.getD i 0)=false:=by rw [he];exact bne_self_eq_false _
      have wi:IntKind.i64.wrap ((i:Int)+1)=((i+1:Nat):Int):=by rw [w64 (by omega)];simp
      simp only [Bz3y,Bz3x,Bz7a,gp,go,hne,wi,dnL_rws,go_sem,yz0,xx9,xx8,xx6,xx7,xx5,xx0,xx1,xx2,reduceIte,xx3,xx4,reduceCtorEq]
      exact ⟨⟨by omega,hip⟩,hip,⟨by omega,hio⟩,hio,i+1,by omega,⟨by omega,fun m hm=>by
        rcases Nat.lt_or_ge m i with h | h
        · exact hE m h
        · rw [show m=i by omega];exact he⟩,rfl⟩
    · have hne:(ph.getD i 0 != order.getD i 0)=true:=by simpa using he
      have hle:=f2 i hE
      have hg:decide (ph.getD i 0 > order.getD i 0)=false:=by rw [decide_eq_false_iff_not];omega
      simp only [Bz3y,Bz3x,Bz79,gp,go,hne,hg,dnL_rws,go_sem,yz0,xx9,xx8,xx6,xx7,xx5,xx0,xx1,xx2,reduceIte,xx3,xx4,reduceCtorEq]
      exact ⟨⟨by omega,hip⟩,hip,⟨by omega,hio⟩,hio,⟨by omega,hip⟩,hip,⟨by omega,hio⟩,hio,wpD_kpto tail (by simp only [dnL_rws,go_sem,yz0,xx9,xx8,xx6,xx7,xx5,xx0,xx1,xx2,reduceIte,xx3,xx4,reduceCtorEq])⟩
  · have hin:i=n.toNat:=by omega
    have d1:decide ((i:Int)<(ph.length:Int))=false:=by rw [decide_eq_false_iff_not];omega
    simp only [Bz1e,Bz3w,d1,dnL_rws,go_sem,yz0,xx9,xx8,xx6,xx7,xx5,xx0,xx1,xx2,reduceIte,xx3,xx4,reduceCtorEq]
    intro _
    exact wpD_kpto tail (by simp only [dnL_rws,go_sem,yz0,xx9,xx8,xx6,xx7,xx5,xx0,xx1,xx2,reduceIte,xx3,xx4,reduceCtorEq])
end Go.Ab
