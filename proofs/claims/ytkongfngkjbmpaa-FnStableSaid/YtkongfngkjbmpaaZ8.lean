/- Contracts and what they lean on, part 8. Conditions: none. -/
import Derived.Test.YtkongfngkjbmpaaZ7
set_option maxRecDepth 100000
set_option maxHeartbeats 4000000
set_option linter.all false
open Nat renaming reduceLeDiff → xx0, reduceMul → xx1, reduceSub → xx2, reduceEqDiff → xx3, reduceAdd → xx4, reduceLT → xx5
open Int renaming reduceToNat → xx6, reduceNeg → xx7, reduceLE → xx8, reduceLT → xx9
namespace Go.Ab
open Go.Proofs
abbrev fv (f:Nat):AVal:=.val (.int .u64 (f:Int))
theorem u64w {n:Nat} (h:n<18446744073709551616):IntKind.u64.wrap (n:Int)=n:=IntWalk.u64_in _ (by omega)
theorem bv64 {x:Nat} (h:x<18446744073709551616):(BitVec.ofInt 64 (x:Int)).toNat=x:=by
  rw [BitVec.ofInt_natCast,BitVec.toNat_ofNat,Nat.mod_eq_of_lt h]
theorem u_or {x y:Nat} (hx:x<18446744073709551616) (hy:y<18446744073709551616) :
    IntKind.u64.wrap ((BitVec.ofInt 64 (x:Int) ||| BitVec.ofInt 64 (y:Int)).toNat)=((x ||| y:Nat):Int):=by
  have h:(BitVec.ofInt 64 (x:Int) ||| BitVec.ofInt 64 (y:Int)).toNat=x ||| y:=by rw [BitVec.toNat_or,bv64 hx,bv64 hy]
  show IntKind.u64.wrap ((BitVec.ofInt 64 (x:Int) ||| BitVec.ofInt 64 (y:Int)).toNat:Int)=_
  rw [h];exact u64w (Nat.or_lt_two_pow (n:=64) hx hy)
theorem u_and {x y:Nat} (hx:x<18446744073709551616) (hy:y<18446744073709551616) :
    IntKind.u64.wrap ((BitVec.ofInt 64 (x:Int) &&& BitVec.ofInt 64 (y:Int)).toNat)=((x &&& y:Nat):Int):=by
  have h:(BitVec.ofInt 64 (x:Int) &&& BitVec.ofInt 64 (y:Int)).toNat=x &&& y:=by rw [BitVec.toNat_and,bv64 hx,bv64 hy]
  show IntKind.u64.wrap ((BitVec.ofInt 64 (x:Int) &&& BitVec.ofInt 64 (y:Int)).toNat:Int)=_
  rw [h];exact u64w (Nat.lt_of_le_of_lt Nat.and_le_left hx)
theorem u_and1 {x:Nat} (hx:x<18446744073709551616) :
    IntKind.u64.wrap ((@HAnd.hAnd (BitVec 64) (BitVec 64) (BitVec 64) (@instHAndOfAndOp (BitVec IntKind.u64.bits) (@BitVec.instAndOp IntKind.u64.bits)) (BitVec.ofInt 64 (x:Int)) (BitVec.ofInt 64 1)).toNat)=((x &&& 1:Nat):Int):=u_and (y:=1) hx (by omega)
theorem u_andW {x y:Nat} (hx:x<18446744073709551616) (hy:y<18446744073709551616) :
    IntKind.u64.wrap ((@HAnd.hAnd (BitVec 64) (BitVec 64) (BitVec 64) (@instHAndOfAndOp (BitVec IntKind.u64.bits) (@BitVec.instAndOp IntKind.u64.bits)) (BitVec.ofInt 64 (x:Int)) (BitVec.ofInt 64 (y:Int))).toNat)=((x &&& y:Nat):Int):=u_and hx hy
theorem u_orW {x y:Nat} (hx:x<18446744073709551616) (hy:y<18446744073709551616) :
    IntKind.u64.wrap ((@HOr.hOr (BitVec 64) (BitVec 64) (BitVec 64) (@instHOrOfOrOp (BitVec IntKind.u64.bits) (@BitVec.instOrOp IntKind.u64.bits)) (BitVec.ofInt 64 (x:Int)) (BitVec.ofInt 64 (y:Int))).toNat)=((x ||| y:Nat):Int):=u_or hx hy
theorem u_shl {b:Nat} (h:b<64):IntKind.u64.wrap (1 * 2 ^ min b 64)=((2 ^ b:Nat):Int):=by
  have h1:min b 64=b:=by omega
  have h2:(2:Int) ^ b=((2 ^ b:Nat):Int):=by simp
  rw [h1,Int.one_mul,h2]
  exact u64w (Nat.pow_lt_pow_right (a:=2) (n:=64) (by omega) h)
theorem u_shr {f s:Nat} (h:s≤64):((f:Int)).fdiv (2 ^ min s 64)=((f >>> s:Nat):Int):=by
  have h1:min s 64=s:=by omega
  have h2:(2:Int) ^ s=((2 ^ s:Nat):Int):=by simp
  rw [h1,h2,Nat.shiftRight_eq_div_pow,Int.fdiv_eq_ediv_of_nonneg _ (Int.natCast_nonneg _)]
  rfl
def bitsTo (f s:Nat):List Int:=((List.range s).filter fun k=>f.testBit k).map fun (k:Nat)=>(k:Int)
theorem bitsTo_succ {f s:Nat}:bitsTo f (s+1)=if f.testBit s=true then bitsTo f s ++ [(s:Int)] else bitsTo f s:=by
  unfold bitsTo
  rw [List.range_succ,List.filter_append]
  cases h:f.testBit s with
  | true=>simp [h]
  | false=>simp [h]
theorem bitsTo_len {f s:Nat}:(bitsTo f s).length≤s:=by
  unfold bitsTo
  rw [List.length_map]
  have:=List.length_filter_le (fun k=>f.testBit k) (List.range s)
  rw [List.length_range] at this;exact this
theorem bitsTo_add {f s:Nat} (h:f<2 ^ s):∀ d,bitsTo f (s+d)=bitsTo f s
  | 0=>rfl
  | d+1=>by
    rw [show s+(d+1)=s+d+1 by omega,bitsTo_succ,Nat.testBit_lt_two_pow (Nat.lt_of_lt_of_le h (Nat.pow_le_pow_right (by omega) (by omega))),if_neg (by simp),bitsTo_add h d]
theorem dec_beqN {a k:Nat}:decide (a=k)=Nat.beq a k:=by
  rw [Bool.eq_iff_iff,decide_eq_true_iff,Nat.beq_eq]
theorem shr_zero {f s:Nat}:f >>> s=0↔f<2 ^ s:=by
  rw [Nat.shiftRight_eq_div_pow,Nat.div_eq_zero_iff]
  have:=Nat.two_pow_pos s
  omega
theorem k_flock_set (f:Nat) (h:f<1024):RowI Try.prog nz11 [fv f] (fun ys=>ys=bitsTo f 10):=by
  refine rowI_of mixed czl1 rfl ?_
  simp only [Azg4,Bzg3,Bzg2,Bzg0,go_sem,yz0,xx9,xx8,xx6,xx7,xx5,xx0,xx1,xx2,reduceIte,xx3,xx4,reduceCtorEq]
  intro vs
  refine wpD_lo (fun (_,s)=>10 - s) (fun (_,s)=>s≤10) (fun ((v,s):Nat×Nat)=>⟨L .any [(0,fv f),(3,.own 5 v),(4,iv s)],L .gone [(5,.row v 1 true (ints (bitsTo f s)))]⟩)
    (_,0) (by simp) (by simp only [Bzh,go_sem,yz0,xx9,xx8,xx6,xx7,xx5,xx0,xx1,xx2,reduceIte,xx3,xx4,reduceCtorEq];try rfl) ?_
  rintro ⟨v,s⟩ hs
  have hs:s≤10:=hs
  have hs0:¬ ((s:Nat):Int)<0:=by omega
  have hsh:=u_shr (f:=f) (s:=s) (by omega)
  have hlt:f >>> s<18446744073709551616:=by rw [Nat.shiftRight_eq_div_pow];exact Nat.lt_of_le_of_lt (Nat.div_le_self _ _) (by omega)
  by_cases hz:(0:Int)<((f >>> s:Nat):Int)
  · have hs10:s<10:=by
      by_cases e:s<10
      · exact e
      · have:f >>> s=0:=shr_zero.2 (Nat.lt_of_lt_of_le (show f<2 ^ 10 from h) (Nat.pow_le_pow_right (by omega) (by omega)))
        omega
    have hand:=u_and1 hlt
    have hbit:((((f >>> s &&& 1:Nat):Int)) == 1)=f.testBit s:=by
      rw [Nat.testBit_eq_decide_div_mod_eq,Nat.and_one_is_mod,Nat.shiftRight_eq_div_pow,Bool.eq_iff_iff,beq_iff_eq,decide_eq_true_iff]
      generalize f / 2 ^ s % 2=q
      omega
    have w1:IntKind.i64.wrap ((s:Int)+1)=((s+1:Nat):Int):=by rw [w64 (by omega)];simp
    cases hb:f.testBit s with
    | true =>
      rw [hb] at hbit
      have hr:bitsTo f s ++ [(s:Int)]=bitsTo f (s+1):=by rw [bitsTo_succ,if_pos hb]
      have hl:=bitsTo_len (f:=f) (s:=s)
      simp only [Bzh,Bz25,Bz26,Bz6u,Bz6v,hs0,hsh,hand,hbit,w1,hr,decide_eq_true hz,go_sem,yz0,xx9,xx8,xx6,xx7,xx5,xx0,xx1,xx2,reduceIte,xx3,xx4,reduceCtorEq]
      intro vs2
      exact ⟨⟨_,rfl,rfl⟩,by omega,(_,s+1),by dsimp only;omega,by dsimp only;omega,rfl⟩
    | false =>
      rw [hb] at hbit
      have hr:bitsTo f s=bitsTo f (s+1):=by rw [bitsTo_succ,if_neg (by simp [hb])]
      simp only [Bzh,Bz25,Bz26,Bz6u,Bz6v,hs0,hsh,hand,hbit,w1,decide_eq_true hz,go_sem,yz0,xx9,xx8,xx6,xx7,xx5,xx0,xx1,xx2,reduceIte,xx3,xx4,reduceCtorEq]
      refine ⟨(v,s+1),by dsimp only;omega,by dsimp only;omega,?_⟩
      dsimp only
      rw [← hr]
  · have he:bitsTo f 10=bitsTo f s:=by
      have h1:f >>> s=0:=Nat.eq_zero_of_not_pos fun e=>hz (Int.natCast_pos.2 e)
      have h2:=bitsTo_add (shr_zero.1 h1) (10 - s)
      rw [show s+(10 - s)=10 by omega] at h2;exact h2
    simp only [Bzh,Bz25,Bz26,Bzg1,hs0,hsh,decide_eq_false hz,he,go_sem,yz0,xx9,xx8,xx6,xx7,xx5,xx0,xx1,xx2,reduceIte,xx3,xx4,reduceCtorEq]
    exact ⟨5,v,_,by omega,rfl,by simp only [go_sem,yz0,xx9,xx8,xx6,xx7,xx5,xx0,xx1,xx2,reduceIte,xx3,xx4,reduceCtorEq],rfl⟩
theorem getD_snoc {α β:Type} (xs:List α) (g:β→α→β) (o:β) (d:α) {i:Nat} (h:i<xs.length):g ((xs.take i).foldl g o) (xs.getD i d)=(xs.take (i+1)).foldl g o:=by
  rw [List.take_succ_eq_append_getElem h,List.foldl_append,List.getD_eq_getElem?_getD,List.getElem?_eq_getElem h];rfl
theorem k_isSmall (f:Nat) (h:f<1024):Fun Try.prog nz1 [fv f] (bv (smallN f)):=by
  refine fun_of mixed czkt rfl ⟨rfl,trivial⟩ ?_
  by_cases h0:f=0
  · subst h0
    simp only [Az6j,Bz6i,go_sem,yz0,xx9,xx8,xx6,xx7,xx5,xx0,xx1,xx2,reduceIte,xx3,xx4,reduceCtorEq]
    rfl
  · have e:IntKind.u64.wrap ((f:Int) - 1)=((f - 1:Nat):Int):=by rw [show (f:Int) - 1=((f - 1:Nat):Int) by omega];exact u64w (by omega)
    have hand:=u_andW (x:=f) (y:=f - 1) (by omega) (by omega)
    have hb:((((f &&& (f - 1):Nat)):Int) == 0)=smallN f:=by
      unfold smallN
      rw [← dec_beqN,Bool.eq_iff_iff,beq_iff_eq,decide_eq_true_iff];omega
    simp only [Az6j,Bz6i,e,hand,hb,go_sem,yz0,xx9,xx8,xx6,xx7,xx5,xx0,xx1,xx2,reduceIte,xx3,xx4,reduceCtorEq]
theorem k_IndexFuncF (xs:List Nat) (g:FuncId) (caps:List AVal) (p:Nat→Bool) (hc:Caps caps) (h:∀ x∈xs,Fun Try.prog g (fv x :: caps) (bv (p x))) :
    Fun Try.prog nza [.ro none 1 (intsK .u64 (xs.map fun (x:Nat)=>(x:Int))),.clo g caps] (iv (fidx p xs 0)):=by
  refine fun_of mixed czle rfl ⟨rfl,trivial⟩ ?_
  simp only [Azho,Bzhn,hc.dn,go_sem,yz0,xx9,xx8,xx6,xx7,xx5,xx0,xx1,xx2,reduceIte,xx3,xx4,reduceCtorEq]
  intro hM
  have hM2:=maxLen_le
  have hM:(xs.length:Int)≤maxLen:=by simpa using hM
  simp only [Bzhl,hc.dn,go_sem,yz0,xx9,xx8,xx6,xx7,xx5,xx0,xx1,xx2,reduceIte,xx3,xx4,reduceCtorEq]
  refine wpD_lo (fun i=>xs.length - i) (fun i=>i≤xs.length∧fidx p (xs.drop i) i=fidx p xs 0)
    (fun i:Nat=>⟨L .any [(0,.ro none 1 (intsK .u64 (xs.map fun (x:Nat)=>(x:Int)))),(1,.clo g caps),(7,iv xs.length),(8,iv i)],L .gone []⟩) 0 (by simp) (by simp only [Bz2d,hc.dn,go_sem,yz0,xx9,xx8,xx6,xx7,xx5,xx0,xx1,xx2,reduceIte,xx3,xx4,reduceCtorEq];try rfl) ?_
  rintro i ⟨hi,he⟩
  by_cases hlt:(i:Int)<xs.length
  · have hlt':i<xs.length:=by omega
    have hlm:i<(xs.map fun (x:Nat)=>(x:Int)).length:=by simpa using hlt'
    have hg:(xs.map fun (x:Nat)=>(x:Int)).getD i 0=((xs.getD i 0:Nat):Int):=by
      rw [List.getD_eq_getElem?_getD,List.getElem?_map,List.getElem?_eq_getElem hlt',List.getD_eq_getElem?_getD,List.getElem?_eq_getElem hlt'];rfl
    have w1:IntKind.i64.wrap ((i:Int)+1)=((i+1:Nat):Int):=by rw [w64 (by omega)];simp
    rw [drop_getD hlt' 0] at he
    simp only [fidx] at he
    simp only [Bz2d,Bz7a,Bz79,Bzhj,yz1 hlm,hg,decide_eq_true hlt,hc.dn,go_sem,yz0,xx9,xx8,xx6,xx7,xx5,xx0,xx1,xx2,reduceIte,xx3,xx4,reduceCtorEq]
    intro vs
    refine ⟨⟨by omega,hlt'⟩,hlt',?_⟩
    refine yzo (h _ (yz6 hlt' 0)) (by simp only [rowIs,boxIs,coe_argN,coe_argNs,coe_ro_o,coeL_nil,yzt,coe_any,coe_val,coe_ro,coe_ro_nil,coe_ro_own,coe_st,coe_st_agg,coe_rp,coe_rp_ptr,coe_clo,coe_own0,coe_ptr0,yzy,coeL_rws,coeL_rwn,L_hit,L_miss,L_nil,xx3,ne_eq,reduceCtorEq,not_false_eq_true,true_and,and_true,and_self,exists_eq_left,exists_eq_right,List.mem_cons,List.not_mem_nil,or_false,AObj.row.injEq,AObj.box.injEq,exists_eq_left',exists_and_left,exists_eq,Nat.zero_lt_one,Nat.lt_add_one,List.map_cons,List.map_nil,AObj.ver,xx5,not_true_eq_false];exact hc.coe _ _ _) trivial ?_
    simp only [Bzhi,Bzhk,w1,hc.dn,go_sem,yz0,xx9,xx8,xx6,xx7,xx5,xx0,xx1,xx2,reduceIte,xx3,xx4,reduceCtorEq]
    refine ⟨fun hp=>?_,fun hp=>⟨i+1,by omega,⟨by omega,?_⟩,rfl⟩⟩
    · rw [hp] at he;simp at he;rw [← he]
    · rw [hp] at he;simpa using he
  · have:i=xs.length:=by omega
    subst this
    rw [List.drop_length] at he
    simp only [fidx] at he
    simp only [Bz2d,Bz7a,Bz79,Bzhm,decide_eq_false hlt,hc.dn,go_sem,yz0,xx9,xx8,xx6,xx7,xx5,xx0,xx1,xx2,reduceIte,xx3,xx4,reduceCtorEq]
    rw [← he]
def stepTo (row set:List Int):Nat:=set.foldl (fun o s=>o ||| 2 ^ (row.getD s.toNat 0).toNat) 0
theorem stepTo_all {row:List Int} {f:Nat}:stepTo row (bitsTo f 10)=stepN row f:=by
  unfold stepTo stepN bitsTo bitsN
  rw [List.foldl_map]
  rfl
theorem k_step (n:Int) (next:List (List Int)) (A:Aut n next) (f l:Nat) (hf:f<2 ^ n.toNat) (hl:l<next.length) :
    Fun Try.prog nz3q [autA n next,fv f,iv l] (fv (stepN (next.getD l []) f)):=by
  refine fun_of mixed czlc rfl ⟨rfl,trivial⟩ ?_
  have n1:=A.n1
  have n2:=A.n2
  have hf10:f<1024:=Nat.lt_of_lt_of_le hf (Nat.pow_le_pow_right (by omega) (show n.toNat≤10 by omega))
  have hrow:=A.row _ (yz6 hl [])
  have hset:∀ s∈bitsTo f 10,0≤s∧s<n:=fun s hs=>by
    unfold bitsTo at hs
    obtain ⟨k,hk,rfl⟩:=List.mem_map.1 hs
    have:=bits_lt hf (show k∈bitsN f from hk)
    omega
  have hto:∀ s∈bitsTo f 10,((next.getD l []).getD s.toNat 0).toNat<10:=fun s hs=>by
    have h1:=hset s hs
    have:=hrow.2 _ (yz6 (show s.toNat<(next.getD l []).length by omega) 0)
    omega
  simp only [Azhd,Bzhc,go_sem,yz0,xx9,xx8,xx6,xx7,xx5,xx0,xx1,xx2,reduceIte,xx3,xx4,reduceCtorEq]
  intro vs
  simp only [Bzhb,go_sem,yz0,xx9,xx8,xx6,xx7,xx5,xx0,xx1,xx2,reduceIte,xx3,xx4,reduceCtorEq]
  intro vs2
  refine call_rowI (k_flock_set f hf10) qCS rfl ⟨_,rfl⟩ ?_
  rintro ys v rfl
  simp only [Bzh9,go_sem,yz0,xx9,xx8,xx6,xx7,xx5,xx0,xx1,xx2,reduceIte,xx3,xx4,reduceCtorEq]
  intro hM
  have hM2:=maxLen_le
  generalize hS:bitsTo f 10=set at hset hto hM ⊢
  refine wpD_lo (fun i=>set.length - i) (fun i=>i≤set.length)
    (fun i:Nat=>⟨L .any [(2,iv l),(3,.ptr 3 (vs 0 0) 0),(7,fv (stepTo (next.getD l []) (set.take i))),(11,.own 11 v),(12,iv set.length),(13,iv i)],L .gone [(3,.box (vs 0 0) [iv n,.ro none 1 (rwn next)]),(11,.row v 1 true (ints set))]⟩) 0 (by simp) (by simp only [Bz2c,go_sem,yz0,xx9,xx8,xx6,xx7,xx5,xx0,xx1,xx2,reduceIte,xx3,xx4,reduceCtorEq];try rfl) ?_
  rintro i hi
  by_cases hlt:(i:Int)<set.length
  · have hlt1:i<set.length:=by omega
    have hs:=hset _ (yz6 hlt1 0)
    have ht:=hto _ (yz6 hlt1 0)
    have hc:(set.getD i 0).toNat<(next.getD l []).length:=by omega
    have hv:=hrow.2 _ (yz6 hc 0)
    have hs0:¬ (next.getD l []).getD (set.getD i 0).toNat 0<0:=by omega
    have h1:stepTo (next.getD l []) (set.take i)<1024:=fold_lt (fun s:Int=>((next.getD l []).getD s.toNat 0).toNat) (set.take i) 0 (fun x hx=>hto x (List.mem_of_mem_take hx)) (by omega)
    have h2:=pow_lt10 ht
    have hsl:=u_shl (b:=((next.getD l []).getD (set.getD i 0).toNat 0).toNat) (by omega)
    have hor:=u_orW (x:=stepTo (next.getD l []) (set.take i)) (y:=2 ^ ((next.getD l []).getD (set.getD i 0).toNat 0).toNat) (by omega) (by omega)
    have hr:stepTo (next.getD l []) (set.take i) ||| 2 ^ ((next.getD l []).getD (set.getD i 0).toNat 0).toNat=stepTo (next.getD l []) (set.take (i+1)):=getD_snoc set (fun o s=>o ||| 2 ^ ((next.getD l []).getD s.toNat 0).toNat) 0 0 hlt1
    simp only [Bz2c,Bz78,Bzh8,yz1 hlt1,decide_eq_true hlt,go_sem,yz0,xx9,xx8,xx6,xx7,xx5,xx0,xx1,xx2,reduceIte,xx3,xx4,reduceCtorEq]
    refine ⟨⟨by omega,hlt1⟩,hlt1,?_⟩
    simp only [Bzh6,Bzh7,rwn_getD hl,yz1 hc,hs0,hsl,hor,hr,nat1 i _ hlt1 hM,go_sem,yz0,xx9,xx8,xx6,xx7,xx5,xx0,xx1,xx2,reduceIte,xx3,xx4,reduceCtorEq]
    refine ⟨⟨by omega,hl⟩,hl,⟨hs.1,hc⟩,hc,i+1,by omega,by omega,rfl⟩
  · have:i=set.length:=by omega
    subst this
    simp only [Bz2c,Bz78,Bzha,decide_eq_false hlt,List.take_length,go_sem,yz0,xx9,xx8,xx6,xx7,xx5,xx0,xx1,xx2,reduceIte,xx3,xx4,reduceCtorEq]
    rw [← hS,stepTo_all]
end Go.Ab
namespace Go.Ab
open Go.Proofs
abbrev keysF (L:TS):List Value:=L.map fun p=>Value.int .u64 (p.1:Int)
abbrev setsI (L:TS):List Int:=L.map fun p=>(p.1:Int)
theorem fkF_not {f:Nat}:∀ {L:TS} (i:Nat),hasT L f=false→findKeyAt (.int .u64 (f:Int)) (keysF L) i=some none
  | [],_,_=>rfl
  | p :: L,i,h=>by
    simp only [hasT,List.any_cons,Bool.or_eq_false_iff] at h
    have h1:((f:Int) == (p.1:Int))=false:=by
      have:p.1≠f:=fun e=>by rw [e,Nat.beq_refl] at h;cases h.1
      exact beq_false_of_ne fun e=>this (by omega)
    have h2:=fkF_not (f:=f) (L:=L) (i+1) h.2
    simp only [List.map_cons,findKeyAt,sameKey,h1,if_true]
    exact h2
theorem fkF_mem {f:Nat}:∀ {L:TS} (i:Nat),hasT L f=true→∃ j,findKeyAt (.int .u64 (f:Int)) (keysF L) i=some (some (i+j))∧j<L.length
  | [],_,h=>by cases h
  | p :: L,i,h=>by
    by_cases e:p.1=f
    · refine ⟨0,?_,by simp⟩
      have h1:((f:Int) == (p.1:Int))=true:=by rw [e];exact beq_self_eq_true _
      simp only [List.map_cons,findKeyAt,sameKey,h1,if_true,Nat.add_zero]
    · have h0:Nat.beq p.1 f=false:=by rw [← dec_beqN];exact decide_eq_false e
      simp only [hasT,List.any_cons,h0,Bool.false_or] at h
      have h1:((f:Int) == (p.1:Int))=false:=beq_false_of_ne fun e'=>e (by omega)
      obtain ⟨j,h2,h3⟩:=fkF_mem (f:=f) (L:=L) (i+1) h
      refine ⟨j+1,?_,by simp;omega⟩
      simp only [List.map_cons,findKeyAt,sameKey,h1,if_true]
      rw [h2];congr 2;omega
theorem fkF_at:∀ {L:TS} (i k:Nat),(L.map (·.1)).Nodup→i<L.length→findKeyAt (.int .u64 ((L.getD i (0,[])).1:Int)) (keysF L) k=some (some (k+i))
  | [],_,_,_,h=>by simp at h
  | p :: L,0,k,_,_=>by
    simp only [List.getD_cons_zero,List.map_cons,findKeyAt,sameKey,beq_self_eq_true,if_true,Nat.add_zero]
  | p :: L,i+1,k,hd,h=>by
    rw [List.map_cons,List.nodup_cons] at hd
    have hi:i<L.length:=by simpa using h
    have hm:=yz6 hi (0,([]:List Int))
    have h1:(((L.getD i (0,[])).1:Int) == (p.1:Int))=false:=beq_false_of_ne fun e=>hd.1 (List.mem_map.2 ⟨_,hm,by omega⟩)
    have h2:=fkF_at (L:=L) i (k+1) hd.2 hi
    simp only [List.getD_cons_succ,List.map_cons,findKeyAt,sameKey,h1,if_true]
    rw [h2];congr 2;omega
theorem setsI_getD {L:TS} {i:Nat} (h:i<L.length):(setsI L).getD i 0=((L.getD i (0,[])).1:Int):=by
  rw [List.getD_eq_getElem?_getD,List.getElem?_map,List.getElem?_eq_getElem h,List.getD_eq_getElem?_getD,List.getElem?_eq_getElem h];rfl
theorem words_getD {L:TS} {i:Nat} (h:i<L.length):(L.map (·.2)).getD i []=(L.getD i (0,[])).2:=by
  rw [List.getD_eq_getElem?_getD,List.getElem?_map,List.getElem?_eq_getElem h,List.getD_eq_getElem?_getD,List.getElem?_eq_getElem h];rfl
theorem k_tour (n:Int) (next:List (List Int)) (A:Aut n next) (f:Nat) (hf:f<2 ^ n.toNat) :
    Fn Try.prog nzw [autA n next,fv f] (fun rows res=>∃ v w,rows=[.row v 1 true (intsK .u64 (setsI (tourT next f))),.map w (keysF (tourT next f)) (rws ((tourT next f).map (·.2)))]∧res=.st [.own 6000 v,.mp 6001 w]):=by
  refine con_of mixed czks rfl (by simp) ?_
  have n1:=A.n1
  have n2:=A.n2
  have l2:=A.l2
  have hN:2 ^ n.toNat≤1024:=Nat.pow_le_pow_right (n:=2) (by omega) (show n.toNat≤10 by omega)
  have f0:∀ k:Value,findKeyAt k [] 0=some none:=fun _=>rfl
  generalize hQ:finQ _=Q
  simp only [Az6d,Bzf2,f0,go_sem,yz0,xx9,xx8,xx6,xx7,xx5,xx0,xx1,xx2,reduceIte,xx3,xx4,reduceCtorEq]
  intro vs vs2
  refine ⟨⟨_,rfl,rfl⟩,?_⟩
  simp only [Bzf1,Bzez,go_sem,yz0,xx9,xx8,xx6,xx7,xx5,xx0,xx1,xx2,reduceIte,xx3,xx4,reduceCtorEq]
  refine ⟨fun r v' e=>by cases e;exact ⟨_,_,_,rfl⟩,?_⟩
  refine wpD_lo (fun (_,_,_,i,_)=>1100 - i)
    (fun (_,_,_,i,L)=>TI n.toNat next.length L∧i≤List.length L∧runT next (1100 - i) i L=tourT next f)
    (fun ((v5,va,vm,i,L):Nat×Nat×Nat×Nat×TS)=>⟨Go.Ab.L .any [(2,.ptr 2 (vs 0 0) 0),(4,.ptr 4 (vs 1 0) 0),(5,.ptr 5 v5 0),(6,iv i)],
      Go.Ab.L .gone [(2,.box (vs 0 0) [iv n,.ro none 1 (rwn next)]),(4,.box (vs 1 0) [nilS,.val (.map none)]),(5,.box v5 [.own 13 va,.mp 14 vm]),(13,.row va 1 true (intsK .u64 (setsI L))),(14,.map vm (keysF L) (rws (L.map (·.2))))]⟩)
    (_,_,_,0,[(f,[])]) ⟨TI0 hf,by simp,rfl⟩ (by simp only [Bz1z,go_sem,yz0,xx9,xx8,xx6,xx7,xx5,xx0,xx1,xx2,reduceIte,xx3,xx4,reduceCtorEq];try rfl) ?_
  rintro ⟨v5,va,vm,i,L⟩ ⟨hI,hi,hR⟩
  have hi:i≤L.length:=hi
  have hlen:=hI.len
  by_cases hlt:(i:Int)<L.length
  · have hlt1:i<L.length:=by omega
    have hls:i<(setsI L).length:=by simpa using hlt1
    have hm:=yz6 hlt1 (0,([]:List Int))
    have hfi:=hI.rg _ hm
    have hwi:=hI.wd _ hm
    simp only [Bz1z,Bz67,Bzey,yz1 hls,setsI_getD hlt1,dnL_rws,decide_eq_true hlt,go_sem,yz0,xx9,xx8,xx6,xx7,xx5,xx0,xx1,xx2,reduceIte,xx3,xx4,reduceCtorEq]
    intro hM
    refine ⟨⟨by omega,hlt1⟩,hlt1,?_⟩
    simp only [Bzew,go_sem,yz0,xx9,xx8,xx6,xx7,xx5,xx0,xx1,xx2,reduceIte,xx3,xx4,reduceCtorEq]
    intro vs3
    refine yzo (k_letters n next) qCS trivial ?_
    simp only [Bzev,go_sem,yz0,xx9,xx8,xx6,xx7,xx5,xx0,xx1,xx2,reduceIte,xx3,xx4,reduceCtorEq]
    have hM2:=maxLen_le
    generalize hfw:L.getD i (0,[])=fw at hm hfi hwi ⊢
    refine wpD_lo (fun (_,_,_,x,_)=>next.length - x)
      (fun (_,_,_,x,L')=>x≤next.length∧L'=visT next fw.1 fw.2 x L)
      (fun ((v5,va,vm,x,L'):Nat×Nat×Nat×Nat×TS)=>⟨Go.Ab.L .any [(2,.ptr 2 (vs 0 0) 0),(4,.ptr 4 (vs 1 0) 0),(5,.ptr 5 v5 0),(6,iv i),(7,fv fw.1),(32,iv next.length),(33,iv x)],
        Go.Ab.L .gone [(2,.box (vs 0 0) [iv n,.ro none 1 (rwn next)]),(4,.box (vs 1 0) [nilS,.val (.map none)]),(5,.box v5 [.own 13 va,.mp 14 vm]),(13,.row va 1 true (intsK .u64 (setsI L'))),(14,.map vm (keysF L') (rws (L'.map (·.2))))]⟩)
      (_,_,_,0,L) ⟨by simp,rfl⟩ (by simp only [Bz1y,dnL_rws,go_sem,yz0,xx9,xx8,xx6,xx7,xx5,xx0,xx1,xx2,reduceIte,xx3,xx4,reduceCtorEq];try rfl) ?_
    rintro ⟨v5,va,vm,x,L'⟩ ⟨hx,rfl⟩
    have hx:x≤next.length:=hx
    obtain ⟨hI',t,hpre⟩:=visT_ok A hI hlt1 x hx
    rw [hfw] at hI' hpre
    generalize hV:visT next fw.1 fw.2 x L=L' at hI' hpre ⊢
    have hlen':=hI'.len
    have hi2:i<L'.length:=by rw [hpre,List.length_append];omega
    have hat:L'.getD i (0,[])=fw:=by rw [hpre,getD_app hlt1,hfw]
    by_cases hxl:(x:Int)<next.length
    · have hxl1:x<next.length:=by omega
      have hto:=stepN_lt A hxl1 hfi
      have w1:IntKind.i64.wrap ((x:Int)+1)=((x+1:Nat):Int):=by rw [w64 (by omega)];simp
      simp only [Bz1y,Bz6c,Bzeu,dnL_rws,decide_eq_true hxl,go_sem,yz0,xx9,xx8,xx6,xx7,xx5,xx0,xx1,xx2,reduceIte,xx3,xx4,reduceCtorEq]
      simp only [Bzet,dnL_rws,go_sem,yz0,xx9,xx8,xx6,xx7,xx5,xx0,xx1,xx2,reduceIte,xx3,xx4,reduceCtorEq]
      intro vs4
      refine yzo (k_step n next A fw.1 x hfi hxl1) qCS trivial ?_
      have hsucc:=visT_succ (next:=next) (f:=fw.1) (w:=fw.2) (x:=x) (L:=L)
      rw [hV] at hsucc
      generalize stepN (next.getD x []) fw.1=to at hto hsucc ⊢
      cases hh:hasT L' to with
      | true =>
        rw [hh,if_pos rfl] at hsucc
        obtain ⟨j,hj1,hj2⟩:=fkF_mem 0 hh
        rw [Nat.zero_add] at hj1
        simp only [Bz6a,Bz69,Bz68,Bz6b,hj1,w1,dnL_rws,go_sem,yz0,xx9,xx8,xx6,xx7,xx5,xx0,xx1,xx2,reduceIte,xx3,xx4,reduceCtorEq]
        exact ⟨(_,_,_,x+1,_),by dsimp only;omega,⟨by dsimp only;omega,hsucc.symm⟩,rfl⟩
      | false =>
        rw [hh,if_neg (by simp)] at hsucc
        have hj1:=fkF_not 0 hh
        have hk:=fkF_at i 0 hI'.nd hi2
        rw [hat,Nat.zero_add] at hk
        have hwl:i<(L'.map (·.2)).length:=by simpa using hi2
        have hwg:=words_getD hi2
        rw [hat] at hwg
        simp only [Bz6a,Bz69,Bz68,hj1,hk,rws_getD hwl,hwg,dnL_rws,go_sem,yz0,xx9,xx8,xx6,xx7,xx5,xx0,xx1,xx2,reduceIte,xx3,xx4,reduceCtorEq]
        intro vs5
        refine call_rowI (k_Clone fw.2 (by omega)) qCS qGN ⟨_,rfl⟩ ?_
        rintro xs v7 rfl
        simp only [hj1,dnL_rws,go_sem,yz0,xx9,xx8,xx6,xx7,xx5,xx0,xx1,xx2,reduceIte,xx3,xx4,reduceCtorEq]
        refine ⟨⟨_,rfl,rfl⟩,by omega,⟨fun r v' e=>by cases e;exact ⟨_,_,_,rfl⟩,?_⟩⟩
        simp only [Bzes,Bz6b,w1,dnL_rws,go_sem,yz0,xx9,xx8,xx6,xx7,xx5,xx0,xx1,xx2,reduceIte,xx3,xx4,reduceCtorEq]
        intro vs6
        exact ⟨⟨_,rfl,rfl⟩,by omega,(v5,vs6 4 0,vm,x+1,L' ++ [(to,fw.2 ++ [(x:Int)])]),by dsimp only;omega,⟨by dsimp only;omega,hsucc.symm⟩,by simp only [List.map_append,List.map_cons,List.map_nil]⟩
    · have:x=next.length:=by omega
      subst this
      simp only [Bz1y,Bz6c,Bzex,dnL_rws,nat1 i _ hlt1 hM,decide_eq_false hxl,go_sem,yz0,xx9,xx8,xx6,xx7,xx5,xx0,xx1,xx2,reduceIte,xx3,xx4,reduceCtorEq]
      obtain ⟨F,hF⟩:∃ F,1100 - i=F+1:=⟨1099 - i,by omega⟩
      have hF2:1100 - (i+1)=F:=by omega
      rw [hF] at hR
      simp only [runT,if_pos hlt1,hfw,hV] at hR
      exact ⟨(_,_,_,i+1,L'),by dsimp only;omega,⟨hI',by dsimp only;omega,by dsimp only;rw [hF2];exact hR⟩,rfl⟩
  · have:i=L.length:=by omega
    subst this
    have hend:L=tourT next f:=by
      obtain ⟨F,hF⟩:∃ F,1100 - L.length=F+1:=⟨1099 - L.length,by omega⟩
      rw [← hR,hF];simp only [runT,Nat.lt_irrefl,if_false]
    simp only [Bz1z,Bz67,Bzf0,decide_eq_false hlt,Az6d,← hQ,go_sem,yz0,xx9,xx8,xx6,xx7,xx5,xx0,xx1,xx2,reduceIte,xx3,xx4,reduceCtorEq]
    intro hM
    refine ⟨[13,14],by simp,by simp,by simp,?_⟩
    simp only [hend,Nat.not_lt_zero,range1,yz10,ren_any,ren_ro,rnNm_n,rnNm_sn,rnNm_o,rnNm_s,ren_st,ren_tup,yzs,yzh,yz7,yzw,yzv,yzr,yzp,yzu,yz8,yzb,yza,yze,yzn,yzl,yz3,yzf,yz9,yzd,yzk,yzm,List.range_zero,yz5,yz4,yzc,yzx,yzi,yzq,AVal.fresh,freshL,yz2,yzj,AObj.fresh,id,Option.isSome_some,or_true,true_or,go_sem,yz0,xx9,xx8,xx6,xx7,xx5,xx0,xx1,xx2,reduceIte,xx3,xx4,reduceCtorEq]
    exact ⟨va,vm,rfl,rfl⟩
theorem k_IndexFuncT (T:TS) (h:∀ p∈T,p.1<1024) :
    Fun Try.prog nza [.ro none 1 (intsK .u64 (setsI T)),.clo nz1 []] (iv (fidx smallN (T.map (·.1)) 0)):=by
  have hx:=k_IndexFuncF (T.map (·.1)) nz1 [] smallN ⟨by simp only [go_sem,yz0,xx9,xx8,xx6,xx7,xx5,xx0,xx1,xx2,reduceIte,xx3,xx4,reduceCtorEq],by intros;simp only [rowIs,boxIs,coe_argN,coe_argNs,coe_ro_o,coeL_nil,yzt,coe_any,coe_val,coe_ro,coe_ro_nil,coe_ro_own,coe_st,coe_st_agg,coe_rp,coe_rp_ptr,coe_clo,coe_own0,coe_ptr0,yzy,coeL_rws,coeL_rwn,L_hit,L_miss,L_nil,xx3,ne_eq,reduceCtorEq,not_false_eq_true,true_and,and_true,and_self,exists_eq_left,exists_eq_right,List.mem_cons,List.not_mem_nil,or_false,AObj.row.injEq,AObj.box.injEq,exists_eq_left',exists_and_left,exists_eq,Nat.zero_lt_one,Nat.lt_add_one,List.map_cons,List.map_nil,AObj.ver,xx5,not_true_eq_false]⟩ (fun x hx=>by
    obtain ⟨p,hp,rfl⟩:=List.mem_map.1 hx
    exact k_isSmall p.1 (h p hp))
  rw [List.map_map] at hx
  exact hx
theorem firstT_idx {f:Nat} {w:List Int}:∀ {T:TS} (k:Nat),firstT T=some (f,w)→∃ i,fidx smallN (T.map (·.1)) k=((k+i:Nat):Int)∧i<T.length∧T.getD i (0,[])=(f,w)
  | [],_,h=>by cases h
  | p :: T,k,h=>by
    simp only [firstT,List.find?_cons] at h
    cases hs:smallN p.1 with
    | true =>
      rw [hs] at h
      simp only [Option.some.injEq] at h
      exact ⟨0,by simp only [List.map_cons,fidx,hs,if_true,Nat.add_zero],by simp,by simpa using h⟩
    | false =>
      rw [hs] at h
      obtain ⟨i,h1,h2,h3⟩:=firstT_idx (T:=T) (k+1) h
      refine ⟨i+1,?_,by simp;omega,by simpa using h3⟩
      simp only [List.map_cons,fidx,hs,Bool.false_eq_true,if_false,h1]
      congr 1;omega
theorem k_first (N m:Nat) (T:TS) (hI:TI N m T) (hN:2 ^ N≤1024) (f:Nat) (w:List Int) (hf:firstT T=some (f,w)) :
    Con Try.prog nzx [.row 0 1 true (intsK .u64 (setsI T)),.map 1 (keysF T) (rwn (T.map (·.2)))] [.st [.own 5000 0,.mp 5001 1],.clo nz1 []] true
      fun outs rows res=>outs=[.row 0 1 true (intsK .u64 (setsI T)),.map 1 (keysF T) (rwn (T.map (·.2)))]∧rows=[]∧res=.tup [.ro none 1 (ints w),iv 0]:=by
  refine con_sh mixed czf4 rfl (by simp) ?_
  obtain ⟨i,h1,h2,h3⟩:=firstT_idx 0 hf
  rw [Nat.zero_add] at h1
  have hls:i<(setsI T).length:=by simpa using h2
  have hsg:=setsI_getD h2
  have hk:=fkF_at i 0 hI.nd h2
  rw [h3,Nat.zero_add] at hk
  rw [h3] at hsg
  have hwl:i<(T.map (·.2)).length:=by simpa using h2
  have hwg:=words_getD h2
  rw [h3] at hwg
  simp only [Az6h,Bz6g,go_sem,yz0,xx9,xx8,xx6,xx7,xx5,xx0,xx1,xx2,reduceIte,xx3,xx4,reduceCtorEq]
  intro vs vs2
  refine yzo (k_IndexFuncT T (fun p hp=>by have:=hI.rg p hp;omega)) qCS trivial ?_
  have hi0:¬ (i:Int)<0:=by omega
  simp only [h1,Bz6f,Bz6e,Bzf3,decide_eq_false hi0,yz1 hls,hsg,hk,rwn_getD hwl,hwg,go_sem,yz0,xx9,xx8,xx6,xx7,xx5,xx0,xx1,xx2,reduceIte,xx3,xx4,reduceCtorEq]
  refine ⟨⟨by omega,h2⟩,h2,[],by simp,by simp,by simp,?_⟩
  simp only [List.nil_append,List.cons_append,Nat.add_zero,xx4,Nat.not_lt_zero,range1,yz10,ren_any,ren_ro,rnNm_n,rnNm_sn,rnNm_o,rnNm_s,ren_st,ren_tup,yzs,yzh,yz7,yzw,yzv,yzr,yzp,yzu,yz8,yzb,yza,yze,yzn,yzl,yz3,yzf,yz9,yzd,yzk,yzm,List.range_zero,yz5,yz4,yzc,yzx,yzi,yzq,AVal.fresh,freshL,yz2,yzj,AObj.fresh,id,Option.isSome_some,or_true,true_or,go_sem,yz0,xx9,xx8,xx6,xx7,xx5,xx0,xx1,xx2,reduceIte,xx3,xx4,reduceCtorEq]
theorem callHp_m2 {hp:Nat→AObj} {r q d:Nat} {s:Nat→Nat} {o0 o1:AObj} (hne:r≠q) :
    callHp hp [r,q] d s [o0,o1] []=upd (upd hp r (o0.ren (rid [r,q] d 0) (sv hp [r,q] s))) q (o1.ren (rid [r,q] d 0) (sv hp [r,q] s)):=by
  funext n
  by_cases h:n=q
  · have h1:rid [r,q] d ([]:List AObj).length 5001=some n:=by rw [h];exact rid_m (j:=1) (by omega) rfl
    rw [callHp_at (by simp [hne]) (by simp) h1]
    simp [upd,h,outHp]
  · by_cases h':n=r
    · have h1:rid [r,q] d ([]:List AObj).length 5000=some n:=by rw [h'];exact rid_m (j:=0) (by omega) rfl
      rw [callHp_at (by simp [hne]) (by simp) h1]
      simp [upd,h,h',outHp,hne]
    · rw [callHp_not]
      · simp [upd,h,h']
      · rintro ⟨x,hx⟩
        rcases rid_cases hx with ⟨j,rfl,_,h3⟩ | ⟨i,rfl,h3,_⟩
        · match j,h3 with
          | 0,h3=>simp at h3;exact h' h3.symm
          | 1,h3=>simp at h3;exact h h3.symm
          | j+2,h3=>simp at h3
        · simp at h3
theorem call_rm {P:Program} {σ:St} {g:FuncId} {As args:List AVal} {d:Nat} {s:Nat→Nat} {K:St→Prop} {r q v u:Nat} {cs cs':List AVal} {ks:List Value} {vs vs':List AVal} {R:AVal}
    (h:Con P g [.row 0 1 true cs,.map 1 ks vs] (.st [.own 5000 0,.mp 5001 1] :: args) true fun outs rows res=>outs=[.row 0 1 true cs,.map 1 ks vs]∧rows=[]∧res=R)
    (hr:σ.hp r=.row v 1 true cs') (hq:σ.hp q=.map u ks vs') (hne:r≠q) (hc:CoeL σ.hp [r,q] false cs cs') (hv:CoeL σ.hp [r,q] false vs vs') (ha:CoeL σ.hp [r,q] false args As)
    (hk:K (St.put ⟨σ.tm,upd (upd σ.hp r ((AObj.row 0 1 true cs).ren (rid [r,q] d 0) (sv σ.hp [r,q] s))) q ((AObj.map 1 ks vs).ren (rid [r,q] d 0) (sv σ.hp [r,q] s))⟩ (some d) (R.ren (rid [r,q] d 0) (sv σ.hp [r,q] s)))):wpCall P false σ g (.st [.own r v,.mp q u] :: As) (some d) s K:=by
  refine .inl ⟨[r,q],_,_,true,_,h,⟨by simp,rfl,by simp [hne],?_,?_⟩,?_,(fun e=>by cases e),?_⟩
  · intro x hx
    simp only [List.mem_cons,List.not_mem_nil,or_false] at hx
    rcases hx with rfl | rfl
    · simp [hr]
    · simp [hq]
  · intro j B r' hB hr'
    match j,hB,hr' with
    | 0,hB,hr' =>
      simp at hB hr';subst hB;subst hr'
      simp only [ObjCoe,hr]
      exact ⟨trivial,v,cs',rfl,hc⟩
    | 1,hB,hr' =>
      simp at hB hr';subst hB;subst hr'
      simp only [ObjCoe,hq]
      exact ⟨trivial,u,vs',rfl,hv⟩
    | j+2,hB,hr'=>simp at hB
  · rw [yzt]
    refine ⟨?_,ha⟩
    rw [coe_st,yzt,yzt,coeL_nil]
    simp only [Coe]
    exact ⟨⟨0,r,v,rfl,rfl,rfl,rfl,by rw [hr];rfl⟩,⟨1,q,u,rfl,rfl,rfl,rfl,by rw [hq];rfl⟩,trivial⟩
  · rintro outs rows res ⟨rfl,rfl,rfl⟩
    refine ⟨rfl,by simp,by simp,?_⟩
    rw [Option.getD_some,callHp_m2 hne]
    exact hk
end Go.Ab
namespace Go.Ab
open Go.Proofs
theorem firstT_no:∀ {T:TS} (k:Nat),firstT T=none→fidx smallN (T.map (·.1)) k=-1
  | [],_,_=>rfl
  | p :: T,k,h=>by
    simp only [firstT,List.find?_cons] at h
    cases hs:smallN p.1 with
    | true=>rw [hs] at h;cases h
    | false =>
      rw [hs] at h
      have h1:=firstT_no (T:=T) (k+1) h
      simp only [List.map_cons,fidx,hs,Bool.false_eq_true,if_false,h1]
theorem k_firstN (N m:Nat) (T:TS) (hI:TI N m T) (hN:2 ^ N≤1024) (hf:firstT T=none) :
    Con Try.prog nzx [.row 0 1 true (intsK .u64 (setsI T)),.map 1 (keysF T) (rwn (T.map (·.2)))] [.st [.own 5000 0,.mp 5001 1],.clo nz1 []] true
      fun outs rows res=>outs=[.row 0 1 true (intsK .u64 (setsI T)),.map 1 (keysF T) (rwn (T.map (·.2)))]∧rows=[]∧res=.tup [.val (.slice none 0 0),iv 6]:=by
  refine con_sh mixed czf4 rfl (by simp) ?_
  have h1:=firstT_no 0 hf
  simp only [Az6h,Bz6g,go_sem,yz0,xx9,xx8,xx6,xx7,xx5,xx0,xx1,xx2,reduceIte,xx3,xx4,reduceCtorEq]
  intro vs vs2
  refine yzo (k_IndexFuncT T (fun p hp=>by have:=hI.rg p hp;omega)) qCS trivial ?_
  have hi0:((-1:Int)<0):=by omega
  simp only [h1,Bz6f,Bz6e,decide_eq_true hi0,go_sem,yz0,xx9,xx8,xx6,xx7,xx5,xx0,xx1,xx2,reduceIte,xx3,xx4,reduceCtorEq]
  refine ⟨[],by simp,by simp,by simp,?_⟩
  simp only [List.nil_append,List.cons_append,Nat.add_zero,xx4,Nat.not_lt_zero,range1,yz10,ren_any,ren_ro,rnNm_n,rnNm_sn,rnNm_o,rnNm_s,ren_st,ren_tup,yzs,yzh,yz7,yzw,yzv,yzr,yzp,yzu,yz8,yzb,yza,yze,yzn,yzl,yz3,yzf,yz9,yzd,yzk,yzm,List.range_zero,yz5,yz4,yzc,yzx,yzi,yzq,AVal.fresh,freshL,yz2,yzj,AObj.fresh,id,Option.isSome_some,or_true,true_or,go_sem,yz0,xx9,xx8,xx6,xx7,xx5,xx0,xx1,xx2,reduceIte,xx3,xx4,reduceCtorEq]
end Go.Ab
namespace Go.Ab
def seenT (N:Nat) (L:TS):List Bool:=(List.range N).map fun f=>hasT L f
theorem seenT_len {N:Nat} {L:TS}:(seenT N L).length=N:=by simp [seenT]
theorem seenT_getD {N f:Nat} {L:TS} (h:f<N):(seenT N L).getD f false=hasT L f:=by
  rw [seenT,List.getD_eq_getElem?_getD,List.getElem?_map,List.getElem?_range h];rfl
theorem hasT_add {L:TS} {f g:Nat} {w:List Int}:hasT (L ++ [(f,w)]) g=(hasT L g || Nat.beq f g):=by simp [hasT]
theorem seenT_add {N f:Nat} {L:TS} {w:List Int} (h:f<N):seenT N (L ++ [(f,w)])=(seenT N L).take f ++ [true] ++ (seenT N L).drop (f+1):=by
  apply List.ext_getElem?
  intro i
  by_cases hi:i<N
  · have h1:(seenT N (L ++ [(f,w)]))[i]?=some (hasT L i || Nat.beq f i):=by rw [seenT,List.getElem?_map,List.getElem?_range hi];simp [hasT_add]
    rw [h1]
    have hl:(List.take f (seenT N L)).length=f:=by rw [List.length_take,seenT_len];omega
    rw [List.append_assoc]
    by_cases e:i<f
    · rw [List.getElem?_append_left (by omega),List.getElem?_take_of_lt e,seenT,List.getElem?_map,List.getElem?_range hi]
      have:Nat.beq f i=false:=by rw [Bool.eq_false_iff];intro h2;have:=Nat.eq_of_beq_eq_true h2;omega
      simp [this]
    · rw [List.getElem?_append_right (by omega),hl]
      by_cases e2:i=f
      · subst e2
        have:Nat.beq i i=true:=Nat.beq_refl i
        simp [this]
      · obtain ⟨d,rfl⟩:∃ d,i=f+1+d:=⟨i - f - 1,by omega⟩
        have:Nat.beq f (f+1+d)=false:=by rw [Bool.eq_false_iff];intro h2;have:=Nat.eq_of_beq_eq_true h2;omega
        rw [show f+1+d - f=d+1 by omega,List.singleton_append,List.getElem?_cons_succ,List.getElem?_drop,seenT,List.getElem?_map,List.getElem?_range hi]
        simp [this]
  · rw [List.getElem?_eq_none (by rw [seenT_len];omega),List.getElem?_eq_none]
    rw [List.length_append,List.length_append,List.length_take,List.length_drop,seenT_len,List.length_singleton];omega
theorem seenT_one {N f:Nat} (h:f<N):(List.replicate N false).take f ++ [true] ++ (List.replicate N false).drop (f+1)=seenT N [(f,[])]:=by
  have h1:=seenT_add (L:=[]) (w:=[]) h
  have h2:seenT N []=List.replicate N false:=by
    rw [seenT]
    apply List.ext_getElem?
    intro i
    by_cases hi:i<N
    · rw [List.getElem?_map,List.getElem?_range hi,List.getElem?_replicate,if_pos hi];rfl
    · rw [List.getElem?_eq_none (by simp;omega),List.getElem?_eq_none (by simp;omega)]
  rw [h2] at h1
  exact h1.symm
structure BT (L:TS) (B C:List Int):Prop where
  lb:B.length=L.length
  lc:C.length=L.length
  wd:∀ i,i<L.length→(B.getD i 0=-1∧(L.getD i (0,[])).2=[])∨(0≤B.getD i 0∧B.getD i 0<i∧(L.getD i (0,[])).2=(L.getD (B.getD i 0).toNat (0,[])).2 ++ [C.getD i 0])
theorem BT0 {f:Nat}:BT [(f,[])] [-1] [0]:=⟨rfl,rfl,fun i hi=>by
  have:i=0:=by simpa using hi
  subst this;exact .inl ⟨rfl,rfl⟩⟩
theorem getD_appL {α:Type} {xs ys:List α} {i:Nat} {d:α} (h:i<xs.length):(xs ++ ys).getD i d=xs.getD i d:=by
  rw [List.getD_eq_getElem?_getD,List.getElem?_append_left h,← List.getD_eq_getElem?_getD]
theorem getD_last {α:Type} {xs:List α} {y d:α} {i:Nat} (h:i=xs.length):(xs ++ [y]).getD i d=y:=by
  rw [List.getD_eq_getElem?_getD,List.getElem?_append_right (by omega),h];simp
theorem BT.add {L:TS} {B C:List Int} (h:BT L B C) {i:Nat} (hi:i<L.length) (to x:Nat) :
    BT (L ++ [(to,(L.getD i (0,[])).2 ++ [(x:Int)])]) (B ++ [(i:Int)]) (C ++ [(x:Int)]):=by
  have lb:=h.lb
  have lc:=h.lc
  refine ⟨by simp [lb],by simp [lc],fun j hj=>?_⟩
  rw [List.length_append,List.length_singleton] at hj
  by_cases e:j<L.length
  · have e1:(B ++ [(i:Int)]).getD j 0=B.getD j 0:=getD_appL (by omega)
    have e2:(C ++ [(x:Int)]).getD j 0=C.getD j 0:=getD_appL (by omega)
    have e3:(L ++ [(to,(L.getD i (0,[])).2 ++ [(x:Int)])]).getD j (0,[])=L.getD j (0,[]):=getD_appL e
    rw [e1,e2,e3]
    rcases h.wd j e with h1 | ⟨h1,h2,h3⟩
    · exact .inl h1
    · have e4:(L ++ [(to,(L.getD i (0,[])).2 ++ [(x:Int)])]).getD (B.getD j 0).toNat (0,[])=L.getD (B.getD j 0).toNat (0,[]):=getD_appL (by omega)
      rw [e4]
      exact .inr ⟨h1,h2,h3⟩
  · have:j=L.length:=by omega
    subst this
    have e1:(B ++ [(i:Int)]).getD L.length 0=i:=getD_last lb.symm
    have e2:(C ++ [(x:Int)]).getD L.length 0=x:=getD_last lc.symm
    have e3:(L ++ [(to,(L.getD i (0,[])).2 ++ [(x:Int)])]).getD L.length (0,[])=(to,(L.getD i (0,[])).2 ++ [(x:Int)]):=getD_last rfl
    have e4:(L ++ [(to,(L.getD i (0,[])).2 ++ [(x:Int)])]).getD i (0,[])=L.getD i (0,[]):=getD_appL hi
    rw [e1,e2,e3,Int.toNat_natCast,e4]
    exact .inr ⟨by omega,by omega,rfl⟩
end Go.Ab
namespace Go.Ab
open Go.Proofs
theorem i_and {x y:Nat} (hx:x<4611686018427387904) (hy:y<4611686018427387904) :
    IntKind.i64.wrap ((@HAnd.hAnd (BitVec 64) (BitVec 64) (BitVec 64) (@instHAndOfAndOp (BitVec IntKind.i64.bits) (@BitVec.instAndOp IntKind.i64.bits)) (BitVec.ofInt 64 (x:Int)) (BitVec.ofInt 64 (y:Int))).toNat)=((x &&& y:Nat):Int):=by
  have h:(BitVec.ofInt 64 (x:Int) &&& BitVec.ofInt 64 (y:Int)).toNat=x &&& y:=by rw [BitVec.toNat_and,bv64 (by omega),bv64 (by omega)]
  show IntKind.i64.wrap ((BitVec.ofInt 64 (x:Int) &&& BitVec.ofInt 64 (y:Int)).toNat:Int)=_
  rw [h]
  have:x &&& y≤x:=Nat.and_le_left
  exact w64 (by omega)
theorem i_and1 {x:Nat} (hx:x<4611686018427387904) :
    IntKind.i64.wrap ((@HAnd.hAnd (BitVec 64) (BitVec 64) (BitVec 64) (@instHAndOfAndOp (BitVec IntKind.i64.bits) (@BitVec.instAndOp IntKind.i64.bits)) (BitVec.ofInt 64 (x:Int)) (BitVec.ofInt 64 1)).toNat)=((x &&& 1:Nat):Int):=i_and (y:=1) hx (by omega)
theorem i_or {x y:Nat} (hx:x<4611686018427387904) (hy:y<4611686018427387904) :
    IntKind.i64.wrap ((@HOr.hOr (BitVec 64) (BitVec 64) (BitVec 64) (@instHOrOfOrOp (BitVec IntKind.i64.bits) (@BitVec.instOrOp IntKind.i64.bits)) (BitVec.ofInt 64 (x:Int)) (BitVec.ofInt 64 (y:Int))).toNat)=((x ||| y:Nat):Int):=by
  have h:(BitVec.ofInt 64 (x:Int) ||| BitVec.ofInt 64 (y:Int)).toNat=x ||| y:=by rw [BitVec.toNat_or,bv64 (by omega),bv64 (by omega)]
  show IntKind.i64.wrap ((BitVec.ofInt 64 (x:Int) ||| BitVec.ofInt 64 (y:Int)).toNat:Int)=_
  rw [h]
  have:x ||| y<2 ^ 62:=Nat.or_lt_two_pow (n:=62) (by omega) (by omega)
  exact w64 (by omega)
theorem i_shl {b:Nat} (h:b<60):IntKind.i64.wrap (1 * 2 ^ min b 64)=((2 ^ b:Nat):Int):=by
  have h1:min b 64=b:=by omega
  have h2:(2:Int) ^ b=((2 ^ b:Nat):Int):=by simp
  rw [h1,Int.one_mul,h2]
  have h3:2 ^ b<1152921504606846976:=Nat.pow_lt_pow_right (a:=2) (n:=60) (by omega) h
  generalize 2 ^ b=q at h3 ⊢
  exact w64 (by omega)
theorem pow_lt10' {k:Nat} (h:k≤10):1≤2 ^ k∧2 ^ k≤1024:=⟨Nat.two_pow_pos k,Nat.pow_le_pow_right (n:=2) (by omega) h⟩
theorem k_l02Single (f:Nat) (h:f<1024):Fun Try.prog nz3z [iv f] (bv (smallN f)):=by
  refine fun_of mixed czln rfl ⟨rfl,trivial⟩ ?_
  by_cases h0:f=0
  · subst h0
    simp only [Az7x,Bz7w,go_sem,yz0,xx9,xx8,xx6,xx7,xx5,xx0,xx1,xx2,reduceIte,xx3,xx4,reduceCtorEq]
    rfl
  · have w1:IntKind.i64.wrap ((f:Int) - 1)=((f - 1:Nat):Int):=by rw [w64 (by omega)];omega
    have hand:=i_and (x:=f) (y:=f - 1) (by omega) (by omega)
    have hb:((((f &&& (f - 1):Nat)):Int) == 0)=smallN f:=by
      unfold smallN
      rw [← dec_beqN,Bool.eq_iff_iff,beq_iff_eq,decide_eq_true_iff];omega
    simp only [Az7x,Bz7w,w1,hand,hb,go_sem,yz0,xx9,xx8,xx6,xx7,xx5,xx0,xx1,xx2,reduceIte,xx3,xx4,reduceCtorEq]
theorem stepTo_lt {row set:List Int} (h:∀ s∈set,0≤row.getD s.toNat 0∧row.getD s.toNat 0<10):stepTo row set<1024:=fold_lt (fun s:Int=>(row.getD s.toNat 0).toNat) set 0 (fun x hx=>by have:=h x hx;omega) (by omega)
theorem bitsTo_lt {f s:Nat} {x:Int} (h:x∈bitsTo f s):0≤x∧x<s:=by
  simp only [bitsTo,List.mem_map,List.mem_filter,List.mem_range] at h
  obtain ⟨k,⟨h1,_⟩,rfl⟩:=h
  omega
theorem k_l02Moved (row:List Int) (f:Nat) (hl:row.length≤10) (hr:∀ x∈row,0≤x∧x<10) (hf:f<2 ^ row.length) :
    Fun Try.prog nz41 [.ro none 1 (ints row),iv f] (iv (stepN row f)):=by
  refine fun_of mixed czlp rfl ⟨rfl,trivial⟩ ?_
  have hN:2 ^ row.length≤1024:=Nat.pow_le_pow_right (n:=2) (by omega) hl
  simp only [Azjp,Bzjo,Bzjn,Bzjl,go_sem,yz0,xx9,xx8,xx6,xx7,xx5,xx0,xx1,xx2,reduceIte,xx3,xx4,reduceCtorEq]
  refine wpD_lo (fun i=>row.length - i) (fun i=>i≤row.length)
    (fun i:Nat=>⟨L .any [(0,.ro none 1 (ints row)),(1,iv f),(5,iv (stepTo row (bitsTo f i))),(6,iv i)],L .gone []⟩) 0 (by simp) (by simp only [Bzk,go_sem,yz0,xx9,xx8,xx6,xx7,xx5,xx0,xx1,xx2,reduceIte,xx3,xx4,reduceCtorEq];try rfl) ?_
  intro i hi
  by_cases hlt:(i:Int)<row.length
  · have hlt1:i<row.length:=by omega
    have h64:IntKind.u64.wrap (i:Int)=i:=u64w (by omega)
    have hi0:¬ (i:Int)<0:=by omega
    have hsh:=u_shr (f:=f) (s:=i) (by omega)
    have hlt2:f >>> i<4611686018427387904:=by rw [Nat.shiftRight_eq_div_pow];exact Nat.lt_of_le_of_lt (Nat.div_le_self _ _) (by omega)
    have hand:=i_and1 hlt2
    have hbit:((((f >>> i &&& 1:Nat):Int)) == 1)=f.testBit i:=by
      rw [Nat.testBit_eq_decide_div_mod_eq,Nat.and_one_is_mod,Nat.shiftRight_eq_div_pow,Bool.eq_iff_iff,beq_iff_eq,decide_eq_true_iff]
      generalize f / 2 ^ i % 2=q
      omega
    have hst:stepTo row (bitsTo f i)<1024:=stepTo_lt fun s hs=>by
      have:=bitsTo_lt hs
      exact hr _ (yz6 (by omega) 0)
    have hx:=hr _ (yz6 hlt1 0)
    have hx64:IntKind.u64.wrap (row.getD i 0)=row.getD i 0:=by
      rw [show row.getD i 0=(((row.getD i 0).toNat:Nat):Int) by omega];exact u64w (by omega)
    have hx0:¬ row.getD i 0<0:=by omega
    have hsl:=i_shl (b:=(row.getD i 0).toNat) (by omega)
    have h2:=pow_lt10 (k:=(row.getD i 0).toNat) (by omega)
    have hor:=i_or (x:=stepTo row (bitsTo f i)) (y:=2 ^ (row.getD i 0).toNat) (by omega) (by omega)
    cases hb:f.testBit i with
    | true =>
      rw [hb] at hbit
      have hs:stepTo row (bitsTo f i) ||| 2 ^ (row.getD i 0).toNat=stepTo row (bitsTo f (i+1)):=by
        rw [bitsTo_succ,if_pos hb];simp [stepTo,List.foldl_append]
      simp only [Bzk,Bz2t,Bz82,Bz80,Bz81,h64,hi0,hsh,hand,hbit,yz1 hlt1,hx64,hx0,hsl,hor,hs,decide_eq_true hlt,go_sem,yz0,xx9,xx8,xx6,xx7,xx5,xx0,xx1,xx2,reduceIte,xx3,xx4,reduceCtorEq]
      intro hM
      simp only [nat1 i _ hlt1 hM,go_sem,yz0,xx9,xx8,xx6,xx7,xx5,xx0,xx1,xx2,reduceIte,xx3,xx4,reduceCtorEq]
      exact ⟨⟨by omega,hlt1⟩,hlt1,i+1,by omega,by omega,rfl⟩
    | false =>
      rw [hb] at hbit
      have hs:stepTo row (bitsTo f i)=stepTo row (bitsTo f (i+1)):=by rw [bitsTo_succ,if_neg (by simp [hb])]
      simp only [Bzk,Bz2t,Bz82,Bz80,Bz81,h64,hi0,hsh,hand,hbit,decide_eq_true hlt,go_sem,yz0,xx9,xx8,xx6,xx7,xx5,xx0,xx1,xx2,reduceIte,xx3,xx4,reduceCtorEq]
      intro hM
      simp only [nat1 i _ hlt1 hM,go_sem,yz0,xx9,xx8,xx6,xx7,xx5,xx0,xx1,xx2,reduceIte,xx3,xx4,reduceCtorEq]
      exact ⟨i+1,by omega,by omega,by rw [← hs]⟩
  · have e:stepTo row (bitsTo f i)=stepN row f:=by
      have e1:i=row.length:=by omega
      subst e1
      have h2:=bitsTo_add hf (10 - row.length)
      rw [show row.length+(10 - row.length)=10 by omega] at h2
      rw [← h2,stepTo_all]
    simp only [Bzk,Bz2t,Bzjm,decide_eq_false hlt,e,go_sem,yz0,xx9,xx8,xx6,xx7,xx5,xx0,xx1,xx2,reduceIte,xx3,xx4,reduceCtorEq]
end Go.Ab
namespace Go.Ab
open Go.Proofs
end Go.Ab
namespace Go.Ab
open Go.Proofs
end Go.Ab
namespace Go.Ab
open Go.Proofs
theorem rid3 {m:List Nat} {d n:Nat}:rid m d (n+4) 6003=some (d+3000):=by
  have:=rid_new (m:=m) (d:=d) (nr:=n+4) (i:=3) (by omega)
  simpa [newId] using this
theorem ren_own_r3 {m:List Nat} {d n v:Nat} {s:Nat→Nat}:AVal.ren (rid m d (n+4)) s (.own 6003 v)=.own (d+3000) (s v):=ren_own rid3
theorem gone_four {hp:Nat→AObj} {d:Nat} {o0 o1 o2 o3:AObj}:(∀ i,i<[o0,o1,o2,o3].length→hp (newId d i)=.gone)=(hp d=.gone∧hp (d+1000)=.gone∧hp (d+2000)=.gone∧hp (d+3000)=.gone):=by
  refine propext ⟨fun h=>⟨by simpa [newId] using h 0 (by simp),by simpa [newId] using h 1 (by simp),by simpa [newId] using h 2 (by simp),by simpa [newId] using h 3 (by simp)⟩,fun h i hi=>?_⟩
  have hi':i<4:=by simpa using hi
  have:i=0∨i=1∨i=2∨i=3:=by omega
  rcases this with rfl | rfl | rfl | rfl
  · simpa [newId] using h.1
  · simpa [newId] using h.2.1
  · simpa [newId] using h.2.2.1
  · simpa [newId] using h.2.2.2
theorem callHp_four {hp:Nat→AObj} {d:Nat} {s:Nat→Nat} {o0 o1 o2 o3:AObj}:callHp hp [] d s [] [o0,o1,o2,o3] =
    upd (upd (upd (upd hp d (o0.ren (rid [] d 4) s)) (d+1000) (o1.ren (rid [] d 4) s)) (d+2000) (o2.ren (rid [] d 4) s)) (d+3000) (o3.ren (rid [] d 4) s):=by
  have n1:d+1000≠d:=by omega
  have n2:d+2000≠d:=by omega
  have n3:d+3000≠d:=by omega
  have m1:d+2000≠d+1000:=by omega
  have m2:d+3000≠d+1000:=by omega
  have m3:d+3000≠d+2000:=by omega
  funext n
  by_cases h3:n=d+3000
  · have h1:rid [] d [o0,o1,o2,o3].length 6003=some n:=by rw [h3];exact rid3
    rw [callHp_at (by simp) (by simp) h1,sv_nil]
    simp [upd,h3,outHp]
  by_cases h2:n=d+2000
  · have h1:rid [] d [o0,o1,o2,o3].length 6002=some n:=by rw [h2];exact rid2
    rw [callHp_at (by simp) (by simp) h1,sv_nil]
    simp [upd,h2,outHp,m3.symm]
  by_cases h1':n=d+1000
  · have h1:rid [] d [o0,o1,o2,o3].length 6001=some n:=by rw [h1'];exact rid1
    rw [callHp_at (by simp) (by simp) h1,sv_nil]
    simp [upd,h1',outHp,m2.symm,m1.symm]
  by_cases h0:n=d
  · have h1:rid [] d [o0,o1,o2,o3].length 6000=some n:=by rw [h0];exact rid0
    rw [callHp_at (by simp) (by simp) h1,sv_nil]
    simp [upd,h0,outHp,n1.symm,n2.symm,n3.symm]
  rw [callHp_not]
  · simp [upd,h3,h2,h1',h0]
  · rintro ⟨q,hq⟩
    obtain ⟨i,hi,e⟩:=rid_nil hq
    simp at hi
    unfold newId at e
    have:i=0∨i=1∨i=2∨i=3:=by omega
    rcases this with rfl | rfl | rfl | rfl
    · exact h0 (by simpa using e)
    · exact h1' (by simpa using e)
    · exact h2 (by simpa using e)
    · exact h3 (by simpa using e)
end Go.Ab
namespace Go.Ab
open Go.Proofs
abbrev bls2 (bs:List Bool):List AVal:=bs.map bv
theorem dnL_bls2 {bs:List Bool}:dnL (bls2 bs)=bls2 bs:=by simp [dnL_eq,AVal.dn]
theorem bls2_getD {bs:List Bool} {i:Nat} (h:i<bs.length):(bls2 bs).getD i .any=bv (bs.getD i false):=by
  rw [List.getD_eq_getElem?_getD,List.getElem?_map,List.getElem?_eq_getElem h,List.getD_eq_getElem?_getD,List.getElem?_eq_getElem h];rfl
theorem bls2_put {bs:List Bool} {i:Nat} {b:Bool}:(bls2 bs).take i ++ [bv b] ++ (bls2 bs).drop (i+1)=bls2 (bs.take i ++ [b] ++ bs.drop (i+1)):=by
  simp only [List.map_append,List.map_take,List.map_drop,List.map_cons,List.map_nil]
abbrev walkP (L:TS) (B C:List Int):AVal:=.rp [.ro none 1 (ints (setsI L)),.ro none 1 (ints B),.ro none 1 (ints C)] 0
abbrev WalkR (L:TS) (rows:List AObj) (res:AVal):Prop :=
  ∃ v va vb vc B C,BT L B C∧rows=[.box v [.own 6001 va,.own 6002 vb,.own 6003 vc],.row va 1 true (ints (setsI L)),.row vb 1 true (ints B),.row vc 1 true (ints C)]∧res=.ptr 6000 v 0
theorem k_l02From (n:Int) (next:List (List Int)) (A:Aut n next) (f:Nat) (hf:f<2 ^ n.toNat) :
    Fn Try.prog nz13 [autP n next,iv f] (WalkR (tourT next f)):=by
  refine con_of mixed czll rfl (by simp) ?_
  have n1:=A.n1
  have n2:=A.n2
  have l2:=A.l2
  have hN:=pow_lt10' (k:=n.toNat) (by omega)
  generalize hQ:finQ _=Q
  have h64:IntKind.u64.wrap n=n:=by rw [show n=((n.toNat:Nat):Int) by omega];exact u64w (by omega)
  have hn0:¬ n<0:=by omega
  have hsl:=i_shl (b:=n.toNat) (by omega)
  have hp0:¬ ((2 ^ n.toNat:Nat):Int)<0:=by omega
  simp only [Az7s,Bzj4,go_sem,yz0,xx9,xx8,xx6,xx7,xx5,xx0,xx1,xx2,reduceIte,xx3,xx4,reduceCtorEq]
  intro vs
  refine ⟨⟨_,rfl,rfl⟩,⟨_,rfl,rfl⟩,⟨_,rfl,rfl⟩,?_⟩
  simp only [Bzj3,h64,hn0,hsl,go_sem,yz0,xx9,xx8,xx6,xx7,xx5,xx0,xx1,xx2,reduceIte,xx3,xx4,reduceCtorEq]
  intro vs2
  refine ⟨⟨by omega,Int.le_refl _,by omega,by omega⟩,?_⟩
  have hrep:(List.replicate (2 ^ n.toNat) [AVal.val (Value.bool false)]).flatten=bls2 (List.replicate (2 ^ n.toNat) false):=by
    induction 2 ^ n.toNat with
    | zero=>rfl
    | succ k ih=>rw [List.replicate_succ,List.flatten_cons,ih,List.replicate_succ];rfl
  simp only [Int.toNat_natCast,List.map_cons,List.map_nil,hrep,dnL_bls2,Bzj2,go_sem,yz0,xx9,xx8,xx6,xx7,xx5,xx0,xx1,xx2,reduceIte,xx3,xx4,reduceCtorEq]
  refine ⟨⟨by omega,by rw [List.length_replicate];exact hf⟩,by rw [List.length_replicate];exact hf,?_⟩
  rw [bls2_put,seenT_one hf]
  simp only [dnL_bls2,Bzj1,Bziz,go_sem,yz0,xx9,xx8,xx6,xx7,xx5,xx0,xx1,xx2,reduceIte,xx3,xx4,reduceCtorEq]
  refine wpD_lo (fun (_,_,_,i,_,_,_)=>1100 - i)
    (fun (_,_,_,i,L,B,C)=>TI n.toNat next.length L∧i≤List.length L∧runT next (1100 - i) i L=tourT next f∧BT L B C)
    (fun ((va,vb,vc,i,L,B,C):Nat×Nat×Nat×Nat×TS×List Int×List Int)=>⟨Go.Ab.L .any [(0,autP n next),(5,.ptr 15 (vs 5 0) 0),(6,.own 22 (vs2 6 0)),(7,iv i)],
      Go.Ab.L .gone [(11,.row va 1 true (ints (setsI L))),(12,.row vb 1 true (ints B)),(13,.row vc 1 true (ints C)),(15,.box (vs 5 0) [.own 11 va,.own 12 vb,.own 13 vc]),(22,.row (vs2 6 0) 1 true (bls2 (seenT (2 ^ n.toNat) L)))]⟩)
    (_,_,_,0,[(f,[])],[-1],[0]) ⟨TI0 hf,by simp,rfl,BT0⟩ (by simp only [Bz2p,dnL_bls2,go_sem,yz0,xx9,xx8,xx6,xx7,xx5,xx0,xx1,xx2,reduceIte,xx3,xx4,reduceCtorEq];try rfl) ?_
  rintro ⟨va,vb,vc,i,L,B,C⟩ ⟨hI,hi,hR,hB⟩
  have hi:i≤L.length:=hi
  have hlen:=hI.len
  by_cases hlt:(i:Int)<L.length
  · have hlt1:i<L.length:=by omega
    have hls:i<(setsI L).length:=by simpa using hlt1
    have hm:=yz6 hlt1 (0,([]:List Int))
    have hfi:=hI.rg _ hm
    have hwi:=hI.wd _ hm
    simp only [Bz2p,Bz7n,Bziy,Bziw,dnL_bls2,List.length_map,decide_eq_true hlt,go_sem,yz0,xx9,xx8,xx6,xx7,xx5,xx0,xx1,xx2,reduceIte,xx3,xx4,reduceCtorEq]
    intro hM
    generalize hfw:L.getD i (0,[])=fw at hm hfi hwi ⊢
    refine wpD_lo (fun (_,_,_,x,_,_,_)=>next.length - x)
      (fun (_,_,_,x,L',B',C')=>x≤next.length∧L'=visT next fw.1 fw.2 x L∧BT L' B' C')
      (fun ((va,vb,vc,x,L',B',C'):Nat×Nat×Nat×Nat×TS×List Int×List Int)=>⟨Go.Ab.L .any [(0,autP n next),(5,.ptr 15 (vs 5 0) 0),(6,.own 22 (vs2 6 0)),(7,iv i),(8,iv x)],
        Go.Ab.L .gone [(11,.row va 1 true (ints (setsI L'))),(12,.row vb 1 true (ints B')),(13,.row vc 1 true (ints C')),(15,.box (vs 5 0) [.own 11 va,.own 12 vb,.own 13 vc]),(22,.row (vs2 6 0) 1 true (bls2 (seenT (2 ^ n.toNat) L')))]⟩)
      (_,_,_,0,L,B,C) ⟨by simp,rfl,hB⟩ (by simp only [Bz2o,dnL_bls2,go_sem,yz0,xx9,xx8,xx6,xx7,xx5,xx0,xx1,xx2,reduceIte,xx3,xx4,reduceCtorEq];try rfl) ?_
    rintro ⟨va,vb,vc,x,L',B',C'⟩ ⟨hx,rfl,hB'⟩
    have hx:x≤next.length:=hx
    have hB':BT (visT next fw.1 fw.2 x L) B' C':=hB'
    obtain ⟨hI',t,hpre⟩:=visT_ok A hI hlt1 x hx
    rw [hfw] at hI' hpre
    generalize hV:visT next fw.1 fw.2 x L=L' at hI' hpre hB' ⊢
    have hlen':=hI'.len
    have hi2:i<L'.length:=by rw [hpre,List.length_append];omega
    have hat:L'.getD i (0,[])=fw:=by rw [hpre,getD_app hlt1,hfw]
    by_cases hxl:(x:Int)<next.length
    · have hxl1:x<next.length:=by omega
      have hto:=stepN_lt A hxl1 hfi
      have w1:IntKind.i64.wrap ((x:Int)+1)=((x+1:Nat):Int):=by rw [w64 (by omega)];simp
      have hls2:i<(setsI L').length:=by simpa using hi2
      have hsg:=setsI_getD hi2
      rw [hat] at hsg
      have hrow:=A.row _ (yz6 hxl1 [])
      simp only [Bz2o,Bz7o,Bziv,dnL_bls2,List.length_map,rwn_getD hxl1,yz1 hls2,hsg,decide_eq_true hxl,go_sem,yz0,xx9,xx8,xx6,xx7,xx5,xx0,xx1,xx2,reduceIte,xx3,xx4,reduceCtorEq]
      intro hMx vs3
      refine ⟨⟨by omega,hxl1⟩,hxl1,⟨by omega,hi2⟩,hi2,?_⟩
      have hrl:(next.getD x []).length=n.toNat:=by have:=hrow.1;omega
      refine yzo (k_l02Moved (next.getD x []) fw.1 (by omega) (fun y hy=>by have:=hrow.2 y hy;omega) (by rw [hrl];exact hfi)) qCS trivial ?_
      have hsucc:=visT_succ (next:=next) (f:=fw.1) (w:=fw.2) (x:=x) (L:=L)
      rw [hV] at hsucc
      generalize stepN (next.getD x []) fw.1=to at hto hsucc ⊢
      have hsn:(bls2 (seenT (2 ^ n.toNat) L')).getD to .any=bv (hasT L' to):=by rw [bls2_getD (by rw [seenT_len];exact hto),seenT_getD hto]
      cases hh:hasT L' to with
      | true =>
        rw [hh] at hsn
        rw [hh,if_pos rfl] at hsucc
        simp only [Bz7q,Bz7p,Bz7r,hsn,List.length_map,seenT_len,w1,dnL_bls2,go_sem,yz0,xx9,xx8,xx6,xx7,xx5,xx0,xx1,xx2,reduceIte,xx3,xx4,reduceCtorEq]
        refine ⟨⟨by omega,hto⟩,hto,?_⟩
        exact ⟨(_,_,_,x+1,_,_,_),by dsimp only;omega,⟨by dsimp only;omega,hsucc.symm,hB'⟩,rfl⟩
      | false =>
        rw [hh] at hsn
        rw [hh,if_neg (by simp)] at hsucc
        have hB2:=hB'.add hi2 to x
        rw [hat] at hB2
        have lb:=hB'.lb
        have lc:=hB'.lc
        simp only [Bz7q,Bz7p,hsn,List.length_map,seenT_len,dnL_bls2,go_sem,yz0,xx9,xx8,xx6,xx7,xx5,xx0,xx1,xx2,reduceIte,xx3,xx4,reduceCtorEq]
        refine ⟨⟨by omega,hto⟩,hto,⟨by omega,hto⟩,hto,?_⟩
        rw [bls2_put,← seenT_add (w:=fw.2 ++ [(x:Int)]) hto]
        simp only [Bziu,dnL_bls2,List.length_map,go_sem,yz0,xx9,xx8,xx6,xx7,xx5,xx0,xx1,xx2,reduceIte,xx3,xx4,reduceCtorEq]
        intro vs4
        refine ⟨⟨_,rfl,rfl⟩,by omega,?_⟩
        simp only [Bzit,dnL_bls2,List.length_map,go_sem,yz0,xx9,xx8,xx6,xx7,xx5,xx0,xx1,xx2,reduceIte,xx3,xx4,reduceCtorEq]
        intro vs5
        refine ⟨⟨_,rfl,rfl⟩,by omega,?_⟩
        simp only [Bzis,dnL_bls2,List.length_map,go_sem,yz0,xx9,xx8,xx6,xx7,xx5,xx0,xx1,xx2,reduceIte,xx3,xx4,reduceCtorEq]
        intro vs6
        refine ⟨⟨_,rfl,rfl⟩,by omega,?_⟩
        simp only [Bz7r,w1,dnL_bls2,go_sem,yz0,xx9,xx8,xx6,xx7,xx5,xx0,xx1,xx2,reduceIte,xx3,xx4,reduceCtorEq]
        exact ⟨(vs4 7 0,vs5 7 0,vs6 7 0,x+1,L' ++ [(to,fw.2 ++ [(x:Int)])],B' ++ [(i:Int)],C' ++ [(x:Int)]),by dsimp only;omega,⟨by dsimp only;omega,hsucc.symm,hB2⟩,by simp only [List.map_append,List.map_cons,List.map_nil]⟩
    · have:x=next.length:=by omega
      subst this
      have w2:IntKind.i64.wrap ((i:Int)+1)=((i+1:Nat):Int):=by rw [w64 (by omega)];simp
      simp only [Bz2o,Bz7o,Bzix,dnL_bls2,w2,decide_eq_false hxl,go_sem,yz0,xx9,xx8,xx6,xx7,xx5,xx0,xx1,xx2,reduceIte,xx3,xx4,reduceCtorEq]
      intro _
      obtain ⟨F,hF⟩:∃ F,1100 - i=F+1:=⟨1099 - i,by omega⟩
      have hF2:1100 - (i+1)=F:=by omega
      rw [hF] at hR
      simp only [runT,if_pos hlt1,hfw,hV] at hR
      exact ⟨(_,_,_,i+1,L',B',C'),by dsimp only;omega,⟨hI',by dsimp only;omega,by dsimp only;rw [hF2];exact hR,by dsimp only;first | exact hB' | (rw [← hV];exact hB')⟩,rfl⟩
  · have:i=L.length:=by omega
    subst this
    have hend:L=tourT next f:=by
      obtain ⟨F,hF⟩:∃ F,1100 - L.length=F+1:=⟨1099 - L.length,by omega⟩
      rw [← hR,hF];simp only [runT,Nat.lt_irrefl,if_false]
    simp only [Bz2p,Bz7n,Bzj0,List.length_map,dnL_bls2,decide_eq_false hlt,Az7s,← hQ,go_sem,yz0,xx9,xx8,xx6,xx7,xx5,xx0,xx1,xx2,reduceIte,xx3,xx4,reduceCtorEq]
    intro hM
    refine ⟨[15,11,12,13],by simp,by simp,by simp,?_⟩
    have e3:AVal.ren (expo [15,11,12,13]) id (AVal.own 13 vc)=.own 6003 vc:=ren_own (expo_id (i:=3) (by simp) rfl (by omega))
    simp only [WalkR,e3,Nat.not_lt_zero,range1,yz10,ren_any,ren_ro,rnNm_n,rnNm_sn,rnNm_o,rnNm_s,ren_st,ren_tup,yzs,yzh,yz7,yzw,yzv,yzr,yzp,yzu,yz8,yzb,yza,yze,yzn,yzl,yz3,yzf,yz9,yzd,yzk,yzm,List.range_zero,yz5,yz4,yzc,yzx,yzi,yzq,AVal.fresh,freshL,yz2,yzj,AObj.fresh,id,Option.isSome_some,or_true,true_or,go_sem,yz0,xx9,xx8,xx6,xx7,xx5,xx0,xx1,xx2,reduceIte,xx3,xx4,reduceCtorEq]
    exact ⟨_,_,_,_,B,C,by rw [← hend];exact hB,by rw [hend],rfl⟩
end Go.Ab
namespace Go.Ab
open Go.Proofs
theorem k_l02Walk_word (L:TS) (B C:List Int) (hB:BT L B C) (k:Nat) (hk:k<L.length) (hL:L.length≤2000) :
    RowI Try.prog nz40 [walkP L B C,iv k] (fun ys=>ys=(L.getD k (0,[])).2):=by
  refine rowI_of mixed czlo rfl ?_
  have lb:=hB.lb
  have lc:=hB.lc
  simp only [Azjk,Bzjj,go_sem,yz0,xx9,xx8,xx6,xx7,xx5,xx0,xx1,xx2,reduceIte,xx3,xx4,reduceCtorEq]
  intro vs
  simp only [Bzji,go_sem,yz0,xx9,xx8,xx6,xx7,xx5,xx0,xx1,xx2,reduceIte,xx3,xx4,reduceCtorEq]
  refine wpD_lo (fun (_,a,_)=>a) (fun (_,a,bk)=>a<L.length∧(L.getD k (0,[])).2=(L.getD a (0,[])).2 ++ (bk:List Int).reverse∧bk.length+a≤k)
    (fun ((v,a,bk):Nat×Nat×List Int)=>⟨Go.Ab.L .any [(0,walkP L B C),(1,iv a),(5,.own 8 v)],Go.Ab.L .gone [(8,.row v 1 true (ints bk))]⟩)
    (_,k,[]) ⟨hk,by simp,by simp⟩ (by simp only [Bz2r,go_sem,yz0,xx9,xx8,xx6,xx7,xx5,xx0,xx1,xx2,reduceIte,xx3,xx4,reduceCtorEq];try rfl) ?_
  rintro ⟨v,a,bk⟩ ⟨ha,he,hl⟩
  have ha:a<L.length:=ha
  have hl:bk.length+a≤k:=hl
  have he:(L.getD k (0,[])).2=(L.getD a (0,[])).2 ++ bk.reverse:=he
  have hab:a<B.length:=by omega
  have hac:a<C.length:=by omega
  rcases hB.wd a ha with ⟨h1,h2⟩ | ⟨h1,h2,h3⟩
  · have hd:¬ B.getD a 0 ≥ 0:=by omega
    rw [h2,List.nil_append] at he
    simp only [Bz2r,Bz7y,Bzjh,Bzjg,yz1 hab,decide_eq_false hd,go_sem,yz0,xx9,xx8,xx6,xx7,xx5,xx0,xx1,xx2,reduceIte,xx3,xx4,reduceCtorEq]
    refine ⟨⟨by omega,hab⟩,hab,?_⟩
    intro vs2 hM
    have w1:IntKind.i64.wrap ((bk.length:Int) - 1)=(bk.length:Int) - 1 - ((0:Nat):Int):=by rw [w64 (by omega)];omega
    simp only [w1,Bzje,go_sem,yz0,xx9,xx8,xx6,xx7,xx5,xx0,xx1,xx2,reduceIte,xx3,xx4,reduceCtorEq]
    refine wpD_lo (fun (_,j)=>bk.length - j) (fun (_,j)=>j≤bk.length)
      (fun ((v2,j):Nat×Nat)=>⟨Go.Ab.L .any [(5,.own 8 v),(6,.own 34 v2),(7,iv ((bk.length:Int) - 1 - (j:Nat)))],Go.Ab.L .gone [(8,.row v 1 true (ints bk)),(34,.row v2 1 true (ints (bk.reverse.take j)))]⟩)
      (_,0) (by simp) (by simp only [Bz2s,go_sem,yz0,xx9,xx8,xx6,xx7,xx5,xx0,xx1,xx2,reduceIte,xx3,xx4,reduceCtorEq];try rfl) ?_
    rintro ⟨v2,j⟩ hj
    have hj:j≤bk.length:=hj
    by_cases hjl:j<bk.length
    · have hd2:(bk.length:Int) - 1 - (j:Nat) ≥ 0:=by omega
      have hix:((bk.length:Int) - 1 - (j:Nat)).toNat<bk.length:=by omega
      have w2:IntKind.i64.wrap ((bk.length:Int) - 1 - (j:Nat) - 1)=(bk.length:Int) - 1 - ((j+1:Nat):Int):=by rw [w64 (by omega)];omega
      have hr:bk.reverse.take j ++ [bk.getD ((bk.length:Int) - 1 - (j:Nat)).toNat 0]=bk.reverse.take (j+1):=by
        have hjr:j<bk.reverse.length:=by rw [List.length_reverse];exact hjl
        rw [List.take_succ_eq_append_getElem hjr,List.getElem_reverse,List.getD_eq_getElem?_getD,List.getElem?_eq_getElem hix,Option.getD_some]
        congr 3;omega
      simp only [Bz2s,Bz7z,Bzjd,Bzjc,yz1 hix,w2,hr,decide_eq_true hd2,go_sem,yz0,xx9,xx8,xx6,xx7,xx5,xx0,xx1,xx2,reduceIte,xx3,xx4,reduceCtorEq]
      intro vs3
      refine ⟨⟨by omega,hix⟩,hix,⟨_,rfl,rfl⟩,by rw [List.length_take,List.length_reverse];omega,?_⟩
      exact ⟨(_,j+1),by dsimp only;omega,by dsimp only;omega,rfl⟩
    · have hd2:¬ (bk.length:Int) - 1 - (j:Nat) ≥ 0:=by omega
      have e:bk.reverse.take j=bk.reverse:=List.take_of_length_le (by rw [List.length_reverse];omega)
      simp only [Bz2s,Bz7z,Bzjf,e,decide_eq_false hd2,go_sem,yz0,xx9,xx8,xx6,xx7,xx5,xx0,xx1,xx2,reduceIte,xx3,xx4,reduceCtorEq]
      exact ⟨34,v2,bk.reverse,by omega,rfl,by simp only [go_sem,yz0,xx9,xx8,xx6,xx7,xx5,xx0,xx1,xx2,reduceIte,xx3,xx4,reduceCtorEq],he.symm⟩
  · have hd:B.getD a 0 ≥ 0:=h1
    have hBn:B.getD a 0=((B.getD a 0).toNat:Int):=by omega
    simp only [Bz2r,Bz7y,Bzjb,Bzja,yz1 hab,yz1 hac,decide_eq_true hd,go_sem,yz0,xx9,xx8,xx6,xx7,xx5,xx0,xx1,xx2,reduceIte,xx3,xx4,reduceCtorEq]
    refine ⟨⟨by omega,hab⟩,hab,?_⟩
    intro vs2
    refine ⟨⟨by omega,hac⟩,hac,⟨_,rfl,rfl⟩,by omega,?_⟩
    refine ⟨⟨by omega,hab⟩,hab,?_⟩
    refine ⟨(vs2 9 0,(B.getD a 0).toNat,bk ++ [C.getD a 0]),by dsimp only;omega,⟨by dsimp only;omega,?_,by dsimp only;rw [List.length_append,List.length_singleton];omega⟩,?_⟩
    · dsimp only
      rw [he,h3];simp
    · dsimp only
      rw [← hBn]
theorem firstT_at {T:TS} {i:Nat} (hi:i<T.length) (hj:∀ j<i,smallN (T.getD j (0,[])).1=false) (hs:smallN (T.getD i (0,[])).1=true):firstT T=some (T.getD i (0,[])):=by
  unfold firstT
  rw [List.find?_eq_some_iff_getElem]
  refine ⟨hs,i,hi,by rw [List.getD_eq_getElem?_getD,List.getElem?_eq_getElem hi];rfl,fun j hji=>?_⟩
  have:=hj j hji
  rw [List.getD_eq_getElem?_getD,List.getElem?_eq_getElem (by omega)] at this
  simpa using this
theorem firstT_none {T:TS} (hj:∀ j<T.length,smallN (T.getD j (0,[])).1=false):firstT T=none:=by
  unfold firstT
  rw [List.find?_eq_none]
  intro p hp
  obtain ⟨j,hjl,rfl⟩:=List.getElem_of_mem hp
  have:=hj j hjl
  rw [List.getD_eq_getElem?_getD,List.getElem?_eq_getElem hjl] at this
  simpa using this
abbrev ToldB (x:Option (Nat×List Int)) (rows:List AObj) (res:AVal):Prop:=∃ v,rows=[.row v 1 true (ints ((x.map (·.2)).getD []))]∧res=.tup [.own 6000 v,bv x.isSome]
theorem k_l02Shrink (n:Int) (next:List (List Int)) (A:Aut n next) (f:Nat) (hf:f<2 ^ n.toNat) :
    Fn Try.prog nz3x [autP n next,iv f] (ToldB (firstT (tourT next f))):=by
  refine con_of mixed czlk rfl (by simp) ?_
  have n1:=A.n1
  have n2:=A.n2
  have hN:=pow_lt10' (k:=n.toNat) (by omega)
  generalize hQ:finQ _=Q
  simp only [Az2n,Bzir,go_sem,yz0,xx9,xx8,xx6,xx7,xx5,xx0,xx1,xx2,reduceIte,xx3,xx4,reduceCtorEq]
  intro vs
  refine call_fn (k_l02From n next A f hf) qCS (fun e=>by cases e) ?_
  rintro rows res ⟨v0,va,vb,vc,B,C,hB,rfl,rfl⟩
  have hT:=(runT_ok A 1100 0 _ (TI0 (m:=next.length) hf)).1
  have hlen:=hT.len
  refine ⟨by simp,by rw [Option.getD_some,gone_four];simp only [go_sem,yz0,xx9,xx8,xx6,xx7,xx5,xx0,xx1,xx2,reduceIte,xx3,xx4,reduceCtorEq],?_⟩
  have hTT:tourT next f=runT next 1100 0 [(f,[])]:=rfl
  rw [← hTT] at hT hlen
  generalize hGT:tourT next f=T at hB hT hlen ⊢
  simp only [Option.getD_some,callHp_four,ren_own_r3,Bziq,Bzio,Nat.not_lt_zero,range1,yz10,ren_any,ren_ro,rnNm_n,rnNm_sn,rnNm_o,rnNm_s,ren_st,ren_tup,yzs,yzh,yz7,yzw,yzv,yzr,yzp,yzu,yz8,yzb,yza,yze,yzn,yzl,yz3,yzf,yz9,yzd,yzk,yzm,List.range_zero,yz5,yz4,yzc,yzx,yzi,yzq,AVal.fresh,freshL,yz2,yzj,AObj.fresh,id,Option.isSome_some,or_true,true_or,go_sem,yz0,xx9,xx8,xx6,xx7,xx5,xx0,xx1,xx2,reduceIte,xx3,xx4,reduceCtorEq]
  refine wpD_lo (fun i=>T.length - i) (fun i=>i≤T.length∧∀ j<i,smallN (T.getD j (0,[])).1=false)
    (fun i:Nat=>⟨Go.Ab.L .any [(6,.ptr 10 (vs 2 v0) 0),(7,iv i)],Go.Ab.L .gone [(10,.box (vs 2 v0) [.own 1010 (vs 2 va),.own 2010 (vs 2 vb),.own 3010 (vs 2 vc)]),(1010,.row (vs 2 va) 1 true (ints (setsI T))),(2010,.row (vs 2 vb) 1 true (ints B)),(3010,.row (vs 2 vc) 1 true (ints C))]⟩)
    0 ⟨by simp,by simp⟩ (by simp only [Bz2m,go_sem,yz0,xx9,xx8,xx6,xx7,xx5,xx0,xx1,xx2,reduceIte,xx3,xx4,reduceCtorEq];try rfl) ?_
  rintro i ⟨hi,hj⟩
  by_cases hlt:(i:Int)<T.length
  · have hlt1:i<T.length:=by omega
    have hls:i<(setsI T).length:=by simpa using hlt1
    have hm:=hT.rg _ (yz6 hlt1 (0,([]:List Int)))
    simp only [Bz2m,Bz7l,Bzin,List.length_map,yz1 hls,setsI_getD hlt1,decide_eq_true hlt,go_sem,yz0,xx9,xx8,xx6,xx7,xx5,xx0,xx1,xx2,reduceIte,xx3,xx4,reduceCtorEq]
    intro hM vs2
    refine ⟨⟨by omega,hlt1⟩,hlt1,?_⟩
    refine yzo (k_l02Single (T.getD i (0,[])).1 (by omega)) qCS trivial ?_
    cases hs:smallN (T.getD i (0,[])).1 with
    | true =>
      have hF:=firstT_at hlt1 hj hs
      simp only [Bz7m,go_sem,yz0,xx9,xx8,xx6,xx7,xx5,xx0,xx1,xx2,reduceIte,xx3,xx4,reduceCtorEq]
      intro vs3
      refine call_rowI (k_l02Walk_word T B C hB i hlt1 (by omega)) qCS qGN ⟨_,rfl⟩ ?_
      rintro ys v rfl
      simp only [Az2n,← hQ,go_sem,yz0,xx9,xx8,xx6,xx7,xx5,xx0,xx1,xx2,reduceIte,xx3,xx4,reduceCtorEq]
      refine ⟨[30],by simp,by simp,by simp,?_⟩
      simp only [ToldB,hGT,hF,Option.map_some,Option.getD_some,Option.isSome_some,range1,List.length_singleton,Nat.not_lt_zero,range1,yz10,ren_any,ren_ro,rnNm_n,rnNm_sn,rnNm_o,rnNm_s,ren_st,ren_tup,yzs,yzh,yz7,yzw,yzv,yzr,yzp,yzu,yz8,yzb,yza,yze,yzn,yzl,yz3,yzf,yz9,yzd,yzk,yzm,List.range_zero,yz5,yz4,yzc,yzx,yzi,yzq,AVal.fresh,freshL,yz2,yzj,AObj.fresh,id,Option.isSome_some,or_true,true_or,go_sem,yz0,xx9,xx8,xx6,xx7,xx5,xx0,xx1,xx2,reduceIte,xx3,xx4,reduceCtorEq]
      exact ⟨v,rfl,rfl⟩
    | false =>
      simp only [Bz7m,Bzim,nat1 i _ hlt1 hM,go_sem,yz0,xx9,xx8,xx6,xx7,xx5,xx0,xx1,xx2,reduceIte,xx3,xx4,reduceCtorEq]
      refine ⟨i+1,by omega,⟨by omega,fun j hji=>?_⟩,rfl⟩
      by_cases e:j=i
      · rw [e];exact hs
      · exact hj j (by omega)
  · have e:i=T.length:=by omega
    subst e
    have hF:=firstT_none hj
    simp only [Bz2m,Bz7l,Bzip,List.length_map,decide_eq_false hlt,Az2n,← hQ,go_sem,yz0,xx9,xx8,xx6,xx7,xx5,xx0,xx1,xx2,reduceIte,xx3,xx4,reduceCtorEq]
    intro _ vs2
    refine ⟨[31],by simp,by simp,by simp,?_⟩
    simp only [ToldB,hGT,hF,Option.map_none,Option.getD_none,Option.isSome_none,range1,List.length_singleton,List.map_nil,Nat.not_lt_zero,range1,yz10,ren_any,ren_ro,rnNm_n,rnNm_sn,rnNm_o,rnNm_s,ren_st,ren_tup,yzs,yzh,yz7,yzw,yzv,yzr,yzp,yzu,yz8,yzb,yza,yze,yzn,yzl,yz3,yzf,yz9,yzd,yzk,yzm,List.range_zero,yz5,yz4,yzc,yzx,yzi,yzq,AVal.fresh,freshL,yz2,yzj,AObj.fresh,id,Option.isSome_some,or_true,true_or,go_sem,yz0,xx9,xx8,xx6,xx7,xx5,xx0,xx1,xx2,reduceIte,xx3,xx4,reduceCtorEq]
    exact ⟨_,rfl,rfl⟩
end Go.Ab
namespace Go.Ab
structure WS1 (n:Int) (set:List Int):Prop where
  si:SI set
  rg:∀ x∈set,0≤x∧x<n
end Go.Ab
namespace Go.Ab
end Go.Ab
namespace Go.Ab
end Go.Ab
namespace Go.Ab
def twoN (s t:Int):Nat:=2 ^ s.toNat ||| 2 ^ t.toNat
def mergQ (next:List (List Int)) (s t:Int):Option (List Int):=(firstT (tourT next (twoN s t))).map (·.2)
theorem twoN_comm (s t:Int):twoN s t=twoN t s:=Nat.or_comm _ _
theorem mergQ_comm {next:List (List Int)} (s t:Int):mergQ next s t=mergQ next t s:=by unfold mergQ;rw [twoN_comm]
theorem two_lt {n s t:Int} (hs:0≤s∧s<n) (ht:0≤t∧t<n):twoN s t<2 ^ n.toNat :=
  Nat.or_lt_two_pow (Nat.pow_lt_pow_right (by omega) (by omega)) (Nat.pow_lt_pow_right (by omega) (by omega))
theorem two_bits {n s t:Int} (hn:n≤10) (hs:0≤s∧s<n) (ht:0≤t∧t<n) {u:Nat}:u∈bitsN (twoN s t)↔u=s.toNat∨u=t.toNat:=by
  rw [mem_bits,twoN,Nat.testBit_or,Nat.testBit_two_pow,Nat.testBit_two_pow,Bool.or_eq_true,decide_eq_true_eq,decide_eq_true_eq]
  omega
theorem small_two {n:Int} {next:List (List Int)} (A:Aut n next) {s t:Int} (hs:0≤s∧s<n) (ht:0≤t∧t<n) {w:List Int} (hw:IsW next.length w) :
    smallN (imN next (twoN s t) w)=true↔atA next s w=atA next t w:=by
  have n1:=A.n1
  have n2:=A.n2
  have hN:2 ^ n.toNat≤1024:=Nat.pow_le_pow_right (n:=2) (by omega) (show n.toNat≤10 by omega)
  obtain ⟨h1,h2⟩:=imN_bit A w (two_lt hs ht) hw
  have a0:=A.at (w:=w) hs hw
  have a1:=A.at (w:=w) ht hw
  have es:((s.toNat:Nat):Int)=s:=by omega
  have et:((t.toNat:Nat):Int)=t:=by omega
  rw [small_iff (by omega)]
  constructor
  · intro h
    have b1:=(h2 (atA next s w).toNat).2 ⟨s.toNat,(two_bits n2 hs ht).2 (.inl rfl),by rw [es];omega⟩
    have b2:=(h2 (atA next t w).toNat).2 ⟨t.toNat,(two_bits n2 hs ht).2 (.inr rfl),by rw [et];omega⟩
    have:=h _ b1 _ b2
    omega
  · intro h x hx y hy
    obtain ⟨x',hx',e1⟩:=(h2 x).1 hx
    obtain ⟨y',hy',e2⟩:=(h2 y).1 hy
    have c1:atA next (x':Int) w=atA next s w:=by
      rcases (two_bits n2 hs ht).1 hx' with rfl | rfl
      · rw [es]
      · rw [et,h]
    have c2:atA next (y':Int) w=atA next s w:=by
      rcases (two_bits n2 hs ht).1 hy' with rfl | rfl
      · rw [es]
      · rw [et,h]
    omega
theorem two_snd {next:List (List Int)} {f:Nat}:SndT next f (tourT next f):=SndT.run 1100 0 (fun p hp=>by
  have:p=(f,[]):=by simpa using hp
  rw [this];rfl)
theorem merg_some {n:Int} {next:List (List Int)} (A:Aut n next) {s t:Int} (hs:0≤s∧s<n) (ht:0≤t∧t<n) {w:List Int} (h:mergQ next s t=some w) :
    IsW next.length w∧atA next s w=atA next t w∧w.length<2 ^ n.toNat:=by
  have hT:=(runT_ok A 1100 0 _ (TI0 (m:=next.length) (two_lt hs ht))).1
  have hl:=hT.len
  unfold mergQ at h
  obtain ⟨p,hp,rfl⟩:=Option.map_eq_some_iff.1 h
  have hm:=List.mem_of_find?_eq_some hp
  have hsm:smallN p.1=true:=by simpa using List.find?_some hp
  have hw:=hT.wd p hm
  rw [two_snd p hm,small_two A hs ht hw.1] at hsm
  exact ⟨hw.1,hsm,by have:=hw.2;omega⟩
theorem merg_none {n:Int} {next:List (List Int)} (A:Aut n next) {s t:Int} (hs:0≤s∧s<n) (ht:0≤t∧t<n) (h:mergQ next s t=none) {w:List Int} (hw:IsW next.length w) :
    atA next s w≠atA next t w:=by
  intro he
  unfold mergQ at h
  rw [Option.map_eq_none_iff] at h
  unfold firstT at h
  rw [List.find?_eq_none] at h
  have h1:=tour_mem A (two_lt hs ht) w.length w rfl hw
  obtain ⟨p,hp,hpe⟩:=List.mem_map.1 (hasT_iff.1 h1)
  have:=h p hp
  rw [hpe,(small_two A hs ht hw).2 he] at this
  exact this rfl
theorem merg_iff {n:Int} {next:List (List Int)} (A:Aut n next) {s t:Int} (hs:0≤s∧s<n) (ht:0≤t∧t<n):(mergQ next s t).isSome=true↔∃ w,IsW next.length w∧atA next s w=atA next t w:=by
  constructor
  · intro h
    obtain ⟨w,hw⟩:=Option.isSome_iff_exists.1 h
    have:=merg_some A hs ht hw
    exact ⟨w,this.1,this.2.1⟩
  · rintro ⟨w,hw,h⟩
    cases hq:mergQ next s t with
    | some _=>rfl
    | none=>exact absurd h (merg_none A hs ht hq hw)
end Go.Ab
namespace Go.Ab
open Go.Proofs
def optC:Option (List Int)→AVal
  | some w=>.ro none 1 (ints w)
  | none=>.val (.slice none 0 0)
def optL (os:List (Option (List Int))):List AVal:=os.map optC
def rzs (oss:List (List (Option (List Int)))):List AVal:=oss.map fun os=>.ro (some none) 1 (optL os)
def rzn (oss:List (List (Option (List Int)))):List AVal:=oss.map fun os=>.ro none 1 (optL os)
theorem dn_optC {o:Option (List Int)}:(optC o).dn=optC o:=by cases o <;> simp [optC,AVal.dn,ints,dnL_eq,dnNm]
theorem ren_optC {f:Nat→Option Nat} {s:Nat→Nat} {o:Option (List Int)}:AVal.ren f s (optC o)=optC o:=by cases o <;> simp [optC,AVal.ren,ints,renL_eq,rnNm]
theorem dnL_opt {os:List (Option (List Int))}:dnL (optL os)=optL os:=by
  simp only [dnL_eq,optL,List.map_map]
  exact List.map_congr_left fun o _=>dn_optC
theorem renL_opt {f:Nat→Option Nat} {s:Nat→Nat} {os:List (Option (List Int))}:renL f s (optL os)=optL os:=by
  simp only [renL_eq,optL,List.map_map]
  exact List.map_congr_left fun o _=>ren_optC
theorem dnL_rzs {oss:List (List (Option (List Int)))}:dnL (rzs oss)=rzs oss:=by
  simp only [dnL_eq,rzs,List.map_map]
  exact List.map_congr_left fun o _=>by simp [AVal.dn,dnL_opt,dnNm]
theorem dnL_rzn {oss:List (List (Option (List Int)))}:dnL (rzn oss)=rzn oss:=by
  simp only [dnL_eq,rzn,List.map_map]
  exact List.map_congr_left fun o _=>by simp [AVal.dn,dnL_opt,dnNm]
theorem renL_rzs {f:Nat→Option Nat} {s:Nat→Nat} {oss:List (List (Option (List Int)))}:renL f s (rzs oss)=rzs oss:=by
  simp only [renL_eq,rzs,List.map_map]
  exact List.map_congr_left fun o _=>by simp [AVal.ren,renL_opt,rnNm]
theorem one_optC {hp:Nat→AObj} {o:Option (List Int)}:One hp (optC o)=True:=by cases o <;> simp [optC,One,Value.oneCell']
theorem one_opt {hp:Nat→AObj} {os:List (Option (List Int))}:(∀ A∈optL os,One hp A)=True:=by
  refine eq_true ?_
  intro A hA
  simp only [optL,List.mem_map] at hA
  obtain ⟨x,_,rfl⟩:=hA
  exact of_eq_true one_optC
theorem one_rzs {hp:Nat→AObj} {oss:List (List (Option (List Int)))}:(∀ A∈rzs oss,One hp A)=True:=by
  refine eq_true ?_
  intro A hA
  simp only [rzs,List.mem_map] at hA
  obtain ⟨x,_,rfl⟩:=hA
  exact trivial
theorem frz_optC {hp:Nat→AObj} {o:Option (List Int)}:frz hp (optC o)=optC o:=by cases o <;> simp [optC,frz]
theorem frz_opt {hp:Nat→AObj} {os:List (Option (List Int))}:(optL os).map (frz hp)=optL os:=by
  simp only [optL,List.map_map]
  exact List.map_congr_left fun o _=>frz_optC
theorem frz_rzs {hp:Nat→AObj} {oss:List (List (Option (List Int)))}:(rzs oss).map (frz hp)=rzs oss:=by simp [rzs,frz]
theorem owned_opt:∀ {os:List (Option (List Int))},owned (optL os)=[]
  | []=>rfl
  | some _ :: os=>owned_opt (os:=os)
  | none :: os=>owned_opt (os:=os)
theorem owned_rzs:∀ {oss:List (List (Option (List Int)))},owned (rzs oss)=[]
  | []=>rfl
  | _ :: oss=>owned_rzs (oss:=oss)
theorem opt_some {os:List (Option (List Int))} {w:List Int}:optL os ++ [.ro none 1 (ints w)]=optL (os ++ [some w]):=by simp [optL,optC]
theorem opt_none {os:List (Option (List Int))}:optL os ++ [.val (.slice none 0 0)]=optL (os ++ [none]):=by simp [optL,optC]
theorem rzs_snoc {oss:List (List (Option (List Int)))} {os:List (Option (List Int))}:rzs oss ++ [.ro (some none) 1 (optL os)]=rzs (oss ++ [os]):=by simp [rzs]
theorem opt_len {os:List (Option (List Int))}:(optL os).length=os.length:=by simp [optL]
theorem rzs_len {oss:List (List (Option (List Int)))}:(rzs oss).length=oss.length:=by simp [rzs]
theorem rzn_len {oss:List (List (Option (List Int)))}:(rzn oss).length=oss.length:=by simp [rzn]
theorem opt_getD {os:List (Option (List Int))} {i:Nat} (h:i<os.length):(optL os).getD i .any=optC (os.getD i none):=by
  simp [optL,List.getD_eq_getElem?_getD,h]
theorem rzn_getD {oss:List (List (Option (List Int)))} {i:Nat} (h:i<oss.length):(rzn oss).getD i .any=.ro none 1 (optL (oss.getD i [])):=by
  simp [rzn,List.getD_eq_getElem?_getD,h]
theorem coeL_opt {hp:Nat→AObj} {m:List Nat} {len:Bool}:∀ {os:List (Option (List Int))},CoeL hp m len (optL os) (optL os)=True
  | []=>coeL_nil
  | o :: os=>by
    have h:=coeL_opt (hp:=hp) (m:=m) (len:=len) (os:=os)
    simp only [optL,List.map_cons] at h ⊢
    rw [yzt,h]
    cases o with
    | none=>simp [optC,coe_val]
    | some w=>rw [optC,coe_ro];simp [yzy (k:=.i64)]
theorem coeL_rzs {hp:Nat→AObj} {m:List Nat} {len:Bool}:∀ {oss:List (List (Option (List Int)))},CoeL hp m len (rzn oss) (rzs oss)=True
  | []=>coeL_nil
  | os :: oss=>by
    have h:=coeL_rzs (hp:=hp) (m:=m) (len:=len) (oss:=oss)
    simp only [rzs,rzn,List.map_cons] at h ⊢
    rw [yzt,h,coe_ro]
    simp [coeL_opt]
theorem coeL_rzn {hp:Nat→AObj} {m:List Nat} {len:Bool}:∀ {oss:List (List (Option (List Int)))},CoeL hp m len (rzn oss) (rzn oss)=True
  | []=>coeL_nil
  | os :: oss=>by
    have h:=coeL_rzn (hp:=hp) (m:=m) (len:=len) (oss:=oss)
    simp only [rzn,List.map_cons] at h ⊢
    rw [yzt,h,coe_ro]
    simp [coeL_opt]
attribute [local go_sem] dnL_opt dnL_rzs dnL_rzn one_opt one_rzs frz_opt frz_rzs owned_opt owned_rzs opt_some opt_none rzs_snoc rzs_len rzn_len opt_len
theorem call_steG {P:Program} {σ:St} {g:FuncId} {x:AVal} {xs:List AVal} {y:Value} {d:Nat} {s:Nat→Nat} {K:St→Prop} {r v:Nat} {cs cs':List AVal} {R:List AObj→AVal→Prop}
    (h:Con P g [.row 0 1 true cs] (.st [x,.own 5000 0] :: xs) true fun outs rows res=>outs=[.row 0 1 true cs]∧R rows res) (hx:x=.val y) (hxs:CoeL σ.hp [r] false xs xs)
    (hr:σ.hp r=.row v 1 true cs') (hc:CoeL σ.hp [r] false cs cs')
    (hk:∀ rows res,R rows res→rows.length≤1000∧(∀ i,i<rows.length→σ.hp (newId d i)=.gone)∧K (St.put ⟨σ.tm,callHp σ.hp [r] d s [.row 0 1 true cs] rows⟩ (some d) (res.ren (rid [r] d rows.length) (sv σ.hp [r] s)))):wpCall P false σ g (.st [x,.own r v] :: xs) (some d) s K:=by
  subst hx
  refine .inl ⟨[r],_,_,true,_,h,⟨by simp,rfl,by simp,by simp [hr],?_⟩,?_,(fun e=>by cases e),?_⟩
  · intro j B r' hB hr'
    match j,hB,hr' with
    | 0,hB,hr' =>
      simp at hB hr';subst hB;subst hr'
      simp only [ObjCoe,hr]
      exact ⟨trivial,v,cs',rfl,hc⟩
    | j+1,hB,hr'=>simp at hB
  · rw [yzt,coe_st,yzt,yzt,coeL_nil]
    refine ⟨?_,hxs⟩
    simp only [Coe]
    exact ⟨trivial,⟨0,r,v,rfl,rfl,rfl,rfl,by rw [hr];rfl⟩,trivial⟩
  · rintro outs rows res ⟨rfl,hR⟩
    obtain ⟨h1,h2,h3⟩:=hk rows res hR
    exact ⟨rfl,h1,h2,h3⟩
def mergR (next:List (List Int)) (s t:Int):AVal:=.tup [optC (mergQ next s t),iv (if (mergQ next s t).isSome then 0 else 6)]
theorem k_mergingH (n:Int) (next:List (List Int)) (A:Aut n next) (s t:Int) (hs:0≤s∧s<n) (ht:0≤t∧t<n) :
    Con Try.prog nz3t [.row 0 1 true (rwn next)] [.st [iv n,.own 5000 0],iv s,iv t] true
      fun outs rows res=>outs=[.row 0 1 true (rwn next)]∧rows=[]∧res=mergR next s t:=by
  refine con_sh mixed czlg rfl (by simp) ?_
  have n1:=A.n1
  have n2:=A.n2
  have hN:2 ^ n.toNat≤1024:=Nat.pow_le_pow_right (n:=2) (by omega) (show n.toNat≤10 by omega)
  have hf:=two_lt hs ht
  have hs0:¬ s<0:=by omega
  have ht0:¬ t<0:=by omega
  have hsl:=u_shl (b:=s.toNat) (by omega)
  have htl:=u_shl (b:=t.toNat) (by omega)
  have hps:=pow_lt10 (k:=s.toNat) (by omega)
  have hpt:=pow_lt10 (k:=t.toNat) (by omega)
  have hor:_=((twoN s t:Nat):Int):=u_orW (x:=2 ^ s.toNat) (y:=2 ^ t.toNat) (by omega) (by omega)
  simp only [Azhx,Bzhw,hs0,ht0,hsl,htl,hor,go_sem,yz0,xx9,xx8,xx6,xx7,xx5,xx0,xx1,xx2,reduceIte,xx3,xx4,reduceCtorEq]
  intro vs vs2
  refine call_fn (k_tour n next A (twoN s t) hf) qCS (fun e=>by cases e) ?_
  rintro rows res ⟨v1,v2,rfl,rfl⟩
  refine ⟨by simp,by rw [Option.getD_some,yzq];simp only [go_sem,yz0,xx9,xx8,xx6,xx7,xx5,xx0,xx1,xx2,reduceIte,xx3,xx4,reduceCtorEq],?_⟩
  have hT:=(runT_ok A 1100 0 _ (TI0 (m:=next.length) hf)).1
  simp only [Option.getD_some,Nat.not_lt_zero,range1,yz10,ren_any,ren_ro,rnNm_n,rnNm_sn,rnNm_o,rnNm_s,ren_st,ren_tup,yzs,yzh,yz7,yzw,yzv,yzr,yzp,yzu,yz8,yzb,yza,yze,yzn,yzl,yz3,yzf,yz9,yzd,yzk,yzm,List.range_zero,yz5,yz4,yzc,yzx,yzi,yzq,AVal.fresh,freshL,yz2,yzj,AObj.fresh,id,Option.isSome_some,or_true,true_or,go_sem,yz0,xx9,xx8,xx6,xx7,xx5,xx0,xx1,xx2,reduceIte,xx3,xx4,reduceCtorEq]
  unfold mergR mergQ
  cases hq:firstT (tourT next (twoN s t)) with
  | some p =>
    obtain ⟨f,w⟩:=p
    refine call_rm (k_first n.toNat next.length (tourT next (twoN s t)) hT hN f w hq) rfl rfl (by omega) qCS qCS qCS ?_
    simp only [Nat.not_lt_zero,range1,yz10,ren_any,ren_ro,rnNm_n,rnNm_sn,rnNm_o,rnNm_s,ren_st,ren_tup,yzs,yzh,yz7,yzw,yzv,yzr,yzp,yzu,yz8,yzb,yza,yze,yzn,yzl,yz3,yzf,yz9,yzd,yzk,yzm,List.range_zero,yz5,yz4,yzc,yzx,yzi,yzq,AVal.fresh,freshL,yz2,yzj,AObj.fresh,id,Option.isSome_some,or_true,true_or,go_sem,yz0,xx9,xx8,xx6,xx7,xx5,xx0,xx1,xx2,reduceIte,xx3,xx4,reduceCtorEq]
    exact ⟨[],by simp,by simp,by simp,rfl,rfl⟩
  | none =>
    refine call_rm (k_firstN n.toNat next.length (tourT next (twoN s t)) hT hN hq) rfl rfl (by omega) qCS qCS qCS ?_
    simp only [Nat.not_lt_zero,range1,yz10,ren_any,ren_ro,rnNm_n,rnNm_sn,rnNm_o,rnNm_s,ren_st,ren_tup,yzs,yzh,yz7,yzw,yzv,yzr,yzp,yzu,yz8,yzb,yza,yze,yzn,yzl,yz3,yzf,yz9,yzd,yzk,yzm,List.range_zero,yz5,yz4,yzc,yzx,yzi,yzq,AVal.fresh,freshL,yz2,yzj,AObj.fresh,id,Option.isSome_some,or_true,true_or,go_sem,yz0,xx9,xx8,xx6,xx7,xx5,xx0,xx1,xx2,reduceIte,xx3,xx4,reduceCtorEq]
    exact ⟨[],by simp,by simp,by simp,rfl,rfl⟩
def mergW (next:List (List Int)) (s:Int) (j:Nat):List (Option (List Int)):=(List.range j).map fun t:Nat=>mergQ next s (t:Int)
def mergT (next:List (List Int)) (n i:Nat):List (List (Option (List Int))):=(List.range i).map fun s:Nat=>mergW next (s:Int) n
theorem mergW_succ {next:List (List Int)} {s:Int} {j:Nat}:mergW next s (j+1)=mergW next s j ++ [mergQ next s (j:Int)]:=by simp [mergW,List.range_succ]
theorem mergT_succ {next:List (List Int)} {n i:Nat}:mergT next n (i+1)=mergT next n i ++ [mergW next (i:Int) n]:=by simp [mergT,List.range_succ]
theorem mergW_len {next:List (List Int)} {s:Int} {j:Nat}:(mergW next s j).length=j:=by simp [mergW]
theorem mergT_len {next:List (List Int)} {n i:Nat}:(mergT next n i).length=i:=by simp [mergT]
theorem mergW_getD {next:List (List Int)} {s:Int} {j t:Nat} (h:t<j):(mergW next s j).getD t none=mergQ next s (t:Int):=by
  unfold mergW
  rw [List.getD_eq_getElem?_getD,List.getElem?_map,List.getElem?_range h];rfl
theorem mergT_getD {next:List (List Int)} {n i s:Nat} (h:s<i):(mergT next n i).getD s []=mergW next (s:Int) n:=by
  unfold mergT
  rw [List.getD_eq_getElem?_getD,List.getElem?_map,List.getElem?_range h];rfl
theorem k_mergesH (n:Int) (next:List (List Int)) (A:Aut n next) :
    Con Try.prog nz3h [.row 0 1 true (rwn next)] [.st [iv n,.own 5000 0]] true
      fun outs rows res=>outs=[.row 0 1 true (rwn next)]∧∃ v,rows=[.row v 1 true (rzs (mergT next n.toNat n.toNat))]∧res=.own 6000 v:=by
  refine con_sh mixed czkw rfl (by simp) ?_
  have n1:=A.n1
  have n2:=A.n2
  simp only [Azfl,Bzfk,Bzfj,Bzfh,go_sem,yz0,xx9,xx8,xx6,xx7,xx5,xx0,xx1,xx2,reduceIte,xx3,xx4,reduceCtorEq]
  intro vs vs2
  refine wpD_lo (fun (_,i)=>n.toNat - i) (fun (_,i)=>i≤n.toNat)
    (fun ((v3,i):Nat×Nat)=>⟨L .any [(1,.ptr 1 (vs 0 0) 0),(3,.own 9 v3),(11,iv n),(12,iv i)],
      L .gone [(1,.box (vs 0 0) [iv n,.own 5000 0]),(9,.row v3 1 true (rzs (mergT next n.toNat i))),(5000,.row 0 1 true (rwn next))]⟩)
    (_,0) (by simp) (by simp only [Bz21,go_sem,yz0,xx9,xx8,xx6,xx7,xx5,xx0,xx1,xx2,reduceIte,xx3,xx4,reduceCtorEq];try rfl) ?_
  rintro ⟨v3,i⟩ hi
  have hi:i≤n.toNat:=hi
  by_cases hlt:(i:Int)<n
  · have w1:IntKind.i64.wrap ((i:Int)+1)=((i+1:Nat):Int):=by rw [w64 (by omega)];simp
    simp only [Bz21,Bz6n,Bzfg,Bzfe,Bzfd,Bzfb,decide_eq_true hlt,go_sem,yz0,xx9,xx8,xx6,xx7,xx5,xx0,xx1,xx2,reduceIte,xx3,xx4,reduceCtorEq]
    intro vs3
    refine wpD_lo (fun (_,j)=>n.toNat - j) (fun (_,j)=>j≤n.toNat)
      (fun ((v5,j):Nat×Nat)=>⟨L .any [(1,.ptr 1 (vs 0 0) 0),(3,.own 9 v3),(4,iv i),(5,.own 15 v5),(11,iv n),(12,iv i),(17,iv n),(18,iv j)],
        L .gone [(1,.box (vs 0 0) [iv n,.own 5000 0]),(9,.row v3 1 true (rzs (mergT next n.toNat i))),(15,.row v5 1 true (optL (mergW next (i:Int) j))),(5000,.row 0 1 true (rwn next))]⟩)
      (_,0) (by simp) (by simp only [Bz20,go_sem,yz0,xx9,xx8,xx6,xx7,xx5,xx0,xx1,xx2,reduceIte,xx3,xx4,reduceCtorEq];try rfl) ?_
    rintro ⟨v5,j⟩ hj
    have hj:j≤n.toNat:=hj
    by_cases hlj:(j:Int)<n
    · have w2:IntKind.i64.wrap ((j:Int)+1)=((j+1:Nat):Int):=by rw [w64 (by omega)];simp
      simp only [Bz20,Bz6m,Bzfa,Bzf9,decide_eq_true hlj,go_sem,yz0,xx9,xx8,xx6,xx7,xx5,xx0,xx1,xx2,reduceIte,xx3,xx4,reduceCtorEq]
      intro vs4
      refine call_steG (R:=fun rows res=>rows=[]∧res=mergR next i j) (k_mergingH n next A i j (by omega) (by omega)) rfl qCS rfl (of_eq_true coeL_rwn) ?_
      rintro rows res ⟨rfl,rfl⟩
      refine ⟨by simp,by simp,?_⟩
      rw [callHp_m]
      have e0:sv (L .gone [(1,.box (vs 0 0) [iv n,.own 5000 0]),(9,.row v3 1 true (rzs (mergT next n.toNat i))),(15,.row v5 1 true (optL (mergW next (i:Int) j))),(5000,.row 0 1 true (rwn next))]) [5000] (vs4 3) 0=0:=rfl
      unfold mergR
      cases hq:mergQ next (i:Int) (j:Int) with
      | some w =>
        simp only [optC,e0,Bz6k,Bz6l,w2,Nat.not_lt_zero,range1,yz10,ren_any,ren_ro,rnNm_n,rnNm_sn,rnNm_o,rnNm_s,ren_st,ren_tup,yzs,yzh,yz7,yzw,yzv,yzr,yzp,yzu,yz8,yzb,yza,yze,yzn,yzl,yz3,yzf,yz9,yzd,yzk,yzm,List.range_zero,yz5,yz4,yzc,yzx,yzi,yzq,AVal.fresh,freshL,yz2,yzj,AObj.fresh,id,Option.isSome_some,or_true,true_or,go_sem,yz0,xx9,xx8,xx6,xx7,xx5,xx0,xx1,xx2,reduceIte,xx3,xx4,reduceCtorEq]
        intro vs5
        refine ⟨by rw [mergW_len];omega,?_⟩
        exact ⟨(_,j+1),by dsimp only;omega,by dsimp only;omega,by rw [mergW_succ,hq]⟩
      | none =>
        simp only [optC,e0,Bz6k,Bz6l,w2,Nat.not_lt_zero,range1,yz10,ren_any,ren_ro,rnNm_n,rnNm_sn,rnNm_o,rnNm_s,ren_st,ren_tup,yzs,yzh,yz7,yzw,yzv,yzr,yzp,yzu,yz8,yzb,yza,yze,yzn,yzl,yz3,yzf,yz9,yzd,yzk,yzm,List.range_zero,yz5,yz4,yzc,yzx,yzi,yzq,AVal.fresh,freshL,yz2,yzj,AObj.fresh,id,Option.isSome_some,or_true,true_or,go_sem,yz0,xx9,xx8,xx6,xx7,xx5,xx0,xx1,xx2,reduceIte,xx3,xx4,reduceCtorEq]
        intro vs5
        refine ⟨by rw [mergW_len];omega,?_⟩
        exact ⟨(_,j+1),by dsimp only;omega,by dsimp only;omega,by rw [mergW_succ,hq]⟩
    · obtain rfl:j=n.toNat:=by omega
      simp only [Bz20,Bz6m,Bzfc,Bzff,decide_eq_false hlj,w1,go_sem,yz0,xx9,xx8,xx6,xx7,xx5,xx0,xx1,xx2,reduceIte,xx3,xx4,reduceCtorEq]
      intro vs4
      refine ⟨by rw [mergT_len];omega,?_⟩
      exact ⟨(_,i+1),by dsimp only;omega,by dsimp only;omega,by rw [mergT_succ]⟩
  · obtain rfl:i=n.toNat:=by omega
    simp only [Bz21,Bz6n,Bzfi,decide_eq_false hlt,go_sem,yz0,xx9,xx8,xx6,xx7,xx5,xx0,xx1,xx2,reduceIte,xx3,xx4,reduceCtorEq]
    refine ⟨[9],by simp,by simp,by simp,?_⟩
    simp only [renL_rzs,range1,List.length_singleton,Nat.not_lt_zero,range1,yz10,ren_any,ren_ro,rnNm_n,rnNm_sn,rnNm_o,rnNm_s,ren_st,ren_tup,yzs,yzh,yz7,yzw,yzv,yzr,yzp,yzu,yz8,yzb,yza,yze,yzn,yzl,yz3,yzf,yz9,yzd,yzk,yzm,List.range_zero,yz5,yz4,yzc,yzx,yzi,yzq,AVal.fresh,freshL,yz2,yzj,AObj.fresh,id,Option.isSome_some,or_true,true_or,go_sem,yz0,xx9,xx8,xx6,xx7,xx5,xx0,xx1,xx2,reduceIte,xx3,xx4,reduceCtorEq]
    exact ⟨_,rfl,rfl⟩
end Go.Ab
namespace Go.Ab
open Go.Proofs
attribute [local go_sem] dnL_opt dnL_rzs dnL_rzn one_opt one_rzs frz_opt frz_rzs owned_opt owned_rzs opt_some opt_none rzs_snoc rzs_len rzn_len opt_len
theorem rwnS {xss:List (List Int)} {xs:List Int}:rwn xss ++ [.ro none 1 (ints xs)]=rwn (xss ++ [xs]):=by simp [rwn]
theorem frz_rwnS {hp:Nat→AObj} {xss:List (List Int)}:(rwn xss).map (frz hp)=rwn xss:=by simp [rwn,frz]
theorem owned_rwnS:∀ {xss:List (List Int)},owned (rwn xss)=[]
  | []=>rfl
  | _ :: xss=>owned_rwnS (xss:=xss)
attribute [local go_sem] rwnS frz_rwnS owned_rwnS
theorem mergQ_ne {n:Int} {next:List (List Int)} (A:Aut n next) {s t:Int} (hs:0≤s∧s<n) (ht:0≤t∧t<n) (h:s≠t):mergQ next s t≠some []:=by
  intro e
  have:=(merg_some A hs ht e).2.1
  exact h this
end Go.Ab
namespace Go.Ab
def MerP (next:List (List Int)) (s t:Int):Prop:=∃ w,IsW next.length w∧atA next s w=atA next t w
def StabP (next:List (List Int)) (s t:Int):Prop:=∀ w,IsW next.length w→MerP next (atA next s w) (atA next t w)
theorem isw_nil {m:Nat}:IsW m []:=fun x hx=>by simp at hx
theorem isw_app {m:Nat} {u v:List Int} (hu:IsW m u) (hv:IsW m v):IsW m (u ++ v):=fun x hx=>by
  rcases List.mem_append.1 hx with h | h
  · exact hu x h
  · exact hv x h
theorem StabP.refl {next:List (List Int)} {s:Int}:StabP next s s:=fun _ _=>⟨[],isw_nil,rfl⟩
theorem StabP.symm {next:List (List Int)} {s t:Int} (h:StabP next s t):StabP next t s:=fun w hw=>by
  obtain ⟨v,h1,h2⟩:=h w hw
  exact ⟨v,h1,h2.symm⟩
theorem StabP.trans {next:List (List Int)} {s t u:Int} (h:StabP next s t) (k:StabP next t u):StabP next s u:=fun w hw=>by
  obtain ⟨v,h1,h2⟩:=h w hw
  obtain ⟨x,k1,k2⟩:=k (w ++ v) (isw_app hw h1)
  refine ⟨v ++ x,isw_app h1 k1,?_⟩
  rw [atA_app,atA_app (s:=u)] at k2
  rw [atA_app,h2,k2,atA_app]
theorem StabP.step {next:List (List Int)} {s t:Int} (h:StabP next s t) {w:List Int} (hw:IsW next.length w):StabP next (atA next s w) (atA next t w):=fun v hv=>by
  have h1:=h (w ++ v) (isw_app hw hv)
  rw [atA_app,atA_app] at h1
  exact h1
theorem MerP.back {next:List (List Int)} {s t:Int} {w:List Int} (hw:IsW next.length w) (h:MerP next (atA next s w) (atA next t w)):MerP next s t:=by
  obtain ⟨v,h1,h2⟩:=h
  exact ⟨w ++ v,isw_app hw h1,by rw [atA_app,atA_app];exact h2⟩
def badF (next:List (List Int)) (f:Nat):Bool:=decide ((bitsTo f 10).length=2) && (mergQ next ((bitsTo f 10).getD 0 0) ((bitsTo f 10).getD 1 0)).isNone
def stabQ (next:List (List Int)) (s t:Int):Bool:=!(((tourT next (twoN s t)).map (·.1)).any (badF next))
theorem bits_one:∀ a:Nat,a<10→bitsTo (2 ^ a ||| 2 ^ a) 10=[(a:Int)]:=by decide
theorem bits_two:∀ a:Nat,a<10→∀ b:Nat,b<10→a<b→bitsTo (2 ^ a ||| 2 ^ b) 10=[(a:Int),(b:Int)]:=by decide
theorem bad_two {n:Int} {next:List (List Int)} {a b:Int} (hn:n≤10) (ha:0≤a∧a<n) (hb:0≤b∧b<n):badF next (twoN a b)=(!decide (a=b) && (mergQ next a b).isNone):=by
  have ea:((a.toNat:Nat):Int)=a:=by omega
  have eb:((b.toNat:Nat):Int)=b:=by omega
  unfold badF
  by_cases h:a=b
  · subst h
    have e:bitsTo (twoN a a) 10=[a]:=by rw [← ea];exact bits_one a.toNat (by omega)
    rw [e];simp
  · by_cases hl:a<b
    · have e:bitsTo (twoN a b) 10=[a,b]:=by rw [← ea,← eb];exact bits_two a.toNat (by omega) b.toNat (by omega) (by omega)
      rw [e];simp [h]
    · have e:bitsTo (twoN a b) 10=[b,a]:=by rw [twoN_comm,← ea,← eb];exact bits_two b.toNat (by omega) a.toNat (by omega) (by omega)
      rw [e,mergQ_comm a b];simp [h]
theorem imN_two {n:Int} {next:List (List Int)} (A:Aut n next) {s t:Int} (hs:0≤s∧s<n) (ht:0≤t∧t<n) {w:List Int} (hw:IsW next.length w) :
    imN next (twoN s t) w=twoN (atA next s w) (atA next t w):=by
  have n1:=A.n1
  have n2:=A.n2
  obtain ⟨h1,h2⟩:=imN_bit A w (two_lt hs ht) hw
  have a0:=A.at (w:=w) hs hw
  have a1:=A.at (w:=w) ht hw
  have es:((s.toNat:Nat):Int)=s:=by omega
  have et:((t.toNat:Nat):Int)=t:=by omega
  have h3:=two_lt a0 a1
  have hp:2 ^ n.toNat≤2 ^ 10:=Nat.pow_le_pow_right (by omega) (by omega)
  apply Nat.eq_of_testBit_eq
  intro u
  by_cases hu:u<10
  · have e1:(imN next (twoN s t) w).testBit u=true↔(twoN (atA next s w) (atA next t w)).testBit u=true:=by
      have g1:=h2 u
      have g2:=two_bits n2 a0 a1 (u:=u)
      rw [mem_bits] at g1 g2
      constructor
      · intro h
        obtain ⟨x,hx,e⟩:=g1.1 ⟨hu,h⟩
        refine (g2.2 ?_).2
        rcases (two_bits n2 hs ht).1 hx with rfl | rfl
        · left;rw [es] at e;omega
        · right;rw [et] at e;omega
      · intro h
        rcases g2.1 ⟨hu,h⟩ with e | e
        · exact (g1.2 ⟨s.toNat,(two_bits n2 hs ht).2 (.inl rfl),by rw [es];omega⟩).2
        · exact (g1.2 ⟨t.toNat,(two_bits n2 hs ht).2 (.inr rfl),by rw [et];omega⟩).2
    rw [Bool.eq_iff_iff];exact e1
  · rw [Nat.testBit_lt_two_pow (Nat.lt_of_lt_of_le (Nat.lt_of_lt_of_le h1 hp) (Nat.pow_le_pow_right (by omega) (by omega))),Nat.testBit_lt_two_pow (Nat.lt_of_lt_of_le (Nat.lt_of_lt_of_le h3 hp) (Nat.pow_le_pow_right (by omega) (by omega)))]
theorem stab_iff {n:Int} {next:List (List Int)} (A:Aut n next) {s t:Int} (hs:0≤s∧s<n) (ht:0≤t∧t<n):stabQ next s t=true↔StabP next s t:=by
  have n2:=A.n2
  have hT:=(runT_ok A 1100 0 _ (TI0 (m:=next.length) (two_lt hs ht))).1
  unfold stabQ
  rw [Bool.not_eq_true',List.any_eq_false]
  constructor
  · intro h w hw
    have h1:=tour_mem A (two_lt hs ht) w.length w rfl hw
    have h2:=h _ (hasT_iff.1 h1)
    have a0:=A.at (w:=w) hs hw
    have a1:=A.at (w:=w) ht hw
    rw [imN_two A hs ht hw,bad_two n2 a0 a1] at h2
    by_cases e:atA next s w=atA next t w
    · exact ⟨[],isw_nil,e⟩
    · refine (merg_iff A a0 a1).1 ?_
      cases hq:mergQ next (atA next s w) (atA next t w) with
      | some _=>rfl
      | none=>rw [hq] at h2;simp [e] at h2
  · intro h f hf
    obtain ⟨p,hp,rfl⟩:=List.mem_map.1 hf
    have hw:IsW next.length p.2:=(hT.wd p hp).1
    have a0:=A.at (w:=p.2) hs hw
    have a1:=A.at (w:=p.2) ht hw
    rw [two_snd p hp,imN_two A hs ht hw,bad_two n2 a0 a1]
    have h1:=(merg_iff A a0 a1).2 (h p.2 hw)
    cases hq:mergQ next (atA next s p.2) (atA next t p.2) with
    | some _=>simp
    | none=>rw [hq] at h1;cases h1
structure StD (n:Int) (next:List (List Int)) (us:List Int):Prop where
  ln:(us.length:Int)=n
  eq:∀ i j:Nat,(i:Int)<n→(j:Int)<n→(us.getD i 0=us.getD j 0↔StabP next i j)
theorem StD.tid {n:Int} {next:List (List Int)} {us ys:List Int} (S:StD n next us) (T:TidP us ys) (hl:ys.length=us.length):StD n next ys :=
  ⟨by rw [hl];exact S.ln,fun i j hi hj=>by rw [T.eq i j (by have:=S.ln;omega) (by have:=S.ln;omega)];exact S.eq i j hi hj⟩
theorem StD.div {n:Int} {next:List (List Int)} {us ys:List Int} (S:StD n next us) (T:TidP us ys) (hl:ys.length=us.length):divB ys n=true:=T.div hl S.ln
theorem div_uniq:∀ (ys zs:List Int),divS 0 ys=true→divS 0 zs=true→ys.length=zs.length→(∀ i j,i<ys.length→j<ys.length→(ys.getD i 0=ys.getD j 0↔zs.getD i 0=zs.getD j 0))→ys=zs:=by
  have gen:∀ (m:Nat) (ys zs:List Int),ys.length=m→zs.length=m→divS 0 ys=true→divS 0 zs=true→(∀ i j,i<m→j<m→(ys.getD i 0=ys.getD j 0↔zs.getD i 0=zs.getD j 0))→ys=zs:=by
    intro m
    induction m with
    | zero=>intro ys zs h1 h2 _ _ _;rw [List.eq_nil_of_length_eq_zero h1,List.eq_nil_of_length_eq_zero h2]
    | succ m ih =>
      intro ys zs h1 h2 d1 d2 he
      obtain ⟨ys,y,rfl⟩:∃ a b,ys=a ++ [b]:=⟨ys.dropLast,ys.getLast (by intro e;rw [e] at h1;simp at h1),(List.dropLast_concat_getLast _).symm⟩
      obtain ⟨zs,z,rfl⟩:∃ a b,zs=a ++ [b]:=⟨zs.dropLast,zs.getLast (by intro e;rw [e] at h2;simp at h2),(List.dropLast_concat_getLast _).symm⟩
      rw [List.length_append,List.length_singleton] at h1 h2
      have l1:ys.length=m:=by omega
      have l2:zs.length=m:=by omega
      rw [divS_snoc,Bool.and_eq_true,Bool.and_eq_true,decide_eq_true_eq,decide_eq_true_eq] at d1 d2
      obtain rfl:=ih ys zs l1 l2 d1.1 d2.1 fun i j hi hj=>by
        have h:=he i j (by omega) (by omega)
        rw [getD_snl (by omega),getD_snl (by omega),getD_snl (by omega),getD_snl (by omega)] at h
        exact h
      congr 1
      have key:∀ i,i<m→(ys.getD i 0=y↔ys.getD i 0=z):=fun i hi=>by
        have h:=he i m (by omega) (by omega)
        have e1:(ys ++ [y]).getD i 0=ys.getD i 0:=getD_snl (by omega)
        have e2:(ys ++ [z]).getD i 0=ys.getD i 0:=getD_snl (by omega)
        have e3:(ys ++ [y]).getD m 0=y:=by rw [← l1];exact getD_snr
        have e4:(ys ++ [z]).getD m 0=z:=by rw [← l1];exact getD_snr
        rw [e1,e2,e3,e4] at h
        exact h
      by_cases hy:y=usedS 0 ys
      · by_cases hz:z=usedS 0 ys
        · rw [hy,hz]
        · obtain ⟨i,hi,e⟩:=List.mem_iff_getElem.1 (div_surj (u:=0) (c:=z) d1.1 (by omega) (by omega))
          have e':ys.getD i 0=z:=by rw [List.getD_eq_getElem?_getD,List.getElem?_eq_getElem hi];exact e
          have:=(key i (by omega)).2 e'
          rw [← this,e']
      · obtain ⟨i,hi,e⟩:=List.mem_iff_getElem.1 (div_surj (u:=0) (c:=y) d1.1 (by omega) (by omega))
        have e':ys.getD i 0=y:=by rw [List.getD_eq_getElem?_getD,List.getElem?_eq_getElem hi];exact e
        have:=(key i (by omega)).1 e'
        rw [← e',this]
  intro ys zs d1 d2 hl he
  exact gen ys.length ys zs rfl hl.symm d1 d2 he
theorem StD.uniq {n:Int} {next:List (List Int)} {us ys vs zs:List Int} (S:StD n next us) (T:TidP us ys) (hl:ys.length=us.length) (S':StD n next vs) (T':TidP vs zs) (hl':zs.length=vs.length):ys=zs:=by
  have A1:=S.tid T hl
  have A2:=S'.tid T' hl'
  have e1:=A1.ln
  have e2:=A2.ln
  refine div_uniq ys zs T.dv T'.dv (by omega) fun i j hi hj=>?_
  rw [A1.eq i j (by omega) (by omega),A2.eq i j (by omega) (by omega)]
theorem StD.cong {n:Int} {next:List (List Int)} (A:Aut n next) {cl:List Int} (S:StD n next cl):congP next cl:=by
  intro row hrow s t hs ht he
  have hln:=S.ln
  have h1:=(S.eq s t (by omega) (by omega)).1 he
  obtain ⟨l,hl,e⟩:=List.mem_iff_getElem.1 hrow
  have hw:IsW next.length [(l:Int)]:=fun x hx=>by rw [List.mem_singleton.1 hx];omega
  have h2:=h1.step hw
  have er:next.getD l []=row:=by rw [List.getD_eq_getElem?_getD,List.getElem?_eq_getElem hl];exact e
  have e1:∀ x:Nat,atA next (x:Int) [(l:Int)]=row.getD x 0:=fun x=>by simp [atA,stepA,← er]
  rw [e1,e1] at h2
  have hr:=A.row row hrow
  have r1:=hr.2 _ (yz6 (show s<row.length by omega) 0)
  have r2:=hr.2 _ (yz6 (show t<row.length by omega) 0)
  rw [show row.getD s 0=((row.getD s 0).toNat:Int) by omega,show row.getD t 0=((row.getD t 0).toNat:Int) by omega] at h2
  exact (S.eq _ _ (by omega) (by omega)).2 h2
structure StI (n:Int) (next:List (List Int)) (pre:List (List Int)) (us:List Int):Prop where
  ln:(us.length:Int)=n
  rg:∀ t:Nat,(t:Int)<n→0≤us.getD t 0∧us.getD t 0≤t
  st:∀ t:Nat,(t:Int)<n→StabP next (us.getD t 0) t
  dn:∀ a b:Nat,[(a:Int),(b:Int)]∈pre→us.getD b 0≤a
theorem setAt_getD {us:List Int} {b i:Nat} {x:Int} (hb:b<us.length):(us.set b x).getD i 0=if i=b then x else us.getD i 0:=by
  rw [List.getD_eq_getElem?_getD,List.getElem?_set]
  by_cases h:b=i
  · rw [if_pos h,if_pos h.symm,if_pos (by omega)];rfl
  · rw [if_neg h,if_neg (fun e=>h e.symm),← List.getD_eq_getElem?_getD]
theorem StI.step {n:Int} {next pre:List (List Int)} {us:List Int} (I:StI n next pre us) {a b:Nat} (hab:a<b) (hb:(b:Int)<n) (h:StabP next a b) :
    StI n next (pre ++ [[(a:Int),(b:Int)]]) (us.set b (min (us.getD b 0) (us.getD a 0))):=by
  have hln:=I.ln
  have hbl:b<us.length:=by omega
  have ra:=I.rg a (by omega)
  have rb:=I.rg b hb
  refine ⟨by rw [List.length_set];exact hln,fun t ht=>?_,fun t ht=>?_,fun x y hxy=>?_⟩
  · rw [setAt_getD hbl]
    split
    · rename_i e;subst e;omega
    · exact I.rg t ht
  · rw [setAt_getD hbl]
    split
    · rename_i e;subst e
      by_cases hm:us.getD t 0≤us.getD a 0
      · rw [Int.min_eq_left hm];exact I.st t ht
      · rw [Int.min_eq_right (by omega)];exact (I.st a (by omega)).trans h
    · exact I.st t ht
  · rw [setAt_getD hbl]
    rcases List.mem_append.1 hxy with hxy | hxy
    · have:=I.dn x y hxy
      split
      · rename_i e;subst e;omega
      · exact this
    · rw [List.mem_singleton,List.cons.injEq,List.cons.injEq] at hxy
      have e1:x=a:=by omega
      have e2:y=b:=by omega
      subst e1;subst e2
      rw [if_pos rfl];omega
theorem StI.done {n:Int} {next pre:List (List Int)} {us:List Int} (I:StI n next pre us) (hp:∀ a b:Nat,a<b→(b:Int)<n→StabP next a b→[(a:Int),(b:Int)]∈pre):StD n next us:=by
  have le:∀ i j:Nat,(i:Int)<n→(j:Int)<n→StabP next i j→us.getD j 0≤us.getD i 0:=fun i j hi hj h=>by
    have ri:=I.rg i hi
    have rj:=I.rg j hj
    have si:=I.st i hi
    have e:(((us.getD i 0).toNat:Nat):Int)=us.getD i 0:=by omega
    have h1:StabP next (us.getD i 0) j:=si.trans h
    rw [← e] at h1
    by_cases c1:(us.getD i 0).toNat<j
    · have:=I.dn _ _ (hp _ _ c1 hj h1);omega
    · omega
  refine ⟨I.ln,fun i j hi hj=>⟨fun e=>?_,fun h=>?_⟩⟩
  · have h1:=I.st i hi
    rw [e] at h1
    exact h1.symm.trans (I.st j hj)
  · have:=le i j hi hj h
    have:=le j i hj hi h.symm
    omega
structure StJ (n:Int) (next:List (List Int)) (pre:List (List Int)) (us:List Int):Prop where
  ln:(us.length:Int)=n
  rg:∀ x∈us,0≤x∧x<n
  st:∀ i j:Nat,(i:Int)<n→(j:Int)<n→us.getD i 0=us.getD j 0→StabP next i j
  dn:∀ a b:Nat,(a:Int)<n→(b:Int)<n→[(a:Int),(b:Int)]∈pre→us.getD b 0=us.getD a 0
theorem StJ.step {n:Int} {next pre:List (List Int)} {us:List Int} (I:StJ n next pre us) {a b:Nat} (ha:(a:Int)<n) (hb:(b:Int)<n) (h:StabP next a b) :
    StJ n next (pre ++ [[(a:Int),(b:Int)]]) (repI (us.getD b 0) (us.getD a 0) us):=by
  have hln:=I.ln
  refine ⟨by rw [repI_len];exact hln,fun x hx=>?_,fun i j hi hj e=>?_,fun x y hx hy hxy=>?_⟩
  · simp only [repI,List.mem_map] at hx
    obtain ⟨c,hc,rfl⟩:=hx
    split
    · exact I.rg _ (yz6 (by omega) 0)
    · exact I.rg c hc
  · rw [repI_getD (by omega),repI_getD (by omega)] at e
    split at e
    · rename_i h1
      have s1:=I.st i b hi hb h1
      split at e
      · rename_i h2
        exact s1.trans (I.st j b hj hb h2).symm
      · exact (s1.trans h.symm).trans (I.st a j ha hj e)
    · split at e
      · rename_i h2
        exact ((I.st i a hi ha e).trans h).trans (I.st j b hj hb h2).symm
      · exact I.st i j hi hj e
  · rw [repI_getD (by omega),repI_getD (by omega)]
    rcases List.mem_append.1 hxy with hxy | hxy
    · rw [I.dn x y hx hy hxy]
    · rw [List.mem_singleton,List.cons.injEq,List.cons.injEq] at hxy
      have e1:x=a:=by omega
      have e2:y=b:=by omega
      subst e1;subst e2
      rw [if_pos rfl]
      split <;> rfl
theorem StJ.done {n:Int} {next pre:List (List Int)} {us:List Int} (I:StJ n next pre us) (hp:∀ a b:Nat,a<b→(b:Int)<n→StabP next a b→[(a:Int),(b:Int)]∈pre):StD n next us:=by
  refine ⟨I.ln,fun i j hi hj=>⟨I.st i j hi hj,fun h=>?_⟩⟩
  by_cases h1:i<j
  · exact (I.dn i j hi hj (hp i j h1 hj h)).symm
  · by_cases h2:j<i
    · exact I.dn j i hj hi (hp j i h2 hi h.symm)
    · rw [show i=j by omega]
end Go.Ab
namespace Go.Ab
open Go.Proofs
attribute [local go_sem] dnL_opt dnL_rzs dnL_rzn one_opt one_rzs frz_opt frz_rzs owned_opt owned_rzs opt_some opt_none rzs_snoc rzs_len rzn_len opt_len
theorem dnL_put {us:List Int} {b:Nat} {x:Int} (h:b<us.length):dnL (dnL (List.take b (intsK .i64 us))) ++ [AVal.val (.int .i64 x)] ++ dnL (dnL (List.drop (b+1) (intsK .i64 us)))=intsK .i64 (us.set b x):=by
  rw [intsK_take,intsK_drop,dnL_ints,dnL_ints,dnL_ints,dnL_ints,List.set_eq_take_append_cons_drop,if_pos h]
  simp [intsK]
theorem allS_getD2 {n:Int} {i:Nat} (h:(i:Int)<n):(allS n).getD i 0=i:=by
  unfold allS
  rw [List.getD_eq_getElem?_getD,List.getElem?_map,List.getElem?_range (by omega)];rfl
theorem k_ContainsFuncF (xs:List Nat) (g:FuncId) (caps:List AVal) (p:Nat→Bool) (hc:Caps caps) (h:∀ x∈xs,Fun Try.prog g (fv x :: caps) (bv (p x))) :
    Fun Try.prog nz10 [.ro none 1 (intsK .u64 (xs.map fun (x:Nat)=>(x:Int))),.clo g caps] (bv (xs.any p)):=by
  refine fun_of mixed czkz rfl ⟨rfl,trivial⟩ ?_
  simp only [Bzfw,Azfx,hc.dn,go_sem,yz0,xx9,xx8,xx6,xx7,xx5,xx0,xx1,xx2,reduceIte,xx3,xx4,reduceCtorEq]
  intro vs
  refine yzo (k_IndexFuncF xs g caps p hc h) (by simp only [rowIs,boxIs,coe_argN,coe_argNs,coe_ro_o,coeL_nil,yzt,coe_any,coe_val,coe_ro,coe_ro_nil,coe_ro_own,coe_st,coe_st_agg,coe_rp,coe_rp_ptr,coe_clo,coe_own0,coe_ptr0,yzy,coeL_rws,coeL_rwn,L_hit,L_miss,L_nil,xx3,ne_eq,reduceCtorEq,not_false_eq_true,true_and,and_true,and_self,exists_eq_left,exists_eq_right,List.mem_cons,List.not_mem_nil,or_false,AObj.row.injEq,AObj.box.injEq,exists_eq_left',exists_and_left,exists_eq,Nat.zero_lt_one,Nat.lt_add_one,List.map_cons,List.map_nil,AObj.ver,xx5,not_true_eq_false];exact hc.coe _ _ _) trivial ?_
  simp only [fidx_ge,go_sem,yz0,xx9,xx8,xx6,xx7,xx5,xx0,xx1,xx2,reduceIte,xx3,xx4,reduceCtorEq]
theorem k_stable_1_1 {n:Int} {next:List (List Int)} (A:Aut n next) (a b:Int) (ha:0≤a) (hab:a≤b) (hb:b<n) :
    Fun Try.prog nz8 [fv (twoN a b),.rp [.ro none 1 (rzn (mergT next n.toNat n.toNat))] 0] (bv (badF next (twoN a b))):=by
  refine fun_of mixed czl0 rfl ⟨rfl,trivial⟩ ?_
  have n1:=A.n1
  have n2:=A.n2
  have hN:2 ^ n.toNat≤1024:=Nat.pow_le_pow_right (n:=2) (by omega) (show n.toNat≤10 by omega)
  have hf:=two_lt (n:=n) (s:=a) (t:=b) (by omega) (by omega)
  have ea:((a.toNat:Nat):Int)=a:=by omega
  have eb:((b.toNat:Nat):Int)=b:=by omega
  rw [bad_two n2 (a:=a) (b:=b) (by omega) (by omega)]
  simp only [Azfz,Bzfy,go_sem,yz0,xx9,xx8,xx6,xx7,xx5,xx0,xx1,xx2,reduceIte,xx3,xx4,reduceCtorEq]
  intro vs
  refine call_rowI (k_flock_set (twoN a b) (by omega)) qCS qWS ⟨_,rfl⟩ ?_
  rintro ys v hys
  by_cases h:a=b
  · subst h
    have e:ys=[a]:=by rw [hys,← ea];exact bits_one a.toNat (by omega)
    have e1:((ys.length:Int) == 2)=false:=by rw [e];rfl
    have e2:decide (a=a)=true:=decide_eq_true rfl
    clear e hys
    simp only [Bz24,e1,e2,Bool.not_true,Bool.false_and,go_sem,yz0,xx9,xx8,xx6,xx7,xx5,xx0,xx1,xx2,reduceIte,xx3,xx4,reduceCtorEq]
  · have e:ys=[a,b]:=by rw [hys,← ea,← eb];exact bits_two a.toNat (by omega) b.toNat (by omega) (by omega)
    have e1:((ys.length:Int) == 2)=true:=by rw [e];rfl
    have g0:0<ys.length:=by rw [e];simp
    have g1:1<ys.length:=by rw [e];simp
    have x0:ys.getD 0 0=a:=by rw [e];rfl
    have x1:ys.getD 1 0=b:=by rw [e];rfl
    have y0:=yz1 (k:=.i64) g0
    have y1:=yz1 (k:=.i64) g1
    rw [x0] at y0
    rw [x1] at y1
    have e2:decide (a=b)=false:=decide_eq_false h
    have hlen:=mergT_len (next:=next) (n:=n.toNat) (i:=n.toNat)
    have r1:a.toNat<(mergT next n.toNat n.toNat).length:=by omega
    have m1:(mergT next n.toNat n.toNat).getD a.toNat []=mergW next a n.toNat:=by rw [mergT_getD (by omega),ea]
    have r2:b.toNat<(mergW next a n.toNat).length:=by rw [mergW_len];omega
    have m2:(mergW next a n.toNat).getD b.toNat none=mergQ next a b:=by rw [mergW_getD (by omega),eb]
    have hne:=mergQ_ne A (s:=a) (t:=b) (by omega) (by omega) h
    clear e hys x0 x1
    cases hq:mergQ next a b with
    | none =>
      rw [hq] at m2
      simp only [Bz24,e1,e2,y0,y1,rzn_getD r1,m1,opt_getD r2,m2,optC,go_sem,yz0,xx9,xx8,xx6,xx7,xx5,xx0,xx1,xx2,reduceIte,xx3,xx4,reduceCtorEq]
      exact ⟨g0,g0,⟨ha,r1⟩,r1,g1,g1,⟨by omega,r2⟩,r2,rfl⟩
    | some w =>
      rw [hq] at m2 hne
      have hl:0<w.length:=List.length_pos_iff.2 fun e=>hne (by rw [e])
      simp only [Bz24,e1,e2,y0,y1,rzn_getD r1,m1,opt_getD r2,m2,optC,go_sem,yz0,xx9,xx8,xx6,xx7,xx5,xx0,xx1,xx2,reduceIte,xx3,xx4,reduceCtorEq]
      exact ⟨g0,g0,⟨ha,r1⟩,r1,g1,g1,⟨by omega,r2⟩,r2,.inr hl,rfl⟩
theorem k_stable_1 {n:Int} {next:List (List Int)} (A:Aut n next) (s t:Int) (hs:0≤s∧s<n) (ht:0≤t∧t<n) :
    Fun Try.prog nzz [iv s,iv t,autP n next,.rp [.ro none 1 (rzn (mergT next n.toNat n.toNat))] 0] (bv (stabQ next s t)):=by
  refine fun_of mixed czky rfl ⟨rfl,trivial⟩ ?_
  have n1:=A.n1
  have n2:=A.n2
  have hN:2 ^ n.toNat≤1024:=Nat.pow_le_pow_right (n:=2) (by omega) (show n.toNat≤10 by omega)
  have hf:=two_lt hs ht
  have hs0:¬ s<0:=by omega
  have ht0:¬ t<0:=by omega
  have hsl:=u_shl (b:=s.toNat) (by omega)
  have htl:=u_shl (b:=t.toNat) (by omega)
  have hps:=pow_lt10 (k:=s.toNat) (by omega)
  have hpt:=pow_lt10 (k:=t.toNat) (by omega)
  have hor:_=((twoN s t:Nat):Int):=u_orW (x:=2 ^ s.toNat) (y:=2 ^ t.toNat) (by omega) (by omega)
  simp only [Azfv,Bzfu,hs0,ht0,hsl,htl,hor,go_sem,yz0,xx9,xx8,xx6,xx7,xx5,xx0,xx1,xx2,reduceIte,xx3,xx4,reduceCtorEq]
  intro vs
  refine call_fn (k_tour n next A (twoN s t) hf) qCS (fun _=>⟨_,_,0,0,rfl,rfl⟩) ?_
  rintro rows res ⟨v1,v2,rfl,rfl⟩
  refine ⟨by simp,by rw [Option.getD_some,yzq];simp only [go_sem,yz0,xx9,xx8,xx6,xx7,xx5,xx0,xx1,xx2,reduceIte,xx3,xx4,reduceCtorEq],?_⟩
  have hT:=(runT_ok A 1100 0 _ (TI0 (m:=next.length) hf)).1
  simp only [Option.getD_some,Nat.not_lt_zero,range1,yz10,ren_any,ren_ro,rnNm_n,rnNm_sn,rnNm_o,rnNm_s,ren_st,ren_tup,yzs,yzh,yz7,yzw,yzv,yzr,yzp,yzu,yz8,yzb,yza,yze,yzn,yzl,yz3,yzf,yz9,yzd,yzk,yzm,List.range_zero,yz5,yz4,yzc,yzx,yzi,yzq,AVal.fresh,freshL,yz2,yzj,AObj.fresh,id,Option.isSome_some,or_true,true_or,go_sem,yz0,xx9,xx8,xx6,xx7,xx5,xx0,xx1,xx2,reduceIte,xx3,xx4,reduceCtorEq]
  have hx:=k_ContainsFuncF ((tourT next (twoN s t)).map (·.1)) nz8 [.rp [.ro none 1 (rzn (mergT next n.toNat n.toNat))] 0] (badF next) ⟨by simp only [go_sem,yz0,xx9,xx8,xx6,xx7,xx5,xx0,xx1,xx2,reduceIte,xx3,xx4,reduceCtorEq],by intros;simp only [coeL_rzn,rowIs,boxIs,coe_argN,coe_argNs,coe_ro_o,coeL_nil,yzt,coe_any,coe_val,coe_ro,coe_ro_nil,coe_ro_own,coe_st,coe_st_agg,coe_rp,coe_rp_ptr,coe_clo,coe_own0,coe_ptr0,yzy,coeL_rws,coeL_rwn,L_hit,L_miss,L_nil,xx3,ne_eq,reduceCtorEq,not_false_eq_true,true_and,and_true,and_self,exists_eq_left,exists_eq_right,List.mem_cons,List.not_mem_nil,or_false,AObj.row.injEq,AObj.box.injEq,exists_eq_left',exists_and_left,exists_eq,Nat.zero_lt_one,Nat.lt_add_one,List.map_cons,List.map_nil,AObj.ver,xx5,not_true_eq_false]⟩ (fun x hx=>by
    obtain ⟨p,hp,rfl⟩:=List.mem_map.1 hx
    have hw:IsW next.length p.2:=(hT.wd p hp).1
    have a0:=A.at (w:=p.2) hs hw
    have a1:=A.at (w:=p.2) ht hw
    rw [two_snd p hp,imN_two A hs ht hw]
    by_cases hl:atA next s p.2≤atA next t p.2
    · exact k_stable_1_1 A _ _ a0.1 hl a1.2
    · rw [twoN_comm];exact k_stable_1_1 A _ _ a1.1 (by omega) a0.2)
  have hx':Fun Try.prog nz10 [.ro none 1 (intsK .u64 (setsI (tourT next (twoN s t)))),.clo nz8 [.rp [.ro none 1 (rzn (mergT next n.toNat n.toNat))] 0]] (bv (((tourT next (twoN s t)).map (·.1)).any (badF next))):=by
    rw [List.map_map] at hx;exact hx
  refine yzo hx' (by simp only [coeL_rzn,rowIs,boxIs,coe_argN,coe_argNs,coe_ro_o,coeL_nil,yzt,coe_any,coe_val,coe_ro,coe_ro_nil,coe_ro_own,coe_st,coe_st_agg,coe_rp,coe_rp_ptr,coe_clo,coe_own0,coe_ptr0,yzy,coeL_rws,coeL_rwn,L_hit,L_miss,L_nil,xx3,ne_eq,reduceCtorEq,not_false_eq_true,true_and,and_true,and_self,exists_eq_left,exists_eq_right,List.mem_cons,List.not_mem_nil,or_false,AObj.row.injEq,AObj.box.injEq,exists_eq_left',exists_and_left,exists_eq,Nat.zero_lt_one,Nat.lt_add_one,List.map_cons,List.map_nil,AObj.ver,xx5,not_true_eq_false]) trivial ?_
  simp only [go_sem,yz0,xx9,xx8,xx6,xx7,xx5,xx0,xx1,xx2,reduceIte,xx3,xx4,reduceCtorEq]
  rfl
theorem k_stable (n:Int) (next:List (List Int)) (A:Aut n next) :
    Con Try.prog nzr [.row 0 1 true (rwn next)] [.st [iv n,.own 5000 0]] true
      fun outs rows res=>outs=[.row 0 1 true (rwn next)]∧∃ v,rows=[.row v 1 true (rws (pairsL n (stabQ next)))]∧res=.own 6000 v:=by
  refine con_sh mixed czkh rfl (by simp) ?_
  have n1:=A.n1
  have n2:=A.n2
  generalize hQ:finQ _=Q
  simp only [Az5d,Bzd6,go_sem,yz0,xx9,xx8,xx6,xx7,xx5,xx0,xx1,xx2,reduceIte,xx3,xx4,reduceCtorEq]
  intro vs vs3
  refine call_steG (R:=fun rows res=>∃ v,rows=[.row v 1 true (rzs (mergT next n.toNat n.toNat))]∧res=.own 6000 v) (k_mergesH n next A) rfl qCS rfl (of_eq_true coeL_rwn) ?_
  rintro rows res ⟨v,rfl,rfl⟩
  refine ⟨by simp,by rw [yzi];rfl,?_⟩
  rw [callHp_mr (by omega)]
  simp only [List.length_singleton,renL_rzs,Bzd5,Nat.not_lt_zero,range1,yz10,ren_any,ren_ro,rnNm_n,rnNm_sn,rnNm_o,rnNm_s,ren_st,ren_tup,yzs,yzh,yz7,yzw,yzv,yzr,yzp,yzu,yz8,yzb,yza,yze,yzn,yzl,yz3,yzf,yz9,yzd,yzk,yzm,List.range_zero,yz5,yz4,yzc,yzx,yzi,yzq,AVal.fresh,freshL,yz2,yzj,AObj.fresh,id,Option.isSome_some,or_true,true_or,go_sem,yz0,xx9,xx8,xx6,xx7,xx5,xx0,xx1,xx2,reduceIte,xx3,xx4,reduceCtorEq]
  generalize hf:sv (L .gone _) [5000] (vs3 1)=f
  have hf0:f 0=0:=by rw [← hf];simp [sv,AObj.ver,L]
  rw [hf0]
  intro vs4
  refine call_rowR (k_pairs n next nzz [autP n next,.rp [.ro none 1 (rzn (mergT next n.toNat n.toNat))] 0] (stabQ next) ⟨n1,n2⟩ ⟨by simp only [go_sem,yz0,xx9,xx8,xx6,xx7,xx5,xx0,xx1,xx2,reduceIte,xx3,xx4,reduceCtorEq],by intros;simp only [coeL_rzn,rowIs,boxIs,coe_argN,coe_argNs,coe_ro_o,coeL_nil,yzt,coe_any,coe_val,coe_ro,coe_ro_nil,coe_ro_own,coe_st,coe_st_agg,coe_rp,coe_rp_ptr,coe_clo,coe_own0,coe_ptr0,yzy,coeL_rws,coeL_rwn,L_hit,L_miss,L_nil,xx3,ne_eq,reduceCtorEq,not_false_eq_true,true_and,and_true,and_self,exists_eq_left,exists_eq_right,List.mem_cons,List.not_mem_nil,or_false,AObj.row.injEq,AObj.box.injEq,exists_eq_left',exists_and_left,exists_eq,Nat.zero_lt_one,Nat.lt_add_one,List.map_cons,List.map_nil,AObj.ver,xx5,not_true_eq_false]⟩ (fun s t h1 h2 h3=>k_stable_1 A s t (by omega) (by omega))) (by simp only [coeL_rzs,rowIs,boxIs,coe_argN,coe_argNs,coe_ro_o,coeL_nil,yzt,coe_any,coe_val,coe_ro,coe_ro_nil,coe_ro_own,coe_st,coe_st_agg,coe_rp,coe_rp_ptr,coe_clo,coe_own0,coe_ptr0,yzy,coeL_rws,coeL_rwn,L_hit,L_miss,L_nil,xx3,ne_eq,reduceCtorEq,not_false_eq_true,true_and,and_true,and_self,exists_eq_left,exists_eq_right,List.mem_cons,List.not_mem_nil,or_false,AObj.row.injEq,AObj.box.injEq,exists_eq_left',exists_and_left,exists_eq,Nat.zero_lt_one,Nat.lt_add_one,List.map_cons,List.map_nil,AObj.ver,xx5,not_true_eq_false]) rfl ⟨_,rfl⟩ ?_
  rintro xss vp rfl
  simp only [Az5d,← hQ,go_sem,yz0,xx9,xx8,xx6,xx7,xx5,xx0,xx1,xx2,reduceIte,xx3,xx4,reduceCtorEq]
  refine ⟨[8],by simp,by simp,by simp,?_⟩
  simp only [range1,List.length_singleton,Nat.not_lt_zero,range1,yz10,ren_any,ren_ro,rnNm_n,rnNm_sn,rnNm_o,rnNm_s,ren_st,ren_tup,yzs,yzh,yz7,yzw,yzv,yzr,yzp,yzu,yz8,yzb,yza,yze,yzn,yzl,yz3,yzf,yz9,yzd,yzk,yzm,List.range_zero,yz5,yz4,yzc,yzx,yzi,yzq,AVal.fresh,freshL,yz2,yzj,AObj.fresh,id,Option.isSome_some,or_true,true_or,go_sem,yz0,xx9,xx8,xx6,xx7,xx5,xx0,xx1,xx2,reduceIte,xx3,xx4,reduceCtorEq]
  exact ⟨_,rfl,rfl⟩
theorem k_StablePairs (n:Int) (next:List (List Int)) (A:Aut n next) :
    Con Try.prog nz33 [.row 0 1 true (rwn next)] [.st [iv n,.own 5000 0]] true
      fun outs rows res=>outs=[.row 0 1 true (rwn next)]∧∃ v,rows=[.row v 1 true (rws (pairsL n (stabQ next)))]∧res=.tup [.own 6000 v,iv 0]:=by
  refine con_sh mixed czk1 rfl (by simp) ?_
  have n1:=A.n1
  have n2:=A.n2
  have hv:autB n next=true:=autB_iff.2 A
  generalize hQ:finQ _=Q
  simp only [Az4h,Bzam,go_sem,yz0,xx9,xx8,xx6,xx7,xx5,xx0,xx1,xx2,reduceIte,xx3,xx4,reduceCtorEq]
  intro vs vs2
  refine yzo (k_Valid n next) qCS trivial ?_
  simp only [hv,Bzak,Bzal,go_sem,yz0,xx9,xx8,xx6,xx7,xx5,xx0,xx1,xx2,reduceIte,xx3,xx4,reduceCtorEq]
  intro vs3
  refine call_steG (R:=fun rows res=>∃ v,rows=[.row v 1 true (rws (pairsL n (stabQ next)))]∧res=.own 6000 v) (k_stable n next A) rfl qCS rfl (of_eq_true coeL_rwn) ?_
  rintro rows res ⟨v,rfl,rfl⟩
  refine ⟨by simp,by rw [yzi];rfl,?_⟩
  rw [callHp_mr (by omega)]
  simp only [List.length_singleton,Az4h,← hQ,Nat.not_lt_zero,range1,yz10,ren_any,ren_ro,rnNm_n,rnNm_sn,rnNm_o,rnNm_s,ren_st,ren_tup,yzs,yzh,yz7,yzw,yzv,yzr,yzp,yzu,yz8,yzb,yza,yze,yzn,yzl,yz3,yzf,yz9,yzd,yzk,yzm,List.range_zero,yz5,yz4,yzc,yzx,yzi,yzq,AVal.fresh,freshL,yz2,yzj,AObj.fresh,id,Option.isSome_some,or_true,true_or,go_sem,yz0,xx9,xx8,xx6,xx7,xx5,xx0,xx1,xx2,reduceIte,xx3,xx4,reduceCtorEq]
  generalize hf:sv (L .gone _) [5000] (vs3 1)=f
  have hf0:f 0=0:=by rw [← hf];simp [sv,AObj.ver,L]
  rw [hf0]
  refine ⟨[8],by simp,by simp,by simp,rfl,?_⟩
  simp only [range1,List.length_singleton,Nat.not_lt_zero,range1,yz10,ren_any,ren_ro,rnNm_n,rnNm_sn,rnNm_o,rnNm_s,ren_st,ren_tup,yzs,yzh,yz7,yzw,yzv,yzr,yzp,yzu,yz8,yzb,yza,yze,yzn,yzl,yz3,yzf,yz9,yzd,yzk,yzm,List.range_zero,yz5,yz4,yzc,yzx,yzi,yzq,AVal.fresh,freshL,yz2,yzj,AObj.fresh,id,Option.isSome_some,or_true,true_or,go_sem,yz0,xx9,xx8,xx6,xx7,xx5,xx0,xx1,xx2,reduceIte,xx3,xx4,reduceCtorEq]
  exact ⟨_,rfl,rfl⟩
theorem k_StableDivision (n:Int) (next:List (List Int)) (A:Aut n next) :
    Con Try.prog nz30 [.row 0 1 true (rwn next)] [.st [iv n,.own 5000 0]] true
      fun outs rows res=>outs=[.row 0 1 true (rwn next)]∧∃ v us ys,StD n next us∧TidP us ys∧ys.length=us.length∧rows=[.row v 1 true (ints ys)]∧res=.tup [.own 6000 v,iv 0]:=by
  refine con_sh mixed czjy rfl (by simp) ?_
  have n1:=A.n1
  have n2:=A.n2
  have hv:autB n next=true:=autB_iff.2 A
  generalize hQ:finQ _=Q
  simp only [Az4c,Bza9,go_sem,yz0,xx9,xx8,xx6,xx7,xx5,xx0,xx1,xx2,reduceIte,xx3,xx4,reduceCtorEq]
  intro vs vs2
  refine yzo (k_Valid n next) qCS trivial ?_
  simp only [hv,Bza1,Bza8,go_sem,yz0,xx9,xx8,xx6,xx7,xx5,xx0,xx1,xx2,reduceIte,xx3,xx4,reduceCtorEq]
  intro vs3
  refine call_rowI (k_all n next A) qCS qWS ⟨_,rfl⟩ ?_
  rintro xs v11 rfl
  simp only [Bza7,go_sem,yz0,xx9,xx8,xx6,xx7,xx5,xx0,xx1,xx2,reduceIte,xx3,xx4,reduceCtorEq]
  intro vs4
  refine call_steG (R:=fun rows res=>∃ v,rows=[.row v 1 true (rws (pairsL n (stabQ next)))]∧res=.own 6000 v) (k_stable n next A) rfl qCS rfl (of_eq_true coeL_rwn) ?_
  rintro rows res ⟨v,rfl,rfl⟩
  refine ⟨by simp,by rw [yzi];rfl,?_⟩
  rw [callHp_mr (by omega)]
  simp only [List.length_singleton,Bza5,Nat.not_lt_zero,range1,yz10,ren_any,ren_ro,rnNm_n,rnNm_sn,rnNm_o,rnNm_s,ren_st,ren_tup,yzs,yzh,yz7,yzw,yzv,yzr,yzp,yzu,yz8,yzb,yza,yze,yzn,yzl,yz3,yzf,yz9,yzd,yzk,yzm,List.range_zero,yz5,yz4,yzc,yzx,yzi,yzq,AVal.fresh,freshL,yz2,yzj,AObj.fresh,id,Option.isSome_some,or_true,true_or,go_sem,yz0,xx9,xx8,xx6,xx7,xx5,xx0,xx1,xx2,reduceIte,xx3,xx4,reduceCtorEq]
  generalize hf:sv (L .gone _) [5000] (vs4 1)=f
  have hf0:f 0=0:=by rw [← hf];simp [sv,AObj.ver,L]
  rw [hf0]
  intro hM
  have hP:∀ x,x∈pairsL n (stabQ next)↔∃ a b:Int,0≤a∧a<b∧b<n∧stabQ next a b=true∧x=[a,b]:=fun x=>pairsL_mem (by omega)
  have hPl:(pairsL n (stabQ next)).length≤100:=pairsL_len ⟨n1,n2⟩
  generalize pairsL n (stabQ next)=P at hP hPl
  have hal:((allS n).length:Int)=n:=by simp [allS];omega
  have hI0:StI n next [] (allS n):=by
    refine ⟨hal,fun t ht=>?_,fun t ht=>?_,fun a b h=>by simp at h⟩
    · rw [allS_getD2 (by omega)];omega
    · rw [allS_getD2 (by omega)];exact StabP.refl
  refine wpD_lo (fun (_,i)=>P.length - i) (fun (us,i)=>i≤P.length∧StI n next (P.take i) us)
    (fun ((us,i):List Int×Nat)=>⟨L .any [(4,.own 11 v11),(13,.own 13 (f v)),(14,iv P.length),(15,iv i)],L .gone [(1,.box (vs 0 0) [iv n,.own 5000 0]),(11,.row v11 1 true (ints us)),(13,.row (f v) 1 true (rws P)),(5000,.row 0 1 true (rwn next))]⟩)
    (allS n,0) ⟨by simp,hI0⟩ (by simp only [Bz19,go_sem,yz0,xx9,xx8,xx6,xx7,xx5,xx0,xx1,xx2,reduceIte,xx3,xx4,reduceCtorEq];try rfl) ?_
  rintro ⟨us,i⟩ ⟨hi,I⟩
  have hi:i≤P.length:=hi
  have I:StI n next (P.take i) us:=I
  have hul:=I.ln
  by_cases hlt:(i:Int)<P.length
  · have hlt1:i<P.length:=by omega
    obtain ⟨a,b,ha,hab,hb,hst,hg⟩:=(hP _).1 (yz6 hlt1 [])
    have ea:((a.toNat:Nat):Int)=a:=by omega
    have eb:((b.toNat:Nat):Int)=b:=by omega
    have w1:IntKind.i64.wrap ((i:Int)+1)=((i+1:Nat):Int):=by rw [w64 (by omega)];simp
    have g0:(0:Nat)<([a,b]:List Int).length:=by simp
    have g1:(1:Nat)<([a,b]:List Int).length:=by simp
    have r1:a.toNat<us.length:=by omega
    have r2:b.toNat<us.length:=by omega
    have htk:P.take (i+1)=P.take i ++ [[a,b]]:=by
      rw [List.take_succ_eq_append_getElem hlt1,← hg,List.getD_eq_getElem?_getD,List.getElem?_eq_getElem hlt1];rfl
    have I2:=I.step (a:=a.toNat) (b:=b.toNat) (by omega) (by omega) (by rw [ea,eb];exact (stab_iff A (by omega) (by omega)).1 hst)
    rw [ea,eb,← htk] at I2
    simp only [Bz19,Bz4b,Bza4,Bza2,Bza3,rws_getD hlt1,hg,yz1 g0,yz1 g1,yz1 r1,yz1 r2,decide_eq_true hlt,w1,go_sem,yz0,xx9,xx8,xx6,xx7,xx5,xx0,xx1,xx2,reduceIte,xx3,xx4,reduceCtorEq]
    have hmin:(if us.getD a.toNat 0<us.getD b.toNat 0 then us.getD a.toNat 0 else us.getD b.toNat 0)=min (us.getD b.toNat 0) (us.getD a.toNat 0):=by split <;> omega
    rw [hmin,dnL_put r2]
    exact ⟨⟨by omega,hlt1⟩,hlt1,⟨by omega,r2⟩,r2,⟨ha,r1⟩,r1,⟨by omega,r2⟩,by omega,(_,i+1),by dsimp only;omega,⟨by dsimp only;omega,I2⟩,rfl⟩
  · obtain rfl:i=P.length:=by omega
    have S:StD n next us:=I.done fun a b hab hb h=>by
      rw [List.take_length]
      exact (hP _).2 ⟨a,b,by omega,by omega,hb,(stab_iff A (by omega) (by omega)).2 h,rfl⟩
    simp only [Bz19,Bz4b,Bza6,decide_eq_false hlt,go_sem,yz0,xx9,xx8,xx6,xx7,xx5,xx0,xx1,xx2,reduceIte,xx3,xx4,reduceCtorEq]
    intro vs5
    refine call_rowI (k_numberedD us (by omega)) qCS qWS (tid_ex us) ?_
    rintro ys v39 ⟨T,hyl⟩
    simp only [Az4c,← hQ,go_sem,yz0,xx9,xx8,xx6,xx7,xx5,xx0,xx1,xx2,reduceIte,xx3,xx4,reduceCtorEq]
    refine ⟨[39],by simp,by simp,by simp,?_⟩
    simp only [range1,List.length_singleton,Nat.not_lt_zero,range1,yz10,ren_any,ren_ro,rnNm_n,rnNm_sn,rnNm_o,rnNm_s,ren_st,ren_tup,yzs,yzh,yz7,yzw,yzv,yzr,yzp,yzu,yz8,yzb,yza,yze,yzn,yzl,yz3,yzf,yz9,yzd,yzk,yzm,List.range_zero,yz5,yz4,yzc,yzx,yzi,yzq,AVal.fresh,freshL,yz2,yzj,AObj.fresh,id,Option.isSome_some,or_true,true_or,go_sem,yz0,xx9,xx8,xx6,xx7,xx5,xx0,xx1,xx2,reduceIte,xx3,xx4,reduceCtorEq]
    exact ⟨_,us,ys,S,T,hyl,rfl,rfl⟩
end Go.Ab
namespace Go.Ab
open Go.Proofs
theorem k_l02Set (f:Nat) (h:f<1024):RowI Try.prog nz3y [iv f] (fun ys=>ys=bitsTo f 10):=by
  refine rowI_of mixed czlm rfl ?_
  simp only [Azj9,Bzj8,go_sem,yz0,xx9,xx8,xx6,xx7,xx5,xx0,xx1,xx2,reduceIte,xx3,xx4,reduceCtorEq]
  intro vs
  simp only [Bzj7,Bzj5,go_sem,yz0,xx9,xx8,xx6,xx7,xx5,xx0,xx1,xx2,reduceIte,xx3,xx4,reduceCtorEq]
  refine wpD_lo (fun (_,s)=>10 - s) (fun (_,s)=>s≤10) (fun ((v,s):Nat×Nat)=>⟨L .any [(0,iv f),(3,.own 5 v),(4,iv s)],L .gone [(5,.row v 1 true (ints (bitsTo f s)))]⟩)
    (_,0) (by simp) (by simp only [Bzj,go_sem,yz0,xx9,xx8,xx6,xx7,xx5,xx0,xx1,xx2,reduceIte,xx3,xx4,reduceCtorEq];try rfl) ?_
  rintro ⟨v,s⟩ hs
  have hs:s≤10:=hs
  have hs0:¬ ((s:Nat):Int)<0:=by omega
  have h64:IntKind.u64.wrap (s:Int)=s:=u64w (by omega)
  have hsh:=u_shr (f:=f) (s:=s) (by omega)
  have hlt:f >>> s<4611686018427387904:=by rw [Nat.shiftRight_eq_div_pow];exact Nat.lt_of_le_of_lt (Nat.div_le_self _ _) (by omega)
  by_cases hz:(0:Int)<((f >>> s:Nat):Int)
  · have hs10:s<10:=by
      by_cases e:s<10
      · exact e
      · have:f >>> s=0:=shr_zero.2 (Nat.lt_of_lt_of_le (show f<2 ^ 10 from h) (Nat.pow_le_pow_right (by omega) (by omega)))
        omega
    have hand:=i_and1 hlt
    have hbit:((((f >>> s &&& 1:Nat):Int)) == 1)=f.testBit s:=by
      rw [Nat.testBit_eq_decide_div_mod_eq,Nat.and_one_is_mod,Nat.shiftRight_eq_div_pow,Bool.eq_iff_iff,beq_iff_eq,decide_eq_true_iff]
      generalize f / 2 ^ s % 2=q
      omega
    have w1:IntKind.i64.wrap ((s:Int)+1)=((s+1:Nat):Int):=by rw [w64 (by omega)];simp
    have hbl:=bitsTo_len (f:=f) (s:=s)
    cases hb:f.testBit s with
    | true =>
      rw [hb] at hbit
      have hr:bitsTo f s ++ [(s:Int)]=bitsTo f (s+1):=by rw [bitsTo_succ,if_pos hb]
      simp only [Bzj,Bz2q,Bz7v,Bz7t,Bz7u,h64,hs0,hsh,hand,hbit,w1,decide_eq_true hz,hr,go_sem,yz0,xx9,xx8,xx6,xx7,xx5,xx0,xx1,xx2,reduceIte,xx3,xx4,reduceCtorEq]
      exact fun vs2=>⟨⟨_,rfl,rfl⟩,by omega,(vs2 3 0,s+1),by dsimp only;omega,by dsimp only;omega,rfl⟩
    | false =>
      rw [hb] at hbit
      have hr:bitsTo f s=bitsTo f (s+1):=by rw [bitsTo_succ,if_neg (by simp [hb])]
      simp only [Bzj,Bz2q,Bz7v,Bz7t,Bz7u,h64,hs0,hsh,hand,hbit,w1,decide_eq_true hz,go_sem,yz0,xx9,xx8,xx6,xx7,xx5,xx0,xx1,xx2,reduceIte,xx3,xx4,reduceCtorEq]
      exact ⟨(v,s+1),by dsimp only;omega,by dsimp only;omega,by rw [hr]⟩
  · have hfz:f >>> s=0:=by generalize f >>> s=q at hz;omega
    have hr:bitsTo f s=bitsTo f 10:=by
      have h2:=bitsTo_add (shr_zero.1 hfz) (10 - s)
      rw [show s+(10 - s)=10 by omega] at h2
      exact h2.symm
    simp only [Bzj,Bz2q,Bzj6,h64,hs0,hsh,decide_eq_false hz,hr,go_sem,yz0,xx9,xx8,xx6,xx7,xx5,xx0,xx1,xx2,reduceIte,xx3,xx4,reduceCtorEq]
    exact ⟨5,v,_,by omega,rfl,by simp only [go_sem,yz0,xx9,xx8,xx6,xx7,xx5,xx0,xx1,xx2,reduceIte,xx3,xx4,reduceCtorEq],rfl⟩
def tabE (o:Option (List Int)):Int:=match o with
  | some w=>w.length
  | none=>-1
def tabW (next:List (List Int)) (s:Int) (j:Nat):List Int:=(List.range j).map fun t:Nat=>tabE (mergQ next s (t:Int))
def tabL (next:List (List Int)) (n i:Nat):List (List Int):=(List.range i).map fun s:Nat=>tabW next (s:Int) n
theorem tabW_succ {next:List (List Int)} {s:Int} {j:Nat}:tabW next s (j+1)=tabW next s j ++ [tabE (mergQ next s (j:Int))]:=by simp [tabW,List.range_succ]
theorem tabL_succ {next:List (List Int)} {n i:Nat}:tabL next n (i+1)=tabL next n i ++ [tabW next (i:Int) n]:=by simp [tabL,List.range_succ]
theorem tabW_len {next:List (List Int)} {s:Int} {j:Nat}:(tabW next s j).length=j:=by simp [tabW]
theorem tabL_len {next:List (List Int)} {n i:Nat}:(tabL next n i).length=i:=by simp [tabL]
theorem tabW_getD {next:List (List Int)} {s:Int} {j t:Nat} (h:t<j):(tabW next s j).getD t 0=tabE (mergQ next s (t:Int)):=by
  unfold tabW
  rw [List.getD_eq_getElem?_getD,List.getElem?_map,List.getElem?_range h];rfl
theorem tabL_getD {next:List (List Int)} {n i s:Nat} (h:s<i):(tabL next n i).getD s []=tabW next (s:Int) n:=by
  unfold tabL
  rw [List.getD_eq_getElem?_getD,List.getElem?_map,List.getElem?_range h];rfl
theorem k_l02Table (n:Int) (next:List (List Int)) (A:Aut n next):RowR Try.prog nz3u [autP n next] (fun xss=>xss=tabL next n.toNat n.toNat):=by
  refine rowR_of mixed czlh rfl ?_
  have n1:=A.n1
  have n2:=A.n2
  simp only [Azi8,Bzi7,go_sem,yz0,xx9,xx8,xx6,xx7,xx5,xx0,xx1,xx2,reduceIte,xx3,xx4,reduceCtorEq]
  intro vs
  simp only [Bzi6,Bzi4,go_sem,yz0,xx9,xx8,xx6,xx7,xx5,xx0,xx1,xx2,reduceIte,xx3,xx4,reduceCtorEq]
  refine wpD_lo (fun (_,i)=>n.toNat - i) (fun (_,i)=>i≤n.toNat)
    (fun ((v,i):Nat×Nat)=>⟨L .any [(0,autP n next),(3,.own 9 v),(4,iv i)],L .gone [(9,.row v 1 true (rws (tabL next n.toNat i)))]⟩)
    (_,0) (by simp) (by simp only [Bz2g,go_sem,yz0,xx9,xx8,xx6,xx7,xx5,xx0,xx1,xx2,reduceIte,xx3,xx4,reduceCtorEq];try rfl) ?_
  rintro ⟨v,i⟩ hi
  have hi:i≤n.toNat:=hi
  by_cases hlt:(i:Int)<n
  · have wi:IntKind.i64.wrap ((i:Int)+1)=((i+1:Nat):Int):=by rw [w64 (by omega)];simp
    simp only [Bz2g,Bz7d,Bzi3,decide_eq_true hlt,go_sem,yz0,xx9,xx8,xx6,xx7,xx5,xx0,xx1,xx2,reduceIte,xx3,xx4,reduceCtorEq]
    intro vs2
    simp only [Bzi1,Bzhz,go_sem,yz0,xx9,xx8,xx6,xx7,xx5,xx0,xx1,xx2,reduceIte,xx3,xx4,reduceCtorEq]
    refine wpD_lo (fun (_,j)=>n.toNat - j) (fun (_,j)=>j≤n.toNat)
      (fun ((u,j):Nat×Nat)=>⟨L .any [(0,autP n next),(3,.own 9 v),(4,iv i),(5,.own 18 u),(6,iv j)],L .gone [(9,.row v 1 true (rws (tabL next n.toNat i))),(18,.row u 1 true (ints (tabW next (i:Int) j)))]⟩)
      (_,0) (by simp) (by simp only [Bz2f,go_sem,yz0,xx9,xx8,xx6,xx7,xx5,xx0,xx1,xx2,reduceIte,xx3,xx4,reduceCtorEq];try rfl) ?_
    rintro ⟨u,j⟩ hj
    have hj:j≤n.toNat:=hj
    by_cases hlj:(j:Int)<n
    · have wj:IntKind.i64.wrap ((j:Int)+1)=((j+1:Nat):Int):=by rw [w64 (by omega)];simp
      have i64':IntKind.u64.wrap (i:Int)=i:=u64w (by omega)
      have j64:IntKind.u64.wrap (j:Int)=j:=u64w (by omega)
      have i0:¬ (i:Int)<0:=by omega
      have j0:¬ (j:Int)<0:=by omega
      have si:=i_shl (b:=i) (by omega)
      have sj:=i_shl (b:=j) (by omega)
      have pi:=pow_lt10 (k:=i) (by omega)
      have pj:=pow_lt10 (k:=j) (by omega)
      have hor:_=((twoN i j:Nat):Int):=i_or (x:=2 ^ i) (y:=2 ^ j) (by omega) (by omega)
      simp only [Bz2f,Bz7e,Bzhy,i64',j64,i0,j0,si,sj,hor,Int.toNat_natCast,decide_eq_true hlj,go_sem,yz0,xx9,xx8,xx6,xx7,xx5,xx0,xx1,xx2,reduceIte,xx3,xx4,reduceCtorEq]
      intro vs3
      refine call_fn (k_l02Shrink n next A (twoN i j) (two_lt (by omega) (by omega))) qCS (fun e=>by cases e) ?_
      rintro rows res ⟨vw,rfl,rfl⟩
      refine ⟨by simp,by rw [Option.getD_some,yzi];simp only [go_sem,yz0,xx9,xx8,xx6,xx7,xx5,xx0,xx1,xx2,reduceIte,xx3,xx4,reduceCtorEq],?_⟩
      have hm:mergQ next (i:Int) (j:Int)=(firstT (tourT next (twoN i j))).map (·.2):=rfl
      cases hq:firstT (tourT next (twoN (i:Int) (j:Int))) with
      | some p =>
        rw [hq] at hm
        simp only [Option.getD_some,Bz7g,Bz7f,Bz7h,Option.map_some,Option.isSome_some,wj,Nat.not_lt_zero,range1,yz10,ren_any,ren_ro,rnNm_n,rnNm_sn,rnNm_o,rnNm_s,ren_st,ren_tup,yzs,yzh,yz7,yzw,yzv,yzr,yzp,yzu,yz8,yzb,yza,yze,yzn,yzl,yz3,yzf,yz9,yzd,yzk,yzm,List.range_zero,yz5,yz4,yzc,yzx,yzi,yzq,AVal.fresh,freshL,yz2,yzj,AObj.fresh,id,Option.isSome_some,or_true,true_or,go_sem,yz0,xx9,xx8,xx6,xx7,xx5,xx0,xx1,xx2,reduceIte,xx3,xx4,reduceCtorEq]
        have hsn:tabW next (i:Int) (j+1)=tabW next (i:Int) j ++ [(p.snd.length:Int)]:=by rw [tabW_succ,hm];rfl
        exact fun vs4 _=>⟨⟨_,rfl,rfl⟩,by rw [tabW_len];omega,(vs4 4 0,j+1),by dsimp only;omega,by dsimp only;omega,by rw [hsn]⟩
      | none =>
        rw [hq] at hm
        simp only [Option.getD_some,Bz7g,Bz7f,Bz7h,Option.map_none,Option.isSome_none,wj,Nat.not_lt_zero,range1,yz10,ren_any,ren_ro,rnNm_n,rnNm_sn,rnNm_o,rnNm_s,ren_st,ren_tup,yzs,yzh,yz7,yzw,yzv,yzr,yzp,yzu,yz8,yzb,yza,yze,yzn,yzl,yz3,yzf,yz9,yzd,yzk,yzm,List.range_zero,yz5,yz4,yzc,yzx,yzi,yzq,AVal.fresh,freshL,yz2,yzj,AObj.fresh,id,Option.isSome_some,or_true,true_or,go_sem,yz0,xx9,xx8,xx6,xx7,xx5,xx0,xx1,xx2,reduceIte,xx3,xx4,reduceCtorEq]
        have hsn:tabW next (i:Int) (j+1)=tabW next (i:Int) j ++ [-1]:=by rw [tabW_succ,hm];rfl
        exact fun vs4=>⟨⟨_,rfl,rfl⟩,by rw [tabW_len];omega,(vs4 2 0,j+1),by dsimp only;omega,by dsimp only;omega,by rw [hsn]⟩
    · obtain rfl:j=n.toNat:=by omega
      simp only [Bz2f,Bz7e,Bzi0,Bzi2,wi,decide_eq_false hlj,go_sem,yz0,xx9,xx8,xx6,xx7,xx5,xx0,xx1,xx2,reduceIte,xx3,xx4,reduceCtorEq]
      exact fun vs4=>⟨by rw [tabL_len];omega,(vs4 3 0,i+1),by dsimp only;omega,by dsimp only;omega,by rw [tabL_succ]⟩
  · obtain rfl:i=n.toNat:=by omega
    simp only [Bz2g,Bz7d,Bzi5,decide_eq_false hlt,go_sem,yz0,xx9,xx8,xx6,xx7,xx5,xx0,xx1,xx2,reduceIte,xx3,xx4,reduceCtorEq]
    exact ⟨9,v,_,by omega,rfl,by simp only [go_sem,yz0,xx9,xx8,xx6,xx7,xx5,xx0,xx1,xx2,reduceIte,xx3,xx4,reduceCtorEq],rfl⟩
theorem k_l02Steady (n:Int) (next:List (List Int)) (A:Aut n next) (s t:Int) (hs:0≤s∧s<n) (ht:0≤t∧t<n) :
    Fun Try.prog nz3v [autP n next,.ro none 1 (rwn (tabL next n.toNat n.toNat)),iv s,iv t] (bv (stabQ next s t)):=by
  refine fun_of mixed czli rfl ⟨rfl,trivial⟩ ?_
  have n1:=A.n1
  have n2:=A.n2
  have hN:2 ^ n.toNat≤1024:=Nat.pow_le_pow_right (n:=2) (by omega) (show n.toNat≤10 by omega)
  have hf:=two_lt hs ht
  have es:((s.toNat:Nat):Int)=s:=by omega
  have et:((t.toNat:Nat):Int)=t:=by omega
  have s64:IntKind.u64.wrap s=s:=by rw [← es];exact u64w (by omega)
  have t64:IntKind.u64.wrap t=t:=by rw [← et];exact u64w (by omega)
  have s0:¬ s<0:=by omega
  have t0:¬ t<0:=by omega
  have si:=i_shl (b:=s.toNat) (by omega)
  have sj:=i_shl (b:=t.toNat) (by omega)
  have pi:=pow_lt10 (k:=s.toNat) (by omega)
  have pj:=pow_lt10 (k:=t.toNat) (by omega)
  have hor:_=((twoN s t:Nat):Int):=i_or (x:=2 ^ s.toNat) (y:=2 ^ t.toNat) (by omega) (by omega)
  simp only [Azie,Bzid,s64,t64,s0,t0,si,sj,hor,go_sem,yz0,xx9,xx8,xx6,xx7,xx5,xx0,xx1,xx2,reduceIte,xx3,xx4,reduceCtorEq]
  intro vs
  refine call_fn (k_l02From n next A (twoN s t) hf) qCS (fun e=>by cases e) ?_
  rintro rows res ⟨v0,va,vb,vc,B,C,hB,rfl,rfl⟩
  have hT:=(runT_ok A 1100 0 _ (TI0 (m:=next.length) hf)).1
  refine ⟨by simp,by rw [Option.getD_some,gone_four];simp only [go_sem,yz0,xx9,xx8,xx6,xx7,xx5,xx0,xx1,xx2,reduceIte,xx3,xx4,reduceCtorEq],?_⟩
  simp only [Option.getD_some,callHp_four,ren_own_r3,Bzic,Bzia,Nat.not_lt_zero,range1,yz10,ren_any,ren_ro,rnNm_n,rnNm_sn,rnNm_o,rnNm_s,ren_st,ren_tup,yzs,yzh,yz7,yzw,yzv,yzr,yzp,yzu,yz8,yzb,yza,yze,yzn,yzl,yz3,yzf,yz9,yzd,yzk,yzm,List.range_zero,yz5,yz4,yzc,yzx,yzi,yzq,AVal.fresh,freshL,yz2,yzj,AObj.fresh,id,Option.isSome_some,or_true,true_or,go_sem,yz0,xx9,xx8,xx6,xx7,xx5,xx0,xx1,xx2,reduceIte,xx3,xx4,reduceCtorEq]
  have hl:=hT.len
  have hsl:(setsI (tourT next (twoN s t))).length=(tourT next (twoN s t)).length:=by simp
  have hst:stabQ next s t=!(((tourT next (twoN s t)).map (·.1)).any (badF next)):=rfl
  have hbx:∀ p∈tourT next (twoN s t),∃ a b:Int,0≤a∧a≤b∧b<n∧p.1=twoN a b:=fun p hp=>by
    have hw:IsW next.length p.2:=(hT.wd p hp).1
    have a0:=A.at (w:=p.2) hs hw
    have a1:=A.at (w:=p.2) ht hw
    rw [two_snd p hp,imN_two A hs ht hw]
    by_cases hl:atA next s p.2≤atA next t p.2
    · exact ⟨_,_,a0.1,hl,a1.2,rfl⟩
    · exact ⟨_,_,a1.1,by omega,a0.2,twoN_comm _ _⟩
  rw [hst]
  have hll:(tourT next (twoN s t)).length≤1024:=by have h:=hT.len;exact Nat.le_trans h (by omega)
  clear hst hT
  generalize tourT next (twoN s t)=T at hbx hsl hll hB
  refine wpD_lo (fun i=>T.length - i) (fun i=>i≤T.length∧∀ j<i,badF next (T.getD j (0,[])).1=false)
    (fun i:Nat=>⟨Go.Ab.L .any [(1,.ro none 1 (rwn (tabL next n.toNat n.toNat))),(9,.ptr 20 (vs 8 v0) 0),(10,iv i)],Go.Ab.L .gone [(20,.box (vs 8 v0) [.own 1020 (vs 8 va),.own 2020 (vs 8 vb),.own 3020 (vs 8 vc)]),(1020,.row (vs 8 va) 1 true (ints (setsI T))),(2020,.row (vs 8 vb) 1 true (ints B)),(3020,.row (vs 8 vc) 1 true (ints C))]⟩)
    0 ⟨by simp,by simp⟩ (by simp only [Bz2k,go_sem,yz0,xx9,xx8,xx6,xx7,xx5,xx0,xx1,xx2,reduceIte,xx3,xx4,reduceCtorEq];try rfl) ?_
  rintro i ⟨hi,hj⟩
  by_cases hlt:(i:Int)<T.length
  · have hlt1:i<T.length:=by omega
    have hls:i<(setsI T).length:=by omega
    obtain ⟨a,b,g1,g2,g3,g4⟩:=hbx _ (yz6 hlt1 (0,[]))
    have hfl:twoN a b<2 ^ n.toNat:=two_lt (by omega) (by omega)
    have ea:((a.toNat:Nat):Int)=a:=by omega
    have eb:((b.toNat:Nat):Int)=b:=by omega
    have hbad:=bad_two (next:=next) n2 (a:=a) (b:=b) (by omega) (by omega)
    have hdl:(i:Int)<(setsI T).length:=by omega
    simp only [Bz2k,Bz7i,Bzi9,List.length_map,yz1 hls,setsI_getD hlt1,g4,decide_eq_true hlt,go_sem,yz0,xx9,xx8,xx6,xx7,xx5,xx0,xx1,xx2,reduceIte,xx3,xx4,reduceCtorEq]
    intro hM vs2
    refine ⟨⟨by omega,hlt1⟩,hlt1,?_⟩
    refine call_rowI (k_l02Set (twoN a b) (by omega)) qCS qWS ⟨_,rfl⟩ ?_
    rintro ys v hys
    by_cases h:a=b
    · subst h
      have e:ys=[a]:=by rw [hys,← ea];exact bits_one a.toNat (by omega)
      have e1:((ys.length:Int) == 2)=false:=by rw [e];rfl
      have hb0:badF next (T.getD i (0,[])).1=false:=by rw [g4,hbad];simp
      clear e hys
      simp only [Bz2i,Bz2h,Bz2j,e1,nat1 i _ hlt1 hM,go_sem,yz0,xx9,xx8,xx6,xx7,xx5,xx0,xx1,xx2,reduceIte,xx3,xx4,reduceCtorEq]
      exact ⟨i+1,by omega,⟨by omega,fun j hji=>by
        by_cases e:j=i
        · rw [e];exact hb0
        · exact hj j (by omega)⟩,rfl⟩
    · have e:ys=[a,b]:=by rw [hys,← ea,← eb];exact bits_two a.toNat (by omega) b.toNat (by omega) (by omega)
      have e1:((ys.length:Int) == 2)=true:=by rw [e];rfl
      have q0:0<ys.length:=by rw [e];simp
      have q1:1<ys.length:=by rw [e];simp
      have x0:ys.getD 0 0=a:=by rw [e];rfl
      have x1:ys.getD 1 0=b:=by rw [e];rfl
      have y0:=yz1 (k:=.i64) q0
      have y1:=yz1 (k:=.i64) q1
      rw [x0] at y0
      rw [x1] at y1
      have hlen:=tabL_len (next:=next) (n:=n.toNat) (i:=n.toNat)
      have r1:a.toNat<(tabL next n.toNat n.toNat).length:=by omega
      have m1:(tabL next n.toNat n.toNat).getD a.toNat []=tabW next a n.toNat:=by rw [tabL_getD (by omega),ea]
      have r2:b.toNat<(tabW next a n.toNat).length:=by rw [tabW_len];omega
      have m2:(tabW next a n.toNat).getD b.toNat 0=tabE (mergQ next a b):=by rw [tabW_getD (by omega),eb]
      have e2:decide (a=b)=false:=decide_eq_false h
      clear e hys x0 x1
      cases hq:mergQ next a b with
      | none =>
        rw [hq] at m2 hbad
        have hd:decide (tabE none<0)=true:=rfl
        have hb0:badF next (T.getD i (0,[])).1=true:=by rw [g4,hbad,e2];rfl
        have hany:(T.map (·.1)).any (badF next)=true:=List.any_eq_true.2 ⟨_,List.mem_map.2 ⟨_,yz6 hlt1 (0,[]),rfl⟩,hb0⟩
        simp only [Bz2i,Bz2h,Bz2j,e1,y0,y1,rwn_getD r1,m1,yz1 r2,m2,hd,hany,Bool.not_true,go_sem,yz0,xx9,xx8,xx6,xx7,xx5,xx0,xx1,xx2,reduceIte,xx3,xx4,reduceCtorEq]
        exact ⟨q0,q0,⟨g1,r1⟩,r1,q1,q1,⟨by omega,r2⟩,r2⟩
      | some w =>
        rw [hq] at m2 hbad
        have hd:decide (tabE (some w)<0)=false:=decide_eq_false (by simp only [tabE];omega)
        have hb0:badF next (T.getD i (0,[])).1=false:=by rw [g4,hbad];simp
        simp only [Bz2i,Bz2h,Bz2j,e1,y0,y1,rwn_getD r1,m1,yz1 r2,m2,hd,nat1 i _ hlt1 hM,go_sem,yz0,xx9,xx8,xx6,xx7,xx5,xx0,xx1,xx2,reduceIte,xx3,xx4,reduceCtorEq]
        exact ⟨q0,q0,⟨g1,r1⟩,r1,q1,q1,⟨by omega,r2⟩,r2,i+1,by omega,⟨by omega,fun j hji=>by
          by_cases e:j=i
          · rw [e];exact hb0
          · exact hj j (by omega)⟩,rfl⟩
  · obtain rfl:i=T.length:=by omega
    have hany:(T.map (·.1)).any (badF next)=false:=by
      rw [List.any_eq_false]
      intro f hf
      obtain ⟨p,hp,rfl⟩:=List.mem_map.1 hf
      obtain ⟨j,hjl,rfl⟩:=List.mem_iff_getElem.1 hp
      have:=hj j hjl
      rw [List.getD_eq_getElem?_getD,List.getElem?_eq_getElem hjl,Option.getD_some] at this
      simp [this]
    simp only [Bz2k,Bz7i,Bzib,List.length_map,decide_eq_false hlt,hany,Bool.not_false,go_sem,yz0,xx9,xx8,xx6,xx7,xx5,xx0,xx1,xx2,reduceIte,xx3,xx4,reduceCtorEq]
theorem allS_getD3 {n:Int} {i:Nat} (h:(i:Int)<n):(allS n).getD i 0=i:=by
  unfold allS
  rw [List.getD_eq_getElem?_getD,List.getElem?_map,List.getElem?_range (by omega)];rfl
theorem k_l01Merge (cl:List Int) (a b:Int):Con Try.prog nz3m [.row 0 1 true (ints cl)] [.own 5000 0,iv a,iv b] true
    fun outs rows res=>outs=[.row 0 1 true (ints (repI a b cl))]∧rows=[]∧res=.tup []:=by
  refine con_sh mixed czl6 rfl (by simp) ?_
  generalize hQ:finQ _=Q
  simp only [Az77,Bzgt,go_sem,yz0,xx9,xx8,xx6,xx7,xx5,xx0,xx1,xx2,reduceIte,xx3,xx4,reduceCtorEq]
  refine wpD_lo (fun i=>cl.length - i) (fun i=>i≤cl.length)
    (fun i:Nat=>⟨L .any [(0,.own 5000 0),(1,iv a),(2,iv b),(6,iv i)],L .gone [(5000,.row 0 1 true (ints (repI a b (cl.take i) ++ cl.drop i)))]⟩)
    0 (by simp) (by simp only [Bzi,List.take_zero,List.drop_zero,repI,List.map_nil,go_sem,yz0,xx9,xx8,xx6,xx7,xx5,xx0,xx1,xx2,reduceIte,xx3,xx4,reduceCtorEq];try rfl) ?_
  intro i hi
  have hxl:(repI a b (cl.take i) ++ cl.drop i).length=cl.length:=by simp [repI];omega
  by_cases hlt:(i:Int)<cl.length
  · have hlt1:i<cl.length:=by omega
    obtain ⟨R,E,e1,e2,e3⟩:=rep_split (a:=a) (b:=b) hlt1
    have hrl:i<(R ++ cl.getD i 0 :: E).length:=by simp;omega
    have hgi:(R ++ cl.getD i 0 :: E).getD i 0=cl.getD i 0:=by
      rw [List.getD_eq_getElem?_getD,List.getElem?_append_right (by omega),show i - R.length=0 by omega];rfl
    have hgc:=yz1 (k:=.i64) hrl
    rw [hgi] at hgc
    rw [e1] at hxl
    have hdl:(i:Int)<(R ++ cl.getD i 0 :: E).length:=by omega
    by_cases hc:cl.getD i 0=a
    · have hcb:(cl.getD i 0 == a)=true:=beqT hc
      rw [if_pos hc] at e3
      simp only [e1,Bzi,Bz2b,Bz76,Bz74,Bz75,hgc,hcb,decide_eq_true hdl,go_sem,yz0,xx9,xx8,xx6,xx7,xx5,xx0,xx1,xx2,reduceIte,xx3,xx4,reduceCtorEq]
      intro hM
      rw [nat1 i _ hrl hM]
      refine ⟨⟨by omega,hrl⟩,hrl,⟨by omega,hrl⟩,by omega,i+1,by omega,by omega,?_⟩
      have t1:List.take i (intsK .i64 (R ++ cl.getD i 0 :: E))=intsK .i64 R:=by rw [← e2];simp [intsK]
      have t2:List.drop (i+1) (intsK .i64 (R ++ cl.getD i 0 :: E))=intsK .i64 E:=by
        have:R ++ cl.getD i 0 :: E=(R ++ [cl.getD i 0]) ++ E:=by simp
        rw [this,intsK_drop,List.drop_left' (by simp;omega)]
      have t3:intsK .i64 R ++ [AVal.val (Value.int IntKind.i64 b)] ++ intsK .i64 E=intsK .i64 (R ++ b :: E):=by simp [intsK]
      rw [e3,t1,t2]
      simp only [dnL_ints,t3]
    · have hcb:(cl.getD i 0 == a)=false:=beqF hc
      rw [if_neg hc] at e3
      simp only [e1,Bzi,Bz2b,Bz76,Bz74,Bz75,hgc,hcb,decide_eq_true hdl,go_sem,yz0,xx9,xx8,xx6,xx7,xx5,xx0,xx1,xx2,reduceIte,xx3,xx4,reduceCtorEq]
      intro hM
      rw [nat1 i _ hrl hM]
      refine ⟨⟨by omega,hrl⟩,hrl,i+1,by omega,by omega,?_⟩
      rw [e3]
  · obtain rfl:i=cl.length:=by omega
    have hdl:¬ ((cl.length:Nat):Int)<(repI a b cl).length:=by rw [repI_len];omega
    simp only [Bzi,Bz2b,rep_all,decide_eq_false hdl,Az77,← hQ,go_sem,yz0,xx9,xx8,xx6,xx7,xx5,xx0,xx1,xx2,reduceIte,xx3,xx4,reduceCtorEq]
    intro _
    refine ⟨[],by simp,by simp,by simp,?_,rfl,rfl⟩
    simp only [List.range_zero,List.nil_append,List.map_cons,List.map_nil,Nat.not_lt_zero,range1,yz10,ren_any,ren_ro,rnNm_n,rnNm_sn,rnNm_o,rnNm_s,ren_st,ren_tup,yzs,yzh,yz7,yzw,yzv,yzr,yzp,yzu,yz8,yzb,yza,yze,yzn,yzl,yz3,yzf,yz9,yzd,yzk,yzm,List.range_zero,yz5,yz4,yzc,yzx,yzi,yzq,AVal.fresh,freshL,yz2,yzj,AObj.fresh,id,Option.isSome_some,or_true,true_or,go_sem,yz0,xx9,xx8,xx6,xx7,xx5,xx0,xx1,xx2,reduceIte,xx3,xx4,reduceCtorEq]
theorem call_rowX {P:Program} {σ:St} {g:FuncId} {As xs:List AVal} {d:Option Nat} {s:Nat→Nat} {K:St→Prop} {r v:Nat} {cs cs':List AVal} {nn:Bool} {R:List AObj→List AObj→AVal→Prop}
    (h:Con P g [.row 0 1 nn cs'] (.own 5000 0 :: xs) true R) (hr:σ.hp r=.row v 1 nn cs) (hco:CoeL σ.hp [r] false cs' cs) (hxs:CoeL σ.hp [r] false xs xs) (hA:As=.own r v :: xs)
    (hk:∀ outs rows res,R outs rows res→rows=[]∧∃ o,outs=[o]∧K (St.put ⟨σ.tm,upd σ.hp r (o.ren (rid [r] (d.getD 0) 0) (sv σ.hp [r] s))⟩ d (res.ren (rid [r] (d.getD 0) 0) (sv σ.hp [r] s)))) :
    wpCall P false σ g As d s K:=by
  subst hA
  refine .inl ⟨[r],[.row 0 1 nn cs'],.own 5000 0 :: xs,true,R,h,⟨by simp,rfl,by simp,by simp [hr],?_⟩,?_,(fun e=>by cases e),?_⟩
  · intro j B r' hB hr'
    cases j with
    | succ j=>simp at hB
    | zero =>
      simp at hB hr';subst hB;subst hr'
      simp only [ObjCoe,hr]
      exact ⟨trivial,v,cs,rfl,hco⟩
  · rw [yzt]
    refine ⟨?_,hxs⟩
    simp only [Coe]
    exact ⟨0,r,v,rfl,rfl,rfl,rfl,by rw [hr];rfl⟩
  · intro outs rows res hR
    obtain ⟨rfl,o,rfl,hK⟩:=hk outs rows res hR
    refine ⟨rfl,by simp,by simp,?_⟩
    rw [callHp_m]
    exact hK
theorem k_l02Stable (n:Int) (next:List (List Int)) (A:Aut n next):RowR Try.prog nz3l [autP n next] (fun xss=>xss=pairsL n (stabQ next)):=by
  refine rowR_of mixed czl5 rfl ?_
  have n1:=A.n1
  have n2:=A.n2
  have hpl:=pairsL_len ⟨n1,n2⟩ (p:=stabQ next)
  simp only [Azgs,Bzgr,go_sem,yz0,xx9,xx8,xx6,xx7,xx5,xx0,xx1,xx2,reduceIte,xx3,xx4,reduceCtorEq]
  intro vs
  refine call_rowR (k_l02Table n next A) qCS rfl ⟨_,rfl⟩ ?_
  rintro xss vt rfl
  simp only [Bzgq,go_sem,yz0,xx9,xx8,xx6,xx7,xx5,xx0,xx1,xx2,reduceIte,xx3,xx4,reduceCtorEq]
  intro vs2
  simp only [Bzgp,Bzgn,go_sem,yz0,xx9,xx8,xx6,xx7,xx5,xx0,xx1,xx2,reduceIte,xx3,xx4,reduceCtorEq]
  refine wpD_lo (fun (_,_,s)=>n.toNat - s) (fun (_,acc,s)=>(s:Int)≤n∧acc ++ pall (stabQ next) n s (n.toNat - s)=pairsL n (stabQ next))
    (fun ((v,acc,s):Nat×List (List Int)×Nat)=>⟨L .any [(0,autP n next),(3,.own 8 vt),(4,.own 9 v),(5,iv s)],L .gone [(8,.row vt 1 true (rws (tabL next n.toNat n.toNat))),(9,.row v 1 true (rws acc))]⟩)
    (_,[],0) ⟨by omega,rfl⟩ (by simp only [Bz2a,go_sem,yz0,xx9,xx8,xx6,xx7,xx5,xx0,xx1,xx2,reduceIte,xx3,xx4,reduceCtorEq];try rfl) ?_
  rintro ⟨v,acc,s⟩ ⟨hs,hacc⟩
  have hs:(s:Int)≤n:=hs
  by_cases hlt:(s:Int)<n
  · have w0:IntKind.i64.wrap ((s:Int)+1)=((s+1:Nat):Int):=by rw [w64 (by omega)];omega
    have e1:n.toNat - s=(n.toNat - (s+1))+1:=by omega
    rw [e1] at hacc
    simp only [pall] at hacc
    simp only [Bz2a,Bz70,Bzgm,Bzgk,w0,decide_eq_true hlt,go_sem,yz0,xx9,xx8,xx6,xx7,xx5,xx0,xx1,xx2,reduceIte,xx3,xx4,reduceCtorEq]
    refine wpD_lo (fun (_,_,t)=>n.toNat - t) (fun (_,acc',t)=>(t:Int)≤n∧s<t∧acc' ++ (prow (stabQ next) s t (n - t).toNat ++ pall (stabQ next) n ((s:Int)+1) (n.toNat - (s+1)))=pairsL n (stabQ next))
      (fun ((v,acc',t):Nat×List (List Int)×Nat)=>⟨L .any [(0,autP n next),(3,.own 8 vt),(4,.own 9 v),(5,iv s),(6,iv t)],L .gone [(8,.row vt 1 true (rws (tabL next n.toNat n.toNat))),(9,.row v 1 true (rws acc'))]⟩)
      (_,acc,s+1) ⟨by omega,by omega,hacc⟩ (by simp only [Bz29,go_sem,yz0,xx9,xx8,xx6,xx7,xx5,xx0,xx1,xx2,reduceIte,xx3,xx4,reduceCtorEq];try rfl) ?_
    rintro ⟨v',acc',t⟩ ⟨ht,hst,hacc'⟩
    have ht:(t:Int)≤n:=ht
    have hst:s<t:=hst
    have w1:IntKind.i64.wrap ((t:Int)+1)=((t+1:Nat):Int):=by rw [w64 (by omega)];omega
    by_cases hlt2:(t:Int)<n
    · have e2:(n - (t:Int)).toNat=(n - ((t+1:Nat):Int)).toNat+1:=by omega
      have e3:((t+1:Nat):Int)=(t:Int)+1:=by omega
      rw [e2] at hacc'
      simp only [prow] at hacc'
      simp only [Bz29,Bz71,Bzgj,decide_eq_true hlt2,go_sem,yz0,xx9,xx8,xx6,xx7,xx5,xx0,xx1,xx2,reduceIte,xx3,xx4,reduceCtorEq]
      intro vs3
      refine yzo (k_l02Steady n next A s t (by omega) (by omega)) qCS trivial ?_
      cases hp:stabQ next s t with
      | true =>
        rw [hp,if_pos rfl] at hacc'
        have hal:acc'.length≤100:=by rw [← hacc',List.length_append] at hpl;omega
        have hr:rws acc' ++ [.ro (some none) 1 [.val (.int .i64 s),.val (.int .i64 t)]]=rws (acc' ++ [[(s:Int),(t:Int)]]):=by simp [rws]
        simp only [Bz72,Bz73,w1,hr,go_sem,yz0,xx9,xx8,xx6,xx7,xx5,xx0,xx1,xx2,reduceIte,xx3,xx4,reduceCtorEq]
        intro vs4
        exact ⟨⟨⟨_,rfl,rfl⟩,_,rfl,rfl⟩,by omega,(vs4 5 0,acc' ++ [[(s:Int),(t:Int)]],t+1),by dsimp only;omega,⟨by dsimp only;omega,by dsimp only;omega,by dsimp only;rw [e3,List.append_assoc,← hacc',← e3,List.append_assoc]⟩,rfl⟩
      | false =>
        rw [hp,if_neg (by simp),List.nil_append] at hacc'
        simp only [Bz72,Bz73,w1,go_sem,yz0,xx9,xx8,xx6,xx7,xx5,xx0,xx1,xx2,reduceIte,xx3,xx4,reduceCtorEq]
        exact ⟨(_,acc',t+1),by dsimp only;omega,⟨by dsimp only;omega,by dsimp only;omega,by dsimp only;rw [e3];exact hacc'⟩,rfl⟩
    · have ht2:(t:Int)=n:=by omega
      have e2:(n - (t:Int)).toNat=0:=by omega
      rw [e2] at hacc'
      simp only [prow,List.nil_append] at hacc'
      simp only [Bz29,Bz71,Bzgl,w0,decide_eq_false hlt2,go_sem,yz0,xx9,xx8,xx6,xx7,xx5,xx0,xx1,xx2,reduceIte,xx3,xx4,reduceCtorEq]
      exact ⟨(_,acc',s+1),by dsimp only;omega,⟨by dsimp only;omega,by dsimp only;rw [show ((s+1:Nat):Int)=(s:Int)+1 by omega];exact hacc'⟩,rfl⟩
  · have hs2:n.toNat - s=0:=by omega
    rw [hs2] at hacc
    simp only [pall,List.append_nil] at hacc
    simp only [Bz2a,Bz70,Bzgo,decide_eq_false hlt,go_sem,yz0,xx9,xx8,xx6,xx7,xx5,xx0,xx1,xx2,reduceIte,xx3,xx4,reduceCtorEq]
    exact ⟨9,v,acc,by omega,rfl,by simp only [go_sem,yz0,xx9,xx8,xx6,xx7,xx5,xx0,xx1,xx2,reduceIte,xx3,xx4,reduceCtorEq],hacc⟩
theorem k_l02Classes (n:Int) (next:List (List Int)) (A:Aut n next):RowI Try.prog nz3d [autP n next] (fun ys=>∃ us,StD n next us∧TidP us ys∧ys.length=us.length):=by
  refine rowI_of mixed czkj rfl ?_
  have n1:=A.n1
  have n2:=A.n2
  simp only [Azdl,Bzdk,go_sem,yz0,xx9,xx8,xx6,xx7,xx5,xx0,xx1,xx2,reduceIte,xx3,xx4,reduceCtorEq]
  intro vs
  refine call_rowI (k_l01All n (by omega)) qCS qWS ⟨_,rfl⟩ ?_
  rintro xs v10 rfl
  simp only [Bzdj,go_sem,yz0,xx9,xx8,xx6,xx7,xx5,xx0,xx1,xx2,reduceIte,xx3,xx4,reduceCtorEq]
  intro vs2
  refine call_rowR (k_l02Stable n next A) qCS rfl ⟨_,rfl⟩ ?_
  rintro xss vP hxss
  have hP:∀ x,x∈xss↔∃ a b:Int,0≤a∧a<b∧b<n∧stabQ next a b=true∧x=[a,b]:=fun x=>by rw [hxss];exact pairsL_mem (by omega)
  have hPl:xss.length≤100:=by rw [hxss];exact pairsL_len ⟨n1,n2⟩
  clear hxss
  have hal:((allS n).length:Int)=n:=by simp [allS];omega
  have hI0:StJ n next [] (allS n):=by
    refine ⟨hal,fun x hx=>?_,fun i j hi hj h=>?_,fun a b _ _ h=>by simp at h⟩
    · simp only [allS,List.mem_map,List.mem_range] at hx
      obtain ⟨i,hi,rfl⟩:=hx
      omega
    · rw [allS_getD3 (by omega),allS_getD3 (by omega)] at h
      rw [show i=j by omega];exact StabP.refl
  simp only [Bzdi,Bzdg,go_sem,yz0,xx9,xx8,xx6,xx7,xx5,xx0,xx1,xx2,reduceIte,xx3,xx4,reduceCtorEq]
  refine wpD_lo (fun (_,_,i)=>xss.length - i) (fun (_,us,i)=>i≤xss.length∧StJ n next (xss.take i) us)
    (fun ((v,us,i):Nat×List Int×Nat)=>⟨L .any [(3,.own 10 v),(4,.own 12 vP),(5,iv i)],L .gone [(10,.row v 1 true (ints us)),(12,.row vP 1 true (rws xss))]⟩)
    (_,allS n,0) ⟨by simp,hI0⟩ (by simp only [Bz1r,go_sem,yz0,xx9,xx8,xx6,xx7,xx5,xx0,xx1,xx2,reduceIte,xx3,xx4,reduceCtorEq];try rfl) ?_
  rintro ⟨v,us,i⟩ ⟨hi,I⟩
  have hi:i≤xss.length:=hi
  have I:StJ n next (xss.take i) us:=I
  have hul:=I.ln
  by_cases hlt:(i:Int)<xss.length
  · have hlt1:i<xss.length:=by omega
    obtain ⟨a,b,ha,hab,hb,hst,hg⟩:=(hP _).1 (yz6 hlt1 [])
    have ea:((a.toNat:Nat):Int)=a:=by omega
    have eb:((b.toNat:Nat):Int)=b:=by omega
    have w1:IntKind.i64.wrap ((i:Int)+1)=((i+1:Nat):Int):=by rw [w64 (by omega)];simp
    have g0:(0:Nat)<([a,b]:List Int).length:=by simp
    have g1:(1:Nat)<([a,b]:List Int).length:=by simp
    have r1:a.toNat<us.length:=by omega
    have r2:b.toNat<us.length:=by omega
    have htk:xss.take (i+1)=xss.take i ++ [[a,b]]:=by
      rw [List.take_succ_eq_append_getElem hlt1,← hg,List.getD_eq_getElem?_getD,List.getElem?_eq_getElem hlt1];rfl
    have I2:=I.step (a:=a.toNat) (b:=b.toNat) (by omega) (by omega) (by rw [ea,eb];exact (stab_iff A (by omega) (by omega)).1 hst)
    rw [ea,eb,← htk] at I2
    simp only [Bz1r,Bz5g,Bzdf,rws_getD hlt1,hg,yz1 g0,yz1 g1,yz1 r1,yz1 r2,decide_eq_true hlt,go_sem,yz0,xx9,xx8,xx6,xx7,xx5,xx0,xx1,xx2,reduceIte,xx3,xx4,reduceCtorEq]
    intro hM vs3
    refine ⟨⟨by omega,hlt1⟩,hlt1,⟨by omega,r2⟩,r2,⟨by omega,hlt1⟩,hlt1,⟨ha,r1⟩,r1,?_⟩
    refine call_rowX (k_l01Merge us (us.getD b.toNat 0) (us.getD a.toNat 0)) rfl (of_eq_true yzy) qCS rfl ?_
    rintro outs rows res ⟨rfl,rfl,rfl⟩
    refine ⟨rfl,_,rfl,?_⟩
    have e0:∀ f:Nat→Nat,sv (L .gone [(10,.row v 1 true (intsK .i64 us)),(12,.row vP 1 true (rws xss))]) [10] f 0=v:=fun f=>rfl
    simp only [e0,Bzde,w1,Nat.not_lt_zero,range1,yz10,ren_any,ren_ro,rnNm_n,rnNm_sn,rnNm_o,rnNm_s,ren_st,ren_tup,yzs,yzh,yz7,yzw,yzv,yzr,yzp,yzu,yz8,yzb,yza,yze,yzn,yzl,yz3,yzf,yz9,yzd,yzk,yzm,List.range_zero,yz5,yz4,yzc,yzx,yzi,yzq,AVal.fresh,freshL,yz2,yzj,AObj.fresh,id,Option.isSome_some,or_true,true_or,go_sem,yz0,xx9,xx8,xx6,xx7,xx5,xx0,xx1,xx2,reduceIte,xx3,xx4,reduceCtorEq]
    exact ⟨(v,_,i+1),by dsimp only;omega,⟨by dsimp only;omega,I2⟩,rfl⟩
  · obtain rfl:i=xss.length:=by omega
    have S:StD n next us:=I.done fun a b hab hb h=>by
      rw [List.take_length]
      exact (hP _).2 ⟨a,b,by omega,by omega,hb,(stab_iff A (by omega) (by omega)).2 h,rfl⟩
    simp only [Bz1r,Bz5g,Bzdh,decide_eq_false hlt,go_sem,yz0,xx9,xx8,xx6,xx7,xx5,xx0,xx1,xx2,reduceIte,xx3,xx4,reduceCtorEq]
    intro _ vs3
    refine call_rowI (k_l01TidiedD us (by omega)) qCS qWS (tid_ex us) ?_
    rintro ys v40 ⟨T,hyl⟩
    simp only [go_sem,yz0,xx9,xx8,xx6,xx7,xx5,xx0,xx1,xx2,reduceIte,xx3,xx4,reduceCtorEq]
    exact ⟨40,v40,ys,by omega,rfl,by simp only [go_sem,yz0,xx9,xx8,xx6,xx7,xx5,xx0,xx1,xx2,reduceIte,xx3,xx4,reduceCtorEq],us,S,T,hyl⟩
theorem k_specStableDivision (n:Int) (next:List (List Int)) (A:Aut n next) (hex:∃ ys us,StD n next us∧TidP us ys∧List.length ys=us.length) :
    Fn Try.prog nz31 [autA n next] fun rows res=>∃ v us ys,StD n next us∧TidP us ys∧ys.length=us.length∧rows=[.row v 1 true (ints ys)]∧res=.tup [.own 6000 v,iv 0]:=by
  refine con_of mixed czjz rfl (by simp) ?_
  have hv:autB n next=true:=autB_iff.2 A
  generalize hQ:finQ _=Q
  simp only [Az4d,Bzac,go_sem,yz0,xx9,xx8,xx6,xx7,xx5,xx0,xx1,xx2,reduceIte,xx3,xx4,reduceCtorEq]
  intro vs vs2
  refine yzo (k_l01Ok n next) qCS trivial ?_
  simp only [hv,Bzaa,Bzab,go_sem,yz0,xx9,xx8,xx6,xx7,xx5,xx0,xx1,xx2,reduceIte,xx3,xx4,reduceCtorEq]
  intro vs3
  refine call_rowI (k_l02Classes n next A) qCS qWS ?_ ?_
  · obtain ⟨ys,us,h1,h2,h3⟩:=hex
    exact ⟨ys,us,h1,h2,h3⟩
  rintro ys v7 ⟨us,S,T,hl⟩
  simp only [Az4d,← hQ,go_sem,yz0,xx9,xx8,xx6,xx7,xx5,xx0,xx1,xx2,reduceIte,xx3,xx4,reduceCtorEq]
  refine ⟨[7],by simp,by simp,by simp,?_⟩
  simp only [range1,List.length_singleton,Nat.not_lt_zero,range1,yz10,ren_any,ren_ro,rnNm_n,rnNm_sn,rnNm_o,rnNm_s,ren_st,ren_tup,yzs,yzh,yz7,yzw,yzv,yzr,yzp,yzu,yz8,yzb,yza,yze,yzn,yzl,yz3,yzf,yz9,yzd,yzk,yzm,List.range_zero,yz5,yz4,yzc,yzx,yzi,yzq,AVal.fresh,freshL,yz2,yzj,AObj.fresh,id,Option.isSome_some,or_true,true_or,go_sem,yz0,xx9,xx8,xx6,xx7,xx5,xx0,xx1,xx2,reduceIte,xx3,xx4,reduceCtorEq]
  exact ⟨_,us,ys,S,T,hl,rfl,rfl⟩
end Go.Ab
namespace Go.Ab
structure ClS (n:Int) (next:List (List Int)) (set:List Int):Prop where
  rg:∀ x∈set,0≤x∧x<n
  cl:∀ x∈set,∀ row∈next,row.getD x.toNat 0∈set
theorem renR_len {set row:List Int}:(renR set row).length=set.length:=by simp [renR]
theorem Aut.rest {n:Int} {next:List (List Int)} {set:List Int} (A:Aut n next) (C:ClS n next set) (h0:1≤set.length) (h1:set.length≤10):Aut set.length (next.map (renR set)):=by
  have l1:=A.l1
  have l2:=A.l2
  refine ⟨by omega,by omega,by rw [List.length_map];omega,by rw [List.length_map];omega,?_⟩
  intro row hr
  obtain ⟨row,hr',rfl⟩:=List.mem_map.1 hr
  refine ⟨by rw [renR_len],fun x hx=>?_⟩
  obtain ⟨s,hs,rfl⟩:=List.mem_map.1 hx
  obtain ⟨i,h1,h2,h3⟩:=fidx_eq 0 (C.cl s hs row hr')
  simp only [h1,Nat.zero_add]
  omega
theorem actA_getD {n:Int} {next:List (List Int)} {w:List Int} {i:Nat} (h:(i:Int)<n):(actA n next w).getD i 0=atA next i w:=by
  rw [List.getD_eq_getElem?_getD,actA,List.getElem?_map,List.getElem?_range (by omega)];rfl
end Go.Ab
