/- Contracts and what they lean on, part 8. Conditions: none. -/
import Derived.Lib.SlicesCompact
import Derived.Tactics
import Derived.Tactics2
import Derived.Test.YtjkckhggjfbgjaaZ7
set_option maxRecDepth 100000
set_option maxHeartbeats 4000000
set_option linter.all false
open Nat renaming reduceLeDiff → xx0, reduceMul → xx1, reduceSub → xx2, reduceEqDiff → xx3, reduceAdd → xx4, reduceLT → xx5
open Int renaming reduceToNat → xx6, reduceNeg → xx7, reduceLE → xx8, reduceLT → xx9
namespace Go.Ab
open Go.Proofs
def IsW8 (l:Nat) (w:List Int):Prop:=w.length≤8∧∀ x∈w,0≤x∧x<l
theorem k_A2Word (code:List Int) (n:Int) (next:List (List Int)) (hb:∀ x∈code,0≤x∧x≤255) (hl:1≤next.length) :
    RowI Try.prog nz30 [.ro (some (some 0)) 1 (intsK .u8 code),.st [iv n,.ro none 1 (rwn next)]] (IsW8 next.length):=by
  refine rowI_of mixed czgm rfl ?_
  simp only [Bz7r,Bz7s,Bz7t,Bz7u,Bz7v,Bz7w,Bz7x,Bz7y,Bz7z,Az80,go_sem,yz0,xx9,xx8,xx6,xx7,xx5,xx0,xx1,xx2,reduceIte,xx3,xx4,reduceCtorEq]
  intro vs vs2
  refine call_sh (k_from code) qCS (fun _=>⟨_,_,_,rfl,0,rfl,rfl⟩) ?_
  rintro outs rows res ⟨rfl,v,rfl,rfl⟩
  refine ⟨rfl,by simp,by rw [Option.getD_some,yzl];simp only [go_sem,yz0,xx9,xx8,xx6,xx7,xx5,xx0,xx1,xx2,reduceIte,xx3,xx4,reduceCtorEq],?_⟩
  simp only [Nat.not_lt_zero,range1,yzx,yz11,ren_ro,rnNm_n,yz10,rnNm_o,rnNm_s,ren_st,yzy,yzp,yzf,yz4,yzu,yzv,yzo,yzm,yzs,yzb,yzd,yzc,yza,yzj,yzi,yz3,yz7,yz8,yz9,yzg,yzk,List.range_zero,yz6,yz5,yze,yzt,yzl,yzr,AVal.fresh,freshL,yz2,yzh,AObj.fresh,id,Option.isSome_some,or_true,true_or,go_sem,yz0,xx9,xx8,xx6,xx7,xx5,xx0,xx1,xx2,reduceIte,xx3,xx4,reduceCtorEq]
  intro vs3 vs4
  refine call_funB (k_pick code 0 0 9 hb (by omega)) rfl qCS qCS ?_
  rintro cs' x ⟨a',s',b,rfl,h1,h2,rfl,h3,h4⟩
  simp only [Nat.not_lt_zero,range1,yzx,yz11,ren_ro,rnNm_n,yz10,rnNm_o,rnNm_s,ren_st,yzy,yzp,yzf,yz4,yzu,yzv,yzo,yzm,yzs,yzb,yzd,yzc,yza,yzj,yzi,yz3,yz7,yz8,yz9,yzg,yzk,List.range_zero,yz6,yz5,yze,yzt,yzl,yzr,AVal.fresh,freshL,yz2,yzh,AObj.fresh,id,Option.isSome_some,or_true,true_or,go_sem,yz0,xx9,xx8,xx6,xx7,xx5,xx0,xx1,xx2,reduceIte,xx3,xx4,reduceCtorEq]
  refine wpD_lo (fun (_,_,_,_,_,_,k)=>Int.toNat k) (fun (w,_,_,_,a,_,k)=>IsW8 next.length w∧(w.length:Int)+k≤8∧0≤a∧a+2 * k≤100∧0≤k)
    (fun ((w,v10,v9,v3,a,s,k):List Int×Nat×Nat×Nat×Int×Int×Int)=>⟨L .any [(3,.ptr 3 v3 0),(5,.ptr 9 v9 0),(6,.own 10 v10),(7,iv k)],L .gone [(3,.box v3 [iv n,.ro none 1 (rwn next)]),(9,.box v9 (srcC code a s)),(10,.row v10 1 true (ints w))]⟩)
    ([],_,_,_,a',s',b) ?_ (by simp only [go_sem,yz0,xx9,xx8,xx6,xx7,xx5,xx0,xx1,xx2,reduceIte,xx3,xx4,reduceCtorEq];rfl) ?_
  · simp only [IsW8,List.length_nil,List.not_mem_nil]
    simp
    omega
  · rintro ⟨w,v10,v9,v3,a,s,k⟩ ⟨hw,hk1,ha,ha2,hk⟩
    by_cases hk0:k > 0
    · simp only [decide_eq_true hk0,go_sem,yz0,xx9,xx8,xx6,xx7,xx5,xx0,xx1,xx2,reduceIte,xx3,xx4,reduceCtorEq]
      intro vs5 hM
      refine call_funB (k_pick code a s next.length hb (by omega)) rfl qCS qCS ?_
      rintro cs' x ⟨a'',s'',b',rfl,g1,g2,rfl,g3,g4⟩
      have hwk:IntKind.i64.wrap (k - 1)=k - 1:=w64 (by omega)
      simp only [hwk,Nat.not_lt_zero,range1,yzx,yz11,ren_ro,rnNm_n,yz10,rnNm_o,rnNm_s,ren_st,yzy,yzp,yzf,yz4,yzu,yzv,yzo,yzm,yzs,yzb,yzd,yzc,yza,yzj,yzi,yz3,yz7,yz8,yz9,yzg,yzk,List.range_zero,yz6,yz5,yze,yzt,yzl,yzr,AVal.fresh,freshL,yz2,yzh,AObj.fresh,id,Option.isSome_some,or_true,true_or,go_sem,yz0,xx9,xx8,xx6,xx7,xx5,xx0,xx1,xx2,reduceIte,xx3,xx4,reduceCtorEq]
      refine ⟨⟨_,rfl,rfl⟩,?_,(_,_,_,_,_,_,_),?_,?_,rfl⟩
      · omega
      · show (k - 1).toNat<k.toNat
        omega
      · refine ⟨⟨?_,?_⟩,?_,?_,?_,?_⟩
        · simp;omega
        · intro x hx
          simp only [List.mem_append,List.mem_singleton] at hx
          rcases hx with hx | rfl
          · exact hw.2 x hx
          · omega
        · simp;omega
        · show 0≤a'';omega
        · show a''+2 * (k - 1)≤100;omega
        · show 0≤k - 1;omega
    · simp only [decide_eq_false hk0,go_sem,yz0,xx9,xx8,xx6,xx7,xx5,xx0,xx1,xx2,reduceIte,xx3,xx4,reduceCtorEq]
      exact ⟨10,v10,w,by omega,rfl,by simp only [go_sem,yz0,xx9,xx8,xx6,xx7,xx5,xx0,xx1,xx2,reduceIte,xx3,xx4,reduceCtorEq],hw⟩
theorem tmod_in {a n:Int} (h:0≤a) (hn:1≤n):0≤a.tmod n∧a.tmod n<n:=⟨Int.tmod_nonneg _ h,Int.tmod_lt_of_pos _ (by omega)⟩
section
variable {P:Program} {a b:AC} {Q:AEx→St→Prop} {σ:St}
theorem wpD_cutn {α:Type} {ts hs:List Nat} (inv:α→Prop) (S:α→St)
    (h1:wpD P a (seqQ (fun _ σ'=>∃ x,inv x∧σ'.keep ts hs=S x) Q) σ) (h2:∀ x,inv x→wpD P b Q (S x)):wpD P (.seq a (.kp ts hs b)) Q σ:=by
  rw [wpD_seq]
  refine wpD_mono _ _ _ _ (fun e σ' he=>?_) h1
  cases e with
  | normal =>
    obtain ⟨x,hx,hS⟩:=he
    show wpD P (.kp ts hs b) Q σ'
    rw [yzn,hS]
    exact h2 x hx
  | exit i=>exact he
  | ret=>exact he
end
theorem call_funBN {P:Program} {nos:List Nat} {σ:St} {g:FuncId} {As args:List AVal} {d:Option Nat} {s:Nat→Nat} {K:St→Prop} {cs cs0:List AVal} {Q:List AVal→Value→Prop} {r v:Nat} (h:FunB P g cs args Q) (hr:σ.hp r=.box v cs0) (hm:r∈nos)
    (hcs:CoeL σ.hp [r] false cs cs0) (hco:CoeL σ.hp [r] false args As) (hex:∃ cs' x,Q cs' x∧flatL cs') (hk:∀ cs' x,Q cs' x→K (St.put ⟨σ.tm,upd σ.hp r (.box v cs')⟩ d (.val x))):wpCallN P nos σ g (.ptr r v 0 :: As) d s K:=by
  refine ⟨[r],[.box 0 cs],.ptr 5000 0 0 :: args,true,_,h,⟨by simp,rfl,by simp,?_,?_⟩,?_,⟨by simpa using hm,?_⟩,?_⟩
  · intro r' hr'
    simp only [List.mem_singleton] at hr'
    subst hr';rw [hr];simp
  · intro j B r' hB hr'
    cases j with
    | zero =>
      simp at hB hr'
      subst hB hr'
      rw [hr]
      exact ⟨rfl,v,cs0,rfl,hcs⟩
    | succ j=>simp at hB
  · rw [yz12,coe_ptr0,hr]
    exact ⟨rfl,hco⟩
  · obtain ⟨cs',x,hq,hf⟩:=hex
    exact ⟨[.box 0 cs'],[],.val x,cs',x,hq,hf,rfl,rfl,rfl⟩
  · rintro outs rows res ⟨cs',x,hq,hf,rfl,rfl,rfl⟩
    refine ⟨rfl,rfl,?_⟩
    rw [callHp_m,yzx,yzo,renL_flat cs' hf]
    have:sv σ.hp [r] s 0=v:=by simp [sv,hr,AObj.ver]
    rw [this]
    exact hk cs' x hq
theorem flat_srcC {code:List Int} {a s:Int}:flatL (srcC code a s):=by simp [flatL,AVal.flat,flat_vals]
end Go.Ab
namespace Go.Ab
open Go.Proofs
theorem drop_getD {α:Type} {xs:List α} {i:Nat} (h:i<xs.length) (d:α):xs.drop i=xs.getD i d :: xs.drop (i+1):=by
  rw [List.drop_eq_getElem_cons h,List.getD_eq_getElem?_getD,List.getElem?_eq_getElem h];rfl
theorem yzq {α:Type} {xs:List α} {i:Nat} (h:i<xs.length) (d:α):xs.getD i d∈xs:=by
  rw [List.getD_eq_getElem?_getD,List.getElem?_eq_getElem h];exact List.getElem_mem h
def fidx {α:Type} (p:α→Bool):List α→Nat→Int
  | [],_=>-1
  | x :: xs,i=>if p x then i else fidx p xs (i+1)
theorem fidx_ge {α:Type} (p:α→Bool):∀ (xs:List α) (i:Nat),decide (0≤fidx p xs i)=xs.any p
  | [],i=>by simp [fidx]
  | x :: xs,i=>by
    have h:=fidx_ge p xs (i+1)
    simp only [fidx,List.any_cons]
    by_cases hp:p x=true
    · simp [hp]
    · have h2:p x=false:=by simpa using hp
      simp only [h2,Bool.false_or,← h]
      simp
structure Caps (caps:List AVal):Prop where
  dn:dnL caps=caps
  coe:∀ hp m len,CoeL hp m len caps caps
theorem k_IndexFunc (xs:List (List Int)) (g:FuncId) (caps:List AVal) (p:List Int→Bool) (hc:Caps caps) (h:∀ x∈xs,Fun Try.prog g (.ro none 1 (ints x) :: caps) (bv (p x))) :
    Fun Try.prog nz3u [.ro none 1 (rwn xs),.clo g caps] (iv (fidx p xs 0)):=by
  refine fun_of mixed czii rfl ⟨rfl,trivial⟩ ?_
  simp only [Azfl,Bzfk,hc.dn,go_sem,yz0,xx9,xx8,xx6,xx7,xx5,xx0,xx1,xx2,reduceIte,xx3,xx4,reduceCtorEq]
  intro hM
  have hM2:=maxLen_le
  simp only [Bzfi,hc.dn,go_sem,yz0,xx9,xx8,xx6,xx7,xx5,xx0,xx1,xx2,reduceIte,xx3,xx4,reduceCtorEq]
  refine wpD_lo (fun i=>xs.length - i) (fun i=>i≤xs.length∧fidx p (xs.drop i) i=fidx p xs 0)
    (fun i:Nat=>⟨L .any [(0,.ro none 1 (rwn xs)),(1,.clo g caps),(7,iv xs.length),(8,iv i)],L .gone []⟩) 0 (by simp) (by simp only [Bz2t,hc.dn,go_sem,yz0,xx9,xx8,xx6,xx7,xx5,xx0,xx1,xx2,reduceIte,xx3,xx4,reduceCtorEq];try rfl) ?_
  rintro i ⟨hi,he⟩
  by_cases hlt:(i:Int)<xs.length
  · have hlt':i<xs.length:=by omega
    have w1:IntKind.i64.wrap ((i:Int)+1)=((i+1:Nat):Int):=by rw [w64 (by omega)];simp
    have w2:IntKind.i64.wrap (i:Int)=i:=w64 (by omega)
    rw [drop_getD hlt' []] at he
    simp only [fidx] at he
    simp only [Bz2t,Bz73,Bz72,Bzfg,rwn_getD hlt',decide_eq_true hlt,hc.dn,go_sem,yz0,xx9,xx8,xx6,xx7,xx5,xx0,xx1,xx2,reduceIte,xx3,xx4,reduceCtorEq]
    intro vs
    refine ⟨⟨by omega,hlt'⟩,hlt',?_⟩
    refine yzz (h _ (yzq hlt' [])) (by simp only [rowIs,boxIs,coe_argN,coe_argNs,coe_ro_o,coeL_nil,yz12,coe_any,coe_val,coe_ro,yz16,yz17,coe_st,yz18,coe_rp,yz19,coe_clo,coe_own0,coe_ptr0,yz15,coeL_rws,coeL_rwn,L_hit,L_miss,L_nil,xx3,ne_eq,reduceCtorEq,not_false_eq_true,true_and,and_true,and_self,exists_eq_left,exists_eq_right,List.mem_cons,List.not_mem_nil,or_false,AObj.row.injEq,AObj.box.injEq,exists_eq_left',exists_and_left,exists_eq,Nat.zero_lt_one,Nat.lt_add_one,List.map_cons,List.map_nil,AObj.ver,xx5,not_true_eq_false];exact hc.coe _ _ _) trivial ?_
    simp only [Bzff,Bzfh,w1,hc.dn,go_sem,yz0,xx9,xx8,xx6,xx7,xx5,xx0,xx1,xx2,reduceIte,xx3,xx4,reduceCtorEq]
    refine ⟨fun hp=>?_,fun hp=>⟨i+1,by omega,⟨by omega,?_⟩,rfl⟩⟩
    · rw [hp] at he;simp at he;rw [← he]
    · rw [hp] at he;simpa using he
  · have:i=xs.length:=by omega
    subst this
    rw [List.drop_length] at he
    simp only [fidx] at he
    simp only [Bz2t,Bz73,Bz72,Bzfj,decide_eq_false hlt,hc.dn,go_sem,yz0,xx9,xx8,xx6,xx7,xx5,xx0,xx1,xx2,reduceIte,xx3,xx4,reduceCtorEq]
    rw [← he]
theorem k_ContainsFunc (xs:List (List Int)) (g:FuncId) (caps:List AVal) (p:List Int→Bool) (hc:Caps caps) (h:∀ x∈xs,Fun Try.prog g (.ro none 1 (ints x) :: caps) (bv (p x))) :
    Fun Try.prog nz3j [.ro none 1 (rwn xs),.clo g caps] (bv (xs.any p)):=by
  refine fun_of mixed czhn rfl ⟨rfl,trivial⟩ ?_
  simp only [Bzcm,Azcn,hc.dn,go_sem,yz0,xx9,xx8,xx6,xx7,xx5,xx0,xx1,xx2,reduceIte,xx3,xx4,reduceCtorEq]
  intro vs
  refine yzz (k_IndexFunc xs g caps p hc h) (by simp only [rowIs,boxIs,coe_argN,coe_argNs,coe_ro_o,coeL_nil,yz12,coe_any,coe_val,coe_ro,yz16,yz17,coe_st,yz18,coe_rp,yz19,coe_clo,coe_own0,coe_ptr0,yz15,coeL_rws,coeL_rwn,L_hit,L_miss,L_nil,xx3,ne_eq,reduceCtorEq,not_false_eq_true,true_and,and_true,and_self,exists_eq_left,exists_eq_right,List.mem_cons,List.not_mem_nil,or_false,AObj.row.injEq,AObj.box.injEq,exists_eq_left',exists_and_left,exists_eq,Nat.zero_lt_one,Nat.lt_add_one,List.map_cons,List.map_nil,AObj.ver,xx5,not_true_eq_false];exact hc.coe _ _ _) trivial ?_
  simp only [fidx_ge,go_sem,yz0,xx9,xx8,xx6,xx7,xx5,xx0,xx1,xx2,reduceIte,xx3,xx4,reduceCtorEq]
theorem k_IndexFunc2 (xs:List Int) (g:FuncId) (caps:List AVal) (p:Int→Bool) (hc:Caps caps) (h:∀ x∈xs,Fun Try.prog g (iv x :: caps) (bv (p x))) :
    Fun Try.prog nz1l [.ro none 1 (ints xs),.clo g caps] (iv (fidx p xs 0)):=by
  refine fun_of mixed czij rfl ⟨rfl,trivial⟩ ?_
  simp only [Azfs,Bzfr,hc.dn,go_sem,yz0,xx9,xx8,xx6,xx7,xx5,xx0,xx1,xx2,reduceIte,xx3,xx4,reduceCtorEq]
  intro hM
  have hM2:=maxLen_le
  simp only [Bzfp,hc.dn,go_sem,yz0,xx9,xx8,xx6,xx7,xx5,xx0,xx1,xx2,reduceIte,xx3,xx4,reduceCtorEq]
  refine wpD_lo (fun i=>xs.length - i) (fun i=>i≤xs.length∧fidx p (xs.drop i) i=fidx p xs 0)
    (fun i:Nat=>⟨L .any [(0,.ro none 1 (ints xs)),(1,.clo g caps),(7,iv xs.length),(8,iv i)],L .gone []⟩) 0 (by simp) (by simp only [Bz2u,hc.dn,go_sem,yz0,xx9,xx8,xx6,xx7,xx5,xx0,xx1,xx2,reduceIte,xx3,xx4,reduceCtorEq];try rfl) ?_
  rintro i ⟨hi,he⟩
  by_cases hlt:(i:Int)<xs.length
  · have hlt':i<xs.length:=by omega
    have w1:IntKind.i64.wrap ((i:Int)+1)=((i+1:Nat):Int):=by rw [w64 (by omega)];simp
    rw [drop_getD hlt' 0] at he
    simp only [fidx] at he
    simp only [Bz2u,Bz75,Bz74,Bzfn,yzw hlt',decide_eq_true hlt,hc.dn,go_sem,yz0,xx9,xx8,xx6,xx7,xx5,xx0,xx1,xx2,reduceIte,xx3,xx4,reduceCtorEq]
    intro vs
    refine ⟨⟨by omega,hlt'⟩,hlt',?_⟩
    refine yzz (h _ (yzq hlt' 0)) (by simp only [rowIs,boxIs,coe_argN,coe_argNs,coe_ro_o,coeL_nil,yz12,coe_any,coe_val,coe_ro,yz16,yz17,coe_st,yz18,coe_rp,yz19,coe_clo,coe_own0,coe_ptr0,yz15,coeL_rws,coeL_rwn,L_hit,L_miss,L_nil,xx3,ne_eq,reduceCtorEq,not_false_eq_true,true_and,and_true,and_self,exists_eq_left,exists_eq_right,List.mem_cons,List.not_mem_nil,or_false,AObj.row.injEq,AObj.box.injEq,exists_eq_left',exists_and_left,exists_eq,Nat.zero_lt_one,Nat.lt_add_one,List.map_cons,List.map_nil,AObj.ver,xx5,not_true_eq_false];exact hc.coe _ _ _) trivial ?_
    simp only [Bzfm,Bzfo,w1,hc.dn,go_sem,yz0,xx9,xx8,xx6,xx7,xx5,xx0,xx1,xx2,reduceIte,xx3,xx4,reduceCtorEq]
    refine ⟨fun hp=>?_,fun hp=>⟨i+1,by omega,⟨by omega,?_⟩,rfl⟩⟩
    · rw [hp] at he;simp at he;rw [← he]
    · rw [hp] at he;simpa using he
  · have:i=xs.length:=by omega
    subst this
    rw [List.drop_length] at he
    simp only [fidx] at he
    simp only [Bz2u,Bz75,Bz74,Bzfq,decide_eq_false hlt,hc.dn,go_sem,yz0,xx9,xx8,xx6,xx7,xx5,xx0,xx1,xx2,reduceIte,xx3,xx4,reduceCtorEq]
    rw [← he]
theorem k_ContainsFunc1 (xs:List Int) (g:FuncId) (caps:List AVal) (p:Int→Bool) (hc:Caps caps) (h:∀ x∈xs,Fun Try.prog g (iv x :: caps) (bv (p x))) :
    Fun Try.prog nz3r [.ro none 1 (ints xs),.clo g caps] (bv (xs.any p)):=by
  refine fun_of mixed czid rfl ⟨rfl,trivial⟩ ?_
  simp only [Bze5,Aze6,hc.dn,go_sem,yz0,xx9,xx8,xx6,xx7,xx5,xx0,xx1,xx2,reduceIte,xx3,xx4,reduceCtorEq]
  intro vs
  refine yzz (k_IndexFunc2 xs g caps p hc h) (by simp only [rowIs,boxIs,coe_argN,coe_argNs,coe_ro_o,coeL_nil,yz12,coe_any,coe_val,coe_ro,yz16,yz17,coe_st,yz18,coe_rp,yz19,coe_clo,coe_own0,coe_ptr0,yz15,coeL_rws,coeL_rwn,L_hit,L_miss,L_nil,xx3,ne_eq,reduceCtorEq,not_false_eq_true,true_and,and_true,and_self,exists_eq_left,exists_eq_right,List.mem_cons,List.not_mem_nil,or_false,AObj.row.injEq,AObj.box.injEq,exists_eq_left',exists_and_left,exists_eq,Nat.zero_lt_one,Nat.lt_add_one,List.map_cons,List.map_nil,AObj.ver,xx5,not_true_eq_false];exact hc.coe _ _ _) trivial ?_
  simp only [fidx_ge,go_sem,yz0,xx9,xx8,xx6,xx7,xx5,xx0,xx1,xx2,reduceIte,xx3,xx4,reduceCtorEq]
def allIn (xs:List Int) (lo hi:Int):Bool:=xs.all fun x=>decide (lo≤x) && decide (x≤hi)
theorem allIn_iff {xs:List Int} {lo hi:Int}:allIn xs lo hi=true↔∀ x∈xs,lo≤x∧x≤hi:=by simp [allIn]
theorem k_areWithin_1 (n lo hi:Int):Fun Try.prog nz1k [iv n,.rp [iv lo] 0,.rp [iv hi] 0] (bv !(decide (lo≤n) && decide (n≤hi))):=by
  refine fun_of mixed czie rfl ⟨rfl,trivial⟩ ?_
  simp only [Bze7,Aze8,go_sem,yz0,xx9,xx8,xx6,xx7,xx5,xx0,xx1,xx2,reduceIte,xx3,xx4,reduceCtorEq]
  intro vs
  refine yzz (k_within n lo hi) qCS trivial ?_
  simp only [go_sem,yz0,xx9,xx8,xx6,xx7,xx5,xx0,xx1,xx2,reduceIte,xx3,xx4,reduceCtorEq]
theorem k_areWithin (xs:List Int) (lo hi:Int):Fun Try.prog nz1d [.ro none 1 (ints xs),iv lo,iv hi] (bv (allIn xs lo hi)):=by
  refine fun_of mixed czhh rfl ⟨rfl,trivial⟩ ?_
  simp only [Bzc5,Azc6,go_sem,yz0,xx9,xx8,xx6,xx7,xx5,xx0,xx1,xx2,reduceIte,xx3,xx4,reduceCtorEq]
  intro vs vs2
  refine yzz (k_ContainsFunc1 xs nz1k [.rp [iv lo] 0,.rp [iv hi] 0] _ ⟨by simp only [go_sem,yz0,xx9,xx8,xx6,xx7,xx5,xx0,xx1,xx2,reduceIte,xx3,xx4,reduceCtorEq],by intros;simp only [rowIs,boxIs,coe_argN,coe_argNs,coe_ro_o,coeL_nil,yz12,coe_any,coe_val,coe_ro,yz16,yz17,coe_st,yz18,coe_rp,yz19,coe_clo,coe_own0,coe_ptr0,yz15,coeL_rws,coeL_rwn,L_hit,L_miss,L_nil,xx3,ne_eq,reduceCtorEq,not_false_eq_true,true_and,and_true,and_self,exists_eq_left,exists_eq_right,List.mem_cons,List.not_mem_nil,or_false,AObj.row.injEq,AObj.box.injEq,exists_eq_left',exists_and_left,exists_eq,Nat.zero_lt_one,Nat.lt_add_one,List.map_cons,List.map_nil,AObj.ver,xx5,not_true_eq_false]⟩ (fun x _=>k_areWithin_1 x lo hi)) qCS trivial ?_
  simp only [go_sem,yz0,xx9,xx8,xx6,xx7,xx5,xx0,xx1,xx2,reduceIte,xx3,xx4,reduceCtorEq]
  congr 2
  simp only [allIn,List.all_eq_not_any_not]
abbrev autA (n:Int) (next:List (List Int)):AVal:=.st [iv n,.ro none 1 (rwn next)]
abbrev autP (n:Int) (next:List (List Int)):AVal:=.rp [iv n,.ro none 1 (rwn next)] 0
def autB (n:Int) (next:List (List Int)):Bool:=(decide (1≤n) && decide (n≤10)) && ((decide (1≤(next.length:Int)) && decide ((next.length:Int)≤3)) && next.all fun row=>decide ((row.length:Int)=n) && allIn row 0 (n - 1))
theorem autB_iff {n:Int} {next:List (List Int)}:autB n next=true↔Aut n next:=by
  simp only [autB,Bool.and_eq_true,decide_eq_true_eq,List.all_eq_true,allIn_iff]
  constructor
  · rintro ⟨⟨h1,h2⟩,⟨h3,h4⟩,h5⟩
    exact ⟨h1,h2,by omega,by omega,fun row hr=>⟨(h5 row hr).1,fun x hx=>by have:=(h5 row hr).2 x hx;omega⟩⟩
  · rintro ⟨h1,h2,h3,h4,h5⟩
    exact ⟨⟨h1,h2⟩,⟨by omega,by omega⟩,fun row hr=>⟨(h5 row hr).1,fun x hx=>by have:=(h5 row hr).2 x hx;omega⟩⟩
theorem k_letters (n:Int) (next:List (List Int)):Fun Try.prog nz1f [autA n next] (iv next.length):=by
  refine fun_of mixed czhm rfl ⟨rfl,trivial⟩ ?_
  simp only [Bzck,Azcl,go_sem,yz0,xx9,xx8,xx6,xx7,xx5,xx0,xx1,xx2,reduceIte,xx3,xx4,reduceCtorEq]
  intro vs vs2
  refine yzz (k_size1 next) qCS trivial ?_
  simp only [go_sem,yz0,xx9,xx8,xx6,xx7,xx5,xx0,xx1,xx2,reduceIte,xx3,xx4,reduceCtorEq]
theorem k_Valid_1 (row:List Int) (n:Int) (next:List (List Int)) (hn:1≤n∧n≤10):Fun Try.prog nz1g [.ro none 1 (ints row),autP n next] (bv !(decide ((row.length:Int)=n) && allIn row 0 (n - 1))):=by
  refine fun_of mixed czho rfl ⟨rfl,trivial⟩ ?_
  have w:IntKind.i64.wrap (n - 1)=n - 1:=w64 (by omega)
  simp only [Bzco,Azcp,w,go_sem,yz0,xx9,xx8,xx6,xx7,xx5,xx0,xx1,xx2,reduceIte,xx3,xx4,reduceCtorEq]
  intro vs
  refine yzz (k_size row) qCS trivial ?_
  by_cases h:(row.length:Int)=n
  · have h2:((row.length:Int) != n)=false:=by simp [h]
    simp only [h2,w,go_sem,yz0,xx9,xx8,xx6,xx7,xx5,xx0,xx1,xx2,reduceIte,xx3,xx4,reduceCtorEq]
    refine yzz (k_areWithin row 0 (n - 1)) qCS trivial ?_
    simp only [go_sem,yz0,xx9,xx8,xx6,xx7,xx5,xx0,xx1,xx2,reduceIte,xx3,xx4,reduceCtorEq]
    simp [h]
  · have h2:((row.length:Int) != n)=true:=by simp [h]
    simp only [h2,go_sem,yz0,xx9,xx8,xx6,xx7,xx5,xx0,xx1,xx2,reduceIte,xx3,xx4,reduceCtorEq]
    simp [h]
theorem k_Valid (n:Int) (next:List (List Int)):Fun Try.prog nze [autA n next] (bv (autB n next)):=by
  refine fun_of mixed czh2 rfl ⟨rfl,trivial⟩ ?_
  simp only [Bz9z,Aza0,go_sem,yz0,xx9,xx8,xx6,xx7,xx5,xx0,xx1,xx2,reduceIte,xx3,xx4,reduceCtorEq]
  intro vs vs2
  refine yzz (k_within n 1 10) qCS trivial ?_
  by_cases hn:1≤n∧n≤10
  · have h1:(decide (1≤n) && decide (n≤10))=true:=by simp [hn]
    simp only [h1,go_sem,yz0,xx9,xx8,xx6,xx7,xx5,xx0,xx1,xx2,reduceIte,xx3,xx4,reduceCtorEq]
    refine yzz (k_letters n next) qCS trivial ?_
    simp only [go_sem,yz0,xx9,xx8,xx6,xx7,xx5,xx0,xx1,xx2,reduceIte,xx3,xx4,reduceCtorEq]
    refine yzz (k_within next.length 1 3) qCS trivial ?_
    by_cases hl:1≤(next.length:Int)∧(next.length:Int)≤3
    · have h2:(decide (1≤(next.length:Int)) && decide ((next.length:Int)≤3))=true:=by simp only [decide_eq_true hl.1,decide_eq_true hl.2,Bool.and_self]
      simp only [h2,go_sem,yz0,xx9,xx8,xx6,xx7,xx5,xx0,xx1,xx2,reduceIte,xx3,xx4,reduceCtorEq]
      refine yzz (k_ContainsFunc next nz1g [autP n next] _ ⟨by simp only [go_sem,yz0,xx9,xx8,xx6,xx7,xx5,xx0,xx1,xx2,reduceIte,xx3,xx4,reduceCtorEq],by intros;simp only [rowIs,boxIs,coe_argN,coe_argNs,coe_ro_o,coeL_nil,yz12,coe_any,coe_val,coe_ro,yz16,yz17,coe_st,yz18,coe_rp,yz19,coe_clo,coe_own0,coe_ptr0,yz15,coeL_rws,coeL_rwn,L_hit,L_miss,L_nil,xx3,ne_eq,reduceCtorEq,not_false_eq_true,true_and,and_true,and_self,exists_eq_left,exists_eq_right,List.mem_cons,List.not_mem_nil,or_false,AObj.row.injEq,AObj.box.injEq,exists_eq_left',exists_and_left,exists_eq,Nat.zero_lt_one,Nat.lt_add_one,List.map_cons,List.map_nil,AObj.ver,xx5,not_true_eq_false]⟩ (fun x _=>k_Valid_1 x n next hn)) qCS trivial ?_
      simp only [go_sem,yz0,xx9,xx8,xx6,xx7,xx5,xx0,xx1,xx2,reduceIte,xx3,xx4,reduceCtorEq]
      simp only [autB,h1,h2,Bool.true_and]
      congr 2
      simp only [List.all_eq_not_any_not]
    · have h2:(decide (1≤(next.length:Int)) && decide ((next.length:Int)≤3))=false:=by
        rw [Bool.and_eq_false_iff]
        by_cases h3:1≤(next.length:Int)
        · right;simp;omega
        · left;simp;omega
      simp only [h2,go_sem,yz0,xx9,xx8,xx6,xx7,xx5,xx0,xx1,xx2,reduceIte,xx3,xx4,reduceCtorEq]
      simp only [autB,h1,h2,Bool.true_and,Bool.false_and]
  · have h1:(decide (1≤n) && decide (n≤10))=false:=by
      rw [Bool.and_eq_false_iff]
      by_cases h3:1≤n
      · right;simp;omega
      · left;simp;omega
    simp only [h1,go_sem,yz0,xx9,xx8,xx6,xx7,xx5,xx0,xx1,xx2,reduceIte,xx3,xx4,reduceCtorEq]
    simp only [autB,h1,Bool.false_and]
def wordB (l:Nat) (w:List Int):Bool:=decide ((w.length:Int)≤400) && allIn w 0 ((l:Int) - 1)
theorem k_isWord (n:Int) (next:List (List Int)) (w:List Int) (hl:1≤next.length∧next.length≤3):Fun Try.prog nz3e [autA n next,.ro none 1 (ints w)] (bv (wordB next.length w)):=by
  refine fun_of mixed czhc rfl ⟨rfl,trivial⟩ ?_
  have w1:IntKind.i64.wrap ((next.length:Int) - 1)=(next.length:Int) - 1:=w64 (by omega)
  simp only [Bzbo,Azbp,go_sem,yz0,xx9,xx8,xx6,xx7,xx5,xx0,xx1,xx2,reduceIte,xx3,xx4,reduceCtorEq]
  intro vs vs2 hM
  by_cases h:(w.length:Int)≤400
  · simp only [decide_eq_true h,go_sem,yz0,xx9,xx8,xx6,xx7,xx5,xx0,xx1,xx2,reduceIte,xx3,xx4,reduceCtorEq]
    refine yzz (k_letters n next) qCS trivial ?_
    simp only [w1,go_sem,yz0,xx9,xx8,xx6,xx7,xx5,xx0,xx1,xx2,reduceIte,xx3,xx4,reduceCtorEq]
    refine yzz (k_areWithin w 0 ((next.length:Int) - 1)) qCS trivial ?_
    simp only [go_sem,yz0,xx9,xx8,xx6,xx7,xx5,xx0,xx1,xx2,reduceIte,xx3,xx4,reduceCtorEq]
    simp only [wordB,decide_eq_true h,Bool.true_and]
  · simp only [decide_eq_false h,go_sem,yz0,xx9,xx8,xx6,xx7,xx5,xx0,xx1,xx2,reduceIte,xx3,xx4,reduceCtorEq]
    simp only [wordB,decide_eq_false h,Bool.false_and]
def codeI (valid right:Bool):Int:=if valid then (if right then 0 else 2) else 1
theorem k_code (n:Int) (next:List (List Int)) (g:FuncId) (caps:List AVal) (r:Bool) (hc:Caps caps) (h:autB n next=true→Fun Try.prog g caps (bv r)) :
    Fun Try.prog nz1a [autA n next,.clo g caps] (iv (codeI (autB n next) r)):=by
  refine fun_of mixed czh7 rfl ⟨rfl,trivial⟩ ?_
  simp only [Azb8,Bzb7,hc.dn,go_sem,yz0,xx9,xx8,xx6,xx7,xx5,xx0,xx1,xx2,reduceIte,xx3,xx4,reduceCtorEq]
  intro vs vs2
  refine yzz (k_Valid n next) qCS trivial ?_
  simp only [Bzb5,hc.dn,go_sem,yz0,xx9,xx8,xx6,xx7,xx5,xx0,xx1,xx2,reduceIte,xx3,xx4,reduceCtorEq]
  cases hv:autB n next with
  | false =>
    simp only [codeI,go_sem,yz0,xx9,xx8,xx6,xx7,xx5,xx0,xx1,xx2,reduceIte,xx3,xx4,reduceCtorEq]
  | true =>
    simp only [go_sem,yz0,xx9,xx8,xx6,xx7,xx5,xx0,xx1,xx2,reduceIte,xx3,xx4,reduceCtorEq]
    intro vs3
    refine yzz (h hv) (hc.coe _ _ _) trivial ?_
    simp only [Bzb4,Bzb6,go_sem,yz0,xx9,xx8,xx6,xx7,xx5,xx0,xx1,xx2,reduceIte,xx3,xx4,reduceCtorEq]
    cases r <;> simp [codeI]
theorem k_ActionOf_1 (n:Int) (next:List (List Int)) (w:List Int) (hl:1≤next.length∧next.length≤3):Fun Try.prog nz1c [autP n next,.rp [.ro none 1 (ints w)] 0] (bv (wordB next.length w)):=by
  refine fun_of mixed czhb rfl ⟨rfl,trivial⟩ ?_
  simp only [Bzbm,Azbn,go_sem,yz0,xx9,xx8,xx6,xx7,xx5,xx0,xx1,xx2,reduceIte,xx3,xx4,reduceCtorEq]
  intro vs
  refine yzz (k_isWord n next w hl) qCS trivial ?_
  simp only [go_sem,yz0,xx9,xx8,xx6,xx7,xx5,xx0,xx1,xx2,reduceIte,xx3,xx4,reduceCtorEq]
def stepA (next:List (List Int)) (s l:Int):Int:=(next.getD l.toNat []).getD s.toNat 0
def atA (next:List (List Int)) (s:Int) (w:List Int):Int:=w.foldl (stepA next) s
def actA (n:Int) (next:List (List Int)) (w:List Int):List Int:=(List.range n.toNat).map fun (s:Nat)=>atA next s w
def IsW (l:Nat) (w:List Int):Prop:=∀ x∈w,0≤x∧x<l
theorem Aut.step {n:Int} {next:List (List Int)} (A:Aut n next) {s l:Int} (hs:0≤s∧s<n) (hl:0≤l∧l<next.length) :
    l.toNat<next.length∧s.toNat<(next.getD l.toNat []).length∧0≤stepA next s l∧stepA next s l<n:=by
  have h1:l.toNat<next.length:=by omega
  have h2:=A.row _ (yzq h1 [])
  have h3:s.toNat<(next.getD l.toNat []).length:=by omega
  exact ⟨h1,h3,h2.2 _ (yzq h3 0)⟩
theorem Aut.at {n:Int} {next:List (List Int)} (A:Aut n next):∀ {w:List Int} {s:Int},0≤s∧s<n→IsW next.length w→0≤atA next s w∧atA next s w<n
  | [],s,hs,_=>hs
  | l :: w,s,hs,hw=>A.at (w:=w) (A.step hs (hw l (by simp))).2.2 fun x hx=>hw x (by simp [hx])
theorem k_at (n:Int) (next:List (List Int)) (s:Int) (w:List Int) (A:Aut n next) (hs:0≤s∧s<n) (hw:IsW next.length w):Fun Try.prog nz3o [autA n next,iv s,.ro none 1 (ints w)] (iv (atA next s w)):=by
  refine fun_of mixed czia rfl ⟨rfl,trivial⟩ ?_
  simp only [Azdw,Bzdv,go_sem,yz0,xx9,xx8,xx6,xx7,xx5,xx0,xx1,xx2,reduceIte,xx3,xx4,reduceCtorEq]
  intro vs hM
  have hM2:=maxLen_le
  simp only [Bzdt,go_sem,yz0,xx9,xx8,xx6,xx7,xx5,xx0,xx1,xx2,reduceIte,xx3,xx4,reduceCtorEq]
  refine wpD_lo (fun (i,_)=>w.length - i) (fun (i,s')=>i≤w.length∧(0≤s'∧s'<n)∧atA next s' (w.drop i)=atA next s w)
    (fun ((i,s'):Nat×Int)=>⟨L .any [(1,iv s'),(3,.ptr 3 (vs 0 0) 0),(9,.ro none 1 (ints w)),(10,iv w.length),(11,iv i)],L .gone [(3,.box (vs 0 0) [iv n,.ro none 1 (rwn next)])]⟩) (0,s) (by simp;exact hs) (by simp only [Bz2k,go_sem,yz0,xx9,xx8,xx6,xx7,xx5,xx0,xx1,xx2,reduceIte,xx3,xx4,reduceCtorEq];try rfl) ?_
  rintro ⟨i,s'⟩ ⟨hi,hs',he⟩
  by_cases hlt:(i:Int)<w.length
  · have hlt':i<w.length:=by omega
    have w1:IntKind.i64.wrap ((i:Int)+1)=((i+1:Nat):Int):=by rw [w64 (by omega)];simp
    have hx:=hw _ (yzq hlt' 0)
    obtain ⟨a1,a2,a3⟩:=A.step hs' hx
    rw [drop_getD hlt' 0] at he
    simp only [Bz2k,Bz6e,Bz6d,Bzdr,Bzds,w1,yzw hlt',rwn_getD a1,yzw a2,decide_eq_true hlt,go_sem,yz0,xx9,xx8,xx6,xx7,xx5,xx0,xx1,xx2,reduceIte,xx3,xx4,reduceCtorEq]
    refine ⟨⟨by omega,hlt'⟩,hlt',⟨hx.1,a1⟩,a1,⟨hs'.1,a2⟩,a2,(_,_),?_,⟨?_,?_,?_⟩,rfl⟩
    · show w.length - (i+1)<w.length - i;omega
    · show i+1≤w.length;omega
    · exact a3
    · exact he
  · have:i=w.length:=by omega
    subst this
    rw [List.drop_length] at he
    simp only [Bz2k,Bz6e,Bz6d,Bzdu,decide_eq_false hlt,go_sem,yz0,xx9,xx8,xx6,xx7,xx5,xx0,xx1,xx2,reduceIte,xx3,xx4,reduceCtorEq]
    rw [← he];rfl
theorem k_action (n:Int) (next:List (List Int)) (w:List Int) (A:Aut n next) (hw:IsW next.length w):RowI Try.prog nz3f [autA n next,.ro none 1 (ints w)] (fun xs=>xs=actA n next w):=by
  refine rowI_of mixed czhd rfl ?_
  simp only [Azbw,Bzbv,go_sem,yz0,xx9,xx8,xx6,xx7,xx5,xx0,xx1,xx2,reduceIte,xx3,xx4,reduceCtorEq]
  intro vs vs2
  have n1:=A.n1
  have n2:=A.n2
  simp only [Bzbu,Bzbs,go_sem,yz0,xx9,xx8,xx6,xx7,xx5,xx0,xx1,xx2,reduceIte,xx3,xx4,reduceCtorEq]
  refine wpD_lo (fun (_,i)=>n.toNat - i) (fun (_,i)=>(i:Int)≤n)
    (fun ((v,i):Nat×Nat)=>⟨L .any [(1,.ro none 1 (ints w)),(2,.ptr 2 (vs 0 0) 0),(5,.own 7 v),(9,iv n),(10,iv i)],L .gone [(2,.box (vs 0 0) [iv n,.ro none 1 (rwn next)]),(7,.row v 1 true (ints ((List.range i).map fun (s:Nat)=>atA next s w)))]⟩) (_,0) (by simp;omega) (by simp only [Bz2b,go_sem,yz0,xx9,xx8,xx6,xx7,xx5,xx0,xx1,xx2,reduceIte,xx3,xx4,reduceCtorEq];try rfl) ?_
  rintro ⟨v,i⟩ hi
  have hi:(i:Int)≤n:=hi
  by_cases hlt:(i:Int)<n
  · have w1:IntKind.i64.wrap ((i:Int)+1)=((i+1:Nat):Int):=by rw [w64 (by omega)];simp
    simp only [Bz2b,Bz5n,Bz5m,Bzbq,Bzbr,decide_eq_true hlt,go_sem,yz0,xx9,xx8,xx6,xx7,xx5,xx0,xx1,xx2,reduceIte,xx3,xx4,reduceCtorEq]
    intro vs3
    refine yzz (k_at n next i w A (by omega) hw) qCS trivial ?_
    have hr:((List.range i).map fun (s:Nat)=>atA next s w) ++ [atA next i w]=(List.range (i+1)).map fun (s:Nat)=>atA next s w:=by rw [List.range_succ,List.map_append];rfl
    simp only [w1,go_sem,yz0,xx9,xx8,xx6,xx7,xx5,xx0,xx1,xx2,reduceIte,xx3,xx4,reduceCtorEq]
    rw [hr]
    refine ⟨⟨_,rfl,rfl⟩,by simp;omega,(_,i+1),?_,?_,rfl⟩
    · show n.toNat - (i+1)<n.toNat - i;omega
    · show ((i+1:Nat):Int)≤n;omega
  · have:(i:Int)=n:=by omega
    simp only [Bz2b,Bz5n,Bz5m,Bzbt,decide_eq_false hlt,go_sem,yz0,xx9,xx8,xx6,xx7,xx5,xx0,xx1,xx2,reduceIte,xx3,xx4,reduceCtorEq]
    have he:((List.range i).map fun (s:Nat)=>atA next s w)=actA n next w:=by rw [← this];simp [actA]
    refine ⟨7,v,actA n next w,by omega,rfl,?_,rfl⟩
    simp only [he,go_sem,yz0,xx9,xx8,xx6,xx7,xx5,xx0,xx1,xx2,reduceIte,xx3,xx4,reduceCtorEq]
end Go.Ab
namespace Go.Ab
open Go.Proofs
theorem k_l01Map (xs:List Int) (n:Int) (hn:0≤n∧n≤1000000):Fun Try.prog nz3i [.ro none 1 (ints xs),iv n] (bv (allIn xs 0 (n - 1) && decide ((xs.length:Int)=n))):=by
  refine fun_of mixed czhk rfl ⟨rfl,trivial⟩ ?_
  have w0:IntKind.i64.wrap (n - 1)=n - 1:=w64 (by omega)
  simp only [Azcj,Bzci,Bzcg,go_sem,yz0,xx9,xx8,xx6,xx7,xx5,xx0,xx1,xx2,reduceIte,xx3,xx4,reduceCtorEq]
  refine wpD_lo (fun i=>xs.length - i) (fun i=>i≤xs.length∧allIn (xs.drop i) 0 (n - 1)=allIn xs 0 (n - 1))
    (fun i:Nat=>⟨L .any [(0,.ro none 1 (ints xs)),(1,iv n),(5,iv i)],L .gone []⟩) 0 (by simp) (by simp only [Bz2e,go_sem,yz0,xx9,xx8,xx6,xx7,xx5,xx0,xx1,xx2,reduceIte,xx3,xx4,reduceCtorEq];try rfl) ?_
  rintro i ⟨hi,he⟩
  have hM2:=maxLen_le
  by_cases hlt:(i:Int)<xs.length
  · have hlt':i<xs.length:=by omega
    simp only [Bz2e,Bz5q,Bz5r,yzw hlt',w0,decide_eq_true hlt,go_sem,yz0,xx9,xx8,xx6,xx7,xx5,xx0,xx1,xx2,reduceIte,xx3,xx4,reduceCtorEq]
    intro hM vs
    refine ⟨⟨by omega,hlt'⟩,hlt',?_⟩
    refine yzz (k_l00In (xs.getD i 0) 0 (n - 1)) qCS trivial ?_
    have w1:IntKind.i64.wrap ((i:Int)+1)=((i+1:Nat):Int):=by rw [w64 (by omega)];simp
    rw [drop_getD hlt' 0] at he
    simp only [allIn,List.all_cons] at he
    simp only [Bzce,Bzcf,w1,go_sem,yz0,xx9,xx8,xx6,xx7,xx5,xx0,xx1,xx2,reduceIte,xx3,xx4,reduceCtorEq]
    refine ⟨fun hp=>?_,fun hp=>⟨i+1,by omega,⟨by omega,?_⟩,rfl⟩⟩
    · rw [Bool.not_eq_true'] at hp
      rw [hp] at he
      simp only [allIn,← he,Bool.false_and]
    · rw [Bool.not_eq_false'] at hp
      rw [hp] at he
      simpa [allIn] using he
  · have:i=xs.length:=by omega
    subst this
    rw [List.drop_length] at he
    simp only [Bz2e,Bz5q,Bz5r,Bzch,decide_eq_false hlt,go_sem,yz0,xx9,xx8,xx6,xx7,xx5,xx0,xx1,xx2,reduceIte,xx3,xx4,reduceCtorEq]
    intro _ _
    rw [← he]
    simp [allIn]
    rfl
theorem k_l01Ok (n:Int) (next:List (List Int)):Fun Try.prog nzm [autP n next] (bv (autB n next)):=by
  refine fun_of mixed czgz rfl ⟨rfl,trivial⟩ ?_
  simp only [Az9q,Bz9p,go_sem,yz0,xx9,xx8,xx6,xx7,xx5,xx0,xx1,xx2,reduceIte,xx3,xx4,reduceCtorEq]
  intro vs
  refine yzz (k_l00In n 1 10) qCS trivial ?_
  by_cases hn:1≤n∧n≤10
  · have h1:(decide (1≤n) && decide (n≤10))=true:=by simp [hn]
    simp only [h1,go_sem,yz0,xx9,xx8,xx6,xx7,xx5,xx0,xx1,xx2,reduceIte,xx3,xx4,reduceCtorEq]
    intro hM
    refine yzz (k_l00In next.length 1 3) qCS trivial ?_
    by_cases hl:1≤(next.length:Int)∧(next.length:Int)≤3
    · have h2:(decide (1≤(next.length:Int)) && decide ((next.length:Int)≤3))=true:=by simp only [decide_eq_true hl.1,decide_eq_true hl.2,Bool.and_self]
      simp only [h2,Bz20,Bz9o,Bz9m,go_sem,yz0,xx9,xx8,xx6,xx7,xx5,xx0,xx1,xx2,reduceIte,xx3,xx4,reduceCtorEq]
      have hB:autB n next=next.all fun row=>decide ((row.length:Int)=n) && allIn row 0 (n - 1):=by simp only [autB,h1,h2,Bool.true_and]
      refine wpD_lo (fun i=>next.length - i) (fun i=>i≤next.length∧((next.drop i).all fun row=>decide ((row.length:Int)=n) && allIn row 0 (n - 1))=autB n next)
        (fun i:Nat=>⟨L .any [(0,autP n next),(3,iv i)],L .gone []⟩) 0 (by simp [hB]) (by simp only [Bz21,go_sem,yz0,xx9,xx8,xx6,xx7,xx5,xx0,xx1,xx2,reduceIte,xx3,xx4,reduceCtorEq];try rfl) ?_
      rintro i ⟨hi,he⟩
      by_cases hlt:(i:Int)<next.length
      · have hlt':i<next.length:=by omega
        have w1:IntKind.i64.wrap ((i:Int)+1)=((i+1:Nat):Int):=by rw [w64 (by omega)];simp
        simp only [Bz21,Bz4p,Bz4q,rwn_getD hlt',decide_eq_true hlt,go_sem,yz0,xx9,xx8,xx6,xx7,xx5,xx0,xx1,xx2,reduceIte,xx3,xx4,reduceCtorEq]
        intro _ vs2
        refine ⟨⟨by omega,hlt'⟩,hlt',?_⟩
        refine yzz (k_l01Map (next.getD i []) n (by omega)) qCS trivial ?_
        rw [drop_getD hlt' []] at he
        simp only [List.all_cons] at he
        simp only [Bz9k,Bz9l,w1,go_sem,yz0,xx9,xx8,xx6,xx7,xx5,xx0,xx1,xx2,reduceIte,xx3,xx4,reduceCtorEq]
        refine ⟨fun hp=>?_,fun hp=>⟨i+1,by omega,⟨by omega,?_⟩,rfl⟩⟩
        · rw [Bool.not_eq_true',Bool.and_comm] at hp
          rw [hp] at he
          rw [← he];rfl
        · rw [Bool.not_eq_false',Bool.and_comm] at hp
          rw [hp] at he
          simpa using he
      · have:i=next.length:=by omega
        subst this
        rw [List.drop_length] at he
        simp only [Bz21,Bz4p,Bz4q,Bz9n,decide_eq_false hlt,go_sem,yz0,xx9,xx8,xx6,xx7,xx5,xx0,xx1,xx2,reduceIte,xx3,xx4,reduceCtorEq]
        intro _
        rw [← he];rfl
    · have h2:(decide (1≤(next.length:Int)) && decide ((next.length:Int)≤3))=false:=by
        rw [Bool.and_eq_false_iff]
        by_cases h3:1≤(next.length:Int)
        · right;simp;omega
        · left;simp;omega
      simp only [h2,Bz20,go_sem,yz0,xx9,xx8,xx6,xx7,xx5,xx0,xx1,xx2,reduceIte,xx3,xx4,reduceCtorEq]
      simp only [autB,h1,h2,Bool.true_and,Bool.false_and]
  · have h1:(decide (1≤n) && decide (n≤10))=false:=by
      rw [Bool.and_eq_false_iff]
      by_cases h3:1≤n
      · right;simp;omega
      · left;simp;omega
    simp only [h1,Bz20,go_sem,yz0,xx9,xx8,xx6,xx7,xx5,xx0,xx1,xx2,reduceIte,xx3,xx4,reduceCtorEq]
    simp only [autB,h1,Bool.false_and]
def allS (n:Int):List Int:=(List.range n.toNat).map fun (s:Nat)=>(s:Int)
theorem k_l01All (n:Int) (hn:0≤n∧n≤1000000):RowI Try.prog nz3l [iv n] (fun xs=>xs=allS n):=by
  refine rowI_of mixed czi6 rfl ?_
  simp only [Azd7,Bzd6,go_sem,yz0,xx9,xx8,xx6,xx7,xx5,xx0,xx1,xx2,reduceIte,xx3,xx4,reduceCtorEq]
  intro vs
  simp only [Bzd5,Bzd3,go_sem,yz0,xx9,xx8,xx6,xx7,xx5,xx0,xx1,xx2,reduceIte,xx3,xx4,reduceCtorEq]
  refine wpD_lo (fun (_,i)=>n.toNat - i) (fun (_,i)=>(i:Int)≤n)
    (fun ((v,i):Nat×Nat)=>⟨L .any [(0,iv n),(3,.own 5 v),(4,iv i)],L .gone [(5,.row v 1 true (ints ((List.range i).map fun (s:Nat)=>(s:Int))))]⟩) (_,0) (by simp;omega) (by simp only [Bz2g,go_sem,yz0,xx9,xx8,xx6,xx7,xx5,xx0,xx1,xx2,reduceIte,xx3,xx4,reduceCtorEq];try rfl) ?_
  rintro ⟨v,i⟩ hi
  have hi:(i:Int)≤n:=hi
  by_cases hlt:(i:Int)<n
  · have w1:IntKind.i64.wrap ((i:Int)+1)=((i+1:Nat):Int):=by rw [w64 (by omega)];simp
    have hr:((List.range i).map fun (s:Nat)=>(s:Int)) ++ [(i:Int)]=(List.range (i+1)).map fun (s:Nat)=>(s:Int):=by rw [List.range_succ,List.map_append];rfl
    simp only [Bz2g,Bz62,Bz63,Bzd2,w1,decide_eq_true hlt,go_sem,yz0,xx9,xx8,xx6,xx7,xx5,xx0,xx1,xx2,reduceIte,xx3,xx4,reduceCtorEq]
    intro vs3
    rw [hr]
    refine ⟨⟨_,rfl,rfl⟩,by simp;omega,(_,i+1),?_,?_,rfl⟩
    · show n.toNat - (i+1)<n.toNat - i;omega
    · show ((i+1:Nat):Int)≤n;omega
  · have:(i:Int)=n:=by omega
    have he:((List.range i).map fun (s:Nat)=>(s:Int))=allS n:=by rw [← this];simp [allS]
    simp only [Bz2g,Bz62,Bz63,Bzd4,decide_eq_false hlt,go_sem,yz0,xx9,xx8,xx6,xx7,xx5,xx0,xx1,xx2,reduceIte,xx3,xx4,reduceCtorEq]
    refine ⟨5,v,allS n,by omega,rfl,?_,rfl⟩
    simp only [he,go_sem,yz0,xx9,xx8,xx6,xx7,xx5,xx0,xx1,xx2,reduceIte,xx3,xx4,reduceCtorEq]
theorem k_Clone (xs:List Int) (h:xs.length * 8≤140737488355328):RowI Try.prog nz3g [.ro (argN xs) 1 (ints xs)] (fun ys=>ys=xs):=by
  refine rowI_of mixed czhg rfl ?_
  simp only [Bzc1,Bzc2,Bzc3,Azc4,go_sem,yz0,xx9,xx8,xx6,xx7,xx5,xx0,xx1,xx2,reduceIte,xx3,xx4,reduceCtorEq]
  intro vs
  exact ⟨h,_,_,xs,by omega,rfl,by simp only [go_sem,yz0,xx9,xx8,xx6,xx7,xx5,xx0,xx1,xx2,reduceIte,xx3,xx4,reduceCtorEq],rfl⟩
end Go.Ab
namespace Go.Ab
open Go.Proofs
theorem nat1 (i:Nat) (m:Nat) (h:i<m) (hm:m≤maxLen):IntKind.i64.wrap ((i:Int)+1)=((i+1:Nat):Int):=by
  have:=maxLen_le
  rw [w64 (by omega)];simp
theorem take_eq_step {α:Type} [BEq α] {xs ys:List α} {i:Nat} (d:α) (h:i<xs.length) (h':i<ys.length) (he:xs.take i=ys.take i) (hx:xs.getD i d=ys.getD i d):xs.take (i+1)=ys.take (i+1):=by
  rw [List.getD_eq_getElem?_getD,List.getD_eq_getElem?_getD,List.getElem?_eq_getElem h,List.getElem?_eq_getElem h'] at hx
  simp only [Option.getD_some] at hx
  rw [List.take_add_one,List.take_add_one,he,List.getElem?_eq_getElem h,List.getElem?_eq_getElem h',hx]
theorem bne_false_eq {a b:Int} (h:(a != b)=false):a=b:=by simpa using h
theorem k_a2Same (xs ys:List Int):Fun Try.prog nz37 [.ro none 1 (ints xs),.ro none 1 (ints ys)] (bv (decide (xs=ys))):=by
  refine fun_of mixed czgu rfl ⟨rfl,trivial⟩ ?_
  simp only [Az90,Bz8z,go_sem,yz0,xx9,xx8,xx6,xx7,xx5,xx0,xx1,xx2,reduceIte,xx3,xx4,reduceCtorEq]
  intro hx hy
  by_cases hlen:xs.length=ys.length
  · have hne:((xs.length:Int) != (ys.length:Int))=false:=by rw [hlen];simp
    simp only [hne,Bz4k,Bz8y,Bz8w,go_sem,yz0,xx9,xx8,xx6,xx7,xx5,xx0,xx1,xx2,reduceIte,xx3,xx4,reduceCtorEq]
    refine wpD_lo (fun i=>xs.length - i) (fun i=>i≤xs.length∧xs.take i=ys.take i)
      (fun i:Nat=>⟨L .any [(0,.ro none 1 (ints xs)),(1,.ro none 1 (ints ys)),(5,iv i)],L .gone []⟩) 0 (by simp) (by simp only [Bz1u,go_sem,yz0,xx9,xx8,xx6,xx7,xx5,xx0,xx1,xx2,reduceIte,xx3,xx4,reduceCtorEq];try rfl) ?_
    rintro i ⟨hi,hti⟩
    by_cases hlt:(i:Int)<xs.length
    · have hlt1:i<xs.length:=by omega
      have hlt2:i<ys.length:=by omega
      simp only [Bz1u,Bz4l,Bz4m,yzw hlt1,yzw hlt2,decide_eq_true hlt,go_sem,yz0,xx9,xx8,xx6,xx7,xx5,xx0,xx1,xx2,reduceIte,xx3,xx4,reduceCtorEq]
      intro _
      refine ⟨⟨by omega,hlt1⟩,hlt1,⟨by omega,hlt2⟩,hlt2,?_⟩
      simp only [Bz8u,Bz8v,nat1 i _ hlt1 hx,go_sem,yz0,xx9,xx8,xx6,xx7,xx5,xx0,xx1,xx2,reduceIte,xx3,xx4,reduceCtorEq]
      refine ⟨fun h=>?_,fun h=>⟨i+1,by omega,⟨by omega,take_eq_step 0 hlt1 hlt2 hti (bne_false_eq h)⟩,rfl⟩⟩
      have:xs≠ys:=by rintro rfl;simp at h
      simp [this]
    · have:i=xs.length:=by omega
      subst this
      simp only [Bz1u,Bz4l,Bz4m,Bz8x,decide_eq_false hlt,go_sem,yz0,xx9,xx8,xx6,xx7,xx5,xx0,xx1,xx2,reduceIte,xx3,xx4,reduceCtorEq]
      intro _
      have:xs=ys:=by rw [List.take_length,hlen,List.take_length] at hti;exact hti
      simp [this]
  · have hne:((xs.length:Int) != (ys.length:Int))=true:=by simp;omega
    simp only [hne,Bz4k,go_sem,yz0,xx9,xx8,xx6,xx7,xx5,xx0,xx1,xx2,reduceIte,xx3,xx4,reduceCtorEq]
    have:xs≠ys:=by rintro rfl;exact hlen rfl
    simp [this]
theorem k_a2Long (code more:List Int):Fun Try.prog nz2y [.ro (some (some 0)) 1 (intsK .u8 code),.ro (some (some 0)) 1 (intsK .u8 more)] (bv (decide ((code.length:Int) > 3000) || decide ((more.length:Int) > 3000))):=by
  refine fun_of mixed czgk rfl ⟨rfl,trivial⟩ ?_
  simp only [Bz7m,Az7n,go_sem,yz0,xx9,xx8,xx6,xx7,xx5,xx0,xx1,xx2,reduceIte,xx3,xx4,reduceCtorEq]
  intro _
  by_cases h:(code.length:Int) > 3000
  · simp only [decide_eq_true h,go_sem,yz0,xx9,xx8,xx6,xx7,xx5,xx0,xx1,xx2,reduceIte,xx3,xx4,reduceCtorEq]
    try simp
  · simp only [decide_eq_false h,go_sem,yz0,xx9,xx8,xx6,xx7,xx5,xx0,xx1,xx2,reduceIte,xx3,xx4,reduceCtorEq]
    intro _
    try simp
theorem k_ActionOf (n:Int) (next:List (List Int)) (w:List Int) (A:Aut n next) (hw:IsW next.length w) (hl:w.length≤400):TupI Try.prog nz38 [autA n next,.ro none 1 (ints w)] (fun xs=>xs=actA n next w):=by
  have h1:autB n next=true:=autB_iff.2 A
  have h2:wordB next.length w=true:=by
    simp only [wordB,Bool.and_eq_true,decide_eq_true_eq,allIn_iff]
    exact ⟨by omega,fun x hx=>by have:=hw x hx;omega⟩
  refine tupI_of mixed czgv rfl ?_
  simp only [Az95,Bz94,go_sem,yz0,xx9,xx8,xx6,xx7,xx5,xx0,xx1,xx2,reduceIte,xx3,xx4,reduceCtorEq]
  intro vs vs2
  refine yzz (k_code n next nz1c [autP n next,.rp [.ro none 1 (ints w)] 0] _ ⟨by simp only [go_sem,yz0,xx9,xx8,xx6,xx7,xx5,xx0,xx1,xx2,reduceIte,xx3,xx4,reduceCtorEq],by intros;simp only [rowIs,boxIs,coe_argN,coe_argNs,coe_ro_o,coeL_nil,yz12,coe_any,coe_val,coe_ro,yz16,yz17,coe_st,yz18,coe_rp,yz19,coe_clo,coe_own0,coe_ptr0,yz15,coeL_rws,coeL_rwn,L_hit,L_miss,L_nil,xx3,ne_eq,reduceCtorEq,not_false_eq_true,true_and,and_true,and_self,exists_eq_left,exists_eq_right,List.mem_cons,List.not_mem_nil,or_false,AObj.row.injEq,AObj.box.injEq,exists_eq_left',exists_and_left,exists_eq,Nat.zero_lt_one,Nat.lt_add_one,List.map_cons,List.map_nil,AObj.ver,xx5,not_true_eq_false]⟩ (fun _=>k_ActionOf_1 n next w ⟨A.l1,A.l2⟩)) qCS trivial ?_
  have h3:codeI (autB n next) (wordB next.length w)=0:=by simp [codeI,h1,h2]
  simp only [h3,Bz92,Bz91,Bz93,bne_self_eq_false,go_sem,yz0,xx9,xx8,xx6,xx7,xx5,xx0,xx1,xx2,reduceIte,xx3,xx4,reduceCtorEq]
  intro vs3
  refine call_rowI (k_action n next w A hw) qCS qWS ⟨_,rfl⟩ ?_
  rintro xs v rfl
  simp only [go_sem,yz0,xx9,xx8,xx6,xx7,xx5,xx0,xx1,xx2,reduceIte,xx3,xx4,reduceCtorEq]
  exact ⟨15,v,_,by omega,rfl,by simp only [go_sem,yz0,xx9,xx8,xx6,xx7,xx5,xx0,xx1,xx2,reduceIte,xx3,xx4,reduceCtorEq],rfl⟩
end Go.Ab
namespace Go.Ab
open Go.Proofs
theorem intsK_take {k:IntKind} {xs:List Int} {i:Nat}:(intsK k xs).take i=intsK k (xs.take i):=by simp [List.map_take]
theorem intsK_drop {k:IntKind} {xs:List Int} {i:Nat}:(intsK k xs).drop i=intsK k (xs.drop i):=by simp [List.map_drop]
abbrev nilS:AVal:=.val (.slice none 0 0)
end Go.Ab
namespace Go.Ab
def SI (l:List Int):Prop:=l.Pairwise (·<·)
theorem SI_ext:∀ {a b:List Int},SI a→SI b→(∀ x,x∈a↔x∈b)→a=b
  | [],[],_,_,_=>rfl
  | [],y :: b,_,_,h=>by have:=(h y).2 (by simp);simp at this
  | x :: a,[],_,_,h=>by have:=(h x).1 (by simp);simp at this
  | x :: a,y :: b,ha,hb,h=>by
    unfold SI at ha hb
    rw [List.pairwise_cons] at ha hb
    have e:x=y:=by
      rcases List.mem_cons.1 ((h x).1 (by simp)) with e | h1
      · exact e
      · rcases List.mem_cons.1 ((h y).2 (by simp)) with e | h2
        · exact e.symm
        · have:=hb.1 x h1;have:=ha.1 y h2;omega
    subst e
    have:a=b:=SI_ext ha.2 hb.2 fun z=>by
      constructor
      · intro hz
        rcases List.mem_cons.1 ((h z).1 (by simp [hz])) with e | h1
        · have:=ha.1 z hz;omega
        · exact h1
      · intro hz
        rcases List.mem_cons.1 ((h z).2 (by simp [hz])) with e | h1
        · have:=hb.1 z hz;omega
        · exact h1
    rw [this]
def put:List Int→Int→List Int
  | [],n=>[n]
  | x :: xs,n=>if n≤x then (if n<x then n :: x :: xs else x :: xs) else x :: put xs n
theorem put_mem {n y:Int}:∀ {xs:List Int},y∈put xs n↔y=n∨y∈xs
  | []=>by simp [put]
  | x :: xs=>by
    simp only [put]
    split
    · split
      · simp
      · have:x=n:=by omega
        subst this
        simp
    · rw [List.mem_cons,put_mem,List.mem_cons]
      constructor
      · rintro (h | h | h)
        · exact .inr (.inl h)
        · exact .inl h
        · exact .inr (.inr h)
      · rintro (h | h | h)
        · exact .inr (.inl h)
        · exact .inl h
        · exact .inr (.inr h)
theorem put_SI {n:Int}:∀ {xs:List Int},SI xs→SI (put xs n)
  | [],_=>by simp [put,SI]
  | x :: xs,h=>by
    have h0:=h
    unfold SI at h
    rw [List.pairwise_cons] at h
    simp only [put]
    split
    · split
      · unfold SI
        rw [List.pairwise_cons]
        refine ⟨fun y hy=>?_,h0⟩
        rcases List.mem_cons.1 hy with rfl | hy
        · assumption
        · have:=h.1 y hy;omega
      · exact h0
    · unfold SI
      rw [List.pairwise_cons]
      refine ⟨fun y hy=>?_,put_SI h.2⟩
      rcases put_mem.1 hy with rfl | hy
      · omega
      · exact h.1 y hy
theorem put_len {n:Int}:∀ {xs:List Int},(put xs n).length≤xs.length+1
  | []=>by simp [put]
  | x :: xs=>by
    simp only [put]
    split
    · split <;> simp
    · have:=put_len (n:=n) (xs:=xs)
      simp only [List.length_cons];omega
def nrm (l:List Int):List Int:=l.foldl put []
theorem nrm_acc:∀ (l acc:List Int),SI acc→SI (l.foldl put acc)∧∀ y,y∈l.foldl put acc↔y∈acc∨y∈l
  | [],acc,h=>⟨h,by simp⟩
  | x :: l,acc,h=>by
    obtain ⟨h1,h2⟩:=nrm_acc l (put acc x) (put_SI h)
    refine ⟨h1,fun y=>?_⟩
    rw [List.foldl_cons,h2,put_mem,List.mem_cons]
    constructor
    · rintro ((h | h) | h)
      · exact .inr (.inl h)
      · exact .inl h
      · exact .inr (.inr h)
    · rintro (h | h | h)
      · exact .inl (.inr h)
      · exact .inl (.inl h)
      · exact .inr h
theorem nrm_SI (l:List Int):SI (nrm l):=(nrm_acc l [] (by simp [SI])).1
theorem nrm_mem {l:List Int} {y:Int}:y∈nrm l↔y∈l:=by
  have:=(nrm_acc l [] (by simp [SI])).2 y
  simpa [nrm] using this
theorem nrm_snoc {l:List Int} {x:Int}:nrm (l ++ [x])=put (nrm l) x:=by simp [nrm,List.foldl_append]
theorem nrm_len:∀ l:List Int,(nrm l).length≤l.length:=by
  have gen:∀ (l acc:List Int),(l.foldl put acc).length≤acc.length+l.length:=by
    intro l
    induction l with
    | nil=>intro acc;simp
    | cons x l ih=>intro acc;rw [List.foldl_cons,List.length_cons];have:=ih (put acc x);have:=put_len (n:=x) (xs:=acc);omega
  intro l
  have:=gen l []
  simpa [nrm] using this
theorem compact_sorted {zs:List Int} (h:zs.Pairwise (·≤·)):SI (Lib.compact zs)∧∀ y,y∈Lib.compact zs↔y∈zs:=by
  have hget:∀ j,j<zs.length→zs.toArray[j]! = zs.getD j 0:=by
    intro j hj
    rw [getElem!_pos _ j (by simpa using hj),List.getD_eq_getElem?_getD,List.getElem?_eq_getElem hj];simp
  have hle:∀ i j,i<j→j<zs.length→zs.getD i 0≤zs.getD j 0:=by
    intro i j hij hj
    rw [List.pairwise_iff_getElem] at h
    have:=h i j (by omega) hj hij
    rw [List.getD_eq_getElem?_getD,List.getElem?_eq_getElem (by omega),List.getD_eq_getElem?_getD,List.getElem?_eq_getElem hj]
    exact this
  have key:∀ m,m≤zs.length→SI (Lib.compactUpTo zs.toArray m)∧∀ y,y∈Lib.compactUpTo zs.toArray m↔y∈zs.take m:=by
    intro m
    induction m with
    | zero=>intro _;simp [Lib.compactUpTo,SI]
    | succ m ih =>
      intro hm
      obtain ⟨h1,h2⟩:=ih (by omega)
      have ht:zs.take (m+1)=zs.take m ++ [zs.getD m 0]:=by
        rw [List.take_succ_eq_append_getElem (by omega),List.getD_eq_getElem?_getD,List.getElem?_eq_getElem (by omega)];rfl
      rw [Lib.compactUpTo_succ,ht,hget m (by omega)]
      have hlast:∀ y∈zs.take m,y≤zs.getD (m - 1) 0:=by
        intro y hy
        obtain ⟨i,hi,rfl⟩:=List.mem_iff_getElem.1 hy
        have hi':i<m:=by simp at hi;omega
        rw [List.getElem_take]
        have e:zs[i]=zs.getD i 0:=by rw [List.getD_eq_getElem?_getD,List.getElem?_eq_getElem (by omega)];rfl
        rw [e]
        by_cases hi2:i=m - 1
        · rw [hi2];exact Int.le_refl _
        · exact hle i (m - 1) (by omega) (by omega)
      by_cases hk:Lib.keeps zs.toArray m=true
      · rw [if_pos hk]
        refine ⟨?_,fun y=>by rw [List.mem_append,List.mem_append,h2]⟩
        unfold SI at h1 ⊢
        rw [List.pairwise_append]
        refine ⟨h1,by simp,?_⟩
        intro x hx y hy
        have hy:y=zs.getD m 0:=by simpa using hy
        subst hy
        have hx1:=hlast x ((h2 x).1 hx)
        have hm0:m≠0:=by
          rintro rfl
          have:=(h2 x).1 hx
          simp at this
        have hk':zs.getD m 0≠zs.getD (m - 1) 0:=by
          have:=hk
          simp only [Lib.keeps,decide_eq_true_eq,hget m (by omega),hget (m - 1) (by omega)] at this
          rcases this with e | e
          · exact absurd e hm0
          · exact e
        have:=hle (m - 1) m (by omega) (by omega)
        omega
      · have hk2:Lib.keeps zs.toArray m=false:=by simpa using hk
        rw [if_neg (by rw [hk2];simp),List.append_nil]
        refine ⟨h1,fun y=>?_⟩
        rw [h2,List.mem_append,List.mem_singleton]
        simp only [Lib.keeps,decide_eq_false_iff_not,hget m (by omega),hget (m - 1) (by omega)] at hk2
        have hm0:m≠0:=fun e=>hk2 (.inl e)
        have he:zs.getD m 0=zs.getD (m - 1) 0:=Classical.byContradiction fun e=>hk2 (.inr e)
        constructor
        · exact .inl
        · rintro (h | rfl)
          · exact h
          · rw [he]
            have:(zs.take m).getD (m - 1) 0=zs.getD (m - 1) 0:=by
              rw [List.getD_eq_getElem?_getD,List.getElem?_take,if_pos (by omega),← List.getD_eq_getElem?_getD]
            rw [← this,List.getD_eq_getElem?_getD,List.getElem?_eq_getElem (by simp;omega)]
            exact List.getElem_mem _
  have:=key zs.length (Nat.le_refl _)
  rw [List.take_length] at this
  exact this
theorem compact_nrm (l:List Int):Lib.compact (l.mergeSort fun x y=>decide (x≤y))=nrm l:=by
  have hs:(l.mergeSort fun x y=>decide (x≤y)).Pairwise (·≤·):=by
    have:=List.pairwise_mergeSort (le:=fun x y:Int=>decide (x≤y)) (fun a b c h1 h2=>by simp at *;omega) (fun a b=>by simp;omega) l
    exact this.imp fun h=>by simpa using h
  obtain ⟨h1,h2⟩:=compact_sorted hs
  refine SI_ext h1 (nrm_SI l) fun x=>?_
  rw [h2,nrm_mem,List.mem_mergeSort]
theorem compact_len (zs:List Int):(Lib.compact zs).length≤zs.length:=by
  unfold Lib.compact Lib.compactUpTo
  rw [List.length_map]
  exact Nat.le_trans (List.length_filter_le _ _) (by simp)
end Go.Ab
namespace Go.Ab
open Go.Proofs
theorem k_Sort (zs:List Int) (nn:Bool) (hz:zs.length<4611686018427387904):Con Try.prog nz3w [.row 0 1 nn (ints zs)] [.own 5000 0] true
    fun outs rows res=>outs=[.row 0 1 nn (ints (zs.mergeSort fun x y=>decide (x≤y)))]∧rows=[]∧res=.tup []:=by
  refine con_inrow x_slices_Sort_LI zs _ (by simp) (fun g off cap w hH hb _ _=>?_) (fun p cap w=>?_) nn
  · refine (AnyG.slices_Sort_int Try.lsort g off cap zs w hH hb hz).mono ?_
    rintro e w' ⟨he,n,os,hw⟩
    exact ⟨he,n,os,hw⟩
  · exact AnyG.slices_Sort_int_none Try.lsort p cap w
theorem k_Compact (zs:List Int) (nn:Bool):Con Try.prog nz3x [.row 0 1 nn (ints zs)] [.own 5000 0] true
    fun outs rows res=>∃ v,outs=[.row v 1 nn (ints (Lib.compact zs))]∧rows=[]∧res=.own 5000 v:=by
  have hl:=compact_len zs
  have h:=con_inrowS x_slices_Compact_LI zs (Lib.compact zs ++ List.replicate (zs.length - (Lib.compact zs).length) 0) (Lib.compact zs).length (by simp;omega) hl
    (fun g off cap w hH hb hm hc=>by
      refine (AnyG.slices_Compact_int Try.lcompact g off cap zs w hH (by have:=maxLen_le;omega) hc).mono ?_
      rintro e w' ⟨he,q,hw⟩
      exact ⟨he,q,#[],by rw [Sort.grow_empty];exact hw⟩)
    (fun p cap w=>AnyG.slices_Compact_int_empty Try.lcompact p cap w) nn
  rw [List.take_left] at h
  exact h
theorem call_row1 {P:Program} {σ:St} {g:FuncId} {As:List AVal} {d:Option Nat} {s:Nat→Nat} {K:St→Prop} {r v:Nat} {cs cs':List AVal} {nn:Bool} {R:List AObj→List AObj→AVal→Prop}
    (h:Con P g [.row 0 1 nn cs'] [.own 5000 0] true R) (hr:σ.hp r=.row v 1 nn cs) (hco:CoeL σ.hp [r] false cs' cs) (hA:As=[.own r v])
    (hk:∀ outs rows res,R outs rows res→rows=[]∧∃ o,outs=[o]∧K (St.put ⟨σ.tm,upd σ.hp r (o.ren (rid [r] (d.getD 0) 0) (sv σ.hp [r] s))⟩ d (res.ren (rid [r] (d.getD 0) 0) (sv σ.hp [r] s)))) :
    wpCall P false σ g As d s K:=by
  subst hA
  refine .inl ⟨[r],[.row 0 1 nn cs'],[.own 5000 0],true,R,h,⟨by simp,rfl,by simp,by simp [hr],?_⟩,?_,(fun e=>by cases e),?_⟩
  · intro j B r' hB hr'
    cases j with
    | succ j=>simp at hB
    | zero =>
      simp at hB hr';subst hB;subst hr'
      simp only [ObjCoe,hr]
      exact ⟨trivial,v,cs,rfl,hco⟩
  · rw [yz12]
    simp only [Coe,coeL_nil,and_true]
    exact ⟨0,r,v,rfl,rfl,rfl,rfl,by rw [hr];rfl⟩
  · intro outs rows res hR
    obtain ⟨rfl,o,rfl,hK⟩:=hk outs rows res hR
    refine ⟨rfl,by simp,by simp,?_⟩
    rw [callHp_m]
    exact hK
theorem coe_argN_self {hp:Nat→AObj} {m:List Nat} {len:Bool} {xs:List Int}:Coe hp m len (.ro (argN xs) 1 (ints xs)) (.ro (argN xs) 1 (ints xs))=True:=by
  by_cases h:xs.length=0
  · have e:argN xs=some none:=by unfold argN;rw [if_pos h]
    have:=coe_argN (hp:=hp) (m:=m) (len:=len) (xs:=xs)
    rw [e] at this ⊢;exact this
  · have e:argN xs=none:=by unfold argN;rw [if_neg h]
    rw [e,coe_ro]
    exact eq_true ⟨by omega,coeL_self fun A hA=>by simp only [List.mem_map] at hA;obtain ⟨x,_,rfl⟩:=hA;exact ⟨_,rfl⟩⟩
theorem coe_argN_own {hp:Nat→AObj} {r v:Nat} {xs:List Int} (h:hp r=.row v 1 true (ints xs)):Coe hp [] true (.ro (argN xs) 1 (ints xs)) (.own r v):=by
  simp only [Coe]
  refine ⟨?_,by omega,.inr (.inr ⟨trivial,r,v,true,ints xs,rfl,by simp,h,coeL_ints⟩)⟩
  by_cases e:xs.length=0
  · have h0:xs=[]:=List.eq_nil_of_length_eq_zero e
    subst h0
    exact .inr (.inr ⟨rfl,rfl,.inr ⟨r,v,1,_,rfl,h⟩⟩)
  · left;unfold argN;rw [if_neg e]
theorem sv_0 {hp:Nat→AObj} {r v:Nat} {s:Nat→Nat} (h:(hp r).ver=some v):sv hp [r] s 0=v:=by
  unfold sv;simp [h]
theorem ren_own_h {r d n u:Nat} {s:Nat→Nat}:AVal.ren (rid [r] d n) s (.own 5000 u)=.own r (s u):=by
  have h1:rid [r] d n 5000=some r:=rid_m (j:=0) (by omega) rfl
  simp only [AVal.ren,h1]
theorem k_sorted (xs:List Int) (h:xs.length * 8≤140737488355328):RowI Try.prog nz3n [.ro (argN xs) 1 (ints xs)] (fun ys=>ys=nrm xs):=by
  refine rowI_of mixed czi9 rfl ?_
  simp only [Azdq,Bzdp,go_sem,yz0,xx9,xx8,xx6,xx7,xx5,xx0,xx1,xx2,reduceIte,xx3,xx4,reduceCtorEq]
  intro vs
  refine call_rowI (k_Clone xs h) (by simp only [coe_argN_self,rowIs,boxIs,coe_argN,coe_argNs,coe_ro_o,coeL_nil,yz12,coe_any,coe_val,coe_ro,yz16,yz17,coe_st,yz18,coe_rp,yz19,coe_clo,coe_own0,coe_ptr0,yz15,coeL_rws,coeL_rwn,L_hit,L_miss,L_nil,xx3,ne_eq,reduceCtorEq,not_false_eq_true,true_and,and_true,and_self,exists_eq_left,exists_eq_right,List.mem_cons,List.not_mem_nil,or_false,AObj.row.injEq,AObj.box.injEq,exists_eq_left',exists_and_left,exists_eq,Nat.zero_lt_one,Nat.lt_add_one,List.map_cons,List.map_nil,AObj.ver,xx5,not_true_eq_false]) rfl ⟨_,rfl⟩ ?_
  rintro ys v rfl
  simp only [Bzdo,go_sem,yz0,xx9,xx8,xx6,xx7,xx5,xx0,xx1,xx2,reduceIte,xx3,xx4,reduceCtorEq]
  intro vs2
  refine call_row1 (k_Sort ys true (by omega)) (r:=5) (v:=v) qWS coeL_ints qWS ?_
  rintro outs rows res ⟨rfl,rfl,rfl⟩
  refine ⟨rfl,_,rfl,?_⟩
  have e0:=sv_0 (hp:=L AObj.gone [(5,AObj.row v 1 true (ints ys))]) (r:=5) (v:=v) (s:=vs2 1) rfl
  simp only [e0,Nat.not_lt_zero,range1,yzx,yz11,ren_ro,rnNm_n,yz10,rnNm_o,rnNm_s,ren_st,yzy,yzp,yzf,yz4,yzu,yzv,yzo,yzm,yzs,yzb,yzd,yzc,yza,yzj,yzi,yz3,yz7,yz8,yz9,yzg,yzk,List.range_zero,yz6,yz5,yze,yzt,yzl,yzr,AVal.fresh,freshL,yz2,yzh,AObj.fresh,id,Option.isSome_some,or_true,true_or,go_sem,yz0,xx9,xx8,xx6,xx7,xx5,xx0,xx1,xx2,reduceIte,xx3,xx4,reduceCtorEq]
  simp only [Bzdn,go_sem,yz0,xx9,xx8,xx6,xx7,xx5,xx0,xx1,xx2,reduceIte,xx3,xx4,reduceCtorEq]
  intro vs3
  refine call_row1 (k_Compact _ true) (r:=5) (v:=v) (by simp only [go_sem,yz0,xx9,xx8,xx6,xx7,xx5,xx0,xx1,xx2,reduceIte,xx3,xx4,reduceCtorEq];rfl) coeL_ints qWS ?_
  rintro outs rows res ⟨u,rfl,rfl,rfl⟩
  refine ⟨rfl,_,rfl,?_⟩
  simp only [compact_nrm,ren_own_h,Nat.not_lt_zero,range1,yzx,yz11,ren_ro,rnNm_n,yz10,rnNm_o,rnNm_s,ren_st,yzy,yzp,yzf,yz4,yzu,yzv,yzo,yzm,yzs,yzb,yzd,yzc,yza,yzj,yzi,yz3,yz7,yz8,yz9,yzg,yzk,List.range_zero,yz6,yz5,yze,yzt,yzl,yzr,AVal.fresh,freshL,yz2,yzh,AObj.fresh,id,Option.isSome_some,or_true,true_or,go_sem,yz0,xx9,xx8,xx6,xx7,xx5,xx0,xx1,xx2,reduceIte,xx3,xx4,reduceCtorEq]
  exact ⟨5,_,nrm ys,by omega,rfl,by simp only [go_sem,yz0,xx9,xx8,xx6,xx7,xx5,xx0,xx1,xx2,reduceIte,xx3,xx4,reduceCtorEq],rfl⟩
abbrev Fun2 (P:Program) (g:FuncId) (args:List AVal) (x y:Value):Prop:=Fn P g args fun rows res=>rows=[]∧res=.tup [.val x,.val y]
theorem fun2_of {P:Program} {g:FuncId} {F:AFn} (hm:P.follows .mixedOrders=true) {no:Option (List Nat×List FuncId)} (hF:cFn (drV no) P g F) {args:List AVal} (hargs:args.length=F.nparams) {x y:Value}
    (h:wpD P F.code (finQ fun σ=>(∀ x∈F.res,σ.there x)∧σ.value F.res=.tup [.val x,.val y]) (St.init args [])):Fun2 P g args x y:=by
  refine con_of hm hF hargs (by simp) (wpD_mono _ _ _ _ (fun e σ he=>?_) h)
  have:((∀ x∈F.res,σ.there x)∧σ.value F.res=.tup [.val x,.val y])→_:=fun ⟨h1,h2⟩ =>
    (show (∀ x∈F.res,σ.there x)∧∃ ids:List Nat,ids.length≤1000∧ids.Nodup∧(∀ n∈ids,n<5000)∧(σ.value F.res).fresh∧(∀ n∈ids,(σ.hp n).fresh)∧(∀ j,j<([]:List AObj).length→(σ.hp (5000+j)).fresh) ∧
      (fun outs rows res=>outs=[]∧rows=[]∧res=AVal.tup [.val x,.val y]) ((List.range ([]:List AObj).length).map fun j=>(σ.hp (5000+j)).ren (expo ids) id) (ids.map fun n=>(σ.hp n).ren (expo ids) id) ((σ.value F.res).ren (expo ids) id) from
    ⟨h1,[],by simp,by simp,by simp,by rw [h2];simp [AVal.fresh,freshL],by simp,by simp,rfl,rfl,by rw [h2];simp only [Nat.not_lt_zero,range1,yzx,yz11,ren_ro,rnNm_n,yz10,rnNm_o,rnNm_s,ren_st,yzy,yzp,yzf,yz4,yzu,yzv,yzo,yzm,yzs,yzb,yzd,yzc,yza,yzj,yzi,yz3,yz7,yz8,yz9,yzg,yzk,List.range_zero,yz6,yz5,yze,yzt,yzl,yzr,AVal.fresh,freshL,yz2,yzh,AObj.fresh,id,Option.isSome_some,or_true,true_or]⟩)
  cases e with
  | exit _=>exact he
  | normal=>exact this he
  | ret=>exact this he
theorem call_fun2 {P:Program} {pu:Bool} {σ:St} {g:FuncId} {As args:List AVal} {d:Option Nat} {s:Nat→Nat} {K:St→Prop} {x y:Value} (h:Fun2 P g args x y) (hco:CoeL σ.hp [] true args As)
    (hk:K (St.put σ d (.tup [.val x,.val y]))):wpCall P pu σ g As d s K:=by
  refine call_fn h hco (fun _=>⟨_,_,rfl,rfl⟩) ?_
  rintro rows res ⟨rfl,rfl⟩
  refine ⟨by simp,by simp,?_⟩
  simp only [Nat.not_lt_zero,range1,yzx,yz11,ren_ro,rnNm_n,yz10,rnNm_o,rnNm_s,ren_st,yzy,yzp,yzf,yz4,yzu,yzv,yzo,yzm,yzs,yzb,yzd,yzc,yza,yzj,yzi,yz3,yz7,yz8,yz9,yzg,yzk,List.range_zero,yz6,yz5,yze,yzt,yzl,yzr,AVal.fresh,freshL,yz2,yzh,AObj.fresh,id,Option.isSome_some,or_true,true_or]
  exact hk
theorem ne10:((1:Int) != 0)=true:=rfl
theorem ne20:((2:Int) != 0)=true:=rfl
attribute [go_sem] dnL_rwo mvL_rwo rwo_len
theorem k_l00Put (xs:List Int) (x:Int) (h:xs.length≤1000000):RowI Try.prog nz3p [.ro none 1 (ints xs),iv x] (fun ys=>ys=put xs x):=by
  refine rowI_of mixed czib rfl ?_
  simp only [Aze2,Bze1,go_sem,yz0,xx9,xx8,xx6,xx7,xx5,xx0,xx1,xx2,reduceIte,xx3,xx4,reduceCtorEq]
  intro vs
  simp only [Bze0,Bzdz,Bzdy,go_sem,yz0,xx9,xx8,xx6,xx7,xx5,xx0,xx1,xx2,reduceIte,xx3,xx4,reduceCtorEq]
  refine wpD_lo (fun (_,_,i,_)=>xs.length - i) (fun (_,d,i,out)=>i≤xs.length∧List.length out≤i+d.toNat∧out ++ (if d=true then xs.drop i else put (xs.drop i) x)=put xs x)
    (fun ((v,d,i,out):Nat×Bool×Nat×List Int)=>⟨L .any [(0,.ro none 1 (ints xs)),(1,iv x),(5,.own 8 v),(6,bv d),(7,iv i)],L .gone [(8,.row v 1 true (ints out))]⟩) (_,false,0,[]) (by simp) (by simp only [Bzj,go_sem,yz0,xx9,xx8,xx6,xx7,xx5,xx0,xx1,xx2,reduceIte,xx3,xx4,reduceCtorEq];try rfl) ?_
  rintro ⟨v,d,i,out⟩ ⟨hi,ho,he⟩
  by_cases hlt:(i:Int)<xs.length
  · have hlt1:i<xs.length:=by omega
    have hdr:=drop_getD hlt1 (0:Int)
    have hsn:∀ u:List Int,u ++ [xs.getD i 0]=u ++ [xs.getD i 0]:=fun _=>rfl
    cases d with
    | true =>
      simp only [if_true,hdr] at he
      simp only [Bool.toNat_true] at ho
      simp only [Bzj,Bzy,Bz11,Bz2l,Bzz,Bz10,yzw hlt1,decide_eq_true hlt,go_sem,yz0,xx9,xx8,xx6,xx7,xx5,xx0,xx1,xx2,reduceIte,xx3,xx4,reduceCtorEq]
      intro hM vs2
      refine ⟨⟨by omega,hlt1⟩,hlt1,⟨_,rfl,rfl⟩,by omega,?_⟩
      simp only [nat1 i _ hlt1 hM,go_sem,yz0,xx9,xx8,xx6,xx7,xx5,xx0,xx1,xx2,reduceIte,xx3,xx4,reduceCtorEq]
      exact ⟨(_,true,i+1,out ++ [xs.getD i 0]),by dsimp only;omega,⟨by dsimp only;omega,by dsimp only;simp;omega,by dsimp only;rw [if_pos rfl,← he];simp⟩,rfl⟩
    | false =>
      simp only [Bool.false_eq_true,if_false,hdr,put] at he
      simp only [Bool.toNat_false,Nat.add_zero] at ho
      simp only [Bzj,Bzy,Bz11,yzw hlt1,decide_eq_true hlt,go_sem,yz0,xx9,xx8,xx6,xx7,xx5,xx0,xx1,xx2,reduceIte,xx3,xx4,reduceCtorEq]
      intro hM
      refine ⟨⟨by omega,hlt1⟩,hlt1,?_⟩
      by_cases hge:x≤xs.getD i 0
      · rw [if_pos hge] at he
        simp only [Bz2l,Bzdx,yzw hlt1,decide_eq_true hge,go_sem,yz0,xx9,xx8,xx6,xx7,xx5,xx0,xx1,xx2,reduceIte,xx3,xx4,reduceCtorEq]
        refine ⟨⟨by omega,hlt1⟩,hlt1,?_⟩
        by_cases hgt:x<xs.getD i 0
        · rw [if_pos hgt] at he
          simp only [Bz6f,Bzz,Bz10,yzw hlt1,decide_eq_true hgt,go_sem,yz0,xx9,xx8,xx6,xx7,xx5,xx0,xx1,xx2,reduceIte,xx3,xx4,reduceCtorEq]
          refine ⟨⟨_,rfl,rfl⟩,by omega,?_⟩
          intro vs3
          refine ⟨⟨by omega,hlt1⟩,hlt1,⟨_,rfl,rfl⟩,by simp;omega,?_⟩
          simp only [nat1 i _ hlt1 hM,go_sem,yz0,xx9,xx8,xx6,xx7,xx5,xx0,xx1,xx2,reduceIte,xx3,xx4,reduceCtorEq]
          exact ⟨(_,true,i+1,out ++ [x] ++ [xs.getD i 0]),by dsimp only;omega,⟨by dsimp only;omega,by dsimp only;simp;omega,by dsimp only;rw [if_pos rfl,← he];simp⟩,rfl⟩
        · rw [if_neg hgt] at he
          simp only [Bz6f,Bzz,Bz10,yzw hlt1,decide_eq_false hgt,go_sem,yz0,xx9,xx8,xx6,xx7,xx5,xx0,xx1,xx2,reduceIte,xx3,xx4,reduceCtorEq]
          intro vs2
          refine ⟨⟨by omega,hlt1⟩,hlt1,⟨_,rfl,rfl⟩,by omega,?_⟩
          simp only [nat1 i _ hlt1 hM,go_sem,yz0,xx9,xx8,xx6,xx7,xx5,xx0,xx1,xx2,reduceIte,xx3,xx4,reduceCtorEq]
          exact ⟨(_,true,i+1,out ++ [xs.getD i 0]),by dsimp only;omega,⟨by dsimp only;omega,by dsimp only;simp;omega,by dsimp only;rw [if_pos rfl,← he];simp⟩,rfl⟩
      · rw [if_neg hge] at he
        simp only [Bz2l,Bzz,Bz10,yzw hlt1,decide_eq_false hge,go_sem,yz0,xx9,xx8,xx6,xx7,xx5,xx0,xx1,xx2,reduceIte,xx3,xx4,reduceCtorEq]
        intro vs2
        refine ⟨⟨by omega,hlt1⟩,hlt1,⟨_,rfl,rfl⟩,by omega,?_⟩
        simp only [nat1 i _ hlt1 hM,go_sem,yz0,xx9,xx8,xx6,xx7,xx5,xx0,xx1,xx2,reduceIte,xx3,xx4,reduceCtorEq]
        exact ⟨(_,false,i+1,out ++ [xs.getD i 0]),by dsimp only;omega,⟨by dsimp only;omega,by dsimp only;simp;omega,by dsimp only;rw [if_neg (by simp),← he];simp⟩,rfl⟩
  · have:i=xs.length:=by have:i≤xs.length:=hi;omega
    subst this
    rw [List.drop_length] at he
    have ho2:out.length≤xs.length+1:=by have:=ho;cases d <;> simp at this <;> omega
    cases d with
    | true =>
      simp only [Bzj,Bzy,Bz11,Bz6i,Bz6g,Bz6h,decide_eq_false hlt,go_sem,yz0,xx9,xx8,xx6,xx7,xx5,xx0,xx1,xx2,reduceIte,xx3,xx4,reduceCtorEq]
      intro _
      refine ⟨8,v,out,by omega,rfl,by simp only [go_sem,yz0,xx9,xx8,xx6,xx7,xx5,xx0,xx1,xx2,reduceIte,xx3,xx4,reduceCtorEq],?_⟩
      rw [← he];simp
    | false =>
      simp only [Bzj,Bzy,Bz11,Bz6i,Bz6g,Bz6h,decide_eq_false hlt,go_sem,yz0,xx9,xx8,xx6,xx7,xx5,xx0,xx1,xx2,reduceIte,xx3,xx4,reduceCtorEq]
      intro _ vs2
      refine ⟨⟨_,rfl,rfl⟩,by omega,?_⟩
      refine ⟨8,_,out ++ [x],by omega,rfl,by simp only [go_sem,yz0,xx9,xx8,xx6,xx7,xx5,xx0,xx1,xx2,reduceIte,xx3,xx4,reduceCtorEq],?_⟩
      rw [← he];simp [put]
end Go.Ab
namespace Go.Ab
open Go.Proofs
instance (l:List Int):Decidable (SI l):=inferInstanceAs (Decidable (l.Pairwise (·<·)))
def setB (n:Int) (set:List Int):Bool:=decide (SI set) && allIn set 0 (n - 1)
theorem SI_len {n:Int}:∀ {set:List Int},SI set→(∀ x∈set,0≤x∧x<n)→(set.length:Int)≤n∨set=[]
  | set,h,hx=>by
    by_cases h0:set=[]
    · exact .inr h0
    left
    have key:∀ i,i<set.length→(i:Int)≤set.getD i 0:=by
      intro i
      induction i with
      | zero =>
        intro hi
        exact (hx _ (yzq hi 0)).1
      | succ i ih =>
        intro hi
        have h1:=ih (by omega)
        unfold SI at h
        rw [List.pairwise_iff_getElem] at h
        have h2:=h i (i+1) (by omega) hi (by omega)
        have e1:set.getD i 0=set[i]:=by rw [List.getD_eq_getElem?_getD,List.getElem?_eq_getElem (by omega)];rfl
        have e2:set.getD (i+1) 0=set[i+1]:=by rw [List.getD_eq_getElem?_getD,List.getElem?_eq_getElem hi];rfl
        rw [e1] at h1;rw [e2];omega
    have hp:0<set.length:=List.length_pos_iff.2 h0
    have h1:=key (set.length - 1) (by omega)
    have h2:=(hx _ (yzq (show set.length - 1<set.length by omega) 0)).2
    omega
abbrev RowT (P:Program) (g:FuncId) (args:List AVal) (ok:Bool) (xs:List Int) (code:Int):Prop:=Fn P g args fun rows res =>
  if ok=true then ∃ v,rows=[.row v 1 true (ints xs)]∧res=.tup [.own 6000 v,iv code] else rows=[]∧res=.tup [nilS,iv code]
theorem call_rowT {P:Program} {pu:Bool} {σ:St} {g:FuncId} {As args:List AVal} {d:Nat} {s:Nat→Nat} {K:St→Prop} {ok:Bool} {xs:List Int} {code:Int} (h:RowT P g args ok xs code)
    (hco:CoeL σ.hp [] true args As) (hg:σ.hp d=.gone)
    (h1:ok=true→∀ v,K (St.put ⟨σ.tm,upd σ.hp d (.row v 1 true (ints xs))⟩ (some d) (.tup [.own d v,iv code])))
    (h2:ok=false→K (St.put ⟨σ.tm,σ.hp⟩ (some d) (.tup [nilS,iv code]))):wpCall P pu σ g As (some d) s K:=by
  refine call_fn h hco (fun _=>?_) ?_
  · cases ok with
    | true=>exact ⟨[.row 0 1 true (ints xs)],.tup [.own 6000 0,iv code],by rw [if_pos rfl];exact ⟨0,rfl,rfl⟩⟩
    | false=>exact ⟨[],.tup [nilS,iv code],by rw [if_neg (by simp)];exact ⟨rfl,rfl⟩⟩
  · intro rows res hR
    cases ok with
    | true =>
      simp only [if_true] at hR
      obtain ⟨v,rfl,rfl⟩:=hR
      refine ⟨by simp,?_,?_⟩
      · simp only [Option.getD_some,yzl];exact hg
      · simp only [Option.getD_some,List.length_singleton,Nat.not_lt_zero,range1,yzx,yz11,ren_ro,rnNm_n,yz10,rnNm_o,rnNm_s,ren_st,yzy,yzp,yzf,yz4,yzu,yzv,yzo,yzm,yzs,yzb,yzd,yzc,yza,yzj,yzi,yz3,yz7,yz8,yz9,yzg,yzk,List.range_zero,yz6,yz5,yze,yzt,yzl,yzr,AVal.fresh,freshL,yz2,yzh,AObj.fresh,id,Option.isSome_some,or_true,true_or]
        exact h1 rfl _
    | false =>
      simp only [Bool.false_eq_true,if_false] at hR
      obtain ⟨rfl,rfl⟩:=hR
      refine ⟨by simp,by simp,?_⟩
      simp only [Nat.not_lt_zero,range1,yzx,yz11,ren_ro,rnNm_n,yz10,rnNm_o,rnNm_s,ren_st,yzy,yzp,yzf,yz4,yzu,yzv,yzo,yzm,yzs,yzb,yzd,yzc,yza,yzj,yzi,yz3,yz7,yz8,yz9,yzg,yzk,List.range_zero,yz6,yz5,yze,yzt,yzl,yzr,AVal.fresh,freshL,yz2,yzh,AObj.fresh,id,Option.isSome_some,or_true,true_or]
      exact h2 rfl
theorem allS_SI (n:Int):SI (allS n):=by
  unfold SI allS
  rw [List.pairwise_map]
  exact List.pairwise_lt_range.imp fun h=>by omega
end Go.Ab
namespace Go.Ab
open Go.Proofs
end Go.Ab
namespace Go.Ab
open Go.Proofs
theorem coeL_rwp_t {hp:Nat→AObj} {m:List Nat} {len:Bool} {ps:List (Nat×List Int)}:CoeL hp m len (rwn (ps.map (·.2))) (rwp ps)=True:=eq_true coeL_rwp
end Go.Ab
namespace Go.Ab
theorem put_len_new {x:Int}:∀ {xs:List Int},x ∉ xs→(put xs x).length=xs.length+1
  | [],_=>by simp [put]
  | y :: xs,h=>by
    have h1:x≠y:=fun e=>h (by simp [e])
    have h2:x ∉ xs:=fun e=>h (by simp [e])
    simp only [put]
    split
    · split
      · simp
      · omega
    · have:=put_len_new (x:=x) (xs:=xs) h2
      simp only [List.length_cons];omega
theorem nrm_len_nd {l:List Int} (h:l.Nodup):(nrm l).length=l.length:=by
  have gen:∀ (l acc:List Int),l.Nodup→(∀ x∈l,x ∉ acc)→(l.foldl put acc).length=acc.length+l.length:=by
    intro l
    induction l with
    | nil=>intro acc _ _;simp
    | cons x l ih =>
      intro acc h1 h2
      rw [List.nodup_cons] at h1
      rw [List.foldl_cons,ih (put acc x) h1.2 (fun y hy hm=>?_),put_len_new (h2 x (by simp)),List.length_cons]
      · omega
      · rcases put_mem.1 hm with rfl | hm
        · exact h1.1 hy
        · exact h2 y (by simp [hy]) hm
  have:=gen l [] h (by simp)
  simpa [nrm] using this
structure Once (n:Int) (l:List Int):Prop where
  nd:l.Nodup
  rg:∀ x∈l,0≤x∧x<n
theorem Once.len {n:Int} {l:List Int} (hn:1≤n) (h:Once n l):(l.length:Int)≤n:=by
  have h1:=nrm_len_nd h.nd
  rcases SI_len (nrm_SI l) (fun x hx=>h.rg x (nrm_mem.1 hx)) with h2 | h2
  · omega
  · rw [h2] at h1;simp at h1;omega
theorem Once.snoc {n:Int} {l:List Int} {x:Int} (h:Once n l) (hx:0≤x∧x<n) (hm:x ∉ l):Once n (l ++ [x]):=by
  refine ⟨?_,?_⟩
  · rw [List.nodup_append]
    refine ⟨h.nd,by simp,?_⟩
    intro a ha b hb
    have:b=x:=by simpa using hb
    subst this
    rintro rfl
    exact hm ha
  · intro y hy
    rcases List.mem_append.1 hy with hy | hy
    · exact h.rg y hy
    · have:y=x:=by simpa using hy
      subst this;exact hx
def addL (l:List Int) (x:Int):List Int:=if l.contains x=true then l else l ++ [x]
theorem Once.add {n:Int} {l:List Int} {x:Int} (h:Once n l) (hx:0≤x∧x<n):Once n (addL l x):=by
  unfold addL
  split
  · exact h
  · rename_i h1
    exact h.snoc hx (by simpa using h1)
def visK (s:Int):List (List Int)→List Int→List Int
  | [],l=>l
  | row :: rs,l=>visK s rs (addL l (row.getD s.toNat 0))
theorem Once.vis {n s:Int} (hs:0≤s∧s<n):∀ {rs:List (List Int)} {l:List Int},(∀ row∈rs,(row.length:Int)=n∧∀ x∈row,0≤x∧x<n)→Once n l→Once n (visK s rs l)
  | [],_,_,h=>h
  | row :: rs,l,hr,h=>by
    have h1:=hr row (by simp)
    have h2:s.toNat<row.length:=by omega
    exact Once.vis (rs:=rs) hs (fun r hm=>hr r (by simp [hm])) (h.add (h1.2 _ (yzq h2 0)))
theorem vis_pre {s:Int}:∀ {rs:List (List Int)} {l:List Int},∃ t,visK s rs l=l ++ t
  | [],l=>⟨[],by simp [visK]⟩
  | row :: rs,l=>by
    obtain ⟨t,ht⟩:=vis_pre (s:=s) (rs:=rs) (l:=addL l (row.getD s.toNat 0))
    simp only [visK]
    rw [ht]
    unfold addL
    split
    · exact ⟨t,rfl⟩
    · exact ⟨[row.getD s.toNat 0] ++ t,by simp⟩
def runL (next:List (List Int)):Nat→List Int→Nat→List Int
  | 0,l,_=>l
  | f+1,l,i=>if i<l.length then runL next f (visK (l.getD i 0) next l) (i+1) else l
def reachL (n:Int) (next:List (List Int)) (s:Int):List Int:=runL next (n.toNat+1) [s] 0
theorem run_once {n:Int} {next:List (List Int)} (A:Aut n next):∀ (f:Nat) {l:List Int} {i:Nat},Once n l→Once n (runL next f l i)
  | 0,l,i,h=>h
  | f+1,l,i,h=>by
    simp only [runL]
    split
    · rename_i hi
      exact run_once A f (Once.vis (h.rg _ (yzq hi 0)) A.row h)
    · exact h
theorem one_once {n s:Int} (hs:0≤s∧s<n):Once n [s]:=by
  refine ⟨by simp,fun x hx=>?_⟩
  have:x=s:=by simpa using hx
  subst this;exact hs
theorem reach_once {n s:Int} {next:List (List Int)} (A:Aut n next) (hs:0≤s∧s<n):Once n (reachL n next s):=run_once A _ (one_once hs)
theorem run_step {n:Int} {next:List (List Int)} (A:Aut n next) {l:List Int} {i:Nat} {R:List Int} (h:Once n l) (hi:i<l.length) (hR:runL next (n.toNat - i+1) l i=R) :
    runL next (n.toNat - (i+1)+1) (visK (l.getD i 0) next l) (i+1)=R:=by
  have h1:=h.len A.n1
  have e:n.toNat - i+1=(n.toNat - (i+1)+1)+1:=by omega
  rw [e] at hR
  simp only [runL] at hR
  rw [if_pos hi] at hR
  exact hR
theorem run_end {n:Int} {next:List (List Int)} {l:List Int} {i:Nat} {R:List Int} (hi:l.length≤i) (hR:runL next (n.toNat - i+1) l i=R):l=R:=by
  simp only [runL] at hR
  rw [if_neg (by omega)] at hR
  exact hR
end Go.Ab
namespace Go.Ab
open Go.Proofs
theorem k_Index (xs:List Int) (x:Int):Fun Try.prog nz3v [.ro none 1 (ints xs),iv x] (iv (fidx (fun y=>x == y) xs 0)):=by
  refine fun_of mixed czik rfl ⟨rfl,trivial⟩ ?_
  simp only [Azfy,Bzfx,go_sem,yz0,xx9,xx8,xx6,xx7,xx5,xx0,xx1,xx2,reduceIte,xx3,xx4,reduceCtorEq]
  intro hM
  have hM2:=maxLen_le
  simp only [Bzfv,go_sem,yz0,xx9,xx8,xx6,xx7,xx5,xx0,xx1,xx2,reduceIte,xx3,xx4,reduceCtorEq]
  refine wpD_lo (fun i=>xs.length - i) (fun i=>i≤xs.length∧fidx (fun y=>x == y) (xs.drop i) i=fidx (fun y=>x == y) xs 0)
    (fun i:Nat=>⟨L .any [(0,.ro none 1 (ints xs)),(1,iv x),(7,iv xs.length),(8,iv i)],L .gone []⟩) 0 (by simp) (by simp only [Bz2v,go_sem,yz0,xx9,xx8,xx6,xx7,xx5,xx0,xx1,xx2,reduceIte,xx3,xx4,reduceCtorEq];try rfl) ?_
  rintro i ⟨hi,he⟩
  by_cases hlt:(i:Int)<xs.length
  · have hlt1:i<xs.length:=by omega
    have w2:IntKind.i64.wrap (i:Int)=i:=w64 (by omega)
    rw [drop_getD hlt1 0] at he
    simp only [fidx] at he
    simp only [Bz2v,Bz78,Bz77,Bzft,yzw hlt1,decide_eq_true hlt,go_sem,yz0,xx9,xx8,xx6,xx7,xx5,xx0,xx1,xx2,reduceIte,xx3,xx4,reduceCtorEq]
    refine ⟨⟨by omega,hlt1⟩,hlt1,?_⟩
    cases hx:(x == xs.getD i 0) with
    | true =>
      simp only [hx,if_true] at he
      simp only [Bz76,go_sem,yz0,xx9,xx8,xx6,xx7,xx5,xx0,xx1,xx2,reduceIte,xx3,xx4,reduceCtorEq]
      rw [← he]
    | false =>
      simp only [hx,Bool.false_eq_true,if_false] at he
      simp only [Bz76,Bzfu,nat1 i _ hlt1 hM,go_sem,yz0,xx9,xx8,xx6,xx7,xx5,xx0,xx1,xx2,reduceIte,xx3,xx4,reduceCtorEq]
      exact ⟨i+1,by omega,⟨by omega,he⟩,rfl⟩
  · have:i=xs.length:=by omega
    subst this
    rw [List.drop_length] at he
    simp only [fidx] at he
    simp only [Bz2v,Bz78,Bz77,Bzfw,decide_eq_false hlt,go_sem,yz0,xx9,xx8,xx6,xx7,xx5,xx0,xx1,xx2,reduceIte,xx3,xx4,reduceCtorEq]
    rw [← he]
theorem k_Contains (xs:List Int) (x:Int):Fun Try.prog nz1i [.ro none 1 (ints xs),iv x] (bv (xs.contains x)):=by
  refine fun_of mixed czi4 rfl ⟨rfl,trivial⟩ ?_
  simp only [Bzcw,Azcx,go_sem,yz0,xx9,xx8,xx6,xx7,xx5,xx0,xx1,xx2,reduceIte,xx3,xx4,reduceCtorEq]
  intro vs
  refine yzz (k_Index xs x) qCS trivial ?_
  have e:decide (fidx (fun y=>x == y) xs 0 ≥ 0)=xs.contains x:=by
    have:=fidx_ge (fun y=>x == y) xs 0
    rw [List.contains_eq_any_beq]
    exact this
  simp only [go_sem,yz0,xx9,xx8,xx6,xx7,xx5,xx0,xx1,xx2,reduceIte,xx3,xx4,reduceCtorEq]
  rw [← e]
theorem k_l00Has (xs:List Int) (x:Int):Fun Try.prog nz1j [.ro none 1 (ints xs),iv x] (bv (xs.contains x)):=by
  refine fun_of mixed czi8 rfl ⟨rfl,trivial⟩ ?_
  simp only [Azdm,Bzdl,Bzdj,go_sem,yz0,xx9,xx8,xx6,xx7,xx5,xx0,xx1,xx2,reduceIte,xx3,xx4,reduceCtorEq]
  refine wpD_lo (fun i=>xs.length - i) (fun i=>i≤xs.length∧(xs.drop i).contains x=xs.contains x)
    (fun i:Nat=>⟨L .any [(0,.ro none 1 (ints xs)),(1,iv x),(5,iv i)],L .gone []⟩) 0 (by simp) (by simp only [Bz2j,go_sem,yz0,xx9,xx8,xx6,xx7,xx5,xx0,xx1,xx2,reduceIte,xx3,xx4,reduceCtorEq];try rfl) ?_
  rintro i ⟨hi,he⟩
  by_cases hlt:(i:Int)<xs.length
  · have hlt1:i<xs.length:=by omega
    rw [drop_getD hlt1 0,List.contains_cons] at he
    simp only [Bz2j,Bz6a,Bz6c,yzw hlt1,decide_eq_true hlt,go_sem,yz0,xx9,xx8,xx6,xx7,xx5,xx0,xx1,xx2,reduceIte,xx3,xx4,reduceCtorEq]
    intro hM
    refine ⟨⟨by omega,hlt1⟩,hlt1,?_⟩
    rw [show (x == xs.getD i 0)=(xs.getD i 0 == x) from Bool.beq_comm] at he
    cases hx:(xs.getD i 0 == x) with
    | true =>
      rw [hx,Bool.true_or] at he
      simp only [Bz6b,← he,go_sem,yz0,xx9,xx8,xx6,xx7,xx5,xx0,xx1,xx2,reduceIte,xx3,xx4,reduceCtorEq]
    | false =>
      rw [hx,Bool.false_or] at he
      simp only [Bz6b,Bzdi,nat1 i _ hlt1 hM,go_sem,yz0,xx9,xx8,xx6,xx7,xx5,xx0,xx1,xx2,reduceIte,xx3,xx4,reduceCtorEq]
      exact ⟨i+1,by omega,⟨by omega,he⟩,rfl⟩
  · have:i=xs.length:=by omega
    subst this
    rw [List.drop_length] at he
    simp only [Bz2j,Bz6a,Bz6c,Bzdk,decide_eq_false hlt,go_sem,yz0,xx9,xx8,xx6,xx7,xx5,xx0,xx1,xx2,reduceIte,xx3,xx4,reduceCtorEq]
    intro _
    rw [← he];rfl
theorem visK_drop (now:Int) (next:List (List Int)) {k:Nat} (hk:k<next.length) (l:List Int):visK now (next.drop k) l=visK now (next.drop (k+1)) (addL l ((next.getD k []).getD now.toNat 0)):=by
  rw [drop_getD hk []];rfl
theorem k_reached (n:Int) (next:List (List Int)) (s:Int) (A:Aut n next) (hs:0≤s∧s<n) :
    RowI Try.prog nzf [autA n next,iv s] (fun ys=>ys=nrm (reachL n next s)):=by
  refine rowI_of mixed czha rfl ?_
  have n1:=A.n1
  have n2:=A.n2
  have l2:=A.l2
  simp only [Azbl,Bzbk,go_sem,yz0,xx9,xx8,xx6,xx7,xx5,xx0,xx1,xx2,reduceIte,xx3,xx4,reduceCtorEq]
  intro vs vs2
  simp only [Bzbj,Bzbh,go_sem,yz0,xx9,xx8,xx6,xx7,xx5,xx0,xx1,xx2,reduceIte,xx3,xx4,reduceCtorEq]
  refine ⟨⟨_,rfl,rfl⟩,?_⟩
  refine wpD_lo (fun (_,_,i)=>n.toNat+1 - i) (fun (_,l,i)=>Once n l∧i≤List.length l∧runL next (n.toNat - i+1) l i=reachL n next s)
    (fun ((v,l,i):Nat×List Int×Nat)=>⟨L .any [(2,.ptr 2 (vs 0 0) 0),(5,.own 11 v),(6,iv i)],L .gone [(2,.box (vs 0 0) [iv n,.ro none 1 (rwn next)]),(11,.row v 1 true (ints l))]⟩)
    (_,[s],0) ⟨one_once hs,by simp,rfl⟩ (by simp only [Bz2a,List.map_cons,List.map_nil,go_sem,yz0,xx9,xx8,xx6,xx7,xx5,xx0,xx1,xx2,reduceIte,xx3,xx4,reduceCtorEq];try rfl) ?_
  rintro ⟨v,l,i⟩ ⟨ho,hi,hR⟩
  have hi:i≤l.length:=hi
  have hll:=ho.len n1
  by_cases hlt:(i:Int)<l.length
  · have hlt1:i<l.length:=by omega
    have hnow:=ho.rg _ (yzq hlt1 0)
    have hstep:=run_step A ho hlt1 hR
    simp only [Bz2a,Bz5g,Bz5l,decide_eq_true hlt,go_sem,yz0,xx9,xx8,xx6,xx7,xx5,xx0,xx1,xx2,reduceIte,xx3,xx4,reduceCtorEq]
    intro hM2
    simp only [Bzbf,go_sem,yz0,xx9,xx8,xx6,xx7,xx5,xx0,xx1,xx2,reduceIte,xx3,xx4,reduceCtorEq]
    intro hM3
    refine wpD_lo (fun (_,_,k)=>next.length - k) (fun (_,l',k)=>k≤next.length∧Once n l'∧(∃ t,l'=l ++ t)∧visK (l.getD i 0) (next.drop k) l'=visK (l.getD i 0) next l)
      (fun ((v,l',k):Nat×List Int×Nat)=>⟨L .any [(2,.ptr 2 (vs 0 0) 0),(5,.own 11 v),(6,iv i),(19,.ro none 1 (rwn next)),(20,iv next.length),(21,iv k)],L .gone [(2,.box (vs 0 0) [iv n,.ro none 1 (rwn next)]),(11,.row v 1 true (ints l'))]⟩)
      (_,l,0) ⟨by simp,ho,⟨[],by simp⟩,rfl⟩ (by simp only [Bz29,go_sem,yz0,xx9,xx8,xx6,xx7,xx5,xx0,xx1,xx2,reduceIte,xx3,xx4,reduceCtorEq];try rfl) ?_
    rintro ⟨v',l',k⟩ ⟨hk,ho',⟨t,rfl⟩,hv⟩
    have hk:k≤next.length:=hk
    have hll':=ho'.len n1
    by_cases hkl:(k:Int)<next.length
    · have hkl1:k<next.length:=by omega
      have hrow:=A.row _ (yzq hkl1 [])
      have hc:(l.getD i 0).toNat<(next.getD k []).length:=by omega
      have ht:=hrow.2 _ (yzq hc 0)
      have hi2:i<(l ++ t).length:=by rw [List.length_append];omega
      have hg:(l ++ t).getD i 0=l.getD i 0:=by rw [List.getD_eq_getElem?_getD,List.getElem?_append_left hlt1,← List.getD_eq_getElem?_getD]
      rw [visK_drop _ _ hkl1] at hv
      simp only [Bz29,Bz5k,Bz5j,Bzbe,rwn_getD hkl1,yzw hi2,hg,yzw hc,decide_eq_true hkl,go_sem,yz0,xx9,xx8,xx6,xx7,xx5,xx0,xx1,xx2,reduceIte,xx3,xx4,reduceCtorEq]
      refine ⟨⟨by omega,hkl1⟩,hkl1,⟨by omega,hi2⟩,hi2,⟨hnow.1,hc⟩,hc,?_⟩
      generalize (next.getD k []).getD (l.getD i 0).toNat 0=x at ht hv ⊢
      simp only [Bzbd,go_sem,yz0,xx9,xx8,xx6,xx7,xx5,xx0,xx1,xx2,reduceIte,xx3,xx4,reduceCtorEq]
      intro vs3
      refine yzz (k_Contains (l ++ t) x) qCS trivial ?_
      cases hx:(l ++ t).contains x with
      | true =>
        have ha:addL (l ++ t) x=l ++ t:=by unfold addL;rw [if_pos hx]
        rw [ha] at hv
        simp only [Bz5h,Bz5i,nat1 k _ hkl1 hM3,go_sem,yz0,xx9,xx8,xx6,xx7,xx5,xx0,xx1,xx2,reduceIte,xx3,xx4,reduceCtorEq]
        exact ⟨(_,_,k+1),by dsimp only;omega,⟨by dsimp only;omega,ho',⟨t,rfl⟩,hv⟩,rfl⟩
      | false =>
        have ha:addL (l ++ t) x=l ++ t ++ [x]:=by unfold addL;rw [if_neg (by rw [hx];simp)]
        rw [ha] at hv
        have ho2:=ho'.add ht
        rw [ha] at ho2
        have hl2:=ho2.len n1
        simp only [Bz5h,Bz5i,nat1 k _ hkl1 hM3,go_sem,yz0,xx9,xx8,xx6,xx7,xx5,xx0,xx1,xx2,reduceIte,xx3,xx4,reduceCtorEq]
        intro vs4
        refine ⟨⟨_,rfl,rfl⟩,by rw [List.length_append,List.length_singleton] at hl2;omega,?_⟩
        exact ⟨(_,l ++ t ++ [x],k+1),by dsimp only;omega,⟨by dsimp only;omega,ho2,⟨t ++ [x],by simp⟩,hv⟩,rfl⟩
    · have:k=next.length:=by omega
      subst this
      rw [List.drop_length] at hv
      have hv:l ++ t=visK (l.getD i 0) next l:=hv
      rw [← hv] at hstep
      simp only [Bz29,Bz5k,Bz5j,Bzbg,nat1 i _ hlt1 hM2,decide_eq_false hkl,go_sem,yz0,xx9,xx8,xx6,xx7,xx5,xx0,xx1,xx2,reduceIte,xx3,xx4,reduceCtorEq]
      exact ⟨(_,l ++ t,i+1),by dsimp only;omega,⟨ho',by dsimp only;rw [List.length_append];omega,hstep⟩,rfl⟩
  · have hend:=run_end (by omega) hR
    subst hend
    simp only [Bz2a,Bz5g,Bz5l,Bzbi,decide_eq_false hlt,go_sem,yz0,xx9,xx8,xx6,xx7,xx5,xx0,xx1,xx2,reduceIte,xx3,xx4,reduceCtorEq]
    intro hM2 vs3
    refine call_rowI (k_sorted (reachL n next s) (by omega)) (by simp only [rowIs,boxIs,coe_argN,coe_argNs,coe_ro_o,coeL_nil,yz12,coe_any,coe_val,coe_ro,yz16,yz17,coe_st,yz18,coe_rp,yz19,coe_clo,coe_own0,coe_ptr0,yz15,coeL_rws,coeL_rwn,L_hit,L_miss,L_nil,xx3,ne_eq,reduceCtorEq,not_false_eq_true,true_and,and_true,and_self,exists_eq_left,exists_eq_right,List.mem_cons,List.not_mem_nil,or_false,AObj.row.injEq,AObj.box.injEq,exists_eq_left',exists_and_left,exists_eq,Nat.zero_lt_one,Nat.lt_add_one,List.map_cons,List.map_nil,AObj.ver,xx5,not_true_eq_false];exact coe_argN_own rfl) rfl ⟨_,rfl⟩ ?_
    rintro ys v2 rfl
    simp only [go_sem,yz0,xx9,xx8,xx6,xx7,xx5,xx0,xx1,xx2,reduceIte,xx3,xx4,reduceCtorEq]
    exact ⟨42,v2,_,by omega,rfl,by simp only [go_sem,yz0,xx9,xx8,xx6,xx7,xx5,xx0,xx1,xx2,reduceIte,xx3,xx4,reduceCtorEq],rfl⟩
theorem nrm_contains {l:List Int} {x:Int}:(nrm l).contains x=l.contains x:=by
  rw [Bool.eq_iff_iff,List.contains_iff_mem,List.contains_iff_mem,nrm_mem]
theorem bnd1 {σ:St} {n:Nat} {k:IntKind}:St.bound σ n (some (.c (.int k 1)))=some 1:=rfl
theorem bndN {σ:St} {n:Nat}:St.bound σ n none=some n:=rfl
theorem k_l01Reached (n:Int) (next:List (List Int)) (s:Int) (A:Aut n next) (hs:0≤s∧s<n) :
    RowI Try.prog nz3m [autP n next,iv s] (fun ys=>ys=nrm (reachL n next s)):=by
  refine rowI_of mixed czi7 rfl ?_
  have n1:=A.n1
  have n2:=A.n2
  have l2:=A.l2
  simp only [Azdh,Bzdg,go_sem,yz0,xx9,xx8,xx6,xx7,xx5,xx0,xx1,xx2,reduceIte,xx3,xx4,reduceCtorEq]
  intro vs
  simp only [Bzdf,Bzde,go_sem,yz0,xx9,xx8,xx6,xx7,xx5,xx0,xx1,xx2,reduceIte,xx3,xx4,reduceCtorEq]
  refine ⟨⟨_,rfl,rfl⟩,fun vs2=>⟨⟨_,rfl,rfl⟩,?_⟩⟩
  refine wpD_lo (fun (_,_,_,i)=>n.toNat+1 - i) (fun (_,_,l,i)=>Once n l∧i≤List.length l∧runL next (n.toNat - i+1) l i=reachL n next s)
    (fun ((v,u,l,i):Nat×Nat×List Int×Nat)=>⟨L .any [(0,autP n next),(5,.own 11 v),(6,.own 13 u)],L .gone [(11,.row v 1 true (ints (nrm l))),(13,.row u 1 true (ints (l.drop i)))]⟩)
    (_,_,[s],0) ⟨one_once hs,by simp,rfl⟩ (by simp only [Bz2i,List.map_cons,List.map_nil,go_sem,yz0,xx9,xx8,xx6,xx7,xx5,xx0,xx1,xx2,reduceIte,xx3,xx4,reduceCtorEq];try rfl) ?_
  rintro ⟨v,u,l,i⟩ ⟨ho,hi,hR⟩
  have hi:i≤l.length:=hi
  have hll:=ho.len n1
  have hdl:(l.drop i).length=l.length - i:=List.length_drop
  by_cases hlt:(0:Int)<(l.drop i).length
  · have hlt1:i<l.length:=by omega
    have hlt2:0<(l.drop i).length:=by omega
    have hnow:=ho.rg _ (yzq hlt1 0)
    have hstep:=run_step A ho hlt1 hR
    have hg0:(l.drop i).getD 0 0=l.getD i 0:=by rw [drop_getD hlt1 0];rfl
    simp only [Bz2i,Bz64,Bz69,yzw hlt2,hg0,decide_eq_true hlt,go_sem,yz0,xx9,xx8,xx6,xx7,xx5,xx0,xx1,xx2,reduceIte,xx3,xx4,reduceCtorEq]
    intro hM2
    refine ⟨hlt2,hlt2,?_⟩
    have hs1:(List.take (l.drop i).length (intsK .i64 (l.drop i))).drop 1=intsK .i64 (l.drop (i+1)):=by
      rw [List.take_of_length_le (by simp [intsK]),intsK_drop,List.drop_drop]
    simp only [Bzdc,Bzdb,Bzda,bnd1,bndN,hs1,go_sem,yz0,xx9,xx8,xx6,xx7,xx5,xx0,xx1,xx2,reduceIte,xx3,xx4,reduceCtorEq]
    intro vs3
    refine ⟨by omega,?_⟩
    generalize l.getD i 0=now at hnow hstep
    refine wpD_lm (fun (_,_,_,k)=>next.length - k) (fun (_,_,l',k)=>k≤next.length∧Once n l'∧(∃ t,l'=l ++ t)∧visK now (next.drop k) l'=visK now next l)
      (fun ((v,u,l',k):Nat×Nat×List Int×Nat)=>⟨L .any [(0,autP n next),(5,.own 11 v),(6,.own 13 u),(7,iv now),(8,iv k)],L .gone [(11,.row v 1 true (ints (nrm l'))),(13,.row u 1 true (ints (l'.drop (i+1))))]⟩)
      (_,_,l,0) ⟨by simp,ho,⟨[],by simp⟩,rfl⟩ (by intro u;simp only [Bz2h,go_sem,yz0,xx9,xx8,xx6,xx7,xx5,xx0,xx1,xx2,reduceIte,xx3,xx4,reduceCtorEq];try rfl) ?_
    rintro ⟨v',u',l',k⟩ ⟨hk,ho',⟨t,rfl⟩,hv⟩
    have hk:k≤next.length:=hk
    have hll':=ho'.len n1
    by_cases hkl:(k:Int)<next.length
    · have hkl1:k<next.length:=by omega
      have hrow:=A.row _ (yzq hkl1 [])
      have hc:now.toNat<(next.getD k []).length:=by omega
      have ht:=hrow.2 _ (yzq hc 0)
      rw [visK_drop _ _ hkl1] at hv
      simp only [Bz2h,Bz65,Bz68,rwn_getD hkl1,yzw hc,decide_eq_true hkl,go_sem,yz0,xx9,xx8,xx6,xx7,xx5,xx0,xx1,xx2,reduceIte,xx3,xx4,reduceCtorEq]
      intro hM3
      refine ⟨⟨by omega,hkl1⟩,hkl1,⟨hnow.1,hc⟩,hc,?_⟩
      generalize (next.getD k []).getD now.toNat 0=x at ht hv ⊢
      simp only [Bzd9,go_sem,yz0,xx9,xx8,xx6,xx7,xx5,xx0,xx1,xx2,reduceIte,xx3,xx4,reduceCtorEq]
      intro vs4
      refine yzz (k_l00Has (nrm (l ++ t)) x) qCS trivial ?_
      rw [nrm_contains]
      cases hx:(l ++ t).contains x with
      | true =>
        have ha:addL (l ++ t) x=l ++ t:=by unfold addL;rw [if_pos hx]
        rw [ha] at hv
        simp only [Bz66,Bz67,nat1 k _ hkl1 hM3,go_sem,yz0,xx9,xx8,xx6,xx7,xx5,xx0,xx1,xx2,reduceIte,xx3,xx4,reduceCtorEq]
        exact ⟨next.length - (k+1),by omega,(_,_,l ++ t,k+1),rfl,⟨by dsimp only;omega,ho',⟨t,rfl⟩,hv⟩,rfl⟩
      | false =>
        have ha:addL (l ++ t) x=l ++ t ++ [x]:=by unfold addL;rw [if_neg (by rw [hx];simp)]
        rw [ha] at hv
        have ho2:=ho'.add ht
        rw [ha] at ho2
        have hl2:=ho2.len n1
        have hdr:(l ++ t).drop (i+1) ++ [x]=(l ++ t ++ [x]).drop (i+1):=(List.drop_append_of_le_length (l₁:=l ++ t) (by rw [List.length_append];omega)).symm
        have hdl2:((l ++ t).drop (i+1)).length≤10:=by rw [List.length_drop];omega
        have hnl:=nrm_len (l ++ t)
        simp only [Bz66,go_sem,yz0,xx9,xx8,xx6,xx7,xx5,xx0,xx1,xx2,reduceIte,xx3,xx4,reduceCtorEq]
        intro vs5
        refine call_rowI (k_l00Put (nrm (l ++ t)) x (by omega)) qCS rfl ⟨_,rfl⟩ ?_
        rintro ys v6 rfl
        simp only [Bzd8,Bz67,nat1 k _ hkl1 hM3,go_sem,yz0,xx9,xx8,xx6,xx7,xx5,xx0,xx1,xx2,reduceIte,xx3,xx4,reduceCtorEq]
        intro vs7
        refine ⟨⟨_,rfl,rfl⟩,by omega,?_⟩
        refine ⟨next.length - (k+1),by omega,fun u=>⟨(u,vs7 3 0,l ++ t ++ [x],k+1),rfl,⟨by dsimp only;omega,ho2,⟨t ++ [x],by simp⟩,hv⟩,?_⟩⟩
        simp only [← hdr,nrm_snoc]
    · have:k=next.length:=by omega
      subst this
      rw [List.drop_length] at hv
      have hv:l ++ t=visK now next l:=hv
      rw [← hv] at hstep
      simp only [Bz2h,Bz65,Bz68,decide_eq_false hkl,go_sem,yz0,xx9,xx8,xx6,xx7,xx5,xx0,xx1,xx2,reduceIte,xx3,xx4,reduceCtorEq]
      intro hM3
      exact ⟨(_,_,l ++ t,i+1),by dsimp only;omega,⟨ho',by dsimp only;rw [List.length_append];omega,hstep⟩,rfl⟩
  · have hend:=run_end (by omega) hR
    subst hend
    simp only [Bz2i,Bz64,Bz69,Bzdd,decide_eq_false hlt,go_sem,yz0,xx9,xx8,xx6,xx7,xx5,xx0,xx1,xx2,reduceIte,xx3,xx4,reduceCtorEq]
    intro _
    exact ⟨11,v,_,by omega,rfl,by simp only [go_sem,yz0,xx9,xx8,xx6,xx7,xx5,xx0,xx1,xx2,reduceIte,xx3,xx4,reduceCtorEq],rfl⟩
theorem k_isState (n:Int) (next:List (List Int)) (s:Int) (hn:1≤n∧n≤10):Fun Try.prog nz3d [autA n next,iv s] (bv (decide (0≤s) && decide (s≤n - 1))):=by
  refine fun_of mixed czh9 rfl ⟨rfl,trivial⟩ ?_
  have w1:IntKind.i64.wrap (n - 1)=n - 1:=w64 (by omega)
  simp only [Bzbb,Azbc,w1,go_sem,yz0,xx9,xx8,xx6,xx7,xx5,xx0,xx1,xx2,reduceIte,xx3,xx4,reduceCtorEq]
  intro vs vs2
  refine yzz (k_within s 0 (n - 1)) qCS trivial ?_
  simp only [go_sem,yz0,xx9,xx8,xx6,xx7,xx5,xx0,xx1,xx2,reduceIte,xx3,xx4,reduceCtorEq]
theorem k_ReachedFrom_1 (n:Int) (next:List (List Int)) (s:Int) (hn:1≤n∧n≤10):Fun Try.prog nz1b [autP n next,.rp [iv s] 0] (bv (decide (0≤s) && decide (s≤n - 1))):=by
  refine fun_of mixed czh8 rfl ⟨rfl,trivial⟩ ?_
  simp only [Bzb9,Azba,go_sem,yz0,xx9,xx8,xx6,xx7,xx5,xx0,xx1,xx2,reduceIte,xx3,xx4,reduceCtorEq]
  intro vs
  refine yzz (k_isState n next s hn) qCS trivial ?_
  simp only [go_sem,yz0,xx9,xx8,xx6,xx7,xx5,xx0,xx1,xx2,reduceIte,xx3,xx4,reduceCtorEq]
theorem k_ReachedFrom (n:Int) (next:List (List Int)) (s:Int) :
    RowT Try.prog nz35 [autA n next,iv s] (autB n next && (decide (0≤s) && decide (s≤n - 1))) (nrm (reachL n next s)) (codeI (autB n next) (decide (0≤s) && decide (s≤n - 1))):=by
  refine con_of mixed czgr rfl (by simp) ?_
  simp only [Az8j,Bz8i,go_sem,yz0,xx9,xx8,xx6,xx7,xx5,xx0,xx1,xx2,reduceIte,xx3,xx4,reduceCtorEq]
  intro vs vs2
  refine yzz (k_code n next nz1b [autP n next,.rp [iv s] 0] _ ⟨by simp only [go_sem,yz0,xx9,xx8,xx6,xx7,xx5,xx0,xx1,xx2,reduceIte,xx3,xx4,reduceCtorEq],by intros;simp only [rowIs,boxIs,coe_argN,coe_argNs,coe_ro_o,coeL_nil,yz12,coe_any,coe_val,coe_ro,yz16,yz17,coe_st,yz18,coe_rp,yz19,coe_clo,coe_own0,coe_ptr0,yz15,coeL_rws,coeL_rwn,L_hit,L_miss,L_nil,xx3,ne_eq,reduceCtorEq,not_false_eq_true,true_and,and_true,and_self,exists_eq_left,exists_eq_right,List.mem_cons,List.not_mem_nil,or_false,AObj.row.injEq,AObj.box.injEq,exists_eq_left',exists_and_left,exists_eq,Nat.zero_lt_one,Nat.lt_add_one,List.map_cons,List.map_nil,AObj.ver,xx5,not_true_eq_false]⟩
    (fun hv=>k_ReachedFrom_1 n next s ⟨(autB_iff.1 hv).n1,(autB_iff.1 hv).n2⟩)) qCS trivial ?_
  cases hv:autB n next with
  | false =>
    have h3:codeI false (decide (0≤s) && decide (s≤n - 1))=1:=by simp [codeI]
    simp only [h3,ne10,Bz1r,Bz1q,Bool.false_and,go_sem,yz0,xx9,xx8,xx6,xx7,xx5,xx0,xx1,xx2,reduceIte,xx3,xx4,reduceCtorEq]
    refine ⟨[],by simp,by simp,by simp,?_⟩
    simp only [Nat.not_lt_zero,range1,yzx,yz11,ren_ro,rnNm_n,yz10,rnNm_o,rnNm_s,ren_st,yzy,yzp,yzf,yz4,yzu,yzv,yzo,yzm,yzs,yzb,yzd,yzc,yza,yzj,yzi,yz3,yz7,yz8,yz9,yzg,yzk,List.range_zero,yz6,yz5,yze,yzt,yzl,yzr,AVal.fresh,freshL,yz2,yzh,AObj.fresh,id,Option.isSome_some,or_true,true_or,go_sem,yz0,xx9,xx8,xx6,xx7,xx5,xx0,xx1,xx2,reduceIte,xx3,xx4,reduceCtorEq]
  | true =>
    have A:=autB_iff.1 hv
    cases hw:(decide (0≤s) && decide (s≤n - 1)) with
    | false =>
      have h3:codeI true false=2:=by simp [codeI]
      simp only [h3,ne20,Bz1r,Bz1q,Bool.true_and,go_sem,yz0,xx9,xx8,xx6,xx7,xx5,xx0,xx1,xx2,reduceIte,xx3,xx4,reduceCtorEq]
      refine ⟨[],by simp,by simp,by simp,?_⟩
      simp only [Nat.not_lt_zero,range1,yzx,yz11,ren_ro,rnNm_n,yz10,rnNm_o,rnNm_s,ren_st,yzy,yzp,yzf,yz4,yzu,yzv,yzo,yzm,yzs,yzb,yzd,yzc,yza,yzj,yzi,yz3,yz7,yz8,yz9,yzg,yzk,List.range_zero,yz6,yz5,yze,yzt,yzl,yzr,AVal.fresh,freshL,yz2,yzh,AObj.fresh,id,Option.isSome_some,or_true,true_or,go_sem,yz0,xx9,xx8,xx6,xx7,xx5,xx0,xx1,xx2,reduceIte,xx3,xx4,reduceCtorEq]
    | true =>
      simp only [Bool.and_eq_true,decide_eq_true_eq] at hw
      have h3:codeI true true=0:=by simp [codeI]
      simp only [h3,Bz1r,Bz1q,Bz8h,bne_self_eq_false,Bool.true_and,go_sem,yz0,xx9,xx8,xx6,xx7,xx5,xx0,xx1,xx2,reduceIte,xx3,xx4,reduceCtorEq]
      intro vs3
      refine call_rowI (k_reached n next s A ⟨hw.1,by omega⟩) qCS rfl ⟨_,rfl⟩ ?_
      rintro ys v rfl
      simp only [go_sem,yz0,xx9,xx8,xx6,xx7,xx5,xx0,xx1,xx2,reduceIte,xx3,xx4,reduceCtorEq]
      refine ⟨[15],by simp,by simp,by simp,?_⟩
      simp only [range1,List.length_singleton,Nat.not_lt_zero,range1,yzx,yz11,ren_ro,rnNm_n,yz10,rnNm_o,rnNm_s,ren_st,yzy,yzp,yzf,yz4,yzu,yzv,yzo,yzm,yzs,yzb,yzd,yzc,yza,yzj,yzi,yz3,yz7,yz8,yz9,yzg,yzk,List.range_zero,yz6,yz5,yze,yzt,yzl,yzr,AVal.fresh,freshL,yz2,yzh,AObj.fresh,id,Option.isSome_some,or_true,true_or,go_sem,yz0,xx9,xx8,xx6,xx7,xx5,xx0,xx1,xx2,reduceIte,xx3,xx4,reduceCtorEq]
      exact ⟨v,rfl,rfl⟩
end Go.Ab
namespace Go.Ab
open Go Go.Proofs Go.Sort
theorem sink1_calls (x:Int) (W:World) (pb po b off cap:Nat) (own:List Int) (hp:W.cell? ⟨pb,po,none⟩=some (.slice (some ⟨b,off,none⟩) own.length cap))
    (hc:∀ j,j<own.length→W.cell? ⟨b,off+j,none⟩=some (.int .i64 own[j]!)) (hl:own.length≤9223372036854775807) :
    Calls Try.prog nz4 #[.int .i64 x,.pointer (some ⟨pb,po,none⟩)] W fun e w'=>e=.returned (.bool (!own.contains x))∧w'=W:=by
  have hcon:=AnyE.slices_Contains Try.lcontI (Value.int .i64) _ (EqlAt.intD _ _ .i64) b off own.length cap own x W (Nat.le_refl _) hl hc
  rw [List.take_length] at hcon
  have e:(own.any fun y=>decide (x=y))=own.contains x:=by
    rw [Bool.eq_iff_iff,List.any_eq_true,List.contains_iff_mem]
    constructor
    · rintro ⟨y,h1,h2⟩
      rw [decide_eq_true_eq] at h2
      rw [h2];exact h1
    · exact fun h=>⟨x,h,decide_eq_true rfl⟩
  rw [e] at hcon
  generalize own.contains x=r at hcon ⊢
  change Calls Try.prog 106 _ _ _ at hcon
  go_enter Try.func105,Try.ntmps105
  go_wp2_with (go_at_call 106;refine hcon.mono ?_;rintro e w' ⟨rfl,rfl⟩)
  go_ret
  exact ⟨rfl,rfl⟩
theorem k_DelSink1 (zs own:List Int) (hz:zs≠[]) (hn:own≠[]) (nm:Option (Option Nat)):Con Try.prog nzh [.row 0 1 true (ints zs)] [.own 5000 0,.clo nz4 [.rp [.ro nm 1 (ints own)] 0]] false
    fun outs rows res=>∃ v,outs=[.row v 1 true (ints (zs.filter fun x=>own.contains x))]∧rows=[]∧res=.own 5000 v:=by
  have hf:∀ x,(fun x=>!(!own.contains x)) x=own.contains x:=fun x=>Bool.not_not _
  refine Con.mono (con_inrowV x_slices_DeleteFunc_LI (ints zs) (by simpa using hz) [.clo nz4 [.rp [.ro nm 1 (ints own)] 0]] false
    (fun cs' k=>k=(zs.filter fun x=>own.contains x).length∧cs'=ints ((zs.filter fun x=>own.contains x) ++ List.replicate (zs.length - (zs.filter fun x=>own.contains x).length) 0)) ?_ ?_ true) ?_
  · rintro _ cs' k ⟨_,rfl⟩ A hA
    simp only [List.mem_map] at hA
    obtain ⟨y,_,rfl⟩:=hA
    exact ⟨_,rfl⟩
  · intro c us L g off cap hu hL himm hlt hH hg hm hcap
    match us,hu with
    | [u],hu =>
    simp only [RepL,Rep,and_true] at hu
    obtain ⟨vs,rfl,hvs⟩:=hu
    obtain ⟨V⟩:=vs
    match V,hvs with
    | [p],hvs =>
    simp only [RepL,Rep,RepAt,and_true] at hvs
    obtain ⟨pb,po,rfl,hib,v,hcell,base,len,cap2,rfl,_,hlen,_,_,hr⟩:=hvs
    have hlen:own.length=len:=by simpa using hlen
    subst hlen
    rcases hr with hr | ⟨b,boff,rfl,hib2,hra⟩
    · exact absurd (by simpa using hr) hn
    have hLe:=repL_ints_eqK (κ:=.i64) hL
    subst hLe
    rw [List.length_map] at hm hcap ⊢
    have hmm:=maxLen_le
    have hp:∀ W:World,(∀ b',c.imm b'→W.heap[b']?=c.w.heap[b']?)→∀ x:Int,FnGives Try.prog nz4 #[Value.pointer (some ⟨pb,po+0,none⟩)] #[Value.int .i64 x] (.bool (!own.contains x)) W:=fun W hW x =>
      (sink1_calls x W pb (po+0) b boff cap2 own (by rw [World.cell?_of_block (w:=c.w) (hW pb hib)];exact hcell) (fun j hj=>by
        obtain ⟨v,h1,h2⟩:=hra.get (i:=j) (A:=iv own[j]) (by rw [List.getElem?_map,List.getElem?_eq_getElem hj];rfl)
        simp only [Rep] at h2
        subst h2
        rw [World.cell?_of_block (w:=c.w) (hW b hib2),h1,getElem!_pos _ j hj]) (by omega)).mono (by rintro e w' ⟨he,hw⟩;exact ⟨he,0,hw⟩)
    have hfl:(zs.filter fun x=>!(!own.contains x))=zs.filter fun x=>own.contains x:=by
      congr 1;funext x;exact Bool.not_not _
    refine (AnyE.slices_DeleteFunc Try.ldelI (Value.int .i64) (fun x=>rfl) (fun x=>!own.contains x) nz4 #[Value.pointer (some ⟨pb,po+0,none⟩)] (enters_of Try.func105 (by decide) rfl) 0 Try.zeroValue2 g off cap zs.toArray c.w
      (fun W x hB=>hp W (fun b' hb=>hB.block b' (hlt b' hb)) x) (fun n os dk x _=>hp _ (fun b' hb=>?_) x) (fun j hj=>?_) (by simp;omega) (by simpa using hcap)).mono ?_
    · have h1:b'<(c.w.heap.modify g (onCells (putCells (Value.int .i64) off dk))).size:=by rw [Array.size_modify];exact hlt b' hb
      show (c.w.heap.modify g (onCells (putCells (Value.int .i64) off dk)) ++ os)[b']?=_
      rw [Array.getElem?_append_left h1,Array.getElem?_modify,if_neg (Ne.symm (himm b' hb))]
    · have hj2:j<zs.length:=by simpa using hj
      have:=hH j (by rw [List.length_map];exact hj2)
      rw [List.getElem_map] at this
      rw [getElem!_pos _ j hj]
      simpa using this
    · rintro e w' ⟨he,q,hw⟩
      simp only [hfl] at he hw
      have hle:=List.length_filter_le (fun x=>own.contains x) zs
      refine ⟨_,((zs.filter fun x=>own.contains x) ++ List.replicate (zs.length - (zs.filter fun x=>own.contains x).length) 0).map (Value.int .i64),_,⟨rfl,rfl⟩,by rw [List.length_map,List.length_append,List.length_replicate];omega,repL_intsK,hle,he,q,#[],?_⟩
      rw [Sort.grow_empty,hw,putRow_map]
      simp
  · rintro outs rows res ⟨v,cs',k,⟨rfl,rfl⟩,rfl,rfl,rfl⟩
    refine ⟨v,?_,rfl,rfl⟩
    rw [intsK_take,List.take_left]
theorem k_DelSink0 (own:List Int):Con Try.prog nzh [.row 0 1 true (ints [])] [.own 5000 0,.clo nz4 [.rp [.ro none 1 (ints own)] 0]] false
    fun outs rows res=>∃ v,outs=[.row v 1 true (ints [])]∧rows=[]∧res=.own 5000 v:=by
  refine con_of mixed czi1 rfl (by simp) ?_
  have hI:=k_IndexFunc2 [] nz4 [.rp [.ro none 1 (ints own)] 0] (fun _=>true) ⟨by simp only [go_sem,yz0,xx9,xx8,xx6,xx7,xx5,xx0,xx1,xx2,reduceIte,xx3,xx4,reduceCtorEq],by intros;simp only [rowIs,boxIs,coe_argN,coe_argNs,coe_ro_o,coeL_nil,yz12,coe_any,coe_val,coe_ro,yz16,yz17,coe_st,yz18,coe_rp,yz19,coe_clo,coe_own0,coe_ptr0,yz15,coeL_rws,coeL_rwn,L_hit,L_miss,L_nil,xx3,ne_eq,reduceCtorEq,not_false_eq_true,true_and,and_true,and_self,exists_eq_left,exists_eq_right,List.mem_cons,List.not_mem_nil,or_false,AObj.row.injEq,AObj.box.injEq,exists_eq_left',exists_and_left,exists_eq,Nat.zero_lt_one,Nat.lt_add_one,List.map_cons,List.map_nil,AObj.ver,xx5,not_true_eq_false]⟩ (fun x hx=>by simp at hx)
  simp only [Azcv,Bzcu,go_sem,yz0,xx9,xx8,xx6,xx7,xx5,xx0,xx1,xx2,reduceIte,xx3,xx4,reduceCtorEq]
  intro vs
  refine yzz hI (by simp only [rowIs,boxIs,coe_argN,coe_argNs,coe_ro_o,coeL_nil,yz12,coe_any,coe_val,coe_ro,yz16,yz17,coe_st,yz18,coe_rp,yz19,coe_clo,coe_own0,coe_ptr0,yz15,coeL_rws,coeL_rwn,L_hit,L_miss,L_nil,xx3,ne_eq,reduceCtorEq,not_false_eq_true,true_and,and_true,and_self,exists_eq_left,exists_eq_right,List.mem_cons,List.not_mem_nil,or_false,AObj.row.injEq,AObj.box.injEq,exists_eq_left',exists_and_left,exists_eq,Nat.zero_lt_one,Nat.lt_add_one,List.map_cons,List.map_nil,AObj.ver,xx5,not_true_eq_false]) trivial ?_
  have e:((-1:Int) == -1)=true:=rfl
  simp only [fidx,e,Bzct,Bzcs,Nat.not_lt_zero,range1,yzx,yz11,ren_ro,rnNm_n,yz10,rnNm_o,rnNm_s,ren_st,yzy,yzp,yzf,yz4,yzu,yzv,yzo,yzm,yzs,yzb,yzd,yzc,yza,yzj,yzi,yz3,yz7,yz8,yz9,yzg,yzk,List.range_zero,yz6,yz5,yze,yzt,yzl,yzr,AVal.fresh,freshL,yz2,yzh,AObj.fresh,id,Option.isSome_some,or_true,true_or,go_sem,yz0,xx9,xx8,xx6,xx7,xx5,xx0,xx1,xx2,reduceIte,xx3,xx4,reduceCtorEq]
  refine ⟨[],by simp,by simp,by simp,by simp,fun j hj=>?_,0,rfl,rfl,ren_own (expo_in (j:=0) (by omega))⟩
  obtain rfl:j=0:=by omega
  simp only [go_sem,yz0,xx9,xx8,xx6,xx7,xx5,xx0,xx1,xx2,reduceIte,xx3,xx4,reduceCtorEq,Nat.not_lt_zero,range1,yzx,yz11,ren_ro,rnNm_n,yz10,rnNm_o,rnNm_s,ren_st,yzy,yzp,yzf,yz4,yzu,yzv,yzo,yzm,yzs,yzb,yzd,yzc,yza,yzj,yzi,yz3,yz7,yz8,yz9,yzg,yzk,List.range_zero,yz6,yz5,yze,yzt,yzl,yzr,AVal.fresh,freshL,yz2,yzh,AObj.fresh,id,Option.isSome_some,or_true,true_or]
theorem k_DelSink (zs own:List Int) (hn:own≠[]):Con Try.prog nzh [.row 0 1 true (ints zs)] [.own 5000 0,.clo nz4 [.rp [.ro none 1 (ints own)] 0]] false
    fun outs rows res=>∃ v,outs=[.row v 1 true (ints (zs.filter fun x=>own.contains x))]∧rows=[]∧res=.own 5000 v:=by
  by_cases hz:zs=[]
  · subst hz;exact k_DelSink0 own
  · exact k_DelSink1 zs own hz hn none
theorem call_del {P:Program} {σ:St} {g:FuncId} {As args:List AVal} {d:Nat} {s:Nat→Nat} {K:St→Prop} {r v:Nat} {zs ys:List Int}
    (h:Con P g [.row 0 1 true (ints zs)] (.own 5000 0 :: args) false fun outs rows res=>∃ v,outs=[.row v 1 true (ints ys)]∧rows=[]∧res=.own 5000 v) (hr:σ.hp r=.row v 1 true (ints zs)) (hco:CoeL σ.hp [r] true args As)
    (hk:∀ u,K (St.put ⟨σ.tm,upd σ.hp r (.row u 1 true (ints ys))⟩ (some d) (.own r u))):wpCall P false σ g (.own r v :: As) (some d) s K:=by
  refine .inl ⟨[r],_,_,false,_,h,⟨by simp,rfl,by simp,by simp [hr],?_⟩,?_,(fun e=>by cases e),?_⟩
  · intro j B r' hB hr'
    cases j with
    | succ j=>simp at hB
    | zero =>
      simp at hB hr';subst hB;subst hr'
      simp only [ObjCoe,hr]
      exact ⟨trivial,v,_,rfl,coeL_ints⟩
  · rw [yz12,coe_own0,hr];exact ⟨rfl,hco⟩
  · rintro outs rows res ⟨u,rfl,rfl,rfl⟩
    refine ⟨rfl,by simp,by simp,?_⟩
    have i0:rid [r] d 0 5000=some r:=rid_m (j:=0) (by omega) rfl
    rw [Option.getD_some,callHp_m]
    simp only [AObj.ren,AVal.ren,yz4,List.length_nil,i0]
    exact hk _
end Go.Ab
namespace Go.Ab
def bitsN (f:Nat):List Nat:=(List.range 10).filter fun s=>f.testBit s
def stepN (row:List Int) (f:Nat):Nat:=(bitsN f).foldl (fun o s=>o ||| 2 ^ (row.getD s 0).toNat) 0
abbrev TS:=List (Nat×List Int)
def hasT (L:TS) (f:Nat):Bool:=L.any fun p=>Nat.beq p.1 f
def visT (next:List (List Int)) (f:Nat) (w:List Int):Nat→TS→TS
  | 0,L=>L
  | x+1,L=>match visT next f w x L with
    | L'=>match stepN (next.getD x []) f with
      | to=>if hasT L' to then L' else L' ++ [(to,w ++ [(x:Int)])]
def runT (next:List (List Int)):Nat→Nat→TS→TS
  | 0,_,L=>L
  | F+1,i,L=>if i<L.length then runT next F (i+1) (visT next (L.getD i (0,[])).1 (L.getD i (0,[])).2 next.length L) else L
def smallN (f:Nat):Bool:=Nat.beq (f &&& (f - 1)) 0
theorem hasT_iff {L:TS} {f:Nat}:hasT L f=true↔f∈L.map (·.1):=by
  simp only [hasT,List.any_eq_true,List.mem_map]
  constructor
  · rintro ⟨p,hp,h⟩;exact ⟨p,hp,Nat.eq_of_beq_eq_true h⟩
  · rintro ⟨p,hp,rfl⟩;exact ⟨p,hp,Nat.beq_refl _⟩
theorem mem_bits {f s:Nat}:s∈bitsN f↔s<10∧f.testBit s=true:=by simp [bitsN]
theorem bits_lt {f n s:Nat} (h:f<2 ^ n) (hs:s∈bitsN f):s<n:=by
  rw [mem_bits] at hs
  by_cases hn:s<n
  · exact hn
  · have:=Nat.testBit_lt_two_pow (Nat.lt_of_lt_of_le h (Nat.pow_le_pow_right (n:=2) (by omega) (show n≤s by omega)))
    rw [this] at hs;simp at hs
structure TI (N m:Nat) (L:TS):Prop where
  nd:(L.map (·.1)).Nodup
  rg:∀ p∈L,p.1<2 ^ N
  wd:∀ p∈L,(∀ x∈p.2,0≤x∧x<m)∧p.2.length<L.length
theorem nodup_lt:∀ (n:Nat) (l:List Nat),l.Nodup→(∀ x∈l,x<n)→l.length≤n
  | 0,l,_,h=>by
    cases l with
    | nil=>simp
    | cons x l=>exact absurd (h x (by simp)) (by omega)
  | n+1,l,hd,h=>by
    by_cases hm:n∈l
    · have h1:=List.length_erase_of_mem hm
      have h2:=nodup_lt n (l.erase n) (hd.erase n) (fun x hx=>by
        rw [hd.mem_erase_iff] at hx
        have:=h x hx.2;omega)
      omega
    · have:=nodup_lt n l hd (fun x hx=>by
        have h1:=h x hx
        have:x≠n:=fun e=>hm (e ▸ hx)
        omega)
      omega
theorem TI.len {N m:Nat} {L:TS} (h:TI N m L):L.length≤2 ^ N:=by
  have:=nodup_lt (2 ^ N) (L.map (·.1)) h.nd (fun x hx=>by
    obtain ⟨p,hp,rfl⟩:=List.mem_map.1 hx
    exact h.rg p hp)
  simpa using this
theorem TI.add {N m:Nat} {L:TS} (h:TI N m L) {to:Nat} {w:List Int} {x:Int} (ht:to<2 ^ N) (hn:hasT L to=false) (hw:(∀ x∈w,0≤x∧x<m)∧w.length<L.length) (hx:0≤x∧x<m):TI N m (L ++ [(to,w ++ [x])]):=by
  refine ⟨?_,?_,?_⟩
  · rw [List.map_append,List.nodup_append]
    refine ⟨h.nd,by simp,?_⟩
    intro a ha b hb e
    simp at hb
    rw [e,hb,← hasT_iff,hn] at ha
    cases ha
  · intro p hp
    rcases List.mem_append.1 hp with hp | hp
    · exact h.rg p hp
    · have hp:p=(to,w ++ [x]):=by simpa using hp
      rw [hp];exact ht
  · intro p hp
    rw [List.length_append,List.length_singleton]
    rcases List.mem_append.1 hp with hp | hp
    · have:=h.wd p hp
      exact ⟨this.1,by omega⟩
    · have hp:p=(to,w ++ [x]):=by simpa using hp
      subst hp
      refine ⟨fun y hy=>?_,by rw [List.length_append,List.length_singleton];omega⟩
      rcases List.mem_append.1 hy with hy | hy
      · exact hw.1 y hy
      · have hy:y=x:=by simpa using hy
        rw [hy];exact hx
theorem visT_succ {next:List (List Int)} {f:Nat} {w:List Int} {x:Nat} {L:TS}:visT next f w (x+1) L=if hasT (visT next f w x L) (stepN (next.getD x []) f) then visT next f w x L else visT next f w x L ++ [(stepN (next.getD x []) f,w ++ [(x:Int)])]:=rfl
theorem getD_app {α:Type} {L t:List α} {i:Nat} (h:i<L.length) (d:α):(L ++ t).getD i d=L.getD i d:=by
  rw [List.getD_eq_getElem?_getD,List.getElem?_append_left h,← List.getD_eq_getElem?_getD]
end Go.Ab
namespace Go.Ab
open Go.Proofs
def bitsTo (f s:Nat):List Int:=((List.range s).filter fun k=>f.testBit k).map fun (k:Nat)=>(k:Int)
end Go.Ab
namespace Go.Ab
open Go.Proofs
end Go.Ab
namespace Go.Ab
open Go.Proofs
def prow (p:Int→Int→Bool) (s:Int):Int→Nat→List (List Int)
  | _,0=>[]
  | t,m+1=>(if p s t=true then [[s,t]] else []) ++ prow p s (t+1) m
def pall (p:Int→Int→Bool) (n:Int):Int→Nat→List (List Int)
  | _,0=>[]
  | s,m+1=>prow p s (s+1) (n - (s+1)).toNat ++ pall p n (s+1) m
def pairsL (n:Int) (p:Int→Int→Bool):List (List Int):=pall p n 0 n.toNat
end Go.Ab
namespace Go.Ab
open Go.Proofs
theorem beqT {a b:Int} (h:a=b):(a == b)=true:=by simp [h]
theorem beqF {a b:Int} (h:a≠b):(a == b)=false:=by simp [h]
abbrev every (n:Int):List (List Int):=pairsL n fun _ _=>true
abbrev imgL (next:List (List Int)) (set w:List Int):List Int:=nrm (set.map fun s=>atA next s w)
end Go.Ab
namespace Go.Ab
open Go.Proofs
end Go.Ab
namespace Go.Ab
open Go.Proofs
end Go.Ab
namespace Go.Ab
open Go.Proofs
theorem thaw_L {l:List (Nat×AVal)} {h:List (Nat×AObj)} {r i q n m v k k':Nat} {nn:Bool} {cs cs':List AVal} (hr:L .gone h r=.row v k nn cs) :
    St.thaw ⟨L .any l,L .gone h⟩ r i q n m k' cs'=⟨L .any (woT n l),L .gone ((q,.row m k' true (woL n cs')) :: (r,.row v k nn ((woL n cs).set i (.own q m))) :: woO n h)⟩:=by
  unfold St.thaw
  congr 1
  · funext x;exact (woT_eq l x).symm
  · funext x
    simp only [L]
    split
    · rfl
    · split
      · rw [hr]
      · exact (woO_eq h x).symm
theorem gwp_thaw {gs:List GStep} {K:St→Prop} {l:List (Nat×AVal)} {h:List (Nat×AObj)} {r i q n v k k':Nat} {nn:Bool} {cs cs':List AVal} (hr:L .gone h r=.row v k nn cs)
    (hi:cs[i]?=some (.ro (some (some (n+1))) k' cs')) (hne:cs'≠[]) (hq:L .gone h q=.gone)
    (hk:∀ m,gwp gs K ⟨L .any (woT n l),L .gone ((q,.row m k' true (woL n cs')) :: (r,.row v k nn ((woL n cs).set i (.own q m))) :: woO n h)⟩):gwp (.thaw r i q :: gs) K ⟨L .any l,L .gone h⟩ :=
  ⟨v,k,nn,cs,n,k',cs',hr,hi,hne,hq,fun m=>by rw [thaw_L hr];exact hk m⟩
theorem wo_o {n k:Nat} {cs:List AVal}:AVal.wo n (.ro (some (some 0)) k cs)=.ro (some (some 0)) k (woL n cs):=by cases cs <;> simp [AVal.wo,woL]
theorem wo_st {n:Nat} {cs:List AVal}:AVal.wo n (.st cs)=.st (woL n cs):=by simp only [AVal.wo]
theorem wo_ptr {n r u o:Nat}:AVal.wo n (.ptr r u o)=.ptr r u o:=by simp only [AVal.wo]
theorem woL_nil {n:Nat}:woL n []=[]:=by simp only [woL]
theorem woL_cons {n:Nat} {A:AVal} {cs:List AVal}:woL n (A :: cs)=AVal.wo n A :: woL n cs:=by simp only [woL]
theorem woO_row {n v k:Nat} {nn:Bool} {cs:List AVal}:AObj.wo n (.row v k nn cs)=.row v k nn (woL n cs):=rfl
theorem woO_box {n v:Nat} {cs:List AVal}:AObj.wo n (.box v cs)=.box v (woL n cs):=rfl
theorem callHp_h2 {hp:Nat→AObj} {r q1 d:Nat} {s:Nat→Nat} {o0 o1:AObj} (hnd:[r,q1].Nodup) :
    callHp hp [r,q1] d s [o0,o1] []=(upd (upd hp r (o0.ren (rid [r,q1] d 0) (sv hp [r,q1] s))) q1 (o1.ren (rid [r,q1] d 0) (sv hp [r,q1] s))):=by
  have hnd':=hnd
  simp only [List.nodup_cons,List.mem_cons,List.not_mem_nil,or_false,not_or,List.nodup_nil,and_true,not_false_eq_true] at hnd'
  funext n
  by_cases e1:n=q1
  · have h1:rid [r,q1] d ([]:List AObj).length 5001=some n:=by rw [e1];exact rid_m (j:=1) (by omega) rfl
    rw [callHp_at hnd (by simp) h1]
    simp [upd,e1,outHp,hnd',Ne.symm]
    try (intros;simp_all)
  by_cases e0:n=r
  · have h1:rid [r,q1] d ([]:List AObj).length 5000=some n:=by rw [e0];exact rid_m (j:=0) (by omega) rfl
    rw [callHp_at hnd (by simp) h1]
    simp [upd,e0,outHp,hnd',Ne.symm]
    try (intros;simp_all)
  rw [callHp_not]
  · simp [upd,e0,e1]
  · rintro ⟨x,hx⟩
    rcases rid_cases hx with ⟨j,rfl,_,h3⟩ | ⟨i,rfl,h3,_⟩
    · match j,h3 with
      | 0,h3=>simp at h3;exact e0 h3.symm
      | 1,h3=>simp at h3;exact e1 h3.symm
      | j+2,h3=>simp at h3
    · simp at h3
end Go.Ab
namespace Go.Ab
open Go.Proofs
end Go.Ab
namespace Go.Ab
open Go.Proofs
def renR (order row:List Int):List Int:=order.map fun s=>fidx (fun y=>row.getD s.toNat 0 == y) order 0
end Go.Ab
namespace Go.Ab
open Go.Proofs
end Go.Ab
namespace Go.Ab
open Go.Proofs
theorem wo_any {n:Nat}:AVal.wo n .any=.any:=by simp only [AVal.wo]
end Go.Ab
namespace Go.Ab
open Go.Proofs
end Go.Ab
namespace Go.Ab
open Go.Proofs
structure Mach (n o:Int) (next out:List (List Int)):Prop where
  aut:Aut n next
  o1:1≤o
  o2:o≤3
  len:out.length=next.length
  row:∀ row∈out,(row.length:Int)=n∧∀ x∈row,0≤x∧x<o
end Go.Ab
namespace Go.Ab
open Go.Proofs
def dvS (nr or:List Int) (D:List Nat×Bool) (s:Int):List Nat×Bool :=
  (D.1.set (or.getD s.toNat 0).toNat (D.1.getD (or.getD s.toNat 0).toNat 0 ||| 2 ^ (nr.getD s.toNat 0).toNat),D.2 && Nat.beq (D.1.getD (or.getD s.toNat 0).toNat 0 &&& 2 ^ (nr.getD s.toNat 0).toNat) 0)
def dvF (nr or:List Int) (o:Int) (S:List Int):List Nat×Bool:=S.foldl (dvS nr or) (List.replicate o.toNat 0,true)
abbrev nfs (fs:List Nat):List AVal:=intsK .u64 (fs.map fun (f:Nat)=>(f:Int))
end Go.Ab
namespace Go.Ab
open Go.Proofs
end Go.Ab
namespace Go.Ab
open Go Go.Proofs Go.Sort
section
variable {κ:IntKind} {P:Program} {f:FuncId}
end
end Go.Ab
namespace Go.Ab
def imN (next:List (List Int)) (f:Nat) (w:List Int):Nat:=w.foldl (fun f l=>stepN (next.getD l.toNat []) f) f
theorem imN_snoc {next:List (List Int)} {f:Nat} {w:List Int} {x:Int}:imN next f (w ++ [x])=stepN (next.getD x.toNat []) (imN next f w):=by simp [imN]
def SndT (next:List (List Int)) (f0:Nat) (L:TS):Prop:=∀ p∈L,p.1=imN next f0 p.2
theorem SndT.vis {next:List (List Int)} {f0 f:Nat} {w:List Int} (hf:f=imN next f0 w):∀ (x:Nat) {L:TS},SndT next f0 L→SndT next f0 (visT next f w x L)
  | 0,_,h=>h
  | x+1,L,h=>by
    have h1:=SndT.vis hf x h
    rw [visT_succ]
    split
    · exact h1
    · intro p hp
      rcases List.mem_append.1 hp with hp | hp
      · exact h1 p hp
      · have hp:p=(stepN (next.getD x []) f,w ++ [(x:Int)]):=by simpa using hp
        rw [hp,imN_snoc,← hf];rfl
theorem SndT.run {next:List (List Int)} {f0:Nat}:∀ (F i:Nat) {L:TS},SndT next f0 L→SndT next f0 (runT next F i L)
  | 0,_,_,h=>h
  | F+1,i,L,h=>by
    simp only [runT]
    split
    · rename_i hi
      exact SndT.run F (i+1) (SndT.vis (h _ (yzq hi _)) _ h)
    · exact h
theorem small_bits (f:Nat) (hf:f<1024):smallN f=decide ((bitsN f).length≤1) :=
  have h:∀ f:Fin 1024,smallN f=decide ((bitsN f).length≤1):=by decide +kernel
  h ⟨f,hf⟩
theorem small_iff {f:Nat} (hf:f<1024):smallN f=true↔∀ s∈bitsN f,∀ t∈bitsN f,s=t:=by
  rw [small_bits f hf,decide_eq_true_eq]
  have hn:(bitsN f).Nodup:=List.nodup_range.filter _
  constructor
  · intro h s hs t ht
    match hb:bitsN f with
    | []=>rw [hb] at hs;simp at hs
    | [x]=>rw [hb] at hs ht;simp at hs ht;rw [hs,ht]
    | x :: y :: l=>rw [hb] at h;simp at h
  · intro h
    match hb:bitsN f with
    | []=>simp
    | [x]=>simp
    | x :: y :: l =>
      rw [hb] at hn h
      have:=h x (by simp) y (by simp)
      rw [this] at hn;simp at hn
theorem all_bits {n:Int} (hn:1≤n∧n≤10) {s:Nat}:s∈bitsN (2 ^ n.toNat - 1)↔(s:Int)<n:=by
  rw [mem_bits,Nat.testBit_two_pow_sub_one,decide_eq_true_eq];omega
theorem addL_mem {l:List Int} {x y:Int}:y∈addL l x↔y∈l∨y=x:=by
  unfold addL
  split
  · rename_i h
    have h:x∈l:=by simpa using h
    constructor
    · exact .inl
    · rintro (h1 | rfl)
      · exact h1
      · exact h
  · simp
theorem visK_mem {s:Int}:∀ {rs:List (List Int)} {l:List Int} {y:Int},y∈visK s rs l↔y∈l∨∃ row∈rs,row.getD s.toNat 0=y
  | [],l,y=>by simp [visK]
  | row :: rs,l,y=>by
    simp only [visK]
    rw [visK_mem,addL_mem,or_assoc]
    simp only [List.mem_cons,exists_eq_or_imp]
    constructor
    · rintro (h | h | h)
      · exact .inl h
      · exact .inr (.inl h.symm)
      · exact .inr (.inr h)
    · rintro (h | h | h)
      · exact .inl h
      · exact .inr (.inl h.symm)
      · exact .inr (.inr h)
theorem runL_pre {next:List (List Int)}:∀ (f:Nat) (l:List Int) (i:Nat),∃ t,runL next f l i=l ++ t
  | 0,l,_=>⟨[],by simp [runL]⟩
  | f+1,l,i=>by
    simp only [runL]
    split
    · obtain ⟨t,h⟩:=vis_pre (s:=l.getD i 0) (rs:=next) (l:=l)
      obtain ⟨t',h'⟩:=runL_pre (next:=next) f (visK (l.getD i 0) next l) (i+1)
      exact ⟨t ++ t',by rw [h',h,List.append_assoc]⟩
    · exact ⟨[],by simp⟩
theorem run_closed {n:Int} {next:List (List Int)} (A:Aut n next):∀ (f:Nat) (l:List Int) (i:Nat),Once n l→i≤l.length→n.toNat+1≤f+i→(∀ j<i,∀ row∈next,row.getD (l.getD j 0).toNat 0∈l) →
    ∀ x∈runL next f l i,∀ row∈next,row.getD x.toNat 0∈runL next f l i
  | 0,l,i,ho,hi,hf,hc=>by
    have:=ho.len A.n1
    omega
  | f+1,l,i,ho,hi,hf,hc=>by
    simp only [runL]
    split
    · rename_i hi1
      obtain ⟨t,ht⟩:=vis_pre (s:=l.getD i 0) (rs:=next) (l:=l)
      refine run_closed A f _ (i+1) (Once.vis (ho.rg _ (yzq hi1 0)) A.row ho) (by rw [ht,List.length_append];omega) (by omega) ?_
      intro j hj row hr
      have hg:(visK (l.getD i 0) next l).getD j 0=l.getD j 0:=by
        rw [ht,List.getD_eq_getElem?_getD,List.getElem?_append_left (by omega),← List.getD_eq_getElem?_getD]
      rw [hg,visK_mem]
      by_cases e:j=i
      · subst e;exact .inr ⟨row,hr,rfl⟩
      · exact .inl (hc j (by omega) row hr)
    · have:i=l.length:=by omega
      intro x hx row hr
      obtain ⟨j,hj,hg⟩:=List.getElem_of_mem hx
      have:=hc j (by omega) row hr
      rw [List.getD_eq_getElem?_getD (l:=l),List.getElem?_eq_getElem hj,Option.getD_some,hg] at this
      exact this
theorem reach_closed {n s:Int} {next:List (List Int)} (A:Aut n next) (hs:0≤s∧s<n):s∈reachL n next s∧∀ x∈reachL n next s,∀ row∈next,row.getD x.toNat 0∈reachL n next s:=by
  refine ⟨?_,run_closed A _ _ 0 (one_once hs) (by simp) (by omega) (fun j hj=>by omega)⟩
  obtain ⟨t,ht⟩:=runL_pre (next:=next) (n.toNat+1) [s] 0
  unfold reachL;rw [ht];simp
theorem fidx_eq {q:Int}:∀ {xs:List Int} (k:Nat),q∈xs→∃ i:Nat,fidx (fun y=>q == y) xs k=((k+i:Nat):Int)∧i<xs.length∧xs.getD i 0=q
  | [],_,h=>by simp at h
  | x :: xs,k,h=>by
    by_cases e:q=x
    · exact ⟨0,by simp [fidx,e],by simp,by simpa using e.symm⟩
    · obtain ⟨i,h1,h2,h3⟩:=fidx_eq (xs:=xs) (k+1) (by simpa [e] using h)
      have e1:(q == x)=false:=beq_false_of_ne e
      refine ⟨i+1,?_,by simp;omega,by simpa using h3⟩
      simp only [fidx,e1,Bool.false_eq_true,if_false,h1]
      congr 1;omega
end Go.Ab
namespace Go.Ab
abbrev PS:=List ((Nat×Nat)×List Int)
def stepP (na nb:List (List Int)) (p:Nat×Nat) (x:Nat):Nat×Nat:=(((na.getD x []).getD p.1 0).toNat,((nb.getD x []).getD p.2 0).toNat)
def eqP (p q:Nat×Nat):Bool:=Nat.beq p.1 q.1 && Nat.beq p.2 q.2
def hasP (L:PS) (p:Nat×Nat):Bool:=L.any fun q=>eqP q.1 p
def difP (oa ob:List (List Int)) (p:Nat×Nat) (x:Nat):Bool:=(oa.getD x []).getD p.1 0 != (ob.getD x []).getD p.2 0
theorem eqP_iff {p q:Nat×Nat}:eqP p q=true↔p=q:=by
  unfold eqP
  rw [Bool.and_eq_true,Nat.beq_eq,Nat.beq_eq]
  constructor
  · rintro ⟨h1,h2⟩;exact Prod.ext h1 h2
  · rintro rfl;exact ⟨rfl,rfl⟩
theorem hasP_iff {L:PS} {p:Nat×Nat}:hasP L p=true↔p∈L.map (·.1):=by
  simp only [hasP,List.any_eq_true,List.mem_map]
  constructor
  · rintro ⟨q,hq,h⟩;exact ⟨q,hq,eqP_iff.1 h⟩
  · rintro ⟨q,hq,rfl⟩;exact ⟨q,hq,eqP_iff.2 rfl⟩
structure PI (a b m:Nat) (L:PS):Prop where
  nd:(L.map (·.1)).Nodup
  rg:∀ p∈L,p.1.1<a∧p.1.2<b
  wd:∀ p∈L,(∀ x∈p.2,0≤x∧x<m)∧p.2.length<L.length
theorem PI.len {a b m:Nat} {L:PS} (h:PI a b m L) (ha:a≤10) (hb:b≤10):L.length≤100:=by
  have hn:((L.map (·.1)).map fun p:Nat×Nat=>10 * p.1+p.2).Nodup:=by
    refine List.Pairwise.map _ ?_ (List.Pairwise.and_mem.1 h.nd)
    rintro p q ⟨hp,hq,hpq⟩ e
    obtain ⟨x,hx,rfl⟩:=List.mem_map.1 hp
    obtain ⟨y,hy,rfl⟩:=List.mem_map.1 hq
    have h1:=h.rg x hx
    have h2:=h.rg y hy
    exact hpq (Prod.ext (by omega) (by omega))
  have:=nodup_lt 100 _ hn (fun x hx=>by
    obtain ⟨p,hp,rfl⟩:=List.mem_map.1 hx
    obtain ⟨q,hq,rfl⟩:=List.mem_map.1 hp
    have:=h.rg q hq
    omega)
  simpa using this
theorem PI.add {a b m:Nat} {L:PS} (h:PI a b m L) {to:Nat×Nat} {w:List Int} {x:Int} (ht:to.1<a∧to.2<b) (hn:hasP L to=false) (hw:(∀ x∈w,0≤x∧x<m)∧w.length<L.length) (hx:0≤x∧x<m):PI a b m (L ++ [(to,w ++ [x])]):=by
  refine ⟨?_,?_,?_⟩
  · rw [List.map_append,List.nodup_append]
    refine ⟨h.nd,by simp,?_⟩
    intro a ha b hb e
    simp at hb
    rw [e,hb,← hasP_iff,hn] at ha
    cases ha
  · intro p hp
    rcases List.mem_append.1 hp with hp | hp
    · exact h.rg p hp
    · have hp:p=(to,w ++ [x]):=by simpa using hp
      rw [hp];exact ht
  · intro p hp
    rw [List.length_append,List.length_singleton]
    rcases List.mem_append.1 hp with hp | hp
    · have:=h.wd p hp
      exact ⟨this.1,by omega⟩
    · have hp:p=(to,w ++ [x]):=by simpa using hp
      subst hp
      refine ⟨fun y hy=>?_,by rw [List.length_append,List.length_singleton];omega⟩
      rcases List.mem_append.1 hy with hy | hy
      · exact hw.1 y hy
      · have hy:y=x:=by simpa using hy
        rw [hy];exact hx
structure Two (n n':Int) (na nb:List (List Int)):Prop where
  a:Aut n na
  b:Aut n' nb
  len:nb.length=na.length
theorem Two.step {n n':Int} {na nb:List (List Int)} (T:Two n n' na nb) {x:Nat} {p:Nat×Nat} (hx:x<na.length) (hp:p.1<n.toNat∧p.2<n'.toNat):(stepP na nb p x).1<n.toNat∧(stepP na nb p x).2<n'.toNat:=by
  have h1:=T.a.row _ (yzq hx [])
  have h2:=T.b.row _ (yzq (show x<nb.length by rw [T.len];exact hx) [])
  have n1:=T.a.n1
  have n2:=T.b.n1
  have h3:=h1.2 _ (yzq (show p.1<(na.getD x []).length by omega) 0)
  have h4:=h2.2 _ (yzq (show p.2<(nb.getD x []).length by omega) 0)
  unfold stepP
  dsimp only
  omega
end Go.Ab
namespace Go.Ab
end Go.Ab
namespace Go.Ab
def outA (out:List (List Int)) (s l:Int):Int:=(out.getD l.toNat []).getD s.toNat 0
def outsA (next out:List (List Int)):Int→List Int→List Int
  | _,[]=>[]
  | s,x :: w=>outA out s x :: outsA next out (stepA next s x) w
def lexP:List Int→List Int→Bool
  | x :: v,y :: w=>if x=y then lexP v w else decide (x<y)
  | _,_=>false
def befP (v w:List Int):Bool:=if v.length=w.length then lexP v w else decide (v.length<w.length)
end Go.Ab
namespace Go.Ab
theorem lexP_irrefl:∀ u:List Int,lexP u u=false
  | []=>rfl
  | x :: u=>by simp only [lexP,if_pos rfl];exact lexP_irrefl u
theorem lexP_trans:∀ {u v w:List Int},lexP u v=true→lexP v w=true→lexP u w=true
  | [],_,_,h,_=>by simp [lexP] at h
  | _ :: _,[],_,h,_=>by simp [lexP] at h
  | _ :: _,_ :: _,[],_,h=>by simp [lexP] at h
  | x :: u,y :: v,z :: w,h1,h2=>by
    simp only [lexP] at h1 h2 ⊢
    by_cases e1:x=y
    · subst e1
      rw [if_pos rfl] at h1
      by_cases e2:x=z
      · subst e2
        rw [if_pos rfl] at h2 ⊢
        exact lexP_trans h1 h2
      · rw [if_neg e2] at h2 ⊢;exact h2
    · rw [if_neg e1] at h1
      by_cases e2:y=z
      · subst e2
        rw [if_neg e1];exact h1
      · rw [if_neg e2] at h2
        have h1:=of_decide_eq_true h1
        have h2:=of_decide_eq_true h2
        rw [if_neg (by omega)];exact decide_eq_true (by omega)
theorem lexP_snoc:∀ {u v:List Int} {x y:Int},u.length=v.length→lexP u v=true→lexP (u ++ [x]) (v ++ [y])=true
  | [],_,_,_,_,h=>by simp [lexP] at h
  | _ :: _,[],_,_,_,h=>by simp [lexP] at h
  | a :: u,b :: v,x,y,hl,h=>by
    simp only [lexP,List.cons_append] at h ⊢
    by_cases e:a=b
    · rw [if_pos e] at h ⊢;exact lexP_snoc (by simpa using hl) h
    · rw [if_neg e] at h ⊢;exact h
theorem lexP_last:∀ {u:List Int} {x y:Int},x<y→lexP (u ++ [x]) (u ++ [y])=true
  | [],x,y,h=>by
    simp only [List.nil_append,lexP]
    rw [if_neg (by omega)];exact decide_eq_true h
  | a :: u,x,y,h=>by simp only [List.cons_append,lexP,if_pos rfl];exact lexP_last h
theorem befP_len {u v:List Int} (h:u.length<v.length):befP u v=true:=by
  rw [befP,if_neg (by omega)];exact decide_eq_true h
theorem befP_le {u v:List Int} (h:befP u v=true):u.length≤v.length:=by
  rw [befP] at h
  split at h
  · omega
  · have:=of_decide_eq_true h;omega
theorem befP_irrefl (u:List Int):befP u u=false:=by rw [befP,if_pos rfl];exact lexP_irrefl u
theorem befP_trans {u v w:List Int} (h1:befP u v=true) (h2:befP v w=true):befP u w=true:=by
  have l1:=befP_le h1
  have l2:=befP_le h2
  by_cases e:u.length=w.length
  · rw [befP,if_pos (by omega)] at h1 h2 ⊢
    exact lexP_trans h1 h2
  · exact befP_len (by omega)
theorem befP_snoc {u v:List Int} {x y:Int} (h:befP u v=true):befP (u ++ [x]) (v ++ [y])=true:=by
  have l1:=befP_le h
  by_cases e:u.length=v.length
  · rw [befP,if_pos e] at h
    rw [befP,if_pos (by simp [e])]
    exact lexP_snoc e h
  · exact befP_len (by simp;omega)
theorem befP_last {u:List Int} {x y:Int} (h:x<y):befP (u ++ [x]) (u ++ [y])=true:=by
  rw [befP,if_pos (by simp)];exact lexP_last h
def leP (u v:List Int):Prop:=befP u v=true∨u=v
theorem leP_trans {u v w:List Int} (h1:leP u v) (h2:leP v w):leP u w:=by
  rcases h1 with h1 | rfl
  · rcases h2 with h2 | rfl
    · exact .inl (befP_trans h1 h2)
    · exact .inl h1
  · exact h2
theorem leP_not {u v:List Int} (h:leP u v):befP v u=false:=by
  cases hb:befP v u with
  | false=>rfl
  | true =>
    rcases h with h | rfl
    · have:=befP_trans h hb
      rw [befP_irrefl] at this;cases this
    · rw [befP_irrefl] at hb;cases hb
def pairW (na nb:List (List Int)):Nat×Nat→List Int→Nat×Nat
  | p,[]=>p
  | p,x :: w=>pairW na nb (stepP na nb p x.toNat) w
def difW (na nb oa ob:List (List Int)):Nat×Nat→List Int→Bool
  | _,[]=>false
  | p,x :: w=>difP oa ob p x.toNat || difW na nb oa ob (stepP na nb p x.toNat) w
def isWd (k:Nat) (w:List Int):Prop:=∀ x∈w,0≤x∧x<k
structure BI (na nb oa ob:List (List Int)) (p0:Nat×Nat) (i:Nat) (L:PS):Prop where
  ok:∀ q∈L,q.1=pairW na nb p0 q.2∧difW na nb oa ob p0 q.2=false∧isWd na.length q.2
  so:L.Pairwise fun a b=>befP a.2 b.2=true
  par:∀ q∈L,q.2=[]∨∃ j<i,∃ y,q.2=(L.getD j ((0,0),[])).2 ++ [y]
  cl:∀ a<i,∀ x<na.length,difP oa ob (L.getD a ((0,0),[])).1 x=false∧∃ q∈L,q.1=stepP na nb (L.getD a ((0,0),[])).1 x∧leP q.2 ((L.getD a ((0,0),[])).2 ++ [(x:Int)])
  le:i≤L.length
  nil:∃ q∈L,q.1=p0∧q.2=[]
structure BV (na nb oa ob:List (List Int)) (p0:Nat×Nat) (i:Nat) (L:PS) (x:Nat) (L':PS):Prop where
  sub:∃ t,L'=L ++ t
  ok:∀ q∈L',q.1=pairW na nb p0 q.2∧difW na nb oa ob p0 q.2=false∧isWd na.length q.2
  so:L'.Pairwise fun a b=>befP a.2 b.2=true
  par:∀ q∈L',q.2=[]∨(∃ j<i,∃ y,q.2=(L.getD j ((0,0),[])).2 ++ [y])∨∃ y<x,q.2=(L.getD i ((0,0),[])).2 ++ [(y:Int)]
  cl:∀ y<x,∃ q∈L',q.1=stepP na nb (L.getD i ((0,0),[])).1 y∧leP q.2 ((L.getD i ((0,0),[])).2 ++ [(y:Int)])
end Go.Ab
namespace Go.Ab
section
variable {σ:Type} [DecidableEq σ] (δ:σ→Nat→Option σ)
def goG (p:σ):List Int→Option σ
  | []=>some p
  | x :: w=>match δ p x.toNat with
    | none=>none
    | some q=>goG q w
def hasG (L:List (σ×List Int)) (q:σ):Bool:=L.any fun p=>decide (p.1=q)
def visG (p:σ) (w:List Int):Nat→List (σ×List Int)→List (σ×List Int)
  | 0,L=>L
  | x+1,L=>match δ p x with
    | none=>visG p w x L
    | some q=>if hasG (visG p w x L) q=true then visG p w x L else visG p w x L ++ [(q,w ++ [(x:Int)])]
def runG (m:Nat) (d:σ×List Int):Nat→Nat→List (σ×List Int)→List (σ×List Int)
  | 0,_,L=>L
  | F+1,i,L=>if i<L.length then runG m d F (i+1) (visG δ (L.getD i d).1 (L.getD i d).2 m L) else L
theorem goG_snoc {w:List Int} {x:Int}:∀ {p:σ},goG δ p (w ++ [x])=(goG δ p w).bind fun q=>δ q x.toNat:=by
  induction w with
  | nil =>
    intro p
    simp only [List.nil_append,goG,Option.bind_some]
    cases δ p x.toNat <;> rfl
  | cons y w ih =>
    intro p
    simp only [List.cons_append,goG]
    cases δ p y.toNat with
    | none=>rfl
    | some q=>exact ih
theorem hasG_iff {L:List (σ×List Int)} {q:σ}:hasG L q=true↔∃ p∈L,p.1=q:=by
  simp only [hasG,List.any_eq_true,decide_eq_true_eq]
structure GI (D:σ→Prop) (m:Nat) (d:σ×List Int) (p0:σ) (i x:Nat) (L:List (σ×List Int)):Prop where
  so:L.Pairwise fun a b=>befP a.2 b.2=true
  up:i<L.length→∀ p∈L,∀ z:Int,(x:Int)≤z→befP p.2 ((L.getD i d).2 ++ [z])=true
  sd:∀ p∈L,goG δ p0 p.2=some p.1∧∀ y∈p.2,0≤y∧y<m
  rg:∀ p∈L,D p.1
  nd:(L.map (·.1)).Nodup
  cl:∀ j y q,(j<i∧y<m)∨(j=i∧y<x)→j<L.length→δ (L.getD j d).1 y=some q→∃ k,k<L.length∧(L.getD k d).1=q∧leP (L.getD k d).2 ((L.getD j d).2 ++ [(y:Int)])
  ze:∃ p∈L,p=(p0,[])
theorem appG_getD {L t:List (σ×List Int)} {i:Nat} {d:σ×List Int} (h:i<L.length):(L ++ t).getD i d=L.getD i d:=by
  rw [List.getD_eq_getElem?_getD,List.getElem?_append_left h,← List.getD_eq_getElem?_getD]
theorem lastG_getD {L:List (σ×List Int)} {p d:σ×List Int}:(L ++ [p]).getD L.length d=p:=by
  rw [List.getD_eq_getElem?_getD,List.getElem?_append_right (Nat.le_refl _),Nat.sub_self];rfl
variable {δ}
theorem GI.next {D:σ→Prop} {m:Nat} {d:σ×List Int} {p0:σ} {i x:Nat} {L:List (σ×List Int)} (hD:∀ p y q,D p→y<m→δ p y=some q→D q) (h:GI δ D m d p0 i x L) (hi:i<L.length) (hx:x<m) :
    match δ (L.getD i d).1 x with
    | none=>GI δ D m d p0 i (x+1) L
    | some q=>if hasG L q=true then GI δ D m d p0 i (x+1) L else GI δ D m d p0 i (x+1) (L ++ [(q,(L.getD i d).2 ++ [(x:Int)])]):=by
  have hm:=yzq hi d
  cases hq:δ (L.getD i d).1 x with
  | none =>
    refine ⟨h.so,fun hi p hp z hz=>h.up hi p hp z (by omega),h.sd,h.rg,h.nd,fun j y q hj hjl hd=>?_,h.ze⟩
    by_cases e:j=i∧y=x
    · obtain ⟨rfl,rfl⟩:=e
      rw [hq] at hd;cases hd
    · exact h.cl j y q (by omega) hjl hd
  | some q =>
    simp only
    split
    · rename_i hh
      refine ⟨h.so,fun hi p hp z hz=>h.up hi p hp z (by omega),h.sd,h.rg,h.nd,fun j y q' hj hjl hd=>?_,h.ze⟩
      by_cases e:j=i∧y=x
      · obtain ⟨rfl,rfl⟩:=e
        rw [hq] at hd;cases hd
        obtain ⟨p,hp,rfl⟩:=(hasG_iff).1 hh
        obtain ⟨k,hk,hg⟩:=List.getElem_of_mem hp
        have hkd:L.getD k d=p:=by rw [List.getD_eq_getElem?_getD,List.getElem?_eq_getElem hk];exact hg
        exact ⟨k,hk,by rw [hkd],by rw [hkd];exact .inl (h.up hi p hp _ (Int.le_refl _))⟩
      · exact h.cl j y q' (by omega) hjl hd
    · rename_i hh
      have hgi:(L ++ [(q,(L.getD i d).2 ++ [(x:Int)])]).getD i d=L.getD i d:=appG_getD hi
      refine ⟨?_,?_,?_,?_,?_,?_,?_⟩
      · rw [List.pairwise_append]
        refine ⟨h.so,by simp,fun a ha b hb=>?_⟩
        have:b=(q,(L.getD i d).2 ++ [(x:Int)]):=by simpa using hb
        subst this
        exact h.up hi a ha _ (Int.le_refl _)
      · intro _ p hp z hz
        rw [hgi]
        rcases List.mem_append.1 hp with hp | hp
        · exact h.up hi p hp z (by omega)
        · have:p=(q,(L.getD i d).2 ++ [(x:Int)]):=by simpa using hp
          subst this
          exact befP_last (by omega)
      · intro p hp
        rcases List.mem_append.1 hp with hp | hp
        · exact h.sd p hp
        · have:p=(q,(L.getD i d).2 ++ [(x:Int)]):=by simpa using hp
          subst this
          obtain ⟨s1,s2⟩:=h.sd _ hm
          refine ⟨by rw [goG_snoc,s1];exact hq,fun y hy=>?_⟩
          rcases List.mem_append.1 hy with hy | hy
          · exact s2 y hy
          · have:y=(x:Int):=by simpa using hy
            omega
      · intro p hp
        rcases List.mem_append.1 hp with hp | hp
        · exact h.rg p hp
        · have:p=(q,(L.getD i d).2 ++ [(x:Int)]):=by simpa using hp
          subst this
          exact hD _ _ _ (h.rg _ hm) hx hq
      · rw [List.map_append,List.nodup_append]
        refine ⟨h.nd,by simp,fun a ha b hb e=>?_⟩
        have hb:b=q:=by simpa using hb
        obtain ⟨p,hp,rfl⟩:=List.mem_map.1 ha
        exact hh (hasG_iff.2 ⟨p,hp,by rw [e,hb]⟩)
      · intro j y q' hj hjl hd
        rw [List.length_append,List.length_singleton] at hjl
        by_cases e:j=i∧y=x
        · obtain ⟨rfl,rfl⟩:=e
          rw [hgi,hq] at hd;cases hd
          exact ⟨L.length,by simp,by rw [lastG_getD],by rw [lastG_getD,hgi];exact .inr rfl⟩
        · have hjl2:j<L.length:=by omega
          rw [appG_getD hjl2] at hd ⊢
          obtain ⟨k,k1,k2,k3⟩:=h.cl j y q' (by omega) hjl2 hd
          exact ⟨k,by rw [List.length_append];omega,by rw [appG_getD k1];exact k2,by rw [appG_getD k1];exact k3⟩
      · obtain ⟨p,hp,e⟩:=h.ze
        exact ⟨p,List.mem_append.2 (.inl hp),e⟩
theorem visG_pre {p:σ} {w:List Int}:∀ (x:Nat) (L:List (σ×List Int)),∃ t,visG δ p w x L=L ++ t
  | 0,L=>⟨[],by simp [visG]⟩
  | x+1,L=>by
    obtain ⟨t,h⟩:=visG_pre (p:=p) (w:=w) x L
    simp only [visG]
    cases δ p x with
    | none=>exact ⟨t,h⟩
    | some q =>
      simp only
      split
      · exact ⟨t,h⟩
      · exact ⟨t ++ [(q,w ++ [(x:Int)])],by rw [← List.append_assoc,← h]⟩
theorem GI.vis {D:σ→Prop} {m:Nat} {d:σ×List Int} {p0:σ} {i:Nat} {L:List (σ×List Int)} (hD:∀ p y q,D p→y<m→δ p y=some q→D q) (h:GI δ D m d p0 i 0 L) (hi:i<L.length) :
    ∀ x,x≤m→GI δ D m d p0 i x (visG δ (L.getD i d).1 (L.getD i d).2 x L)
  | 0,_=>h
  | x+1,hx=>by
    have h1:=GI.vis hD h hi x (by omega)
    obtain ⟨t,ht⟩:=visG_pre (δ:=δ) (p:=(L.getD i d).1) (w:=(L.getD i d).2) x L
    have hl:i<(visG δ (L.getD i d).1 (L.getD i d).2 x L).length:=by rw [ht,List.length_append];omega
    have hg:(visG δ (L.getD i d).1 (L.getD i d).2 x L).getD i d=L.getD i d:=by rw [ht];exact appG_getD hi
    have h2:=h1.next hD hl (by omega)
    rw [hg] at h2
    simp only [visG]
    cases hq:δ (L.getD i d).1 x with
    | none=>rw [hq] at h2;exact h2
    | some q =>
      rw [hq] at h2
      simp only at h2 ⊢
      split
      · rename_i hh;rw [if_pos hh] at h2;exact h2
      · rename_i hh;rw [if_neg hh] at h2;exact h2
theorem GI.succ {D:σ→Prop} {m:Nat} {d:σ×List Int} {p0:σ} {i:Nat} {L:List (σ×List Int)} (h:GI δ D m d p0 i m L):GI δ D m d p0 (i+1) 0 L:=by
  refine ⟨h.so,fun hi p hp z _=>?_,h.sd,h.rg,h.nd,fun j y q hj hjl hd=>h.cl j y q (by omega) hjl hd,h.ze⟩
  have h1:=h.up (by omega) p hp m (Int.le_refl _)
  refine befP_trans h1 (befP_snoc ?_)
  have:=List.pairwise_iff_getElem.1 h.so i (i+1) (by omega) hi (by omega)
  rw [List.getD_eq_getElem?_getD,List.getD_eq_getElem?_getD,List.getElem?_eq_getElem hi,List.getElem?_eq_getElem (show i<L.length by omega)]
  exact this
theorem GI.run {D:σ→Prop} {m N:Nat} {d:σ×List Int} {p0:σ} (hD:∀ p y q,D p→y<m→δ p y=some q→D q)
    (hN:∀ L:List (σ×List Int),(L.map (·.1)).Nodup→(∀ p∈L,D p.1)→L.length≤N):∀ (F i:Nat) (L:List (σ×List Int)),GI δ D m d p0 i 0 L→i≤L.length→N<F+i →
    GI δ D m d p0 (runG δ m d F i L).length 0 (runG δ m d F i L)
  | 0,i,L,h,hi,hF=>by
    have:=hN L h.nd h.rg
    omega
  | F+1,i,L,h,hi,hF=>by
    simp only [runG]
    split
    · rename_i hi1
      have h1:=(GI.vis hD h hi1 m (Nat.le_refl _)).succ
      obtain ⟨t,ht⟩:=visG_pre (δ:=δ) (p:=(L.getD i d).1) (w:=(L.getD i d).2) m L
      exact GI.run hD hN F (i+1) _ h1 (by rw [ht,List.length_append];omega) (by omega)
    · have:i=L.length:=by omega
      rw [← this];exact h
theorem GI.word {D:σ→Prop} {m:Nat} {d:σ×List Int} {p0:σ} {L:List (σ×List Int)} (h:GI δ D m d p0 L.length 0 L):∀ (k:Nat) (v:List Int),v.length=k→(∀ y∈v,0≤y∧y<m)→∀ q,goG δ p0 v=some q →
    ∃ j,j<L.length∧(L.getD j d).1=q∧leP (L.getD j d).2 v
  | 0,v,hk,_,q,hq=>by
    obtain rfl:v=[]:=List.eq_nil_of_length_eq_zero hk
    simp only [goG,Option.some.injEq] at hq
    obtain ⟨p,hp,e⟩:=h.ze
    obtain ⟨j,hj,hg⟩:=List.getElem_of_mem hp
    have hgd:L.getD j d=p:=by rw [List.getD_eq_getElem?_getD,List.getElem?_eq_getElem hj];exact hg
    exact ⟨j,hj,by rw [hgd,e];exact hq,by rw [hgd,e];exact .inr rfl⟩
  | k+1,v,hk,hv,q,hq=>by
    have hne:v≠[]:=fun e=>by rw [e] at hk;simp at hk
    have e:=List.dropLast_concat_getLast hne
    have hl:=hv _ (List.getLast_mem hne)
    have hq:goG δ p0 (v.dropLast ++ [v.getLast hne])=some q:=by rw [e];exact hq
    rw [goG_snoc] at hq
    cases hg:goG δ p0 v.dropLast with
    | none=>rw [hg] at hq;cases hq
    | some p =>
      rw [hg] at hq
      simp only [Option.bind_some] at hq
      obtain ⟨j,j1,j2,j3⟩:=GI.word h k v.dropLast (by rw [List.length_dropLast];omega) (fun y hy=>hv y (List.dropLast_subset v hy)) p hg
      obtain ⟨i,i1,i2,i3⟩:=h.cl j (v.getLast hne).toNat q (.inl ⟨j1,by omega⟩) j1 (by rw [j2];exact hq)
      refine ⟨i,i1,i2,leP_trans i3 ?_⟩
      have e2:(((v.getLast hne).toNat:Nat):Int)=v.getLast hne:=by omega
      rw [e2]
      have e3:leP ((L.getD j d).2 ++ [v.getLast hne]) (v.dropLast ++ [v.getLast hne]):=by
        rcases j3 with j3 | j3
        · exact .inl (befP_snoc j3)
        · rw [j3];exact .inr rfl
      rw [e] at e3;exact e3
theorem GI.first {D:σ→Prop} {m:Nat} {d:σ×List Int} {p0:σ} {L:List (σ×List Int)} (h:GI δ D m d p0 L.length 0 L) (g:σ→Bool) :
    match L.find? (fun p=>g p.1) with
    | some (q,w)=>goG δ p0 w=some q∧g q=true∧(∀ y∈w,0≤y∧y<m)∧∀ v:List Int,(∀ y∈v,0≤y∧y<m)→∀ q',goG δ p0 v=some q'→g q'=true→befP v w=false
    | none=>∀ v:List Int,(∀ y∈v,0≤y∧y<m)→∀ q',goG δ p0 v=some q'→g q'=false:=by
  cases hf:L.find? (fun p=>g p.1) with
  | none =>
    intro v hv q' hq'
    obtain ⟨j,j1,j2,_⟩:=h.word v.length v rfl hv q' hq'
    have:=List.find?_eq_none.1 hf _ (yzq j1 d)
    rw [j2] at this;simpa using this
  | some p =>
    obtain ⟨q,w⟩:=p
    have hm:=List.mem_of_find?_eq_some hf
    have hg:=List.find?_some hf
    obtain ⟨s1,s2⟩:=h.sd _ hm
    refine ⟨s1,hg,s2,fun v hv q' hq' hgq=>?_⟩
    obtain ⟨j,j1,j2,j3⟩:=h.word v.length v rfl hv q' hq'
    refine leP_not ?_
    refine leP_trans ?_ j3
    obtain ⟨_,la,lb,hab,hno⟩:=List.find?_eq_some_iff_append.1 hf
    have hj:la.length≤j:=by
      rcases Nat.lt_or_ge j la.length with hlt | hge
      · exfalso
        have hjm:L.getD j d∈la:=by
          rw [hab,List.getD_eq_getElem?_getD,List.getElem?_append_left hlt,List.getElem?_eq_getElem hlt]
          exact List.getElem_mem hlt
        have:=hno _ hjm
        rw [j2,hgq] at this;simp at this
      · exact hge
    have hla:la.length<L.length:=by omega
    have hgw:L.getD la.length d=(q,w):=by
      rw [hab,List.getD_eq_getElem?_getD,List.getElem?_append_right (Nat.le_refl _),Nat.sub_self];rfl
    rcases Nat.lt_or_ge la.length j with hlt | hge
    · have:=List.pairwise_iff_getElem.1 h.so la.length j hla j1 hlt
      have e1:L[la.length]=(q,w):=by rw [← hgw,List.getD_eq_getElem?_getD,List.getElem?_eq_getElem hla];rfl
      have e2:L[j]=L.getD j d:=by rw [List.getD_eq_getElem?_getD,List.getElem?_eq_getElem j1];rfl
      rw [e1,e2] at this
      exact .inl this
    · have:j=la.length:=by omega
      rw [this,hgw];exact .inr rfl
end
end Go.Ab
namespace Go.Ab
def pop (f:Nat):Nat:=(bitsN f).length
def parF (nr or:List Int) (o:Int) (D:List Nat):List Nat:=D.flatMap fun f=>(dvF nr or o (bitsTo f 10)).1
def clrF (nr or:List Int) (o:Int) (D:List Nat):Bool:=D.all fun f=>(dvF nr or o (bitsTo f 10)).2
def nrmF (ps:List Nat):List Nat:=(List.range 1024).filter fun f=>decide (f∈ps) && !smallN f
def dbtD (next out:List (List Int)) (o:Int) (tells:Bool) (D:List Nat) (x:Nat):Option (List Nat) :=
  if (tells && !(clrF (next.getD x []) (out.getD x []) o D))=true then none else some (nrmF (parF (next.getD x []) (out.getD x []) o D))
theorem nrmF_mem {ps:List Nat} {f:Nat} (hp:∀ f∈ps,f<1024):f∈nrmF ps↔f∈ps∧smallN f=false:=by
  simp only [nrmF,List.mem_filter,List.mem_range,Bool.and_eq_true,decide_eq_true_eq,Bool.not_eq_true']
  constructor
  · rintro ⟨_,h⟩;exact h
  · rintro ⟨h1,h2⟩;exact ⟨hp f h1,h1,h2⟩
theorem nrmF_lt (ps:List Nat):(nrmF ps).Pairwise (·<·):=List.Pairwise.filter _ List.pairwise_lt_range
theorem count_or:∀ (l:List Nat) (a k:Nat),l.Nodup→(l.filter fun s=>(a ||| 2 ^ k).testBit s).length≤(l.filter fun s=>a.testBit s).length+(if k∈l then 1 else 0)
  | [],_,_,_=>by simp
  | s :: l,a,k,hd=>by
    rw [List.nodup_cons] at hd
    have ih:=count_or l a k hd.2
    have e:(a ||| 2 ^ k).testBit s=(a.testBit s || decide (k=s)):=by
      rw [Nat.testBit_or,Nat.testBit_two_pow]
    by_cases hs:k=s
    · subst hs
      rw [if_neg hd.1] at ih
      rw [if_pos (by simp),List.filter_cons,List.filter_cons,e]
      simp only [decide_true,Bool.or_true,if_true,List.length_cons]
      split
      · rw [List.length_cons];omega
      · omega
    · have hm:(k∈s :: l)↔k∈l:=by simp [hs]
      rw [List.filter_cons,List.filter_cons,e]
      simp only [hs,decide_false,Bool.or_false]
      have:(if k∈s :: l then 1 else 0)=if k∈l then 1 else 0:=by simp only [hm]
      rw [this]
      by_cases hb:a.testBit s=true
      · simp only [hb,if_true,List.length_cons];omega
      · simp only [hb,if_false];exact ih
theorem pop_or (a k:Nat):pop (a ||| 2 ^ k)≤pop a+1:=by
  have:=count_or (List.range 10) a k List.nodup_range
  unfold pop bitsN
  split at this <;> omega
theorem sum_set:∀ (l:List Nat) (i v:Nat),(l.set i v).sum+l.getD i 0≤l.sum+v
  | [],_,_=>by simp
  | a :: l,0,v=>by simp;omega
  | a :: l,i+1,v=>by
    have:=sum_set l i v
    simp only [List.set_cons_succ,List.sum_cons,List.getD_cons_succ];omega
theorem pop_zero:pop 0=0:=by decide
theorem sum_rep (n:Nat):((List.replicate n 0).map pop).sum=0:=by
  induction n with
  | zero=>rfl
  | succ n ih=>rw [List.replicate_succ,List.map_cons,List.sum_cons,ih,pop_zero]
theorem dvS_sum {nr or:List Int} {D:List Nat×Bool} {s:Int}:((dvS nr or D s).1.map pop).sum≤(D.1.map pop).sum+1:=by
  unfold dvS
  dsimp only
  generalize (or.getD s.toNat 0).toNat=i
  generalize (nr.getD s.toNat 0).toNat=k
  rw [List.map_set]
  have h1:=sum_set (D.1.map pop) i (pop (D.1.getD i 0 ||| 2 ^ k))
  have h2:=pop_or (D.1.getD i 0) k
  have h3:(D.1.map pop).getD i 0=pop (D.1.getD i 0):=by
    rw [List.getD_eq_getElem?_getD,List.getElem?_map,List.getD_eq_getElem?_getD]
    cases D.1[i]? with
    | none=>exact pop_zero.symm
    | some a=>rfl
  rw [h3] at h1;omega
theorem dvFold_sum {nr or:List Int}:∀ (S:List Int) (D:List Nat×Bool),((S.foldl (dvS nr or) D).1.map pop).sum≤(D.1.map pop).sum+S.length
  | [],D=>by simp
  | s :: S,D=>by
    have h1:=dvFold_sum (nr:=nr) (or:=or) S (dvS nr or D s)
    have h2:=dvS_sum (nr:=nr) (or:=or) (D:=D) (s:=s)
    rw [List.foldl_cons,List.length_cons];omega
theorem dvF_sum {nr or:List Int} {o:Int} {S:List Int}:((dvF nr or o S).1.map pop).sum≤S.length:=by
  have:=dvFold_sum (nr:=nr) (or:=or) S (List.replicate o.toNat 0,true)
  rw [sum_rep] at this
  unfold dvF;omega
theorem dvFold_len {nr or:List Int}:∀ (S:List Int) (D:List Nat×Bool),(S.foldl (dvS nr or) D).1.length=D.1.length
  | [],D=>rfl
  | s :: S,D=>by rw [List.foldl_cons,dvFold_len S];simp [dvS]
theorem dvF_len {nr or:List Int} {o:Int} {S:List Int}:(dvF nr or o S).1.length=o.toNat:=by
  unfold dvF;rw [dvFold_len];simp
theorem dvFold_lt {nr or:List Int} {n:Nat} (hr:∀ s∈nr,s.toNat<n) (hl:∀ D:List Nat×Bool,True):∀ (S:List Int) (D:List Nat×Bool),(∀ s∈S,s.toNat<nr.length)→(∀ g∈D.1,g<2 ^ n)→∀ g∈(S.foldl (dvS nr or) D).1,g<2 ^ n
  | [],D,_,h=>h
  | s :: S,D,hS,h=>by
    rw [List.foldl_cons]
    refine dvFold_lt hr hl S _ (fun s hs=>hS s (List.mem_cons_of_mem _ hs)) fun g hg=>?_
    unfold dvS at hg
    dsimp only at hg
    rcases List.mem_or_eq_of_mem_set hg with hg | rfl
    · exact h g hg
    · refine Nat.or_lt_two_pow ?_ (Nat.pow_lt_pow_right (by omega) (hr _ (yzq (hS s (by simp)) 0)))
      by_cases hi:(or.getD s.toNat 0).toNat<D.1.length
      · exact h _ (yzq hi 0)
      · rw [List.getD_eq_getElem?_getD,List.getElem?_eq_none (by omega)];exact Nat.two_pow_pos n
theorem dvF_lt {nr or:List Int} {o:Int} {n:Nat} {S:List Int} (hr:∀ s∈nr,s.toNat<n) (hS:∀ s∈S,s.toNat<nr.length):∀ g∈(dvF nr or o S).1,g<2 ^ n:=by
  refine dvFold_lt hr (fun _=>trivial) S _ hS fun g hg=>?_
  rw [(List.mem_replicate.1 hg).2];exact Nat.two_pow_pos n
theorem parF_sum {nr or:List Int} {o:Int}:∀ {D:List Nat},((parF nr or o D).map pop).sum≤(D.map pop).sum
  | []=>by simp [parF]
  | f :: D=>by
    have h1:=parF_sum (nr:=nr) (or:=or) (o:=o) (D:=D)
    have h2:=dvF_sum (nr:=nr) (or:=or) (o:=o) (S:=bitsTo f 10)
    have h3:(bitsTo f 10).length=pop f:=by unfold bitsTo pop bitsN;simp
    unfold parF at h1 ⊢
    rw [List.flatMap_cons,List.map_append,List.sum_append,List.map_cons,List.sum_cons];omega
theorem sum_sub (g:Nat→Nat):∀ {q ps:List Nat},q.Nodup→(∀ f∈q,f∈ps)→(q.map g).sum≤(ps.map g).sum
  | [],_,_,_=>by simp
  | a :: q,ps,hd,h=>by
    rw [List.nodup_cons] at hd
    have ha:=h a (by simp)
    have h1:=(List.perm_cons_erase ha)
    have h2:(ps.map g).sum=((a :: ps.erase a).map g).sum:=(h1.map g).sum_nat
    rw [h2,List.map_cons,List.sum_cons,List.map_cons,List.sum_cons]
    have h3:=sum_sub g (q:=q) (ps:=ps.erase a) hd.2 fun f hf=>(List.mem_erase_of_ne (fun e=>hd.1 (by rw [← e];exact hf))).2 (h f (List.mem_cons_of_mem _ hf))
    omega
theorem len_sub {α:Type} [DecidableEq α]:∀ {q ps:List α},q.Nodup→(∀ f∈q,f∈ps)→q.length≤ps.length
  | [],_,_,_=>by simp
  | a :: q,ps,hd,h=>by
    rw [List.nodup_cons] at hd
    have ha:=h a (by simp)
    have h1:=(List.perm_cons_erase ha).length_eq
    have h3:=len_sub (q:=q) (ps:=ps.erase a) hd.2 fun f hf=>(List.mem_erase_of_ne (fun e=>hd.1 (by rw [← e];exact hf))).2 (h f (List.mem_cons_of_mem _ hf))
    rw [List.length_cons] at h1 ⊢;omega
structure DB (n:Nat) (q:List Nat):Prop where
  lt:q.Pairwise (·<·)
  el:∀ f∈q,f<2 ^ n∧smallN f=false
  sm:(q.map pop).sum≤n
theorem two_sum:∀ {q:List Nat},(∀ f∈q,f<1024∧smallN f=false)→2 * q.length≤(q.map pop).sum
  | [],_=>by simp
  | f :: q,h=>by
    have h1:=two_sum (q:=q) fun g hg=>h g (List.mem_cons_of_mem _ hg)
    obtain ⟨h2,h3⟩:=h f (by simp)
    rw [small_bits f h2] at h3
    have:¬ (bitsN f).length≤1:=by simpa using h3
    rw [List.map_cons,List.sum_cons,List.length_cons]
    unfold pop at h1 ⊢;omega
theorem DB.len {n:Nat} {q:List Nat} (h:DB n q) (hn:n≤10):2 * q.length≤n:=by
  have hN:2 ^ n≤1024:=Nat.pow_le_pow_right (n:=2) (by omega) (show n≤10 by omega)
  have:=two_sum (q:=q) fun f hf=>⟨Nat.lt_of_lt_of_le (h.el f hf).1 hN,(h.el f hf).2⟩
  have:=h.sm;omega
theorem DB.nil (n:Nat):DB n []:=⟨by simp,by simp,by simp⟩
theorem parF_lt {nr or:List Int} {o:Int} {n:Nat} {D:List Nat} (hr:∀ s∈nr,s.toNat<n) (hnl:nr.length=n) (hD:∀ f∈D,f<2 ^ n):∀ g∈parF nr or o D,g<2 ^ n:=by
  intro g hg
  obtain ⟨f,hf,hg⟩:=List.mem_flatMap.1 hg
  refine dvF_lt hr (fun s hs=>?_) g hg
  obtain ⟨k,hk,rfl⟩:=List.mem_map.1 (show s∈(bitsN f).map (fun (s:Nat)=>(s:Int)) from hs)
  have h2:=Nat.ge_two_pow_of_testBit (mem_bits.1 hk).2
  have h3:k<n:=(Nat.pow_lt_pow_iff_right (a:=2) (by omega)).1 (Nat.lt_of_le_of_lt h2 (hD f hf))
  rw [hnl];omega
theorem DB.next {n:Nat} {q:List Nat} (h:DB n q) (hn:n≤10) {nr or:List Int} {o:Int} (hr:∀ s∈nr,s.toNat<n) (hnl:nr.length=n):DB n (nrmF (parF nr or o q)):=by
  have hN:2 ^ n≤1024:=Nat.pow_le_pow_right (n:=2) (by omega) (show n≤10 by omega)
  have hlt:=parF_lt (or:=or) (o:=o) hr hnl fun f hf=>(h.el f hf).1
  have hm:=fun f=>nrmF_mem (f:=f) fun g hg=>Nat.lt_of_lt_of_le (hlt g hg) hN
  refine ⟨nrmF_lt _,fun f hf=>⟨hlt f ((hm f).1 hf).1,((hm f).1 hf).2⟩,?_⟩
  have h1:=sum_sub pop (q:=nrmF (parF nr or o q)) (ps:=parF nr or o q) ((nrmF_lt _).imp fun h=>Nat.ne_of_lt h) fun f hf=>((hm f).1 hf).1
  have h2:=parF_sum (nr:=nr) (or:=or) (o:=o) (D:=q)
  have h3:=h.sm
  omega
theorem DB_all {n:Int} (n1:1≤n) (n2:n≤10) (hn:n > 1):DB n.toNat [2 ^ n.toNat - 1]:=by
  have key:∀ k:Fin 11,2≤k.val→smallN (2 ^ k.val - 1)=false∧pop (2 ^ k.val - 1)=k.val:=by decide +kernel
  obtain ⟨k1,k2⟩:=key ⟨n.toNat,by omega⟩ (by show 2≤n.toNat;omega)
  have hp:=Nat.two_pow_pos n.toNat
  refine ⟨by simp,fun f hf=>?_,?_⟩
  · rw [List.mem_singleton.1 hf];exact ⟨by omega,k1⟩
  · have k2:pop (2 ^ n.toNat - 1)=n.toNat:=k2
    simp [k2]
end Go.Ab
