/- Contracts and what they lean on, part 7. Conditions: none. -/
import Derived.Lib.SlicesCompact
import Derived.Ground.NamesProg
import Derived.Shelf.Strconv.Itoa4
import Derived.Shelf.Strings.Split
import Derived.Shelf.Strconv.ParseIntPublic10
import Derived.Test.YtmmpllmppgelgaaDoorProg
import Derived.Test.YtmmpllmppgelgaaDoorZ6
set_option maxRecDepth 100000
set_option maxHeartbeats 4000000
set_option linter.all false
open Nat renaming reduceLeDiff → xx0, reduceMul → xx1, reduceSub → xx2, reduceEqDiff → xx3, reduceAdd → xx4, reduceLT → xx5
open Int renaming reduceToNat → xx6, reduceNeg → xx7, reduceLE → xx8, reduceLT → xx9
namespace Go.Ab
open Go.Proofs
theorem k_l00In (n lo hi:Int):Fun Tryd.prog nzh [iv n,iv lo,iv hi] (bv (decide (lo≤n) && decide (n≤hi))):=by
  refine fun_of mixed czc8 rfl ⟨rfl,trivial⟩ ?_
  simp only [Bz8o,Az8p,go_sem,yz0,xx9,xx8,xx6,xx7,xx5,xx0,xx1,xx2,reduceIte,xx3,xx4,reduceCtorEq]
  by_cases h:lo≤n <;> simp [h,dn_val]
theorem k_within (n lo hi:Int):Fun Tryd.prog nzi [iv n,iv lo,iv hi] (bv (decide (lo≤n) && decide (n≤hi))):=by
  refine fun_of mixed czc9 rfl ⟨rfl,trivial⟩ ?_
  simp only [Bz8q,Az8r,go_sem,yz0,xx9,xx8,xx6,xx7,xx5,xx0,xx1,xx2,reduceIte,xx3,xx4,reduceCtorEq]
  by_cases h:lo≤n <;> simp [h,dn_val]
theorem k_l00Min (a b:Int):Fun Tryd.prog nz2m [iv a,iv b] (iv (min a b)):=by
  refine fun_of mixed czcq rfl ⟨rfl,trivial⟩ ?_
  simp only [Bzbf,Bzbg,Bzbh,Azbi,go_sem,yz0,xx9,xx8,xx6,xx7,xx5,xx0,xx1,xx2,reduceIte,xx3,xx4,reduceCtorEq]
  by_cases h:a<b
  · have:min a b=a:=by omega
    simp [h,this]
  · have:min a b=b:=by omega
    simp [h,this]
theorem k_size (xs:List Int):Fun Tryd.prog nz2c [.ro none 1 (ints xs)] (iv xs.length):=by
  refine fun_of mixed czcb rfl ⟨rfl,trivial⟩ ?_
  simp only [Bz8u,Az8v,go_sem,yz0,xx9,xx8,xx6,xx7,xx5,xx0,xx1,xx2,reduceIte,xx3,xx4,reduceCtorEq]
theorem k_size1 (xss:List (List Int)):Fun Tryd.prog nz26 [.ro none 1 (rwn xss)] (iv xss.length):=by
  refine fun_of mixed czbv rfl ⟨rfl,trivial⟩ ?_
  simp only [Bz76,Az77,go_sem,yz0,xx9,xx8,xx6,xx7,xx5,xx0,xx1,xx2,reduceIte,xx3,xx4,reduceCtorEq]
theorem k_l00Same (xs ys:List Int):Fun Tryd.prog nz28 [.ro none 1 (ints xs),.ro none 1 (ints ys)] (bv (decide (xs=ys))):=by
  refine fun_of mixed czc6 rfl ⟨rfl,trivial⟩ ?_
  simp only [Bz8b,Bz8c,Bz8d,Bz8e,Bz8f,Bz8g,Bz8h,Bz8i,Bz8j,Bz8k,Az8l,go_sem,yz0,xx9,xx8,xx6,xx7,xx5,xx0,xx1,xx2,reduceIte,xx3,xx4,reduceCtorEq]
  intro hx hy
  refine ⟨fun hne=>?_,fun he=>?_⟩
  · have:xs≠ys:=by rintro rfl;simp at hne
    simp [this]
  · have hlen:xs.length=ys.length:=by simp at he;omega
    refine wpD_lo (fun i=>xs.length - i) (fun i=>i≤xs.length∧xs.take i=ys.take i)
      (fun i:Nat=>⟨L .any [(0,.ro none 1 (ints xs)),(1,.ro none 1 (ints ys)),(5,.val (.int .i64 i))],L .gone []⟩) 0 (by simp) (by simp only [go_sem,yz0,xx9,xx8,xx6,xx7,xx5,xx0,xx1,xx2,reduceIte,xx3,xx4,reduceCtorEq];rfl) ?_
    rintro i ⟨hi,hti⟩
    simp only [go_sem,yz0,xx9,xx8,xx6,xx7,xx5,xx0,xx1,xx2,reduceIte,xx3,xx4,reduceCtorEq]
    intro _
    have hM:=maxLen_le
    refine ⟨fun hlt=>?_,fun hge=>?_⟩
    · have hlt:i<xs.length:=by simpa using hlt
      have hlt':i<ys.length:=by omega
      simp only [i2n,ints_getD hlt,ints_getD hlt',go_sem,yz0,xx9,xx8,xx6,xx7,xx5,xx0,xx1,xx2,reduceIte,xx3,xx4,reduceCtorEq]
      refine ⟨⟨by omega,hlt⟩,hlt,⟨by omega,hlt'⟩,hlt',fun hne=>?_,fun heq=>⟨i+1,by omega,⟨by omega,?_⟩,?_⟩⟩
      · have:xs≠ys:=by rintro rfl;simp at hne
        simp [this]
      · have he':xs[i]=ys[i]:=by simpa [List.getD_eq_getElem?_getD,hlt,hlt'] using heq
        rw [List.take_add_one,List.take_add_one,hti]
        simp [hlt,hlt',he']
      · rw [w64 (by omega)];rfl
    · have:i=xs.length:=by simp at hge;omega
      subst this
      have:xs=ys:=by rw [List.take_length,hlen,List.take_length] at hti;exact hti
      simp [this]
abbrev srcC (code:List Int) (at_ seed:Int):List AVal:=[.ro (some (some 0)) 1 (intsK .u8 code),iv at_,.val (.int .u64 seed)]
theorem u64_and255 (x:Int):0≤IntKind.u64.wrap ((BitVec.ofInt 64 x &&& BitVec.ofInt 64 255).toNat)∧IntKind.u64.wrap ((BitVec.ofInt 64 x &&& BitVec.ofInt 64 255).toNat)≤255:=by
  have h:(BitVec.ofInt 64 x &&& BitVec.ofInt 64 255).toNat≤255:=by
    rw [BitVec.toNat_and]
    exact Nat.le_trans Nat.and_le_right (by decide)
  rw [IntWalk.u64_in _ (by omega)]
  omega
theorem k_next (code:List Int) (at_ seed:Int) (hb:∀ x∈code,0≤x∧x≤255) (ha:0≤at_∧at_≤4611686018427387904) :
    FunB Tryd.prog nz12 (srcC code at_ seed) [] (fun cs v=>∃ seed' b,cs=srcC code (at_+1) seed'∧v=.int .i64 b∧0≤b∧b≤255):=by
  refine funB_of mixed czcf rfl ?_
  have hw:IntKind.i64.wrap (at_+1)=at_+1:=w64 (by omega)
  by_cases h:at_<code.length
  · have h1:at_.toNat<code.length:=by omega
    have hm:code.getD at_.toNat 0∈code:=by
      rw [List.getD_eq_getElem?_getD,List.getElem?_eq_getElem h1];exact List.getElem_mem h1
    have hb1:=hb _ hm
    have h2:at_+1≤code.length:=by omega
    simp only [Bz3u,Bz3v,Bz3w,Bz3x,Bz3y,Bz3z,Bz40,Bz41,Az42,intsK_getD h1,hw,decide_eq_true h,decide_eq_true h2,go_sem,yz0,xx9,xx8,xx6,xx7,xx5,xx0,xx1,xx2,reduceIte,xx3,xx4,reduceCtorEq]
    refine ⟨⟨ha.1,h1⟩,h1,_,_,rfl,rfl,?_,_,_,rfl,rfl,?_⟩
    · simp [flatL,AVal.flat,flat_vals]
    · rw [w64 (by omega)];exact hb1
  · have h2:¬ at_+1≤code.length:=by omega
    simp only [Bz3u,Bz3v,Bz3w,Bz3x,Bz3y,Bz3z,Bz40,Bz41,Az42,hw,decide_eq_false h,decide_eq_false h2,go_sem,yz0,xx9,xx8,xx6,xx7,xx5,xx0,xx1,xx2,reduceIte,xx3,xx4,reduceCtorEq]
    refine ⟨_,_,rfl,rfl,?_,_,_,rfl,rfl,?_⟩
    · simp [flatL,AVal.flat,flat_vals]
    · have:=u64_and255 ((IntKind.u64.wrap (IntKind.u64.wrap (IntKind.u64.wrap (seed * 6364136223846793005)+IntKind.u64.wrap 0)+1442695040888963407)).fdiv (2 ^ min 40 IntKind.u64.bits))
      rw [w64 (by show _≤_∧_≤_;exact ⟨by have:=this.1;exact Int.le_trans (by decide) this,by have:=this.2;exact Int.le_trans this (by decide)⟩)]
      exact this
theorem k_pick (code:List Int) (at_ seed n:Int) (hb:∀ x∈code,0≤x∧x≤255) (ha:0≤at_∧at_≤1000000000000) :
    FunB Tryd.prog nz0 (srcC code at_ seed) [iv n] (fun cs v=>∃ at' seed' b,cs=srcC code at' seed'∧at_≤at'∧at'≤at_+2∧v=.int .i64 b∧0≤b∧(b<n∨b=0)):=by
  refine funB_of mixed czc1 rfl ?_
  by_cases h:n≤1
  · simp only [Bz3i,Bz3j,Bz3k,Bz3l,Bz3m,Bz3n,Az3o,decide_eq_true h,go_sem,yz0,xx9,xx8,xx6,xx7,xx5,xx0,xx1,xx2,reduceIte,xx3,xx4,reduceCtorEq]
    exact ⟨_,_,rfl,rfl,by simp [flatL,AVal.flat,flat_vals],_,_,_,rfl,by omega,by omega,rfl,by omega,.inr rfl⟩
  · simp only [Bz3i,Bz3j,Bz3k,Bz3l,Bz3m,Bz3n,Az3o,decide_eq_false h,go_sem,yz0,xx9,xx8,xx6,xx7,xx5,xx0,xx1,xx2,reduceIte,xx3,xx4,reduceCtorEq]
    intro vs
    refine call_funB (k_next code at_ seed hb (by omega)) rfl qCS qCS ?_
    rintro cs' x ⟨s',b,rfl,rfl,hb1⟩
    have ht:∀ y:Int,0≤y→y≤100000→0≤y.tmod n∧(y.tmod n<n∨y.tmod n=0):=fun y h1 h2=>⟨Int.tmod_nonneg _ h1,.inl (Int.tmod_lt_of_pos _ (by omega))⟩
    have hn:¬ n=0:=by omega
    by_cases h2:n > 200
    · simp only [decide_eq_true h2,go_sem,yz0,xx9,xx8,xx6,xx7,xx5,xx0,xx1,xx2,reduceIte,xx3,xx4,reduceCtorEq]
      intro vs2
      refine call_funB (k_next code (at_+1) s' hb (by omega)) rfl qCS qCS ?_
      rintro cs' x ⟨s'',c,rfl,rfl,hc1⟩
      simp only [hn,w64 (show -9223372036854775808≤b * 256∧b * 256≤9223372036854775807 by omega),w64 (show -9223372036854775808≤b * 256+c∧b * 256+c≤9223372036854775807 by omega),go_sem,yz0,xx9,xx8,xx6,xx7,xx5,xx0,xx1,xx2,reduceIte,xx3,xx4,reduceCtorEq]
      exact ⟨_,_,rfl,rfl,by simp [flatL,AVal.flat,flat_vals],_,_,_,rfl,by omega,by omega,rfl,ht _ (by omega) (by omega)⟩
    · simp only [decide_eq_false h2,hn,go_sem,yz0,xx9,xx8,xx6,xx7,xx5,xx0,xx1,xx2,reduceIte,xx3,xx4,reduceCtorEq]
      exact ⟨_,_,rfl,rfl,by simp [flatL,AVal.flat,flat_vals],_,_,_,rfl,by omega,by omega,rfl,ht _ (by omega) (by omega)⟩
theorem k_one (code:List Int) (at_ seed n:Int) (hb:∀ x∈code,0≤x∧x≤255) (ha:0≤at_∧at_≤1000000000000) :
    FunB Tryd.prog nz4 (srcC code at_ seed) [iv n] (fun cs v=>∃ at' seed' b,cs=srcC code at' seed'∧at_≤at'∧at'≤at_+2∧v=.bool b):=by
  refine funB_of mixed czcd rfl ?_
  simp only [Bz91,Az92,go_sem,yz0,xx9,xx8,xx6,xx7,xx5,xx0,xx1,xx2,reduceIte,xx3,xx4,reduceCtorEq]
  intro vs
  refine call_funB (k_pick code at_ seed n hb ha) rfl qCS qCS ?_
  rintro cs' x ⟨a',s',b,rfl,h1,h2,rfl,_⟩
  simp only [go_sem,yz0,xx9,xx8,xx6,xx7,xx5,xx0,xx1,xx2,reduceIte,xx3,xx4,reduceCtorEq]
  exact ⟨_,_,rfl,rfl,by simp [flatL,AVal.flat,flat_vals],_,_,_,rfl,h1,h2,rfl⟩
theorem k_from (code:List Int):Con Tryd.prog nzy [] [.ro (some (some 0)) 1 (intsK .u8 code)] true fun outs rows res=>outs=[]∧∃ v,rows=[.box v (srcC code 0 0)]∧res=.ptr 6000 v 0:=by
  refine con_sh mixed czbx rfl (by simp) ?_
  simp only [Bz7a,Az7b,go_sem,yz0,xx9,xx8,xx6,xx7,xx5,xx0,xx1,xx2,reduceIte,xx3,xx4,reduceCtorEq]
  intro vs
  refine ⟨[5],by simp,by simp,by simp,?_⟩
  simp only [go_sem,yz0,xx9,xx8,xx6,xx7,xx5,xx0,xx1,xx2,reduceIte,xx3,xx4,reduceCtorEq,Nat.not_lt_zero,range1,ren_val,ren_any,ren_ro,rnNm_n,rnNm_sn,rnNm_o,rnNm_s,ren_st,ren_tup,yzr,yzh,yz5,yzt,yzv,yzo,yzn,yzx,yzb,yza,yzc,yzd,yzj,yzk,yz4,yz8,yz9,yzf,yzl,yzm,List.range_zero,yz7,yz6,yze,yzu,yzg,yzs,AVal.fresh,freshL,yz3,yzi,AObj.fresh,id,Option.isSome_some,or_true,true_or]
  exact ⟨_,rfl,rfl⟩
end Go.Ab
namespace Go.Ab
open Go.Proofs
def IsW8 (l:Nat) (w:List Int):Prop:=w.length≤8∧∀ x∈w,0≤x∧x<l
theorem k_A2Word (code:List Int) (n:Int) (next:List (List Int)) (hb:∀ x∈code,0≤x∧x≤255) (hl:1≤next.length) :
    RowI Tryd.prog nz21 [.ro (some (some 0)) 1 (intsK .u8 code),.st [iv n,.ro none 1 (rwn next)]] (IsW8 next.length):=by
  refine rowI_of mixed czbm rfl ?_
  simp only [Bz5d,Bz5e,Bz5f,Bz5g,Bz5h,Bz5i,Bz5j,Bz5k,Bz5l,Az5m,go_sem,yz0,xx9,xx8,xx6,xx7,xx5,xx0,xx1,xx2,reduceIte,xx3,xx4,reduceCtorEq]
  intro vs vs2
  refine call_sh (k_from code) qCS (fun _=>⟨_,_,_,rfl,0,rfl,rfl⟩) ?_
  rintro outs rows res ⟨rfl,v,rfl,rfl⟩
  refine ⟨rfl,by simp,by rw [Option.getD_some,yzg];simp only [go_sem,yz0,xx9,xx8,xx6,xx7,xx5,xx0,xx1,xx2,reduceIte,xx3,xx4,reduceCtorEq],?_⟩
  simp only [Nat.not_lt_zero,range1,ren_val,ren_any,ren_ro,rnNm_n,rnNm_sn,rnNm_o,rnNm_s,ren_st,ren_tup,yzr,yzh,yz5,yzt,yzv,yzo,yzn,yzx,yzb,yza,yzc,yzd,yzj,yzk,yz4,yz8,yz9,yzf,yzl,yzm,List.range_zero,yz7,yz6,yze,yzu,yzg,yzs,AVal.fresh,freshL,yz3,yzi,AObj.fresh,id,Option.isSome_some,or_true,true_or,go_sem,yz0,xx9,xx8,xx6,xx7,xx5,xx0,xx1,xx2,reduceIte,xx3,xx4,reduceCtorEq]
  intro vs3 vs4
  refine call_funB (k_pick code 0 0 9 hb (by omega)) rfl qCS qCS ?_
  rintro cs' x ⟨a',s',b,rfl,h1,h2,rfl,h3,h4⟩
  simp only [Nat.not_lt_zero,range1,ren_val,ren_any,ren_ro,rnNm_n,rnNm_sn,rnNm_o,rnNm_s,ren_st,ren_tup,yzr,yzh,yz5,yzt,yzv,yzo,yzn,yzx,yzb,yza,yzc,yzd,yzj,yzk,yz4,yz8,yz9,yzf,yzl,yzm,List.range_zero,yz7,yz6,yze,yzu,yzg,yzs,AVal.fresh,freshL,yz3,yzi,AObj.fresh,id,Option.isSome_some,or_true,true_or,go_sem,yz0,xx9,xx8,xx6,xx7,xx5,xx0,xx1,xx2,reduceIte,xx3,xx4,reduceCtorEq]
  refine wpD_lo (fun (_,_,_,_,_,_,k)=>Int.toNat k) (fun (w,_,_,_,a,_,k)=>IsW8 next.length w∧(w.length:Int)+k≤8∧0≤a∧a+2 * k≤100∧0≤k)
    (fun ((w,v10,v9,v3,a,s,k):List Int×Nat×Nat×Nat×Int×Int×Int)=>⟨L .any [(3,.ptr 3 v3 0),(5,.ptr 9 v9 0),(6,.own 10 v10),(7,iv k)],L .gone [(3,.box v3 [iv n,.ro none 1 (rwn next)]),(9,.box v9 (srcC code a s)),(10,.row v10 1 true (ints w))]⟩)
    ([],_,_,_,a',s',b) ?_ (by simp only [go_sem,yz0,xx9,xx8,xx6,xx7,xx5,xx0,xx1,xx2,reduceIte,xx3,xx4,reduceCtorEq];rfl) ?_
  · simp only [IsW8,List.length_nil,List.not_mem_nil]
    simp
    omega
  · rintro ⟨w,v10,v9,v3,a,s,k⟩ ⟨hw,hk1,ha,ha2,hk⟩
    by_cases hk0:k > 0
    · simp only [decide_eq_true hk0,go_sem,yz0,xx9,xx8,xx6,xx7,xx5,xx0,xx1,xx2,reduceIte,xx3,xx4,reduceCtorEq]
      intro vs5 hM
      refine call_funB (k_pick code a s next.length hb (by omega)) rfl qCS qCS ?_
      rintro cs' x ⟨a'',s'',b',rfl,g1,g2,rfl,g3,g4⟩
      have hwk:IntKind.i64.wrap (k - 1)=k - 1:=w64 (by omega)
      simp only [hwk,Nat.not_lt_zero,range1,ren_val,ren_any,ren_ro,rnNm_n,rnNm_sn,rnNm_o,rnNm_s,ren_st,ren_tup,yzr,yzh,yz5,yzt,yzv,yzo,yzn,yzx,yzb,yza,yzc,yzd,yzj,yzk,yz4,yz8,yz9,yzf,yzl,yzm,List.range_zero,yz7,yz6,yze,yzu,yzg,yzs,AVal.fresh,freshL,yz3,yzi,AObj.fresh,id,Option.isSome_some,or_true,true_or,go_sem,yz0,xx9,xx8,xx6,xx7,xx5,xx0,xx1,xx2,reduceIte,xx3,xx4,reduceCtorEq]
      refine ⟨⟨_,rfl,rfl⟩,?_,(_,_,_,_,_,_,_),?_,?_,rfl⟩
      · omega
      · show (k - 1).toNat<k.toNat
        omega
      · refine ⟨⟨?_,?_⟩,?_,?_,?_,?_⟩
        · simp;omega
        · intro x hx
          simp only [List.mem_append,List.mem_singleton] at hx
          rcases hx with hx | rfl
          · exact hw.2 x hx
          · omega
        · simp;omega
        · show 0≤a'';omega
        · show a''+2 * (k - 1)≤100;omega
        · show 0≤k - 1;omega
    · simp only [decide_eq_false hk0,go_sem,yz0,xx9,xx8,xx6,xx7,xx5,xx0,xx1,xx2,reduceIte,xx3,xx4,reduceCtorEq]
      exact ⟨10,v10,w,by omega,rfl,by simp only [go_sem,yz0,xx9,xx8,xx6,xx7,xx5,xx0,xx1,xx2,reduceIte,xx3,xx4,reduceCtorEq],hw⟩
theorem tmod_in {a n:Int} (h:0≤a) (hn:1≤n):0≤a.tmod n∧a.tmod n<n:=⟨Int.tmod_nonneg _ h,Int.tmod_lt_of_pos _ (by omega)⟩
section
variable {P:Program} {a b:AC} {Q:AEx→St→Prop} {σ:St}
theorem wpD_cutn {α:Type} {ts hs:List Nat} (inv:α→Prop) (S:α→St)
    (h1:wpD P a (seqQ (fun _ σ'=>∃ x,inv x∧σ'.keep ts hs=S x) Q) σ) (h2:∀ x,inv x→wpD P b Q (S x)):wpD P (.seq a (.kp ts hs b)) Q σ:=by
  rw [wpD_seq]
  refine wpD_mono _ _ _ _ (fun e σ' he=>?_) h1
  cases e with
  | normal =>
    obtain ⟨x,hx,hS⟩:=he
    show wpD P (.kp ts hs b) Q σ'
    rw [yz2,hS]
    exact h2 x hx
  | exit i=>exact he
  | ret=>exact he
end
theorem call_funBN {P:Program} {nos:List Nat} {σ:St} {g:FuncId} {As args:List AVal} {d:Option Nat} {s:Nat→Nat} {K:St→Prop} {cs cs0:List AVal} {Q:List AVal→Value→Prop} {r v:Nat} (h:FunB P g cs args Q) (hr:σ.hp r=.box v cs0) (hm:r∈nos)
    (hcs:CoeL σ.hp [r] false cs cs0) (hco:CoeL σ.hp [r] false args As) (hex:∃ cs' x,Q cs' x∧flatL cs') (hk:∀ cs' x,Q cs' x→K (St.put ⟨σ.tm,upd σ.hp r (.box v cs')⟩ d (.val x))):wpCallN P nos σ g (.ptr r v 0 :: As) d s K:=by
  refine ⟨[r],[.box 0 cs],.ptr 5000 0 0 :: args,true,_,h,⟨by simp,rfl,by simp,?_,?_⟩,?_,⟨by simpa using hm,?_⟩,?_⟩
  · intro r' hr'
    simp only [List.mem_singleton] at hr'
    subst hr';rw [hr];simp
  · intro j B r' hB hr'
    cases j with
    | zero =>
      simp at hB hr'
      subst hB hr'
      rw [hr]
      exact ⟨rfl,v,cs0,rfl,hcs⟩
    | succ j=>simp at hB
  · rw [yzp,coe_ptr0,hr]
    exact ⟨rfl,hco⟩
  · obtain ⟨cs',x,hq,hf⟩:=hex
    exact ⟨[.box 0 cs'],[],.val x,cs',x,hq,hf,rfl,rfl,rfl⟩
  · rintro outs rows res ⟨cs',x,hq,hf,rfl,rfl,rfl⟩
    refine ⟨rfl,rfl,?_⟩
    rw [callHp_m,ren_val,yzo,renL_flat cs' hf]
    have:sv σ.hp [r] s 0=v:=by simp [sv,hr,AObj.ver]
    rw [this]
    exact hk cs' x hq
theorem flat_srcC {code:List Int} {a s:Int}:flatL (srcC code a s):=by simp [flatL,AVal.flat,flat_vals]
end Go.Ab
namespace Go.Ab
open Go.Proofs
theorem drop_getD {α:Type} {xs:List α} {i:Nat} (h:i<xs.length) (d:α):xs.drop i=xs.getD i d :: xs.drop (i+1):=by
  rw [List.drop_eq_getElem_cons h,List.getD_eq_getElem?_getD,List.getElem?_eq_getElem h];rfl
theorem getD_mem {α:Type} {xs:List α} {i:Nat} (h:i<xs.length) (d:α):xs.getD i d∈xs:=by
  rw [List.getD_eq_getElem?_getD,List.getElem?_eq_getElem h];exact List.getElem_mem h
def fidx {α:Type} (p:α→Bool):List α→Nat→Int
  | [],_=>-1
  | x :: xs,i=>if p x then i else fidx p xs (i+1)
theorem fidx_ge {α:Type} (p:α→Bool):∀ (xs:List α) (i:Nat),decide (0≤fidx p xs i)=xs.any p
  | [],i=>by simp [fidx]
  | x :: xs,i=>by
    have h:=fidx_ge p xs (i+1)
    simp only [fidx,List.any_cons]
    by_cases hp:p x=true
    · simp [hp]
    · have h2:p x=false:=by simpa using hp
      simp only [h2,Bool.false_or,← h]
      simp
structure Caps (caps:List AVal):Prop where
  dn:dnL caps=caps
  coe:∀ hp m len,CoeL hp m len caps caps
theorem k_IndexFunc (xs:List (List Int)) (g:FuncId) (caps:List AVal) (p:List Int→Bool) (hc:Caps caps) (h:∀ x∈xs,Fun Tryd.prog g (.ro none 1 (ints x) :: caps) (bv (p x))) :
    Fun Tryd.prog nz2h [.ro none 1 (rwn xs),.clo g caps] (iv (fidx p xs 0)):=by
  refine fun_of mixed czcj rfl ⟨rfl,trivial⟩ ?_
  simp only [Az9l,Bz9k,hc.dn,go_sem,yz0,xx9,xx8,xx6,xx7,xx5,xx0,xx1,xx2,reduceIte,xx3,xx4,reduceCtorEq]
  intro hM
  have hM2:=maxLen_le
  simp only [Bz9i,hc.dn,go_sem,yz0,xx9,xx8,xx6,xx7,xx5,xx0,xx1,xx2,reduceIte,xx3,xx4,reduceCtorEq]
  refine wpD_lo (fun i=>xs.length - i) (fun i=>i≤xs.length∧fidx p (xs.drop i) i=fidx p xs 0)
    (fun i:Nat=>⟨L .any [(0,.ro none 1 (rwn xs)),(1,.clo g caps),(7,iv xs.length),(8,iv i)],L .gone []⟩) 0 (by simp) (by simp only [Bz1o,hc.dn,go_sem,yz0,xx9,xx8,xx6,xx7,xx5,xx0,xx1,xx2,reduceIte,xx3,xx4,reduceCtorEq];try rfl) ?_
  rintro i ⟨hi,he⟩
  by_cases hlt:(i:Int)<xs.length
  · have hlt':i<xs.length:=by omega
    have w1:IntKind.i64.wrap ((i:Int)+1)=((i+1:Nat):Int):=by rw [w64 (by omega)];simp
    have w2:IntKind.i64.wrap (i:Int)=i:=w64 (by omega)
    rw [drop_getD hlt' []] at he
    simp only [fidx] at he
    simp only [Bz1o,Bz44,Bz43,Bz9g,rwn_getD hlt',decide_eq_true hlt,hc.dn,go_sem,yz0,xx9,xx8,xx6,xx7,xx5,xx0,xx1,xx2,reduceIte,xx3,xx4,reduceCtorEq]
    intro vs
    refine ⟨⟨by omega,hlt'⟩,hlt',?_⟩
    refine yzq (h _ (getD_mem hlt' [])) (by simp only [rowIs,boxIs,coe_argN,coe_argNs,coe_ro_o,coeL_nil,yzp,coe_any,coe_val,coe_ro,coe_ro_nil,coe_ro_own,coe_st,coe_st_agg,coe_rp,coe_rp_ptr,coe_clo,coe_own0,coe_ptr0,yzw,coeL_rws,coeL_rwn,L_hit,L_miss,L_nil,xx3,ne_eq,reduceCtorEq,not_false_eq_true,true_and,and_true,and_self,exists_eq_left,exists_eq_right,List.mem_cons,List.not_mem_nil,or_false,AObj.row.injEq,AObj.box.injEq,exists_eq_left',exists_and_left,exists_eq,Nat.zero_lt_one,Nat.lt_add_one,List.map_cons,List.map_nil,AObj.ver,xx5,not_true_eq_false];exact hc.coe _ _ _) trivial ?_
    simp only [Bz9f,Bz9h,w1,hc.dn,go_sem,yz0,xx9,xx8,xx6,xx7,xx5,xx0,xx1,xx2,reduceIte,xx3,xx4,reduceCtorEq]
    refine ⟨fun hp=>?_,fun hp=>⟨i+1,by omega,⟨by omega,?_⟩,rfl⟩⟩
    · rw [hp] at he;simp at he;rw [← he]
    · rw [hp] at he;simpa using he
  · have:i=xs.length:=by omega
    subst this
    rw [List.drop_length] at he
    simp only [fidx] at he
    simp only [Bz1o,Bz44,Bz43,Bz9j,decide_eq_false hlt,hc.dn,go_sem,yz0,xx9,xx8,xx6,xx7,xx5,xx0,xx1,xx2,reduceIte,xx3,xx4,reduceCtorEq]
    rw [← he]
theorem k_ContainsFunc (xs:List (List Int)) (g:FuncId) (caps:List AVal) (p:List Int→Bool) (hc:Caps caps) (h:∀ x∈xs,Fun Tryd.prog g (.ro none 1 (ints x) :: caps) (bv (p x))) :
    Fun Tryd.prog nz2b [.ro none 1 (rwn xs),.clo g caps] (bv (xs.any p)):=by
  refine fun_of mixed czca rfl ⟨rfl,trivial⟩ ?_
  simp only [Bz8s,Az8t,hc.dn,go_sem,yz0,xx9,xx8,xx6,xx7,xx5,xx0,xx1,xx2,reduceIte,xx3,xx4,reduceCtorEq]
  intro vs
  refine yzq (k_IndexFunc xs g caps p hc h) (by simp only [rowIs,boxIs,coe_argN,coe_argNs,coe_ro_o,coeL_nil,yzp,coe_any,coe_val,coe_ro,coe_ro_nil,coe_ro_own,coe_st,coe_st_agg,coe_rp,coe_rp_ptr,coe_clo,coe_own0,coe_ptr0,yzw,coeL_rws,coeL_rwn,L_hit,L_miss,L_nil,xx3,ne_eq,reduceCtorEq,not_false_eq_true,true_and,and_true,and_self,exists_eq_left,exists_eq_right,List.mem_cons,List.not_mem_nil,or_false,AObj.row.injEq,AObj.box.injEq,exists_eq_left',exists_and_left,exists_eq,Nat.zero_lt_one,Nat.lt_add_one,List.map_cons,List.map_nil,AObj.ver,xx5,not_true_eq_false];exact hc.coe _ _ _) trivial ?_
  simp only [fidx_ge,go_sem,yz0,xx9,xx8,xx6,xx7,xx5,xx0,xx1,xx2,reduceIte,xx3,xx4,reduceCtorEq]
theorem k_IndexFunc2 (xs:List Int) (g:FuncId) (caps:List AVal) (p:Int→Bool) (hc:Caps caps) (h:∀ x∈xs,Fun Tryd.prog g (iv x :: caps) (bv (p x))) :
    Fun Tryd.prog nz2k [.ro none 1 (ints xs),.clo g caps] (iv (fidx p xs 0)):=by
  refine fun_of mixed czcn rfl ⟨rfl,trivial⟩ ?_
  simp only [Azay,Bzax,hc.dn,go_sem,yz0,xx9,xx8,xx6,xx7,xx5,xx0,xx1,xx2,reduceIte,xx3,xx4,reduceCtorEq]
  intro hM
  have hM2:=maxLen_le
  simp only [Bzav,hc.dn,go_sem,yz0,xx9,xx8,xx6,xx7,xx5,xx0,xx1,xx2,reduceIte,xx3,xx4,reduceCtorEq]
  refine wpD_lo (fun i=>xs.length - i) (fun i=>i≤xs.length∧fidx p (xs.drop i) i=fidx p xs 0)
    (fun i:Nat=>⟨L .any [(0,.ro none 1 (ints xs)),(1,.clo g caps),(7,iv xs.length),(8,iv i)],L .gone []⟩) 0 (by simp) (by simp only [Bz1w,hc.dn,go_sem,yz0,xx9,xx8,xx6,xx7,xx5,xx0,xx1,xx2,reduceIte,xx3,xx4,reduceCtorEq];try rfl) ?_
  rintro i ⟨hi,he⟩
  by_cases hlt:(i:Int)<xs.length
  · have hlt':i<xs.length:=by omega
    have w1:IntKind.i64.wrap ((i:Int)+1)=((i+1:Nat):Int):=by rw [w64 (by omega)];simp
    rw [drop_getD hlt' 0] at he
    simp only [fidx] at he
    simp only [Bz1w,Bz4p,Bz4o,Bzat,intsK_getD hlt',decide_eq_true hlt,hc.dn,go_sem,yz0,xx9,xx8,xx6,xx7,xx5,xx0,xx1,xx2,reduceIte,xx3,xx4,reduceCtorEq]
    intro vs
    refine ⟨⟨by omega,hlt'⟩,hlt',?_⟩
    refine yzq (h _ (getD_mem hlt' 0)) (by simp only [rowIs,boxIs,coe_argN,coe_argNs,coe_ro_o,coeL_nil,yzp,coe_any,coe_val,coe_ro,coe_ro_nil,coe_ro_own,coe_st,coe_st_agg,coe_rp,coe_rp_ptr,coe_clo,coe_own0,coe_ptr0,yzw,coeL_rws,coeL_rwn,L_hit,L_miss,L_nil,xx3,ne_eq,reduceCtorEq,not_false_eq_true,true_and,and_true,and_self,exists_eq_left,exists_eq_right,List.mem_cons,List.not_mem_nil,or_false,AObj.row.injEq,AObj.box.injEq,exists_eq_left',exists_and_left,exists_eq,Nat.zero_lt_one,Nat.lt_add_one,List.map_cons,List.map_nil,AObj.ver,xx5,not_true_eq_false];exact hc.coe _ _ _) trivial ?_
    simp only [Bzas,Bzau,w1,hc.dn,go_sem,yz0,xx9,xx8,xx6,xx7,xx5,xx0,xx1,xx2,reduceIte,xx3,xx4,reduceCtorEq]
    refine ⟨fun hp=>?_,fun hp=>⟨i+1,by omega,⟨by omega,?_⟩,rfl⟩⟩
    · rw [hp] at he;simp at he;rw [← he]
    · rw [hp] at he;simpa using he
  · have:i=xs.length:=by omega
    subst this
    rw [List.drop_length] at he
    simp only [fidx] at he
    simp only [Bz1w,Bz4p,Bz4o,Bzaw,decide_eq_false hlt,hc.dn,go_sem,yz0,xx9,xx8,xx6,xx7,xx5,xx0,xx1,xx2,reduceIte,xx3,xx4,reduceCtorEq]
    rw [← he]
theorem k_ContainsFunc1 (xs:List Int) (g:FuncId) (caps:List AVal) (p:Int→Bool) (hc:Caps caps) (h:∀ x∈xs,Fun Tryd.prog g (iv x :: caps) (bv (p x))) :
    Fun Tryd.prog nz2g [.ro none 1 (ints xs),.clo g caps] (bv (xs.any p)):=by
  refine fun_of mixed czch rfl ⟨rfl,trivial⟩ ?_
  simp only [Bz9b,Az9c,hc.dn,go_sem,yz0,xx9,xx8,xx6,xx7,xx5,xx0,xx1,xx2,reduceIte,xx3,xx4,reduceCtorEq]
  intro vs
  refine yzq (k_IndexFunc2 xs g caps p hc h) (by simp only [rowIs,boxIs,coe_argN,coe_argNs,coe_ro_o,coeL_nil,yzp,coe_any,coe_val,coe_ro,coe_ro_nil,coe_ro_own,coe_st,coe_st_agg,coe_rp,coe_rp_ptr,coe_clo,coe_own0,coe_ptr0,yzw,coeL_rws,coeL_rwn,L_hit,L_miss,L_nil,xx3,ne_eq,reduceCtorEq,not_false_eq_true,true_and,and_true,and_self,exists_eq_left,exists_eq_right,List.mem_cons,List.not_mem_nil,or_false,AObj.row.injEq,AObj.box.injEq,exists_eq_left',exists_and_left,exists_eq,Nat.zero_lt_one,Nat.lt_add_one,List.map_cons,List.map_nil,AObj.ver,xx5,not_true_eq_false];exact hc.coe _ _ _) trivial ?_
  simp only [fidx_ge,go_sem,yz0,xx9,xx8,xx6,xx7,xx5,xx0,xx1,xx2,reduceIte,xx3,xx4,reduceCtorEq]
def allIn (xs:List Int) (lo hi:Int):Bool:=xs.all fun x=>decide (lo≤x) && decide (x≤hi)
theorem allIn_iff {xs:List Int} {lo hi:Int}:allIn xs lo hi=true↔∀ x∈xs,lo≤x∧x≤hi:=by simp [allIn]
theorem k_areWithin_1 (n lo hi:Int):Fun Tryd.prog nz14 [iv n,.rp [iv lo] 0,.rp [iv hi] 0] (bv !(decide (lo≤n) && decide (n≤hi))):=by
  refine fun_of mixed czci rfl ⟨rfl,trivial⟩ ?_
  simp only [Bz9d,Az9e,go_sem,yz0,xx9,xx8,xx6,xx7,xx5,xx0,xx1,xx2,reduceIte,xx3,xx4,reduceCtorEq]
  intro vs
  refine yzq (k_within n lo hi) qCS trivial ?_
  simp only [go_sem,yz0,xx9,xx8,xx6,xx7,xx5,xx0,xx1,xx2,reduceIte,xx3,xx4,reduceCtorEq]
theorem k_areWithin (xs:List Int) (lo hi:Int):Fun Tryd.prog nzg [.ro none 1 (ints xs),iv lo,iv hi] (bv (allIn xs lo hi)):=by
  refine fun_of mixed czc5 rfl ⟨rfl,trivial⟩ ?_
  simp only [Bz89,Az8a,go_sem,yz0,xx9,xx8,xx6,xx7,xx5,xx0,xx1,xx2,reduceIte,xx3,xx4,reduceCtorEq]
  intro vs vs2
  refine yzq (k_ContainsFunc1 xs nz14 [.rp [iv lo] 0,.rp [iv hi] 0] _ ⟨by simp only [go_sem,yz0,xx9,xx8,xx6,xx7,xx5,xx0,xx1,xx2,reduceIte,xx3,xx4,reduceCtorEq],by intros;simp only [rowIs,boxIs,coe_argN,coe_argNs,coe_ro_o,coeL_nil,yzp,coe_any,coe_val,coe_ro,coe_ro_nil,coe_ro_own,coe_st,coe_st_agg,coe_rp,coe_rp_ptr,coe_clo,coe_own0,coe_ptr0,yzw,coeL_rws,coeL_rwn,L_hit,L_miss,L_nil,xx3,ne_eq,reduceCtorEq,not_false_eq_true,true_and,and_true,and_self,exists_eq_left,exists_eq_right,List.mem_cons,List.not_mem_nil,or_false,AObj.row.injEq,AObj.box.injEq,exists_eq_left',exists_and_left,exists_eq,Nat.zero_lt_one,Nat.lt_add_one,List.map_cons,List.map_nil,AObj.ver,xx5,not_true_eq_false]⟩ (fun x _=>k_areWithin_1 x lo hi)) qCS trivial ?_
  simp only [go_sem,yz0,xx9,xx8,xx6,xx7,xx5,xx0,xx1,xx2,reduceIte,xx3,xx4,reduceCtorEq]
  congr 2
  simp only [allIn,List.all_eq_not_any_not]
abbrev autA (n:Int) (next:List (List Int)):AVal:=.st [iv n,.ro none 1 (rwn next)]
abbrev autP (n:Int) (next:List (List Int)):AVal:=.rp [iv n,.ro none 1 (rwn next)] 0
def autB (n:Int) (next:List (List Int)):Bool:=(decide (1≤n) && decide (n≤10)) && ((decide (1≤(next.length:Int)) && decide ((next.length:Int)≤3)) && next.all fun row=>decide ((row.length:Int)=n) && allIn row 0 (n - 1))
theorem autB_iff {n:Int} {next:List (List Int)}:autB n next=true↔Aut n next:=by
  simp only [autB,Bool.and_eq_true,decide_eq_true_eq,List.all_eq_true,allIn_iff]
  constructor
  · rintro ⟨⟨h1,h2⟩,⟨h3,h4⟩,h5⟩
    exact ⟨h1,h2,by omega,by omega,fun row hr=>⟨(h5 row hr).1,fun x hx=>by have:=(h5 row hr).2 x hx;omega⟩⟩
  · rintro ⟨h1,h2,h3,h4,h5⟩
    exact ⟨⟨h1,h2⟩,⟨by omega,by omega⟩,fun row hr=>⟨(h5 row hr).1,fun x hx=>by have:=(h5 row hr).2 x hx;omega⟩⟩
theorem k_letters (n:Int) (next:List (List Int)):Fun Tryd.prog nze [autA n next] (iv next.length):=by
  refine fun_of mixed czc3 rfl ⟨rfl,trivial⟩ ?_
  simp only [Bz7y,Az7z,go_sem,yz0,xx9,xx8,xx6,xx7,xx5,xx0,xx1,xx2,reduceIte,xx3,xx4,reduceCtorEq]
  intro vs vs2
  refine yzq (k_size1 next) qCS trivial ?_
  simp only [go_sem,yz0,xx9,xx8,xx6,xx7,xx5,xx0,xx1,xx2,reduceIte,xx3,xx4,reduceCtorEq]
theorem k_Valid_1 (row:List Int) (n:Int) (next:List (List Int)) (hn:1≤n∧n≤10):Fun Tryd.prog nz13 [.ro none 1 (ints row),autP n next] (bv !(decide ((row.length:Int)=n) && allIn row 0 (n - 1))):=by
  refine fun_of mixed czcg rfl ⟨rfl,trivial⟩ ?_
  have w:IntKind.i64.wrap (n - 1)=n - 1:=w64 (by omega)
  simp only [Bz99,Az9a,w,go_sem,yz0,xx9,xx8,xx6,xx7,xx5,xx0,xx1,xx2,reduceIte,xx3,xx4,reduceCtorEq]
  intro vs
  refine yzq (k_size row) qCS trivial ?_
  by_cases h:(row.length:Int)=n
  · have h2:((row.length:Int) != n)=false:=by simp [h]
    simp only [h2,w,go_sem,yz0,xx9,xx8,xx6,xx7,xx5,xx0,xx1,xx2,reduceIte,xx3,xx4,reduceCtorEq]
    refine yzq (k_areWithin row 0 (n - 1)) qCS trivial ?_
    simp only [go_sem,yz0,xx9,xx8,xx6,xx7,xx5,xx0,xx1,xx2,reduceIte,xx3,xx4,reduceCtorEq]
    simp [h]
  · have h2:((row.length:Int) != n)=true:=by simp [h]
    simp only [h2,go_sem,yz0,xx9,xx8,xx6,xx7,xx5,xx0,xx1,xx2,reduceIte,xx3,xx4,reduceCtorEq]
    simp [h]
theorem k_Valid (n:Int) (next:List (List Int)):Fun Tryd.prog nzd [autA n next] (bv (autB n next)):=by
  refine fun_of mixed czc2 rfl ⟨rfl,trivial⟩ ?_
  simp only [Bz7w,Az7x,go_sem,yz0,xx9,xx8,xx6,xx7,xx5,xx0,xx1,xx2,reduceIte,xx3,xx4,reduceCtorEq]
  intro vs vs2
  refine yzq (k_within n 1 10) qCS trivial ?_
  by_cases hn:1≤n∧n≤10
  · have h1:(decide (1≤n) && decide (n≤10))=true:=by simp [hn]
    simp only [h1,go_sem,yz0,xx9,xx8,xx6,xx7,xx5,xx0,xx1,xx2,reduceIte,xx3,xx4,reduceCtorEq]
    refine yzq (k_letters n next) qCS trivial ?_
    simp only [go_sem,yz0,xx9,xx8,xx6,xx7,xx5,xx0,xx1,xx2,reduceIte,xx3,xx4,reduceCtorEq]
    refine yzq (k_within next.length 1 3) qCS trivial ?_
    by_cases hl:1≤(next.length:Int)∧(next.length:Int)≤3
    · have h2:(decide (1≤(next.length:Int)) && decide ((next.length:Int)≤3))=true:=by simp only [decide_eq_true hl.1,decide_eq_true hl.2,Bool.and_self]
      simp only [h2,go_sem,yz0,xx9,xx8,xx6,xx7,xx5,xx0,xx1,xx2,reduceIte,xx3,xx4,reduceCtorEq]
      refine yzq (k_ContainsFunc next nz13 [autP n next] _ ⟨by simp only [go_sem,yz0,xx9,xx8,xx6,xx7,xx5,xx0,xx1,xx2,reduceIte,xx3,xx4,reduceCtorEq],by intros;simp only [rowIs,boxIs,coe_argN,coe_argNs,coe_ro_o,coeL_nil,yzp,coe_any,coe_val,coe_ro,coe_ro_nil,coe_ro_own,coe_st,coe_st_agg,coe_rp,coe_rp_ptr,coe_clo,coe_own0,coe_ptr0,yzw,coeL_rws,coeL_rwn,L_hit,L_miss,L_nil,xx3,ne_eq,reduceCtorEq,not_false_eq_true,true_and,and_true,and_self,exists_eq_left,exists_eq_right,List.mem_cons,List.not_mem_nil,or_false,AObj.row.injEq,AObj.box.injEq,exists_eq_left',exists_and_left,exists_eq,Nat.zero_lt_one,Nat.lt_add_one,List.map_cons,List.map_nil,AObj.ver,xx5,not_true_eq_false]⟩ (fun x _=>k_Valid_1 x n next hn)) qCS trivial ?_
      simp only [go_sem,yz0,xx9,xx8,xx6,xx7,xx5,xx0,xx1,xx2,reduceIte,xx3,xx4,reduceCtorEq]
      simp only [autB,h1,h2,Bool.true_and]
      congr 2
      simp only [List.all_eq_not_any_not]
    · have h2:(decide (1≤(next.length:Int)) && decide ((next.length:Int)≤3))=false:=by
        rw [Bool.and_eq_false_iff]
        by_cases h3:1≤(next.length:Int)
        · right;simp;omega
        · left;simp;omega
      simp only [h2,go_sem,yz0,xx9,xx8,xx6,xx7,xx5,xx0,xx1,xx2,reduceIte,xx3,xx4,reduceCtorEq]
      simp only [autB,h1,h2,Bool.true_and,Bool.false_and]
  · have h1:(decide (1≤n) && decide (n≤10))=false:=by
      rw [Bool.and_eq_false_iff]
      by_cases h3:1≤n
      · right;simp;omega
      · left;simp;omega
    simp only [h1,go_sem,yz0,xx9,xx8,xx6,xx7,xx5,xx0,xx1,xx2,reduceIte,xx3,xx4,reduceCtorEq]
    simp only [autB,h1,Bool.false_and]
def wordB (l:Nat) (w:List Int):Bool:=decide ((w.length:Int)≤400) && allIn w 0 ((l:Int) - 1)
theorem k_isWord (n:Int) (next:List (List Int)) (w:List Int) (hl:1≤next.length∧next.length≤3):Fun Tryd.prog nz29 [autA n next,.ro none 1 (ints w)] (bv (wordB next.length w)):=by
  refine fun_of mixed czc7 rfl ⟨rfl,trivial⟩ ?_
  have w1:IntKind.i64.wrap ((next.length:Int) - 1)=(next.length:Int) - 1:=w64 (by omega)
  simp only [Bz8m,Az8n,go_sem,yz0,xx9,xx8,xx6,xx7,xx5,xx0,xx1,xx2,reduceIte,xx3,xx4,reduceCtorEq]
  intro vs vs2 hM
  by_cases h:(w.length:Int)≤400
  · simp only [decide_eq_true h,go_sem,yz0,xx9,xx8,xx6,xx7,xx5,xx0,xx1,xx2,reduceIte,xx3,xx4,reduceCtorEq]
    refine yzq (k_letters n next) qCS trivial ?_
    simp only [w1,go_sem,yz0,xx9,xx8,xx6,xx7,xx5,xx0,xx1,xx2,reduceIte,xx3,xx4,reduceCtorEq]
    refine yzq (k_areWithin w 0 ((next.length:Int) - 1)) qCS trivial ?_
    simp only [go_sem,yz0,xx9,xx8,xx6,xx7,xx5,xx0,xx1,xx2,reduceIte,xx3,xx4,reduceCtorEq]
    simp only [wordB,decide_eq_true h,Bool.true_and]
  · simp only [decide_eq_false h,go_sem,yz0,xx9,xx8,xx6,xx7,xx5,xx0,xx1,xx2,reduceIte,xx3,xx4,reduceCtorEq]
    simp only [wordB,decide_eq_false h,Bool.false_and]
def stepA (next:List (List Int)) (s l:Int):Int:=(next.getD l.toNat []).getD s.toNat 0
def atA (next:List (List Int)) (s:Int) (w:List Int):Int:=w.foldl (stepA next) s
def IsW (l:Nat) (w:List Int):Prop:=∀ x∈w,0≤x∧x<l
theorem Aut.step {n:Int} {next:List (List Int)} (A:Aut n next) {s l:Int} (hs:0≤s∧s<n) (hl:0≤l∧l<next.length) :
    l.toNat<next.length∧s.toNat<(next.getD l.toNat []).length∧0≤stepA next s l∧stepA next s l<n:=by
  have h1:l.toNat<next.length:=by omega
  have h2:=A.row _ (getD_mem h1 [])
  have h3:s.toNat<(next.getD l.toNat []).length:=by omega
  exact ⟨h1,h3,h2.2 _ (getD_mem h3 0)⟩
theorem Aut.at {n:Int} {next:List (List Int)} (A:Aut n next):∀ {w:List Int} {s:Int},0≤s∧s<n→IsW next.length w→0≤atA next s w∧atA next s w<n
  | [],s,hs,_=>hs
  | l :: w,s,hs,hw=>A.at (w:=w) (A.step hs (hw l (by simp))).2.2 fun x hx=>hw x (by simp [hx])
end Go.Ab
namespace Go.Ab
open Go.Proofs
theorem k_l01Map (xs:List Int) (n:Int) (hn:0≤n∧n≤1000000):Fun Tryd.prog nz2f [.ro none 1 (ints xs),iv n] (bv (allIn xs 0 (n - 1) && decide ((xs.length:Int)=n))):=by
  refine fun_of mixed czce rfl ⟨rfl,trivial⟩ ?_
  have w0:IntKind.i64.wrap (n - 1)=n - 1:=w64 (by omega)
  simp only [Az98,Bz97,Bz95,go_sem,yz0,xx9,xx8,xx6,xx7,xx5,xx0,xx1,xx2,reduceIte,xx3,xx4,reduceCtorEq]
  refine wpD_lo (fun i=>xs.length - i) (fun i=>i≤xs.length∧allIn (xs.drop i) 0 (n - 1)=allIn xs 0 (n - 1))
    (fun i:Nat=>⟨L .any [(0,.ro none 1 (ints xs)),(1,iv n),(5,iv i)],L .gone []⟩) 0 (by simp) (by simp only [Bz1n,go_sem,yz0,xx9,xx8,xx6,xx7,xx5,xx0,xx1,xx2,reduceIte,xx3,xx4,reduceCtorEq];try rfl) ?_
  rintro i ⟨hi,he⟩
  have hM2:=maxLen_le
  by_cases hlt:(i:Int)<xs.length
  · have hlt':i<xs.length:=by omega
    simp only [Bz1n,Bz3s,Bz3t,intsK_getD hlt',w0,decide_eq_true hlt,go_sem,yz0,xx9,xx8,xx6,xx7,xx5,xx0,xx1,xx2,reduceIte,xx3,xx4,reduceCtorEq]
    intro hM vs
    refine ⟨⟨by omega,hlt'⟩,hlt',?_⟩
    refine yzq (k_l00In (xs.getD i 0) 0 (n - 1)) qCS trivial ?_
    have w1:IntKind.i64.wrap ((i:Int)+1)=((i+1:Nat):Int):=by rw [w64 (by omega)];simp
    rw [drop_getD hlt' 0] at he
    simp only [allIn,List.all_cons] at he
    simp only [Bz93,Bz94,w1,go_sem,yz0,xx9,xx8,xx6,xx7,xx5,xx0,xx1,xx2,reduceIte,xx3,xx4,reduceCtorEq]
    refine ⟨fun hp=>?_,fun hp=>⟨i+1,by omega,⟨by omega,?_⟩,rfl⟩⟩
    · rw [Bool.not_eq_true'] at hp
      rw [hp] at he
      simp only [allIn,← he,Bool.false_and]
    · rw [Bool.not_eq_false'] at hp
      rw [hp] at he
      simpa [allIn] using he
  · have:i=xs.length:=by omega
    subst this
    rw [List.drop_length] at he
    simp only [Bz1n,Bz3s,Bz3t,Bz96,decide_eq_false hlt,go_sem,yz0,xx9,xx8,xx6,xx7,xx5,xx0,xx1,xx2,reduceIte,xx3,xx4,reduceCtorEq]
    intro _ _
    rw [← he]
    simp [allIn]
    rfl
theorem k_l01Ok (n:Int) (next:List (List Int)):Fun Tryd.prog nz10 [autP n next] (bv (autB n next)):=by
  refine fun_of mixed czbz rfl ⟨rfl,trivial⟩ ?_
  simp only [Az7n,Bz7m,go_sem,yz0,xx9,xx8,xx6,xx7,xx5,xx0,xx1,xx2,reduceIte,xx3,xx4,reduceCtorEq]
  intro vs
  refine yzq (k_l00In n 1 10) qCS trivial ?_
  by_cases hn:1≤n∧n≤10
  · have h1:(decide (1≤n) && decide (n≤10))=true:=by simp [hn]
    simp only [h1,go_sem,yz0,xx9,xx8,xx6,xx7,xx5,xx0,xx1,xx2,reduceIte,xx3,xx4,reduceCtorEq]
    intro hM
    refine yzq (k_l00In next.length 1 3) qCS trivial ?_
    by_cases hl:1≤(next.length:Int)∧(next.length:Int)≤3
    · have h2:(decide (1≤(next.length:Int)) && decide ((next.length:Int)≤3))=true:=by simp only [decide_eq_true hl.1,decide_eq_true hl.2,Bool.and_self]
      simp only [h2,Bz1h,Bz7l,Bz7j,go_sem,yz0,xx9,xx8,xx6,xx7,xx5,xx0,xx1,xx2,reduceIte,xx3,xx4,reduceCtorEq]
      have hB:autB n next=next.all fun row=>decide ((row.length:Int)=n) && allIn row 0 (n - 1):=by simp only [autB,h1,h2,Bool.true_and]
      refine wpD_lo (fun i=>next.length - i) (fun i=>i≤next.length∧((next.drop i).all fun row=>decide ((row.length:Int)=n) && allIn row 0 (n - 1))=autB n next)
        (fun i:Nat=>⟨L .any [(0,autP n next),(3,iv i)],L .gone []⟩) 0 (by simp [hB]) (by simp only [Bz1i,go_sem,yz0,xx9,xx8,xx6,xx7,xx5,xx0,xx1,xx2,reduceIte,xx3,xx4,reduceCtorEq];try rfl) ?_
      rintro i ⟨hi,he⟩
      by_cases hlt:(i:Int)<next.length
      · have hlt':i<next.length:=by omega
        have w1:IntKind.i64.wrap ((i:Int)+1)=((i+1:Nat):Int):=by rw [w64 (by omega)];simp
        simp only [Bz1i,Bz3e,Bz3f,rwn_getD hlt',decide_eq_true hlt,go_sem,yz0,xx9,xx8,xx6,xx7,xx5,xx0,xx1,xx2,reduceIte,xx3,xx4,reduceCtorEq]
        intro _ vs2
        refine ⟨⟨by omega,hlt'⟩,hlt',?_⟩
        refine yzq (k_l01Map (next.getD i []) n (by omega)) qCS trivial ?_
        rw [drop_getD hlt' []] at he
        simp only [List.all_cons] at he
        simp only [Bz7h,Bz7i,w1,go_sem,yz0,xx9,xx8,xx6,xx7,xx5,xx0,xx1,xx2,reduceIte,xx3,xx4,reduceCtorEq]
        refine ⟨fun hp=>?_,fun hp=>⟨i+1,by omega,⟨by omega,?_⟩,rfl⟩⟩
        · rw [Bool.not_eq_true',Bool.and_comm] at hp
          rw [hp] at he
          rw [← he];rfl
        · rw [Bool.not_eq_false',Bool.and_comm] at hp
          rw [hp] at he
          simpa using he
      · have:i=next.length:=by omega
        subst this
        rw [List.drop_length] at he
        simp only [Bz1i,Bz3e,Bz3f,Bz7k,decide_eq_false hlt,go_sem,yz0,xx9,xx8,xx6,xx7,xx5,xx0,xx1,xx2,reduceIte,xx3,xx4,reduceCtorEq]
        intro _
        rw [← he];rfl
    · have h2:(decide (1≤(next.length:Int)) && decide ((next.length:Int)≤3))=false:=by
        rw [Bool.and_eq_false_iff]
        by_cases h3:1≤(next.length:Int)
        · right;simp;omega
        · left;simp;omega
      simp only [h2,Bz1h,go_sem,yz0,xx9,xx8,xx6,xx7,xx5,xx0,xx1,xx2,reduceIte,xx3,xx4,reduceCtorEq]
      simp only [autB,h1,h2,Bool.true_and,Bool.false_and]
  · have h1:(decide (1≤n) && decide (n≤10))=false:=by
      rw [Bool.and_eq_false_iff]
      by_cases h3:1≤n
      · right;simp;omega
      · left;simp;omega
    simp only [h1,Bz1h,go_sem,yz0,xx9,xx8,xx6,xx7,xx5,xx0,xx1,xx2,reduceIte,xx3,xx4,reduceCtorEq]
    simp only [autB,h1,Bool.false_and]
end Go.Ab
namespace Go.Ab
open Go.Proofs
theorem nat1 (i:Nat) (m:Nat) (h:i<m) (hm:m≤maxLen):IntKind.i64.wrap ((i:Int)+1)=((i+1:Nat):Int):=by
  have:=maxLen_le
  rw [w64 (by omega)];simp
theorem take_eq_step {α:Type} [BEq α] {xs ys:List α} {i:Nat} (d:α) (h:i<xs.length) (h':i<ys.length) (he:xs.take i=ys.take i) (hx:xs.getD i d=ys.getD i d):xs.take (i+1)=ys.take (i+1):=by
  rw [List.getD_eq_getElem?_getD,List.getD_eq_getElem?_getD,List.getElem?_eq_getElem h,List.getElem?_eq_getElem h'] at hx
  simp only [Option.getD_some] at hx
  rw [List.take_add_one,List.take_add_one,he,List.getElem?_eq_getElem h,List.getElem?_eq_getElem h',hx]
theorem bne_false_eq {a b:Int} (h:(a != b)=false):a=b:=by simpa using h
theorem k_a2Same (xs ys:List Int):Fun Tryd.prog nz24 [.ro none 1 (ints xs),.ro none 1 (ints ys)] (bv (decide (xs=ys))):=by
  refine fun_of mixed czbs rfl ⟨rfl,trivial⟩ ?_
  simp only [Az6w,Bz6v,go_sem,yz0,xx9,xx8,xx6,xx7,xx5,xx0,xx1,xx2,reduceIte,xx3,xx4,reduceCtorEq]
  intro hx hy
  by_cases hlen:xs.length=ys.length
  · have hne:((xs.length:Int) != (ys.length:Int))=false:=by rw [hlen];simp
    simp only [hne,Bz39,Bz6u,Bz6s,go_sem,yz0,xx9,xx8,xx6,xx7,xx5,xx0,xx1,xx2,reduceIte,xx3,xx4,reduceCtorEq]
    refine wpD_lo (fun i=>xs.length - i) (fun i=>i≤xs.length∧xs.take i=ys.take i)
      (fun i:Nat=>⟨L .any [(0,.ro none 1 (ints xs)),(1,.ro none 1 (ints ys)),(5,iv i)],L .gone []⟩) 0 (by simp) (by simp only [Bz1b,go_sem,yz0,xx9,xx8,xx6,xx7,xx5,xx0,xx1,xx2,reduceIte,xx3,xx4,reduceCtorEq];try rfl) ?_
    rintro i ⟨hi,hti⟩
    by_cases hlt:(i:Int)<xs.length
    · have hlt1:i<xs.length:=by omega
      have hlt2:i<ys.length:=by omega
      simp only [Bz1b,Bz3a,Bz3b,intsK_getD hlt1,intsK_getD hlt2,decide_eq_true hlt,go_sem,yz0,xx9,xx8,xx6,xx7,xx5,xx0,xx1,xx2,reduceIte,xx3,xx4,reduceCtorEq]
      intro _
      refine ⟨⟨by omega,hlt1⟩,hlt1,⟨by omega,hlt2⟩,hlt2,?_⟩
      simp only [Bz6q,Bz6r,nat1 i _ hlt1 hx,go_sem,yz0,xx9,xx8,xx6,xx7,xx5,xx0,xx1,xx2,reduceIte,xx3,xx4,reduceCtorEq]
      refine ⟨fun h=>?_,fun h=>⟨i+1,by omega,⟨by omega,take_eq_step 0 hlt1 hlt2 hti (bne_false_eq h)⟩,rfl⟩⟩
      have:xs≠ys:=by rintro rfl;simp at h
      simp [this]
    · have:i=xs.length:=by omega
      subst this
      simp only [Bz1b,Bz3a,Bz3b,Bz6t,decide_eq_false hlt,go_sem,yz0,xx9,xx8,xx6,xx7,xx5,xx0,xx1,xx2,reduceIte,xx3,xx4,reduceCtorEq]
      intro _
      have:xs=ys:=by rw [List.take_length,hlen,List.take_length] at hti;exact hti
      simp [this]
  · have hne:((xs.length:Int) != (ys.length:Int))=true:=by simp;omega
    simp only [hne,Bz39,go_sem,yz0,xx9,xx8,xx6,xx7,xx5,xx0,xx1,xx2,reduceIte,xx3,xx4,reduceCtorEq]
    have:xs≠ys:=by rintro rfl;exact hlen rfl
    simp [this]
theorem k_a2Long (code more:List Int):Fun Tryd.prog nz1z [.ro (some (some 0)) 1 (intsK .u8 code),.ro (some (some 0)) 1 (intsK .u8 more)] (bv (decide ((code.length:Int) > 3000) || decide ((more.length:Int) > 3000))):=by
  refine fun_of mixed czbk rfl ⟨rfl,trivial⟩ ?_
  simp only [Bz58,Az59,go_sem,yz0,xx9,xx8,xx6,xx7,xx5,xx0,xx1,xx2,reduceIte,xx3,xx4,reduceCtorEq]
  intro _
  by_cases h:(code.length:Int) > 3000
  · simp only [decide_eq_true h,go_sem,yz0,xx9,xx8,xx6,xx7,xx5,xx0,xx1,xx2,reduceIte,xx3,xx4,reduceCtorEq]
    try simp
  · simp only [decide_eq_false h,go_sem,yz0,xx9,xx8,xx6,xx7,xx5,xx0,xx1,xx2,reduceIte,xx3,xx4,reduceCtorEq]
    intro _
    try simp
theorem cvbs_ok {ys:List Int}:(∀ A∈intsK .u8 ys,(byteOfCell A).isSome=true)=True:=by
  refine eq_true fun A hA=>?_
  simp only [List.mem_map] at hA
  obtain ⟨y,_,rfl⟩:=hA
  rfl
theorem cvbs_eq:∀ {ys:List Int},(intsK .u8 ys).filterMap byteOfCell=ys.map fun n=>UInt8.ofNat n.toNat
  | []=>rfl
  | y :: ys=>by
    have h:=cvbs_eq (ys:=ys)
    simp only [List.map_cons] at h ⊢
    rw [List.filterMap_cons,h]
    simp [byteOfCell]
end Go.Ab
namespace Go.Ab
open Go.Proofs
abbrev nilS:AVal:=.val (.slice none 0 0)
end Go.Ab
namespace Go.Ab
def SI (l:List Int):Prop:=l.Pairwise (·<·)
def put:List Int→Int→List Int
  | [],n=>[n]
  | x :: xs,n=>if n≤x then (if n<x then n :: x :: xs else x :: xs) else x :: put xs n
theorem put_mem {n y:Int}:∀ {xs:List Int},y∈put xs n↔y=n∨y∈xs
  | []=>by simp [put]
  | x :: xs=>by
    simp only [put]
    split
    · split
      · simp
      · have:x=n:=by omega
        subst this
        simp
    · rw [List.mem_cons,put_mem,List.mem_cons]
      constructor
      · rintro (h | h | h)
        · exact .inr (.inl h)
        · exact .inl h
        · exact .inr (.inr h)
      · rintro (h | h | h)
        · exact .inr (.inl h)
        · exact .inl h
        · exact .inr (.inr h)
theorem put_SI {n:Int}:∀ {xs:List Int},SI xs→SI (put xs n)
  | [],_=>by simp [put,SI]
  | x :: xs,h=>by
    have h0:=h
    unfold SI at h
    rw [List.pairwise_cons] at h
    simp only [put]
    split
    · split
      · unfold SI
        rw [List.pairwise_cons]
        refine ⟨fun y hy=>?_,h0⟩
        rcases List.mem_cons.1 hy with rfl | hy
        · assumption
        · have:=h.1 y hy;omega
      · exact h0
    · unfold SI
      rw [List.pairwise_cons]
      refine ⟨fun y hy=>?_,put_SI h.2⟩
      rcases put_mem.1 hy with rfl | hy
      · omega
      · exact h.1 y hy
def nrm (l:List Int):List Int:=l.foldl put []
theorem nrm_acc:∀ (l acc:List Int),SI acc→SI (l.foldl put acc)∧∀ y,y∈l.foldl put acc↔y∈acc∨y∈l
  | [],acc,h=>⟨h,by simp⟩
  | x :: l,acc,h=>by
    obtain ⟨h1,h2⟩:=nrm_acc l (put acc x) (put_SI h)
    refine ⟨h1,fun y=>?_⟩
    rw [List.foldl_cons,h2,put_mem,List.mem_cons]
    constructor
    · rintro ((h | h) | h)
      · exact .inr (.inl h)
      · exact .inl h
      · exact .inr (.inr h)
    · rintro (h | h | h)
      · exact .inl (.inr h)
      · exact .inl (.inl h)
      · exact .inr h
theorem nrm_SI (l:List Int):SI (nrm l):=(nrm_acc l [] (by simp [SI])).1
theorem nrm_mem {l:List Int} {y:Int}:y∈nrm l↔y∈l:=by
  have:=(nrm_acc l [] (by simp [SI])).2 y
  simpa [nrm] using this
end Go.Ab
namespace Go.Proofs
open Go.Shelf
def Tryd.lfmt_ren:Go.Shelf.Ren:=⟨fun | 173=>64 | 246=>82 | 283=>96 | 284=>97 | 285=>98 | 286=>99 | 129=>116 | 317=>115 | 318=>117 | 319=>118 | 320=>119 | 337=>124 | 338=>125 | n=>n,fun | 2=>2 | 3=>3 | 9=>9 | 4=>4 | 171=>122 | 0=>0 | 53=>96 | 37=>31 | 5=>5 | 173=>125 | 212=>139 | 51=>140 | 20=>20 | 213=>141 | 46=>111 | 232=>155 | 233=>156 | n=>n,fun | 17=>3 | 18=>6 | 19=>7 | n=>n⟩
theorem Tryd.lfmt:Go.Proofs.Lays.n173 Tryd.prog Tryd.lfmt_ren:={
  mixed:=by kernel_rfl
  f129:=Tryd.func116.trans (congrArg some (by kernel_rfl))
  f173:=Tryd.func64.trans (congrArg some (by kernel_rfl))
  f246:=Tryd.func82.trans (congrArg some (by kernel_rfl))
  f283:=Tryd.func96.trans (congrArg some (by kernel_rfl))
  f284:=Tryd.func97.trans (congrArg some (by kernel_rfl))
  f285:=Tryd.func98.trans (congrArg some (by kernel_rfl))
  f286:=Tryd.func99.trans (congrArg some (by kernel_rfl))
  f317:=Tryd.func115.trans (congrArg some (by kernel_rfl))
  f318:=Tryd.func117.trans (congrArg some (by kernel_rfl))
  f319:=Tryd.func118.trans (congrArg some (by kernel_rfl))
  f320:=Tryd.func119.trans (congrArg some (by kernel_rfl))
  f337:=Tryd.func124.trans (congrArg some (by kernel_rfl))
  f338:=Tryd.func125.trans (congrArg some (by kernel_rfl))
  t0:=Tryd.underlying0
  a0:=Tryd.isAgg0
  z0:=Tryd.sizeOf0
  v0:=Tryd.zeroValue0
  t2:=Tryd.underlying2
  a2:=Tryd.isAgg2
  z2:=Tryd.sizeOf2
  v2:=Tryd.zeroValue2
  t3:=Tryd.underlying3
  a3:=Tryd.isAgg3
  z3:=Tryd.sizeOf3
  v3:=Tryd.zeroValue3
  t4:=Tryd.underlying4
  a4:=Tryd.isAgg4
  z4:=Tryd.sizeOf4
  v4:=Tryd.zeroValue4
  t5:=Tryd.underlying5
  a5:=Tryd.isAgg5
  z5:=Tryd.sizeOf5
  v5:=Tryd.zeroValue5
  t9:=Tryd.underlying9
  a9:=Tryd.isAgg9
  z9:=Tryd.sizeOf9
  v9:=Tryd.zeroValue9
  t20:=Tryd.underlying20
  a20:=Tryd.isAgg20
  z20:=Tryd.sizeOf20
  v20:=Tryd.zeroValue20
  t37:=Tryd.underlying31
  a37:=Tryd.isAgg31
  z37:=Tryd.sizeOf31
  v37:=Tryd.zeroValue31
  t46:=Tryd.underlying111
  a46:=Tryd.isAgg111
  z46:=Tryd.sizeOf111
  v46:=Tryd.zeroValue111
  t51:=Tryd.underlying140
  a51:=Tryd.isAgg140
  z51:=Tryd.sizeOf140
  v51:=Tryd.zeroValue140
  t53:=Tryd.underlying96
  a53:=Tryd.isAgg96
  z53:=Tryd.sizeOf96
  v53:=Tryd.zeroValue96
  t171:=Tryd.underlying122
  a171:=Tryd.isAgg122
  z171:=Tryd.sizeOf122
  v171:=Tryd.zeroValue122
  t173:=Tryd.underlying125
  a173:=Tryd.isAgg125
  z173:=Tryd.sizeOf125
  v173:=Tryd.zeroValue125
  t212:=Tryd.underlying139
  a212:=Tryd.isAgg139
  z212:=Tryd.sizeOf139
  v212:=Tryd.zeroValue139
  t213:=Tryd.underlying141
  a213:=Tryd.isAgg141
  z213:=Tryd.sizeOf141
  t232:=Tryd.underlying155
  a232:=Tryd.isAgg155
  z232:=Tryd.sizeOf155
  v232:=Tryd.zeroValue155
  t233:=Tryd.underlying156
  a233:=Tryd.isAgg156
  z233:=Tryd.sizeOf156
  v233:=Tryd.zeroValue156
  g17:=by kernel_rfl
  g18:=by kernel_rfl
  g19:=by kernel_rfl }
def Tryd.lsplit_ren:Go.Shelf.Ren:=⟨fun | 146=>41 | 221=>71 | 268=>86 | 138=>87 | 143=>88 | 195=>103 | 197=>104 | 218=>105 | 219=>90 | 260=>120 | 217=>106 | 225=>107 | 224=>108 | 267=>109 | 266=>121 | 314=>122 | n=>n,fun | 9=>9 | 31=>70 | 3=>3 | 4=>4 | 0=>0 | 105=>129 | 21=>21 | 5=>5 | 46=>111 | 119=>151 | 139=>154 | 138=>153 | 146=>144 | 51=>140 | n=>n,fun | 1=>0 | 3=>4 | 4=>5 | n=>n⟩
theorem Tryd.lsplit:Go.Proofs.Lays.n146 Tryd.prog Tryd.lsplit_ren:={
  mixed:=by kernel_rfl
  f138:=Tryd.func87.trans (congrArg some (by kernel_rfl))
  f143:=Tryd.func88.trans (congrArg some (by kernel_rfl))
  f146:=Tryd.func41.trans (congrArg some (by kernel_rfl))
  f195:=Tryd.func103.trans (congrArg some (by kernel_rfl))
  f197:=Tryd.func104.trans (congrArg some (by kernel_rfl))
  f217:=Tryd.func106.trans (congrArg some (by kernel_rfl))
  f218:=Tryd.func105.trans (congrArg some (by kernel_rfl))
  f219:=Tryd.func90.trans (congrArg some (by kernel_rfl))
  f221:=Tryd.func71.trans (congrArg some (by kernel_rfl))
  f224:=Tryd.func108.trans (congrArg some (by kernel_rfl))
  f225:=Tryd.func107.trans (congrArg some (by kernel_rfl))
  f260:=Tryd.func120.trans (congrArg some (by kernel_rfl))
  f266:=Tryd.func121.trans (congrArg some (by kernel_rfl))
  f267:=Tryd.func109.trans (congrArg some (by kernel_rfl))
  f268:=Tryd.func86.trans (congrArg some (by kernel_rfl))
  f314:=Tryd.func122.trans (congrArg some (by kernel_rfl))
  t0:=Tryd.underlying0
  a0:=Tryd.isAgg0
  z0:=Tryd.sizeOf0
  v0:=Tryd.zeroValue0
  t3:=Tryd.underlying3
  a3:=Tryd.isAgg3
  z3:=Tryd.sizeOf3
  v3:=Tryd.zeroValue3
  t4:=Tryd.underlying4
  a4:=Tryd.isAgg4
  z4:=Tryd.sizeOf4
  v4:=Tryd.zeroValue4
  t5:=Tryd.underlying5
  a5:=Tryd.isAgg5
  z5:=Tryd.sizeOf5
  v5:=Tryd.zeroValue5
  t9:=Tryd.underlying9
  a9:=Tryd.isAgg9
  z9:=Tryd.sizeOf9
  v9:=Tryd.zeroValue9
  t21:=Tryd.underlying21
  a21:=Tryd.isAgg21
  z21:=Tryd.sizeOf21
  v21:=Tryd.zeroValue21
  t31:=Tryd.underlying70
  a31:=Tryd.isAgg70
  z31:=Tryd.sizeOf70
  v31:=Tryd.zeroValue70
  t46:=Tryd.underlying111
  a46:=Tryd.isAgg111
  z46:=Tryd.sizeOf111
  v46:=Tryd.zeroValue111
  t51:=Tryd.underlying140
  a51:=Tryd.isAgg140
  z51:=Tryd.sizeOf140
  v51:=Tryd.zeroValue140
  t105:=Tryd.underlying129
  a105:=Tryd.isAgg129
  z105:=Tryd.sizeOf129
  v105:=Tryd.zeroValue129
  t119:=Tryd.underlying151
  a119:=Tryd.isAgg151
  z119:=Tryd.sizeOf151
  t138:=Tryd.underlying153
  a138:=Tryd.isAgg153
  z138:=Tryd.sizeOf153
  v138:=Tryd.zeroValue153
  t139:=Tryd.underlying154
  a139:=Tryd.isAgg154
  z139:=Tryd.sizeOf154
  v139:=Tryd.zeroValue154
  t146:=Tryd.underlying144
  a146:=Tryd.isAgg144
  z146:=Tryd.sizeOf144
  v146:=Tryd.zeroValue144
  g1:=by kernel_rfl
  g3:=by kernel_rfl
  g4:=by kernel_rfl }
def Tryd.lparse_ren:Go.Shelf.Ren:=⟨fun | 174=>51 | 247=>77 | 245=>78 | 287=>91 | 279=>92 | 280=>93 | 281=>94 | 282=>95 | 321=>110 | 322=>111 | 316=>112 | 171=>114 | 205=>113 | 243=>123 | 246=>82 | 283=>96 | 284=>97 | 285=>98 | 286=>99 | 129=>116 | 317=>115 | 318=>117 | 319=>118 | 320=>119 | 337=>124 | 338=>125 | n=>n,fun | 9=>9 | 3=>3 | 2=>2 | 75=>85 | 85=>86 | 4=>4 | 167=>115 | 5=>5 | 53=>96 | 175=>116 | 46=>111 | 168=>118 | 37=>31 | 0=>0 | 210=>136 | 21=>21 | 127=>146 | 145=>149 | 143=>147 | 171=>122 | 173=>125 | 212=>139 | 51=>140 | 20=>20 | 213=>141 | 232=>155 | 233=>156 | 80=>157 | n=>n,fun | 15=>1 | 16=>2 | 17=>3 | 18=>6 | 19=>7 | n=>n⟩
theorem Tryd.lparse:Go.Proofs.LaysC.n174 Tryd.prog Tryd.lparse_ren:={
  mixed:=by kernel_rfl
  f129:=Tryd.func116.trans (congrArg some (by kernel_rfl))
  f171:=Tryd.func114.trans (congrArg some (by kernel_rfl))
  f174:=Tryd.func51.trans (congrArg some (by kernel_rfl))
  f205:=Tryd.func113.trans (congrArg some (by kernel_rfl))
  f243:=Tryd.func123.trans (congrArg some (by kernel_rfl))
  f245:=Tryd.func78.trans (congrArg some (by kernel_rfl))
  f246:=Tryd.func82.trans (congrArg some (by kernel_rfl))
  f247:=Tryd.func77.trans (congrArg some (by kernel_rfl))
  f279:=Tryd.func92.trans (congrArg some (by kernel_rfl))
  f280:=Tryd.func93.trans (congrArg some (by kernel_rfl))
  f281:=Tryd.func94.trans (congrArg some (by kernel_rfl))
  f282:=Tryd.func95.trans (congrArg some (by kernel_rfl))
  f283:=Tryd.func96.trans (congrArg some (by kernel_rfl))
  f284:=Tryd.func97.trans (congrArg some (by kernel_rfl))
  f285:=Tryd.func98.trans (congrArg some (by kernel_rfl))
  f286:=Tryd.func99.trans (congrArg some (by kernel_rfl))
  f287:=Tryd.func91.trans (congrArg some (by kernel_rfl))
  f316:=Tryd.func112.trans (congrArg some (by kernel_rfl))
  f317:=Tryd.func115.trans (congrArg some (by kernel_rfl))
  f318:=Tryd.func117.trans (congrArg some (by kernel_rfl))
  f319:=Tryd.func118.trans (congrArg some (by kernel_rfl))
  f320:=Tryd.func119.trans (congrArg some (by kernel_rfl))
  f321:=Tryd.func110.trans (congrArg some (by kernel_rfl))
  f322:=Tryd.func111.trans (congrArg some (by kernel_rfl))
  f337:=Tryd.func124.trans (congrArg some (by kernel_rfl))
  f338:=Tryd.func125.trans (congrArg some (by kernel_rfl))
  t0:=Tryd.underlying0
  a0:=Tryd.isAgg0
  z0:=Tryd.sizeOf0
  v0:=Tryd.zeroValue0
  t2:=Tryd.underlying2
  a2:=Tryd.isAgg2
  z2:=Tryd.sizeOf2
  v2:=Tryd.zeroValue2
  t3:=Tryd.underlying3
  a3:=Tryd.isAgg3
  z3:=Tryd.sizeOf3
  v3:=Tryd.zeroValue3
  t4:=Tryd.underlying4
  a4:=Tryd.isAgg4
  z4:=Tryd.sizeOf4
  v4:=Tryd.zeroValue4
  t5:=Tryd.underlying5
  a5:=Tryd.isAgg5
  z5:=Tryd.sizeOf5
  v5:=Tryd.zeroValue5
  t9:=Tryd.underlying9
  a9:=Tryd.isAgg9
  z9:=Tryd.sizeOf9
  v9:=Tryd.zeroValue9
  t20:=Tryd.underlying20
  a20:=Tryd.isAgg20
  z20:=Tryd.sizeOf20
  v20:=Tryd.zeroValue20
  t21:=Tryd.underlying21
  a21:=Tryd.isAgg21
  z21:=Tryd.sizeOf21
  v21:=Tryd.zeroValue21
  t37:=Tryd.underlying31
  a37:=Tryd.isAgg31
  z37:=Tryd.sizeOf31
  v37:=Tryd.zeroValue31
  t46:=Tryd.underlying111
  a46:=Tryd.isAgg111
  z46:=Tryd.sizeOf111
  v46:=Tryd.zeroValue111
  t51:=Tryd.underlying140
  a51:=Tryd.isAgg140
  z51:=Tryd.sizeOf140
  v51:=Tryd.zeroValue140
  t53:=Tryd.underlying96
  a53:=Tryd.isAgg96
  z53:=Tryd.sizeOf96
  v53:=Tryd.zeroValue96
  t75:=Tryd.underlying85
  a75:=Tryd.isAgg85
  z75:=Tryd.sizeOf85
  v75:=Tryd.zeroValue85
  t85:=Tryd.underlying86
  a85:=Tryd.isAgg86
  z85:=Tryd.sizeOf86
  v85:=Tryd.zeroValue86
  t127:=Tryd.underlying146
  a127:=Tryd.isAgg146
  z127:=Tryd.sizeOf146
  v127:=Tryd.zeroValue146
  t143:=Tryd.underlying147
  a143:=Tryd.isAgg147
  z143:=Tryd.sizeOf147
  v143:=Tryd.zeroValue147
  t145:=Tryd.underlying149
  a145:=Tryd.isAgg149
  z145:=Tryd.sizeOf149
  v145:=Tryd.zeroValue149
  t167:=Tryd.underlying115
  a167:=Tryd.isAgg115
  z167:=Tryd.sizeOf115
  v167:=Tryd.zeroValue115
  t168:=Tryd.underlying118
  a168:=Tryd.isAgg118
  z168:=Tryd.sizeOf118
  v168:=Tryd.zeroValue118
  t171:=Tryd.underlying122
  a171:=Tryd.isAgg122
  z171:=Tryd.sizeOf122
  v171:=Tryd.zeroValue122
  t173:=Tryd.underlying125
  a173:=Tryd.isAgg125
  z173:=Tryd.sizeOf125
  v173:=Tryd.zeroValue125
  t175:=Tryd.underlying116
  a175:=Tryd.isAgg116
  z175:=Tryd.sizeOf116
  v175:=Tryd.zeroValue116
  t210:=Tryd.underlying136
  a210:=Tryd.isAgg136
  z210:=Tryd.sizeOf136
  v210:=Tryd.zeroValue136
  t212:=Tryd.underlying139
  a212:=Tryd.isAgg139
  z212:=Tryd.sizeOf139
  v212:=Tryd.zeroValue139
  t213:=Tryd.underlying141
  a213:=Tryd.isAgg141
  z213:=Tryd.sizeOf141
  t232:=Tryd.underlying155
  a232:=Tryd.isAgg155
  z232:=Tryd.sizeOf155
  v232:=Tryd.zeroValue155
  t233:=Tryd.underlying156
  a233:=Tryd.isAgg156
  z233:=Tryd.sizeOf156
  v233:=Tryd.zeroValue156
  g15:=by kernel_rfl
  g16:=by kernel_rfl
  g17:=by kernel_rfl
  g18:=by kernel_rfl
  g19:=by kernel_rfl
  t80:=Tryd.underlying157
  a80:=Tryd.isAgg157
  z80:=Tryd.sizeOf157
  v80:=Tryd.zeroValue157
  i0:=by kernel_rfl
  i2:=by kernel_rfl
  i3:=by kernel_rfl
  i4:=by kernel_rfl
  i5:=by kernel_rfl
  i9:=by kernel_rfl
  i20:=by kernel_rfl
  i21:=by kernel_rfl
  i37:=by kernel_rfl
  i46:=by kernel_rfl
  i51:=by kernel_rfl
  i53:=by kernel_rfl
  i75:=by kernel_rfl
  i80:=by kernel_rfl
  i85:=by kernel_rfl
  i127:=by kernel_rfl
  i143:=by kernel_rfl
  i145:=by kernel_rfl
  i167:=by kernel_rfl
  i168:=by kernel_rfl
  i171:=by kernel_rfl
  i173:=by kernel_rfl
  i175:=by kernel_rfl
  i210:=by kernel_rfl
  i212:=by kernel_rfl
  i232:=by kernel_rfl
  i233:=by kernel_rfl
  m15:=by kernel_rfl
  m16:=by kernel_rfl
  m17:=by kernel_rfl
  m18:=by kernel_rfl
  m19:=by kernel_rfl
  c0:=by kernel_rfl
  c2:=by kernel_rfl
  c3:=by kernel_rfl
  c4:=by kernel_rfl
  c5:=by kernel_rfl
  c9:=by kernel_rfl
  c20:=by kernel_rfl
  c21:=by kernel_rfl
  c37:=by kernel_rfl
  c46:=by kernel_rfl
  c51:=by kernel_rfl
  c53:=by kernel_rfl
  c75:=by kernel_rfl
  c80:=by kernel_rfl
  c85:=by kernel_rfl
  c127:=by kernel_rfl
  c143:=by kernel_rfl
  c145:=by kernel_rfl
  c167:=by kernel_rfl
  c168:=by kernel_rfl
  c171:=by kernel_rfl
  c173:=by kernel_rfl
  c175:=by kernel_rfl
  c210:=by kernel_rfl
  c212:=by kernel_rfl
  c213:=by kernel_rfl
  c232:=by kernel_rfl
  c233:=by kernel_rfl }
end Go.Proofs
namespace Go.Ab
open Go.Proofs
attribute [go_sem] dnL_rwo mvL_rwo rwo_len
end Go.Ab
namespace Go.Ab
open Go.Proofs
instance (l:List Int):Decidable (SI l):=inferInstanceAs (Decidable (l.Pairwise (·<·)))
theorem SI_len {n:Int}:∀ {set:List Int},SI set→(∀ x∈set,0≤x∧x<n)→(set.length:Int)≤n∨set=[]
  | set,h,hx=>by
    by_cases h0:set=[]
    · exact .inr h0
    left
    have key:∀ i,i<set.length→(i:Int)≤set.getD i 0:=by
      intro i
      induction i with
      | zero =>
        intro hi
        exact (hx _ (getD_mem hi 0)).1
      | succ i ih =>
        intro hi
        have h1:=ih (by omega)
        unfold SI at h
        rw [List.pairwise_iff_getElem] at h
        have h2:=h i (i+1) (by omega) hi (by omega)
        have e1:set.getD i 0=set[i]:=by rw [List.getD_eq_getElem?_getD,List.getElem?_eq_getElem (by omega)];rfl
        have e2:set.getD (i+1) 0=set[i+1]:=by rw [List.getD_eq_getElem?_getD,List.getElem?_eq_getElem hi];rfl
        rw [e1] at h1;rw [e2];omega
    have hp:0<set.length:=List.length_pos_iff.2 h0
    have h1:=key (set.length - 1) (by omega)
    have h2:=(hx _ (getD_mem (show set.length - 1<set.length by omega) 0)).2
    omega
end Go.Ab
namespace Go.Ab
open Go.Proofs
end Go.Ab
namespace Go.Ab
open Go.Proofs
theorem coeL_rwp_t {hp:Nat→AObj} {m:List Nat} {len:Bool} {ps:List (Nat×List Int)}:CoeL hp m len (rwn (ps.map (·.2))) (rwp ps)=True:=eq_true coeL_rwp
end Go.Ab
namespace Go.Ab
theorem put_len_new {x:Int}:∀ {xs:List Int},x ∉ xs→(put xs x).length=xs.length+1
  | [],_=>by simp [put]
  | y :: xs,h=>by
    have h1:x≠y:=fun e=>h (by simp [e])
    have h2:x ∉ xs:=fun e=>h (by simp [e])
    simp only [put]
    split
    · split
      · simp
      · omega
    · have:=put_len_new (x:=x) (xs:=xs) h2
      simp only [List.length_cons];omega
theorem nrm_len_nd {l:List Int} (h:l.Nodup):(nrm l).length=l.length:=by
  have gen:∀ (l acc:List Int),l.Nodup→(∀ x∈l,x ∉ acc)→(l.foldl put acc).length=acc.length+l.length:=by
    intro l
    induction l with
    | nil=>intro acc _ _;simp
    | cons x l ih =>
      intro acc h1 h2
      rw [List.nodup_cons] at h1
      rw [List.foldl_cons,ih (put acc x) h1.2 (fun y hy hm=>?_),put_len_new (h2 x (by simp)),List.length_cons]
      · omega
      · rcases put_mem.1 hm with rfl | hm
        · exact h1.1 hy
        · exact h2 y (by simp [hy]) hm
  have:=gen l [] h (by simp)
  simpa [nrm] using this
structure Once (n:Int) (l:List Int):Prop where
  nd:l.Nodup
  rg:∀ x∈l,0≤x∧x<n
theorem Once.len {n:Int} {l:List Int} (hn:1≤n) (h:Once n l):(l.length:Int)≤n:=by
  have h1:=nrm_len_nd h.nd
  rcases SI_len (nrm_SI l) (fun x hx=>h.rg x (nrm_mem.1 hx)) with h2 | h2
  · omega
  · rw [h2] at h1;simp at h1;omega
theorem Once.snoc {n:Int} {l:List Int} {x:Int} (h:Once n l) (hx:0≤x∧x<n) (hm:x ∉ l):Once n (l ++ [x]):=by
  refine ⟨?_,?_⟩
  · rw [List.nodup_append]
    refine ⟨h.nd,by simp,?_⟩
    intro a ha b hb
    have:b=x:=by simpa using hb
    subst this
    rintro rfl
    exact hm ha
  · intro y hy
    rcases List.mem_append.1 hy with hy | hy
    · exact h.rg y hy
    · have:y=x:=by simpa using hy
      subst this;exact hx
def addL (l:List Int) (x:Int):List Int:=if l.contains x=true then l else l ++ [x]
theorem Once.add {n:Int} {l:List Int} {x:Int} (h:Once n l) (hx:0≤x∧x<n):Once n (addL l x):=by
  unfold addL
  split
  · exact h
  · rename_i h1
    exact h.snoc hx (by simpa using h1)
end Go.Ab
namespace Go.Ab
open Go.Proofs
end Go.Ab
namespace Go.Ab
open Go.Proofs
end Go.Ab
namespace Go.Ab
open Go.Proofs
end Go.Ab
namespace Go.Ab
open Go.Proofs
end Go.Ab
namespace Go.Ab
open Go.Proofs
end Go.Ab
namespace Go.Ab
open Go.Proofs
theorem thaw_L {l:List (Nat×AVal)} {h:List (Nat×AObj)} {r i q n m v k k':Nat} {nn:Bool} {cs cs':List AVal} (hr:L .gone h r=.row v k nn cs) :
    St.thaw ⟨L .any l,L .gone h⟩ r i q n m k' cs'=⟨L .any (woT n l),L .gone ((q,.row m k' true (woL n cs')) :: (r,.row v k nn ((woL n cs).set i (.own q m))) :: woO n h)⟩:=by
  unfold St.thaw
  congr 1
  · funext x;exact (woT_eq l x).symm
  · funext x
    simp only [L]
    split
    · rfl
    · split
      · rw [hr]
      · exact (woO_eq h x).symm
theorem gwp_thaw {gs:List GStep} {K:St→Prop} {l:List (Nat×AVal)} {h:List (Nat×AObj)} {r i q n v k k':Nat} {nn:Bool} {cs cs':List AVal} (hr:L .gone h r=.row v k nn cs)
    (hi:cs[i]?=some (.ro (some (some (n+1))) k' cs')) (hne:cs'≠[]) (hq:L .gone h q=.gone)
    (hk:∀ m,gwp gs K ⟨L .any (woT n l),L .gone ((q,.row m k' true (woL n cs')) :: (r,.row v k nn ((woL n cs).set i (.own q m))) :: woO n h)⟩):gwp (.thaw r i q :: gs) K ⟨L .any l,L .gone h⟩ :=
  ⟨v,k,nn,cs,n,k',cs',hr,hi,hne,hq,fun m=>by rw [thaw_L hr];exact hk m⟩
theorem wo_o {n k:Nat} {cs:List AVal}:AVal.wo n (.ro (some (some 0)) k cs)=.ro (some (some 0)) k (woL n cs):=by cases cs <;> simp [AVal.wo,woL]
theorem wo_st {n:Nat} {cs:List AVal}:AVal.wo n (.st cs)=.st (woL n cs):=by simp only [AVal.wo]
theorem wo_ptr {n r u o:Nat}:AVal.wo n (.ptr r u o)=.ptr r u o:=by simp only [AVal.wo]
theorem woL_nil {n:Nat}:woL n []=[]:=by simp only [woL]
theorem woL_cons {n:Nat} {A:AVal} {cs:List AVal}:woL n (A :: cs)=AVal.wo n A :: woL n cs:=by simp only [woL]
theorem woO_row {n v k:Nat} {nn:Bool} {cs:List AVal}:AObj.wo n (.row v k nn cs)=.row v k nn (woL n cs):=rfl
theorem woO_box {n v:Nat} {cs:List AVal}:AObj.wo n (.box v cs)=.box v (woL n cs):=rfl
theorem callHp_h2 {hp:Nat→AObj} {r q1 d:Nat} {s:Nat→Nat} {o0 o1:AObj} (hnd:[r,q1].Nodup) :
    callHp hp [r,q1] d s [o0,o1] []=(upd (upd hp r (o0.ren (rid [r,q1] d 0) (sv hp [r,q1] s))) q1 (o1.ren (rid [r,q1] d 0) (sv hp [r,q1] s))):=by
  have hnd':=hnd
  simp only [List.nodup_cons,List.mem_cons,List.not_mem_nil,or_false,not_or,List.nodup_nil,and_true,not_false_eq_true] at hnd'
  funext n
  by_cases e1:n=q1
  · have h1:rid [r,q1] d ([]:List AObj).length 5001=some n:=by rw [e1];exact rid_m (j:=1) (by omega) rfl
    rw [callHp_at hnd (by simp) h1]
    simp [upd,e1,outHp,hnd',Ne.symm]
    try (intros;simp_all)
  by_cases e0:n=r
  · have h1:rid [r,q1] d ([]:List AObj).length 5000=some n:=by rw [e0];exact rid_m (j:=0) (by omega) rfl
    rw [callHp_at hnd (by simp) h1]
    simp [upd,e0,outHp,hnd',Ne.symm]
    try (intros;simp_all)
  rw [callHp_not]
  · simp [upd,e0,e1]
  · rintro ⟨x,hx⟩
    rcases rid_cases hx with ⟨j,rfl,_,h3⟩ | ⟨i,rfl,h3,_⟩
    · match j,h3 with
      | 0,h3=>simp at h3;exact e0 h3.symm
      | 1,h3=>simp at h3;exact e1 h3.symm
      | j+2,h3=>simp at h3
    · simp at h3
end Go.Ab
namespace Go.Ab
open Go.Proofs
end Go.Ab
namespace Go.Ab
open Go.Proofs
end Go.Ab
namespace Go.Ab
open Go.Proofs
end Go.Ab
namespace Go.Ab
open Go.Proofs
theorem wo_any {n:Nat}:AVal.wo n .any=.any:=by simp only [AVal.wo]
end Go.Ab
namespace Go.Ab
open Go.Proofs
end Go.Ab
namespace Go.Ab
open Go.Proofs
structure Mach (n o:Int) (next out:List (List Int)):Prop where
  aut:Aut n next
  o1:1≤o
  o2:o≤3
  len:out.length=next.length
  row:∀ row∈out,(row.length:Int)=n∧∀ x∈row,0≤x∧x<o
end Go.Ab
namespace Go.Ab
open Go Go.Proofs
abbrev strV (l:List UInt8):AVal:=.val (.string ⟨l.toArray⟩)
theorem binV_cat {a b:List UInt8} (h:a.length+b.length≤maxLen):binV .add (.string ⟨a.toArray⟩) (.string ⟨b.toArray⟩)=some (.string ⟨(a ++ b).toArray⟩):=by
  have e:(ByteArray.mk a.toArray ++ ByteArray.mk b.toArray)=ByteArray.mk (a ++ b).toArray:=by
    ext1
    simp [ByteArray.data_append]
  have h1:(ByteArray.mk a.toArray).size+(ByteArray.mk b.toArray).size≤maxLen:=h
  simp only [binV,if_pos h1,e]
theorem ifcat {a b:List UInt8} (h:a.length+b.length≤maxLen) :
    (if (List.toArray a).size+(List.toArray b).size≤maxLen then some (Value.string ((⟨a.toArray⟩:ByteArray) ++ ⟨b.toArray⟩)) else none)=some (.string ⟨(a ++ b).toArray⟩):=by
  have:=binV_cat h
  simp only [binV] at this
  exact this
theorem max_big {n:Nat} (h:n≤1000000000):n≤maxLen:=Nat.le_trans h (by decide)
def decS (n:Nat):List UInt8:=if n<10 then [UInt8.ofNat (48+n)] else [UInt8.ofNat (48+n / 10),UInt8.ofNat (48+n % 10)]
theorem decS_lib:∀ n:Fin 100,Lib.decDigits n.val=decS n.val:=by decide +kernel
theorem decS_len {n:Nat}:(decS n).length≤2:=by unfold decS;split <;> simp
theorem fun_lib {P:Program} {g:FuncId} {args:List Value} {r:Value} (hfn:∃ fn,P.funcs[g]?=some fn∧fn.body.isSome=true∧isNumG fn=false)
    (h:∀ w,Calls P g args.toArray w fun e w'=>e=.returned r∧w'=w):Fun P g (args.map .val) (.val r):=by
  refine ⟨hfn,fun c0 outsB vs G hhp hrep=>?_⟩
  have hvs:vs=args:=by
    have:∀ (bs:List Value) (us:List Value),RepL c0 (bs.map .val) us→us=bs:=by
      intro bs
      induction bs with
      | nil=>intro us h;cases us with
        | nil=>rfl
        | cons u us=>simp [RepL] at h
      | cons a bs ih=>intro us h;cases us with
        | nil=>simp [RepL] at h
        | cons u us =>
          simp only [List.map_cons,RepL] at h
          obtain ⟨h1,h2⟩:=h
          rw [ih us h2]
          have:u=a:=by simpa [Rep] using h1
          rw [this]
    exact this args vs hrep
  subst hvs
  refine (h c0.w).mono ?_
  rintro e w' ⟨he,rfl⟩
  have hgone:∀ r,c0.hp r=.gone:=fun r=>by
    rw [hhp]
    unfold outHp
    split
    · rfl
    · split
      · rfl
      · split <;> rfl
  refine ⟨r,{ c0 with ext:=outsB },[],[],.val r,⟨rfl,rfl,rfl⟩,he,rfl,?_,hhp,by simp [Rep],fun b hb=>.inr hb,fun b hb=>hb,fun _ _ _ h=>⟨h,rfl⟩,fun _ h=>h⟩
  exact
    { base:=G.base
      obj:=fun r=>by show ObjRep _ (c0.loc r) (c0.hp r);rw [hgone r];trivial
      inj:=G.inj,own:=G.own,verU:=G.verU,verInj:=G.verInj
      outExt:=fun b hb=>⟨hb,(G.outExt b hb).2⟩
      nam:=G.nam,namInj:=G.namInj,fin:=G.fin,os:=G.os,tape:=G.tape,output:=G.output,size:=G.size,frame:=G.frame }
theorem k_FormatInt (n:Nat) (h:n<100):Fun Tryd.prog nz2d [iv (n:Int),iv 10] (strV (decS n)):=by
  have hl:=decS_lib ⟨n,h⟩
  exact fun_lib (args:=[.int .i64 n,.int .i64 10]) x_strconv_FormatInt fun w=>by
    have:=Any.strconv_FormatInt_10_small Tryd.lfmt n h w
    rw [← hl]
    exact this
theorem k_decimal (n:Nat) (h:n<100):Fun Tryd.prog nz27 [iv (n:Int)] (strV (decS n)):=by
  refine fun_of mixed czbw rfl ⟨rfl,trivial⟩ ?_
  simp only [Az79,Bz78,go_sem,yz0,xx9,xx8,xx6,xx7,xx5,xx0,xx1,xx2,reduceIte,xx3,xx4,reduceCtorEq]
  intro vs
  refine yzq (k_FormatInt n h) qCS trivial ?_
  simp only [go_sem,yz0,xx9,xx8,xx6,xx7,xx5,xx0,xx1,xx2,reduceIte,xx3,xx4,reduceCtorEq]
def nmzS (xs:List Int):List UInt8:=xs.flatMap fun x=>32 :: decS x.toNat
theorem nmzS_snoc {xs:List Int} {x:Int}:nmzS (xs ++ [x])=nmzS xs ++ (32 :: decS x.toNat):=by simp [nmzS]
theorem nmzS_len:∀ {xs:List Int},(nmzS xs).length≤3 * xs.length
  | []=>by simp [nmzS]
  | x :: xs=>by
    have h:=nmzS_len (xs:=xs)
    have h2:=decS_len (n:=x.toNat)
    unfold nmzS at h ⊢
    rw [List.flatMap_cons,List.length_append,List.length_cons,List.length_cons]
    omega
def lineS (pre:List UInt8) (xs:List Int):List UInt8:=pre ++ nmzS xs ++ [10]
theorem k_line (pre:List UInt8) (xs:List Int) (hx:∀ x∈xs,0≤x∧x<100) (hp:pre.length≤1000) (hl:xs.length≤1000):Fun Tryd.prog nzx [strV pre,.ro none 1 (ints xs)] (strV (lineS pre xs)):=by
  refine fun_of mixed czbu rfl ⟨rfl,trivial⟩ ?_
  simp only [Az75,Bz74,Bz72,go_sem,yz0,xx9,xx8,xx6,xx7,xx5,xx0,xx1,xx2,reduceIte,xx3,xx4,reduceCtorEq]
  intro hM
  refine wpD_lo (fun (i:Nat)=>xs.length - i) (fun i=>i≤xs.length)
    (fun (i:Nat)=>⟨L .any [(0,strV (pre ++ nmzS (xs.take i))),(7,.ro none 1 (ints xs)),(8,iv xs.length),(9,iv i)],L .gone []⟩) 0 (Nat.zero_le _) (by simp only [Bz1c,nmzS,List.take_zero,List.flatMap_nil,List.append_nil,go_sem,yz0,xx9,xx8,xx6,xx7,xx5,xx0,xx1,xx2,reduceIte,xx3,xx4,reduceCtorEq];try rfl) ?_
  intro i hi
  have hi:i≤xs.length:=hi
  have hnl:=nmzS_len (xs:=xs.take i)
  rw [List.length_take] at hnl
  by_cases hlt:(i:Int)<xs.length
  · have hlt1:i<xs.length:=by omega
    have wi:IntKind.i64.wrap ((i:Int)+1)=((i+1:Nat):Int):=by rw [w64 (by omega)];simp
    have hxi:=hx _ (getD_mem hlt1 0)
    obtain ⟨y,hy⟩:∃ y:Nat,xs.getD i 0=(y:Int):=⟨(xs.getD i 0).toNat,by omega⟩
    have htk:xs.take (i+1)=xs.take i ++ [xs.getD i 0]:=by
      rw [List.take_succ_eq_append_getElem hlt1,List.getD_eq_getElem?_getD,List.getElem?_eq_getElem hlt1];rfl
    have hyl:=decS_len (n:=y)
    simp only [Bz1c,Bz3c,Bz71,decide_eq_true hlt,intsK_getD hlt1,hy,go_sem,yz0,xx9,xx8,xx6,xx7,xx5,xx0,xx1,xx2,reduceIte,xx3,xx4,reduceCtorEq]
    refine ⟨⟨by omega,hlt1⟩,hlt1,?_⟩
    simp only [Bz6z,go_sem,yz0,xx9,xx8,xx6,xx7,xx5,xx0,xx1,xx2,reduceIte,xx3,xx4,reduceCtorEq]
    intro vs
    refine yzq (k_decimal y (by omega)) qCS trivial ?_
    have c1:=ifcat (a:=[32]) (b:=decS y) (max_big (by simp;omega))
    have c2:=ifcat (a:=pre ++ nmzS (xs.take i)) (b:=32 :: decS y) (max_big (by rw [List.length_append,List.length_cons];omega))
    simp only [List.cons_append,List.nil_append] at c1
    simp only [Bz70,c1,c2,wi,go_sem,yz0,xx9,xx8,xx6,xx7,xx5,xx0,xx1,xx2,reduceIte,xx3,xx4,reduceCtorEq]
    refine ⟨i+1,by omega,by omega,?_⟩
    rw [htk,hy,nmzS_snoc,Int.toNat_natCast,List.append_assoc]
  · obtain rfl:i=xs.length:=by omega
    have hnl2:=nmzS_len (xs:=xs)
    have c1:=ifcat (a:=pre ++ nmzS xs) (b:=[10]) (max_big (by rw [List.length_append,List.length_singleton];omega))
    simp only [Bz1c,Bz3c,Bz73,decide_eq_false hlt,List.take_length,c1,lineS,go_sem,yz0,xx9,xx8,xx6,xx7,xx5,xx0,xx1,xx2,reduceIte,xx3,xx4,reduceCtorEq]
def lettS:List UInt8:=[108,101,116,116,101,114]
theorem ifcatN {a b:List UInt8} (h:a.length+b.length≤1000000000):∃ T:List UInt8,T=a ++ b∧T.length=a.length+b.length ∧
    (if (List.toArray a).size+(List.toArray b).size≤maxLen then some (Value.string ((⟨a.toArray⟩:ByteArray) ++ ⟨b.toArray⟩)) else none)=some (.string ⟨T.toArray⟩) :=
  ⟨_,rfl,List.length_append,ifcat (max_big h)⟩
end Go.Ab
namespace Go.Proofs
open Go.Shelf Go.RowKit Go.Lib
variable {P:Program} {ρ:Ren}
set_option maxHeartbeats 1000000 in
theorem split_byte (L:Lays.n146 P ρ) (hi9:(P.info? (ρ.t 9)).map (fun i=>(i.zero,i.size,i.bytes))=some (some (.string ByteArray.empty),1,16)) (s:ByteArray) (c:UInt8) (w:World) (hs:s.size<4294967281) :
    Calls P (ρ.f 146) #[.string s,.string ⟨#[c]⟩] w fun e w' =>
      e=.returned (.slice (some ⟨w.heap.size,0,none⟩) (Lib.countB s ⟨#[c]⟩+1) (Lib.countB s ⟨#[c]⟩+1))∧w'=w.alloc (.cells ((Lib.splitB ⟨#[c]⟩ 0 (Lib.countB s ⟨#[c]⟩) s).map Value.string).toArray (ρ.t 9)):=by
  have h1:1≤(⟨#[c]⟩:ByteArray).size:=Nat.le_refl _
  have hle:=Lib.countB_le ⟨#[c]⟩ h1 s.size s (Nat.le_refl _)
  have hlen:=Lib.splitB_all ⟨#[c]⟩ h1 0 _ s rfl
  have hcc:=Any.strings_genSplit_core { L with } hi9 s ⟨#[c]⟩ 0 (-1) (Lib.countB s ⟨#[c]⟩+1) w hs h1 (Nat.zero_le _)
    (fun x cc hx=>by
      refine (Any.strings_Index_one { L with } x c _).mono fun e w' ⟨he,hw⟩=>⟨?_,hw⟩
      rw [he]
      show _=Ending.returned (Value.int .i64 (Lib.index x.data.toList [c]))
      rw [Lib.index_one])
    (by
      refine (Any.strings_Count_one { L with } s c w).mono fun e w' ⟨he,hw⟩=>⟨?_,hw⟩
      rw [he]
      show _=Ending.returned (Value.int .i64 ((Lib.count s.data.toList [c]:Nat):Int))
      rw [Lib.count_one]
      rfl)
    (by decide) (by decide) (by rw [if_pos (by decide)];omega)
  rw [Nat.add_sub_cancel,hlen] at hcc
  have e2:Lib.cellsOf (Lib.splitB ⟨#[c]⟩ 0 (Lib.countB s ⟨#[c]⟩) s) (Lib.countB s ⟨#[c]⟩+1)=((Lib.splitB ⟨#[c]⟩ 0 (Lib.countB s ⟨#[c]⟩) s).map Value.string).toArray:=by rw [← hlen];exact Lib.cellsOf_full _
  rw [e2] at hcc
  have t3:=L.t3;have t9:=L.t9;have t31:=L.t31
  have a3:=L.a3;have a9:=L.a9;have a31:=L.a31
  have z3:=L.z3;have v3:=L.v3;have z9:=L.z9;have v9:=L.v9;have z31:=L.z31;have v31:=L.v31
  have e221:∀ args w,(callFunc (ρ.f 221) args).run P w=.ok (.enter (ρ.f 221) args) w:=enters_of L.f221 (by kernel_rfl) rfl
  go_enter L.f146,Body.n146_ntmps ρ
  go_wp2_with (go_at_fn (ρ.f 221);refine hcc.mono ?_;rintro e w' ⟨rfl,hw⟩;rw [hw])
  go_ret
  exact ⟨rfl,rfl⟩
end Go.Proofs
namespace Go.Ab
open Go Go.Proofs
structure Above (w w':World):Prop where
  size:w.heap.size≤w'.heap.size
  old:∀ b,b<w.heap.size→w'.heap[b]?=w.heap[b]?
  os:w'.os=w.os
  tape:w'.tape=w.tape
  drawn:w.drawn≤w'.drawn
  output:w'.output=w.output
theorem vals_of {c0:Cz}:∀ (bs us:List Value),RepL c0 (bs.map .val) us→us=bs
  | [],[],_=>rfl
  | [],_ :: _,h=>by simp [RepL] at h
  | _ :: _,[],h=>by simp [RepL] at h
  | b :: bs,u :: us,h=>by
    simp only [List.map_cons,RepL] at h
    rw [vals_of bs us h.2]
    have:u=b:=by simpa [Rep] using h.1
    rw [this]
theorem outHp_nil (r:Nat):outHp [] [] r=.gone:=by
  unfold outHp
  split
  · rfl
  · split
    · rfl
    · split <;> rfl
theorem good_above {c0:Cz} {outsB:Nat→Prop} (G:Good c0.w outsB c0) (hhp:c0.hp=outHp [] []) {w':World} (h:Above c0.w w'):Good c0.w outsB { c0 with w:=w',ext:=outsB }:=by
  have hgone:∀ r,c0.hp r=.gone:=fun r=>by rw [hhp];exact outHp_nil r
  exact
    { base:=G.base
      obj:=fun r=>by show ObjRep _ (c0.loc r) (c0.hp r);rw [hgone r];trivial
      inj:=G.inj,own:=G.own,verU:=G.verU,verInj:=G.verInj
      outExt:=fun b hb=>⟨hb,(G.outExt b hb).2⟩
      nam:=fun n b hn=>⟨(G.nam n b hn).1,(G.nam n b hn).2.1,Nat.lt_of_lt_of_le (G.nam n b hn).2.2.1 h.size,(G.nam n b hn).2.2.2⟩
      namInj:=G.namInj,fin:=G.fin
      os:=h.os.trans G.os,tape:=⟨h.tape.trans G.tape.1,Nat.le_trans G.tape.2 h.drawn⟩,output:=h.output.trans G.output
      size:=h.size,frame:=fun b hb _=>h.old b hb }
theorem fun_above {P:Program} {g:FuncId} {args:List Value} {r:Value} (hfn:∃ fn,P.funcs[g]?=some fn∧fn.body.isSome=true∧isNumG fn=false)
    (h:∀ w,Calls P g args.toArray w fun e w'=>e=.returned r∧Above w w') {R:AVal} (hR:∀ c,Rep c R r):Fun P g (args.map .val) R:=by
  refine ⟨hfn,fun c0 outsB vs G hhp hrep=>?_⟩
  obtain rfl:=vals_of args vs hrep
  refine (h c0.w).mono ?_
  rintro e w' ⟨he,hw⟩
  exact ⟨r,{ c0 with w:=w',ext:=outsB },[],[],R,⟨rfl,rfl,rfl⟩,he,rfl,good_above G hhp hw,hhp,hR _,fun b hb=>.inr hb,fun b hb=>hb,fun _ _ _ h=>⟨h,rfl⟩,fun _ h=>h⟩
theorem con_newrow {P:Program} {g:FuncId} {args A:List Value} {t:TypeId} (hfn:∃ fn,P.funcs[g]?=some fn∧fn.body.isSome=true∧isNumG fn=false) (hl:A.length≤1000000000)
    (h:∀ w,Calls P g args.toArray w fun e w'=>e=.returned (.slice (some ⟨w.heap.size,0,none⟩) A.length A.length)∧w'=w.alloc (.cells A.toArray t)) :
    Fn P g (args.map .val) fun rows res=>∃ v,rows=[.row v 1 true (A.map .val)]∧res=.own 6000 v:=by
  refine ⟨hfn,fun c0 outsB vs G hhp hrep=>?_⟩
  obtain rfl:=vals_of args vs hrep
  refine (h c0.w).mono ?_
  rintro e w' ⟨he,rfl⟩
  have G1:=good_above G hhp (w':=c0.w) ⟨Nat.le_refl _,fun _ _=>rfl,rfl,rfl,Nat.le_refl _,rfl⟩
  generalize hc1:({ c0 with w:=c0.w,ext:=outsB }:Cz)=c1 at G1
  have hw1:c1.w=c0.w:=by rw [← hc1]
  have hp1:c1.hp=outHp [] []:=by rw [← hc1];exact hhp
  have hx1:c1.ext=outsB:=by rw [← hc1]
  have ho1:c1.old=c0.old:=by rw [← hc1]
  have hu1:c1.used=c0.used:=by rw [← hc1]
  have hl1:c1.loc=c0.loc:=by rw [← hc1]
  rw [← hw1] at he ⊢
  clear hc1
  obtain ⟨mv,hmv⟩:=G1.fin
  have hver:¬ c1.used mv:=fun h=>Nat.lt_irrefl _ (hmv _ h)
  have hd:c1.hp 6000=.gone:=by rw [hp1];rfl
  have hmm:(1000000000:Nat)≤maxLen:=by decide
  have hG:=G1.new hd hver (.cells A.toArray t (0,0)) (.row mv 1 true (A.map .val)) (.slice (some ⟨c1.w.heap.size,0,none⟩) A.length A.length) rfl (c1.w.alloc (.cells A.toArray t)) rfl rfl rfl rfl
    (by intro b h;simp only [blockOf] at h;split at h <;> simp at h;exact h.symm)
    (fun K=>by
      refine ⟨_,A.length,A.length,rfl,by omega,by simp,Nat.le_refl _,by omega,by simp,.inr ⟨c1.w.heap.size,0,t,A.toArray,rfl,?_,by simp,?_⟩⟩
      · show (c1.w.heap.push _)[c1.w.heap.size]?=_
        simp
      · have e:((A.toArray.toList.drop 0).take (A.length * 1))=A:=by simp
        rw [e]
        exact repL_vals _)
  refine ⟨_,c1.upd (c1.w.alloc (.cells A.toArray t)) 6000 (.row mv 1 true (A.map .val)) (.slice (some ⟨c1.w.heap.size,0,none⟩) A.length A.length) mv,[],[.row mv 1 true (A.map .val)],.own 6000 mv,⟨rfl,mv,rfl,rfl⟩,he,rfl,?_,?_,?_,?_,?_,?_,?_⟩
  · have:=hG.1;rw [hw1] at this ⊢;exact this
  · funext n
    show (if n=6000 then _ else c1.hp n)=_
    by_cases e:n=6000
    · subst e;rfl
    · rw [if_neg e,hp1]
      unfold outHp
      split
      · rfl
      · split
        · rfl
        · split
          · have:1≤n - 6000:=by omega
            obtain ⟨j,hj⟩:=Nat.exists_eq_add_of_le this
            rw [hj,Nat.add_comm];rfl
          · rfl
  · simp only [Rep]
    exact ⟨.inr rfl,fun _=>by simp [Cz.upd]⟩
  · intro b hb
    have hb:c1.ext b:=hb
    rw [hx1] at hb;exact .inr hb
  · intro b hb
    have hb:c1.old b:=hb
    rw [ho1] at hb;exact hb
  · intro r v hv hr
    have hr:((if r=6000 then AObj.row mv 1 true (A.map .val) else c1.hp r)).ver=some v:=hr
    by_cases e:r=6000
    · rw [if_pos e] at hr
      cases hr
      rw [← hu1] at hv
      exact absurd hv hver
    · rw [if_neg e,hp1,outHp_nil] at hr;cases hr
  · intro v hv
    left
    rw [hu1];exact hv
theorem hi9S:(Tryd.prog.info? (Tryd.lsplit_ren.t 9)).map (fun i=>(i.zero,i.size,i.bytes))=some (some (.string ByteArray.empty),1,16):=by kernel_rfl
def splitL (c:UInt8):List UInt8→List (List UInt8)
  | []=>[[]]
  | b :: l=>if b=c then [] :: splitL c l else match splitL c l with
    | p :: ps=>(b :: p) :: ps
    | []=>[[b]]
theorem splitK_L (c:UInt8):∀ s:List UInt8,Lib.splitK [c] 0 (s.count c) s=splitL c s
  | []=>rfl
  | b :: l=>by
    have ih:=splitK_L c l
    by_cases h:b=c
    · subst h
      have hix:Lib.index (b :: l) [b]=0:=by rw [Lib.index];simp [List.isPrefixOf]
      rw [List.count_cons_self,Lib.splitK,hix]
      simp only [splitL,if_true]
      rw [if_neg (by decide)]
      simp only [Int.toNat_zero,Nat.add_zero,List.take_zero,Nat.zero_add,List.length_singleton,List.drop_succ_cons,List.drop_zero,ih]
    · rw [List.count_cons_of_ne h]
      have hix:Lib.index (b :: l) [c]=if Lib.index l [c] == -1 then -1 else Lib.index l [c]+1:=by
        rw [Lib.index]
        rw [if_neg (by simp [List.isPrefixOf,Ne.symm h])]
      simp only [splitL,if_neg h]
      rw [← ih]
      cases hc:l.count c with
      | zero=>simp only [Lib.splitK]
      | succ k =>
        have hge:=Lib.index_ge l [c]
        have hne:Lib.index l [c]≠-1:=fun e=>by
          have h1:=Lib.count_one c l
          rw [Lib.count_miss e,hc] at h1;omega
        obtain ⟨i,hi⟩:∃ i:Nat,Lib.index l [c]=i:=⟨(Lib.index l [c]).toNat,by omega⟩
        have hb1:¬ (Lib.index l [c] == -1)=true:=fun e=>hne (beq_iff_eq.1 e)
        rw [if_neg hb1] at hix
        have hb2:¬ (Lib.index (b :: l) [c] == -1)=true:=fun e=>by have:=beq_iff_eq.1 e;omega
        simp only [Lib.splitK,if_neg hb1,if_neg hb2]
        rw [hix,hi]
        have e1:((i:Int)+1).toNat=i+1:=by omega
        have e2:((i:Int)).toNat=i:=by omega
        rw [e1,e2]
        simp only [Nat.add_zero,List.take_succ_cons,List.length_singleton,List.drop_succ_cons]
theorem splitL_len (c:UInt8):∀ s:List UInt8,(splitL c s).length=s.count c+1
  | []=>rfl
  | b :: l=>by
    have ih:=splitL_len c l
    by_cases h:b=c
    · subst h;simp only [splitL,if_true,List.length_cons,ih,List.count_cons_self]
    · simp only [splitL,if_neg h]
      rw [List.count_cons_of_ne h]
      split
      · rename_i p ps he;rw [he] at ih;simpa using ih
      · rename_i he;rw [he] at ih;simp at ih
abbrev strs (L:List (List UInt8)):List AVal:=L.map strV
theorem split_vals (c:UInt8) (s:List UInt8):(Lib.splitB ⟨#[c]⟩ 0 (Lib.countB ⟨s.toArray⟩ ⟨#[c]⟩) ⟨s.toArray⟩).map Value.string=(splitL c s).map fun l=>Value.string ⟨l.toArray⟩:=by
  have h:=Lib.splitB_data ⟨#[c]⟩ 0 (Lib.countB ⟨s.toArray⟩ ⟨#[c]⟩) ⟨s.toArray⟩
  have hc:Lib.countB ⟨s.toArray⟩ ⟨#[c]⟩=s.count c:=Lib.count_one c s
  rw [hc] at h ⊢
  have h2:(Lib.splitB ⟨#[c]⟩ 0 (s.count c) ⟨s.toArray⟩).map (fun x=>x.data.toList)=splitL c s:=h.trans (splitK_L c s)
  rw [← h2,List.map_map]
  exact List.map_congr_left fun x _=>rfl
theorem k_Split (c:UInt8) (s:List UInt8) (hs:s.length≤1000000):Fn Tryd.prog nzf [strV s,strV [c]] fun rows res=>∃ v,rows=[.row v 1 true (strs (splitL c s))]∧res=.own 6000 v:=by
  have hl:=splitL_len c s
  have hcl:s.count c≤s.length:=List.count_le_length ..
  have h:=con_newrow (P:=Tryd.prog) (g:=nzf) (args:=[.string ⟨s.toArray⟩,.string ⟨#[c]⟩]) (A:=(splitL c s).map fun l=>Value.string ⟨l.toArray⟩) (t:=Tryd.lsplit_ren.t 9) x_strings_Split (by rw [List.length_map];omega) (fun w=>by
    have h:=split_byte Tryd.lsplit hi9S ⟨s.toArray⟩ c w (by show s.length<_;omega)
    rw [split_vals] at h
    have hc:Lib.countB ⟨s.toArray⟩ ⟨#[c]⟩=s.count c:=Lib.count_one c s
    rw [hc] at h
    have e:((splitL c s).map fun l=>Value.string ⟨l.toArray⟩).length=s.count c+1:=by rw [List.length_map,hl]
    rw [e]
    exact h)
  have e:((splitL c s).map fun l=>Value.string ⟨l.toArray⟩).map AVal.val=strs (splitL c s):=by rw [List.map_map];rfl
  rw [e] at h
  exact h
theorem above_bytes (w:World) (e:TypeId) (s:ByteArray):Above w (Lib.bytesWorld w e s):=by
  unfold Lib.bytesWorld
  have h1:Above w (w.drew.alloc (.cells (Lib.bytesCells w e s) e)) :=
    ⟨by show w.heap.size≤(w.heap.push _).size;simp,fun b hb=>by show (w.heap.push _)[b]?=_;rw [Array.getElem?_push,if_neg (by omega)],rfl,rfl,Nat.le_succ _,rfl⟩
  unfold World.freeze
  split
  · exact h1
  · refine ⟨by have:=h1.size;simpa using this,fun b hb=>?_,h1.os,h1.tape,h1.drawn,h1.output⟩
    show (Array.modify _ _ _)[b]?=_
    rw [Array.getElem?_modify,if_neg (by show ¬ w.heap.size=b;omega)]
    exact h1.old b hb
theorem parse_small:∀ n:Fin 100,Lib.parseIntB 64 (decS n.val)=.ok (n.val:Int):=by decide +kernel
theorem k_ParseInt (n:Nat) (h:n<100):Fun Tryd.prog nz2a [strV (decS n),iv 10,iv 64] (.tup [iv (n:Int),.val .nilIface]):=by
  have hp:=parse_small ⟨n,h⟩
  refine fun_above (args:=[.string ⟨(decS n).toArray⟩,.int .i64 10,.int .i64 64]) (r:=.tuple #[.int .i64 n,.nilIface]) x_strconv_ParseInt (fun w=>?_) (fun c=>by
    simp only [Rep]
    exact ⟨_,rfl,by simp [RepL,Rep]⟩)
  have hl:=decS_len (n:=n)
  refine (Any.strconv_ParseInt_10_at64_ok Tryd.lparse ⟨(decS n).toArray⟩ (by show (decS n).length≤_;omega) n hp w).mono ?_
  rintro e w' ⟨he,hw⟩
  refine ⟨he,?_⟩
  rcases hw with rfl | ⟨t,rfl⟩
  · exact ⟨Nat.le_refl _,fun _ _=>rfl,rfl,rfl,Nat.le_refl _,rfl⟩
  · exact above_bytes ..
end Go.Ab
namespace Go.Ab
open Go Go.Proofs
theorem splitL_none {c:UInt8}:∀ {a:List UInt8},c ∉ a→splitL c a=[a]
  | [],_=>rfl
  | b :: l,h=>by
    have hb:b≠c:=fun e=>h (by simp [e])
    simp only [splitL,if_neg hb,splitL_none (fun hc=>h (List.mem_cons_of_mem _ hc))]
theorem splitL_app {c:UInt8} {b:List UInt8}:∀ {a:List UInt8},c ∉ a→splitL c (a ++ c :: b)=a :: splitL c b
  | [],_=>by simp only [List.nil_append,splitL,if_true]
  | x :: l,h=>by
    have hb:x≠c:=fun e=>h (by simp [e])
    rw [List.cons_append]
    simp only [splitL,if_neg hb,splitL_app (b:=b) (fun hc=>h (List.mem_cons_of_mem _ hc))]
theorem decS_bytes:∀ n:Fin 100,(decS n.val).all (fun b=>decide (48≤b.toNat) && decide (b.toNat≤57))=true:=by decide +kernel
theorem decS_not {n:Nat} (h:n<100) {b:UInt8} (hb:b.toNat<48):b ∉ decS n:=fun hm=>by
  have h2:=List.all_eq_true.1 (decS_bytes ⟨n,h⟩) b hm
  simp only [Bool.and_eq_true,decide_eq_true_eq] at h2
  omega
theorem split_nums {pre:List UInt8}:∀ {xs:List Int},(∀ x∈xs,0≤x∧x<100)→(32:UInt8) ∉ pre→splitL 32 (pre ++ nmzS xs)=pre :: xs.map fun x=>decS x.toNat
  | [],_,h=>by simp only [nmzS,List.flatMap_nil,List.append_nil,List.map_nil];exact splitL_none h
  | x :: xs,hx,h=>by
    have h1:=hx x (by simp)
    have ih:=split_nums (pre:=decS x.toNat) (xs:=xs) (fun y hy=>hx y (by simp [hy])) (decS_not (by omega) (by decide))
    have e:pre ++ nmzS (x :: xs)=pre ++ 32 :: (decS x.toNat ++ nmzS xs):=by simp [nmzS]
    rw [e,splitL_app h,ih];rfl
theorem strs_getD {L:List (List UInt8)} {i:Nat} (h:i<L.length):(strs L).getD i .any=strV (L.getD i []):=by
  rw [List.getD_eq_getElem?_getD,List.getElem?_map,List.getElem?_eq_getElem h,List.getD_eq_getElem?_getD,List.getElem?_eq_getElem h];rfl
theorem dnL_strs {L:List (List UInt8)}:dnL (strs L)=strs L:=by
  induction L with
  | nil=>simp [dnL]
  | cons a L ih=>simp only [strs,List.map_cons,dnL,AVal.dn] at ih ⊢;rw [ih]
theorem renL_strs {f:Nat→Option Nat} {g:Nat→Nat} {L:List (List UInt8)}:renL f g (strs L)=strs L:=by
  induction L with
  | nil=>simp [renL]
  | cons a L ih=>simp only [strs,List.map_cons,renL,AVal.ren] at ih ⊢;rw [ih]
theorem call_vals {P:Program} {pu:Bool} {σ:St} {g:FuncId} {As args:List AVal} {d:Nat} {s:Nat→Nat} {K:St→Prop} {A:List AVal} (h:Fn P g args fun rows res=>∃ v,rows=[.row v 1 true A]∧res=.own 6000 v) (hco:CoeL σ.hp [] true args As)
    (hg:σ.hp d=.gone) (hr:∀ f g,renL f g A=A) (hk:∀ v,K (St.put ⟨σ.tm,upd σ.hp d (.row v 1 true A)⟩ (some d) (.own d v))):wpCall P pu σ g As (some d) s K:=by
  refine call_fn h hco (fun _=>⟨_,_,0,rfl,rfl⟩) ?_
  rintro rows res ⟨v,rfl,rfl⟩
  refine ⟨by simp,?_,?_⟩
  · rw [Option.getD_some,yzg];exact hg
  · rw [Option.getD_some,yz6,yzn,hr,List.length_singleton,yz4]
    exact hk _
theorem k_numbersBehind (pre:List UInt8) (xs:List Int) (hx:∀ x∈xs,0≤x∧x<100) (hp:(32:UInt8) ∉ pre) (hpl:pre.length≤1000) (hl:xs.length≤1000) :
    RowI Tryd.prog nz11 [strV (pre ++ nmzS xs)] (fun ys=>ys=xs):=by
  refine rowI_of mixed czc4 rfl ?_
  have hML:=maxLen_le
  have hnl:=nmzS_len (xs:=xs)
  have hS:=k_Split 32 (pre ++ nmzS xs) (by rw [List.length_append];omega)
  rw [split_nums hx hp] at hS
  simp only [Az88,Bz87,go_sem,yz0,xx9,xx8,xx6,xx7,xx5,xx0,xx1,xx2,reduceIte,xx3,xx4,reduceCtorEq]
  intro vs
  simp only [Bz86,go_sem,yz0,xx9,xx8,xx6,xx7,xx5,xx0,xx1,xx2,reduceIte,xx3,xx4,reduceCtorEq]
  intro vs2
  refine call_vals hS qCS rfl (fun _ _=>renL_strs) fun v=>?_
  have l1:Int.toNat 1=1:=rfl
  have l2:(0:Int)≤1:=by decide
  have l3:(strs (pre :: xs.map fun x=>decS x.toNat)).length=xs.length+1:=by simp
  have l4:((strs (pre :: xs.map fun x=>decS x.toNat)).take ((xs.length+1) * 1)).drop (1 * 1)=strs (xs.map fun x=>decS x.toNat):=by
    rw [List.take_of_length_le (by simp)];rfl
  have l5:(strs (xs.map fun x=>decS x.toNat)).length=xs.length:=by simp
  simp only [St.bound,l1,l2,l3,if_true,go_sem,yz0,xx9,xx8,xx6,xx7,xx5,xx0,xx1,xx2,reduceIte,xx3,xx4,reduceCtorEq]
  have l6:List.take xs.length (List.map strV (xs.map fun x=>decS x.toNat))=strs (xs.map fun x=>decS x.toNat):=List.take_of_length_le (by simp)
  rw [l6,l5]
  refine ⟨Nat.le_refl _,fun hM=>?_⟩
  simp only [Bz84,go_sem,yz0,xx9,xx8,xx6,xx7,xx5,xx0,xx1,xx2,reduceIte,xx3,xx4,reduceCtorEq]
  refine wpD_lo (fun (_,i)=>xs.length - i) (fun (_,i)=>i≤xs.length)
    (fun ((v8,i):Nat×Nat)=>⟨L .any [(3,.own 8 v8),(11,.own 10 (vs2 2 0)),(12,iv xs.length),(13,iv i)],L .gone [(8,.row v8 1 true (ints (xs.take i))),(10,.row (vs2 2 0) 1 true (strs (xs.map fun x=>decS x.toNat)))]⟩)
    (_,0) (Nat.zero_le _) (by simp only [Bz1k,dnL_strs,go_sem,yz0,xx9,xx8,xx6,xx7,xx5,xx0,xx1,xx2,reduceIte,xx3,xx4,reduceCtorEq];try rfl) ?_
  rintro ⟨v8,i⟩ hi
  have hi:i≤xs.length:=hi
  by_cases hlt:(i:Int)<xs.length
  · have hlt1:i<xs.length:=by omega
    have wi:IntKind.i64.wrap ((i:Int)+1)=((i+1:Nat):Int):=by rw [w64 (by omega)];simp
    have hxi:=hx _ (getD_mem hlt1 0)
    have hg:(xs.map fun x=>decS x.toNat).getD i []=decS (xs.getD i 0).toNat:=by
      rw [List.getD_eq_getElem?_getD,List.getElem?_map,List.getElem?_eq_getElem hlt1,List.getD_eq_getElem?_getD,List.getElem?_eq_getElem hlt1];rfl
    have hil:i<(xs.map fun x=>decS x.toNat).length:=by simpa using hlt1
    have hat:=strs_getD hil
    rw [hg] at hat
    have htk:xs.take i ++ [xs.getD i 0]=xs.take (i+1):=by
      rw [List.take_succ_eq_append_getElem hlt1,List.getD_eq_getElem?_getD,List.getElem?_eq_getElem hlt1];rfl
    have hpi:=k_ParseInt (xs.getD i 0).toNat (by omega)
    rw [show (((xs.getD i 0).toNat:Nat):Int)=xs.getD i 0 by omega] at hpi
    simp only [Bz1k,Bz3p,Bz83,decide_eq_true hlt,dnL_strs,go_sem,yz0,xx9,xx8,xx6,xx7,xx5,xx0,xx1,xx2,reduceIte,xx3,xx4,reduceCtorEq]
    refine ⟨⟨by omega,hlt1⟩,hlt1,?_⟩
    rw [hat]
    simp only [Bz81,dnL_strs,go_sem,yz0,xx9,xx8,xx6,xx7,xx5,xx0,xx1,xx2,reduceIte,xx3,xx4,reduceCtorEq]
    intro vs3
    refine yzq hpi qCS (by simp [AVal.plain]) ?_
    simp only [Bz80,Bz82,wi,dnL_strs,go_sem,yz0,xx9,xx8,xx6,xx7,xx5,xx0,xx1,xx2,reduceIte,xx3,xx4,reduceCtorEq]
    intro vs4
    rw [htk]
    exact ⟨⟨_,rfl,rfl⟩,by rw [List.length_take];omega,(vs4 3 0,i+1),by show xs.length - (i+1)<xs.length - i;omega,by show i+1≤_;omega,rfl⟩
  · obtain rfl:i=xs.length:=by omega
    simp only [Bz1k,Bz3p,Bz85,decide_eq_false hlt,List.take_length,dnL_strs,go_sem,yz0,xx9,xx8,xx6,xx7,xx5,xx0,xx1,xx2,reduceIte,xx3,xx4,reduceCtorEq]
    exact ⟨8,v8,xs,by omega,rfl,by simp only [go_sem,yz0,xx9,xx8,xx6,xx7,xx5,xx0,xx1,xx2,reduceIte,xx3,xx4,reduceCtorEq],rfl⟩
end Go.Ab
namespace Go.Ab
open Go Go.Proofs
def autS:List UInt8:=[97,117,116,111,109,97,116,111,110]
def autT (n:Int) (next:List (List Int)):List UInt8:=lineS autS [n,(next.length:Int)] ++ (next.map (lineS lettS)).flatten
def autTX (n:Int) (next:List (List Int)):List UInt8:=if autB n next=true then autT n next else []
theorem lineS_len {pre:List UInt8} {xs:List Int}:(lineS pre xs).length≤pre.length+3 * xs.length+1:=by
  have:=nmzS_len (xs:=xs)
  unfold lineS
  rw [List.length_append,List.length_append,List.length_singleton];omega
theorem lines_len {m:Nat}:∀ {xss:List (List Int)},(∀ xs∈xss,xs.length≤m)→((xss.map (lineS lettS)).flatten).length≤(7+3 * m) * xss.length
  | [],_=>by simp
  | xs :: xss,h=>by
    have h1:=lines_len (m:=m) (xss:=xss) fun ys hy=>h ys (by simp [hy])
    have h2:=lineS_len (pre:=lettS) (xs:=xs)
    have h3:=h xs (by simp)
    rw [List.map_cons,List.flatten_cons,List.length_append,List.length_cons,Nat.mul_succ]
    have:lettS.length=6:=rfl
    omega
theorem k_AutomatonText (n:Int) (next:List (List Int)):Fun Tryd.prog nzu [autA n next] (strV (autTX n next)):=by
  refine fun_of mixed czbn rfl ⟨rfl,trivial⟩ ?_
  have hML:=maxLen_le
  simp only [Az5u,Bz5t,go_sem,yz0,xx9,xx8,xx6,xx7,xx5,xx0,xx1,xx2,reduceIte,xx3,xx4,reduceCtorEq]
  intro vs vs1
  refine yzq (k_Valid n next) qCS trivial ?_
  cases hm:autB n next with
  | false=>simp only [Bz2o,Bz2q,autTX,hm,Bool.not_false,Bool.false_eq_true,go_sem,yz0,xx9,xx8,xx6,xx7,xx5,xx0,xx1,xx2,reduceIte,xx3,xx4,reduceCtorEq]
  | true =>
    have A:=autB_iff.1 hm
    have n1:=A.n1
    have n2:=A.n2
    have l2:=A.l2
    simp only [Bz2o,Bz2q,autTX,hm,Bool.not_true,if_true,go_sem,yz0,xx9,xx8,xx6,xx7,xx5,xx0,xx1,xx2,reduceIte,xx3,xx4,reduceCtorEq]
    intro vs2
    refine yzq (k_letters n next) qCS trivial ?_
    simp only [go_sem,yz0,xx9,xx8,xx6,xx7,xx5,xx0,xx1,xx2,reduceIte,xx3,xx4,reduceCtorEq]
    refine ⟨⟨⟨_,rfl,rfl⟩,⟨_,rfl,rfl⟩⟩,?_⟩
    have hk:[AVal.val (Value.int .i64 n),AVal.val (Value.int .i64 (next.length:Int))]=ints [n,(next.length:Int)]:=rfl
    rw [hk]
    refine yzq (k_line autS [n,(next.length:Int)] (fun x hx=>by
      simp only [List.mem_cons,List.not_mem_nil,or_false] at hx
      rcases hx with rfl | rfl <;> omega) (by decide) (by simp)) (by simp only [rowIs,boxIs,coe_argN,coe_argNs,coe_ro_o,coeL_nil,yzp,coe_any,coe_val,coe_ro,coe_ro_nil,coe_ro_own,coe_st,coe_st_agg,coe_rp,coe_rp_ptr,coe_clo,coe_own0,coe_ptr0,yzw,coeL_rws,coeL_rwn,L_hit,L_miss,L_nil,xx3,ne_eq,reduceCtorEq,not_false_eq_true,true_and,and_true,and_self,exists_eq_left,exists_eq_right,List.mem_cons,List.not_mem_nil,or_false,AObj.row.injEq,AObj.box.injEq,exists_eq_left',exists_and_left,exists_eq,Nat.zero_lt_one,Nat.lt_add_one,List.map_cons,List.map_nil,AObj.ver,xx5,not_true_eq_false];rfl) trivial ?_
    have hHl:=lineS_len (pre:=autS) (xs:=[n,(next.length:Int)])
    simp only [List.length_cons,List.length_nil,show autS.length=9 from rfl] at hHl
    unfold autT
    generalize lineS autS [n,(next.length:Int)]=T6 at hHl
    simp only [Bz5s,Bz5q,go_sem,yz0,xx9,xx8,xx6,xx7,xx5,xx0,xx1,xx2,reduceIte,xx3,xx4,reduceCtorEq]
    try intro hM0
    refine wpD_lo (fun (k:Nat)=>next.length - k) (fun k=>k≤next.length)
      (fun (k:Nat)=>⟨L .any [(3,strV (T6 ++ ((next.take k).map (lineS lettS)).flatten)),(16,.ro none 1 (rwn next)),(17,iv next.length),(18,iv k)],L .gone [(1,.box (vs 0 0) [iv n,.ro none 1 (rwn next)])]⟩) 0 (Nat.zero_le _) (by simp only [Bz16,List.take_zero,List.map_nil,List.flatten_nil,List.append_nil,go_sem,yz0,xx9,xx8,xx6,xx7,xx5,xx0,xx1,xx2,reduceIte,xx3,xx4,reduceCtorEq];try rfl) ?_
    intro k hk
    have hk:k≤next.length:=hk
    have hrl:∀ xs∈next,xs.length≤10:=fun xs hx=>by have:=(A.row xs hx).1;omega
    have htl:=lines_len (m:=10) (xss:=next.take k) fun xs hx=>hrl xs (List.mem_of_mem_take hx)
    rw [List.length_take] at htl
    have hnn:(7+3 * 10) * min k next.length≤37 * 3:=Nat.mul_le_mul (Nat.le_refl _) (by omega)
    by_cases hlt:(k:Int)<next.length
    · have hlt1:k<next.length:=by omega
      have wk:IntKind.i64.wrap ((k:Int)+1)=((k+1:Nat):Int):=by rw [w64 (by omega)];simp
      have hr1:=A.row _ (getD_mem hlt1 [])
      have htk:next.take (k+1)=next.take k ++ [next.getD k []]:=by
        rw [List.take_succ_eq_append_getElem hlt1,List.getD_eq_getElem?_getD,List.getElem?_eq_getElem hlt1];rfl
      simp only [Bz16,Bz2p,Bz5p,decide_eq_true hlt,rwn_getD hlt1,go_sem,yz0,xx9,xx8,xx6,xx7,xx5,xx0,xx1,xx2,reduceIte,xx3,xx4,reduceCtorEq]
      refine ⟨⟨by omega,hlt1⟩,hlt1,?_⟩
      simp only [Bz5n,go_sem,yz0,xx9,xx8,xx6,xx7,xx5,xx0,xx1,xx2,reduceIte,xx3,xx4,reduceCtorEq]
      intro vs3
      refine yzq (k_line lettS (next.getD k []) (fun x hx=>by have:=hr1.2 x hx;omega) (by decide) (by omega)) (by simp only [rowIs,boxIs,coe_argN,coe_argNs,coe_ro_o,coeL_nil,yzp,coe_any,coe_val,coe_ro,coe_ro_nil,coe_ro_own,coe_st,coe_st_agg,coe_rp,coe_rp_ptr,coe_clo,coe_own0,coe_ptr0,yzw,coeL_rws,coeL_rwn,L_hit,L_miss,L_nil,xx3,ne_eq,reduceCtorEq,not_false_eq_true,true_and,and_true,and_self,exists_eq_left,exists_eq_right,List.mem_cons,List.not_mem_nil,or_false,AObj.row.injEq,AObj.box.injEq,exists_eq_left',exists_and_left,exists_eq,Nat.zero_lt_one,Nat.lt_add_one,List.map_cons,List.map_nil,AObj.ver,xx5,not_true_eq_false];rfl) trivial ?_
      have hll:=lineS_len (pre:=lettS) (xs:=next.getD k [])
      have h6:lettS.length=6:=rfl
      obtain ⟨U,hU,hul,u1⟩:=ifcatN (a:=T6 ++ ((next.take k).map (lineS lettS)).flatten) (b:=lineS lettS (next.getD k [])) (by rw [List.length_append];omega)
      have hU2:U=T6 ++ ((next.take (k+1)).map (lineS lettS)).flatten:=by
        rw [hU,htk];simp
      simp only [u1,Bz5o,wk,go_sem,yz0,xx9,xx8,xx6,xx7,xx5,xx0,xx1,xx2,reduceIte,xx3,xx4,reduceCtorEq]
      exact ⟨k+1,by omega,by omega,by rw [hU2]⟩
    · obtain rfl:k=next.length:=by omega
      simp only [Bz16,Bz2p,Bz5r,decide_eq_false hlt,List.take_length,go_sem,yz0,xx9,xx8,xx6,xx7,xx5,xx0,xx1,xx2,reduceIte,xx3,xx4,reduceCtorEq]
      try (intro hM0;rfl)
end Go.Ab
namespace Go.Ab
open Go Go.Proofs
def headS (n:Int) (next:List (List Int)):List UInt8:=autS ++ nmzS [n,(next.length:Int)]
def rowL (xs:List Int):List UInt8:=lettS ++ nmzS xs
def joinS (L:List (List UInt8)):List UInt8:=(L.map fun l=>l ++ [10]).flatten
theorem split_join {a:List UInt8} (ha:(10:UInt8) ∉ a):∀ {L:List (List UInt8)},(∀ l∈L,(10:UInt8) ∉ l)→splitL 10 (joinS L ++ a)=L ++ [a]
  | [],_=>by simp only [joinS,List.map_nil,List.flatten_nil,List.nil_append];exact splitL_none ha
  | l :: L,h=>by
    have ih:=split_join ha (L:=L) fun x hx=>h x (by simp [hx])
    have e:joinS (l :: L) ++ a=l ++ 10 :: (joinS L ++ a):=by simp [joinS]
    rw [e,splitL_app (h l (by simp)),ih];rfl
theorem lines_eq {next:List (List Int)}:(next.map (lineS lettS)).flatten=joinS (next.map rowL):=by
  induction next with
  | nil=>rfl
  | cons a l ih =>
    rw [List.map_cons,List.flatten_cons,ih]
    simp [joinS,rowL,lineS]
theorem autT_join {n:Int} {next:List (List Int)}:autT n next=joinS (headS n next :: next.map rowL):=by
  rw [autT,lines_eq]
  simp [joinS,headS,lineS]
theorem nmzS_not {xs:List Int} (h:∀ x∈xs,0≤x∧x<100):(10:UInt8) ∉ nmzS xs:=by
  unfold nmzS
  rw [List.mem_flatMap]
  rintro ⟨x,hx,hm⟩
  have:=h x hx
  rcases List.mem_cons.1 hm with e | hm
  · exact absurd e (by decide)
  · exact decS_not (by omega) (by decide) hm
theorem line_not {pre:List UInt8} {xs:List Int} (hp:(10:UInt8) ∉ pre) (h:∀ x∈xs,0≤x∧x<100):(10:UInt8) ∉ pre ++ nmzS xs:=fun hm=>by
  rcases List.mem_append.1 hm with hm | hm
  · exact hp hm
  · exact nmzS_not h hm
theorem aut_split {n:Int} {next:List (List Int)} (A:Aut n next):splitL 10 (autT n next)=headS n next :: (next.map rowL ++ [[]])∧splitL 10 (autT n next).dropLast=headS n next :: next.map rowL:=by
  have n1:=A.n1
  have n2:=A.n2
  have l1:=A.l1
  have l2:=A.l2
  have hh:(10:UInt8) ∉ headS n next:=line_not (by decide) fun x hx=>by
    simp only [List.mem_cons,List.not_mem_nil,or_false] at hx
    rcases hx with rfl | rfl <;> omega
  have hr:∀ l∈next.map rowL,(10:UInt8) ∉ l:=fun l hl=>by
    obtain ⟨xs,hx,rfl⟩:=List.mem_map.1 hl
    exact line_not (by decide) fun x hx2=>by have:=(A.row xs hx).2 x hx2;omega
  have hall:∀ l∈headS n next :: next.map rowL,(10:UInt8) ∉ l:=fun l hl=>by
    rcases List.mem_cons.1 hl with rfl | hl
    · exact hh
    · exact hr l hl
  constructor
  · have:=split_join (a:=[]) (by simp) hall
    rw [List.append_nil] at this
    rw [autT_join,this];rfl
  · obtain ⟨L,a,hLa⟩:∃ L a,headS n next :: next.map rowL=L ++ [a]:=⟨_,_,(List.dropLast_concat_getLast (by simp)).symm⟩
    have e:(autT n next).dropLast=joinS L ++ a:=by
      rw [autT_join,hLa]
      have:joinS (L ++ [a])=(joinS L ++ a) ++ [10]:=by simp [joinS]
      rw [this,List.dropLast_concat]
    rw [e,split_join (hall a (by rw [hLa];simp)) (fun l hl=>hall l (by rw [hLa];simp [hl])),hLa]
theorem strs_len {L:List (List UInt8)}:(strs L).length=L.length:=by simp
theorem str_beq {a b:List UInt8}:((⟨a.toArray⟩:ByteArray).toList == (⟨b.toArray⟩:ByteArray).toList)=decide (a=b):=by
  rw [Lib.toList_data,Lib.toList_data]
  by_cases h:a=b <;> simp [h]
theorem k_ReadAut (n:Int) (next:List (List Int)) (A:Aut n next) (T:List UInt8) (E:List (List UInt8)) (hE:E=[]∨E=[[]]) (hT:splitL 10 T=headS n next :: (next.map rowL ++ E)) (hl:T.length≤2000) :
    Fn Tryd.prog nzv [strV T] fun rows res=>if T=autT n next then ∃ v,rows=[.row v 1 true (rws next)]∧res=.tup [.st [iv n,.own 6000 v],iv 0] else rows=[]∧res=.tup [.st [iv 0,nilS],iv 5]:=by
  refine con_of mixed czbo rfl (by simp) ?_
  have n1:=A.n1
  have n2:=A.n2
  have l1:=A.l1
  have l2:=A.l2
  have hML:=maxLen_le
  have hS:=k_Split 10 T (by omega)
  rw [hT] at hS
  have h0:decide ((2000:Int)<(T.length:Int))=false:=decide_eq_false (by omega)
  have hsz:(⟨T.toArray⟩:ByteArray).size=T.length:=rfl
  generalize hQ:finQ _=Q
  simp only [Az18,Bz65,hsz,go_sem,yz0,xx9,xx8,xx6,xx7,xx5,xx0,xx1,xx2,reduceIte,xx3,xx4,reduceCtorEq]
  intro vs
  rw [h0]
  simp only [Bz5v,Bz64,go_sem,yz0,xx9,xx8,xx6,xx7,xx5,xx0,xx1,xx2,reduceIte,xx3,xx4,reduceCtorEq]
  try intro vs1
  refine call_vals hS qCS rfl (fun _ _=>renL_strs) fun v=>?_
  have l3:(strs (headS n next :: (next.map rowL ++ E))).length=next.length+E.length+1:=by simp
  have hg0:(strs (headS n next :: (next.map rowL ++ E))).getD 0 .any=strV (headS n next):=rfl
  simp only [Bz63,dnL_strs,go_sem,yz0,xx9,xx8,xx6,xx7,xx5,xx0,xx1,xx2,reduceIte,xx3,xx4,reduceCtorEq]
  intro vs2
  have hhd:∀ x∈[n,(next.length:Int)],0≤x∧x<100:=fun x hx=>by
    simp only [List.mem_cons,List.not_mem_nil,or_false] at hx
    rcases hx with rfl | rfl <;> omega
  refine call_rowI (k_numbersBehind autS [n,(next.length:Int)] hhd (by decide) (by decide) (by simp)) (by simp only [rowIs,boxIs,coe_argN,coe_argNs,coe_ro_o,coeL_nil,yzp,coe_any,coe_val,coe_ro,coe_ro_nil,coe_ro_own,coe_st,coe_st_agg,coe_rp,coe_rp_ptr,coe_clo,coe_own0,coe_ptr0,yzw,coeL_rws,coeL_rwn,L_hit,L_miss,L_nil,xx3,ne_eq,reduceCtorEq,not_false_eq_true,true_and,and_true,and_self,exists_eq_left,exists_eq_right,List.mem_cons,List.not_mem_nil,or_false,AObj.row.injEq,AObj.box.injEq,exists_eq_left',exists_and_left,exists_eq,Nat.zero_lt_one,Nat.lt_add_one,List.map_cons,List.map_nil,AObj.ver,xx5,not_true_eq_false];rfl) rfl ⟨_,rfl⟩ ?_
  rintro xs v18 rfl
  simp only [Bz62,Bz5w,List.length_cons,List.length_nil,dnL_strs,go_sem,yz0,xx9,xx8,xx6,xx7,xx5,xx0,xx1,xx2,reduceIte,xx3,xx4,reduceCtorEq]
  refine fun hM2=>⟨fun _=>?_,fun h=>absurd h (by decide)⟩
  have lc:strV (headS n next) :: strs (next.map rowL ++ E)=strs (headS n next :: (next.map rowL ++ E)):=rfl
  rw [lc]
  have q1:Int.toNat 1=1:=rfl
  have q2:(0:Int)≤1:=by decide
  have q4:((strs (headS n next :: (next.map rowL ++ E))).take ((next.length+E.length+1) * 1)).drop (1 * 1)=strs (next.map rowL ++ E):=by
    rw [List.take_of_length_le (by simp)];rfl
  have q5:(strs (next.map rowL ++ E)).length=next.length+E.length:=by simp
  simp only [Bz61,St.bound,q1,q2,l3,if_true,dnL_strs,go_sem,yz0,xx9,xx8,xx6,xx7,xx5,xx0,xx1,xx2,reduceIte,xx3,xx4,reduceCtorEq]
  intro vs3
  have q6:List.take (next.map rowL ++ E).length (strs (next.map rowL ++ E))=strs (next.map rowL ++ E):=List.take_of_length_le (by simp)
  have q7:((next.map rowL ++ E).length:Int)=((next.length+E.length:Nat):Int):=by simp
  rw [q6,strs_len,q7]
  refine ⟨Nat.le_refl _,fun hM3=>?_⟩
  simp only [Bz5y,dnL_strs,go_sem,yz0,xx9,xx8,xx6,xx7,xx5,xx0,xx1,xx2,reduceIte,xx3,xx4,reduceCtorEq]
  intro ver
  refine wpD_lo (fun (_,_,_,i)=>next.length+E.length - i) (fun (nn,_,_,i)=>i≤next.length+E.length∧(0<i→nn=true))
    (fun ((nn,v6,va,i):Bool×Nat×Nat×Nat)=>⟨L .any [(0,strV T),(2,.ptr 2 (vs 0 0) 0),(6,.ptr 6 v6 0),(28,.own 14 (vs3 1 0)),(29,iv (next.length+E.length:Nat)),(30,iv i)],
      L .gone [(2,.box (vs 0 0) [iv 0,nilS]),(6,.box v6 [iv n,.own 41 va]),(14,.row (vs3 1 0) 1 true (strs (next.map rowL ++ E))),(18,.row v18 1 true (ints [n,(next.length:Int)])),(41,.row va 1 nn (rws (next.take i)))]⟩)
    (_,_,_,0) ⟨Nat.zero_le _,by simp⟩ (by simp only [Bz17,List.take_zero,rws,List.map_nil,dnL_strs,go_sem,yz0,xx9,xx8,xx6,xx7,xx5,xx0,xx1,xx2,reduceIte,xx3,xx4,reduceCtorEq];try rfl) ?_
  rintro ⟨nn,v6,va,i⟩ ⟨hi,hnn⟩
  have hi:i≤next.length+E.length:=hi
  have hnn:0<i→nn=true:=hnn
  by_cases hlt:(i:Int)<(next.length+E.length:Nat)
  · have hlt1:i<next.length+E.length:=by omega
    have hlt2:i<(next.map rowL ++ E).length:=by simpa using hlt1
    have hat:=strs_getD hlt2
    have wi:IntKind.i64.wrap ((i:Int)+1)=((i+1:Nat):Int):=by rw [w64 (by omega)];simp
    simp only [Bz17,Bz2u,Bz5x,decide_eq_true hlt,dnL_strs,go_sem,yz0,xx9,xx8,xx6,xx7,xx5,xx0,xx1,xx2,reduceIte,xx3,xx4,reduceCtorEq]
    refine ⟨⟨by omega,hlt2⟩,hlt2,?_⟩
    rw [hat]
    by_cases hn:i<next.length
    · have hgi:(next.map rowL ++ E).getD i []=rowL (next.getD i []):=by
        rw [List.getD_eq_getElem?_getD,List.getElem?_append_left (by simpa using hn),List.getElem?_map,List.getElem?_eq_getElem hn,List.getD_eq_getElem?_getD,List.getElem?_eq_getElem hn];rfl
      rw [hgi]
      have hr1:=A.row _ (getD_mem hn [])
      simp only [Bz2s,dnL_strs,go_sem,yz0,xx9,xx8,xx6,xx7,xx5,xx0,xx1,xx2,reduceIte,xx3,xx4,reduceCtorEq]
      rw [str_beq,decide_eq_false (show ¬ rowL (next.getD i [])=[] by simp [rowL,lettS])]
      simp only [Bz2r,Bool.not_false,dnL_strs,go_sem,yz0,xx9,xx8,xx6,xx7,xx5,xx0,xx1,xx2,reduceIte,xx3,xx4,reduceCtorEq]
      intro vs4
      refine call_rowI (k_numbersBehind lettS (next.getD i []) (fun x hx=>by have:=hr1.2 x hx;omega) (by decide) (by decide) (by omega)) (by simp only [rowIs,boxIs,coe_argN,coe_argNs,coe_ro_o,coeL_nil,yzp,coe_any,coe_val,coe_ro,coe_ro_nil,coe_ro_own,coe_st,coe_st_agg,coe_rp,coe_rp_ptr,coe_clo,coe_own0,coe_ptr0,yzw,coeL_rws,coeL_rwn,L_hit,L_miss,L_nil,xx3,ne_eq,reduceCtorEq,not_false_eq_true,true_and,and_true,and_self,exists_eq_left,exists_eq_right,List.mem_cons,List.not_mem_nil,or_false,AObj.row.injEq,AObj.box.injEq,exists_eq_left',exists_and_left,exists_eq,Nat.zero_lt_one,Nat.lt_add_one,List.map_cons,List.map_nil,AObj.ver,xx5,not_true_eq_false];rfl) rfl ⟨_,rfl⟩ ?_
      rintro xs v39 rfl
      have htk:next.take i ++ [next.getD i []]=next.take (i+1):=by
        rw [List.take_succ_eq_append_getElem hn,List.getD_eq_getElem?_getD,List.getElem?_eq_getElem hn];rfl
      simp only [Bz2t,wi,dnL_strs,go_sem,yz0,xx9,xx8,xx6,xx7,xx5,xx0,xx1,xx2,reduceIte,xx3,xx4,reduceCtorEq]
      rw [htk]
      exact ⟨by rw [List.length_take];omega,(true,v6,vs4 5 0,i+1),by show next.length+E.length - (i+1)<next.length+E.length - i;omega,⟨by show i+1≤_;omega,fun _=>rfl⟩,rfl⟩
    · have hgi:(next.map rowL ++ E).getD i []=[]:=by
        obtain rfl | rfl:=hE
        · simp only [List.length_nil] at hlt1;omega
        · have:i=next.length:=by simp only [List.length_cons,List.length_nil] at hlt1;omega
          subst this
          rw [List.getD_eq_getElem?_getD,List.getElem?_append_right (by simp)];simp
      rw [hgi]
      have htk:next.take i=next.take (i+1):=by rw [List.take_of_length_le (by omega),List.take_of_length_le (by omega)]
      simp only [Bz2s,Bz2r,Bz2t,wi,dnL_strs,go_sem,yz0,xx9,xx8,xx6,xx7,xx5,xx0,xx1,xx2,reduceIte,xx3,xx4,reduceCtorEq]
      exact ⟨(nn,v6,va,i+1),by show next.length+E.length - (i+1)<next.length+E.length - i;omega,⟨by show i+1≤_;omega,fun _=>hnn (by omega)⟩,by rw [htk]⟩
  · obtain rfl:i=next.length+E.length:=by omega
    have htk:next.take (next.length+E.length)=next:=List.take_of_length_le (by omega)
    simp only [Bz17,Bz2u,Bz60,decide_eq_false hlt,htk,dnL_strs,go_sem,yz0,xx9,xx8,xx6,xx7,xx5,xx0,xx1,xx2,reduceIte,xx3,xx4,reduceCtorEq]
    intro vs4
    have hA:=autB_iff.2 A
    have hnn:=hnn (by omega)
    subst hnn
    have hX:autTX n next=autT n next:=if_pos hA
    refine yzq (k_Valid n next) qCS trivial ?_
    simp only [hA,go_sem,yz0,xx9,xx8,xx6,xx7,xx5,xx0,xx1,xx2,reduceIte,xx3,xx4,reduceCtorEq]
    refine yzq (k_AutomatonText n next) qCS trivial ?_
    rw [hX]
    simp only [go_sem,yz0,xx9,xx8,xx6,xx7,xx5,xx0,xx1,xx2,reduceIte,xx3,xx4,reduceCtorEq]
    rw [str_beq]
    by_cases hT:T=autT n next
    · subst hT
      simp only [decide_true,Bool.not_true,Bz2v,Bz5z,Az18,← hQ,dnL_strs,go_sem,yz0,xx9,xx8,xx6,xx7,xx5,xx0,xx1,xx2,reduceIte,xx3,xx4,reduceCtorEq]
      refine ⟨[41],by simp,by simp,by simp,?_⟩
      simp only [range1,List.length_singleton,Nat.not_lt_zero,range1,ren_val,ren_any,ren_ro,rnNm_n,rnNm_sn,rnNm_o,rnNm_s,ren_st,ren_tup,yzr,yzh,yz5,yzt,yzv,yzo,yzn,yzx,yzb,yza,yzc,yzd,yzj,yzk,yz4,yz8,yz9,yzf,yzl,yzm,List.range_zero,yz7,yz6,yze,yzu,yzg,yzs,AVal.fresh,freshL,yz3,yzi,AObj.fresh,id,Option.isSome_some,or_true,true_or,go_sem,yz0,xx9,xx8,xx6,xx7,xx5,xx0,xx1,xx2,reduceIte,xx3,xx4,reduceCtorEq]
      exact ⟨va,rfl,rfl⟩
    · rw [decide_eq_false (fun e=>hT e.symm)]
      simp only [Bool.not_false,Bz2v,Az18,← hQ,if_neg hT,dnL_strs,go_sem,yz0,xx9,xx8,xx6,xx7,xx5,xx0,xx1,xx2,reduceIte,xx3,xx4,reduceCtorEq]
      refine ⟨[],by simp,by simp,by simp,?_⟩
      simp only [Nat.not_lt_zero,range1,ren_val,ren_any,ren_ro,rnNm_n,rnNm_sn,rnNm_o,rnNm_s,ren_st,ren_tup,yzr,yzh,yz5,yzt,yzv,yzo,yzn,yzx,yzb,yza,yzc,yzd,yzj,yzk,yz4,yz8,yz9,yzf,yzl,yzm,List.range_zero,yz7,yz6,yze,yzu,yzg,yzs,AVal.fresh,freshL,yz3,yzi,AObj.fresh,id,Option.isSome_some,or_true,true_or,go_sem,yz0,xx9,xx8,xx6,xx7,xx5,xx0,xx1,xx2,reduceIte,xx3,xx4,reduceCtorEq]
end Go.Ab
namespace Go.Ab
open Go Go.Proofs
def lettB (x:Int):UInt8:=UInt8.ofNat (97+x).toNat
def wtS (w:List Int):List UInt8:=if w=[] then [45] else w.map lettB
def IsW4 (w:List Int):Prop:=w.length≤400∧∀ x∈w,0≤x∧x≤2
theorem lettB_int {x:Int} (h:0≤x∧x≤2):((lettB x).toNat:Int)=97+x:=by
  unfold lettB
  rw [UInt8.toNat_ofNat'];omega
theorem u8l {x:Int} (h:0≤x∧x≤2):IntKind.u8.wrap (IntKind.i64.wrap (97+x))=97+x:=by
  rw [w64 (by omega)]
  unfold IntKind.wrap
  simp [IntKind.bits,IntKind.signed]
  omega
theorem k_WordText (w:List Int) (hw:IsW4 w):Fun Tryd.prog nzw [.ro none 1 (ints w)] (strV (wtS w)):=by
  obtain ⟨hl,hx⟩:=hw
  refine fun_of mixed czbq rfl ⟨rfl,trivial⟩ ?_
  have h0:decide ((400:Int)<(w.length:Int))=false:=decide_eq_false (by omega)
  have hA:allIn w 0 2=true:=allIn_iff.2 fun x h=>hx x h
  simp only [Az6g,Bz6f,h0,go_sem,yz0,xx9,xx8,xx6,xx7,xx5,xx0,xx1,xx2,reduceIte,xx3,xx4,reduceCtorEq]
  intro vs hM
  refine yzq (k_areWithin w 0 2) qCS trivial ?_
  simp only [hA,Bz66,Bz6e,go_sem,yz0,xx9,xx8,xx6,xx7,xx5,xx0,xx1,xx2,reduceIte,xx3,xx4,reduceCtorEq]
  by_cases hn:w=[]
  · subst hn
    simp only [Bz36,wtS,go_sem,yz0,xx9,xx8,xx6,xx7,xx5,xx0,xx1,xx2,reduceIte,xx3,xx4,reduceCtorEq]
    exact fun _ h=>absurd h (by decide)
  · have hlp:0<w.length:=List.length_pos_iff.2 hn
    have h1:((w.length:Int) == 0)=false:=beq_eq_false_iff_ne.2 (by omega)
    simp only [h1,Bz36,Bz6d,Bz6c,Bz6a,wtS,if_neg hn,go_sem,yz0,xx9,xx8,xx6,xx7,xx5,xx0,xx1,xx2,reduceIte,xx3,xx4,reduceCtorEq]
    intro _ vs1 _
    have hM2:=maxLen_le
    refine wpD_lo (fun (_,i)=>w.length - i) (fun (_,i)=>i≤w.length)
      (fun ((v,i):Nat×Nat)=>⟨L .any [(3,.own 17 v),(18,.ro none 1 (ints w)),(19,iv w.length),(20,iv i)],L .gone [(17,.row v 1 true (intsK .u8 ((w.take i).map fun x=>97+x)))]⟩) (_,0) (by simp) (by simp only [Bz19,go_sem,yz0,xx9,xx8,xx6,xx7,xx5,xx0,xx1,xx2,reduceIte,xx3,xx4,reduceCtorEq];try rfl) ?_
    rintro ⟨v,i⟩ hi
    have hi:i≤w.length:=hi
    by_cases hlt:(i:Int)<w.length
    · have hlt1:i<w.length:=by omega
      have hxi:=hx _ (getD_mem hlt1 0)
      have hr:(w.take i).map (fun x=>97+x) ++ [97+w.getD i 0]=(w.take (i+1)).map fun x=>97+x:=by
        rw [List.take_add_one,List.map_append,List.getD_eq_getElem?_getD,List.getElem?_eq_getElem hlt1];rfl
      simp only [Bz19,Bz37,Bz69,Bz67,Bz68,intsK_getD hlt1,nat1 i _ hlt1 hM,decide_eq_true hlt,go_sem,yz0,xx9,xx8,xx6,xx7,xx5,xx0,xx1,xx2,reduceIte,xx3,xx4,reduceCtorEq]
      refine ⟨⟨by omega,hlt1⟩,hlt1,?_⟩
      rw [u8l hxi,hr]
      refine fun vs3=>⟨⟨_,rfl,rfl⟩,?_,(_,i+1),?_,?_,rfl⟩
      · simp;omega
      · show w.length - (i+1)<w.length - i;omega
      · show i+1≤w.length;omega
    · have:i=w.length:=by omega
      subst this
      simp only [Bz19,Bz37,Bz6b,decide_eq_false hlt,cvbs_ok,cvbs_eq,List.take_length,go_sem,yz0,xx9,xx8,xx6,xx7,xx5,xx0,xx1,xx2,reduceIte,xx3,xx4,reduceCtorEq]
      simp [dn_val,lettB]
theorem wtS_get {w:List Int} (hw:IsW4 w) {i:Nat} (h:i<w.length):((wtS w).toArray.getD i 0).toNat=(97+(w.getD i 0)).toNat:=by
  have hn:w≠[]:=fun e=>by rw [e] at h;simp at h
  have hx:=lettB_int (hw.2 _ (getD_mem h 0))
  rw [wtS,if_neg hn]
  have:(w.map lettB).toArray.getD i 0=lettB (w.getD i 0):=by
    rw [Array.getD_eq_getD_getElem?]
    simp [List.getD_eq_getElem?_getD,List.getElem?_eq_getElem h]
  rw [this];omega
theorem k_ReadWord (w:List Int) (hw:IsW4 w) :
    Fn Tryd.prog nz22 [strV (wtS w)] fun rows res=>∃ v,rows=[.row v 1 true (ints w)]∧res=.tup [.own 6000 v,iv 0]:=by
  refine con_of mixed czbp rfl (by simp) ?_
  have hML:=maxLen_le
  have hwl:=hw.1
  have hsz:(⟨(wtS w).toArray⟩:ByteArray).size=(wtS w).length:=rfl
  generalize hQ:finQ _=Q
  by_cases hn:w=[]
  · subst hn
    have hT:wtS []=[45]:=rfl
    rw [hT]
    have hs1:((#[45]:Array UInt8).size:Int)=((1:Nat):Int):=rfl
    simp only [Azm,Bz35,Bz34,hs1,go_sem,yz0,xx9,xx8,xx6,xx7,xx5,xx0,xx1,xx2,reduceIte,xx3,xx4,reduceCtorEq]
    intro vs
    simp only [Bz30,go_sem,yz0,xx9,xx8,xx6,xx7,xx5,xx0,xx1,xx2,reduceIte,xx3,xx4,reduceCtorEq]
    refine wpD_lo (fun i=>1 - i) (fun i=>i≤1)
      (fun (i:Nat)=>⟨L .any [(0,strV [45]),(4,.own 6 (vs 0 0)),(8,iv (1:Nat)),(9,iv i)],L .gone [(6,.row (vs 0 0) 1 true [])]⟩) 0 (by simp) (by simp only [Bz6,go_sem,yz0,xx9,xx8,xx6,xx7,xx5,xx0,xx1,xx2,reduceIte,xx3,xx4,reduceCtorEq];try rfl) ?_
    intro i hi
    have hi:i≤1:=hi
    by_cases hlt:(i:Int)<(1:Nat)
    · obtain rfl:i=0:=by omega
      simp only [Bz6,Bzl,Bz2z,Bz2x,Bz2w,Bz2y,decide_eq_true hlt,go_sem,yz0,xx9,xx8,xx6,xx7,xx5,xx0,xx1,xx2,reduceIte,xx3,xx4,reduceCtorEq]
      exact ⟨1,by omega,by omega,by simp only [show IntKind.i64.wrap (((0:Nat):Int)+1)=((1:Nat):Int) from rfl]⟩
    · obtain rfl:i=1:=by omega
      have e0:(((⟨#[45]⟩:ByteArray).toList == (⟨#[]⟩:ByteArray).toList))=false:=str_beq.trans (decide_eq_false (by simp))
      simp only [Bz6,Bzl,Bz33,decide_eq_false hlt,e0,go_sem,yz0,xx9,xx8,xx6,xx7,xx5,xx0,xx1,xx2,reduceIte,xx3,xx4,reduceCtorEq]
      intro vs3
      have hk:=k_WordText [] hw
      rw [hT] at hk
      refine yzq hk (by simp only [rowIs,boxIs,coe_argN,coe_argNs,coe_ro_o,coeL_nil,yzp,coe_any,coe_val,coe_ro,coe_ro_nil,coe_ro_own,coe_st,coe_st_agg,coe_rp,coe_rp_ptr,coe_clo,coe_own0,coe_ptr0,yzw,coeL_rws,coeL_rwn,L_hit,L_miss,L_nil,xx3,ne_eq,reduceCtorEq,not_false_eq_true,true_and,and_true,and_self,exists_eq_left,exists_eq_right,List.mem_cons,List.not_mem_nil,or_false,AObj.row.injEq,AObj.box.injEq,exists_eq_left',exists_and_left,exists_eq,Nat.zero_lt_one,Nat.lt_add_one,List.map_cons,List.map_nil,AObj.ver,xx5,not_true_eq_false]) trivial ?_
      simp only [Bz31,Bz32,Azm,← hQ,bne_self_eq_false,go_sem,yz0,xx9,xx8,xx6,xx7,xx5,xx0,xx1,xx2,reduceIte,xx3,xx4,reduceCtorEq]
      refine ⟨[6],by simp,by simp,by simp,?_⟩
      simp only [range1,List.length_singleton,Nat.not_lt_zero,range1,ren_val,ren_any,ren_ro,rnNm_n,rnNm_sn,rnNm_o,rnNm_s,ren_st,ren_tup,yzr,yzh,yz5,yzt,yzv,yzo,yzn,yzx,yzb,yza,yzc,yzd,yzj,yzk,yz4,yz8,yz9,yzf,yzl,yzm,List.range_zero,yz7,yz6,yze,yzu,yzg,yzs,AVal.fresh,freshL,yz3,yzi,AObj.fresh,id,Option.isSome_some,or_true,true_or,go_sem,yz0,xx9,xx8,xx6,xx7,xx5,xx0,xx1,xx2,reduceIte,xx3,xx4,reduceCtorEq]
      exact ⟨_,rfl,rfl⟩
  · have hwp:0<w.length:=List.length_pos_iff.2 hn
    have hT:wtS w=w.map lettB:=if_neg hn
    have hTl:(wtS w).length=w.length:=by rw [hT,List.length_map]
    have hne:wtS w≠[]:=fun e=>by rw [e] at hTl;simp at hTl;omega
    have hn45:wtS w≠[45]:=fun e=>by
      rw [e] at hTl
      have h0:0<w.length:=by omega
      have:=wtS_get hw h0
      rw [e] at this
      have h1:=hw.2 _ (getD_mem h0 0)
      have h2:(([45]:List UInt8).toArray.getD 0 0).toNat=45:=rfl
      omega
    have hk:=k_WordText w hw
    have hg:=fun i (h:i<w.length)=>wtS_get hw h
    generalize wtS w=T at hT hTl hne hn45 hk hg hsz
    simp only [Azm,Bz35,Bz34,hsz,hTl,go_sem,yz0,xx9,xx8,xx6,xx7,xx5,xx0,xx1,xx2,reduceIte,xx3,xx4,reduceCtorEq]
    intro vs
    simp only [Bz30,go_sem,yz0,xx9,xx8,xx6,xx7,xx5,xx0,xx1,xx2,reduceIte,xx3,xx4,reduceCtorEq]
    refine wpD_lo (fun (_,i)=>w.length - i) (fun (_,i)=>i≤w.length)
      (fun ((v,i):Nat×Nat)=>⟨L .any [(0,strV T),(4,.own 6 v),(8,iv w.length),(9,iv i)],L .gone [(6,.row v 1 true (ints (w.take i)))]⟩) (_,0) (by simp) (by simp only [Bz6,List.take_zero,List.map_nil,go_sem,yz0,xx9,xx8,xx6,xx7,xx5,xx0,xx1,xx2,reduceIte,xx3,xx4,reduceCtorEq];try rfl) ?_
    rintro ⟨v,i⟩ hi
    have hi:i≤w.length:=hi
    by_cases hlt:(i:Int)<w.length
    · have hlt1:i<w.length:=by omega
      have hxi:=hw.2 _ (getD_mem hlt1 0)
      have wi:IntKind.i64.wrap ((i:Int)+1)=((i+1:Nat):Int):=by rw [w64 (by omega)];simp
      have hr:w.take i ++ [w.getD i 0]=w.take (i+1):=by
        rw [List.take_succ_eq_append_getElem hlt1,List.getD_eq_getElem?_getD,List.getElem?_eq_getElem hlt1];rfl
      simp only [Bz6,Bzl,Bz2z,Bz2x,decide_eq_true hlt,go_sem,yz0,xx9,xx8,xx6,xx7,xx5,xx0,xx1,xx2,reduceIte,xx3,xx4,reduceCtorEq]
      rw [str_beq,decide_eq_false hn45]
      have hgi:=hg i hlt1
      have w1:IntKind.i64.wrap (IntKind.i64.wrap ((T.toArray.getD i 0).toNat:Int) - 97)=w.getD i 0:=by
        rw [hgi,w64 (n:=((97+w.getD i 0).toNat:Int)) (by omega),w64 (by omega)];omega
      have hTs:T.toArray.size=w.length:=hTl
      simp only [Bz2w,Bool.not_false,w1,hr,go_sem,yz0,xx9,xx8,xx6,xx7,xx5,xx0,xx1,xx2,reduceIte,xx3,xx4,reduceCtorEq]
      intro vs3
      refine ⟨⟨by omega,by omega⟩,⟨_,rfl,rfl⟩,by rw [List.length_take];omega,?_⟩
      simp only [Bz2y,wi,go_sem,yz0,xx9,xx8,xx6,xx7,xx5,xx0,xx1,xx2,reduceIte,xx3,xx4,reduceCtorEq]
      exact ⟨(_,i+1),by show w.length - (i+1)<w.length - i;omega,by show i+1≤_;omega,rfl⟩
    · obtain rfl:i=w.length:=by omega
      have e0:(((⟨T.toArray⟩:ByteArray).toList == (⟨#[]⟩:ByteArray).toList))=false:=str_beq.trans (decide_eq_false hne)
      simp only [Bz6,Bzl,Bz33,decide_eq_false hlt,List.take_length,e0,go_sem,yz0,xx9,xx8,xx6,xx7,xx5,xx0,xx1,xx2,reduceIte,xx3,xx4,reduceCtorEq]
      intro vs3
      refine yzq hk qCS trivial ?_
      simp only [Bz31,Bz32,Azm,← hQ,bne_self_eq_false,go_sem,yz0,xx9,xx8,xx6,xx7,xx5,xx0,xx1,xx2,reduceIte,xx3,xx4,reduceCtorEq]
      refine ⟨[6],by simp,by simp,by simp,?_⟩
      simp only [range1,List.length_singleton,Nat.not_lt_zero,range1,ren_val,ren_any,ren_ro,rnNm_n,rnNm_sn,rnNm_o,rnNm_s,ren_st,ren_tup,yzr,yzh,yz5,yzt,yzv,yzo,yzn,yzx,yzb,yza,yzc,yzd,yzj,yzk,yz4,yz8,yz9,yzf,yzl,yzm,List.range_zero,yz7,yz6,yze,yzu,yzg,yzs,AVal.fresh,freshL,yz3,yzi,AObj.fresh,id,Option.isSome_some,or_true,true_or,go_sem,yz0,xx9,xx8,xx6,xx7,xx5,xx0,xx1,xx2,reduceIte,xx3,xx4,reduceCtorEq]
      exact ⟨_,rfl,rfl⟩
end Go.Ab
namespace Go.Ab
open Go Go.Proofs
theorem k_SameAutC (m:Int) (xs:List (List Int)):Fun Tryd.prog nz23 [.st [iv m,.ro none 1 (rwn xs)],.st [iv m,.ro none 1 (rwn xs)]] (bv true):=by
  refine fun_of mixed czbr rfl ⟨rfl,trivial⟩ ?_
  simp only [Az6p,Bz6o,bne_self_eq_false,go_sem,yz0,xx9,xx8,xx6,xx7,xx5,xx0,xx1,xx2,reduceIte,xx3,xx4,reduceCtorEq]
  intro vs vs2 hM1
  simp only [Bz6h,Bz6n,Bz6l,bne_self_eq_false,go_sem,yz0,xx9,xx8,xx6,xx7,xx5,xx0,xx1,xx2,reduceIte,xx3,xx4,reduceCtorEq]
  refine wpD_lo (fun i=>xs.length - i) (fun i=>i≤xs.length)
    (fun i:Nat=>⟨L .any [(2,.ptr 2 (vs 0 0) 0),(3,.ptr 3 (vs 1 0) 0),(5,iv i)],L .gone [(2,.box (vs 0 0) [iv m,.ro none 1 (rwn xs)]),(3,.box (vs 1 0) [iv m,.ro none 1 (rwn xs)])]⟩)
    0 (by simp) (by simp only [Bz1a,go_sem,yz0,xx9,xx8,xx6,xx7,xx5,xx0,xx1,xx2,reduceIte,xx3,xx4,reduceCtorEq];try rfl) ?_
  intro i hi
  have hM:=maxLen_le
  by_cases hlt:(i:Int)<xs.length
  · have hlt1:i<xs.length:=by omega
    simp only [Bz1a,Bz38,Bz6k,decide_eq_true hlt,rwn_getD hlt1,go_sem,yz0,xx9,xx8,xx6,xx7,xx5,xx0,xx1,xx2,reduceIte,xx3,xx4,reduceCtorEq]
    intro hM2 vs3
    have wi:IntKind.i64.wrap ((i:Int)+1)=((i+1:Nat):Int):=by rw [w64 (by omega)];simp
    refine ⟨⟨by omega,hlt1⟩,hlt1,⟨by omega,hlt1⟩,hlt1,?_⟩
    refine yzq (k_l00Same (xs.getD i []) (xs.getD i [])) qCS trivial ?_
    simp only [decide_true,Bool.not_true,Bz6i,Bz6j,wi,go_sem,yz0,xx9,xx8,xx6,xx7,xx5,xx0,xx1,xx2,reduceIte,xx3,xx4,reduceCtorEq]
    exact ⟨i+1,by omega,by omega,rfl⟩
  · obtain rfl:i=xs.length:=by omega
    simp only [Bz1a,Bz38,Bz6m,decide_eq_false hlt,go_sem,yz0,xx9,xx8,xx6,xx7,xx5,xx0,xx1,xx2,reduceIte,xx3,xx4,reduceCtorEq]
    try (intros;trivial)
theorem k_ValidWord (n:Int) (next:List (List Int)) (w:List Int) (A:Aut n next) (hw:wordB next.length w=true):Fun Tryd.prog nz25 [autA n next,.ro none 1 (ints w)] (bv true):=by
  refine fun_of mixed czbt rfl ⟨rfl,trivial⟩ ?_
  simp only [Az6y,Bz6x,go_sem,yz0,xx9,xx8,xx6,xx7,xx5,xx0,xx1,xx2,reduceIte,xx3,xx4,reduceCtorEq]
  intro vs vs2
  refine yzq (k_Valid n next) qCS trivial ?_
  simp only [autB_iff.2 A,go_sem,yz0,xx9,xx8,xx6,xx7,xx5,xx0,xx1,xx2,reduceIte,xx3,xx4,reduceCtorEq]
  refine yzq (k_isWord n next w ⟨A.l1,A.l2⟩) qCS trivial ?_
  simp only [hw,go_sem,yz0,xx9,xx8,xx6,xx7,xx5,xx0,xx1,xx2,reduceIte,xx3,xx4,reduceCtorEq]
theorem autT_len {n:Int} {next:List (List Int)} (A:Aut n next):1≤(autT n next).length∧(autT n next).length≤300:=by
  have n1:=A.n1
  have n2:=A.n2
  have l2:=A.l2
  have h1:=lineS_len (pre:=autS) (xs:=[n,(next.length:Int)])
  have h2:=lines_len (m:=10) (xss:=next) fun xs hx=>by have:=(A.row xs hx).1;omega
  have h3:(7+3 * 10) * next.length≤37 * 3:=Nat.mul_le_mul (Nat.le_refl _) l2
  simp only [List.length_cons,List.length_nil,show autS.length=9 from rfl] at h1
  constructor
  · unfold autT lineS
    simp only [List.length_append,List.length_singleton];omega
  · unfold autT
    rw [List.length_append];omega
end Go.Ab
namespace Go.Ab
open Go.Proofs
abbrev DrN (code:List Int) (at_ most:Int) (outs rows:List AObj) (res:AVal):Prop :=
  ∃ n ps v a' s',Aut n (ps.map (·.2))∧DJ ps∧n≤most∧at_≤a'∧a'≤at_+1000∧outs=[.box 0 (srcC code a' s')]∧rows=[.row v 1 true (rwp ps)]∧res=.st [iv n,.own 6000 v]
theorem k_DrawnN (code:List Int) (at_ seed most:Int) (hb:∀ x∈code,0≤x∧x≤255) (ha:0≤at_∧at_≤1000000) (hm:1≤most∧most≤10) :
    Con Tryd.prog nza [.box 0 (srcC code at_ seed)] [.ptr 5000 0 0,iv most] true (DrN code at_ most):=by
  refine con_sh mixed czcm rfl (by simp) ?_
  generalize hQ:finQ _=Q
  have h7:∀ (σ:St) (v4:Nat) (a s n l:Int),at_≤a∧a≤at_+20∧1≤n∧n≤most∧1≤l∧l≤3→σ.keep [0,4,5,6] [4,7,87,5000,5001] =
      ⟨L .any [(0,.ptr 5000 0 0),(4,.ptr 4 v4 0),(5,iv n),(6,iv l)],L .gone [(4,.box v4 [iv 0,.val (.slice none 0 0)]),(7,.gone),(87,.gone),(5000,.box 0 (srcC code a s)),(5001,.gone)]⟩→wpD Tryd.prog Bzt Q σ:=by
    rintro σ v4 a s n l ⟨i1,i2,i3,i4,i5,i6⟩ hS
    unfold Bzt
    rw [yz2,hS]
    simp only [yz2,yz1,go_sem,yz0,xx9,xx8,xx6,xx7,xx5,xx0,xx1,xx2,reduceIte,xx3,xx4,reduceCtorEq]
    intro vs U hN
    simp only [Bzaq,Bzao,yz2,yz1,go_sem,yz0,xx9,xx8,xx6,xx7,xx5,xx0,xx1,xx2,reduceIte,xx3,xx4,reduceCtorEq]
    intro vs1 U1 hN1 ver
    refine wpD_lp (fun (_,_,_,_,_,_,next)=>l.toNat - List.length next)
      (fun (_,_,_,nn,a,_,next)=>at_≤a∧a≤at_+20+44 * List.length next∧(List.length next:Int)≤l∧(next≠[]→nn=true)∧(∀ row∈next,(List.length row.2:Int)=n∧∀ x∈row.2,0≤x∧x<n)∧DJ next)
      (fun ((v4,v7,v87,nn,a,s,next):Nat×Nat×Nat×Bool×Int×Int×List (Nat×List Int)) =>
        ⟨L .any [(0,.ptr 5000 0 0),(4,.ptr 4 v4 0),(5,iv n),(6,iv l),(7,.ptr 7 v7 0),(8,iv next.length)],
         L .gone [(4,.box v4 [iv 0,.val (.slice none 0 0)]),(7,.box v7 [iv n,.own 87 v87]),(87,.row v87 1 nn (rwp next)),(5000,.box 0 (srcC code a s)),(5001,.gone)]⟩)
      (v4,_,_,_,a,s,[]) ?_ (by simp only [Bz1v,yz2,yz1,go_sem,yz0,xx9,xx8,xx6,xx7,xx5,xx0,xx1,xx2,reduceIte,xx3,xx4,reduceCtorEq];try rfl) ?_
    · exact ⟨by omega,by simp;omega,by simp;omega,by simp,by simp,by simp [DJ]⟩
    · rintro ⟨v4,v7,v87,nn,a,s,next⟩ ⟨j1,j2,j3,j5,j4,j6⟩
      by_cases hlt:(next.length:Int)<l
      · simp only [Bz1v,Bz4g,Bz4k,decide_eq_true hlt,yz2,yz1,go_sem,yz0,xx9,xx8,xx6,xx7,xx5,xx0,xx1,xx2,reduceIte,xx3,xx4,reduceCtorEq]
        intro vs2 U2 hN2 vs2b U2b hN2b
        simp only [Bzam,yz2,yz1,go_sem,yz0,xx9,xx8,xx6,xx7,xx5,xx0,xx1,xx2,reduceIte,xx3,xx4,reduceCtorEq]
        intro vs3 U3 hN3
        refine call_funB (k_pick code a s 5 hb (by omega)) rfl qCS qCS ?_
        rintro cs' x ⟨a1,s1,kind,rfl,h1,h2,rfl,h3,h4⟩
        simp only [Bzal,Bzaj,yz2,yz1,go_sem,yz0,xx9,xx8,xx6,xx7,xx5,xx0,xx1,xx2,reduceIte,xx3,xx4,reduceCtorEq]
        intro vs3b U3b hN3b
        refine wpD_lp (fun (_,_,_,row)=>n.toNat - List.length row)
          (fun (_,a',_,row)=>at_≤a'∧a'≤a1+4 * List.length row∧(List.length row:Int)≤n∧∀ x∈row,0≤x∧x<n)
          (fun ((v9,a,s,row):Nat×Int×Int×List Int)=>⟨L .any [(0,.ptr 5000 0 0),(4,.ptr 4 v4 0),(5,iv n),(6,iv l),(7,.ptr 7 v7 0),(8,iv next.length),(9,.own 46 v9),(10,iv kind),(11,iv row.length)],L .gone [(4,.box v4 [iv 0,.val (.slice none 0 0)]),(7,.box v7 [iv n,.own 87 v87]),(46,.row v9 1 true (ints row)),(82,.gone),(87,.row v87 1 nn (rwp next)),(5000,.box 0 (srcC code a s)),(5001,.gone)]⟩)
          (_,a1,s1,[]) ?_ (by simp only [Bz1u,yz2,yz1,go_sem,yz0,xx9,xx8,xx6,xx7,xx5,xx0,xx1,xx2,reduceIte,xx3,xx4,reduceCtorEq];try rfl) ?_
        · simp;omega
        · rintro ⟨v9,a,s,row⟩ ⟨q1,q2,q3,q4⟩
          by_cases hlt2:(row.length:Int)<n
          · simp only [Bz1u,Bz4h,Bz4j,decide_eq_true hlt2,yz2,yz1,go_sem,yz0,xx9,xx8,xx6,xx7,xx5,xx0,xx1,xx2,reduceIte,xx3,xx4,reduceCtorEq]
            intro vs4a U4a hN4a vs4 U4 hN4
            refine call_funB (k_pick code a s n hb (by omega)) rfl qCS qCS ?_
            rintro cs' x ⟨a2,s2,to,rfl,f1,f2,rfl,f3,f4⟩
            simp only [yz2,yz1,go_sem,yz0,xx9,xx8,xx6,xx7,xx5,xx0,xx1,xx2,reduceIte,xx3,xx4,reduceCtorEq]
            unfold Bzah
            rw [yz2]
            refine wpD_cutn (α:=Int×Int×Int) (fun (a',_,t)=>a2≤a'∧a'≤a2+2∧0≤t∧t<n)
              (fun ((a,s,t):Int×Int×Int)=>⟨L .any [(0,.ptr 5000 0 0),(4,.ptr 4 v4 0),(5,iv n),(6,iv l),(7,.ptr 7 v7 0),(8,iv next.length),(9,.own 46 v9),(10,iv kind),(11,iv row.length),(12,iv t)],L .gone [(4,.box v4 [iv 0,.val (.slice none 0 0)]),(7,.box v7 [iv n,.own 87 v87]),(46,.row v9 1 true (ints row)),(82,.gone),(87,.row v87 1 nn (rwp next)),(5000,.box 0 (srcC code a s)),(5001,.gone)]⟩) ?_ ?_
            · have w1:IntKind.i64.wrap ((row.length:Int)+1)=row.length+1:=w64 (by omega)
              have w2:IntKind.i64.wrap (n - 1)=n - 1:=w64 (by omega)
              have w3:IntKind.i64.wrap (n - 1 - row.length)=n - 1 - row.length:=w64 (by omega)
              have hn0:¬ n=0:=by omega
              have ht:=tmod_in (a:=(row.length:Int)+1) (n:=n) (by omega) i3
              by_cases k0:kind=0
              · subst k0
                simp only [w1,hn0,Bzs,Bzr,yz2,yz1,go_sem,yz0,xx9,xx8,xx6,xx7,xx5,xx0,xx1,xx2,reduceIte,xx3,xx4,reduceCtorEq]
                intro _ _ _ _ _ _ _ _ _
                exact ⟨(_,_,((row.length:Int)+1).tmod n),(by dsimp only;omega),rfl⟩
              by_cases k1:kind=1
              · subst k1
                simp only [beq_false_of_ne (show (1:Int)≠0 by omega),Bzs,Bzr,Bz1t,yz2,yz1,go_sem,yz0,xx9,xx8,xx6,xx7,xx5,xx0,xx1,xx2,reduceIte,xx3,xx4,reduceCtorEq]
                intro _ _ _ _ _ _ _ _ _ vs5 U5 hN5
                refine call_funB (k_one code a2 s2 4 hb (by omega)) rfl qCS qCS ?_
                rintro cs' x ⟨a3,s3,b,rfl,e1,e2,rfl⟩
                simp only [Bzae,yz2,yz1,go_sem,yz0,xx9,xx8,xx6,xx7,xx5,xx0,xx1,xx2,reduceIte,xx3,xx4,reduceCtorEq]
                exact ⟨fun _ _ _ _=>⟨(_,_,(row.length:Int)),(by dsimp only;omega),rfl⟩,fun _=>⟨(_,_,to),(by dsimp only;omega),rfl⟩⟩
              by_cases k2:kind=2
              · subst k2
                simp only [beq_false_of_ne (show (2:Int)≠0 by omega),beq_false_of_ne (show (2:Int)≠1 by omega),Bzs,Bzr,Bz1t,Bz4i,yz2,yz1,go_sem,yz0,xx9,xx8,xx6,xx7,xx5,xx0,xx1,xx2,reduceIte,xx3,xx4,reduceCtorEq]
                intro _ _ _ _ _ _ _ _ _ _ _ _ vs5 U5 hN5
                refine call_funB (k_one code a2 s2 3 hb (by omega)) rfl qCS qCS ?_
                rintro cs' x ⟨a3,s3,b,rfl,e1,e2,rfl⟩
                simp only [w2,w3,Bzaf,yz2,yz1,go_sem,yz0,xx9,xx8,xx6,xx7,xx5,xx0,xx1,xx2,reduceIte,xx3,xx4,reduceCtorEq]
                exact ⟨fun _ _ _ _=>⟨(_,_,n - 1 - (row.length:Int)),(by dsimp only;omega),rfl⟩,fun _=>⟨(_,_,to),(by dsimp only;omega),rfl⟩⟩
              simp only [beq_false_of_ne k0,beq_false_of_ne k1,beq_false_of_ne k2,Bzs,Bzr,Bz1t,Bz4i,yz2,yz1,go_sem,yz0,xx9,xx8,xx6,xx7,xx5,xx0,xx1,xx2,reduceIte,xx3,xx4,reduceCtorEq]
              intro _ _ _ _ _ _ _ _ _ _ _ _
              exact ⟨(_,_,to),(by dsimp only;omega),rfl⟩
            · rintro ⟨a3,s3,t⟩ ⟨e1,e2,e3,e4⟩
              have w1:IntKind.i64.wrap ((row.length:Int)+1)=((row ++ [t]).length:Int):=by rw [w64 (by omega)];simp
              simp only [w1,Bzag,Bzai,yz2,yz1,go_sem,yz0,xx9,xx8,xx6,xx7,xx5,xx0,xx1,xx2,reduceIte,xx3,xx4,reduceCtorEq]
              intro vs6 U6 hN6
              refine ⟨⟨_,rfl,rfl⟩,by omega,?_⟩
              intro vs7 U7 hN7
              refine ⟨(_,_,_,row ++ [t]),?_,⟨?_,?_,?_,?_⟩,rfl⟩
              · simp;omega
              · show at_≤a3;omega
              · simp;omega
              · simp;omega
              · intro x hx
                simp only [List.mem_append,List.mem_singleton] at hx
                rcases hx with hx | rfl
                · exact q4 x hx
                · omega
          · simp only [Bz1u,Bz4h,Bz4j,decide_eq_false hlt2,yz2,yz1,go_sem,yz0,xx9,xx8,xx6,xx7,xx5,xx0,xx1,xx2,reduceIte,xx3,xx4,reduceCtorEq]
            intro vs4 U4 hN4
            have hrow:(row.length:Int)=n:=by omega
            have w1:IntKind.i64.wrap ((next.length:Int)+1)=((next ++ [(v9,row)]).length:Int):=by rw [w64 (by omega)];simp
            simp only [Bzak,yz2,wpD_gh,go_sem,yz0,xx9,xx8,xx6,xx7,xx5,xx0,xx1,xx2,reduceIte,xx3,xx4,reduceCtorEq]
            intro hD
            refine ⟨[],?_⟩
            have hf:∀ p∈next,p.2=[]∨p.1≠v9:=fun p hp=>by
              by_cases e:p.2=[]
              · exact .inl e
              · exact .inr (hD 87 v87 1 nn (rwp next) 46 v9 rfl rfl p.1 1 (ints p.2) (List.mem_map.2 ⟨p,hp,rfl⟩) (by simpa using e))
            simp only [gwp_nil,yz2,yz1,go_sem,yz0,xx9,xx8,xx6,xx7,xx5,xx0,xx1,xx2,reduceIte,xx3,xx4,reduceCtorEq]
            intro vs7 U7 hN7
            rw [rwp_len]
            refine ⟨by omega,?_⟩
            simp only [w1,Bzan,rwp_snoc,yz2,yz1,go_sem,yz0,xx9,xx8,xx6,xx7,xx5,xx0,xx1,xx2,reduceIte,xx3,xx4,reduceCtorEq]
            intro vs8 U8 hN8
            refine ⟨(_,_,_,_,_,_,next ++ [(v9,row)]),?_,⟨?_,?_,?_,?_,?_,j6.snoc hf⟩,rfl⟩
            · simp;omega
            · show at_≤a;omega
            · simp;omega
            · simp;omega
            · exact fun _=>rfl
            · intro r hr
              simp only [List.mem_append,List.mem_singleton] at hr
              rcases hr with hr | rfl
              · exact j4 r hr
              · exact ⟨hrow,q4⟩
      · simp only [Bz1v,Bz4g,Bz4k,decide_eq_false hlt,yz2,yz1,go_sem,yz0,xx9,xx8,xx6,xx7,xx5,xx0,xx1,xx2,reduceIte,xx3,xx4,reduceCtorEq]
        intro vs2 U2 hN2
        have hnn:nn=true:=j5 (by intro e;rw [e] at hlt;simp at hlt;omega)
        subst hnn
        simp only [Bzap,← hQ,Az4n,yz2,yz1,go_sem,yz0,xx9,xx8,xx6,xx7,xx5,xx0,xx1,xx2,reduceIte,xx3,xx4,reduceCtorEq]
        intro vs3 U3 hN3
        refine ⟨[87],by simp,by simp,by simp,?_⟩
        simp only [range1,List.length_singleton,renL_rwp,Nat.not_lt_zero,range1,ren_val,ren_any,ren_ro,rnNm_n,rnNm_sn,rnNm_o,rnNm_s,ren_st,ren_tup,yzr,yzh,yz5,yzt,yzv,yzo,yzn,yzx,yzb,yza,yzc,yzd,yzj,yzk,yz4,yz8,yz9,yzf,yzl,yzm,List.range_zero,yz7,yz6,yze,yzu,yzg,yzs,AVal.fresh,freshL,yz3,yzi,AObj.fresh,id,Option.isSome_some,or_true,true_or,yz2,yz1,go_sem,yz0,xx9,xx8,xx6,xx7,xx5,xx0,xx1,xx2,reduceIte,xx3,xx4,reduceCtorEq]
        exact ⟨n,next,v87,a,s,⟨i3,by omega,by rw [List.length_map];omega,by rw [List.length_map];omega,fun r hr=>by obtain ⟨p,hp,rfl⟩:=List.mem_map.1 hr;exact j4 p hp⟩,j6,i4,by omega,by omega,rfl,by simp,rfl⟩
  have h4:∀ (σ:St) (v4:Nat) (a s n:Int),at_≤a∧a≤at_+10∧1≤n∧n≤most→σ.keep [0,4,5] [4,7,87,5000,5001] =
      ⟨L .any [(0,.ptr 5000 0 0),(4,.ptr 4 v4 0),(5,iv n)],L .gone [(4,.box v4 [iv 0,.val (.slice none 0 0)]),(7,.gone),(87,.gone),(5000,.box 0 (srcC code a s)),(5001,.gone)]⟩→wpD Tryd.prog Bzb Q σ:=by
    rintro σ v4 a s n ⟨i1,i2,i3,i4⟩ hS
    unfold Bzb
    rw [yz2,hS]
    simp only [yz2,yz1,go_sem,yz0,xx9,xx8,xx6,xx7,xx5,xx0,xx1,xx2,reduceIte,xx3,xx4,reduceCtorEq]
    intro vs U hN
    refine call_funB (k_pick code a s 3 hb (by omega)) rfl qCS qCS ?_
    rintro cs' x ⟨a1,s1,b1,rfl,h1,h2,rfl,h3,h4⟩
    have hw:IntKind.i64.wrap (1+b1)=1+b1:=w64 (by omega)
    by_cases he:1+b1=1
    · simp only [hw.trans he,Bz4l,yz2,yz1,go_sem,yz0,xx9,xx8,xx6,xx7,xx5,xx0,xx1,xx2,reduceIte,xx3,xx4,reduceCtorEq]
      intro vs2 U2 hN2
      refine call_funB (k_one code a1 s1 3 hb (by omega)) rfl qCS qCS ?_
      rintro cs' x ⟨a2,s2,b2,rfl,g1,g2,rfl⟩
      simp only [Bz4f,yz2,yz1,go_sem,yz0,xx9,xx8,xx6,xx7,xx5,xx0,xx1,xx2,reduceIte,xx3,xx4,reduceCtorEq]
      refine ⟨fun _ vs3 U3 hN3=>h7 _ v4 a2 s2 n 2 (by omega) ?_,fun _=>h7 _ v4 a2 s2 n 1 (by omega) ?_⟩ <;> (simp only [Bzt,yz2,yz1,go_sem,yz0,xx9,xx8,xx6,xx7,xx5,xx0,xx1,xx2,reduceIte,xx3,xx4,reduceCtorEq];try rfl)
    · simp only [hw,beq_false_of_ne he,Bz4l,yz2,yz1,go_sem,yz0,xx9,xx8,xx6,xx7,xx5,xx0,xx1,xx2,reduceIte,xx3,xx4,reduceCtorEq]
      intro vs2 U2 hN2
      simp only [Bz4f,yz2,yz1,go_sem,yz0,xx9,xx8,xx6,xx7,xx5,xx0,xx1,xx2,reduceIte,xx3,xx4,reduceCtorEq]
      refine h7 _ v4 a1 s1 n (1+b1) (by omega) ?_
      simp only [Bzt,yz2,yz1,go_sem,yz0,xx9,xx8,xx6,xx7,xx5,xx0,xx1,xx2,reduceIte,xx3,xx4,reduceCtorEq];try rfl
  simp only [Az4n,Bzar,yz2,yz1,go_sem,yz0,xx9,xx8,xx6,xx7,xx5,xx0,xx1,xx2,reduceIte,xx3,xx4,reduceCtorEq]
  intro vs U hN vs2 U2 hN2
  refine call_funB (k_pick code at_ seed most hb (by omega)) rfl qCS qCS ?_
  rintro cs' x ⟨a1,s1,b1,rfl,h1,h2,rfl,h3,h4'⟩
  have hn1:IntKind.i64.wrap (1+b1)=1+b1:=w64 (by omega)
  by_cases hlt:1+b1<3
  · simp only [hn1,decide_eq_true hlt,Bz4m,yz2,yz1,go_sem,yz0,xx9,xx8,xx6,xx7,xx5,xx0,xx1,xx2,reduceIte,xx3,xx4,reduceCtorEq]
    intro vs3 U3 hN3
    refine call_funB (k_one code a1 s1 3 hb (by omega)) rfl qCS qCS ?_
    rintro cs' x ⟨a2,s2,b2,rfl,g1,g2,rfl⟩
    simp only [Bz4e,yz2,yz1,go_sem,yz0,xx9,xx8,xx6,xx7,xx5,xx0,xx1,xx2,reduceIte,xx3,xx4,reduceCtorEq]
    refine ⟨fun _ vs4 U4 hN4=>?_,fun _=>h4 _ (vs 0 0) a2 s2 (1+b1) (by omega) ?_⟩
    · refine call_funB (k_pick code a2 s2 3 hb (by omega)) rfl qCS qCS ?_
      rintro cs' x ⟨a3,s3,b3,rfl,f1,f2,rfl,f3,f4⟩
      have hn2:IntKind.i64.wrap (3+b3)=3+b3:=w64 (by omega)
      simp only [hn2,yz2,yz1,go_sem,yz0,xx9,xx8,xx6,xx7,xx5,xx0,xx1,xx2,reduceIte,xx3,xx4,reduceCtorEq]
      refine yzq (k_l00Min most (3+b3)) qCS trivial ?_
      simp only [yz2,yz1,go_sem,yz0,xx9,xx8,xx6,xx7,xx5,xx0,xx1,xx2,reduceIte,xx3,xx4,reduceCtorEq]
      refine h4 _ (vs 0 0) a3 s3 (min most (3+b3)) (by omega) ?_
      simp only [Bzb,yz2,yz1,go_sem,yz0,xx9,xx8,xx6,xx7,xx5,xx0,xx1,xx2,reduceIte,xx3,xx4,reduceCtorEq];try rfl
    · simp only [Bzb,yz2,yz1,go_sem,yz0,xx9,xx8,xx6,xx7,xx5,xx0,xx1,xx2,reduceIte,xx3,xx4,reduceCtorEq];try rfl
  · simp only [hn1,decide_eq_false hlt,Bz4m,yz2,yz1,go_sem,yz0,xx9,xx8,xx6,xx7,xx5,xx0,xx1,xx2,reduceIte,xx3,xx4,reduceCtorEq]
    intro vs3 U3 hN3
    simp only [Bz4e,yz2,yz1,go_sem,yz0,xx9,xx8,xx6,xx7,xx5,xx0,xx1,xx2,reduceIte,xx3,xx4,reduceCtorEq]
    refine h4 _ (vs 0 0) a1 s1 (1+b1) (by omega) ?_
    simp only [Bzb,yz2,yz1,go_sem,yz0,xx9,xx8,xx6,xx7,xx5,xx0,xx1,xx2,reduceIte,xx3,xx4,reduceCtorEq];try rfl
end Go.Ab
namespace Go.Ab
abbrev TS:=List (Nat×List Int)
def hasT (L:TS) (f:Nat):Bool:=L.any fun p=>Nat.beq p.1 f
theorem hasT_iff {L:TS} {f:Nat}:hasT L f=true↔f∈L.map (·.1):=by
  simp only [hasT,List.any_eq_true,List.mem_map]
  constructor
  · rintro ⟨p,hp,h⟩;exact ⟨p,hp,Nat.eq_of_beq_eq_true h⟩
  · rintro ⟨p,hp,rfl⟩;exact ⟨p,hp,Nat.beq_refl _⟩
structure TI (N m:Nat) (L:TS):Prop where
  nd:(L.map (·.1)).Nodup
  rg:∀ p∈L,p.1<2 ^ N
  wd:∀ p∈L,(∀ x∈p.2,0≤x∧x<m)∧p.2.length<L.length
theorem nodup_lt:∀ (n:Nat) (l:List Nat),l.Nodup→(∀ x∈l,x<n)→l.length≤n
  | 0,l,_,h=>by
    cases l with
    | nil=>simp
    | cons x l=>exact absurd (h x (by simp)) (by omega)
  | n+1,l,hd,h=>by
    by_cases hm:n∈l
    · have h1:=List.length_erase_of_mem hm
      have h2:=nodup_lt n (l.erase n) (hd.erase n) (fun x hx=>by
        rw [hd.mem_erase_iff] at hx
        have:=h x hx.2;omega)
      omega
    · have:=nodup_lt n l hd (fun x hx=>by
        have h1:=h x hx
        have:x≠n:=fun e=>hm (e ▸ hx)
        omega)
      omega
theorem TI.len {N m:Nat} {L:TS} (h:TI N m L):L.length≤2 ^ N:=by
  have:=nodup_lt (2 ^ N) (L.map (·.1)) h.nd (fun x hx=>by
    obtain ⟨p,hp,rfl⟩:=List.mem_map.1 hx
    exact h.rg p hp)
  simpa using this
theorem TI.add {N m:Nat} {L:TS} (h:TI N m L) {to:Nat} {w:List Int} {x:Int} (ht:to<2 ^ N) (hn:hasT L to=false) (hw:(∀ x∈w,0≤x∧x<m)∧w.length<L.length) (hx:0≤x∧x<m):TI N m (L ++ [(to,w ++ [x])]):=by
  refine ⟨?_,?_,?_⟩
  · rw [List.map_append,List.nodup_append]
    refine ⟨h.nd,by simp,?_⟩
    intro a ha b hb e
    simp at hb
    rw [e,hb,← hasT_iff,hn] at ha
    cases ha
  · intro p hp
    rcases List.mem_append.1 hp with hp | hp
    · exact h.rg p hp
    · have hp:p=(to,w ++ [x]):=by simpa using hp
      rw [hp];exact ht
  · intro p hp
    rw [List.length_append,List.length_singleton]
    rcases List.mem_append.1 hp with hp | hp
    · have:=h.wd p hp
      exact ⟨this.1,by omega⟩
    · have hp:p=(to,w ++ [x]):=by simpa using hp
      subst hp
      refine ⟨fun y hy=>?_,by rw [List.length_append,List.length_singleton];omega⟩
      rcases List.mem_append.1 hy with hy | hy
      · exact hw.1 y hy
      · have hy:y=x:=by simpa using hy
        rw [hy];exact hx
end Go.Ab
namespace Go.Ab
abbrev PS:=List ((Nat×Nat)×List Int)
def stepP (na nb:List (List Int)) (p:Nat×Nat) (x:Nat):Nat×Nat:=(((na.getD x []).getD p.1 0).toNat,((nb.getD x []).getD p.2 0).toNat)
def eqP (p q:Nat×Nat):Bool:=Nat.beq p.1 q.1 && Nat.beq p.2 q.2
def hasP (L:PS) (p:Nat×Nat):Bool:=L.any fun q=>eqP q.1 p
theorem eqP_iff {p q:Nat×Nat}:eqP p q=true↔p=q:=by
  unfold eqP
  rw [Bool.and_eq_true,Nat.beq_eq,Nat.beq_eq]
  constructor
  · rintro ⟨h1,h2⟩;exact Prod.ext h1 h2
  · rintro rfl;exact ⟨rfl,rfl⟩
theorem hasP_iff {L:PS} {p:Nat×Nat}:hasP L p=true↔p∈L.map (·.1):=by
  simp only [hasP,List.any_eq_true,List.mem_map]
  constructor
  · rintro ⟨q,hq,h⟩;exact ⟨q,hq,eqP_iff.1 h⟩
  · rintro ⟨q,hq,rfl⟩;exact ⟨q,hq,eqP_iff.2 rfl⟩
structure PI (a b m:Nat) (L:PS):Prop where
  nd:(L.map (·.1)).Nodup
  rg:∀ p∈L,p.1.1<a∧p.1.2<b
  wd:∀ p∈L,(∀ x∈p.2,0≤x∧x<m)∧p.2.length<L.length
theorem PI.len {a b m:Nat} {L:PS} (h:PI a b m L) (ha:a≤10) (hb:b≤10):L.length≤100:=by
  have hn:((L.map (·.1)).map fun p:Nat×Nat=>10 * p.1+p.2).Nodup:=by
    refine List.Pairwise.map _ ?_ (List.Pairwise.and_mem.1 h.nd)
    rintro p q ⟨hp,hq,hpq⟩ e
    obtain ⟨x,hx,rfl⟩:=List.mem_map.1 hp
    obtain ⟨y,hy,rfl⟩:=List.mem_map.1 hq
    have h1:=h.rg x hx
    have h2:=h.rg y hy
    exact hpq (Prod.ext (by omega) (by omega))
  have:=nodup_lt 100 _ hn (fun x hx=>by
    obtain ⟨p,hp,rfl⟩:=List.mem_map.1 hx
    obtain ⟨q,hq,rfl⟩:=List.mem_map.1 hp
    have:=h.rg q hq
    omega)
  simpa using this
theorem PI.add {a b m:Nat} {L:PS} (h:PI a b m L) {to:Nat×Nat} {w:List Int} {x:Int} (ht:to.1<a∧to.2<b) (hn:hasP L to=false) (hw:(∀ x∈w,0≤x∧x<m)∧w.length<L.length) (hx:0≤x∧x<m):PI a b m (L ++ [(to,w ++ [x])]):=by
  refine ⟨?_,?_,?_⟩
  · rw [List.map_append,List.nodup_append]
    refine ⟨h.nd,by simp,?_⟩
    intro a ha b hb e
    simp at hb
    rw [e,hb,← hasP_iff,hn] at ha
    cases ha
  · intro p hp
    rcases List.mem_append.1 hp with hp | hp
    · exact h.rg p hp
    · have hp:p=(to,w ++ [x]):=by simpa using hp
      rw [hp];exact ht
  · intro p hp
    rw [List.length_append,List.length_singleton]
    rcases List.mem_append.1 hp with hp | hp
    · have:=h.wd p hp
      exact ⟨this.1,by omega⟩
    · have hp:p=(to,w ++ [x]):=by simpa using hp
      subst hp
      refine ⟨fun y hy=>?_,by rw [List.length_append,List.length_singleton];omega⟩
      rcases List.mem_append.1 hy with hy | hy
      · exact hw.1 y hy
      · have hy:y=x:=by simpa using hy
        rw [hy];exact hx
structure Two (n n':Int) (na nb:List (List Int)):Prop where
  a:Aut n na
  b:Aut n' nb
  len:nb.length=na.length
theorem Two.step {n n':Int} {na nb:List (List Int)} (T:Two n n' na nb) {x:Nat} {p:Nat×Nat} (hx:x<na.length) (hp:p.1<n.toNat∧p.2<n'.toNat):(stepP na nb p x).1<n.toNat∧(stepP na nb p x).2<n'.toNat:=by
  have h1:=T.a.row _ (getD_mem hx [])
  have h2:=T.b.row _ (getD_mem (show x<nb.length by rw [T.len];exact hx) [])
  have n1:=T.a.n1
  have n2:=T.b.n1
  have h3:=h1.2 _ (getD_mem (show p.1<(na.getD x []).length by omega) 0)
  have h4:=h2.2 _ (getD_mem (show p.2<(nb.getD x []).length by omega) 0)
  unfold stepP
  dsimp only
  omega
end Go.Ab
namespace Go.Ab
open Go.Proofs
end Go.Ab
namespace Go.Ab
open Go.Proofs
end Go.Ab
namespace Go.Ab
end Go.Ab
namespace Go.Ab
open Go.Proofs
end Go.Ab
namespace Go.Ab
open Go.Proofs
end Go.Ab
namespace Go.Ab
open Go.Proofs
theorem DJ_perm {ps qs:List (Nat×List Int)} (h:ps.Perm qs) (hp:DJ ps):DJ qs :=
  (h.pairwise_iff fun {x y} e=>by
    rcases e with e | e | e
    · exact .inr (.inl e)
    · exact .inl e
    · exact .inr (.inr (Ne.symm e))).1 hp
theorem ints_put {xs:List Int} {i:Nat} {v:Int}:List.take i (ints xs) ++ [iv v] ++ List.drop (i+1) (ints xs)=ints (xs.take i ++ [v] ++ xs.drop (i+1)):=by
  simp only [List.map_append,List.map_take,List.map_drop,List.map_cons,List.map_nil]
theorem lput_len {xs:List Int} {i:Nat} {v:Int} (h:i<xs.length):(xs.take i ++ [v] ++ xs.drop (i+1)).length=xs.length:=by
  simp only [List.length_append,List.length_take,List.length_drop,List.length_cons,List.length_nil];omega
theorem lput_mem {xs:List Int} {i:Nat} {v:Int} {Q:Int→Prop} (h:∀ x∈xs,Q x) (hv:Q v):∀ x∈xs.take i ++ [v] ++ xs.drop (i+1),Q x:=by
  intro x hx
  simp only [List.mem_append,List.mem_singleton] at hx
  rcases hx with (hx | rfl) | hx
  · exact h x (List.mem_of_mem_take hx)
  · exact hv
  · exact h x (List.mem_of_mem_drop hx)
theorem call_boxrow {P:Program} {σ:St} {g:FuncId} {As args:List AVal} {d:Nat} {s:Nat→Nat} {K:St→Prop} {r q v u:Nat} {cs:List AVal} {xs:List Int} {Q:List AVal→Value→Prop}
    (h:Con P g [.box 0 cs,.row 1 1 true (ints xs)] args true fun outs rows res=>∃ cs' x,Q cs' x∧flatL cs'∧outs=[.box 0 cs',.row 1 1 true (ints xs)]∧rows=[]∧res=.val x)
    (hr:σ.hp r=.box v cs) (hq:σ.hp q=.row u 1 true (ints xs)) (hne:[r,q].Nodup) (hcs:CoeL σ.hp [r,q] false cs cs) (ha:CoeL σ.hp [r,q] false args As)
    (hk:∀ cs' x,Q cs' x→K (St.put ⟨σ.tm,upd (upd σ.hp r (.box v cs')) q (.row u 1 true (ints xs))⟩ (some d) (.val x))):wpCall P false σ g As (some d) s K:=by
  refine .inl ⟨[r,q],_,_,true,_,h,⟨by simp,rfl,hne,?_,?_⟩,ha,(fun e=>by cases e),?_⟩
  · intro x hx
    simp only [List.mem_cons,List.not_mem_nil,or_false] at hx
    rcases hx with rfl | rfl
    · simp [hr]
    · simp [hq]
  · intro j B r' hB hr'
    match j,hB,hr' with
    | 0,hB,hr' =>
      simp at hB hr';subst hB;subst hr'
      rw [hr]
      exact ⟨rfl,v,cs,rfl,hcs⟩
    | 1,hB,hr' =>
      simp at hB hr';subst hB;subst hr'
      simp only [ObjCoe,hq]
      exact ⟨trivial,u,_,rfl,coeL_ints⟩
    | j+2,hB,hr'=>simp at hB
  · rintro outs rows res ⟨cs',x,hQ,hf,rfl,rfl,rfl⟩
    refine ⟨rfl,by simp,by simp,?_⟩
    have s0:sv σ.hp [r,q] s 0=v:=by simp [sv,hr,AObj.ver]
    have s1:sv σ.hp [r,q] s 1=u:=by simp [sv,hq,AObj.ver]
    rw [Option.getD_some,callHp_h2 hne]
    simp only [yzn,yzo,renL_flat cs' hf,yz5,ren_val,s0,s1]
    exact hk cs' x hQ
theorem k_among (code:List Int) (at_ seed:Int) (list:List Int) (hb:∀ x∈code,0≤x∧x≤255) (ha:0≤at_∧at_≤1000000000000) (hl:list≠[]) :
    Con Tryd.prog nzj [.box 0 (srcC code at_ seed),.row 1 1 true (ints list)] [.ptr 5000 0 0,.own 5001 1] true fun outs rows res=>∃ cs' x,(∃ at' seed' b,cs'=srcC code at' seed'∧at_≤at'∧at'≤at_+2∧x=.int .i64 b∧b∈list)∧flatL cs' ∧
      outs=[.box 0 cs',.row 1 1 true (ints list)]∧rows=[]∧res=.val x:=by
  refine con_sh mixed czcp rfl (by simp) ?_
  simp only [Bzbd,Azbe,go_sem,yz0,xx9,xx8,xx6,xx7,xx5,xx0,xx1,xx2,reduceIte,xx3,xx4,reduceCtorEq]
  intro vs hM
  refine call_funB (k_pick code at_ seed list.length hb ha) rfl qCS qCS ?_
  rintro cs' x ⟨a',s',b,rfl,h1,h2,rfl,h3,h4⟩
  have hpos:0<list.length:=List.length_pos_iff.2 hl
  have hb2:b.toNat<list.length:=by omega
  simp only [intsK_getD hb2,go_sem,yz0,xx9,xx8,xx6,xx7,xx5,xx0,xx1,xx2,reduceIte,xx3,xx4,reduceCtorEq]
  refine ⟨⟨h3,hb2⟩,hb2,[],by simp,by simp,by simp,?_⟩
  simp only [Nat.not_lt_zero,range1,ren_val,ren_any,ren_ro,rnNm_n,rnNm_sn,rnNm_o,rnNm_s,ren_st,ren_tup,yzr,yzh,yz5,yzt,yzv,yzo,yzn,yzx,yzb,yza,yzc,yzd,yzj,yzk,yz4,yz8,yz9,yzf,yzl,yzm,List.range_zero,yz7,yz6,yze,yzu,yzg,yzs,AVal.fresh,freshL,yz3,yzi,AObj.fresh,id,Option.isSome_some,or_true,true_or,go_sem,yz0,xx9,xx8,xx6,xx7,xx5,xx0,xx1,xx2,reduceIte,xx3,xx4,reduceCtorEq]
  exact ⟨_,_,⟨a',s',list.getD b.toNat 0,rfl,h1,h2,rfl,getD_mem hb2 0⟩,by simp [flatL,AVal.flat,flat_vals],rfl,rfl⟩
end Go.Ab
