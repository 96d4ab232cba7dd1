/- Contracts and what they lean on, part 8. Conditions: none. -/
import Derived.Lib.SlicesCompact
import Derived.Test.YtbaiaaegcfobgaaGreatZ7
set_option maxRecDepth 100000
set_option maxHeartbeats 4000000
set_option linter.all false
open Nat renaming reduceLeDiff → J0, reduceMul → J1, reduceSub → J2, reduceEqDiff → J3, reduceAdd → J4, reduceLT → J5
open Int renaming reduceToNat → J6, reduceNeg → J7, reduceLE → J8, reduceLT → J9
open List renaming getD_eq_getElem?_getD → Y0, map_cons → Y1, getElem?_eq_getElem → Y2, mem_map → Y3, mem_append → Y4, length_append → Y5, length_map → Y6, length_singleton → Y7, mem_cons → Y8, mem_singleton → Y9, range → Ya, map_nil → Yb, map_append → Yc, getElem?_map → Yd, length_cons → Ye, length → Yf, map_congr_left → Yg, eq_nil_of_length_eq_zero → Yh, not_mem_nil → Yi, map_map → Yj, length_take → Yk, replicate → Yl, mem_range → Ym, getElem?_eq_some_iff → Yn, all_eq_true → Yo, length_drop → Yp, getElem_map → Yq, getElem?_take → Yr, foldl_cons → Ys, mem_cons_of_mem → Yt, cons_append → Yu, getElem?_append_right → Yv, mem_of_getElem? → Yw, pairwise_cons → Yx, getElem_mem → Yy, mem_flatMap → Yz, getElem?_append_left → Y10, take_length → Y11, pairwise_append → Y12, append_assoc → Y13, drop_length → Y14, getElem?_drop → Y15, nodup_cons → Y16, length_nil → Y17, ext_getElem → Y18, nodup_append → Y19, take_succ_eq_append_getElem → Y1a, getElem_of_mem → Y1b, getElem?_eq_none → Y1c, mem_of_mem_take → Y1d, contains_iff_mem → Y1e, filter_cons_of_pos → Y1f, pairwise_iff_getElem → Y1g
open Nat renaming le_refl → Y1h, lt_of_lt_of_le → Y1i, zero_le → Y1j, pow_le_pow_right → Y1k, sub_self → Y1l, le_trans → Y1m, add_mul → Y1n, zero_add → Y1o, add_zero → Y1p, mul_le_mul_right → Y1q, two_pow_pos → Y1r, shiftRight_eq_div_pow → Y1s
open Int renaming toNat_natCast → Y1t, le_refl → Y1u
open Option renaming isSome_some → Y1v, map_eq_some_iff → Y1w, getD_some → Y1x, isSome_iff_exists → Y1y, map_some → Y1z
open Bool renaming and_eq_true → Y20, not_true → Y21, or_eq_true → Y22, false_eq_true → Y23, not_eq_true' → Y24
open Array renaming length_toList → Y25, getElem?_toList → Y26, getElem?_eq_getElem → Y27, getD_eq_getD_getElem? → Y28, getElem?_append_left → Y29
namespace Go.Ab
open Go.Proofs
theorem yza2 (n lo hi:Int):Fun Tryz.prog nzf [iv n,iv lo,iv hi] (bv (decide (lo≤n) && decide (n≤hi))):=by
 refine yzd mixed czsj rfl ⟨rfl,trivial⟩ ?_
 simp only [Bzj9,Azja,go_sem,yz0,J9,J8,J6,J7,J5,J0,J1,J2,reduceIte,J3,J4,reduceCtorEq]
 by_cases h:lo≤n <;> simp [h,dn_val]
theorem yz6f (n lo hi:Int):Fun Tryz.prog nze [iv n,iv lo,iv hi] (bv (decide (lo≤n) && decide (n≤hi))):=by
 refine yzd mixed czse rfl ⟨rfl,trivial⟩ ?_
 simp only [Bziw,Azix,go_sem,yz0,J9,J8,J6,J7,J5,J0,J1,J2,reduceIte,J3,J4,reduceCtorEq]
 by_cases h:lo≤n <;> simp [h,dn_val]
theorem k_l00Min (a b:Int):Fun Tryz.prog nz66 [iv a,iv b] (iv (min a b)):=by
 refine yzd mixed cztv rfl ⟨rfl,trivial⟩ ?_
 simp only [Bzqb,Bzqc,Bzqd,Azqe,go_sem,yz0,J9,J8,J6,J7,J5,J0,J1,J2,reduceIte,J3,J4,reduceCtorEq]
 by_cases h:a<b
 ·have:min a b=a:=by omega
  simp [h,this]
 ·have:min a b=b:=by omega
  simp [h,this]
theorem k_size (xs:List Int):Fun Tryz.prog nz25 [.ro none 1 (ints xs)] (iv xs.length):=by
 refine yzd mixed czta rfl ⟨rfl,trivial⟩ ?_
 simp only [Bznx,Azny,go_sem,yz0,J9,J8,J6,J7,J5,J0,J1,J2,reduceIte,J3,J4,reduceCtorEq]
theorem k_size1 (xss:List (List Int)):Fun Tryz.prog nz5n [.ro none 1 (rwn xss)] (iv xss.length):=by
 refine yzd mixed czsv rfl ⟨rfl,trivial⟩ ?_
 simp only [Bzlf,Azlg,go_sem,yz0,J9,J8,J6,J7,J5,J0,J1,J2,reduceIte,J3,J4,reduceCtorEq]
abbrev srcC (code:List Int) (at_ seed:Int):List AVal:=[.ro (some (some 0)) 1 (intsK .u8 code),iv at_,.val (.int .u64 seed)]
theorem yzct (x:Int):0≤IntKind.u64.wrap ((BitVec.ofInt 64 x &&& BitVec.ofInt 64 255).toNat)∧IntKind.u64.wrap ((BitVec.ofInt 64 x &&& BitVec.ofInt 64 255).toNat)≤255:=by
 have h:(BitVec.ofInt 64 x &&& BitVec.ofInt 64 255).toNat≤255:=by
  rw [BitVec.toNat_and]
  exact Y1m Nat.and_le_right (by decide)
 rw [IntWalk.u64_in _ (by omega)]
 omega
theorem k_next (code:List Int) (at_ seed:Int) (hb:∀ x∈code,0≤x∧x≤255) (ha:0≤at_∧at_≤4611686018427387904) :
  FunB Tryz.prog nz27 (srcC code at_ seed) [] (fun cs v=>∃ seed' b,cs=srcC code (at_+1) seed'∧v=.int .i64 b∧0≤b∧b≤255):=by
 refine yzeq mixed cztf rfl ?_
 have hw:IntKind.i64.wrap (at_+1)=at_+1:=w64 (by omega)
 by_cases h:at_<code.length
 ·have h1:at_.toNat<code.length:=by omega
  have hm:code.getD at_.toNat 0∈code:=by
   rw [Y0,Y2 h1];exact Yy h1
  have hb1:=hb _ hm
  have h2:at_+1≤code.length:=by omega
  simp only [Bzb5,Bzb6,Bzb7,Bzb8,Bzb9,Bzba,Bzbb,Bzbc,Azbd,yz3 h1,hw,decide_eq_true h,decide_eq_true h2,go_sem,yz0,J9,J8,J6,J7,J5,J0,J1,J2,reduceIte,J3,J4,reduceCtorEq]
  refine ⟨⟨ha.1,h1⟩,h1,_,_,rfl,rfl,?_,_,_,rfl,rfl,?_⟩
  ·simp [flatL,AVal.flat,yz13]
  ·rw [w64 (by omega)];exact hb1
 ·have h2:¬ at_+1≤code.length:=by omega
  simp only [Bzb5,Bzb6,Bzb7,Bzb8,Bzb9,Bzba,Bzbb,Bzbc,Azbd,hw,decide_eq_false h,decide_eq_false h2,go_sem,yz0,J9,J8,J6,J7,J5,J0,J1,J2,reduceIte,J3,J4,reduceCtorEq]
  refine ⟨_,_,rfl,rfl,?_,_,_,rfl,rfl,?_⟩
  ·simp [flatL,AVal.flat,yz13]
  ·have:=yzct ((IntKind.u64.wrap (IntKind.u64.wrap (IntKind.u64.wrap (seed * 6364136223846793005)+IntKind.u64.wrap 0)+1442695040888963407)).fdiv (2 ^ min 40 IntKind.u64.bits))
   rw [w64 (by show _≤_∧_≤_;exact ⟨by have:=this.1;exact Int.le_trans (by decide) this,by have:=this.2;exact Int.le_trans this (by decide)⟩)]
   exact this
theorem yz1w (code:List Int) (at_ seed n:Int) (hb:∀ x∈code,0≤x∧x≤255) (ha:0≤at_∧at_≤1000000000000) :
  FunB Tryz.prog nz0 (srcC code at_ seed) [iv n] (fun cs v=>∃ at' seed' b,cs=srcC code at' seed'∧at_≤at'∧at'≤at_+2∧v=.int .i64 b∧0≤b∧(b<n∨b=0)):=by
 refine yzeq mixed czsl rfl ?_
 by_cases h:n≤1
 ·simp only [Bz8n,Bz8o,Bz8p,Bz8q,Bz8r,Bz8s,Az8t,decide_eq_true h,go_sem,yz0,J9,J8,J6,J7,J5,J0,J1,J2,reduceIte,J3,J4,reduceCtorEq]
  exact ⟨_,_,rfl,rfl,by simp [flatL,AVal.flat,yz13],_,_,_,rfl,by omega,by omega,rfl,by omega,.inr rfl⟩
 ·simp only [Bz8n,Bz8o,Bz8p,Bz8q,Bz8r,Bz8s,Az8t,decide_eq_false h,go_sem,yz0,J9,J8,J6,J7,J5,J0,J1,J2,reduceIte,J3,J4,reduceCtorEq]
  intro vs
  refine yza (k_next code at_ seed hb (by omega)) rfl qCS qCS ?_
  rintro cs' x ⟨s',b,rfl,rfl,hb1⟩
  have ht:∀ y:Int,0≤y→y≤100000→0≤y.tmod n∧(y.tmod n<n∨y.tmod n=0):=fun y h1 h2=>⟨Int.tmod_nonneg _ h1,.inl (Int.tmod_lt_of_pos _ (by omega))⟩
  have hn:¬ n=0:=by omega
  by_cases h2:n > 200
  ·simp only [decide_eq_true h2,go_sem,yz0,J9,J8,J6,J7,J5,J0,J1,J2,reduceIte,J3,J4,reduceCtorEq]
   intro vs2
   refine yza (k_next code (at_+1) s' hb (by omega)) rfl qCS qCS ?_
   rintro cs' x ⟨s'',c,rfl,rfl,hc1⟩
   simp only [hn,w64 (show -9223372036854775808≤b * 256∧b * 256≤9223372036854775807 by omega),w64 (show -9223372036854775808≤b * 256+c∧b * 256+c≤9223372036854775807 by omega),go_sem,yz0,J9,J8,J6,J7,J5,J0,J1,J2,reduceIte,J3,J4,reduceCtorEq]
   exact ⟨_,_,rfl,rfl,by simp [flatL,AVal.flat,yz13],_,_,_,rfl,by omega,by omega,rfl,ht _ (by omega) (by omega)⟩
  ·simp only [decide_eq_false h2,hn,go_sem,yz0,J9,J8,J6,J7,J5,J0,J1,J2,reduceIte,J3,J4,reduceCtorEq]
   exact ⟨_,_,rfl,rfl,by simp [flatL,AVal.flat,yz13],_,_,_,rfl,by omega,by omega,rfl,ht _ (by omega) (by omega)⟩
theorem k_one (code:List Int) (at_ seed n:Int) (hb:∀ x∈code,0≤x∧x≤255) (ha:0≤at_∧at_≤1000000000000) :
  FunB Tryz.prog nz4 (srcC code at_ seed) [iv n] (fun cs v=>∃ at' seed' b,cs=srcC code at' seed'∧at_≤at'∧at'≤at_+2∧v=.bool b):=by
 refine yzeq mixed czrs rfl ?_
 simp only [Bzf0,Azf1,go_sem,yz0,J9,J8,J6,J7,J5,J0,J1,J2,reduceIte,J3,J4,reduceCtorEq]
 intro vs
 refine yza (yz1w code at_ seed n hb ha) rfl qCS qCS ?_
 rintro cs' x ⟨a',s',b,rfl,h1,h2,rfl,_⟩
 simp only [go_sem,yz0,J9,J8,J6,J7,J5,J0,J1,J2,reduceIte,J3,J4,reduceCtorEq]
 exact ⟨_,_,rfl,rfl,by simp [flatL,AVal.flat,yz13],_,_,_,rfl,h1,h2,rfl⟩
theorem k_from (code:List Int):Con Tryz.prog nz1l [] [.ro (some (some 0)) 1 (intsK .u8 code)] true fun outs rows res=>outs=[]∧∃ v,rows=[.box v (srcC code 0 0)]∧res=.ptr 6000 v 0:=by
 refine yz38 mixed czro rfl (by simp) ?_
 simp only [Bzee,Azef,go_sem,yz0,J9,J8,J6,J7,J5,J0,J1,J2,reduceIte,J3,J4,reduceCtorEq]
 intro vs
 refine ⟨[5],by simp,by simp,by simp,?_⟩
 simp only [go_sem,yz0,J9,J8,J6,J7,J5,J0,J1,J2,reduceIte,J3,J4,reduceCtorEq,rsA,AVal.fresh,freshL,AObj.fresh,id,Y1v]
 exact ⟨_,rfl,rfl⟩
theorem yzb5 {a n:Int} (h:0≤a) (hn:1≤n):0≤a.tmod n∧a.tmod n<n:=⟨Int.tmod_nonneg _ h,Int.tmod_lt_of_pos _ (by omega)⟩
section
variable {P:Program} {a b:AC} {Q:AEx→St→Prop} {σ:St}
theorem wpD_cutn {α:Type} {ts hs:List Nat} (inv:α→Prop) (S:α→St)
  (h1:wpD P a (seqQ (fun _ σ'=>∃ x,inv x∧σ'.keep ts hs=S x) Q) σ) (h2:∀ x,inv x→wpD P b Q (S x)):wpD P (.seq a (.kp ts hs b)) Q σ:=by
 rw [wpD_seq]
 refine yzl _ _ _ _ (fun e σ' he=>?_) h1
 cases e with
 | normal =>
  obtain ⟨x,hx,hS⟩:=he
  show wpD P (.kp ts hs b) Q σ'
  rw [yz2,hS]
  exact h2 x hx
 | exit i=>exact he
 | ret=>exact he
end
theorem yz5a {P:Program} {nos:List Nat} {σ:St} {g:FuncId} {As args:List AVal} {d:Option Nat} {s:Nat→Nat} {K:St→Prop} {cs cs0:List AVal} {Q:List AVal→Value→Prop} {r v:Nat} (h:FunB P g cs args Q) (hr:σ.hp r=.box v cs0) (hm:r∈nos)
  (hcs:CoeL σ.hp [r] false cs cs0) (hco:CoeL σ.hp [r] false args As) (hex:∃ cs' x,Q cs' x∧flatL cs') (hk:∀ cs' x,Q cs' x→K (St.put ⟨σ.tm,upd σ.hp r (.box v cs')⟩ d (.val x))):wpCallN P nos σ g (.ptr r v 0 :: As) d s K:=by
 refine ⟨[r],[.box 0 cs],.ptr 5000 0 0 :: args,true,_,h,⟨by simp,rfl,by simp,?_,?_⟩,?_,⟨by simpa using hm,?_⟩,?_⟩
 ·intro r' hr'
  simp only [Y9] at hr'
  subst hr';rw [hr];simp
 ·intro j B r' hB hr'
  cases j with
  | zero =>
   simp at hB hr'
   subst hB hr'
   rw [hr]
   exact ⟨rfl,v,cs0,rfl,hcs⟩
  | succ j=>simp at hB
 ·rw [yzb,yz54,hr]
  exact ⟨rfl,hco⟩
 ·obtain ⟨cs',x,hq,hf⟩:=hex
  exact ⟨[.box 0 cs'],[],.val x,cs',x,hq,hf,rfl,rfl,rfl⟩
 ·rintro outs rows res ⟨cs',x,hq,hf,rfl,rfl,rfl⟩
  refine ⟨rfl,rfl,?_⟩
  rw [yz6z,yz2k,yz2a,yzq cs' hf]
  have:sv σ.hp [r] s 0=v:=by simp [sv,hr,AObj.ver]
  rw [this]
  exact hk cs' x hq
theorem yz1v {code:List Int} {a s:Int}:flatL (srcC code a s):=by simp [flatL,AVal.flat,yz13]
abbrev DrN (code:List Int) (at_ most:Int) (outs rows:List AObj) (res:AVal):Prop :=
 ∃ n ps v a' s',Aut n (ps.map (·.2))∧DJ ps∧n≤most∧at_≤a'∧a'≤at_+1000∧outs=[.box 0 (srcC code a' s')]∧rows=[.row v 1 true (rwp ps)]∧res=.st [iv n,.own 6000 v]
theorem yz6e (code:List Int) (at_ seed most:Int) (hb:∀ x∈code,0≤x∧x≤255) (ha:0≤at_∧at_≤1000000) (hm:1≤most∧most≤10) :
  Con Tryz.prog nzg [.box 0 (srcC code at_ seed)] [.ptr 5000 0 0,iv most] true (DrN code at_ most):=by
 refine yz38 mixed czt5 rfl (by simp) ?_
 generalize hQ:finQ _=Q
 have h7:∀ (σ:St) (v4:Nat) (a s n l:Int),at_≤a∧a≤at_+20∧1≤n∧n≤most∧1≤l∧l≤3→σ.keep [0,4,5,6] [4,7,87,5000,5001] =
   ⟨L .any [(0,.ptr 5000 0 0),(4,.ptr 4 v4 0),(5,iv n),(6,iv l)],L .gone [(4,.box v4 [iv 0,.val (.slice none 0 0)]),(7,.gone),(87,.gone),(5000,.box 0 (srcC code a s)),(5001,.gone)]⟩→wpD Tryz.prog Bz1d Q σ:=by
  rintro σ v4 a s n l ⟨i1,i2,i3,i4,i5,i6⟩ hS
  unfold Bz1d
  rw [yz2,hS]
  simp only [yz2,yz1,go_sem,yz0,J9,J8,J6,J7,J5,J0,J1,J2,reduceIte,J3,J4,reduceCtorEq]
  intro vs U hN
  simp only [Bzn0,Bzmy,yz2,yz1,go_sem,yz0,J9,J8,J6,J7,J5,J0,J1,J2,reduceIte,J3,J4,reduceCtorEq]
  intro vs1 U1 hN1 ver
  refine yz16 (fun (_,_,_,_,_,_,next)=>l.toNat - Yf next)
   (fun (_,_,_,nn,a,_,next)=>at_≤a∧a≤at_+20+44 * Yf next∧(Yf next:Int)≤l∧(next≠[]→nn=true)∧(∀ row∈next,(Yf row.2:Int)=n∧∀ x∈row.2,0≤x∧x<n)∧DJ next)
   (fun ((v4,v7,v87,nn,a,s,next):Nat×Nat×Nat×Bool×Int×Int×List (Nat×List Int)) =>
    ⟨L .any [(0,.ptr 5000 0 0),(4,.ptr 4 v4 0),(5,iv n),(6,iv l),(7,.ptr 7 v7 0),(8,iv next.length)],
     L .gone [(4,.box v4 [iv 0,.val (.slice none 0 0)]),(7,.box v7 [iv n,.own 87 v87]),(87,.row v87 1 nn (rwp next)),(5000,.box 0 (srcC code a s)),(5001,.gone)]⟩)
   (v4,_,_,_,a,s,[]) ?_ (by simp only [Bz49,yz2,yz1,go_sem,yz0,J9,J8,J6,J7,J5,J0,J1,J2,reduceIte,J3,J4,reduceCtorEq];try rfl) ?_
  ·exact ⟨by omega,by simp;omega,by simp;omega,by simp,by simp,by simp [DJ]⟩
  ·rintro ⟨v4,v7,v87,nn,a,s,next⟩ ⟨j1,j2,j3,j5,j4,j6⟩
   by_cases hlt:(next.length:Int)<l
   ·simp only [Bz49,Bzaj,Bzan,decide_eq_true hlt,yz2,yz1,go_sem,yz0,J9,J8,J6,J7,J5,J0,J1,J2,reduceIte,J3,J4,reduceCtorEq]
    intro vs2 U2 hN2 vs2b U2b hN2b
    simp only [Bzmw,yz2,yz1,go_sem,yz0,J9,J8,J6,J7,J5,J0,J1,J2,reduceIte,J3,J4,reduceCtorEq]
    intro vs3 U3 hN3
    refine yza (yz1w code a s 5 hb (by omega)) rfl qCS qCS ?_
    rintro cs' x ⟨a1,s1,kind,rfl,h1,h2,rfl,h3,h4⟩
    simp only [Bzmv,Bzmt,yz2,yz1,go_sem,yz0,J9,J8,J6,J7,J5,J0,J1,J2,reduceIte,J3,J4,reduceCtorEq]
    intro vs3b U3b hN3b
    refine yz16 (fun (_,_,_,row)=>n.toNat - Yf row)
     (fun (_,a',_,row)=>at_≤a'∧a'≤a1+4 * Yf row∧(Yf row:Int)≤n∧∀ x∈row,0≤x∧x<n)
     (fun ((v9,a,s,row):Nat×Int×Int×List Int)=>⟨L .any [(0,.ptr 5000 0 0),(4,.ptr 4 v4 0),(5,iv n),(6,iv l),(7,.ptr 7 v7 0),(8,iv next.length),(9,.own 46 v9),(10,iv kind),(11,iv row.length)],L .gone [(4,.box v4 [iv 0,.val (.slice none 0 0)]),(7,.box v7 [iv n,.own 87 v87]),(46,.row v9 1 true (ints row)),(82,.gone),(87,.row v87 1 nn (rwp next)),(5000,.box 0 (srcC code a s)),(5001,.gone)]⟩)
     (_,a1,s1,[]) ?_ (by simp only [Bz48,yz2,yz1,go_sem,yz0,J9,J8,J6,J7,J5,J0,J1,J2,reduceIte,J3,J4,reduceCtorEq];try rfl) ?_
    ·simp;omega
    ·rintro ⟨v9,a,s,row⟩ ⟨q1,q2,q3,q4⟩
     by_cases hlt2:(row.length:Int)<n
     ·simp only [Bz48,Bzak,Bzam,decide_eq_true hlt2,yz2,yz1,go_sem,yz0,J9,J8,J6,J7,J5,J0,J1,J2,reduceIte,J3,J4,reduceCtorEq]
      intro vs4a U4a hN4a vs4 U4 hN4
      refine yza (yz1w code a s n hb (by omega)) rfl qCS qCS ?_
      rintro cs' x ⟨a2,s2,to,rfl,f1,f2,rfl,f3,f4⟩
      simp only [yz2,yz1,go_sem,yz0,J9,J8,J6,J7,J5,J0,J1,J2,reduceIte,J3,J4,reduceCtorEq]
      unfold Bzmr
      rw [yz2]
      refine wpD_cutn (α:=Int×Int×Int) (fun (a',_,t)=>a2≤a'∧a'≤a2+2∧0≤t∧t<n)
       (fun ((a,s,t):Int×Int×Int)=>⟨L .any [(0,.ptr 5000 0 0),(4,.ptr 4 v4 0),(5,iv n),(6,iv l),(7,.ptr 7 v7 0),(8,iv next.length),(9,.own 46 v9),(10,iv kind),(11,iv row.length),(12,iv t)],L .gone [(4,.box v4 [iv 0,.val (.slice none 0 0)]),(7,.box v7 [iv n,.own 87 v87]),(46,.row v9 1 true (ints row)),(82,.gone),(87,.row v87 1 nn (rwp next)),(5000,.box 0 (srcC code a s)),(5001,.gone)]⟩) ?_ ?_
      ·have w1:IntKind.i64.wrap ((row.length:Int)+1)=row.length+1:=w64 (by omega)
       have w2:IntKind.i64.wrap (n - 1)=n - 1:=w64 (by omega)
       have w3:IntKind.i64.wrap (n - 1 - row.length)=n - 1 - row.length:=w64 (by omega)
       have hn0:¬ n=0:=by omega
       have ht:=yzb5 (a:=(row.length:Int)+1) (n:=n) (by omega) i3
       by_cases k0:kind=0
       ·subst k0
        simp only [w1,hn0,Bz1c,Bz1b,yz2,yz1,go_sem,yz0,J9,J8,J6,J7,J5,J0,J1,J2,reduceIte,J3,J4,reduceCtorEq]
        intro _ _ _ _ _ _ _ _ _
        exact ⟨(_,_,((row.length:Int)+1).tmod n),(by dsimp only;omega),rfl⟩
       by_cases k1:kind=1
       ·subst k1
        simp only [beq_false_of_ne (show (1:Int)≠0 by omega),Bz1c,Bz1b,Bz47,yz2,yz1,go_sem,yz0,J9,J8,J6,J7,J5,J0,J1,J2,reduceIte,J3,J4,reduceCtorEq]
        intro _ _ _ _ _ _ _ _ _ vs5 U5 hN5
        refine yza (k_one code a2 s2 4 hb (by omega)) rfl qCS qCS ?_
        rintro cs' x ⟨a3,s3,b,rfl,e1,e2,rfl⟩
        simp only [Bzmo,yz2,yz1,go_sem,yz0,J9,J8,J6,J7,J5,J0,J1,J2,reduceIte,J3,J4,reduceCtorEq]
        exact ⟨fun _ _ _ _=>⟨(_,_,(row.length:Int)),(by dsimp only;omega),rfl⟩,fun _=>⟨(_,_,to),(by dsimp only;omega),rfl⟩⟩
       by_cases k2:kind=2
       ·subst k2
        simp only [beq_false_of_ne (show (2:Int)≠0 by omega),beq_false_of_ne (show (2:Int)≠1 by omega),Bz1c,Bz1b,Bz47,Bzal,yz2,yz1,go_sem,yz0,J9,J8,J6,J7,J5,J0,J1,J2,reduceIte,J3,J4,reduceCtorEq]
        intro _ _ _ _ _ _ _ _ _ _ _ _ vs5 U5 hN5
        refine yza (k_one code a2 s2 3 hb (by omega)) rfl qCS qCS ?_
        rintro cs' x ⟨a3,s3,b,rfl,e1,e2,rfl⟩
        simp only [w2,w3,Bzmp,yz2,yz1,go_sem,yz0,J9,J8,J6,J7,J5,J0,J1,J2,reduceIte,J3,J4,reduceCtorEq]
        exact ⟨fun _ _ _ _=>⟨(_,_,n - 1 - (row.length:Int)),(by dsimp only;omega),rfl⟩,fun _=>⟨(_,_,to),(by dsimp only;omega),rfl⟩⟩
       simp only [beq_false_of_ne k0,beq_false_of_ne k1,beq_false_of_ne k2,Bz1c,Bz1b,Bz47,Bzal,yz2,yz1,go_sem,yz0,J9,J8,J6,J7,J5,J0,J1,J2,reduceIte,J3,J4,reduceCtorEq]
       intro _ _ _ _ _ _ _ _ _ _ _ _
       exact ⟨(_,_,to),(by dsimp only;omega),rfl⟩
      ·rintro ⟨a3,s3,t⟩ ⟨e1,e2,e3,e4⟩
       have w1:IntKind.i64.wrap ((row.length:Int)+1)=((row ++ [t]).length:Int):=by rw [w64 (by omega)];simp
       simp only [w1,Bzmq,Bzms,yz2,yz1,go_sem,yz0,J9,J8,J6,J7,J5,J0,J1,J2,reduceIte,J3,J4,reduceCtorEq]
       intro vs6 U6 hN6
       refine ⟨⟨_,rfl,rfl⟩,by omega,?_⟩
       intro vs7 U7 hN7
       refine ⟨(_,_,_,row ++ [t]),?_,⟨?_,?_,?_,?_⟩,rfl⟩
       ·simp;omega
       ·show at_≤a3;omega
       ·simp;omega
       ·simp;omega
       ·intro x hx
        simp only [Y4,Y9] at hx
        rcases hx with hx | rfl
        ·exact q4 x hx
        ·omega
     ·simp only [Bz48,Bzak,Bzam,decide_eq_false hlt2,yz2,yz1,go_sem,yz0,J9,J8,J6,J7,J5,J0,J1,J2,reduceIte,J3,J4,reduceCtorEq]
      intro vs4 U4 hN4
      have hrow:(row.length:Int)=n:=by omega
      have w1:IntKind.i64.wrap ((next.length:Int)+1)=((next ++ [(v9,row)]).length:Int):=by rw [w64 (by omega)];simp
      simp only [Bzmu,yz2,yzr,go_sem,yz0,J9,J8,J6,J7,J5,J0,J1,J2,reduceIte,J3,J4,reduceCtorEq]
      intro hD
      refine ⟨[],?_⟩
      have hf:∀ p∈next,p.2=[]∨p.1≠v9:=fun p hp=>by
       by_cases e:p.2=[]
       ·exact .inl e
       ·exact .inr (hD 87 v87 1 nn (rwp next) 46 v9 rfl rfl p.1 1 (ints p.2) (Y3.2 ⟨p,hp,rfl⟩) (by simpa using e))
      simp only [yzh,yz2,yz1,go_sem,yz0,J9,J8,J6,J7,J5,J0,J1,J2,reduceIte,J3,J4,reduceCtorEq]
      intro vs7 U7 hN7
      rw [yz7]
      refine ⟨by omega,?_⟩
      simp only [w1,Bzmx,yz36,yz2,yz1,go_sem,yz0,J9,J8,J6,J7,J5,J0,J1,J2,reduceIte,J3,J4,reduceCtorEq]
      intro vs8 U8 hN8
      refine ⟨(_,_,_,_,_,_,next ++ [(v9,row)]),?_,⟨?_,?_,?_,?_,?_,j6.snoc hf⟩,rfl⟩
      ·simp;omega
      ·show at_≤a;omega
      ·simp;omega
      ·simp;omega
      ·exact fun _=>rfl
      ·intro r hr
       simp only [Y4,Y9] at hr
       rcases hr with hr | rfl
       ·exact j4 r hr
       ·exact ⟨hrow,q4⟩
   ·simp only [Bz49,Bzaj,Bzan,decide_eq_false hlt,yz2,yz1,go_sem,yz0,J9,J8,J6,J7,J5,J0,J1,J2,reduceIte,J3,J4,reduceCtorEq]
    intro vs2 U2 hN2
    have hnn:nn=true:=j5 (by intro e;rw [e] at hlt;simp at hlt;omega)
    subst hnn
    simp only [Bzmz,← hQ,Azaq,yz2,yz1,go_sem,yz0,J9,J8,J6,J7,J5,J0,J1,J2,reduceIte,J3,J4,reduceCtorEq]
    intro vs3 U3 hN3
    refine ⟨[87],by simp,by simp,by simp,?_⟩
    simp only [range1,Y7,yzj,rsA,AVal.fresh,freshL,AObj.fresh,id,Y1v,yz2,yz1,go_sem,yz0,J9,J8,J6,J7,J5,J0,J1,J2,reduceIte,J3,J4,reduceCtorEq]
    exact ⟨n,next,v87,a,s,⟨i3,by omega,by rw [Y6];omega,by rw [Y6];omega,fun r hr=>by obtain ⟨p,hp,rfl⟩:=Y3.1 hr;exact j4 p hp⟩,j6,i4,by omega,by omega,rfl,by simp,rfl⟩
 have h4:∀ (σ:St) (v4:Nat) (a s n:Int),at_≤a∧a≤at_+10∧1≤n∧n≤most→σ.keep [0,4,5] [4,7,87,5000,5001] =
   ⟨L .any [(0,.ptr 5000 0 0),(4,.ptr 4 v4 0),(5,iv n)],L .gone [(4,.box v4 [iv 0,.val (.slice none 0 0)]),(7,.gone),(87,.gone),(5000,.box 0 (srcC code a s)),(5001,.gone)]⟩→wpD Tryz.prog Bzl Q σ:=by
  rintro σ v4 a s n ⟨i1,i2,i3,i4⟩ hS
  unfold Bzl
  rw [yz2,hS]
  simp only [yz2,yz1,go_sem,yz0,J9,J8,J6,J7,J5,J0,J1,J2,reduceIte,J3,J4,reduceCtorEq]
  intro vs U hN
  refine yza (yz1w code a s 3 hb (by omega)) rfl qCS qCS ?_
  rintro cs' x ⟨a1,s1,b1,rfl,h1,h2,rfl,h3,h4⟩
  have hw:IntKind.i64.wrap (1+b1)=1+b1:=w64 (by omega)
  by_cases he:1+b1=1
  ·simp only [hw.trans he,Bzao,yz2,yz1,go_sem,yz0,J9,J8,J6,J7,J5,J0,J1,J2,reduceIte,J3,J4,reduceCtorEq]
   intro vs2 U2 hN2
   refine yza (k_one code a1 s1 3 hb (by omega)) rfl qCS qCS ?_
   rintro cs' x ⟨a2,s2,b2,rfl,g1,g2,rfl⟩
   simp only [Bzai,yz2,yz1,go_sem,yz0,J9,J8,J6,J7,J5,J0,J1,J2,reduceIte,J3,J4,reduceCtorEq]
   refine ⟨fun _ vs3 U3 hN3=>h7 _ v4 a2 s2 n 2 (by omega) ?_,fun _=>h7 _ v4 a2 s2 n 1 (by omega) ?_⟩ <;> (simp only [Bz1d,yz2,yz1,go_sem,yz0,J9,J8,J6,J7,J5,J0,J1,J2,reduceIte,J3,J4,reduceCtorEq];try rfl)
  ·simp only [hw,beq_false_of_ne he,Bzao,yz2,yz1,go_sem,yz0,J9,J8,J6,J7,J5,J0,J1,J2,reduceIte,J3,J4,reduceCtorEq]
   intro vs2 U2 hN2
   simp only [Bzai,yz2,yz1,go_sem,yz0,J9,J8,J6,J7,J5,J0,J1,J2,reduceIte,J3,J4,reduceCtorEq]
   refine h7 _ v4 a1 s1 n (1+b1) (by omega) ?_
   simp only [Bz1d,yz2,yz1,go_sem,yz0,J9,J8,J6,J7,J5,J0,J1,J2,reduceIte,J3,J4,reduceCtorEq];try rfl
 simp only [Azaq,Bzn1,yz2,yz1,go_sem,yz0,J9,J8,J6,J7,J5,J0,J1,J2,reduceIte,J3,J4,reduceCtorEq]
 intro vs U hN vs2 U2 hN2
 refine yza (yz1w code at_ seed most hb (by omega)) rfl qCS qCS ?_
 rintro cs' x ⟨a1,s1,b1,rfl,h1,h2,rfl,h3,h4'⟩
 have hn1:IntKind.i64.wrap (1+b1)=1+b1:=w64 (by omega)
 by_cases hlt:1+b1<3
 ·simp only [hn1,decide_eq_true hlt,Bzap,yz2,yz1,go_sem,yz0,J9,J8,J6,J7,J5,J0,J1,J2,reduceIte,J3,J4,reduceCtorEq]
  intro vs3 U3 hN3
  refine yza (k_one code a1 s1 3 hb (by omega)) rfl qCS qCS ?_
  rintro cs' x ⟨a2,s2,b2,rfl,g1,g2,rfl⟩
  simp only [Bzah,yz2,yz1,go_sem,yz0,J9,J8,J6,J7,J5,J0,J1,J2,reduceIte,J3,J4,reduceCtorEq]
  refine ⟨fun _ vs4 U4 hN4=>?_,fun _=>h4 _ (vs 0 0) a2 s2 (1+b1) (by omega) ?_⟩
  ·refine yza (yz1w code a2 s2 3 hb (by omega)) rfl qCS qCS ?_
   rintro cs' x ⟨a3,s3,b3,rfl,f1,f2,rfl,f3,f4⟩
   have hn2:IntKind.i64.wrap (3+b3)=3+b3:=w64 (by omega)
   simp only [hn2,yz2,yz1,go_sem,yz0,J9,J8,J6,J7,J5,J0,J1,J2,reduceIte,J3,J4,reduceCtorEq]
   refine yz5 (k_l00Min most (3+b3)) qCS trivial ?_
   simp only [yz2,yz1,go_sem,yz0,J9,J8,J6,J7,J5,J0,J1,J2,reduceIte,J3,J4,reduceCtorEq]
   refine h4 _ (vs 0 0) a3 s3 (min most (3+b3)) (by omega) ?_
   simp only [Bzl,yz2,yz1,go_sem,yz0,J9,J8,J6,J7,J5,J0,J1,J2,reduceIte,J3,J4,reduceCtorEq];try rfl
  ·simp only [Bzl,yz2,yz1,go_sem,yz0,J9,J8,J6,J7,J5,J0,J1,J2,reduceIte,J3,J4,reduceCtorEq];try rfl
 ·simp only [hn1,decide_eq_false hlt,Bzap,yz2,yz1,go_sem,yz0,J9,J8,J6,J7,J5,J0,J1,J2,reduceIte,J3,J4,reduceCtorEq]
  intro vs3 U3 hN3
  simp only [Bzah,yz2,yz1,go_sem,yz0,J9,J8,J6,J7,J5,J0,J1,J2,reduceIte,J3,J4,reduceCtorEq]
  refine h4 _ (vs 0 0) a1 s1 (1+b1) (by omega) ?_
  simp only [Bzl,yz2,yz1,go_sem,yz0,J9,J8,J6,J7,J5,J0,J1,J2,reduceIte,J3,J4,reduceCtorEq];try rfl
theorem yzn {α:Type} {xs:List α} {i:Nat} (h:i<xs.length) (d:α):xs.drop i=xs.getD i d :: xs.drop (i+1):=by
 rw [List.drop_eq_getElem_cons h,Y0,Y2 h];rfl
theorem yz4 {α:Type} {xs:List α} {i:Nat} (h:i<xs.length) (d:α):xs.getD i d∈xs:=by
 rw [Y0,Y2 h];exact Yy h
def fidx {α:Type} (p:α→Bool):List α→Nat→Int
 | [],_=>-1
 | x :: xs,i=>if p x then i else fidx p xs (i+1)
theorem yzav {α:Type} (p:α→Bool):∀ (xs:List α) (i:Nat),decide (0≤fidx p xs i)=xs.any p
 | [],i=>by simp [fidx]
 | x :: xs,i=>by
  have h:=yzav p xs (i+1)
  simp only [fidx,List.any_cons]
  by_cases hp:p x=true
  ·simp [hp]
  ·have h2:p x=false:=by simpa using hp
   simp only [h2,Bool.false_or,← h]
   simp
structure Caps (caps:List AVal):Prop where
 dn:dnL caps=caps
 coe:∀ hp m len,CoeL hp m len caps caps
theorem yzbm (xs:List (List Int)) (g:FuncId) (caps:List AVal) (p:List Int→Bool) (hc:Caps caps) (h:∀ x∈xs,Fun Tryz.prog g (.ro none 1 (ints x) :: caps) (bv (p x))) :
  Fun Tryz.prog nz68 [.ro none 1 (rwn xs),.clo g caps] (iv (fidx p xs 0)):=by
 refine yzd mixed cztx rfl ⟨rfl,trivial⟩ ?_
 simp only [Azqz,Bzqy,hc.dn,go_sem,yz0,J9,J8,J6,J7,J5,J0,J1,J2,reduceIte,J3,J4,reduceCtorEq]
 intro hM
 have hM2:=yzc
 simp only [Bzqw,hc.dn,go_sem,yz0,J9,J8,J6,J7,J5,J0,J1,J2,reduceIte,J3,J4,reduceCtorEq]
 refine yzo (fun i=>xs.length - i) (fun i=>i≤xs.length∧fidx p (xs.drop i) i=fidx p xs 0)
  (fun i:Nat=>⟨L .any [(0,.ro none 1 (rwn xs)),(1,.clo g caps),(7,iv xs.length),(8,iv i)],L .gone []⟩) 0 (by simp) (by simp only [Bz4x,hc.dn,go_sem,yz0,J9,J8,J6,J7,J5,J0,J1,J2,reduceIte,J3,J4,reduceCtorEq];try rfl) ?_
 rintro i ⟨hi,he⟩
 by_cases hlt:(i:Int)<xs.length
 ·have hlt':i<xs.length:=by omega
  have w1:IntKind.i64.wrap ((i:Int)+1)=((i+1:Nat):Int):=by rw [w64 (by omega)];simp
  have w2:IntKind.i64.wrap (i:Int)=i:=w64 (by omega)
  rw [yzn hlt' []] at he
  simp only [fidx] at he
  simp only [Bz4x,Bzc7,Bzc6,Bzqu,yz19 hlt',decide_eq_true hlt,hc.dn,go_sem,yz0,J9,J8,J6,J7,J5,J0,J1,J2,reduceIte,J3,J4,reduceCtorEq]
  intro vs
  refine ⟨⟨by omega,hlt'⟩,hlt',?_⟩
  refine yz5 (h _ (yz4 hlt' [])) (by simp only [csA,rowIs,boxIs,J3,ne_eq,reduceCtorEq,exists_eq_left,exists_eq_right,Y8,Yi,exists_eq_left',exists_and_left,exists_eq,Y1,Yb,AObj.ver,J5];exact hc.coe _ _ _) trivial ?_
  simp only [Bzqt,Bzqv,w1,hc.dn,go_sem,yz0,J9,J8,J6,J7,J5,J0,J1,J2,reduceIte,J3,J4,reduceCtorEq]
  refine ⟨fun hp=>?_,fun hp=>⟨i+1,by omega,⟨by omega,?_⟩,rfl⟩⟩
  ·rw [hp] at he;simp at he;rw [← he]
  ·rw [hp] at he;simpa using he
 ·have:i=xs.length:=by omega
  subst this
  rw [Y14] at he
  simp only [fidx] at he
  simp only [Bz4x,Bzc7,Bzc6,Bzqx,decide_eq_false hlt,hc.dn,go_sem,yz0,J9,J8,J6,J7,J5,J0,J1,J2,reduceIte,J3,J4,reduceCtorEq]
  rw [← he]
theorem yz6w (xs:List (List Int)) (g:FuncId) (caps:List AVal) (p:List Int→Bool) (hc:Caps caps) (h:∀ x∈xs,Fun Tryz.prog g (.ro none 1 (ints x) :: caps) (bv (p x))) :
  Fun Tryz.prog nz5t [.ro none 1 (rwn xs),.clo g caps] (bv (xs.any p)):=by
 refine yzd mixed czt7 rfl ⟨rfl,trivial⟩ ?_
 simp only [Bznr,Azns,hc.dn,go_sem,yz0,J9,J8,J6,J7,J5,J0,J1,J2,reduceIte,J3,J4,reduceCtorEq]
 intro vs
 refine yz5 (yzbm xs g caps p hc h) (by simp only [csA,rowIs,boxIs,J3,ne_eq,reduceCtorEq,exists_eq_left,exists_eq_right,Y8,Yi,exists_eq_left',exists_and_left,exists_eq,Y1,Yb,AObj.ver,J5];exact hc.coe _ _ _) trivial ?_
 simp only [yzav,go_sem,yz0,J9,J8,J6,J7,J5,J0,J1,J2,reduceIte,J3,J4,reduceCtorEq]
theorem yz9c (xs:List Int) (g:FuncId) (caps:List AVal) (p:Int→Bool) (hc:Caps caps) (h:∀ x∈xs,Fun Tryz.prog g (iv x :: caps) (bv (p x))) :
  Fun Tryz.prog nz69 [.ro none 1 (ints xs),.clo g caps] (iv (fidx p xs 0)):=by
 refine yzd mixed czty rfl ⟨rfl,trivial⟩ ?_
 simp only [Azr6,Bzr5,hc.dn,go_sem,yz0,J9,J8,J6,J7,J5,J0,J1,J2,reduceIte,J3,J4,reduceCtorEq]
 intro hM
 have hM2:=yzc
 simp only [Bzr3,hc.dn,go_sem,yz0,J9,J8,J6,J7,J5,J0,J1,J2,reduceIte,J3,J4,reduceCtorEq]
 refine yzo (fun i=>xs.length - i) (fun i=>i≤xs.length∧fidx p (xs.drop i) i=fidx p xs 0)
  (fun i:Nat=>⟨L .any [(0,.ro none 1 (ints xs)),(1,.clo g caps),(7,iv xs.length),(8,iv i)],L .gone []⟩) 0 (by simp) (by simp only [Bz4y,hc.dn,go_sem,yz0,J9,J8,J6,J7,J5,J0,J1,J2,reduceIte,J3,J4,reduceCtorEq];try rfl) ?_
 rintro i ⟨hi,he⟩
 by_cases hlt:(i:Int)<xs.length
 ·have hlt':i<xs.length:=by omega
  have w1:IntKind.i64.wrap ((i:Int)+1)=((i+1:Nat):Int):=by rw [w64 (by omega)];simp
  rw [yzn hlt' 0] at he
  simp only [fidx] at he
  simp only [Bz4y,Bzc9,Bzc8,Bzr1,yz3 hlt',decide_eq_true hlt,hc.dn,go_sem,yz0,J9,J8,J6,J7,J5,J0,J1,J2,reduceIte,J3,J4,reduceCtorEq]
  intro vs
  refine ⟨⟨by omega,hlt'⟩,hlt',?_⟩
  refine yz5 (h _ (yz4 hlt' 0)) (by simp only [csA,rowIs,boxIs,J3,ne_eq,reduceCtorEq,exists_eq_left,exists_eq_right,Y8,Yi,exists_eq_left',exists_and_left,exists_eq,Y1,Yb,AObj.ver,J5];exact hc.coe _ _ _) trivial ?_
  simp only [Bzr0,Bzr2,w1,hc.dn,go_sem,yz0,J9,J8,J6,J7,J5,J0,J1,J2,reduceIte,J3,J4,reduceCtorEq]
  refine ⟨fun hp=>?_,fun hp=>⟨i+1,by omega,⟨by omega,?_⟩,rfl⟩⟩
  ·rw [hp] at he;simp at he;rw [← he]
  ·rw [hp] at he;simpa using he
 ·have:i=xs.length:=by omega
  subst this
  rw [Y14] at he
  simp only [fidx] at he
  simp only [Bz4y,Bzc9,Bzc8,Bzr4,decide_eq_false hlt,hc.dn,go_sem,yz0,J9,J8,J6,J7,J5,J0,J1,J2,reduceIte,J3,J4,reduceCtorEq]
  rw [← he]
theorem yz5f (xs:List Int) (g:FuncId) (caps:List AVal) (p:Int→Bool) (hc:Caps caps) (h:∀ x∈xs,Fun Tryz.prog g (iv x :: caps) (bv (p x))) :
  Fun Tryz.prog nz5u [.ro none 1 (ints xs),.clo g caps] (bv (xs.any p)):=by
 refine yzd mixed czt8 rfl ⟨rfl,trivial⟩ ?_
 simp only [Bznt,Aznu,hc.dn,go_sem,yz0,J9,J8,J6,J7,J5,J0,J1,J2,reduceIte,J3,J4,reduceCtorEq]
 intro vs
 refine yz5 (yz9c xs g caps p hc h) (by simp only [csA,rowIs,boxIs,J3,ne_eq,reduceCtorEq,exists_eq_left,exists_eq_right,Y8,Yi,exists_eq_left',exists_and_left,exists_eq,Y1,Yb,AObj.ver,J5];exact hc.coe _ _ _) trivial ?_
 simp only [yzav,go_sem,yz0,J9,J8,J6,J7,J5,J0,J1,J2,reduceIte,J3,J4,reduceCtorEq]
def allIn (xs:List Int) (lo hi:Int):Bool:=xs.all fun x=>decide (lo≤x) && decide (x≤hi)
theorem allIn_iff {xs:List Int} {lo hi:Int}:allIn xs lo hi=true↔∀ x∈xs,lo≤x∧x≤hi:=by simp [allIn]
theorem yz85 (n lo hi:Int):Fun Tryz.prog nz24 [iv n,.rp [iv lo] 0,.rp [iv hi] 0] (bv !(decide (lo≤n) && decide (n≤hi))):=by
 refine yzd mixed czt9 rfl ⟨rfl,trivial⟩ ?_
 simp only [Bznv,Aznw,go_sem,yz0,J9,J8,J6,J7,J5,J0,J1,J2,reduceIte,J3,J4,reduceCtorEq]
 intro vs
 refine yz5 (yz6f n lo hi) qCS trivial ?_
 simp only [go_sem,yz0,J9,J8,J6,J7,J5,J0,J1,J2,reduceIte,J3,J4,reduceCtorEq]
theorem yz62 (xs:List Int) (lo hi:Int):Fun Tryz.prog nz1y [.ro none 1 (ints xs),iv lo,iv hi] (bv (allIn xs lo hi)):=by
 refine yzd mixed czsf rfl ⟨rfl,trivial⟩ ?_
 simp only [Bziy,Aziz,go_sem,yz0,J9,J8,J6,J7,J5,J0,J1,J2,reduceIte,J3,J4,reduceCtorEq]
 intro vs vs2
 refine yz5 (yz5f xs nz24 [.rp [iv lo] 0,.rp [iv hi] 0] _ ⟨by simp only [go_sem,yz0,J9,J8,J6,J7,J5,J0,J1,J2,reduceIte,J3,J4,reduceCtorEq],by intros;simp only [csA,rowIs,boxIs,J3,ne_eq,reduceCtorEq,exists_eq_left,exists_eq_right,Y8,Yi,exists_eq_left',exists_and_left,exists_eq,Y1,Yb,AObj.ver,J5]⟩ (fun x _=>yz85 x lo hi)) qCS trivial ?_
 simp only [go_sem,yz0,J9,J8,J6,J7,J5,J0,J1,J2,reduceIte,J3,J4,reduceCtorEq]
 congr 2
 simp only [allIn,List.all_eq_not_any_not]
abbrev autA (n:Int) (next:List (List Int)):AVal:=.st [iv n,.ro none 1 (rwn next)]
abbrev autP (n:Int) (next:List (List Int)):AVal:=.rp [iv n,.ro none 1 (rwn next)] 0
def autB (n:Int) (next:List (List Int)):Bool:=(decide (1≤n) && decide (n≤10)) && ((decide (1≤(next.length:Int)) && decide ((next.length:Int)≤3)) && next.all fun row=>decide ((row.length:Int)=n) && allIn row 0 (n - 1))
theorem autB_iff {n:Int} {next:List (List Int)}:autB n next=true↔Aut n next:=by
 simp only [autB,Y20,decide_eq_true_eq,Yo,allIn_iff]
 constructor
 ·rintro ⟨⟨h1,h2⟩,⟨h3,h4⟩,h5⟩
  exact ⟨h1,h2,by omega,by omega,fun row hr=>⟨(h5 row hr).1,fun x hx=>by have:=(h5 row hr).2 x hx;omega⟩⟩
 ·rintro ⟨h1,h2,h3,h4,h5⟩
  exact ⟨⟨h1,h2⟩,⟨by omega,by omega⟩,fun row hr=>⟨(h5 row hr).1,fun x hx=>by have:=(h5 row hr).2 x hx;omega⟩⟩
theorem yz3v (n:Int) (next:List (List Int)):Fun Tryz.prog nzd [autA n next] (iv next.length):=by
 refine yzd mixed czs5 rfl ⟨rfl,trivial⟩ ?_
 simp only [Bzhy,Azhz,go_sem,yz0,J9,J8,J6,J7,J5,J0,J1,J2,reduceIte,J3,J4,reduceCtorEq]
 intro vs vs2
 refine yz5 (k_size1 next) qCS trivial ?_
 simp only [go_sem,yz0,J9,J8,J6,J7,J5,J0,J1,J2,reduceIte,J3,J4,reduceCtorEq]
theorem k_Valid_1 (row:List Int) (n:Int) (next:List (List Int)) (hn:1≤n∧n≤10):Fun Tryz.prog nz26 [.ro none 1 (ints row),autP n next] (bv !(decide ((row.length:Int)=n) && allIn row 0 (n - 1))):=by
 refine yzd mixed cztd rfl ⟨rfl,trivial⟩ ?_
 have w:IntKind.i64.wrap (n - 1)=n - 1:=w64 (by omega)
 simp only [Bzoc,Azod,w,go_sem,yz0,J9,J8,J6,J7,J5,J0,J1,J2,reduceIte,J3,J4,reduceCtorEq]
 intro vs
 refine yz5 (k_size row) qCS trivial ?_
 by_cases h:(row.length:Int)=n
 ·have h2:((row.length:Int) != n)=false:=by simp [h]
  simp only [h2,w,go_sem,yz0,J9,J8,J6,J7,J5,J0,J1,J2,reduceIte,J3,J4,reduceCtorEq]
  refine yz5 (yz62 row 0 (n - 1)) qCS trivial ?_
  simp only [go_sem,yz0,J9,J8,J6,J7,J5,J0,J1,J2,reduceIte,J3,J4,reduceCtorEq]
  simp [h]
 ·have h2:((row.length:Int) != n)=true:=by simp [h]
  simp only [h2,go_sem,yz0,J9,J8,J6,J7,J5,J0,J1,J2,reduceIte,J3,J4,reduceCtorEq]
  simp [h]
theorem k_Valid (n:Int) (next:List (List Int)):Fun Tryz.prog nz1z [autA n next] (bv (autB n next)):=by
 refine yzd mixed czsh rfl ⟨rfl,trivial⟩ ?_
 simp only [Bzj2,Azj3,go_sem,yz0,J9,J8,J6,J7,J5,J0,J1,J2,reduceIte,J3,J4,reduceCtorEq]
 intro vs vs2
 refine yz5 (yz6f n 1 10) qCS trivial ?_
 by_cases hn:1≤n∧n≤10
 ·have h1:(decide (1≤n) && decide (n≤10))=true:=by simp [hn]
  simp only [h1,go_sem,yz0,J9,J8,J6,J7,J5,J0,J1,J2,reduceIte,J3,J4,reduceCtorEq]
  refine yz5 (yz3v n next) qCS trivial ?_
  simp only [go_sem,yz0,J9,J8,J6,J7,J5,J0,J1,J2,reduceIte,J3,J4,reduceCtorEq]
  refine yz5 (yz6f next.length 1 3) qCS trivial ?_
  by_cases hl:1≤(next.length:Int)∧(next.length:Int)≤3
  ·have h2:(decide (1≤(next.length:Int)) && decide ((next.length:Int)≤3))=true:=by simp only [decide_eq_true hl.1,decide_eq_true hl.2,Bool.and_self]
   simp only [h2,go_sem,yz0,J9,J8,J6,J7,J5,J0,J1,J2,reduceIte,J3,J4,reduceCtorEq]
   refine yz5 (yz6w next nz26 [autP n next] _ ⟨by simp only [go_sem,yz0,J9,J8,J6,J7,J5,J0,J1,J2,reduceIte,J3,J4,reduceCtorEq],by intros;simp only [csA,rowIs,boxIs,J3,ne_eq,reduceCtorEq,exists_eq_left,exists_eq_right,Y8,Yi,exists_eq_left',exists_and_left,exists_eq,Y1,Yb,AObj.ver,J5]⟩ (fun x _=>k_Valid_1 x n next hn)) qCS trivial ?_
   simp only [go_sem,yz0,J9,J8,J6,J7,J5,J0,J1,J2,reduceIte,J3,J4,reduceCtorEq]
   simp only [autB,h1,h2,Bool.true_and]
   congr 2
   simp only [List.all_eq_not_any_not]
  ·have h2:(decide (1≤(next.length:Int)) && decide ((next.length:Int)≤3))=false:=by
    rw [Bool.and_eq_false_iff]
    by_cases h3:1≤(next.length:Int)
    ·right;simp;omega
    ·left;simp;omega
   simp only [h2,go_sem,yz0,J9,J8,J6,J7,J5,J0,J1,J2,reduceIte,J3,J4,reduceCtorEq]
   simp only [autB,h1,h2,Bool.true_and,Bool.false_and]
 ·have h1:(decide (1≤n) && decide (n≤10))=false:=by
   rw [Bool.and_eq_false_iff]
   by_cases h3:1≤n
   ·right;simp;omega
   ·left;simp;omega
  simp only [h1,go_sem,yz0,J9,J8,J6,J7,J5,J0,J1,J2,reduceIte,J3,J4,reduceCtorEq]
  simp only [autB,h1,Bool.false_and]
def wordB (l:Nat) (w:List Int):Bool:=decide ((w.length:Int)≤400) && allIn w 0 ((l:Int) - 1)
theorem k_isWord (n:Int) (next:List (List Int)) (w:List Int) (hl:1≤next.length∧next.length≤3):Fun Tryz.prog nz5b [autA n next,.ro none 1 (ints w)] (bv (wordB next.length w)):=by
 refine yzd mixed czsd rfl ⟨rfl,trivial⟩ ?_
 have w1:IntKind.i64.wrap ((next.length:Int) - 1)=(next.length:Int) - 1:=w64 (by omega)
 simp only [Bziu,Aziv,go_sem,yz0,J9,J8,J6,J7,J5,J0,J1,J2,reduceIte,J3,J4,reduceCtorEq]
 intro vs vs2 hM
 by_cases h:(w.length:Int)≤400
 ·simp only [decide_eq_true h,go_sem,yz0,J9,J8,J6,J7,J5,J0,J1,J2,reduceIte,J3,J4,reduceCtorEq]
  refine yz5 (yz3v n next) qCS trivial ?_
  simp only [w1,go_sem,yz0,J9,J8,J6,J7,J5,J0,J1,J2,reduceIte,J3,J4,reduceCtorEq]
  refine yz5 (yz62 w 0 ((next.length:Int) - 1)) qCS trivial ?_
  simp only [go_sem,yz0,J9,J8,J6,J7,J5,J0,J1,J2,reduceIte,J3,J4,reduceCtorEq]
  simp only [wordB,decide_eq_true h,Bool.true_and]
 ·simp only [decide_eq_false h,go_sem,yz0,J9,J8,J6,J7,J5,J0,J1,J2,reduceIte,J3,J4,reduceCtorEq]
  simp only [wordB,decide_eq_false h,Bool.false_and]
def codeI (valid right:Bool):Int:=if valid then (if right then 0 else 2) else 1
theorem k_code (n:Int) (next:List (List Int)) (g:FuncId) (caps:List AVal) (r:Bool) (hc:Caps caps) (h:autB n next=true→Fun Tryz.prog g caps (bv r)) :
  Fun Tryz.prog nz1v [autA n next,.clo g caps] (iv (codeI (autB n next) r)):=by
 refine yzd mixed czsa rfl ⟨rfl,trivial⟩ ?_
 simp only [Azim,Bzil,hc.dn,go_sem,yz0,J9,J8,J6,J7,J5,J0,J1,J2,reduceIte,J3,J4,reduceCtorEq]
 intro vs vs2
 refine yz5 (k_Valid n next) qCS trivial ?_
 simp only [Bzij,hc.dn,go_sem,yz0,J9,J8,J6,J7,J5,J0,J1,J2,reduceIte,J3,J4,reduceCtorEq]
 cases hv:autB n next with
 | false =>
  simp only [codeI,go_sem,yz0,J9,J8,J6,J7,J5,J0,J1,J2,reduceIte,J3,J4,reduceCtorEq]
 | true =>
  simp only [go_sem,yz0,J9,J8,J6,J7,J5,J0,J1,J2,reduceIte,J3,J4,reduceCtorEq]
  intro vs3
  refine yz5 (h hv) (hc.coe _ _ _) trivial ?_
  simp only [Bzii,Bzik,go_sem,yz0,J9,J8,J6,J7,J5,J0,J1,J2,reduceIte,J3,J4,reduceCtorEq]
  cases r <;> simp [codeI]
def stepA (next:List (List Int)) (s l:Int):Int:=(next.getD l.toNat []).getD s.toNat 0
def atA (next:List (List Int)) (s:Int) (w:List Int):Int:=w.foldl (stepA next) s
def actA (n:Int) (next:List (List Int)) (w:List Int):List Int:=(Ya n.toNat).map fun (s:Nat)=>atA next s w
def IsW (l:Nat) (w:List Int):Prop:=∀ x∈w,0≤x∧x<l
theorem Aut.step {n:Int} {next:List (List Int)} (A:Aut n next) {s l:Int} (hs:0≤s∧s<n) (hl:0≤l∧l<next.length) :
  l.toNat<next.length∧s.toNat<(next.getD l.toNat []).length∧0≤stepA next s l∧stepA next s l<n:=by
 have h1:l.toNat<next.length:=by omega
 have h2:=A.row _ (yz4 h1 [])
 have h3:s.toNat<(next.getD l.toNat []).length:=by omega
 exact ⟨h1,h3,h2.2 _ (yz4 h3 0)⟩
theorem Aut.at {n:Int} {next:List (List Int)} (A:Aut n next):∀ {w:List Int} {s:Int},0≤s∧s<n→IsW next.length w→0≤atA next s w∧atA next s w<n
 | [],s,hs,_=>hs
 | l :: w,s,hs,hw=>A.at (w:=w) (A.step hs (hw l (by simp))).2.2 fun x hx=>hw x (by simp [hx])
theorem k_at (n:Int) (next:List (List Int)) (s:Int) (w:List Int) (A:Aut n next) (hs:0≤s∧s<n) (hw:IsW next.length w):Fun Tryz.prog nz22 [autA n next,iv s,.ro none 1 (ints w)] (iv (atA next s w)):=by
 refine yzd mixed czsx rfl ⟨rfl,trivial⟩ ?_
 simp only [Azlo,Bzln,go_sem,yz0,J9,J8,J6,J7,J5,J0,J1,J2,reduceIte,J3,J4,reduceCtorEq]
 intro vs hM
 have hM2:=yzc
 simp only [Bzll,go_sem,yz0,J9,J8,J6,J7,J5,J0,J1,J2,reduceIte,J3,J4,reduceCtorEq]
 refine yzo (fun (i,_)=>w.length - i) (fun (i,s')=>i≤w.length∧(0≤s'∧s'<n)∧atA next s' (w.drop i)=atA next s w)
  (fun ((i,s'):Nat×Int)=>⟨L .any [(1,iv s'),(3,.ptr 3 (vs 0 0) 0),(9,.ro none 1 (ints w)),(10,iv w.length),(11,iv i)],L .gone [(3,.box (vs 0 0) [iv n,.ro none 1 (rwn next)])]⟩) (0,s) (by simp;exact hs) (by simp only [Bz40,go_sem,yz0,J9,J8,J6,J7,J5,J0,J1,J2,reduceIte,J3,J4,reduceCtorEq];try rfl) ?_
 rintro ⟨i,s'⟩ ⟨hi,hs',he⟩
 by_cases hlt:(i:Int)<w.length
 ·have hlt':i<w.length:=by omega
  have w1:IntKind.i64.wrap ((i:Int)+1)=((i+1:Nat):Int):=by rw [w64 (by omega)];simp
  have hx:=hw _ (yz4 hlt' 0)
  obtain ⟨a1,a2,a3⟩:=A.step hs' hx
  rw [yzn hlt' 0] at he
  simp only [Bz40,Bz9t,Bz9s,Bzlj,Bzlk,w1,yz3 hlt',yz19 a1,yz3 a2,decide_eq_true hlt,go_sem,yz0,J9,J8,J6,J7,J5,J0,J1,J2,reduceIte,J3,J4,reduceCtorEq]
  refine ⟨⟨by omega,hlt'⟩,hlt',⟨hx.1,a1⟩,a1,⟨hs'.1,a2⟩,a2,(_,_),?_,⟨?_,?_,?_⟩,rfl⟩
  ·show w.length - (i+1)<w.length - i;omega
  ·show i+1≤w.length;omega
  ·exact a3
  ·exact he
 ·have:i=w.length:=by omega
  subst this
  rw [Y14] at he
  simp only [Bz40,Bz9t,Bz9s,Bzlm,decide_eq_false hlt,go_sem,yz0,J9,J8,J6,J7,J5,J0,J1,J2,reduceIte,J3,J4,reduceCtorEq]
  rw [← he];rfl
theorem k_action (n:Int) (next:List (List Int)) (w:List Int) (A:Aut n next) (hw:IsW next.length w):RowI Tryz.prog nz5w [autA n next,.ro none 1 (ints w)] (fun xs=>xs=actA n next w):=by
 refine yz1k mixed cztc rfl ?_
 simp only [Azob,Bzoa,go_sem,yz0,J9,J8,J6,J7,J5,J0,J1,J2,reduceIte,J3,J4,reduceCtorEq]
 intro vs vs2
 have n1:=A.n1
 have n2:=A.n2
 simp only [Bzo9,Bzo7,go_sem,yz0,J9,J8,J6,J7,J5,J0,J1,J2,reduceIte,J3,J4,reduceCtorEq]
 refine yzo (fun (_,i)=>n.toNat - i) (fun (_,i)=>(i:Int)≤n)
  (fun ((v,i):Nat×Nat)=>⟨L .any [(1,.ro none 1 (ints w)),(2,.ptr 2 (vs 0 0) 0),(5,.own 7 v),(9,iv n),(10,iv i)],L .gone [(2,.box (vs 0 0) [iv n,.ro none 1 (rwn next)]),(7,.row v 1 true (ints ((Ya i).map fun (s:Nat)=>atA next s w)))]⟩) (_,0) (by simp;omega) (by simp only [Bz4f,go_sem,yz0,J9,J8,J6,J7,J5,J0,J1,J2,reduceIte,J3,J4,reduceCtorEq];try rfl) ?_
 rintro ⟨v,i⟩ hi
 have hi:(i:Int)≤n:=hi
 by_cases hlt:(i:Int)<n
 ·have w1:IntKind.i64.wrap ((i:Int)+1)=((i+1:Nat):Int):=by rw [w64 (by omega)];simp
  simp only [Bz4f,Bzb2,Bzb1,Bzo5,Bzo6,decide_eq_true hlt,go_sem,yz0,J9,J8,J6,J7,J5,J0,J1,J2,reduceIte,J3,J4,reduceCtorEq]
  intro vs3
  refine yz5 (k_at n next i w A (by omega) hw) qCS trivial ?_
  have hr:((Ya i).map fun (s:Nat)=>atA next s w) ++ [atA next i w]=(Ya (i+1)).map fun (s:Nat)=>atA next s w:=by rw [List.range_succ,Yc];rfl
  simp only [w1,go_sem,yz0,J9,J8,J6,J7,J5,J0,J1,J2,reduceIte,J3,J4,reduceCtorEq]
  rw [hr]
  refine ⟨⟨_,rfl,rfl⟩,by simp;omega,(_,i+1),?_,?_,rfl⟩
  ·show n.toNat - (i+1)<n.toNat - i;omega
  ·show ((i+1:Nat):Int)≤n;omega
 ·have:(i:Int)=n:=by omega
  simp only [Bz4f,Bzb2,Bzb1,Bzo8,decide_eq_false hlt,go_sem,yz0,J9,J8,J6,J7,J5,J0,J1,J2,reduceIte,J3,J4,reduceCtorEq]
  have he:((Ya i).map fun (s:Nat)=>atA next s w)=actA n next w:=by rw [← this];simp [actA]
  refine ⟨7,v,actA n next w,by omega,rfl,?_,rfl⟩
  simp only [he,go_sem,yz0,J9,J8,J6,J7,J5,J0,J1,J2,reduceIte,J3,J4,reduceCtorEq]
theorem k_l01Map (xs:List Int) (n:Int) (hn:0≤n∧n≤1000000):Fun Tryz.prog nz5e [.ro none 1 (ints xs),iv n] (bv (allIn xs 0 (n - 1) && decide ((xs.length:Int)=n))):=by
 refine yzd mixed czsk rfl ⟨rfl,trivial⟩ ?_
 have w0:IntKind.i64.wrap (n - 1)=n - 1:=w64 (by omega)
 simp only [Azjg,Bzjf,Bzjd,go_sem,yz0,J9,J8,J6,J7,J5,J0,J1,J2,reduceIte,J3,J4,reduceCtorEq]
 refine yzo (fun i=>xs.length - i) (fun i=>i≤xs.length∧allIn (xs.drop i) 0 (n - 1)=allIn xs 0 (n - 1))
  (fun i:Nat=>⟨L .any [(0,.ro none 1 (ints xs)),(1,iv n),(5,iv i)],L .gone []⟩) 0 (by simp) (by simp only [Bz3l,go_sem,yz0,J9,J8,J6,J7,J5,J0,J1,J2,reduceIte,J3,J4,reduceCtorEq];try rfl) ?_
 rintro i ⟨hi,he⟩
 have hM2:=yzc
 by_cases hlt:(i:Int)<xs.length
 ·have hlt':i<xs.length:=by omega
  simp only [Bz3l,Bz8l,Bz8m,yz3 hlt',w0,decide_eq_true hlt,go_sem,yz0,J9,J8,J6,J7,J5,J0,J1,J2,reduceIte,J3,J4,reduceCtorEq]
  intro hM vs
  refine ⟨⟨by omega,hlt'⟩,hlt',?_⟩
  refine yz5 (yza2 (xs.getD i 0) 0 (n - 1)) qCS trivial ?_
  have w1:IntKind.i64.wrap ((i:Int)+1)=((i+1:Nat):Int):=by rw [w64 (by omega)];simp
  rw [yzn hlt' 0] at he
  simp only [allIn,List.all_cons] at he
  simp only [Bzjb,Bzjc,w1,go_sem,yz0,J9,J8,J6,J7,J5,J0,J1,J2,reduceIte,J3,J4,reduceCtorEq]
  refine ⟨fun hp=>?_,fun hp=>⟨i+1,by omega,⟨by omega,?_⟩,rfl⟩⟩
  ·rw [Y24] at hp
   rw [hp] at he
   simp only [allIn,← he,Bool.false_and]
  ·rw [Bool.not_eq_false'] at hp
   rw [hp] at he
   simpa [allIn] using he
 ·have:i=xs.length:=by omega
  subst this
  rw [Y14] at he
  simp only [Bz3l,Bz8l,Bz8m,Bzje,decide_eq_false hlt,go_sem,yz0,J9,J8,J6,J7,J5,J0,J1,J2,reduceIte,J3,J4,reduceCtorEq]
  intro _ _
  rw [← he]
  simp [allIn]
  rfl
theorem yzf4 (n:Int) (next:List (List Int)):Fun Tryz.prog nzo [autP n next] (bv (autB n next)):=by
 refine yzd mixed czrq rfl ⟨rfl,trivial⟩ ?_
 simp only [Azer,Bzeq,go_sem,yz0,J9,J8,J6,J7,J5,J0,J1,J2,reduceIte,J3,J4,reduceCtorEq]
 intro vs
 refine yz5 (yza2 n 1 10) qCS trivial ?_
 by_cases hn:1≤n∧n≤10
 ·have h1:(decide (1≤n) && decide (n≤10))=true:=by simp [hn]
  simp only [h1,go_sem,yz0,J9,J8,J6,J7,J5,J0,J1,J2,reduceIte,J3,J4,reduceCtorEq]
  intro hM
  refine yz5 (yza2 next.length 1 3) qCS trivial ?_
  by_cases hl:1≤(next.length:Int)∧(next.length:Int)≤3
  ·have h2:(decide (1≤(next.length:Int)) && decide ((next.length:Int)≤3))=true:=by simp only [decide_eq_true hl.1,decide_eq_true hl.2,Bool.and_self]
   simp only [h2,Bz2u,Bzep,Bzen,go_sem,yz0,J9,J8,J6,J7,J5,J0,J1,J2,reduceIte,J3,J4,reduceCtorEq]
   have hB:autB n next=next.all fun row=>decide ((row.length:Int)=n) && allIn row 0 (n - 1):=by simp only [autB,h1,h2,Bool.true_and]
   refine yzo (fun i=>next.length - i) (fun i=>i≤next.length∧((next.drop i).all fun row=>decide ((row.length:Int)=n) && allIn row 0 (n - 1))=autB n next)
    (fun i:Nat=>⟨L .any [(0,autP n next),(3,iv i)],L .gone []⟩) 0 (by simp [hB]) (by simp only [Bz2v,go_sem,yz0,J9,J8,J6,J7,J5,J0,J1,J2,reduceIte,J3,J4,reduceCtorEq];try rfl) ?_
   rintro i ⟨hi,he⟩
   by_cases hlt:(i:Int)<next.length
   ·have hlt':i<next.length:=by omega
    have w1:IntKind.i64.wrap ((i:Int)+1)=((i+1:Nat):Int):=by rw [w64 (by omega)];simp
    simp only [Bz2v,Bz7a,Bz7b,yz19 hlt',decide_eq_true hlt,go_sem,yz0,J9,J8,J6,J7,J5,J0,J1,J2,reduceIte,J3,J4,reduceCtorEq]
    intro _ vs2
    refine ⟨⟨by omega,hlt'⟩,hlt',?_⟩
    refine yz5 (k_l01Map (next.getD i []) n (by omega)) qCS trivial ?_
    rw [yzn hlt' []] at he
    simp only [List.all_cons] at he
    simp only [Bzel,Bzem,w1,go_sem,yz0,J9,J8,J6,J7,J5,J0,J1,J2,reduceIte,J3,J4,reduceCtorEq]
    refine ⟨fun hp=>?_,fun hp=>⟨i+1,by omega,⟨by omega,?_⟩,rfl⟩⟩
    ·rw [Y24,Bool.and_comm] at hp
     rw [hp] at he
     rw [← he];rfl
    ·rw [Bool.not_eq_false',Bool.and_comm] at hp
     rw [hp] at he
     simpa using he
   ·have:i=next.length:=by omega
    subst this
    rw [Y14] at he
    simp only [Bz2v,Bz7a,Bz7b,Bzeo,decide_eq_false hlt,go_sem,yz0,J9,J8,J6,J7,J5,J0,J1,J2,reduceIte,J3,J4,reduceCtorEq]
    intro _
    rw [← he];rfl
  ·have h2:(decide (1≤(next.length:Int)) && decide ((next.length:Int)≤3))=false:=by
    rw [Bool.and_eq_false_iff]
    by_cases h3:1≤(next.length:Int)
    ·right;simp;omega
    ·left;simp;omega
   simp only [h2,Bz2u,go_sem,yz0,J9,J8,J6,J7,J5,J0,J1,J2,reduceIte,J3,J4,reduceCtorEq]
   simp only [autB,h1,h2,Bool.true_and,Bool.false_and]
 ·have h1:(decide (1≤n) && decide (n≤10))=false:=by
   rw [Bool.and_eq_false_iff]
   by_cases h3:1≤n
   ·right;simp;omega
   ·left;simp;omega
  simp only [h1,Bz2u,go_sem,yz0,J9,J8,J6,J7,J5,J0,J1,J2,reduceIte,J3,J4,reduceCtorEq]
  simp only [autB,h1,Bool.false_and]
def allS (n:Int):List Int:=(Ya n.toNat).map fun (s:Nat)=>(s:Int)
theorem yzfk (xs:List Int) (h:xs.length * 8≤140737488355328):RowI Tryz.prog nzr [.ro (argN xs) 1 (ints xs)] (fun ys=>ys=xs):=by
 refine yz1k mixed czto rfl ?_
 simp only [Bzpm,Bzpn,Bzpo,Azpp,go_sem,yz0,J9,J8,J6,J7,J5,J0,J1,J2,reduceIte,J3,J4,reduceCtorEq]
 intro vs
 exact ⟨h,_,_,xs,by omega,rfl,by simp only [go_sem,yz0,J9,J8,J6,J7,J5,J0,J1,J2,reduceIte,J3,J4,reduceCtorEq],rfl⟩
theorem nat1 (i:Nat) (m:Nat) (h:i<m) (hm:m≤maxLen):IntKind.i64.wrap ((i:Int)+1)=((i+1:Nat):Int):=by
 have:=yzc
 rw [w64 (by omega)];simp
theorem k_a2Long (code more:List Int):Fun Tryz.prog nz4z [.ro (some (some 0)) 1 (intsK .u8 code),.ro (some (some 0)) 1 (intsK .u8 more)] (bv (decide ((code.length:Int) > 3000) || decide ((more.length:Int) > 3000))):=by
 refine yzd mixed czrg rfl ⟨rfl,trivial⟩ ?_
 simp only [Bzcp,Azcq,go_sem,yz0,J9,J8,J6,J7,J5,J0,J1,J2,reduceIte,J3,J4,reduceCtorEq]
 intro _
 by_cases h:(code.length:Int) > 3000
 ·simp only [decide_eq_true h,go_sem,yz0,J9,J8,J6,J7,J5,J0,J1,J2,reduceIte,J3,J4,reduceCtorEq]
  try simp
 ·simp only [decide_eq_false h,go_sem,yz0,J9,J8,J6,J7,J5,J0,J1,J2,reduceIte,J3,J4,reduceCtorEq]
  intro _
  try simp
theorem yze2 {k:IntKind} {xs:List Int} {i:Nat}:(intsK k xs).take i=intsK k (xs.take i):=by simp [List.map_take]
theorem yzcu {k:IntKind} {xs:List Int} {i:Nat}:(intsK k xs).drop i=intsK k (xs.drop i):=by simp [List.map_drop]
abbrev nilS:AVal:=.val (.slice none 0 0)
theorem yzf8 {P:Program} {pu:Bool} {σ:St} {g:FuncId} {As args:List AVal} {d:Nat} {s:Nat→Nat} {K:St→Prop} {Q:List Int→Prop} (h:RowI P g args Q) (hco:CoeL σ.hp [] true args As) (hg:σ.hp d=.gone) (hex:∃ xs,Q xs)
  (hk:∀ xs v,Q xs→K (St.put ⟨σ.tm,upd σ.hp d (.row (s v) 1 true (ints xs))⟩ (some d) (.own d (s v)))):wpCall P pu σ g As (some d) s K:=by
 refine yz5r h hco (fun _=>?_) ?_
 ·obtain ⟨xs,hx⟩:=hex
  exact ⟨_,_,ints xs,0,⟨xs,rfl,hx⟩,yz46,rfl,rfl⟩
 ·rintro rows res ⟨cs,v,⟨xs,rfl,hx⟩,hf,rfl,rfl⟩
  refine ⟨by simp,?_,?_⟩
  ·rw [Y1x,yzw];exact hg
  ·rw [Y1x,yz2x,yz1p,yzq (ints xs) hf,Y7,yz1f]
   exact hk xs v hx
end Go.Ab
namespace Go.Ab
def SI (l:List Int):Prop:=l.Pairwise (·<·)
theorem yz8i:∀ {a b:List Int},SI a→SI b→(∀ x,x∈a↔x∈b)→a=b
 | [],[],_,_,_=>rfl
 | [],y :: b,_,_,h=>by have:=(h y).2 (by simp);simp at this
 | x :: a,[],_,_,h=>by have:=(h x).1 (by simp);simp at this
 | x :: a,y :: b,ha,hb,h=>by
  unfold SI at ha hb
  rw [Yx] at ha hb
  have e:x=y:=by
   rcases Y8.1 ((h x).1 (by simp)) with e | h1
   ·exact e
   ·rcases Y8.1 ((h y).2 (by simp)) with e | h2
    ·exact e.symm
    ·have:=hb.1 x h1;have:=ha.1 y h2;omega
  subst e
  have:a=b:=yz8i ha.2 hb.2 fun z=>by
   constructor
   ·intro hz
    rcases Y8.1 ((h z).1 (by simp [hz])) with e | h1
    ·have:=ha.1 z hz;omega
    ·exact h1
   ·intro hz
    rcases Y8.1 ((h z).2 (by simp [hz])) with e | h1
    ·have:=hb.1 z hz;omega
    ·exact h1
  rw [this]
def put:List Int→Int→List Int
 | [],n=>[n]
 | x :: xs,n=>if n≤x then (if n<x then n :: x :: xs else x :: xs) else x :: put xs n
theorem put_mem {n y:Int}:∀ {xs:List Int},y∈put xs n↔y=n∨y∈xs
 | []=>by simp [put]
 | x :: xs=>by
  simp only [put]
  split
  ·split
   ·simp
   ·have:x=n:=by omega
    subst this
    simp
  ·rw [Y8,put_mem,Y8]
   constructor
   ·rintro (h | h | h)
    ·exact .inr (.inl h)
    ·exact .inl h
    ·exact .inr (.inr h)
   ·rintro (h | h | h)
    ·exact .inr (.inl h)
    ·exact .inl h
    ·exact .inr (.inr h)
theorem put_SI {n:Int}:∀ {xs:List Int},SI xs→SI (put xs n)
 | [],_=>by simp [put,SI]
 | x :: xs,h=>by
  have h0:=h
  unfold SI at h
  rw [Yx] at h
  simp only [put]
  split
  ·split
   ·unfold SI
    rw [Yx]
    refine ⟨fun y hy=>?_,h0⟩
    rcases Y8.1 hy with rfl | hy
    ·assumption
    ·have:=h.1 y hy;omega
   ·exact h0
  ·unfold SI
   rw [Yx]
   refine ⟨fun y hy=>?_,put_SI h.2⟩
   rcases put_mem.1 hy with rfl | hy
   ·omega
   ·exact h.1 y hy
theorem put_len {n:Int}:∀ {xs:List Int},(put xs n).length≤xs.length+1
 | []=>by simp [put]
 | x :: xs=>by
  simp only [put]
  split
  ·split <;> simp
  ·have:=put_len (n:=n) (xs:=xs)
   simp only [Ye];omega
def nrm (l:List Int):List Int:=l.foldl put []
theorem yzdo:∀ (l acc:List Int),SI acc→SI (l.foldl put acc)∧∀ y,y∈l.foldl put acc↔y∈acc∨y∈l
 | [],acc,h=>⟨h,by simp⟩
 | x :: l,acc,h=>by
  obtain ⟨h1,h2⟩:=yzdo l (put acc x) (put_SI h)
  refine ⟨h1,fun y=>?_⟩
  rw [Ys,h2,put_mem,Y8]
  constructor
  ·rintro ((h | h) | h)
   ·exact .inr (.inl h)
   ·exact .inl h
   ·exact .inr (.inr h)
  ·rintro (h | h | h)
   ·exact .inl (.inr h)
   ·exact .inl (.inl h)
   ·exact .inr h
theorem nrm_SI (l:List Int):SI (nrm l):=(yzdo l [] (by simp [SI])).1
theorem nrm_mem {l:List Int} {y:Int}:y∈nrm l↔y∈l:=by
 have:=(yzdo l [] (by simp [SI])).2 y
 simpa [nrm] using this
theorem nrm_snoc {l:List Int} {x:Int}:nrm (l ++ [x])=put (nrm l) x:=by simp [nrm,List.foldl_append]
theorem nrm_len:∀ l:List Int,(nrm l).length≤l.length:=by
 have gen:∀ (l acc:List Int),(l.foldl put acc).length≤acc.length+l.length:=by
  intro l
  induction l with
  | nil=>intro acc;simp
  | cons x l ih=>intro acc;rw [Ys,Ye];have:=ih (put acc x);have:=put_len (n:=x) (xs:=acc);omega
 intro l
 have:=gen l []
 simpa [nrm] using this
theorem yz71 {zs:List Int} (h:zs.Pairwise (·≤·)):SI (Lib.compact zs)∧∀ y,y∈Lib.compact zs↔y∈zs:=by
 have hget:∀ j,j<zs.length→zs.toArray[j]! = zs.getD j 0:=by
  intro j hj
  rw [getElem!_pos _ j (by simpa using hj),Y0,Y2 hj];simp
 have hle:∀ i j,i<j→j<zs.length→zs.getD i 0≤zs.getD j 0:=by
  intro i j hij hj
  rw [Y1g] at h
  have:=h i j (by omega) hj hij
  rw [Y0,Y2 (by omega),Y0,Y2 hj]
  exact this
 have key:∀ m,m≤zs.length→SI (Lib.compactUpTo zs.toArray m)∧∀ y,y∈Lib.compactUpTo zs.toArray m↔y∈zs.take m:=by
  intro m
  induction m with
  | zero=>intro _;simp [Lib.compactUpTo,SI]
  | succ m ih =>
   intro hm
   obtain ⟨h1,h2⟩:=ih (by omega)
   have ht:zs.take (m+1)=zs.take m ++ [zs.getD m 0]:=by
    rw [Y1a (by omega),Y0,Y2 (by omega)];rfl
   rw [Lib.compactUpTo_succ,ht,hget m (by omega)]
   have hlast:∀ y∈zs.take m,y≤zs.getD (m - 1) 0:=by
    intro y hy
    obtain ⟨i,hi,rfl⟩:=List.mem_iff_getElem.1 hy
    have hi':i<m:=by simp at hi;omega
    rw [List.getElem_take]
    have e:zs[i]=zs.getD i 0:=by rw [Y0,Y2 (by omega)];rfl
    rw [e]
    by_cases hi2:i=m - 1
    ·rw [hi2];exact Y1u _
    ·exact hle i (m - 1) (by omega) (by omega)
   by_cases hk:Lib.keeps zs.toArray m=true
   ·rw [if_pos hk]
    refine ⟨?_,fun y=>by rw [Y4,Y4,h2]⟩
    unfold SI at h1 ⊢
    rw [Y12]
    refine ⟨h1,by simp,?_⟩
    intro x hx y hy
    have hy:y=zs.getD m 0:=by simpa using hy
    subst hy
    have hx1:=hlast x ((h2 x).1 hx)
    have hm0:m≠0:=by
     rintro rfl
     have:=(h2 x).1 hx
     simp at this
    have hk':zs.getD m 0≠zs.getD (m - 1) 0:=by
     have:=hk
     simp only [Lib.keeps,decide_eq_true_eq,hget m (by omega),hget (m - 1) (by omega)] at this
     rcases this with e | e
     ·exact absurd e hm0
     ·exact e
    have:=hle (m - 1) m (by omega) (by omega)
    omega
   ·have hk2:Lib.keeps zs.toArray m=false:=by simpa using hk
    rw [if_neg (by rw [hk2];simp),List.append_nil]
    refine ⟨h1,fun y=>?_⟩
    rw [h2,Y4,Y9]
    simp only [Lib.keeps,decide_eq_false_iff_not,hget m (by omega),hget (m - 1) (by omega)] at hk2
    have hm0:m≠0:=fun e=>hk2 (.inl e)
    have he:zs.getD m 0=zs.getD (m - 1) 0:=Classical.byContradiction fun e=>hk2 (.inr e)
    constructor
    ·exact .inl
    ·rintro (h | rfl)
     ·exact h
     ·rw [he]
      have:(zs.take m).getD (m - 1) 0=zs.getD (m - 1) 0:=by
       rw [Y0,Yr,if_pos (by omega),← Y0]
      rw [← this,Y0,Y2 (by simp;omega)]
      exact Yy _
 have:=key zs.length (Y1h _)
 rw [Y11] at this
 exact this
theorem yzbr (l:List Int):Lib.compact (l.mergeSort fun x y=>decide (x≤y))=nrm l:=by
 have hs:(l.mergeSort fun x y=>decide (x≤y)).Pairwise (·≤·):=by
  have:=List.pairwise_mergeSort (le:=fun x y:Int=>decide (x≤y)) (fun a b c h1 h2=>by simp at *;omega) (fun a b=>by simp;omega) l
  exact this.imp fun h=>by simpa using h
 obtain ⟨h1,h2⟩:=yz71 hs
 refine yz8i h1 (nrm_SI l) fun x=>?_
 rw [h2,nrm_mem,List.mem_mergeSort]
theorem yzc5 (zs:List Int):(Lib.compact zs).length≤zs.length:=by
 unfold Lib.compact Lib.compactUpTo
 rw [Y6]
 exact Y1m (List.length_filter_le _ _) (by simp)
end Go.Ab
namespace Go.Ab
open Go.Proofs
theorem k_Sort (zs:List Int) (nn:Bool) (hz:zs.length<4611686018427387904):Con Tryz.prog nz5x [.row 0 1 nn (ints zs)] [.own 5000 0] true
  fun outs rows res=>outs=[.row 0 1 nn (ints (zs.mergeSort fun x y=>decide (x≤y)))]∧rows=[]∧res=.tup []:=by
 refine con_inrow yz42 zs _ (by simp) (fun g off cap w hH hb _ _=>?_) (fun p cap w=>?_) nn
 ·refine (AnyG.slices_Sort_int Tryz.lsort g off cap zs w hH hb hz).mono ?_
  rintro e w' ⟨he,n,os,hw⟩
  exact ⟨he,n,os,hw⟩
 ·exact AnyG.slices_Sort_int_none Tryz.lsort p cap w
theorem k_Compact (zs:List Int) (nn:Bool):Con Tryz.prog nz6b [.row 0 1 nn (ints zs)] [.own 5000 0] true
  fun outs rows res=>∃ v,outs=[.row v 1 nn (ints (Lib.compact zs))]∧rows=[]∧res=.own 5000 v:=by
 have hl:=yzc5 zs
 have h:=yzeu yz34 zs (Lib.compact zs ++ Yl (zs.length - (Lib.compact zs).length) 0) (Lib.compact zs).length (by simp;omega) hl
  (fun g off cap w hH hb hm hc=>by
   refine (AnyG.slices_Compact_int Tryz.lcompact g off cap zs w hH (by have:=yzc;omega) hc).mono ?_
   rintro e w' ⟨he,q,hw⟩
   exact ⟨he,q,#[],by rw [Sort.grow_empty];exact hw⟩)
  (fun p cap w=>AnyG.slices_Compact_int_empty Tryz.lcompact p cap w) nn
 rw [List.take_left] at h
 exact h
theorem yzb6 {P:Program} {σ:St} {g:FuncId} {As:List AVal} {d:Option Nat} {s:Nat→Nat} {K:St→Prop} {r v:Nat} {cs cs':List AVal} {nn:Bool} {R:List AObj→List AObj→AVal→Prop}
  (h:Con P g [.row 0 1 nn cs'] [.own 5000 0] true R) (hr:σ.hp r=.row v 1 nn cs) (hco:CoeL σ.hp [r] false cs' cs) (hA:As=[.own r v])
  (hk:∀ outs rows res,R outs rows res→rows=[]∧∃ o,outs=[o]∧K (St.put ⟨σ.tm,upd σ.hp r (o.ren (rid [r] (d.getD 0) 0) (sv σ.hp [r] s))⟩ d (res.ren (rid [r] (d.getD 0) 0) (sv σ.hp [r] s)))) :
  wpCall P false σ g As d s K:=by
 subst hA
 refine .inl ⟨[r],[.row 0 1 nn cs'],[.own 5000 0],true,R,h,⟨by simp,rfl,by simp,by simp [hr],?_⟩,?_,(fun e=>by cases e),?_⟩
 ·intro j B r' hB hr'
  cases j with
  | succ j=>simp at hB
  | zero =>
   simp at hB hr';subst hB;subst hr'
   simp only [ObjCoe,hr]
   exact ⟨trivial,v,cs,rfl,hco⟩
 ·rw [yzb]
  simp only [Coe,yz1l,and_true]
  exact ⟨0,r,v,rfl,rfl,rfl,rfl,by rw [hr];rfl⟩
 ·intro outs rows res hR
  obtain ⟨rfl,o,rfl,hK⟩:=hk outs rows res hR
  refine ⟨rfl,by simp,by simp,?_⟩
  rw [yz6z]
  exact hK
theorem yz87 {hp:Nat→AObj} {m:List Nat} {len:Bool} {xs:List Int}:Coe hp m len (.ro (argN xs) 1 (ints xs)) (.ro (argN xs) 1 (ints xs))=True:=by
 by_cases h:xs.length=0
 ·have e:argN xs=some none:=by unfold argN;rw [if_pos h]
  have:=yzcl (hp:=hp) (m:=m) (len:=len) (xs:=xs)
  rw [e] at this ⊢;exact this
 ·have e:argN xs=none:=by unfold argN;rw [if_neg h]
  rw [e,yzdy]
  exact eq_true ⟨by omega,yz2q fun A hA=>by simp only [Y3] at hA;obtain ⟨x,_,rfl⟩:=hA;exact ⟨_,rfl⟩⟩
theorem yz9j {hp:Nat→AObj} {r v:Nat} {xs:List Int} (h:hp r=.row v 1 true (ints xs)):Coe hp [] true (.ro (argN xs) 1 (ints xs)) (.own r v):=by
 simp only [Coe]
 refine ⟨?_,by omega,.inr (.inr ⟨trivial,r,v,true,ints xs,rfl,by simp,h,yz1t⟩)⟩
 by_cases e:xs.length=0
 ·have h0:xs=[]:=Yh e
  subst h0
  exact .inr (.inr ⟨rfl,rfl,.inr ⟨r,v,1,_,rfl,h⟩⟩)
 ·left;unfold argN;rw [if_neg e]
theorem sv_0 {hp:Nat→AObj} {r v:Nat} {s:Nat→Nat} (h:(hp r).ver=some v):sv hp [r] s 0=v:=by
 unfold sv;simp [h]
theorem ren_own_h {r d n u:Nat} {s:Nat→Nat}:AVal.ren (rid [r] d n) s (.own 5000 u)=.own r (s u):=by
 have h1:rid [r] d n 5000=some r:=yzad (j:=0) (by omega) rfl
 simp only [AVal.ren,h1]
theorem k_sorted (xs:List Int) (h:xs.length * 8≤140737488355328):RowI Tryz.prog nz6a [.ro (argN xs) 1 (ints xs)] (fun ys=>ys=nrm xs):=by
 refine yz1k mixed czu0 rfl ?_
 simp only [Azrc,Bzrb,go_sem,yz0,J9,J8,J6,J7,J5,J0,J1,J2,reduceIte,J3,J4,reduceCtorEq]
 intro vs
 refine yzm (yzfk xs h) (by simp only [yz87,csA,rowIs,boxIs,J3,ne_eq,reduceCtorEq,exists_eq_left,exists_eq_right,Y8,Yi,exists_eq_left',exists_and_left,exists_eq,Y1,Yb,AObj.ver,J5]) rfl ⟨_,rfl⟩ ?_
 rintro ys v rfl
 simp only [Bzra,go_sem,yz0,J9,J8,J6,J7,J5,J0,J1,J2,reduceIte,J3,J4,reduceCtorEq]
 intro vs2
 refine yzb6 (k_Sort ys true (by omega)) (r:=5) (v:=v) qWS yz1t qWS ?_
 rintro outs rows res ⟨rfl,rfl,rfl⟩
 refine ⟨rfl,_,rfl,?_⟩
 have e0:=sv_0 (hp:=L AObj.gone [(5,AObj.row v 1 true (ints ys))]) (r:=5) (v:=v) (s:=vs2 1) rfl
 simp only [e0,rsA,AVal.fresh,freshL,AObj.fresh,id,Y1v,go_sem,yz0,J9,J8,J6,J7,J5,J0,J1,J2,reduceIte,J3,J4,reduceCtorEq]
 simp only [Bzr9,go_sem,yz0,J9,J8,J6,J7,J5,J0,J1,J2,reduceIte,J3,J4,reduceCtorEq]
 intro vs3
 refine yzb6 (k_Compact _ true) (r:=5) (v:=v) (by simp only [go_sem,yz0,J9,J8,J6,J7,J5,J0,J1,J2,reduceIte,J3,J4,reduceCtorEq];rfl) yz1t qWS ?_
 rintro outs rows res ⟨u,rfl,rfl,rfl⟩
 refine ⟨rfl,_,rfl,?_⟩
 simp only [yzbr,ren_own_h,rsA,AVal.fresh,freshL,AObj.fresh,id,Y1v,go_sem,yz0,J9,J8,J6,J7,J5,J0,J1,J2,reduceIte,J3,J4,reduceCtorEq]
 exact ⟨5,_,nrm ys,by omega,rfl,by simp only [go_sem,yz0,J9,J8,J6,J7,J5,J0,J1,J2,reduceIte,J3,J4,reduceCtorEq],rfl⟩
theorem actA_nil' (n:Int) (next:List (List Int)):actA n next []=allS n:=rfl
theorem k_all (n:Int) (next:List (List Int)) (A:Aut n next):RowI Tryz.prog nz5c [autA n next] (fun xs=>xs=allS n):=by
 refine yz1k mixed czsg rfl ?_
 simp only [Azj1,Bzj0,go_sem,yz0,J9,J8,J6,J7,J5,J0,J1,J2,reduceIte,J3,J4,reduceCtorEq]
 intro vs vs2
 refine yzm (k_action n next [] A (by intro x hx;simp at hx)) (by simp only [Yb,csA,rowIs,boxIs,J3,ne_eq,reduceCtorEq,exists_eq_left,exists_eq_right,Y8,Yi,exists_eq_left',exists_and_left,exists_eq,Y1,Yb,AObj.ver,J5]) rfl ⟨_,rfl⟩ ?_
 rintro xs v rfl
 simp only [go_sem,yz0,J9,J8,J6,J7,J5,J0,J1,J2,reduceIte,J3,J4,reduceCtorEq]
 exact ⟨4,v,allS n,by omega,rfl,by simp only [actA_nil',go_sem,yz0,J9,J8,J6,J7,J5,J0,J1,J2,reduceIte,J3,J4,reduceCtorEq],rfl⟩
abbrev Fun2 (P:Program) (g:FuncId) (args:List AVal) (x y:Value):Prop:=Fn P g args fun rows res=>rows=[]∧res=.tup [.val x,.val y]
theorem fun2_of {P:Program} {g:FuncId} {F:AFn} (hm:P.follows .mixedOrders=true) {no:Option (List Nat×List FuncId)} (hF:cFn (drV no) P g F) {args:List AVal} (hargs:args.length=F.nparams) {x y:Value}
  (h:wpD P F.code (finQ fun σ=>(∀ x∈F.res,σ.there x)∧σ.value F.res=.tup [.val x,.val y]) (St.init args [])):Fun2 P g args x y:=by
 refine yz90 hm hF hargs (by simp) (yzl _ _ _ _ (fun e σ he=>?_) h)
 have:((∀ x∈F.res,σ.there x)∧σ.value F.res=.tup [.val x,.val y])→_:=fun ⟨h1,h2⟩ =>
  (show (∀ x∈F.res,σ.there x)∧∃ ids:List Nat,ids.length≤1000∧ids.Nodup∧(∀ n∈ids,n<5000)∧(σ.value F.res).fresh∧(∀ n∈ids,(σ.hp n).fresh)∧(∀ j,j<([]:List AObj).length→(σ.hp (5000+j)).fresh) ∧
   (fun outs rows res=>outs=[]∧rows=[]∧res=AVal.tup [.val x,.val y]) ((Ya ([]:List AObj).length).map fun j=>(σ.hp (5000+j)).ren (expo ids) id) (ids.map fun n=>(σ.hp n).ren (expo ids) id) ((σ.value F.res).ren (expo ids) id) from
  ⟨h1,[],by simp,by simp,by simp,by rw [h2];simp [AVal.fresh,freshL],by simp,by simp,rfl,rfl,by rw [h2];simp only [rsA,AVal.fresh,freshL,AObj.fresh,id,Y1v]⟩)
 cases e with
 | exit _=>exact he
 | normal=>exact this he
 | ret=>exact this he
theorem yz6t {P:Program} {pu:Bool} {σ:St} {g:FuncId} {As args:List AVal} {d:Option Nat} {s:Nat→Nat} {K:St→Prop} {x y:Value} (h:Fun2 P g args x y) (hco:CoeL σ.hp [] true args As)
  (hk:K (St.put σ d (.tup [.val x,.val y]))):wpCall P pu σ g As d s K:=by
 refine yz5r h hco (fun _=>⟨_,_,rfl,rfl⟩) ?_
 rintro rows res ⟨rfl,rfl⟩
 refine ⟨by simp,by simp,?_⟩
 simp only [rsA,AVal.fresh,freshL,AObj.fresh,id,Y1v]
 exact hk
theorem allS_in {n:Int}:∀ s∈allS n,0≤s∧s<n:=by
 intro s hs
 simp only [allS,Y3,Ym] at hs
 obtain ⟨i,hi,rfl⟩:=hs
 omega
theorem wordB_iff {l:Nat} {w:List Int}:wordB l w=true↔(w.length:Int)≤400∧IsW l w:=by
 simp only [wordB,Y20,decide_eq_true_eq,allIn_iff]
 constructor
 ·rintro ⟨h1,h2⟩;exact ⟨h1,fun x hx=>by have:=h2 x hx;omega⟩
 ·rintro ⟨h1,h2⟩;exact ⟨h1,fun x hx=>by have:=h2 x hx;omega⟩
theorem ne10:((1:Int) != 0)=true:=rfl
theorem ne20:((2:Int) != 0)=true:=rfl
attribute [go_sem] dnL_rwo mvL_rwo rwo_len
theorem k_l00Put (xs:List Int) (x:Int) (h:xs.length≤1000000):RowI Tryz.prog nz60 [.ro none 1 (ints xs),iv x] (fun ys=>ys=put xs x):=by
 refine yz1k mixed czth rfl ?_
 simp only [Azor,Bzoq,go_sem,yz0,J9,J8,J6,J7,J5,J0,J1,J2,reduceIte,J3,J4,reduceCtorEq]
 intro vs
 simp only [Bzop,Bzoo,Bzon,go_sem,yz0,J9,J8,J6,J7,J5,J0,J1,J2,reduceIte,J3,J4,reduceCtorEq]
 refine yzo (fun (_,_,i,_)=>xs.length - i) (fun (_,d,i,out)=>i≤xs.length∧Yf out≤i+d.toNat∧out ++ (if d=true then xs.drop i else put (xs.drop i) x)=put xs x)
  (fun ((v,d,i,out):Nat×Bool×Nat×List Int)=>⟨L .any [(0,.ro none 1 (ints xs)),(1,iv x),(5,.own 8 v),(6,bv d),(7,iv i)],L .gone [(8,.row v 1 true (ints out))]⟩) (_,false,0,[]) (by simp) (by simp only [Bzm,go_sem,yz0,J9,J8,J6,J7,J5,J0,J1,J2,reduceIte,J3,J4,reduceCtorEq];try rfl) ?_
 rintro ⟨v,d,i,out⟩ ⟨hi,ho,he⟩
 by_cases hlt:(i:Int)<xs.length
 ·have hlt1:i<xs.length:=by omega
  have hdr:=yzn hlt1 (0:Int)
  have hsn:∀ u:List Int,u ++ [xs.getD i 0]=u ++ [xs.getD i 0]:=fun _=>rfl
  cases d with
  | true =>
   simp only [if_true,hdr] at he
   simp only [Bool.toNat_true] at ho
   simp only [Bzm,Bz1g,Bz1j,Bz4h,Bz1h,Bz1i,yz3 hlt1,decide_eq_true hlt,go_sem,yz0,J9,J8,J6,J7,J5,J0,J1,J2,reduceIte,J3,J4,reduceCtorEq]
   intro hM vs2
   refine ⟨⟨by omega,hlt1⟩,hlt1,⟨_,rfl,rfl⟩,by omega,?_⟩
   simp only [nat1 i _ hlt1 hM,go_sem,yz0,J9,J8,J6,J7,J5,J0,J1,J2,reduceIte,J3,J4,reduceCtorEq]
   exact ⟨(_,true,i+1,out ++ [xs.getD i 0]),by dsimp only;omega,⟨by dsimp only;omega,by dsimp only;simp;omega,by dsimp only;rw [if_pos rfl,← he];simp⟩,rfl⟩
  | false =>
   simp only [Y23,if_false,hdr,put] at he
   simp only [Bool.toNat_false,Y1p] at ho
   simp only [Bzm,Bz1g,Bz1j,yz3 hlt1,decide_eq_true hlt,go_sem,yz0,J9,J8,J6,J7,J5,J0,J1,J2,reduceIte,J3,J4,reduceCtorEq]
   intro hM
   refine ⟨⟨by omega,hlt1⟩,hlt1,?_⟩
   by_cases hge:x≤xs.getD i 0
   ·rw [if_pos hge] at he
    simp only [Bz4h,Bzom,yz3 hlt1,decide_eq_true hge,go_sem,yz0,J9,J8,J6,J7,J5,J0,J1,J2,reduceIte,J3,J4,reduceCtorEq]
    refine ⟨⟨by omega,hlt1⟩,hlt1,?_⟩
    by_cases hgt:x<xs.getD i 0
    ·rw [if_pos hgt] at he
     simp only [Bzbh,Bz1h,Bz1i,yz3 hlt1,decide_eq_true hgt,go_sem,yz0,J9,J8,J6,J7,J5,J0,J1,J2,reduceIte,J3,J4,reduceCtorEq]
     refine ⟨⟨_,rfl,rfl⟩,by omega,?_⟩
     intro vs3
     refine ⟨⟨by omega,hlt1⟩,hlt1,⟨_,rfl,rfl⟩,by simp;omega,?_⟩
     simp only [nat1 i _ hlt1 hM,go_sem,yz0,J9,J8,J6,J7,J5,J0,J1,J2,reduceIte,J3,J4,reduceCtorEq]
     exact ⟨(_,true,i+1,out ++ [x] ++ [xs.getD i 0]),by dsimp only;omega,⟨by dsimp only;omega,by dsimp only;simp;omega,by dsimp only;rw [if_pos rfl,← he];simp⟩,rfl⟩
    ·rw [if_neg hgt] at he
     simp only [Bzbh,Bz1h,Bz1i,yz3 hlt1,decide_eq_false hgt,go_sem,yz0,J9,J8,J6,J7,J5,J0,J1,J2,reduceIte,J3,J4,reduceCtorEq]
     intro vs2
     refine ⟨⟨by omega,hlt1⟩,hlt1,⟨_,rfl,rfl⟩,by omega,?_⟩
     simp only [nat1 i _ hlt1 hM,go_sem,yz0,J9,J8,J6,J7,J5,J0,J1,J2,reduceIte,J3,J4,reduceCtorEq]
     exact ⟨(_,true,i+1,out ++ [xs.getD i 0]),by dsimp only;omega,⟨by dsimp only;omega,by dsimp only;simp;omega,by dsimp only;rw [if_pos rfl,← he];simp⟩,rfl⟩
   ·rw [if_neg hge] at he
    simp only [Bz4h,Bz1h,Bz1i,yz3 hlt1,decide_eq_false hge,go_sem,yz0,J9,J8,J6,J7,J5,J0,J1,J2,reduceIte,J3,J4,reduceCtorEq]
    intro vs2
    refine ⟨⟨by omega,hlt1⟩,hlt1,⟨_,rfl,rfl⟩,by omega,?_⟩
    simp only [nat1 i _ hlt1 hM,go_sem,yz0,J9,J8,J6,J7,J5,J0,J1,J2,reduceIte,J3,J4,reduceCtorEq]
    exact ⟨(_,false,i+1,out ++ [xs.getD i 0]),by dsimp only;omega,⟨by dsimp only;omega,by dsimp only;simp;omega,by dsimp only;rw [if_neg (by simp),← he];simp⟩,rfl⟩
 ·have:i=xs.length:=by have:i≤xs.length:=hi;omega
  subst this
  rw [Y14] at he
  have ho2:out.length≤xs.length+1:=by have:=ho;cases d <;> simp at this <;> omega
  cases d with
  | true =>
   simp only [Bzm,Bz1g,Bz1j,Bzbk,Bzbi,Bzbj,decide_eq_false hlt,go_sem,yz0,J9,J8,J6,J7,J5,J0,J1,J2,reduceIte,J3,J4,reduceCtorEq]
   intro _
   refine ⟨8,v,out,by omega,rfl,by simp only [go_sem,yz0,J9,J8,J6,J7,J5,J0,J1,J2,reduceIte,J3,J4,reduceCtorEq],?_⟩
   rw [← he];simp
  | false =>
   simp only [Bzm,Bz1g,Bz1j,Bzbk,Bzbi,Bzbj,decide_eq_false hlt,go_sem,yz0,J9,J8,J6,J7,J5,J0,J1,J2,reduceIte,J3,J4,reduceCtorEq]
   intro _ vs2
   refine ⟨⟨_,rfl,rfl⟩,by omega,?_⟩
   refine ⟨8,_,out ++ [x],by omega,rfl,by simp only [go_sem,yz0,J9,J8,J6,J7,J5,J0,J1,J2,reduceIte,J3,J4,reduceCtorEq],?_⟩
   rw [← he];simp [put]
instance (l:List Int):Decidable (SI l):=inferInstanceAs (Decidable (l.Pairwise (·<·)))
def setB (n:Int) (set:List Int):Bool:=decide (SI set) && allIn set 0 (n - 1)
theorem setB_iff {n:Int} {set:List Int}:setB n set=true↔SI set∧∀ x∈set,0≤x∧x<n:=by
 simp only [setB,Y20,decide_eq_true_eq,allIn_iff]
 constructor
 ·rintro ⟨h1,h2⟩;exact ⟨h1,fun x hx=>by have:=h2 x hx;omega⟩
 ·rintro ⟨h1,h2⟩;exact ⟨h1,fun x hx=>by have:=h2 x hx;omega⟩
theorem yz25 {set:List Int} {i:Nat} (hi:i<set.length) (h:SI (set.take i)):SI (set.take (i+1))↔(0<i→set.getD (i - 1) 0<set.getD i 0):=by
 have ht:set.take (i+1)=set.take i ++ [set.getD i 0]:=by
  rw [Y1a hi,Y0,Y2 hi];rfl
 have hg:∀ j,j<i→(set.take i)[j]?=some (set.getD j 0):=by
  intro j hj
  rw [Yr,if_pos hj,Y0,Y2 (by omega)];rfl
 rw [ht]
 unfold SI at h ⊢
 rw [Y12]
 constructor
 ·rintro ⟨_,_,h3⟩ h0
  exact h3 _ (Yw (hg (i - 1) (by omega))) _ (by simp)
 ·intro h3
  refine ⟨h,by simp,fun y hy z hz=>?_⟩
  have hz:z=set.getD i 0:=by simpa using hz
  subst hz
  obtain ⟨j,hj⟩:=List.getElem?_of_mem hy
  have hj2:j<i:=by
   have:=(Yn.1 hj).1;rw [Yk] at this;omega
  rw [hg j hj2] at hj
  have hj:set.getD j 0=y:=by simpa using hj
  have h4:=h3 (by omega)
  by_cases e:j=i - 1
  ·rw [← hj,e];exact h4
  ·rw [Y1g] at h
   have h5:=h j (i - 1) (by rw [Yk];omega) (by rw [Yk];omega) (by omega)
   have e1:(set.take i)[j]'(by rw [Yk];omega)=set.getD j 0:=by
    have:=hg j hj2;rw [Y2 (by rw [Yk];omega)] at this;simpa using this
   have e2:(set.take i)[i - 1]'(by rw [Yk];omega)=set.getD (i - 1) 0:=by
    have:=hg (i - 1) (by omega);rw [Y2 (by rw [Yk];omega)] at this;simpa using this
   rw [e1,e2] at h5
   omega
theorem SI_len {n:Int}:∀ {set:List Int},SI set→(∀ x∈set,0≤x∧x<n)→(set.length:Int)≤n∨set=[]
 | set,h,hx=>by
  by_cases h0:set=[]
  ·exact .inr h0
  left
  have key:∀ i,i<set.length→(i:Int)≤set.getD i 0:=by
   intro i
   induction i with
   | zero =>
    intro hi
    exact (hx _ (yz4 hi 0)).1
   | succ i ih =>
    intro hi
    have h1:=ih (by omega)
    unfold SI at h
    rw [Y1g] at h
    have h2:=h i (i+1) (by omega) hi (by omega)
    have e1:set.getD i 0=set[i]:=by rw [Y0,Y2 (by omega)];rfl
    have e2:set.getD (i+1) 0=set[i+1]:=by rw [Y0,Y2 hi];rfl
    rw [e1] at h1;rw [e2];omega
  have hp:0<set.length:=List.length_pos_iff.2 h0
  have h1:=key (set.length - 1) (by omega)
  have h2:=(hx _ (yz4 (show set.length - 1<set.length by omega) 0)).2
  omega
theorem yz8c {set:List Int} {i:Nat} (h:SI set):SI (set.take i):=List.Pairwise.sublist (List.take_sublist i set) h
theorem k_isSet (set:List Int) (n:Int) (hn:1≤n∧n≤10):Fun Tryz.prog nz1x [.ro none 1 (ints set),iv n] (bv (setB n set)):=by
 refine yzd mixed czsc rfl ⟨rfl,trivial⟩ ?_
 have w1:IntKind.i64.wrap (n - 1)=n - 1:=w64 (by omega)
 simp only [Azit,Bzis,Bziq,go_sem,yz0,J9,J8,J6,J7,J5,J0,J1,J2,reduceIte,J3,J4,reduceCtorEq]
 intro hM
 have hM2:=yzc
 refine yzo (fun i=>set.length - i) (fun i=>i≤set.length∧SI (set.take i)∧allIn (set.take i) 0 (n - 1)=true)
  (fun i:Nat=>⟨L .any [(0,.ro none 1 (ints set)),(1,iv n),(7,.ro none 1 (ints set)),(8,iv set.length),(9,iv i)],L .gone []⟩) 0 (by simp [allIn,SI]) (by simp only [Bz3i,go_sem,yz0,J9,J8,J6,J7,J5,J0,J1,J2,reduceIte,J3,J4,reduceCtorEq];try rfl) ?_
 rintro i ⟨hi,hs,ha⟩
 by_cases hlt:(i:Int)<set.length
 ·have hlt1:i<set.length:=by omega
  have ht:set.take (i+1)=set.take i ++ [set.getD i 0]:=by
   rw [Y1a hlt1,Y0,Y2 hlt1];rfl
  simp only [Bz3i,Bz8i,Bz8h,yz3 hlt1,decide_eq_true hlt,go_sem,yz0,J9,J8,J6,J7,J5,J0,J1,J2,reduceIte,J3,J4,reduceCtorEq]
  refine ⟨⟨by omega,hlt1⟩,hlt1,?_⟩
  simp only [Bzip,w1,go_sem,yz0,J9,J8,J6,J7,J5,J0,J1,J2,reduceIte,J3,J4,reduceCtorEq]
  intro vs
  refine yz5 (yz6f (set.getD i 0) 0 (n - 1)) qCS trivial ?_
  have hmem:=yz4 hlt1 (0:Int)
  by_cases hin:0≤set.getD i 0∧set.getD i 0≤n - 1
  ·have e1:(decide (0≤set.getD i 0) && decide (set.getD i 0≤n - 1))=true:=by rw [decide_eq_true hin.1,decide_eq_true hin.2];rfl
   have ha2:allIn (set.take (i+1)) 0 (n - 1)=true:=by
    rw [ht,allIn_iff]
    intro x hx
    rcases Y4.1 hx with hx | hx
    ·exact allIn_iff.1 ha x hx
    ·have hx:x=set.getD i 0:=by simpa using hx
     subst hx;exact hin
   by_cases h0:(0:Int)<i
   ·have hi1:i - 1<set.length:=by omega
    have w2:IntKind.i64.wrap ((i:Int) - 1)=((i - 1:Nat):Int):=by rw [w64 (by omega)];omega
    simp only [e1,decide_eq_true h0,w2,yz3 hi1,go_sem,yz0,J9,J8,J6,J7,J5,J0,J1,J2,reduceIte,J3,J4,reduceCtorEq]
    refine ⟨⟨by omega,hi1⟩,hi1,?_⟩
    have hk:=yz25 hlt1 hs
    by_cases hle:set.getD i 0≤set.getD (i - 1) 0
    ·have hf:setB n set=false:=by
      cases hb:setB n set with
      | false=>rfl
      | true =>
       have:=hk.1 (yz8c (setB_iff.1 hb).1) (by omega)
       omega
     simp only [Bz12,decide_eq_true hle,hf,go_sem,yz0,J9,J8,J6,J7,J5,J0,J1,J2,reduceIte,J3,J4,reduceCtorEq]
    ·simp only [Bz12,Bz8g,decide_eq_false hle,nat1 i _ hlt1 hM,go_sem,yz0,J9,J8,J6,J7,J5,J0,J1,J2,reduceIte,J3,J4,reduceCtorEq]
     exact ⟨i+1,by omega,⟨by omega,hk.2 fun _=>by omega,ha2⟩,rfl⟩
   ·have:i=0:=by omega
    subst this
    simp only [e1,decide_eq_false h0,go_sem,yz0,J9,J8,J6,J7,J5,J0,J1,J2,reduceIte,J3,J4,reduceCtorEq]
    simp only [Bz12,Bz8g,nat1 0 _ hlt1 hM,go_sem,yz0,J9,J8,J6,J7,J5,J0,J1,J2,reduceIte,J3,J4,reduceCtorEq]
    exact ⟨1,by omega,⟨by omega,(yz25 hlt1 hs).2 fun h=>by omega,ha2⟩,rfl⟩
  ·have e1:(decide (0≤set.getD i 0) && decide (set.getD i 0≤n - 1))=false:=by
    rw [Bool.and_eq_false_iff,decide_eq_false_iff_not,decide_eq_false_iff_not];omega
   have hf:setB n set=false:=by
    cases hb:setB n set with
    | false=>rfl
    | true=>have:=(setB_iff.1 hb).2 _ hmem;omega
   simp only [e1,Bz12,hf,go_sem,yz0,J9,J8,J6,J7,J5,J0,J1,J2,reduceIte,J3,J4,reduceCtorEq]
 ·have:i=set.length:=by omega
  subst this
  rw [Y11] at hs ha
  simp only [Bz3i,Bz8i,Bz8h,Bzir,decide_eq_false hlt,go_sem,yz0,J9,J8,J6,J7,J5,J0,J1,J2,reduceIte,J3,J4,reduceCtorEq]
  simp [setB,hs,ha]
abbrev RowT (P:Program) (g:FuncId) (args:List AVal) (ok:Bool) (xs:List Int) (code:Int):Prop:=Fn P g args fun rows res =>
 if ok=true then ∃ v,rows=[.row v 1 true (ints xs)]∧res=.tup [.own 6000 v,iv code] else rows=[]∧res=.tup [nilS,iv code]
theorem yz2y {P:Program} {pu:Bool} {σ:St} {g:FuncId} {As args:List AVal} {d:Nat} {s:Nat→Nat} {K:St→Prop} {ok:Bool} {xs:List Int} {code:Int} (h:RowT P g args ok xs code)
  (hco:CoeL σ.hp [] true args As) (hg:σ.hp d=.gone)
  (h1:ok=true→∀ v,K (St.put ⟨σ.tm,upd σ.hp d (.row v 1 true (ints xs))⟩ (some d) (.tup [.own d v,iv code])))
  (h2:ok=false→K (St.put ⟨σ.tm,σ.hp⟩ (some d) (.tup [nilS,iv code]))):wpCall P pu σ g As (some d) s K:=by
 refine yz5r h hco (fun _=>?_) ?_
 ·cases ok with
  | true=>exact ⟨[.row 0 1 true (ints xs)],.tup [.own 6000 0,iv code],by rw [if_pos rfl];exact ⟨0,rfl,rfl⟩⟩
  | false=>exact ⟨[],.tup [nilS,iv code],by rw [if_neg (by simp)];exact ⟨rfl,rfl⟩⟩
 ·intro rows res hR
  cases ok with
  | true =>
   simp only [if_true] at hR
   obtain ⟨v,rfl,rfl⟩:=hR
   refine ⟨by simp,?_,?_⟩
   ·simp only [Y1x,yzw];exact hg
   ·simp only [Y1x,Y7,rsA,AVal.fresh,freshL,AObj.fresh,id,Y1v]
    exact h1 rfl _
  | false =>
   simp only [Y23,if_false] at hR
   obtain ⟨rfl,rfl⟩:=hR
   refine ⟨by simp,by simp,?_⟩
   simp only [rsA,AVal.fresh,freshL,AObj.fresh,id,Y1v]
   exact h2 rfl
theorem yzf9 (set:List Int) (lo hi:Int):Fun Tryz.prog nz5f [.ro none 1 (ints set),iv lo,iv hi] (bv (decide (SI set) && allIn set lo hi)):=by
 refine yzd mixed czsm rfl ⟨rfl,trivial⟩ ?_
 simp only [Azjk,Bzjj,Bzjh,go_sem,yz0,J9,J8,J6,J7,J5,J0,J1,J2,reduceIte,J3,J4,reduceCtorEq]
 refine yzo (fun i=>set.length - i) (fun i=>i≤set.length∧SI (set.take i)∧allIn (set.take i) lo hi=true)
  (fun i:Nat=>⟨L .any [(0,.ro none 1 (ints set)),(1,iv lo),(2,iv hi),(7,iv i)],L .gone []⟩) 0 (by simp [allIn,SI]) (by simp only [Bz3m,go_sem,yz0,J9,J8,J6,J7,J5,J0,J1,J2,reduceIte,J3,J4,reduceCtorEq];try rfl) ?_
 rintro i ⟨hi',hs,ha⟩
 by_cases hlt:(i:Int)<set.length
 ·have hlt1:i<set.length:=by omega
  have ht:set.take (i+1)=set.take i ++ [set.getD i 0]:=by
   rw [Y1a hlt1,Y0,Y2 hlt1];rfl
  have hmem:=yz4 hlt1 (0:Int)
  simp only [Bz3m,Bz8u,Bz8w,yz3 hlt1,decide_eq_true hlt,go_sem,yz0,J9,J8,J6,J7,J5,J0,J1,J2,reduceIte,J3,J4,reduceCtorEq]
  intro hM vs
  have hM2:=yzc
  refine ⟨⟨by omega,hlt1⟩,hlt1,?_⟩
  refine yz5 (yza2 (set.getD i 0) lo hi) qCS trivial ?_
  by_cases hin:lo≤set.getD i 0∧set.getD i 0≤hi
  ·have e1:(decide (lo≤set.getD i 0) && decide (set.getD i 0≤hi))=true:=by rw [decide_eq_true hin.1,decide_eq_true hin.2];rfl
   have ha2:allIn (set.take (i+1)) lo hi=true:=by
    rw [ht,allIn_iff]
    intro x hx
    rcases Y4.1 hx with hx | hx
    ·exact allIn_iff.1 ha x hx
    ·have hx:x=set.getD i 0:=by simpa using hx
     subst hx;exact hin
   by_cases h0:(0:Int)<i
   ·have hi1:i - 1<set.length:=by omega
    have w2:IntKind.i64.wrap ((i:Int) - 1)=((i - 1:Nat):Int):=by rw [w64 (by omega)];omega
    simp only [e1,decide_eq_true h0,w2,yz3 hi1,yz3 hlt1,go_sem,yz0,J9,J8,J6,J7,J5,J0,J1,J2,reduceIte,J3,J4,reduceCtorEq]
    refine ⟨⟨by omega,hi1⟩,hi1,⟨by omega,hlt1⟩,hlt1,?_⟩
    have hk:=yz25 hlt1 hs
    by_cases hle:set.getD i 0≤set.getD (i - 1) 0
    ·have hf:(decide (SI set) && allIn set lo hi)=false:=by
      rw [Bool.and_eq_false_iff];left
      rw [decide_eq_false_iff_not]
      intro hb
      have:=hk.1 (yz8c hb) (by omega)
      omega
     simp only [Bz15,decide_eq_true hle,hf,go_sem,yz0,J9,J8,J6,J7,J5,J0,J1,J2,reduceIte,J3,J4,reduceCtorEq]
    ·simp only [Bz15,Bz8v,decide_eq_false hle,nat1 i _ hlt1 hM,go_sem,yz0,J9,J8,J6,J7,J5,J0,J1,J2,reduceIte,J3,J4,reduceCtorEq]
     exact ⟨i+1,by omega,⟨by omega,hk.2 fun _=>by omega,ha2⟩,rfl⟩
   ·have:i=0:=by omega
    subst this
    simp only [e1,decide_eq_false h0,go_sem,yz0,J9,J8,J6,J7,J5,J0,J1,J2,reduceIte,J3,J4,reduceCtorEq]
    simp only [Bz15,Bz8v,nat1 0 _ hlt1 hM,go_sem,yz0,J9,J8,J6,J7,J5,J0,J1,J2,reduceIte,J3,J4,reduceCtorEq]
    exact ⟨1,by omega,⟨by omega,(yz25 hlt1 hs).2 fun h=>by omega,ha2⟩,rfl⟩
  ·have e1:(decide (lo≤set.getD i 0) && decide (set.getD i 0≤hi))=false:=by
    rw [Bool.and_eq_false_iff,decide_eq_false_iff_not,decide_eq_false_iff_not];omega
   have hf:(decide (SI set) && allIn set lo hi)=false:=by
    rw [Bool.and_eq_false_iff];right
    cases hb:allIn set lo hi with
    | false=>rfl
    | true=>exact absurd (allIn_iff.1 hb _ hmem) hin
   simp only [e1,Bz15,hf,go_sem,yz0,J9,J8,J6,J7,J5,J0,J1,J2,reduceIte,J3,J4,reduceCtorEq]
 ·have:i=set.length:=by omega
  subst this
  rw [Y11] at hs ha
  simp only [Bz3m,Bz8u,Bz8w,Bzji,decide_eq_false hlt,go_sem,yz0,J9,J8,J6,J7,J5,J0,J1,J2,reduceIte,J3,J4,reduceCtorEq]
  intro _
  simp [hs,ha]
theorem k_l01Set (n:Int) (next:List (List Int)) (set:List Int) (hn:1≤n∧n≤10):Fun Tryz.prog nz55 [autP n next,.ro none 1 (ints set)] (bv (setB n set)):=by
 refine yzd mixed czrt rfl ⟨rfl,trivial⟩ ?_
 have w1:IntKind.i64.wrap (n - 1)=n - 1:=w64 (by omega)
 simp only [Bzf2,Azf3,w1,go_sem,yz0,J9,J8,J6,J7,J5,J0,J1,J2,reduceIte,J3,J4,reduceCtorEq]
 intro vs
 refine yz5 (yzf9 set 0 (n - 1)) qCS trivial ?_
 simp only [setB,go_sem,yz0,J9,J8,J6,J7,J5,J0,J1,J2,reduceIte,J3,J4,reduceCtorEq]
abbrev RowC2 (P:Program) (g:FuncId) (args:List AVal) (xs:List Int) (code:Int):Prop:=Fn P g args fun rows res=>∃ v,rows=[.row v 1 true (ints xs)]∧res=.tup [.own 6000 v,iv code]
theorem yz4u {P:Program} {pu:Bool} {σ:St} {g:FuncId} {As args:List AVal} {d:Nat} {s:Nat→Nat} {K:St→Prop} {xs:List Int} {code:Int} (h:RowC2 P g args xs code)
  (hco:CoeL σ.hp [] true args As) (hg:σ.hp d=.gone) (h1:∀ v,K (St.put ⟨σ.tm,upd σ.hp d (.row v 1 true (ints xs))⟩ (some d) (.tup [.own d v,iv code]))):wpCall P pu σ g As (some d) s K:=by
 refine yz5r h hco (fun _=>⟨_,_,0,rfl,rfl⟩) ?_
 rintro rows res ⟨v,rfl,rfl⟩
 refine ⟨by simp,?_,?_⟩
 ·simp only [Y1x,yzw];exact hg
 ·simp only [Y1x,Y7,rsA,AVal.fresh,freshL,AObj.fresh,id,Y1v]
  exact h1 _
theorem yz76 {hp:Nat→AObj} {m:List Nat} {len:Bool} {ps:List (Nat×List Int)}:CoeL hp m len (rwn (ps.map (·.2))) (rwp ps)=True:=eq_true yzcc
end Go.Ab
namespace Go.Ab
theorem yz5q {x:Int}:∀ {xs:List Int},x ∉ xs→(put xs x).length=xs.length+1
 | [],_=>by simp [put]
 | y :: xs,h=>by
  have h1:x≠y:=fun e=>h (by simp [e])
  have h2:x ∉ xs:=fun e=>h (by simp [e])
  simp only [put]
  split
  ·split
   ·simp
   ·omega
  ·have:=yz5q (x:=x) (xs:=xs) h2
   simp only [Ye];omega
theorem yz55 {l:List Int} (h:l.Nodup):(nrm l).length=l.length:=by
 have gen:∀ (l acc:List Int),l.Nodup→(∀ x∈l,x ∉ acc)→(l.foldl put acc).length=acc.length+l.length:=by
  intro l
  induction l with
  | nil=>intro acc _ _;simp
  | cons x l ih =>
   intro acc h1 h2
   rw [Y16] at h1
   rw [Ys,ih (put acc x) h1.2 (fun y hy hm=>?_),yz5q (h2 x (by simp)),Ye]
   ·omega
   ·rcases put_mem.1 hm with rfl | hm
    ·exact h1.1 hy
    ·exact h2 y (by simp [hy]) hm
 have:=gen l [] h (by simp)
 simpa [nrm] using this
structure Once (n:Int) (l:List Int):Prop where
 nd:l.Nodup
 rg:∀ x∈l,0≤x∧x<n
theorem Once.len {n:Int} {l:List Int} (hn:1≤n) (h:Once n l):(l.length:Int)≤n:=by
 have h1:=yz55 h.nd
 rcases SI_len (nrm_SI l) (fun x hx=>h.rg x (nrm_mem.1 hx)) with h2 | h2
 ·omega
 ·rw [h2] at h1;simp at h1;omega
theorem Once.snoc {n:Int} {l:List Int} {x:Int} (h:Once n l) (hx:0≤x∧x<n) (hm:x ∉ l):Once n (l ++ [x]):=by
 refine ⟨?_,?_⟩
 ·rw [Y19]
  refine ⟨h.nd,by simp,?_⟩
  intro a ha b hb
  have:b=x:=by simpa using hb
  subst this
  rintro rfl
  exact hm ha
 ·intro y hy
  rcases Y4.1 hy with hy | hy
  ·exact h.rg y hy
  ·have:y=x:=by simpa using hy
   subst this;exact hx
def addL (l:List Int) (x:Int):List Int:=if l.contains x=true then l else l ++ [x]
theorem Once.add {n:Int} {l:List Int} {x:Int} (h:Once n l) (hx:0≤x∧x<n):Once n (addL l x):=by
 unfold addL
 split
 ·exact h
 ·rename_i h1
  exact h.snoc hx (by simpa using h1)
def visK (s:Int):List (List Int)→List Int→List Int
 | [],l=>l
 | row :: rs,l=>visK s rs (addL l (row.getD s.toNat 0))
theorem Once.vis {n s:Int} (hs:0≤s∧s<n):∀ {rs:List (List Int)} {l:List Int},(∀ row∈rs,(row.length:Int)=n∧∀ x∈row,0≤x∧x<n)→Once n l→Once n (visK s rs l)
 | [],_,_,h=>h
 | row :: rs,l,hr,h=>by
  have h1:=hr row (by simp)
  have h2:s.toNat<row.length:=by omega
  exact Once.vis (rs:=rs) hs (fun r hm=>hr r (by simp [hm])) (h.add (h1.2 _ (yz4 h2 0)))
def runL (next:List (List Int)):Nat→List Int→Nat→List Int
 | 0,l,_=>l
 | f+1,l,i=>if i<l.length then runL next f (visK (l.getD i 0) next l) (i+1) else l
def reachL (n:Int) (next:List (List Int)) (s:Int):List Int:=runL next (n.toNat+1) [s] 0
theorem yzdj {n:Int} {next:List (List Int)} (A:Aut n next):∀ (f:Nat) {l:List Int} {i:Nat},Once n l→Once n (runL next f l i)
 | 0,l,i,h=>h
 | f+1,l,i,h=>by
  simp only [runL]
  split
  ·rename_i hi
   exact yzdj A f (Once.vis (h.rg _ (yz4 hi 0)) A.row h)
  ·exact h
theorem yz9k {n s:Int} (hs:0≤s∧s<n):Once n [s]:=by
 refine ⟨by simp,fun x hx=>?_⟩
 have:x=s:=by simpa using hx
 subst this;exact hs
theorem yz7x {n s:Int} {next:List (List Int)} (A:Aut n next) (hs:0≤s∧s<n):Once n (reachL n next s):=yzdj A _ (yz9k hs)
theorem yzch {n:Int} {next:List (List Int)} (A:Aut n next) {l:List Int} {i:Nat} {R:List Int} (h:Once n l) (hi:i<l.length) (hR:runL next (n.toNat - i+1) l i=R) :
  runL next (n.toNat - (i+1)+1) (visK (l.getD i 0) next l) (i+1)=R:=by
 have h1:=h.len A.n1
 have e:n.toNat - i+1=(n.toNat - (i+1)+1)+1:=by omega
 rw [e] at hR
 simp only [runL] at hR
 rw [if_pos hi] at hR
 exact hR
theorem run_end {n:Int} {next:List (List Int)} {l:List Int} {i:Nat} {R:List Int} (hi:l.length≤i) (hR:runL next (n.toNat - i+1) l i=R):l=R:=by
 simp only [runL] at hR
 rw [if_neg (by omega)] at hR
 exact hR
end Go.Ab
namespace Go.Ab
open Go.Proofs
theorem k_Index (xs:List Int) (x:Int):Fun Tryz.prog nz5v [.ro none 1 (ints xs),iv x] (iv (fidx (fun y=>x == y) xs 0)):=by
 refine yzd mixed cztb rfl ⟨rfl,trivial⟩ ?_
 simp only [Azo4,Bzo3,go_sem,yz0,J9,J8,J6,J7,J5,J0,J1,J2,reduceIte,J3,J4,reduceCtorEq]
 intro hM
 have hM2:=yzc
 simp only [Bzo1,go_sem,yz0,J9,J8,J6,J7,J5,J0,J1,J2,reduceIte,J3,J4,reduceCtorEq]
 refine yzo (fun i=>xs.length - i) (fun i=>i≤xs.length∧fidx (fun y=>x == y) (xs.drop i) i=fidx (fun y=>x == y) xs 0)
  (fun i:Nat=>⟨L .any [(0,.ro none 1 (ints xs)),(1,iv x),(7,iv xs.length),(8,iv i)],L .gone []⟩) 0 (by simp) (by simp only [Bz4e,go_sem,yz0,J9,J8,J6,J7,J5,J0,J1,J2,reduceIte,J3,J4,reduceCtorEq];try rfl) ?_
 rintro i ⟨hi,he⟩
 by_cases hlt:(i:Int)<xs.length
 ·have hlt1:i<xs.length:=by omega
  have w2:IntKind.i64.wrap (i:Int)=i:=w64 (by omega)
  rw [yzn hlt1 0] at he
  simp only [fidx] at he
  simp only [Bz4e,Bzb0,Bzaz,Bznz,yz3 hlt1,decide_eq_true hlt,go_sem,yz0,J9,J8,J6,J7,J5,J0,J1,J2,reduceIte,J3,J4,reduceCtorEq]
  refine ⟨⟨by omega,hlt1⟩,hlt1,?_⟩
  cases hx:(x == xs.getD i 0) with
  | true =>
   simp only [hx,if_true] at he
   simp only [Bzay,go_sem,yz0,J9,J8,J6,J7,J5,J0,J1,J2,reduceIte,J3,J4,reduceCtorEq]
   rw [← he]
  | false =>
   simp only [hx,Y23,if_false] at he
   simp only [Bzay,Bzo0,nat1 i _ hlt1 hM,go_sem,yz0,J9,J8,J6,J7,J5,J0,J1,J2,reduceIte,J3,J4,reduceCtorEq]
   exact ⟨i+1,by omega,⟨by omega,he⟩,rfl⟩
 ·have:i=xs.length:=by omega
  subst this
  rw [Y14] at he
  simp only [fidx] at he
  simp only [Bz4e,Bzb0,Bzaz,Bzo2,decide_eq_false hlt,go_sem,yz0,J9,J8,J6,J7,J5,J0,J1,J2,reduceIte,J3,J4,reduceCtorEq]
  rw [← he]
theorem yz7a (xs:List Int) (x:Int):Fun Tryz.prog nz21 [.ro none 1 (ints xs),iv x] (bv (xs.contains x)):=by
 refine yzd mixed czsw rfl ⟨rfl,trivial⟩ ?_
 simp only [Bzlh,Azli,go_sem,yz0,J9,J8,J6,J7,J5,J0,J1,J2,reduceIte,J3,J4,reduceCtorEq]
 intro vs
 refine yz5 (k_Index xs x) qCS trivial ?_
 have e:decide (fidx (fun y=>x == y) xs 0 ≥ 0)=xs.contains x:=by
  have:=yzav (fun y=>x == y) xs 0
  rw [List.contains_eq_any_beq]
  exact this
 simp only [go_sem,yz0,J9,J8,J6,J7,J5,J0,J1,J2,reduceIte,J3,J4,reduceCtorEq]
 rw [← e]
theorem k_l00Has (xs:List Int) (x:Int):Fun Tryz.prog nz5z [.ro none 1 (ints xs),iv x] (bv (xs.contains x)):=by
 refine yzd mixed cztg rfl ⟨rfl,trivial⟩ ?_
 simp only [Azol,Bzok,Bzoi,go_sem,yz0,J9,J8,J6,J7,J5,J0,J1,J2,reduceIte,J3,J4,reduceCtorEq]
 refine yzo (fun i=>xs.length - i) (fun i=>i≤xs.length∧(xs.drop i).contains x=xs.contains x)
  (fun i:Nat=>⟨L .any [(0,.ro none 1 (ints xs)),(1,iv x),(5,iv i)],L .gone []⟩) 0 (by simp) (by simp only [Bz4g,go_sem,yz0,J9,J8,J6,J7,J5,J0,J1,J2,reduceIte,J3,J4,reduceCtorEq];try rfl) ?_
 rintro i ⟨hi,he⟩
 by_cases hlt:(i:Int)<xs.length
 ·have hlt1:i<xs.length:=by omega
  rw [yzn hlt1 0,List.contains_cons] at he
  simp only [Bz4g,Bzbe,Bzbg,yz3 hlt1,decide_eq_true hlt,go_sem,yz0,J9,J8,J6,J7,J5,J0,J1,J2,reduceIte,J3,J4,reduceCtorEq]
  intro hM
  refine ⟨⟨by omega,hlt1⟩,hlt1,?_⟩
  rw [show (x == xs.getD i 0)=(xs.getD i 0 == x) from Bool.beq_comm] at he
  cases hx:(xs.getD i 0 == x) with
  | true =>
   rw [hx,Bool.true_or] at he
   simp only [Bzbf,← he,go_sem,yz0,J9,J8,J6,J7,J5,J0,J1,J2,reduceIte,J3,J4,reduceCtorEq]
  | false =>
   rw [hx,Bool.false_or] at he
   simp only [Bzbf,Bzoh,nat1 i _ hlt1 hM,go_sem,yz0,J9,J8,J6,J7,J5,J0,J1,J2,reduceIte,J3,J4,reduceCtorEq]
   exact ⟨i+1,by omega,⟨by omega,he⟩,rfl⟩
 ·have:i=xs.length:=by omega
  subst this
  rw [Y14] at he
  simp only [Bz4g,Bzbe,Bzbg,Bzoj,decide_eq_false hlt,go_sem,yz0,J9,J8,J6,J7,J5,J0,J1,J2,reduceIte,J3,J4,reduceCtorEq]
  intro _
  rw [← he];rfl
theorem yzaa (now:Int) (next:List (List Int)) {k:Nat} (hk:k<next.length) (l:List Int):visK now (next.drop k) l=visK now (next.drop (k+1)) (addL l ((next.getD k []).getD now.toNat 0)):=by
 rw [yzn hk []];rfl
theorem k_reached (n:Int) (next:List (List Int)) (s:Int) (A:Aut n next) (hs:0≤s∧s<n) :
  RowI Tryz.prog nz62 [autA n next,iv s] (fun ys=>ys=nrm (reachL n next s)):=by
 refine yz1k mixed cztn rfl ?_
 have n1:=A.n1
 have n2:=A.n2
 have l2:=A.l2
 simp only [Azpl,Bzpk,go_sem,yz0,J9,J8,J6,J7,J5,J0,J1,J2,reduceIte,J3,J4,reduceCtorEq]
 intro vs vs2
 simp only [Bzpj,Bzph,go_sem,yz0,J9,J8,J6,J7,J5,J0,J1,J2,reduceIte,J3,J4,reduceCtorEq]
 refine ⟨⟨_,rfl,rfl⟩,?_⟩
 refine yzo (fun (_,_,i)=>n.toNat+1 - i) (fun (_,l,i)=>Once n l∧i≤Yf l∧runL next (n.toNat - i+1) l i=reachL n next s)
  (fun ((v,l,i):Nat×List Int×Nat)=>⟨L .any [(2,.ptr 2 (vs 0 0) 0),(5,.own 11 v),(6,iv i)],L .gone [(2,.box (vs 0 0) [iv n,.ro none 1 (rwn next)]),(11,.row v 1 true (ints l))]⟩)
  (_,[s],0) ⟨yz9k hs,by simp,rfl⟩ (by simp only [Bz4m,Y1,Yb,go_sem,yz0,J9,J8,J6,J7,J5,J0,J1,J2,reduceIte,J3,J4,reduceCtorEq];try rfl) ?_
 rintro ⟨v,l,i⟩ ⟨ho,hi,hR⟩
 have hi:i≤l.length:=hi
 have hll:=ho.len n1
 by_cases hlt:(i:Int)<l.length
 ·have hlt1:i<l.length:=by omega
  have hnow:=ho.rg _ (yz4 hlt1 0)
  have hstep:=yzch A ho hlt1 hR
  simp only [Bz4m,Bzbq,Bzbv,decide_eq_true hlt,go_sem,yz0,J9,J8,J6,J7,J5,J0,J1,J2,reduceIte,J3,J4,reduceCtorEq]
  intro hM2
  simp only [Bzpf,go_sem,yz0,J9,J8,J6,J7,J5,J0,J1,J2,reduceIte,J3,J4,reduceCtorEq]
  intro hM3
  refine yzo (fun (_,_,k)=>next.length - k) (fun (_,l',k)=>k≤next.length∧Once n l'∧(∃ t,l'=l ++ t)∧visK (l.getD i 0) (next.drop k) l'=visK (l.getD i 0) next l)
   (fun ((v,l',k):Nat×List Int×Nat)=>⟨L .any [(2,.ptr 2 (vs 0 0) 0),(5,.own 11 v),(6,iv i),(19,.ro none 1 (rwn next)),(20,iv next.length),(21,iv k)],L .gone [(2,.box (vs 0 0) [iv n,.ro none 1 (rwn next)]),(11,.row v 1 true (ints l'))]⟩)
   (_,l,0) ⟨by simp,ho,⟨[],by simp⟩,rfl⟩ (by simp only [Bz4l,go_sem,yz0,J9,J8,J6,J7,J5,J0,J1,J2,reduceIte,J3,J4,reduceCtorEq];try rfl) ?_
  rintro ⟨v',l',k⟩ ⟨hk,ho',⟨t,rfl⟩,hv⟩
  have hk:k≤next.length:=hk
  have hll':=ho'.len n1
  by_cases hkl:(k:Int)<next.length
  ·have hkl1:k<next.length:=by omega
   have hrow:=A.row _ (yz4 hkl1 [])
   have hc:(l.getD i 0).toNat<(next.getD k []).length:=by omega
   have ht:=hrow.2 _ (yz4 hc 0)
   have hi2:i<(l ++ t).length:=by rw [Y5];omega
   have hg:(l ++ t).getD i 0=l.getD i 0:=by rw [Y0,Y10 hlt1,← Y0]
   rw [yzaa _ _ hkl1] at hv
   simp only [Bz4l,Bzbu,Bzbt,Bzpe,yz19 hkl1,yz3 hi2,hg,yz3 hc,decide_eq_true hkl,go_sem,yz0,J9,J8,J6,J7,J5,J0,J1,J2,reduceIte,J3,J4,reduceCtorEq]
   refine ⟨⟨by omega,hkl1⟩,hkl1,⟨by omega,hi2⟩,hi2,⟨hnow.1,hc⟩,hc,?_⟩
   generalize (next.getD k []).getD (l.getD i 0).toNat 0=x at ht hv ⊢
   simp only [Bzpd,go_sem,yz0,J9,J8,J6,J7,J5,J0,J1,J2,reduceIte,J3,J4,reduceCtorEq]
   intro vs3
   refine yz5 (yz7a (l ++ t) x) qCS trivial ?_
   cases hx:(l ++ t).contains x with
   | true =>
    have ha:addL (l ++ t) x=l ++ t:=by unfold addL;rw [if_pos hx]
    rw [ha] at hv
    simp only [Bzbr,Bzbs,nat1 k _ hkl1 hM3,go_sem,yz0,J9,J8,J6,J7,J5,J0,J1,J2,reduceIte,J3,J4,reduceCtorEq]
    exact ⟨(_,_,k+1),by dsimp only;omega,⟨by dsimp only;omega,ho',⟨t,rfl⟩,hv⟩,rfl⟩
   | false =>
    have ha:addL (l ++ t) x=l ++ t ++ [x]:=by unfold addL;rw [if_neg (by rw [hx];simp)]
    rw [ha] at hv
    have ho2:=ho'.add ht
    rw [ha] at ho2
    have hl2:=ho2.len n1
    simp only [Bzbr,Bzbs,nat1 k _ hkl1 hM3,go_sem,yz0,J9,J8,J6,J7,J5,J0,J1,J2,reduceIte,J3,J4,reduceCtorEq]
    intro vs4
    refine ⟨⟨_,rfl,rfl⟩,by rw [Y5,Y7] at hl2;omega,?_⟩
    exact ⟨(_,l ++ t ++ [x],k+1),by dsimp only;omega,⟨by dsimp only;omega,ho2,⟨t ++ [x],by simp⟩,hv⟩,rfl⟩
  ·have:k=next.length:=by omega
   subst this
   rw [Y14] at hv
   have hv:l ++ t=visK (l.getD i 0) next l:=hv
   rw [← hv] at hstep
   simp only [Bz4l,Bzbu,Bzbt,Bzpg,nat1 i _ hlt1 hM2,decide_eq_false hkl,go_sem,yz0,J9,J8,J6,J7,J5,J0,J1,J2,reduceIte,J3,J4,reduceCtorEq]
   exact ⟨(_,l ++ t,i+1),by dsimp only;omega,⟨ho',by dsimp only;rw [Y5];omega,hstep⟩,rfl⟩
 ·have hend:=run_end (by omega) hR
  subst hend
  simp only [Bz4m,Bzbq,Bzbv,Bzpi,decide_eq_false hlt,go_sem,yz0,J9,J8,J6,J7,J5,J0,J1,J2,reduceIte,J3,J4,reduceCtorEq]
  intro hM2 vs3
  refine yzm (k_sorted (reachL n next s) (by omega)) (by simp only [csA,rowIs,boxIs,J3,ne_eq,reduceCtorEq,exists_eq_left,exists_eq_right,Y8,Yi,exists_eq_left',exists_and_left,exists_eq,Y1,Yb,AObj.ver,J5];exact yz9j rfl) rfl ⟨_,rfl⟩ ?_
  rintro ys v2 rfl
  simp only [go_sem,yz0,J9,J8,J6,J7,J5,J0,J1,J2,reduceIte,J3,J4,reduceCtorEq]
  exact ⟨42,v2,_,by omega,rfl,by simp only [go_sem,yz0,J9,J8,J6,J7,J5,J0,J1,J2,reduceIte,J3,J4,reduceCtorEq],rfl⟩
theorem yz8o {l:List Int} {x:Int}:(nrm l).contains x=l.contains x:=by
 rw [Bool.eq_iff_iff,Y1e,Y1e,nrm_mem]
theorem bnd1 {σ:St} {n:Nat} {k:IntKind}:St.bound σ n (some (.c (.int k 1)))=some 1:=rfl
theorem bndN {σ:St} {n:Nat}:St.bound σ n none=some n:=rfl
theorem yz95 (n:Int) (next:List (List Int)) (s:Int) (A:Aut n next) (hs:0≤s∧s<n) :
  RowI Tryz.prog nz5g [autP n next,iv s] (fun ys=>ys=nrm (reachL n next s)):=by
 refine yz1k mixed czsn rfl ?_
 have n1:=A.n1
 have n2:=A.n2
 have l2:=A.l2
 simp only [Azju,Bzjt,go_sem,yz0,J9,J8,J6,J7,J5,J0,J1,J2,reduceIte,J3,J4,reduceCtorEq]
 intro vs
 simp only [Bzjs,Bzjr,go_sem,yz0,J9,J8,J6,J7,J5,J0,J1,J2,reduceIte,J3,J4,reduceCtorEq]
 refine ⟨⟨_,rfl,rfl⟩,fun vs2=>⟨⟨_,rfl,rfl⟩,?_⟩⟩
 refine yzo (fun (_,_,_,i)=>n.toNat+1 - i) (fun (_,_,l,i)=>Once n l∧i≤Yf l∧runL next (n.toNat - i+1) l i=reachL n next s)
  (fun ((v,u,l,i):Nat×Nat×List Int×Nat)=>⟨L .any [(0,autP n next),(5,.own 11 v),(6,.own 13 u)],L .gone [(11,.row v 1 true (ints (nrm l))),(13,.row u 1 true (ints (l.drop i)))]⟩)
  (_,_,[s],0) ⟨yz9k hs,by simp,rfl⟩ (by simp only [Bz3o,Y1,Yb,go_sem,yz0,J9,J8,J6,J7,J5,J0,J1,J2,reduceIte,J3,J4,reduceCtorEq];try rfl) ?_
 rintro ⟨v,u,l,i⟩ ⟨ho,hi,hR⟩
 have hi:i≤l.length:=hi
 have hll:=ho.len n1
 have hdl:(l.drop i).length=l.length - i:=Yp
 by_cases hlt:(0:Int)<(l.drop i).length
 ·have hlt1:i<l.length:=by omega
  have hlt2:0<(l.drop i).length:=by omega
  have hnow:=ho.rg _ (yz4 hlt1 0)
  have hstep:=yzch A ho hlt1 hR
  have hg0:(l.drop i).getD 0 0=l.getD i 0:=by rw [yzn hlt1 0];rfl
  simp only [Bz3o,Bz8x,Bz92,yz3 hlt2,hg0,decide_eq_true hlt,go_sem,yz0,J9,J8,J6,J7,J5,J0,J1,J2,reduceIte,J3,J4,reduceCtorEq]
  intro hM2
  refine ⟨hlt2,hlt2,?_⟩
  have hs1:(List.take (l.drop i).length (intsK .i64 (l.drop i))).drop 1=intsK .i64 (l.drop (i+1)):=by
   rw [List.take_of_length_le (by simp [intsK]),yzcu,List.drop_drop]
  simp only [Bzjp,Bzjo,Bzjn,bnd1,bndN,hs1,go_sem,yz0,J9,J8,J6,J7,J5,J0,J1,J2,reduceIte,J3,J4,reduceCtorEq]
  intro vs3
  refine ⟨by omega,?_⟩
  generalize l.getD i 0=now at hnow hstep
  refine wpD_lm (fun (_,_,_,k)=>next.length - k) (fun (_,_,l',k)=>k≤next.length∧Once n l'∧(∃ t,l'=l ++ t)∧visK now (next.drop k) l'=visK now next l)
   (fun ((v,u,l',k):Nat×Nat×List Int×Nat)=>⟨L .any [(0,autP n next),(5,.own 11 v),(6,.own 13 u),(7,iv now),(8,iv k)],L .gone [(11,.row v 1 true (ints (nrm l'))),(13,.row u 1 true (ints (l'.drop (i+1))))]⟩)
   (_,_,l,0) ⟨by simp,ho,⟨[],by simp⟩,rfl⟩ (by intro u;simp only [Bz3n,go_sem,yz0,J9,J8,J6,J7,J5,J0,J1,J2,reduceIte,J3,J4,reduceCtorEq];try rfl) ?_
  rintro ⟨v',u',l',k⟩ ⟨hk,ho',⟨t,rfl⟩,hv⟩
  have hk:k≤next.length:=hk
  have hll':=ho'.len n1
  by_cases hkl:(k:Int)<next.length
  ·have hkl1:k<next.length:=by omega
   have hrow:=A.row _ (yz4 hkl1 [])
   have hc:now.toNat<(next.getD k []).length:=by omega
   have ht:=hrow.2 _ (yz4 hc 0)
   rw [yzaa _ _ hkl1] at hv
   simp only [Bz3n,Bz8y,Bz91,yz19 hkl1,yz3 hc,decide_eq_true hkl,go_sem,yz0,J9,J8,J6,J7,J5,J0,J1,J2,reduceIte,J3,J4,reduceCtorEq]
   intro hM3
   refine ⟨⟨by omega,hkl1⟩,hkl1,⟨hnow.1,hc⟩,hc,?_⟩
   generalize (next.getD k []).getD now.toNat 0=x at ht hv ⊢
   simp only [Bzjm,go_sem,yz0,J9,J8,J6,J7,J5,J0,J1,J2,reduceIte,J3,J4,reduceCtorEq]
   intro vs4
   refine yz5 (k_l00Has (nrm (l ++ t)) x) qCS trivial ?_
   rw [yz8o]
   cases hx:(l ++ t).contains x with
   | true =>
    have ha:addL (l ++ t) x=l ++ t:=by unfold addL;rw [if_pos hx]
    rw [ha] at hv
    simp only [Bz8z,Bz90,nat1 k _ hkl1 hM3,go_sem,yz0,J9,J8,J6,J7,J5,J0,J1,J2,reduceIte,J3,J4,reduceCtorEq]
    exact ⟨next.length - (k+1),by omega,(_,_,l ++ t,k+1),rfl,⟨by dsimp only;omega,ho',⟨t,rfl⟩,hv⟩,rfl⟩
   | false =>
    have ha:addL (l ++ t) x=l ++ t ++ [x]:=by unfold addL;rw [if_neg (by rw [hx];simp)]
    rw [ha] at hv
    have ho2:=ho'.add ht
    rw [ha] at ho2
    have hl2:=ho2.len n1
    have hdr:(l ++ t).drop (i+1) ++ [x]=(l ++ t ++ [x]).drop (i+1):=(List.drop_append_of_le_length (l₁:=l ++ t) (by rw [Y5];omega)).symm
    have hdl2:((l ++ t).drop (i+1)).length≤10:=by rw [Yp];omega
    have hnl:=nrm_len (l ++ t)
    simp only [Bz8z,go_sem,yz0,J9,J8,J6,J7,J5,J0,J1,J2,reduceIte,J3,J4,reduceCtorEq]
    intro vs5
    refine yzm (k_l00Put (nrm (l ++ t)) x (by omega)) qCS rfl ⟨_,rfl⟩ ?_
    rintro ys v6 rfl
    simp only [Bzjl,Bz90,nat1 k _ hkl1 hM3,go_sem,yz0,J9,J8,J6,J7,J5,J0,J1,J2,reduceIte,J3,J4,reduceCtorEq]
    intro vs7
    refine ⟨⟨_,rfl,rfl⟩,by omega,?_⟩
    refine ⟨next.length - (k+1),by omega,fun u=>⟨(u,vs7 3 0,l ++ t ++ [x],k+1),rfl,⟨by dsimp only;omega,ho2,⟨t ++ [x],by simp⟩,hv⟩,?_⟩⟩
    simp only [← hdr,nrm_snoc]
  ·have:k=next.length:=by omega
   subst this
   rw [Y14] at hv
   have hv:l ++ t=visK now next l:=hv
   rw [← hv] at hstep
   simp only [Bz3n,Bz8y,Bz91,decide_eq_false hkl,go_sem,yz0,J9,J8,J6,J7,J5,J0,J1,J2,reduceIte,J3,J4,reduceCtorEq]
   intro hM3
   exact ⟨(_,_,l ++ t,i+1),by dsimp only;omega,⟨ho',by dsimp only;rw [Y5];omega,hstep⟩,rfl⟩
 ·have hend:=run_end (by omega) hR
  subst hend
  simp only [Bz3o,Bz8x,Bz92,Bzjq,decide_eq_false hlt,go_sem,yz0,J9,J8,J6,J7,J5,J0,J1,J2,reduceIte,J3,J4,reduceCtorEq]
  intro _
  exact ⟨11,v,_,by omega,rfl,by simp only [go_sem,yz0,J9,J8,J6,J7,J5,J0,J1,J2,reduceIte,J3,J4,reduceCtorEq],rfl⟩
def cmpI (x y:Int):Int:=if x<y then -1 else if x > y then 1 else 0
theorem k_isNaN (x:Int):Fun Tryz.prog nz2a [iv x] (bv false):=by
 refine yzd mixed czu1 rfl ⟨rfl,trivial⟩ ?_
 simp only [Bzrd,Azre,bne_self_eq_false,go_sem,yz0,J9,J8,J6,J7,J5,J0,J1,J2,reduceIte,J3,J4,reduceCtorEq]
theorem k_cmp (x y:Int):Fun Tryz.prog nz64 [iv x,iv y] (iv (cmpI x y)):=by
 refine yzd mixed czts rfl ⟨rfl,trivial⟩ ?_
 simp only [Azpv,Bzpu,go_sem,yz0,J9,J8,J6,J7,J5,J0,J1,J2,reduceIte,J3,J4,reduceCtorEq]
 intro vs
 refine yz5 (k_isNaN x) qCS trivial ?_
 simp only [Bzpt,go_sem,yz0,J9,J8,J6,J7,J5,J0,J1,J2,reduceIte,J3,J4,reduceCtorEq]
 intro vs2
 refine yz5 (k_isNaN y) qCS trivial ?_
 by_cases h1:x<y
 ·simp only [Bz4s,Bz4n,Bz4r,Bz4o,Bz4q,Bz4p,cmpI,if_pos h1,decide_eq_true h1,go_sem,yz0,J9,J8,J6,J7,J5,J0,J1,J2,reduceIte,J3,J4,reduceCtorEq]
  try rfl
 ·by_cases h2:x > y
  ·simp only [Bz4s,Bz4n,Bz4r,Bz4o,Bz4q,Bz4p,Bzbx,Bzbw,cmpI,if_neg h1,if_pos h2,decide_eq_false h1,decide_eq_true h2,go_sem,yz0,J9,J8,J6,J7,J5,J0,J1,J2,reduceIte,J3,J4,reduceCtorEq]
   try rfl
  ·simp only [Bz4s,Bz4n,Bz4r,Bz4o,Bz4q,Bz4p,Bzbx,Bzbw,Bzps,cmpI,if_neg h1,if_neg h2,decide_eq_false h1,decide_eq_false h2,go_sem,yz0,J9,J8,J6,J7,J5,J0,J1,J2,reduceIte,J3,J4,reduceCtorEq]
   try rfl
def cmpL:List Int→List Int→Int
 | [],[]=>0
 | [],_ :: _=>-1
 | _ :: _,[]=>1
 | x :: xs,y :: ys=>if cmpI x y=0 then cmpL xs ys else cmpI x y
theorem yzde (xs ys:List Int):Fun Tryz.prog nz5q [.ro none 1 (ints xs),.ro none 1 (ints ys)] (iv (cmpL xs ys)):=by
 refine yzd mixed czt2 rfl ⟨rfl,trivial⟩ ?_
 simp only [Azma,Bzm9,go_sem,yz0,J9,J8,J6,J7,J5,J0,J1,J2,reduceIte,J3,J4,reduceCtorEq]
 intro hx
 simp only [Bzm6,go_sem,yz0,J9,J8,J6,J7,J5,J0,J1,J2,reduceIte,J3,J4,reduceCtorEq]
 refine yzo (fun i=>xs.length - i) (fun i=>i≤xs.length∧i≤ys.length∧cmpL (xs.drop i) (ys.drop i)=cmpL xs ys)
  (fun i:Nat=>⟨L .any [(0,.ro none 1 (ints xs)),(1,.ro none 1 (ints ys)),(9,.ro none 1 (ints xs)),(10,iv xs.length),(11,iv i)],L .gone []⟩) 0 (by simp) (by simp only [Bz44,go_sem,yz0,J9,J8,J6,J7,J5,J0,J1,J2,reduceIte,J3,J4,reduceCtorEq];try rfl) ?_
 rintro i ⟨hi,hi2,hc⟩
 have hM:=yzc
 by_cases hlt:(i:Int)<xs.length
 ·have hlt1:i<xs.length:=by omega
  rw [yzn hlt1 0] at hc
  simp only [Bz44,Bza2,Bza1,Bzm4,decide_eq_true hlt,yz3 hlt1,go_sem,yz0,J9,J8,J6,J7,J5,J0,J1,J2,reduceIte,J3,J4,reduceCtorEq]
  refine ⟨⟨by omega,hlt1⟩,hlt1,?_⟩
  intro hy
  by_cases hge:(i:Int) ≥ ys.length
  ·have:ys.drop i=[]:=List.drop_eq_nil_of_le (by omega)
   rw [this] at hc
   simp only [cmpL] at hc
   simp only [Bz9y,decide_eq_true hge,← hc,go_sem,yz0,J9,J8,J6,J7,J5,J0,J1,J2,reduceIte,J3,J4,reduceCtorEq]
   try rfl
  ·have hlt2:i<ys.length:=by omega
   rw [yzn hlt2 0] at hc
   simp only [cmpL] at hc
   simp only [Bz9y,Bzm3,Bzm2,decide_eq_false hge,yz3 hlt2,go_sem,yz0,J9,J8,J6,J7,J5,J0,J1,J2,reduceIte,J3,J4,reduceCtorEq]
   refine ⟨⟨by omega,hlt2⟩,hlt2,fun vs=>?_⟩
   refine yz5 (k_cmp (xs.getD i 0) (ys.getD i 0)) qCS trivial ?_
   by_cases h0:cmpI (xs.getD i 0) (ys.getD i 0)=0
   ·rw [if_pos h0] at hc
    simp only [Bza0,Bz9z,Bzm5,h0,bne_self_eq_false,nat1 i _ hlt1 hx,go_sem,yz0,J9,J8,J6,J7,J5,J0,J1,J2,reduceIte,J3,J4,reduceCtorEq]
    exact ⟨i+1,by omega,⟨by omega,by omega,hc⟩,rfl⟩
   ·rw [if_neg h0] at hc
    have e1:(cmpI (xs.getD i 0) (ys.getD i 0) != 0)=true:=by simpa using h0
    simp only [Bza0,Bz9z,e1,← hc,go_sem,yz0,J9,J8,J6,J7,J5,J0,J1,J2,reduceIte,J3,J4,reduceCtorEq]
 ·have:i=xs.length:=by omega
  subst this
  rw [Y14] at hc
  simp only [Bz44,Bza2,Bza1,Bzm8,decide_eq_false hlt,go_sem,yz0,J9,J8,J6,J7,J5,J0,J1,J2,reduceIte,J3,J4,reduceCtorEq]
  intro _ hy
  by_cases hl:(xs.length:Int)<ys.length
  ·have hl2:xs.length<ys.length:=by omega
   rw [yzn hl2 0] at hc
   simp only [cmpL] at hc
   simp only [Bza3,decide_eq_true hl,← hc,go_sem,yz0,J9,J8,J6,J7,J5,J0,J1,J2,reduceIte,J3,J4,reduceCtorEq]
   try rfl
  ·have:ys.drop xs.length=[]:=List.drop_eq_nil_of_le (by omega)
   rw [this] at hc
   simp only [cmpL] at hc
   simp only [Bza3,Bzm7,decide_eq_false hl,← hc,go_sem,yz0,J9,J8,J6,J7,J5,J0,J1,J2,reduceIte,J3,J4,reduceCtorEq]
def prow (p:Int→Int→Bool) (s:Int):Int→Nat→List (List Int)
 | _,0=>[]
 | t,m+1=>(if p s t=true then [[s,t]] else []) ++ prow p s (t+1) m
def pall (p:Int→Int→Bool) (n:Int):Int→Nat→List (List Int)
 | _,0=>[]
 | s,m+1=>prow p s (s+1) (n - (s+1)).toNat ++ pall p n (s+1) m
def pairsL (n:Int) (p:Int→Int→Bool):List (List Int):=pall p n 0 n.toNat
abbrev every (n:Int):List (List Int):=pairsL n fun _ _=>true
abbrev imgL (next:List (List Int)) (set w:List Int):List Int:=nrm (set.map fun s=>atA next s w)
theorem thaw_L {l:List (Nat×AVal)} {h:List (Nat×AObj)} {r i q n m v k k':Nat} {nn:Bool} {cs cs':List AVal} (hr:L .gone h r=.row v k nn cs) :
  St.thaw ⟨L .any l,L .gone h⟩ r i q n m k' cs'=⟨L .any (woT n l),L .gone ((q,.row m k' true (woL n cs')) :: (r,.row v k nn ((woL n cs).set i (.own q m))) :: woO n h)⟩:=by
 unfold St.thaw
 congr 1
 ·funext x;exact (woT_eq l x).symm
 ·funext x
  simp only [L]
  split
  ·rfl
  ·split
   ·rw [hr]
   ·exact (woO_eq h x).symm
theorem yz4b {gs:List GStep} {K:St→Prop} {l:List (Nat×AVal)} {h:List (Nat×AObj)} {r i q n v k k':Nat} {nn:Bool} {cs cs':List AVal} (hr:L .gone h r=.row v k nn cs)
  (hi:cs[i]?=some (.ro (some (some (n+1))) k' cs')) (hne:cs'≠[]) (hq:L .gone h q=.gone)
  (hk:∀ m,gwp gs K ⟨L .any (woT n l),L .gone ((q,.row m k' true (woL n cs')) :: (r,.row v k nn ((woL n cs).set i (.own q m))) :: woO n h)⟩):gwp (.thaw r i q :: gs) K ⟨L .any l,L .gone h⟩ :=
 ⟨v,k,nn,cs,n,k',cs',hr,hi,hne,hq,fun m=>by rw [thaw_L hr];exact hk m⟩
theorem wo_o {n k:Nat} {cs:List AVal}:AVal.wo n (.ro (some (some 0)) k cs)=.ro (some (some 0)) k (woL n cs):=by cases cs <;> simp [AVal.wo,woL]
theorem wo_st {n:Nat} {cs:List AVal}:AVal.wo n (.st cs)=.st (woL n cs):=by simp only [AVal.wo]
theorem yz7i {n r u o:Nat}:AVal.wo n (.ptr r u o)=.ptr r u o:=by simp only [AVal.wo]
theorem yz3q {n:Nat}:woL n []=[]:=by simp only [woL]
theorem yz1y {n:Nat} {A:AVal} {cs:List AVal}:woL n (A :: cs)=AVal.wo n A :: woL n cs:=by simp only [woL]
theorem yz3l {n v k:Nat} {nn:Bool} {cs:List AVal}:AObj.wo n (.row v k nn cs)=.row v k nn (woL n cs):=rfl
theorem yz3n {n v:Nat} {cs:List AVal}:AObj.wo n (.box v cs)=.box v (woL n cs):=rfl
theorem yza0 {hp:Nat→AObj} {r q1 d:Nat} {s:Nat→Nat} {o0 o1:AObj} (hnd:[r,q1].Nodup) :
  callHp hp [r,q1] d s [o0,o1] []=(upd (upd hp r (o0.ren (rid [r,q1] d 0) (sv hp [r,q1] s))) q1 (o1.ren (rid [r,q1] d 0) (sv hp [r,q1] s))):=by
 have hnd':=hnd
 simp only [Y16,Y8,Yi,or_false,not_or,List.nodup_nil,and_true,not_false_eq_true] at hnd'
 funext n
 by_cases e1:n=q1
 ·have h1:rid [r,q1] d ([]:List AObj).length 5001=some n:=by rw [e1];exact yzad (j:=1) (by omega) rfl
  rw [yzv hnd (by simp) h1]
  simp [upd,e1,outHp,hnd',Ne.symm]
  try (intros;simp_all)
 by_cases e0:n=r
 ·have h1:rid [r,q1] d ([]:List AObj).length 5000=some n:=by rw [e0];exact yzad (j:=0) (by omega) rfl
  rw [yzv hnd (by simp) h1]
  simp [upd,e0,outHp,hnd',Ne.symm]
  try (intros;simp_all)
 rw [yze]
 ·simp [upd,e0,e1]
 ·rintro ⟨x,hx⟩
  rcases yz14 hx with ⟨j,rfl,_,h3⟩ | ⟨i,rfl,h3,_⟩
  ·match j,h3 with
   | 0,h3=>simp at h3;exact e0 h3.symm
   | 1,h3=>simp at h3;exact e1 h3.symm
   | j+2,h3=>simp at h3
  ·simp at h3
def renR (order row:List Int):List Int:=order.map fun s=>fidx (fun y=>row.getD s.toNat 0 == y) order 0
theorem yz7w {n:Nat}:AVal.wo n .any=.any:=by simp only [AVal.wo]
structure Mach (n o:Int) (next out:List (List Int)):Prop where
 aut:Aut n next
 o1:1≤o
 o2:o≤3
 len:out.length=next.length
 row:∀ row∈out,(row.length:Int)=n∧∀ x∈row,0≤x∧x<o
end Go.Ab
namespace Go.Ab
def bitsN (f:Nat):List Nat:=(Ya 10).filter fun s=>f.testBit s
def stepN (row:List Int) (f:Nat):Nat:=(bitsN f).foldl (fun o s=>o ||| 2 ^ (row.getD s 0).toNat) 0
def maskN (set:List Int):Nat:=set.foldl (fun o s=>o ||| 2 ^ s.toNat) 0
abbrev TS:=List (Nat×List Int)
def hasT (L:TS) (f:Nat):Bool:=L.any fun p=>Nat.beq p.1 f
def visT (next:List (List Int)) (f:Nat) (w:List Int):Nat→TS→TS
 | 0,L=>L
 | x+1,L=>match visT next f w x L with
  | L'=>match stepN (next.getD x []) f with
   | to=>if hasT L' to then L' else L' ++ [(to,w ++ [(x:Int)])]
def runT (next:List (List Int)):Nat→Nat→TS→TS
 | 0,_,L=>L
 | F+1,i,L=>if i<L.length then runT next F (i+1) (visT next (L.getD i (0,[])).1 (L.getD i (0,[])).2 next.length L) else L
def tourT (next:List (List Int)) (f:Nat):TS:=runT next 1100 0 [(f,[])]
def smallN (f:Nat):Bool:=Nat.beq (f &&& (f - 1)) 0
def firstT (L:TS):Option (Nat×List Int):=L.find? fun p=>smallN p.1
theorem hasT_iff {L:TS} {f:Nat}:hasT L f=true↔f∈L.map (·.1):=by
 simp only [hasT,List.any_eq_true,Y3]
 constructor
 ·rintro ⟨p,hp,h⟩;exact ⟨p,hp,Nat.eq_of_beq_eq_true h⟩
 ·rintro ⟨p,hp,rfl⟩;exact ⟨p,hp,Nat.beq_refl _⟩
theorem or_lt {a b:Nat} (ha:a<1024) (hb:b<1024):a ||| b<1024:=Nat.or_lt_two_pow (n:=10) ha hb
theorem yz4f {k:Nat} (h:k<10):2 ^ k<1024:=Nat.pow_lt_pow_right (a:=2) (by omega) (n:=10) h
theorem yzea {α:Type} (g:α→Nat):∀ (l:List α) (o:Nat),(∀ x∈l,g x<10)→o<1024→l.foldl (fun o s=>o ||| 2 ^ g s) o<1024
 | [],o,_,h=>h
 | x :: l,o,hl,h=>by
  rw [Ys]
  exact yzea g l _ (fun y hy=>hl y (by simp [hy])) (or_lt h (yz4f (hl x (by simp))))
theorem mem_bits {f s:Nat}:s∈bitsN f↔s<10∧f.testBit s=true:=by simp [bitsN]
theorem yz2l {f n s:Nat} (h:f<2 ^ n) (hs:s∈bitsN f):s<n:=by
 rw [mem_bits] at hs
 by_cases hn:s<n
 ·exact hn
 ·have:=Nat.testBit_lt_two_pow (Y1i h (Y1k (n:=2) (by omega) (show n≤s by omega)))
  rw [this] at hs;simp at hs
structure TI (N m:Nat) (L:TS):Prop where
 nd:(L.map (·.1)).Nodup
 rg:∀ p∈L,p.1<2 ^ N
 wd:∀ p∈L,(∀ x∈p.2,0≤x∧x<m)∧p.2.length<L.length
theorem yz3h:∀ (n:Nat) (l:List Nat),l.Nodup→(∀ x∈l,x<n)→l.length≤n
 | 0,l,_,h=>by
  cases l with
  | nil=>simp
  | cons x l=>exact absurd (h x (by simp)) (by omega)
 | n+1,l,hd,h=>by
  by_cases hm:n∈l
  ·have h1:=List.length_erase_of_mem hm
   have h2:=yz3h n (l.erase n) (hd.erase n) (fun x hx=>by
    rw [hd.mem_erase_iff] at hx
    have:=h x hx.2;omega)
   omega
  ·have:=yz3h n l hd (fun x hx=>by
    have h1:=h x hx
    have:x≠n:=fun e=>hm (e ▸ hx)
    omega)
   omega
theorem TI.len {N m:Nat} {L:TS} (h:TI N m L):L.length≤2 ^ N:=by
 have:=yz3h (2 ^ N) (L.map (·.1)) h.nd (fun x hx=>by
  obtain ⟨p,hp,rfl⟩:=Y3.1 hx
  exact h.rg p hp)
 simpa using this
theorem TI.add {N m:Nat} {L:TS} (h:TI N m L) {to:Nat} {w:List Int} {x:Int} (ht:to<2 ^ N) (hn:hasT L to=false) (hw:(∀ x∈w,0≤x∧x<m)∧w.length<L.length) (hx:0≤x∧x<m):TI N m (L ++ [(to,w ++ [x])]):=by
 refine ⟨?_,?_,?_⟩
 ·rw [Yc,Y19]
  refine ⟨h.nd,by simp,?_⟩
  intro a ha b hb e
  simp at hb
  rw [e,hb,← hasT_iff,hn] at ha
  cases ha
 ·intro p hp
  rcases Y4.1 hp with hp | hp
  ·exact h.rg p hp
  ·have hp:p=(to,w ++ [x]):=by simpa using hp
   rw [hp];exact ht
 ·intro p hp
  rw [Y5,Y7]
  rcases Y4.1 hp with hp | hp
  ·have:=h.wd p hp
   exact ⟨this.1,by omega⟩
  ·have hp:p=(to,w ++ [x]):=by simpa using hp
   subst hp
   refine ⟨fun y hy=>?_,by rw [Y5,Y7];omega⟩
   rcases Y4.1 hy with hy | hy
   ·exact hw.1 y hy
   ·have hy:y=x:=by simpa using hy
    rw [hy];exact hx
theorem yz9g {n:Int} {next:List (List Int)} (A:Aut n next) {x f:Nat} (hx:x<next.length) (hf:f<2 ^ n.toNat):stepN (next.getD x []) f<2 ^ n.toNat:=by
 have n1:=A.n1
 have hr:=A.row _ (yz4 hx [])
 unfold stepN
 have gen:∀ (l:List Nat) (o:Nat),(∀ s∈l,s<n.toNat)→o<2 ^ n.toNat→l.foldl (fun o s=>o ||| 2 ^ ((next.getD x []).getD s 0).toNat) o<2 ^ n.toNat:=by
  intro l
  induction l with
  | nil=>intro o _ h;exact h
  | cons s l ih =>
   intro o hl h
   rw [Ys]
   refine ih _ (fun y hy=>hl y (by simp [hy])) (Nat.or_lt_two_pow h ?_)
   have hs:=hl s (by simp)
   have:=hr.2 _ (yz4 (show s<(next.getD x []).length by omega) 0)
   exact Nat.pow_lt_pow_right (by omega) (by omega)
 exact gen _ 0 (fun s hs=>yz2l hf hs) (Y1r _)
theorem yz2r {next:List (List Int)} {f:Nat} {w:List Int} {x:Nat} {L:TS}:visT next f w (x+1) L=if hasT (visT next f w x L) (stepN (next.getD x []) f) then visT next f w x L else visT next f w x L ++ [(stepN (next.getD x []) f,w ++ [(x:Int)])]:=rfl
theorem yzan {n:Int} {next:List (List Int)} (A:Aut n next) {L:TS} (h:TI n.toNat next.length L) {i:Nat} (hi:i<L.length) :
  ∀ x,x≤next.length→TI n.toNat next.length (visT next (L.getD i (0,[])).1 (L.getD i (0,[])).2 x L)∧∃ t,visT next (L.getD i (0,[])).1 (L.getD i (0,[])).2 x L=L ++ t
 | 0,_=>⟨h,[],by simp [visT]⟩
 | x+1,hx=>by
  obtain ⟨h1,t,h2⟩:=yzan A h hi x (by omega)
  have hm:=yz4 hi (0,([]:List Int))
  rw [yz2r]
  cases hh:hasT (visT next (L.getD i (0,[])).1 (L.getD i (0,[])).2 x L) (stepN (next.getD x []) (L.getD i (0,[])).1) with
  | true=>rw [if_pos rfl];exact ⟨h1,t,h2⟩
  | false =>
   rw [if_neg (by simp)]
   refine ⟨h1.add (yz9g A (by omega) (h.rg _ hm)) hh ⟨(h.wd _ hm).1,?_⟩ (by omega),t ++ [(stepN (next.getD x []) (L.getD i (0,[])).1,(L.getD i (0,[])).2 ++ [(x:Int)])],?_⟩
   ·have:=(h.wd _ hm).2
    rw [h2,Y5];omega
   ·rw [← Y13,← h2]
theorem TI0 {N m f:Nat} (hf:f<2 ^ N):TI N m [(f,[])]:=⟨by simp,by simpa using hf,by simp⟩
theorem yz6b {α:Type} {L t:List α} {i:Nat} (h:i<L.length) (d:α):(L ++ t).getD i d=L.getD i d:=by
 rw [Y0,Y10 h,← Y0]
theorem yzdi {n:Int} {next:List (List Int)} (A:Aut n next):∀ (F i:Nat) (L:TS),TI n.toNat next.length L→TI n.toNat next.length (runT next F i L)∧∃ t,runT next F i L=L ++ t
 | 0,i,L,h=>⟨h,[],by simp [runT]⟩
 | F+1,i,L,h=>by
  simp only [runT]
  split
  ·rename_i hi
   obtain ⟨h1,t,h2⟩:=yzan A h hi next.length (Y1h _)
   obtain ⟨h3,t',h4⟩:=yzdi A F (i+1) _ h1
   exact ⟨h3,t ++ t',by rw [h4,h2,Y13]⟩
  ·exact ⟨h,[],by simp⟩
abbrev PS:=List ((Nat×Nat)×List Int)
def stepP (na nb:List (List Int)) (p:Nat×Nat) (x:Nat):Nat×Nat:=(((na.getD x []).getD p.1 0).toNat,((nb.getD x []).getD p.2 0).toNat)
def eqP (p q:Nat×Nat):Bool:=Nat.beq p.1 q.1 && Nat.beq p.2 q.2
def hasP (L:PS) (p:Nat×Nat):Bool:=L.any fun q=>eqP q.1 p
def difP (oa ob:List (List Int)) (p:Nat×Nat) (x:Nat):Bool:=(oa.getD x []).getD p.1 0 != (ob.getD x []).getD p.2 0
theorem eqP_iff {p q:Nat×Nat}:eqP p q=true↔p=q:=by
 unfold eqP
 rw [Y20,Nat.beq_eq,Nat.beq_eq]
 constructor
 ·rintro ⟨h1,h2⟩;exact Prod.ext h1 h2
 ·rintro rfl;exact ⟨rfl,rfl⟩
theorem hasP_iff {L:PS} {p:Nat×Nat}:hasP L p=true↔p∈L.map (·.1):=by
 simp only [hasP,List.any_eq_true,Y3]
 constructor
 ·rintro ⟨q,hq,h⟩;exact ⟨q,hq,eqP_iff.1 h⟩
 ·rintro ⟨q,hq,rfl⟩;exact ⟨q,hq,eqP_iff.2 rfl⟩
structure PI (a b m:Nat) (L:PS):Prop where
 nd:(L.map (·.1)).Nodup
 rg:∀ p∈L,p.1.1<a∧p.1.2<b
 wd:∀ p∈L,(∀ x∈p.2,0≤x∧x<m)∧p.2.length<L.length
theorem PI.len {a b m:Nat} {L:PS} (h:PI a b m L) (ha:a≤10) (hb:b≤10):L.length≤100:=by
 have hn:((L.map (·.1)).map fun p:Nat×Nat=>10 * p.1+p.2).Nodup:=by
  refine List.Pairwise.map _ ?_ (List.Pairwise.and_mem.1 h.nd)
  rintro p q ⟨hp,hq,hpq⟩ e
  obtain ⟨x,hx,rfl⟩:=Y3.1 hp
  obtain ⟨y,hy,rfl⟩:=Y3.1 hq
  have h1:=h.rg x hx
  have h2:=h.rg y hy
  exact hpq (Prod.ext (by omega) (by omega))
 have:=yz3h 100 _ hn (fun x hx=>by
  obtain ⟨p,hp,rfl⟩:=Y3.1 hx
  obtain ⟨q,hq,rfl⟩:=Y3.1 hp
  have:=h.rg q hq
  omega)
 simpa using this
theorem PI.add {a b m:Nat} {L:PS} (h:PI a b m L) {to:Nat×Nat} {w:List Int} {x:Int} (ht:to.1<a∧to.2<b) (hn:hasP L to=false) (hw:(∀ x∈w,0≤x∧x<m)∧w.length<L.length) (hx:0≤x∧x<m):PI a b m (L ++ [(to,w ++ [x])]):=by
 refine ⟨?_,?_,?_⟩
 ·rw [Yc,Y19]
  refine ⟨h.nd,by simp,?_⟩
  intro a ha b hb e
  simp at hb
  rw [e,hb,← hasP_iff,hn] at ha
  cases ha
 ·intro p hp
  rcases Y4.1 hp with hp | hp
  ·exact h.rg p hp
  ·have hp:p=(to,w ++ [x]):=by simpa using hp
   rw [hp];exact ht
 ·intro p hp
  rw [Y5,Y7]
  rcases Y4.1 hp with hp | hp
  ·have:=h.wd p hp
   exact ⟨this.1,by omega⟩
  ·have hp:p=(to,w ++ [x]):=by simpa using hp
   subst hp
   refine ⟨fun y hy=>?_,by rw [Y5,Y7];omega⟩
   rcases Y4.1 hy with hy | hy
   ·exact hw.1 y hy
   ·have hy:y=x:=by simpa using hy
    rw [hy];exact hx
structure Two (n n':Int) (na nb:List (List Int)):Prop where
 a:Aut n na
 b:Aut n' nb
 len:nb.length=na.length
theorem Two.step {n n':Int} {na nb:List (List Int)} (T:Two n n' na nb) {x:Nat} {p:Nat×Nat} (hx:x<na.length) (hp:p.1<n.toNat∧p.2<n'.toNat):(stepP na nb p x).1<n.toNat∧(stepP na nb p x).2<n'.toNat:=by
 have h1:=T.a.row _ (yz4 hx [])
 have h2:=T.b.row _ (yz4 (show x<nb.length by rw [T.len];exact hx) [])
 have n1:=T.a.n1
 have n2:=T.b.n1
 have h3:=h1.2 _ (yz4 (show p.1<(na.getD x []).length by omega) 0)
 have h4:=h2.2 _ (yz4 (show p.2<(nb.getD x []).length by omega) 0)
 unfold stepP
 dsimp only
 omega
end Go.Ab
namespace Go.Ab
open Go.Proofs
end Go.Ab
namespace Go.Ab
end Go.Ab
namespace Go.Ab
open Go.Proofs
theorem yzco {ps qs:List (Nat×List Int)} (h:ps.Perm qs) (hp:DJ ps):DJ qs :=
 (h.pairwise_iff fun {x y} e=>by
  rcases e with e | e | e
  ·exact .inr (.inl e)
  ·exact .inl e
  ·exact .inr (.inr (Ne.symm e))).1 hp
theorem yzeb {xs:List Int} {i:Nat} {v:Int}:List.take i (ints xs) ++ [iv v] ++ List.drop (i+1) (ints xs)=ints (xs.take i ++ [v] ++ xs.drop (i+1)):=by
 simp only [Yc,List.map_take,List.map_drop,Y1,Yb]
theorem yzfl {xs:List Int} {i:Nat} {v:Int} (h:i<xs.length):(xs.take i ++ [v] ++ xs.drop (i+1)).length=xs.length:=by
 simp only [Y5,Yk,Yp,Ye,Y17];omega
theorem yze8 {xs:List Int} {i:Nat} {v:Int} {Q:Int→Prop} (h:∀ x∈xs,Q x) (hv:Q v):∀ x∈xs.take i ++ [v] ++ xs.drop (i+1),Q x:=by
 intro x hx
 simp only [Y4,Y9] at hx
 rcases hx with (hx | rfl) | hx
 ·exact h x (Y1d hx)
 ·exact hv
 ·exact h x (List.mem_of_mem_drop hx)
theorem yz5i {P:Program} {σ:St} {g:FuncId} {As args:List AVal} {d:Nat} {s:Nat→Nat} {K:St→Prop} {r q v u:Nat} {cs:List AVal} {xs:List Int} {Q:List AVal→Value→Prop}
  (h:Con P g [.box 0 cs,.row 1 1 true (ints xs)] args true fun outs rows res=>∃ cs' x,Q cs' x∧flatL cs'∧outs=[.box 0 cs',.row 1 1 true (ints xs)]∧rows=[]∧res=.val x)
  (hr:σ.hp r=.box v cs) (hq:σ.hp q=.row u 1 true (ints xs)) (hne:[r,q].Nodup) (hcs:CoeL σ.hp [r,q] false cs cs) (ha:CoeL σ.hp [r,q] false args As)
  (hk:∀ cs' x,Q cs' x→K (St.put ⟨σ.tm,upd (upd σ.hp r (.box v cs')) q (.row u 1 true (ints xs))⟩ (some d) (.val x))):wpCall P false σ g As (some d) s K:=by
 refine .inl ⟨[r,q],_,_,true,_,h,⟨by simp,rfl,hne,?_,?_⟩,ha,(fun e=>by cases e),?_⟩
 ·intro x hx
  simp only [Y8,Yi,or_false] at hx
  rcases hx with rfl | rfl
  ·simp [hr]
  ·simp [hq]
 ·intro j B r' hB hr'
  match j,hB,hr' with
  | 0,hB,hr' =>
   simp at hB hr';subst hB;subst hr'
   rw [hr]
   exact ⟨rfl,v,cs,rfl,hcs⟩
  | 1,hB,hr' =>
   simp at hB hr';subst hB;subst hr'
   simp only [ObjCoe,hq]
   exact ⟨trivial,u,_,rfl,yz1t⟩
  | j+2,hB,hr'=>simp at hB
 ·rintro outs rows res ⟨cs',x,hQ,hf,rfl,rfl,rfl⟩
  refine ⟨rfl,by simp,by simp,?_⟩
  have s0:sv σ.hp [r,q] s 0=v:=by simp [sv,hr,AObj.ver]
  have s1:sv σ.hp [r,q] s 1=u:=by simp [sv,hq,AObj.ver]
  rw [Y1x,yza0 hne]
  simp only [yz1p,yz2a,yzq cs' hf,yz1q,yz2k,s0,s1]
  exact hk cs' x hQ
theorem yzaq (code:List Int) (at_ seed:Int) (list:List Int) (hb:∀ x∈code,0≤x∧x≤255) (ha:0≤at_∧at_≤1000000000000) (hl:list≠[]) :
  Con Tryz.prog nzs [.box 0 (srcC code at_ seed),.row 1 1 true (ints list)] [.ptr 5000 0 0,.own 5001 1] true fun outs rows res=>∃ cs' x,(∃ at' seed' b,cs'=srcC code at' seed'∧at_≤at'∧at'≤at_+2∧x=.int .i64 b∧b∈list)∧flatL cs' ∧
   outs=[.box 0 cs',.row 1 1 true (ints list)]∧rows=[]∧res=.val x:=by
 refine yz38 mixed cztz rfl (by simp) ?_
 simp only [Bzr7,Azr8,go_sem,yz0,J9,J8,J6,J7,J5,J0,J1,J2,reduceIte,J3,J4,reduceCtorEq]
 intro vs hM
 refine yza (yz1w code at_ seed list.length hb ha) rfl qCS qCS ?_
 rintro cs' x ⟨a',s',b,rfl,h1,h2,rfl,h3,h4⟩
 have hpos:0<list.length:=List.length_pos_iff.2 hl
 have hb2:b.toNat<list.length:=by omega
 simp only [yz3 hb2,go_sem,yz0,J9,J8,J6,J7,J5,J0,J1,J2,reduceIte,J3,J4,reduceCtorEq]
 refine ⟨⟨h3,hb2⟩,hb2,[],by simp,by simp,by simp,?_⟩
 simp only [rsA,AVal.fresh,freshL,AObj.fresh,id,Y1v,go_sem,yz0,J9,J8,J6,J7,J5,J0,J1,J2,reduceIte,J3,J4,reduceCtorEq]
 exact ⟨_,_,⟨a',s',list.getD b.toNat 0,rfl,h1,h2,rfl,yz4 hb2 0⟩,by simp [flatL,AVal.flat,yz13],rfl,rfl⟩
theorem yz89 (n:Int) (hn:2≤n∧n≤10) :
  Con Tryz.prog nzp [] [iv n] true fun outs rows res=>outs=[]∧∃ v ps,Aut n (ps.map (·.2))∧DJ ps∧rows=[.row v 1 true (rwp ps)]∧res=.st [iv n,.own 6000 v]:=by
 refine yz38 mixed czrr rfl (by simp) ?_
 generalize hQ:finQ _=Q
 simp only [Az7d,Bzez,yz2,yz1,go_sem,yz0,J9,J8,J6,J7,J5,J0,J1,J2,reduceIte,J3,J4,reduceCtorEq]
 intro vs0 U0 hN0 vs1 U1 hN1
 simp only [Bzey,yz2,yz1,go_sem,yz0,J9,J8,J6,J7,J5,J0,J1,J2,reduceIte,J3,J4,reduceCtorEq]
 intro vs2 U2 hN2
 simp only [Bzex,Bzev,yz2,yz1,go_sem,yz0,J9,J8,J6,J7,J5,J0,J1,J2,reduceIte,J3,J4,reduceCtorEq]
 intro vs3 U3 hN3
 refine yz16 (fun (_,_,xs,_)=>n.toNat - Yf xs)
  (fun (v3,v4,xs,ys)=>(Yf xs:Int)≤n∧Yf ys=Yf xs∧(∀ x∈xs,0≤x∧x<n)∧(∀ x∈ys,0≤x∧x<n)∧v3≠v4)
  (fun ((v3,v4,xs,ys):Nat×Nat×List Int×List Int)=>⟨L .any [(0,iv n),(2,.ptr 2 (vs0 0 0) 0),(3,.own 6 v3),(4,.own 7 v4),(5,iv xs.length)],
   L .gone [(2,.box (vs0 0 0) [iv 0,.val (.slice none 0 0)]),(6,.row v3 1 true (ints xs)),(7,.row v4 1 true (ints ys)),(19,.gone),(26,.gone),(30,.gone),(5000,.gone)]⟩)
  (vs1 0 0,vs2 0 0,[],[]) ⟨by simp;omega,rfl,by simp,by simp,fun e=>hN2.new 0 0 (by rw [← e];exact (hN2.hp 6).1)⟩ (by simp only [Bz2w,go_sem,yz0,J9,J8,J6,J7,J5,J0,J1,J2,reduceIte,J3,J4,reduceCtorEq];try rfl) ?_
 rintro ⟨v3,v4,xs,ys⟩ ⟨h1,h2,h3,h4,h5⟩
 have h1:(xs.length:Int)≤n:=h1
 have h2:ys.length=xs.length:=h2
 have h5:v3≠v4:=h5
 by_cases hlt:(xs.length:Int)<n
 ·have w1:IntKind.i64.wrap ((xs.length:Int)+1)=((xs.length+1:Nat):Int):=by rw [w64 (by omega)];simp
  have w2:IntKind.i64.wrap (n - 1)=n - 1:=w64 (by omega)
  have hn0:¬ n=0:=by omega
  have hn1:¬ n - 1=0:=by omega
  have t1:=yzb5 (a:=((xs.length+1:Nat):Int)) (n:=n) (by omega) (by omega)
  have t2:=yzb5 (a:=(xs.length:Int)) (n:=n - 1) (by omega) (by omega)
  simp only [Bz2w,Bz7c,Bzeu,decide_eq_true hlt,w1,hn0,yz2,yz1,go_sem,yz0,J9,J8,J6,J7,J5,J0,J1,J2,reduceIte,J3,J4,reduceCtorEq]
  intro vs4 U4 hN4 vs5 U5 hN5
  refine ⟨⟨_,rfl,rfl⟩,by omega,?_⟩
  simp only [Bzes,w2,hn1,yz2,yz1,go_sem,yz0,J9,J8,J6,J7,J5,J0,J1,J2,reduceIte,J3,J4,reduceCtorEq]
  intro vs6 U6 hN6
  refine ⟨⟨_,rfl,rfl⟩,by omega,?_⟩
  simp only [Bzet,w1,yz2,yz1,go_sem,yz0,J9,J8,J6,J7,J5,J0,J1,J2,reduceIte,J3,J4,reduceCtorEq]
  intro vs7 U7 hN7
  refine ⟨(vs5 6 0,vs6 6 0,xs ++ [((xs.length+1:Nat):Int).tmod n],ys ++ [(xs.length:Int).tmod (n - 1)]),by dsimp only;rw [Y5,Y7];omega,
   ⟨by dsimp only;rw [Y5,Y7];omega,by dsimp only;rw [Y5,Y5,h2];rfl,?_,?_,fun e=>hN6.new 6 0 ((show vs5 6 0=vs6 6 0 from e) ▸ (show U6 (vs5 6 0) from (hN6.hp 6).1))⟩,?_⟩
  ·intro x hx
   rcases Y4.1 hx with h | h
   ·exact h3 x h
   ·rw [Y9.1 h];exact t1
  ·intro x hx
   rcases Y4.1 hx with h | h
   ·exact h4 x h
   ·rw [Y9.1 h];omega
  ·simp only [Y5,Y7]
 ·have hxl:(xs.length:Int)=n:=by omega
  simp only [Bz2w,Bz7c,Bzew,decide_eq_false hlt,yz2,yz1,go_sem,yz0,J9,J8,J6,J7,J5,J0,J1,J2,reduceIte,J3,J4,reduceCtorEq]
  intro vs4 U4 hN4 vs5 U5 hN5
  refine ⟨by decide,?_⟩
  simp only [Az7d,← hQ,go_sem,yz0,J9,J8,J6,J7,J5,J0,J1,J2,reduceIte,J3,J4,reduceCtorEq]
  refine ⟨[30],by simp,by simp,by simp,?_⟩
  have e:[AVal.ro (some (some (v3+1))) 1 (ints xs),AVal.ro (some (some (v4+1))) 1 (ints ys)]=rwp [(v3,xs),(v4,ys)]:=rfl
  simp only [e,range1,Y7,yzj,rsA,AVal.fresh,freshL,AObj.fresh,id,Y1v,go_sem,yz0,J9,J8,J6,J7,J5,J0,J1,J2,reduceIte,J3,J4,reduceCtorEq]
  refine ⟨vs5 3 0,[(v3,xs),(v4,ys)],⟨by omega,by omega,by simp,by simp,?_⟩,?_,by simp,rfl⟩
  ·intro r hr
   simp only [Y1,Yb,Y8,Yi,or_false] at hr
   rcases hr with rfl | rfl
   ·exact ⟨hxl,h3⟩
   ·exact ⟨by omega,h4⟩
  ·simp only [DJ,Yx,Y9,forall_eq]
   exact ⟨.inr (.inr h5),by simp,.nil⟩
theorem yzc3 (xs:List Int) (hl:xs.length≤100000):RowI Tryz.prog nz67 [.ro none 1 (ints xs)] (fun _=>True):=by
 refine yz1k mixed cztw rfl ?_
 simp only [Azqs,Bzqr,go_sem,yz0,J9,J8,J6,J7,J5,J0,J1,J2,reduceIte,J3,J4,reduceCtorEq]
 intro vs
 simp only [Bzqq,Bzqp,Bzqn,go_sem,yz0,J9,J8,J6,J7,J5,J0,J1,J2,reduceIte,J3,J4,reduceCtorEq]
 refine yzo (fun (_,_,ys)=>xs.length - Yf ys) (fun (_,c,ys)=>Yf ys≤xs.length∧0≤c∧c≤Yf ys)
  (fun ((va,c,ys):Nat×Int×List Int)=>⟨L .any [(0,.ro none 1 (ints xs)),(3,.own 8 va),(4,iv c),(5,iv ys.length)],L .gone [(8,.row va 1 true (ints ys))]⟩)
  (_,0,[]) ⟨by simp,Y1u _,by simp⟩ (by simp only [Bz4w,go_sem,yz0,J9,J8,J6,J7,J5,J0,J1,J2,reduceIte,J3,J4,reduceCtorEq];try rfl) ?_
 rintro ⟨va,c,ys⟩ ⟨h1,h2,h3⟩
 have h1:ys.length≤xs.length:=h1
 have h3:c≤ys.length:=h3
 by_cases hlt:(ys.length:Int)<xs.length
 ·have hlt1:ys.length<xs.length:=by omega
  have w1:IntKind.i64.wrap ((ys.length:Int)+1)=((ys.length+1:Nat):Int):=by rw [w64 (by omega)];simp
  simp only [Bz4w,Bzc1,Bzqm,decide_eq_true hlt,go_sem,yz0,J9,J8,J6,J7,J5,J0,J1,J2,reduceIte,J3,J4,reduceCtorEq]
  intro hM
  simp only [Bzql,Bzqi,go_sem,yz0,J9,J8,J6,J7,J5,J0,J1,J2,reduceIte,J3,J4,reduceCtorEq]
  refine yzo (fun (k,_)=>ys.length - k) (fun (k,_)=>k≤ys.length)
   (fun ((k,o):Nat×Int)=>⟨L .any [(0,.ro none 1 (ints xs)),(3,.own 8 va),(4,iv c),(5,iv ys.length),(6,iv o),(7,iv k)],L .gone [(8,.row va 1 true (ints ys))]⟩)
   (0,-1) (by simp) (by simp only [Bz4v,go_sem,yz0,J9,J8,J6,J7,J5,J0,J1,J2,reduceIte,J3,J4,reduceCtorEq];try rfl) ?_
  rintro ⟨k,o⟩ hk
  have hk:k≤ys.length:=hk
  by_cases hkl:(k:Int)<ys.length
  ·have hk1:k<ys.length:=by omega
   have hk2:k<xs.length:=by omega
   have w2:IntKind.i64.wrap ((k:Int)+1)=((k+1:Nat):Int):=by rw [w64 (by omega)];simp
   simp only [Bz4v,Bzc2,Bzqh,decide_eq_true hkl,yz3 hk2,yz3 hlt1,go_sem,yz0,J9,J8,J6,J7,J5,J0,J1,J2,reduceIte,J3,J4,reduceCtorEq]
   refine ⟨⟨by omega,hk2⟩,hk2,⟨by omega,hlt1⟩,hlt1,?_⟩
   simp only [Bzqf,Bzqg,yz3 hk1,w2,go_sem,yz0,J9,J8,J6,J7,J5,J0,J1,J2,reduceIte,J3,J4,reduceCtorEq]
   exact ⟨fun _=>⟨⟨by omega,hk1⟩,hk1,(k+1,ys.getD k 0),by dsimp only;omega,by dsimp only;omega,rfl⟩,fun _=>⟨(k+1,o),by dsimp only;omega,by dsimp only;omega,rfl⟩⟩
  ·simp only [Bz4v,Bzc2,Bzqk,decide_eq_false hkl,go_sem,yz0,J9,J8,J6,J7,J5,J0,J1,J2,reduceIte,J3,J4,reduceCtorEq]
   by_cases ho:o<0
   ·have w3:IntKind.i64.wrap (c+1)=c+1:=w64 (by omega)
    simp only [Bzc3,Bzqj,Bzc4,Bzc5,decide_eq_true ho,w1,w3,go_sem,yz0,J9,J8,J6,J7,J5,J0,J1,J2,reduceIte,J3,J4,reduceCtorEq]
    intro vs2
    refine ⟨⟨_,rfl,rfl⟩,by omega,?_⟩
    exact ⟨(vs2 3 0,c+1,ys ++ [c]),by dsimp only;rw [Y5,Y7];omega,⟨by dsimp only;rw [Y5,Y7];omega,by dsimp only;omega,by dsimp only;rw [Y5,Y7];omega⟩,by simp only [Y5,Y7]⟩
   ·simp only [Bzc3,Bzc4,Bzc5,decide_eq_false ho,w1,go_sem,yz0,J9,J8,J6,J7,J5,J0,J1,J2,reduceIte,J3,J4,reduceCtorEq]
    intro vs2
    refine ⟨⟨_,rfl,rfl⟩,by omega,?_⟩
    exact ⟨(vs2 3 0,c,ys ++ [o]),by dsimp only;rw [Y5,Y7];omega,⟨by dsimp only;rw [Y5,Y7];omega,h2,by dsimp only;rw [Y5,Y7];omega⟩,by simp only [Y5,Y7]⟩
 ·simp only [Bz4w,Bzc1,Bzqo,decide_eq_false hlt,go_sem,yz0,J9,J8,J6,J7,J5,J0,J1,J2,reduceIte,J3,J4,reduceCtorEq]
  intro hM
  exact ⟨8,va,ys,by omega,rfl,by simp only [go_sem,yz0,J9,J8,J6,J7,J5,J0,J1,J2,reduceIte,J3,J4,reduceCtorEq]⟩
abbrev AlR (code:List Int) (at_:Int) (outs rows:List AObj) (res:AVal):Prop :=
 ∃ n ps v w xs a' s',Aut n (ps.map (·.2))∧DJ ps∧n≤6∧at_≤a'∧a'≤at_+2000∧outs=[.box 0 (srcC code a' s')]∧rows=[.row v 1 true (rwp ps),.row w 1 true (ints xs)]∧res=.tup [.st [iv n,.own 6000 v],.own 6001 w]
theorem yz24 {ps:List (Nat×List Int)} {i:Nat} (h:i<ps.length):(rwp ps).getD i .any=.ro (some (some ((ps.getD i (0,[])).1+1))) 1 (ints (ps.getD i (0,[])).2):=by
 rw [Y0,rwp,Yd,Y2 h,Y0,Y2 h];rfl
theorem yzci (code:List Int) (at_ seed:Int) (hb:∀ x∈code,0≤x∧x≤255) (ha:0≤at_∧at_≤100000) :
  Con Tryz.prog nz5s [.box 0 (srcC code at_ seed)] [.ptr 5000 0 0] true (AlR code at_):=by
 refine yz38 mixed czt6 rfl (by simp) ?_
 generalize hQ:finQ _=Q
 simp only [Azax,Bznq,yz2,yz1,go_sem,yz0,J9,J8,J6,J7,J5,J0,J1,J2,reduceIte,J3,J4,reduceCtorEq]
 intro vs0 U0 hN0 vs1 U1 hN1
 refine yz3e (r:=5000) (yz6e code at_ seed 3 hb (by omega) (by omega)) rfl (by simp only [Y21,csA,rowIs,boxIs,J3,ne_eq,reduceCtorEq,exists_eq_left,exists_eq_right,Y8,Yi,exists_eq_left',exists_and_left,exists_eq,Y1,Yb,AObj.ver,J5]) (by simp only [Y21,csA,rowIs,boxIs,J3,ne_eq,reduceCtorEq,exists_eq_left,exists_eq_right,Y8,Yi,exists_eq_left',exists_and_left,exists_eq,Y1,Yb,AObj.ver,J5]) ?_
 rintro outs rows res ⟨q,qs,vq,a1,s1,A,hd,hq3,h1,h2,rfl,rfl,rfl⟩
 refine ⟨rfl,by simp,by rw [Y1x,yzw];simp only [go_sem,yz0,J9,J8,J6,J7,J5,J0,J1,J2,reduceIte,J3,J4,reduceCtorEq],?_⟩
 rw [Y1x,yz32 (by omega)]
 simp only [yzj,Bznp,yz2,yz1,rsA,AVal.fresh,freshL,AObj.fresh,id,Y1v,go_sem,yz0,J9,J8,J6,J7,J5,J0,J1,J2,reduceIte,J3,J4,reduceCtorEq]
 intro vs2 U2 hN2
 generalize hf:sv (L .gone _) [5000] (vs1 1)=f
 have hf0:f 0=0:=by rw [← hf];simp [sv,AObj.ver,L]
 rw [hf0]
 generalize hps0:List.map (fun p=>(f p.1,p.2)) qs=ps0
 have A0:Aut q (ps0.map (·.2)):=by
  rw [← hps0,Yj];exact A
 have n1:=A0.n1
 have l1:=A0.l1
 have l2:=A0.l2
 rw [Y6] at l1 l2
 refine yz5a (yz1w code a1 s1 4 hb (by omega)) rfl (by simp) qCS qCS ⟨srcC code a1 0,.int .i64 0,⟨a1,0,0,rfl,by omega,by omega,rfl,by omega,.inr rfl⟩,yz1v⟩ ?_
 rintro cs' x ⟨a2,s2,b2,rfl,g1,g2,rfl,g3,g4⟩
 obtain ⟨n,hn⟩:∃ n:Int,n=q+b2:=⟨_,rfl⟩
 have wn:IntKind.i64.wrap (q+b2)=n:=by rw [hn];exact w64 (by omega)
 simp only [wn,Bzno,yz2,yz1,go_sem,yz0,J9,J8,J6,J7,J5,J0,J1,J2,reduceIte,J3,J4,reduceCtorEq]
 intro vs3 U3 hN3
 simp only [Bznn,Bzn3,yz2,yz1,go_sem,yz0,J9,J8,J6,J7,J5,J0,J1,J2,reduceIte,J3,J4,reduceCtorEq]
 intro vs4 U4 hN4
 refine yz16 (fun (_,_,_,xs)=>n.toNat - Yf xs)
  (fun (_,a,_,xs)=>a2≤a∧a≤a2+2 * Yf xs∧(Yf xs:Int)≤n∧∀ x∈xs,0≤x∧x<q)
  (fun ((v6,a,s,xs):Nat×Int×Int×List Int)=>⟨L .any [(0,.ptr 5000 0 0),(2,.ptr 2 (vs0 0 0) 0),(4,.ptr 4 (vs1 2 0) 0),(5,iv n),(6,.own 23 v6),(7,iv xs.length)],
   L .gone [(2,.box (vs0 0 0) [iv 0,.val (.slice none 0 0)]),(4,.box (vs1 2 0) [iv q,.own 17 (f vq)]),(8,.gone),(17,.row (f vq) 1 true (rwp ps0)),(23,.row v6 1 true (ints xs)),(36,.gone),(43,.gone),(93,.gone),(5000,.box 0 (srcC code a s))]⟩)
  (_,a2,s2,[]) ⟨Y1u _,by simp,by simp;omega,by simp⟩ (by simp only [Bz4a,go_sem,yz0,J9,J8,J6,J7,J5,J0,J1,J2,reduceIte,J3,J4,reduceCtorEq];try rfl) ?_
 rintro ⟨v6,a,s,xs⟩ ⟨i1,i2,i3,i4⟩
 have i1:a2≤a:=i1
 have i2:a≤a2+2 * xs.length:=i2
 have i3:(xs.length:Int)≤n:=i3
 by_cases hlt:(xs.length:Int)<n
 ·have w1:IntKind.i64.wrap ((xs.length:Int)+1)=((xs.length+1:Nat):Int):=by rw [w64 (by omega)];simp
  simp only [Bz4a,Bzar,Bzn2,decide_eq_true hlt,yz2,yz1,go_sem,yz0,J9,J8,J6,J7,J5,J0,J1,J2,reduceIte,J3,J4,reduceCtorEq]
  intro vs5 U5 hN5 vs6 U6 hN6
  by_cases hq:(xs.length:Int)<q
  ·simp only [Bzas,Bzat,decide_eq_true hq,w1,yz2,yz1,go_sem,yz0,J9,J8,J6,J7,J5,J0,J1,J2,reduceIte,J3,J4,reduceCtorEq]
   intro vs7 U7 hN7
   refine ⟨⟨_,rfl,rfl⟩,by omega,?_⟩
   intro vs8 U8 hN8
   refine ⟨(vs7 3 0,a,s,xs ++ [(xs.length:Int)]),by dsimp only;rw [Y5,Y7];omega,⟨i1,by dsimp only;rw [Y5,Y7];omega,by dsimp only;rw [Y5,Y7];omega,fun x hx=>?_⟩,?_⟩
   ·rcases Y4.1 hx with h | h
    ·exact i4 x h
    ·rw [Y9.1 h];omega
   ·simp only [Y5,Y7]
  ·simp only [Bzas,decide_eq_false hq,yz2,yz1,go_sem,yz0,J9,J8,J6,J7,J5,J0,J1,J2,reduceIte,J3,J4,reduceCtorEq]
   intro vs7 U7 hN7
   refine yza (yz1w code a s q hb (by omega)) rfl qCS qCS ?_
   rintro cs' x ⟨a3,s3,b3,rfl,e1,e2,rfl,e3,e4⟩
   simp only [Bzat,w1,yz2,yz1,go_sem,yz0,J9,J8,J6,J7,J5,J0,J1,J2,reduceIte,J3,J4,reduceCtorEq]
   refine ⟨⟨_,rfl,rfl⟩,by omega,?_⟩
   intro vs8 U8 hN8
   refine ⟨(vs7 6 0,a3,s3,xs ++ [b3]),by dsimp only;rw [Y5,Y7];omega,⟨by dsimp only;omega,by dsimp only;rw [Y5,Y7];omega,by dsimp only;rw [Y5,Y7];omega,fun x hx=>?_⟩,?_⟩
   ·rcases Y4.1 hx with h | h
    ·exact i4 x h
    ·rw [Y9.1 h];omega
   ·simp only [Y5,Y7]
 have hxl:(xs.length:Int)=n:=by omega
 simp only [Bz4a,Bzar,Bznm,decide_eq_false hlt,yz2,yz1,go_sem,yz0,J9,J8,J6,J7,J5,J0,J1,J2,reduceIte,J3,J4,reduceCtorEq]
 intro vs5 U5 hN5 vs6 U6 hN6
 simp only [Bznl,Bznj,yz2,yz1,go_sem,yz0,J9,J8,J6,J7,J5,J0,J1,J2,reduceIte,J3,J4,reduceCtorEq]
 intro vs7 U7 hN7 ver
 refine yz16 (fun (_,_,_,_,ps)=>ps0.length - Yf ps)
  (fun (_,nn,a',_,ps)=>a≤a'∧a'≤a+60 * Yf ps∧Yf ps≤ps0.length∧(ps≠[]→nn=true)∧(∀ p∈ps,(Yf p.2:Int)=n∧∀ x∈p.2,0≤x∧x<n)∧DJ ps)
  (fun ((v93,nn,a,s,ps):Nat×Bool×Int×Int×List (Nat×List Int))=>⟨L .any [(0,.ptr 5000 0 0),(2,.ptr 2 (vs0 0 0) 0),(4,.ptr 4 (vs1 2 0) 0),(5,iv n),(6,.own 23 v6),(8,.ptr 8 (vs6 2 0) 0),(9,iv ps.length)],
   L .gone [(2,.box (vs0 0 0) [iv 0,.val (.slice none 0 0)]),(4,.box (vs1 2 0) [iv q,.own 17 (f vq)]),(8,.box (vs6 2 0) [iv n,.own 93 v93]),(17,.row (f vq) 1 true (rwp ps0)),(23,.row v6 1 true (ints xs)),(36,.gone),(43,.gone),(93,.row v93 1 nn (rwp ps)),(5000,.box 0 (srcC code a s))]⟩)
  (ver,false,a,s,[]) ⟨Y1u _,by simp,by simp,by simp,by simp,by simp [DJ]⟩ (by simp only [Bz4d,go_sem,yz0,J9,J8,J6,J7,J5,J0,J1,J2,reduceIte,J3,J4,reduceCtorEq];try rfl) ?_
 rintro ⟨v93,nn,a',s',ps⟩ ⟨j1,j2,j3,j4,j5,j6⟩
 have j1:a≤a':=j1
 have j2:a'≤a+60 * ps.length:=j2
 have j3:ps.length≤ps0.length:=j3
 by_cases hlp:(ps.length:Int)<ps0.length
 ·have hlp1:ps.length<ps0.length:=by omega
  have hrw:=A0.row _ (List.mem_map_of_mem (f:=(·.2)) (yz4 hlp1 (0,[])))
  generalize hr0:ps0.getD ps.length (0,[])=r0 at hrw
  simp only [Bz4d,Bzau,Bzni,yz7,decide_eq_true hlp,yz2,yz1,go_sem,yz0,J9,J8,J6,J7,J5,J0,J1,J2,reduceIte,J3,J4,reduceCtorEq]
  intro vs8 U8 hN8 hM8 vs9 U9 hN9
  simp only [Bzng,Bzne,yz2,yz1,go_sem,yz0,J9,J8,J6,J7,J5,J0,J1,J2,reduceIte,J3,J4,reduceCtorEq]
  intro vs10 U10 hN10
  refine yz16 (fun (_,_,_,row)=>n.toNat - Yf row)
   (fun (_,a3,_,row)=>a'≤a3∧a3≤a'+8 * Yf row∧(Yf row:Int)≤n∧∀ x∈row,0≤x∧x<n)
   (fun ((v10,a,s,row):Nat×Int×Int×List Int)=>⟨L .any [(0,.ptr 5000 0 0),(2,.ptr 2 (vs0 0 0) 0),(4,.ptr 4 (vs1 2 0) 0),(5,iv n),(6,.own 23 v6),(8,.ptr 8 (vs6 2 0) 0),(9,iv ps.length),(10,.own 53 v10),(11,iv row.length)],
    L .gone [(2,.box (vs0 0 0) [iv 0,.val (.slice none 0 0)]),(4,.box (vs1 2 0) [iv q,.own 17 (f vq)]),(8,.box (vs6 2 0) [iv n,.own 93 v93]),(17,.row (f vq) 1 true (rwp ps0)),(23,.row v6 1 true (ints xs)),(36,.gone),(43,.gone),(53,.row v10 1 true (ints row)),(88,.gone),(93,.row v93 1 nn (rwp ps)),(5000,.box 0 (srcC code a s))]⟩)
   (_,a',s',[]) ⟨Y1u _,by simp,by simp;omega,by simp⟩ (by simp only [Bz4c,go_sem,yz0,J9,J8,J6,J7,J5,J0,J1,J2,reduceIte,J3,J4,reduceCtorEq];try rfl) ?_
  rintro ⟨v10,a3,s3,row⟩ ⟨k1,k2,k3,k4⟩
  have k1:a'≤a3:=k1
  have k2:a3≤a'+8 * row.length:=k2
  have k3:(row.length:Int)≤n:=k3
  by_cases hlr:(row.length:Int)<n
  ·have hx1:row.length<xs.length:=by omega
   have hm:=i4 _ (yz4 hx1 0)
   generalize hmx:xs.getD row.length 0=m at hm
   have hm1:m.toNat<r0.2.length:=by omega
   have hw:=hrw.2 _ (yz4 hm1 0)
   generalize hwx:r0.2.getD m.toNat 0=want at hw
   simp only [Bz4c,Bzav,Bznd,yz24 hlp1,hr0,yz3 hx1,hmx,yz3 hm1,hwx,decide_eq_true hlr,yz2,yz1,go_sem,yz0,J9,J8,J6,J7,J5,J0,J1,J2,reduceIte,J3,J4,reduceCtorEq]
   intro vs11 U11 hN11 vs12 U12 hN12
   have hlw:(rwp ps0).length=ps0.length:=yz7
   refine ⟨⟨by omega,by omega⟩,by omega,⟨by omega,hx1⟩,hx1,⟨hm.1,hm1⟩,hm1,?_⟩
   simp only [Bznb,Bzna,Bzn8,yz2,yz1,go_sem,yz0,J9,J8,J6,J7,J5,J0,J1,J2,reduceIte,J3,J4,reduceCtorEq]
   intro vs13 U13 hN13 vs14 U14 hN14
   refine yz16 (fun (_,_,_,j)=>4 - j)
    (fun (a4,_,t,j)=>a3≤a4∧a4≤a3+2 * (j:Nat)∧j≤4∧0≤t∧t<n)
    (fun ((a,s,t,j):Int×Int×Int×Nat)=>⟨L .any [(0,.ptr 5000 0 0),(2,.ptr 2 (vs0 0 0) 0),(4,.ptr 4 (vs1 2 0) 0),(5,iv n),(6,.own 23 v6),(8,.ptr 8 (vs6 2 0) 0),(9,iv ps.length),(10,.own 53 v10),(11,iv row.length),(12,iv want),(13,iv t),(14,iv j)],
     L .gone [(2,.box (vs0 0 0) [iv 0,.val (.slice none 0 0)]),(4,.box (vs1 2 0) [iv q,.own 17 (f vq)]),(8,.box (vs6 2 0) [iv n,.own 93 v93]),(17,.row (f vq) 1 true (rwp ps0)),(23,.row v6 1 true (ints xs)),(36,.gone),(43,.gone),(53,.row v10 1 true (ints row)),(88,.gone),(93,.row v93 1 nn (rwp ps)),(5000,.box 0 (srcC code a s))]⟩)
    (a3,s3,want,0) ⟨Y1u _,by simp,by simp,hw.1,by omega⟩ (by simp only [Bz4b,go_sem,yz0,J9,J8,J6,J7,J5,J0,J1,J2,reduceIte,J3,J4,reduceCtorEq];try rfl) ?_
   rintro ⟨a4,s4,t,j⟩ ⟨m1,m2,m3,m4,m5⟩
   have m1:a3≤a4:=m1
   have m2:a4≤a3+2 * (j:Nat):=m2
   have m3:j≤4:=m3
   by_cases hj:(j:Int)<4
   ·have w1:IntKind.i64.wrap ((j:Int)+1)=((j+1:Nat):Int):=by rw [w64 (by omega)];simp
    simp only [Bz4b,Bzaw,Bzn7,decide_eq_true hj,yz2,yz1,go_sem,yz0,J9,J8,J6,J7,J5,J0,J1,J2,reduceIte,J3,J4,reduceCtorEq]
    intro vs15 U15 hN15 vs16 U16 hN16
    refine yza (yz1w code a4 s4 n hb (by omega)) rfl qCS qCS ?_
    rintro cs' x ⟨a5,s5,b5,rfl,e1,e2,rfl,e3,e4⟩
    have hb5:b5.toNat<xs.length:=by omega
    simp only [Bzn5,yz3 hb5,yz2,yz1,go_sem,yz0,J9,J8,J6,J7,J5,J0,J1,J2,reduceIte,J3,J4,reduceCtorEq]
    intro vs17 U17 hN17
    refine ⟨⟨e3,hb5⟩,hb5,?_⟩
    simp only [Bzn4,Bzn6,w1,yz2,yz1,go_sem,yz0,J9,J8,J6,J7,J5,J0,J1,J2,reduceIte,J3,J4,reduceCtorEq]
    refine ⟨fun _ vs18 U18 hN18 vs19 U19 hN19=>⟨(a5,s5,b5,j+1),by dsimp only;omega,⟨by dsimp only;omega,by dsimp only;omega,by dsimp only;omega,e3,by dsimp only;omega⟩,rfl⟩,
     fun _ vs18 U18 hN18=>⟨(a5,s5,t,j+1),by dsimp only;omega,⟨by dsimp only;omega,by dsimp only;omega,by dsimp only;omega,m4,m5⟩,rfl⟩⟩
   ·have w1:IntKind.i64.wrap ((row.length:Int)+1)=((row.length+1:Nat):Int):=by rw [w64 (by omega)];simp
    simp only [Bz4b,Bzaw,Bzn9,decide_eq_false hj,yz2,yz1,go_sem,yz0,J9,J8,J6,J7,J5,J0,J1,J2,reduceIte,J3,J4,reduceCtorEq]
    intro vs15 U15 hN15 vs16 U16 hN16
    refine ⟨⟨_,rfl,rfl⟩,by omega,?_⟩
    simp only [Bznc,w1,yz2,yz1,go_sem,yz0,J9,J8,J6,J7,J5,J0,J1,J2,reduceIte,J3,J4,reduceCtorEq]
    intro vs17 U17 hN17
    refine ⟨(vs16 3 0,a4,s4,row ++ [t]),by dsimp only;rw [Y5,Y7];omega,⟨by dsimp only;omega,by dsimp only;rw [Y5,Y7];omega,by dsimp only;rw [Y5,Y7];omega,fun x hx=>?_⟩,?_⟩
    ·rcases Y4.1 hx with h | h
     ·exact k4 x h
     ·rw [Y9.1 h];exact ⟨m4,m5⟩
    ·simp only [Y5,Y7]
  ·have hrl:(row.length:Int)=n:=by omega
   have w1:IntKind.i64.wrap ((ps.length:Int)+1)=((ps.length+1:Nat):Int):=by rw [w64 (by omega)];simp
   simp only [Bz4c,Bzav,Bznf,decide_eq_false hlr,yz2,yz1,yzr,go_sem,yz0,J9,J8,J6,J7,J5,J0,J1,J2,reduceIte,J3,J4,reduceCtorEq]
   intro vs11 U11 hN11 hD
   refine ⟨[],?_⟩
   have hf:∀ p∈ps,p.2=[]∨p.1≠v10:=fun p hp=>by
    by_cases e:p.2=[]
    ·exact .inl e
    ·exact .inr (hD 93 v93 1 nn (rwp ps) 53 v10 rfl rfl p.1 1 (ints p.2) (Y3.2 ⟨p,hp,rfl⟩) (by simpa using e))
   simp only [yzh,yz2,yz1,go_sem,yz0,J9,J8,J6,J7,J5,J0,J1,J2,reduceIte,J3,J4,reduceCtorEq]
   intro vs12 U12 hN12
   rw [yz7]
   refine ⟨by omega,?_⟩
   simp only [Bznh,w1,yz36,yz2,yz1,go_sem,yz0,J9,J8,J6,J7,J5,J0,J1,J2,reduceIte,J3,J4,reduceCtorEq]
   intro vs13 U13 hN13
   refine ⟨(vs12 4 0,true,a3,s3,ps ++ [(v10,row)]),by dsimp only;rw [Y5,Y7];omega,
    ⟨by dsimp only;omega,by dsimp only;rw [Y5,Y7];omega,by dsimp only;rw [Y5,Y7];omega,by simp,fun p hp=>?_,j6.snoc hf⟩,?_⟩
   ·rcases Y4.1 hp with h | h
    ·exact j5 p h
    ·rw [Y9.1 h];exact ⟨hrl,k4⟩
   ·simp only [Y5,Y7]
 ·have hlen:ps.length=ps0.length:=by omega
  obtain rfl:=j4 (fun e=>by rw [e] at hlen;simp at hlen;omega)
  simp only [Bz4d,Bzau,Bznk,yz7,decide_eq_false hlp,yz2,yz1,go_sem,yz0,J9,J8,J6,J7,J5,J0,J1,J2,reduceIte,J3,J4,reduceCtorEq]
  intro vs8 U8 hN8 hM8 vs9 U9 hN9
  refine yzm (yzc3 xs (by omega)) qCS qGN ⟨[],trivial⟩ ?_
  rintro ys vy -
  simp only [Azax,← hQ,yz2,yz1,go_sem,yz0,J9,J8,J6,J7,J5,J0,J1,J2,reduceIte,J3,J4,reduceCtorEq]
  refine ⟨[93,97],by simp,by simp,by simp,?_⟩
  simp only [range1,Y7,yzj,rsA,AVal.fresh,freshL,AObj.fresh,id,Y1v,go_sem,yz0,J9,J8,J6,J7,J5,J0,J1,J2,reduceIte,J3,J4,reduceCtorEq]
  exact ⟨n,ps,v93,vy,ys,a',s',⟨by omega,by omega,by rw [Y6];omega,by rw [Y6];omega,fun r hr=>by obtain ⟨p,hp,rfl⟩:=Y3.1 hr;exact j5 p hp⟩,j6,by omega,by omega,by omega,rfl,by simp,rfl⟩
end Go.Ab
namespace Go.Ab
theorem yzdv {ps:List (Nat×List Int)} {i:Nat} {p:Nat×List Int}:(rwp ps).take i ++ [.ro (some (some (p.1+1))) 1 (ints p.2)] ++ (rwp ps).drop (i+1)=rwp (ps.take i ++ [p] ++ ps.drop (i+1)):=by
 simp only [rwp,Yc,List.map_take,List.map_drop,Y1,Yb]
theorem DJ_put {A C:List (Nat×List Int)} {b b':Nat×List Int} (h:DJ (A ++ b :: C)) (h1:b'.1=b.1) (h2:b.2=[]→b'.2=[]):DJ (A ++ b' :: C):=by
 unfold DJ at h ⊢
 rw [Y12] at h ⊢
 obtain ⟨hA,hC,hX⟩:=h
 rw [Yx] at hC ⊢
 refine ⟨hA,⟨fun x hx=>?_,hC.2⟩,fun x hx y hy=>?_⟩
 ·rcases hC.1 x hx with e | e | e
  ·exact .inl (h2 e)
  ·exact .inr (.inl e)
  ·exact .inr (.inr (by rw [h1];exact e))
 ·rcases Y8.1 hy with rfl | hy
  ·rcases hX x hx b (List.mem_cons_self ..) with e | e | e
   ·exact .inl e
   ·exact .inr (.inl (h2 e))
   ·exact .inr (.inr (by rw [h1];exact e))
  ·exact hX x hx y (Yt _ hy)
theorem DJ_set {ps:List (Nat×List Int)} {i:Nat} (hi:i<ps.length) {xs:List Int} (h:DJ ps) (h2:(ps.getD i (0,[])).2=[]→xs=[]):DJ (ps.take i ++ [((ps.getD i (0,[])).1,xs)] ++ ps.drop (i+1)):=by
 have e:ps=ps.take i ++ ps.getD i (0,[]) :: ps.drop (i+1):=by
  rw [Y0,Y2 hi,Y1x,List.getElem_cons_drop,List.take_append_drop]
 rw [e] at h
 rw [Y13,List.singleton_append]
 exact DJ_put h rfl h2
end Go.Ab
namespace Go.Ab
open Go.Proofs
theorem rf_L {l:List (Nat×AVal)} {h:List (Nat×AObj)} {r i q v k k' ver:Nat} {nn nn':Bool} {cs cs':List AVal} (hr:L .gone h r=.row v k nn cs) (hqr:q≠r) :
  St.rf ⟨L .any l,L .gone h⟩ r i q ver k' nn' cs'=⟨L .any l,L .gone ((r,.row v k nn (cs.set i (.ro (frNm nn' cs'.length ver) k' cs'))) :: (q,.gone) :: h)⟩:=by
 unfold St.rf
 congr 1
 funext x
 simp only [L]
 split
 ·rw [hr]
 ·split <;> rfl
theorem yzf7 {gs:List GStep} {K:St→Prop} {l:List (Nat×AVal)} {h:List (Nat×AObj)} {r i q v k k' ver:Nat} {nn nn':Bool} {cs cs':List AVal} (hr:L .gone h r=.row v k nn cs)
  (hi:cs[i]?=some (.own q ver)) (hqr:q≠r) (hq:L .gone h q=.row ver k' nn' cs')
  (hk:(∀ n k'' cs'',AVal.ro (some (some (n+1))) k'' cs''∈cs→cs''≠[]→n≠ver)→gwp gs K ⟨L .any l,L .gone ((r,.row v k nn (cs.set i (.ro (frNm nn' cs'.length ver) k' cs'))) :: (q,.gone) :: h)⟩):gwp (.rf r i q :: gs) K ⟨L .any l,L .gone h⟩ :=
 ⟨v,k,nn,cs,ver,k',nn',cs',hr,hi,hqr,hq,fun hd=>by rw [rf_L hr hqr];exact hk hd⟩
theorem yz5j {A C:List (Nat×List Int)} {b:Nat×List Int} {X:AVal} (h:∀ p∈A ++ C,p.2=[]∨p.1≠b.1):(woL b.1 (rwp (A ++ b :: C))).set A.length X=rwp A ++ X :: rwp C:=by
 have e:rwp (A ++ b :: C)=rwp A ++ (.ro (some (some (b.1+1))) 1 (ints b.2)) :: rwp C:=by simp [rwp]
 have hl:(rwp A).length=A.length:=yz7
 have hA:=yzaj (n:=b.1) (ps:=A) fun p hp=>h p (Y4.2 (.inl hp))
 have hC:=yzaj (n:=b.1) (ps:=C) fun p hp=>h p (Y4.2 (.inr hp))
 have happ:∀ l l':List AVal,woL b.1 (l ++ l')=woL b.1 l ++ woL b.1 l':=by
  intro l l'
  simp only [yz4g,Yc]
 rw [e,happ,hA,yz1y,hC,List.set_append_right _ _ (by omega),hl,Y1l]
 rfl
theorem yzbx {A C:List (Nat×List Int)} {X:AVal} {i:Nat} (h:i=A.length):(rwp A ++ X :: rwp C).getD i .any=X:=by
 subst h
 rw [Y0,Yv (by rw [yz7];exact Y1h _),yz7];simp
theorem yzbz {X Y:List (Nat×List Int)} {b:Nat×List Int} (h:DJ (X ++ b :: Y)) (hb:b.2≠[]):∀ p∈X ++ Y,p.2=[]∨p.1≠b.1:=by
 intro p hp
 rcases (Yx.1 (yzco List.perm_middle h)).1 p hp with e | e | e
 ·exact absurd e hb
 ·exact .inl e
 ·exact .inr (Ne.symm e)
theorem DJ_in {X Y:List (Nat×List Int)} {b:Nat×List Int} {u:Nat} {r:List Int} (h:DJ (X ++ b :: Y)) (hu:∀ p∈X ++ Y,p.2=[]∨p.1≠u):DJ (X ++ (u,r) :: Y) :=
 yzco List.perm_middle.symm (Yx.2 ⟨fun p hp=>by
  rcases hu p hp with e | e
  ·exact .inr (.inl e)
  ·exact .inr (.inr (Ne.symm e)),(Yx.1 (yzco List.perm_middle h)).2⟩)
theorem yz65 {A C:List (Nat×List Int)} {b:Nat×List Int} {i:Nat} (h:i=A.length):(rwp (A ++ b :: C))[i]?=some (.ro (some (some (b.1+1))) 1 (ints b.2)):=by
 subst h
 rw [rwp,Yc,Yv (by simp)]
 simp
theorem yz5g {A C:List (Nat×List Int)} {X:AVal} {i:Nat} (h:i=A.length):(rwp A ++ X :: rwp C)[i]?=some X:=by
 subst h
 rw [Yv (by rw [yz7];exact Y1h _),yz7];simp
theorem rwp_at {A C:List (Nat×List Int)} {b:Nat×List Int} {i:Nat} (h:i=A.length):(rwp (A ++ b :: C)).getD i .any=.ro (some (some (b.1+1))) 1 (ints b.2):=by
 subst h
 rw [Y0,rwp,Yc,Yv (by simp)]
 simp
theorem yz5l {A C:List (Nat×List Int)} {u:Nat} {xs:List Int}:rwp A ++ (.ro (some (some (u+1))) 1 (ints xs)) :: rwp C=rwp (A ++ (u,xs) :: C):=by simp [rwp]
theorem yz1c {ps:List (Nat×List Int)} {k:Nat} (h:k<ps.length):∃ A b C,ps=A ++ b :: C∧A.length=k :=
 ⟨ps.take k,ps[k],ps.drop (k+1),by rw [← List.drop_eq_getElem_cons h,List.take_append_drop],by rw [Yk];omega⟩
theorem yz7v {hp:Nat→AObj} {r d:Nat} {s:Nat→Nat} {o o1 o2:AObj} (hne:d≠r) (hne2:d+1000≠r) :
  callHp hp [r] d s [o] [o1,o2]=upd (upd (upd hp r (o.ren (rid [r] d 2) (sv hp [r] s))) d (o1.ren (rid [r] d 2) (sv hp [r] s))) (d+1000) (o2.ren (rid [r] d 2) (sv hp [r] s)):=by
 have hnew:∀ i,i<[o1,o2].length→newId d i ∉ [r]:=by
  intro i hi
  have:i=0∨i=1:=by simp at hi;omega
  rcases this with rfl | rfl
  ·simpa [newId] using hne
  ·simpa [newId] using hne2
 funext n
 by_cases h:n=d+1000
 ·have h1:rid [r] d [o1,o2].length 6001=some n:=by rw [h];exact rid1
  rw [yzv (by simp) hnew h1]
  simp [upd,h,outHp]
 ·by_cases h2:n=d
  ·have h1:rid [r] d [o1,o2].length 6000=some n:=by rw [h2];exact rid0
   rw [yzv (by simp) hnew h1]
   have hne3:d≠d+1000:=by omega
   simp [upd,h2,outHp,hne3]
  ·by_cases h':n=r
   ·have h1:rid [r] d [o1,o2].length 5000=some n:=by rw [h'];exact yzad (j:=0) (by omega) rfl
    rw [yzv (by simp) hnew h1]
    simp [upd,h',outHp,Ne.symm hne,Ne.symm hne2]
   ·rw [yze]
    ·simp [upd,h,h2,h']
    ·rintro ⟨q,hq⟩
     rcases yz14 hq with ⟨j,rfl,_,h1⟩ | ⟨i,rfl,h1,h3⟩
     ·cases j with
      | zero=>simp at h1;exact h' h1.symm
      | succ j=>simp at h1
     ·have:i=0∨i=1:=by simp at h1;omega
      rcases this with rfl | rfl
      ·exact h2 (by simpa [newId] using h3)
      ·exact h (by simpa [newId] using h3)
theorem sv_inj {hp:Nat→AObj} {r v:Nat} {s:Nat→Nat} {cs:List AVal} (hr:hp r=.box v cs) (hs:∀ x y,s x=s y→x=y) (hv:∀ y,s y≠v):∀ x y,sv hp [r] s x=sv hp [r] s y→x=y:=by
 intro x y e
 rcases Nat.eq_zero_or_pos x with rfl | hx <;> rcases Nat.eq_zero_or_pos y with rfl | hy
 ·rfl
 ·rw [sv_m hr,sv_new hy] at e;exact absurd e.symm (hv y)
 ·rw [sv_new hx,sv_m hr] at e;exact absurd e (hv x)
 ·rw [sv_new hx,sv_new hy] at e;exact hs _ _ e
structure TwI (n m:Int) (A B:List (Nat×List Int)) (top:Int) (low:Int):Prop where
 a:∀ p∈A,(p.2.length:Int)=m∧∀ x∈p.2,0≤x∧x<top
 b:∀ p∈B,(p.2.length:Int)=n∧∀ x∈p.2,0≤x∧x<low
end Go.Ab
