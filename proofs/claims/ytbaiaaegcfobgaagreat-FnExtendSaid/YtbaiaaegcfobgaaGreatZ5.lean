/- Contracts and what they lean on, part 5. Conditions: none. -/
import Derived.IntWalk
import Derived.ChangeArms
import Derived.ChangeSlices
import Derived.Below
import Derived.Carry
import Derived.ChangeOld
import Derived.OpenShut
import Derived.ChangeCalls
import Derived.RowKit
import Derived.Sort.Grow
import Derived.Shelf.SlGeneric
import Derived.Shelf.SortG.Plain
import Derived.Shelf.SortG.SortNone
import Derived.Ground.SlgnProg
import Derived.Shelf.SlicesG.CompactI
import Derived.Shelf.SlicesE.Delete
import Derived.Test.YtbaiaaegcfobgaaGreatProg
import Derived.Test.YtbaiaaegcfobgaaGreatZ4
set_option maxRecDepth 100000
set_option maxHeartbeats 4000000
set_option linter.all false
open Nat renaming reduceLeDiff → J0, reduceMul → J1, reduceSub → J2, reduceEqDiff → J3, reduceAdd → J4, reduceLT → J5
open Int renaming reduceToNat → J6, reduceNeg → J7, reduceLE → J8, reduceLT → J9
open List renaming getD_eq_getElem?_getD → Y0, map_cons → Y1, getElem?_eq_getElem → Y2, mem_map → Y3, mem_append → Y4, length_append → Y5, length_map → Y6, length_singleton → Y7, mem_cons → Y8, mem_singleton → Y9, range → Ya, map_nil → Yb, map_append → Yc, getElem?_map → Yd, length_cons → Ye, length → Yf, map_congr_left → Yg, eq_nil_of_length_eq_zero → Yh, not_mem_nil → Yi, map_map → Yj, length_take → Yk, replicate → Yl, mem_range → Ym, getElem?_eq_some_iff → Yn, all_eq_true → Yo, length_drop → Yp, getElem_map → Yq, getElem?_take → Yr, foldl_cons → Ys, mem_cons_of_mem → Yt, cons_append → Yu, getElem?_append_right → Yv, mem_of_getElem? → Yw, pairwise_cons → Yx, getElem_mem → Yy, mem_flatMap → Yz, getElem?_append_left → Y10, take_length → Y11, pairwise_append → Y12, append_assoc → Y13, drop_length → Y14, getElem?_drop → Y15, nodup_cons → Y16, length_nil → Y17, ext_getElem → Y18, nodup_append → Y19, take_succ_eq_append_getElem → Y1a, getElem_of_mem → Y1b, getElem?_eq_none → Y1c, mem_of_mem_take → Y1d, contains_iff_mem → Y1e, filter_cons_of_pos → Y1f, pairwise_iff_getElem → Y1g
open Nat renaming le_refl → Y1h, lt_of_lt_of_le → Y1i, zero_le → Y1j, pow_le_pow_right → Y1k, sub_self → Y1l, le_trans → Y1m, add_mul → Y1n, zero_add → Y1o, add_zero → Y1p, mul_le_mul_right → Y1q, two_pow_pos → Y1r, shiftRight_eq_div_pow → Y1s
open Int renaming toNat_natCast → Y1t, le_refl → Y1u
open Option renaming isSome_some → Y1v, map_eq_some_iff → Y1w, getD_some → Y1x, isSome_iff_exists → Y1y, map_some → Y1z
open Bool renaming and_eq_true → Y20, not_true → Y21, or_eq_true → Y22, false_eq_true → Y23, not_eq_true' → Y24
open Array renaming length_toList → Y25, getElem?_toList → Y26, getElem?_eq_getElem → Y27, getD_eq_getD_getElem? → Y28, getElem?_append_left → Y29
namespace Go.Ab
def wpD (P:Program):AC→(AEx→St→Prop)→St→Prop
 | .skip,Q,σ=>Q .normal σ
 | .reg draw ops,Q,σ=>∀ vs,Ab.wpOps (!draw) (wpCk P draw) vs 0 ops σ (Q .normal)
 | .kp ts hs a,Q,σ=>wpD P a Q (σ.keep ts hs)
 | .regi draw ops,Q,σ=>∀ vs U,New vs U σ→Ab.wpOps (!draw) (wpCk P draw) vs 0 ops σ (Q .normal)
 | .gh a,Q,σ=>σ.Dist→∃ gs,gwp gs (fun σ'=>wpD P a Q σ') σ
 | .mv x y a,Q,σ=>∀ m,wpD P a Q (σ.mv x y m)
 | .dn a,Q,σ=>wpD P a Q σ.dn
 | .ad b off r k a,Q,σ=>∀ ver,wpD P a Q (σ.adopt b off r k ver)
 | .seq a b,Q,σ=>wpD P a (fun e σ'=>match e with | .normal=>wpD P b Q σ' | e=>Q e σ') σ
 | .cond c a b,Q,σ=>match σ.ev c with
  | .val (.bool t)=>(t=true→wpD P a Q σ)∧(t=false→wpD P b Q σ)
  | _=>False
 | .block id a,Q,σ=>wpD P a (fun e σ'=>match e with | .exit i=>if i=id then Q .normal σ' else Q (.exit i) σ' | e=>Q e σ') σ
 | .loop a,Q,σ=>∃ I:Nat→St→Prop,(∃ n,I n σ)∧∀ n σ',I n σ'→wpD P a (fun e σ''=>match e with | .normal=>∃ k,k<n∧I k σ'' | e=>Q e σ'') σ'
 | .exit id,Q,σ=>Q (.exit id) σ
 | .ret,Q,σ=>Q .ret σ
 | .stuck,_,_=>False
theorem yz2c {P:Program} {fa pu:Bool} {vs:Nat→Nat→Nat} {K K':St→Prop} (h:∀ σ,K σ→K' σ):∀ (ops:List AOp) (i:Nat) (σ:St),Ab.wpOps fa (wpCk P pu) vs i ops σ K→Ab.wpOps fa (wpCk P pu) vs i ops σ K'
 | [],_,_,hh=>h _ hh
 | _ :: ops,i,_,hh=>yz4v (fun σ'=>yz2c h ops (i+1) σ') hh
theorem yzk {P:Program}:∀ (a:AC) (Q Q':AEx→St→Prop) (σ:St),(∀ e σ,Q e σ→Q' e σ)→wpD P a Q σ→wpC P a Q' σ
 | .skip,_,_,_,hq,h=>hq _ _ h
 | .reg draw ops,_,_,_,hq,h=>fun vs _ _=>yz2c (hq _) ops 0 _ (h vs)
 | .kp ts hs a,Q,Q',σ,hq,h=>yzk a Q Q' _ hq h
 | .regi draw ops,_,_,_,hq,h=>fun vs U hN=>yz2c (hq _) ops 0 _ (h vs U hN)
 | .gh a,Q,Q',σ,hq,h=>fun hd=>by
  obtain ⟨gs,hg⟩:=h hd
  exact ⟨gs,yz1o (fun σ' h'=>yzk a Q Q' σ' hq h') gs σ hg⟩
 | .mv x y a,Q,Q',σ,hq,h=>fun m=>yzk a Q Q' _ hq (h m)
 | .dn a,Q,Q',σ,hq,h=>yzk a Q Q' _ hq h
 | .ad b off r k a,Q,Q',σ,hq,h=>fun ver=>yzk a Q Q' _ hq (h ver)
 | .seq a b,Q,Q',σ,hq,h=>by
  refine yzk a _ _ σ (fun e σ' he=>?_) h
  cases e with
  | normal=>exact yzk b Q Q' σ' hq he
  | _=>exact hq _ _ he
 | .cond c a b,Q,Q',σ,hq,h=>by
  simp only [wpD,wpC] at h ⊢
  split at h
  ·rename_i t ht
   simp only [ht]
   exact ⟨fun e=>yzk a Q Q' σ hq (h.1 e),fun e=>yzk b Q Q' σ hq (h.2 e)⟩
  ·exact h.elim
 | .block id a,Q,Q',σ,hq,h=>by
  refine yzk a _ _ σ (fun e σ' he=>?_) h
  cases e with
  | exit i =>
   simp only [] at he ⊢
   split
   ·rename_i hi;rw [if_pos hi] at he;exact hq _ _ he
   ·rename_i hi;rw [if_neg hi] at he;exact hq _ _ he
  | _=>exact hq _ _ he
 | .loop a,Q,Q',σ,hq,h=>by
  simp only [wpD,wpC] at h ⊢
  obtain ⟨I,h0,h1⟩:=h
  refine ⟨I,h0,fun n σ' hI=>yzk a _ _ σ' (fun e σ'' he=>?_) (h1 n σ' hI)⟩
  cases e with
  | normal=>exact he
  | _=>exact hq _ _ he
 | .exit id,_,_,_,hq,h=>hq _ _ h
 | .ret,_,_,_,hq,h=>hq _ _ h
 | .stuck,_,_,_,_,h=>h.elim
theorem yzl {P:Program}:∀ (a:AC) (Q Q':AEx→St→Prop) (σ:St),(∀ e σ,Q e σ→Q' e σ)→wpD P a Q σ→wpD P a Q' σ
 | .skip,_,_,_,hq,h=>hq _ _ h
 | .reg draw ops,_,_,_,hq,h=>fun vs=>yz2c (hq _) ops 0 _ (h vs)
 | .kp ts hs a,Q,Q',σ,hq,h=>yzl a Q Q' _ hq h
 | .regi draw ops,_,_,_,hq,h=>fun vs U hN=>yz2c (hq _) ops 0 _ (h vs U hN)
 | .gh a,Q,Q',σ,hq,h=>fun hd=>by
  obtain ⟨gs,hg⟩:=h hd
  exact ⟨gs,yz1o (fun σ' h'=>yzl a Q Q' σ' hq h') gs σ hg⟩
 | .mv x y a,Q,Q',σ,hq,h=>fun m=>yzl a Q Q' _ hq (h m)
 | .dn a,Q,Q',σ,hq,h=>yzl a Q Q' _ hq h
 | .ad b off r k a,Q,Q',σ,hq,h=>fun ver=>yzl a Q Q' _ hq (h ver)
 | .seq a b,Q,Q',σ,hq,h=>by
  refine yzl a _ _ σ (fun e σ' he=>?_) h
  cases e with
  | normal=>exact yzl b Q Q' σ' hq he
  | _=>exact hq _ _ he
 | .cond c a b,Q,Q',σ,hq,h=>by
  simp only [wpD] at h ⊢
  split at h
  ·rename_i t ht
   try simp only [ht]
   exact ⟨fun e=>yzl a Q Q' σ hq (h.1 e),fun e=>yzl b Q Q' σ hq (h.2 e)⟩
  ·exact h.elim
 | .block id a,Q,Q',σ,hq,h=>by
  refine yzl a _ _ σ (fun e σ' he=>?_) h
  cases e with
  | exit i =>
   simp only [] at he ⊢
   split
   ·rename_i hi;rw [if_pos hi] at he;exact hq _ _ he
   ·rename_i hi;rw [if_neg hi] at he;exact hq _ _ he
  | _=>exact hq _ _ he
 | .loop a,Q,Q',σ,hq,h=>by
  simp only [wpD] at h ⊢
  obtain ⟨I,h0,h1⟩:=h
  refine ⟨I,h0,fun n σ' hI=>yzl a _ _ σ' (fun e σ'' he=>?_) (h1 n σ' hI)⟩
  cases e with
  | normal=>exact he
  | _=>exact hq _ _ he
 | .exit id,_,_,_,hq,h=>hq _ _ h
 | .ret,_,_,_,hq,h=>hq _ _ h
 | .stuck,_,_,_,_,h=>h.elim
def AVal.plain:AVal→Prop
 | .val _=>True
 | .tup cs=>∀ A∈cs,∃ v,A=.val v
 | _=>False
def Fun (P:Program) (g:FuncId) (args:List AVal) (v:AVal):Prop:=Con P g [] args false fun outs rows res=>outs=[]∧rows=[]∧res=v
theorem fun_of_wp {P:Program} {g:FuncId} {F:AFn} (hm:P.follows .mixedOrders=true) {no:Option (List Nat×List FuncId)} (hF:cFn (drV no) P g F) {args:List AVal} {v:AVal} (hargs:args.length=F.nparams)
  (hv:v.ren (expo []) id=v∧v.fresh)
  (h:wpD P F.code (fun e σ=>match e with | .exit _=>False | _=>(∀ x∈F.res,σ.there x)∧σ.value F.res=v) (St.init args [])):Fun P g args v:=by
 refine yz3w (yza7 hm) hF hargs (by simp) (yzk _ _ _ _ (fun e σ he=>?_) h)
 have:(∀ x∈F.res,σ.there x)∧σ.value F.res=v→∃ ids,Ret 0 false ids (fun outs rows res=>outs=[]∧rows=[]∧res=v) F.res σ:=by
  rintro ⟨h1,h2⟩
  refine ⟨[],h1,⟨rfl,rfl,by rw [h2];exact hv.1⟩,by omega,by simp,by simp,by simp,fun _=>⟨by rw [h2];exact hv.2,by simp,fun j hj=>by omega⟩⟩
 cases e with
 | exit _=>exact he
 | normal=>exact this he
 | ret=>exact this he
theorem yz8d {hp:Nat→AObj} {d:Nat} {s:Nat→Nat}:callHp hp [] d s [] []=hp:=by
 funext n
 refine yze ?_
 rintro ⟨q,hq⟩
 obtain ⟨i,hi,_⟩:=yz5t hq
 simp at hi
theorem yz5 {P:Program} {pu:Bool} {σ:St} {g:FuncId} {As args:List AVal} {v:AVal} {d:Option Nat} {s:Nat→Nat} {K:St→Prop} (h:Fun P g args v) (hco:CoeL σ.hp [] true args As)
  (hv:v.plain) (hk:K (St.put σ d v)):wpCall P pu σ g As d s K:=by
 refine .inl ⟨[],[],args,false,_,h,⟨by simp,rfl,by simp,by simp,by simp⟩,hco,fun _=>⟨rfl,[],[],v,rfl,rfl,rfl⟩,?_⟩
 rintro outs rows res ⟨rfl,rfl,rfl⟩
 refine ⟨rfl,by simp,by simp,?_⟩
 rw [yz8d]
 have:res.ren (rid [] (d.getD 0) 0) (sv σ.hp [] s)=res:=by
  cases res with
  | val x=>rfl
  | tup cs =>
   simp only [AVal.ren]
   congr 1
   have hv':∀ A∈cs,∃ v,A=.val v:=hv
   clear hv
   clear hk h
   induction cs with
   | nil=>simp [renL]
   | cons A cs ih =>
    obtain ⟨x,rfl⟩:=hv' A (by simp)
    simp only [renL,AVal.ren]
    rw [ih fun A hA=>hv' A (Yt _ hA)]
  | _=>exact hv.elim
 exact (congrArg (fun z=>K (St.put σ d z)) this).mpr hk
theorem wpD_loop {P:Program} {α:Type} {ts hs:List Nat} {a:AC} {Q:AEx→St→Prop} {σ:St} (m:α→Nat) (inv:α→Prop) (S:α→St) (x0:α) (h0:inv x0) (hS:σ.keep ts hs=S x0)
  (h:∀ x,inv x→wpD P a (fun e σ'=>match e with | .normal=>∃ y,m y<m x∧inv y∧σ'.keep ts hs=S y | e=>Q e σ') (S x)):wpD P (.loop (.kp ts hs a)) Q σ:=by
 refine ⟨fun n σ=>∃ x,m x=n∧inv x∧σ.keep ts hs=S x,⟨m x0,x0,rfl,h0,hS⟩,?_⟩
 rintro n σ' ⟨x,rfl,hx,hS⟩
 show wpD P a _ (σ'.keep ts hs)
 rw [hS]
 refine yzl _ _ _ _ (fun e σ'' he=>?_) (h x hx)
 cases e with
 | normal =>
  obtain ⟨y,h1,h2,h3⟩:=he
  exact ⟨m y,h1,y,rfl,h2,h3⟩
 | exit i=>exact he
 | ret=>exact he
def seqQ (W:(AEx→St→Prop)→St→Prop) (Q:AEx→St→Prop):AEx→St→Prop
 | .normal,σ=>W Q σ
 | .exit i,σ=>Q (.exit i) σ
 | .ret,σ=>Q .ret σ
def blockQ (id:Nat) (Q:AEx→St→Prop):AEx→St→Prop
 | .normal,σ=>Q .normal σ
 | .exit i,σ=>if i=id then Q .normal σ else Q (.exit i) σ
 | .ret,σ=>Q .ret σ
def loopQ (N:St→Prop) (Q:AEx→St→Prop):AEx→St→Prop
 | .normal,σ=>N σ
 | .exit i,σ=>Q (.exit i) σ
 | .ret,σ=>Q .ret σ
def finQ (N:St→Prop):AEx→St→Prop
 | .exit _,_=>False
 | .normal,σ=>N σ
 | .ret,σ=>N σ
section
variable {P:Program} {Q:AEx→St→Prop} {σ:St} {W:(AEx→St→Prop)→St→Prop} {N:St→Prop} {a b:AC}
theorem seqQ_n:seqQ W Q .normal σ=W Q σ:=rfl
theorem seqQ_e {i:Nat}:seqQ W Q (.exit i) σ=Q (.exit i) σ:=rfl
theorem seqQ_r:seqQ W Q .ret σ=Q .ret σ:=rfl
theorem blockQ_n {id:Nat}:blockQ id Q .normal σ=Q .normal σ:=rfl
theorem blockQ_e {id i:Nat}:blockQ id Q (.exit i) σ=if i=id then Q .normal σ else Q (.exit i) σ:=rfl
theorem blockQ_r {id:Nat}:blockQ id Q .ret σ=Q .ret σ:=rfl
theorem loopQ_n:loopQ N Q .normal σ=N σ:=rfl
theorem loopQ_e {i:Nat}:loopQ N Q (.exit i) σ=Q (.exit i) σ:=rfl
theorem loopQ_r:loopQ N Q .ret σ=Q .ret σ:=rfl
theorem finQ_n:finQ N .normal σ=N σ:=rfl
theorem finQ_e {i:Nat}:finQ N (.exit i) σ=False:=rfl
theorem finQ_r:finQ N .ret σ=N σ:=rfl
theorem wpD_skip:wpD P .skip Q σ=Q .normal σ:=rfl
theorem wpD_reg {draw:Bool} {ops:List AOp}:wpD P (.reg draw ops) Q σ=∀ vs,Ab.wpOps (!draw) (wpCk P draw) vs 0 ops σ (Q .normal):=rfl
theorem yz2 {ts hs:List Nat}:wpD P (.kp ts hs a) Q σ=wpD P a Q (σ.keep ts hs):=rfl
theorem yzr:wpD P (.gh a) Q σ=(σ.Dist→∃ gs,gwp gs (fun σ'=>wpD P a Q σ') σ):=rfl
theorem yz1 {draw:Bool} {ops:List AOp}:wpD P (.regi draw ops) Q σ=∀ vs U,New vs U σ→Ab.wpOps (!draw) (wpCk P draw) vs 0 ops σ (Q .normal):=rfl
theorem wpD_ad {x off r k:Nat}:wpD P (.ad x off r k a) Q σ=∀ ver,wpD P a Q (σ.adopt x off r k ver):=rfl
theorem wpD_seq:wpD P (.seq a b) Q σ=wpD P a (seqQ (wpD P b) Q) σ:=by
 show wpD P a _ σ=_
 congr 1
 funext e σ'
 cases e <;> rfl
theorem wpD_block {id:Nat}:wpD P (.block id a) Q σ=wpD P a (blockQ id Q) σ:=by
 show wpD P a _ σ=_
 congr 1
 funext e σ'
 cases e <;> rfl
theorem wpD_exit {i:Nat}:wpD P (.exit i) Q σ=Q (.exit i) σ:=rfl
theorem wpD_ret:wpD P .ret Q σ=Q .ret σ:=rfl
theorem wpD_stuck:wpD P .stuck Q σ=False:=rfl
theorem yz16 {α:Type} {ts hs:List Nat} (m:α→Nat) (inv:α→Prop) (S:α→St) (x0:α) (h0:inv x0) (hS:σ.keep ts hs=S x0)
  (h:∀ x,inv x→wpD P a (loopQ (fun σ'=>∃ y,m y<m x∧inv y∧σ'.keep ts hs=S y) Q) (S x)):wpD P (.loop (.kp ts hs a)) Q σ:=by
 refine wpD_loop m inv S x0 h0 hS fun x hx=>yzl _ _ _ _ (fun e σ' he=>?_) (h x hx)
 cases e <;> exact he
theorem yzd {g:FuncId} {F:AFn} (hm:P.follows .mixedOrders=true) {no:Option (List Nat×List FuncId)} (hF:cFn (drV no) P g F) {args:List AVal} {v:AVal} (hargs:args.length=F.nparams)
  (hv:v.ren (expo []) id=v∧v.fresh) (h:wpD P F.code (finQ fun σ=>(∀ x∈F.res,σ.there x)∧σ.value F.res=v) (St.init args [])):Fun P g args v:=by
 refine fun_of_wp hm hF hargs hv (yzl _ _ _ _ (fun e σ he=>?_) h)
 cases e <;> exact he
end
theorem put_L {l:List (Nat×AVal)} {hp:Nat→AObj} {d:Nat} {A:AVal}:St.put ⟨L .any l,hp⟩ (some d) A=⟨L .any ((d,A) :: l),hp⟩:=rfl
theorem L_hit {α:Type} {z a:α} {k:Nat} {l:List (Nat×α)}:L z ((k,a) :: l) k=a:=by simp [L]
theorem L_miss {α:Type} {z a:α} {k n:Nat} {l:List (Nat×α)} (h:n≠k):L z ((k,a) :: l) n=L z l n:=by simp [L,h]
theorem L_nil {α:Type} {z:α} {n:Nat}:L z ([]:List (Nat×α)) n=z:=rfl
theorem put_none {σ:St} {A:AVal}:St.put σ none A=σ:=rfl
end Go.Ab
namespace Go.Ab
abbrev iv (n:Int):AVal:=.val (.int .i64 n)
abbrev bv (b:Bool):AVal:=.val (.bool b)
abbrev ints (xs:List Int):List AVal:=xs.map fun x=>.val (.int .i64 x)
theorem w64 {n:Int} (h:-9223372036854775808≤n∧n≤9223372036854775807):IntKind.i64.wrap n=n:=IntWalk.i64_in n h
theorem yzc:maxLen≤9223372036854775807:=by decide
theorem i2n (i:Nat):((i:Int)).toNat=i:=by simp
end Go.Ab
namespace Go.Ab
theorem upd_L {l:List (Nat×AObj)} {d:Nat} {o:AObj}:upd (L .gone l) d o=L .gone ((d,o) :: l):=rfl
def goneL (hp:Nat→AObj):List Nat→Nat→AObj
 | []=>hp
 | r :: rs=>upd (goneL hp rs) r .gone
theorem goneL_nil {hp:Nat→AObj}:goneL hp []=hp:=rfl
theorem yz74 {hp:Nat→AObj} {r:Nat} {rs:List Nat}:goneL hp (r :: rs)=upd (goneL hp rs) r .gone:=rfl
theorem yzdn {hp:Nat→AObj}:∀ (rs:List Nat),(fun n=>if n∈rs then .gone else hp n)=goneL hp rs
 | []=>by funext n;simp [goneL]
 | r :: rs=>by
  rw [yz74,← yzdn rs]
  funext n
  unfold upd
  by_cases h:n=r
  ·subst h;simp
  ·simp [h]
def AI.hq (σ:St) (ver:Nat) (d:Nat):AI→Nat→AObj
 | .box x=>upd σ.hp d (.box ver (σ.ev x).cells)
 | .new z=>upd σ.hp d (.box ver (z.map .val))
 | .bsl k _ xs=>upd (goneL σ.hp (owned (xs.flatMap fun x=>(σ.ev x).cells))) d (.row ver k true ((xs.flatMap fun x=>(σ.ev x).cells).map (frz σ.hp)))
 | .bsln _ k xs=>upd (goneL σ.hp (owned (xs.flatMap fun x=>(σ.ev x).cells))) d (.row ver k true ((xs.flatMap fun x=>(σ.ev x).cells).map (frz σ.hp)))
 | .bslm _ k xs=>upd (goneL σ.hp (owned (xs.flatMap fun x=>(σ.ev x).cells))) d (.row ver k true ((xs.flatMap fun x=>(σ.ev x).cells).map (frz σ.hp)))
 | .ston _ _ x v=>match σ.ev x with
  | .ptr r _ off=>(match σ.hp r with
   | .box ver' cs=>upd σ.hp r (.box ver' (putAt cs off (σ.ev v).cells))
   | _=>σ.hp)
  | _=>σ.hp
 | .appn _ k _ s x=>match σ.ev s with
  | .own r _=>(match σ.hp r with
   | .row _ _ nn cs=>upd σ.hp r (.row ver k (nn || decide ((σ.slc (σ.ev x)).length≠0)) (cs ++ σ.slc (σ.ev x)))
   | _=>σ.hp)
  | _=>σ.hp
 | .sto _ x v=>match σ.ev x with
  | .ptr r _ off=>(match σ.hp r with
   | .box ver' cs=>upd σ.hp r (.box ver' (putAt cs off (σ.ev v).cells))
   | .row ver' k nn cs=>upd (goneL σ.hp (owned (σ.ev v).cells)) r (.row ver' k nn (putAt cs off ((σ.ev v).cells.map (frz σ.hp))))
   | _=>σ.hp)
  | _=>σ.hp
 | .app k _ s x=>match σ.ev s with
  | .own r _=>(match σ.hp r with
   | .row _ _ nn cs=>upd σ.hp r (.row ver k (nn || decide ((σ.slc (σ.ev x)).length≠0)) (cs ++ σ.slc (σ.ev x)))
   | _=>σ.hp)
  | _=>if (σ.slc (σ.ev x)).length=0 then σ.hp else upd σ.hp d (.row ver k true (σ.slc (σ.ev x)))
 | .mks k _ z l _=>match σ.ev l with
  | .val (.int _ n)=>upd σ.hp d (.row ver k true (Yl n.toNat (z.map .val)).flatten)
  | _=>σ.hp
 | .slc k x lo hi=>match σ.ev x with
  | .own r _=>(match σ.hp r with
   | .row _ _ nn cs=>(match σ.bound 0 lo,σ.bound (cs.length / k) hi with | some l,some h=>upd σ.hp r (.row ver k nn ((cs.take (h * k)).drop (l * k))) | _,_=>σ.hp)
   | _=>σ.hp)
  | _=>σ.hp
 | .slc0 k x=>upd σ.hp d (.row ver k (σ.nn (σ.ev x)) [])
 | .mkm=>upd σ.hp d (.map ver [] [])
 | .mup _ x i v=>match σ.ev x,(σ.ev i).keyV with
  | .mp r _,.val k=>(match σ.hp r with
   | .map ver' ks vs=>(match findKeyAt k ks 0 with
    | some (some j)=>upd (goneL σ.hp (owned [σ.ev v])) r (.map ver' ks (vs.set j (frz σ.hp (σ.ev v))))
    | _=>upd (goneL σ.hp (owned [σ.ev v])) r (.map ver' (ks ++ [k]) (vs ++ [frz σ.hp (σ.ev v)])))
   | _=>σ.hp)
  | _,_=>σ.hp
 | _=>σ.hp
theorem yz3i {hp:Nat→AObj} {r:Nat} {o:AObj} {rs:List Nat}:(fun n=>if n=r then o else if n∈rs then .gone else hp n)=upd (goneL hp rs) r o:=by
 rw [← yzdn];rfl
theorem hpw_eq (σ:St) (ver d:Nat) (x:AI):x.hpw σ ver d=x.hq σ ver d:=by
 cases x with
 | bsl k fz xs=>exact yz3i
 | bsln nos k xs=>exact yz3i
 | bslm nos k xs=>exact yz3i
 | sto n x v =>
  simp only [AI.hpw,AI.hq]
  cases hx:σ.ev x with
  | ptr r v' off =>
   simp only []
   cases hr:σ.hp r with
   | row v k nn cs=>exact yz3i
   | _=>rfl
  | _=>rfl
 | mup kd x i v =>
  simp only [AI.hpw,AI.hq]
  cases hx:σ.ev x with
  | mp r v' =>
   cases hi:(σ.ev i).keyV with
   | val k =>
    simp only []
    cases hr:σ.hp r with
    | map v ks vs =>
     simp only []
     cases hk:findKeyAt k ks 0 with
     | none=>exact yz3i
     | some q=>cases q <;> exact yz3i
    | _=>rfl
   | _=>rfl
  | _=>rfl
 | _=>rfl
mutual
def AVal.flat:AVal→Prop
 | .any=>True
 | .val _=>True
 | .ro nm _ cs=>(nm=none∨nm=some none∨nm=some (some 0))∧flatL cs
 | .own _ _=>False
 | .st cs=>flatL cs
 | .tup cs=>flatL cs
 | .ptr _ _ _=>False
 | .rp cs _=>flatL cs
 | .mp _ _=>False
 | .clo _ cs=>flatL cs
def flatL:List AVal→Prop
 | []=>True
 | A :: cs=>A.flat∧flatL cs
end
mutual
theorem ren_flat {f:Nat→Option Nat} {s:Nat→Nat}:∀ (A:AVal),A.flat→A.ren f s=A
 | .any,_=>by simp only [AVal.ren]
 | .val _,_=>by simp only [AVal.ren]
 | .ro nm k cs,h=>by
  simp only [AVal.flat] at h
  obtain ⟨rfl | rfl | rfl,h⟩:=h <;> simp only [AVal.ren,yzq cs h,rnNm]
 | .own _ _,h=>by simp only [AVal.flat] at h
 | .st cs,h=>by simp only [AVal.flat] at h;simp only [AVal.ren,yzq cs h]
 | .tup cs,h=>by simp only [AVal.flat] at h;simp only [AVal.ren,yzq cs h]
 | .ptr _ _ _,h=>by simp only [AVal.flat] at h
 | .rp cs _,h=>by simp only [AVal.flat] at h;simp only [AVal.ren,yzq cs h]
 | .mp _ _,h=>by simp only [AVal.flat] at h
 | .clo _ cs,h=>by simp only [AVal.flat] at h;simp only [AVal.ren,yzq cs h]
theorem yzq {f:Nat→Option Nat} {s:Nat→Nat}:∀ (cs:List AVal),flatL cs→renL f s cs=cs
 | [],_=>by simp only [renL]
 | A :: cs,h=>by
  simp only [flatL] at h
  simp only [renL,ren_flat A h.1,yzq cs h.2]
end
theorem yze0 {cs:List AVal} (h:∀ A∈cs,∃ x,A=.val x):freshL cs:=(yz4l cs).2 fun A hA=>by obtain ⟨x,rfl⟩:=h A hA;simp [AVal.fresh]
theorem yz13:∀ {cs:List AVal},(∀ A∈cs,∃ x,A=.val x)→flatL cs
 | [],_=>by simp [flatL]
 | A :: cs,h=>by
  obtain ⟨x,hx⟩:=h A (by simp)
  subst hx
  simp only [flatL,AVal.flat,true_and]
  exact yz13 fun B hB=>h B (by simp [hB])
theorem ev_t {σ:St} {n:Nat}:St.ev σ (.t n)=σ.tm n:=rfl
theorem ev_c {σ:St} {v:Value}:St.ev σ (.c v)=.val v:=rfl
theorem ev_f {σ:St} {g:FuncId}:St.ev σ (.f g)=.clo g []:=rfl
theorem frz_ints {hp:Nat→AObj} {xs:List Int}:(ints xs).map (frz hp)=ints xs:=by simp [ints,frz]
theorem one_ints {hp:Nat→AObj} {xs:List Int}:(∀ A∈ints xs,One hp A)=True:=by
 refine eq_true ?_
 intro A hA
 simp only [ints,Y3] at hA
 obtain ⟨x,_,rfl⟩:=hA
 rfl
theorem yzfn {xs:List Int}:owned (ints xs)=[]:=by
 induction xs with
 | nil=>rfl
 | cons x xs ih=>exact ih
def itT {α:Type} (cur:Bool) (l:List α):List α:=if cur then l.tail else l
theorem itT_t {α:Type} {a:α} {l:List α}:itT true (a :: l)=l:=rfl
theorem itT_f {α:Type} {l:List α}:itT false l=l:=rfl
theorem wpIt_0 {ver d:Nat} {σ:St} {K:St→Prop} {r v:Nat}:wpIt ver (some d) σ K 0 (.mp r v)=(match σ.hp r with
  | .map v' ks vs=>v'=v∧σ.hp d=.gone∧K (St.put ⟨σ.tm,upd (upd σ.hp r .gone) d (.it ver (some (false,ks,vs)))⟩ (some d) (.own d ver))
  | _=>False):=rfl
theorem wpIt_1 {ver:Nat} {d:Option Nat} {σ:St} {K:St→Prop} {r v:Nat}:wpIt ver d σ K 1 (.own r v)=(match σ.hp r with
  | .it v' (some (cur,ks,vs))=>v'=v∧(itT cur ks=[]→K (σ.put d (.tup [.val (.bool false)]))) ∧
   ∀ (j:Nat) (k:Value) (A:AVal),(itT cur ks)[j]?=some k→(itT cur vs)[j]?=some A →
    K (St.put ⟨σ.tm,upd σ.hp r (.it v (some (true,k :: (itT cur ks).eraseIdx j,A :: (itT cur vs).eraseIdx j)))⟩ d (.tup [.val (.bool true),.val k,A]))
  | _=>False):=rfl
theorem wpIt_2 {ver:Nat} {d:Option Nat} {σ:St} {K:St→Prop} {r v:Nat}:wpIt ver d σ K 2 (.own r v)=(match σ.hp r with
  | .it v' (some (true,k :: _,A :: _))=>v'=v∧K (σ.put d (.tup [.val k,A]))
  | _=>False):=rfl
theorem odn_it {v:Nat} {d:Option (Bool×List Value×List AVal)}:AObj.dn (.it v d)=.it v (itd dnL d):=rfl
theorem upd_hit {hp:Nat→AObj} {d:Nat} {o:AObj}:upd hp d o d=o:=by simp [upd]
theorem one_iv {hp:Nat→AObj} {k:IntKind} {n:Int}:One hp (.val (.int k n))=True:=by simp [One,Value.oneCell']
theorem one_bv {hp:Nat→AObj} {b:Bool}:One hp (.val (.bool b))=True:=by simp [One,Value.oneCell']
theorem one_str {hp:Nat→AObj} {b:ByteArray}:One hp (.val (.string b))=True:=by simp [One,Value.oneCell']
theorem one_nil {hp:Nat→AObj}:One hp (.val (.slice none 0 0))=True:=by simp [One,Value.oneCell']
theorem one_ro {hp:Nat→AObj} {nm:Option (Option Nat)} {k:Nat} {cs:List AVal}:One hp (.ro nm k cs)=True:=by simp [One]
theorem ints_app {xs ys:List Int}:ints xs ++ ints ys=ints (xs ++ ys):=by simp [ints]
theorem ints_rep {n:Nat} {x:Int}:(Yl n [AVal.val (.int .i64 x)]).flatten=ints (Yl n x):=by
 induction n with
 | zero=>rfl
 | succ n ih=>rw [List.replicate_succ,List.replicate_succ,List.flatten_cons,ih];rfl
theorem yz2x {hp:Nat→AObj} {d:Nat} {s:Nat→Nat} {o:AObj}:callHp hp [] d s [] [o]=upd hp d (o.ren (rid [] d 1) s):=by
 funext n
 by_cases h:n=d
 ·have h1:rid [] d [o].length 6000=some n:=by
   have:=yzaz (m:=[]) (d:=d) (nr:=1) (i:=0) (by omega)
   simpa [newId,h] using this
  rw [yzv (by simp) (by simp) h1,yz5e]
  simp [upd,h,outHp]
 ·rw [yze]
  ·simp [upd,h]
  ·rintro ⟨q,hq⟩
   obtain ⟨i,hi,e⟩:=yz5t hq
   simp at hi
   subst hi
   exact h (by simpa [newId] using e)
end Go.Ab
namespace Go.Ab
abbrev intsK (k:IntKind) (xs:List Int):List AVal:=xs.map fun x=>.val (.int k x)
def rws (xss:List (List Int)):List AVal:=xss.map fun xs=>.ro (some none) 1 (ints xs)
def rwn (xss:List (List Int)):List AVal:=xss.map fun xs=>.ro none 1 (ints xs)
def pickT (f:Nat→AVal):List Nat→List (Nat×AVal)
 | []=>[]
 | k :: ks=>(k,(f k).dn) :: pickT f ks
def pickO (f:Nat→AObj):List Nat→List (Nat×AObj)
 | []=>[]
 | k :: ks=>match f k with
  | .gone=>pickO f ks
  | o=>(k,o.dn) :: pickO f ks
def St.kd (σ:St) (ts hs:List Nat):St:=⟨L .any (pickT σ.tm ts),L .gone (pickO σ.hp hs)⟩
theorem yz0 {h:List (Nat×AObj)} {b r:Nat} {o o':AObj}:(fun n=>if n=b then o else if n=r then o' else L .gone h n)=L .gone ((b,o) :: (r,o') :: h):=rfl
theorem kd_L {l:List (Nat×AVal)} {h:List (Nat×AObj)} {ts hs:List Nat}:St.kd ⟨L .any l,L .gone h⟩ ts hs=⟨L .any (pickT (L .any l) ts),L .gone (pickO (L .gone h) hs)⟩:=rfl
theorem wpOps_nil {fa:Bool} {CK:CM→St→FuncId→List AVal→Option Nat→(Nat→Nat)→(St→Prop)→Prop} {vs:Nat→Nat→Nat} {i:Nat} {σ:St} {K:St→Prop}:Ab.wpOps fa CK vs i [] σ K=K σ:=rfl
theorem wpOps_L {fa:Bool} {CK:CM→St→FuncId→List AVal→Option Nat→(Nat→Nat)→(St→Prop)→Prop} {vs:Nat→Nat→Nat} {i:Nat} {o:AOp} {os:List AOp} {l:List (Nat×AVal)} {h:List (Nat×AObj)} {K:St→Prop} :
  Ab.wpOps fa CK vs i (o :: os) ⟨L .any l,L .gone h⟩ K=Ab.wpOp fa CK (vs i) o ⟨L .any l,L .gone h⟩ (fun σ'=>Ab.wpOps fa CK vs (i+1) os σ' K):=rfl
def grdP (A:AVal) (w:Bool) (f g:Unit→Prop):Prop :=
 match A with
 | .val (.bool b)=>(b=w→f ())∧(b≠w→g ())
 | .val (.tuple _)=>g ()
 | _=>False
def cndP (A:AVal) (f g:Unit→Prop):Prop :=
 match A with
 | .val (.bool t)=>(t=true→f ())∧(t=false→g ())
 | _=>False
@[congr] theorem grdP_congr {A A':AVal} {w:Bool} {f g:Unit→Prop} (h:A=A'):grdP A w f g=grdP A' w f g:=by rw [h]
@[congr] theorem cndP_congr {A A':AVal} {f g:Unit→Prop} (h:A=A'):cndP A f g=cndP A' f g:=by rw [h]
theorem wpOp_n {fa:Bool} {CK:CM→St→FuncId→List AVal→Option Nat→(Nat→Nat)→(St→Prop)→Prop} {s:Nat→Nat} {d:Option Nat} {y:AIns} {σ:St} {K:St→Prop}:Ab.wpOp fa CK s ⟨d,none,y⟩ σ K=Ab.wpIns fa CK s d σ K y:=rfl
theorem wpOp_g {fa:Bool} {CK:CM→St→FuncId→List AVal→Option Nat→(Nat→Nat)→(St→Prop)→Prop} {s:Nat→Nat} {d:Option Nat} {y:AIns} {σ:St} {K:St→Prop} {t:Nat} {w:Bool} :
  Ab.wpOp fa CK s ⟨d,some (t,w),y⟩ σ K=grdP (σ.tm t) w (fun _=>Ab.wpIns fa CK s d σ K y) (fun _=>K (σ.put d (.val (.tuple #[])))):=rfl
theorem grd_tt {f g:Unit→Prop}:grdP (.val (.bool true)) true f g=f ():=by simp [grdP]
theorem grd_ff {f g:Unit→Prop}:grdP (.val (.bool false)) false f g=f ():=by simp [grdP]
theorem grd_tf {f g:Unit→Prop}:grdP (.val (.bool true)) false f g=g ():=by simp [grdP]
theorem grd_ft {f g:Unit→Prop}:grdP (.val (.bool false)) true f g=g ():=by simp [grdP]
theorem grd_u {f g:Unit→Prop} {w:Bool} {x:Array Value}:grdP (.val (.tuple x)) w f g=g ():=rfl
theorem grd_b {f g:Unit→Prop} {w b:Bool}:grdP (.val (.bool b)) w f g=((b=w→f ())∧(b≠w→g ())):=rfl
theorem cnd_t {f g:Unit→Prop}:cndP (.val (.bool true)) f g=f ():=by simp [cndP]
theorem cnd_f {f g:Unit→Prop}:cndP (.val (.bool false)) f g=g ():=by simp [cndP]
theorem cnd_b {f g:Unit→Prop} {b:Bool}:cndP (.val (.bool b)) f g=((b=true→f ())∧(b=false→g ())):=rfl
theorem wpD_condL {P:Program} {Q:AEx→St→Prop} {σ:St} {a b:AC} {c:AOpd}:wpD P (.cond c a b) Q σ=cndP (σ.ev c) (fun _=>wpD P a Q σ) (fun _=>wpD P b Q σ):=rfl
theorem yzef {f:Nat→AVal}:∀ (ks:List Nat) (n:Nat),(L .any (pickL .any f ks) n).dn=L .any (pickT f ks) n
 | [],n=>by simp [pickL,pickT,L,AVal.dn]
 | k :: ks,n=>by
  simp only [pickL,pickT,L]
  by_cases h:n=k
  ·simp [h]
  ·simp only [h,if_false];exact yzef ks n
theorem yz50 {f:Nat→AObj}:∀ (ks:List Nat) (n:Nat),f n=.gone→L .gone (pickO f ks) n=.gone
 | [],n,_=>rfl
 | k :: ks,n,h=>by
  simp only [pickO]
  split
  ·exact yz50 ks n h
  ·rename_i hk
   simp only [L]
   by_cases e:n=k
   ·subst e;exact absurd h hk
   ·rw [if_neg e];exact yz50 ks n h
theorem yz9b {f:Nat→AObj}:∀ (ks:List Nat) (n:Nat),(L .gone (pickL .gone f ks) n).dn=L .gone (pickO f ks) n
 | [],n=>by simp [pickL,pickO,L,AObj.dn]
 | k :: ks,n=>by
  simp only [pickL,pickO,L]
  by_cases h:n=k
  ·subst h
   simp only [if_true]
   split
   ·rename_i e;rw [yz50 ks n e,e];rfl
   ·simp only [L,if_true]
  ·simp only [h,if_false]
   split
   ·exact yz9b ks n
   ·simp only [L,h,if_false];exact yz9b ks n
theorem kd_eq (σ:St) (ts hs:List Nat):(σ.keep ts hs).dn=σ.kd ts hs:=by
 unfold St.keep St.dn St.kd
 congr 1
 ·funext n;exact yzef ts n
 ·funext n;exact yz9b hs n
section
variable {P:Program} {Q:AEx→St→Prop} {σ:St} {a b:AC}
theorem wpD_kpd {ts hs:List Nat}:wpD P (.kp ts hs (.dn a)) Q σ=wpD P a Q (σ.kd ts hs):=by rw [← kd_eq];rfl
theorem wpD_dnret:wpD P (.dn .ret) Q σ=Q .ret σ.dn:=rfl
theorem yzo {α:Type} {ts hs:List Nat} (m:α→Nat) (inv:α→Prop) (S:α→St) (x0:α) (h0:inv x0) (hS:σ.kd ts hs=S x0)
  (h:∀ x,inv x→wpD P a (loopQ (fun σ'=>∃ y,m y<m x∧inv y∧σ'.kd ts hs=S y) Q) (S x)):wpD P (.loop (.kp ts hs (.dn a))) Q σ:=by
 refine ⟨fun n σ=>∃ x,m x=n∧inv x∧σ.kd ts hs=S x,⟨m x0,x0,rfl,h0,hS⟩,?_⟩
 rintro n σ' ⟨x,rfl,hx,hS⟩
 show wpD P a _ (σ'.keep ts hs).dn
 rw [kd_eq,hS]
 refine yzl _ _ _ _ (fun e σ'' he=>?_) (h x hx)
 cases e with
 | normal =>
  obtain ⟨y,h1,h2,h3⟩:=he
  exact ⟨m y,h1,y,rfl,h2,h3⟩
 | exit i=>exact he
 | ret=>exact he
theorem wpD_lm {α:Type} {ts hs:List Nat} {p q:Nat} (m:α→Nat) (inv:α→Prop) (S:α→St) (x0:α) (h0:inv x0) (hS:∀ u,(σ.mv p q u).kd ts hs=S x0)
  (h:∀ x,inv x→wpD P a (loopQ (fun σ'=>∃ k,k<m x∧∀ u,∃ y,m y=k∧inv y∧(σ'.mv p q u).kd ts hs=S y) Q) (S x)):wpD P (.loop (.mv p q (.kp ts hs (.dn a)))) Q σ:=by
 refine ⟨fun n σ=>∀ u,∃ x,m x=n∧inv x∧(σ.mv p q u).kd ts hs=S x,⟨m x0,fun u=>⟨x0,rfl,h0,hS u⟩⟩,?_⟩
 intro n σ' hI u
 obtain ⟨x,rfl,hx,hS⟩:=hI u
 show wpD P a _ ((σ'.mv p q u).keep ts hs).dn
 rw [kd_eq,hS]
 refine yzl _ _ _ _ (fun e σ'' he=>?_) (h x hx)
 cases e with
 | normal =>
  obtain ⟨k,h1,h2⟩:=he
  exact ⟨k,h1,h2⟩
 | exit i=>exact he
 | ret=>exact he
end
def mvT (a v b m:Nat):List (Nat×AVal)→List (Nat×AVal)
 | []=>[]
 | (k,A) :: l=>(k,A.mv a v b m) :: mvT a v b m l
def mvO (a v b m:Nat):List (Nat×AObj)→List (Nat×AObj)
 | []=>[]
 | (k,o) :: l=>(k,o.mv a v b m) :: mvO a v b m l
theorem mvT_eq {a v b m:Nat}:∀ (l:List (Nat×AVal)) (n:Nat),L .any (mvT a v b m l) n=(L .any l n).mv a v b m
 | [],n=>by simp [mvT,L,AVal.mv]
 | (k,A) :: l,n=>by
  simp only [mvT,L]
  split
  ·rfl
  ·exact mvT_eq l n
theorem mvO_eq {a v b m:Nat}:∀ (l:List (Nat×AObj)) (n:Nat),L .gone (mvO a v b m l) n=(L .gone l n).mv a v b m
 | [],n=>by simp [mvO,L,AObj.mv]
 | (k,A) :: l,n=>by
  simp only [mvO,L]
  split
  ·rfl
  ·exact mvO_eq l n
theorem mv_L {l:List (Nat×AVal)} {h:List (Nat×AObj)} {a b m:Nat}:St.mv ⟨L .any l,L .gone h⟩ a b m=match (L .gone h a).ver with
  | none=>⟨L .any l,L .gone h⟩
  | some v=>if a=b then ⟨L .any l,L .gone h⟩ else ⟨L .any (mvT a v b m l),L .gone ((a,.gone) :: (b,((L .gone h a).mv a v b m).wv m) :: mvO a v b m h)⟩:=by
 unfold St.mv
 show (match (L .gone h a).ver with | none=>_ | some v=>_)=_
 cases (L .gone h a).ver with
 | none=>rfl
 | some v =>
  simp only []
  split
  ·rfl
  ·congr 1
   ·funext n;exact (mvT_eq l n).symm
   ·funext n
    simp only [L]
    split
    ·rfl
    ·split
     ·rfl
     ·exact (mvO_eq h n).symm
theorem mvV_any {a v b m:Nat}:AVal.mv a v b m .any=.any:=by simp only [AVal.mv]
theorem mvV_val {a v b m:Nat} {x:Value}:AVal.mv a v b m (.val x)=.val x:=by simp only [AVal.mv]
theorem mvV_ro {a v b m:Nat} {nm:Option (Option Nat)} {k:Nat} {cs:List AVal}:AVal.mv a v b m (.ro nm k cs)=.ro nm k (mvL a v b m cs):=by simp only [AVal.mv]
theorem mvV_own {a v b m r u:Nat}:AVal.mv a v b m (.own r u)=if r=a then (if u=v then .own b m else .any) else if r=b then .any else .own r u:=by simp only [AVal.mv]
theorem mvV_ptr {a v b m r u off:Nat}:AVal.mv a v b m (.ptr r u off)=if r=a then (if u=v then .ptr b m off else .any) else if r=b then .any else .ptr r u off:=by simp only [AVal.mv]
theorem mvV_mp {a v b m r u:Nat}:AVal.mv a v b m (.mp r u)=if r=a then (if u=v then .mp b m else .any) else if r=b then .any else .mp r u:=by simp only [AVal.mv]
theorem mvV_st {a v b m:Nat} {cs:List AVal}:AVal.mv a v b m (.st cs)=.st (mvL a v b m cs):=by simp only [AVal.mv]
theorem mvV_tup {a v b m:Nat} {cs:List AVal}:AVal.mv a v b m (.tup cs)=.tup (mvL a v b m cs):=by simp only [AVal.mv]
theorem mvV_rp {a v b m o:Nat} {cs:List AVal}:AVal.mv a v b m (.rp cs o)=.rp (mvL a v b m cs) o:=by simp only [AVal.mv]
theorem mvV_clo {a v b m:Nat} {g:FuncId} {cs:List AVal}:AVal.mv a v b m (.clo g cs)=.clo g (mvL a v b m cs):=by simp only [AVal.mv]
theorem mvL_nil {a v b m:Nat}:mvL a v b m []=[]:=by simp only [mvL]
theorem mvL_cons {a v b m:Nat} {A:AVal} {cs:List AVal}:mvL a v b m (A :: cs)=A.mv a v b m :: mvL a v b m cs:=by simp only [mvL]
theorem mvL_ints {a v b m:Nat} {k:IntKind} {xs:List Int}:mvL a v b m (intsK k xs)=intsK k xs:=by simp [yz2j,intsK,AVal.mv]
theorem mvL_rws {a v b m:Nat} {xss:List (List Int)}:mvL a v b m (rws xss)=rws xss:=by
 simp only [yz2j,rws,Yj]
 exact Yg fun xs _=>by simp [AVal.mv,ints,yz2j]
theorem mvL_rwn {a v b m:Nat} {xss:List (List Int)}:mvL a v b m (rwn xss)=rwn xss:=by
 simp only [yz2j,rwn,Yj]
 exact Yg fun xs _=>by simp [AVal.mv,ints,yz2j]
theorem dn_tm {σ:St} {n:Nat}:σ.dn.tm n=(σ.tm n).dn:=rfl
theorem dn_hp {σ:St} {n:Nat}:σ.dn.hp n=(σ.hp n).dn:=rfl
theorem dn_any:AVal.dn .any=.any:=by simp only [AVal.dn]
theorem dn_val {v:Value}:AVal.dn (.val v)=.val v:=by simp only [AVal.dn]
theorem dn_ro {nm:Option (Option Nat)} {k:Nat} {cs:List AVal}:AVal.dn (.ro nm k cs)=.ro (dnNm nm) k (dnL cs):=by simp only [AVal.dn]
theorem dn_own {r v:Nat}:AVal.dn (.own r v)=.own r v:=by simp only [AVal.dn]
theorem dn_st {cs:List AVal}:AVal.dn (.st cs)=.st (dnL cs):=by simp only [AVal.dn]
theorem dn_tup {cs:List AVal}:AVal.dn (.tup cs)=.tup (dnL cs):=by simp only [AVal.dn]
theorem dn_ptr {r v o:Nat}:AVal.dn (.ptr r v o)=.ptr r v o:=by simp only [AVal.dn]
theorem dn_rp {cs:List AVal} {o:Nat}:AVal.dn (.rp cs o)=.rp (dnL cs) o:=by simp only [AVal.dn]
theorem dn_mp {r v:Nat}:AVal.dn (.mp r v)=.mp r v:=by simp only [AVal.dn]
theorem dn_clo {g:FuncId} {cs:List AVal}:AVal.dn (.clo g cs)=.clo g (dnL cs):=by simp only [AVal.dn]
theorem dnL_nil:dnL []=[]:=by simp only [dnL]
theorem dnL_cons {A:AVal} {cs:List AVal}:dnL (A :: cs)=A.dn :: dnL cs:=by simp only [dnL]
theorem dnL_app {cs ds:List AVal}:dnL (cs ++ ds)=dnL cs ++ dnL ds:=by simp [yz17]
theorem yzdw {k:IntKind} {xs:List Int}:dnL (intsK k xs)=intsK k xs:=by simp [yz17,intsK,AVal.dn]
theorem dnNm_n:dnNm none=none:=rfl
theorem dnNm_sn:dnNm (some none)=some none:=rfl
theorem dnNm_o:dnNm (some (some 0))=some (some 0):=rfl
theorem dnNm_s {n:Nat}:dnNm (some (some (n+1)))=some none:=rfl
theorem isNew_sn:isNew (some none)=true:=rfl
theorem isNew_s {n:Nat}:isNew (some (some (n+1)))=true:=rfl
theorem rnNm_n {s:Nat→Nat}:rnNm s none=none:=rfl
theorem rnNm_sn {s:Nat→Nat}:rnNm s (some none)=some none:=rfl
theorem rnNm_o {s:Nat→Nat}:rnNm s (some (some 0))=some (some 0):=rfl
theorem rnNm_s {s:Nat→Nat} {n:Nat}:rnNm s (some (some (n+1)))=some (some (s n+1)):=rfl
theorem yzi {xss:List (List Int)}:dnL (rws xss)=rws xss:=by
 simp only [yz17,rws,Yj]
 exact Yg fun xs _=>by simp [AVal.dn,ints,yz17,dnNm]
theorem dnL_rwn {xss:List (List Int)}:dnL (rwn xss)=rwn xss:=by
 simp only [yz17,rwn,Yj]
 exact Yg fun xs _=>by simp [AVal.dn,ints,yz17,dnNm]
theorem odn_box {v:Nat} {cs:List AVal}:AObj.dn (.box v cs)=.box v (dnL cs):=rfl
theorem odn_row {v k:Nat} {nn:Bool} {cs:List AVal}:AObj.dn (.row v k nn cs)=.row v k nn (dnL cs):=rfl
theorem odn_map {v:Nat} {ks:List Value} {vs:List AVal}:AObj.dn (.map v ks vs)=.map v ks (dnL vs):=rfl
theorem rws_snoc {xss:List (List Int)} {xs:List Int}:rws xss ++ [.ro (some none) 1 (ints xs)]=rws (xss ++ [xs]):=by simp [rws]
theorem rws_nil:rws []=[]:=rfl
theorem rws_app {xss yss:List (List Int)}:rws xss ++ rws yss=rws (xss ++ yss):=by simp [rws]
theorem rws_len {xss:List (List Int)}:(rws xss).length=xss.length:=by simp [rws]
theorem rwn_len {xss:List (List Int)}:(rwn xss).length=xss.length:=by simp [rwn]
theorem rws_getD {xss:List (List Int)} {i:Nat} (h:i<xss.length):(rws xss).getD i .any=.ro (some none) 1 (ints (xss.getD i [])):=by
 simp [rws,Y0,h]
theorem yz19 {xss:List (List Int)} {i:Nat} (h:i<xss.length):(rwn xss).getD i .any=.ro none 1 (ints (xss.getD i [])):=by
 simp [rwn,Y0,h]
theorem yz3 {k:IntKind} {xs:List Int} {i:Nat} (h:i<xs.length):(intsK k xs).getD i .any=.val (.int k (xs.getD i 0)):=by
 simp [Y0,h]
theorem yzfa {k:IntKind} {xs:List Int} {x:Int}:intsK k xs ++ [AVal.val (.int k x)]=intsK k (xs ++ [x]):=by simp
theorem one_intsK {hp:Nat→AObj} {k:IntKind} {xs:List Int}:(∀ A∈intsK k xs,One hp A)=True:=by
 refine eq_true ?_
 intro A hA
 simp only [Y3] at hA
 obtain ⟨x,_,rfl⟩:=hA
 rfl
theorem one_rws {hp:Nat→AObj} {xss:List (List Int)}:(∀ A∈rws xss,One hp A)=True:=by
 refine eq_true ?_
 intro A hA
 simp only [rws,Y3] at hA
 obtain ⟨x,_,rfl⟩:=hA
 exact trivial
theorem one_rwn {hp:Nat→AObj} {xss:List (List Int)}:(∀ A∈rwn xss,One hp A)=True:=by
 refine eq_true ?_
 intro A hA
 simp only [rwn,Y3] at hA
 obtain ⟨x,_,rfl⟩:=hA
 exact trivial
theorem frz_intsK {hp:Nat→AObj} {k:IntKind} {xs:List Int}:(intsK k xs).map (frz hp)=intsK k xs:=by simp [frz]
theorem frz_rws {hp:Nat→AObj} {xss:List (List Int)}:(rws xss).map (frz hp)=rws xss:=by simp [rws,frz]
theorem yzbu {k:IntKind} {xs:List Int}:owned (intsK k xs)=[]:=by
 induction xs with
 | nil=>rfl
 | cons x xs ih=>exact ih
theorem owned_rws {xss:List (List Int)}:owned (rws xss)=[]:=by
 induction xss with
 | nil=>rfl
 | cons x xs ih=>exact ih
theorem range1:Ya 1=[0]:=rfl
theorem nodup_one {a:Nat}:[a].Nodup=True:=by simp
def isRow:AObj→Nat→Prop
 | .row v' _ _ _,v=>v'=v
 | _,_=>False
def isMap:AObj→Nat→Prop
 | .map v' _ _,v=>v'=v
 | _,_=>False
theorem one_own {hp:Nat→AObj} {r v:Nat}:One hp (.own r v)=isRow (hp r) v:=by
 simp only [One]
 cases hp r with
 | row v' k nn cs =>
  simp only [isRow,AObj.row.injEq]
  exact propext ⟨fun ⟨_,_,_,h⟩=>h.1,fun h=>⟨k,nn,cs,h,rfl,rfl,rfl⟩⟩
 | _=>simp [isRow]
theorem one_mp {hp:Nat→AObj} {r v:Nat}:One hp (.mp r v)=isMap (hp r) v:=by
 simp only [One]
 cases hp r with
 | map v' ks vs =>
  simp only [isMap,AObj.map.injEq]
  exact propext ⟨fun ⟨_,_,h⟩=>h.1,fun h=>⟨ks,vs,h,rfl,rfl⟩⟩
 | _=>simp [isMap]
theorem one_ptr {hp:Nat→AObj} {r v o:Nat}:One hp (.ptr r v o)=((hp r).ver=some v):=rfl
theorem one_rp {hp:Nat→AObj} {cs:List AVal} {o:Nat}:One hp (.rp cs o)=True:=by simp [One]
theorem one_clo {hp:Nat→AObj} {g:FuncId} {cs:List AVal}:One hp (.clo g cs)=True:=by simp [One]
section
variable {hp:Nat→AObj} {m:List Nat} {len:Bool}
theorem yz1l:CoeL hp m len [] []=True:=by simp [CoeL]
theorem yzb {B A:AVal} {Bs As:List AVal}:CoeL hp m len (B :: Bs) (A :: As)=(Coe hp m len B A∧CoeL hp m len Bs As):=by
 simp only [CoeL]
 refine propext ⟨?_,fun h=>⟨A,As,rfl,h.1,h.2⟩⟩
 rintro ⟨A',As',e,h1,h2⟩
 simp only [List.cons.injEq] at e
 obtain ⟨rfl,rfl⟩:=e
 exact ⟨h1,h2⟩
theorem coe_any {A:AVal}:Coe hp m len .any A=True:=by simp [Coe]
theorem coe_val {x y:Value}:Coe hp m len (.val x) (.val y)=(y=x):=by simp [Coe]
theorem yzdy {k:Nat} {nm:Option (Option Nat)} {cs cs':List AVal}:Coe hp m len (.ro none k cs) (.ro nm k cs')=(0<k∧CoeL hp m len cs cs'):=by
 simp only [Coe]
 refine propext ⟨?_,fun h=>⟨.inl trivial,h.1,.inl ⟨nm,cs',rfl,h.2⟩⟩⟩
 rintro ⟨_,hk,⟨nm',cs'',e,h⟩ | ⟨e,_⟩ | ⟨_,r,v,nn,cs'',e,_⟩⟩
 ·cases e;exact ⟨hk,h⟩
 ·cases e
 ·cases e
theorem yzf0 {k:Nat} {cs:List AVal}:Coe hp m len (.ro none k cs) (.val (.slice none 0 0))=(0<k∧cs=[]):=by
 simp [Coe]
def rowIs:AObj→Nat→Nat→(List AVal→Prop)→Prop
 | .row v' k' _ cs,v,k,p=>v'=v∧k'=k∧p cs
 | _,_,_,_=>False
def boxIs:AObj→Nat→(List AVal→Prop)→Prop
 | .box v' cs,v,p=>v'=v∧p cs
 | _,_,_=>False
theorem rowIs_ex {o:AObj} {v k:Nat} {p:List AVal→Prop}:rowIs o v k p↔∃ nn cs,o=.row v k nn cs∧p cs:=by
 cases o with
 | row v' k' nn cs =>
  simp only [rowIs,AObj.row.injEq]
  exact ⟨fun ⟨h1,h2,h3⟩=>⟨nn,cs,⟨h1,h2,rfl,rfl⟩,h3⟩,fun ⟨_,_,⟨h1,h2,_,h4⟩,h5⟩=>⟨h1,h2,h4 ▸ h5⟩⟩
 | _=>simp [rowIs]
theorem boxIs_ex {o:AObj} {v:Nat} {p:List AVal→Prop}:boxIs o v p↔∃ cs,o=.box v cs∧p cs:=by
 cases o with
 | box v' cs =>
  simp only [boxIs,AObj.box.injEq]
  exact ⟨fun ⟨h1,h3⟩=>⟨cs,⟨h1,rfl⟩,h3⟩,fun ⟨_,⟨h1,h4⟩,h5⟩=>⟨h1,h4 ▸ h5⟩⟩
 | _=>simp [boxIs]
theorem yzdq {k r v:Nat} {cs:List AVal}:Coe hp m true (.ro none k cs) (.own r v)=(0<k∧r ∉ m∧rowIs (hp r) v k (CoeL hp m true cs)):=by
 rw [propext rowIs_ex]
 simp only [Coe]
 refine propext ⟨?_,fun ⟨hk,hr,nn,cs',h1,h2⟩=>⟨.inl trivial,hk,.inr (.inr ⟨trivial,r,v,nn,cs',rfl,hr,h1,h2⟩)⟩⟩
 rintro ⟨_,hk,⟨nm',cs'',e,h⟩ | ⟨e,_⟩ | ⟨_,r',v',nn,cs'',e,h1,h2,h3⟩⟩
 ·cases e
 ·cases e
 ·cases e;exact ⟨hk,h1,nn,cs'',h2,h3⟩
theorem yz2q:∀ {cs:List AVal},(∀ A∈cs,∃ x,A=.val x)→CoeL hp m len cs cs
 | [],_=>by simp [CoeL]
 | A :: cs,h=>by
  rw [yzb]
  obtain ⟨x,rfl⟩:=h A (by simp)
  exact ⟨by simp [Coe],yz2q fun B hB=>h B (by simp [hB])⟩
def argN {α:Type} (xs:List α):Option (Option Nat):=if xs.length=0 then some none else none
theorem dn_argN {α:Type} {xs:List α}:dnNm (argN xs)=argN xs:=by unfold argN;split <;> rfl
theorem argN_nn {α:Type} {xs:List α}:(isNew (argN xs)=true∨0<xs.length)=True:=by
 refine eq_true ?_
 unfold argN
 by_cases h:xs.length=0
 ·left;rw [if_pos h];rfl
 ·right;omega
theorem coe_argN' {xs:List Int} {x:Option Nat} (hx:isNew (some x)=true):Coe hp m len (.ro (argN xs) 1 (ints xs)) (.ro (some x) 1 (ints xs))=True:=by
 refine eq_true ?_
 simp only [Coe]
 refine ⟨?_,by omega,.inl ⟨some x,ints xs,rfl,yz2q fun A hA=>?_⟩⟩
 ·unfold argN
  by_cases h:xs.length=0
  ·rw [if_pos h]
   have:xs=[]:=Yh h
   subst this
   exact .inr (.inr ⟨rfl,rfl,.inl ⟨some x,1,ints [],rfl,hx⟩⟩)
  ·rw [if_neg h];exact .inl rfl
 ·simp only [Y3] at hA
  obtain ⟨x,_,rfl⟩:=hA
  exact ⟨_,rfl⟩
theorem yzcl {xs:List Int}:Coe hp m len (.ro (argN xs) 1 (ints xs)) (.ro (some none) 1 (ints xs))=True:=coe_argN' rfl
theorem coe_argNs {xs:List Int} {x:Nat}:Coe hp m len (.ro (argN xs) 1 (ints xs)) (.ro (some (some (x+1))) 1 (ints xs))=True:=coe_argN' rfl
theorem coe_ro_o {k:Nat} {cs cs':List AVal}:Coe hp m len (.ro (some (some 0)) k cs) (.ro (some (some 0)) k cs')=(0<k∧CoeL hp m len cs cs'):=by
 simp only [Coe]
 refine propext ⟨?_,fun h=>⟨.inr (.inl ⟨trivial,.inr ⟨k,cs',rfl⟩⟩),h.1,.inl ⟨some (some 0),cs',rfl,h.2⟩⟩⟩
 rintro ⟨_,hk,⟨nm',cs'',e,h⟩ | ⟨e,_⟩ | ⟨_,r,v,nn,cs'',e,_⟩⟩
 ·cases e;exact ⟨hk,h⟩
 ·cases e
 ·cases e
theorem coe_st {cs cs':List AVal}:Coe hp m len (.st cs) (.st cs')=CoeL hp m len cs cs':=by
 simp only [Coe]
 refine propext ⟨?_,fun h=>.inl ⟨cs',rfl,h⟩⟩
 rintro (⟨cs'',e,h⟩ | ⟨vs,e,_⟩)
 ·cases e;exact h
 ·cases e
theorem yzeo {cs:List AVal} {vs:Array Value}:Coe hp m len (.st cs) (.val (.agg vs))=CoeL hp m len cs (vs.toList.map .val):=by
 simp only [Coe]
 refine propext ⟨?_,fun h=>.inr ⟨vs,rfl,h⟩⟩
 rintro (⟨cs'',e,h⟩ | ⟨vs',e,h⟩)
 ·cases e
 ·cases e;exact h
theorem coe_rp {cs cs':List AVal} {off:Nat}:Coe hp m len (.rp cs off) (.rp cs' off)=CoeL hp m len cs cs':=by
 simp only [Coe]
 refine propext ⟨?_,fun h=>.inl ⟨cs',rfl,h⟩⟩
 rintro (⟨cs'',e,h⟩ | ⟨_,r,v,cs'',e,_⟩)
 ·cases e;exact h
 ·cases e
theorem yzdt {cs:List AVal} {r v off:Nat}:Coe hp m true (.rp cs off) (.ptr r v off)=(r ∉ m∧boxIs (hp r) v (CoeL hp m true cs)):=by
 rw [propext boxIs_ex]
 simp only [Coe]
 refine propext ⟨?_,fun ⟨h1,cs',h2,h3⟩=>.inr ⟨trivial,r,v,cs',rfl,h1,h2,h3⟩⟩
 rintro (⟨cs'',e,h⟩ | ⟨_,r',v',cs'',e,h1,h2,h3⟩)
 ·cases e
 ·cases e;exact ⟨h1,cs'',h2,h3⟩
theorem coe_clo {g:FuncId} {cs cs':List AVal}:Coe hp m len (.clo g cs) (.clo g cs')=CoeL hp m len cs cs':=by
 simp only [Coe]
 refine propext ⟨?_,fun h=>⟨cs',rfl,h⟩⟩
 rintro ⟨cs'',e,h⟩
 cases e;exact h
theorem yz96 {r v:Nat}:Coe hp [r] len (.own 5000 0) (.own r v)=((hp r).ver=some v):=by
 simp only [Coe]
 refine propext ⟨?_,fun h=>⟨0,r,v,rfl,rfl,rfl,rfl,h⟩⟩
 rintro ⟨j,r',v',h1,h2,h3,e,h4⟩
 cases e;exact h4
theorem yz54 {r v off:Nat}:Coe hp [r] len (.ptr 5000 0 off) (.ptr r v off)=((hp r).ver=some v):=by
 simp only [Coe]
 refine propext ⟨?_,fun h=>⟨0,r,v,rfl,rfl,rfl,rfl,h⟩⟩
 rintro ⟨j,r',v',h1,h2,h3,e,h4⟩
 cases e;exact h4
theorem yz45 {k:IntKind} {xs:List Int}:CoeL hp m len (intsK k xs) (intsK k xs)=True:=by
 refine eq_true (yz2q fun A hA=>?_)
 simp only [Y3] at hA
 obtain ⟨x,_,rfl⟩:=hA
 exact ⟨_,rfl⟩
theorem yzdf:∀ {xss:List (List Int)},CoeL hp m len (rwn xss) (rws xss)=True
 | []=>yz1l
 | xs :: xss=>by
  have h:=yzdf (xss:=xss)
  simp only [rws,rwn,Y1] at h ⊢
  rw [yzb,h,yzdy]
  simp [yz45 (k:=.i64)]
theorem yzen:∀ {xss:List (List Int)},CoeL hp m len (rwn xss) (rwn xss)=True
 | []=>yz1l
 | xs :: xss=>by
  have h:=yzen (xss:=xss)
  simp only [rwn,Y1] at h ⊢
  rw [yzb,h,yzdy]
  simp [yz45 (k:=.i64)]
end
theorem yz2i {k:IntKind} {xs:List Int}:freshL (intsK k xs)=True:=by
 refine eq_true (yze0 fun A hA=>?_)
 simp only [Y3] at hA
 obtain ⟨x,_,rfl⟩:=hA
 exact ⟨_,rfl⟩
theorem fresh_rws {xss:List (List Int)}:freshL (rws xss)=True:=by
 refine eq_true ((yz4l _).2 fun A hA=>?_)
 simp only [rws,Y3] at hA
 obtain ⟨x,_,rfl⟩:=hA
 simp only [AVal.fresh]
 exact ⟨.inr rfl,of_eq_true (yz2i (k:=.i64) (xs:=x))⟩
theorem yz2k {f:Nat→Option Nat} {s:Nat→Nat} {v:Value}:AVal.ren f s (.val v)=.val v:=by simp only [AVal.ren]
theorem ren_any {f:Nat→Option Nat} {s:Nat→Nat}:AVal.ren f s .any=.any:=by simp only [AVal.ren]
theorem ren_ro {f:Nat→Option Nat} {s:Nat→Nat} {nm:Option (Option Nat)} {k:Nat} {cs:List AVal}:AVal.ren f s (.ro nm k cs)=.ro (rnNm s nm) k (renL f s cs):=by simp only [AVal.ren]
theorem ren_st {f:Nat→Option Nat} {s:Nat→Nat} {cs:List AVal}:AVal.ren f s (.st cs)=.st (renL f s cs):=by simp only [AVal.ren]
theorem yzf1 {f:Nat→Option Nat} {s:Nat→Nat} {cs:List AVal}:AVal.ren f s (.tup cs)=.tup (renL f s cs):=by simp only [AVal.ren]
theorem yz5c {f:Nat→Option Nat} {s:Nat→Nat} {r v r':Nat} (h:f r=some r'):AVal.ren f s (.own r v)=.own r' (s v):=by simp only [AVal.ren,h]
theorem ren_ptr {f:Nat→Option Nat} {s:Nat→Nat} {r v r' o:Nat} (h:f r=some r'):AVal.ren f s (.ptr r v o)=.ptr r' (s v) o:=by simp only [AVal.ren,h]
theorem ren_mp {f:Nat→Option Nat} {s:Nat→Nat} {r v r':Nat} (h:f r=some r'):AVal.ren f s (.mp r v)=.mp r' (s v):=by simp only [AVal.ren,h]
theorem yz4i {f:Nat→Option Nat} {s:Nat→Nat}:renL f s []=[]:=by simp only [renL]
theorem yz30 {f:Nat→Option Nat} {s:Nat→Nat} {A:AVal} {cs:List AVal}:renL f s (A :: cs)=A.ren f s :: renL f s cs:=by simp only [renL]
theorem yz1q {f:Nat→Option Nat} {s:Nat→Nat} {k:IntKind} {xs:List Int}:renL f s (intsK k xs)=intsK k xs:=by simp [yz1h,AVal.ren]
theorem renL_rws {f:Nat→Option Nat} {s:Nat→Nat} {xss:List (List Int)}:renL f s (rws xss)=rws xss:=by
 simp only [yz1h,rws,Yj]
 exact Yg fun xs _=>by simp [AVal.ren,ints,yz1h,rnNm]
theorem renL_rwn {f:Nat→Option Nat} {s:Nat→Nat} {xss:List (List Int)}:renL f s (rwn xss)=rwn xss:=by
 simp only [yz1h,rwn,Yj]
 exact Yg fun xs _=>by simp [AVal.ren,ints,yz1h,rnNm]
theorem yz2a {f:Nat→Option Nat} {s:Nat→Nat} {v:Nat} {cs:List AVal}:AObj.ren f s (.box v cs)=.box (s v) (renL f s cs):=rfl
theorem yz1p {f:Nat→Option Nat} {s:Nat→Nat} {v k:Nat} {nn:Bool} {cs:List AVal}:AObj.ren f s (.row v k nn cs)=.row (s v) k nn (renL f s cs):=rfl
theorem oren_map {f:Nat→Option Nat} {s:Nat→Nat} {v:Nat} {ks:List Value} {vs:List AVal}:AObj.ren f s (.map v ks vs)=.map (s v) ks (renL f s vs):=rfl
theorem rid0 {m:List Nat} {d n:Nat}:rid m d (n+1) 6000=some d:=by
 have:=yzaz (m:=m) (d:=d) (nr:=n+1) (i:=0) (by omega)
 simpa [newId] using this
theorem rid1 {m:List Nat} {d n:Nat}:rid m d (n+2) 6001=some (d+1000):=by
 have:=yzaz (m:=m) (d:=d) (nr:=n+2) (i:=1) (by omega)
 simpa [newId] using this
theorem rid2 {m:List Nat} {d n:Nat}:rid m d (n+3) 6002=some (d+2000):=by
 have:=yzaz (m:=m) (d:=d) (nr:=n+3) (i:=2) (by omega)
 simpa [newId] using this
theorem expo0 {r:Nat} {l:List Nat} (h:r<5000):expo (r :: l) r=some 6000:=by
 unfold expo
 rw [if_neg (by omega)]
 simp [List.idxOf?,List.findIdx?,List.findIdx?.go]
theorem expo1 {r r0:Nat} {l:List Nat} (h:r<5000) (h0:r0≠r):expo (r0 :: r :: l) r=some 6001:=by
 unfold expo
 rw [if_neg (by omega)]
 simp [List.idxOf?,List.findIdx?,List.findIdx?.go,h0]
theorem expo2 {r r0 r1:Nat} {l:List Nat} (h:r<5000) (h0:r0≠r) (h1:r1≠r):expo (r0 :: r1 :: r :: l) r=some 6002:=by
 unfold expo
 rw [if_neg (by omega)]
 simp [List.idxOf?,List.findIdx?,List.findIdx?.go,h0,h1]
theorem yzcj {r v:Nat} {l:List Nat} {s:Nat→Nat} (h:r<5000):AVal.ren (expo (r :: l)) s (.own r v)=.own 6000 (s v):=yz5c (expo0 h)
theorem yzes {r r0 v:Nat} {l:List Nat} {s:Nat→Nat} (h:r<5000) (h0:r0≠r):AVal.ren (expo (r0 :: r :: l)) s (.own r v)=.own 6001 (s v):=yz5c (expo1 h h0)
theorem yzee {r r0 r1 v:Nat} {l:List Nat} {s:Nat→Nat} (h:r<5000) (h0:r0≠r) (h1:r1≠r):AVal.ren (expo (r0 :: r1 :: r :: l)) s (.own r v)=.own 6002 (s v):=yz5c (expo2 h h0 h1)
theorem yzex {r v o:Nat} {l:List Nat} {s:Nat→Nat} (h:r<5000):AVal.ren (expo (r :: l)) s (.ptr r v o)=.ptr 6000 (s v) o:=ren_ptr (expo0 h)
theorem ren_mp_e0 {r v:Nat} {l:List Nat} {s:Nat→Nat} (h:r<5000):AVal.ren (expo (r :: l)) s (.mp r v)=.mp 6000 (s v):=ren_mp (expo0 h)
theorem ren_mp_e1 {r r0 v:Nat} {l:List Nat} {s:Nat→Nat} (h:r<5000) (h0:r0≠r):AVal.ren (expo (r0 :: r :: l)) s (.mp r v)=.mp 6001 (s v):=ren_mp (expo1 h h0)
theorem yz1f {m:List Nat} {d n v:Nat} {s:Nat→Nat}:AVal.ren (rid m d (n+1)) s (.own 6000 v)=.own d (s v):=yz5c rid0
theorem yz53 {m:List Nat} {d n v:Nat} {s:Nat→Nat}:AVal.ren (rid m d (n+2)) s (.own 6001 v)=.own (d+1000) (s v):=yz5c rid1
theorem yzd4 {m:List Nat} {d n v:Nat} {s:Nat→Nat}:AVal.ren (rid m d (n+3)) s (.own 6002 v)=.own (d+2000) (s v):=yz5c rid2
theorem yzdk {m:List Nat} {d n v o:Nat} {s:Nat→Nat}:AVal.ren (rid m d (n+1)) s (.ptr 6000 v o)=.ptr d (s v) o:=ren_ptr rid0
theorem ren_mp_r0 {m:List Nat} {d n v:Nat} {s:Nat→Nat}:AVal.ren (rid m d (n+1)) s (.mp 6000 v)=.mp d (s v):=ren_mp rid0
theorem ren_mp_r1 {m:List Nat} {d n v:Nat} {s:Nat→Nat}:AVal.ren (rid m d (n+2)) s (.mp 6001 v)=.mp (d+1000) (s v):=ren_mp rid1
theorem yzw {hp:Nat→AObj} {d:Nat} {o:AObj}:(∀ i,i<[o].length→hp (newId d i)=.gone)=(hp d=.gone):=by
 refine propext ⟨fun h=>by simpa [newId] using h 0 (by simp),fun h i hi=>?_⟩
 have:i=0:=by simpa using hi
 subst this;simpa [newId] using h
theorem yz6s {hp:Nat→AObj} {d:Nat} {o o':AObj}:(∀ i,i<[o,o'].length→hp (newId d i)=.gone)=(hp d=.gone∧hp (d+1000)=.gone):=by
 refine propext ⟨fun h=>⟨by simpa [newId] using h 0 (by simp),by simpa [newId] using h 1 (by simp)⟩,fun h i hi=>?_⟩
 have hi':i<2:=by simpa using hi
 have:i=0∨i=1:=by omega
 rcases this with rfl | rfl
 ·simpa [newId] using h.1
 ·simpa [newId] using h.2
theorem gone_nil {hp:Nat→AObj} {d:Nat}:(∀ i,i<([]:List AObj).length→hp (newId d i)=.gone)=True:=by simp
end Go.Ab
namespace Go.Ab
theorem yz90 {P:Program} {g:FuncId} {F:AFn} (hm:P.follows .mixedOrders=true) {no:Option (List Nat×List FuncId)} (hF:cFn (drV no) P g F) {ins:List AObj} {args:List AVal} (hargs:args.length=F.nparams) (hins:ins.length≤1000)
  {R:List AObj→List AObj→AVal→Prop}
  (h:wpD P F.code (finQ fun σ=>(∀ x∈F.res,σ.there x)∧∃ ids:List Nat,ids.length≤1000∧ids.Nodup∧(∀ n∈ids,n<5000)∧(σ.value F.res).fresh∧(∀ n∈ids,(σ.hp n).fresh)∧(∀ j,j<ins.length→(σ.hp (5000+j)).fresh) ∧
   R ((Ya ins.length).map fun j=>(σ.hp (5000+j)).ren (expo ids) id) (ids.map fun n=>(σ.hp n).ren (expo ids) id) ((σ.value F.res).ren (expo ids) id)) (St.init args ins)):Con P g ins args false R:=by
 refine yz3w (yza7 hm) hF hargs hins (yzk _ _ _ _ (fun e σ he=>?_) h)
 have:(∀ x∈F.res,σ.there x)∧(∃ ids:List Nat,ids.length≤1000∧ids.Nodup∧(∀ n∈ids,n<5000)∧(σ.value F.res).fresh∧(∀ n∈ids,(σ.hp n).fresh)∧(∀ j,j<ins.length→(σ.hp (5000+j)).fresh) ∧
   R ((Ya ins.length).map fun j=>(σ.hp (5000+j)).ren (expo ids) id) (ids.map fun n=>(σ.hp n).ren (expo ids) id) ((σ.value F.res).ren (expo ids) id))→∃ ids,Ret ins.length false ids R F.res σ:=by
  rintro ⟨h1,ids,h2,h3,h4,h5,h6,h7,h8⟩
  exact ⟨ids,h1,h8,hins,h2,h3,h4,fun _=>⟨h5,h6,h7⟩⟩
 cases e with
 | exit _=>exact he
 | normal=>exact this he
 | ret=>exact this he
theorem yz38 {P:Program} {g:FuncId} {F:AFn} (hm:P.follows .mixedOrders=true) {no:Option (List Nat×List FuncId)} (hF:cFn (drV no) P g F) {ins:List AObj} {args:List AVal} (hargs:args.length=F.nparams) (hins:ins.length≤1000)
  {R:List AObj→List AObj→AVal→Prop}
  (h:wpD P F.code (finQ fun σ=>(∀ x∈F.res,σ.there x)∧∃ ids:List Nat,ids.length≤1000∧ids.Nodup∧(∀ n∈ids,n<5000) ∧
   R ((Ya ins.length).map fun j=>(σ.hp (5000+j)).ren (expo ids) id) (ids.map fun n=>(σ.hp n).ren (expo ids) id) ((σ.value F.res).ren (expo ids) id)) (St.init args ins)):Con P g ins args true R:=by
 refine yz3w (yza7 hm) hF hargs hins (yzk _ _ _ _ (fun e σ he=>?_) h)
 have:(∀ x∈F.res,σ.there x)∧(∃ ids:List Nat,ids.length≤1000∧ids.Nodup∧(∀ n∈ids,n<5000) ∧
   R ((Ya ins.length).map fun j=>(σ.hp (5000+j)).ren (expo ids) id) (ids.map fun n=>(σ.hp n).ren (expo ids) id) ((σ.value F.res).ren (expo ids) id))→∃ ids,Ret ins.length true ids R F.res σ:=by
  rintro ⟨h1,ids,h2,h3,h4,h8⟩
  exact ⟨ids,h1,h8,hins,h2,h3,h4,fun e=>by cases e⟩
 cases e with
 | exit _=>exact he
 | normal=>exact this he
 | ret=>exact this he
def AC.kts:AC→List Nat
 | .kp ts _ _=>ts
 | _=>[]
def AC.khs:AC→List Nat
 | .kp _ hs _=>hs
 | _=>[]
def AC.kin:AC→AC
 | .kp _ _ (.dn a)=>a
 | a=>a
theorem Con.mono {P:Program} {g:FuncId} {ins:List AObj} {args:List AVal} {sh:Bool} {R R':List AObj→List AObj→AVal→Prop} (h:Con P g ins args sh R) (hR:∀ o r x,R o r x→R' o r x):Con P g ins args sh R':=by
 refine ⟨h.1,fun c0 outsB vs h1 h2 h3=>(h.2 c0 outsB vs h1 h2 h3).mono ?_⟩
 rintro e w' ⟨v,c1,outs,rows,res,hr,h⟩
 exact ⟨v,c1,outs,rows,res,hR _ _ _ hr,h⟩
abbrev Fn (P:Program) (g:FuncId) (args:List AVal) (Q:List AObj→AVal→Prop):Prop:=Con P g [] args false fun outs rows res=>outs=[]∧Q rows res
abbrev FunB (P:Program) (g:FuncId) (cs:List AVal) (args:List AVal) (Q:List AVal→Value→Prop):Prop :=
 Con P g [.box 0 cs] (.ptr 5000 0 0 :: args) true fun outs rows res=>∃ cs' v,Q cs' v∧flatL cs'∧outs=[.box 0 cs']∧rows=[]∧res=.val v
section
variable {P:Program} {pu:Bool} {σ:St} {g:FuncId} {As args:List AVal} {d:Option Nat} {s:Nat→Nat} {K:St→Prop}
theorem yz5r {Q:List AObj→AVal→Prop} (h:Fn P g args Q) (hco:CoeL σ.hp [] true args As) (hex:pu=true→∃ rows res,Q rows res)
  (hk:∀ rows res,Q rows res→rows.length≤1000∧(∀ i,i<rows.length→σ.hp (newId (d.getD 0) i)=.gone)∧K (St.put ⟨σ.tm,callHp σ.hp [] (d.getD 0) s [] rows⟩ d (res.ren (rid [] (d.getD 0) rows.length) s))) :
  wpCall P pu σ g As d s K:=by
 refine .inl ⟨[],[],args,false,_,h,⟨by simp,rfl,by simp,by simp,by simp⟩,hco,fun e=>⟨rfl,?_⟩,?_⟩
 ·obtain ⟨rows,res,hq⟩:=hex e
  exact ⟨[],rows,res,rfl,hq⟩
 ·rintro outs rows res ⟨rfl,hq⟩
  obtain ⟨h1,h2,h3⟩:=hk rows res hq
  refine ⟨rfl,h1,h2,?_⟩
  rw [yz5e];exact h3
theorem yz6z {hp:Nat→AObj} {r d:Nat} {s:Nat→Nat} {o:AObj}:callHp hp [r] d s [o] []=upd hp r (o.ren (rid [r] d 0) (sv hp [r] s)):=by
 funext n
 by_cases h:n=r
 ·subst h
  have h1:rid [n] d ([]:List AObj).length 5000=some n:=yzad (j:=0) (by omega) rfl
  rw [yzv (by simp) (by simp) h1]
  simp [upd,outHp]
 ·rw [yze]
  ·simp [upd,h]
  ·rintro ⟨q,hq⟩
   rcases yz14 hq with ⟨j,rfl,_,h1⟩ | ⟨i,rfl,h1,_⟩
   ·cases j with
    | zero=>simp at h1;exact h h1.symm
    | succ j=>simp at h1
   ·simp at h1
theorem yzcm {hp:Nat→AObj} {d:Nat} {s:Nat→Nat} {o0 o1:AObj}:callHp hp [] d s [] [o0,o1]=upd (upd hp d (o0.ren (rid [] d 2) s)) (d+1000) (o1.ren (rid [] d 2) s):=by
 funext n
 by_cases h:n=d+1000
 ·have h1:rid [] d [o0,o1].length 6001=some n:=by rw [h];exact rid1
  rw [yzv (by simp) (by simp) h1,yz5e]
  simp [upd,h,outHp]
 ·by_cases h':n=d
  ·have h1:rid [] d [o0,o1].length 6000=some n:=by rw [h'];exact rid0
   rw [yzv (by simp) (by simp) h1,yz5e]
   have hne:d≠d+1000:=by omega
   simp [upd,h',outHp,hne]
  ·rw [yze]
   ·simp [upd,h,h']
   ·rintro ⟨q,hq⟩
    obtain ⟨i,hi,e⟩:=yz5t hq
    simp at hi
    unfold newId at e
    have:i=0∨i=1:=by omega
    rcases this with rfl | rfl
    ·exact h' (by simpa using e)
    ·exact h (by simpa using e)
theorem yz32 {hp:Nat→AObj} {r d:Nat} {s:Nat→Nat} {o o1:AObj} (hne:d≠r):callHp hp [r] d s [o] [o1]=upd (upd hp r (o.ren (rid [r] d 1) (sv hp [r] s))) d (o1.ren (rid [r] d 1) (sv hp [r] s)):=by
 have hnew:∀ i,i<[o1].length→newId d i ∉ [r]:=by
  intro i hi
  have:i=0:=by simpa using hi
  subst this;simpa [newId] using hne
 funext n
 by_cases h:n=d
 ·have h1:rid [r] d [o1].length 6000=some n:=by rw [h];exact rid0
  rw [yzv (by simp) hnew h1]
  simp [upd,h,outHp]
 ·by_cases h':n=r
  ·have h1:rid [r] d [o1].length 5000=some n:=by rw [h'];exact yzad (j:=0) (by omega) rfl
   rw [yzv (by simp) hnew h1]
   simp [upd,h',outHp,Ne.symm hne]
  ·rw [yze]
   ·simp [upd,h,h']
   ·rintro ⟨q,hq⟩
    rcases yz14 hq with ⟨j,rfl,_,h1⟩ | ⟨i,rfl,h1,h2⟩
    ·cases j with
     | zero=>simp at h1;exact h' h1.symm
     | succ j=>simp at h1
    ·have:i=0:=by simpa using h1
     subst this
     exact h (by simpa [newId] using h2)
theorem sv_m {hp:Nat→AObj} {r v:Nat} {s:Nat→Nat} {cs:List AVal} (h:hp r=.box v cs):sv hp [r] s 0=v:=by simp [sv,h,AObj.ver]
theorem sv_new {hp:Nat→AObj} {r y:Nat} {s:Nat→Nat} (h:0<y):sv hp [r] s y=s y:=by
 unfold sv
 rw [if_neg (by simp;omega)]
theorem yza {cs cs0:List AVal} {Q:List AVal→Value→Prop} {r v:Nat} (h:FunB P g cs args Q) (hr:σ.hp r=.box v cs0) (hcs:CoeL σ.hp [r] false cs cs0) (hco:CoeL σ.hp [r] false args As)
  (hk:∀ cs' x,Q cs' x→K (St.put ⟨σ.tm,upd σ.hp r (.box v cs')⟩ d (.val x))):wpCall P false σ g (.ptr r v 0 :: As) d s K:=by
 refine .inl ⟨[r],[.box 0 cs],.ptr 5000 0 0 :: args,true,_,h,⟨by simp,rfl,by simp,?_,?_⟩,?_,(fun e=>by cases e),?_⟩
 ·intro r' hr'
  simp only [Y9] at hr'
  subst hr';rw [hr];simp
 ·intro j B r' hB hr'
  cases j with
  | zero =>
   simp at hB hr'
   subst hB hr'
   rw [hr]
   exact ⟨rfl,v,cs0,rfl,hcs⟩
  | succ j=>simp at hB
 ·rw [yzb,yz54,hr]
  exact ⟨rfl,hco⟩
 ·rintro outs rows res ⟨cs',x,hq,hf,rfl,rfl,rfl⟩
  refine ⟨rfl,by simp,by simp,?_⟩
  rw [yz6z,yz2k,yz2a,yzq cs' hf]
  have:sv σ.hp [r] s 0=v:=by simp [sv,hr,AObj.ver]
  rw [this]
  exact hk cs' x hq
end
theorem yz3e {P:Program} {σ:St} {g:FuncId} {As args:List AVal} {d:Option Nat} {s:Nat→Nat} {K:St→Prop} {sh:Bool} {r v:Nat} {cs cs0:List AVal} {R:List AObj→List AObj→AVal→Prop} (h:Con P g [.box 0 cs] args sh R)
  (hr:σ.hp r=.box v cs0) (hcs:CoeL σ.hp [r] (!sh) cs cs0) (hco:CoeL σ.hp [r] (!sh) args As)
  (hk:∀ outs rows res,R outs rows res→outs.length=1∧rows.length≤1000∧(∀ i,i<rows.length→σ.hp (newId (d.getD 0) i)=.gone) ∧
   K (St.put ⟨σ.tm,callHp σ.hp [r] (d.getD 0) s outs rows⟩ d (res.ren (rid [r] (d.getD 0) rows.length) (sv σ.hp [r] s)))):wpCall P false σ g As d s K:=by
 refine .inl ⟨[r],[.box 0 cs],args,sh,R,h,⟨by simp,rfl,by simp,?_,?_⟩,hco,(fun e=>by cases e),?_⟩
 ·intro r' hr'
  simp only [Y9] at hr'
  subst hr';rw [hr];simp
 ·intro j B r' hB hr'
  cases j with
  | zero =>
   simp at hB hr'
   subst hB hr'
   rw [hr]
   exact ⟨rfl,v,cs0,rfl,hcs⟩
  | succ j=>simp at hB
 ·intro outs rows res hR
  obtain ⟨h1,h2,h3,h4⟩:=hk outs rows res hR
  exact ⟨by simpa using h1,h2,h3,h4⟩
theorem yz4o {P:Program} {pu:Bool} {σ:St} {g:FuncId} {As args:List AVal} {d:Option Nat} {s:Nat→Nat} {K:St→Prop} {R:List AObj→List AObj→AVal→Prop} (h:Con P g [] args true R)
  (hco:CoeL σ.hp [] false args As) (hex:pu=true→∃ outs rows res,R outs rows res)
  (hk:∀ outs rows res,R outs rows res→outs=[]∧rows.length≤1000∧(∀ i,i<rows.length→σ.hp (newId (d.getD 0) i)=.gone) ∧
   K (St.put ⟨σ.tm,callHp σ.hp [] (d.getD 0) s [] rows⟩ d (res.ren (rid [] (d.getD 0) rows.length) s))):wpCall P pu σ g As d s K:=by
 refine .inl ⟨[],[],args,true,R,h,⟨by simp,rfl,by simp,by simp,by simp⟩,hco,fun e=>⟨rfl,hex e⟩,?_⟩
 intro outs rows res hR
 obtain ⟨h1,h2,h3,h4⟩:=hk outs rows res hR
 subst h1
 refine ⟨rfl,h2,h3,?_⟩
 rw [yz5e];exact h4
theorem yzeq {P:Program} {g:FuncId} {F:AFn} (hm:P.follows .mixedOrders=true) {no:Option (List Nat×List FuncId)} (hF:cFn (drV no) P g F) {cs args:List AVal} (hargs:(AVal.ptr 5000 0 0 :: args).length=F.nparams) {Q:List AVal→Value→Prop}
  (h:wpD P F.code (finQ fun σ=>(∀ x∈F.res,σ.there x)∧∃ cs' v,σ.hp 5000=.box 0 cs'∧σ.value F.res=.val v∧flatL cs'∧Q cs' v) (St.init (.ptr 5000 0 0 :: args) [.box 0 cs])):FunB P g cs args Q:=by
 refine yz38 hm hF hargs (by simp) (yzl _ _ _ _ (fun e σ he=>?_) h)
 have:((∀ x∈F.res,σ.there x)∧∃ cs' v,σ.hp 5000=.box 0 cs'∧σ.value F.res=.val v∧flatL cs'∧Q cs' v)→_:=fun ⟨h1,cs',v,h2,h3,h4,h6⟩ =>
  (show (∀ x∈F.res,σ.there x)∧∃ ids:List Nat,ids.length≤1000∧ids.Nodup∧(∀ n∈ids,n<5000) ∧
   (fun outs rows res=>∃ cs' v,Q cs' v∧flatL cs'∧outs=[AObj.box 0 cs']∧rows=[]∧res=AVal.val v) ((Ya [AObj.box 0 cs].length).map fun j=>(σ.hp (5000+j)).ren (expo ids) id) (ids.map fun n=>(σ.hp n).ren (expo ids) id) ((σ.value F.res).ren (expo ids) id) from
  ⟨h1,[],by simp,by simp,by simp,cs',v,h6,h4,(by
    have e1:Ya [AObj.box 0 cs].length=[0]:=rfl
    rw [e1,List.map_singleton,h2,yz2a,yzq cs' h4];rfl),rfl,by rw [h3];exact yz2k⟩)
 cases e with
 | exit _=>exact he
 | normal=>exact this he
 | ret=>exact this he
def rsA:=And.intro @Nat.not_lt_zero (And.intro @range1 (And.intro @yz2k (And.intro @ren_any (And.intro @ren_ro (And.intro @rnNm_n (And.intro @rnNm_sn (And.intro @rnNm_o (And.intro @rnNm_s (And.intro @ren_st (And.intro @yzf1 (And.intro @yz4i (And.intro @yz30 (And.intro @yz1q (And.intro @renL_rws (And.intro @renL_rwn (And.intro @yz2a (And.intro @yz1p (And.intro @oren_map (And.intro @yzcj (And.intro @yzes (And.intro @yzee (And.intro @yzex (And.intro @ren_mp_e0 (And.intro @ren_mp_e1 (And.intro @yz1f (And.intro @yz53 (And.intro @yzd4 (And.intro @yzdk (And.intro @ren_mp_r0 (And.intro @ren_mp_r1 (And.intro @List.range_zero (And.intro @yz8d (And.intro @yz2x (And.intro @yzcm (And.intro @gone_nil (And.intro @yzw (And.intro @yz6s (And.intro @yz2i (And.intro @fresh_rws (And.intro @or_true (@true_or)))))))))))))))))))))))))))))))))))))))))
def csA:=And.intro @yzcl (And.intro @coe_argNs (And.intro @coe_ro_o (And.intro @yz1l (And.intro @yzb (And.intro @coe_any (And.intro @coe_val (And.intro @yzdy (And.intro @yzf0 (And.intro @yzdq (And.intro @coe_st (And.intro @yzeo (And.intro @coe_rp (And.intro @yzdt (And.intro @coe_clo (And.intro @yz96 (And.intro @yz54 (And.intro @yz45 (And.intro @yzdf (And.intro @yzen (And.intro @L_hit (And.intro @L_miss (And.intro @L_nil (And.intro @not_false_eq_true (And.intro @true_and (And.intro @and_true (And.intro @and_self (And.intro @or_false (And.intro @AObj.row.injEq (And.intro @AObj.box.injEq (And.intro @Nat.zero_lt_one (And.intro @Nat.lt_add_one (@not_true_eq_false))))))))))))))))))))))))))))))))
end Go.Ab
namespace Go.Ab
def Cz.start (W:World):Cz :=
 { w:=W,base:=W.heap.size,ext:=fun b=>b<W.heap.size,hp:=fun _=>.gone,loc:=fun _=>undef,names:=fun _=>none,used:=fun _=>False,old:=fun b=>b<W.heap.size }
theorem yzc9 {W:World} {b:Nat}:¬ (Cz.start W).taken b:=by rintro ⟨r,h,_⟩;exact h rfl
theorem start_imm {W:World} {b:Nat} (h:b<W.heap.size):(Cz.start W).imm b:=⟨.inl h,h,yzc9⟩
theorem yzd3 (W:World):Good W (fun _=>False) (Cz.start W):=by
 refine ⟨⟨rfl,fun _ h=>h⟩,fun _=>trivial,?_,?_,?_,?_,?_,?_,?_,⟨0,fun v h=>h.elim⟩,rfl,⟨rfl,Y1h _⟩,rfl,Y1h _,fun _ _ _=>rfl⟩
 ·intro r r' b h;exact absurd rfl h
 ·intro r b h;exact absurd rfl h
 ·intro r v h;simp [Cz.start,AObj.ver] at h
 ·intro r r' v h;simp [Cz.start,AObj.ver] at h
 ·intro b h;exact h.elim
 ·intro n b h;simp [Cz.start] at h
 ·intro n n' b h;simp [Cz.start] at h
theorem yzbj (W:World):(Cz.start W).hp=outHp [] []:=by
 funext n
 simp [Cz.start,outHp]
theorem cell_lt {W:World} {b off:Nat} {v:Value} (h:W.cell? ⟨b,off,none⟩=some v):b<W.heap.size:=by
 unfold World.cell? at h
 by_cases hb:b<W.heap.size
 ·exact hb
 ·have h1:W.heap[b]?=none:=Array.getElem?_eq_none (by omega)
  simp only [h1] at h;cases h
mutual
inductive Shp (P:Program):TypeId→List AVal→Prop where
 | int {t:TypeId} {k:IntKind} {n:Int}:P.underlying t=some (.int k)→(Lit.int k n).wf=true→Shp P t [.val (.int k n)]
 | bool {t:TypeId} {b:Bool}:P.underlying t=some .bool→Shp P t [.val (.bool b)]
 | string {t:TypeId} {s:ByteArray}:P.underlying t=some .string→s.size≤maxLen→Shp P t [.val (.string s)]
 | slice {t e:TypeId} {xss:List (List AVal)}:P.underlying t=some (.slice e)→(∀ xs∈xss,Shp P e xs)→(∀ xs∈xss,xs.length=P.cellsOf e)→xss.length≤maxLen→Shp P t [.ro (some (some 0)) (P.cellsOf e) xss.flatten]
 | struct {t:TypeId} {fs:Array Field} {As:List AVal}:P.underlying t=some (.struct fs)→ShpF P fs.toList As→Shp P t As
inductive ShpF (P:Program):List Field→List AVal→Prop where
 | nil:ShpF P [] []
 | cons {f:Field} {fs:List Field} {As Bs:List AVal}:Shp P f.type As→ShpF P fs Bs→ShpF P (f :: fs) (As ++ Bs)
end
def contig (P:Program):List Field→Nat→Nat→Bool
 | [],off,n=>off == n
 | f :: fs,off,n=>f.offset == off && contig P fs (off+P.cellsOf f.type) n
section
variable {H:Type} {enc:TypeId×Value→H} {P:Program} {W:World} {sp:Nat→Bool} {held:Bool}
theorem RepAt.append {c:Cz} {b:Nat}:∀ {xs ys:List AVal} {off:Nat},RepAt c b off xs→RepAt c b (off+xs.length) ys→RepAt c b off (xs ++ ys)
 | [],_,_,_,h=>by simpa using h
 | x :: xs,ys,off,h,h'=>by
  simp only [RepAt,Yu] at h ⊢
  refine ⟨h.1,RepAt.append h.2 ?_⟩
  have e:off+1+xs.length=off+(x :: xs).length:=by simp;omega
  rw [e];exact h'
theorem RepAt.flatten {c:Cz} {b k:Nat}:∀ {xss:List (List AVal)} {off:Nat},(∀ i xs,xss[i]?=some xs→xs.length=k∧RepAt c b (off+i * k) xs)→RepAt c b off xss.flatten
 | [],_,_=>by simp [RepAt]
 | xs :: xss,off,h=>by
  obtain ⟨h1,h2⟩:=h 0 xs rfl
  rw [List.flatten_cons]
  refine RepAt.append (by simpa using h2) (RepAt.flatten (k:=k) fun i ys hi=>?_)
  obtain ⟨h3,h4⟩:=h (i+1) ys (by simpa using hi)
  refine ⟨h3,?_⟩
  rw [h1]
  have e:off+k+i * k=off+(i+1) * k:=by rw [Y1n];omega
  rw [e];exact h4
theorem cells_at {a:Addr} {k:Nat} {cs:List Value} {As:List AVal} (ha:a.spot=none) (h:W.cells? 0 a k=some cs) (hr:RepL (Cz.start W) As cs):RepAt (Cz.start W) a.block a.off As:=by
 have h1:(Ya k).mapM (fun i=>W.cell? (a.add i))=some cs:=by
  unfold World.cells? at h;simpa using h
 have h2:∀ i v,cs[i]?=some v→W.cell? ⟨a.block,a.off+i,none⟩=some v:=by
  intro i v hi
  have hlt:=(Yn.1 hi).1
  have hl:=mapM_some_length h1
  have:=mapM_some_get h1 i i (by rw [List.getElem?_range];rw [List.length_range] at hl;omega)
  rw [hi] at this
  have e:a.add i=⟨a.block,a.off+i,none⟩:=by obtain ⟨b,o,q⟩:=a;simp only at ha;subst ha;exact yzu _ _ _
  rw [e] at this;exact this
 have key:∀ (As:List AVal) (cs:List Value) (off:Nat),RepL (Cz.start W) As cs→(∀ i v,cs[i]?=some v→W.cell? ⟨a.block,off+i,none⟩=some v)→RepAt (Cz.start W) a.block off As:=by
  intro As
  induction As with
  | nil=>intro cs off _ _;simp [RepAt]
  | cons A As ih =>
   intro cs off hr hc
   cases cs with
   | nil=>simp [RepL] at hr
   | cons v cs =>
    simp only [RepL] at hr
    simp only [RepAt]
    refine ⟨⟨v,(by have:=hc 0 v rfl;exact this),hr.1⟩,ih cs (off+1) hr.2 fun i u hi=>?_⟩
    have:=hc (i+1) u (by simpa using hi)
    rw [← this];congr 2;omega
 exact key As cs a.off hr h2
theorem yzfb {α:Type} {k:Nat}:∀ {xss:List (List α)},(∀ (i:Nat) (As:List α),xss[i]?=some As→As.length=k)→xss.flatten.length=xss.length * k
 | [],_=>by simp
 | x :: xss,h=>by
  rw [List.flatten_cons,Y5,h 0 x rfl,yzfb (k:=k) fun i As hi=>h (i+1) As (by simpa using hi),Ye,Y1n]
  omega
theorem trod_rep (good:TypeId→Bool) (hgood:∀ t,good t=true→(∃ k,P.underlying t=some (.int k))∨P.underlying t=some .bool∨P.underlying t=some .string∨(∃ e,P.underlying t=some (.slice e)∧good e=true∧0<P.cellsOf e)∨∃ fs,P.underlying t=some (.struct fs)∧(∀ f∈fs.toList,good f.type=true)∧contig P fs.toList 0 (P.cellsOf t)=true) :
  ∀ (fuel:Nat) (t:TypeId) (cs:List Value) (x:DataW H×List MemPlace),good t=true→DataW.trod enc P W 0 sp held fuel t cs=some x→∃ As,Shp P t As∧RepL (Cz.start W) As cs:=by
 intro fuel
 induction fuel with
 | zero=>intro t cs x _ h;simp [DataW.trod] at h
 | succ fuel ih =>
  intro t cs x hg h
  rcases hgood t hg with ⟨k,ht⟩ | ht | ht | ⟨e,ht,hge,hpos⟩ | ⟨fs,ht,hgf,hcon⟩
  ·unfold DataW.trod at h
   rw [ht] at h
   split at h <;> simp_all
   rename_i k' n hk
   obtain ⟨⟨rfl,hw⟩,_⟩:=h
   exact ⟨[.val (.int _ n)],.int ht hw,by simp [RepL,Rep]⟩
  ·unfold DataW.trod at h
   rw [ht] at h
   split at h <;> simp_all
   rename_i b
   exact ⟨[.val (.bool b)],.bool ht,by simp [RepL,Rep]⟩
  ·unfold DataW.trod at h
   rw [ht] at h
   split at h <;> simp_all
   rename_i s
   exact ⟨[.val (.string s)],.string ht h.1,by simp [RepL,Rep]⟩
  ·rcases DataW.trod_slice ht h with ⟨rfl,_⟩ | ⟨a,len,cap,elems,rest,n,hn,rfl,_,_,hl,hc,hel,helem,_,_⟩
   ·refine ⟨[.ro (some (some 0)) (P.cellsOf e) ([]:List (List AVal)).flatten],.slice ht (by simp) (by simp) (by simp),?_⟩
    simp only [RepL,Rep,and_true]
    exact ⟨none,0,0,rfl,hpos,by simp,⟨Y1h _,by simp⟩,(by intro n e;cases e;exact ⟨fun h=>(by cases h),.inl (by simp)⟩),.inl (by simp)⟩
   ·have hn':n=fuel:=by omega
    subst hn'
    have hel2:∀ i,i<len→∃ cs As,W.cells? 0 (a.add (i * P.cellsOf e)) (P.cellsOf e)=some cs∧Shp P e As∧RepL (Cz.start W) As cs:=by
     intro i hi
     have h1:=helem i hi
     rw [Y2 (by omega),Option.bind_eq_some_iff] at h1
     obtain ⟨cs,h2,h3⟩:=h1
     obtain ⟨As,h4,h5⟩:=ih e cs _ hge h3
     exact ⟨cs,As,h2,h4,h5⟩
    have hex:∃ xss:List (List AVal),xss.length=len∧∀ i As,xss[i]?=some As→∃ cs,W.cells? 0 (a.add (i * P.cellsOf e)) (P.cellsOf e)=some cs∧Shp P e As∧RepL (Cz.start W) As cs:=by
     have:∀ m,m≤len→∃ xss:List (List AVal),xss.length=m∧∀ i As,xss[i]?=some As→∃ cs,W.cells? 0 (a.add (i * P.cellsOf e)) (P.cellsOf e)=some cs∧Shp P e As∧RepL (Cz.start W) As cs:=by
      intro m
      induction m with
      | zero=>intro _;exact ⟨[],rfl,by simp⟩
      | succ m ihm =>
       intro hm
       obtain ⟨xss,h1,h2⟩:=ihm (by omega)
       obtain ⟨cs,As,h3,h4,h5⟩:=hel2 m (by omega)
       refine ⟨xss ++ [As],by simp [h1],fun i Bs hi=>?_⟩
       by_cases hlt:i<xss.length
       ·rw [Y10 hlt] at hi;exact h2 i Bs hi
       ·have hi2:=(Yn.1 hi).1
        have:i=m:=by simp at hi2;omega
        subst this
        rw [Yv (by omega),h1,Y1l] at hi
        simp only [List.getElem?_cons_zero,Option.some.injEq] at hi
        subst hi
        exact ⟨cs,h3,h4,h5⟩
     exact this len (Y1h _)
    obtain ⟨xss,hxl,hxs⟩:=hex
    have hlen:∀ (i:Nat) (As:List AVal),xss[i]?=some As→As.length=P.cellsOf e:=by
     intro i As hi
     obtain ⟨cs,h1,_,h2⟩:=hxs i As hi
     rw [h2.length]
     unfold World.cells? at h1
     simp only [Y1j,if_true] at h1
     rw [mapM_some_length h1,List.length_range]
    have hflat:xss.flatten.length=len * P.cellsOf e:=by
     rw [yzfb hlen,hxl]
    refine ⟨[.ro (some (some 0)) (P.cellsOf e) xss.flatten],.slice ht ?_ ?_ (by omega),?_⟩
    ·intro xs hm
     obtain ⟨i,hi⟩:=List.getElem?_of_mem hm
     obtain ⟨_,_,h2,_⟩:=hxs i xs hi
     exact h2
    ·intro xs hm
     obtain ⟨i,hi⟩:=List.getElem?_of_mem hm
     exact hlen i xs hi
    ·simp only [RepL,Rep,and_true]
     have key:xss.flatten.length=0∨∃ b off,some a=some (⟨b,off,none⟩:Addr)∧(Cz.start W).imm b∧RepAt (Cz.start W) b off xss.flatten:=?_
     ·refine ⟨some a,len,cap,rfl,hpos,hflat,⟨hl,hc⟩,?_,key⟩
      intro n e;cases e
      refine ⟨fun h=>(by cases h),?_⟩
      rcases key with h | ⟨b,off,h1,h2,_⟩
      ·exact .inl h
      ·exact .inr ⟨b,off,h1,h2.2.1⟩
     by_cases h0:len=0
     ·left;rw [hflat,h0,Nat.zero_mul]
     ·right
      obtain ⟨cs0,As0,h1,_,h2⟩:=hel2 0 (by omega)
      have hfirst:∃ v,W.cell? (a.add 0)=some v:=by
       unfold World.cells? at h1
       simp only [Y1j,if_true] at h1
       have h3:=mapM_some_length h1
       rw [List.length_range] at h3
       have h4:=mapM_some_get h1 0 0 (by rw [List.getElem?_range];exact hpos)
       rw [Y2 (by omega)] at h4
       refine ⟨cs0[0]'(by omega),?_⟩
       rw [← h4];simp [Addr.add]
      obtain ⟨v,hv⟩:=hfirst
      obtain ⟨b,off,spot⟩:=a
      have hs:spot=none:=by simpa [Addr.add] using World.cell?_spot hv
      subst hs
      rw [yzu,Y1p] at hv
      refine ⟨b,off,rfl,start_imm (cell_lt hv),RepAt.flatten (k:=P.cellsOf e) fun i As hi=>⟨hlen i As hi,?_⟩⟩
      obtain ⟨cs,h3,_,h4⟩:=hxs i As hi
      rw [yzu] at h3
      exact cells_at rfl h3 h4
  ·unfold DataW.trod at h
   rw [ht] at h
   simp only [] at h
   split at h
   ·rename_i hlen
    simp only [Y1w] at h
    obtain ⟨xs,hxs,_⟩:=h
    have key:∀ (fl:List Field) (off:Nat) (ys:List (DataW H×List MemPlace)),(∀ f∈fl,good f.type=true)→contig P fl off (P.cellsOf t)=true →
      fl.mapM (fun f=>DataW.trod enc P W 0 sp held fuel f.type ((cs.drop f.offset).take (P.cellsOf f.type)))=some ys→off≤cs.length→∃ As,ShpF P fl As∧RepL (Cz.start W) As (cs.drop off):=by
     intro fl
     induction fl with
     | nil =>
      intro off ys _ hc _ _
      simp only [contig,beq_iff_eq] at hc
      refine ⟨[],.nil,?_⟩
      rw [List.drop_of_length_le (by omega)];simp [RepL]
     | cons f fl ihf =>
      intro off ys hg hc hm hoff
      simp only [contig,Y20,beq_iff_eq] at hc
      obtain ⟨hc1,hc2⟩:=hc
      rw [List.mapM_cons] at hm
      simp only [Option.bind_eq_bind,Option.bind_eq_some_iff] at hm
      obtain ⟨y,hy,ys',hys,_⟩:=hm
      obtain ⟨As,hA,hR⟩:=ih f.type _ _ (hg f (by simp)) hy
      have hle:off+P.cellsOf f.type≤cs.length:=by
       have:∀ (fl:List Field) (o n:Nat),contig P fl o n=true→o≤n:=by
        intro fl
        induction fl with
        | nil=>intro o n h;simp only [contig,beq_iff_eq] at h;omega
        | cons g fl ihg =>
         intro o n h
         simp only [contig,Y20] at h
         have:=ihg _ _ h.2;omega
       have:=this _ _ _ hc2;omega
      obtain ⟨Bs,hB,hS⟩:=ihf (off+P.cellsOf f.type) ys' (fun g hgm=>hg g (by simp [hgm])) hc2 hys hle
      refine ⟨As ++ Bs,.cons hA hB,?_⟩
      rw [hc1] at hR
      have e:cs.drop off=(cs.drop off).take (P.cellsOf f.type) ++ cs.drop (off+P.cellsOf f.type):=by
       rw [← List.drop_drop,List.take_append_drop]
      rw [e]
      exact RepL.append hR hS
    obtain ⟨As,h1,h2⟩:=key fs.toList 0 xs hgf hcon hxs (Y1j _)
    exact ⟨As,.struct ht h1,by simpa using h2⟩
   ·cases h
end
end Go.Ab
namespace Go.Ab
section
variable {H:Type} {enc:TypeId×Value→H} {P:Program}
def ArgShp (P:Program) (t:TypeId) (A:AVal):Prop:=Shp P t [A]∧(∀ fs,P.underlying t≠some (.struct fs))∨∃ As fs,P.underlying t=some (.struct fs)∧A=.st As∧Shp P t As
inductive ArgsShp (P:Program):List TypeId→List AVal→Prop where
 | nil:ArgsShp P [] []
 | cons {t:TypeId} {ts:List TypeId} {A:AVal} {As:List AVal}:ArgShp P t A→ArgsShp P ts As→ArgsShp P (t :: ts) (A :: As)
theorem yzbo {W:World} {c1:Cz} (G:Good W (fun _=>False) c1):RowKit.Below W.heap.size W c1.w :=
 ⟨G.os,G.tape.1,G.output,G.size,fun k hk=>G.frame k hk (fun h=>h)⟩
theorem law_calls {W:World} {ts:List TypeId} {args:Array Value} {ds:List (DataW H)} {ps:List MemPlace}
  (hread:∀ (j:Nat) (t:TypeId) (v:Value) (d:DataW H) (p:List MemPlace),ts[j]?=some t→args[j]?=some v→DataW.Trod enc P W 0 (fun _=>true) true t v d p→∃ A,ArgShp P t A∧Rep (Cz.start W) A v)
  (hA:DataW.TrodAll enc P W 0 (fun _=>true) true ts args.toList ds ps):∃ As,ArgsShp P ts As∧RepL (Cz.start W) As args.toList:=by
 have key:∀ (ts':List TypeId) (vs:List Value) (off:Nat) (ds:List (DataW H)) (ps:List MemPlace),(∀ (i:Nat) t,ts'[i]?=some t→ts[off+i]?=some t)→(∀ (i:Nat) v,vs[i]?=some v→args[off+i]?=some v) →
   DataW.TrodAll enc P W 0 (fun _=>true) true ts' vs ds ps→∃ As,ArgsShp P ts' As∧RepL (Cz.start W) As vs:=by
  intro ts'
  induction ts' with
  | nil =>
   intro vs off ds ps _ _ h
   cases vs with
   | nil=>exact ⟨[],.nil,by simp [RepL]⟩
   | cons v vs=>cases ds <;> simp [DataW.TrodAll] at h
  | cons t ts' ih =>
   intro vs off ds ps ht hv h
   cases vs with
   | nil=>simp [DataW.TrodAll] at h
   | cons v vs =>
    cases ds with
    | nil=>simp [DataW.TrodAll] at h
    | cons d ds =>
     simp only [DataW.TrodAll] at h
     obtain ⟨p,q,h1,h2,_⟩:=h
     obtain ⟨A,hA,hR⟩:=hread off t v d p (by simpa using ht 0 t rfl) (by simpa using hv 0 v rfl) h1
     obtain ⟨As,hAs,hRs⟩:=ih vs (off+1) ds q (fun i t' ht'=>by have:=ht (i+1) t' (by simpa using ht');rw [← this];congr 1;omega)
      (fun i v' hv'=>by have:=hv (i+1) v' (by simpa using hv');rw [← this];congr 1;omega) h2
     exact ⟨A :: As,.cons hA hAs,by simp only [RepL];exact ⟨hR,hRs⟩⟩
 exact key ts args.toList 0 ds ps (fun i t h=>by simpa using h) (fun i v hv=>by simpa using hv) hA
def GoodTypes (P:Program) (good:TypeId→Bool):Prop:=∀ t,good t=true→(∃ k,P.underlying t=some (.int k))∨P.underlying t=some .bool∨P.underlying t=some .string ∨
 (∃ e,P.underlying t=some (.slice e)∧good e=true∧0<P.cellsOf e)∨∃ fs,P.underlying t=some (.struct fs)∧(∀ f∈fs.toList,good f.type=true)∧contig P fs.toList 0 (P.cellsOf t)=true
def goodOK (P:Program) (l:List TypeId):Bool:=l.all fun t=>match P.underlying t with
 | some (.int _)=>true
 | some .bool=>true
 | some .string=>true
 | some (.slice e)=>l.contains e && decide (0<P.cellsOf e)
 | some (.struct fs)=>fs.toList.all (fun f=>l.contains f.type) && contig P fs.toList 0 (P.cellsOf t)
 | _=>false
theorem good_of {l:List TypeId} (h:goodOK P l=true):GoodTypes P (fun t=>l.contains t):=by
 intro t ht
 unfold goodOK at h
 rw [Yo] at h
 have h1:=h t (by simpa using ht)
 split at h1
 ·rename_i k hk;exact .inl ⟨k,hk⟩
 ·rename_i hk;exact .inr (.inl hk)
 ·rename_i hk;exact .inr (.inr (.inl hk))
 ·rename_i e hk
  simp only [Y20,decide_eq_true_eq] at h1
  exact .inr (.inr (.inr (.inl ⟨e,hk,h1.1,h1.2⟩)))
 ·rename_i fs hk
  simp only [Y20,Yo] at h1
  exact .inr (.inr (.inr (.inr ⟨fs,hk,h1.1,h1.2⟩)))
 ·cases h1
theorem read_arg {W:World} {r:Reach} {base:Nat} {good:TypeId→Bool} (hgood:GoodTypes P good) {t:TypeId} (hg:good t=true) {v:Value} (hok:Value.okWide P W r base t v) {d:DataW H} {p:List MemPlace}
  (h:DataW.Trod enc P W 0 (fun _=>true) true t v d p):∃ A,ArgShp P t A∧Rep (Cz.start W) A v:=by
 obtain ⟨fuel,h⟩:=h
 obtain ⟨As,hS,hR⟩:=trod_rep good hgood fuel t _ _ hg h
 have one:(∀ cs,v≠.agg cs)→(∀ fs,P.underlying t≠some (.struct fs))→∃ A,ArgShp P t A∧Rep (Cz.start W) A v:=by
  intro hv hns
  have e:v.cells.toList=[v]:=by
   cases v with
   | agg cs=>exact absurd rfl (hv cs)
   | _=>rfl
  rw [e] at hR
  match As,hS,hR with
  | [A],hS,hR=>exact ⟨A,.inl ⟨hS,hns⟩,by simpa [RepL] using hR⟩
  | [],_,hR=>simp [RepL] at hR
  | _ :: _ :: _,_,hR=>simp [RepL] at hR
 rcases hgood t hg with ⟨k,ht⟩ | ht | ht | ⟨e,ht,_⟩ | ⟨fs,ht,_⟩
 ·obtain ⟨n,rfl⟩:=WideShapes.okWide_int ht hok
  exact one (fun _ h=>by cases h) (fun fs h=>by rw [ht] at h;cases h)
 ·obtain ⟨b,rfl,_⟩:=RowKit.open_bool ht hok ⟨fuel,h⟩
  exact one (fun _ h=>by cases h) (fun fs h=>by rw [ht] at h;cases h)
 ·obtain ⟨s,rfl⟩:=WideShapes.okWide_string ht hok
  exact one (fun _ h=>by cases h) (fun fs h=>by rw [ht] at h;cases h)
 ·obtain ⟨a,len,cap,rfl⟩:=WideShapes.okWide_slice ht hok
  exact one (fun _ h=>by cases h) (fun fs h=>by rw [ht] at h;cases h)
 ·obtain ⟨cs,rfl,_⟩:=WideShapes.okWide_struct ht hok
  exact ⟨.st As,.inr ⟨As,fs,ht,rfl,hS⟩,by simp only [Rep];exact ⟨cs,rfl,hR⟩⟩
theorem law_true {W:World} {f:FuncId} {args:Array Value} {As:List AVal} (hcon:Fun P f As (bv true)) (hR:RepL (Cz.start W) As args.toList) :
  Calls P f args W fun e W'=>e=.returned (.bool true)∧RowKit.Below W.heap.size W W':=by
 have h:=hcon.2 (Cz.start W) (fun _=>False) args.toList (yzd3 W) (yzbj W) hR
 have e:args.toList.toArray=args:=by simp
 rw [e] at h
 refine h.mono ?_
 rintro e W' ⟨v,c1,outs,rows,res,⟨_,_,rfl⟩,he,rfl,G,_,hrep,_⟩
 have:v=.bool true:=by simpa [Rep] using hrep
 subst this
 exact ⟨he,yzbo G⟩
theorem yzbh (hl:laidOutB P=true) {W W':World} (hb:RowKit.Below W.heap.size W W'):∀ (ts:List TypeId) (vs:List Value) (ds:List (DataW H)) (ps:List MemPlace),(∀ t∈ts,P.readableRec t=true∧t<P.types.size)→(∀ x∈ps,x.block<W.heap.size) →
  DataW.TrodAll enc P W 0 (fun _=>true) true ts vs ds ps→DataW.TrodAll enc P W' 0 (fun b=>decide (b<W.heap.size)) true ts vs ds ps
 | [],[],[],ps,_,_,h=>h
 | [],_ :: _,_,_,_,_,h=>by simp [DataW.TrodAll] at h
 | [],[],_ :: _,_,_,_,h=>by simp [DataW.TrodAll] at h
 | _ :: _,[],_,_,_,_,h=>by simp [DataW.TrodAll] at h
 | _ :: _,_ :: _,[],_,_,_,h=>by simp [DataW.TrodAll] at h
 | t :: ts,v :: vs,d :: ds,ps,hr,hlt,h=>by
  simp only [DataW.TrodAll] at h ⊢
  obtain ⟨p,q,h1,h2,rfl⟩:=h
  obtain ⟨r1,r2⟩:=hr t (by simp)
  exact ⟨p,q,RowKit.Below.trod hl r1 r2 h1 hb fun x hx=>hlt x (by simp [hx]),yzbh hl hb ts vs ds q (fun t' ht=>hr t' (by simp [ht])) (fun x hx=>hlt x (by simp [hx])) h2,rfl⟩
theorem law_post {fn:Func} {s:ChangeSpec} {f:FuncId} {W:World} {args:Array Value} {ds gs:List (DataW H)} {before:List MemPlace} {tb:TypeId} {fresh handsOn:Bool} (hv:s.vars=[]) (hl:laidOutB P=true)
  (hr:∀ t∈fn.params.toList,P.readableRec t=true∧t<P.types.size) (hres:fn.resultTypes=#[tb]) (hb:P.underlying tb=some .bool)
  (hs:ds.length=fn.params.size→(s.fn H ds).results=[.lit (.bool true)]∧(s.fn H ds).args=ds∧(s.fn H ds).vars=[])
  (hW:DataW.Whole enc P fn.params.toList s.vars false W args.toList ds gs before)
  {good:TypeId→Bool} (hgood:GoodTypes P good) (hgp:∀ t∈fn.params.toList,good t=true) {base:Nat} (hval:∀ (j:Nat) t v,fn.params[j]?=some t→args[j]?=some v→Value.okWide P W .any base t v)
  (hcon:∀ As,ArgsShp P fn.params.toList As→Fun P f As (bv true)) :
  Calls P f args W fun e W'=>∃ v,e=.returned v∧s.post enc P fn false fresh handsOn false W args v W':=by
 have hW':=hW
 obtain ⟨p,q,hA,hV,rfl,_,_⟩:=hW
 rw [hv] at hV
 have hgs:gs=[]∧q=[]:=by
  cases gs with
  | nil=>exact ⟨rfl,hV⟩
  | cons g gs=>simp [DataW.TrodVars] at hV
 obtain ⟨rfl,rfl⟩:=hgs
 obtain ⟨As,h1,h2⟩:=law_calls (fun j t v d p ht hv h=>read_arg hgood (hgp t (Yw ht)) (hval j t v (by simpa using ht) hv) h) hA
 refine (law_true (hcon As h1) h2).mono ?_
 rintro e W' ⟨he,hbel⟩
 have hlen:ds.length=fn.params.size:=by
  have:=(trodAll_length hA).2
  simpa using this
 obtain ⟨s1,s2,s3⟩:=hs hlen
 refine ⟨_,he,ds,[],p ++ [],[],p,[],hW',?_,?_,?_,hbel.frame _,fun h=>by cases h⟩
 ·rw [List.append_nil,s1,hres]
  exact trodAll_cons_mk (RowKit.shut_bool hb _) ChangeShapes.trodAll_mk0
 ·rw [List.append_nil,s2]
  exact yzbh hl hbel _ _ _ _ hr (fun x hx=>hA.lt x hx) hA
 ·rw [List.append_nil,s3,hv];rfl
end
end Go.Ab
namespace Go.Ab
abbrev RowC (P:Program) (g:FuncId) (args:List AVal) (Q:List AVal→Prop):Prop:=Fn P g args fun rows res=>∃ cs v,Q cs∧flatL cs∧rows=[.row v 1 true cs]∧res=.own 6000 v
theorem rowC_of {P:Program} {g:FuncId} {F:AFn} (hm:P.follows .mixedOrders=true) {no:Option (List Nat×List FuncId)} (hF:cFn (drV no) P g F) {args:List AVal} (hargs:args.length=F.nparams) {Q:List AVal→Prop}
  (h:wpD P F.code (finQ fun σ=>(∀ x∈F.res,σ.there x)∧∃ r v cs,r<5000∧σ.value F.res=AVal.own r v∧σ.hp r=AObj.row v 1 true cs∧flatL cs∧freshL cs∧Q cs) (St.init args [])):RowC P g args Q:=by
 refine yz90 hm hF hargs (by simp) (yzl _ _ _ _ (fun e σ he=>?_) h)
 have:((∀ x∈F.res,σ.there x)∧∃ r v cs,r<5000∧σ.value F.res=AVal.own r v∧σ.hp r=AObj.row v 1 true cs∧flatL cs∧freshL cs∧Q cs)→_:=fun ⟨h1,r,v,cs,hr,h2,h3,h4,h5,h6⟩ =>
  (show (∀ x∈F.res,σ.there x)∧∃ ids:List Nat,ids.length≤1000∧ids.Nodup∧(∀ n∈ids,n<5000)∧(σ.value F.res).fresh∧(∀ n∈ids,(σ.hp n).fresh)∧(∀ j,j<([]:List AObj).length→(σ.hp (5000+j)).fresh) ∧
   (fun outs rows res=>outs=[]∧∃ cs v,Q cs∧flatL cs∧rows=[AObj.row v 1 true cs]∧res=AVal.own 6000 v) ((Ya ([]:List AObj).length).map fun j=>(σ.hp (5000+j)).ren (expo ids) id) (ids.map fun n=>(σ.hp n).ren (expo ids) id) ((σ.value F.res).ren (expo ids) id) from
  ⟨h1,[r],by simp,by simp,by simpa using hr,by rw [h2];simp [AVal.fresh],by simp only [Y9,forall_eq,h3];exact h5,by simp,rfl,cs,v,h6,h4,
   by simp only [Y1,Yb,h3,yz1p,yzq cs h4,id],by rw [h2,yz5c (expo0 hr)];rfl⟩)
 cases e with
 | exit _=>exact he
 | normal=>exact this he
 | ret=>exact this he
theorem yz46 {k:IntKind} {xs:List Int}:flatL (intsK k xs):=yz13 fun A hA=>by
 simp only [Y3] at hA
 obtain ⟨x,_,rfl⟩:=hA
 exact ⟨_,rfl⟩
section
variable {P:Program} {pu:Bool} {σ:St} {g:FuncId} {As args:List AVal} {d:Nat} {s:Nat→Nat} {K:St→Prop}
theorem call_rowC {Q:List AVal→Prop} (h:RowC P g args Q) (hco:CoeL σ.hp [] true args As) (hg:σ.hp d=.gone) (hex:∃ cs,Q cs∧flatL cs)
  (hk:∀ cs v,Q cs→K (St.put ⟨σ.tm,upd σ.hp d (.row v 1 true cs)⟩ (some d) (.own d v))):wpCall P pu σ g As (some d) s K:=by
 refine yz5r h hco (fun _=>?_) ?_
 ·obtain ⟨cs,h1,h2⟩:=hex
  exact ⟨_,_,cs,0,h1,h2,rfl,rfl⟩
 ·rintro rows res ⟨cs,v,hq,hf,rfl,rfl⟩
  refine ⟨by simp,?_,?_⟩
  ·rw [Y1x,yzw];exact hg
  ·rw [Y1x,yz2x,yz1p,yzq cs hf,Y7,yz1f]
   exact hk cs (s v) hq
abbrev RowI (P:Program) (g:FuncId) (args:List AVal) (Q:List Int→Prop):Prop:=RowC P g args fun cs=>∃ xs,cs=ints xs∧Q xs
theorem yz1k {P:Program} {g:FuncId} {args:List AVal} {F:AFn} (hm:P.follows .mixedOrders=true) {no:Option (List Nat×List FuncId)} (hF:cFn (drV no) P g F) (hargs:args.length=F.nparams) {Q:List Int→Prop}
  (h:wpD P F.code (finQ fun σ=>(∀ x∈F.res,σ.there x)∧∃ r v xs,r<5000∧σ.value F.res=AVal.own r v∧σ.hp r=AObj.row v 1 true (ints xs)∧Q xs) (St.init args [])):RowI P g args Q:=by
 refine rowC_of hm hF hargs (yzl _ _ _ _ (fun e σ he=>?_) h)
 have:((∀ x∈F.res,σ.there x)∧∃ r v xs,r<5000∧σ.value F.res=AVal.own r v∧σ.hp r=AObj.row v 1 true (ints xs)∧Q xs)→_:=fun ⟨h1,r,v,xs,h2,h3,h4,h5⟩ =>
  (show (∀ x∈F.res,σ.there x)∧∃ r v cs,r<5000∧σ.value F.res=AVal.own r v∧σ.hp r=AObj.row v 1 true cs∧flatL cs∧freshL cs∧∃ xs,cs=ints xs∧Q xs from
   ⟨h1,r,v,ints xs,h2,h3,h4,yz46,of_eq_true (yz2i (k:=.i64)),xs,rfl,h5⟩)
 cases e with
 | exit _=>exact he
 | normal=>exact this he
 | ret=>exact this he
theorem yzm {Q:List Int→Prop} (h:RowI P g args Q) (hco:CoeL σ.hp [] true args As) (hg:σ.hp d=.gone) (hex:∃ xs,Q xs)
  (hk:∀ xs v,Q xs→K (St.put ⟨σ.tm,upd σ.hp d (.row v 1 true (ints xs))⟩ (some d) (.own d v))):wpCall P pu σ g As (some d) s K:=by
 refine call_rowC h hco hg ?_ ?_
 ·obtain ⟨xs,hx⟩:=hex
  exact ⟨ints xs,⟨xs,rfl,hx⟩,yz46⟩
 ·rintro cs v ⟨xs,rfl,hx⟩
  exact hk xs v hx
end
structure Aut (n:Int) (next:List (List Int)):Prop where
 n1:1≤n
 n2:n≤10
 l1:1≤next.length
 l2:next.length≤3
 row:∀ row∈next,(row.length:Int)=n∧∀ x∈row,0≤x∧x<n
theorem yz1t {hp:Nat→AObj} {m:List Nat} {len:Bool} {xs:List Int}:CoeL hp m len (ints xs) (ints xs):=yz2q fun A hA=>by simp only [Y3] at hA;obtain ⟨x,_,rfl⟩:=hA;exact ⟨_,rfl⟩
def rwo (xss:List (List Int)):List AVal:=xss.map fun xs=>.ro (some (some 0)) 1 (ints xs)
theorem dnL_rwo {xss:List (List Int)}:dnL (rwo xss)=rwo xss:=by
 simp only [yz17,rwo,Yj]
 exact Yg fun xs _=>by simp [AVal.dn,ints,yz17,dnNm]
theorem mvL_rwo {a v b m:Nat} {xss:List (List Int)}:mvL a v b m (rwo xss)=rwo xss:=by
 simp only [yz2j,rwo,Yj]
 exact Yg fun xs _=>by simp [AVal.mv,ints,yz2j]
theorem rwo_len {xss:List (List Int)}:(rwo xss).length=xss.length:=by simp [rwo]
end Go.Ab
namespace Go.Ab
theorem yzar {P:Program} {t e:TypeId} (h1:P.underlying t=some (.slice e)) (h2:P.underlying e=some (.int .u8)) (h3:P.cellsOf e=1) {A:AVal} (h:ArgShp P t A) :
  ∃ code,A=.ro (some (some 0)) 1 (intsK .u8 code)∧∀ x∈code,0≤x∧x≤255:=by
 have one:∀ xs,Shp P e xs→∃ n,xs=[.val (.int .u8 n)]∧0≤n∧n≤255:=by
  intro xs hx
  cases hx with
  | int hk hw =>
   rw [h2] at hk
   cases hk
   simp only [Lit.wf,Y20,decide_eq_true_eq,IntKind.min,IntKind.max] at hw
   refine ⟨_,rfl,?_⟩
   simp [IntKind.signed,IntKind.bits] at hw
   omega
  | bool hk=>rw [h2] at hk;cases hk
  | string hk _=>rw [h2] at hk;cases hk
  | slice hk _ _ _=>rw [h2] at hk;cases hk
  | struct hk _=>rw [h2] at hk;cases hk
 rcases h with ⟨hS,_⟩ | ⟨As,fs,hs,_⟩
 ·generalize hl:[A]=l at hS
  cases hS with
  | int hk _=>rw [h1] at hk;cases hk
  | bool hk=>rw [h1] at hk;cases hk
  | string hk _=>rw [h1] at hk;cases hk
  | struct hk _=>rw [h1] at hk;cases hk
  | slice hk hx hlen hm =>
   rename_i e' xss
   rw [h1] at hk
   cases hk
   simp only [List.cons.injEq,and_true] at hl
   subst hl
   rw [h3]
   clear hm hlen
   have:∃ code,xss.flatten=intsK .u8 code∧∀ x∈code,0≤x∧x≤255:=by
    induction xss with
    | nil=>exact ⟨[],rfl,by simp⟩
    | cons xs xss ih =>
     obtain ⟨n,rfl,hn⟩:=one xs (hx xs (by simp))
     obtain ⟨code,hc,hb⟩:=ih fun ys hy=>hx ys (by simp [hy])
     refine ⟨n :: code,by rw [List.flatten_cons,hc];rfl,fun x hx=>?_⟩
     rcases Y8.1 hx with rfl | hx
     ·exact hn
     ·exact hb x hx
   obtain ⟨code,hc,hb⟩:=this
   exact ⟨code,by rw [hc],hb⟩
 ·rw [h1] at hs;cases hs
theorem two_bytes {P:Program} {t e:TypeId} (h1:P.underlying t=some (.slice e)) (h2:P.underlying e=some (.int .u8)) (h3:P.cellsOf e=1) {g:FuncId}
  (hlaw:∀ code more:List Int,(∀ x∈code,0≤x∧x≤255)→(∀ x∈more,0≤x∧x≤255)→Fun P g [.ro (some (some 0)) 1 (intsK .u8 code),.ro (some (some 0)) 1 (intsK .u8 more)] (bv true)) :
  ∀ As,ArgsShp P [t,t] As→Fun P g As (bv true):=by
 intro As h
 cases h with
 | cons hA h =>
  cases h with
  | cons hB h =>
   cases h
   obtain ⟨code,rfl,hc⟩:=yzar h1 h2 h3 hA
   obtain ⟨more,rfl,hm⟩:=yzar h1 h2 h3 hB
   exact hlaw code more hc hm
end Go.Ab
namespace Go.Ab
theorem PV_val {x:Value}:PV (.val x)=(∃ v,AVal.val x=.val v∧v.oneCell'=true):=rfl
theorem PV_ro {nm:Option (Option Nat)} {k:Nat} {cs:List AVal}:PV (.ro nm k cs)=True:=rfl
attribute [go_sem]
 wpIt_0 wpIt_1 wpIt_2 itT_t itT_f odn_it itd PV_val PV_ro noObj noPtr St.mapAt keyIs keyV_val keyV_st dn_argN argN_nn Bool.or_true nodup_one beq_self_eq_true decide_true decide_false AC.kts AC.khs AC.kin Bool.true_or yzfa
 Ys List.foldl_nil forall_eq_or_imp List.toList_toArray List.getD_cons_zero List.getD_cons_succ Ye Y17
 List.take_succ_cons List.take_zero List.drop_succ_cons List.drop_zero Y1o Y1p Nat.lt_add_one Nat.zero_lt_succ wpD_skip dn_tm dn_hp
 wpD_reg wpD_kpd wpD_ad St.adopt List.getElem?_cons_zero List.getElem?_cons_succ List.set_cons_zero List.set_cons_succ Nat.one_ne_zero kd_L
 pickT pickO dn_any dn_val dn_ro dn_own dn_st dn_tup dn_ptr dn_rp dn_mp dn_clo dnL_nil dnL_cons dnL_app yzdw yzi dnL_rwn odn_box odn_row
 odn_map mv_L mvT mvO mvV_any mvV_val mvV_ro mvV_own mvV_ptr mvV_mp mvV_st mvV_tup mvV_rp mvV_clo mvL_nil mvL_cons mvL_ints mvL_rws mvL_rwn AObj.mv AObj.wv dnNm_n dnNm_sn dnNm_o dnNm_s isNew_sn isNew_s Option.map_none Y1z wpD_dnret wpD_stuck yz99 rws_snoc rws_len rwn_len rws_nil rws_app one_own one_mp one_ptr one_rp one_clo
 isRow isMap one_intsK one_rws one_rwn frz_intsK frz_rws yzbu owned_rws upd_hit wpD_seq wpD_condL wpD_block wpD_exit wpD_ret seqQ_n seqQ_e seqQ_r
 blockQ_n blockQ_e blockQ_r loopQ_n loopQ_e loopQ_r finQ_n finQ_e finQ_r wpOps_nil wpOps_L wpOp_n wpOp_g wpIns wpCk_f wpCk_t wpCk_h wpCk_m free AI.opds AI.wp AI.pre AI.eff AI.out hpw_eq AI.hq upd_L
 goneL_nil yz74 owned AVal.cells frz putAt St.slc St.nn AI.fact put_L put_none ev_t ev_c ev_f frz_ints ints_rep i2n one_ints yzfn one_iv
 one_bv one_str one_nil one_ro ints_app List.flatMap_nil List.flatMap_cons List.nodup_nil List.nil_append List.append_nil List.singleton_append
 Yu AObj.ver St.keep pickL L_hit L_miss L_nil St.init enum binV unV St.sl St.at ne_eq not_true_eq_false not_false_eq_true true_and
 and_true implies_true forall_const forall_eq St.value St.value1 St.there Y8 Yi or_false Y1v Y1x
 Bool.not_false Y21 Nat.div_one Y1 Yb Y6 Nat.mul_one false_implies
attribute [go_sem high] grd_tt grd_ff grd_tf grd_ft grd_u cnd_t cnd_f
attribute [go_sem low] grd_b cnd_b
end Go.Ab
namespace Go.Ab
open Go Go.Sort
def Left1 (w w':World) (g off:Nat) (ys:List Int):Prop:=∃ n os,w'=grow (putRow (Value.int .i64) (Sort.ahead w n) g off ys.toArray) os
section
variable {w w':World} {g off:Nat} {ys:List Int}
theorem Left1.ne (h:Left1 w w' g off ys) {b:Nat} (hb:b<w.heap.size) (hne:b≠g):w'.heap[b]?=w.heap[b]?:=by
 obtain ⟨n,os,rfl⟩:=h
 have h1:b<(w.heap.modify g (onCells (putCells (Value.int .i64) off ys.toArray))).size:=by rw [Array.size_modify];exact hb
 show (w.heap.modify g (onCells (putCells (Value.int .i64) off ys.toArray)) ++ os)[b]?=_
 rw [Y29 h1,Array.getElem?_modify,if_neg (Ne.symm hne)]
theorem Left1.at (h:Left1 w w' g off ys) {cells:Array Value} {t:TypeId} (hb:w.heap[g]?=some (.cells cells t (0,0))):w'.heap[g]?=some (.cells (putCells (Value.int .i64) off ys.toArray cells) t (0,0)):=by
 obtain ⟨n,os,rfl⟩:=h
 have hlt:g<w.heap.size:=yz6 hb
 have h1:g<(w.heap.modify g (onCells (putCells (Value.int .i64) off ys.toArray))).size:=by rw [Array.size_modify];exact hlt
 show (w.heap.modify g (onCells (putCells (Value.int .i64) off ys.toArray)) ++ os)[g]?=_
 rw [Y29 h1,Array.getElem?_modify,if_pos rfl,hb];rfl
theorem Left1.size (h:Left1 w w' g off ys):w.heap.size≤w'.heap.size:=by
 obtain ⟨n,os,rfl⟩:=h
 show w.heap.size≤(w.heap.modify g (onCells (putCells (Value.int .i64) off ys.toArray)) ++ os).size
 rw [Array.size_append,Array.size_modify];omega
theorem Left1.os (h:Left1 w w' g off ys):w'.os=w.os:=by obtain ⟨n,os,rfl⟩:=h;rfl
theorem Left1.drawn (h:Left1 w w' g off ys):w.drawn≤w'.drawn:=by obtain ⟨n,os,rfl⟩:=h;exact Nat.le_add_right _ _
theorem Left1.tape (h:Left1 w w' g off ys):w'.tape=w.tape:=by obtain ⟨n,os,rfl⟩:=h;rfl
theorem Left1.output (h:Left1 w w' g off ys):w'.output=w.output:=by obtain ⟨n,os,rfl⟩:=h;rfl
theorem yz9m {cells:Array Value} (hfit:off+ys.length≤cells.size) {m:Nat} (hm:m≤ys.length) :
  (((putCells (Value.int .i64) off ys.toArray cells).toList.drop off).take m)=(ys.take m).map fun x=>Value.int .i64 x:=by
 apply List.ext_getElem?
 intro j
 rw [Yr,Yd,Yr]
 by_cases hj:j<m
 ·rw [if_pos hj,if_pos hj,Y15,Y26]
  have h1:off+j<cells.size:=by omega
  simp only [putCells,Array.getElem?_mapIdx,Y27 h1,Y1z,List.size_toArray]
  have h2:off≤off+j∧off+j<off+ys.length:=by omega
  have h3:off+j - off=j:=by omega
  rw [if_pos h2,h3,Y2 (show j<ys.length by omega)]
  simp only [Y1z]
  have h4:ys.toArray[j]! = ys[j]:=by rw [getElem!_pos _ j (by simp;omega)];simp
  rw [h4]
 ·rw [if_neg hj,if_neg hj];rfl
theorem yzau {c:Cz}:∀ {xs:List Int},RepL c (ints xs) (xs.map fun x=>Value.int .i64 x)
 | []=>by simp [RepL]
 | x :: xs=>by
  simp only [Y1,RepL,Rep]
  exact ⟨trivial,yzau⟩
theorem yz4c {c:Cz}:∀ {xs:List Int} {vs:List Value},RepL c (ints xs) vs→vs=xs.map fun x=>Value.int .i64 x
 | [],[],_=>rfl
 | [],_ :: _,h=>by simp [RepL] at h
 | _ :: _,[],h=>by simp [RepL] at h
 | x :: xs,v :: vs,h=>by
  simp only [Y1,RepL,Rep] at h ⊢
  rw [h.1,yz4c h.2]
theorem yzb7 {c:Cz} {zs:List Int} {cells:Array Value} {t:TypeId} (hb:c.w.heap[g]?=some (.cells cells t (0,0))) (hr:RepL c (ints zs) ((cells.toList.drop off).take zs.length)) :
  Holds (Value.int .i64) c.w g off zs.toArray:=by
 have he:=yz4c hr
 intro j hj
 have hj':j<zs.length:=by simpa using hj
 have h1:((cells.toList.drop off).take zs.length)[j]?=some (Value.int .i64 zs[j]):=by
  rw [he,Yd,Y2 hj'];rfl
 rw [Yr,if_pos hj',Y15,Y26] at h1
 have h4:zs.toArray[j]! = zs[j]:=by rw [getElem!_pos _ j hj];simp
 refine ⟨?_,?_⟩
 ·rw [cell_of_row c.w g (off+j) cells t (0,0) hb,h1,h4]
 ·unfold World.frozen?
  simp [hb]
end
section
variable {P:Program} {f:FuncId}
theorem yz7l {w0:World} {outsB:Nat→Prop} {c:Cz} (G:Good w0 outsB c) {zs ys:List Int} {nn:Bool} {n cap g off m ver:Nat} {cells:Array Value} {t:TypeId} {w':World}
  (hr:c.hp 5000=.row 0 1 nn (ints zs)) (hloc:c.loc 5000=.slice (some ⟨g,off,none⟩) n cap) (hn:zs.length=n) (hcap:n≤cap) (hcm:cap≤maxLen) (hc0:cap≠0)
  (hheap:c.w.heap[g]?=some (.cells cells t (0,0))) (hfit:off+cap * 1≤cells.size) (hL:Left1 c.w w' g off ys) (hys:ys.length=zs.length) (hm:m≤ys.length)
  (hver:(m=n∧ver=0)∨¬ c.used ver) :
  Good w0 outsB (c.upd w' 5000 (.row ver 1 nn (ints (ys.take m))) (.slice (some ⟨g,off,none⟩) m cap) ver)∧Keeps c (c.upd w' 5000 (.row ver 1 nn (ints (ys.take m))) (.slice (some ⟨g,off,none⟩) m cap) ver):=by
 have hblk:blockOf (c.loc 5000)=some g:=by rw [hloc];simp [blockOf,hc0]
 refine G.upd w' 5000 _ _ ver hL.os hL.tape hL.output hL.size ?_ ?_ ?_ ?_ (hdr:=hL.drawn)
 ·intro b hb hne
  refine hL.ne hb fun e=>hne ⟨by rw [hr];simp,by rw [hblk,e]⟩
 ·intro b hb
  simp only [blockOf,hc0,if_false,Option.some.injEq] at hb
  subst hb
  exact ⟨.inl ⟨by rw [hr];simp,hblk⟩,Y1i (yz6 hheap) hL.size⟩
 ·rcases hver with ⟨h1,h2⟩ | h
  ·refine .inr (.inr ⟨by rw [hr,h2];rfl,by rw [hloc,h1],?_⟩)
   rw [h2];exact (G.verU 5000 0 (by rw [hr];rfl)).1
  ·exact .inr (.inl ⟨rfl,h⟩)
 ·intro K
  refine ⟨some ⟨g,off,none⟩,m,cap,rfl,by omega,?_,by omega,hcm,fun _=>by simp,.inr ⟨g,off,t,_,rfl,hL.at hheap,?_,?_⟩⟩
  ·simp;omega
  ·simp only [putCells,Array.size_mapIdx];exact hfit
  ·rw [Nat.mul_one,yz9m (by omega) hm]
   exact yzau
theorem con_inrow (hfn:∃ fn,P.funcs[f]?=some fn∧fn.body.isSome=true∧isNumG fn=false) (zs ys:List Int) (hF:ys.length=zs.length)
  (H:∀ g off cap w,Holds (Value.int .i64) w g off zs.toArray→g<w.heap.size→zs.length≤maxLen→zs.length≤cap →
   Calls P f #[.slice (some ⟨g,off,none⟩) zs.length cap] w fun e w'=>e=.returned (.tuple #[])∧Left1 w w' g off ys)
  (H0:∀ p cap w,Calls P f #[.slice p 0 cap] w fun e w'=>e=.returned (.tuple #[])∧w'=w) (nn:Bool) :
  Con P f [.row 0 1 nn (ints zs)] [.own 5000 0] true fun outs rows res=>outs=[.row 0 1 nn (ints ys)]∧rows=[]∧res=.tup []:=by
 refine ⟨hfn,fun c0 outsB vs G hhp hrep=>?_⟩
 have hr:c0.hp 5000=.row 0 1 nn (ints zs):=by rw [hhp];rfl
 have hne:∀ r,r≠5000→c0.hp r=.gone:=by
  intro r h
  rw [hhp]
  by_cases hg:outHp [.row 0 1 nn (ints zs)] [] r=.gone
  ·exact hg
  ·rcases yz10 hg with ⟨j,rfl,_,hj,_⟩ | ⟨i,_,_,hi,_⟩
   ·simp at hj;subst hj;exact absurd rfl h
   ·simp at hi
 match vs,hrep with
 | [v],hrep =>
 simp only [RepL,Rep,and_true] at hrep
 have hv:v=c0.loc 5000:=hrep.2 (by rw [hr];rfl)
 have hO:=G.obj 5000
 rw [hr] at hO
 obtain ⟨base,n,cap,hloc,_,hl,hnc,hcm,hnn,hcase⟩:=hO
 have hlen:zs.length=n:=by simpa using hl
 have hupd:∀ (c1:Cz) (xs:List Int),(∀ r,c1.hp r=if r=5000 then .row 0 1 nn (ints xs) else c0.hp r)→c1.hp=outHp [.row 0 1 nn (ints xs)] []:=by
  intro c1 xs h
  funext r
  rw [h r]
  by_cases e:r=5000
  ·subst e;rfl
  ·rw [if_neg e,hne r e]
   by_cases hg:outHp [AObj.row 0 1 nn (ints xs)] [] r=.gone
   ·exact hg.symm
   ·rcases yz10 hg with ⟨j,rfl,_,hj,_⟩ | ⟨i,_,_,hi,_⟩
    ·simp at hj;subst hj;exact absurd rfl e
    ·simp at hi
 have hold:∀ c1:Cz,c1.ext=c0.ext→∀ b,c1.ext b→(true=true∧c0.ext b)∨outsB b:=fun c1 h b hb=>.inl ⟨rfl,h ▸ hb⟩
 by_cases h0:zs=[]
 ·have hn0:n=0:=by rw [← hlen,h0];rfl
  subst hn0
  rw [hv,hloc]
  refine (H0 base cap c0.w).mono ?_
  rintro e w' ⟨rfl,rfl⟩
  have hF0:ys=[]:=Yh (by rw [hF,h0];rfl)
  refine ⟨_,c0,_,_,_,⟨rfl,rfl,rfl⟩,rfl,rfl,G,?_,?_,hold c0 rfl,fun _ h=>h,fun _ _ _ h=>⟨h,rfl⟩,fun _ h=>h⟩
  ·rw [hhp,hF0,h0]
  ·simp [Rep,RepL]
 ·have hn0:n≠0:=by rw [← hlen];exact fun e=>h0 (Yh e)
  have hc0:cap≠0:=by omega
  rcases hcase with h | ⟨g,off,t,cells,rfl,hheap,hfit,hrepr⟩
  ·exact absurd h hc0
  rw [hv,hloc,← hlen]
  refine (H g off cap c0.w (yzb7 hheap (by rw [hlen];simpa using hrepr)) (yz6 hheap) (by omega) (by omega)).mono ?_
  rintro e w' ⟨rfl,hL⟩
  obtain ⟨G1,K1⟩:=yz7l G hr hloc hlen hnc hcm hc0 hheap hfit hL (hF) (m:=n) (ver:=0) (by rw [hF];omega) (.inl ⟨rfl,rfl⟩)
  have htake:ys.take n=ys:=List.take_of_length_le (by rw [hF];omega)
  rw [htake] at G1 K1
  refine ⟨_,_,_,_,_,⟨rfl,rfl,rfl⟩,rfl,rfl,G1,hupd _ _ fun r=>rfl,?_,hold _ rfl,fun _ h=>h,?_,fun _ h=>.inl h⟩
  ·simp [Rep,RepL]
  ·intro r u hu h
   have:=K1.loc r u hu h
   exact this
theorem yzeu (hfn:∃ fn,P.funcs[f]?=some fn∧fn.body.isSome=true∧isNumG fn=false) (zs ys:List Int) (k:Nat) (hF:ys.length=zs.length) (hk:k≤zs.length)
  (H:∀ g off cap w,Holds (Value.int .i64) w g off zs.toArray→g<w.heap.size→zs.length≤maxLen→zs.length≤cap →
   Calls P f #[.slice (some ⟨g,off,none⟩) zs.length cap] w fun e w'=>e=.returned (.slice (some ⟨g,off,none⟩) k cap)∧Left1 w w' g off ys)
  (H0:∀ p cap w,Calls P f #[.slice p 0 cap] w fun e w'=>e=.returned (.slice p 0 cap)∧w'=w) (nn:Bool) :
  Con P f [.row 0 1 nn (ints zs)] [.own 5000 0] true fun outs rows res=>∃ v,outs=[.row v 1 nn (ints (ys.take k))]∧rows=[]∧res=.own 5000 v:=by
 refine ⟨hfn,fun c0 outsB vs G hhp hrep=>?_⟩
 have hr:c0.hp 5000=.row 0 1 nn (ints zs):=by rw [hhp];rfl
 have hne:∀ r,r≠5000→c0.hp r=.gone:=by
  intro r h
  rw [hhp]
  by_cases hg:outHp [.row 0 1 nn (ints zs)] [] r=.gone
  ·exact hg
  ·rcases yz10 hg with ⟨j,rfl,_,hj,_⟩ | ⟨i,_,_,hi,_⟩
   ·simp at hj;subst hj;exact absurd rfl h
   ·simp at hi
 match vs,hrep with
 | [v],hrep =>
 simp only [RepL,Rep,and_true] at hrep
 have hv:v=c0.loc 5000:=hrep.2 (by rw [hr];rfl)
 have hO:=G.obj 5000
 rw [hr] at hO
 obtain ⟨base,n,cap,hloc,_,hl,hnc,hcm,hnn,hcase⟩:=hO
 have hlen:zs.length=n:=by simpa using hl
 have hupd:∀ (c1:Cz) (u:Nat) (xs:List Int),(∀ r,c1.hp r=if r=5000 then .row u 1 nn (ints xs) else c0.hp r)→c1.hp=outHp [.row u 1 nn (ints xs)] []:=by
  intro c1 u xs h
  funext r
  rw [h r]
  by_cases e:r=5000
  ·subst e;rfl
  ·rw [if_neg e,hne r e]
   by_cases hg:outHp [AObj.row u 1 nn (ints xs)] [] r=.gone
   ·exact hg.symm
   ·rcases yz10 hg with ⟨j,rfl,_,hj,_⟩ | ⟨i,_,_,hi,_⟩
    ·simp at hj;subst hj;exact absurd rfl e
    ·simp at hi
 have hold:∀ c1:Cz,c1.ext=c0.ext→∀ b,c1.ext b→(true=true∧c0.ext b)∨outsB b:=fun c1 h b hb=>.inl ⟨rfl,h ▸ hb⟩
 by_cases h0:zs=[]
 ·have hn0:n=0:=by rw [← hlen,h0];rfl
  subst hn0
  rw [hv,hloc]
  refine (H0 base cap c0.w).mono ?_
  rintro e w' ⟨rfl,rfl⟩
  have hF0:ys=[]:=Yh (by rw [hF,h0];rfl)
  refine ⟨_,c0,_,_,_,⟨0,rfl,rfl,rfl⟩,rfl,rfl,G,?_,?_,hold c0 rfl,fun _ h=>h,fun _ _ _ h=>⟨h,rfl⟩,fun _ h=>h⟩
  ·rw [hhp,hF0,h0,List.take_nil]
  ·simp only [Rep];rw [hr];exact ⟨(G.verU 5000 0 (by rw [hr];rfl)).1,fun _=>hloc.symm⟩
 ·have hn0:n≠0:=by rw [← hlen];exact fun e=>h0 (Yh e)
  have hc0:cap≠0:=by omega
  rcases hcase with h | ⟨g,off,t,cells,rfl,hheap,hfit,hrepr⟩
  ·exact absurd h hc0
  rw [hv,hloc,← hlen]
  refine (H g off cap c0.w (yzb7 hheap (by rw [hlen];simpa using hrepr)) (yz6 hheap) (by omega) (by omega)).mono ?_
  rintro e w' ⟨rfl,hL⟩
  obtain ⟨u,hu⟩:=G.fin
  have hnu:¬ c0.used u:=fun h=>absurd (hu u h) (Nat.lt_irrefl _)
  obtain ⟨G1,K1⟩:=yz7l G hr hloc hlen hnc hcm hc0 hheap hfit hL (hF) (m:=k) (ver:=u) (by rw [hF];exact hk) (.inr hnu)
  refine ⟨_,_,_,_,_,⟨u,rfl,rfl,rfl⟩,rfl,rfl,G1,hupd _ _ _ fun r=>rfl,?_,hold _ rfl,fun _ h=>h,?_,fun _ h=>.inl h⟩
  ·simp only [Rep]
   refine ⟨.inr rfl,fun _=>?_⟩
   simp only [Cz.upd,if_true]
  ·intro r u' hu' h
   exact K1.loc r u' hu' h
end
end Go.Ab
namespace Go.Ab
section
variable {P:Program}
theorem shp_int {t:TypeId} {xs:List AVal} (h:P.underlying t=some (.int .i64)) (hS:Shp P t xs):∃ n,xs=[iv n]:=by
 cases hS with
 | int hk _=>rw [h] at hk;cases hk;exact ⟨_,rfl⟩
 | bool hk=>rw [h] at hk;cases hk
 | string hk _=>rw [h] at hk;cases hk
 | slice hk _ _ _=>rw [h] at hk;cases hk
 | struct hk _=>rw [h] at hk;cases hk
theorem yzam {t e:TypeId} {xs:List AVal} (h:P.underlying t=some (.slice e)) (h1:P.cellsOf e=1) (hS:Shp P t xs):∃ xss,xs=[.ro (some (some 0)) 1 (List.flatten xss)]∧∀ ys∈xss,Shp P e ys:=by
 cases hS with
 | int hk _=>rw [h] at hk;cases hk
 | bool hk=>rw [h] at hk;cases hk
 | string hk _=>rw [h] at hk;cases hk
 | struct hk _=>rw [h] at hk;cases hk
 | slice hk hx _ _ =>
  rw [h] at hk
  cases hk
  exact ⟨_,by rw [h1],hx⟩
theorem shp_ints {t e:TypeId} {xs:List AVal} (h:P.underlying t=some (.slice e)) (h1:P.cellsOf e=1) (he:P.underlying e=some (.int .i64)) (hS:Shp P t xs):∃ l,xs=[.ro (some (some 0)) 1 (ints l)]:=by
 obtain ⟨xss,rfl,hx⟩:=yzam h h1 hS
 have:∃ l,List.flatten xss=ints l:=by
  clear hS
  induction xss with
  | nil=>exact ⟨[],rfl⟩
  | cons ys xss ih =>
   obtain ⟨n,rfl⟩:=shp_int he (hx ys (by simp))
   obtain ⟨l,hl⟩:=ih fun zs hz=>hx zs (by simp [hz])
   exact ⟨n :: l,by rw [List.flatten_cons,hl];rfl⟩
 obtain ⟨l,hl⟩:=this
 exact ⟨l,by rw [hl]⟩
theorem shp_rows {t e f:TypeId} {xs:List AVal} (h:P.underlying t=some (.slice e)) (h1:P.cellsOf e=1) (he:P.underlying e=some (.slice f)) (hf1:P.cellsOf f=1) (hf:P.underlying f=some (.int .i64))
  (hS:Shp P t xs):∃ l,xs=[.ro (some (some 0)) 1 (rwo l)]:=by
 obtain ⟨xss,rfl,hx⟩:=yzam h h1 hS
 have:∃ l,List.flatten xss=rwo l:=by
  clear hS
  induction xss with
  | nil=>exact ⟨[],rfl⟩
  | cons ys xss ih =>
   obtain ⟨r,rfl⟩:=shp_ints he hf1 hf (hx ys (by simp))
   obtain ⟨l,hl⟩:=ih fun zs hz=>hx zs (by simp [hz])
   exact ⟨r :: l,by rw [List.flatten_cons,hl];rfl⟩
 obtain ⟨l,hl⟩:=this
 exact ⟨l,by rw [hl]⟩
theorem shp_flds {t:TypeId} {xs:List AVal} {fs:Array Field} (h:P.underlying t=some (.struct fs)) (hS:Shp P t xs):ShpF P fs.toList xs:=by
 cases hS with
 | int hk _=>rw [h] at hk;cases hk
 | bool hk=>rw [h] at hk;cases hk
 | string hk _=>rw [h] at hk;cases hk
 | slice hk _ _ _=>rw [h] at hk;cases hk
 | struct hk hf=>rw [h] at hk;cases hk;exact hf
theorem arg_struct {t:TypeId} {A:AVal} {fs:Array Field} (h:P.underlying t=some (.struct fs)) (hA:ArgShp P t A):∃ As,A=.st As∧ShpF P fs.toList As:=by
 rcases hA with ⟨_,h1⟩ | ⟨As,fs',h1,rfl,h2⟩
 ·exact absurd h (h1 fs)
 ·exact ⟨As,rfl,shp_flds h h2⟩
end
end Go.Ab
namespace Go.Ab
theorem Good.dn {w0:World} {outs:Nat→Prop} {c:Cz} (G:Good w0 outs c):Good w0 outs { c with hp:=fun r=>(c.hp r).dn }∧Keeps c { c with hp:=fun r=>(c.hp r).dn }:=by
 have hv:∀ r,((c.hp r).dn).ver=(c.hp r).ver:=fun r=>AObj.dn_ver _
 have hg:∀ r,(c.hp r).dn≠.gone↔c.hp r≠.gone:=fun r=>not_congr AObj.dn_gone
 have htk:∀ b,¬ c.taken b→¬ ({ c with hp:=fun r=>(c.hp r).dn }:Cz).taken b:=fun b h ⟨r,h1,h2⟩=>h ⟨r,(hg r).1 h1,h2⟩
 have K:Keeps c { c with hp:=fun r=>(c.hp r).dn }:=by
  refine ⟨fun b ⟨h1,h2,h3⟩=>⟨⟨h1,h2,htk b h3⟩,rfl⟩,fun _ _ h=>h,fun _ h=>h,?_,rfl⟩
  intro r v _ h
  have h':((c.hp r).dn).ver=some v:=h
  rw [hv] at h'
  exact ⟨h',rfl⟩
 refine ⟨⟨G.base,?_,?_,?_,?_,?_,G.outExt,?_,G.namInj,G.fin,G.os,G.tape,G.output,G.size,G.frame⟩,K⟩
 ·intro r
  exact (G.obj r).dn.keeps K fun _ _=>rfl
 ·intro r r' b h1 h2 h3 h4;exact G.inj r r' b ((hg r).1 h1) ((hg r').1 h2) h3 h4
 ·intro r b h1 h2;exact G.own r b ((hg r).1 h1) h2
 ·intro r v h
  have h':((c.hp r).dn).ver=some v:=h
  rw [hv] at h'
  exact G.verU r v h'
 ·intro r r' v h1 h2
  have h1':((c.hp r).dn).ver=some v:=h1
  have h2':((c.hp r').dn).ver=some v:=h2
  rw [hv] at h1' h2'
  exact G.verInj r r' v h1' h2'
 ·intro n b h
  obtain ⟨h1,h2,h3,h4⟩:=G.nam n b h
  exact ⟨h1,h2,h3,htk b h4⟩
theorem outHp_dn (o r:List AObj):(fun n=>(outHp o r n).dn)=outHp (o.map AObj.dn) (r.map AObj.dn):=by
 funext n
 have e:∀ (l:List AObj) (i:Nat),(l.getD i .gone).dn=(l.map AObj.dn).getD i .gone:=by
  intro l i
  rw [Y0,Y0,Yd]
  cases l[i]? <;> rfl
 unfold outHp
 split
 ·rfl
 ·split
  ·exact e _ _
  ·split
   ·exact e _ _
   ·rfl
theorem Con.dnr {P:Program} {g:FuncId} {ins:List AObj} {args:List AVal} {sh:Bool} {R R':List AObj→List AObj→AVal→Prop} (h:Con P g ins args sh R)
  (hR:∀ o r x,R o r x→R' (o.map AObj.dn) (r.map AObj.dn) x.dn):Con P g ins args sh R':=by
 refine ⟨h.1,fun c0 outsB vs h1 h2 h3=>(h.2 c0 outsB vs h1 h2 h3).mono ?_⟩
 rintro e w' ⟨v,c1,outs,rows,res,hr,he,hw,G1,hhp,hrep,hext,hold,hkeep,hused⟩
 obtain ⟨G2,K2⟩:=G1.dn
 refine ⟨v,{ c1 with hp:=fun r=>(c1.hp r).dn },_,_,_,hR _ _ _ hr,he,hw,G2,?_,(Rep.dn _ _ hrep).keeps K2,hext,hold,?_,hused⟩
 ·show (fun r=>(c1.hp r).dn)=_
  rw [hhp];exact outHp_dn _ _
 ·intro r u hu hv
  have hv':((c1.hp r).dn).ver=some u:=hv
  rw [AObj.dn_ver] at hv'
  exact hkeep r u hu hv'
def rwp (ps:List (Nat×List Int)):List AVal:=ps.map fun p=>.ro (some (some (p.1+1))) 1 (ints p.2)
def DJ (ps:List (Nat×List Int)):Prop:=ps.Pairwise fun p q=>p.2=[]∨q.2=[]∨p.1≠q.1
theorem yz7 {ps:List (Nat×List Int)}:(rwp ps).length=ps.length:=by simp [rwp]
theorem yz64:rwp []=[]:=rfl
theorem yz36 {ps:List (Nat×List Int)} {n:Nat} {xs:List Int}:rwp ps ++ [.ro (some (some (n+1))) 1 (ints xs)]=rwp (ps ++ [(n,xs)]):=by simp [rwp]
theorem yzaf {ps:List (Nat×List Int)}:dnL (rwp ps)=rws (ps.map (·.2)):=by
 simp only [yz17,rwp,rws,Yj]
 exact Yg fun p _=>by simp [AVal.dn,ints,yz17,dnNm]
theorem yzj {f:Nat→Option Nat} {s:Nat→Nat} {ps:List (Nat×List Int)}:renL f s (rwp ps)=rwp (ps.map fun p=>(s p.1,p.2)):=by
 simp only [yz1h,rwp,Yj]
 exact Yg fun p _=>by simp [AVal.ren,ints,yz1h,rnNm]
theorem DJ.ren {s:Nat→Nat} (hs:∀ x y,s x=s y→x=y) {ps:List (Nat×List Int)} (h:DJ ps):DJ (ps.map fun p=>(s p.1,p.2)):=by
 unfold DJ at h ⊢
 rw [List.pairwise_map]
 refine h.imp fun {p q} hpq=>?_
 rcases hpq with h | h | h
 ·exact .inl h
 ·exact .inr (.inl h)
 ·exact .inr (.inr fun e=>h (hs _ _ e))
theorem DJ.snoc {ps:List (Nat×List Int)} (h:DJ ps) {n:Nat} {xs:List Int} (hn:∀ p∈ps,p.2=[]∨p.1≠n):DJ (ps ++ [(n,xs)]):=by
 unfold DJ at h ⊢
 rw [Y12]
 refine ⟨h,by simp,fun p hp q hq=>?_⟩
 have hq:q=(n,xs):=by simpa using hq
 subst hq
 rcases hn p hp with h | h
 ·exact .inl h
 ·exact .inr (.inr h)
theorem yzcc {hp:Nat→AObj} {m:List Nat} {len:Bool}:∀ {ps:List (Nat×List Int)},CoeL hp m len (rwn (ps.map (·.2))) (rwp ps)
 | []=>by simp [rwn,rwp,CoeL]
 | p :: ps=>by
  have h:=yzcc (hp:=hp) (m:=m) (len:=len) (ps:=ps)
  simp only [rwn,rwp,Y1] at h ⊢
  rw [yzb,yzdy]
  exact ⟨⟨by omega,yz1t⟩,h⟩
theorem yz27 {n:Nat} {k:IntKind} {xs:List Int}:woL n (intsK k xs)=intsK k xs:=by simp [yz4g,intsK,AVal.wo]
theorem yzaj {n:Nat}:∀ {ps:List (Nat×List Int)},(∀ p∈ps,p.2=[]∨p.1≠n)→woL n (rwp ps)=rwp ps
 | [],_=>by simp [rwp,woL]
 | (m,[]) :: ps,h=>by
  have h1:=yzaj (n:=n) (ps:=ps) fun p hp=>h p (by simp [hp])
  simp only [rwp,Y1] at h1 ⊢
  simp only [woL,h1]
  simp [AVal.wo]
 | (m,x :: xs) :: ps,h=>by
  have h1:=yzaj (n:=n) (ps:=ps) fun p hp=>h p (by simp [hp])
  have hm:m≠n:=by
   rcases h (m,x :: xs) (by simp) with h | h
   ·cases h
   ·exact h
  simp only [rwp,Y1] at h1 ⊢
  simp only [woL,h1]
  simp only [AVal.wo,if_neg hm]
  have h2:=yz27 (n:=n) (k:=.i64) (xs:=x :: xs)
  simp only [intsK,Y1] at h2
  rw [h2]
theorem usesL_rwp {U:Nat→Prop} {ps:List (Nat×List Int)} {rest:List AVal} (h:usesL U (rwp ps ++ rest)):∀ p∈ps,p.2=[]∨U p.1:=by
 induction ps with
 | nil=>simp
 | cons q ps ih =>
  simp only [rwp,Y1,Yu,usesL,AVal.uses] at h ih
  intro p hp
  rcases Y8.1 hp with rfl | hp
  ·rcases h.1.1 p.1 rfl with h1 | h1
   ·left;simpa using h1
   ·exact .inr h1
  ·exact ih h.2 p hp
theorem yz9v:∀ {ps:List (Nat×List Int)},freshL (rwp ps)
 | []=>by simp [rwp,freshL]
 | p :: ps=>by
  have h:=yz9v (ps:=ps)
  simp only [rwp,Y1] at h ⊢
  simp only [freshL]
  refine ⟨?_,h⟩
  simp only [AVal.fresh,isNew]
  exact ⟨.inr trivial,of_eq_true yz2i⟩
theorem coeHL_nil {p:Nat→Bool} {hp:Nat→AObj}:CoeHL p hp [] []=True:=by simp [CoeHL]
theorem yz4p {p:Nat→Bool} {hp:Nat→AObj} {A B:AVal} {As Bs:List AVal}:CoeHL p hp (B :: Bs) (A :: As)=(CoeH p hp B A∧CoeHL p hp Bs As):=by
 simp only [CoeHL]
 refine propext ⟨?_,fun h=>⟨A,As,rfl,h.1,h.2⟩⟩
 rintro ⟨A',As',e,h1,h2⟩
 cases e
 exact ⟨h1,h2⟩
theorem yz78 {p:Nat→Bool} {hp:Nat→AObj}:∀ {xs:List Int},CoeHL p hp (ints xs) (ints xs)
 | []=>by simp [CoeHL]
 | x :: xs=>by
  have h:=yz78 (p:=p) (hp:=hp) (xs:=xs)
  simp only [Y1]
  rw [yz4p]
  exact ⟨by simp [CoeH],h⟩
theorem yz7y {p:Nat→Bool} {hp:Nat→AObj}:∀ {ps:List (Nat×List Int)},(∀ q∈ps,q.2=[]∨p q.1=true)→CoeHL p hp (rwp ps) (rwp ps)
 | [],_=>by simp [rwp,CoeHL]
 | q :: ps,hp'=>by
  have h:=yz7y (p:=p) (hp:=hp) (ps:=ps) (fun x hx=>hp' x (by simp [hx]))
  simp only [rwp,Y1] at h ⊢
  rw [yz4p]
  refine ⟨?_,h⟩
  simp only [CoeH]
  refine ⟨by omega,.inl ⟨_,rfl,?_,yz78⟩⟩
  rcases hp' q (by simp) with h0 | h0
  ·left;rw [h0];rfl
  ·right
   intro x e
   simp only [Option.some.injEq] at e
   subst e;exact h0
theorem coeH_ownP {p:Nat→Bool} {hp:Nat→AObj} {ps:List (Nat×List Int)} {r v:Nat} {nn:Bool} (hq:∀ q∈ps,q.2=[]∨p q.1=true) (h:hp r=.row v 1 nn (rwp ps)):CoeH p hp (.ro (some (some 0)) 1 (rwp ps)) (.own r v):=by
 simp only [CoeH]
 exact ⟨by omega,.inr ⟨trivial,r,v,nn,_,rfl,h,yz7y hq⟩⟩
def pAll:Nat→Bool:=fun _=>true
theorem coeH_own {hp:Nat→AObj} {ps:List (Nat×List Int)} {r v:Nat} {nn:Bool} (h:hp r=.row v 1 nn (rwp ps)):CoeH pAll hp (.ro (some (some 0)) 1 (rwp ps)) (.own r v):=coeH_ownP (fun _ _=>.inr rfl) h
def clT (p:Nat→Bool):List (Nat×AVal)→List (Nat×AVal)
 | []=>[]
 | (k,A) :: l=>(k,A.cl p) :: clT p l
def clO (p:Nat→Bool):List (Nat×AObj)→List (Nat×AObj)
 | []=>[]
 | (k,o) :: l=>(k,o.cl p) :: clO p l
theorem clT_eq {p:Nat→Bool}:∀ (l:List (Nat×AVal)) (n:Nat),L .any (clT p l) n=(L .any l n).cl p
 | [],n=>by simp [clT,L,AVal.cl]
 | (k,A) :: l,n=>by
  simp only [clT,L]
  split
  ·rfl
  ·exact clT_eq l n
theorem clO_eq {p:Nat→Bool}:∀ (l:List (Nat×AObj)) (n:Nat),L .gone (clO p l) n=(L .gone l n).cl p
 | [],n=>by simp [clO,L,AObj.cl]
 | (k,A) :: l,n=>by
  simp only [clO,L]
  split
  ·rfl
  ·exact clO_eq l n
theorem cl_L {p:Nat→Bool} {l:List (Nat×AVal)} {h:List (Nat×AObj)}:St.cl p ⟨L .any l,L .gone h⟩=⟨L .any (clT p l),L .gone (clO p h)⟩:=by
 unfold St.cl
 congr 1
 ·funext n;exact (clT_eq l n).symm
 ·funext n;exact (clO_eq h n).symm
theorem clV_own {p:Nat→Bool} {r u:Nat}:AVal.cl p (.own r u)=.own r u:=by simp only [AVal.cl]
theorem call_hav {P:Program} {σ:St} {g:FuncId} {As args:List AVal} {d:Option Nat} {s:Nat→Nat} {K:St→Prop} {Q:Value→Prop}
  (h:Con P g [] args true (fun outs rows res=>outs=[]∧rows=[]∧∃ v,Q v∧res=.val v)) (hco:CoeHL pAll σ.hp args As) (hk:∀ v,Q v→K (St.put (σ.cl pAll) d (.val v))):wpCall P false σ g As d s K :=
 .inr ⟨rfl,pAll,args,Q,h,hco,hk⟩
def woT (n:Nat):List (Nat×AVal)→List (Nat×AVal)
 | []=>[]
 | (k,A) :: l=>(k,A.wo n) :: woT n l
def woO (n:Nat):List (Nat×AObj)→List (Nat×AObj)
 | []=>[]
 | (k,o) :: l=>(k,o.wo n) :: woO n l
theorem woT_eq {m:Nat}:∀ (l:List (Nat×AVal)) (n:Nat),L .any (woT m l) n=(L .any l n).wo m
 | [],n=>by simp [woT,L,AVal.wo]
 | (k,A) :: l,n=>by
  simp only [woT,L]
  split
  ·rfl
  ·exact woT_eq l n
theorem woO_eq {m:Nat}:∀ (l:List (Nat×AObj)) (n:Nat),L .gone (woO m l) n=(L .gone l n).wo m
 | [],n=>by simp [woO,L,AObj.wo]
 | (k,o) :: l,n=>by
  simp only [woO,L]
  split
  ·rfl
  ·exact woO_eq l n
theorem tt_L {l:List (Nat×AVal)} {h:List (Nat×AObj)} {t i q n m k k':Nat} {cs cs':List AVal} :
  St.tt ⟨L .any l,L .gone h⟩ t i q n m k k' cs cs'=⟨L .any ((t,.ro (some (some 0)) k ((woL n cs).set i (.own q m))) :: woT n l),L .gone ((q,.row m k' true (woL n cs')) :: woO n h)⟩:=by
 unfold St.tt
 congr 1
 ·funext x
  simp only [L]
  split
  ·rfl
  ·exact (woT_eq l x).symm
 ·funext x
  simp only [L]
  split
  ·rfl
  ·exact (woO_eq h x).symm
theorem yz3p {n:Nat} {x:Value}:AVal.wo n (.val x)=.val x:=by simp only [AVal.wo]
theorem yz3o {n r u:Nat}:AVal.wo n (.own r u)=.own r u:=by simp only [AVal.wo]
theorem yz2b {n:Nat}:AObj.wo n .gone=.gone:=rfl
theorem qCS {p:Prop} (h:p:=by simp only [csA,rowIs,boxIs,J3,ne_eq,reduceCtorEq,exists_eq_left,exists_eq_right,Y8,Yi,exists_eq_left',exists_and_left,exists_eq,Y1,Yb,AObj.ver,J5]):p:=h
theorem qWS {p:Prop} (h:p:=by simp only [go_sem,yz0,J9,J8,J6,J7,J5,J0,J1,J2,reduceIte,J3,J4,reduceCtorEq]):p:=h
theorem qGN {p:Prop} (h:p:=by first | rfl | simp only [go_sem,yz0,J9,J8,J6,J7,J5,J0,J1,J2,reduceIte,J3,J4,reduceCtorEq]):p:=h
end Go.Ab
namespace Go.Ab
open Go Go.Sort
def LeftK (κ:IntKind) (w w':World) (g off:Nat) (ys:List Int):Prop:=∃ n os,w'=grow (putRow (Value.int κ) (Sort.ahead w n) g off ys.toArray) os
section
variable {κ:IntKind} {w w':World} {g off:Nat} {ys:List Int}
theorem LeftK.ne (h:LeftK κ w w' g off ys) {b:Nat} (hb:b<w.heap.size) (hne:b≠g):w'.heap[b]?=w.heap[b]?:=by
 obtain ⟨n,os,rfl⟩:=h
 have h1:b<(w.heap.modify g (onCells (putCells (Value.int κ) off ys.toArray))).size:=by rw [Array.size_modify];exact hb
 show (w.heap.modify g (onCells (putCells (Value.int κ) off ys.toArray)) ++ os)[b]?=_
 rw [Y29 h1,Array.getElem?_modify,if_neg (Ne.symm hne)]
theorem LeftK.at (h:LeftK κ w w' g off ys) {cells:Array Value} {t:TypeId} (hb:w.heap[g]?=some (.cells cells t (0,0))):w'.heap[g]?=some (.cells (putCells (Value.int κ) off ys.toArray cells) t (0,0)):=by
 obtain ⟨n,os,rfl⟩:=h
 have hlt:g<w.heap.size:=yz6 hb
 have h1:g<(w.heap.modify g (onCells (putCells (Value.int κ) off ys.toArray))).size:=by rw [Array.size_modify];exact hlt
 show (w.heap.modify g (onCells (putCells (Value.int κ) off ys.toArray)) ++ os)[g]?=_
 rw [Y29 h1,Array.getElem?_modify,if_pos rfl,hb];rfl
theorem LeftK.size (h:LeftK κ w w' g off ys):w.heap.size≤w'.heap.size:=by
 obtain ⟨n,os,rfl⟩:=h
 show w.heap.size≤(w.heap.modify g (onCells (putCells (Value.int κ) off ys.toArray)) ++ os).size
 rw [Array.size_append,Array.size_modify];omega
theorem LeftK.os (h:LeftK κ w w' g off ys):w'.os=w.os:=by obtain ⟨n,os,rfl⟩:=h;rfl
theorem LeftK.drawn (h:LeftK κ w w' g off ys):w.drawn≤w'.drawn:=by obtain ⟨n,os,rfl⟩:=h;exact Nat.le_add_right _ _
theorem LeftK.tape (h:LeftK κ w w' g off ys):w'.tape=w.tape:=by obtain ⟨n,os,rfl⟩:=h;rfl
theorem LeftK.output (h:LeftK κ w w' g off ys):w'.output=w.output:=by obtain ⟨n,os,rfl⟩:=h;rfl
theorem yz79 {c:Cz}:∀ {xs:List Int},RepL c (intsK κ xs) (xs.map fun x=>Value.int κ x)
 | []=>by simp [RepL]
 | x :: xs=>by
  simp only [Y1,RepL,Rep]
  exact ⟨trivial,yz79⟩
theorem yz3r {c:Cz}:∀ {xs:List Int} {vs:List Value},RepL c (intsK κ xs) vs→vs=xs.map fun x=>Value.int κ x
 | [],[],_=>rfl
 | [],_ :: _,h=>by simp [RepL] at h
 | _ :: _,[],h=>by simp [RepL] at h
 | x :: xs,v :: vs,h=>by
  simp only [Y1,RepL,Rep] at h ⊢
  rw [h.1,yz3r h.2]
end
section
variable {κ:IntKind} {P:Program} {f:FuncId}
end
def HoldsV (w:World) (g off:Nat) (L:List Value):Prop:=∀ j (h:j<L.length),w.cell? ⟨g,off+j,none⟩=some L[j]∧w.frozen? ⟨g,off+j,none⟩=false
def LeftV (w w':World) (g off:Nat) (D:List Value):Prop:=∃ n os,w'=grow (putRow (fun v:Value=>v) (Sort.ahead w n) g off D.toArray) os
theorem yz94 {α:Type} [Inhabited α] (enc:α→Value) (off:Nat) (d:List α) (cells:Array Value):putCells enc off d.toArray cells=putCells (fun v:Value=>v) off (d.map enc).toArray cells:=by
 apply Array.ext
 ·simp [putCells]
 intro i h1 h2
 simp only [putCells,Array.getElem_mapIdx,List.size_toArray,Y6]
 by_cases h:off≤i∧i<off+d.length
 ·have h3:i - off<d.length:=by omega
  rw [if_pos h,if_pos h,getElem!_pos _ _ (by simpa using h3),getElem!_pos _ _ (by simpa using h3)]
  simp
 ·rw [if_neg h,if_neg h]
theorem yzfd {α:Type} [Inhabited α] (enc:α→Value) (w:World) (g off:Nat) (d:List α):putRow enc w g off d.toArray=putRow (fun v:Value=>v) w g off (d.map enc).toArray:=by
 unfold putRow
 rw [show putCells enc off d.toArray=putCells (fun v:Value=>v) off (d.map enc).toArray from funext fun c=>yz94 enc off d c]
section
variable {w w':World} {g off:Nat} {D:List Value}
theorem LeftV.ne (h:LeftV w w' g off D) {b:Nat} (hb:b<w.heap.size) (hne:b≠g):w'.heap[b]?=w.heap[b]?:=by
 obtain ⟨n,os,rfl⟩:=h
 have h1:b<(w.heap.modify g (onCells (putCells (fun v:Value=>v) off D.toArray))).size:=by rw [Array.size_modify];exact hb
 show (w.heap.modify g (onCells (putCells (fun v:Value=>v) off D.toArray)) ++ os)[b]?=_
 rw [Y29 h1,Array.getElem?_modify,if_neg (Ne.symm hne)]
theorem LeftV.at (h:LeftV w w' g off D) {cells:Array Value} {t:TypeId} (hb:w.heap[g]?=some (.cells cells t (0,0))):w'.heap[g]?=some (.cells (putCells (fun v:Value=>v) off D.toArray cells) t (0,0)):=by
 obtain ⟨n,os,rfl⟩:=h
 have hlt:g<w.heap.size:=yz6 hb
 have h1:g<(w.heap.modify g (onCells (putCells (fun v:Value=>v) off D.toArray))).size:=by rw [Array.size_modify];exact hlt
 show (w.heap.modify g (onCells (putCells (fun v:Value=>v) off D.toArray)) ++ os)[g]?=_
 rw [Y29 h1,Array.getElem?_modify,if_pos rfl,hb];rfl
theorem LeftV.size (h:LeftV w w' g off D):w.heap.size≤w'.heap.size:=by
 obtain ⟨n,os,rfl⟩:=h
 show w.heap.size≤(w.heap.modify g (onCells (putCells (fun v:Value=>v) off D.toArray)) ++ os).size
 rw [Array.size_append,Array.size_modify];omega
theorem LeftV.os (h:LeftV w w' g off D):w'.os=w.os:=by obtain ⟨n,os,rfl⟩:=h;rfl
theorem LeftV.drawn (h:LeftV w w' g off D):w.drawn≤w'.drawn:=by obtain ⟨n,os,rfl⟩:=h;exact Nat.le_add_right _ _
theorem LeftV.tape (h:LeftV w w' g off D):w'.tape=w.tape:=by obtain ⟨n,os,rfl⟩:=h;rfl
theorem LeftV.output (h:LeftV w w' g off D):w'.output=w.output:=by obtain ⟨n,os,rfl⟩:=h;rfl
theorem yz80 {cells:Array Value} (hfit:off+D.length≤cells.size) {m:Nat} (hm:m≤D.length) :
  (((putCells (fun v:Value=>v) off D.toArray cells).toList.drop off).take m)=D.take m:=by
 apply List.ext_getElem?
 intro j
 rw [Yr,Yr]
 by_cases hj:j<m
 ·rw [if_pos hj,if_pos hj,Y15,Y26]
  have h1:off+j<cells.size:=by omega
  simp only [putCells,Array.getElem?_mapIdx,Y27 h1,Y1z,List.size_toArray]
  have h2:off≤off+j∧off+j<off+D.length:=by omega
  have h3:off+j - off=j:=by omega
  rw [if_pos h2,h3,Y2 (show j<D.length by omega)]
  have h4:D.toArray[j]! = D[j]:=by rw [getElem!_pos _ j (by simp;omega)];simp
  rw [h4]
 ·rw [if_neg hj,if_neg hj]
theorem yzce {L:List Value} {cells:Array Value} {t:TypeId} (hb:w.heap[g]?=some (.cells cells t (0,0))) (he:(cells.toList.drop off).take L.length=L):HoldsV w g off L:=by
 intro j hj
 have h1:((cells.toList.drop off).take L.length)[j]?=some L[j]:=by rw [he,Y2 hj]
 rw [Yr,if_pos hj,Y15,Y26] at h1
 refine ⟨?_,?_⟩
 ·rw [cell_of_row w g (off+j) cells t (0,0) hb,h1]
 ·unfold World.frozen?
  simp [hb]
end
theorem yzbp {w0:World} {outsB:Nat→Prop} {c:Cz} (G:Good w0 outsB c) {cs cs':List AVal} {D:List Value} {nn:Bool} {n cap g off m ver:Nat} {cells:Array Value} {t:TypeId} {w':World}
  (hr:c.hp 5000=.row 0 1 nn cs) (hloc:c.loc 5000=.slice (some ⟨g,off,none⟩) n cap) (hcap:n≤cap) (hcm:cap≤maxLen) (hc0:cap≠0)
  (hheap:c.w.heap[g]?=some (.cells cells t (0,0))) (hfit:off+cap * 1≤cells.size) (hL:LeftV c.w w' g off D) (hD:D.length=n) (hrD:RepL c cs' D) (hm:m≤n)
  (hver:(m=n∧ver=0)∨¬ c.used ver) :
  Good w0 outsB (c.upd w' 5000 (.row ver 1 nn (cs'.take m)) (.slice (some ⟨g,off,none⟩) m cap) ver)∧Keeps c (c.upd w' 5000 (.row ver 1 nn (cs'.take m)) (.slice (some ⟨g,off,none⟩) m cap) ver):=by
 have hblk:blockOf (c.loc 5000)=some g:=by rw [hloc];simp [blockOf,hc0]
 have hcl:=hrD.length
 refine G.upd w' 5000 _ _ ver hL.os hL.tape hL.output hL.size ?_ ?_ ?_ ?_ (hdr:=hL.drawn)
 ·intro b hb hne
  refine hL.ne hb fun e=>hne ⟨by rw [hr];simp,by rw [hblk,e]⟩
 ·intro b hb
  simp only [blockOf,hc0,if_false,Option.some.injEq] at hb
  subst hb
  exact ⟨.inl ⟨by rw [hr];simp,hblk⟩,Y1i (yz6 hheap) hL.size⟩
 ·rcases hver with ⟨h1,h2⟩ | h
  ·refine .inr (.inr ⟨by rw [hr,h2];rfl,by rw [hloc,h1],?_⟩)
   rw [h2];exact (G.verU 5000 0 (by rw [hr];rfl)).1
  ·exact .inr (.inl ⟨rfl,h⟩)
 ·intro K
  refine ⟨some ⟨g,off,none⟩,m,cap,rfl,by omega,?_,by omega,hcm,fun _=>by simp,.inr ⟨g,off,t,_,rfl,hL.at hheap,?_,?_⟩⟩
  ·rw [Yk];omega
  ·simp only [putCells,Array.size_mapIdx];exact hfit
  ·rw [Nat.mul_one,yz80 (by omega) (by omega)]
   exact RepL.keeps K _ _ (hrD.take m)
theorem yz7n {c c':Cz}:∀ {cs:List AVal} {vs:List Value},(∀ A∈cs,∃ x,A=.val x)→RepL c cs vs→RepL c' cs vs
 | [],[],_,_=>by simp [RepL]
 | [],_ :: _,_,h=>by simp [RepL] at h
 | _ :: _,[],_,h=>by simp [RepL] at h
 | A :: cs,v :: vs,hA,h=>by
  obtain ⟨x,rfl⟩:=hA A (by simp)
  simp only [RepL,Rep] at h ⊢
  exact ⟨h.1,yz7n (fun B hB=>hA B (by simp [hB])) h.2⟩
theorem Good.narrow {w0:World} {outs:Nat→Prop} {c:Cz} (G:Good w0 outs c) (h:∀ r,c.hp r=.gone∨∃ v k nn cs,c.hp r=.row v k nn cs∧∀ A∈cs,∃ x,A=.val x):Good w0 outs { c with ext:=outs }:=by
 refine ⟨G.base,fun r=>?_,G.inj,G.own,G.verU,G.verInj,fun b hb=>⟨hb,(G.outExt b hb).2⟩,G.nam,G.namInj,G.fin,G.os,G.tape,G.output,G.size,G.frame⟩
 show ObjRep _ (c.loc r) (c.hp r)
 rcases h r with e | ⟨v,k,nn,cs,e,hv⟩
 ·rw [e];trivial
 ·have:=G.obj r
  rw [e] at this ⊢
  obtain ⟨base,n,cap,h1,h2,h3,h4,h5,h6,h7⟩:=this
  refine ⟨base,n,cap,h1,h2,h3,h4,h5,h6,?_⟩
  rcases h7 with h7 | ⟨g,off,t,cells,g1,g2,g3,g4⟩
  ·exact .inl h7
  ·exact .inr ⟨g,off,t,cells,g1,g2,g3,yz7n hv g4⟩
section
variable {P:Program} {f:FuncId}
theorem yzbs (hfn:∃ fn,P.funcs[f]?=some fn∧fn.body.isSome=true∧isNumG fn=false) (cs:List AVal) (hz:cs≠[]) (As:List AVal) (sh:Bool) (C:List AVal→Nat→Prop) (hsh:sh=false→∀ cs' k,C cs' k→∀ A∈cs',∃ x,A=.val x)
  (H:∀ (c:Cz) (us L:List Value) (g off cap:Nat),RepL c As us→RepL c cs L→(∀ b,c.imm b→b≠g)→(∀ b,c.imm b→b<c.w.heap.size)→HoldsV c.w g off L→g<c.w.heap.size→L.length≤maxLen→L.length≤cap→cap≤maxLen →
   Calls P f (Value.slice (some ⟨g,off,none⟩) L.length cap :: us).toArray c.w fun e w'=>∃ cs' D k,C cs' k∧D.length=L.length∧RepL c cs' D∧k≤L.length∧e=.returned (.slice (some ⟨g,off,none⟩) k cap)∧LeftV c.w w' g off D) (nn:Bool) :
  Con P f [.row 0 1 nn cs] (.own 5000 0 :: As) sh fun outs rows res=>∃ v cs' k,C cs' k∧outs=[.row v 1 nn (cs'.take k)]∧rows=[]∧res=.own 5000 v:=by
 refine ⟨hfn,fun c0 outsB vs G hhp hrep=>?_⟩
 have hr:c0.hp 5000=.row 0 1 nn cs:=by rw [hhp];rfl
 have hne:∀ r,r≠5000→c0.hp r=.gone:=by
  intro r h
  rw [hhp]
  by_cases hg:outHp [.row 0 1 nn cs] [] r=.gone
  ·exact hg
  ·rcases yz10 hg with ⟨j,rfl,_,hj,_⟩ | ⟨i,_,_,hi,_⟩
   ·simp at hj;subst hj;exact absurd rfl h
   ·simp at hi
 match vs,hrep with
 | v :: us,hrep =>
 simp only [RepL,Rep] at hrep
 have hv:v=c0.loc 5000:=hrep.1.2 (by rw [hr];rfl)
 have hO:=G.obj 5000
 rw [hr] at hO
 obtain ⟨base,n,cap,hloc,_,hl,hnc,hcm,hnn,hcase⟩:=hO
 have hlen:cs.length=n:=by simpa using hl
 have hupd:∀ (c1:Cz) (u:Nat) (xs:List AVal),(∀ r,c1.hp r=if r=5000 then .row u 1 nn xs else c0.hp r)→c1.hp=outHp [.row u 1 nn xs] []:=by
  intro c1 u xs h
  funext r
  rw [h r]
  by_cases e:r=5000
  ·subst e;rfl
  ·rw [if_neg e,hne r e]
   by_cases hg:outHp [AObj.row u 1 nn xs] [] r=.gone
   ·exact hg.symm
   ·rcases yz10 hg with ⟨j,rfl,_,hj,_⟩ | ⟨i,_,_,hi,_⟩
    ·simp at hj;subst hj;exact absurd rfl e
    ·simp at hi
 have hn0:n≠0:=by rw [← hlen];exact fun e=>hz (Yh e)
 have hc0:cap≠0:=by omega
 rcases hcase with h | ⟨g,off,t,cells,rfl,hheap,hfit,hrepr⟩
 ·exact absurd h hc0
 have hrL:=hrepr
 rw [Nat.mul_one] at hrL
 generalize hL:(cells.toList.drop off).take n=L at hrL
 have hLn:L.length=n:=by rw [← hrL.length];exact hlen
 rw [hv,hloc,← hLn]
 refine (H c0 us L g off cap hrep.2 hrL ?_ ?_ (yzce hheap (by rw [hLn];exact hL)) (yz6 hheap) (by omega) (by omega) hcm).mono ?_
 ·rintro b ⟨_,_,h3⟩ rfl
  exact h3 ⟨5000,by rw [hr];simp,by rw [hloc];simp [blockOf,hc0]⟩
 ·rintro b ⟨_,h2,_⟩
  exact h2
 rintro e w' ⟨cs',D,k,hC,hDl,hrD,hk,rfl,hLv⟩
 obtain ⟨u,hu⟩:=G.fin
 have hnu:¬ c0.used u:=fun h=>absurd (hu u h) (Nat.lt_irrefl _)
 obtain ⟨G1,K1⟩:=yzbp G hr hloc hnc hcm hc0 hheap hfit hLv (by omega) hrD (m:=k) (ver:=u) (by omega) (.inr hnu)
 cases sh with
 | true =>
  refine ⟨_,_,_,_,_,⟨u,cs',k,hC,rfl,rfl,rfl⟩,rfl,rfl,G1,hupd _ _ _ fun r=>rfl,?_,fun b hb=>.inl ⟨rfl,hb⟩,fun _ h=>h,?_,fun _ h=>.inl h⟩
  ·simp only [Rep]
   refine ⟨.inr rfl,fun _=>?_⟩
   simp only [Cz.upd,if_true]
  ·intro r u' hu' h
   exact K1.loc r u' hu' h
 | false =>
  have G2:=G1.narrow (fun r=>by
   by_cases e:r=5000
   ·subst e
    refine .inr ⟨u,1,nn,cs'.take k,by simp [Cz.upd],fun A hA=>hsh rfl cs' k hC A (Y1d hA)⟩
   ·refine .inl ?_
    show (if r=5000 then _ else c0.hp r)=_
    rw [if_neg e];exact hne r e)
  refine ⟨_,_,_,_,_,⟨u,cs',k,hC,rfl,rfl,rfl⟩,rfl,rfl,G2,hupd _ _ _ fun r=>rfl,?_,fun b hb=>.inr hb,fun _ h=>h,?_,fun _ h=>.inl h⟩
  ·simp only [Rep]
   refine ⟨.inr rfl,fun _=>?_⟩
   simp only [Cz.upd,if_true]
  ·intro r u' hu' h
   exact K1.loc r u' hu' h
end
end Go.Ab
namespace Go.Proofs
open Go.Shelf
def Tryz.lsort_ren:Go.Shelf.Ren:=⟨fun | 53=>103 | 64=>127 | 63=>126 | 78=>140 | 79=>141 | 70=>132 | 71=>133 | 72=>134 | 73=>135 | 74=>136 | 75=>137 | 59=>121 | 76=>138 | 77=>139 | 88=>143 | 89=>144 | 90=>145 | 91=>146 | 92=>147 | 68=>130 | 96=>148 | n=>n,fun | 22=>28 | 23=>2 | 3=>3 | 51=>62 | 0=>0 | 67=>143 | 69=>69 | 4=>4 | 61=>136 | 60=>135 | 44=>140 | 5=>5 | 9=>9 | 75=>145 | 79=>149 | 83=>151 | 84=>152 | n=>n,fun | n=>n⟩
theorem Tryz.lsort:Go.Proofs.SlLaysN.n53 Tryz.prog Tryz.lsort_ren:={
 mixed:=by kernel_rfl
 f53:=⟨Tryz.f103.name,by decide,Tryz.func103.trans (congrArg some (by kernel_rfl))⟩
 f59:=⟨Tryz.f121.name,by decide,Tryz.func121.trans (congrArg some (by kernel_rfl))⟩
 f63:=⟨Tryz.f126.name,by decide,Tryz.func126.trans (congrArg some (by kernel_rfl))⟩
 f64:=Tryz.func127.trans (congrArg some (by kernel_rfl))
 f68:=⟨Tryz.f130.name,by decide,Tryz.func130.trans (congrArg some (by kernel_rfl))⟩
 f70:=⟨Tryz.f132.name,by decide,Tryz.func132.trans (congrArg some (by kernel_rfl))⟩
 f71:=⟨Tryz.f133.name,by decide,Tryz.func133.trans (congrArg some (by kernel_rfl))⟩
 f72:=⟨Tryz.f134.name,by decide,Tryz.func134.trans (congrArg some (by kernel_rfl))⟩
 f73:=⟨Tryz.f135.name,by decide,Tryz.func135.trans (congrArg some (by kernel_rfl))⟩
 f74:=⟨Tryz.f136.name,by decide,Tryz.func136.trans (congrArg some (by kernel_rfl))⟩
 f75:=⟨Tryz.f137.name,by decide,Tryz.func137.trans (congrArg some (by kernel_rfl))⟩
 f76:=⟨Tryz.f138.name,by decide,Tryz.func138.trans (congrArg some (by kernel_rfl))⟩
 f77:=⟨Tryz.f139.name,by decide,Tryz.func139.trans (congrArg some (by kernel_rfl))⟩
 f78:=Tryz.func140.trans (congrArg some (by kernel_rfl))
 f79:=Tryz.func141.trans (congrArg some (by kernel_rfl))
 f88:=⟨Tryz.f143.name,by decide,Tryz.func143.trans (congrArg some (by kernel_rfl))⟩
 f89:=Tryz.func144.trans (congrArg some (by kernel_rfl))
 f90:=Tryz.func145.trans (congrArg some (by kernel_rfl))
 f91:=⟨Tryz.f146.name,by decide,Tryz.func146.trans (congrArg some (by kernel_rfl))⟩
 f92:=⟨Tryz.f147.name,by decide,Tryz.func147.trans (congrArg some (by kernel_rfl))⟩
 f96:=⟨Tryz.f148.name,by decide,Tryz.func148.trans (congrArg some (by kernel_rfl))⟩
 t0:=Tryz.underlying0
 a0:=Tryz.isAgg0
 z0:=Tryz.sizeOf0
 v0:=Tryz.zeroValue0
 t3:=Tryz.underlying3
 a3:=Tryz.isAgg3
 z3:=Tryz.sizeOf3
 v3:=Tryz.zeroValue3
 t4:=Tryz.underlying4
 a4:=Tryz.isAgg4
 z4:=Tryz.sizeOf4
 v4:=Tryz.zeroValue4
 t5:=Tryz.underlying5
 a5:=Tryz.isAgg5
 z5:=Tryz.sizeOf5
 v5:=Tryz.zeroValue5
 t9:=Tryz.underlying9
 a9:=Tryz.isAgg9
 z9:=Tryz.sizeOf9
 v9:=Tryz.zeroValue9
 t22:=Tryz.underlying28
 a22:=Tryz.isAgg28
 z22:=Tryz.sizeOf28
 v22:=Tryz.zeroValue28
 t23:=Tryz.underlying2
 a23:=Tryz.isAgg2
 z23:=Tryz.sizeOf2
 v23:=Tryz.zeroValue2
 t44:=Tryz.underlying140
 a44:=Tryz.isAgg140
 z44:=Tryz.sizeOf140
 v44:=Tryz.zeroValue140
 t51:=Tryz.underlying62
 a51:=Tryz.isAgg62
 z51:=Tryz.sizeOf62
 v51:=Tryz.zeroValue62
 t60:=Tryz.underlying135
 a60:=Tryz.isAgg135
 z60:=Tryz.sizeOf135
 v60:=Tryz.zeroValue135
 t61:=Tryz.underlying136
 a61:=Tryz.isAgg136
 z61:=Tryz.sizeOf136
 v61:=Tryz.zeroValue136
 t67:=Tryz.underlying143
 a67:=Tryz.isAgg143
 z67:=Tryz.sizeOf143
 v67:=Tryz.zeroValue143
 t69:=Tryz.underlying69
 a69:=Tryz.isAgg69
 z69:=Tryz.sizeOf69
 v69:=Tryz.zeroValue69
 t75:=Tryz.underlying145
 a75:=Tryz.isAgg145
 z75:=Tryz.sizeOf145
 v75:=Tryz.zeroValue145
 t79:=Tryz.underlying149
 a79:=Tryz.isAgg149
 z79:=Tryz.sizeOf149
 v79:=Tryz.zeroValue149
 t83:=Tryz.underlying151
 a83:=Tryz.isAgg151
 z83:=Tryz.sizeOf151
 v83:=Tryz.zeroValue151
 t84:=Tryz.underlying152
 a84:=Tryz.isAgg152
 z84:=Tryz.sizeOf152
 v84:=Tryz.zeroValue152 }
def Tryz.lcompact_ren:Go.Shelf.Ren:=⟨fun | 43=>142 | n=>n,fun | 22=>28 | 23=>2 | 3=>3 | 4=>4 | 0=>0 | n=>n,fun | n=>n⟩
theorem Tryz.lcompact:Go.Proofs.SlLaysN.n43 Tryz.prog Tryz.lcompact_ren:={
 mixed:=by kernel_rfl
 f43:=⟨Tryz.f142.name,by decide,Tryz.func142.trans (congrArg some (by kernel_rfl))⟩
 t0:=Tryz.underlying0
 a0:=Tryz.isAgg0
 z0:=Tryz.sizeOf0
 v0:=Tryz.zeroValue0
 t3:=Tryz.underlying3
 a3:=Tryz.isAgg3
 z3:=Tryz.sizeOf3
 v3:=Tryz.zeroValue3
 t4:=Tryz.underlying4
 a4:=Tryz.isAgg4
 z4:=Tryz.sizeOf4
 v4:=Tryz.zeroValue4
 t22:=Tryz.underlying28
 a22:=Tryz.isAgg28
 z22:=Tryz.sizeOf28
 v22:=Tryz.zeroValue28
 t23:=Tryz.underlying2
 a23:=Tryz.isAgg2
 z23:=Tryz.sizeOf2
 v23:=Tryz.zeroValue2
 i23:=by kernel_rfl }
def Tryz.ldelete_ren:Go.Shelf.Ren:=⟨fun | 45=>110 | n=>n,fun | 22=>28 | 23=>2 | 3=>3 | 4=>4 | 0=>0 | n=>n,fun | n=>n⟩
theorem Tryz.ldelete:Go.Proofs.SlLaysE.n45 Tryz.prog Tryz.ldelete_ren:={
 mixed:=by kernel_rfl
 f45:=⟨Tryz.f110.name,by decide,Tryz.func110.trans (congrArg some (by kernel_rfl))⟩
 t0:=Tryz.underlying0
 a0:=Tryz.isAgg0
 z0:=Tryz.sizeOf0
 v0:=Tryz.zeroValue0
 t3:=Tryz.underlying3
 a3:=Tryz.isAgg3
 z3:=Tryz.sizeOf3
 v3:=Tryz.zeroValue3
 t4:=Tryz.underlying4
 a4:=Tryz.isAgg4
 z4:=Tryz.sizeOf4
 v4:=Tryz.zeroValue4
 t22:=Tryz.underlying28
 a22:=Tryz.isAgg28
 z22:=Tryz.sizeOf28
 v22:=Tryz.zeroValue28
 a23:=Tryz.isAgg2
 z23:=Tryz.sizeOf2 }
end Go.Proofs
