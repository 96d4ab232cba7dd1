/- Contracts and what they lean on, part 5. Conditions: none. -/
import Derived.IntWalk
import Derived.OrdersHeld
import Derived.Test.YtmmpllmppgelgaaDoorZ4
set_option maxRecDepth 100000
set_option maxHeartbeats 4000000
set_option linter.all false
open Nat renaming reduceLeDiff → xx0, reduceMul → xx1, reduceSub → xx2, reduceEqDiff → xx3, reduceAdd → xx4, reduceLT → xx5
open Int renaming reduceToNat → xx6, reduceNeg → xx7, reduceLE → xx8, reduceLT → xx9
namespace Go.Ab
def wpD (P:Program):AC→(AEx→St→Prop)→St→Prop
  | .skip,Q,σ=>Q .normal σ
  | .reg draw ops,Q,σ=>∀ vs,Ab.wpOps (!draw) (wpCk P draw) vs 0 ops σ (Q .normal)
  | .kp ts hs a,Q,σ=>wpD P a Q (σ.keep ts hs)
  | .regi draw ops,Q,σ=>∀ vs U,New vs U σ→Ab.wpOps (!draw) (wpCk P draw) vs 0 ops σ (Q .normal)
  | .gh a,Q,σ=>σ.Dist→∃ gs,gwp gs (fun σ'=>wpD P a Q σ') σ
  | .mv x y a,Q,σ=>∀ m,wpD P a Q (σ.mv x y m)
  | .dn a,Q,σ=>wpD P a Q σ.dn
  | .ad b off r k a,Q,σ=>∀ ver,wpD P a Q (σ.adopt b off r k ver)
  | .seq a b,Q,σ=>wpD P a (fun e σ'=>match e with | .normal=>wpD P b Q σ' | e=>Q e σ') σ
  | .cond c a b,Q,σ=>match σ.ev c with
    | .val (.bool t)=>(t=true→wpD P a Q σ)∧(t=false→wpD P b Q σ)
    | _=>False
  | .block id a,Q,σ=>wpD P a (fun e σ'=>match e with | .exit i=>if i=id then Q .normal σ' else Q (.exit i) σ' | e=>Q e σ') σ
  | .loop a,Q,σ=>∃ I:Nat→St→Prop,(∃ n,I n σ)∧∀ n σ',I n σ'→wpD P a (fun e σ''=>match e with | .normal=>∃ k,k<n∧I k σ'' | e=>Q e σ'') σ'
  | .exit id,Q,σ=>Q (.exit id) σ
  | .ret,Q,σ=>Q .ret σ
  | .stuck,_,_=>False
theorem wpOps_mono {P:Program} {fa pu:Bool} {vs:Nat→Nat→Nat} {K K':St→Prop} (h:∀ σ,K σ→K' σ):∀ (ops:List AOp) (i:Nat) (σ:St),Ab.wpOps fa (wpCk P pu) vs i ops σ K→Ab.wpOps fa (wpCk P pu) vs i ops σ K'
  | [],_,_,hh=>h _ hh
  | _ :: ops,i,_,hh=>wpOp_monoX (fun σ'=>wpOps_mono h ops (i+1) σ') hh
theorem wpC_of_wpD {P:Program}:∀ (a:AC) (Q Q':AEx→St→Prop) (σ:St),(∀ e σ,Q e σ→Q' e σ)→wpD P a Q σ→wpC P a Q' σ
  | .skip,_,_,_,hq,h=>hq _ _ h
  | .reg draw ops,_,_,_,hq,h=>fun vs _ _=>wpOps_mono (hq _) ops 0 _ (h vs)
  | .kp ts hs a,Q,Q',σ,hq,h=>wpC_of_wpD a Q Q' _ hq h
  | .regi draw ops,_,_,_,hq,h=>fun vs U hN=>wpOps_mono (hq _) ops 0 _ (h vs U hN)
  | .gh a,Q,Q',σ,hq,h=>fun hd=>by
    obtain ⟨gs,hg⟩:=h hd
    exact ⟨gs,gwp_mono (fun σ' h'=>wpC_of_wpD a Q Q' σ' hq h') gs σ hg⟩
  | .mv x y a,Q,Q',σ,hq,h=>fun m=>wpC_of_wpD a Q Q' _ hq (h m)
  | .dn a,Q,Q',σ,hq,h=>wpC_of_wpD a Q Q' _ hq h
  | .ad b off r k a,Q,Q',σ,hq,h=>fun ver=>wpC_of_wpD a Q Q' _ hq (h ver)
  | .seq a b,Q,Q',σ,hq,h=>by
    refine wpC_of_wpD a _ _ σ (fun e σ' he=>?_) h
    cases e with
    | normal=>exact wpC_of_wpD b Q Q' σ' hq he
    | _=>exact hq _ _ he
  | .cond c a b,Q,Q',σ,hq,h=>by
    simp only [wpD,wpC] at h ⊢
    split at h
    · rename_i t ht
      simp only [ht]
      exact ⟨fun e=>wpC_of_wpD a Q Q' σ hq (h.1 e),fun e=>wpC_of_wpD b Q Q' σ hq (h.2 e)⟩
    · exact h.elim
  | .block id a,Q,Q',σ,hq,h=>by
    refine wpC_of_wpD a _ _ σ (fun e σ' he=>?_) h
    cases e with
    | exit i =>
      simp only [] at he ⊢
      split
      · rename_i hi;rw [if_pos hi] at he;exact hq _ _ he
      · rename_i hi;rw [if_neg hi] at he;exact hq _ _ he
    | _=>exact hq _ _ he
  | .loop a,Q,Q',σ,hq,h=>by
    simp only [wpD,wpC] at h ⊢
    obtain ⟨I,h0,h1⟩:=h
    refine ⟨I,h0,fun n σ' hI=>wpC_of_wpD a _ _ σ' (fun e σ'' he=>?_) (h1 n σ' hI)⟩
    cases e with
    | normal=>exact he
    | _=>exact hq _ _ he
  | .exit id,_,_,_,hq,h=>hq _ _ h
  | .ret,_,_,_,hq,h=>hq _ _ h
  | .stuck,_,_,_,_,h=>h.elim
theorem wpD_mono {P:Program}:∀ (a:AC) (Q Q':AEx→St→Prop) (σ:St),(∀ e σ,Q e σ→Q' e σ)→wpD P a Q σ→wpD P a Q' σ
  | .skip,_,_,_,hq,h=>hq _ _ h
  | .reg draw ops,_,_,_,hq,h=>fun vs=>wpOps_mono (hq _) ops 0 _ (h vs)
  | .kp ts hs a,Q,Q',σ,hq,h=>wpD_mono a Q Q' _ hq h
  | .regi draw ops,_,_,_,hq,h=>fun vs U hN=>wpOps_mono (hq _) ops 0 _ (h vs U hN)
  | .gh a,Q,Q',σ,hq,h=>fun hd=>by
    obtain ⟨gs,hg⟩:=h hd
    exact ⟨gs,gwp_mono (fun σ' h'=>wpD_mono a Q Q' σ' hq h') gs σ hg⟩
  | .mv x y a,Q,Q',σ,hq,h=>fun m=>wpD_mono a Q Q' _ hq (h m)
  | .dn a,Q,Q',σ,hq,h=>wpD_mono a Q Q' _ hq h
  | .ad b off r k a,Q,Q',σ,hq,h=>fun ver=>wpD_mono a Q Q' _ hq (h ver)
  | .seq a b,Q,Q',σ,hq,h=>by
    refine wpD_mono a _ _ σ (fun e σ' he=>?_) h
    cases e with
    | normal=>exact wpD_mono b Q Q' σ' hq he
    | _=>exact hq _ _ he
  | .cond c a b,Q,Q',σ,hq,h=>by
    simp only [wpD] at h ⊢
    split at h
    · rename_i t ht
      try simp only [ht]
      exact ⟨fun e=>wpD_mono a Q Q' σ hq (h.1 e),fun e=>wpD_mono b Q Q' σ hq (h.2 e)⟩
    · exact h.elim
  | .block id a,Q,Q',σ,hq,h=>by
    refine wpD_mono a _ _ σ (fun e σ' he=>?_) h
    cases e with
    | exit i =>
      simp only [] at he ⊢
      split
      · rename_i hi;rw [if_pos hi] at he;exact hq _ _ he
      · rename_i hi;rw [if_neg hi] at he;exact hq _ _ he
    | _=>exact hq _ _ he
  | .loop a,Q,Q',σ,hq,h=>by
    simp only [wpD] at h ⊢
    obtain ⟨I,h0,h1⟩:=h
    refine ⟨I,h0,fun n σ' hI=>wpD_mono a _ _ σ' (fun e σ'' he=>?_) (h1 n σ' hI)⟩
    cases e with
    | normal=>exact he
    | _=>exact hq _ _ he
  | .exit id,_,_,_,hq,h=>hq _ _ h
  | .ret,_,_,_,hq,h=>hq _ _ h
  | .stuck,_,_,_,_,h=>h.elim
def AVal.plain:AVal→Prop
  | .val _=>True
  | .tup cs=>∀ A∈cs,∃ v,A=.val v
  | _=>False
def Fun (P:Program) (g:FuncId) (args:List AVal) (v:AVal):Prop:=Con P g [] args false fun outs rows res=>outs=[]∧rows=[]∧res=v
theorem fun_of_wp {P:Program} {g:FuncId} {F:AFn} (hm:P.follows .mixedOrders=true) {no:Option (List Nat×List FuncId)} (hF:cFn (drV no) P g F) {args:List AVal} {v:AVal} (hargs:args.length=F.nparams)
    (hv:v.ren (expo []) id=v∧v.fresh)
    (h:wpD P F.code (fun e σ=>match e with | .exit _=>False | _=>(∀ x∈F.res,σ.there x)∧σ.value F.res=v) (St.init args [])):Fun P g args v:=by
  refine con_of_wp (draw_ok hm) hF hargs (by simp) (wpC_of_wpD _ _ _ _ (fun e σ he=>?_) h)
  have:(∀ x∈F.res,σ.there x)∧σ.value F.res=v→∃ ids,Ret 0 false ids (fun outs rows res=>outs=[]∧rows=[]∧res=v) F.res σ:=by
    rintro ⟨h1,h2⟩
    refine ⟨[],h1,⟨rfl,rfl,by rw [h2];exact hv.1⟩,by omega,by simp,by simp,by simp,fun _=>⟨by rw [h2];exact hv.2,by simp,fun j hj=>by omega⟩⟩
  cases e with
  | exit _=>exact he
  | normal=>exact this he
  | ret=>exact this he
theorem yz7 {hp:Nat→AObj} {d:Nat} {s:Nat→Nat}:callHp hp [] d s [] []=hp:=by
  funext n
  refine callHp_not ?_
  rintro ⟨q,hq⟩
  obtain ⟨i,hi,_⟩:=rid_nil hq
  simp at hi
theorem yzq {P:Program} {pu:Bool} {σ:St} {g:FuncId} {As args:List AVal} {v:AVal} {d:Option Nat} {s:Nat→Nat} {K:St→Prop} (h:Fun P g args v) (hco:CoeL σ.hp [] true args As)
    (hv:v.plain) (hk:K (St.put σ d v)):wpCall P pu σ g As d s K:=by
  refine .inl ⟨[],[],args,false,_,h,⟨by simp,rfl,by simp,by simp,by simp⟩,hco,fun _=>⟨rfl,[],[],v,rfl,rfl,rfl⟩,?_⟩
  rintro outs rows res ⟨rfl,rfl,rfl⟩
  refine ⟨rfl,by simp,by simp,?_⟩
  rw [yz7]
  have:res.ren (rid [] (d.getD 0) 0) (sv σ.hp [] s)=res:=by
    cases res with
    | val x=>rfl
    | tup cs =>
      simp only [AVal.ren]
      congr 1
      have hv':∀ A∈cs,∃ v,A=.val v:=hv
      clear hv
      clear hk h
      induction cs with
      | nil=>simp [renL]
      | cons A cs ih =>
        obtain ⟨x,rfl⟩:=hv' A (by simp)
        simp only [renL,AVal.ren]
        rw [ih fun A hA=>hv' A (List.mem_cons_of_mem _ hA)]
    | _=>exact hv.elim
  exact (congrArg (fun z=>K (St.put σ d z)) this).mpr hk
theorem wpD_loop {P:Program} {α:Type} {ts hs:List Nat} {a:AC} {Q:AEx→St→Prop} {σ:St} (m:α→Nat) (inv:α→Prop) (S:α→St) (x0:α) (h0:inv x0) (hS:σ.keep ts hs=S x0)
    (h:∀ x,inv x→wpD P a (fun e σ'=>match e with | .normal=>∃ y,m y<m x∧inv y∧σ'.keep ts hs=S y | e=>Q e σ') (S x)):wpD P (.loop (.kp ts hs a)) Q σ:=by
  refine ⟨fun n σ=>∃ x,m x=n∧inv x∧σ.keep ts hs=S x,⟨m x0,x0,rfl,h0,hS⟩,?_⟩
  rintro n σ' ⟨x,rfl,hx,hS⟩
  show wpD P a _ (σ'.keep ts hs)
  rw [hS]
  refine wpD_mono _ _ _ _ (fun e σ'' he=>?_) (h x hx)
  cases e with
  | normal =>
    obtain ⟨y,h1,h2,h3⟩:=he
    exact ⟨m y,h1,y,rfl,h2,h3⟩
  | exit i=>exact he
  | ret=>exact he
def seqQ (W:(AEx→St→Prop)→St→Prop) (Q:AEx→St→Prop):AEx→St→Prop
  | .normal,σ=>W Q σ
  | .exit i,σ=>Q (.exit i) σ
  | .ret,σ=>Q .ret σ
def blockQ (id:Nat) (Q:AEx→St→Prop):AEx→St→Prop
  | .normal,σ=>Q .normal σ
  | .exit i,σ=>if i=id then Q .normal σ else Q (.exit i) σ
  | .ret,σ=>Q .ret σ
def loopQ (N:St→Prop) (Q:AEx→St→Prop):AEx→St→Prop
  | .normal,σ=>N σ
  | .exit i,σ=>Q (.exit i) σ
  | .ret,σ=>Q .ret σ
def finQ (N:St→Prop):AEx→St→Prop
  | .exit _,_=>False
  | .normal,σ=>N σ
  | .ret,σ=>N σ
section
variable {P:Program} {Q:AEx→St→Prop} {σ:St} {W:(AEx→St→Prop)→St→Prop} {N:St→Prop} {a b:AC}
theorem seqQ_n:seqQ W Q .normal σ=W Q σ:=rfl
theorem seqQ_e {i:Nat}:seqQ W Q (.exit i) σ=Q (.exit i) σ:=rfl
theorem seqQ_r:seqQ W Q .ret σ=Q .ret σ:=rfl
theorem blockQ_n {id:Nat}:blockQ id Q .normal σ=Q .normal σ:=rfl
theorem blockQ_e {id i:Nat}:blockQ id Q (.exit i) σ=if i=id then Q .normal σ else Q (.exit i) σ:=rfl
theorem blockQ_r {id:Nat}:blockQ id Q .ret σ=Q .ret σ:=rfl
theorem loopQ_n:loopQ N Q .normal σ=N σ:=rfl
theorem loopQ_e {i:Nat}:loopQ N Q (.exit i) σ=Q (.exit i) σ:=rfl
theorem loopQ_r:loopQ N Q .ret σ=Q .ret σ:=rfl
theorem finQ_n:finQ N .normal σ=N σ:=rfl
theorem finQ_e {i:Nat}:finQ N (.exit i) σ=False:=rfl
theorem finQ_r:finQ N .ret σ=N σ:=rfl
theorem wpD_skip:wpD P .skip Q σ=Q .normal σ:=rfl
theorem wpD_reg {draw:Bool} {ops:List AOp}:wpD P (.reg draw ops) Q σ=∀ vs,Ab.wpOps (!draw) (wpCk P draw) vs 0 ops σ (Q .normal):=rfl
theorem yz2 {ts hs:List Nat}:wpD P (.kp ts hs a) Q σ=wpD P a Q (σ.keep ts hs):=rfl
theorem wpD_gh:wpD P (.gh a) Q σ=(σ.Dist→∃ gs,gwp gs (fun σ'=>wpD P a Q σ') σ):=rfl
theorem yz1 {draw:Bool} {ops:List AOp}:wpD P (.regi draw ops) Q σ=∀ vs U,New vs U σ→Ab.wpOps (!draw) (wpCk P draw) vs 0 ops σ (Q .normal):=rfl
theorem wpD_ad {x off r k:Nat}:wpD P (.ad x off r k a) Q σ=∀ ver,wpD P a Q (σ.adopt x off r k ver):=rfl
theorem wpD_seq:wpD P (.seq a b) Q σ=wpD P a (seqQ (wpD P b) Q) σ:=by
  show wpD P a _ σ=_
  congr 1
  funext e σ'
  cases e <;> rfl
theorem wpD_block {id:Nat}:wpD P (.block id a) Q σ=wpD P a (blockQ id Q) σ:=by
  show wpD P a _ σ=_
  congr 1
  funext e σ'
  cases e <;> rfl
theorem wpD_exit {i:Nat}:wpD P (.exit i) Q σ=Q (.exit i) σ:=rfl
theorem wpD_ret:wpD P .ret Q σ=Q .ret σ:=rfl
theorem wpD_stuck:wpD P .stuck Q σ=False:=rfl
theorem wpD_lp {α:Type} {ts hs:List Nat} (m:α→Nat) (inv:α→Prop) (S:α→St) (x0:α) (h0:inv x0) (hS:σ.keep ts hs=S x0)
    (h:∀ x,inv x→wpD P a (loopQ (fun σ'=>∃ y,m y<m x∧inv y∧σ'.keep ts hs=S y) Q) (S x)):wpD P (.loop (.kp ts hs a)) Q σ:=by
  refine wpD_loop m inv S x0 h0 hS fun x hx=>wpD_mono _ _ _ _ (fun e σ' he=>?_) (h x hx)
  cases e <;> exact he
theorem fun_of {g:FuncId} {F:AFn} (hm:P.follows .mixedOrders=true) {no:Option (List Nat×List FuncId)} (hF:cFn (drV no) P g F) {args:List AVal} {v:AVal} (hargs:args.length=F.nparams)
    (hv:v.ren (expo []) id=v∧v.fresh) (h:wpD P F.code (finQ fun σ=>(∀ x∈F.res,σ.there x)∧σ.value F.res=v) (St.init args [])):Fun P g args v:=by
  refine fun_of_wp hm hF hargs hv (wpD_mono _ _ _ _ (fun e σ he=>?_) h)
  cases e <;> exact he
end
theorem put_L {l:List (Nat×AVal)} {hp:Nat→AObj} {d:Nat} {A:AVal}:St.put ⟨L .any l,hp⟩ (some d) A=⟨L .any ((d,A) :: l),hp⟩:=rfl
theorem L_hit {α:Type} {z a:α} {k:Nat} {l:List (Nat×α)}:L z ((k,a) :: l) k=a:=by simp [L]
theorem L_miss {α:Type} {z a:α} {k n:Nat} {l:List (Nat×α)} (h:n≠k):L z ((k,a) :: l) n=L z l n:=by simp [L,h]
theorem L_nil {α:Type} {z:α} {n:Nat}:L z ([]:List (Nat×α)) n=z:=rfl
theorem put_none {σ:St} {A:AVal}:St.put σ none A=σ:=rfl
end Go.Ab
namespace Go.Ab
abbrev iv (n:Int):AVal:=.val (.int .i64 n)
abbrev bv (b:Bool):AVal:=.val (.bool b)
abbrev ints (xs:List Int):List AVal:=xs.map fun x=>.val (.int .i64 x)
theorem ints_getD {xs:List Int} {i:Nat} (h:i<xs.length):(ints xs).getD i .any=.val (.int .i64 (xs.getD i 0)):=by
  simp [ints,List.getD_eq_getElem?_getD,h]
theorem w64 {n:Int} (h:-9223372036854775808≤n∧n≤9223372036854775807):IntKind.i64.wrap n=n:=IntWalk.i64_in n h
theorem maxLen_le:maxLen≤9223372036854775807:=by decide
theorem i2n (i:Nat):((i:Int)).toNat=i:=by simp
end Go.Ab
namespace Go.Ab
theorem upd_L {l:List (Nat×AObj)} {d:Nat} {o:AObj}:upd (L .gone l) d o=L .gone ((d,o) :: l):=rfl
def goneL (hp:Nat→AObj):List Nat→Nat→AObj
  | []=>hp
  | r :: rs=>upd (goneL hp rs) r .gone
theorem goneL_nil {hp:Nat→AObj}:goneL hp []=hp:=rfl
theorem goneL_cons {hp:Nat→AObj} {r:Nat} {rs:List Nat}:goneL hp (r :: rs)=upd (goneL hp rs) r .gone:=rfl
theorem goneL_eq {hp:Nat→AObj}:∀ (rs:List Nat),(fun n=>if n∈rs then .gone else hp n)=goneL hp rs
  | []=>by funext n;simp [goneL]
  | r :: rs=>by
    rw [goneL_cons,← goneL_eq rs]
    funext n
    unfold upd
    by_cases h:n=r
    · subst h;simp
    · simp [h]
def AI.hq (σ:St) (ver:Nat) (d:Nat):AI→Nat→AObj
  | .box x=>upd σ.hp d (.box ver (σ.ev x).cells)
  | .new z=>upd σ.hp d (.box ver (z.map .val))
  | .bsl k _ xs=>upd (goneL σ.hp (owned (xs.flatMap fun x=>(σ.ev x).cells))) d (.row ver k true ((xs.flatMap fun x=>(σ.ev x).cells).map (frz σ.hp)))
  | .bsln _ k xs=>upd (goneL σ.hp (owned (xs.flatMap fun x=>(σ.ev x).cells))) d (.row ver k true ((xs.flatMap fun x=>(σ.ev x).cells).map (frz σ.hp)))
  | .bslm _ k xs=>upd (goneL σ.hp (owned (xs.flatMap fun x=>(σ.ev x).cells))) d (.row ver k true ((xs.flatMap fun x=>(σ.ev x).cells).map (frz σ.hp)))
  | .ston _ _ x v=>match σ.ev x with
    | .ptr r _ off=>(match σ.hp r with
      | .box ver' cs=>upd σ.hp r (.box ver' (putAt cs off (σ.ev v).cells))
      | _=>σ.hp)
    | _=>σ.hp
  | .appn _ k _ s x=>match σ.ev s with
    | .own r _=>(match σ.hp r with
      | .row _ _ nn cs=>upd σ.hp r (.row ver k (nn || decide ((σ.slc (σ.ev x)).length≠0)) (cs ++ σ.slc (σ.ev x)))
      | _=>σ.hp)
    | _=>σ.hp
  | .sto _ x v=>match σ.ev x with
    | .ptr r _ off=>(match σ.hp r with
      | .box ver' cs=>upd σ.hp r (.box ver' (putAt cs off (σ.ev v).cells))
      | .row ver' k nn cs=>upd (goneL σ.hp (owned (σ.ev v).cells)) r (.row ver' k nn (putAt cs off ((σ.ev v).cells.map (frz σ.hp))))
      | _=>σ.hp)
    | _=>σ.hp
  | .app k _ s x=>match σ.ev s with
    | .own r _=>(match σ.hp r with
      | .row _ _ nn cs=>upd σ.hp r (.row ver k (nn || decide ((σ.slc (σ.ev x)).length≠0)) (cs ++ σ.slc (σ.ev x)))
      | _=>σ.hp)
    | _=>if (σ.slc (σ.ev x)).length=0 then σ.hp else upd σ.hp d (.row ver k true (σ.slc (σ.ev x)))
  | .mks k _ z l _=>match σ.ev l with
    | .val (.int _ n)=>upd σ.hp d (.row ver k true (List.replicate n.toNat (z.map .val)).flatten)
    | _=>σ.hp
  | .slc k x lo hi=>match σ.ev x with
    | .own r _=>(match σ.hp r with
      | .row _ _ nn cs=>(match σ.bound 0 lo,σ.bound (cs.length / k) hi with | some l,some h=>upd σ.hp r (.row ver k nn ((cs.take (h * k)).drop (l * k))) | _,_=>σ.hp)
      | _=>σ.hp)
    | _=>σ.hp
  | .slc0 k x=>upd σ.hp d (.row ver k (σ.nn (σ.ev x)) [])
  | .mkm=>upd σ.hp d (.map ver [] [])
  | .mup _ x i v=>match σ.ev x,(σ.ev i).keyV with
    | .mp r _,.val k=>(match σ.hp r with
      | .map ver' ks vs=>(match findKeyAt k ks 0 with
        | some (some j)=>upd (goneL σ.hp (owned [σ.ev v])) r (.map ver' ks (vs.set j (frz σ.hp (σ.ev v))))
        | _=>upd (goneL σ.hp (owned [σ.ev v])) r (.map ver' (ks ++ [k]) (vs ++ [frz σ.hp (σ.ev v)])))
      | _=>σ.hp)
    | _,_=>σ.hp
  | _=>σ.hp
theorem upd_gone {hp:Nat→AObj} {r:Nat} {o:AObj} {rs:List Nat}:(fun n=>if n=r then o else if n∈rs then .gone else hp n)=upd (goneL hp rs) r o:=by
  rw [← goneL_eq];rfl
theorem hpw_eq (σ:St) (ver d:Nat) (x:AI):x.hpw σ ver d=x.hq σ ver d:=by
  cases x with
  | bsl k fz xs=>exact upd_gone
  | bsln nos k xs=>exact upd_gone
  | bslm nos k xs=>exact upd_gone
  | sto n x v =>
    simp only [AI.hpw,AI.hq]
    cases hx:σ.ev x with
    | ptr r v' off =>
      simp only []
      cases hr:σ.hp r with
      | row v k nn cs=>exact upd_gone
      | _=>rfl
    | _=>rfl
  | mup kd x i v =>
    simp only [AI.hpw,AI.hq]
    cases hx:σ.ev x with
    | mp r v' =>
      cases hi:(σ.ev i).keyV with
      | val k =>
        simp only []
        cases hr:σ.hp r with
        | map v ks vs =>
          simp only []
          cases hk:findKeyAt k ks 0 with
          | none=>exact upd_gone
          | some q=>cases q <;> exact upd_gone
        | _=>rfl
      | _=>rfl
    | _=>rfl
  | _=>rfl
mutual
def AVal.flat:AVal→Prop
  | .any=>True
  | .val _=>True
  | .ro nm _ cs=>(nm=none∨nm=some none∨nm=some (some 0))∧flatL cs
  | .own _ _=>False
  | .st cs=>flatL cs
  | .tup cs=>flatL cs
  | .ptr _ _ _=>False
  | .rp cs _=>flatL cs
  | .mp _ _=>False
  | .clo _ cs=>flatL cs
def flatL:List AVal→Prop
  | []=>True
  | A :: cs=>A.flat∧flatL cs
end
mutual
theorem ren_flat {f:Nat→Option Nat} {s:Nat→Nat}:∀ (A:AVal),A.flat→A.ren f s=A
  | .any,_=>by simp only [AVal.ren]
  | .val _,_=>by simp only [AVal.ren]
  | .ro nm k cs,h=>by
    simp only [AVal.flat] at h
    obtain ⟨rfl | rfl | rfl,h⟩:=h <;> simp only [AVal.ren,renL_flat cs h,rnNm]
  | .own _ _,h=>by simp only [AVal.flat] at h
  | .st cs,h=>by simp only [AVal.flat] at h;simp only [AVal.ren,renL_flat cs h]
  | .tup cs,h=>by simp only [AVal.flat] at h;simp only [AVal.ren,renL_flat cs h]
  | .ptr _ _ _,h=>by simp only [AVal.flat] at h
  | .rp cs _,h=>by simp only [AVal.flat] at h;simp only [AVal.ren,renL_flat cs h]
  | .mp _ _,h=>by simp only [AVal.flat] at h
  | .clo _ cs,h=>by simp only [AVal.flat] at h;simp only [AVal.ren,renL_flat cs h]
theorem renL_flat {f:Nat→Option Nat} {s:Nat→Nat}:∀ (cs:List AVal),flatL cs→renL f s cs=cs
  | [],_=>by simp only [renL]
  | A :: cs,h=>by
    simp only [flatL] at h
    simp only [renL,ren_flat A h.1,renL_flat cs h.2]
end
theorem fresh_vals {cs:List AVal} (h:∀ A∈cs,∃ x,A=.val x):freshL cs:=(freshL_iff cs).2 fun A hA=>by obtain ⟨x,rfl⟩:=h A hA;simp [AVal.fresh]
theorem flat_vals:∀ {cs:List AVal},(∀ A∈cs,∃ x,A=.val x)→flatL cs
  | [],_=>by simp [flatL]
  | A :: cs,h=>by
    obtain ⟨x,hx⟩:=h A (by simp)
    subst hx
    simp only [flatL,AVal.flat,true_and]
    exact flat_vals fun B hB=>h B (by simp [hB])
theorem ev_t {σ:St} {n:Nat}:St.ev σ (.t n)=σ.tm n:=rfl
theorem ev_c {σ:St} {v:Value}:St.ev σ (.c v)=.val v:=rfl
theorem ev_f {σ:St} {g:FuncId}:St.ev σ (.f g)=.clo g []:=rfl
theorem frz_ints {hp:Nat→AObj} {xs:List Int}:(ints xs).map (frz hp)=ints xs:=by simp [ints,frz]
theorem one_ints {hp:Nat→AObj} {xs:List Int}:(∀ A∈ints xs,One hp A)=True:=by
  refine eq_true ?_
  intro A hA
  simp only [ints,List.mem_map] at hA
  obtain ⟨x,_,rfl⟩:=hA
  rfl
theorem owned_ints {xs:List Int}:owned (ints xs)=[]:=by
  induction xs with
  | nil=>rfl
  | cons x xs ih=>exact ih
def itT {α:Type} (cur:Bool) (l:List α):List α:=if cur then l.tail else l
theorem itT_t {α:Type} {a:α} {l:List α}:itT true (a :: l)=l:=rfl
theorem itT_f {α:Type} {l:List α}:itT false l=l:=rfl
theorem wpIt_0 {ver d:Nat} {σ:St} {K:St→Prop} {r v:Nat}:wpIt ver (some d) σ K 0 (.mp r v)=(match σ.hp r with
    | .map v' ks vs=>v'=v∧σ.hp d=.gone∧K (St.put ⟨σ.tm,upd (upd σ.hp r .gone) d (.it ver (some (false,ks,vs)))⟩ (some d) (.own d ver))
    | _=>False):=rfl
theorem wpIt_1 {ver:Nat} {d:Option Nat} {σ:St} {K:St→Prop} {r v:Nat}:wpIt ver d σ K 1 (.own r v)=(match σ.hp r with
    | .it v' (some (cur,ks,vs))=>v'=v∧(itT cur ks=[]→K (σ.put d (.tup [.val (.bool false)]))) ∧
      ∀ (j:Nat) (k:Value) (A:AVal),(itT cur ks)[j]?=some k→(itT cur vs)[j]?=some A →
        K (St.put ⟨σ.tm,upd σ.hp r (.it v (some (true,k :: (itT cur ks).eraseIdx j,A :: (itT cur vs).eraseIdx j)))⟩ d (.tup [.val (.bool true),.val k,A]))
    | _=>False):=rfl
theorem wpIt_2 {ver:Nat} {d:Option Nat} {σ:St} {K:St→Prop} {r v:Nat}:wpIt ver d σ K 2 (.own r v)=(match σ.hp r with
    | .it v' (some (true,k :: _,A :: _))=>v'=v∧K (σ.put d (.tup [.val k,A]))
    | _=>False):=rfl
theorem odn_it {v:Nat} {d:Option (Bool×List Value×List AVal)}:AObj.dn (.it v d)=.it v (itd dnL d):=rfl
theorem upd_hit {hp:Nat→AObj} {d:Nat} {o:AObj}:upd hp d o d=o:=by simp [upd]
theorem one_iv {hp:Nat→AObj} {k:IntKind} {n:Int}:One hp (.val (.int k n))=True:=by simp [One,Value.oneCell']
theorem one_bv {hp:Nat→AObj} {b:Bool}:One hp (.val (.bool b))=True:=by simp [One,Value.oneCell']
theorem one_str {hp:Nat→AObj} {b:ByteArray}:One hp (.val (.string b))=True:=by simp [One,Value.oneCell']
theorem one_nil {hp:Nat→AObj}:One hp (.val (.slice none 0 0))=True:=by simp [One,Value.oneCell']
theorem one_ro {hp:Nat→AObj} {nm:Option (Option Nat)} {k:Nat} {cs:List AVal}:One hp (.ro nm k cs)=True:=by simp [One]
theorem ints_app {xs ys:List Int}:ints xs ++ ints ys=ints (xs ++ ys):=by simp [ints]
theorem ints_rep {n:Nat} {x:Int}:(List.replicate n [AVal.val (.int .i64 x)]).flatten=ints (List.replicate n x):=by
  induction n with
  | zero=>rfl
  | succ n ih=>rw [List.replicate_succ,List.replicate_succ,List.flatten_cons,ih];rfl
theorem yz6 {hp:Nat→AObj} {d:Nat} {s:Nat→Nat} {o:AObj}:callHp hp [] d s [] [o]=upd hp d (o.ren (rid [] d 1) s):=by
  funext n
  by_cases h:n=d
  · have h1:rid [] d [o].length 6000=some n:=by
      have:=rid_new (m:=[]) (d:=d) (nr:=1) (i:=0) (by omega)
      simpa [newId,h] using this
    rw [callHp_at (by simp) (by simp) h1,sv_nil]
    simp [upd,h,outHp]
  · rw [callHp_not]
    · simp [upd,h]
    · rintro ⟨q,hq⟩
      obtain ⟨i,hi,e⟩:=rid_nil hq
      simp at hi
      subst hi
      exact h (by simpa [newId] using e)
end Go.Ab
namespace Go.Ab
abbrev intsK (k:IntKind) (xs:List Int):List AVal:=xs.map fun x=>.val (.int k x)
def rws (xss:List (List Int)):List AVal:=xss.map fun xs=>.ro (some none) 1 (ints xs)
def rwn (xss:List (List Int)):List AVal:=xss.map fun xs=>.ro none 1 (ints xs)
def pickT (f:Nat→AVal):List Nat→List (Nat×AVal)
  | []=>[]
  | k :: ks=>(k,(f k).dn) :: pickT f ks
def pickO (f:Nat→AObj):List Nat→List (Nat×AObj)
  | []=>[]
  | k :: ks=>match f k with
    | .gone=>pickO f ks
    | o=>(k,o.dn) :: pickO f ks
def St.kd (σ:St) (ts hs:List Nat):St:=⟨L .any (pickT σ.tm ts),L .gone (pickO σ.hp hs)⟩
theorem yz0 {h:List (Nat×AObj)} {b r:Nat} {o o':AObj}:(fun n=>if n=b then o else if n=r then o' else L .gone h n)=L .gone ((b,o) :: (r,o') :: h):=rfl
theorem kd_L {l:List (Nat×AVal)} {h:List (Nat×AObj)} {ts hs:List Nat}:St.kd ⟨L .any l,L .gone h⟩ ts hs=⟨L .any (pickT (L .any l) ts),L .gone (pickO (L .gone h) hs)⟩:=rfl
theorem wpOps_nil {fa:Bool} {CK:CM→St→FuncId→List AVal→Option Nat→(Nat→Nat)→(St→Prop)→Prop} {vs:Nat→Nat→Nat} {i:Nat} {σ:St} {K:St→Prop}:Ab.wpOps fa CK vs i [] σ K=K σ:=rfl
theorem wpOps_L {fa:Bool} {CK:CM→St→FuncId→List AVal→Option Nat→(Nat→Nat)→(St→Prop)→Prop} {vs:Nat→Nat→Nat} {i:Nat} {o:AOp} {os:List AOp} {l:List (Nat×AVal)} {h:List (Nat×AObj)} {K:St→Prop} :
    Ab.wpOps fa CK vs i (o :: os) ⟨L .any l,L .gone h⟩ K=Ab.wpOp fa CK (vs i) o ⟨L .any l,L .gone h⟩ (fun σ'=>Ab.wpOps fa CK vs (i+1) os σ' K):=rfl
def grdP (A:AVal) (w:Bool) (f g:Unit→Prop):Prop :=
  match A with
  | .val (.bool b)=>(b=w→f ())∧(b≠w→g ())
  | .val (.tuple _)=>g ()
  | _=>False
def cndP (A:AVal) (f g:Unit→Prop):Prop :=
  match A with
  | .val (.bool t)=>(t=true→f ())∧(t=false→g ())
  | _=>False
@[congr] theorem grdP_congr {A A':AVal} {w:Bool} {f g:Unit→Prop} (h:A=A'):grdP A w f g=grdP A' w f g:=by rw [h]
@[congr] theorem cndP_congr {A A':AVal} {f g:Unit→Prop} (h:A=A'):cndP A f g=cndP A' f g:=by rw [h]
theorem wpOp_n {fa:Bool} {CK:CM→St→FuncId→List AVal→Option Nat→(Nat→Nat)→(St→Prop)→Prop} {s:Nat→Nat} {d:Option Nat} {y:AIns} {σ:St} {K:St→Prop}:Ab.wpOp fa CK s ⟨d,none,y⟩ σ K=Ab.wpIns fa CK s d σ K y:=rfl
theorem wpOp_g {fa:Bool} {CK:CM→St→FuncId→List AVal→Option Nat→(Nat→Nat)→(St→Prop)→Prop} {s:Nat→Nat} {d:Option Nat} {y:AIns} {σ:St} {K:St→Prop} {t:Nat} {w:Bool} :
    Ab.wpOp fa CK s ⟨d,some (t,w),y⟩ σ K=grdP (σ.tm t) w (fun _=>Ab.wpIns fa CK s d σ K y) (fun _=>K (σ.put d (.val (.tuple #[])))):=rfl
theorem grd_tt {f g:Unit→Prop}:grdP (.val (.bool true)) true f g=f ():=by simp [grdP]
theorem grd_ff {f g:Unit→Prop}:grdP (.val (.bool false)) false f g=f ():=by simp [grdP]
theorem grd_tf {f g:Unit→Prop}:grdP (.val (.bool true)) false f g=g ():=by simp [grdP]
theorem grd_ft {f g:Unit→Prop}:grdP (.val (.bool false)) true f g=g ():=by simp [grdP]
theorem grd_u {f g:Unit→Prop} {w:Bool} {x:Array Value}:grdP (.val (.tuple x)) w f g=g ():=rfl
theorem grd_b {f g:Unit→Prop} {w b:Bool}:grdP (.val (.bool b)) w f g=((b=w→f ())∧(b≠w→g ())):=rfl
theorem cnd_t {f g:Unit→Prop}:cndP (.val (.bool true)) f g=f ():=by simp [cndP]
theorem cnd_f {f g:Unit→Prop}:cndP (.val (.bool false)) f g=g ():=by simp [cndP]
theorem cnd_b {f g:Unit→Prop} {b:Bool}:cndP (.val (.bool b)) f g=((b=true→f ())∧(b=false→g ())):=rfl
theorem wpD_condL {P:Program} {Q:AEx→St→Prop} {σ:St} {a b:AC} {c:AOpd}:wpD P (.cond c a b) Q σ=cndP (σ.ev c) (fun _=>wpD P a Q σ) (fun _=>wpD P b Q σ):=rfl
theorem pickT_eq {f:Nat→AVal}:∀ (ks:List Nat) (n:Nat),(L .any (pickL .any f ks) n).dn=L .any (pickT f ks) n
  | [],n=>by simp [pickL,pickT,L,AVal.dn]
  | k :: ks,n=>by
    simp only [pickL,pickT,L]
    by_cases h:n=k
    · simp [h]
    · simp only [h,if_false];exact pickT_eq ks n
theorem pickO_miss {f:Nat→AObj}:∀ (ks:List Nat) (n:Nat),f n=.gone→L .gone (pickO f ks) n=.gone
  | [],n,_=>rfl
  | k :: ks,n,h=>by
    simp only [pickO]
    split
    · exact pickO_miss ks n h
    · rename_i hk
      simp only [L]
      by_cases e:n=k
      · subst e;exact absurd h hk
      · rw [if_neg e];exact pickO_miss ks n h
theorem pickO_eq {f:Nat→AObj}:∀ (ks:List Nat) (n:Nat),(L .gone (pickL .gone f ks) n).dn=L .gone (pickO f ks) n
  | [],n=>by simp [pickL,pickO,L,AObj.dn]
  | k :: ks,n=>by
    simp only [pickL,pickO,L]
    by_cases h:n=k
    · subst h
      simp only [if_true]
      split
      · rename_i e;rw [pickO_miss ks n e,e];rfl
      · simp only [L,if_true]
    · simp only [h,if_false]
      split
      · exact pickO_eq ks n
      · simp only [L,h,if_false];exact pickO_eq ks n
theorem kd_eq (σ:St) (ts hs:List Nat):(σ.keep ts hs).dn=σ.kd ts hs:=by
  unfold St.keep St.dn St.kd
  congr 1
  · funext n;exact pickT_eq ts n
  · funext n;exact pickO_eq hs n
section
variable {P:Program} {Q:AEx→St→Prop} {σ:St} {a b:AC}
theorem wpD_kpd {ts hs:List Nat}:wpD P (.kp ts hs (.dn a)) Q σ=wpD P a Q (σ.kd ts hs):=by rw [← kd_eq];rfl
theorem wpD_dnret:wpD P (.dn .ret) Q σ=Q .ret σ.dn:=rfl
theorem wpD_lo {α:Type} {ts hs:List Nat} (m:α→Nat) (inv:α→Prop) (S:α→St) (x0:α) (h0:inv x0) (hS:σ.kd ts hs=S x0)
    (h:∀ x,inv x→wpD P a (loopQ (fun σ'=>∃ y,m y<m x∧inv y∧σ'.kd ts hs=S y) Q) (S x)):wpD P (.loop (.kp ts hs (.dn a))) Q σ:=by
  refine ⟨fun n σ=>∃ x,m x=n∧inv x∧σ.kd ts hs=S x,⟨m x0,x0,rfl,h0,hS⟩,?_⟩
  rintro n σ' ⟨x,rfl,hx,hS⟩
  show wpD P a _ (σ'.keep ts hs).dn
  rw [kd_eq,hS]
  refine wpD_mono _ _ _ _ (fun e σ'' he=>?_) (h x hx)
  cases e with
  | normal =>
    obtain ⟨y,h1,h2,h3⟩:=he
    exact ⟨m y,h1,y,rfl,h2,h3⟩
  | exit i=>exact he
  | ret=>exact he
end
def mvT (a v b m:Nat):List (Nat×AVal)→List (Nat×AVal)
  | []=>[]
  | (k,A) :: l=>(k,A.mv a v b m) :: mvT a v b m l
def mvO (a v b m:Nat):List (Nat×AObj)→List (Nat×AObj)
  | []=>[]
  | (k,o) :: l=>(k,o.mv a v b m) :: mvO a v b m l
theorem mvT_eq {a v b m:Nat}:∀ (l:List (Nat×AVal)) (n:Nat),L .any (mvT a v b m l) n=(L .any l n).mv a v b m
  | [],n=>by simp [mvT,L,AVal.mv]
  | (k,A) :: l,n=>by
    simp only [mvT,L]
    split
    · rfl
    · exact mvT_eq l n
theorem mvO_eq {a v b m:Nat}:∀ (l:List (Nat×AObj)) (n:Nat),L .gone (mvO a v b m l) n=(L .gone l n).mv a v b m
  | [],n=>by simp [mvO,L,AObj.mv]
  | (k,A) :: l,n=>by
    simp only [mvO,L]
    split
    · rfl
    · exact mvO_eq l n
theorem mv_L {l:List (Nat×AVal)} {h:List (Nat×AObj)} {a b m:Nat}:St.mv ⟨L .any l,L .gone h⟩ a b m=match (L .gone h a).ver with
    | none=>⟨L .any l,L .gone h⟩
    | some v=>if a=b then ⟨L .any l,L .gone h⟩ else ⟨L .any (mvT a v b m l),L .gone ((a,.gone) :: (b,((L .gone h a).mv a v b m).wv m) :: mvO a v b m h)⟩:=by
  unfold St.mv
  show (match (L .gone h a).ver with | none=>_ | some v=>_)=_
  cases (L .gone h a).ver with
  | none=>rfl
  | some v =>
    simp only []
    split
    · rfl
    · congr 1
      · funext n;exact (mvT_eq l n).symm
      · funext n
        simp only [L]
        split
        · rfl
        · split
          · rfl
          · exact (mvO_eq h n).symm
theorem mvV_any {a v b m:Nat}:AVal.mv a v b m .any=.any:=by simp only [AVal.mv]
theorem mvV_val {a v b m:Nat} {x:Value}:AVal.mv a v b m (.val x)=.val x:=by simp only [AVal.mv]
theorem mvV_ro {a v b m:Nat} {nm:Option (Option Nat)} {k:Nat} {cs:List AVal}:AVal.mv a v b m (.ro nm k cs)=.ro nm k (mvL a v b m cs):=by simp only [AVal.mv]
theorem mvV_own {a v b m r u:Nat}:AVal.mv a v b m (.own r u)=if r=a then (if u=v then .own b m else .any) else if r=b then .any else .own r u:=by simp only [AVal.mv]
theorem mvV_ptr {a v b m r u off:Nat}:AVal.mv a v b m (.ptr r u off)=if r=a then (if u=v then .ptr b m off else .any) else if r=b then .any else .ptr r u off:=by simp only [AVal.mv]
theorem mvV_mp {a v b m r u:Nat}:AVal.mv a v b m (.mp r u)=if r=a then (if u=v then .mp b m else .any) else if r=b then .any else .mp r u:=by simp only [AVal.mv]
theorem mvV_st {a v b m:Nat} {cs:List AVal}:AVal.mv a v b m (.st cs)=.st (mvL a v b m cs):=by simp only [AVal.mv]
theorem mvV_tup {a v b m:Nat} {cs:List AVal}:AVal.mv a v b m (.tup cs)=.tup (mvL a v b m cs):=by simp only [AVal.mv]
theorem mvV_rp {a v b m o:Nat} {cs:List AVal}:AVal.mv a v b m (.rp cs o)=.rp (mvL a v b m cs) o:=by simp only [AVal.mv]
theorem mvV_clo {a v b m:Nat} {g:FuncId} {cs:List AVal}:AVal.mv a v b m (.clo g cs)=.clo g (mvL a v b m cs):=by simp only [AVal.mv]
theorem mvL_nil {a v b m:Nat}:mvL a v b m []=[]:=by simp only [mvL]
theorem mvL_cons {a v b m:Nat} {A:AVal} {cs:List AVal}:mvL a v b m (A :: cs)=A.mv a v b m :: mvL a v b m cs:=by simp only [mvL]
theorem mvL_ints {a v b m:Nat} {k:IntKind} {xs:List Int}:mvL a v b m (intsK k xs)=intsK k xs:=by simp [mvL_eq,intsK,AVal.mv]
theorem mvL_rws {a v b m:Nat} {xss:List (List Int)}:mvL a v b m (rws xss)=rws xss:=by
  simp only [mvL_eq,rws,List.map_map]
  exact List.map_congr_left fun xs _=>by simp [AVal.mv,ints,mvL_eq]
theorem mvL_rwn {a v b m:Nat} {xss:List (List Int)}:mvL a v b m (rwn xss)=rwn xss:=by
  simp only [mvL_eq,rwn,List.map_map]
  exact List.map_congr_left fun xs _=>by simp [AVal.mv,ints,mvL_eq]
theorem dn_tm {σ:St} {n:Nat}:σ.dn.tm n=(σ.tm n).dn:=rfl
theorem dn_hp {σ:St} {n:Nat}:σ.dn.hp n=(σ.hp n).dn:=rfl
theorem dn_any:AVal.dn .any=.any:=by simp only [AVal.dn]
theorem dn_val {v:Value}:AVal.dn (.val v)=.val v:=by simp only [AVal.dn]
theorem dn_ro {nm:Option (Option Nat)} {k:Nat} {cs:List AVal}:AVal.dn (.ro nm k cs)=.ro (dnNm nm) k (dnL cs):=by simp only [AVal.dn]
theorem dn_own {r v:Nat}:AVal.dn (.own r v)=.own r v:=by simp only [AVal.dn]
theorem dn_st {cs:List AVal}:AVal.dn (.st cs)=.st (dnL cs):=by simp only [AVal.dn]
theorem dn_tup {cs:List AVal}:AVal.dn (.tup cs)=.tup (dnL cs):=by simp only [AVal.dn]
theorem dn_ptr {r v o:Nat}:AVal.dn (.ptr r v o)=.ptr r v o:=by simp only [AVal.dn]
theorem dn_rp {cs:List AVal} {o:Nat}:AVal.dn (.rp cs o)=.rp (dnL cs) o:=by simp only [AVal.dn]
theorem dn_mp {r v:Nat}:AVal.dn (.mp r v)=.mp r v:=by simp only [AVal.dn]
theorem dn_clo {g:FuncId} {cs:List AVal}:AVal.dn (.clo g cs)=.clo g (dnL cs):=by simp only [AVal.dn]
theorem dnL_nil:dnL []=[]:=by simp only [dnL]
theorem dnL_cons {A:AVal} {cs:List AVal}:dnL (A :: cs)=A.dn :: dnL cs:=by simp only [dnL]
theorem dnL_app {cs ds:List AVal}:dnL (cs ++ ds)=dnL cs ++ dnL ds:=by simp [dnL_eq]
theorem dnL_ints {k:IntKind} {xs:List Int}:dnL (intsK k xs)=intsK k xs:=by simp [dnL_eq,intsK,AVal.dn]
theorem dnNm_n:dnNm none=none:=rfl
theorem dnNm_sn:dnNm (some none)=some none:=rfl
theorem dnNm_o:dnNm (some (some 0))=some (some 0):=rfl
theorem dnNm_s {n:Nat}:dnNm (some (some (n+1)))=some none:=rfl
theorem isNew_sn:isNew (some none)=true:=rfl
theorem isNew_s {n:Nat}:isNew (some (some (n+1)))=true:=rfl
theorem rnNm_n {s:Nat→Nat}:rnNm s none=none:=rfl
theorem rnNm_sn {s:Nat→Nat}:rnNm s (some none)=some none:=rfl
theorem rnNm_o {s:Nat→Nat}:rnNm s (some (some 0))=some (some 0):=rfl
theorem rnNm_s {s:Nat→Nat} {n:Nat}:rnNm s (some (some (n+1)))=some (some (s n+1)):=rfl
theorem dnL_rws {xss:List (List Int)}:dnL (rws xss)=rws xss:=by
  simp only [dnL_eq,rws,List.map_map]
  exact List.map_congr_left fun xs _=>by simp [AVal.dn,ints,dnL_eq,dnNm]
theorem dnL_rwn {xss:List (List Int)}:dnL (rwn xss)=rwn xss:=by
  simp only [dnL_eq,rwn,List.map_map]
  exact List.map_congr_left fun xs _=>by simp [AVal.dn,ints,dnL_eq,dnNm]
theorem odn_box {v:Nat} {cs:List AVal}:AObj.dn (.box v cs)=.box v (dnL cs):=rfl
theorem odn_row {v k:Nat} {nn:Bool} {cs:List AVal}:AObj.dn (.row v k nn cs)=.row v k nn (dnL cs):=rfl
theorem odn_map {v:Nat} {ks:List Value} {vs:List AVal}:AObj.dn (.map v ks vs)=.map v ks (dnL vs):=rfl
theorem rws_snoc {xss:List (List Int)} {xs:List Int}:rws xss ++ [.ro (some none) 1 (ints xs)]=rws (xss ++ [xs]):=by simp [rws]
theorem rws_nil:rws []=[]:=rfl
theorem rws_app {xss yss:List (List Int)}:rws xss ++ rws yss=rws (xss ++ yss):=by simp [rws]
theorem rws_len {xss:List (List Int)}:(rws xss).length=xss.length:=by simp [rws]
theorem rwn_len {xss:List (List Int)}:(rwn xss).length=xss.length:=by simp [rwn]
theorem rwn_getD {xss:List (List Int)} {i:Nat} (h:i<xss.length):(rwn xss).getD i .any=.ro none 1 (ints (xss.getD i [])):=by
  simp [rwn,List.getD_eq_getElem?_getD,h]
theorem intsK_getD {k:IntKind} {xs:List Int} {i:Nat} (h:i<xs.length):(intsK k xs).getD i .any=.val (.int k (xs.getD i 0)):=by
  simp [List.getD_eq_getElem?_getD,h]
theorem intsK_snoc {k:IntKind} {xs:List Int} {x:Int}:intsK k xs ++ [AVal.val (.int k x)]=intsK k (xs ++ [x]):=by simp
theorem one_intsK {hp:Nat→AObj} {k:IntKind} {xs:List Int}:(∀ A∈intsK k xs,One hp A)=True:=by
  refine eq_true ?_
  intro A hA
  simp only [List.mem_map] at hA
  obtain ⟨x,_,rfl⟩:=hA
  rfl
theorem one_rws {hp:Nat→AObj} {xss:List (List Int)}:(∀ A∈rws xss,One hp A)=True:=by
  refine eq_true ?_
  intro A hA
  simp only [rws,List.mem_map] at hA
  obtain ⟨x,_,rfl⟩:=hA
  exact trivial
theorem one_rwn {hp:Nat→AObj} {xss:List (List Int)}:(∀ A∈rwn xss,One hp A)=True:=by
  refine eq_true ?_
  intro A hA
  simp only [rwn,List.mem_map] at hA
  obtain ⟨x,_,rfl⟩:=hA
  exact trivial
theorem frz_intsK {hp:Nat→AObj} {k:IntKind} {xs:List Int}:(intsK k xs).map (frz hp)=intsK k xs:=by simp [frz]
theorem frz_rws {hp:Nat→AObj} {xss:List (List Int)}:(rws xss).map (frz hp)=rws xss:=by simp [rws,frz]
theorem owned_intsK {k:IntKind} {xs:List Int}:owned (intsK k xs)=[]:=by
  induction xs with
  | nil=>rfl
  | cons x xs ih=>exact ih
theorem owned_rws {xss:List (List Int)}:owned (rws xss)=[]:=by
  induction xss with
  | nil=>rfl
  | cons x xs ih=>exact ih
theorem range1:List.range 1=[0]:=rfl
theorem nodup_one {a:Nat}:[a].Nodup=True:=by simp
def isRow:AObj→Nat→Prop
  | .row v' _ _ _,v=>v'=v
  | _,_=>False
def isMap:AObj→Nat→Prop
  | .map v' _ _,v=>v'=v
  | _,_=>False
theorem one_own {hp:Nat→AObj} {r v:Nat}:One hp (.own r v)=isRow (hp r) v:=by
  simp only [One]
  cases hp r with
  | row v' k nn cs =>
    simp only [isRow,AObj.row.injEq]
    exact propext ⟨fun ⟨_,_,_,h⟩=>h.1,fun h=>⟨k,nn,cs,h,rfl,rfl,rfl⟩⟩
  | _=>simp [isRow]
theorem one_mp {hp:Nat→AObj} {r v:Nat}:One hp (.mp r v)=isMap (hp r) v:=by
  simp only [One]
  cases hp r with
  | map v' ks vs =>
    simp only [isMap,AObj.map.injEq]
    exact propext ⟨fun ⟨_,_,h⟩=>h.1,fun h=>⟨ks,vs,h,rfl,rfl⟩⟩
  | _=>simp [isMap]
theorem one_ptr {hp:Nat→AObj} {r v o:Nat}:One hp (.ptr r v o)=((hp r).ver=some v):=rfl
theorem one_rp {hp:Nat→AObj} {cs:List AVal} {o:Nat}:One hp (.rp cs o)=True:=by simp [One]
theorem one_clo {hp:Nat→AObj} {g:FuncId} {cs:List AVal}:One hp (.clo g cs)=True:=by simp [One]
section
variable {hp:Nat→AObj} {m:List Nat} {len:Bool}
theorem coeL_nil:CoeL hp m len [] []=True:=by simp [CoeL]
theorem yzp {B A:AVal} {Bs As:List AVal}:CoeL hp m len (B :: Bs) (A :: As)=(Coe hp m len B A∧CoeL hp m len Bs As):=by
  simp only [CoeL]
  refine propext ⟨?_,fun h=>⟨A,As,rfl,h.1,h.2⟩⟩
  rintro ⟨A',As',e,h1,h2⟩
  simp only [List.cons.injEq] at e
  obtain ⟨rfl,rfl⟩:=e
  exact ⟨h1,h2⟩
theorem coe_any {A:AVal}:Coe hp m len .any A=True:=by simp [Coe]
theorem coe_val {x y:Value}:Coe hp m len (.val x) (.val y)=(y=x):=by simp [Coe]
theorem coe_ro {k:Nat} {nm:Option (Option Nat)} {cs cs':List AVal}:Coe hp m len (.ro none k cs) (.ro nm k cs')=(0<k∧CoeL hp m len cs cs'):=by
  simp only [Coe]
  refine propext ⟨?_,fun h=>⟨.inl trivial,h.1,.inl ⟨nm,cs',rfl,h.2⟩⟩⟩
  rintro ⟨_,hk,⟨nm',cs'',e,h⟩ | ⟨e,_⟩ | ⟨_,r,v,nn,cs'',e,_⟩⟩
  · cases e;exact ⟨hk,h⟩
  · cases e
  · cases e
theorem coe_ro_nil {k:Nat} {cs:List AVal}:Coe hp m len (.ro none k cs) (.val (.slice none 0 0))=(0<k∧cs=[]):=by
  simp [Coe]
def rowIs:AObj→Nat→Nat→(List AVal→Prop)→Prop
  | .row v' k' _ cs,v,k,p=>v'=v∧k'=k∧p cs
  | _,_,_,_=>False
def boxIs:AObj→Nat→(List AVal→Prop)→Prop
  | .box v' cs,v,p=>v'=v∧p cs
  | _,_,_=>False
theorem rowIs_ex {o:AObj} {v k:Nat} {p:List AVal→Prop}:rowIs o v k p↔∃ nn cs,o=.row v k nn cs∧p cs:=by
  cases o with
  | row v' k' nn cs =>
    simp only [rowIs,AObj.row.injEq]
    exact ⟨fun ⟨h1,h2,h3⟩=>⟨nn,cs,⟨h1,h2,rfl,rfl⟩,h3⟩,fun ⟨_,_,⟨h1,h2,_,h4⟩,h5⟩=>⟨h1,h2,h4 ▸ h5⟩⟩
  | _=>simp [rowIs]
theorem boxIs_ex {o:AObj} {v:Nat} {p:List AVal→Prop}:boxIs o v p↔∃ cs,o=.box v cs∧p cs:=by
  cases o with
  | box v' cs =>
    simp only [boxIs,AObj.box.injEq]
    exact ⟨fun ⟨h1,h3⟩=>⟨cs,⟨h1,rfl⟩,h3⟩,fun ⟨_,⟨h1,h4⟩,h5⟩=>⟨h1,h4 ▸ h5⟩⟩
  | _=>simp [boxIs]
theorem coe_ro_own {k r v:Nat} {cs:List AVal}:Coe hp m true (.ro none k cs) (.own r v)=(0<k∧r ∉ m∧rowIs (hp r) v k (CoeL hp m true cs)):=by
  rw [propext rowIs_ex]
  simp only [Coe]
  refine propext ⟨?_,fun ⟨hk,hr,nn,cs',h1,h2⟩=>⟨.inl trivial,hk,.inr (.inr ⟨trivial,r,v,nn,cs',rfl,hr,h1,h2⟩)⟩⟩
  rintro ⟨_,hk,⟨nm',cs'',e,h⟩ | ⟨e,_⟩ | ⟨_,r',v',nn,cs'',e,h1,h2,h3⟩⟩
  · cases e
  · cases e
  · cases e;exact ⟨hk,h1,nn,cs'',h2,h3⟩
theorem coeL_self:∀ {cs:List AVal},(∀ A∈cs,∃ x,A=.val x)→CoeL hp m len cs cs
  | [],_=>by simp [CoeL]
  | A :: cs,h=>by
    rw [yzp]
    obtain ⟨x,rfl⟩:=h A (by simp)
    exact ⟨by simp [Coe],coeL_self fun B hB=>h B (by simp [hB])⟩
def argN {α:Type} (xs:List α):Option (Option Nat):=if xs.length=0 then some none else none
theorem dn_argN {α:Type} {xs:List α}:dnNm (argN xs)=argN xs:=by unfold argN;split <;> rfl
theorem argN_nn {α:Type} {xs:List α}:(isNew (argN xs)=true∨0<xs.length)=True:=by
  refine eq_true ?_
  unfold argN
  by_cases h:xs.length=0
  · left;rw [if_pos h];rfl
  · right;omega
theorem coe_argN' {xs:List Int} {x:Option Nat} (hx:isNew (some x)=true):Coe hp m len (.ro (argN xs) 1 (ints xs)) (.ro (some x) 1 (ints xs))=True:=by
  refine eq_true ?_
  simp only [Coe]
  refine ⟨?_,by omega,.inl ⟨some x,ints xs,rfl,coeL_self fun A hA=>?_⟩⟩
  · unfold argN
    by_cases h:xs.length=0
    · rw [if_pos h]
      have:xs=[]:=List.eq_nil_of_length_eq_zero h
      subst this
      exact .inr (.inr ⟨rfl,rfl,.inl ⟨some x,1,ints [],rfl,hx⟩⟩)
    · rw [if_neg h];exact .inl rfl
  · simp only [List.mem_map] at hA
    obtain ⟨x,_,rfl⟩:=hA
    exact ⟨_,rfl⟩
theorem coe_argN {xs:List Int}:Coe hp m len (.ro (argN xs) 1 (ints xs)) (.ro (some none) 1 (ints xs))=True:=coe_argN' rfl
theorem coe_argNs {xs:List Int} {x:Nat}:Coe hp m len (.ro (argN xs) 1 (ints xs)) (.ro (some (some (x+1))) 1 (ints xs))=True:=coe_argN' rfl
theorem coe_ro_o {k:Nat} {cs cs':List AVal}:Coe hp m len (.ro (some (some 0)) k cs) (.ro (some (some 0)) k cs')=(0<k∧CoeL hp m len cs cs'):=by
  simp only [Coe]
  refine propext ⟨?_,fun h=>⟨.inr (.inl ⟨trivial,.inr ⟨k,cs',rfl⟩⟩),h.1,.inl ⟨some (some 0),cs',rfl,h.2⟩⟩⟩
  rintro ⟨_,hk,⟨nm',cs'',e,h⟩ | ⟨e,_⟩ | ⟨_,r,v,nn,cs'',e,_⟩⟩
  · cases e;exact ⟨hk,h⟩
  · cases e
  · cases e
theorem coe_st {cs cs':List AVal}:Coe hp m len (.st cs) (.st cs')=CoeL hp m len cs cs':=by
  simp only [Coe]
  refine propext ⟨?_,fun h=>.inl ⟨cs',rfl,h⟩⟩
  rintro (⟨cs'',e,h⟩ | ⟨vs,e,_⟩)
  · cases e;exact h
  · cases e
theorem coe_st_agg {cs:List AVal} {vs:Array Value}:Coe hp m len (.st cs) (.val (.agg vs))=CoeL hp m len cs (vs.toList.map .val):=by
  simp only [Coe]
  refine propext ⟨?_,fun h=>.inr ⟨vs,rfl,h⟩⟩
  rintro (⟨cs'',e,h⟩ | ⟨vs',e,h⟩)
  · cases e
  · cases e;exact h
theorem coe_rp {cs cs':List AVal} {off:Nat}:Coe hp m len (.rp cs off) (.rp cs' off)=CoeL hp m len cs cs':=by
  simp only [Coe]
  refine propext ⟨?_,fun h=>.inl ⟨cs',rfl,h⟩⟩
  rintro (⟨cs'',e,h⟩ | ⟨_,r,v,cs'',e,_⟩)
  · cases e;exact h
  · cases e
theorem coe_rp_ptr {cs:List AVal} {r v off:Nat}:Coe hp m true (.rp cs off) (.ptr r v off)=(r ∉ m∧boxIs (hp r) v (CoeL hp m true cs)):=by
  rw [propext boxIs_ex]
  simp only [Coe]
  refine propext ⟨?_,fun ⟨h1,cs',h2,h3⟩=>.inr ⟨trivial,r,v,cs',rfl,h1,h2,h3⟩⟩
  rintro (⟨cs'',e,h⟩ | ⟨_,r',v',cs'',e,h1,h2,h3⟩)
  · cases e
  · cases e;exact ⟨h1,cs'',h2,h3⟩
theorem coe_clo {g:FuncId} {cs cs':List AVal}:Coe hp m len (.clo g cs) (.clo g cs')=CoeL hp m len cs cs':=by
  simp only [Coe]
  refine propext ⟨?_,fun h=>⟨cs',rfl,h⟩⟩
  rintro ⟨cs'',e,h⟩
  cases e;exact h
theorem coe_own0 {r v:Nat}:Coe hp [r] len (.own 5000 0) (.own r v)=((hp r).ver=some v):=by
  simp only [Coe]
  refine propext ⟨?_,fun h=>⟨0,r,v,rfl,rfl,rfl,rfl,h⟩⟩
  rintro ⟨j,r',v',h1,h2,h3,e,h4⟩
  cases e;exact h4
theorem coe_ptr0 {r v off:Nat}:Coe hp [r] len (.ptr 5000 0 off) (.ptr r v off)=((hp r).ver=some v):=by
  simp only [Coe]
  refine propext ⟨?_,fun h=>⟨0,r,v,rfl,rfl,rfl,rfl,h⟩⟩
  rintro ⟨j,r',v',h1,h2,h3,e,h4⟩
  cases e;exact h4
theorem yzw {k:IntKind} {xs:List Int}:CoeL hp m len (intsK k xs) (intsK k xs)=True:=by
  refine eq_true (coeL_self fun A hA=>?_)
  simp only [List.mem_map] at hA
  obtain ⟨x,_,rfl⟩:=hA
  exact ⟨_,rfl⟩
theorem coeL_rws:∀ {xss:List (List Int)},CoeL hp m len (rwn xss) (rws xss)=True
  | []=>coeL_nil
  | xs :: xss=>by
    have h:=coeL_rws (xss:=xss)
    simp only [rws,rwn,List.map_cons] at h ⊢
    rw [yzp,h,coe_ro]
    simp [yzw (k:=.i64)]
theorem coeL_rwn:∀ {xss:List (List Int)},CoeL hp m len (rwn xss) (rwn xss)=True
  | []=>coeL_nil
  | xs :: xss=>by
    have h:=coeL_rwn (xss:=xss)
    simp only [rwn,List.map_cons] at h ⊢
    rw [yzp,h,coe_ro]
    simp [yzw (k:=.i64)]
end
theorem yz3 {k:IntKind} {xs:List Int}:freshL (intsK k xs)=True:=by
  refine eq_true (fresh_vals fun A hA=>?_)
  simp only [List.mem_map] at hA
  obtain ⟨x,_,rfl⟩:=hA
  exact ⟨_,rfl⟩
theorem yzi {xss:List (List Int)}:freshL (rws xss)=True:=by
  refine eq_true ((freshL_iff _).2 fun A hA=>?_)
  simp only [rws,List.mem_map] at hA
  obtain ⟨x,_,rfl⟩:=hA
  simp only [AVal.fresh]
  exact ⟨.inr rfl,of_eq_true (yz3 (k:=.i64) (xs:=x))⟩
theorem ren_val {f:Nat→Option Nat} {s:Nat→Nat} {v:Value}:AVal.ren f s (.val v)=.val v:=by simp only [AVal.ren]
theorem ren_any {f:Nat→Option Nat} {s:Nat→Nat}:AVal.ren f s .any=.any:=by simp only [AVal.ren]
theorem ren_ro {f:Nat→Option Nat} {s:Nat→Nat} {nm:Option (Option Nat)} {k:Nat} {cs:List AVal}:AVal.ren f s (.ro nm k cs)=.ro (rnNm s nm) k (renL f s cs):=by simp only [AVal.ren]
theorem ren_st {f:Nat→Option Nat} {s:Nat→Nat} {cs:List AVal}:AVal.ren f s (.st cs)=.st (renL f s cs):=by simp only [AVal.ren]
theorem ren_tup {f:Nat→Option Nat} {s:Nat→Nat} {cs:List AVal}:AVal.ren f s (.tup cs)=.tup (renL f s cs):=by simp only [AVal.ren]
theorem ren_own {f:Nat→Option Nat} {s:Nat→Nat} {r v r':Nat} (h:f r=some r'):AVal.ren f s (.own r v)=.own r' (s v):=by simp only [AVal.ren,h]
theorem ren_ptr {f:Nat→Option Nat} {s:Nat→Nat} {r v r' o:Nat} (h:f r=some r'):AVal.ren f s (.ptr r v o)=.ptr r' (s v) o:=by simp only [AVal.ren,h]
theorem ren_mp {f:Nat→Option Nat} {s:Nat→Nat} {r v r':Nat} (h:f r=some r'):AVal.ren f s (.mp r v)=.mp r' (s v):=by simp only [AVal.ren,h]
theorem yzr {f:Nat→Option Nat} {s:Nat→Nat}:renL f s []=[]:=by simp only [renL]
theorem yzh {f:Nat→Option Nat} {s:Nat→Nat} {A:AVal} {cs:List AVal}:renL f s (A :: cs)=A.ren f s :: renL f s cs:=by simp only [renL]
theorem yz5 {f:Nat→Option Nat} {s:Nat→Nat} {k:IntKind} {xs:List Int}:renL f s (intsK k xs)=intsK k xs:=by simp [renL_eq,AVal.ren]
theorem yzt {f:Nat→Option Nat} {s:Nat→Nat} {xss:List (List Int)}:renL f s (rws xss)=rws xss:=by
  simp only [renL_eq,rws,List.map_map]
  exact List.map_congr_left fun xs _=>by simp [AVal.ren,ints,renL_eq,rnNm]
theorem yzv {f:Nat→Option Nat} {s:Nat→Nat} {xss:List (List Int)}:renL f s (rwn xss)=rwn xss:=by
  simp only [renL_eq,rwn,List.map_map]
  exact List.map_congr_left fun xs _=>by simp [AVal.ren,ints,renL_eq,rnNm]
theorem yzo {f:Nat→Option Nat} {s:Nat→Nat} {v:Nat} {cs:List AVal}:AObj.ren f s (.box v cs)=.box (s v) (renL f s cs):=rfl
theorem yzn {f:Nat→Option Nat} {s:Nat→Nat} {v k:Nat} {nn:Bool} {cs:List AVal}:AObj.ren f s (.row v k nn cs)=.row (s v) k nn (renL f s cs):=rfl
theorem yzx {f:Nat→Option Nat} {s:Nat→Nat} {v:Nat} {ks:List Value} {vs:List AVal}:AObj.ren f s (.map v ks vs)=.map (s v) ks (renL f s vs):=rfl
theorem rid0 {m:List Nat} {d n:Nat}:rid m d (n+1) 6000=some d:=by
  have:=rid_new (m:=m) (d:=d) (nr:=n+1) (i:=0) (by omega)
  simpa [newId] using this
theorem rid1 {m:List Nat} {d n:Nat}:rid m d (n+2) 6001=some (d+1000):=by
  have:=rid_new (m:=m) (d:=d) (nr:=n+2) (i:=1) (by omega)
  simpa [newId] using this
theorem rid2 {m:List Nat} {d n:Nat}:rid m d (n+3) 6002=some (d+2000):=by
  have:=rid_new (m:=m) (d:=d) (nr:=n+3) (i:=2) (by omega)
  simpa [newId] using this
theorem expo0 {r:Nat} {l:List Nat} (h:r<5000):expo (r :: l) r=some 6000:=by
  unfold expo
  rw [if_neg (by omega)]
  simp [List.idxOf?,List.findIdx?,List.findIdx?.go]
theorem expo1 {r r0:Nat} {l:List Nat} (h:r<5000) (h0:r0≠r):expo (r0 :: r :: l) r=some 6001:=by
  unfold expo
  rw [if_neg (by omega)]
  simp [List.idxOf?,List.findIdx?,List.findIdx?.go,h0]
theorem expo2 {r r0 r1:Nat} {l:List Nat} (h:r<5000) (h0:r0≠r) (h1:r1≠r):expo (r0 :: r1 :: r :: l) r=some 6002:=by
  unfold expo
  rw [if_neg (by omega)]
  simp [List.idxOf?,List.findIdx?,List.findIdx?.go,h0,h1]
theorem yzb {r v:Nat} {l:List Nat} {s:Nat→Nat} (h:r<5000):AVal.ren (expo (r :: l)) s (.own r v)=.own 6000 (s v):=ren_own (expo0 h)
theorem yza {r r0 v:Nat} {l:List Nat} {s:Nat→Nat} (h:r<5000) (h0:r0≠r):AVal.ren (expo (r0 :: r :: l)) s (.own r v)=.own 6001 (s v):=ren_own (expo1 h h0)
theorem yzc {r r0 r1 v:Nat} {l:List Nat} {s:Nat→Nat} (h:r<5000) (h0:r0≠r) (h1:r1≠r):AVal.ren (expo (r0 :: r1 :: r :: l)) s (.own r v)=.own 6002 (s v):=ren_own (expo2 h h0 h1)
theorem yzd {r v o:Nat} {l:List Nat} {s:Nat→Nat} (h:r<5000):AVal.ren (expo (r :: l)) s (.ptr r v o)=.ptr 6000 (s v) o:=ren_ptr (expo0 h)
theorem yzj {r v:Nat} {l:List Nat} {s:Nat→Nat} (h:r<5000):AVal.ren (expo (r :: l)) s (.mp r v)=.mp 6000 (s v):=ren_mp (expo0 h)
theorem yzk {r r0 v:Nat} {l:List Nat} {s:Nat→Nat} (h:r<5000) (h0:r0≠r):AVal.ren (expo (r0 :: r :: l)) s (.mp r v)=.mp 6001 (s v):=ren_mp (expo1 h h0)
theorem yz4 {m:List Nat} {d n v:Nat} {s:Nat→Nat}:AVal.ren (rid m d (n+1)) s (.own 6000 v)=.own d (s v):=ren_own rid0
theorem yz8 {m:List Nat} {d n v:Nat} {s:Nat→Nat}:AVal.ren (rid m d (n+2)) s (.own 6001 v)=.own (d+1000) (s v):=ren_own rid1
theorem yz9 {m:List Nat} {d n v:Nat} {s:Nat→Nat}:AVal.ren (rid m d (n+3)) s (.own 6002 v)=.own (d+2000) (s v):=ren_own rid2
theorem yzf {m:List Nat} {d n v o:Nat} {s:Nat→Nat}:AVal.ren (rid m d (n+1)) s (.ptr 6000 v o)=.ptr d (s v) o:=ren_ptr rid0
theorem yzl {m:List Nat} {d n v:Nat} {s:Nat→Nat}:AVal.ren (rid m d (n+1)) s (.mp 6000 v)=.mp d (s v):=ren_mp rid0
theorem yzm {m:List Nat} {d n v:Nat} {s:Nat→Nat}:AVal.ren (rid m d (n+2)) s (.mp 6001 v)=.mp (d+1000) (s v):=ren_mp rid1
theorem yzg {hp:Nat→AObj} {d:Nat} {o:AObj}:(∀ i,i<[o].length→hp (newId d i)=.gone)=(hp d=.gone):=by
  refine propext ⟨fun h=>by simpa [newId] using h 0 (by simp),fun h i hi=>?_⟩
  have:i=0:=by simpa using hi
  subst this;simpa [newId] using h
theorem yzs {hp:Nat→AObj} {d:Nat} {o o':AObj}:(∀ i,i<[o,o'].length→hp (newId d i)=.gone)=(hp d=.gone∧hp (d+1000)=.gone):=by
  refine propext ⟨fun h=>⟨by simpa [newId] using h 0 (by simp),by simpa [newId] using h 1 (by simp)⟩,fun h i hi=>?_⟩
  have hi':i<2:=by simpa using hi
  have:i=0∨i=1:=by omega
  rcases this with rfl | rfl
  · simpa [newId] using h.1
  · simpa [newId] using h.2
theorem yzu {hp:Nat→AObj} {d:Nat}:(∀ i,i<([]:List AObj).length→hp (newId d i)=.gone)=True:=by simp
end Go.Ab
namespace Go.Ab
theorem con_of {P:Program} {g:FuncId} {F:AFn} (hm:P.follows .mixedOrders=true) {no:Option (List Nat×List FuncId)} (hF:cFn (drV no) P g F) {ins:List AObj} {args:List AVal} (hargs:args.length=F.nparams) (hins:ins.length≤1000)
    {R:List AObj→List AObj→AVal→Prop}
    (h:wpD P F.code (finQ fun σ=>(∀ x∈F.res,σ.there x)∧∃ ids:List Nat,ids.length≤1000∧ids.Nodup∧(∀ n∈ids,n<5000)∧(σ.value F.res).fresh∧(∀ n∈ids,(σ.hp n).fresh)∧(∀ j,j<ins.length→(σ.hp (5000+j)).fresh) ∧
      R ((List.range ins.length).map fun j=>(σ.hp (5000+j)).ren (expo ids) id) (ids.map fun n=>(σ.hp n).ren (expo ids) id) ((σ.value F.res).ren (expo ids) id)) (St.init args ins)):Con P g ins args false R:=by
  refine con_of_wp (draw_ok hm) hF hargs hins (wpC_of_wpD _ _ _ _ (fun e σ he=>?_) h)
  have:(∀ x∈F.res,σ.there x)∧(∃ ids:List Nat,ids.length≤1000∧ids.Nodup∧(∀ n∈ids,n<5000)∧(σ.value F.res).fresh∧(∀ n∈ids,(σ.hp n).fresh)∧(∀ j,j<ins.length→(σ.hp (5000+j)).fresh) ∧
      R ((List.range ins.length).map fun j=>(σ.hp (5000+j)).ren (expo ids) id) (ids.map fun n=>(σ.hp n).ren (expo ids) id) ((σ.value F.res).ren (expo ids) id))→∃ ids,Ret ins.length false ids R F.res σ:=by
    rintro ⟨h1,ids,h2,h3,h4,h5,h6,h7,h8⟩
    exact ⟨ids,h1,h8,hins,h2,h3,h4,fun _=>⟨h5,h6,h7⟩⟩
  cases e with
  | exit _=>exact he
  | normal=>exact this he
  | ret=>exact this he
theorem con_sh {P:Program} {g:FuncId} {F:AFn} (hm:P.follows .mixedOrders=true) {no:Option (List Nat×List FuncId)} (hF:cFn (drV no) P g F) {ins:List AObj} {args:List AVal} (hargs:args.length=F.nparams) (hins:ins.length≤1000)
    {R:List AObj→List AObj→AVal→Prop}
    (h:wpD P F.code (finQ fun σ=>(∀ x∈F.res,σ.there x)∧∃ ids:List Nat,ids.length≤1000∧ids.Nodup∧(∀ n∈ids,n<5000) ∧
      R ((List.range ins.length).map fun j=>(σ.hp (5000+j)).ren (expo ids) id) (ids.map fun n=>(σ.hp n).ren (expo ids) id) ((σ.value F.res).ren (expo ids) id)) (St.init args ins)):Con P g ins args true R:=by
  refine con_of_wp (draw_ok hm) hF hargs hins (wpC_of_wpD _ _ _ _ (fun e σ he=>?_) h)
  have:(∀ x∈F.res,σ.there x)∧(∃ ids:List Nat,ids.length≤1000∧ids.Nodup∧(∀ n∈ids,n<5000) ∧
      R ((List.range ins.length).map fun j=>(σ.hp (5000+j)).ren (expo ids) id) (ids.map fun n=>(σ.hp n).ren (expo ids) id) ((σ.value F.res).ren (expo ids) id))→∃ ids,Ret ins.length true ids R F.res σ:=by
    rintro ⟨h1,ids,h2,h3,h4,h8⟩
    exact ⟨ids,h1,h8,hins,h2,h3,h4,fun e=>by cases e⟩
  cases e with
  | exit _=>exact he
  | normal=>exact this he
  | ret=>exact this he
def AC.kts:AC→List Nat
  | .kp ts _ _=>ts
  | _=>[]
def AC.khs:AC→List Nat
  | .kp _ hs _=>hs
  | _=>[]
def AC.kin:AC→AC
  | .kp _ _ (.dn a)=>a
  | a=>a
theorem Con.mono {P:Program} {g:FuncId} {ins:List AObj} {args:List AVal} {sh:Bool} {R R':List AObj→List AObj→AVal→Prop} (h:Con P g ins args sh R) (hR:∀ o r x,R o r x→R' o r x):Con P g ins args sh R':=by
  refine ⟨h.1,fun c0 outsB vs h1 h2 h3=>(h.2 c0 outsB vs h1 h2 h3).mono ?_⟩
  rintro e w' ⟨v,c1,outs,rows,res,hr,h⟩
  exact ⟨v,c1,outs,rows,res,hR _ _ _ hr,h⟩
abbrev Fn (P:Program) (g:FuncId) (args:List AVal) (Q:List AObj→AVal→Prop):Prop:=Con P g [] args false fun outs rows res=>outs=[]∧Q rows res
abbrev FunB (P:Program) (g:FuncId) (cs:List AVal) (args:List AVal) (Q:List AVal→Value→Prop):Prop :=
  Con P g [.box 0 cs] (.ptr 5000 0 0 :: args) true fun outs rows res=>∃ cs' v,Q cs' v∧flatL cs'∧outs=[.box 0 cs']∧rows=[]∧res=.val v
section
variable {P:Program} {pu:Bool} {σ:St} {g:FuncId} {As args:List AVal} {d:Option Nat} {s:Nat→Nat} {K:St→Prop}
theorem call_fn {Q:List AObj→AVal→Prop} (h:Fn P g args Q) (hco:CoeL σ.hp [] true args As) (hex:pu=true→∃ rows res,Q rows res)
    (hk:∀ rows res,Q rows res→rows.length≤1000∧(∀ i,i<rows.length→σ.hp (newId (d.getD 0) i)=.gone)∧K (St.put ⟨σ.tm,callHp σ.hp [] (d.getD 0) s [] rows⟩ d (res.ren (rid [] (d.getD 0) rows.length) s))) :
    wpCall P pu σ g As d s K:=by
  refine .inl ⟨[],[],args,false,_,h,⟨by simp,rfl,by simp,by simp,by simp⟩,hco,fun e=>⟨rfl,?_⟩,?_⟩
  · obtain ⟨rows,res,hq⟩:=hex e
    exact ⟨[],rows,res,rfl,hq⟩
  · rintro outs rows res ⟨rfl,hq⟩
    obtain ⟨h1,h2,h3⟩:=hk rows res hq
    refine ⟨rfl,h1,h2,?_⟩
    rw [sv_nil];exact h3
theorem callHp_m {hp:Nat→AObj} {r d:Nat} {s:Nat→Nat} {o:AObj}:callHp hp [r] d s [o] []=upd hp r (o.ren (rid [r] d 0) (sv hp [r] s)):=by
  funext n
  by_cases h:n=r
  · subst h
    have h1:rid [n] d ([]:List AObj).length 5000=some n:=rid_m (j:=0) (by omega) rfl
    rw [callHp_at (by simp) (by simp) h1]
    simp [upd,outHp]
  · rw [callHp_not]
    · simp [upd,h]
    · rintro ⟨q,hq⟩
      rcases rid_cases hq with ⟨j,rfl,_,h1⟩ | ⟨i,rfl,h1,_⟩
      · cases j with
        | zero=>simp at h1;exact h h1.symm
        | succ j=>simp at h1
      · simp at h1
theorem yze {hp:Nat→AObj} {d:Nat} {s:Nat→Nat} {o0 o1:AObj}:callHp hp [] d s [] [o0,o1]=upd (upd hp d (o0.ren (rid [] d 2) s)) (d+1000) (o1.ren (rid [] d 2) s):=by
  funext n
  by_cases h:n=d+1000
  · have h1:rid [] d [o0,o1].length 6001=some n:=by rw [h];exact rid1
    rw [callHp_at (by simp) (by simp) h1,sv_nil]
    simp [upd,h,outHp]
  · by_cases h':n=d
    · have h1:rid [] d [o0,o1].length 6000=some n:=by rw [h'];exact rid0
      rw [callHp_at (by simp) (by simp) h1,sv_nil]
      have hne:d≠d+1000:=by omega
      simp [upd,h',outHp,hne]
    · rw [callHp_not]
      · simp [upd,h,h']
      · rintro ⟨q,hq⟩
        obtain ⟨i,hi,e⟩:=rid_nil hq
        simp at hi
        unfold newId at e
        have:i=0∨i=1:=by omega
        rcases this with rfl | rfl
        · exact h' (by simpa using e)
        · exact h (by simpa using e)
theorem callHp_mr {hp:Nat→AObj} {r d:Nat} {s:Nat→Nat} {o o1:AObj} (hne:d≠r):callHp hp [r] d s [o] [o1]=upd (upd hp r (o.ren (rid [r] d 1) (sv hp [r] s))) d (o1.ren (rid [r] d 1) (sv hp [r] s)):=by
  have hnew:∀ i,i<[o1].length→newId d i ∉ [r]:=by
    intro i hi
    have:i=0:=by simpa using hi
    subst this;simpa [newId] using hne
  funext n
  by_cases h:n=d
  · have h1:rid [r] d [o1].length 6000=some n:=by rw [h];exact rid0
    rw [callHp_at (by simp) hnew h1]
    simp [upd,h,outHp]
  · by_cases h':n=r
    · have h1:rid [r] d [o1].length 5000=some n:=by rw [h'];exact rid_m (j:=0) (by omega) rfl
      rw [callHp_at (by simp) hnew h1]
      simp [upd,h',outHp,Ne.symm hne]
    · rw [callHp_not]
      · simp [upd,h,h']
      · rintro ⟨q,hq⟩
        rcases rid_cases hq with ⟨j,rfl,_,h1⟩ | ⟨i,rfl,h1,h2⟩
        · cases j with
          | zero=>simp at h1;exact h' h1.symm
          | succ j=>simp at h1
        · have:i=0:=by simpa using h1
          subst this
          exact h (by simpa [newId] using h2)
theorem sv_m {hp:Nat→AObj} {r v:Nat} {s:Nat→Nat} {cs:List AVal} (h:hp r=.box v cs):sv hp [r] s 0=v:=by simp [sv,h,AObj.ver]
theorem sv_new {hp:Nat→AObj} {r y:Nat} {s:Nat→Nat} (h:0<y):sv hp [r] s y=s y:=by
  unfold sv
  rw [if_neg (by simp;omega)]
theorem call_funB {cs cs0:List AVal} {Q:List AVal→Value→Prop} {r v:Nat} (h:FunB P g cs args Q) (hr:σ.hp r=.box v cs0) (hcs:CoeL σ.hp [r] false cs cs0) (hco:CoeL σ.hp [r] false args As)
    (hk:∀ cs' x,Q cs' x→K (St.put ⟨σ.tm,upd σ.hp r (.box v cs')⟩ d (.val x))):wpCall P false σ g (.ptr r v 0 :: As) d s K:=by
  refine .inl ⟨[r],[.box 0 cs],.ptr 5000 0 0 :: args,true,_,h,⟨by simp,rfl,by simp,?_,?_⟩,?_,(fun e=>by cases e),?_⟩
  · intro r' hr'
    simp only [List.mem_singleton] at hr'
    subst hr';rw [hr];simp
  · intro j B r' hB hr'
    cases j with
    | zero =>
      simp at hB hr'
      subst hB hr'
      rw [hr]
      exact ⟨rfl,v,cs0,rfl,hcs⟩
    | succ j=>simp at hB
  · rw [yzp,coe_ptr0,hr]
    exact ⟨rfl,hco⟩
  · rintro outs rows res ⟨cs',x,hq,hf,rfl,rfl,rfl⟩
    refine ⟨rfl,by simp,by simp,?_⟩
    rw [callHp_m,ren_val,yzo,renL_flat cs' hf]
    have:sv σ.hp [r] s 0=v:=by simp [sv,hr,AObj.ver]
    rw [this]
    exact hk cs' x hq
end
theorem call_con {P:Program} {σ:St} {g:FuncId} {As args:List AVal} {d:Option Nat} {s:Nat→Nat} {K:St→Prop} {sh:Bool} {r v:Nat} {cs cs0:List AVal} {R:List AObj→List AObj→AVal→Prop} (h:Con P g [.box 0 cs] args sh R)
    (hr:σ.hp r=.box v cs0) (hcs:CoeL σ.hp [r] (!sh) cs cs0) (hco:CoeL σ.hp [r] (!sh) args As)
    (hk:∀ outs rows res,R outs rows res→outs.length=1∧rows.length≤1000∧(∀ i,i<rows.length→σ.hp (newId (d.getD 0) i)=.gone) ∧
      K (St.put ⟨σ.tm,callHp σ.hp [r] (d.getD 0) s outs rows⟩ d (res.ren (rid [r] (d.getD 0) rows.length) (sv σ.hp [r] s)))):wpCall P false σ g As d s K:=by
  refine .inl ⟨[r],[.box 0 cs],args,sh,R,h,⟨by simp,rfl,by simp,?_,?_⟩,hco,(fun e=>by cases e),?_⟩
  · intro r' hr'
    simp only [List.mem_singleton] at hr'
    subst hr';rw [hr];simp
  · intro j B r' hB hr'
    cases j with
    | zero =>
      simp at hB hr'
      subst hB hr'
      rw [hr]
      exact ⟨rfl,v,cs0,rfl,hcs⟩
    | succ j=>simp at hB
  · intro outs rows res hR
    obtain ⟨h1,h2,h3,h4⟩:=hk outs rows res hR
    exact ⟨by simpa using h1,h2,h3,h4⟩
theorem call_sh {P:Program} {pu:Bool} {σ:St} {g:FuncId} {As args:List AVal} {d:Option Nat} {s:Nat→Nat} {K:St→Prop} {R:List AObj→List AObj→AVal→Prop} (h:Con P g [] args true R)
    (hco:CoeL σ.hp [] false args As) (hex:pu=true→∃ outs rows res,R outs rows res)
    (hk:∀ outs rows res,R outs rows res→outs=[]∧rows.length≤1000∧(∀ i,i<rows.length→σ.hp (newId (d.getD 0) i)=.gone) ∧
      K (St.put ⟨σ.tm,callHp σ.hp [] (d.getD 0) s [] rows⟩ d (res.ren (rid [] (d.getD 0) rows.length) s))):wpCall P pu σ g As d s K:=by
  refine .inl ⟨[],[],args,true,R,h,⟨by simp,rfl,by simp,by simp,by simp⟩,hco,fun e=>⟨rfl,hex e⟩,?_⟩
  intro outs rows res hR
  obtain ⟨h1,h2,h3,h4⟩:=hk outs rows res hR
  subst h1
  refine ⟨rfl,h2,h3,?_⟩
  rw [sv_nil];exact h4
theorem funB_of {P:Program} {g:FuncId} {F:AFn} (hm:P.follows .mixedOrders=true) {no:Option (List Nat×List FuncId)} (hF:cFn (drV no) P g F) {cs args:List AVal} (hargs:(AVal.ptr 5000 0 0 :: args).length=F.nparams) {Q:List AVal→Value→Prop}
    (h:wpD P F.code (finQ fun σ=>(∀ x∈F.res,σ.there x)∧∃ cs' v,σ.hp 5000=.box 0 cs'∧σ.value F.res=.val v∧flatL cs'∧Q cs' v) (St.init (.ptr 5000 0 0 :: args) [.box 0 cs])):FunB P g cs args Q:=by
  refine con_sh hm hF hargs (by simp) (wpD_mono _ _ _ _ (fun e σ he=>?_) h)
  have:((∀ x∈F.res,σ.there x)∧∃ cs' v,σ.hp 5000=.box 0 cs'∧σ.value F.res=.val v∧flatL cs'∧Q cs' v)→_:=fun ⟨h1,cs',v,h2,h3,h4,h6⟩ =>
    (show (∀ x∈F.res,σ.there x)∧∃ ids:List Nat,ids.length≤1000∧ids.Nodup∧(∀ n∈ids,n<5000) ∧
      (fun outs rows res=>∃ cs' v,Q cs' v∧flatL cs'∧outs=[AObj.box 0 cs']∧rows=[]∧res=AVal.val v) ((List.range [AObj.box 0 cs].length).map fun j=>(σ.hp (5000+j)).ren (expo ids) id) (ids.map fun n=>(σ.hp n).ren (expo ids) id) ((σ.value F.res).ren (expo ids) id) from
    ⟨h1,[],by simp,by simp,by simp,cs',v,h6,h4,(by
        have e1:List.range [AObj.box 0 cs].length=[0]:=rfl
        rw [e1,List.map_singleton,h2,yzo,renL_flat cs' h4];rfl),rfl,by rw [h3];exact ren_val⟩)
  cases e with
  | exit _=>exact he
  | normal=>exact this he
  | ret=>exact this he
end Go.Ab
namespace Go.Ab
def spare (c:Cz) (b o:Nat):Prop:=∃ r ver k nn cs off n cap,c.hp r=.row ver k nn cs∧c.loc r=.slice (some ⟨b,off,none⟩) n cap∧off+n * k≤o∧o<off+cap * k
def Held (c:Cz) (w:World):Prop:=∀ b o v,b<c.w.heap.size→¬ spare c b o→c.w.cell? ⟨b,o,none⟩=some v→w.cell? ⟨b,o,none⟩=some v
structure Fram (c c':Cz):Prop where
  held:Held c c'.w
  size:c.w.heap.size≤c'.w.heap.size
  spare:∀ b o,b<c.w.heap.size→spare c' b o→spare c b o
theorem Fram.refl (c:Cz):Fram c c:=⟨fun _ _ _ _ _ h=>h,Nat.le_refl _,fun _ _ _ h=>h⟩
theorem Fram.trans {a b c:Cz} (h:Fram a b) (k:Fram b c):Fram a c :=
  ⟨fun g o v hg hn hv=>k.held g o v (Nat.lt_of_lt_of_le hg h.size) (fun hs=>hn (h.spare g o hg hs)) (h.held g o v hg hn hv),
    Nat.le_trans h.size k.size,fun g o hg hs=>h.spare g o hg (k.spare g o (Nat.lt_of_lt_of_le hg h.size) hs)⟩
section
variable {P:Program} {w0:World} {outs:Nat→Prop} {N:Nat} {σ:St} {o:Oper} {a:Act} {c:Cz} {ver:Nat}
theorem spare_taken {b o:Nat} (h:spare c b o):∃ r ver k nn cs off n cap,c.hp r=.row ver k nn cs∧c.loc r=.slice (some ⟨b,off,none⟩) n cap∧off+n * k≤o∧o<off+cap * k∧blockOf (c.loc r)=some b∧c.hp r≠.gone:=by
  obtain ⟨r,ver,k,nn,cs,off,n,cap,h1,h2,h3,h4⟩:=h
  refine ⟨r,ver,k,nn,cs,off,n,cap,h1,h2,h3,h4,?_,by rw [h1];simp⟩
  rw [h2]
  have:cap≠0:=by rintro rfl;simp at h4;omega
  simp [blockOf,this]
theorem at_held (G:Good w0 outs c) (hc:c.hp=σ.hp) {A:AVal} {v:Value} (h:Rep c A v) {cs:List AVal} {off:Nat} (hat:σ.at A=some (cs,off)) (hlt:off<cs.length) :
    ∃ b o u,v=.pointer (some ⟨b,o,none⟩)∧b<c.w.heap.size∧¬ spare c b o∧c.w.cell? ⟨b,o,none⟩=some u∧Rep c (cs.getD off .any) u:=by
  obtain ⟨b,p,hv,hr⟩:=at_cells G hc h hat
  have hpv:v=.pointer (some ⟨b,p+off,none⟩):=by
    rcases hv with hv | hv
    · exact hv
    · subst hv;simp at hlt
  clear hv
  obtain ⟨u,hcell,hrep⟩:=hr.get (List.getElem?_eq_getElem hlt)
  have hbl:b<c.w.heap.size:=by
    rcases Nat.lt_or_ge b c.w.heap.size with h1 | h1
    · exact h1
    · exfalso
      simp [World.cell?,Array.getElem?_eq_none h1] at hcell
  refine ⟨b,p+off,u,hpv,hbl,fun hs=>?_,hcell,by simp only [List.getD_eq_getElem?_getD,List.getElem?_eq_getElem hlt,Option.getD_some];exact hrep⟩
  obtain ⟨r',ver',k',nn',cs',off',n',cap',h1,h2,h3,h4,h5,h6⟩:=spare_taken hs
  cases A with
  | ptr r v' off2 =>
    simp only [St.at] at hat
    simp only [Rep] at h
    rw [← hc] at hat
    have hO:=G.obj r
    split at hat
    · rename_i ver2 cs2 hr2
      split at hat
      · rename_i e
        simp only [Option.some.injEq,Prod.mk.injEq] at hat
        obtain ⟨rfl,rfl⟩:=hat
        subst e
        rw [hr2] at hO h
        obtain ⟨b2,o2,hb2,hv2⟩:=h.2 rfl
        obtain ⟨g,t,cells,hl,hg,hrep2⟩:=hO
        rw [hl] at hb2
        simp only [baseOf,Option.some.injEq,Addr.mk.injEq] at hb2
        obtain ⟨rfl,rfl,-⟩:=hb2
        rw [hpv] at hv2
        simp only [Value.pointer.injEq,Option.some.injEq,Addr.mk.injEq] at hv2
        obtain ⟨rfl,_,-⟩:=hv2
        have:=G.inj r r' b (by rw [hr2];simp) h6 (by rw [hl];rfl) h5
        subst this
        rw [hr2] at h1;cases h1
      · cases hat
    · rename_i ver2 k nn cs2 hr2
      split at hat
      · rename_i e
        simp only [Option.some.injEq,Prod.mk.injEq] at hat
        obtain ⟨rfl,rfl⟩:=hat
        subst e
        rw [hr2] at hO h
        obtain ⟨b2,o2,hb2,hv2⟩:=h.2 rfl
        obtain ⟨base,n,cap,hl,hk,hlen,hn,hm,hnn,hcase⟩:=hO
        rcases hcase with h0 | ⟨g,off3,t,cells,rfl,hg,hfit,hrep2⟩
        · have:n=0:=by omega
          subst this;simp at hlen;subst hlen;simp at hlt
        · rw [hl] at hb2
          simp only [baseOf,Option.some.injEq,Addr.mk.injEq] at hb2
          obtain ⟨rfl,rfl,-⟩:=hb2
          rw [hpv] at hv2
          simp only [Value.pointer.injEq,Option.some.injEq,Addr.mk.injEq] at hv2
          obtain ⟨rfl,hv2,-⟩:=hv2
          have hn0:n≠0:=by rintro rfl;simp at hlen;subst hlen;simp at hlt
          have:=G.inj r r' b (by rw [hr2];simp) h6 (by rw [hl];simp [blockOf];omega) h5
          subst this
          rw [hr2] at h1
          simp only [AObj.row.injEq] at h1
          obtain ⟨-,rfl,-,-⟩:=h1
          rw [hl] at h2
          simp only [Value.slice.injEq,Option.some.injEq,Addr.mk.injEq] at h2
          obtain ⟨⟨-,rfl,-⟩,rfl,rfl⟩:=h2
          omega
      · cases hat
    · cases hat
  | rp cs2 off2 =>
    simp only [St.at,Option.some.injEq,Prod.mk.injEq] at hat
    obtain ⟨rfl,rfl⟩:=hat
    simp only [Rep] at h
    obtain ⟨b2,o2,hv2,hi,hr2⟩:=h
    rw [hpv] at hv2
    simp only [Value.pointer.injEq,Option.some.injEq,Addr.mk.injEq] at hv2
    obtain ⟨rfl,_,-⟩:=hv2
    exact hi.2.2 ⟨r',h6,h5⟩
  | _=>simp [St.at] at hat
def okE:AI→Bool
  | .mov _ | .fad _ _ | .ld _ | .iad _ _ _=>true
  | _=>false
theorem inv_mov {y:AOpd} (h:cOp1 P o=some (.i (.mov y))):∃ x,(o.op=.move x∨o.op=.assign x)∧cOpd x=some y:=by
  unfold cOp1 at h
  split at h <;> first
    | (rename_i ho _;simp only [Option.map_eq_some_iff] at h;obtain ⟨b,hb',e⟩:=h;cases e;exact ⟨_,.inl ho,hb'⟩)
    | (rename_i ho _;simp only [Option.map_eq_some_iff] at h;obtain ⟨b,hb',e⟩:=h;cases e;exact ⟨_,.inr ho,hb'⟩)
    | (exfalso;simp only [Option.map_eq_some_iff] at h;obtain ⟨b,hb',e⟩:=h;cases e;done)
    | (exfalso;repeat' split at h) <;> first | (cases h;done) | (simp at h;done)
theorem inv_ld {y:AOpd} (h:cOp1 P o=some (.i (.ld y))):∃ t x,o.op=.load t x∧cSize P t=some none∧cOpd x=some y:=by
  unfold cOp1 at h
  split at h <;> first
    | (exfalso;simp only [Option.map_eq_some_iff] at h;obtain ⟨b,hb',e⟩:=h;cases e;done)
    | (rename_i ho _;split at h <;> first | (rename_i h1 h2;cases h;exact ⟨_,_,ho,h1,h2⟩) | (exfalso;repeat' split at h) <;> first | (cases h;done) | (simp at h;done))
    | (exfalso;repeat' split at h) <;> first | (cases h;done) | (simp at h;done)
theorem inv_fad {off:Nat} {y:AOpd} (h:cOp1 P o=some (.i (.fad off y))):∃ s x f fs fl i,o.op=.fieldAddr s x f∧P.underlying s=some (.struct fs)∧fs[f]?=some fl∧P.info? fl.type=some i∧i.size≠0∧cOpd x=some y∧off=fl.offset:=by
  unfold cOp1 at h
  split at h <;> first
    | (exfalso;simp only [Option.map_eq_some_iff] at h;obtain ⟨b,hb',e⟩:=h;cases e;done)
    | (rename_i ho _;split at h
       · rename_i h1 h2
         split at h
         · rename_i h3
           split at h
           · rename_i h4
             split at h
             · cases h
             · rename_i h5;cases h;exact ⟨_,_,_,_,_,_,ho,h1,h3,h4,h5,h2,rfl⟩
           · cases h
         · cases h
       · cases h)
    | (exfalso;repeat' split at h) <;> first | (cases h;done) | (simp at h;done)
theorem inv_iad {k:Nat} {y1 y2:AOpd} (h:cOp1 P o=some (.i (.iad k y1 y2))):∃ t x1 x2 by_ z,o.op=.indexAddr t x1 x2∧cElem P t=some (k,by_,z)∧cOpd x1=some y1∧cOpd x2=some y2:=by
  unfold cOp1 at h
  split at h <;> first
    | (exfalso;simp only [Option.map_eq_some_iff] at h;obtain ⟨b,hb',e⟩:=h;cases e;done)
    | (rename_i ho _;split at h <;> first | (rename_i h1 h2 h3;cases h;exact ⟨_,_,_,_,_,ho,h1,h2,h3⟩) | (cases h;done))
    | (exfalso;repeat' split at h) <;> first | (cases h;done) | (simp at h;done)
theorem early_i {x:AI} (hx:okE x=true) (hc:cOp P N o=some (.i x)) (S:Sim w0 outs N σ a c) (hp:x.pre σ (o.dst.getD 0)) :
    ∃ v,(∀ w,Held c w→(execOp a.eval o).run P w=.ok (.value v) w)∧Rep c (x.out σ ver (o.dst.getD 0)) v∧∀ d,o.dst=some d→d<N:=by
  unfold cOp at hc
  by_cases hd:dstBad N o.dst=true
  · rw [if_pos hd] at hc;cases hc
  rw [if_neg hd] at hc
  have hd':∀ d,o.dst=some d→d<N:=by
    intro d e
    rw [e] at hd
    simp [dstBad] at hd;exact hd
  suffices h:∃ v,(∀ w,Held c w→(execOp a.eval o).run P w=.ok (.value v) w)∧Rep c (x.out σ ver (o.dst.getD 0)) v by
    obtain ⟨v,h1,h2⟩:=h;exact ⟨v,h1,h2,hd'⟩
  cases x with
  | mov y =>
    obtain ⟨x,ho,h1⟩:=inv_mov hc
    refine ⟨a.eval x,fun w _=>?_,S.ev h1⟩
    rcases ho with ho | ho <;> simp [execOp,ho]
  | ld y =>
    obtain ⟨t,x,ho,ht,h1⟩:=inv_ld hc
    have e1:=S.ev h1
    simp only [AI.pre] at hp
    split at hp
    · rename_i cs off hat
      obtain ⟨b,p,u,hv,hb,hns,hcell,hrep⟩:=at_held S.good S.hp e1 hat hp
      refine ⟨u,fun w hw=>?_,by simp only [AI.out,hat];exact hrep⟩
      have hcw:=hw b p u hb hns hcell
      simp [execOp,ho,hv,Instr.loadAt,Instr.sureAddr,loadVar,run_isAgg_false ht,hcw]
    · exact hp.elim
  | fad off y =>
    obtain ⟨s,x,f,fs,fl,i,ho,ht,hf,hi,h0,h1,rfl⟩:=inv_fad hc
    have e1:=S.ev h1
    have hv:∃ b p,a.eval x=.pointer (some ⟨b,p,none⟩)∧Rep c (AI.out σ ver (o.dst.getD 0) (.fad fl.offset y)) (.pointer (some ⟨b,p+fl.offset,none⟩)):=by
      simp only [AI.pre] at hp
      split at hp
      · rename_i r v off hu
        rw [hu] at e1
        simp only [Rep] at e1
        rw [← S.hp] at hp
        obtain ⟨b,p,hb,hv⟩:=e1.2 hp
        refine ⟨b,_,hv,?_⟩
        simp only [AI.out,hu,Rep]
        exact ⟨e1.1,fun _=>⟨b,p,hb,by rw [Nat.add_assoc]⟩⟩
      · rename_i cs off hu
        rw [hu] at e1
        simp only [Rep] at e1
        obtain ⟨b,p,hv,hr⟩:=e1
        refine ⟨b,_,hv,?_⟩
        simp only [AI.out,hu,Rep]
        exact ⟨b,p,by rw [Nat.add_assoc],hr⟩
      · exact hp.elim
    obtain ⟨b,p,hv,hr⟩:=hv
    refine ⟨.pointer (some ⟨b,p+fl.offset,none⟩),fun w _=>?_,hr⟩
    simp [execOp,ho,hv,Instr.fieldAt,underlying,ht,hf,Instr.sureAddr,fieldPlace,sizeOf,typeInfo,hi,h0,addr_add]
  | iad k y1 y2 =>
    obtain ⟨t,x1,x2,by_,z,ho,ht,h1,h2⟩:=inv_iad hc
    have hrun0:=ex_iad (ver:=ver) S ho ht h1 h2 hp
    obtain ⟨e,i,hu,hi,_,hsz,_,hk0,_,_⟩:=cElem_spec ht
    have e1:=S.ev h1;have e2:=S.ev h2
    simp only [AI.pre] at hp
    split at hp
    · rename_i kk n hn
      rw [hn] at e2
      have e2':=rep_val e2
      split at hp
      · rename_i k' cs hsl
        obtain ⟨rfl,h0,hlt⟩:=hp
        obtain ⟨base,len,cap,hv,_,hl,hm,hcase⟩:=sl_cells S.good S.hp e1 hsl
        rcases hcase with h00 | ⟨b,off,rfl,hr,hbl⟩
        · omega
        · have hn':n<(len:Int):=by
            have:n.toNat<len:=by
              rw [hl] at hlt;exact Nat.lt_of_mul_lt_mul_right hlt
            omega
          have hrun:∀ w,(execOp a.eval o).run P w=.ok (.value (.pointer (some ⟨b,off+n.toNat * k',none⟩))) w:=fun w=>by
            simp [execOp,ho,hv,e2',Instr.indexAt,asIntOf,underlying,hu,h0,hn',sizeOf,typeInfo,hi,hsz,addr_add]
          obtain ⟨v,c',hr0,G',K',hh',hrep,_⟩:=hrun0
          refine ⟨_,fun w _=>hrun w,?_⟩
          simp only [AI.out,hn]
          cases hA:σ.ev y1 with
          | ro nm k2 cs2 =>
            rw [hA] at hsl e1
            simp only [St.sl,Option.some.injEq,Prod.mk.injEq] at hsl
            obtain ⟨rfl,rfl⟩:=hsl
            simp only [Rep] at e1 ⊢
            obtain ⟨base',len',cap',hv',_,_,_,_,hcase'⟩:=e1
            rw [hv] at hv'
            simp only [Value.slice.injEq] at hv'
            obtain ⟨rfl,rfl,rfl⟩:=hv'
            rcases hcase' with h00 | ⟨b',off',hb',hi',hr'⟩
            · omega
            · simp only [Option.some.injEq,Addr.mk.injEq] at hb'
              obtain ⟨rfl,rfl,-⟩:=hb'
              exact ⟨_,_,rfl,hi',hr'⟩
          | own r v' =>
            rw [hA] at e1
            simp only [Rep] at e1 ⊢
            refine ⟨e1.1,fun hver=>?_⟩
            rw [e1.2 hver] at hv
            exact ⟨b,off,by rw [hv];rfl,rfl⟩
          | _=>rw [hA] at hsl;simp [St.sl] at hsl
      · exact hp.elim
    · exact hp.elim
  | _=>cases hx
structure Grew (c:Cz) (k:Nat) (v:Value) (w:World):Prop where
  held:Held c w
  size:c.w.heap.size≤w.heap.size
  lies:∀ b off n cap,v=.slice (some ⟨b,off,none⟩) n cap→c.w.heap.size≤b∨∃ r ver' nn cs n0,c.hp r=.row ver' k nn cs∧c.loc r=.slice (some ⟨b,off,none⟩) n0 cap∧n0≤n
theorem held_of_heap {w:World} (h:∀ b,b<c.w.heap.size→w.heap[b]?=c.w.heap[b]?):Held c w:=by
  intro b o v hb _ hv
  rw [World.cell?_of_block (w:=c.w) (h b hb)];exact hv
theorem grew_bsl {t:TypeId} {k by_ len:Nat} {fz:Bool} {z:Value} {ps:Array (Nat×Operand)} {ys:List AOpd} (S:Sim w0 outs N σ a c) (ho:o.op=.buildSlice t len ps) (ht:cElem P t=some (k,by_,z))
    (h1:cParts 0 ps.toList=some ys) (hlen:ys.length=len) (hsmall:len * k≤2 ^ 24)
    (hp:AI.pre σ (o.dst.getD 0) (.bsl k fz ys)):∃ v w,(execOp a.eval o).run P c.w=.ok (.value v) w∧Grew c k v w:=by
  obtain ⟨e,i,hu,hi,hz,hsz,hby,hk0,hzs,hb0⟩:=cElem_spec ht
  obtain ⟨xs,hxs,hps⟩:=cParts_spec h1
  have e1:=S.evs hxs
  obtain ⟨_,hd,hone,hnd⟩:=hp
  have hone':∀ y∈ys,(σ.ev y).cells.length=k∧∀ A∈(σ.ev y).cells,One c.hp A:=by rw [S.hp];exact hone
  obtain ⟨hl,hsize⟩:=e1.flat S.good hone'
  have hlx:xs.length=ys.length:=by
    have:=e1.length;simpa using this.symm
  have hlv:(xs.map a.eval).length=len:=by simp [hlx,hlen]
  have hr:=run_bsl (P:=P) (vs:=xs.map a.eval) hu hi hz (by omega) (by omega) (by rw [hsz];exact hsize) (by rw [hlv,hsz];exact hsmall) c.w
  have hparts:(ps.map fun (i,x)=>(i,a.eval x))=(((xs.map a.eval).zipIdx 0).map fun x=>(x.2,x.1)).toArray:=by
    apply Array.ext'
    rw [Array.toList_map,hps]
    simp [List.zipIdx_map,List.map_map,Function.comp_def]
  rw [hlv] at hr
  refine ⟨_,_,by simp only [execOp,ho,hparts];simp [hr];exact ⟨rfl,rfl⟩,?_,?_,?_⟩
  · exact held_of_heap fun b hb=>heap_old_ab c.w _ b hb
  · simp
  · intro b off n cap hv
    simp only [Value.slice.injEq,Option.some.injEq,Addr.mk.injEq] at hv
    left;omega
theorem grew_app {t:TypeId} {k by_:Nat} {z:Value} {x1 x2:Operand} {y1 y2:AOpd} {args:Array Operand} {ts:Array TypeId} (S:Sim w0 outs N σ a c)
    (ho:o.op=.call { callee:=.builtin .append,args:=args,argTypes:=ts }) (ha:args.toList=[x1,x2]) (hts:ts.toList=[t,t]) (ht:cElem P t=some (k,by_,z)) (h1:cOpd x1=some y1) (h2:cOpd x2=some y2)
    (hp:AI.pre σ (o.dst.getD 0) (.app k by_ y1 y2)):∃ v w,(execOp a.eval o).run P c.w=.ok (.value v) w∧Grew c k v w:=by
  obtain ⟨e,i,hu,hi,hz,hsz,hby,hk0,hzs,hb0⟩:=cElem_spec ht
  have e1:=S.ev h1;have e2:=S.ev h2
  have ha':args=#[x1,x2]:=by cases args;simp at ha;simp [ha]
  have hts':ts=#[t,t]:=by cases ts;simp at hts;simp [hts]
  subst ha' hts'
  have run:∀ {u v r:Value} {w':World},a.eval x1=u→a.eval x2=v→(Builtin.append_ #[t,t] o.type #[u,v]).run P c.w=.ok r w'→(execOp a.eval o).run P c.w=.ok (.value r) w':=by
    intro u v r w' h3 h4 h5
    simp [execOp,ho,resolve,invoke,builtin,h3,h4,h5]
  obtain ⟨hx,hs⟩:=hp
  obtain ⟨bx,m,capx,hvx,hxl,news,hnr,hnl,hnews⟩:∃ bx m capx,a.eval x2=.slice bx m capx∧(σ.slc (σ.ev y2)).length=m * k∧∃ news,RepL c (σ.slc (σ.ev y2)) news∧news.length=(σ.slc (σ.ev y2)).length ∧
      ((σ.slc (σ.ev y2)).length≠0→∃ ad,bx=some ad∧∀ (j:Nat) v,news[j]?=some v→c.w.cell? (ad.add j)=some v):=by
    by_cases hnil:σ.ev y2=.val (.slice none 0 0)
    · rw [hnil] at e2
      refine ⟨none,0,0,rep_val e2,by simp [hnil,St.slc,St.sl],[],by simp [hnil,St.slc,St.sl,RepL],by simp [hnil,St.slc,St.sl],by simp [hnil,St.slc,St.sl]⟩
    · split at hx
      · rename_i h;exact absurd h hnil
      · split at hx
        · rename_i k' xs hsl
          obtain ⟨rfl,_⟩:=hx
          obtain ⟨base,len,cap,hv2,_,hl,hm,hcase⟩:=sl_cells S.good S.hp e2 hsl
          have hslc:σ.slc (σ.ev y2)=xs:=by simp [St.slc,hsl]
          rcases hcase with h0 | ⟨b,off,rfl,hr,_⟩
          · have hxs:xs=[]:=List.eq_nil_of_length_eq_zero h0
            refine ⟨base,len,cap,hv2,by rw [hslc];exact hl,[],by rw [hslc,hxs];simp [RepL],by rw [hslc,hxs];rfl,by rw [hslc];intro h;exact absurd h0 h⟩
          · obtain ⟨vs,h5,h6,h7⟩:=hr.vals
            refine ⟨_,len,cap,hv2,by rw [hslc];exact hl,vs,by rw [hslc];exact h5,by rw [hslc];exact h6,fun _=>⟨_,rfl,fun j v hj=>by rw [addr_add];exact h7 j v hj⟩⟩
        · exact hx.elim
  have hone:∀ u∈news,u.oneCell'=true:=by
    refine hnr.one S.good ?_
    rw [S.hp]
    intro A hA
    split at hx
    · rename_i h;rw [h] at hA;simp [St.slc,St.sl] at hA
    · split at hx
      · rename_i k' xs hsl
        have hslc:σ.slc (σ.ev y2)=xs:=by simp [St.slc,hsl]
        rw [hslc] at hA
        exact hx.2 A hA
      · exact hx.elim
  have hnm:news.length=m * k:=hnl.trans hxl
  have hm0:(σ.slc (σ.ev y2)).length=0↔m=0:=by
    rw [hxl];constructor
    · intro h;rcases Nat.mul_eq_zero.1 h with h | h <;> omega
    · intro h;simp [h]
  have hmem:∀ q:Nat,q * by_≤140737488355328→q≤maxLen:=by
    intro q hq
    have:q≤q * by_:=Nat.le_mul_of_pos_right _ hb0
    simp only [maxLen];omega
  have fresh:∀ (ob:Obj) (n cap:Nat),Grew c k (.slice (some ⟨c.w.heap.size,0,none⟩) n cap) (c.w.drew.alloc ob):=by
    intro ob n cap
    refine ⟨held_of_heap fun b hb=>heap_old_ab c.w.drew _ b hb,by simp,?_⟩
    intro b off n' cap' hv
    simp only [Value.slice.injEq,Option.some.injEq,Addr.mk.injEq] at hv
    left;omega
  cases hA:σ.ev y1 with
  | own r v0 =>
    simp only [hA] at hs
    rw [hA] at e1
    simp only [Rep] at e1
    split at hs
    · rename_i ver' k' nn cs hrr
      obtain ⟨rfl,rfl,hbytes⟩:=hs
      have hrc:c.hp r=.row ver' k' nn cs:=by rw [S.hp];exact hrr
      have hO:=S.good.obj r
      rw [hrc] at hO e1
      have hv1:=e1.2 rfl
      obtain ⟨base,n,cap,hloc,hk,hcl,hnc,hcm,hnn,hcase⟩:=hO
      rw [hloc] at hv1
      have hdiv:(cs.length+(σ.slc (σ.ev y2)).length) / k'=n+m:=by
        rw [hcl,hxl,← Nat.add_mul];exact Nat.mul_div_cancel _ hk
      rw [hdiv] at hbytes
      by_cases hm:m=0
      · subst hm
        have hr:=run_app_zero (P:=P) (ty:=o.type) hu hi base bx n cap capx hnc c.w
        refine ⟨_,_,run hv1 hvx hr,held_of_heap fun _ _=>rfl,Nat.le_refl _,?_⟩
        intro b off n' cap' hv
        simp only [Value.slice.injEq] at hv
        obtain ⟨rfl,rfl,rfl⟩:=hv
        exact .inr ⟨r,ver',nn,cs,n,hrc,hloc,Nat.le_refl _⟩
      · obtain ⟨ad,rfl,hcellx⟩:=hnews (by rw [ne_eq,hm0];exact hm)
        by_cases hroom:n+m≤cap
        · rcases hcase with h0 | ⟨g,off,te,cells,rfl,hg,hcf,hrep⟩
          · omega
          · have hmul:(n+m) * k'≤cap * k':=Nat.mul_le_mul_right _ hroom
            rw [Nat.add_mul] at hmul
            have hr:=run_app_room (P:=P) (ty:=o.type) hu hi (off:=off) (n:=n) (cap:=cap) (cap2:=capx) hg ad news (by rw [hsz];exact hnm) hcellx hone hroom (by rw [hsz,hnm];omega)
            rw [hsz] at hr
            refine ⟨_,_,run hv1 hvx hr,?_,by simp,?_⟩
            · intro b q u hb hns hcu
              by_cases hbg:b=g
              · subst hbg
                rw [cell_of_row _ b q _ te _ (setRow_heap c.w b cells _ te _ hg)]
                rw [cell_of_row c.w b q cells te _ hg] at hcu
                have hq:q<cells.size:=by
                  rcases Nat.lt_or_ge q cells.size with h6 | h6
                  · exact h6
                  · rw [Array.getElem?_eq_none h6] at hcu;cases hcu
                have hout:q<off+n * k'∨off+n * k'+news.length≤q:=by
                  rcases Nat.lt_or_ge q (off+n * k') with h6 | h6
                  · exact .inl h6
                  · right
                    rcases Nat.lt_or_ge q (off+n * k'+news.length) with h7 | h7
                    · exfalso
                      exact hns ⟨r,ver',k',nn,cs,off,n,cap,hrc,hloc,h6,by omega⟩
                    · exact h7
                have hcl2:(cells.toList.take (off+n * k')).length=off+n * k':=by rw [List.length_take,Array.length_toList];omega
                rw [List.getElem?_toArray]
                rcases hout with h6 | h6
                · rw [List.append_assoc,List.getElem?_append_left (by rw [hcl2];exact h6),List.getElem?_take_of_lt h6,Array.getElem?_toList];exact hcu
                · rw [List.getElem?_append_right (by rw [List.length_append,hcl2];exact h6),List.length_append,hcl2,List.getElem?_drop,Array.getElem?_toList]
                  rw [show off+n * k'+news.length+(q - (off+n * k'+news.length))=q by omega];exact hcu
              · rw [World.cell?_of_block (w:=c.w) (setRow_other c.w g b _ hbg)];exact hcu
            · intro b off' n' cap' hv
              simp only [Value.slice.injEq] at hv
              obtain ⟨hv,rfl,rfl⟩:=hv
              rw [hv] at hloc
              exact .inr ⟨r,ver',nn,cs,n,hrc,hloc,by omega⟩
        · have holds:∃ olds,RepL c cs olds∧olds.length=n * k'∧(base=none→n=0∧cap=0)∧∀ b,base=some b→∀ (j:Nat) v,olds[j]?=some v→c.w.cell? (b.add j)=some v:=by
            rcases hcase with h0 | ⟨g,off,te,cells,rfl,hg,hcf,hrep⟩
            · have hn0:n=0:=by omega
              subst hn0
              have:cs=[]:=List.eq_nil_of_length_eq_zero (by omega)
              subst this
              exact ⟨[],by simp [RepL],by simp,fun _=>⟨rfl,h0⟩,by simp⟩
            · refine ⟨(cells.toList.drop off).take (n * k'),hrep,by rw [← hrep.length,hcl],by simp,?_⟩
              intro b hb j v hj
              simp only [Option.some.injEq] at hb
              subst hb
              rw [addr_add,cell_of_row c.w g _ cells te (0,0) hg]
              rw [List.getElem?_take] at hj
              split at hj
              · simpa using hj
              · cases hj
          obtain ⟨olds,hor,hol,hbn,hoc⟩:=holds
          have hlt:cap<n+m:=by omega
          cases base with
          | none =>
            obtain ⟨rfl,rfl⟩:=hbn rfl
            have hr:=run_append_nil (P:=P) c.w t o.type e i z hu hi hz ad m capx news (by rw [hsz];exact hnm) hcellx (by omega) (by have:=hmem _ hbytes;simp only [maxLen] at this;omega) (by rw [hby];simp at hbytes;omega)
            exact ⟨_,_,run hv1 hvx hr,fresh _ _ _⟩
          | some b =>
            have hr:=run_append_grow (P:=P) c.w t o.type e i z hu hi hz b n cap olds (by rw [hsz];exact hol) (hoc b rfl) ad m capx news (by rw [hsz];exact hnm) hcellx hlt (by have:=hmem _ hbytes;simp only [maxLen] at this;omega)
              (by rw [hby];exact growslice_fits hlt hbytes)
            exact ⟨_,_,run hv1 hvx hr,fresh _ _ _⟩
    · exact hs.elim
  | val u =>
    simp only [hA] at hs
    rw [hA] at e1
    have e1':=rep_val e1
    split at hs
    · rename_i heq
      simp only [AVal.val.injEq] at heq
      subst heq
      obtain ⟨hd,hbytes⟩:=hs
      by_cases hm:m=0
      · subst hm
        have hr:=run_app_zero (P:=P) (ty:=o.type) hu hi none bx 0 0 capx (Nat.le_refl _) c.w
        refine ⟨_,_,run e1' hvx hr,held_of_heap fun _ _=>rfl,Nat.le_refl _,?_⟩
        intro b off n' cap' hv;simp at hv
      · have hx0:¬ (σ.slc (σ.ev y2)).length=0:=by rw [hm0];exact hm
        obtain ⟨ad,rfl,hcellx⟩:=hnews hx0
        rw [div_len hxl hk0] at hbytes
        have hr:=run_append_nil (P:=P) c.w t o.type e i z hu hi hz ad m capx news (by rw [hsz];exact hnm) hcellx (by omega) (by have:=hmem _ hbytes;simp only [maxLen] at this;omega) (by rw [hby];omega)
        exact ⟨_,_,run e1' hvx hr,fresh _ _ _⟩
    · rename_i heq;simp at heq
    · exact hs.elim
  | _=>simp [hA] at hs
theorem fram_of {c':Cz} {v:Value} {w:World} {k:Nat} {A:AVal} (G:Good w0 outs c) (K:Keeps c c') (g:Grew c k v w) (hw:c'.w=w) (hv:¬ c.used ver) (hr:Rep c' A v)
    (hH:∀ q,c'.hp q=c.hp q∨c'.hp q=.gone∨∃ nn cs,c'.hp q=.row ver k nn cs∧A=.own q ver):Fram c c':=by
  subst hw
  refine ⟨g.held,g.size,?_⟩
  rintro b o hb ⟨r,ver2,k2,nn,cs,off,n,cap,h1,h2,h3,h4⟩
  have old:c'.hp r=c.hp r→spare c b o:=by
    intro e
    have hu:=(G.verU r ver2 (by rw [← e,h1];rfl)).1
    obtain ⟨_,hl⟩:=K.loc r ver2 hu (by rw [h1];rfl)
    exact ⟨r,ver2,k2,nn,cs,off,n,cap,by rw [← e];exact h1,by rw [← hl];exact h2,h3,h4⟩
  rcases hH r with e | e | ⟨nn2,cs2,e,rfl⟩
  · exact old e
  · rw [h1] at e;cases e
  · rw [h1] at e
    simp only [AObj.row.injEq] at e
    obtain ⟨rfl,rfl,rfl,rfl⟩:=e
    simp only [Rep] at hr
    have hl:=hr.2 (by rw [h1];rfl)
    rw [h2] at hl
    rcases g.lies b off n cap hl with h5 | ⟨r0,ver0,nn0,cs0,n0,h5,h6,h7⟩
    · omega
    · have:n0 * k2≤n * k2:=Nat.mul_le_mul_right _ h7
      exact ⟨r0,ver0,k2,nn0,cs0,off,n0,cap,h5,h6,by omega,h4⟩
end
end Go.Ab
namespace Go.Ab
section
variable {P:Program} {w0:World} {outs:Nat→Prop} {N:Nat} {σ:St} {o:Oper} {a:Act} {c:Cz} {ver:Nat}
def okL:AI→Bool
  | .bsl _ _ _ | .app _ _ _ _ | .mov _ | .fad _ _ | .ld _ | .iad _ _ _=>true
  | _=>false
theorem inv_bsl {k:Nat} {fz:Bool} {ys:List AOpd} (h:cOp1 P o=some (.i (.bsl k fz ys))):∃ t len ps by_ z,o.op=.buildSlice t len ps∧cElem P t=some (k,by_,z)∧cParts 0 ps.toList=some ys∧ys.length=len∧len * k≤2 ^ 24:=by
  unfold cOp1 at h
  split at h <;> first
    | (exfalso;simp only [Option.map_eq_some_iff] at h;obtain ⟨b,hb',e⟩:=h;cases e;done)
    | (rename_i ho _;split at h
       · rename_i h1 h2
         split at h
         · rename_i h3;cases h;exact ⟨_,_,_,_,_,ho,h1,h2,h3.1,h3.2⟩
         · cases h
       · cases h)
    | (exfalso;repeat' split at h) <;> first | (cases h;done) | (simp at h;done)
theorem inv_app {k by_:Nat} {y1 y2:AOpd} (h:cOp1 P o=some (.i (.app k by_ y1 y2))):∃ args ts t x1 x2 z,o.op=.call { callee:=.builtin .append,args:=args,argTypes:=ts }∧args.toList=[x1,x2]∧ts.toList=[t,t]∧cElem P t=some (k,by_,z)∧cOpd x1=some y1∧cOpd x2=some y2:=by
  unfold cOp1 at h
  split at h <;> first
    | (exfalso;simp only [Option.map_eq_some_iff] at h;obtain ⟨b,hb',e⟩:=h;cases e;done)
    | (rename_i ho _;split at h
       · rename_i h1 h2
         split at h
         · rename_i h3 h4 h5
           split at h
           · rename_i h6;cases h;subst h6;exact ⟨_,_,_,_,_,_,ho,h1,h2,h3,h4,h5⟩
           · cases h
         · cases h
       · cases h)
    | (exfalso;repeat' split at h) <;> first | (cases h;done) | (simp at h;done)
theorem late_i {x:AI} (hx:okL x=true) (hc:cOp P N o=some (.i x)) (S:Sim w0 outs N σ a c) (hv:¬ c.used ver) (hp:x.pre σ (o.dst.getD 0)) :
    ∃ v c',(execOp a.eval o).run P c.w=.ok (.value v) c'.w∧Good w0 outs c'∧Keeps c c'∧c'.hp=x.hpw σ ver (o.dst.getD 0)∧Rep c' (x.out σ ver (o.dst.getD 0)) v ∧
      (∀ u,c'.used u→c.used u∨u=ver)∧c'.ext=c.ext∧c'.base=c.base∧Fram c c':=by
  obtain ⟨⟨v,c',hrun,G',K',hhp,hrep,hu,hx',hb⟩,_,_⟩:=sound_i (ver:=ver) hc S hv hp
  have hc0:=hc
  unfold cOp at hc
  by_cases hd:dstBad N o.dst=true
  · rw [if_pos hd] at hc;cases hc
  rw [if_neg hd] at hc
  have fin:∀ {k:Nat} {v0:Value} {w:World},(execOp a.eval o).run P c.w=.ok (.value v0) w→Grew c k v0 w →
      (∀ q,x.hpw σ ver (o.dst.getD 0) q=σ.hp q∨x.hpw σ ver (o.dst.getD 0) q=.gone∨∃ nn cs,x.hpw σ ver (o.dst.getD 0) q=.row ver k nn cs∧x.out σ ver (o.dst.getD 0)=.own q ver) →
      ∃ v c',(execOp a.eval o).run P c.w=.ok (.value v) c'.w∧Good w0 outs c'∧Keeps c c'∧c'.hp=x.hpw σ ver (o.dst.getD 0)∧Rep c' (x.out σ ver (o.dst.getD 0)) v ∧
      (∀ u,c'.used u→c.used u∨u=ver)∧c'.ext=c.ext∧c'.base=c.base∧Fram c c':=by
    intro k v0 w hr g hH
    rcases hrun with hrun | ⟨_,hrun⟩
    · rw [hr] at hrun
      simp only [Result.ok.injEq,Next.value.injEq] at hrun
      obtain ⟨rfl,rfl⟩:=hrun
      refine ⟨v0,c',hr,G',K',hhp,hrep,hu,hx',hb,fram_of S.good K' g rfl hv hrep fun q=>?_⟩
      rw [hhp,S.hp];exact hH q
    · rw [hr] at hrun;simp at hrun
  by_cases hE:okE x=true
  · obtain ⟨v0,hr,_,_⟩:=early_i (ver:=ver) hE hc0 S hp
    have hr:=hr c.w (Fram.refl c).held
    rcases hrun with hrun | ⟨_,hrun⟩
    · rw [hr] at hrun
      simp only [Result.ok.injEq,Next.value.injEq] at hrun
      obtain ⟨rfl,hw⟩:=hrun
      have hh:x.hpw σ ver (o.dst.getD 0)=σ.hp:=by cases x <;> first | rfl | (cases hE;done)
      refine ⟨v0,c',by rw [← hw];exact hr,G',K',hhp,hrep,hu,hx',hb,⟨by rw [← hw];exact (Fram.refl c).held,by rw [← hw];exact Nat.le_refl _,?_⟩⟩
      rintro b o' hb' ⟨r,ver2,k2,nn,cs,off,n,cap,h1,h2,h3,h4⟩
      have e:c'.hp r=c.hp r:=by rw [hhp,hh,S.hp]
      have hu2:=(S.good.verU r ver2 (by rw [← e,h1];rfl)).1
      obtain ⟨_,hl⟩:=K'.loc r ver2 hu2 (by rw [h1];rfl)
      exact ⟨r,ver2,k2,nn,cs,off,n,cap,by rw [← e];exact h1,by rw [← hl];exact h2,h3,h4⟩
    · rw [hr] at hrun;simp at hrun
  cases x with
  | mov _ | fad _ _ | ld _ | iad _ _ _=>exact absurd rfl hE
  | bsl k fz ys =>
    obtain ⟨t,len,ps,by_,z,ho,ht,h1,h2,h3⟩:=inv_bsl hc
    obtain ⟨v0,w,hr,g⟩:=grew_bsl S ho ht h1 h2 h3 hp
    refine fin hr g fun q=>?_
    simp only [AI.hpw,AI.out]
    by_cases e:q=o.dst.getD 0
    · right;right
      rw [if_pos e,e];exact ⟨_,_,rfl,rfl⟩
    · rw [if_neg e]
      split
      · exact .inr (.inl rfl)
      · exact .inl rfl
  | app k by_ y1 y2 =>
    obtain ⟨args,ts,t,x1,x2,z,ho,ha,hts,ht,h1,h2⟩:=inv_app hc
    obtain ⟨v0,w,hr,g⟩:=grew_app S ho ha hts ht h1 h2 hp
    refine fin hr g fun q=>?_
    simp only [AI.hpw,AI.out]
    cases hA:σ.ev y1 with
    | own r v1 =>
      simp only []
      cases hr2:σ.hp r with
      | row v2 k2 nn cs =>
        simp only []
        by_cases e:q=r
        · right;right
          rw [if_pos e,e];exact ⟨_,_,rfl,rfl⟩
        · rw [if_neg e];exact .inl rfl
      | _=>exact .inl rfl
    | _ =>
      simp only []
      by_cases e0:(σ.slc (σ.ev y2)).length=0
      · rw [if_pos e0];exact .inl rfl
      · rw [if_neg e0,if_neg e0]
        by_cases e:q=o.dst.getD 0
        · right;right
          rw [if_pos e,e];exact ⟨_,_,rfl,rfl⟩
        · rw [if_neg e];exact .inl rfl
  | _=>cases hx
end
section
variable {P:Program} {ops:Array Oper} {Q:Exit→Act→World→Prop} {md:Region.Mode} {S:World→Prop}
def wpAnyE (P:Program) (md:Region.Mode) (ops:Array Oper) (Q:Exit→Act→World→Prop) (S:World→Prop) (n1:Nat):Nat→Array Bool→Act→World→Prop
  | 0,listed,a,w=>Region.ready md ops listed=[]∧Q .normal a w
  | fuel+1,listed,a,w =>
    (Region.ready md ops listed=[]→Q .normal a w) ∧
    ∀ i∈Region.ready md ops listed,Go.wpOp P ops Q i (fun a' w'=>(i≠n1→S w')∧wpAnyE P md ops Q S n1 fuel (listed.setIfInBounds i true) a' w') a w
theorem wpAny_of_E {n1:Nat}:∀ (fuel:Nat) (listed:Array Bool) (a:Act) (w:World),wpAnyE P md ops Q S n1 fuel listed a w→Go.wpAny P md ops Q fuel listed a w
  | 0,_,_,_,h=>h
  | fuel+1,_,_,_,h=>⟨h.1,fun i hi=>Go.wpOp_mono (fun a' w' h'=>wpAny_of_E fuel _ a' w' h'.2) (h.2 i hi)⟩
theorem Closed.step {listed:Array Bool} (hcl:Closed ops listed) {i:Nat} (hi:i∈Region.ready .any ops listed):Closed ops (listed.setIfInBounds i true):=by
  obtain ⟨h1,o,ho,hall⟩:=mem_ready.1 hi
  intro k o' ho' hk' j hj
  refine getD_set_true ?_
  by_cases e:k=i
  · subst e
    rw [ho] at ho'
    simp only [Option.some.injEq] at ho';subst ho'
    obtain ⟨e,he,hb,rfl⟩:=mem_edges hj
    exact hall e he hb
  · rw [getD_set_ne true (Ne.symm e)] at hk'
    exact hcl k o' ho' hk' j hj
theorem wpAnyE_first {n1:Nat} {i:Nat} {oi:Oper} {v:Value} (hi:ops[i]?=some oi) (hsel:∀ (j:Nat) (o:Oper) cs b,ops[j]?=some o→o.op≠.select cs b)
    (hanc:Ahead ops n1 i) (hQ:∀ c a w,Q (.panic c) (a.put oi.dst v) w→Q (.panic c) a w) :
    ∀ (fuel:Nat) (listed:Array Bool) (a:Act) (w:World),Closed ops listed →
      (∀ j oj,ops[j]?=some oj→j≠i→listed.getD j true=false→(∀ e∈oj.after,Region.binds .any e=true→e.on≠i)→oi.apart ops oj=true) →
      i∈Region.ready .any ops listed→YieldsIf P ops S oi v a→S w →
      wpAnyE P .any ops Q S n1 fuel (listed.setIfInBounds i true) (a.put oi.dst v) w→wpAnyE P .any ops Q S n1 (fuel+1) listed a w:=by
  intro fuel
  induction fuel with
  | zero =>
    intro listed a w _ _ hr hy hS H
    refine ⟨fun h=>(by rw [h] at hr;cases hr),fun j hj=>?_⟩
    by_cases hji:j=i
    · subst hji;exact hy.wpOp hi hS ⟨fun _=>hS,H⟩
    · have:=ready_mono hj hji
      rw [H.1] at this
      cases this
  | succ fuel ih =>
    intro listed a w hcl hfree hr hy hS H
    refine ⟨fun h=>(by rw [h] at hr;cases hr),fun j hj=>?_⟩
    by_cases hji:j=i
    · subst hji;exact hy.wpOp hi hS ⟨fun _=>hS,H⟩
    · have h1:=H.2 j (ready_mono hj hji)
      obtain ⟨hjun,oj,hoj,hall⟩:=mem_ready.1 hj
      have hjn:j≠n1:=by
        rintro rfl
        have h2:=ahead_listed hcl hanc fun o' ho' k hk=>by
          rw [hoj] at ho'
          simp only [Option.some.injEq] at ho';subst ho'
          obtain ⟨e,he,hb,rfl⟩:=mem_edges hk
          exact hall e he hb
        have h3:=(mem_ready.1 hr).1
        rw [getD_tf h2] at h3;cases h3
      have hnot:∀ e∈oj.after,Region.binds .any e=true→e.on≠i:=fun e he hb heq=>by
        have h1:=hall e he hb
        have h0:=(mem_ready.1 hr).1
        rw [heq] at h1
        rcases Nat.lt_or_ge i listed.size with h' | h'
        · simp [h'] at h0 h1;rw [h0] at h1;cases h1
        · simp [Array.getElem?_eq_none h'] at h1
      have h2:=wpOp_putIf hoj (hfree j oj hoj hji hjun hnot) (fun cs b=>hsel i oi cs b hi) (fun cs b=>hsel j oj cs b hoj) hQ hy h1
      have hfree':∀ k ok,ops[k]?=some ok→k≠i→(listed.setIfInBounds j true).getD k true=false →
          (∀ e∈ok.after,Region.binds .any e=true→e.on≠i)→oi.apart ops ok=true:=fun k ok hk hki hun hno=>by
        refine hfree k ok hk hki ?_ hno
        by_cases hjk:j=k
        · subst hjk;exact hjun
        · rw [getD_set_ne true hjk] at hun;exact hun
      refine Go.wpOp_mono (fun a' w' h3=>⟨fun _=>h3.2.1 hjn,ih (listed.setIfInBounds j true) a' w' (hcl.step hj) hfree' (ready_mono hr (Ne.symm hji)) h3.1 (h3.2.1 hjn) ?_⟩) h2
      rw [Array.setIfInBounds_comm _ _ hji]
      exact h3.2.2
end
end Go.Ab
namespace Go.Ab
def early (ops:Array Oper) (xs:List AOp):List Nat :=
  (List.range ops.size).foldl (fun acc i=>if (match xs[i]?,ops[i]? with
    | some x,some o=>(match x.ins with | .i y=>okE y | _=>false) && x.grd.isNone && (edges o).all fun j=>acc.contains j
    | _,_=>false) then acc ++ [i] else acc) []
def chP (ops:Array Oper) (xs:List AOp):List Nat→Array Bool→Bool
  | [],_=>true
  | e :: es,listed=>(match xs[e]? with | some x=>(match x.ins with | .i y=>okE y | _=>false) && x.grd.isNone | none=>false) &&
      Region.free .any ops listed e && (Region.ready .any ops listed).contains e && chP ops xs es (listed.setIfInBounds e true)
def chE (ops:Array Oper) (xs:List AOp) (E:List Nat):Bool :=
  let an:=ancs ops.toList []
  let ys:=vary2 ops xs
  decide (0<ops.size) && Region.noSelect ops && chP ops xs E (Array.replicate ops.size false) && E.all (fun e=>(an.getD (ops.size - 1) []).contains e) &&
  (List.range (ops.size - 1)).all (fun k=>(an.getD (ops.size - 1) []).contains k) && !E.contains (ops.size - 1) &&
  (List.range ops.size).all fun i =>
    (match ops[i]? with | some o=>(edges o).all (fun j=>decide (j<i)) | none=>true) &&
    (E.contains i || ((match xs[i]? with | some x=>decide (i+1=ops.size) || (x.grd.isNone && (match x.ins with | .i z=>okL z | _=>false)) | none=>false) &&
      (match ys[i]? with
        | some y=>(List.range i).all fun k=>E.contains k || (an.getD i []).contains k || (match ys[k]? with | some x=>comm x y | none=>true)
        | none=>true)))
def lateOf (ops:Array Oper) (E:List Nat):List Nat:=(List.range ops.size).filter fun i=>!E.contains i
def noOp:AOp:=⟨none,none,.i (.mov (.t 0))⟩
def drE (ops:Array Oper) (xs:List AOp):Option (List AOp) :=
  let E:=early ops xs
  let L:=lateOf ops E
  if (chE ops xs E && decide (E.length+L.length=ops.size) && (List.range L.length).all (fun t=>(E ++ L).idxOf (L.getD t 0) == E.length+t))=true
  then some (E.map (fun i=>xs.getD i noOp) ++ L.map fun i=>(vary2 ops xs).getD i noOp) else none
def drW (no:Option (List Nat×List FuncId)) (ops:Array Oper) (xs:List AOp):Option (List AOp):=match drE ops xs with
  | some ys=>some ys
  | none=>drV no ops xs
section
variable {P:Program} {w0:World} {outsC:Nat→Prop} {N:Nat} {c0:Cz}
theorem late_sound {ops:Array Oper} {xs ys:List AOp} {E:List Nat} {c1:Cz} {vs:Nat→Nat→Nat} {K:St→Prop} {Q:Exit→Act→World→Prop} (hlen:ops.size=ys.length)
    (hget:∀ (i:Nat) o y,ops[i]?=some o→ys[i]?=some y→∃ x,xs[i]?=some x∧cOper P N ops o=some x∧∃ wb sts nos ab la,y=x.m2 wb sts nos ab la)
    (hedge0:∀ (i:Nat) o,ops[i]?=some o→∀ j∈edges o,j<i)
    (hch:∀ i,i<ops.size→i ∉ E→(i+1=ops.size∨∀ x,xs[i]?=some x→x.grd=none∧∃ z,x.ins=.i z∧okL z=true)∧∀ y,ys[i]?=some y→∀ k,k<i→k ∉ E→Ahead ops i k∨∀ x,ys[k]?=some x→comm x y=true)
    (hlast:∀ k,k+1<ops.size→Ahead ops (ops.size - 1) k)
    (hinj:∀ i j i' j',i<ops.size→i'<ops.size→vs i j=vs i' j'→i=i'∧j=j') (hQ:∀ σ a c,Sim w0 outsC N σ a c→Hist c0 c→K σ→Q .normal a c.w) :
    ∀ (fuel:Nat) (listed:Array Bool) (rest:List (Nat×AOp)) (σ:St) (a:Act) (c:Cz),rest.length=fuel→listed.size=ops.size →
      (∀ i,listed.getD i true=false↔∃ x,(i,x)∈rest)→(∀ p∈rest,ys[p.1]?=some p.2∧p.1 ∉ E)→rest.Pairwise (fun p q=>p.1<q.1)→Closed ops listed →
      Sim w0 outsC N σ a c→Hist c0 c→(∀ p∈rest,∀ j,¬ c.used (vs p.1 j))→(rest=[]∨Fram c1 c)→wpL P vs rest σ K→wpAnyE P .any ops Q (Held c1) (ops.size - 1) fuel listed a c.w:=by
  intro fuel
  induction fuel with
  | zero =>
    intro listed rest σ a c hrl hls hun hrx hso hcl S H0 hnew _ h
    have:rest=[]:=List.eq_nil_of_length_eq_zero hrl
    subst this
    refine ⟨?_,hQ σ a c S H0 h⟩
    cases hr:Region.ready .any ops listed with
    | nil=>rfl
    | cons i is =>
      exfalso
      have hi:i∈Region.ready .any ops listed:=by rw [hr];simp
      obtain ⟨h1,_⟩:=mem_ready.1 hi
      obtain ⟨x,hx⟩:=(hun i).1 h1
      simp at hx
  | succ fuel ih =>
    intro listed rest σ a c hrl hls hun hrx hso hcl S H0 hnew hfr h
    have hlt:∀ i,listed.getD i true=false→i<ops.size:=by
      intro i hi
      by_cases h1:i<listed.size
      · omega
      · simp [Array.getD,h1] at hi
    have hft:∀ j,j<ops.size→listed.getD j true≠false→listed.getD j false=true:=by
      intro j hj hne
      have:j<listed.size:=by omega
      simp [Array.getD,this] at hne ⊢
      exact hne
    refine ⟨fun hr=>?_,fun i hi=>?_⟩
    · exfalso
      cases hre:rest with
      | nil=>rw [hre] at hrl;simp at hrl
      | cons p rest' =>
        obtain ⟨i,x⟩:=p
        have hun1:=(hun i).2 ⟨x,by rw [hre];simp⟩
        have hi:=hlt i hun1
        have hmem:i∈Region.ready .any ops listed:=by
          refine mem_ready.2 ⟨hun1,ops[i],Array.getElem?_eq_getElem hi,fun e he hb=>?_⟩
          have hej:=hedge0 i _ (Array.getElem?_eq_getElem hi) e.on (edges_mem he hb)
          refine hft e.on (by omega) fun hu=>?_
          obtain ⟨x',hx'⟩:=(hun e.on).1 hu
          rw [hre] at hx' hso
          rcases List.mem_cons.1 hx' with e1 | e1
          · simp only [Prod.mk.injEq] at e1;omega
          · have:=(List.pairwise_cons.1 hso).1 _ e1
            simp only at this;omega
        rw [hr] at hmem;simp at hmem
    · obtain ⟨h1,o,ho,hall⟩:=mem_ready.1 hi
      obtain ⟨y,hy⟩:=(hun i).1 h1
      have hilt:=hlt i h1
      have hfx:Fram c1 c:=by
        rcases hfr with h | h
        · subst h;simp at hy
        · exact h
      obtain ⟨pre,post,hsplit⟩:=List.append_of_mem hy
      subst hsplit
      obtain ⟨hxi,hiE⟩:=hrx _ hy
      simp only at hxi hiE
      have hedge:∀ o',ops[i]?=some o'→∀ j∈edges o',listed.getD j false=true:=by
        intro o' ho' j hj
        rw [ho] at ho'
        simp only [Option.some.injEq] at ho';subst ho'
        obtain ⟨e,he,hb,rfl⟩:=mem_edges hj
        exact hall e he hb
      have hpre:∀ p∈pre,comm p.2 y=true∧∀ j,¬ c.used (vs p.1 j):=by
        intro p hp
        refine ⟨?_,hnew p (by simp [hp])⟩
        have hlt1:p.1<i:=by
          rw [List.pairwise_append] at hso
          exact hso.2.2 p hp (i,y) (by simp)
        obtain ⟨hxp,hpE⟩:=hrx p (by simp [hp])
        rcases (hch i hilt hiE).2 y hxi p.1 hlt1 hpE with h2 | h2
        · exfalso
          have h3:=getD_tf (ahead_listed hcl h2 hedge)
          have h4:=(hun p.1).2 ⟨p.2,by simp [hp]⟩
          rw [h4] at h3;cases h3
        · exact h2 _ hxp
      have hI:Inv c.used σ.tm σ.hp y:=by
        refine ⟨fun t _=>Rep.uses S.good _ _ (S.tm t),fun _ _ r v _ _=>?_⟩
        have:=ObjRep.uses S.good r
        rw [S.hp] at this;exact this
      have h2:=pull pre σ hpre hI h
      have h3:Ab.wpOp false (wpCk P true) (vs i) y σ (fun σ'=>wpL P vs (pre ++ post) σ' K):=by
        simp only [wpL] at h2
        cases hyH:isH y.ins with
        | true=>rw [hyH,if_pos rfl] at h2;exact h2
        | false=>rw [hyH,if_neg (by simp)] at h2;exact (wpOp_iff hyH).2 h2
      obtain ⟨y0,hx0,hco,wb,sts,nos,ab,la,rfl⟩:=hget i o y ho hxi
      have h3:=m2_wp h3
      have hstep:Go.wpOp P ops Q i (fun a' w'=>∃ σ' c',wpL P vs (pre ++ post) σ' K∧Sim w0 outsC N σ' a' c'∧c'.w=w'∧Hist c0 c'∧(∀ u,c'.used u→c.used u∨∃ z,u=vs i z)∧(i+1=ops.size∨Fram c c')) a c.w:=by
        rcases (hch i hilt hiE).1 with hl | hl
        · have h4:=op_sound (Q:=Q) (i:=i) ho hco S H0 (fun j=>hnew (i,_) hy j) (fun j j' e=>(hinj i j i j' hilt hilt e).2) h3
          refine Go.wpOp_mono ?_ h4
          rintro a' w' ⟨σ',c',hk,S',hw',H',hu⟩
          exact ⟨σ',c',hk,S',hw',H',hu,.inl hl⟩
        · obtain ⟨hg,z,hz,hzL⟩:=hl _ hx0
          unfold cOper at hco
          split at hco
          · rename_i g ins hgd hins
            simp only [Option.some.injEq] at hco;subst hco
            simp only at hg hz
            subst hg hz
            have hog:o.guard=none:=by
              cases hgd2:o.guard with
              | none=>rfl
              | some jw =>
                obtain ⟨j,w⟩:=jw
                rw [hgd2] at hgd
                simp only [cGuard,Option.map_eq_some_iff] at hgd
                obtain ⟨t,_,e⟩:=hgd
                cases e
            obtain ⟨hpre3,hk⟩:z.pre σ (o.dst.getD 0)∧(true=true→z.fact σ→wpL P vs (pre ++ post) (z.eff σ (vs i 0) o.dst) K):=⟨h3.1,fun _ hf=>h3.2 (fun _=>hf)⟩
            obtain ⟨_,hfact,hd⟩:=sound_i (ver:=vs i 0) hins S (hnew (i,_) hy 0) hpre3
            obtain ⟨v,c',hrun,G',K',hhp,hrep,hu,hx',hb,hF⟩:=late_i (ver:=vs i 0) hzL hins S (hnew (i,_) hy 0) hpre3
            have hS:=S.put K' G' hhp hrep hd
            have hw:Region.wanted o (yielded ops a.tmps)=true:=by simp [Region.wanted,hog]
            unfold Go.wpOp
            simp only [ho]
            rw [if_pos hw]
            refine .inl ?_
            unfold Oper.wp
            rw [hrun]
            exact ⟨_,c',hk rfl hfact,hS,rfl,H0.step K' hx' hb,fun u hu'=>by rcases hu u hu' with h | h;exact .inl h;exact .inr ⟨0,h⟩,.inr hF⟩
          · cases hco
      refine Go.wpOp_mono ?_ hstep
      rintro a' w' ⟨σ',c',hk,S',rfl,H',hu,hF⟩
      have hsub:∀ p,p∈pre ++ post→p∈pre ++ (i,y0.m2 wb sts nos ab la) :: post:=by
        intro p hp
        rcases List.mem_append.1 hp with h5 | h5
        · exact List.mem_append.2 (.inl h5)
        · exact List.mem_append.2 (.inr (List.mem_cons_of_mem _ h5))
      have hne:∀ p,p∈pre ++ post→p.1≠i:=by
        intro p hp e
        rw [List.pairwise_append,List.pairwise_cons] at hso
        rcases List.mem_append.1 hp with h5 | h5
        · have:=hso.2.2 p h5 (i,y0.m2 wb sts nos ab la) (by simp)
          simp only at this;omega
        · have:=hso.2.1.1 p h5
          simp only at this;omega
      have hfr':pre ++ post=[]∨Fram c1 c':=by
        rcases hF with hl | hF
        · left
          cases hpp:pre ++ post with
          | nil=>rfl
          | cons p ps =>
            exfalso
            have hp:p∈pre ++ post:=by rw [hpp];simp
            have hpl:=(hun p.1).2 ⟨p.2,hsub p hp⟩
            have hplt:=hlt _ hpl
            have hne':=hne p hp
            have h6:=hlast p.1 (by omega)
            have hi1:ops.size - 1=i:=by omega
            rw [hi1] at h6
            have h3:=getD_tf (ahead_listed hcl h6 hedge)
            rw [hpl] at h3;cases h3
        · exact .inr (hfx.trans hF)
      refine ⟨fun hin=>?_,ih (listed.setIfInBounds i true) (pre ++ post) σ' a' c' ?_ (by simpa using hls) ?_ (fun p hp=>hrx p (hsub p hp)) ?_ (hcl.step hi) S' H' ?_ hfr' hk⟩
      · rcases hF with hl | hF
        · omega
        · exact (hfx.trans hF).held
      · simp at hrl ⊢;omega
      · intro k
        by_cases e:k=i
        · subst e
          constructor
          · intro h5
            have:k<listed.size:=by omega
            simp [Array.getD,this] at h5
          · rintro ⟨x,hx⟩
            exact absurd rfl (hne _ hx)
        · rw [getD_set_ne true (Ne.symm e),hun k]
          constructor
          · rintro ⟨x,hx⟩
            refine ⟨x,?_⟩
            rcases List.mem_append.1 hx with h5 | h5
            · exact List.mem_append.2 (.inl h5)
            · rcases List.mem_cons.1 h5 with h6 | h6
              · simp only [Prod.mk.injEq] at h6;exact absurd h6.1 e
              · exact List.mem_append.2 (.inr h6)
          · rintro ⟨x,hx⟩
            exact ⟨x,hsub _ hx⟩
      · rw [List.pairwise_append] at hso ⊢
        exact ⟨hso.1,(List.pairwise_cons.1 hso.2.1).2,fun p hp q hq=>hso.2.2 p hp q (List.mem_cons_of_mem _ hq)⟩
      · intro p hp j hused
        rcases hu _ hused with h5 | ⟨z,h5⟩
        · exact hnew p (hsub p hp) j h5
        · have hplt:=hlt _ ((hun p.1).2 ⟨p.2,hsub p hp⟩)
          exact hne p hp (hinj _ _ _ _ hplt hilt h5).1
end
end Go.Ab
namespace Go.Ab
section
variable {P:Program} {w0:World} {outsC:Nat→Prop} {N:Nat} {c0:Cz}
theorem wpL_late {vs vs':Nat→Nat→Nat} {g:Nat→AOp} {K:St→Prop}:∀ (l:List Nat) (q:Nat) (σ:St),(∀ (t:Nat) i,l[t]?=some i→vs' i=vs (q+t))→Ab.wpOps false (wpCk P true) vs q (l.map g) σ K→wpL P vs' (l.map fun i=>(i,g i)) σ K
  | [],_,_,_,h=>h
  | i :: l,q,σ,hv,h=>by
    have h0:=hv 0 i rfl
    have hs:∀ (t:Nat) j,l[t]?=some j→vs' j=vs (q+1+t):=fun t j hj=>by rw [hv (t+1) j (by simpa using hj)];congr 1;omega
    simp only [List.map_cons,wpL]
    simp only [List.map_cons,Ab.wpOps] at h
    rw [h0,Nat.add_zero]
    cases hx:isH (g i).ins with
    | true=>rw [if_pos rfl];exact wpOp_monoX (fun σ' hq=>wpL_late l (q+1) σ' hs hq) h
    | false=>rw [if_neg (by simp)];exact to_mono (fun A r hq=>wpL_late l (q+1) _ hs hq) ((wpOp_iff hx).1 h)
theorem reads_sound {ops:Array Oper} {xs:List AOp} {c1:Cz} {vs:Nat→Nat→Nat} {late:List AOp} {K:St→Prop} {Q:Exit→Act→World→Prop} {n1 fuel:Nat}
    (hsel:Region.noSelect ops=true) (hQ:∀ cc (a:Act) d v w,Q (.panic cc) (a.put d v) w→Q (.panic cc) a w)
    (hget:∀ (i:Nat) o x,ops[i]?=some o→xs[i]?=some x→cOper P N ops o=some x) (hlen:ops.size=xs.length)
    (hfree:∀ i j,¬ c1.used (vs i j)) :
    ∀ (es:List Nat) (q:Nat) (listed:Array Bool) (σ:St) (a:Act),chP ops xs es listed=true→Closed ops listed→(∀ e∈es,Ahead ops n1 e)→Sim w0 outsC N σ a c1 →
      Ab.wpOps false (wpCk P true) vs q (es.map (fun i=>xs.getD i noOp) ++ late) σ K →
      (∀ σ' a',Sim w0 outsC N σ' a' c1→Closed ops (es.foldl (fun l e=>l.setIfInBounds e true) listed)→Ab.wpOps false (wpCk P true) vs (q+es.length) late σ' K→wpAnyE P .any ops Q (Held c1) n1 fuel (es.foldl (fun l e=>l.setIfInBounds e true) listed) a' c1.w) →
      wpAnyE P .any ops Q (Held c1) n1 (fuel+es.length) listed a c1.w
  | [],q,listed,σ,a,_,hcl,_,S,h,hk=>hk σ a S hcl h
  | e :: es,q,listed,σ,a,hch,hcl,han,S,h,hk=>by
    simp only [chP,Bool.and_eq_true] at hch
    obtain ⟨⟨⟨hx,hf⟩,hr⟩,hch⟩:=hch
    have hr':e∈Region.ready .any ops listed:=by simpa using hr
    obtain ⟨_,o,ho,_⟩:=mem_ready.1 hr'
    cases hxe:xs[e]? with
    | none=>rw [hxe] at hx;cases hx
    | some x =>
      rw [hxe] at hx
      simp only [Bool.and_eq_true] at hx
      have hco:=hget e o x ho hxe
      have hgx:xs.getD e noOp=x:=by rw [List.getD_eq_getElem?_getD,hxe];rfl
      simp only [List.map_cons,List.cons_append,Ab.wpOps,hgx] at h
      unfold cOper at hco
      split at hco
      · rename_i g ins hgd hins
        simp only [Option.some.injEq] at hco;subst hco
        obtain ⟨hx1,hx2⟩:=hx
        have hg:g=none:=by simpa using hx2
        subst hg
        cases ins with
        | i y =>
          simp only at hx1
          have hog:o.guard=none:=by
            cases hgd2:o.guard with
            | none=>rfl
            | some jw =>
              obtain ⟨j,w⟩:=jw
              rw [hgd2] at hgd
              simp only [cGuard,Option.map_eq_some_iff] at hgd
              obtain ⟨t,_,e⟩:=hgd
              cases e
          obtain ⟨hpre,hk1⟩:y.pre σ (o.dst.getD 0)∧(y.fact σ→Ab.wpOps false (wpCk P true) vs (q+1) (es.map (fun i=>xs.getD i noOp) ++ late) (y.eff σ (vs q 0) o.dst) K):=⟨h.1,fun hf=>h.2 (fun _=>hf)⟩
          obtain ⟨_,hfact,hd⟩:=sound_i (ver:=vs q 0) hins S (hfree q 0) hpre
          obtain ⟨v,hrun,hrep,_⟩:=early_i (ver:=vs q 0) hx1 hins S hpre
          have hw:Region.wanted o (yielded ops a.tmps)=true:=by simp [Region.wanted,hog]
          have hS:Sim w0 outsC N (y.eff σ (vs q 0) o.dst) (a.put o.dst v) c1:=by
            have hh:y.hpw σ (vs q 0) (o.dst.getD 0)=σ.hp:=by cases y <;> first | rfl | (cases hx1;done)
            have:=S.put (Keeps.refl c1) S.good (hh ▸ S.hp) hrep hd
            exact this
          have hrec:=reads_sound hsel hQ hget hlen hfree es (q+1) (listed.setIfInBounds e true) _ _ hch (hcl.step hr') (fun e' he'=>han e' (by simp [he'])) hS (hk1 hfact)
            (fun σ' a' S' hc' h'=>hk σ' a' S' hc' (by rw [List.length_cons,show q+(es.length+1)=q+1+es.length by omega];exact h'))
          rw [List.length_cons,show fuel+(es.length+1)=(fuel+es.length)+1 by omega]
          exact wpAnyE_first ho (Region.noSelect_spec hsel) (han e (by simp)) (fun cc a' w=>hQ cc a' _ _ w) _ listed a _ hcl (Region.free_spec ho hf) hr' (.inl ⟨hw,hrun⟩) (Fram.refl c1).held hrec
        | _=>cases hx1
      · cases hco
theorem foldl_listed {n:Nat}:∀ (es:List Nat) (l:Array Bool),l.size=n→(es.foldl (fun l e=>l.setIfInBounds e true) l).size=n ∧
    ∀ i,(es.foldl (fun l e=>l.setIfInBounds e true) l).getD i true=false↔l.getD i true=false∧i ∉ es
  | [],l,h=>⟨h,fun i=>by simp⟩
  | e :: es,l,h=>by
    obtain ⟨h1,h2⟩:=foldl_listed es (l.setIfInBounds e true) (by simpa using h)
    refine ⟨h1,fun i=>?_⟩
    rw [List.foldl_cons,h2 i]
    by_cases hie:i=e
    · subst hie
      constructor
      · rintro ⟨h3,_⟩
        exfalso
        by_cases hlt:i<l.size
        · simp [Array.getD,hlt] at h3
        · simp [Array.getD,hlt] at h3
      · rintro ⟨_,h3⟩;exact absurd List.mem_cons_self h3
    · rw [getD_set_ne true (Ne.symm hie)]
      simp [hie]
theorem drawE_ok {no:Option (List Nat×List FuncId)} (hm:P.follows .mixedOrders=true):DrawOK P N (drW no):=by
  intro w0 outsC c0 id ops xs zs hxs hdr σ a c Q K hQ S H0 h
  unfold drW at hdr
  cases hE:drE ops xs with
  | none=>rw [hE] at hdr;exact draw_ok hm w0 outsC c0 id ops xs zs hxs hdr σ a c Q K hQ S H0 h
  | some zs' =>
    rw [hE] at hdr
    simp only [Option.some.injEq] at hdr
    subst hdr
    unfold drE at hE
    simp only [] at hE
    generalize hEe:early ops xs=E at hE
    split at hE
    · rename_i hck
      simp only [Option.some.injEq] at hE
      subst hE
      obtain ⟨S',H'⟩:=S.drawn H0 (c.w.drawn+1) (Nat.le_succ _)
      obtain ⟨vs,hnew,hfree⟩:=new_vs S'
      obtain ⟨hlen0,hget0⟩:=cRegion_get hxs
      have hlen:ops.size=xs.length:=by simpa using hlen0
      simp only [Bool.and_eq_true,decide_eq_true_eq,chE] at hck
      obtain ⟨⟨⟨⟨⟨⟨⟨⟨hn0,hsel⟩,hP⟩,hanE⟩,hanL⟩,hEl⟩,hpairs⟩,hcount⟩,hidx⟩:=hck
      have hahead:∀ i k,k∈(ancs ops.toList []).getD i []→Ahead ops i k:=fun i k hk=>ancs_ahead ops.toList [] (fun j=>by simp) (fun i k hk=>by simp at hk) i k hk
      have hanE':∀ e∈E,Ahead ops (ops.size - 1) e:=fun e he=>by
        rw [List.all_eq_true] at hanE
        exact hahead _ _ (by simpa using hanE e he)
      have hanL':∀ k,k+1<ops.size→Ahead ops (ops.size - 1) k:=fun k hk=>by
        rw [List.all_eq_true] at hanL
        exact hahead _ _ (by simpa using hanL k (List.mem_range.2 (by omega)))
      rw [List.all_eq_true] at hpairs
      refine Code.wp_mono (Q:=fun e a w=>e=.normal∧Q .normal a w) (fun e a w he=>by obtain ⟨rfl,he⟩:=he;exact he) (wp_region_any hm (wpAny_of_E (n1:=ops.size - 1) (S:=Held { c with w:={ c.w with drawn:=c.w.drawn+1 } }) _ _ _ _ ?_))
      have hcl0:Closed ops (Array.replicate ops.size false):=by
        intro i o ho hi
        exfalso
        have:i<ops.size:=(Array.getElem?_eq_some_iff.1 ho).1
        simp [Array.getD,this] at hi
      have hops:=h vs _ hnew
      have hLm:∀ i,i∈lateOf ops E↔i<ops.size∧i ∉ E:=by
        intro i;simp [lateOf,List.mem_filter]
      have hfu:∀ (X:Nat→Prop),X ((lateOf ops E).length+E.length)→X ops.size:=fun X hX=>by rw [← hcount,Nat.add_comm E.length];exact hX
      refine hfu (fun f=>wpAnyE P .any ops _ _ (ops.size - 1) f (Array.replicate ops.size false) a _) ?_
      have hq0:∀ cc (a:Act) (d:Option Tmp) (v:Value) w,(fun e a w=>e=Exit.normal∧Q .normal a w) (.panic cc) (a.put d v) w→(fun e a w=>e=Exit.normal∧Q .normal a w) (.panic cc) a w:=fun cc a d v w hh=>by cases hh.1
      refine reads_sound (w0:=w0) (outsC:=outsC) (Q:=fun e a w=>e=Exit.normal∧Q .normal a w) hsel hq0 (fun i o x ho hx=>hget0 i o x (by simpa using ho) hx) hlen hfree E 0 (Array.replicate ops.size false) σ a hP hcl0 hanE' S' hops ?_
      intro σ' a' S'' hcl hlate
      rw [Nat.zero_add] at hlate
      obtain ⟨hsz,hlis⟩:=foldl_listed (n:=ops.size) E (Array.replicate ops.size false) (by simp)
      have hidx':∀ (t:Nat) i,(lateOf ops E)[t]?=some i→(E ++ lateOf ops E).idxOf i=E.length+t:=by
        intro t i hti
        rw [List.all_eq_true] at hidx
        have hlt:t<(lateOf ops E).length:=(List.getElem?_eq_some_iff.1 hti).1
        have h3:=hidx t (List.mem_range.2 hlt)
        rw [List.getD_eq_getElem?_getD,hti,Option.getD_some,beq_iff_eq] at h3
        exact h3
      have hmem:∀ i,i<ops.size→i∈E ++ lateOf ops E:=by
        intro i hi
        by_cases hE:i∈E
        · exact List.mem_append.2 (.inl hE)
        · exact List.mem_append.2 (.inr ((hLm i).2 ⟨hi,hE⟩))
      have hvl:(vary2 ops xs).length=xs.length:=by simp [vary2]
      have hL:=wpL_late (vs':=fun i=>vs ((E ++ lateOf ops E).idxOf i)) (lateOf ops E) E.length σ' (fun t i hti=>by rw [hidx' t i hti]) hlate
      refine late_sound (ys:=vary2 ops xs) (xs:=xs) (E:=E) (vs:=fun i=>vs ((E ++ lateOf ops E).idxOf i)) (by rw [hvl,hlen]) ?_ ?_ ?_ hanL' ?_ (fun σ a c S H hk=>⟨rfl,hQ σ a c S H hk⟩)
        _ _ ((lateOf ops E).map fun i=>(i,(vary2 ops xs).getD i noOp)) σ' a' _ (by simp) hsz ?_ ?_ ?_ hcl S'' H' ?_ (.inr (Fram.refl _)) hL
      · intro i o y ho hy
        simp only [vary2,List.getElem?_mapIdx,Option.map_eq_some_iff] at hy
        obtain ⟨x,hx,rfl⟩:=hy
        exact ⟨x,hx,hget0 i o x (by simpa using ho) hx,_,_,_,_,_,rfl⟩
      · intro i o ho j hj
        have h3:=hpairs i (List.mem_range.2 (Array.getElem?_eq_some_iff.1 ho).1)
        rw [Bool.and_eq_true] at h3
        have h4:=h3.1
        simp only [ho,List.all_eq_true,decide_eq_true_eq] at h4
        exact h4 j hj
      · intro i hi hiE
        have h3:=hpairs i (List.mem_range.2 hi)
        rw [Bool.and_eq_true,Bool.or_eq_true,Bool.and_eq_true] at h3
        rcases h3.2 with h4 | ⟨h4,h5⟩
        · exact absurd (by simpa using h4) hiE
        · refine ⟨?_,fun y hy k hk hkE=>?_⟩
          · cases hxi:xs[i]? with
            | none=>rw [hxi] at h4;cases h4
            | some x =>
              rw [hxi] at h4
              simp only [Bool.or_eq_true,decide_eq_true_eq,Bool.and_eq_true] at h4
              rcases h4 with h4 | ⟨h4,h6⟩
              · exact .inl h4
              · right
                rintro x' hx'
                simp only [Option.some.injEq] at hx';subst hx'
                refine ⟨by simpa using h4,?_⟩
                cases hxx:x.ins with
                | i z=>rw [hxx] at h6;exact ⟨z,rfl,h6⟩
                | _=>rw [hxx] at h6;cases h6
          · rw [hy] at h5
            simp only [List.all_eq_true] at h5
            have h6:=h5 k (List.mem_range.2 hk)
            rw [Bool.or_eq_true,Bool.or_eq_true] at h6
            rcases h6 with (h6 | h6) | h6
            · exact absurd (by simpa using h6) hkE
            · exact .inl (hahead _ _ (by simpa using h6))
            · right
              intro x hx
              rw [hx] at h6;exact h6
      · intro i j i' j' hi hi' e
        obtain ⟨h3,h4⟩:=hnew.inj _ _ _ _ e
        have h5:=List.idxOf_lt_length_iff.2 (hmem i hi)
        have h6:=List.idxOf_lt_length_iff.2 (hmem i' hi')
        have h7:=List.getElem_idxOf h5
        have h8:=List.getElem_idxOf h6
        refine ⟨?_,h4⟩
        rw [← h7,← h8];simp only [h3]
      · intro i
        rw [hlis i]
        constructor
        · rintro ⟨h3,h4⟩
          have hi:i<ops.size:=by
            by_cases hlt:i<ops.size
            · exact hlt
            · simp [Array.getD,hlt] at h3
          exact ⟨_,List.mem_map.2 ⟨i,(hLm i).2 ⟨hi,h4⟩,rfl⟩⟩
        · rintro ⟨x,hx⟩
          obtain ⟨i',hi',e⟩:=List.mem_map.1 hx
          simp only [Prod.mk.injEq] at e
          obtain ⟨rfl,_⟩:=e
          obtain ⟨h3,h4⟩:=(hLm i').1 hi'
          exact ⟨by simp [Array.getD,h3],h4⟩
      · intro p hp
        obtain ⟨i,hi,rfl⟩:=List.mem_map.1 hp
        obtain ⟨h3,h4⟩:=(hLm i).1 hi
        refine ⟨?_,h4⟩
        simp only [List.getD_eq_getElem?_getD]
        rw [List.getElem?_eq_getElem (by rw [hvl];omega),Option.getD_some]
      · rw [List.pairwise_map]
        exact List.Pairwise.filter _ List.pairwise_lt_range
      · intro p _ j
        exact hfree _ _
    · cases hE
end
theorem con_shE {P:Program} {g:FuncId} {F:AFn} (hm:P.follows .mixedOrders=true) {no:Option (List Nat×List FuncId)} (hF:cFn (drW no) P g F) {ins:List AObj} {args:List AVal} (hargs:args.length=F.nparams) (hins:ins.length≤1000)
    {R:List AObj→List AObj→AVal→Prop}
    (h:wpD P F.code (finQ fun σ=>(∀ x∈F.res,σ.there x)∧∃ ids:List Nat,ids.length≤1000∧ids.Nodup∧(∀ n∈ids,n<5000) ∧
      R ((List.range ins.length).map fun j=>(σ.hp (5000+j)).ren (expo ids) id) (ids.map fun n=>(σ.hp n).ren (expo ids) id) ((σ.value F.res).ren (expo ids) id)) (St.init args ins)):Con P g ins args true R:=by
  refine con_of_wp (drawE_ok hm) hF hargs hins (wpC_of_wpD _ _ _ _ (fun e σ he=>?_) h)
  have:(∀ x∈F.res,σ.there x)∧(∃ ids:List Nat,ids.length≤1000∧ids.Nodup∧(∀ n∈ids,n<5000) ∧
      R ((List.range ins.length).map fun j=>(σ.hp (5000+j)).ren (expo ids) id) (ids.map fun n=>(σ.hp n).ren (expo ids) id) ((σ.value F.res).ren (expo ids) id))→∃ ids,Ret ins.length true ids R F.res σ:=by
    rintro ⟨h1,ids,h2,h3,h4,h8⟩
    exact ⟨ids,h1,h8,hins,h2,h3,h4,fun e=>by cases e⟩
  cases e with
  | exit _=>exact he
  | normal=>exact this he
  | ret=>exact this he
end Go.Ab
