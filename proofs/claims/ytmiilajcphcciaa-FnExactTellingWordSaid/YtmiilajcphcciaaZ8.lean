/- Contracts and what they lean on, part 8. Conditions: none. -/
import Derived.Test.YtmiilajcphcciaaZ7
set_option maxRecDepth 100000
set_option maxHeartbeats 4000000
set_option linter.all false
open Nat renaming reduceLeDiff → xx0, reduceMul → xx1, reduceSub → xx2, reduceEqDiff → xx3, reduceAdd → xx4, reduceLT → xx5
open Int renaming reduceToNat → xx6, reduceNeg → xx7, reduceLE → xx8, reduceLT → xx9
namespace Go.Ab
def pop (f:Nat):Nat:=(bitsN f).length
def parF (nr or:List Int) (o:Int) (D:List Nat):List Nat:=D.flatMap fun f=>(dvF nr or o (bitsTo f 10)).1
def clrF (nr or:List Int) (o:Int) (D:List Nat):Bool:=D.all fun f=>(dvF nr or o (bitsTo f 10)).2
def nrmF (ps:List Nat):List Nat:=(List.range 1024).filter fun f=>decide (f∈ps) && !smallN f
def dbtD (next out:List (List Int)) (o:Int) (tells:Bool) (D:List Nat) (x:Nat):Option (List Nat) :=
  if (tells && !(clrF (next.getD x []) (out.getD x []) o D))=true then none else some (nrmF (parF (next.getD x []) (out.getD x []) o D))
theorem nrmF_mem {ps:List Nat} {f:Nat} (hp:∀ f∈ps,f<1024):f∈nrmF ps↔f∈ps∧smallN f=false:=by
  simp only [nrmF,List.mem_filter,List.mem_range,Bool.and_eq_true,decide_eq_true_eq,Bool.not_eq_true']
  constructor
  · rintro ⟨_,h⟩;exact h
  · rintro ⟨h1,h2⟩;exact ⟨hp f h1,h1,h2⟩
theorem nrmF_lt (ps:List Nat):(nrmF ps).Pairwise (·<·):=List.Pairwise.filter _ List.pairwise_lt_range
theorem cast_SI {q:List Nat} (h:q.Pairwise (·<·)):SI (q.map fun (f:Nat)=>(f:Int)):=by
  unfold SI
  rw [List.pairwise_map]
  exact h.imp fun h=>by omega
theorem cast_mem {q:List Nat} {y:Int}:y∈(q.map fun (f:Nat)=>(f:Int))↔0≤y∧y.toNat∈q:=by
  rw [List.mem_map]
  constructor
  · rintro ⟨f,hf,rfl⟩;exact ⟨by omega,by simpa using hf⟩
  · rintro ⟨h0,h⟩;exact ⟨_,h,by omega⟩
theorem nrm_sorted {ps:List Nat} {ys:List Int} (hp:∀ f∈ps,f<1024) (h1:ys.Perm (ps.map fun (f:Nat)=>(f:Int))) (h2:ys.Pairwise (·≤·)) :
    (Lib.compact ys).filter (fun x=>!smI x)=(nrmF ps).map fun (f:Nat)=>(f:Int):=by
  obtain ⟨c1,c2⟩:=compact_sorted h2
  refine SI_ext (List.Pairwise.filter _ c1) (cast_SI (nrmF_lt ps)) fun y=>?_
  rw [List.mem_filter,c2,h1.mem_iff,cast_mem,cast_mem,nrmF_mem hp]
  constructor
  · rintro ⟨⟨h0,hm⟩,hs⟩
    refine ⟨h0,hm,?_⟩
    have h3:=smI_nat (hp _ hm)
    rw [show ((y.toNat:Nat):Int)=y by omega] at h3
    rw [h3] at hs
    simpa using hs
  · rintro ⟨h0,hm,hs⟩
    refine ⟨⟨h0,hm⟩,?_⟩
    have h3:=smI_nat (hp _ hm)
    rw [show ((y.toNat:Nat):Int)=y by omega] at h3
    rw [h3,hs];rfl
def putF (acc:List Int) (ps:List Nat):List Int:=ps.foldl (fun a f=>if smallN f=true then a else put a f) acc
theorem putF_spec:∀ {ps:List Nat} {acc:List Int},SI acc→SI (putF acc ps)∧∀ y,y∈putF acc ps↔y∈acc∨(0≤y∧y.toNat∈ps∧smallN y.toNat=false)
  | [],acc,h=>⟨h,fun y=>by simp [putF]⟩
  | p :: ps,acc,h=>by
    by_cases hs:smallN p=true
    · obtain ⟨a,b⟩:=putF_spec (ps:=ps) h
      have e:putF acc (p :: ps)=putF acc ps:=by simp only [putF,List.foldl_cons,hs,if_true]
      rw [e]
      refine ⟨a,fun y=>(b y).trans ?_⟩
      constructor
      · rintro (h | ⟨h1,h2,h3⟩)
        · exact .inl h
        · exact .inr ⟨h1,List.mem_cons_of_mem _ h2,h3⟩
      · rintro (h | ⟨h1,h2,h3⟩)
        · exact .inl h
        · rcases List.mem_cons.1 h2 with h4 | h4
          · rw [h4,hs] at h3;cases h3
          · exact .inr ⟨h1,h4,h3⟩
    · obtain ⟨a,b⟩:=putF_spec (ps:=ps) (put_SI (n:=(p:Int)) h)
      have e:putF acc (p :: ps)=putF (put acc p) ps:=by simp only [putF,List.foldl_cons,hs,Bool.false_eq_true,if_false]
      rw [e]
      refine ⟨a,fun y=>(b y).trans ?_⟩
      rw [put_mem]
      have hs':smallN p=false:=by simpa using hs
      constructor
      · rintro ((rfl | h) | ⟨h1,h2,h3⟩)
        · exact .inr ⟨by omega,by simp,by simpa using hs'⟩
        · exact .inl h
        · exact .inr ⟨h1,List.mem_cons_of_mem _ h2,h3⟩
      · rintro (h | ⟨h1,h2,h3⟩)
        · exact .inl (.inr h)
        · rcases List.mem_cons.1 h2 with h4 | h4
          · exact .inl (.inl (by omega))
          · exact .inr ⟨h1,h4,h3⟩
theorem putF_nrm {ps:List Nat} (hp:∀ f∈ps,f<1024):putF [] ps=(nrmF ps).map fun (f:Nat)=>(f:Int):=by
  obtain ⟨a,b⟩:=putF_spec (ps:=ps) (acc:=[]) (by simp [SI])
  refine SI_ext a (cast_SI (nrmF_lt ps)) fun y=>?_
  rw [b,cast_mem,nrmF_mem hp]
  simp
theorem putF_len:∀ {ps:List Nat} {acc:List Int},(putF acc ps).length≤acc.length+ps.length
  | [],acc=>by simp [putF]
  | p :: ps,acc=>by
    by_cases hs:smallN p=true
    · have:=putF_len (ps:=ps) (acc:=acc)
      simp only [putF,List.foldl_cons,hs,if_true,List.length_cons] at this ⊢;omega
    · have:=putF_len (ps:=ps) (acc:=put acc p)
      have h2:=put_len (n:=(p:Int)) (xs:=acc)
      simp only [putF,List.foldl_cons,hs,Bool.false_eq_true,if_false,List.length_cons] at this ⊢;omega
theorem count_or:∀ (l:List Nat) (a k:Nat),l.Nodup→(l.filter fun s=>(a ||| 2 ^ k).testBit s).length≤(l.filter fun s=>a.testBit s).length+(if k∈l then 1 else 0)
  | [],_,_,_=>by simp
  | s :: l,a,k,hd=>by
    rw [List.nodup_cons] at hd
    have ih:=count_or l a k hd.2
    have e:(a ||| 2 ^ k).testBit s=(a.testBit s || decide (k=s)):=by
      rw [Nat.testBit_or,Nat.testBit_two_pow]
    by_cases hs:k=s
    · subst hs
      rw [if_neg hd.1] at ih
      rw [if_pos (by simp),List.filter_cons,List.filter_cons,e]
      simp only [decide_true,Bool.or_true,if_true,List.length_cons]
      split
      · rw [List.length_cons];omega
      · omega
    · have hm:(k∈s :: l)↔k∈l:=by simp [hs]
      rw [List.filter_cons,List.filter_cons,e]
      simp only [hs,decide_false,Bool.or_false]
      have:(if k∈s :: l then 1 else 0)=if k∈l then 1 else 0:=by simp only [hm]
      rw [this]
      by_cases hb:a.testBit s=true
      · simp only [hb,if_true,List.length_cons];omega
      · simp only [hb,if_false];exact ih
theorem pop_or (a k:Nat):pop (a ||| 2 ^ k)≤pop a+1:=by
  have:=count_or (List.range 10) a k List.nodup_range
  unfold pop bitsN
  split at this <;> omega
theorem sum_set:∀ (l:List Nat) (i v:Nat),(l.set i v).sum+l.getD i 0≤l.sum+v
  | [],_,_=>by simp
  | a :: l,0,v=>by simp;omega
  | a :: l,i+1,v=>by
    have:=sum_set l i v
    simp only [List.set_cons_succ,List.sum_cons,List.getD_cons_succ];omega
theorem pop_zero:pop 0=0:=by decide
theorem sum_rep (n:Nat):((List.replicate n 0).map pop).sum=0:=by
  induction n with
  | zero=>rfl
  | succ n ih=>rw [List.replicate_succ,List.map_cons,List.sum_cons,ih,pop_zero]
theorem dvS_sum {nr or:List Int} {D:List Nat×Bool} {s:Int}:((dvS nr or D s).1.map pop).sum≤(D.1.map pop).sum+1:=by
  unfold dvS
  dsimp only
  generalize (or.getD s.toNat 0).toNat=i
  generalize (nr.getD s.toNat 0).toNat=k
  rw [List.map_set]
  have h1:=sum_set (D.1.map pop) i (pop (D.1.getD i 0 ||| 2 ^ k))
  have h2:=pop_or (D.1.getD i 0) k
  have h3:(D.1.map pop).getD i 0=pop (D.1.getD i 0):=by
    rw [List.getD_eq_getElem?_getD,List.getElem?_map,List.getD_eq_getElem?_getD]
    cases D.1[i]? with
    | none=>exact pop_zero.symm
    | some a=>rfl
  rw [h3] at h1;omega
theorem dvFold_sum {nr or:List Int}:∀ (S:List Int) (D:List Nat×Bool),((S.foldl (dvS nr or) D).1.map pop).sum≤(D.1.map pop).sum+S.length
  | [],D=>by simp
  | s :: S,D=>by
    have h1:=dvFold_sum (nr:=nr) (or:=or) S (dvS nr or D s)
    have h2:=dvS_sum (nr:=nr) (or:=or) (D:=D) (s:=s)
    rw [List.foldl_cons,List.length_cons];omega
theorem dvF_sum {nr or:List Int} {o:Int} {S:List Int}:((dvF nr or o S).1.map pop).sum≤S.length:=by
  have:=dvFold_sum (nr:=nr) (or:=or) S (List.replicate o.toNat 0,true)
  rw [sum_rep] at this
  unfold dvF;omega
theorem dvFold_len {nr or:List Int}:∀ (S:List Int) (D:List Nat×Bool),(S.foldl (dvS nr or) D).1.length=D.1.length
  | [],D=>rfl
  | s :: S,D=>by rw [List.foldl_cons,dvFold_len S];simp [dvS]
theorem dvF_len {nr or:List Int} {o:Int} {S:List Int}:(dvF nr or o S).1.length=o.toNat:=by
  unfold dvF;rw [dvFold_len];simp
theorem dvFold_lt {nr or:List Int} {n:Nat} (hr:∀ s∈nr,s.toNat<n) (hl:∀ D:List Nat×Bool,True):∀ (S:List Int) (D:List Nat×Bool),(∀ s∈S,s.toNat<nr.length)→(∀ g∈D.1,g<2 ^ n)→∀ g∈(S.foldl (dvS nr or) D).1,g<2 ^ n
  | [],D,_,h=>h
  | s :: S,D,hS,h=>by
    rw [List.foldl_cons]
    refine dvFold_lt hr hl S _ (fun s hs=>hS s (List.mem_cons_of_mem _ hs)) fun g hg=>?_
    unfold dvS at hg
    dsimp only at hg
    rcases List.mem_or_eq_of_mem_set hg with hg | rfl
    · exact h g hg
    · refine Nat.or_lt_two_pow ?_ (Nat.pow_lt_pow_right (by omega) (hr _ (yz17 (hS s (by simp)) 0)))
      by_cases hi:(or.getD s.toNat 0).toNat<D.1.length
      · exact h _ (yz17 hi 0)
      · rw [List.getD_eq_getElem?_getD,List.getElem?_eq_none (by omega)];exact Nat.two_pow_pos n
theorem dvF_lt {nr or:List Int} {o:Int} {n:Nat} {S:List Int} (hr:∀ s∈nr,s.toNat<n) (hS:∀ s∈S,s.toNat<nr.length):∀ g∈(dvF nr or o S).1,g<2 ^ n:=by
  refine dvFold_lt hr (fun _=>trivial) S _ hS fun g hg=>?_
  rw [(List.mem_replicate.1 hg).2];exact Nat.two_pow_pos n
theorem parF_len {nr or:List Int} {o:Int}:∀ {D:List Nat},(parF nr or o D).length=D.length * o.toNat
  | []=>by simp [parF]
  | f :: D=>by
    have:=parF_len (nr:=nr) (or:=or) (o:=o) (D:=D)
    unfold parF at this ⊢
    rw [List.flatMap_cons,List.length_append,this,dvF_len,List.length_cons,Nat.add_mul];omega
theorem parF_sum {nr or:List Int} {o:Int}:∀ {D:List Nat},((parF nr or o D).map pop).sum≤(D.map pop).sum
  | []=>by simp [parF]
  | f :: D=>by
    have h1:=parF_sum (nr:=nr) (or:=or) (o:=o) (D:=D)
    have h2:=dvF_sum (nr:=nr) (or:=or) (o:=o) (S:=bitsTo f 10)
    have h3:(bitsTo f 10).length=pop f:=by unfold bitsTo pop bitsN;simp
    unfold parF at h1 ⊢
    rw [List.flatMap_cons,List.map_append,List.sum_append,List.map_cons,List.sum_cons];omega
theorem sum_sub (g:Nat→Nat):∀ {q ps:List Nat},q.Nodup→(∀ f∈q,f∈ps)→(q.map g).sum≤(ps.map g).sum
  | [],_,_,_=>by simp
  | a :: q,ps,hd,h=>by
    rw [List.nodup_cons] at hd
    have ha:=h a (by simp)
    have h1:=(List.perm_cons_erase ha)
    have h2:(ps.map g).sum=((a :: ps.erase a).map g).sum:=(h1.map g).sum_nat
    rw [h2,List.map_cons,List.sum_cons,List.map_cons,List.sum_cons]
    have h3:=sum_sub g (q:=q) (ps:=ps.erase a) hd.2 fun f hf=>(List.mem_erase_of_ne (fun e=>hd.1 (by rw [← e];exact hf))).2 (h f (List.mem_cons_of_mem _ hf))
    omega
theorem len_sub {α:Type} [DecidableEq α]:∀ {q ps:List α},q.Nodup→(∀ f∈q,f∈ps)→q.length≤ps.length
  | [],_,_,_=>by simp
  | a :: q,ps,hd,h=>by
    rw [List.nodup_cons] at hd
    have ha:=h a (by simp)
    have h1:=(List.perm_cons_erase ha).length_eq
    have h3:=len_sub (q:=q) (ps:=ps.erase a) hd.2 fun f hf=>(List.mem_erase_of_ne (fun e=>hd.1 (by rw [← e];exact hf))).2 (h f (List.mem_cons_of_mem _ hf))
    rw [List.length_cons] at h1 ⊢;omega
theorem nfs_app {a b:List Nat}:nfs a ++ nfs b=nfs (a ++ b):=by simp
theorem parF_snoc {nr or:List Int} {o:Int} {D:List Nat} {j:Nat} (h:j<D.length):parF nr or o (D.take (j+1))=parF nr or o (D.take j) ++ (dvF nr or o (bitsTo (D.getD j 0) 10)).1:=by
  unfold parF
  rw [List.take_succ_eq_append_getElem h,List.flatMap_append,List.getD_eq_getElem?_getD,List.getElem?_eq_getElem h];simp
theorem clrF_snoc {nr or:List Int} {o:Int} {D:List Nat} {j:Nat} (h:j<D.length):clrF nr or o (D.take (j+1))=(clrF nr or o (D.take j) && (dvF nr or o (bitsTo (D.getD j 0) 10)).2):=by
  unfold clrF
  rw [List.take_succ_eq_append_getElem h,List.all_append,List.getD_eq_getElem?_getD,List.getElem?_eq_getElem h];simp
structure DB (n:Nat) (q:List Nat):Prop where
  lt:q.Pairwise (·<·)
  el:∀ f∈q,f<2 ^ n∧smallN f=false
  sm:(q.map pop).sum≤n
theorem two_sum:∀ {q:List Nat},(∀ f∈q,f<1024∧smallN f=false)→2 * q.length≤(q.map pop).sum
  | [],_=>by simp
  | f :: q,h=>by
    have h1:=two_sum (q:=q) fun g hg=>h g (List.mem_cons_of_mem _ hg)
    obtain ⟨h2,h3⟩:=h f (by simp)
    rw [small_bits f h2] at h3
    have:¬ (bitsN f).length≤1:=by simpa using h3
    rw [List.map_cons,List.sum_cons,List.length_cons]
    unfold pop at h1 ⊢;omega
theorem DB.len {n:Nat} {q:List Nat} (h:DB n q) (hn:n≤10):2 * q.length≤n:=by
  have hN:2 ^ n≤1024:=Nat.pow_le_pow_right (n:=2) (by omega) (show n≤10 by omega)
  have:=two_sum (q:=q) fun f hf=>⟨Nat.lt_of_lt_of_le (h.el f hf).1 hN,(h.el f hf).2⟩
  have:=h.sm;omega
theorem DB.nil (n:Nat):DB n []:=⟨by simp,by simp,by simp⟩
theorem parF_lt {nr or:List Int} {o:Int} {n:Nat} {D:List Nat} (hr:∀ s∈nr,s.toNat<n) (hnl:nr.length=n) (hD:∀ f∈D,f<2 ^ n):∀ g∈parF nr or o D,g<2 ^ n:=by
  intro g hg
  obtain ⟨f,hf,hg⟩:=List.mem_flatMap.1 hg
  refine dvF_lt hr (fun s hs=>?_) g hg
  obtain ⟨k,hk,rfl⟩:=List.mem_map.1 (show s∈(bitsN f).map (fun (s:Nat)=>(s:Int)) from hs)
  have h2:=Nat.ge_two_pow_of_testBit (mem_bits.1 hk).2
  have h3:k<n:=(Nat.pow_lt_pow_iff_right (a:=2) (by omega)).1 (Nat.lt_of_le_of_lt h2 (hD f hf))
  rw [hnl];omega
theorem DB.next {n:Nat} {q:List Nat} (h:DB n q) (hn:n≤10) {nr or:List Int} {o:Int} (hr:∀ s∈nr,s.toNat<n) (hnl:nr.length=n):DB n (nrmF (parF nr or o q)):=by
  have hN:2 ^ n≤1024:=Nat.pow_le_pow_right (n:=2) (by omega) (show n≤10 by omega)
  have hlt:=parF_lt (or:=or) (o:=o) hr hnl fun f hf=>(h.el f hf).1
  have hm:=fun f=>nrmF_mem (f:=f) fun g hg=>Nat.lt_of_lt_of_le (hlt g hg) hN
  refine ⟨nrmF_lt _,fun f hf=>⟨hlt f ((hm f).1 hf).1,((hm f).1 hf).2⟩,?_⟩
  have h1:=sum_sub pop (q:=nrmF (parF nr or o q)) (ps:=parF nr or o q) ((nrmF_lt _).imp fun h=>Nat.ne_of_lt h) fun f hf=>((hm f).1 hf).1
  have h2:=parF_sum (nr:=nr) (or:=or) (o:=o) (D:=q)
  have h3:=h.sm
  omega
theorem DB_all {n:Int} (n1:1≤n) (n2:n≤10) (hn:n > 1):DB n.toNat [2 ^ n.toNat - 1]:=by
  have key:∀ k:Fin 11,2≤k.val→smallN (2 ^ k.val - 1)=false∧pop (2 ^ k.val - 1)=k.val:=by decide +kernel
  obtain ⟨k1,k2⟩:=key ⟨n.toNat,by omega⟩ (by show 2≤n.toNat;omega)
  have hp:=Nat.two_pow_pos n.toNat
  refine ⟨by simp,fun f hf=>?_,?_⟩
  · rw [List.mem_singleton.1 hf];exact ⟨by omega,k1⟩
  · have k2:pop (2 ^ n.toNat - 1)=n.toNat:=k2
    simp [k2]
end Go.Ab
namespace Go.Ab
def pairI (n:Int) (p:List Int):Nat:=(fidx (fun q=>decide (q=p)) (every n) 0).toNat
def wocW (n:Int) (words:List (List Int)) (set:List Int):List Int:=words.getD (pairI n (set.take 2)) []
def wocR (n:Int) (next words:List (List Int)):Nat→List Int→List Int→List Int
  | 0,_,out=>out
  | F+1,set,out=>if set.length≤1 then out else wocR n next words F (imgL next set (wocW n words set)) (out ++ wocW n words set)
structure WS1 (n:Int) (set:List Int):Prop where
  si:SI set
  rg:∀ x∈set,0≤x∧x<n
end Go.Ab
namespace Go.Ab
open Go.Proofs
noncomputable def wocF (n:Int) (next words:List (List Int)):List Int:=wocR n next words n.toNat (allS n) []
structure WocI (n:Int) (next words:List (List Int)) (set out:List Int):Prop where
  ws:WS1 n set
  ln:out.length+400 * (set.length - 1)≤4000
  fu:∃ F,set.length≤F∧wocR n next words F set out=wocF n next words
end Go.Ab
namespace Go.Ab
open Go.Proofs
theorem fb_L {l:List (Nat×AVal)} {h:List (Nat×AObj)} {r i q v ver k':Nat} {nn':Bool} {cs cs':List AVal} (hr:L .gone h r=.box v cs) :
    St.fb ⟨L .any l,L .gone h⟩ r i q ver k' nn' cs'=⟨L .any l,L .gone ((r,.box v (cs.set i (.ro (frNm nn' cs'.length ver) k' cs'))) :: (q,.gone) :: h)⟩:=by
  have h2:∀ x,(if x=r then (match L .gone h r with | .box v cs=>AObj.box v (cs.set i (.ro (frNm nn' cs'.length ver) k' cs')) | o=>o) else if x=q then AObj.gone else L .gone h x)=L .gone ((r,.box v (cs.set i (.ro (frNm nn' cs'.length ver) k' cs'))) :: (q,.gone) :: h) x:=fun x=>by
    rw [hr]
    by_cases e:x=r
    · simp [L,e]
    · by_cases e2:x=q <;> simp [L,e,e2,Ne.symm e,eq_comm]
  exact congrArg (St.mk _) (funext h2)
theorem gwp_fb {gs:List GStep} {K:St→Prop} {l:List (Nat×AVal)} {h:List (Nat×AObj)} {r i q v ver k':Nat} {nn':Bool} {cs cs':List AVal} (hr:L .gone h r=.box v cs)
    (hi:cs[i]?=some (.own q ver)) (hqr:q≠r) (hq:L .gone h q=.row ver k' nn' cs') (hk:gwp gs K ⟨L .any l,L .gone ((r,.box v (cs.set i (.ro (frNm nn' cs'.length ver) k' cs'))) :: (q,.gone) :: h)⟩) :
    gwp (.fb r i q :: gs) K ⟨L .any l,L .gone h⟩:=⟨v,cs,ver,k',nn',cs',hr,hi,hqr,hq,by rw [fb_L hr];exact hk⟩
theorem sv_one {hp:Nat→AObj} {r:Nat} {s:Nat→Nat}:sv hp [r] s 0=((hp r).ver).getD 0:=by simp [sv]
def dkS (q:List Nat):ByteArray:=keyS (keyB q)
theorem keyS_of {b:ByteArray} {xs:List Int} (h:b.data.toList.map (fun c=>(c.toNat:Int))=xs):b=keyS xs:=by
  subst h
  obtain ⟨a⟩:=b
  unfold keyS
  congr 1
  apply Array.ext'
  simp only [List.map_map]
  symm
  have:∀ l:List UInt8,l.map ((fun (n:Int)=>UInt8.ofNat n.toNat) ∘ IntKind.u8.wrap ∘ fun (c:UInt8)=>(c.toNat:Int))=l:=by
    intro l
    induction l with
    | nil=>rfl
    | cons c l ih =>
      rw [List.map_cons,ih]
      congr 1
      simp only [Function.comp]
      have h1:=c.toNat_lt
      have h2:IntKind.u8.wrap (c.toNat:Int)=c.toNat:=by rw [IntKind.wrap_u8];omega
      rw [h2];simp
  exact this _
theorem keyB_inj:∀ {a b:List Nat},(∀ f∈a,f<1024)→(∀ f∈b,f<1024)→keyB a=keyB b→a=b
  | [],[],_,_,_=>rfl
  | [],g :: b,_,_,h=>by simp [keyB] at h
  | f :: a,[],_,_,h=>by simp [keyB] at h
  | f :: a,g :: b,ha,hb,h=>by
    unfold keyB at h
    simp only [List.flatMap_cons,List.cons_append,List.nil_append,List.cons.injEq] at h
    obtain ⟨h1,h2,h3⟩:=h
    have hf:=ha f (by simp)
    have hg:=hb g (by simp)
    have e:(2:Int) ^ min 8 64=256:=by decide
    rw [e,IntKind.wrap_u8,IntKind.wrap_u8,Int.fdiv_eq_ediv_of_nonneg _ (by omega),Int.fdiv_eq_ediv_of_nonneg _ (by omega)] at h1
    rw [IntKind.wrap_u8,IntKind.wrap_u8] at h2
    have:f=g:=by omega
    rw [this,keyB_inj (a:=a) (b:=b) (fun f h=>ha f (by simp [h])) (fun f h=>hb f (by simp [h])) h3]
theorem keyS_bytes {xs:List Int} (hx:∀ x∈xs,0≤x∧x<256):(keyS xs).data.toList.map (fun c=>(c.toNat:Int))=xs:=by
  simp only [keyS,List.map_map]
  induction xs with
  | nil=>rfl
  | cons x xs ih =>
    have h0:=hx x (by simp)
    have h1:=ih fun y hy=>hx y (by simp [hy])
    rw [List.map_cons,h1]
    congr 1
    simp only [Function.comp]
    have h2:IntKind.u8.wrap x=x:=by rw [IntKind.wrap_u8];omega
    rw [h2,UInt8.toNat_ofNat'];omega
theorem dkS_inj {a b:List Nat} (ha:∀ f∈a,f<1024) (hb:∀ f∈b,f<1024) (h:dkS a=dkS b):a=b:=by
  refine keyB_inj ha hb ?_
  rw [← keyS_bytes (keyB_in (fs:=a)),← keyS_bytes (keyB_in (fs:=b))]
  show (dkS a).data.toList.map _=(dkS b).data.toList.map _
  rw [h]
abbrev QS:=List (List Nat×List Int)
abbrev keysQ (L:QS):List Value:=L.map fun p=>Value.string (dkS p.1)
abbrev trueQ (L:QS):List AVal:=L.map fun _=>bv true
structure QI (n m:Nat) (L:QS):Prop where
  rg:∀ p∈L,DB n p.1
  wd:∀ p∈L,(∀ y∈p.2,0≤y∧y<m)∧p.2.length<L.length
  nd:(L.map (·.1)).Nodup
  ne:∀ i,0<i→i<L.length→(L.getD i ([],[])).2≠[]
  z:∃ q t,L=(q,[]) :: t
theorem QI.lt {n m:Nat} {L:QS} (h:QI n m L) (hn:n≤10):∀ p∈L,∀ f∈p.1,f<1024:=fun p hp f hf =>
  Nat.lt_of_lt_of_le ((h.rg p hp).el f hf).1 (Nat.pow_le_pow_right (n:=2) (by omega) (show n≤10 by omega))
theorem fkQ_not {q:List Nat} (hq:∀ f∈q,f<1024):∀ {L:QS} (i:Nat),(∀ p∈L,∀ f∈p.1,f<1024)→hasG L q=false→findKeyAt (.string (dkS q)) (keysQ L) i=some none
  | [],_,_,_=>rfl
  | p :: L,i,hl,h=>by
    simp only [hasG,List.any_cons,Bool.or_eq_false_iff,decide_eq_false_iff_not] at h
    have h1:(dkS q == dkS p.1)=false:=by
      cases hb:(dkS q == dkS p.1) with
      | false=>rfl
      | true=>exact absurd (dkS_inj hq (hl p (by simp)) (ba_eq hb)).symm h.1
    have h2:=fkQ_not hq (L:=L) (i+1) (fun p hp=>hl p (by simp [hp])) h.2
    simp only [List.map_cons,findKeyAt,sameKey,h1]
    exact h2
theorem fkQ_mem {q:List Nat} (hq:∀ f∈q,f<1024):∀ {L:QS} (i:Nat),(∀ p∈L,∀ f∈p.1,f<1024)→hasG L q=true→∃ j,findKeyAt (.string (dkS q)) (keysQ L) i=some (some (i+j))∧j<L.length
  | [],_,_,h=>by cases h
  | p :: L,i,hl,h=>by
    by_cases e:p.1=q
    · refine ⟨0,?_,by simp⟩
      have h1:(dkS q == dkS p.1)=true:=by rw [e];exact ba_self _
      simp only [List.map_cons,findKeyAt,sameKey,h1,Nat.add_zero]
    · simp only [hasG,List.any_cons,e,decide_false,Bool.false_or] at h
      have h1:(dkS q == dkS p.1)=false:=by
        cases hb:(dkS q == dkS p.1) with
        | false=>rfl
        | true=>exact absurd (dkS_inj hq (hl p (by simp)) (ba_eq hb)).symm e
      obtain ⟨j,h2,h3⟩:=fkQ_mem hq (L:=L) (i+1) (fun p hp=>hl p (by simp [hp])) h
      refine ⟨j+1,?_,by simp;omega⟩
      simp only [List.map_cons,findKeyAt,sameKey,h1]
      rw [h2];congr 2;omega
def wA (w:List Int):AVal:=if w=[] then .val (.slice none 0 0) else .ro (some none) 1 (ints w)
def dcl (L:QS):List AVal:=L.flatMap fun p=>[.ro (some none) 1 (nfs p.1),wA p.2]
theorem dcl_len:∀ {L:QS},(dcl L).length=2 * L.length
  | []=>rfl
  | p :: L=>by
    have:=dcl_len (L:=L)
    unfold dcl at this ⊢
    rw [List.flatMap_cons,List.length_append,this,List.length_cons];simp;omega
theorem wA_cases (w:List Int):wA w=.val (.slice none 0 0)∨wA w=.ro (some none) 1 (ints w):=by
  unfold wA;split
  · exact .inl rfl
  · exact .inr rfl
theorem dcl_mem {L:QS} {A:AVal} (h:A∈dcl L):(∃ q,A=.ro (some none) 1 (nfs q))∨(∃ w,A=.ro (some none) 1 (ints w))∨A=.val (.slice none 0 0):=by
  obtain ⟨p,_,h⟩:=List.mem_flatMap.1 h
  rcases List.mem_cons.1 h with rfl | h
  · exact .inl ⟨_,rfl⟩
  · rw [List.mem_singleton.1 h]
    rcases wA_cases p.2 with e | e
    · exact .inr (.inr e)
    · exact .inr (.inl ⟨_,e⟩)
theorem dnL_dcl {L:QS}:dnL (dcl L)=dcl L:=by
  rw [dnL_eq]
  have h:(dcl L).map AVal.dn=(dcl L).map id:=List.map_congr_left fun A hA=>by
    rcases dcl_mem hA with ⟨q,rfl⟩ | ⟨w,rfl⟩ | rfl
    · simp [AVal.dn,dnL_eq,dnNm]
    · simp [AVal.dn,dnL_eq,dnNm]
    · rfl
  rw [h,List.map_id]
theorem one_dcl {hp:Nat→AObj} {L:QS}:(∀ A∈dcl L,One hp A)=True:=by
  refine eq_true fun A hA=>?_
  rcases dcl_mem hA with ⟨q,rfl⟩ | ⟨w,rfl⟩ | rfl
  · trivial
  · trivial
  · rfl
theorem frz_dcl {hp:Nat→AObj} {L:QS}:(dcl L).map (frz hp)=dcl L:=by
  have h:(dcl L).map (frz hp)=(dcl L).map id:=List.map_congr_left fun A hA=>by
    rcases dcl_mem hA with ⟨q,rfl⟩ | ⟨w,rfl⟩ | rfl <;> rfl
  rw [h,List.map_id]
theorem owned_dcl {L:QS}:owned (dcl L)=[]:=by
  refine List.eq_nil_iff_forall_not_mem.2 fun r hr=>?_
  obtain ⟨v,hv⟩:=owned_mem.1 hr
  rcases dcl_mem hv with ⟨q,h⟩ | ⟨w,h⟩ | h <;> cases h
theorem dcl_snoc {L:QS} {q:List Nat} {w:List Int} (hw:w≠[]):dcl L ++ [.ro (some none) 1 (nfs q),.ro (some none) 1 (ints w)]=dcl (L ++ [(q,w)]):=by
  simp [dcl,wA,hw]
theorem hasG_nil {L:QS} (h:∀ p∈L,p.1≠[]):hasG L []=false:=by
  cases hh:hasG L [] with
  | false=>rfl
  | true =>
    obtain ⟨p,hp,e⟩:=hasG_iff.1 hh
    exact absurd e (h p hp)
theorem trueQ_getD {L:QS} {j:Nat} (h:j<L.length):(trueQ L).getD j .any=bv true:=by
  rw [List.getD_eq_getElem?_getD,List.getElem?_map,List.getElem?_eq_getElem h];rfl
theorem dcl_get:∀ {L:QS} {i:Nat},i<L.length→(dcl L).getD (i * 2) .any=.ro (some none) 1 (nfs (L.getD i ([],[])).1)∧(dcl L).getD (i * 2+1) .any=wA (L.getD i ([],[])).2
  | [],_,h=>by simp at h
  | p :: L,0,_=>⟨rfl,rfl⟩
  | p :: L,i+1,h=>by
    have ih:=dcl_get (L:=L) (i:=i) (by simpa using h)
    have e:∀ j,(dcl (p :: L)).getD (j+2) .any=(dcl L).getD j .any:=fun j=>rfl
    rw [show (i+1) * 2=i * 2+2 by omega,show i * 2+2+1=i * 2+1+2 by omega,e,e]
    exact ih
theorem dnL_snocD {L:QS} {q:List Nat} {w:List Int} {a b:Nat} (hw:w≠[]) :
    dnL (dcl L ++ [.ro (some (some (a+1))) 1 (nfs q),.ro (some (some (b+1))) 1 (ints w)])=dcl (L ++ [(q,w)]):=by
  rw [← dcl_snoc hw,dnL_eq,List.map_append,← dnL_eq,dnL_dcl]
  congr 1
  simp [AVal.dn,dnL_eq,dnNm]
theorem dnL_trueQ {L:QS}:dnL (L.map fun _=>bv true)=L.map fun _=>bv true:=by
  rw [dnL_eq,List.map_map];rfl
attribute [go_sem] dnL_trueQ dnL_dcl one_dcl frz_dcl owned_dcl dcl_len
abbrev visQ (next out:List (List Int)) (o:Int) (tl:Bool) (D:List Nat) (w:List Int) (x:Nat) (L:QS):QS:=visG (dbtD next out o tl) D w x L
theorem visQ_none {next out:List (List Int)} {o:Int} {tl:Bool} {D:List Nat} {w:List Int} {x:Nat} {L:QS} (h:dbtD next out o tl D x=none):visQ next out o tl D w (x+1) L=visQ next out o tl D w x L:=by
  simp only [visQ,visG,h]
theorem visQ_some {next out:List (List Int)} {o:Int} {tl:Bool} {D q:List Nat} {w:List Int} {x:Nat} {L:QS} (h:dbtD next out o tl D x=some q) :
    visQ next out o tl D w (x+1) L=if hasG (visQ next out o tl D w x L) q=true then visQ next out o tl D w x L else visQ next out o tl D w x L ++ [(q,w ++ [(x:Int)])]:=by
  simp only [visQ,visG,h]
theorem dbt_DB {n o:Int} {next out:List (List Int)} (M:Mach n o next out) {tl:Bool} {q q':List Nat} {x:Nat} (h:DB n.toNat q) (hx:x<next.length) (e:dbtD next out o tl q x=some q'):DB n.toNat q':=by
  unfold dbtD at e
  split at e
  · cases e
  · simp only [Option.some.injEq] at e
    subst e
    have hr:=M.aut.row _ (yz17 hx [])
    have n1:=M.aut.n1
    have n2:=M.aut.n2
    exact h.next (by omega) (fun s hs=>by have:=hr.2 s hs;omega) (by omega)
theorem QI.snoc {n m:Nat} {L:QS} (h:QI n m L) {q:List Nat} {w:List Int} {x:Nat} (hq:DB n q) (hx:x<m) (hw:(∀ y∈w,0≤y∧y<m)∧w.length<L.length) (hn:hasG L q=false):QI n m (L ++ [(q,w ++ [(x:Int)])]) where
  rg:=fun p hp=>by
    rcases List.mem_append.1 hp with hp | hp
    · exact h.rg p hp
    · rw [List.mem_singleton.1 hp];exact hq
  wd:=fun p hp=>by
    rw [List.length_append,List.length_singleton]
    rcases List.mem_append.1 hp with hp | hp
    · have:=h.wd p hp;exact ⟨this.1,by omega⟩
    · rw [List.mem_singleton.1 hp]
      refine ⟨fun y hy=>?_,by rw [List.length_append,List.length_singleton];omega⟩
      rcases List.mem_append.1 hy with hy | hy
      · exact hw.1 y hy
      · rw [List.mem_singleton.1 hy];omega
  nd:=by
    rw [List.map_append,List.nodup_append]
    refine ⟨h.nd,by simp,fun a ha b hb e=>?_⟩
    have hb:b=q:=by simpa using hb
    obtain ⟨p,hp,rfl⟩:=List.mem_map.1 ha
    have:hasG L q=true:=hasG_iff.2 ⟨p,hp,by rw [e,hb]⟩
    rw [hn] at this;cases this
  ne:=fun i h0 hi=>by
    rw [List.length_append,List.length_singleton] at hi
    by_cases e:i<L.length
    · rw [appG_getD e];exact h.ne i h0 e
    · obtain rfl:i=L.length:=by omega
      rw [lastG_getD];simp
  z:=by
    obtain ⟨q0,t,e⟩:=h.z
    exact ⟨q0,t ++ [(q,w ++ [(x:Int)])],by rw [e];rfl⟩
theorem QI0 {n m:Nat} {q:List Nat} (h:DB n q):QI n m [(q,[])] where
  rg:=fun p hp=>by rw [List.mem_singleton.1 hp];exact h
  wd:=fun p hp=>by rw [List.mem_singleton.1 hp];simp
  nd:=by simp
  ne:=fun i h0 hi=>by simp at hi;omega
  z:=⟨q,[],rfl⟩
theorem visQ_ok {n o:Int} {next out:List (List Int)} (M:Mach n o next out) {tl:Bool} {L:QS} (h:QI n.toNat next.length L) {i:Nat} (hi:i<L.length) :
    ∀ x,x≤next.length→QI n.toNat next.length (visQ next out o tl (L.getD i ([],[])).1 (L.getD i ([],[])).2 x L)∧∃ t,visQ next out o tl (L.getD i ([],[])).1 (L.getD i ([],[])).2 x L=L ++ t
  | 0,_=>⟨h,[],by simp [visQ,visG]⟩
  | x+1,hx=>by
    obtain ⟨h1,t,ht⟩:=visQ_ok M h hi x (by omega)
    have hm:=yz17 hi ([],([]:List Int))
    cases hd:dbtD next out o tl (L.getD i ([],[])).1 x with
    | none=>rw [visQ_none hd];exact ⟨h1,t,ht⟩
    | some q =>
      rw [visQ_some hd]
      split
      · exact ⟨h1,t,ht⟩
      · rename_i hh
        have hw:=h.wd _ hm
        refine ⟨h1.snoc (dbt_DB M (h.rg _ hm) (by omega) hd) (by omega) ⟨hw.1,?_⟩ (by simpa using hh),t ++ [(q,(L.getD i ([],[])).2 ++ [(x:Int)])],?_⟩
        · rw [ht,List.length_append];omega
        · rw [ht,List.append_assoc]
theorem visG_ext {σ:Type} [DecidableEq σ] {δ:σ→Nat→Option σ} {p:σ} {w:List Int} {L:List (σ×List Int)} {x:Nat}:∀ (k:Nat),∃ t,visG δ p w (x+k) L=visG δ p w x L ++ t
  | 0=>⟨[],by simp⟩
  | k+1=>by
    obtain ⟨t,h⟩:=visG_ext (δ:=δ) (p:=p) (w:=w) (L:=L) (x:=x) k
    rw [← Nat.add_assoc]
    simp only [visG]
    cases δ p (x+k) with
    | none=>exact ⟨t,h⟩
    | some q =>
      simp only
      split
      · exact ⟨t,h⟩
      · exact ⟨t ++ [(q,w ++ [((x+k:Nat):Int)])],by rw [h,List.append_assoc]⟩
def qT (T:QS):Option (List Int):=((T.take 2001).find? fun p=>p.1.isEmpty).map (·.2)
def qC (T:QS):Int:=if (qT T).isSome=true then 0 else if T.length > 2000 then 3 else 6
theorem qT_some {L t T:QS} {w:List Int} (hT:T=L ++ ([],w) :: t) (hl:L.length≤2000) (hn:∀ p∈L,p.1≠[]):qT T=some w:=by
  subst hT
  unfold qT
  rw [List.take_append,List.take_of_length_le (by omega),List.find?_append]
  have h1:L.find? (fun p=>p.1.isEmpty)=none:=List.find?_eq_none.2 fun p hp=>by simpa using hn p hp
  obtain ⟨k,hk⟩:∃ k,2001 - L.length=k+1:=⟨2000 - L.length,by omega⟩
  rw [h1,hk,List.take_succ_cons]
  rfl
theorem qT_lim {L t T:QS} (hT:T=L ++ t) (hl:L.length=2001) (hn:∀ p∈L,p.1≠[]):qT T=none∧qC T=3:=by
  subst hT
  have h1:qT (L ++ t)=none:=by
    unfold qT
    rw [List.take_append,List.take_of_length_le (by omega),hl,Nat.sub_self,List.take_zero,List.append_nil]
    rw [List.find?_eq_none.2 fun p hp=>by simpa using hn p hp];rfl
  refine ⟨h1,?_⟩
  unfold qC
  rw [h1,if_neg (by simp),if_pos (by rw [List.length_append];omega)]
theorem qT_end {T:QS} (hl:T.length≤2000) (hn:∀ p∈T,p.1≠[]):qT T=none∧qC T=6:=by
  have h1:qT T=none:=by
    unfold qT
    rw [List.take_of_length_le (by omega),List.find?_eq_none.2 fun p hp=>by simpa using hn p hp];rfl
  refine ⟨h1,?_⟩
  unfold qC
  rw [h1,if_neg (by simp),if_neg (by omega)]
abbrev dbtT (next out:List (List Int)) (o:Int) (tl:Bool) (n:Int) (F:Nat):QS:=runG (dbtD next out o tl) next.length ([],[]) F 0 [([2 ^ n.toNat - 1],[])]
def Enough (n F:Nat):Prop:=∀ L:QS,(L.map (·.1)).Nodup→(∀ p∈L,DB n p.1)→L.length<F
end Go.Ab
namespace Go.Ab
open Go.Proofs
end Go.Ab
namespace Go.Ab
open Go.Proofs
end Go.Ab
namespace Go.Ab
open Go.Proofs
end Go.Ab
namespace Go.Ab
open Go.Proofs
end Go.Ab
namespace Go.Ab
open Go.Proofs
end Go.Ab
namespace Go.Ab
open Go.Proofs
structure TwI (n m:Int) (A B:List (Nat×List Int)) (top:Int) (low:Int):Prop where
  a:∀ p∈A,(p.2.length:Int)=m∧∀ x∈p.2,0≤x∧x<top
  b:∀ p∈B,(p.2.length:Int)=n∧∀ x∈p.2,0≤x∧x<low
end Go.Ab
namespace Go.Ab
open Go.Proofs
end Go.Ab
namespace Go.Ab
open Go.Proofs
end Go.Ab
namespace Go.Ab
end Go.Ab
namespace Go.Ab
open Go.Proofs
theorem i_andW {x y:Nat} (hx:x<4611686018427387904) (hy:y<4611686018427387904) :
    IntKind.i64.wrap ((@HAnd.hAnd (BitVec 64) (BitVec 64) (BitVec 64) (@instHAndOfAndOp (BitVec IntKind.i64.bits) (@BitVec.instAndOp IntKind.i64.bits)) (BitVec.ofInt 64 (x:Int)) (BitVec.ofInt 64 (y:Int))).toNat)=((x &&& y:Nat):Int):=by
  have h:(BitVec.ofInt 64 (x:Int) &&& BitVec.ofInt 64 (y:Int)).toNat=x &&& y:=by rw [BitVec.toNat_and,bv64 (by omega),bv64 (by omega)]
  show IntKind.i64.wrap ((BitVec.ofInt 64 (x:Int) &&& BitVec.ofInt 64 (y:Int)).toNat:Int)=_
  rw [h]
  have:=Nat.lt_of_le_of_lt (Nat.and_le_left (n:=x) (m:=y)) hx
  exact w64 (by omega)
theorem i_orW {x y:Nat} (hx:x<4611686018427387904) (hy:y<4611686018427387904) :
    IntKind.i64.wrap ((@HOr.hOr (BitVec 64) (BitVec 64) (BitVec 64) (@instHOrOfOrOp (BitVec IntKind.i64.bits) (@BitVec.instOrOp IntKind.i64.bits)) (BitVec.ofInt 64 (x:Int)) (BitVec.ofInt 64 (y:Int))).toNat)=((x ||| y:Nat):Int):=by
  have h:(BitVec.ofInt 64 (x:Int) ||| BitVec.ofInt 64 (y:Int)).toNat=x ||| y:=by rw [BitVec.toNat_or,bv64 (by omega),bv64 (by omega)]
  show IntKind.i64.wrap ((BitVec.ofInt 64 (x:Int) ||| BitVec.ofInt 64 (y:Int)).toNat:Int)=_
  rw [h]
  have:=Nat.or_lt_two_pow (n:=62) (x:=x) (y:=y) hx hy
  exact w64 (by omega)
theorem j_and1 {x:Nat} (hx:x<4611686018427387904) :
    IntKind.i64.wrap ((@HAnd.hAnd (BitVec 64) (BitVec 64) (BitVec 64) (@instHAndOfAndOp (BitVec IntKind.i64.bits) (@BitVec.instAndOp IntKind.i64.bits)) (BitVec.ofInt 64 (x:Int)) (BitVec.ofInt 64 1)).toNat)=((x &&& 1:Nat):Int):=i_andW (y:=1) hx (by omega)
theorem j_shl {a b:Nat} (h:b<64) (hl:a * 2 ^ b<4611686018427387904):IntKind.i64.wrap ((a:Int) * 2 ^ min b 64)=((a * 2 ^ b:Nat):Int):=by
  have h1:min b 64=b:=by omega
  have h2:(2:Int) ^ b=((2 ^ b:Nat):Int):=by simp
  rw [h1,h2,← Int.natCast_mul]
  exact w64 (by omega)
theorem i_shl1 {b:Nat} (h:b<62):IntKind.i64.wrap (1 * 2 ^ min b 64)=((2 ^ b:Nat):Int):=by
  have:=j_shl (a:=1) (b:=b) (by omega) (by rw [Nat.one_mul];exact Nat.pow_lt_pow_right (a:=2) (n:=62) (by omega) h)
  rw [Nat.one_mul] at this;exact this
theorem bit_eq {f s:Nat}:((((f >>> s &&& 1:Nat):Int)) == 1)=f.testBit s:=by
  rw [Nat.testBit_eq_decide_div_mod_eq,Nat.and_one_is_mod,Nat.shiftRight_eq_div_pow,Bool.eq_iff_iff,beq_iff_eq,decide_eq_true_iff]
  generalize f / 2 ^ s % 2=q
  omega
theorem bit_eq0 {f s:Nat}:((((f >>> s &&& 1:Nat):Int)) == 0)=!f.testBit s:=by
  rw [← bit_eq]
  have h:f >>> s &&& 1=0∨f >>> s &&& 1=1:=by rw [Nat.and_one_is_mod];omega
  rcases h with h | h <;> rw [h] <;> rfl
theorem shr_lt {f s k:Nat} (h:f<k):f >>> s<k:=by rw [Nat.shiftRight_eq_div_pow];exact Nat.lt_of_le_of_lt (Nat.div_le_self _ _) h
end Go.Ab
namespace Go.Ab
open Go.Proofs
abbrev nis (fs:List Nat):List AVal:=intsK .i64 (fs.map fun (f:Nat)=>(f:Int))
theorem nis_getD {fs:List Nat} {i:Nat} (h:i<fs.length):(nis fs).getD i .any=iv ((fs.getD i 0:Nat):Int):=by
  rw [yze (by rw [List.length_map];exact h)]
  congr 3
  rw [List.getD_eq_getElem?_getD,List.getElem?_map,List.getD_eq_getElem?_getD,List.getElem?_eq_getElem h];rfl
theorem k_l06Split (n o:Int) (next out:List (List Int)) (M:Mach n o next out) (f x:Nat) (hf:f<2 ^ n.toNat) (hx:x<next.length) :
    Fn Try.prog nz45 [machP n o next out,iv f,iv x] fun rows res=>∃ v,rows=[.row v 1 true (nis (dvF (next.getD x []) (out.getD x []) o (bitsTo f 10)).1)]∧res=.tup [.own 6000 v,bv (dvF (next.getD x []) (out.getD x []) o (bitsTo f 10)).2]:=by
  refine con_of mixed czjd rfl (by simp) ?_
  have hxo:x<out.length:=by rw [M.len];exact hx
  have ra:=M.aut.row _ (yz17 hx [])
  have ro:=M.row _ (yz17 hxo [])
  have hgn:=rwn_getD hx
  have hgo:=rwn_getD hxo
  have n1:=M.aut.n1
  have n2:=M.aut.n2
  have o1:=M.o1
  have o2:=M.o2
  have hN:2 ^ n.toNat≤1024:=Nat.pow_le_pow_right (n:=2) (by omega) (show n.toNat≤10 by omega)
  have hall:=bitsTo_add hf (10 - n.toNat)
  rw [show n.toNat+(10 - n.toNat)=10 by omega] at hall
  rw [hall]
  generalize next.getD x []=nr at ra hgn ⊢
  generalize out.getD x []=orr at ro hgo ⊢
  generalize hQ:finQ _=Q
  simp only [Az7z,Bzfv,Bzfu,Bzft,go_sem,yz0,xx9,xx8,xx6,xx7,xx5,xx0,xx1,xx2,reduceIte,xx3,xx4,reduceCtorEq]
  intro vs
  refine ⟨⟨by omega,Int.le_refl _,by omega,by omega⟩,?_⟩
  have hrep:intsK .i64 (List.replicate o.toNat 0)=nis (dvF nr orr o (bitsTo f 0)).1:=by
    unfold dvF
    simp [bitsTo]
  simp only [Bzfr,go_sem,yz0,xx9,xx8,xx6,xx7,xx5,xx0,xx1,xx2,reduceIte,xx3,xx4,reduceCtorEq]
  refine wpD_lo (fun t=>n.toNat - t) (fun t=>(t:Int)≤n∧(dvF nr orr o (bitsTo f t)).1.length=o.toNat∧∀ g∈(dvF nr orr o (bitsTo f t)).1,g<1024)
    (fun (t:Nat)=>⟨L .any [(0,machP n o next out),(1,iv f),(2,iv x),(8,.own 17 (vs 4 0)),(9,bv (dvF nr orr o (bitsTo f t)).2),(10,iv t)],L .gone [(17,.row (vs 4 0) 1 true (nis (dvF nr orr o (bitsTo f t)).1))]⟩)
    0 ⟨by simp;omega,by simp [dvF,bitsTo],by simp [dvF,bitsTo]⟩ (by simp only [Bzx,hrep,go_sem,yz0,xx9,xx8,xx6,xx7,xx5,xx0,xx1,xx2,reduceIte,xx3,xx4,reduceCtorEq];try rfl) ?_
  rintro t ⟨ht,hl,hb⟩
  by_cases htl:(t:Int)<n
  · have hsh:=u_shr (f:=f) (s:=t) (by omega)
    have hand:=j_and1 (x:=f >>> t) (by have:=shr_lt (s:=t) hf;omega)
    have hcv:IntKind.u64.wrap ((t:Nat):Int)=t:=u64w (by omega)
    have ht0:¬ ((t:Nat):Int)<0:=by omega
    have w1:IntKind.i64.wrap ((t:Int)+1)=((t+1:Nat):Int):=by rw [w64 (by omega)];simp
    have hdn2:dnL (nis (dvF nr orr o (bitsTo f t)).1)=nis (dvF nr orr o (bitsTo f t)).1:=dnL_ints
    cases hbt:f.testBit t with
    | false =>
      have hbit:((((f >>> t &&& 1:Nat):Int)) == 0)=true:=by rw [bit_eq0,hbt];rfl
      have hsu:bitsTo f (t+1)=bitsTo f t:=by rw [bitsTo_succ,hbt];rfl
      simp only [Bzx,Bz2p,Bz7y,Bz7w,Bz2r,decide_eq_true htl,hcv,ht0,Int.toNat_natCast,hsh,hand,hbit,w1,hdn2,go_sem,yz0,xx9,xx8,xx6,xx7,xx5,xx0,xx1,xx2,reduceIte,xx3,xx4,reduceCtorEq]
      exact ⟨t+1,by omega,⟨by omega,by rw [hsu];exact hl,by rw [hsu];exact hb⟩,by rw [hsu]⟩
    | true =>
      have hbit:((((f >>> t &&& 1:Nat):Int)) == 0)=false:=by rw [bit_eq0,hbt];rfl
      have hsn:dvF nr orr o (bitsTo f (t+1))=dvS nr orr (dvF nr orr o (bitsTo f t)) t:=by
        rw [bitsTo_succ,if_pos hbt];unfold dvF;rw [List.foldl_append];rfl
      generalize dvF nr orr o (bitsTo f t)=D at hl hb hsn hdn2 ⊢
      obtain ⟨D1,D2⟩:=D
      unfold dvS at hsn
      have hs1:t<nr.length:=by omega
      have hs2:t<orr.length:=by omega
      have hto:=ra.2 _ (yz17 hs1 0)
      have hbo:=ro.2 _ (yz17 hs2 0)
      have hg1:=yze (k:=.i64) hs1
      have hg2:=yze (k:=.i64) hs2
      rw [Int.toNat_natCast] at hsn
      obtain ⟨to,hto0⟩:∃ q:Nat,nr.getD t 0=q:=⟨(nr.getD t 0).toNat,by omega⟩
      obtain ⟨b,hb0⟩:∃ q:Nat,orr.getD t 0=q:=⟨(orr.getD t 0).toNat,by omega⟩
      rw [hto0] at hto hg1 hsn
      rw [hb0] at hbo hg2 hsn
      rw [Int.toNat_natCast,Int.toNat_natCast] at hsn
      have hcq:IntKind.u64.wrap (to:Int)=to:=u64w (by omega)
      have hq0:¬ ((to:Nat):Int)<0:=by omega
      have hsl:=i_shl1 (b:=to) (by omega)
      have hl:D1.length=o.toNat:=hl
      have hbl:b<D1.length:=by omega
      have hgl:D1.getD b 0<1024:=hb _ (yz17 hbl 0)
      have h2t:2 ^ to<1024:=by
        have:=Nat.pow_le_pow_right (n:=2) (by omega) (show to≤9 by omega)
        omega
      have hD1g:=nis_getD hbl
      have hand2:=i_andW (x:=D1.getD b 0) (y:=2 ^ to) (by omega) (by omega)
      have hor2:=i_orW (x:=D1.getD b 0) (y:=2 ^ to) (by omega) (by omega)
      have hz:(((D1.getD b 0 &&& 2 ^ to:Nat):Int) == 0)=Nat.beq (D1.getD b 0 &&& 2 ^ to) 0:=by
        rw [Bool.eq_iff_iff,beq_iff_eq,Nat.beq_eq];omega
      have hset:List.take b (nis D1) ++ [iv ((D1.getD b 0 ||| 2 ^ to:Nat):Int)] ++ List.drop (b+1) (nis D1)=nis (D1.set b (D1.getD b 0 ||| 2 ^ to)):=by
        rw [List.set_eq_take_append_cons_drop,if_pos hbl]
        simp [List.map_take,List.map_drop]
      have hdt:dnL (List.take b (nis D1))=List.take b (nis D1):=by rw [← List.map_take];exact dnL_ints
      have hdd:dnL (List.drop (b+1) (nis D1))=List.drop (b+1) (nis D1):=by rw [← List.map_drop];exact dnL_ints
      have hln:(D1.set b (D1.getD b 0 ||| 2 ^ to)).length=o.toNat:=by rw [List.length_set];exact hl
      have hbn:∀ g∈D1.set b (D1.getD b 0 ||| 2 ^ to),g<1024:=fun g hg=>by
        rcases List.mem_or_eq_of_mem_set hg with h | rfl
        · exact hb g h
        · exact Nat.or_lt_two_pow (n:=10) hgl h2t
      simp only [Bzx,Bz2p,Bz7y,Bz7w,Bzfq,Bzfp,Bz2q,decide_eq_true htl,hcv,ht0,Int.toNat_natCast,hsh,hand,hbit,hgn,hgo,hg1,hg2,hcq,hq0,hsl,w1,hdn2,go_sem,yz0,xx9,xx8,xx6,xx7,xx5,xx0,xx1,xx2,reduceIte,xx3,xx4,reduceCtorEq]
      refine ⟨⟨by omega,hx⟩,hx,⟨by omega,hs1⟩,hs1,?_⟩
      refine ⟨⟨by omega,hxo⟩,hxo,⟨by omega,hs2⟩,hs2,?_⟩
      cases D2 with
      | true =>
        simp only [hD1g,hand2,hor2,hz,Bz2q,Bz7x,Bz2r,w1,List.length_map,hdt,hdd,go_sem,yz0,xx9,xx8,xx6,xx7,xx5,xx0,xx1,xx2,reduceIte,xx3,xx4,reduceCtorEq]
        exact ⟨⟨by omega,hbl⟩,hbl,⟨by omega,hbl⟩,hbl,⟨by omega,hbl⟩,by omega,t+1,by omega,⟨by omega,by rw [hsn];exact hln,by rw [hsn];exact hbn⟩,by rw [hsn,hset,Bool.true_and]⟩
      | false =>
        simp only [hD1g,hand2,hor2,hz,Bz2q,Bz7x,Bz2r,w1,List.length_map,hdt,hdd,go_sem,yz0,xx9,xx8,xx6,xx7,xx5,xx0,xx1,xx2,reduceIte,xx3,xx4,reduceCtorEq]
        exact ⟨⟨by omega,hbl⟩,hbl,⟨by omega,hbl⟩,by omega,t+1,by omega,⟨by omega,by rw [hsn];exact hln,by rw [hsn];exact hbn⟩,by rw [hsn,hset,Bool.false_and]⟩
  · obtain rfl:t=n.toNat:=by omega
    simp only [Bzx,Bz2p,Bzfs,decide_eq_false htl,Az7z,← hQ,go_sem,yz0,xx9,xx8,xx6,xx7,xx5,xx0,xx1,xx2,reduceIte,xx3,xx4,reduceCtorEq]
    refine ⟨[17],by simp,by simp,by simp,?_⟩
    simp only [range1,List.length_singleton,Nat.not_lt_zero,range1,yz11,yz15,yz1j,yz1l,yz14,yz1k,yz1i,yz1g,yz16,yzt,yzk,yz6,yzs,yzr,yzo,yzm,yzq,yz7,yza,yzd,yz9,yzf,yzi,yz2,yz5,yz8,yzc,yzh,yzj,List.range_zero,yz3,yz4,yzb,yzp,yzl,yzn,AVal.fresh,freshL,yz1,yzg,AObj.fresh,id,Option.isSome_some,or_true,true_or,go_sem,yz0,xx9,xx8,xx6,xx7,xx5,xx0,xx1,xx2,reduceIte,xx3,xx4,reduceCtorEq]
    exact ⟨_,rfl,rfl⟩
theorem i_low {p:Nat} (hp:p<1024) :
    IntKind.i64.wrap ((@HAnd.hAnd (BitVec 64) (BitVec 64) (BitVec 64) (@instHAndOfAndOp (BitVec IntKind.i64.bits) (@BitVec.instAndOp IntKind.i64.bits)) (BitVec.ofInt 64 (p:Int)) (BitVec.ofInt 64 (IntKind.i64.wrap ((p:Int) - 1)))).toNat)=((p &&& (p - 1):Nat):Int):=by
  by_cases h0:p=0
  · subst h0;rfl
  · have e:IntKind.i64.wrap ((p:Int) - 1)=((p - 1:Nat):Int):=by rw [w64 (by omega)];omega
    rw [e];exact i_andW (by omega) (by omega)
theorem i_low0 {p:Nat}:((((p &&& (p - 1):Nat):Int)) != 0)=!smallN p:=by
  unfold smallN
  generalize p &&& (p - 1)=z
  cases z with
  | zero=>rfl
  | succ z=>simp [bne,Nat.beq];omega
theorem putF_snoc {acc:List Int} {ps:List Nat} {k:Nat} (h:k<ps.length):putF acc (ps.take (k+1))=if smallN (ps.getD k 0)=true then putF acc (ps.take k) else put (putF acc (ps.take k)) (ps.getD k 0:Nat):=by
  unfold putF
  rw [List.take_succ_eq_append_getElem h,List.foldl_append,List.getD_eq_getElem?_getD,List.getElem?_eq_getElem h];rfl
theorem putF_app {acc:List Int} {ps qs:List Nat}:putF acc (ps ++ qs)=putF (putF acc ps) qs:=by unfold putF;rw [List.foldl_append]
theorem clrF_false {nr or:List Int} {o:Int} {D:List Nat} {k:Nat} (h:clrF nr or o (D.take k)=false):clrF nr or o D=false:=by
  rw [← List.take_append_drop k D]
  unfold clrF at h ⊢
  rw [List.all_append,h];rfl
theorem k_l06Doubt (n o:Int) (next out:List (List Int)) (M:Mach n o next out) (tl:Bool) (D:List Nat) (x:Nat) (hD:DB n.toNat D) (hx:x<next.length) :
    Fn Try.prog nz3u [machP n o next out,.ro none 1 (nis D),iv x,bv tl] fun rows res=>∃ v xs,rows=[.row v 1 true (ints xs)] ∧
      match dbtD next out o tl D x with | none=>res=.tup [.own 6000 v,bv false] | some q=>xs=q.map (fun (f:Nat)=>(f:Int))∧res=.tup [.own 6000 v,bv true]:=by
  refine con_of mixed cziy rfl (by simp) ?_
  have n1:=M.aut.n1
  have n2:=M.aut.n2
  have o1:=M.o1
  have o2:=M.o2
  have hN:2 ^ n.toNat≤1024:=Nat.pow_le_pow_right (n:=2) (by omega) (show n.toNat≤10 by omega)
  have hlen:=hD.len (by omega)
  have ra:=M.aut.row _ (yz17 hx [])
  have hd0:dbtD next out o tl D x=if (tl && !(clrF (next.getD x []) (out.getD x []) o D))=true then none else some (nrmF (parF (next.getD x []) (out.getD x []) o D)):=rfl
  have hsp:=fun f=>k_l06Split n o next out M f x
  have hplt:=parF_lt (nr:=next.getD x []) (or:=out.getD x []) (o:=o) (n:=n.toNat) (D:=D) (fun s hs=>by have:=ra.2 s hs;omega) (by omega) fun f hf=>(hD.el f hf).1
  have hpl:=parF_len (nr:=next.getD x []) (or:=out.getD x []) (o:=o) (D:=D)
  generalize next.getD x []=nr at ra hd0 hsp hplt hpl
  generalize out.getD x []=orr at hd0 hsp hplt hpl
  generalize hQ:finQ _=Q
  simp only [Az2e,Bzds,Bzdr,Bzdp,go_sem,yz0,xx9,xx8,xx6,xx7,xx5,xx0,xx1,xx2,reduceIte,xx3,xx4,reduceCtorEq]
  intro vs
  refine wpD_lm (fun (_,i)=>D.length - i) (fun (_,i)=>i≤D.length∧(tl=true→clrF nr orr o (D.take i)=true))
    (fun ((v,i):Nat×Nat)=>⟨L .any [(0,machP n o next out),(1,.ro none 1 (nis D)),(2,iv x),(3,bv tl),(10,.own 15 v),(11,iv i)],L .gone [(15,.row v 1 true (ints (putF [] (parF nr orr o (D.take i)))))]⟩)
    (_,0) (by simp [clrF]) (by intro u;simp only [Bz2d,go_sem,yz0,xx9,xx8,xx6,xx7,xx5,xx0,xx1,xx2,reduceIte,xx3,xx4,reduceCtorEq];try rfl) ?_
  rintro ⟨v,i⟩ ⟨hi,hcl⟩
  have hi:i≤D.length:=hi
  by_cases hlt:(i:Int)<D.length
  · have hlt1:i<D.length:=by omega
    have wi:IntKind.i64.wrap ((i:Int)+1)=((i+1:Nat):Int):=by rw [w64 (by omega)];simp
    have hfi:=hD.el _ (yz17 hlt1 0)
    have hgi:=nis_getD hlt1
    have hps:=parF_snoc (nr:=nr) (or:=orr) (o:=o) hlt1
    have hcs:=clrF_snoc (nr:=nr) (or:=orr) (o:=o) hlt1
    have hpb:i * o.toNat≤5 * 3:=Nat.mul_le_mul (by omega) (by omega)
    have hpi:=parF_len (nr:=nr) (or:=orr) (o:=o) (D:=D.take i)
    rw [List.length_take,Nat.min_eq_left hi] at hpi
    have hol:=putF_len (ps:=parF nr orr o (D.take i)) (acc:=[])
    have hdl:=dvF_len (nr:=nr) (or:=orr) (o:=o) (S:=bitsTo (D.getD i 0) 10)
    have hpm:∀ g∈(dvF nr orr o (bitsTo (D.getD i 0) 10)).1,g<1024:=fun g hg=>by
      refine Nat.lt_of_lt_of_le (hplt g ?_) hN
      exact List.mem_flatMap.2 ⟨D.getD i 0,yz17 hlt1 0,hg⟩
    simp only [Bz2d,Bz77,Bzdo,decide_eq_true hlt,hgi,List.length_map,go_sem,yz0,xx9,xx8,xx6,xx7,xx5,xx0,xx1,xx2,reduceIte,xx3,xx4,reduceCtorEq]
    refine fun hM vs2=>⟨⟨by omega,hlt1⟩,hlt1,?_⟩
    refine call_fn (hsp _ hfi.1 hx) qCS (fun e=>by cases e) ?_
    rintro rows res ⟨v29,rfl,rfl⟩
    refine ⟨by simp,(fun k hk=>by obtain rfl:k=0:=(by simpa using hk);rfl),?_⟩
    generalize dvF nr orr o (bitsTo (D.getD i 0) 10)=dv at hps hcs hdl hpm ⊢
    by_cases hbad:(tl && !dv.2)=true
    · obtain ⟨ht,hv⟩:tl=true∧dv.2=false:=by revert hbad;cases tl <;> cases dv.2 <;> simp
      subst ht
      rw [hv,Bool.and_false] at hcs
      have hcf:=clrF_false hcs
      rw [hcf] at hd0
      simp only [Bool.not_false,Bool.and_self,if_true] at hd0
      simp only [hv,Bz7c,Bz78,Az2e,← hQ,Nat.not_lt_zero,range1,yz11,yz15,yz1j,yz1l,yz14,yz1k,yz1i,yz1g,yz16,yzt,yzk,yz6,yzs,yzr,yzo,yzm,yzq,yz7,yza,yzd,yz9,yzf,yzi,yz2,yz5,yz8,yzc,yzh,yzj,List.range_zero,yz3,yz4,yzb,yzp,yzl,yzn,AVal.fresh,freshL,yz1,yzg,AObj.fresh,id,Option.isSome_some,or_true,true_or,go_sem,yz0,xx9,xx8,xx6,xx7,xx5,xx0,xx1,xx2,reduceIte,xx3,xx4,reduceCtorEq]
      refine ⟨[15],by simp,by simp,by simp,?_⟩
      simp only [range1,List.length_singleton,Nat.not_lt_zero,range1,yz11,yz15,yz1j,yz1l,yz14,yz1k,yz1i,yz1g,yz16,yzt,yzk,yz6,yzs,yzr,yzo,yzm,yzq,yz7,yza,yzd,yz9,yzf,yzi,yz2,yz5,yz8,yzc,yzh,yzj,List.range_zero,yz3,yz4,yzb,yzp,yzl,yzn,AVal.fresh,freshL,yz1,yzg,AObj.fresh,id,Option.isSome_some,or_true,true_or,go_sem,yz0,xx9,xx8,xx6,xx7,xx5,xx0,xx1,xx2,reduceIte,xx3,xx4,reduceCtorEq]
      exact ⟨_,_,rfl,by rw [hd0]⟩
    · have hgo:tl=false∨tl=true∧dv.2=true:=by revert hbad;cases tl <;> cases dv.2 <;> simp
      have hcl2:tl=true→clrF nr orr o (D.take (i+1))=true:=fun e=>by
        rcases hgo with h | h
        · rw [h] at e;cases e
        · rw [hcs,hcl e,h.2];rfl
      have hv:tl=false∨(tl=true∧dv.2=true):=hgo
      rcases hgo with htl | ⟨htl,hv⟩ <;> (
        simp only [htl,hv,Bz7c,Bz78,Bzdm,Bzdl,Nat.not_lt_zero,range1,yz11,yz15,yz1j,yz1l,yz14,yz1k,yz1i,yz1g,yz16,yzt,yzk,yz6,yzs,yzr,yzo,yzm,yzq,yz7,yza,yzd,yz9,yzf,yzi,yz2,yz5,yz8,yzc,yzh,yzj,List.range_zero,yz3,yz4,yzb,yzp,yzl,yzn,AVal.fresh,freshL,yz1,yzg,AObj.fresh,id,Option.isSome_some,or_true,true_or,go_sem,yz0,xx9,xx8,xx6,xx7,xx5,xx0,xx1,xx2,reduceIte,xx3,xx4,reduceCtorEq]
        refine wpD_lm (fun (_,k)=>dv.1.length - k) (fun (_,k)=>k≤dv.1.length)
          (fun ((v,k):Nat×Nat)=>⟨L .any [(0,machP n o next out),(1,.ro none 1 (nis D)),(2,iv x),(3,bv tl),(10,.own 15 v),(11,iv i),(12,.own 29 (vs2 6 v29)),(14,iv k)],
            L .gone [(15,.row v 1 true (ints (putF (putF [] (parF nr orr o (D.take i))) (dv.1.take k)))),(29,.row (vs2 6 v29) 1 true (nis dv.1))]⟩)
          (_,0) (by simp) (by intro u;simp only [Bz2c,htl,go_sem,yz0,xx9,xx8,xx6,xx7,xx5,xx0,xx1,xx2,reduceIte,xx3,xx4,reduceCtorEq];try rfl) ?_
        rintro ⟨v,k⟩ hk
        have hk:k≤dv.1.length:=hk
        by_cases hkl:(k:Int)<dv.1.length
        · have hkl1:k<dv.1.length:=by omega
          have wk:IntKind.i64.wrap ((k:Int)+1)=((k+1:Nat):Int):=by rw [w64 (by omega)];simp
          have hgk:=nis_getD hkl1
          have hsn:=putF_snoc (acc:=putF [] (parF nr orr o (D.take i))) hkl1
          have hlow:=i_low (hpm _ (yz17 hkl1 0))
          have hlow0:=i_low0 (p:=dv.1.getD k 0)
          have hol2:=putF_len (ps:=dv.1.take k) (acc:=putF [] (parF nr orr o (D.take i)))
          rw [List.length_take] at hol2
          simp only [Bz2c,Bz79,Bzdk,decide_eq_true hkl,hgk,hlow,hlow0,List.length_map,go_sem,yz0,xx9,xx8,xx6,xx7,xx5,xx0,xx1,xx2,reduceIte,xx3,xx4,reduceCtorEq]
          refine fun hM2=>⟨⟨by omega,hkl1⟩,hkl1,⟨by omega,hkl1⟩,hkl1,?_⟩
          cases hs:smallN (dv.1.getD k 0) with
          | true =>
            rw [hs,if_pos rfl] at hsn
            simp only [Bz7a,Bz7b,Bool.not_true,wk,go_sem,yz0,xx9,xx8,xx6,xx7,xx5,xx0,xx1,xx2,reduceIte,xx3,xx4,reduceCtorEq]
            exact ⟨dv.1.length - (k+1),by omega,(v,k+1),rfl,by dsimp only;omega,by rw [hsn]⟩
          | false =>
            rw [hs,if_neg (by simp)] at hsn
            simp only [Bz7a,Bool.not_false,hgk,go_sem,yz0,xx9,xx8,xx6,xx7,xx5,xx0,xx1,xx2,reduceIte,xx3,xx4,reduceCtorEq]
            refine fun vs3=>⟨⟨by omega,hkl1⟩,hkl1,?_⟩
            refine call_rowI (k_l00Put (putF (putF [] (parF nr orr o (D.take i))) (dv.1.take k)) (dv.1.getD k 0:Nat) (by simp only [List.length_nil] at hol;omega)) qCS rfl ⟨_,rfl⟩ ?_
            rintro ys v' rfl
            simp only [Bz7b,wk,go_sem,yz0,xx9,xx8,xx6,xx7,xx5,xx0,xx1,xx2,reduceIte,xx3,xx4,reduceCtorEq]
            exact ⟨dv.1.length - (k+1),by omega,fun u=>⟨(u,k+1),rfl,by dsimp only;omega,by rw [hsn]⟩⟩
        · obtain rfl:k=dv.1.length:=by omega
          have hpe:putF (putF [] (parF nr orr o (D.take i))) dv.1=putF [] (parF nr orr o (D.take (i+1))):=by rw [hps,putF_app]
          simp only [Bz2c,Bz79,Bzdn,decide_eq_false hkl,List.take_length,List.length_map,hpe,wi,htl,go_sem,yz0,xx9,xx8,xx6,xx7,xx5,xx0,xx1,xx2,reduceIte,xx3,xx4,reduceCtorEq]
          intro hM2
          refine ⟨D.length - (i+1),by omega,(v,i+1),rfl,?_,rfl⟩
          first
            | exact ⟨by dsimp only;omega,hcl2 htl⟩
            | (dsimp only;omega))
  · obtain rfl:i=D.length:=by omega
    have hcl:tl=true→clrF nr orr o D=true:=fun e=>by have:=hcl e;rwa [List.take_length] at this
    have hd1:dbtD next out o tl D x=some (nrmF (parF nr orr o D)):=by
      rw [hd0,if_neg]
      cases tl with
      | false=>simp
      | true=>rw [hcl rfl];simp
    have hpn:=putF_nrm (ps:=parF nr orr o D) fun g hg=>Nat.lt_of_lt_of_le (hplt g hg) hN
    simp only [Bz2d,Bz77,Bzdq,decide_eq_false hlt,List.take_length,List.length_map,Az2e,← hQ,go_sem,yz0,xx9,xx8,xx6,xx7,xx5,xx0,xx1,xx2,reduceIte,xx3,xx4,reduceCtorEq]
    intro hM
    refine ⟨[15],by simp,by simp,by simp,?_⟩
    simp only [range1,List.length_singleton,Nat.not_lt_zero,range1,yz11,yz15,yz1j,yz1l,yz14,yz1k,yz1i,yz1g,yz16,yzt,yzk,yz6,yzs,yzr,yzo,yzm,yzq,yz7,yza,yzd,yz9,yzf,yzi,yz2,yz5,yz8,yzc,yzh,yzj,List.range_zero,yz3,yz4,yzb,yzp,yzl,yzn,AVal.fresh,freshL,yz1,yzg,AObj.fresh,id,Option.isSome_some,or_true,true_or,go_sem,yz0,xx9,xx8,xx6,xx7,xx5,xx0,xx1,xx2,reduceIte,xx3,xx4,reduceCtorEq]
    exact ⟨_,_,rfl,by rw [hd1];exact ⟨hpn,rfl⟩⟩
end Go.Ab
namespace Go.Ab
open Go.Proofs
theorem k_isNaNF (x:Int):Fun Try.prog nz1o [.val (.int .u64 x)] (bv false):=by
  refine fun_of mixed czle rfl ⟨rfl,trivial⟩ ?_
  have h:(x != x)=false:=by simp
  simp only [Bzhy,Azhz,h,go_sem,yz0,xx9,xx8,xx6,xx7,xx5,xx0,xx1,xx2,reduceIte,xx3,xx4,reduceCtorEq]
  try (intros;trivial)
theorem k_LessF (x y:Int):Fun Try.prog nz0 [.val (.int .u64 x),.val (.int .u64 y)] (bv (decide (x<y))):=by
  refine fun_of mixed czkv rfl ⟨rfl,trivial⟩ ?_
  simp only [Bzh2,Azh3,go_sem,yz0,xx9,xx8,xx6,xx7,xx5,xx0,xx1,xx2,reduceIte,xx3,xx4,reduceCtorEq]
  intro vs
  refine yzv (k_isNaNF x) qCS trivial ?_
  simp only [go_sem,yz0,xx9,xx8,xx6,xx7,xx5,xx0,xx1,xx2,reduceIte,xx3,xx4,reduceCtorEq]
  try (intros;trivial)
theorem intsK_putK {k:IntKind} {xs:List Int} {i:Nat} {v:Int}:(intsK k xs).take i ++ [AVal.val (.int k v)] ++ (intsK k xs).drop (i+1)=intsK k (xs.take i ++ [v] ++ xs.drop (i+1)):=by
  simp [List.map_take,List.map_drop]
theorem lput_lenF {xs:List Int} {i:Nat} {v:Int} (h:i<xs.length):(xs.take i ++ [v] ++ xs.drop (i+1)).length=xs.length:=by
  simp only [List.length_append,List.length_take,List.length_drop,List.length_cons,List.length_nil];omega
def InsI (xs:List Int) (i j:Nat) (ys:List Int):Prop:=∃ A v B C,ys=A ++ v :: (B ++ C)∧A.length=j∧A.length+B.length=i∧(A ++ B).Pairwise (·≤·)∧(∀ b∈B,v≤b)∧ys.Perm xs
def InsO (xs:List Int) (i:Nat) (ys:List Int):Prop:=(ys.take i).Pairwise (·≤·)∧ys.Perm xs
theorem InsO.inner {xs ys:List Int} {i:Nat} (h:InsO xs i ys) (hi:i<ys.length):InsI xs i i ys:=by
  refine ⟨ys.take i,ys.getD i 0,[],ys.drop (i+1),?_,by rw [List.length_take];omega,by rw [List.length_take,List.length_nil];omega,by rw [List.append_nil];exact h.1,by simp,h.2⟩
  have:ys.drop i=ys.getD i 0 :: ys.drop (i+1):=by
    rw [List.drop_eq_getElem_cons hi,List.getD_eq_getElem?_getD,List.getElem?_eq_getElem hi];rfl
  rw [List.nil_append,← this,List.take_append_drop]
theorem InsI.last {xs ys:List Int} {i j:Nat} (h:InsI xs i j ys) (hj:0<j):∃ A x v B C,ys=A ++ x :: v :: (B ++ C)∧A.length=j - 1∧ys.getD j 0=v∧ys.getD (j - 1) 0=x ∧
    (¬ v<x→InsO xs (i+1) ys)∧(v<x→InsI xs i (j - 1) (A ++ v :: x :: (B ++ C))):=by
  obtain ⟨A0,v,B,C,rfl,hA,hi,hs,hb,hp⟩:=h
  obtain ⟨A,x,rfl⟩:∃ A x,A0=A ++ [x]:=⟨A0.dropLast,A0.getLast (by intro e;rw [e] at hA;simp at hA;omega),(List.dropLast_concat_getLast _).symm⟩
  rw [List.length_append,List.length_singleton] at hA hi
  have e:A ++ [x] ++ v :: (B ++ C)=A ++ x :: v :: (B ++ C):=by simp
  rw [e] at hp ⊢
  refine ⟨A,x,v,B,C,rfl,by omega,?_,?_,fun hv=>⟨?_,hp⟩,fun hv=>⟨A,v,x :: B,C,by simp,by omega,by rw [List.length_cons];omega,by simpa using hs,?_,?_⟩⟩
  · rw [List.getD_eq_getElem?_getD,List.getElem?_append_right (by omega),show j - A.length=1 by omega];rfl
  · rw [List.getD_eq_getElem?_getD,List.getElem?_append_right (by omega),show j - 1 - A.length=0 by omega];rfl
  · have ht:(A ++ x :: v :: (B ++ C)).take (i+1)=A ++ [x] ++ v :: B:=by
      rw [show A ++ x :: v :: (B ++ C)=(A ++ [x] ++ v :: B) ++ C by simp,List.take_left' (by simp;omega)]
    rw [ht]
    rw [List.pairwise_append] at hs ⊢
    refine ⟨hs.1,List.pairwise_cons.2 ⟨hb,hs.2.1⟩,fun a ha b hb2=>?_⟩
    have hax:a≤x:=by
      rcases List.mem_append.1 ha with h | h
      · exact (List.pairwise_append.1 hs.1).2.2 a h x (by simp)
      · rw [List.mem_singleton.1 h];exact Int.le_refl _
    rcases List.mem_cons.1 hb2 with rfl | h
    · omega
    · exact hs.2.2 a ha b h
  · intro b hb2
    rcases List.mem_cons.1 hb2 with rfl | h
    · omega
    · exact hb b h
  · exact (List.Perm.append_left A (List.Perm.swap x v _)).trans hp
theorem InsI.zero {xs ys:List Int} {i:Nat} (h:InsI xs i 0 ys):InsO xs (i+1) ys:=by
  obtain ⟨A,v,B,C,rfl,hA,hi,hs,hb,hp⟩:=h
  obtain rfl:=List.eq_nil_of_length_eq_zero hA
  refine ⟨?_,hp⟩
  simp only [List.nil_append,List.length_nil,Nat.zero_add] at hs hi ⊢
  rw [show v :: (B ++ C)=(v :: B) ++ C from rfl,List.take_left' (by rw [List.length_cons];omega)]
  exact List.pairwise_cons.2 ⟨hb,hs⟩
theorem swap_put {A B:List Int} {x v:Int} {j:Nat} (h:A.length=j - 1) (hj:0<j) :
    (((A ++ x :: v :: B).take j ++ [x] ++ (A ++ x :: v :: B).drop (j+1)).take (j - 1) ++ [v] ++ ((A ++ x :: v :: B).take j ++ [x] ++ (A ++ x :: v :: B).drop (j+1)).drop (j - 1+1))=A ++ v :: x :: B:=by
  have e1:(A ++ x :: v :: B).take j=A ++ [x]:=by rw [show A ++ x :: v :: B=(A ++ [x]) ++ v :: B by simp,List.take_left' (by simp;omega)]
  have e2:(A ++ x :: v :: B).drop (j+1)=B:=by rw [show A ++ x :: v :: B=(A ++ [x,v]) ++ B by simp,List.drop_left' (by simp;omega)]
  rw [e1,e2]
  have e3:(A ++ [x] ++ [x] ++ B).take (j - 1)=A:=by rw [List.append_assoc,List.append_assoc,List.take_left' h]
  have e4:(A ++ [x] ++ [x] ++ B).drop (j - 1+1)=x :: B:=by rw [show A ++ [x] ++ [x] ++ B=(A ++ [x]) ++ x :: B by simp,List.drop_left' (by simp;omega)]
  rw [e3,e4];simp
theorem k_insertionF (xs:List Int) (hl:xs.length≤12):Con Try.prog nz1l [.row 0 1 true (intsK .u64 xs)] [.own 5000 0,iv 0,iv xs.length] true
    fun outs rows res=>rows=[]∧res=.tup []∧∃ ys:List Int,ys.Perm xs∧ys.Pairwise (·≤·)∧outs=[.row 0 1 true (intsK .u64 ys)]:=by
  refine con_sh mixed czgb rfl (by simp) ?_
  generalize hQ:finQ _=Q
  have w01:IntKind.i64.wrap (0+1)=1:=by decide
  have hO0:InsO xs 1 xs:=⟨by cases xs with
    | nil=>simp
    | cons a xs=>simp,List.Perm.refl _⟩
  simp only [Az14,Bz8a,w01,go_sem,yz0,xx9,xx8,xx6,xx7,xx5,xx0,xx1,xx2,reduceIte,xx3,xx4,reduceCtorEq]
  refine wpD_lo (fun (i,_)=>xs.length+1 - i) (fun (i,ys)=>1≤i∧i≤xs.length+1∧InsO xs i ys)
    (fun ((i,ys):Nat×List Int)=>⟨L .any [(0,.own 5000 0),(1,iv 0),(2,iv xs.length),(6,iv i)],L .gone [(5000,.row 0 1 true (intsK .u64 ys))]⟩)
    (1,xs) ⟨Nat.le_refl _,by simp,hO0⟩ (by simp only [Bzc,go_sem,yz0,xx9,xx8,xx6,xx7,xx5,xx0,xx1,xx2,reduceIte,xx3,xx4,reduceCtorEq];try rfl) ?_
  rintro ⟨i,ys⟩ ⟨hi1,hi2,hO,hp⟩
  have hi1:1≤i:=hi1
  have hi2:i≤xs.length+1:=hi2
  have hO:InsO xs i ys:=⟨hO,hp⟩
  have hp:ys.Perm xs:=hp
  have hyl:=hp.length_eq
  by_cases hlt:(i:Int)<xs.length
  · have hlt1:i<xs.length:=by omega
    have wi:IntKind.i64.wrap ((i:Int)+1)=((i+1:Nat):Int):=by rw [w64 (by omega)];simp
    simp only [Bzc,Bz12,Bz89,Bz88,decide_eq_true hlt,go_sem,yz0,xx9,xx8,xx6,xx7,xx5,xx0,xx1,xx2,reduceIte,xx3,xx4,reduceCtorEq]
    refine wpD_lo (fun (j,_)=>j) (fun (j,ys)=>j≤i∧InsI xs i j ys)
      (fun ((j,ys):Nat×List Int)=>⟨L .any [(0,.own 5000 0),(1,iv 0),(2,iv xs.length),(6,iv i),(7,iv j)],L .gone [(5000,.row 0 1 true (intsK .u64 ys))]⟩)
      (i,ys) ⟨Nat.le_refl _,hO.inner (by omega)⟩ (by simp only [Bzb,go_sem,yz0,xx9,xx8,xx6,xx7,xx5,xx0,xx1,xx2,reduceIte,xx3,xx4,reduceCtorEq];try rfl) ?_
    rintro ⟨j,zs⟩ ⟨hj,hI⟩
    have hj:j≤i:=hj
    have hI:InsI xs i j zs:=hI
    have hzl:zs.length=xs.length:=by obtain ⟨_,_,_,_,_,_,_,_,_,h⟩:=hI;exact h.length_eq
    by_cases hj0:(j:Int) > 0
    · have hj1:0<j:=by omega
      have wj:IntKind.i64.wrap ((j:Int) - 1)=((j - 1:Nat):Int):=by rw [w64 (by omega)];omega
      have hjl:j<zs.length:=by omega
      have hjl2:j - 1<zs.length:=by omega
      obtain ⟨A,x,v,B,C,hz,hA,g1,g2,hno,hyes⟩:=hI.last hj1
      have ge1:=yze (k:=.u64) hjl
      have ge2:=yze (k:=.u64) hjl2
      rw [g1] at ge1
      rw [g2] at ge2
      simp only [Bzb,decide_eq_true hj0,wj,ge1,ge2,go_sem,yz0,xx9,xx8,xx6,xx7,xx5,xx0,xx1,xx2,reduceIte,xx3,xx4,reduceCtorEq]
      intro vs
      refine ⟨⟨by omega,hjl⟩,hjl,⟨by omega,hjl2⟩,hjl2,?_⟩
      refine yzv (k_LessF v x) qCS trivial ?_
      by_cases hvx:v<x
      · simp only [Bza,Bz87,decide_eq_true hvx,wj,ge1,ge2,go_sem,yz0,xx9,xx8,xx6,xx7,xx5,xx0,xx1,xx2,reduceIte,xx3,xx4,reduceCtorEq]
        simp only [intsK_putK,List.length_map,lput_lenF hjl,go_sem,yz0,xx9,xx8,xx6,xx7,xx5,xx0,xx1,xx2,reduceIte,xx3,xx4,reduceCtorEq]
        refine ⟨⟨by omega,hjl2⟩,hjl2,⟨by omega,hjl⟩,hjl,⟨by omega,hjl⟩,by omega,⟨by omega,hjl2⟩,by omega,?_⟩
        rw [hz,swap_put hA hj1]
        simp only [Bz86,wj,go_sem,yz0,xx9,xx8,xx6,xx7,xx5,xx0,xx1,xx2,reduceIte,xx3,xx4,reduceCtorEq]
        exact ⟨(j - 1,A ++ v :: x :: (B ++ C)),by dsimp only;omega,⟨by dsimp only;omega,hyes hvx⟩,rfl⟩
      · simp only [Bza,Bz13,decide_eq_false hvx,wi,go_sem,yz0,xx9,xx8,xx6,xx7,xx5,xx0,xx1,xx2,reduceIte,xx3,xx4,reduceCtorEq]
        exact ⟨(i+1,zs),by dsimp only;omega,⟨by dsimp only;omega,by dsimp only;omega,hno hvx⟩,rfl⟩
    · obtain rfl:j=0:=by omega
      simp only [Bzb,Bza,Bz13,decide_eq_false hj0,wi,go_sem,yz0,xx9,xx8,xx6,xx7,xx5,xx0,xx1,xx2,reduceIte,xx3,xx4,reduceCtorEq]
      exact ⟨(i+1,zs),by dsimp only;omega,⟨by dsimp only;omega,by dsimp only;omega,hI.zero⟩,rfl⟩
  · obtain h:i=xs.length∨i=xs.length+1:=by omega
    simp only [Bzc,Bz12,decide_eq_false hlt,Az14,← hQ,go_sem,yz0,xx9,xx8,xx6,xx7,xx5,xx0,xx1,xx2,reduceIte,xx3,xx4,reduceCtorEq]
    refine ⟨[],by simp,by simp,by simp,by simp,rfl,ys,hp,?_,?_⟩
    · have:ys.take i=ys:=List.take_of_length_le (by omega)
      rw [← this];exact hO.1
    · simp only [List.range_zero,List.nil_append,List.map_cons,List.map_nil,Nat.not_lt_zero,range1,yz11,yz15,yz1j,yz1l,yz14,yz1k,yz1i,yz1g,yz16,yzt,yzk,yz6,yzs,yzr,yzo,yzm,yzq,yz7,yza,yzd,yz9,yzf,yzi,yz2,yz5,yz8,yzc,yzh,yzj,List.range_zero,yz3,yz4,yzb,yzp,yzl,yzn,AVal.fresh,freshL,yz1,yzg,AObj.fresh,id,Option.isSome_some,or_true,true_or,go_sem,yz0,xx9,xx8,xx6,xx7,xx5,xx0,xx1,xx2,reduceIte,xx3,xx4,reduceCtorEq]
      try rfl
theorem k_Len64F (n:Nat) (hn:n≤12):FunE Try.prog n_math_bits_Len64 [.val (.int .u64 n)] (fun v=>∃ b,v=.int .i64 b):=by
  refine funE_of mixed c_math_bits_Len64 rfl ?_
  have h1:¬ (n:Int) ≥ 4294967296:=by omega
  have h2:¬ (n:Int) ≥ 65536:=by omega
  have h3:¬ (n:Int) ≥ 256:=by omega
  simp only [A_math_bits_Len64,B_math_bits_Len64_1,B_math_bits_Len64_2,B_math_bits_Len64_4,B_math_bits_Len64_5,B_math_bits_Len64_7,B_math_bits_Len64_8,B_math_bits_Len64_10,decide_eq_false h1,decide_eq_false h2,decide_eq_false h3,go_sem,yz0,xx9,xx8,xx6,xx7,xx5,xx0,xx1,xx2,reduceIte,xx3,xx4,reduceCtorEq]
  have hw8:IntKind.u8.wrap (n:Int)=n:=by
    have h:∀ k:Nat,k≤12→IntKind.u8.wrap (k:Int)=k:=by decide
    exact h _ hn
  rw [hw8]
  first
    | exact ⟨⟨by omega,by rw [Int.toNat_natCast];exact Nat.lt_of_le_of_lt hn (by decide)⟩,_,rfl,_,rfl⟩
    | exact ⟨by rw [Int.toNat_natCast];exact Nat.lt_of_le_of_lt hn (by decide),_,rfl,_,rfl⟩
theorem k_LenF (n:Nat) (hn:n≤12):FunE Try.prog n_math_bits_Len [.val (.int .u64 n)] (fun v=>∃ b,v=.int .i64 b):=by
  refine funE_of mixed c_math_bits_Len rfl ?_
  simp only [A_math_bits_Len,B_math_bits_Len_1,B_math_bits_Len_2,go_sem,yz0,xx9,xx8,xx6,xx7,xx5,xx0,xx1,xx2,reduceIte,xx3,xx4,reduceCtorEq]
  intro vs
  refine call_funE (k_Len64F n hn) qCS ⟨_,0,rfl⟩ ?_
  rintro _ ⟨b,rfl⟩
  simp only [go_sem,yz0,xx9,xx8,xx6,xx7,xx5,xx0,xx1,xx2,reduceIte,xx3,xx4,reduceCtorEq]
  exact ⟨_,rfl,b,rfl⟩
theorem k_pdq (xs:List Int) (b:Int) (hl:xs.length≤12):Con Try.prog nz6 [.row 0 1 true (intsK .u64 xs)] [.own 5000 0,iv 0,iv xs.length,iv b] true
    fun outs rows res=>rows=[]∧res=.tup []∧∃ ys:List Int,ys.Perm xs∧ys.Pairwise (·≤·)∧outs=[.row 0 1 true (intsK .u64 ys)]:=by
  refine con_sh mixed cz7t rfl (by simp) ?_
  generalize hQ:finQ _=Q
  have w0:IntKind.i64.wrap ((xs.length:Int) - 0)=xs.length:=by rw [Int.sub_zero];exact w64 (by omega)
  have h12:(xs.length:Int)≤12:=by omega
  simp only [Az3,Bz2n,Bz2m,go_sem,yz0,xx9,xx8,xx6,xx7,xx5,xx0,xx1,xx2,reduceIte,xx3,xx4,reduceCtorEq]
  refine wpD_lo (fun _:Unit=>0) (fun _=>True)
    (fun _:Unit=>⟨L .any [(0,.own 5000 0),(1,iv 0),(2,iv xs.length),(3,iv b),(8,bv true),(9,bv true)],L .gone [(5000,.row 0 1 true (intsK .u64 xs))]⟩)
    () trivial (by simp only [Bz9,go_sem,yz0,xx9,xx8,xx6,xx7,xx5,xx0,xx1,xx2,reduceIte,xx3,xx4,reduceCtorEq];try rfl) ?_
  rintro _ _
  simp only [Bz9,Bzj,Bzi,w0,decide_eq_true h12,go_sem,yz0,xx9,xx8,xx6,xx7,xx5,xx0,xx1,xx2,reduceIte,xx3,xx4,reduceCtorEq]
  intro vs
  have hsv:sv (L AObj.gone [(5000,AObj.row 0 1 true (intsK .u64 xs))]) [5000] (vs 3) 0=0:=sv_0 rfl
  refine call_rowM (k_insertionF xs hl) (r:=5000) rfl (by simp only [rowIs,boxIs,yz1f,yz13,yz1d,yz19,yz10,coe_any,coe_val,coe_ro,yzx,yzw,coe_st,yzy,coe_rp,yzz,coe_clo,yz1e,yz1a,yzu,yz1c,yz1b,L_hit,L_miss,L_nil,xx3,ne_eq,reduceCtorEq,not_false_eq_true,true_and,and_true,and_self,exists_eq_left,exists_eq_right,List.mem_cons,List.not_mem_nil,or_false,AObj.row.injEq,AObj.box.injEq,exists_eq_left',exists_and_left,exists_eq,Nat.zero_lt_one,Nat.lt_add_one,List.map_cons,List.map_nil,AObj.ver,xx5,not_true_eq_false]) (by simp only [rowIs,boxIs,yz1f,yz13,yz1d,yz19,yz10,coe_any,coe_val,coe_ro,yzx,yzw,coe_st,yzy,coe_rp,yzz,coe_clo,yz1e,yz1a,yzu,yz1c,yz1b,L_hit,L_miss,L_nil,xx3,ne_eq,reduceCtorEq,not_false_eq_true,true_and,and_true,and_self,exists_eq_left,exists_eq_right,List.mem_cons,List.not_mem_nil,or_false,AObj.row.injEq,AObj.box.injEq,exists_eq_left',exists_and_left,exists_eq,Nat.zero_lt_one,Nat.lt_add_one,List.map_cons,List.map_nil,AObj.ver,xx5,not_true_eq_false]) ?_
  rintro outs rows res ⟨rfl,rfl,ys,hp,hs,rfl⟩
  refine ⟨rfl,_,rfl,?_⟩
  simp only [hsv,Az3,← hQ,Nat.not_lt_zero,range1,yz11,yz15,yz1j,yz1l,yz14,yz1k,yz1i,yz1g,yz16,yzt,yzk,yz6,yzs,yzr,yzo,yzm,yzq,yz7,yza,yzd,yz9,yzf,yzi,yz2,yz5,yz8,yzc,yzh,yzj,List.range_zero,yz3,yz4,yzb,yzp,yzl,yzn,AVal.fresh,freshL,yz1,yzg,AObj.fresh,id,Option.isSome_some,or_true,true_or,go_sem,yz0,xx9,xx8,xx6,xx7,xx5,xx0,xx1,xx2,reduceIte,xx3,xx4,reduceCtorEq]
  exact ⟨[],by simp,by simp,by simp,by simp,ys,hp,hs,rfl⟩
theorem k_SortF (xs:List Int) (hl:xs.length≤12):Con Try.prog nz1h [.row 0 1 true (intsK .u64 xs)] [.own 5000 0] true
    fun outs rows res=>rows=[]∧res=.tup []∧∃ ys:List Int,ys.Perm xs∧ys.Pairwise (·≤·)∧outs=[.row 0 1 true (intsK .u64 ys)]:=by
  refine con_sh mixed czd7 rfl (by simp) ?_
  have hw:IntKind.u64.wrap (xs.length:Int)=xs.length:=by
    have h:∀ k:Nat,k≤12→IntKind.u64.wrap (k:Int)=k:=by decide
    exact h _ hl
  generalize hQ:finQ _=Q
  simp only [Azt,Bz70,hw,go_sem,yz0,xx9,xx8,xx6,xx7,xx5,xx0,xx1,xx2,reduceIte,xx3,xx4,reduceCtorEq]
  intro _ vs
  refine call_funE (k_LenF xs.length hl) qCS ⟨_,0,rfl⟩ ?_
  rintro _ ⟨b,rfl⟩
  simp only [go_sem,yz0,xx9,xx8,xx6,xx7,xx5,xx0,xx1,xx2,reduceIte,xx3,xx4,reduceCtorEq]
  have hsv:sv (L AObj.gone [(5000,AObj.row 0 1 true (intsK .u64 xs))]) [5000] (vs 5) 0=0:=sv_0 rfl
  refine call_rowM (k_pdq xs b hl) (r:=5000) rfl (by simp only [rowIs,boxIs,yz1f,yz13,yz1d,yz19,yz10,coe_any,coe_val,coe_ro,yzx,yzw,coe_st,yzy,coe_rp,yzz,coe_clo,yz1e,yz1a,yzu,yz1c,yz1b,L_hit,L_miss,L_nil,xx3,ne_eq,reduceCtorEq,not_false_eq_true,true_and,and_true,and_self,exists_eq_left,exists_eq_right,List.mem_cons,List.not_mem_nil,or_false,AObj.row.injEq,AObj.box.injEq,exists_eq_left',exists_and_left,exists_eq,Nat.zero_lt_one,Nat.lt_add_one,List.map_cons,List.map_nil,AObj.ver,xx5,not_true_eq_false]) (by simp only [rowIs,boxIs,yz1f,yz13,yz1d,yz19,yz10,coe_any,coe_val,coe_ro,yzx,yzw,coe_st,yzy,coe_rp,yzz,coe_clo,yz1e,yz1a,yzu,yz1c,yz1b,L_hit,L_miss,L_nil,xx3,ne_eq,reduceCtorEq,not_false_eq_true,true_and,and_true,and_self,exists_eq_left,exists_eq_right,List.mem_cons,List.not_mem_nil,or_false,AObj.row.injEq,AObj.box.injEq,exists_eq_left',exists_and_left,exists_eq,Nat.zero_lt_one,Nat.lt_add_one,List.map_cons,List.map_nil,AObj.ver,xx5,not_true_eq_false]) ?_
  rintro outs rows res ⟨rfl,rfl,ys,hp,hs,rfl⟩
  refine ⟨rfl,_,rfl,?_⟩
  simp only [hsv,Azt,← hQ,Nat.not_lt_zero,range1,yz11,yz15,yz1j,yz1l,yz14,yz1k,yz1i,yz1g,yz16,yzt,yzk,yz6,yzs,yzr,yzo,yzm,yzq,yz7,yza,yzd,yz9,yzf,yzi,yz2,yz5,yz8,yzc,yzh,yzj,List.range_zero,yz3,yz4,yzb,yzp,yzl,yzn,AVal.fresh,freshL,yz1,yzg,AObj.fresh,id,Option.isSome_some,or_true,true_or,go_sem,yz0,xx9,xx8,xx6,xx7,xx5,xx0,xx1,xx2,reduceIte,xx3,xx4,reduceCtorEq]
  exact ⟨[],by simp,by simp,by simp,by simp,ys,hp,hs,rfl⟩
end Go.Ab
namespace Go.Ab
open Go.Proofs
theorem sv_one2 {hp:Nat→AObj} {r:Nat} {s:Nat→Nat}:sv hp [r] s 0=((hp r).ver).getD 0:=by simp [sv]
theorem k_order2 (ys:List Int) (a b:Nat) (s:Int) (ha:a<ys.length) (hb:b<ys.length) (hs:0≤s∧s≤100) :
    Con Try.prog nzo [.box 0 [iv s]] [.ro none 1 (intsK .u64 ys),iv a,iv b,.ptr 5000 0 0] false
      fun outs rows res=>rows=[]∧∃ s':Int,(s'=s∨s'=s+1)∧outs=[.box 0 [iv s']]∧(res=.tup [iv a,iv b]∨res=.tup [iv b,iv a]):=by
  refine con_of mixed czlf rfl (by simp) ?_
  generalize hQ:finQ _=Q
  have ga:=yze (k:=.u64) ha
  have gb:=yze (k:=.u64) hb
  simp only [Az3e,Bzi2,ga,gb,go_sem,yz0,xx9,xx8,xx6,xx7,xx5,xx0,xx1,xx2,reduceIte,xx3,xx4,reduceCtorEq]
  intro vs
  refine ⟨⟨by omega,hb⟩,hb,⟨by omega,ha⟩,ha,?_⟩
  refine yzv (k_LessF (ys.getD b 0) (ys.getD a 0)) qCS trivial ?_
  have w1:IntKind.i64.wrap (s+1)=s+1:=w64 (by omega)
  by_cases h:ys.getD b 0<ys.getD a 0
  · simp only [decide_eq_true h,Bz91,Bzi0,w1,Az3e,← hQ,go_sem,yz0,xx9,xx8,xx6,xx7,xx5,xx0,xx1,xx2,reduceIte,xx3,xx4,reduceCtorEq]
    refine ⟨[],by simp,by simp,by simp,by simp [AVal.fresh,freshL],by simp,(fun j hj=>by obtain rfl:j=0:=(by omega);simp [L,AObj.fresh,AObj.dn,dnL,AVal.dn,AVal.fresh,freshL]),by simp,s+1,by omega,by simp [L,AObj.ren,AObj.dn,dnL,AVal.dn,renL,AVal.ren],.inr (by simp [AVal.ren,renL])⟩
  · simp only [decide_eq_false h,Bz91,Bzi1,Az3e,← hQ,go_sem,yz0,xx9,xx8,xx6,xx7,xx5,xx0,xx1,xx2,reduceIte,xx3,xx4,reduceCtorEq]
    refine ⟨[],by simp,by simp,by simp,by simp [AVal.fresh,freshL],by simp,(fun j hj=>by obtain rfl:j=0:=(by omega);simp [L,AObj.fresh,AObj.dn,dnL,AVal.dn,AVal.fresh,freshL]),by simp,s,by omega,by simp [L,AObj.ren,AObj.dn,dnL,AVal.dn,renL,AVal.ren],.inl (by simp [AVal.ren,renL])⟩
theorem k_median (ys:List Int) (a b c:Nat) (s:Int) (ha:a<ys.length) (hb:b<ys.length) (hc:c<ys.length) (hs:0≤s∧s≤90) :
    Con Try.prog nz1n [.box 0 [iv s]] [.ro none 1 (intsK .u64 ys),iv a,iv b,iv c,.ptr 5000 0 0] false
      fun outs rows res=>rows=[]∧∃ s':Int,(s≤s'∧s'≤s+3)∧outs=[.box 0 [iv s']]∧∃ p:Nat,(p=a∨p=b∨p=c)∧res=iv p:=by
  refine con_of mixed czld rfl (by simp) ?_
  generalize hQ:finQ _=Q
  simp only [Az90,Bzhx,go_sem,yz0,xx9,xx8,xx6,xx7,xx5,xx0,xx1,xx2,reduceIte,xx3,xx4,reduceCtorEq]
  intro vs
  refine call_con (r:=5000) (k_order2 ys a b s ha hb (by omega)) rfl (by simp only [Bool.not_false,rowIs,boxIs,yz1f,yz13,yz1d,yz19,yz10,coe_any,coe_val,coe_ro,yzx,yzw,coe_st,yzy,coe_rp,yzz,coe_clo,yz1e,yz1a,yzu,yz1c,yz1b,L_hit,L_miss,L_nil,xx3,ne_eq,reduceCtorEq,not_false_eq_true,true_and,and_true,and_self,exists_eq_left,exists_eq_right,List.mem_cons,List.not_mem_nil,or_false,AObj.row.injEq,AObj.box.injEq,exists_eq_left',exists_and_left,exists_eq,Nat.zero_lt_one,Nat.lt_add_one,List.map_cons,List.map_nil,AObj.ver,xx5,not_true_eq_false]) (by simp only [Bool.not_false,rowIs,boxIs,yz1f,yz13,yz1d,yz19,yz10,coe_any,coe_val,coe_ro,yzx,yzw,coe_st,yzy,coe_rp,yzz,coe_clo,yz1e,yz1a,yzu,yz1c,yz1b,L_hit,L_miss,L_nil,xx3,ne_eq,reduceCtorEq,not_false_eq_true,true_and,and_true,and_self,exists_eq_left,exists_eq_right,List.mem_cons,List.not_mem_nil,or_false,AObj.row.injEq,AObj.box.injEq,exists_eq_left',exists_and_left,exists_eq,Nat.zero_lt_one,Nat.lt_add_one,List.map_cons,List.map_nil,AObj.ver,xx5,not_true_eq_false]) ?_
  rintro outs rows res ⟨rfl,s1,hs1,rfl,hr1⟩
  have W:∃ a1 b1:Nat,a1<ys.length∧b1<ys.length∧(a1=a∨a1=b)∧(b1=a∨b1=b)∧res=.tup [iv a1,iv b1]:=by
    rcases hr1 with rfl | rfl
    · exact ⟨a,b,ha,hb,.inl rfl,.inr rfl,rfl⟩
    · exact ⟨b,a,hb,ha,.inr rfl,.inl rfl,rfl⟩
  obtain ⟨a1,b1,ha1,hb1,ea1,eb1,rfl⟩:=W
  refine ⟨rfl,by simp,by simp,?_⟩
  simp only [Option.getD_some,callHp_m,sv_one2,AObj.ver,Bzhw,Nat.not_lt_zero,range1,yz11,yz15,yz1j,yz1l,yz14,yz1k,yz1i,yz1g,yz16,yzt,yzk,yz6,yzs,yzr,yzo,yzm,yzq,yz7,yza,yzd,yz9,yzf,yzi,yz2,yz5,yz8,yzc,yzh,yzj,List.range_zero,yz3,yz4,yzb,yzp,yzl,yzn,AVal.fresh,freshL,yz1,yzg,AObj.fresh,id,Option.isSome_some,or_true,true_or,go_sem,yz0,xx9,xx8,xx6,xx7,xx5,xx0,xx1,xx2,reduceIte,xx3,xx4,reduceCtorEq]
  intro vs2
  refine call_con (r:=5000) (k_order2 ys b1 c s1 hb1 hc (by omega)) rfl (by simp only [Bool.not_false,rowIs,boxIs,yz1f,yz13,yz1d,yz19,yz10,coe_any,coe_val,coe_ro,yzx,yzw,coe_st,yzy,coe_rp,yzz,coe_clo,yz1e,yz1a,yzu,yz1c,yz1b,L_hit,L_miss,L_nil,xx3,ne_eq,reduceCtorEq,not_false_eq_true,true_and,and_true,and_self,exists_eq_left,exists_eq_right,List.mem_cons,List.not_mem_nil,or_false,AObj.row.injEq,AObj.box.injEq,exists_eq_left',exists_and_left,exists_eq,Nat.zero_lt_one,Nat.lt_add_one,List.map_cons,List.map_nil,AObj.ver,xx5,not_true_eq_false]) (by simp only [Bool.not_false,rowIs,boxIs,yz1f,yz13,yz1d,yz19,yz10,coe_any,coe_val,coe_ro,yzx,yzw,coe_st,yzy,coe_rp,yzz,coe_clo,yz1e,yz1a,yzu,yz1c,yz1b,L_hit,L_miss,L_nil,xx3,ne_eq,reduceCtorEq,not_false_eq_true,true_and,and_true,and_self,exists_eq_left,exists_eq_right,List.mem_cons,List.not_mem_nil,or_false,AObj.row.injEq,AObj.box.injEq,exists_eq_left',exists_and_left,exists_eq,Nat.zero_lt_one,Nat.lt_add_one,List.map_cons,List.map_nil,AObj.ver,xx5,not_true_eq_false]) ?_
  rintro outs rows res ⟨rfl,s2,hs2,rfl,hr2⟩
  have W:∃ b2 c2:Nat,b2<ys.length∧(b2=b1∨b2=c)∧res=.tup [iv b2,iv c2]:=by
    rcases hr2 with rfl | rfl
    · exact ⟨b1,c,hb1,.inl rfl,rfl⟩
    · exact ⟨c,b1,hc,.inr rfl,rfl⟩
  obtain ⟨b2,c2,hb2,eb2,rfl⟩:=W
  refine ⟨rfl,by simp,by simp,?_⟩
  simp only [Option.getD_some,callHp_m,sv_one2,AObj.ver,Bzhv,Nat.not_lt_zero,range1,yz11,yz15,yz1j,yz1l,yz14,yz1k,yz1i,yz1g,yz16,yzt,yzk,yz6,yzs,yzr,yzo,yzm,yzq,yz7,yza,yzd,yz9,yzf,yzi,yz2,yz5,yz8,yzc,yzh,yzj,List.range_zero,yz3,yz4,yzb,yzp,yzl,yzn,AVal.fresh,freshL,yz1,yzg,AObj.fresh,id,Option.isSome_some,or_true,true_or,go_sem,yz0,xx9,xx8,xx6,xx7,xx5,xx0,xx1,xx2,reduceIte,xx3,xx4,reduceCtorEq]
  intro vs3
  refine call_con (r:=5000) (k_order2 ys a1 b2 s2 ha1 hb2 (by omega)) rfl (by simp only [Bool.not_false,rowIs,boxIs,yz1f,yz13,yz1d,yz19,yz10,coe_any,coe_val,coe_ro,yzx,yzw,coe_st,yzy,coe_rp,yzz,coe_clo,yz1e,yz1a,yzu,yz1c,yz1b,L_hit,L_miss,L_nil,xx3,ne_eq,reduceCtorEq,not_false_eq_true,true_and,and_true,and_self,exists_eq_left,exists_eq_right,List.mem_cons,List.not_mem_nil,or_false,AObj.row.injEq,AObj.box.injEq,exists_eq_left',exists_and_left,exists_eq,Nat.zero_lt_one,Nat.lt_add_one,List.map_cons,List.map_nil,AObj.ver,xx5,not_true_eq_false]) (by simp only [Bool.not_false,rowIs,boxIs,yz1f,yz13,yz1d,yz19,yz10,coe_any,coe_val,coe_ro,yzx,yzw,coe_st,yzy,coe_rp,yzz,coe_clo,yz1e,yz1a,yzu,yz1c,yz1b,L_hit,L_miss,L_nil,xx3,ne_eq,reduceCtorEq,not_false_eq_true,true_and,and_true,and_self,exists_eq_left,exists_eq_right,List.mem_cons,List.not_mem_nil,or_false,AObj.row.injEq,AObj.box.injEq,exists_eq_left',exists_and_left,exists_eq,Nat.zero_lt_one,Nat.lt_add_one,List.map_cons,List.map_nil,AObj.ver,xx5,not_true_eq_false]) ?_
  rintro outs rows res ⟨rfl,s3,hs3,rfl,hr3⟩
  have W:∃ a3 b3:Nat,(b3=a1∨b3=b2)∧res=.tup [iv a3,iv b3]:=by
    rcases hr3 with rfl | rfl
    · exact ⟨a1,b2,.inr rfl,rfl⟩
    · exact ⟨b2,a1,.inl rfl,rfl⟩
  obtain ⟨a3,b3,eb3,rfl⟩:=W
  refine ⟨rfl,by simp,by simp,?_⟩
  simp only [Option.getD_some,callHp_m,sv_one2,AObj.ver,Bzhu,Az90,← hQ,Nat.not_lt_zero,range1,yz11,yz15,yz1j,yz1l,yz14,yz1k,yz1i,yz1g,yz16,yzt,yzk,yz6,yzs,yzr,yzo,yzm,yzq,yz7,yza,yzd,yz9,yzf,yzi,yz2,yz5,yz8,yzc,yzh,yzj,List.range_zero,yz3,yz4,yzb,yzp,yzl,yzn,AVal.fresh,freshL,yz1,yzg,AObj.fresh,id,Option.isSome_some,or_true,true_or,go_sem,yz0,xx9,xx8,xx6,xx7,xx5,xx0,xx1,xx2,reduceIte,xx3,xx4,reduceCtorEq]
  refine ⟨[],by simp,by simp,by simp,by simp,(fun j hj=>by obtain rfl:j=0:=(by omega);simp [L,AObj.fresh,AObj.dn,dnL,AVal.dn,AVal.fresh,freshL]),by simp,s3,by omega,by simp [L,AObj.ren,AObj.dn,dnL,AVal.dn,renL,AVal.ren],b3,by omega,by simp [AVal.ren]⟩
theorem k_choosePivot (ys:List Int) (a b:Nat) (hab:a+13≤b) (hb15:b≤a+15) (hb:b≤ys.length) (hy:ys.length≤15) :
    Fn Try.prog nz4a [.ro none 1 (intsK .u64 ys),iv a,iv b] fun rows res=>rows=[]∧∃ (p:Nat) (h:Int),a≤p∧p<b∧h≠2∧res=.tup [iv p,iv h]:=by
  refine con_of mixed czk0 rfl (by simp) ?_
  generalize hQ:finQ _=Q
  obtain ⟨l,hl⟩:∃ l:Nat,b=a+l:=⟨b - a,by omega⟩
  have w0:IntKind.i64.wrap ((b:Int) - a)=(l:Int):=by rw [w64 (by omega)];omega
  have hq:(l:Int).tdiv 4=3:=by
    have:l=13∨l=14∨l=15:=by omega
    rcases this with rfl | rfl | rfl <;> decide
  have w3:IntKind.i64.wrap 3=3:=by decide
  have w1:IntKind.i64.wrap (3 * 1)=3:=by decide
  have w2:IntKind.i64.wrap (3 * 2)=6:=by decide
  have w9:IntKind.i64.wrap (3 * 3)=9:=by decide
  have wa:IntKind.i64.wrap ((a:Int)+3)=((a+3:Nat):Int):=by rw [w64 (by omega)];omega
  have wb:IntKind.i64.wrap ((a:Int)+6)=((a+6:Nat):Int):=by rw [w64 (by omega)];omega
  have wc:IntKind.i64.wrap ((a:Int)+9)=((a+9:Nat):Int):=by rw [w64 (by omega)];omega
  have d8:(l:Int) ≥ 8:=by omega
  have d50:¬ (l:Int) ≥ 50:=by omega
  have h40:¬ (4:Int)=0:=by decide
  simp only [Az2v,Bzgs,Bzgr,w0,go_sem,yz0,xx9,xx8,xx6,xx7,xx5,xx0,xx1,xx2,reduceIte,xx3,xx4,reduceCtorEq]
  intro vs
  simp only [Bzgq,Bzgp,Bzgo,Bzgn,Bzgk,Bzgi,hq,h40,w3,w1,w2,w9,wa,wb,wc,decide_eq_true d8,decide_eq_false d50,go_sem,yz0,xx9,xx8,xx6,xx7,xx5,xx0,xx1,xx2,reduceIte,xx3,xx4,reduceCtorEq]
  simp only [Bzgj,go_sem,yz0,xx9,xx8,xx6,xx7,xx5,xx0,xx1,xx2,reduceIte,xx3,xx4,reduceCtorEq]
  intro vs2
  refine call_con (r:=9) (k_median ys (a+3) (a+6) (a+9) 0 (by omega) (by omega) (by omega) (by omega)) rfl (by simp only [Bool.not_false,rowIs,boxIs,yz1f,yz13,yz1d,yz19,yz10,coe_any,coe_val,coe_ro,yzx,yzw,coe_st,yzy,coe_rp,yzz,coe_clo,yz1e,yz1a,yzu,yz1c,yz1b,L_hit,L_miss,L_nil,xx3,ne_eq,reduceCtorEq,not_false_eq_true,true_and,and_true,and_self,exists_eq_left,exists_eq_right,List.mem_cons,List.not_mem_nil,or_false,AObj.row.injEq,AObj.box.injEq,exists_eq_left',exists_and_left,exists_eq,Nat.zero_lt_one,Nat.lt_add_one,List.map_cons,List.map_nil,AObj.ver,xx5,not_true_eq_false]) (by simp only [Bool.not_false,rowIs,boxIs,yz1f,yz13,yz1d,yz19,yz10,coe_any,coe_val,coe_ro,yzx,yzw,coe_st,yzy,coe_rp,yzz,coe_clo,yz1e,yz1a,yzu,yz1c,yz1b,L_hit,L_miss,L_nil,xx3,ne_eq,reduceCtorEq,not_false_eq_true,true_and,and_true,and_self,exists_eq_left,exists_eq_right,List.mem_cons,List.not_mem_nil,or_false,AObj.row.injEq,AObj.box.injEq,exists_eq_left',exists_and_left,exists_eq,Nat.zero_lt_one,Nat.lt_add_one,List.map_cons,List.map_nil,AObj.ver,xx5,not_true_eq_false]) ?_
  rintro outs rows res ⟨rfl,s1,hs1,rfl,p,hp,rfl⟩
  refine ⟨rfl,by simp,by simp,?_⟩
  simp only [Option.getD_some,callHp_m,sv_one2,AObj.ver,Bzgm,Nat.not_lt_zero,range1,yz11,yz15,yz1j,yz1l,yz14,yz1k,yz1i,yz1g,yz16,yzt,yzk,yz6,yzs,yzr,yzo,yzm,yzq,yz7,yza,yzd,yz9,yzf,yzi,yz2,yz5,yz8,yzc,yzh,yzj,List.range_zero,yz3,yz4,yzb,yzp,yzl,yzn,AVal.fresh,freshL,yz1,yzg,AObj.fresh,id,Option.isSome_some,or_true,true_or,go_sem,yz0,xx9,xx8,xx6,xx7,xx5,xx0,xx1,xx2,reduceIte,xx3,xx4,reduceCtorEq]
  by_cases h0:s1=0
  · have e0:(s1 == 0)=true:=by rw [h0];rfl
    simp only [Bz8i,Bz8h,e0,Az2v,← hQ,Nat.not_lt_zero,range1,yz11,yz15,yz1j,yz1l,yz14,yz1k,yz1i,yz1g,yz16,yzt,yzk,yz6,yzs,yzr,yzo,yzm,yzq,yz7,yza,yzd,yz9,yzf,yzi,yz2,yz5,yz8,yzc,yzh,yzj,List.range_zero,yz3,yz4,yzb,yzp,yzl,yzn,AVal.fresh,freshL,yz1,yzg,AObj.fresh,id,Option.isSome_some,or_true,true_or,go_sem,yz0,xx9,xx8,xx6,xx7,xx5,xx0,xx1,xx2,reduceIte,xx3,xx4,reduceCtorEq]
    refine ⟨[],by simp,by simp,by simp,?_⟩
    simp only [List.map_nil,List.length_nil,Nat.not_lt_zero,range1,yz11,yz15,yz1j,yz1l,yz14,yz1k,yz1i,yz1g,yz16,yzt,yzk,yz6,yzs,yzr,yzo,yzm,yzq,yz7,yza,yzd,yz9,yzf,yzi,yz2,yz5,yz8,yzc,yzh,yzj,List.range_zero,yz3,yz4,yzb,yzp,yzl,yzn,AVal.fresh,freshL,yz1,yzg,AObj.fresh,id,Option.isSome_some,or_true,true_or,go_sem,yz0,xx9,xx8,xx6,xx7,xx5,xx0,xx1,xx2,reduceIte,xx3,xx4,reduceCtorEq]
    exact ⟨p,1,by omega,by omega,by decide,rfl⟩
  · have e0:(s1 == 0)=false:=by simpa using h0
    have e12:(s1 == 12)=false:=by rw [beq_eq_false_iff_ne];omega
    simp only [Bz8i,Bz8h,Bzgl,e0,e12,Az2v,← hQ,Nat.not_lt_zero,range1,yz11,yz15,yz1j,yz1l,yz14,yz1k,yz1i,yz1g,yz16,yzt,yzk,yz6,yzs,yzr,yzo,yzm,yzq,yz7,yza,yzd,yz9,yzf,yzi,yz2,yz5,yz8,yzc,yzh,yzj,List.range_zero,yz3,yz4,yzb,yzp,yzl,yzn,AVal.fresh,freshL,yz1,yzg,AObj.fresh,id,Option.isSome_some,or_true,true_or,go_sem,yz0,xx9,xx8,xx6,xx7,xx5,xx0,xx1,xx2,reduceIte,xx3,xx4,reduceCtorEq]
    refine ⟨[],by simp,by simp,by simp,?_⟩
    simp only [List.map_nil,List.length_nil,Nat.not_lt_zero,range1,yz11,yz15,yz1j,yz1l,yz14,yz1k,yz1i,yz1g,yz16,yzt,yzk,yz6,yzs,yzr,yzo,yzm,yzq,yz7,yza,yzd,yz9,yzf,yzi,yz2,yz5,yz8,yzc,yzh,yzj,List.range_zero,yz3,yz4,yzb,yzp,yzl,yzn,AVal.fresh,freshL,yz1,yzg,AObj.fresh,id,Option.isSome_some,or_true,true_or,go_sem,yz0,xx9,xx8,xx6,xx7,xx5,xx0,xx1,xx2,reduceIte,xx3,xx4,reduceCtorEq]
    exact ⟨p,0,by omega,by omega,by decide,rfl⟩
end Go.Ab
namespace Go.Ab
open Go.Proofs
def swp (ys:List Int) (i j:Nat):List Int:=(ys.set i (ys.getD j 0)).set j (ys.getD i 0)
theorem set_getD6 {l:List Int} {i j:Nat} {v:Int} (hi:i<l.length):(l.set i v).getD j 0=if i=j then v else l.getD j 0:=by
  rw [List.getD_eq_getElem?_getD,List.getElem?_set,List.getD_eq_getElem?_getD]
  by_cases e:i=j
  · rw [if_pos e,if_pos e,if_pos hi];rfl
  · rw [if_neg e,if_neg e]
theorem swp_len {ys:List Int} {i j:Nat}:(swp ys i j).length=ys.length:=by simp [swp]
theorem swp_at {ys:List Int} {i j k:Nat} (hi:i<ys.length) (hj:j<ys.length):(swp ys i j).getD k 0=if j=k then ys.getD i 0 else if i=k then ys.getD j 0 else ys.getD k 0:=by
  unfold swp
  rw [set_getD6 (by rw [List.length_set];exact hj),set_getD6 hi]
theorem swp_perm {ys:List Int} {i j:Nat} (hi:i<ys.length) (hj:j<ys.length):(swp ys i j).Perm ys:=by
  have h:((ys.set i ys[j]).set j ys[i]).Perm ys:=List.set_set_perm hi hj
  unfold swp
  rw [List.getD_eq_getElem?_getD,List.getElem?_eq_getElem hj,List.getD_eq_getElem?_getD,List.getElem?_eq_getElem hi]
  exact h
theorem intsK_set {k:IntKind} {xs:List Int} {i:Nat} {v:Int} (h:i<xs.length):(intsK k xs).take i ++ [AVal.val (.int k v)] ++ (intsK k xs).drop (i+1)=intsK k (xs.set i v):=by
  rw [List.set_eq_take_append_cons_drop,if_pos h]
  simp [List.map_take,List.map_drop]
structure Seg (a b:Nat) (ys zs:List Int):Prop where
  len:zs.length=ys.length
  perm:zs.Perm ys
  out:∀ k,k<a∨b≤k→zs.getD k 0=ys.getD k 0
  pr:∀ c:Int→Prop,(∀ k,a≤k→k<b→c (ys.getD k 0))→∀ k,a≤k→k<b→c (zs.getD k 0)
theorem Seg.refl (a b:Nat) (ys:List Int):Seg a b ys ys:=⟨rfl,List.Perm.refl _,fun _ _=>rfl,fun _ h=>h⟩
theorem Seg.trans {a b:Nat} {x y z:List Int} (h:Seg a b x y) (g:Seg a b y z):Seg a b x z :=
  ⟨g.len.trans h.len,g.perm.trans h.perm,fun k hk=>(g.out k hk).trans (h.out k hk),fun c hc=>g.pr c (h.pr c hc)⟩
theorem Seg.mono {a b a' b':Nat} {x y:List Int} (h:Seg a b x y) (ha:a'≤a) (hb:b≤b'):Seg a' b' x y :=
  ⟨h.len,h.perm,fun k hk=>h.out k (by omega),fun c hc k h1 h2=>by
    by_cases e:a≤k∧k<b
    · exact h.pr c (fun k g1 g2=>hc k (by omega) (by omega)) k e.1 e.2
    · rw [h.out k (by omega)];exact hc k h1 h2⟩
theorem Seg.swap {a b i j:Nat} {ys:List Int} (hb:b≤ys.length) (hi:a≤i∧i<b) (hj:a≤j∧j<b):Seg a b ys (swp ys i j) :=
  ⟨swp_len,swp_perm (by omega) (by omega),fun k hk=>by rw [swp_at (by omega) (by omega),if_neg (by omega),if_neg (by omega)],fun c hc k h1 h2=>by
    rw [swp_at (by omega) (by omega)]
    split
    · exact hc i hi.1 hi.2
    · split
      · exact hc j hj.1 hj.2
      · exact hc k h1 h2⟩
def Srt (a b:Nat) (ys:List Int):Prop:=∀ i j,a≤i→i<j→j<b→ys.getD i 0≤ys.getD j 0
def InsJ (a i j:Nat) (ys:List Int):Prop:=(∀ p q,a≤p→p<q→q≤i→p≠j→q≠j→ys.getD p 0≤ys.getD q 0)∧∀ q,j<q→q≤i→ys.getD j 0≤ys.getD q 0
theorem InsJ.start {a i:Nat} {ys:List Int} (h:Srt a i ys):InsJ a i i ys:=⟨fun p q h1 h2 h3 _ h5=>h p q h1 h2 (by omega),fun q h1 h2=>by omega⟩
theorem InsJ.step {a i j:Nat} {ys:List Int} (hl:i<ys.length) (hj:a<j∧j≤i) (h:InsJ a i j ys) (hlt:ys.getD j 0<ys.getD (j - 1) 0):InsJ a i (j - 1) (swp ys j (j - 1)):=by
  have e:=fun k=>swp_at (ys:=ys) (i:=j) (j:=j - 1) (k:=k) (by omega) (by omega)
  refine ⟨fun p q h1 h2 h3 h4 h5=>?_,fun q h1 h2=>?_⟩
  · rw [e p,e q,if_neg (show ¬ j - 1=p by omega),if_neg (show ¬ j - 1=q by omega)]
    by_cases hp:j=p
    · rw [if_pos hp,if_neg (show ¬ j=q by omega)]
      exact h.1 (j - 1) q (by omega) (by omega) h3 (by omega) (by omega)
    · rw [if_neg hp]
      by_cases hq:j=q
      · rw [if_pos hq]
        exact h.1 p (j - 1) h1 (by omega) (by omega) (by omega) (by omega)
      · rw [if_neg hq]
        exact h.1 p q h1 h2 h3 (by omega) (by omega)
  · rw [e (j - 1),e q,if_pos rfl,if_neg (show ¬ j - 1=q by omega)]
    by_cases hq:j=q
    · rw [if_pos hq];omega
    · rw [if_neg hq];exact h.2 q (by omega) h2
theorem InsJ.stop {a i j:Nat} {ys:List Int} (hj:a≤j∧j≤i) (h:InsJ a i j ys) (hno:a<j→ys.getD (j - 1) 0≤ys.getD j 0):Srt a (i+1) ys:=by
  intro p q h1 h2 h3
  by_cases hp:p=j
  · rw [hp];exact h.2 q (by omega) (by omega)
  · by_cases hq:q=j
    · rw [hq]
      have h4:=hno (by omega)
      by_cases hp1:p=j - 1
      · rw [hp1];exact h4
      · have:=h.1 p (j - 1) h1 (by omega) (by omega) (by omega) (by omega);omega
    · exact h.1 p q h1 h2 (by omega) hp hq
theorem k_insertionG (xs:List Int) (a b:Nat) (hab:a≤b) (hb:b≤xs.length) (hl:xs.length≤100):Con Try.prog nz1l [.row 0 1 true (intsK .u64 xs)] [.own 5000 0,iv a,iv b] true
    fun outs rows res=>rows=[]∧res=.tup []∧∃ ys:List Int,Seg a b xs ys∧Srt a b ys∧outs=[.row 0 1 true (intsK .u64 ys)]:=by
  refine con_sh mixed czgb rfl (by simp) ?_
  generalize hQ:finQ _=Q
  have wa:IntKind.i64.wrap ((a:Int)+1)=((a+1:Nat):Int):=by rw [w64 (by omega)];omega
  simp only [Az14,Bz8a,wa,go_sem,yz0,xx9,xx8,xx6,xx7,xx5,xx0,xx1,xx2,reduceIte,xx3,xx4,reduceCtorEq]
  refine wpD_lo (fun (i,_)=>xs.length+1 - i) (fun (i,ys)=>a+1≤i∧i≤b+1∧Seg a b xs ys∧Srt a i ys)
    (fun ((i,ys):Nat×List Int)=>⟨L .any [(0,.own 5000 0),(1,iv a),(2,iv b),(6,iv i)],L .gone [(5000,.row 0 1 true (intsK .u64 ys))]⟩)
    (a+1,xs) ⟨Nat.le_refl _,by simp;omega,Seg.refl _ _ _,fun i j h1 h2 h3=>by omega⟩ (by simp only [Bzc,go_sem,yz0,xx9,xx8,xx6,xx7,xx5,xx0,xx1,xx2,reduceIte,xx3,xx4,reduceCtorEq];try rfl) ?_
  rintro ⟨i,ys⟩ ⟨hi1,hi2,hS,hO⟩
  have hi1:a+1≤i:=hi1
  have hi2:i≤b+1:=hi2
  have hyl:ys.length=xs.length:=hS.len
  by_cases hlt:(i:Int)<b
  · have hlt1:i<b:=by omega
    have wi:IntKind.i64.wrap ((i:Int)+1)=((i+1:Nat):Int):=by rw [w64 (by omega)];simp
    simp only [Bzc,Bz12,Bz89,Bz88,decide_eq_true hlt,go_sem,yz0,xx9,xx8,xx6,xx7,xx5,xx0,xx1,xx2,reduceIte,xx3,xx4,reduceCtorEq]
    refine wpD_lo (fun (j,_)=>j) (fun (j,ys)=>a≤j∧j≤i∧Seg a b xs ys∧InsJ a i j ys)
      (fun ((j,ys):Nat×List Int)=>⟨L .any [(0,.own 5000 0),(1,iv a),(2,iv b),(6,iv i),(7,iv j)],L .gone [(5000,.row 0 1 true (intsK .u64 ys))]⟩)
      (i,ys) ⟨by omega,Nat.le_refl _,hS,InsJ.start hO⟩ (by simp only [Bzb,go_sem,yz0,xx9,xx8,xx6,xx7,xx5,xx0,xx1,xx2,reduceIte,xx3,xx4,reduceCtorEq];try rfl) ?_
    rintro ⟨j,zs⟩ ⟨hja,hj,hS2,hI⟩
    have hja:a≤j:=hja
    have hj:j≤i:=hj
    have hI:InsJ a i j zs:=hI
    have hzl:zs.length=xs.length:=hS2.len
    by_cases hj0:(j:Int) > a
    · have hj1:a<j:=by omega
      have wj:IntKind.i64.wrap ((j:Int) - 1)=((j - 1:Nat):Int):=by rw [w64 (by omega)];omega
      have hjl:j<zs.length:=by omega
      have hjl2:j - 1<zs.length:=by omega
      have ge1:=yze (k:=.u64) hjl
      have ge2:=yze (k:=.u64) hjl2
      simp only [Bzb,decide_eq_true hj0,wj,ge1,ge2,go_sem,yz0,xx9,xx8,xx6,xx7,xx5,xx0,xx1,xx2,reduceIte,xx3,xx4,reduceCtorEq]
      intro vs
      refine ⟨⟨by omega,hjl⟩,hjl,⟨by omega,hjl2⟩,hjl2,?_⟩
      refine yzv (k_LessF (zs.getD j 0) (zs.getD (j - 1) 0)) qCS trivial ?_
      by_cases hvx:zs.getD j 0<zs.getD (j - 1) 0
      · simp only [Bza,Bz87,decide_eq_true hvx,wj,ge1,ge2,go_sem,yz0,xx9,xx8,xx6,xx7,xx5,xx0,xx1,xx2,reduceIte,xx3,xx4,reduceCtorEq]
        simp only [intsK_set hjl,List.length_map,List.length_set,intsK_set (xs:=zs.set j (zs.getD (j - 1) 0)) (show j - 1<(zs.set j (zs.getD (j - 1) 0)).length by rw [List.length_set];exact hjl2),go_sem,yz0,xx9,xx8,xx6,xx7,xx5,xx0,xx1,xx2,reduceIte,xx3,xx4,reduceCtorEq]
        refine ⟨⟨by omega,hjl2⟩,hjl2,⟨by omega,hjl⟩,hjl,⟨by omega,hjl⟩,by omega,⟨by omega,hjl2⟩,by omega,?_⟩
        simp only [Bz86,wj,go_sem,yz0,xx9,xx8,xx6,xx7,xx5,xx0,xx1,xx2,reduceIte,xx3,xx4,reduceCtorEq]
        exact ⟨(j - 1,swp zs j (j - 1)),by dsimp only;omega,⟨by dsimp only;omega,by dsimp only;omega,hS2.trans (Seg.swap (by omega) ⟨hja,by omega⟩ ⟨by omega,by omega⟩),hI.step (by omega) ⟨hj1,hj⟩ hvx⟩,rfl⟩
      · simp only [Bza,Bz13,decide_eq_false hvx,wi,go_sem,yz0,xx9,xx8,xx6,xx7,xx5,xx0,xx1,xx2,reduceIte,xx3,xx4,reduceCtorEq]
        exact ⟨(i+1,zs),by dsimp only;omega,⟨by dsimp only;omega,by dsimp only;omega,hS2,hI.stop ⟨hja,hj⟩ fun _=>Int.not_lt.1 hvx⟩,rfl⟩
    · obtain rfl:j=a:=by omega
      simp only [Bzb,Bza,Bz13,decide_eq_false hj0,wi,go_sem,yz0,xx9,xx8,xx6,xx7,xx5,xx0,xx1,xx2,reduceIte,xx3,xx4,reduceCtorEq]
      exact ⟨(i+1,zs),by dsimp only;omega,⟨by dsimp only;omega,by dsimp only;omega,hS2,hI.stop ⟨hja,hj⟩ fun h=>by omega⟩,rfl⟩
  · simp only [Bzc,Bz12,decide_eq_false hlt,Az14,← hQ,go_sem,yz0,xx9,xx8,xx6,xx7,xx5,xx0,xx1,xx2,reduceIte,xx3,xx4,reduceCtorEq]
    refine ⟨[],by simp,by simp,by simp,by simp,rfl,ys,hS,fun p q h1 h2 h3=>hO p q h1 h2 (by omega),?_⟩
    simp only [List.range_zero,List.nil_append,List.map_cons,List.map_nil,Nat.not_lt_zero,range1,yz11,yz15,yz1j,yz1l,yz14,yz1k,yz1i,yz1g,yz16,yzt,yzk,yz6,yzs,yzr,yzo,yzm,yzq,yz7,yza,yzd,yz9,yzf,yzi,yz2,yz5,yz8,yzc,yzh,yzj,List.range_zero,yz3,yz4,yzb,yzp,yzl,yzn,AVal.fresh,freshL,yz1,yzg,AObj.fresh,id,Option.isSome_some,or_true,true_or,go_sem,yz0,xx9,xx8,xx6,xx7,xx5,xx0,xx1,xx2,reduceIte,xx3,xx4,reduceCtorEq]
    try rfl
end Go.Ab
namespace Go.Ab
open Go.Proofs
theorem k_partialIns (ys:List Int) (a b:Nat) (hab:a+1≤b) (hb:b≤ys.length) (hy:ys.length≤40) :
    FunE Try.prog nz4b [.ro none 1 (intsK .u64 ys),iv a,iv b] (fun v=>∃ r:Bool,v=.bool r∧(r=true→Srt a b ys)):=by
  refine funE_of mixed czku rfl ?_
  have wa:IntKind.i64.wrap ((a:Int)+1)=((a+1:Nat):Int):=by rw [w64 (by omega)];omega
  have w0:IntKind.i64.wrap ((b:Int) - a)=((b - a:Nat):Int):=by rw [w64 (by omega)];omega
  have d50:((b - a:Nat):Int)<50:=by omega
  have d05:(0:Int)<5:=by omega
  simp only [Azh1,Bzh0,Bzgz,Bzgy,wa,go_sem,yz0,xx9,xx8,xx6,xx7,xx5,xx0,xx1,xx2,reduceIte,xx3,xx4,reduceCtorEq]
  refine wpD_lo (fun _:Unit=>0) (fun _=>True)
    (fun _:Unit=>⟨L .any [(0,.ro none 1 (intsK .u64 ys)),(1,iv a),(2,iv b),(7,iv (a+1:Nat)),(8,iv 0)],L .gone []⟩)
    () trivial (by simp only [Bz8l,go_sem,yz0,xx9,xx8,xx6,xx7,xx5,xx0,xx1,xx2,reduceIte,xx3,xx4,reduceCtorEq];try rfl) ?_
  rintro _ _
  simp only [Bz8l,Bzgt,Bzgx,decide_eq_true d05,go_sem,yz0,xx9,xx8,xx6,xx7,xx5,xx0,xx1,xx2,reduceIte,xx3,xx4,reduceCtorEq]
  refine wpD_lo (fun i=>b - i) (fun i=>a+1≤i∧i≤b∧Srt a i ys)
    (fun i:Nat=>⟨L .any [(0,.ro none 1 (intsK .u64 ys)),(1,iv a),(2,iv b),(7,iv i),(8,iv 0)],L .gone []⟩)
    (a+1) ⟨Nat.le_refl _,hab,fun p q h1 h2 h3=>by omega⟩ (by simp only [Bz2x,go_sem,yz0,xx9,xx8,xx6,xx7,xx5,xx0,xx1,xx2,reduceIte,xx3,xx4,reduceCtorEq];try rfl) ?_
  rintro i ⟨h1,h2,hS⟩
  by_cases hlt:(i:Int)<b
  · have hlt1:i<b:=by omega
    have wi:IntKind.i64.wrap ((i:Int)+1)=((i+1:Nat):Int):=by rw [w64 (by omega)];omega
    have wj:IntKind.i64.wrap ((i:Int) - 1)=((i - 1:Nat):Int):=by rw [w64 (by omega)];omega
    have hi1:i<ys.length:=by omega
    have hi2:i - 1<ys.length:=by omega
    have ge1:=yze (k:=.u64) hi1
    have ge2:=yze (k:=.u64) hi2
    simp only [Bz2x,decide_eq_true hlt,wj,ge1,ge2,go_sem,yz0,xx9,xx8,xx6,xx7,xx5,xx0,xx1,xx2,reduceIte,xx3,xx4,reduceCtorEq]
    intro vs
    refine ⟨⟨by omega,hi1⟩,hi1,⟨by omega,hi2⟩,hi2,?_⟩
    refine yzv (k_LessF (ys.getD i 0) (ys.getD (i - 1) 0)) qCS trivial ?_
    by_cases hv:ys.getD i 0<ys.getD (i - 1) 0
    · have hbi:((i:Int) == b)=false:=by rw [beq_eq_false_iff_ne];omega
      simp only [Bz2w,Bz8k,Bz8j,Bzgw,Bzgv,decide_eq_true hv,hbi,w0,decide_eq_true d50,Bool.not_true,go_sem,yz0,xx9,xx8,xx6,xx7,xx5,xx0,xx1,xx2,reduceIte,xx3,xx4,reduceCtorEq]
      exact ⟨_,rfl,false,rfl,fun h=>by cases h⟩
    · simp only [Bz2w,Bzgu,decide_eq_false hv,Bool.not_false,wi,go_sem,yz0,xx9,xx8,xx6,xx7,xx5,xx0,xx1,xx2,reduceIte,xx3,xx4,reduceCtorEq]
      refine ⟨i+1,by omega,⟨by omega,by omega,fun p q g1 g2 g3=>?_⟩,rfl⟩
      by_cases hq:q=i
      · rw [hq]
        by_cases hp:p=i - 1
        · rw [hp];exact Int.not_lt.1 hv
        · have:=hS p (i - 1) g1 (by omega) (by omega)
          exact Int.le_trans this (Int.not_lt.1 hv)
      · exact hS p q g1 g2 (by omega)
  · obtain rfl:i=b:=by omega
    have hbi:((i:Int) == i)=true:=by simp
    simp only [Bz2x,Bz2w,Bz8k,Bz8j,decide_eq_false hlt,hbi,go_sem,yz0,xx9,xx8,xx6,xx7,xx5,xx0,xx1,xx2,reduceIte,xx3,xx4,reduceCtorEq]
    exact ⟨_,rfl,true,rfl,fun _=>hS⟩
theorem yz12 {P:Program} {ts hs:List Nat} {a:AC} {Q:AEx→St→Prop} {σ σ':St} (h:σ.kd ts hs=σ'.kd ts hs) (h':wpD P (.kp ts hs (.dn a)) Q σ'):wpD P (.kp ts hs (.dn a)) Q σ:=by
  show wpD P a Q ((σ.keep ts hs).dn)
  rw [kd_eq,h,← kd_eq];exact h'
structure PtI (a b:Nat) (xs ys:List Int) (i j:Nat):Prop where
  seg:Seg a b xs ys
  i1:a+1≤i
  ij:i≤j+1
  jb:j+1≤b
  lo:∀ k,a+1≤k→k<i→ys.getD k 0<ys.getD a 0
  hi:∀ k,j<k→k<b→ys.getD a 0≤ys.getD k 0
theorem PtI.up {a b i j:Nat} {xs ys:List Int} (h:PtI a b xs ys i j) (hij:i≤j) (hv:ys.getD i 0<ys.getD a 0):PtI a b xs ys (i+1) j :=
  ⟨h.seg,by have:=h.i1;omega,by omega,h.jb,fun k h1 h2=>by
    by_cases e:k=i
    · rw [e];exact hv
    · exact h.lo k h1 (by omega),h.hi⟩
theorem PtI.down {a b i j:Nat} {xs ys:List Int} (h:PtI a b xs ys i j) (hij:i≤j) (hv:¬ ys.getD j 0<ys.getD a 0):PtI a b xs ys i (j - 1) :=
  ⟨h.seg,h.i1,by have:=h.i1;omega,by have:=h.jb;omega,h.lo,fun k h1 h2=>by
    by_cases e:k=j
    · rw [e];omega
    · exact h.hi k (by omega) h2⟩
theorem PtI.swap {a b i j:Nat} {xs ys:List Int} (h:PtI a b xs ys i j) (hb:b≤ys.length) (hij:i≤j) (hv:¬ ys.getD i 0<ys.getD a 0) (hw:ys.getD j 0<ys.getD a 0):PtI a b xs (swp ys i j) (i+1) (j - 1):=by
  have h1:=h.i1
  have h2:=h.jb
  have hne:i≠j:=fun e=>by rw [e] at hv;exact hv hw
  have e:=fun k=>swp_at (ys:=ys) (i:=i) (j:=j) (k:=k) (by omega) (by omega)
  refine ⟨h.seg.trans (Seg.swap hb (by omega) (by omega)),by omega,by omega,by omega,fun k g1 g2=>?_,fun k g1 g2=>?_⟩
  · rw [e k,e a,if_neg (show ¬ j=k by omega),if_neg (show ¬ j=a by omega),if_neg (show ¬ i=a by omega)]
    by_cases ek:i=k
    · rw [if_pos ek];exact hw
    · rw [if_neg ek];exact h.lo k g1 (by omega)
  · rw [e k,e a,if_neg (show ¬ j=a by omega),if_neg (show ¬ i=a by omega)]
    by_cases ek:j=k
    · rw [if_pos ek];omega
    · rw [if_neg ek,if_neg (show ¬ i=k by omega)];exact h.hi k (by omega) g2
theorem PtI.fin {a b i j:Nat} {xs ys:List Int} (h:PtI a b xs ys i j) (hb:b≤ys.length) (hij:¬ i≤j):Seg a b xs (swp ys j a)∧(∀ k,a≤k→k<j→(swp ys j a).getD k 0≤(swp ys j a).getD j 0)∧(∀ k,j<k→k<b→(swp ys j a).getD j 0≤(swp ys j a).getD k 0)∧a≤j∧j<b:=by
  have h1:=h.i1
  have h2:=h.jb
  have h3:=h.ij
  have e:=fun k=>swp_at (ys:=ys) (i:=j) (j:=a) (k:=k) (by omega) (by omega)
  have ej:(swp ys j a).getD j 0=ys.getD a 0:=by
    rw [e j]
    by_cases hja:a=j
    · rw [if_pos hja,hja]
    · rw [if_neg hja,if_pos rfl]
  refine ⟨h.seg.trans (Seg.swap hb (by omega) (by omega)),fun k g1 g2=>?_,fun k g1 g2=>?_,by omega,by omega⟩
  · rw [ej,e k]
    by_cases ek:a=k
    · rw [if_pos ek];exact Int.le_of_lt (h.lo j (by omega) (by omega))
    · rw [if_neg ek,if_neg (show ¬ j=k by omega)];exact Int.le_of_lt (h.lo k (by omega) (by omega))
  · rw [ej,e k,if_neg (show ¬ a=k by omega),if_neg (show ¬ j=k by omega)]
    exact h.hi k g1 g2
theorem k_partition (xs:List Int) (a b p:Nat) (hab:a+2≤b) (hap:a≤p) (hpb:p<b) (hb:b≤xs.length) (hl:xs.length≤40):Con Try.prog nz4d [.row 0 1 true (intsK .u64 xs)] [.own 5000 0,iv a,iv b,iv p] true
    fun outs rows res=>rows=[]∧∃ (ys:List Int) (m:Nat) (r:Bool),Seg a b xs ys∧(∀ k,a≤k→k<m→ys.getD k 0≤ys.getD m 0)∧(∀ k,m<k→k<b→ys.getD m 0≤ys.getD k 0)∧(a≤m∧m<b)∧res=.tup [iv m,bv r]∧outs=[.row 0 1 true (intsK .u64 ys)]:=by
  refine con_sh mixed czkx rfl (by simp) ?_
  generalize hQ:finQ _=Q
  have fin31:∀ (i j:Nat) (ys:List Int),PtI a b xs ys i j→¬ i≤j→wpD Try.prog Bz8w Q ⟨L .any [(0,.own 5000 0),(1,iv a),(11,iv j)],L .gone [(5000,.row 0 1 true (intsK .u64 ys))]⟩:=by
    intro i j ys h hij
    have i1:=h.i1
    have ij:=h.ij
    have jb:=h.jb
    have hyl:ys.length=xs.length:=h.seg.len
    have hal:a<ys.length:=by omega
    have ga:=yze (k:=.u64) hal
    obtain ⟨f1,f2,f3,f4,f5⟩:=h.fin (by omega) hij
    have hx:j<ys.length:=by omega
    have hy:a<ys.length:=by omega
    have gx:=yze (k:=.u64) hx
    have gy:=yze (k:=.u64) hy
    have hst:=intsK_set (k:=.u64) (v:=ys.getD a 0) hx
    have hst2:=intsK_set (k:=.u64) (xs:=ys.set j (ys.getD a 0)) (i:=a) (v:=ys.getD j 0) (by rw [List.length_set];exact hy)
    simp only [Bz8w,Bzhh,gx,gy,hst,hst2,List.length_map,List.length_set,Az3d,← hQ,go_sem,yz0,xx9,xx8,xx6,xx7,xx5,xx0,xx1,xx2,reduceIte,xx3,xx4,reduceCtorEq]
    exact ⟨⟨by omega,hy⟩,hy,⟨by omega,hx⟩,hx,⟨by omega,hx⟩,by omega,⟨by omega,hy⟩,by omega,[],by simp,by simp,by simp,by simp,swp ys j a,j,false,f1,f2,f3,⟨f4,f5⟩,by simp [AVal.ren,renL],by simp only [List.range_zero,List.nil_append,List.map_cons,List.map_nil,Nat.not_lt_zero,range1,yz11,yz15,yz1j,yz1l,yz14,yz1k,yz1i,yz1g,yz16,yzt,yzk,yz6,yzs,yzr,yzo,yzm,yzq,yz7,yza,yzd,yz9,yzf,yzi,yz2,yz5,yz8,yzc,yzh,yzj,List.range_zero,yz3,yz4,yzb,yzp,yzl,yzn,AVal.fresh,freshL,yz1,yzg,AObj.fresh,id,Option.isSome_some,or_true,true_or,go_sem,yz0,xx9,xx8,xx6,xx7,xx5,xx0,xx1,xx2,reduceIte,xx3,xx4,reduceCtorEq];try rfl⟩
  have t17:∀ (i j:Nat) (ys:List Int),PtI a b xs ys i j→wpD Try.prog Bz8x Q ⟨L .any [(0,.own 5000 0),(1,iv a),(10,iv i),(11,iv j)],L .gone [(5000,.row 0 1 true (intsK .u64 ys))]⟩:=by
    intro i j ys h
    simp only [Bz8x,go_sem,yz0,xx9,xx8,xx6,xx7,xx5,xx0,xx1,xx2,reduceIte,xx3,xx4,reduceCtorEq]
    refine wpD_lo (fun x:Nat×Nat×List Int=>x.2.1+1 - x.1) (fun x=>PtI a b xs x.2.2 x.1 x.2.1) (fun x:Nat×Nat×List Int=>⟨L .any [(0,.own 5000 0),(1,iv a),(10,iv x.1),(11,iv x.2.1)],L .gone [(5000,.row 0 1 true (intsK .u64 x.2.2))]⟩) (i,j,ys) h (by simp only [Bz8v,go_sem,yz0,xx9,xx8,xx6,xx7,xx5,xx0,xx1,xx2,reduceIte,xx3,xx4,reduceCtorEq];try rfl) ?_
    rintro ⟨i0,j0,ys0⟩ h
    dsimp only at h ⊢
    simp only [Bz8v,go_sem,yz0,xx9,xx8,xx6,xx7,xx5,xx0,xx1,xx2,reduceIte,xx3,xx4,reduceCtorEq]
    generalize hR:blockQ 5 _=R
    have t28:∀ (i j:Nat) (ys:List Int),PtI a b xs ys i j→j+1 - i≤j0+1 - i0→i≤j→¬ ys.getD i 0<ys.getD a 0→ys.getD j 0<ys.getD a 0→wpD Try.prog Bz8u R ⟨L .any [(0,.own 5000 0),(1,iv a),(10,iv i),(11,iv j)],L .gone [(5000,.row 0 1 true (intsK .u64 ys))]⟩:=by
      intro i j ys h hm hij hv hw
      have i1:=h.i1
      have ij:=h.ij
      have jb:=h.jb
      have hyl:ys.length=xs.length:=h.seg.len
      have hal:a<ys.length:=by omega
      have ga:=yze (k:=.u64) hal
      have hsw:=h.swap (by omega) hij hv hw
      have hx:i<ys.length:=by omega
      have hy:j<ys.length:=by omega
      have gx:=yze (k:=.u64) hx
      have gy:=yze (k:=.u64) hy
      have hst:=intsK_set (k:=.u64) (v:=ys.getD j 0) hx
      have hst2:=intsK_set (k:=.u64) (xs:=ys.set i (ys.getD j 0)) (i:=j) (v:=ys.getD i 0) (by rw [List.length_set];exact hy)
      have wi:IntKind.i64.wrap ((i:Int)+1)=((i+1:Nat):Int):=by rw [w64 (by omega)];omega
      have wj:IntKind.i64.wrap ((j:Int) - 1)=((j - 1:Nat):Int):=by rw [w64 (by omega)];omega
      simp only [Bz8u,Bzhg,Bzhf,gx,gy,hst,hst2,wi,wj,List.length_map,List.length_set,← hR,go_sem,yz0,xx9,xx8,xx6,xx7,xx5,xx0,xx1,xx2,reduceIte,xx3,xx4,reduceCtorEq]
      exact ⟨⟨by omega,hy⟩,hy,⟨by omega,hx⟩,hx,⟨by omega,hx⟩,by omega,⟨by omega,hy⟩,by omega,(i+1,j - 1,swp ys i j),by show j - 1+1 - (i+1)<j0+1 - i0;omega,hsw,rfl⟩
    have t26:∀ (i j:Nat) (ys:List Int),PtI a b xs ys i j→j+1 - i≤j0+1 - i0→(i≤j→¬ ys.getD i 0<ys.getD a 0)→(i≤j→ys.getD j 0<ys.getD a 0)→wpD Try.prog Bz3a R ⟨L .any [(0,.own 5000 0),(1,iv a),(10,iv i),(11,iv j)],L .gone [(5000,.row 0 1 true (intsK .u64 ys))]⟩:=by
      intro i j ys h hm hi hj
      have i1:=h.i1
      have ij:=h.ij
      have jb:=h.jb
      have hyl:ys.length=xs.length:=h.seg.len
      have hal:a<ys.length:=by omega
      have ga:=yze (k:=.u64) hal
      by_cases hij:(i:Int) > j
      · simp only [Bz3a,Bz8t,decide_eq_true hij,← hR,go_sem,yz0,xx9,xx8,xx6,xx7,xx5,xx0,xx1,xx2,reduceIte,xx3,xx4,reduceCtorEq]
        exact yz12 (by simp only [go_sem,yz0,xx9,xx8,xx6,xx7,xx5,xx0,xx1,xx2,reduceIte,xx3,xx4,reduceCtorEq]) (fin31 i j ys h (by omega))
      · simp only [Bz3a,Bz8t,decide_eq_false hij,go_sem,yz0,xx9,xx8,xx6,xx7,xx5,xx0,xx1,xx2,reduceIte,xx3,xx4,reduceCtorEq]
        exact yz12 (by simp only [go_sem,yz0,xx9,xx8,xx6,xx7,xx5,xx0,xx1,xx2,reduceIte,xx3,xx4,reduceCtorEq]) (t28 i j ys h hm (by omega) (hi (by omega)) (hj (by omega)))
    have t22:∀ (i j:Nat) (ys:List Int),PtI a b xs ys i j→j+1 - i≤j0+1 - i0→(i≤j→¬ ys.getD i 0<ys.getD a 0)→wpD Try.prog Bz3b R ⟨L .any [(0,.own 5000 0),(1,iv a),(10,iv i),(11,iv j)],L .gone [(5000,.row 0 1 true (intsK .u64 ys))]⟩:=by
      intro i j ys h hm hi
      simp only [Bz3b,go_sem,yz0,xx9,xx8,xx6,xx7,xx5,xx0,xx1,xx2,reduceIte,xx3,xx4,reduceCtorEq]
      refine wpD_lo (fun j=>j) (fun j=>(PtI a b xs ys i j∧j+1 - i≤j0+1 - i0)∧(i≤j→¬ ys.getD i 0<ys.getD a 0)) (fun j:Nat=>⟨L .any [(0,.own 5000 0),(1,iv a),(10,iv i),(11,iv j)],L .gone [(5000,.row 0 1 true (intsK .u64 ys))]⟩) j ⟨⟨h,hm⟩,hi⟩ (by simp only [Bz39,go_sem,yz0,xx9,xx8,xx6,xx7,xx5,xx0,xx1,xx2,reduceIte,xx3,xx4,reduceCtorEq];try rfl) ?_
      rintro j ⟨⟨h,hm⟩,hi⟩
      have i1:=h.i1
      have ij:=h.ij
      have jb:=h.jb
      have hyl:ys.length=xs.length:=h.seg.len
      have hal:a<ys.length:=by omega
      have ga:=yze (k:=.u64) hal
      by_cases hij:(i:Int)≤j
      · have hij1:i≤j:=by omega
        have hvl:j<ys.length:=by omega
        have gv:=yze (k:=.u64) hvl
        have wv:IntKind.i64.wrap ((j:Int) - 1)=((j - 1:Nat):Int):=by rw [w64 (by omega)];omega
        simp only [Bz39,decide_eq_true hij,ga,gv,go_sem,yz0,xx9,xx8,xx6,xx7,xx5,xx0,xx1,xx2,reduceIte,xx3,xx4,reduceCtorEq]
        intro vs
        refine ⟨⟨by omega,hvl⟩,hvl,⟨by omega,hal⟩,hal,?_⟩
        refine yzv (k_LessF (ys.getD j 0) (ys.getD a 0)) qCS trivial ?_
        by_cases hv:ys.getD j 0<ys.getD a 0
        · simp only [Bz38,decide_eq_true hv,Bool.not_true,go_sem,yz0,xx9,xx8,xx6,xx7,xx5,xx0,xx1,xx2,reduceIte,xx3,xx4,reduceCtorEq]
          exact yz12 (by simp only [go_sem,yz0,xx9,xx8,xx6,xx7,xx5,xx0,xx1,xx2,reduceIte,xx3,xx4,reduceCtorEq]) (t26 i j ys h hm hi (fun _=>hv))
        · simp only [Bz38,Bzhe,decide_eq_false hv,Bool.not_false,wv,go_sem,yz0,xx9,xx8,xx6,xx7,xx5,xx0,xx1,xx2,reduceIte,xx3,xx4,reduceCtorEq]
          exact ⟨j - 1,by omega,⟨⟨h.down hij1 hv,by omega⟩,fun g=>hi hij1⟩,rfl⟩
      · simp only [Bz39,Bz38,decide_eq_false hij,go_sem,yz0,xx9,xx8,xx6,xx7,xx5,xx0,xx1,xx2,reduceIte,xx3,xx4,reduceCtorEq]
        exact yz12 (by simp only [go_sem,yz0,xx9,xx8,xx6,xx7,xx5,xx0,xx1,xx2,reduceIte,xx3,xx4,reduceCtorEq]) (t26 i j ys h hm hi (fun g=>absurd g (by omega)))
    have t19:∀ (i j:Nat) (ys:List Int),PtI a b xs ys i j→j+1 - i≤j0+1 - i0→wpD Try.prog (AC.loop Bz16) (blockQ 6 (seqQ (wpD Try.prog Bz3b) R)) ⟨L .any [(0,.own 5000 0),(1,iv a),(10,iv i),(11,iv j)],L .gone [(5000,.row 0 1 true (intsK .u64 ys))]⟩:=by
      intro i j ys h hm
      refine wpD_lo (fun i=>j+1 - i) (fun i=>PtI a b xs ys i j∧j+1 - i≤j0+1 - i0) (fun i:Nat=>⟨L .any [(0,.own 5000 0),(1,iv a),(10,iv i),(11,iv j)],L .gone [(5000,.row 0 1 true (intsK .u64 ys))]⟩) i ⟨h,hm⟩ (by simp only [Bz16,go_sem,yz0,xx9,xx8,xx6,xx7,xx5,xx0,xx1,xx2,reduceIte,xx3,xx4,reduceCtorEq];try rfl) ?_
      rintro i ⟨h,hm⟩
      have i1:=h.i1
      have ij:=h.ij
      have jb:=h.jb
      have hyl:ys.length=xs.length:=h.seg.len
      have hal:a<ys.length:=by omega
      have ga:=yze (k:=.u64) hal
      by_cases hij:(i:Int)≤j
      · have hij1:i≤j:=by omega
        have hvl:i<ys.length:=by omega
        have gv:=yze (k:=.u64) hvl
        have wv:IntKind.i64.wrap ((i:Int)+1)=((i+1:Nat):Int):=by rw [w64 (by omega)];omega
        simp only [Bz16,decide_eq_true hij,ga,gv,go_sem,yz0,xx9,xx8,xx6,xx7,xx5,xx0,xx1,xx2,reduceIte,xx3,xx4,reduceCtorEq]
        intro vs
        refine ⟨⟨by omega,hvl⟩,hvl,⟨by omega,hal⟩,hal,?_⟩
        refine yzv (k_LessF (ys.getD i 0) (ys.getD a 0)) qCS trivial ?_
        by_cases hv:ys.getD i 0<ys.getD a 0
        · simp only [Bz37,Bzhd,decide_eq_true hv,wv,go_sem,yz0,xx9,xx8,xx6,xx7,xx5,xx0,xx1,xx2,reduceIte,xx3,xx4,reduceCtorEq]
          exact ⟨i+1,by omega,⟨h.up hij1 hv,by omega⟩,rfl⟩
        · simp only [Bz37,decide_eq_false hv,go_sem,yz0,xx9,xx8,xx6,xx7,xx5,xx0,xx1,xx2,reduceIte,xx3,xx4,reduceCtorEq]
          exact yz12 (by simp only [go_sem,yz0,xx9,xx8,xx6,xx7,xx5,xx0,xx1,xx2,reduceIte,xx3,xx4,reduceCtorEq]) (t22 i j ys h hm (fun _=>hv))
      · simp only [Bz16,Bz37,decide_eq_false hij,go_sem,yz0,xx9,xx8,xx6,xx7,xx5,xx0,xx1,xx2,reduceIte,xx3,xx4,reduceCtorEq]
        exact yz12 (by simp only [go_sem,yz0,xx9,xx8,xx6,xx7,xx5,xx0,xx1,xx2,reduceIte,xx3,xx4,reduceCtorEq]) (t22 i j ys h hm (fun g=>absurd g (by omega)))
    exact t19 i0 j0 ys0 h (Nat.le_refl _)
  have t11:∀ (i j:Nat) (ys:List Int),PtI a b xs ys i j→j+1 - i≤xs.length→(i≤j→¬ ys.getD i 0<ys.getD a 0)→(i≤j→ys.getD j 0<ys.getD a 0)→wpD Try.prog Bz3c Q ⟨L .any [(0,.own 5000 0),(1,iv a),(10,iv i),(11,iv j)],L .gone [(5000,.row 0 1 true (intsK .u64 ys))]⟩:=by
    intro i j ys h hm hi hj
    have i1:=h.i1
    have ij:=h.ij
    have jb:=h.jb
    have hyl:ys.length=xs.length:=h.seg.len
    have hal:a<ys.length:=by omega
    have ga:=yze (k:=.u64) hal
    by_cases hij:(i:Int) > j
    · obtain ⟨f1,f2,f3,f4,f5⟩:=h.fin (by omega) (by omega)
      have hx:j<ys.length:=by omega
      have hy:a<ys.length:=by omega
      have gx:=yze (k:=.u64) hx
      have gy:=yze (k:=.u64) hy
      have hst:=intsK_set (k:=.u64) (v:=ys.getD a 0) hx
      have hst2:=intsK_set (k:=.u64) (xs:=ys.set j (ys.getD a 0)) (i:=a) (v:=ys.getD j 0) (by rw [List.length_set];exact hy)
      simp only [Bz3c,Bz8s,Bzhc,decide_eq_true hij,gx,gy,hst,hst2,List.length_map,List.length_set,Az3d,← hQ,go_sem,yz0,xx9,xx8,xx6,xx7,xx5,xx0,xx1,xx2,reduceIte,xx3,xx4,reduceCtorEq]
      exact ⟨⟨by omega,hy⟩,hy,⟨by omega,hx⟩,hx,⟨by omega,hx⟩,by omega,⟨by omega,hy⟩,by omega,[],by simp,by simp,by simp,by simp,swp ys j a,j,true,f1,f2,f3,⟨f4,f5⟩,by simp [AVal.ren,renL],by simp only [List.range_zero,List.nil_append,List.map_cons,List.map_nil,Nat.not_lt_zero,range1,yz11,yz15,yz1j,yz1l,yz14,yz1k,yz1i,yz1g,yz16,yzt,yzk,yz6,yzs,yzr,yzo,yzm,yzq,yz7,yza,yzd,yz9,yzf,yzi,yz2,yz5,yz8,yzc,yzh,yzj,List.range_zero,yz3,yz4,yzb,yzp,yzl,yzn,AVal.fresh,freshL,yz1,yzg,AObj.fresh,id,Option.isSome_some,or_true,true_or,go_sem,yz0,xx9,xx8,xx6,xx7,xx5,xx0,xx1,xx2,reduceIte,xx3,xx4,reduceCtorEq];try rfl⟩
    · have hij1:i≤j:=by omega
      have hsw:=h.swap (by omega) hij1 (hi hij1) (hj hij1)
      have hx:i<ys.length:=by omega
      have hy:j<ys.length:=by omega
      have gx:=yze (k:=.u64) hx
      have gy:=yze (k:=.u64) hy
      have hst:=intsK_set (k:=.u64) (v:=ys.getD j 0) hx
      have hst2:=intsK_set (k:=.u64) (xs:=ys.set i (ys.getD j 0)) (i:=j) (v:=ys.getD i 0) (by rw [List.length_set];exact hy)
      have wi:IntKind.i64.wrap ((i:Int)+1)=((i+1:Nat):Int):=by rw [w64 (by omega)];omega
      have wj:IntKind.i64.wrap ((j:Int) - 1)=((j - 1:Nat):Int):=by rw [w64 (by omega)];omega
      simp only [Bz3c,Bz8s,Bzhk,Bzhj,Bzhi,decide_eq_false hij,gx,gy,hst,hst2,wi,wj,List.length_map,List.length_set,go_sem,yz0,xx9,xx8,xx6,xx7,xx5,xx0,xx1,xx2,reduceIte,xx3,xx4,reduceCtorEq]
      exact ⟨⟨by omega,hy⟩,hy,⟨by omega,hx⟩,hx,⟨by omega,hx⟩,by omega,⟨by omega,hy⟩,by omega,yz12 (by simp only [go_sem,yz0,xx9,xx8,xx6,xx7,xx5,xx0,xx1,xx2,reduceIte,xx3,xx4,reduceCtorEq];try rfl) (t17 (i+1) (j - 1) (swp ys i j) hsw)⟩
  have t7:∀ (i j:Nat) (ys:List Int),PtI a b xs ys i j→j+1 - i≤xs.length→(i≤j→¬ ys.getD i 0<ys.getD a 0)→wpD Try.prog Bz8y Q ⟨L .any [(0,.own 5000 0),(1,iv a),(10,iv i),(11,iv j)],L .gone [(5000,.row 0 1 true (intsK .u64 ys))]⟩:=by
    intro i j ys h hm hi
    simp only [Bz8y,go_sem,yz0,xx9,xx8,xx6,xx7,xx5,xx0,xx1,xx2,reduceIte,xx3,xx4,reduceCtorEq]
    refine wpD_lo (fun j=>j) (fun j=>(PtI a b xs ys i j∧j+1 - i≤xs.length)∧(i≤j→¬ ys.getD i 0<ys.getD a 0)) (fun j:Nat=>⟨L .any [(0,.own 5000 0),(1,iv a),(10,iv i),(11,iv j)],L .gone [(5000,.row 0 1 true (intsK .u64 ys))]⟩) j ⟨⟨h,hm⟩,hi⟩ (by simp only [Bz36,go_sem,yz0,xx9,xx8,xx6,xx7,xx5,xx0,xx1,xx2,reduceIte,xx3,xx4,reduceCtorEq];try rfl) ?_
    rintro j ⟨⟨h,hm⟩,hi⟩
    have i1:=h.i1
    have ij:=h.ij
    have jb:=h.jb
    have hyl:ys.length=xs.length:=h.seg.len
    have hal:a<ys.length:=by omega
    have ga:=yze (k:=.u64) hal
    by_cases hij:(i:Int)≤j
    · have hij1:i≤j:=by omega
      have hvl:j<ys.length:=by omega
      have gv:=yze (k:=.u64) hvl
      have wv:IntKind.i64.wrap ((j:Int) - 1)=((j - 1:Nat):Int):=by rw [w64 (by omega)];omega
      simp only [Bz36,decide_eq_true hij,ga,gv,go_sem,yz0,xx9,xx8,xx6,xx7,xx5,xx0,xx1,xx2,reduceIte,xx3,xx4,reduceCtorEq]
      intro vs
      refine ⟨⟨by omega,hvl⟩,hvl,⟨by omega,hal⟩,hal,?_⟩
      refine yzv (k_LessF (ys.getD j 0) (ys.getD a 0)) qCS trivial ?_
      by_cases hv:ys.getD j 0<ys.getD a 0
      · simp only [Bz35,decide_eq_true hv,Bool.not_true,go_sem,yz0,xx9,xx8,xx6,xx7,xx5,xx0,xx1,xx2,reduceIte,xx3,xx4,reduceCtorEq]
        exact yz12 (by simp only [go_sem,yz0,xx9,xx8,xx6,xx7,xx5,xx0,xx1,xx2,reduceIte,xx3,xx4,reduceCtorEq]) (t11 i j ys h hm hi (fun _=>hv))
      · simp only [Bz35,Bzhb,decide_eq_false hv,Bool.not_false,wv,go_sem,yz0,xx9,xx8,xx6,xx7,xx5,xx0,xx1,xx2,reduceIte,xx3,xx4,reduceCtorEq]
        exact ⟨j - 1,by omega,⟨⟨h.down hij1 hv,by omega⟩,fun g=>hi hij1⟩,rfl⟩
    · simp only [Bz36,Bz35,decide_eq_false hij,go_sem,yz0,xx9,xx8,xx6,xx7,xx5,xx0,xx1,xx2,reduceIte,xx3,xx4,reduceCtorEq]
      exact yz12 (by simp only [go_sem,yz0,xx9,xx8,xx6,xx7,xx5,xx0,xx1,xx2,reduceIte,xx3,xx4,reduceCtorEq]) (t11 i j ys h hm hi (fun g=>absurd g (by omega)))
  have t3:∀ (i j:Nat) (ys:List Int),PtI a b xs ys i j→wpD Try.prog Bz8z Q ⟨L .any [(0,.own 5000 0),(1,iv a),(10,iv i),(11,iv j)],L .gone [(5000,.row 0 1 true (intsK .u64 ys))]⟩:=by
    intro i j ys h
    have hm:j+1 - i≤xs.length:=by
      have:=h.jb
      omega
    simp only [Bz8z,go_sem,yz0,xx9,xx8,xx6,xx7,xx5,xx0,xx1,xx2,reduceIte,xx3,xx4,reduceCtorEq]
    refine wpD_lo (fun i=>j+1 - i) (fun i=>PtI a b xs ys i j∧j+1 - i≤xs.length) (fun i:Nat=>⟨L .any [(0,.own 5000 0),(1,iv a),(10,iv i),(11,iv j)],L .gone [(5000,.row 0 1 true (intsK .u64 ys))]⟩) i ⟨h,hm⟩ (by simp only [Bz34,go_sem,yz0,xx9,xx8,xx6,xx7,xx5,xx0,xx1,xx2,reduceIte,xx3,xx4,reduceCtorEq];try rfl) ?_
    rintro i ⟨h,hm⟩
    have i1:=h.i1
    have ij:=h.ij
    have jb:=h.jb
    have hyl:ys.length=xs.length:=h.seg.len
    have hal:a<ys.length:=by omega
    have ga:=yze (k:=.u64) hal
    by_cases hij:(i:Int)≤j
    · have hij1:i≤j:=by omega
      have hvl:i<ys.length:=by omega
      have gv:=yze (k:=.u64) hvl
      have wv:IntKind.i64.wrap ((i:Int)+1)=((i+1:Nat):Int):=by rw [w64 (by omega)];omega
      simp only [Bz34,decide_eq_true hij,ga,gv,go_sem,yz0,xx9,xx8,xx6,xx7,xx5,xx0,xx1,xx2,reduceIte,xx3,xx4,reduceCtorEq]
      intro vs
      refine ⟨⟨by omega,hvl⟩,hvl,⟨by omega,hal⟩,hal,?_⟩
      refine yzv (k_LessF (ys.getD i 0) (ys.getD a 0)) qCS trivial ?_
      by_cases hv:ys.getD i 0<ys.getD a 0
      · simp only [Bz33,Bzha,decide_eq_true hv,wv,go_sem,yz0,xx9,xx8,xx6,xx7,xx5,xx0,xx1,xx2,reduceIte,xx3,xx4,reduceCtorEq]
        exact ⟨i+1,by omega,⟨h.up hij1 hv,by omega⟩,rfl⟩
      · simp only [Bz33,decide_eq_false hv,go_sem,yz0,xx9,xx8,xx6,xx7,xx5,xx0,xx1,xx2,reduceIte,xx3,xx4,reduceCtorEq]
        exact yz12 (by simp only [go_sem,yz0,xx9,xx8,xx6,xx7,xx5,xx0,xx1,xx2,reduceIte,xx3,xx4,reduceCtorEq]) (t7 i j ys h hm (fun _=>hv))
    · simp only [Bz34,Bz33,decide_eq_false hij,go_sem,yz0,xx9,xx8,xx6,xx7,xx5,xx0,xx1,xx2,reduceIte,xx3,xx4,reduceCtorEq]
      exact yz12 (by simp only [go_sem,yz0,xx9,xx8,xx6,xx7,xx5,xx0,xx1,xx2,reduceIte,xx3,xx4,reduceCtorEq]) (t7 i j ys h hm (fun g=>absurd g (by omega)))
  have hyl:xs.length=xs.length:=rfl
  have hal:a<xs.length:=by omega
  have hpl:p<xs.length:=by omega
  have gx:=yze (k:=.u64) hal
  have gy:=yze (k:=.u64) hpl
  have hst:=intsK_set (k:=.u64) (v:=xs.getD p 0) hal
  have hst2:=intsK_set (k:=.u64) (xs:=xs.set a (xs.getD p 0)) (i:=p) (v:=xs.getD a 0) (by rw [List.length_set];exact hpl)
  have wi:IntKind.i64.wrap ((a:Int)+1)=((a+1:Nat):Int):=by rw [w64 (by omega)];omega
  have wj:IntKind.i64.wrap ((b:Int) - 1)=((b - 1:Nat):Int):=by rw [w64 (by omega)];omega
  simp only [Az3d,Bzhm,Bzhl,gx,gy,hst,hst2,wi,wj,List.length_map,List.length_set,go_sem,yz0,xx9,xx8,xx6,xx7,xx5,xx0,xx1,xx2,reduceIte,xx3,xx4,reduceCtorEq]
  exact ⟨⟨by omega,hpl⟩,hpl,⟨by omega,hal⟩,hal,⟨by omega,hal⟩,by omega,⟨by omega,hpl⟩,by omega,yz12 (by simp only [go_sem,yz0,xx9,xx8,xx6,xx7,xx5,xx0,xx1,xx2,reduceIte,xx3,xx4,reduceCtorEq];try rfl) (t3 (a+1) (b - 1) (swp xs a p)
    ⟨Seg.swap hb (by omega) (by omega),by omega,by omega,by omega,fun k h1 h2=>by omega,fun k h1 h2=>by omega⟩)⟩
end Go.Ab
namespace Go.Ab
open Go.Proofs
structure PE (a b:Nat) (xs ys:List Int) (i j:Nat):Prop where
  seg:Seg a b xs ys
  i1:a+1≤i
  ij:i≤j+1
  jb:j+1≤b
  lo:∀ k,a≤k→k<i→ys.getD k 0≤ys.getD a 0
  hi:∀ k,j<k→k<b→ys.getD a 0<ys.getD k 0
theorem PE.up {a b i j:Nat} {xs ys:List Int} (h:PE a b xs ys i j) (hij:i≤j) (hv:¬ ys.getD a 0<ys.getD i 0):PE a b xs ys (i+1) j :=
  ⟨h.seg,by have:=h.i1;omega,by omega,h.jb,fun k h1 h2=>by
    by_cases e:k=i
    · rw [e];omega
    · exact h.lo k h1 (by omega),h.hi⟩
theorem PE.down {a b i j:Nat} {xs ys:List Int} (h:PE a b xs ys i j) (hij:i≤j) (hv:ys.getD a 0<ys.getD j 0):PE a b xs ys i (j - 1) :=
  ⟨h.seg,h.i1,by have:=h.i1;omega,by have:=h.jb;omega,h.lo,fun k h1 h2=>by
    by_cases e:k=j
    · rw [e];exact hv
    · exact h.hi k (by omega) h2⟩
theorem PE.swap {a b i j:Nat} {xs ys:List Int} (h:PE a b xs ys i j) (hb:b≤ys.length) (hij:i≤j) (hv:ys.getD a 0<ys.getD i 0) (hw:¬ ys.getD a 0<ys.getD j 0):PE a b xs (swp ys i j) (i+1) (j - 1):=by
  have h1:=h.i1
  have h2:=h.jb
  have hne:i≠j:=fun e=>by rw [e] at hv;exact hw hv
  have e:=fun k=>swp_at (ys:=ys) (i:=i) (j:=j) (k:=k) (by omega) (by omega)
  refine ⟨h.seg.trans (Seg.swap hb (by omega) (by omega)),by omega,by omega,by omega,fun k g1 g2=>?_,fun k g1 g2=>?_⟩
  · rw [e k,e a,if_neg (show ¬ j=k by omega),if_neg (show ¬ j=a by omega),if_neg (show ¬ i=a by omega)]
    by_cases ek:i=k
    · rw [if_pos ek];omega
    · rw [if_neg ek];exact h.lo k g1 (by omega)
  · rw [e k,e a,if_neg (show ¬ j=a by omega),if_neg (show ¬ i=a by omega)]
    by_cases ek:j=k
    · rw [if_pos ek];exact hv
    · rw [if_neg ek,if_neg (show ¬ i=k by omega)];exact h.hi k (by omega) g2
theorem k_partitionE (xs:List Int) (a b p:Nat) (hab:a+2≤b) (hap:a≤p) (hpb:p<b) (hb:b≤xs.length) (hl:xs.length≤40):Con Try.prog nz4c [.row 0 1 true (intsK .u64 xs)] [.own 5000 0,iv a,iv b,iv p] true
    fun outs rows res=>rows=[]∧∃ (ys:List Int) (m:Nat),Seg a b xs ys∧(∀ k,a≤k→k<m→ys.getD k 0≤ys.getD a 0)∧(∀ k,m≤k→k<b→ys.getD a 0<ys.getD k 0)∧ys.getD a 0=xs.getD p 0∧(a+1≤m∧m≤b)∧res=iv m∧outs=[.row 0 1 true (intsK .u64 ys)]:=by
  refine con_sh mixed czkw rfl (by simp) ?_
  generalize hQ:finQ _=Q
  have fin17:∀ (i j:Nat) (ys:List Int),PE a b xs ys i j→ys.getD a 0=xs.getD p 0→¬ i≤j→wpD Try.prog Bz8p Q ⟨L .any [(9,iv i)],L .gone [(5000,.row 0 1 true (intsK .u64 ys))]⟩:=by
    intro i j ys h hpv hij
    have i1:=h.i1
    have ij:=h.ij
    have jb:=h.jb
    have hyl:ys.length=xs.length:=h.seg.len
    have hal:a<ys.length:=by omega
    have ga:=yze (k:=.u64) hal
    simp only [Bz8p,Az8r,← hQ,go_sem,yz0,xx9,xx8,xx6,xx7,xx5,xx0,xx1,xx2,reduceIte,xx3,xx4,reduceCtorEq]
    exact ⟨[],by simp,by simp,by simp,by simp,ys,i,h.seg,h.lo,fun k g1 g2=>h.hi k (by omega) g2,hpv,⟨i1,by omega⟩,by simp [AVal.ren],by simp only [List.range_zero,List.nil_append,List.map_cons,List.map_nil,Nat.not_lt_zero,range1,yz11,yz15,yz1j,yz1l,yz14,yz1k,yz1i,yz1g,yz16,yzt,yzk,yz6,yzs,yzr,yzo,yzm,yzq,yz7,yza,yzd,yz9,yzf,yzi,yz2,yz5,yz8,yzc,yzh,yzj,List.range_zero,yz3,yz4,yzb,yzp,yzl,yzn,AVal.fresh,freshL,yz1,yzg,AObj.fresh,id,Option.isSome_some,or_true,true_or,go_sem,yz0,xx9,xx8,xx6,xx7,xx5,xx0,xx1,xx2,reduceIte,xx3,xx4,reduceCtorEq];try rfl⟩
  have t3:∀ (i j:Nat) (ys:List Int),PE a b xs ys i j→ys.getD a 0=xs.getD p 0→wpD Try.prog Bz8q Q ⟨L .any [(0,.own 5000 0),(1,iv a),(9,iv i),(10,iv j)],L .gone [(5000,.row 0 1 true (intsK .u64 ys))]⟩:=by
    intro i j ys h hpv
    simp only [Bz8q,go_sem,yz0,xx9,xx8,xx6,xx7,xx5,xx0,xx1,xx2,reduceIte,xx3,xx4,reduceCtorEq]
    refine wpD_lo (fun x:Nat×Nat×List Int=>x.2.1+1 - x.1) (fun x=>PE a b xs x.2.2 x.1 x.2.1∧x.2.2.getD a 0=xs.getD p 0) (fun x:Nat×Nat×List Int=>⟨L .any [(0,.own 5000 0),(1,iv a),(9,iv x.1),(10,iv x.2.1)],L .gone [(5000,.row 0 1 true (intsK .u64 x.2.2))]⟩) (i,j,ys) ⟨h,hpv⟩ (by simp only [Bz8o,go_sem,yz0,xx9,xx8,xx6,xx7,xx5,xx0,xx1,xx2,reduceIte,xx3,xx4,reduceCtorEq];try rfl) ?_
    rintro ⟨i0,j0,ys0⟩ ⟨h,hpv⟩
    dsimp only at h hpv ⊢
    simp only [Bz8o,go_sem,yz0,xx9,xx8,xx6,xx7,xx5,xx0,xx1,xx2,reduceIte,xx3,xx4,reduceCtorEq]
    generalize hR:blockQ 1 _=R
    have t14:∀ (i j:Nat) (ys:List Int),PE a b xs ys i j→ys.getD a 0=xs.getD p 0→j+1 - i≤j0+1 - i0→i≤j→ys.getD a 0<ys.getD i 0→¬ ys.getD a 0<ys.getD j 0→wpD Try.prog Bz8n R ⟨L .any [(0,.own 5000 0),(1,iv a),(9,iv i),(10,iv j)],L .gone [(5000,.row 0 1 true (intsK .u64 ys))]⟩:=by
      intro i j ys h hpv hm hij hv hw
      have i1:=h.i1
      have ij:=h.ij
      have jb:=h.jb
      have hyl:ys.length=xs.length:=h.seg.len
      have hal:a<ys.length:=by omega
      have ga:=yze (k:=.u64) hal
      have hsw:=h.swap (by omega) hij hv hw
      have hx:i<ys.length:=by omega
      have hy:j<ys.length:=by omega
      have gx:=yze (k:=.u64) hx
      have gy:=yze (k:=.u64) hy
      have hst:=intsK_set (k:=.u64) (v:=ys.getD j 0) hx
      have hst2:=intsK_set (k:=.u64) (xs:=ys.set i (ys.getD j 0)) (i:=j) (v:=ys.getD i 0) (by rw [List.length_set];exact hy)
      have hpv2:(swp ys i j).getD a 0=xs.getD p 0:=by
        rw [swp_at hx hy,if_neg (show ¬ j=a by omega),if_neg (show ¬ i=a by omega)];exact hpv
      have wi:IntKind.i64.wrap ((i:Int)+1)=((i+1:Nat):Int):=by rw [w64 (by omega)];omega
      have wj:IntKind.i64.wrap ((j:Int) - 1)=((j - 1:Nat):Int):=by rw [w64 (by omega)];omega
      simp only [Bz8n,Bzh7,Bzh6,gx,gy,hst,hst2,wi,wj,List.length_map,List.length_set,← hR,go_sem,yz0,xx9,xx8,xx6,xx7,xx5,xx0,xx1,xx2,reduceIte,xx3,xx4,reduceCtorEq]
      exact ⟨⟨by omega,hy⟩,hy,⟨by omega,hx⟩,hx,⟨by omega,hx⟩,by omega,⟨by omega,hy⟩,by omega,(i+1,j - 1,swp ys i j),by show j - 1+1 - (i+1)<j0+1 - i0;omega,⟨hsw,hpv2⟩,rfl⟩
    have t12:∀ (i j:Nat) (ys:List Int),(PE a b xs ys i j∧ys.getD a 0=xs.getD p 0)→j+1 - i≤j0+1 - i0→(i≤j→ys.getD a 0<ys.getD i 0)→(i≤j→¬ ys.getD a 0<ys.getD j 0)→wpD Try.prog Bz31 R ⟨L .any [(0,.own 5000 0),(1,iv a),(9,iv i),(10,iv j)],L .gone [(5000,.row 0 1 true (intsK .u64 ys))]⟩:=by
      rintro i j ys ⟨h,hpv⟩ hm hi hj
      have i1:=h.i1
      have ij:=h.ij
      have jb:=h.jb
      have hyl:ys.length=xs.length:=h.seg.len
      have hal:a<ys.length:=by omega
      have ga:=yze (k:=.u64) hal
      by_cases hij:(i:Int) > j
      · simp only [Bz31,Bz8m,decide_eq_true hij,← hR,go_sem,yz0,xx9,xx8,xx6,xx7,xx5,xx0,xx1,xx2,reduceIte,xx3,xx4,reduceCtorEq]
        exact yz12 (by simp only [go_sem,yz0,xx9,xx8,xx6,xx7,xx5,xx0,xx1,xx2,reduceIte,xx3,xx4,reduceCtorEq]) (fin17 i j ys h hpv (by omega))
      · simp only [Bz31,Bz8m,decide_eq_false hij,go_sem,yz0,xx9,xx8,xx6,xx7,xx5,xx0,xx1,xx2,reduceIte,xx3,xx4,reduceCtorEq]
        exact yz12 (by simp only [go_sem,yz0,xx9,xx8,xx6,xx7,xx5,xx0,xx1,xx2,reduceIte,xx3,xx4,reduceCtorEq]) (t14 i j ys h hpv hm (by omega) (hi (by omega)) (hj (by omega)))
    have t8:∀ (i j:Nat) (ys:List Int),PE a b xs ys i j→ys.getD a 0=xs.getD p 0→j+1 - i≤j0+1 - i0→(i≤j→ys.getD a 0<ys.getD i 0)→wpD Try.prog Bz32 R ⟨L .any [(0,.own 5000 0),(1,iv a),(9,iv i),(10,iv j)],L .gone [(5000,.row 0 1 true (intsK .u64 ys))]⟩:=by
      intro i j ys h hpv hm hi
      simp only [Bz32,go_sem,yz0,xx9,xx8,xx6,xx7,xx5,xx0,xx1,xx2,reduceIte,xx3,xx4,reduceCtorEq]
      refine wpD_lo (fun j=>j) (fun j=>(PE a b xs ys i j∧j+1 - i≤j0+1 - i0)∧(i≤j→ys.getD a 0<ys.getD i 0)) (fun j:Nat=>⟨L .any [(0,.own 5000 0),(1,iv a),(9,iv i),(10,iv j)],L .gone [(5000,.row 0 1 true (intsK .u64 ys))]⟩) j ⟨⟨h,hm⟩,hi⟩ (by simp only [Bz30,go_sem,yz0,xx9,xx8,xx6,xx7,xx5,xx0,xx1,xx2,reduceIte,xx3,xx4,reduceCtorEq];try rfl) ?_
      rintro j ⟨⟨h,hm⟩,hi⟩
      have i1:=h.i1
      have ij:=h.ij
      have jb:=h.jb
      have hyl:ys.length=xs.length:=h.seg.len
      have hal:a<ys.length:=by omega
      have ga:=yze (k:=.u64) hal
      by_cases hij:(i:Int)≤j
      · have hij1:i≤j:=by omega
        have hvl:j<ys.length:=by omega
        have gv:=yze (k:=.u64) hvl
        have wv:IntKind.i64.wrap ((j:Int) - 1)=((j - 1:Nat):Int):=by rw [w64 (by omega)];omega
        simp only [Bz30,decide_eq_true hij,ga,gv,go_sem,yz0,xx9,xx8,xx6,xx7,xx5,xx0,xx1,xx2,reduceIte,xx3,xx4,reduceCtorEq]
        intro vs
        refine ⟨⟨by omega,hal⟩,hal,⟨by omega,hvl⟩,hvl,?_⟩
        refine yzv (k_LessF (ys.getD a 0) (ys.getD j 0)) qCS trivial ?_
        by_cases hv:ys.getD a 0<ys.getD j 0
        · simp only [Bz2z,Bzh5,decide_eq_true hv,wv,go_sem,yz0,xx9,xx8,xx6,xx7,xx5,xx0,xx1,xx2,reduceIte,xx3,xx4,reduceCtorEq]
          exact ⟨j - 1,by omega,⟨⟨h.down hij1 hv,by omega⟩,fun g=>hi hij1⟩,rfl⟩
        · simp only [Bz2z,decide_eq_false hv,go_sem,yz0,xx9,xx8,xx6,xx7,xx5,xx0,xx1,xx2,reduceIte,xx3,xx4,reduceCtorEq]
          exact yz12 (by simp only [go_sem,yz0,xx9,xx8,xx6,xx7,xx5,xx0,xx1,xx2,reduceIte,xx3,xx4,reduceCtorEq]) (t12 i j ys ⟨h,hpv⟩ hm hi (fun _=>hv))
      · simp only [Bz30,Bz2z,decide_eq_false hij,go_sem,yz0,xx9,xx8,xx6,xx7,xx5,xx0,xx1,xx2,reduceIte,xx3,xx4,reduceCtorEq]
        exact yz12 (by simp only [go_sem,yz0,xx9,xx8,xx6,xx7,xx5,xx0,xx1,xx2,reduceIte,xx3,xx4,reduceCtorEq]) (t12 i j ys ⟨h,hpv⟩ hm hi (fun g=>absurd g (by omega)))
    have t5:∀ (i j:Nat) (ys:List Int),PE a b xs ys i j→ys.getD a 0=xs.getD p 0→j+1 - i≤j0+1 - i0→wpD Try.prog (AC.loop Bz15) (blockQ 2 (seqQ (wpD Try.prog Bz32) R)) ⟨L .any [(0,.own 5000 0),(1,iv a),(9,iv i),(10,iv j)],L .gone [(5000,.row 0 1 true (intsK .u64 ys))]⟩:=by
      intro i j ys h hpv hm
      refine wpD_lo (fun i=>j+1 - i) (fun i=>PE a b xs ys i j∧j+1 - i≤j0+1 - i0) (fun i:Nat=>⟨L .any [(0,.own 5000 0),(1,iv a),(9,iv i),(10,iv j)],L .gone [(5000,.row 0 1 true (intsK .u64 ys))]⟩) i ⟨h,hm⟩ (by simp only [Bz15,go_sem,yz0,xx9,xx8,xx6,xx7,xx5,xx0,xx1,xx2,reduceIte,xx3,xx4,reduceCtorEq];try rfl) ?_
      rintro i ⟨h,hm⟩
      have i1:=h.i1
      have ij:=h.ij
      have jb:=h.jb
      have hyl:ys.length=xs.length:=h.seg.len
      have hal:a<ys.length:=by omega
      have ga:=yze (k:=.u64) hal
      by_cases hij:(i:Int)≤j
      · have hij1:i≤j:=by omega
        have hvl:i<ys.length:=by omega
        have gv:=yze (k:=.u64) hvl
        have wv:IntKind.i64.wrap ((i:Int)+1)=((i+1:Nat):Int):=by rw [w64 (by omega)];omega
        simp only [Bz15,decide_eq_true hij,ga,gv,go_sem,yz0,xx9,xx8,xx6,xx7,xx5,xx0,xx1,xx2,reduceIte,xx3,xx4,reduceCtorEq]
        intro vs
        refine ⟨⟨by omega,hal⟩,hal,⟨by omega,hvl⟩,hvl,?_⟩
        refine yzv (k_LessF (ys.getD a 0) (ys.getD i 0)) qCS trivial ?_
        by_cases hv:ys.getD a 0<ys.getD i 0
        · simp only [Bz2y,decide_eq_true hv,Bool.not_true,go_sem,yz0,xx9,xx8,xx6,xx7,xx5,xx0,xx1,xx2,reduceIte,xx3,xx4,reduceCtorEq]
          exact yz12 (by simp only [go_sem,yz0,xx9,xx8,xx6,xx7,xx5,xx0,xx1,xx2,reduceIte,xx3,xx4,reduceCtorEq]) (t8 i j ys h hpv hm (fun _=>hv))
        · simp only [Bz2y,Bzh4,decide_eq_false hv,Bool.not_false,wv,go_sem,yz0,xx9,xx8,xx6,xx7,xx5,xx0,xx1,xx2,reduceIte,xx3,xx4,reduceCtorEq]
          exact ⟨i+1,by omega,⟨h.up hij1 hv,by omega⟩,rfl⟩
      · simp only [Bz15,Bz2y,decide_eq_false hij,go_sem,yz0,xx9,xx8,xx6,xx7,xx5,xx0,xx1,xx2,reduceIte,xx3,xx4,reduceCtorEq]
        exact yz12 (by simp only [go_sem,yz0,xx9,xx8,xx6,xx7,xx5,xx0,xx1,xx2,reduceIte,xx3,xx4,reduceCtorEq]) (t8 i j ys h hpv hm (fun g=>absurd g (by omega)))
    exact t5 i0 j0 ys0 h hpv (Nat.le_refl _)
  have hal:a<xs.length:=by omega
  have hpl:p<xs.length:=by omega
  have gx:=yze (k:=.u64) hal
  have gy:=yze (k:=.u64) hpl
  have hst:=intsK_set (k:=.u64) (v:=xs.getD p 0) hal
  have hst2:=intsK_set (k:=.u64) (xs:=xs.set a (xs.getD p 0)) (i:=p) (v:=xs.getD a 0) (by rw [List.length_set];exact hpl)
  have wi:IntKind.i64.wrap ((a:Int)+1)=((a+1:Nat):Int):=by rw [w64 (by omega)];omega
  have wj:IntKind.i64.wrap ((b:Int) - 1)=((b - 1:Nat):Int):=by rw [w64 (by omega)];omega
  simp only [Az8r,Bzh9,Bzh8,gx,gy,hst,hst2,wi,wj,List.length_map,List.length_set,go_sem,yz0,xx9,xx8,xx6,xx7,xx5,xx0,xx1,xx2,reduceIte,xx3,xx4,reduceCtorEq]
  exact ⟨⟨by omega,hpl⟩,hpl,⟨by omega,hal⟩,hal,⟨by omega,hal⟩,by omega,⟨by omega,hpl⟩,by omega,yz12 (by simp only [go_sem,yz0,xx9,xx8,xx6,xx7,xx5,xx0,xx1,xx2,reduceIte,xx3,xx4,reduceCtorEq];try rfl) (t3 (a+1) (b - 1) (swp xs a p)
    ⟨Seg.swap hb (by omega) (by omega),by omega,by omega,by omega,fun k h1 h2=>by rw [show k=a by omega];omega,fun k h1 h2=>by omega⟩ (by
      rw [swp_at hal hpl]
      by_cases e:p=a
      · rw [if_pos e,e]
      · rw [if_neg e,if_pos rfl]))⟩
end Go.Ab
namespace Go.Ab
open Go.Proofs
theorem k_Len64G (n:Nat) (hn:8≤n∧n≤15):Fun Try.prog n_math_bits_Len64 [.val (.int .u64 n)] (iv 4):=by
  refine fun_of mixed c_math_bits_Len64 rfl ⟨rfl,trivial⟩ ?_
  have h1:¬ (n:Int) ≥ 4294967296:=by omega
  have h2:¬ (n:Int) ≥ 65536:=by omega
  have h3:¬ (n:Int) ≥ 256:=by omega
  simp only [A_math_bits_Len64,B_math_bits_Len64_1,B_math_bits_Len64_2,B_math_bits_Len64_4,B_math_bits_Len64_5,B_math_bits_Len64_7,B_math_bits_Len64_8,B_math_bits_Len64_10,decide_eq_false h1,decide_eq_false h2,decide_eq_false h3,go_sem,yz0,xx9,xx8,xx6,xx7,xx5,xx0,xx1,xx2,reduceIte,xx3,xx4,reduceCtorEq]
  obtain h | h | h | h | h | h | h | h:n=8∨n=9∨n=10∨n=11∨n=12∨n=13∨n=14∨n=15:=by omega
  all_goals subst h;exact ⟨by decide,rfl⟩
theorem k_xorNext (s:Int):FunB Try.prog nz4g [.val (.int .u64 s)] [] (fun cs v=>∃ s' y,cs=[.val (.int .u64 s')]∧v=.int .u64 (IntKind.u64.wrap y)):=by
  refine funB_of mixed czla rfl ?_
  simp only [Azht,Bzhs,Bzhr,Bzhq,Bzhp,go_sem,yz0,xx9,xx8,xx6,xx7,xx5,xx0,xx1,xx2,reduceIte,xx3,xx4,reduceCtorEq]
  exact ⟨_,_,rfl,rfl,by simp [flatL,AVal.flat,flat_vals],_,_,rfl,rfl⟩
theorem k_LenG (n:Nat) (hn:8≤n∧n≤15):Fun Try.prog n_math_bits_Len [.val (.int .u64 n)] (iv 4):=by
  refine fun_of mixed c_math_bits_Len rfl ⟨rfl,trivial⟩ ?_
  simp only [A_math_bits_Len,B_math_bits_Len_1,B_math_bits_Len_2,go_sem,yz0,xx9,xx8,xx6,xx7,xx5,xx0,xx1,xx2,reduceIte,xx3,xx4,reduceCtorEq]
  intro vs
  refine yzv (k_Len64G n hn) qCS trivial ?_
  simp only [go_sem,yz0,xx9,xx8,xx6,xx7,xx5,xx0,xx1,xx2,reduceIte,xx3,xx4,reduceCtorEq]
theorem k_nextPow (n:Nat) (hn:8≤n∧n≤15):Fun Try.prog nz4f [iv n] (.val (.int .u64 16)):=by
  refine fun_of mixed czl9 rfl ⟨rfl,trivial⟩ ?_
  have hw:IntKind.u64.wrap (n:Int)=n:=u64w (by omega)
  simp only [Azho,Bzhn,hw,go_sem,yz0,xx9,xx8,xx6,xx7,xx5,xx0,xx1,xx2,reduceIte,xx3,xx4,reduceCtorEq]
  intro vs
  refine yzv (k_LenG n hn) qCS trivial ?_
  simp only [go_sem,yz0,xx9,xx8,xx6,xx7,xx5,xx0,xx1,xx2,reduceIte,xx3,xx4,reduceCtorEq]
  try rfl
theorem and15 (y:Int):∃ q:Nat,q≤15∧IntKind.u64.wrap ((BitVec.ofInt 64 (IntKind.u64.wrap y) &&& BitVec.ofInt 64 15).toNat:Int)=q:=by
  have h:(BitVec.ofInt 64 (IntKind.u64.wrap y) &&& BitVec.ofInt 64 15).toNat≤15:=by
    rw [BitVec.toNat_and]
    exact Nat.le_trans Nat.and_le_right (by decide)
  exact ⟨_,h,IntWalk.u64_in _ (by omega)⟩
theorem k_breakP (xs:List Int) (a b:Nat) (h8:a+8≤b) (h15:b≤a+15) (hb:b≤xs.length) (hl:xs.length≤40):Con Try.prog nz49 [.row 0 1 true (intsK .u64 xs)] [.own 5000 0,iv a,iv b] true
    fun outs rows res=>rows=[]∧res=.tup []∧∃ ys:List Int,Seg a b xs ys∧outs=[.row 0 1 true (intsK .u64 ys)]:=by
  refine con_sh mixed czjx rfl (by simp) ?_
  generalize hQ:finQ _=Q
  obtain ⟨n,hn⟩:∃ n,n=b - a:=⟨_,rfl⟩
  obtain ⟨m,hm⟩:∃ m,m=n / 4:=⟨_,rfl⟩
  have w0:IntKind.i64.wrap ((b:Int) - a)=(n:Int):=by rw [w64 (by omega)];omega
  have wn:IntKind.u64.wrap (n:Int)=n:=u64w (by omega)
  have w4:IntKind.i64.wrap ((n:Int).tdiv 4)=(m:Int):=by rw [Int.tdiv_eq_ediv_of_nonneg (by omega),w64 (by omega)];omega
  have wm:IntKind.i64.wrap ((m:Int) * 2)=((2 * m:Nat):Int):=by rw [w64 (by omega)];omega
  have wam:IntKind.i64.wrap ((a:Int)+((2 * m:Nat):Int))=((a+2 * m:Nat):Int):=by rw [w64 (by omega)];omega
  have wi0:IntKind.i64.wrap (((a+2 * m:Nat):Int) - 1)=((a+2 * m - 1:Nat):Int):=by rw [w64 (by omega)];omega
  have wi1:IntKind.i64.wrap (((a+2 * m:Nat):Int)+1)=((a+2 * m+1:Nat):Int):=by rw [w64 (by omega)];omega
  have g8:(n:Int) ≥ 8:=by omega
  have h40:((4:Int)=0)=False:=by simp
  simp only [Az8g,Bzgh,Bzgg,Bzgf,w0,wn,decide_eq_true g8,go_sem,yz0,xx9,xx8,xx6,xx7,xx5,xx0,xx1,xx2,reduceIte,xx3,xx4,reduceCtorEq]
  intro vs vs2
  refine yzv (k_nextPow n (by omega)) qCS trivial ?_
  simp only [Bzge,Bzgd,h40,if_false,w4,wm,wam,wi0,go_sem,yz0,xx9,xx8,xx6,xx7,xx5,xx0,xx1,xx2,reduceIte,xx3,xx4,reduceCtorEq]
  refine wpD_lo (fun x:Nat×Int×List Int=>a+2 * m+2 - x.1) (fun x=>a+2 * m - 1≤x.1∧x.1≤a+2 * m+2∧Seg a b xs x.2.2)
    (fun x:Nat×Int×List Int=>⟨L .any [(0,.own 5000 0),(1,iv a),(6,iv n),(7,.ptr 7 (vs 2 0) 0),(8,.val (.int .u64 16)),(9,iv x.1)],L .gone [(7,.box (vs 2 0) [.val (.int .u64 x.2.1)]),(5000,.row 0 1 true (intsK .u64 x.2.2))]⟩)
    (a+2 * m - 1,(n:Int),xs) ⟨Nat.le_refl _,by dsimp only;omega,Seg.refl _ _ _⟩ (by simp only [Bz2u,go_sem,yz0,xx9,xx8,xx6,xx7,xx5,xx0,xx1,xx2,reduceIte,xx3,xx4,reduceCtorEq];try rfl) ?_
  rintro ⟨i,s,ys⟩ ⟨i1,i2,hS⟩
  have i1:a+2 * m - 1≤i:=i1
  have i2:i≤a+2 * m+2:=i2
  have hyl:ys.length=xs.length:=hS.len
  have hS:Seg a b xs ys:=hS
  by_cases hlt:(i:Int)≤((a+2 * m+1:Nat):Int)
  · have wi:IntKind.i64.wrap ((i:Int)+1)=((i+1:Nat):Int):=by rw [w64 (by omega)];simp
    simp only [Bz2u,Bz8b,Bzgc,h40,if_false,w4,wm,wam,wi1,decide_eq_true hlt,go_sem,yz0,xx9,xx8,xx6,xx7,xx5,xx0,xx1,xx2,reduceIte,xx3,xx4,reduceCtorEq]
    intro vs3
    refine call_funB (k_xorNext s) rfl qCS qCS ?_
    rintro _ _ ⟨s',y,rfl,rfl⟩
    obtain ⟨q,hq,eq⟩:=and15 y
    have w16:IntKind.u64.wrap ((16:Int) - 1)=15:=by decide
    have wq:IntKind.i64.wrap (q:Int)=q:=w64 (by omega)
    simp only [w16,go_sem,yz0,xx9,xx8,xx6,xx7,xx5,xx0,xx1,xx2,reduceIte,xx3,xx4,reduceCtorEq]
    generalize hz:IntKind.u64.wrap (Nat.cast (BitVec.toNat _))=z
    obtain rfl:z=(q:Int):=hz.symm.trans eq
    simp only [wq]
    have hil:i<ys.length:=by omega
    have gi:=yze (k:=.u64) hil
    have go:∀ o:Nat,o<n→wpD Try.prog Bz8d (blockQ 1
      (seqQ (wpD Try.prog Bz8f)
        (loopQ
          (fun σ' =>
            ∃ y:Nat×Int×List Int,
              a+2 * m+2 - y.fst<a+2 * m+2 - i ∧
                (a+2 * m - 1≤y.fst∧y.fst≤a+2 * m+2∧Seg a b xs y.snd.snd) ∧
                  σ'.kd [0,1,6,7,8,9] [7,5000,5001,5002] =
                    ⟨L .any [(0,.own 5000 0),(1,iv a),(6,iv n),(7,.ptr 7 (vs 2 0) 0),(8,.val (.int .u64 16)),(9,iv y.1)],L .gone [(7,.box (vs 2 0) [.val (.int .u64 y.2.1)]),(5000,.row 0 1 true (intsK .u64 y.2.2))]⟩)
          (blockQ 0 Q)))) ⟨L .any [(0,.own 5000 0),(1,iv a),(6,iv n),(7,.ptr 7 (vs 2 0) 0),(8,.val (.int .u64 16)),(9,iv i),(10,iv o)],L .gone [(7,.box (vs 2 0) [.val (.int .u64 s')]),(5000,.row 0 1 true (intsK .u64 ys))]⟩:=by
      intro o ho
      have hol:a+o<ys.length:=by omega
      have wao:IntKind.i64.wrap ((a:Int)+(o:Int))=((a+o:Nat):Int):=by rw [w64 (by omega)];simp
      have go:=yze (k:=.u64) hol
      have hst:=intsK_set (k:=.u64) (v:=ys.getD (a+o) 0) hil
      have hst2:=intsK_set (k:=.u64) (xs:=ys.set i (ys.getD (a+o) 0)) (i:=a+o) (v:=ys.getD i 0) (by rw [List.length_set];exact hol)
      simp only [Bz8d,Bz8f,wao,gi,go,hst,hst2,wi,List.length_map,List.length_set,go_sem,yz0,xx9,xx8,xx6,xx7,xx5,xx0,xx1,xx2,reduceIte,xx3,xx4,reduceCtorEq]
      exact ⟨⟨by omega,hol⟩,hol,⟨by omega,hil⟩,hil,⟨by omega,hil⟩,by omega,⟨by omega,hol⟩,by omega,(i+1,s',swp ys i (a+o)),by dsimp only;omega,⟨by dsimp only;omega,by dsimp only;omega,hS.trans (Seg.swap (by omega) (by omega) (by omega))⟩,rfl⟩
    by_cases hge:(q:Int) ≥ n
    · have wqn:IntKind.i64.wrap ((q:Int) - n)=((q - n:Nat):Int):=by rw [w64 (by omega)];omega
      simp only [Bz8e,Bz8c,decide_eq_true hge,wqn,go_sem,yz0,xx9,xx8,xx6,xx7,xx5,xx0,xx1,xx2,reduceIte,xx3,xx4,reduceCtorEq]
      exact yz12 (by simp only [go_sem,yz0,xx9,xx8,xx6,xx7,xx5,xx0,xx1,xx2,reduceIte,xx3,xx4,reduceCtorEq];try rfl) (go (q - n) (by omega))
    · simp only [Bz8e,Bz8c,decide_eq_false hge,go_sem,yz0,xx9,xx8,xx6,xx7,xx5,xx0,xx1,xx2,reduceIte,xx3,xx4,reduceCtorEq]
      exact yz12 (by simp only [go_sem,yz0,xx9,xx8,xx6,xx7,xx5,xx0,xx1,xx2,reduceIte,xx3,xx4,reduceCtorEq];try rfl) (go q (by omega))
  · simp only [Bz2u,Bz8b,h40,if_false,w4,wm,wam,wi1,decide_eq_false hlt,Az8g,← hQ,go_sem,yz0,xx9,xx8,xx6,xx7,xx5,xx0,xx1,xx2,reduceIte,xx3,xx4,reduceCtorEq]
    exact ⟨[],by simp,by simp,by simp,by simp,rfl,ys,hS,by simp only [List.range_zero,List.nil_append,List.map_cons,List.map_nil,Nat.not_lt_zero,range1,yz11,yz15,yz1j,yz1l,yz14,yz1k,yz1i,yz1g,yz16,yzt,yzk,yz6,yzs,yzr,yzo,yzm,yzq,yz7,yza,yzd,yz9,yzf,yzi,yz2,yz5,yz8,yzc,yzh,yzj,List.range_zero,yz3,yz4,yzb,yzp,yzl,yzn,AVal.fresh,freshL,yz1,yzg,AObj.fresh,id,Option.isSome_some,or_true,true_or,go_sem,yz0,xx9,xx8,xx6,xx7,xx5,xx0,xx1,xx2,reduceIte,xx3,xx4,reduceCtorEq];try rfl⟩
end Go.Ab
