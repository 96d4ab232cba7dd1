/- Contracts and what they lean on, part 9. Conditions: none. -/
import Derived.Test.YtlijcimaeplgbaaZ8
set_option maxRecDepth 100000
set_option maxHeartbeats 4000000
set_option linter.all false
open Nat renaming reduceLeDiff → xx0, reduceMul → xx1, reduceSub → xx2, reduceEqDiff → xx3, reduceAdd → xx4, reduceLT → xx5
open Int renaming reduceToNat → xx6, reduceNeg → xx7, reduceLE → xx8, reduceLT → xx9
namespace Go.Ab
open Go Go.Proofs
abbrev CS:=List (Nat×Nat)
abbrev keysC (L:CS):List Value:=L.map fun p=>Value.int .u64 (p.1:Int)
abbrev numsC (L:CS):List Int:=L.map fun p=>(p.2:Int)
def incr:CS→Nat→Nat→CS
  | [],f,n=>[(f,n)]
  | p :: L,f,n=>if p.1=f then (f,p.2+n) :: L else p :: incr L f n
def wsum (L:CS) (φ:Nat→Nat):Nat:=(L.map fun p=>p.2 * φ p.1).sum
theorem wsum_nil {φ:Nat→Nat}:wsum [] φ=0:=rfl
theorem wsum_cons {p:Nat×Nat} {L:CS} {φ:Nat→Nat}:wsum (p :: L) φ=p.2 * φ p.1+wsum L φ:=by simp [wsum]
theorem wsum_incr {f n:Nat} {φ:Nat→Nat}:∀ {L:CS},wsum (incr L f n) φ=wsum L φ+n * φ f
  | []=>by simp [incr,wsum]
  | p :: L=>by
    unfold incr
    split
    · rename_i h;subst h
      rw [wsum_cons,wsum_cons];dsimp only;rw [Nat.add_mul];omega
    · rw [wsum_cons,wsum_cons,wsum_incr (L:=L)];omega
theorem wsum_erase {φ:Nat→Nat}:∀ {L:CS} {j:Nat} {p:Nat×Nat},L[j]?=some p→wsum L φ=p.2 * φ p.1+wsum (L.eraseIdx j) φ
  | [],_,_,h=>by simp at h
  | q :: L,0,p,h=>by
    simp only [List.getElem?_cons_zero,Option.some.injEq] at h
    subst h;rw [wsum_cons];rfl
  | q :: L,j+1,p,h=>by
    rw [List.getElem?_cons_succ] at h
    rw [List.eraseIdx_cons_succ,wsum_cons,wsum_cons,wsum_erase (φ:=φ) h];omega
theorem wsum_mem {L:CS} {p:Nat×Nat} (h:p∈L):p.2≤wsum L fun _=>1:=by
  obtain ⟨j,hj⟩:=List.getElem?_of_mem h
  rw [wsum_erase hj];omega
theorem incr_keys {B f n:Nat} (hf:f<B):∀ {L:CS},(∀ p∈L,p.1<B)→∀ p∈incr L f n,p.1<B
  | [],_,p,hp=>by
    simp only [incr,List.mem_singleton] at hp;subst hp;exact hf
  | q :: L,h,p,hp=>by
    unfold incr at hp
    split at hp
    · rcases List.mem_cons.1 hp with rfl | hp
      · exact hf
      · exact h p (by simp [hp])
    · rcases List.mem_cons.1 hp with rfl | hp
      · exact h _ (by simp)
      · exact incr_keys hf (fun x hx=>h x (by simp [hx])) p hp
theorem fkC {f n:Nat}:∀ {L:CS} (i:Nat),(∃ j m,findKeyAt (.int .u64 (f:Int)) (keysC L) i=some (some (i+j))∧L[j]?=some (f,m)∧incr L f n=L.set j (f,m+n))∨(findKeyAt (.int .u64 (f:Int)) (keysC L) i=some none∧incr L f n=L ++ [(f,n)])
  | [],_=>.inr ⟨rfl,rfl⟩
  | p :: L,i=>by
    by_cases h:p.1=f
    · left
      obtain ⟨g,m⟩:=p
      subst h
      have h1:((g:Int) == (g:Int))=true:=beq_self_eq_true _
      exact ⟨0,m,by simp only [List.map_cons,findKeyAt,sameKey,h1,if_true,Nat.add_zero],rfl,by simp [incr]⟩
    · have h1:((f:Int) == (p.1:Int))=false:=beq_false_of_ne fun e=>h (by omega)
      rcases fkC (f:=f) (n:=n) (L:=L) (i+1) with ⟨j,m,h2,h3,h4⟩ | ⟨h2,h3⟩
      · left
        refine ⟨j+1,m,?_,h3,?_⟩
        · simp only [List.map_cons,findKeyAt,sameKey,h1,if_true]
          rw [h2];congr 2;omega
        · simp only [incr,if_neg h,h4,List.set_cons_succ]
      · right
        refine ⟨?_,?_⟩
        · simp only [List.map_cons,findKeyAt,sameKey,h1,if_true];exact h2
        · simp only [incr,if_neg h,h3,List.cons_append]
def lsum (next:List (List Int)) (m:Nat) (φ:Nat→Nat) (f:Nat):Nat:=((List.range m).map fun x=>φ (stepN (next.getD x []) f)).sum
theorem lsum_zero {next:List (List Int)} {φ:Nat→Nat} {f:Nat}:lsum next 0 φ f=0:=rfl
theorem lsum_succ {next:List (List Int)} {m:Nat} {φ:Nat→Nat} {f:Nat}:lsum next (m+1) φ f=lsum next m φ f+φ (stepN (next.getD m []) f):=by
  simp [lsum,List.range_succ]
def wnum (next:List (List Int)):Nat→(Nat→Nat)→Nat→Nat
  | 0,φ,f=>φ f
  | k+1,φ,f=>wnum next k (lsum next next.length φ) f
theorem lsum_one {next:List (List Int)} {c m f:Nat}:lsum next m (fun _=>c) f=m * c:=by
  induction m with
  | zero=>simp [lsum_zero]
  | succ m ih=>rw [lsum_succ,ih,Nat.add_mul];omega
theorem wnum_one {next:List (List Int)} {f:Nat}:∀ (k c:Nat),wnum next k (fun _=>c) f=next.length ^ k * c
  | 0,c=>by simp [wnum]
  | k+1,c=>by
    have:lsum next next.length (fun _=>c)=fun _=>next.length * c:=funext fun g=>lsum_one
    simp only [wnum,this]
    rw [wnum_one k,Nat.pow_succ,Nat.mul_assoc]
def visC (next:List (List Int)) (g n:Nat):Nat→CS→CS
  | 0,L=>L
  | x+1,L=>incr (visC next g n x L) (stepN (next.getD x []) g) n
theorem visC_sum {next:List (List Int)} {g n:Nat} {L:CS} {φ:Nat→Nat}:∀ x,wsum (visC next g n x L) φ=wsum L φ+n * lsum next x φ g
  | 0=>by simp [visC,lsum_zero]
  | x+1=>by
    rw [visC,wsum_incr,visC_sum x,lsum_succ,Nat.mul_add];omega
theorem visC_keys {n:Int} {next:List (List Int)} (A:Aut n next) {g k:Nat} (hg:g<2 ^ n.toNat) {L:CS} (h:∀ p∈L,p.1<2 ^ n.toNat):∀ x,x≤next.length→∀ p∈visC next g k x L,p.1<2 ^ n.toNat
  | 0,_=>h
  | x+1,hx=>incr_keys (stepN_lt A (by omega) hg) (visC_keys A hg h x (by omega))
structure CW (n:Int) (next:List (List Int)) (f k:Nat) (L:CS):Prop where
  ks:∀ p∈L,p.1<2 ^ n.toNat
  sm:∀ φ,wsum L φ=wnum next k φ f
theorem CW.tot {n:Int} {next:List (List Int)} {f k:Nat} {L:CS} (A:Aut n next) (h:CW n next f k L) (hk:k≤20):wsum L (fun _=>1)≤3486784401:=by
  have l2:=A.l2
  rw [h.sm,wnum_one,Nat.mul_one]
  exact Nat.le_trans (Nat.pow_le_pow_left l2 k) (Nat.pow_le_pow_right (n:=3) (by omega) hk)
theorem getC {L:CS} {j:Nat} {k:Value} {A:AVal} (h1:(keysC L)[j]?=some k) (h2:(ints (numsC L))[j]?=some A):∃ p,L[j]?=some p∧k=.int .u64 (p.1:Int)∧A=iv (p.2:Int):=by
  rw [List.getElem?_map] at h1
  cases h:L[j]? with
  | none=>rw [h] at h1;cases h1
  | some p =>
    rw [h] at h1
    simp only [Option.map_some,Option.some.injEq] at h1
    refine ⟨p,rfl,h1.symm,?_⟩
    unfold ints numsC at h2
    rw [List.map_map,List.getElem?_map,h] at h2
    simpa using h2.symm
theorem erase_map {α β:Type} {f:α→β}:∀ {l:List α} {j:Nat},(l.map f).eraseIdx j=(l.eraseIdx j).map f
  | [],j=>by simp
  | a :: l,0=>rfl
  | a :: l,j+1=>by simp only [List.map_cons,List.eraseIdx_cons_succ,erase_map (l:=l)]
theorem erase_keys {L:CS} {j:Nat}:(keysC L).eraseIdx j=keysC (L.eraseIdx j):=erase_map
theorem erase_nums {L:CS} {j:Nat}:(ints (numsC L)).eraseIdx j=ints (numsC (L.eraseIdx j)):=by unfold ints numsC;rw [erase_map,erase_map]
theorem set_keys {L:CS} {j f m m':Nat} (h:L[j]?=some (f,m)):keysC (L.set j (f,m'))=keysC L:=by
  unfold keysC
  rw [List.map_set]
  refine List.ext_getElem? fun i=>?_
  rw [List.getElem?_set]
  split
  · rename_i e;subst e
    have:j<L.length:=(List.getElem?_eq_some_iff.1 h).1
    rw [if_pos (by simpa using this),List.getElem?_map,h];rfl
  · rfl
theorem set_nums {L:CS} {j f m:Nat}:ints (numsC (L.set j (f,m)))=(ints (numsC L)).set j (iv (m:Int)):=by unfold ints numsC;rw [List.map_set,List.map_set]
theorem getD_nums {L:CS} {j f m:Nat} (h:L[j]?=some (f,m)):(ints (numsC L)).getD j .any=iv (m:Int):=by
  unfold ints numsC
  rw [List.getD_eq_getElem?_getD,List.getElem?_map,List.getElem?_map,h];rfl
theorem wnum_congr {next:List (List Int)} {f:Nat}:∀ (k:Nat) {φ ψ:Nat→Nat},(∀ w:List Int,w.length=k→IsW next.length w→φ (imN next f w)=ψ (imN next f w))→wnum next k φ f=wnum next k ψ f
  | 0,φ,ψ,h=>h [] rfl (by intro x hx;simp at hx)
  | k+1,φ,ψ,h=>by
    refine wnum_congr k fun w hl hw=>?_
    unfold lsum
    congr 1
    refine List.map_congr_left fun x hx=>?_
    rw [List.mem_range] at hx
    have:=h (w ++ [(x:Int)]) (by simp [hl]) (by
      intro y hy
      rcases List.mem_append.1 hy with hy | hy
      · exact hw y hy
      · rw [List.mem_singleton.1 hy];omega)
    rw [imN_snoc,Int.toNat_natCast] at this
    exact this
theorem wnum_nil {next:List (List Int)} {f:Nat} {k:Nat} {φ:Nat→Nat} (h:∀ w:List Int,w.length=k→IsW next.length w→φ (imN next f w)=0):wnum next k φ f=0:=by
  rw [wnum_congr (ψ:=fun _=>0) k h,wnum_one,Nat.mul_zero]
theorem lsum_le {next:List (List Int)} {φ:Nat→Nat} {f x:Nat}:∀ {m:Nat},x<m→φ (stepN (next.getD x []) f)≤lsum next m φ f
  | m+1,h=>by
    rw [lsum_succ]
    by_cases e:x=m
    · subst e;omega
    · have:=lsum_le (next:=next) (φ:=φ) (f:=f) (x:=x) (m:=m) (by omega);omega
theorem wnum_pos {next:List (List Int)} {f:Nat}:∀ (k:Nat) {φ:Nat→Nat} {w:List Int},w.length=k→IsW next.length w→φ (imN next f w)≤wnum next k φ f
  | 0,φ,w,hl,_=>by rw [List.eq_nil_of_length_eq_zero hl];exact Nat.le_refl _
  | k+1,φ,w,hl,hw=>by
    have hne:w≠[]:=by intro e;subst e;simp at hl
    obtain ⟨u,x,rfl⟩:∃ u x,w=u ++ [x]:=⟨_,_,(List.dropLast_concat_getLast hne).symm⟩
    have hx:=hw x (by simp)
    have h1:=wnum_pos (next:=next) (f:=f) k (φ:=lsum next next.length φ) (w:=u) (by simpa using hl) (fun y hy=>hw y (by simp [hy]))
    have h2:=lsum_le (next:=next) (φ:=φ) (f:=imN next f u) (x:=x.toNat) (m:=next.length) (by omega)
    rw [imN_snoc]
    exact Nat.le_trans h2 h1
theorem itT_C1 {cur:Option (Nat×Nat)} {rem:CS}:itT cur.isSome (keysC (cur.toList ++ rem))=keysC rem:=by cases cur <;> rfl
theorem itT_C2 {cur:Option (Nat×Nat)} {rem:CS}:itT cur.isSome (ints (numsC (cur.toList ++ rem)))=ints (numsC rem):=by cases cur <;> rfl
theorem keysC_nil {L:CS} (h:keysC L=[]):L=[]:=List.map_eq_nil_iff.1 h
end Go.Ab
namespace Go.Ab
open Go Go.Proofs
theorem k_counts (n:Int) (next:List (List Int)) (A:Aut n next) (k:Nat) (hk:k≤20) :
    Fn Try.prog nz3p [autA n next,iv (k:Int)] (fun rows res=>∃ v L,CW n next (2 ^ n.toNat - 1) k L∧rows=[.map v (keysC L) (ints (numsC L))]∧res=.mp 6000 v):=by
  refine con_of mixed czj1 rfl (by simp) ?_
  have n1:=A.n1
  have n2:=A.n2
  have l2:=A.l2
  have hp:=Nat.two_pow_pos n.toNat
  have hN:2 ^ n.toNat≤1024:=Nat.pow_le_pow_right (n:=2) (by omega) (show n.toNat≤10 by omega)
  have f0:∀ k:Value,findKeyAt k [] 0=some none:=fun _=>rfl
  generalize hF:2 ^ n.toNat - 1=F
  have hFl:F<2 ^ n.toNat:=by omega
  generalize hQ:finQ _=Q
  simp only [Az5x,Bzci,go_sem,yz0,xx9,xx8,xx6,xx7,xx5,xx0,xx1,xx2,reduceIte,xx3,xx4,reduceCtorEq]
  intro vs vs2
  refine call_rowI (k_all n next A) qCS rfl ⟨_,rfl⟩ ?_
  rintro xs v rfl
  simp only [go_sem,yz0,xx9,xx8,xx6,xx7,xx5,xx0,xx1,xx2,reduceIte,xx3,xx4,reduceCtorEq]
  refine yz10 (k_flockOf (allS n) (fun s hs=>by have:=allS_in s hs;omega)) qCS trivial ?_
  rw [maskN_all ⟨n1,n2⟩,hF]
  simp only [f0,go_sem,yz0,xx9,xx8,xx6,xx7,xx5,xx0,xx1,xx2,reduceIte,xx3,xx4,reduceCtorEq]
  simp only [Bzch,Bzcf,go_sem,yz0,xx9,xx8,xx6,xx7,xx5,xx0,xx1,xx2,reduceIte,xx3,xx4,reduceCtorEq]
  have hz:wsum [(F,1)]=fun φ=>φ F:=by funext φ;simp [wsum]
  refine wpD_lm (fun (_,i,_)=>k - i) (fun (_,i,L)=>i≤k∧CW n next F i L)
    (fun ((v,i,L):Nat×Nat×CS)=>⟨Go.Ab.L .any [(2,.ptr 2 (vs 0 0) 0),(5,.mp 10 v),(15,iv k),(16,iv i)],
      Go.Ab.L .gone [(2,.box (vs 0 0) [iv n,.ro none 1 (rwn next)]),(10,.map v (keysC L) (ints (numsC L)))]⟩)
    (vs2 0 0,0,[(F,1)]) ⟨by omega,fun p hp=>by rw [List.mem_singleton.1 hp];exact hFl,fun φ=>by rw [hz];rfl⟩ (by intro u;simp only [Bz2i,go_sem,yz0,xx9,xx8,xx6,xx7,xx5,xx0,xx1,xx2,reduceIte,xx3,xx4,reduceCtorEq];try rfl) ?_
  rintro ⟨v,i,L⟩ ⟨hi,hC⟩
  have hi:i≤k:=hi
  have hC:CW n next F i L:=hC
  by_cases hlt:(i:Int)<k
  · have wi:IntKind.i64.wrap ((i:Int)+1)=((i+1:Nat):Int):=by rw [w64 (by omega)];simp
    simp only [Bz2i,Bz5w,Bzce,decide_eq_true hlt,go_sem,yz0,xx9,xx8,xx6,xx7,xx5,xx0,xx1,xx2,reduceIte,xx3,xx4,reduceCtorEq]
    intro vs3
    simp only [Bzcc,Bzca,dnL_ints,go_sem,yz0,xx9,xx8,xx6,xx7,xx5,xx0,xx1,xx2,reduceIte,xx3,xx4,reduceCtorEq]
    intro vs4
    have hT:∀ (nx rem:CS),(∀ φ,wsum nx φ+wsum rem (lsum next next.length φ)=wsum L (lsum next next.length φ))→wsum nx (fun _=>1)+wsum rem (lsum next next.length fun _=>1)≤3486784401:=fun nx rem h=>by
      rw [h,hC.sm]
      show wnum next (i+1) (fun _=>1) F≤_
      rw [wnum_one,Nat.mul_one]
      have h3:3 ^ (i+1)≤3 ^ 20:=Nat.pow_le_pow_right (by omega) (by omega)
      exact Nat.le_trans (Nat.pow_le_pow_left l2 (i+1)) h3
    refine wpD_lo (fun (_,_,_,rem,_)=>rem.length) (fun (_,_,_,rem,nx)=>(∀ p∈rem,p.1<2 ^ n.toNat)∧(∀ p∈nx,p.1<2 ^ n.toNat)∧∀ φ,wsum nx φ+wsum rem (lsum next next.length φ)=wsum L (lsum next next.length φ))
      (fun ((vm,vi,cur,rem,nx):Nat×Nat×Option (Nat×Nat)×CS×CS)=>⟨Go.Ab.L .any [(2,.ptr 2 (vs 0 0) 0),(6,.mp 18 vm),(15,iv k),(16,iv i),(20,.own 20 vi)],
        Go.Ab.L .gone [(2,.box (vs 0 0) [iv n,.ro none 1 (rwn next)]),(18,.map vm (keysC nx) (ints (numsC nx))),(20,.it vi (some (cur.isSome,keysC (cur.toList ++ rem),ints (numsC (cur.toList ++ rem)))))]⟩)
      (_,_,none,L,[]) ⟨hC.ks,(fun p hp=>by simp at hp),fun φ=>by rw [wsum_nil,Nat.zero_add]⟩ (by simp only [Bz5v,dnL_ints,go_sem,yz0,xx9,xx8,xx6,xx7,xx5,xx0,xx1,xx2,reduceIte,xx3,xx4,reduceCtorEq];try rfl) ?_
    rintro ⟨vm,vi,cur,rem,nx⟩ ⟨hr,hx,hs⟩
    have hr:∀ p∈rem,p.1<2 ^ n.toNat:=hr
    have hx:∀ p∈nx,p.1<2 ^ n.toNat:=hx
    have hs:∀ φ,wsum nx φ+wsum rem (lsum next next.length φ)=wsum L (lsum next next.length φ):=hs
    simp only [Bz5v,Bzc9,dnL_ints,itT_C1,itT_C2,go_sem,yz0,xx9,xx8,xx6,xx7,xx5,xx0,xx1,xx2,reduceIte,xx3,xx4,reduceCtorEq]
    refine ⟨fun h0=>?_,fun j key A h1 h2=>?_⟩
    · have h0:=keysC_nil h0
      subst h0
      simp only [Bzcb,Bzcd,wi,dnL_ints,go_sem,yz0,xx9,xx8,xx6,xx7,xx5,xx0,xx1,xx2,reduceIte,xx3,xx4,reduceCtorEq]
      refine ⟨k - (i+1),by omega,fun u=>⟨(u,i+1,nx),rfl,⟨by dsimp only;omega,hx,fun φ=>?_⟩,rfl⟩⟩
      have:=hs φ
      rw [wsum_nil,Nat.add_zero,hC.sm] at this
      exact this
    · obtain ⟨⟨g,c⟩,hp,rfl,rfl⟩:=getC h1 h2
      have hmem:=List.mem_of_getElem? hp
      have hg:=hr _ hmem
      have hsub:∀ p∈rem.eraseIdx j,p.1<2 ^ n.toNat:=fun p hp=>hr p (List.mem_of_mem_eraseIdx hp)
      have hle:(rem.eraseIdx j).length<rem.length:=by
        rw [List.length_eraseIdx_of_lt (List.getElem?_eq_some_iff.1 hp).1]
        have:=(List.getElem?_eq_some_iff.1 hp).1;omega
      have hq:∀ φ,c * lsum next next.length φ g+wsum (rem.eraseIdx j) (lsum next next.length φ)=wsum rem (lsum next next.length φ):=fun φ=>(wsum_erase hp).symm
      have hT1:=hT nx rem hs
      rw [← hq,lsum_one,Nat.mul_one] at hT1
      rw [erase_keys,erase_nums]
      generalize rem.eraseIdx j=rem' at hsub hle hq hT1
      have hg:g<2 ^ n.toNat:=hg
      simp only [Bzc8,dnL_ints,go_sem,yz0,xx9,xx8,xx6,xx7,xx5,xx0,xx1,xx2,reduceIte,xx3,xx4,reduceCtorEq]
      simp only [Bzc7,dnL_ints,go_sem,yz0,xx9,xx8,xx6,xx7,xx5,xx0,xx1,xx2,reduceIte,xx3,xx4,reduceCtorEq]
      intro vs5
      refine yz10 (k_letters n next) qCS trivial ?_
      simp only [Bzc6,dnL_ints,go_sem,yz0,xx9,xx8,xx6,xx7,xx5,xx0,xx1,xx2,reduceIte,xx3,xx4,reduceCtorEq]
      refine wpD_lo (fun (_,x)=>next.length - x) (fun (_,x)=>x≤next.length)
        (fun ((vm,x):Nat×Nat)=>⟨Go.Ab.L .any [(2,.ptr 2 (vs 0 0) 0),(6,.mp 18 vm),(7,fv g),(8,iv c),(15,iv k),(16,iv i),(20,.own 20 vi),(27,iv next.length),(28,iv x)],
          Go.Ab.L .gone [(2,.box (vs 0 0) [iv n,.ro none 1 (rwn next)]),(18,.map vm (keysC (visC next g c x nx)) (ints (numsC (visC next g c x nx)))),(20,.it vi (some (true,.int .u64 (g:Int) :: keysC rem',iv (c:Int) :: ints (numsC rem'))))]⟩)
        (_,0) (Nat.zero_le _) (by simp only [Bz2h,dnL_ints,visC,go_sem,yz0,xx9,xx8,xx6,xx7,xx5,xx0,xx1,xx2,reduceIte,xx3,xx4,reduceCtorEq];try rfl) ?_
      rintro ⟨vm,x⟩ hxl
      have hxl:x≤next.length:=hxl
      have hxk:=visC_keys A hg (k:=c) hx x hxl
      by_cases hlx:(x:Int)<next.length
      · have hlx1:x<next.length:=by omega
        have wx:IntKind.i64.wrap ((x:Int)+1)=((x+1:Nat):Int):=by rw [w64 (by omega)];simp
        simp only [Bz2h,Bz5u,Bzc5,dnL_ints,decide_eq_true hlx,go_sem,yz0,xx9,xx8,xx6,xx7,xx5,xx0,xx1,xx2,reduceIte,xx3,xx4,reduceCtorEq]
        simp only [Bzc4,dnL_ints,go_sem,yz0,xx9,xx8,xx6,xx7,xx5,xx0,xx1,xx2,reduceIte,xx3,xx4,reduceCtorEq]
        intro vs6
        refine yz10 (k_step n next A g x hg hlx1) qCS trivial ?_
        have hsm:=visC_sum (next:=next) (g:=g) (n:=c) (L:=nx) (φ:=fun _=>1) (x+1)
        rw [lsum_one,Nat.mul_one] at hsm
        have hcx:c * (x+1)≤c * next.length:=Nat.mul_le_mul_left c hlx1
        unfold visC at hsm
        rcases fkC (f:=stepN (next.getD x []) g) (n:=c) (L:=visC next g c x nx) 0 with ⟨j2,m,e1,e2,e3⟩ | ⟨e1,e3⟩
        · rw [Nat.zero_add] at e1
          have hb:m+c≤3486784401:=by
            have:=wsum_mem (L:=incr (visC next g c x nx) (stepN (next.getD x []) g) c) (p:=(stepN (next.getD x []) g,m+c)) (by rw [e3];exact List.mem_set (List.getElem?_eq_some_iff.1 e2).1 _)
            dsimp only at this
            omega
          have w2:IntKind.i64.wrap ((m:Int)+c)=((m+c:Nat):Int):=by rw [w64 (by omega)];simp
          have hset:=(set_nums (L:=visC next g c x nx) (j:=j2) (f:=stepN (next.getD x []) g) (m:=m+c)).symm
          have hv:visC next g c (x+1) nx=(visC next g c x nx).set j2 (stepN (next.getD x []) g,m+c):=e3
          simp only [e1,getD_nums e2,w2,hset,dnL_ints,Bz5t,wx,go_sem,yz0,xx9,xx8,xx6,xx7,xx5,xx0,xx1,xx2,reduceIte,xx3,xx4,reduceCtorEq]
          exact ⟨(vm,x+1),by dsimp only;omega,by dsimp only;omega,by dsimp only;rw [hv,set_keys e2]⟩
        · have hc:c≤3486784401:=by
            have:=wsum_mem (L:=incr (visC next g c x nx) (stepN (next.getD x []) g) c) (p:=(stepN (next.getD x []) g,c)) (by rw [e3];simp)
            dsimp only at this
            omega
          have w2:IntKind.i64.wrap (0+(c:Int))=(c:Int):=by rw [w64 (by omega)];simp
          have hv:visC next g c (x+1) nx=visC next g c x nx ++ [(stepN (next.getD x []) g,c)]:=e3
          simp only [e1,w2,dnL_ints,Bz5t,wx,go_sem,yz0,xx9,xx8,xx6,xx7,xx5,xx0,xx1,xx2,reduceIte,xx3,xx4,reduceCtorEq]
          exact ⟨(vm,x+1),by dsimp only;omega,by dsimp only;omega,by dsimp only;rw [hv];simp only [List.map_append,List.map_cons,List.map_nil]⟩
      · obtain rfl:x=next.length:=by omega
        simp only [Bz2h,Bz5u,decide_eq_false hlx,dnL_ints,go_sem,yz0,xx9,xx8,xx6,xx7,xx5,xx0,xx1,xx2,reduceIte,xx3,xx4,reduceCtorEq]
        refine ⟨(vm,vi,some (g,c),rem',visC next g c next.length nx),hle,⟨hsub,hxk,fun φ=>?_⟩,rfl⟩
        show wsum (visC next g c next.length nx) φ+wsum rem' (lsum next next.length φ)=_
        rw [visC_sum,← hs φ,← hq φ,Nat.add_assoc]
  · obtain rfl:i=k:=by omega
    simp only [Bz2i,Bz5w,Bzcg,decide_eq_false hlt,dnL_ints,Az5x,← hQ,go_sem,yz0,xx9,xx8,xx6,xx7,xx5,xx0,xx1,xx2,reduceIte,xx3,xx4,reduceCtorEq]
    refine ⟨[10],by simp,by simp,by simp,?_⟩
    simp only [Nat.not_lt_zero,range1,yzu,yzx,yz12,yz15,yzw,yz13,yz14,yz11,yzv,yzn,yze,yz3,yzq,yzs,yzo,yzm,yzr,yz9,yzc,yza,yz7,yzg,yzf,yz2,yz5,yzd,yzb,yzj,yzi,List.range_zero,yz6,yz4,yz8,yzt,yzl,yzp,AVal.fresh,freshL,yz1,yzh,AObj.fresh,id,Option.isSome_some,or_true,true_or,go_sem,yz0,xx9,xx8,xx6,xx7,xx5,xx0,xx1,xx2,reduceIte,xx3,xx4,reduceCtorEq]
    exact ⟨v,L,hC,rfl,rfl⟩
theorem k_CountResets_1 (k:Nat):Fun Try.prog nz19 [.rp [iv (k:Int)] 0] (bv (decide (0≤(k:Int)) && decide ((k:Int)≤20))):=by
  refine fun_of mixed cziz rfl ⟨rfl,trivial⟩ ?_
  simp only [Bzc0,Azc1,go_sem,yz0,xx9,xx8,xx6,xx7,xx5,xx0,xx1,xx2,reduceIte,xx3,xx4,reduceCtorEq]
  intro vs
  refine yz10 (k_within (k:Int) 0 20) qCS trivial ?_
  simp only [go_sem,yz0,xx9,xx8,xx6,xx7,xx5,xx0,xx1,xx2,reduceIte,xx3,xx4,reduceCtorEq]
def resN (next:List (List Int)) (n:Int) (k:Nat):Nat:=wnum next k (fun f=>if smallN f=true then 1 else 0) (2 ^ n.toNat - 1)
theorem k_CountResets (n:Int) (next:List (List Int)) (A:Aut n next) (k:Nat) (hk:k≤20) :
    Fun2 Try.prog nzk [autA n next,iv (k:Int)] (.int .i64 (resN next n k:Int)) (.int .i64 0):=by
  refine fun2_of mixed czie rfl ?_
  have n1:=A.n1
  have n2:=A.n2
  have hN:2 ^ n.toNat≤1024:=Nat.pow_le_pow_right (n:=2) (by omega) (show n.toNat≤10 by omega)
  have hd1:decide ((0:Int)≤k)=true:=by rw [decide_eq_true_eq];omega
  have hd2:decide ((k:Int)≤20)=true:=by rw [decide_eq_true_eq];omega
  have hcode:=k_code n next nz19 [.rp [iv (k:Int)] 0] _ ⟨by simp only [go_sem,yz0,xx9,xx8,xx6,xx7,xx5,xx0,xx1,xx2,reduceIte,xx3,xx4,reduceCtorEq],by intros;simp only [rowIs,boxIs,coe_argN,yz1f,coe_ro_o,yz1d,yzz,coe_any,coe_val,coe_ro,yz1b,yz1a,coe_st,yz19,coe_rp,yz18,coe_clo,coe_own0,yz1h,yz16,coeL_rws,coeL_rwn,L_hit,L_miss,L_nil,xx3,ne_eq,reduceCtorEq,not_false_eq_true,true_and,and_true,and_self,exists_eq_left,exists_eq_right,List.mem_cons,List.not_mem_nil,or_false,AObj.row.injEq,AObj.box.injEq,exists_eq_left',exists_and_left,exists_eq,Nat.zero_lt_one,Nat.lt_add_one,List.map_cons,List.map_nil,AObj.ver,xx5,not_true_eq_false]⟩ (fun hv=>k_CountResets_1 k)
  rw [hd1,hd2,autB_iff.2 A] at hcode
  have e00:((0:Int) != 0)=false:=rfl
  generalize hQ:finQ _=Q
  simp only [Az4y,Bz9j,go_sem,yz0,xx9,xx8,xx6,xx7,xx5,xx0,xx1,xx2,reduceIte,xx3,xx4,reduceCtorEq]
  intro vs vs2
  refine yz10 hcode qCS trivial ?_
  simp only [codeI,Bool.and_self,if_true,Bz9b,Bz9a,Bz9i,Bz9h,e00,go_sem,yz0,xx9,xx8,xx6,xx7,xx5,xx0,xx1,xx2,reduceIte,xx3,xx4,reduceCtorEq]
  intro vs3
  refine call_fn (k_counts n next A k hk) qCS (fun e=>by cases e) ?_
  rintro rows res ⟨v,L,hC,rfl,rfl⟩
  refine ⟨by simp,by rw [Option.getD_some,yzl];simp only [go_sem,yz0,xx9,xx8,xx6,xx7,xx5,xx0,xx1,xx2,reduceIte,xx3,xx4,reduceCtorEq],?_⟩
  simp only [Option.getD_some,Bz9f,Nat.not_lt_zero,range1,yzu,yzx,yz12,yz15,yzw,yz13,yz14,yz11,yzv,yzn,yze,yz3,yzq,yzs,yzo,yzm,yzr,yz9,yzc,yza,yz7,yzg,yzf,yz2,yz5,yzd,yzb,yzj,yzi,List.range_zero,yz6,yz4,yz8,yzt,yzl,yzp,AVal.fresh,freshL,yz1,yzh,AObj.fresh,id,Option.isSome_some,or_true,true_or,go_sem,yz0,xx9,xx8,xx6,xx7,xx5,xx0,xx1,xx2,reduceIte,xx3,xx4,reduceCtorEq]
  have hT:=hC.tot A hk
  have hsmall:∀ M:CS,wsum M (fun f=>if smallN f=true then 1 else 0)≤wsum M fun _=>1:=fun M=>by
    induction M with
    | nil=>exact Nat.le_refl _
    | cons p M ih =>
      rw [wsum_cons,wsum_cons]
      split <;> omega
  have hres:wsum L (fun f=>if smallN f=true then 1 else 0)=resN next n k:=hC.sm _
  refine wpD_lo (fun (_,_,_,rem)=>rem.length) (fun (acc,_,_,rem)=>(∀ p∈rem,p.1<2 ^ n.toNat)∧acc+wsum rem (fun f=>if smallN f=true then 1 else 0)=wsum L (fun f=>if smallN f=true then 1 else 0))
    (fun ((acc,vi,cur,rem):Nat×Nat×Option (Nat×Nat)×CS)=>⟨Go.Ab.L .any [(7,iv acc),(19,.own 19 vi)],
      Go.Ab.L .gone [(19,.it vi (some (cur.isSome,keysC (cur.toList ++ rem),ints (numsC (cur.toList ++ rem)))))]⟩)
    (0,_,none,L) ⟨hC.ks,by omega⟩ (by simp only [Bz4x,dnL_ints,go_sem,yz0,xx9,xx8,xx6,xx7,xx5,xx0,xx1,xx2,reduceIte,xx3,xx4,reduceCtorEq];try rfl) ?_
  rintro ⟨acc,vi,cur,rem⟩ ⟨hr,hs⟩
  have hr:∀ p∈rem,p.1<2 ^ n.toNat:=hr
  have hs:acc+wsum rem (fun f=>if smallN f=true then 1 else 0)=wsum L (fun f=>if smallN f=true then 1 else 0):=hs
  simp only [Bz4x,Bz9e,dnL_ints,itT_C1,itT_C2,go_sem,yz0,xx9,xx8,xx6,xx7,xx5,xx0,xx1,xx2,reduceIte,xx3,xx4,reduceCtorEq]
  refine ⟨fun h0=>?_,fun j key A h1 h2=>?_⟩
  · have h0:=keysC_nil h0
    subst h0
    rw [wsum_nil,Nat.add_zero,hres] at hs
    subst hs
    simp only [Bz9g,Az4y,← hQ,dnL_ints,go_sem,yz0,xx9,xx8,xx6,xx7,xx5,xx0,xx1,xx2,reduceIte,xx3,xx4,reduceCtorEq]
  · obtain ⟨⟨g,c⟩,hp,rfl,rfl⟩:=getC h1 h2
    have hg:=hr _ (List.mem_of_getElem? hp)
    have hg:g<2 ^ n.toNat:=hg
    have hsub:∀ p∈rem.eraseIdx j,p.1<2 ^ n.toNat:=fun p hp=>hr p (List.mem_of_mem_eraseIdx hp)
    have hle:(rem.eraseIdx j).length<rem.length:=by
      rw [List.length_eraseIdx_of_lt (List.getElem?_eq_some_iff.1 hp).1]
      have:=(List.getElem?_eq_some_iff.1 hp).1;omega
    rw [wsum_erase hp] at hs
    have hs:acc+(c * (if smallN g=true then 1 else 0)+wsum (rem.eraseIdx j) (fun f=>if smallN f=true then 1 else 0))=wsum L (fun f=>if smallN f=true then 1 else 0):=hs
    have hb:=hsmall L
    rw [erase_keys,erase_nums]
    generalize rem.eraseIdx j=rem' at hsub hle hs
    simp only [Bz9d,dnL_ints,go_sem,yz0,xx9,xx8,xx6,xx7,xx5,xx0,xx1,xx2,reduceIte,xx3,xx4,reduceCtorEq]
    simp only [Bz9c,dnL_ints,go_sem,yz0,xx9,xx8,xx6,xx7,xx5,xx0,xx1,xx2,reduceIte,xx3,xx4,reduceCtorEq]
    intro vs4
    refine yz10 (k_isSmall g (by omega)) qCS trivial ?_
    cases hsg:smallN g with
    | true =>
      rw [hsg,if_pos rfl,Nat.mul_one] at hs
      have w2:IntKind.i64.wrap ((acc:Int)+c)=((acc+c:Nat):Int):=by rw [w64 (by omega)];simp
      simp only [Bz4w,w2,dnL_ints,go_sem,yz0,xx9,xx8,xx6,xx7,xx5,xx0,xx1,xx2,reduceIte,xx3,xx4,reduceCtorEq]
      exact ⟨(acc+c,vi,some (g,c),rem'),hle,⟨hsub,by dsimp only;omega⟩,rfl⟩
    | false =>
      rw [hsg,if_neg (by simp),Nat.mul_zero] at hs
      simp only [Bz4w,dnL_ints,go_sem,yz0,xx9,xx8,xx6,xx7,xx5,xx0,xx1,xx2,reduceIte,xx3,xx4,reduceCtorEq]
      exact ⟨(acc,vi,some (g,c),rem'),hle,⟨hsub,by dsimp only;omega⟩,rfl⟩
end Go.Ab
namespace Go.Ab
open Go Go.Proofs
def cntN (f:Nat):Nat:=(bitsTo f 10).length
end Go.Ab
namespace Go.Ab
open Go.Proofs
def rww (x:List (List (List Int))):List AVal:=x.map fun xss=>.ro (some none) 1 (rws xss)
def rwwn (x:List (List (List Int))):List AVal:=x.map fun xss=>.ro none 1 (rwn xss)
theorem dnL_rww {x:List (List (List Int))}:dnL (rww x)=rww x:=by
  simp only [dnL_eq,rww,List.map_map]
  exact List.map_congr_left fun o _=>by simp [AVal.dn,yz1g,dnNm]
theorem dnL_rwwn {x:List (List (List Int))}:dnL (rwwn x)=rwwn x:=by
  simp only [dnL_eq,rwwn,List.map_map]
  exact List.map_congr_left fun o _=>by simp [AVal.dn,dnL_rwn,dnNm]
theorem one_rww {hp:Nat→AObj} {x:List (List (List Int))}:(∀ A∈rww x,One hp A)=True:=by
  refine eq_true ?_
  intro A hA
  simp only [rww,List.mem_map] at hA
  obtain ⟨y,_,rfl⟩:=hA
  exact trivial
theorem frz_rww {hp:Nat→AObj} {x:List (List (List Int))}:(rww x).map (frz hp)=rww x:=by simp [rww,frz]
theorem owned_rww:∀ {x:List (List (List Int))},owned (rww x)=[]
  | []=>rfl
  | _ :: x=>owned_rww (x:=x)
theorem rww_snoc {x:List (List (List Int))} {y:List (List Int)}:rww x ++ [.ro (some none) 1 (rws y)]=rww (x ++ [y]):=by simp [rww]
theorem rww_len {x:List (List (List Int))}:(rww x).length=x.length:=by simp [rww]
theorem rwwn_len {x:List (List (List Int))}:(rwwn x).length=x.length:=by simp [rwwn]
theorem rww_nil:rww []=[]:=rfl
attribute [go_sem] dnL_rww dnL_rwwn one_rww frz_rww owned_rww rww_snoc rww_len rwwn_len rww_nil
structure Chc (n:Int) (nx:List (List (List Int))):Prop where
  n1:1≤n
  n2:n≤10
  l1:1≤nx.length
  l2:nx.length≤3
  row:∀ r∈nx,(r.length:Int)=n∧∀ s∈r,setB n s=true
end Go.Ab
namespace Go.Ab
open Go.Proofs
end Go.Ab
namespace Go.Ab
open Go.Proofs
structure Prt (n:Int) (next:List (List Int)):Prop where
  n1:1≤n
  n2:n≤10
  l1:1≤next.length
  l2:next.length≤3
  row:∀ row∈next,(row.length:Int)=n∧∀ x∈row,-1≤x∧x<n
theorem Prt.at {n:Int} {next:List (List Int)} (P:Prt n next) {l:Nat} (hl:l<next.length) {s:Int} (hs:0≤s∧s<n):s.toNat<(next.getD l []).length∧-1≤(next.getD l []).getD s.toNat 0∧(next.getD l []).getD s.toNat 0<n:=by
  have h1:=P.row _ (yz17 hl [])
  have h2:s.toNat<(next.getD l []).length:=by omega
  have h3:=h1.2 _ (yz17 h2 0)
  exact ⟨h2,h3⟩
end Go.Ab
namespace Go.Ab
open Go.Proofs
end Go.Ab
namespace Go.Ab
open Go.Proofs
theorem bitsTo_eq {f:Nat}:bitsTo f 10=(bitsN f).map fun (s:Nat)=>(s:Int):=rfl
theorem mem_bitsTo {f:Nat} {x:Int}:x∈bitsTo f 10↔0≤x∧x<10∧f.testBit x.toNat=true:=by
  rw [bitsTo_eq,List.mem_map]
  constructor
  · rintro ⟨s,hs,rfl⟩
    rw [mem_bits] at hs
    exact ⟨by omega,by omega,by rw [Int.toNat_natCast];exact hs.2⟩
  · rintro ⟨h1,h2,h3⟩
    exact ⟨x.toNat,mem_bits.2 ⟨by omega,h3⟩,by omega⟩
theorem small_pow {s:Nat} (h:s<10):smallN (2 ^ s)=true:=by
  have h2:∀ s:Fin 10,smallN (2 ^ s.val)=true:=by decide
  exact h2 ⟨s,h⟩
end Go.Ab
namespace Go.Ab
open Go.Proofs
theorem bitsN_SI {f:Nat}:SI (bitsTo f 10):=by
  rw [bitsTo_eq]
  unfold SI
  rw [List.pairwise_map]
  unfold bitsN
  exact (List.Pairwise.filter _ List.pairwise_lt_range).imp fun h=>by omega
theorem or_bits:∀ (set:List Int) (o t:Nat),(set.foldl (fun o s=>o ||| 2 ^ s.toNat) o).testBit t=(o.testBit t || set.any fun s=>s.toNat == t)
  | [],o,t=>by simp
  | s :: set,o,t=>by
    rw [List.foldl_cons,or_bits set,Nat.testBit_or,Nat.testBit_two_pow,List.any_cons,Bool.or_assoc]
    congr 1
theorem mask_bits {f:Nat} (hf:f<1024):maskN (bitsTo f 10)=f:=by
  apply Nat.eq_of_testBit_eq
  intro t
  unfold maskN
  rw [or_bits,Nat.zero_testBit,Bool.false_or,Bool.eq_iff_iff,List.any_eq_true]
  constructor
  · rintro ⟨s,h1,h2⟩
    have h3:=mem_bitsTo.1 h1
    have:s.toNat=t:=by simpa using h2
    rw [← this];exact h3.2.2
  · intro h
    have ht:t<10:=by
      rcases Nat.lt_or_ge t 10 with g | g
      · exact g
      · have:=Nat.testBit_lt_two_pow (x:=f) (i:=t) (Nat.lt_of_lt_of_le hf (show 2 ^ 10≤2 ^ t from Nat.pow_le_pow_right (by omega) g))
        rw [this] at h;cases h
    exact ⟨(t:Int),mem_bitsTo.2 ⟨by omega,by omega,by simpa using h⟩,by simp⟩
theorem img_bits {n:Int} {next:List (List Int)} (A:Aut n next) {w:List Int} (hw:IsW next.length w):nrm ((allS n).map fun s=>atA next s w)=bitsTo (imN next (2 ^ n.toNat - 1) w) 10:=by
  have n1:=A.n1
  have n2:=A.n2
  have hp:=Nat.two_pow_pos n.toNat
  obtain ⟨h1,h2⟩:=imN_bit A w (f:=2 ^ n.toNat - 1) (by omega) hw
  refine SI_ext (nrm_SI _) bitsN_SI fun x=>?_
  rw [nrm_mem,List.mem_map,bitsTo_eq,List.mem_map]
  constructor
  · rintro ⟨s,hs,rfl⟩
    have hs:=allS_in s hs
    have hs2:=A.at (w:=w) hs hw
    refine ⟨(atA next s w).toNat,(h2 _).2 ⟨s.toNat,(all_bits ⟨n1,n2⟩).2 (by omega),by rw [show ((s.toNat:Nat):Int)=s by omega];omega⟩,by omega⟩
  · rintro ⟨t,ht,rfl⟩
    obtain ⟨s,hs,e⟩:=(h2 t).1 ht
    have b:=(all_bits ⟨n1,n2⟩).1 hs
    refine ⟨(s:Int),?_,e⟩
    unfold allS
    exact List.mem_map.2 ⟨s,List.mem_range.2 (by omega),rfl⟩
end Go.Ab
namespace Go.Ab
open Go Go.Proofs
theorem cntN_bits {f:Nat}:cntN f=(bitsN f).length:=by unfold cntN;rw [bitsTo_eq,List.length_map]
theorem cntN_small {f:Nat} (hf:f<1024):smallN f=decide (cntN f≤1):=by rw [small_bits f hf,cntN_bits]
theorem bitsN_nodup {f:Nat}:(bitsN f).Nodup:=List.nodup_range.sublist List.filter_sublist
theorem bitsN_lt {N f t:Nat} (hf:f<2 ^ N) (ht:t∈bitsN f):t<N:=by
  rw [mem_bits] at ht
  rcases Nat.lt_or_ge t N with g | g
  · exact g
  · have:=Nat.testBit_lt_two_pow (x:=f) (i:=t) (Nat.lt_of_lt_of_le hf (Nat.pow_le_pow_right (by omega) g))
    rw [this] at ht;simp at ht
theorem img_set {n:Int} {next:List (List Int)} (A:Aut n next) {f:Nat} (hf:f<2 ^ n.toNat) {w:List Int} (hw:IsW next.length w):nrm ((bitsTo f 10).map fun s=>atA next s w)=bitsTo (imN next f w) 10:=by
  have n1:=A.n1
  have n2:=A.n2
  obtain ⟨h1,h2⟩:=imN_bit A w hf hw
  refine SI_ext (nrm_SI _) bitsN_SI fun x=>?_
  rw [nrm_mem,List.mem_map,bitsTo_eq,bitsTo_eq]
  constructor
  · rintro ⟨s,hs,rfl⟩
    obtain ⟨t,ht,rfl⟩:=List.mem_map.1 hs
    have htl:=bitsN_lt hf ht
    have hs2:=A.at (s:=(t:Int)) (w:=w) (by omega) hw
    exact List.mem_map.2 ⟨(atA next t w).toNat,(h2 _).2 ⟨t,ht,by omega⟩,by omega⟩
  · intro hx
    obtain ⟨t,ht,rfl⟩:=List.mem_map.1 hx
    obtain ⟨s,hs,e⟩:=(h2 t).1 ht
    exact ⟨(s:Int),List.mem_map_of_mem hs,e⟩
theorem set_bits {n:Int} {set:List Int} (hn:n≤10) (hs:setB n set=true):maskN set<2 ^ n.toNat∧bitsTo (maskN set) 10=set:=by
  have h:=setB_iff.1 hs
  have hlt:maskN set<2 ^ n.toNat:=by
    apply Nat.lt_pow_two_of_testBit
    intro i hi
    rw [Bool.eq_false_iff]
    intro hc
    unfold maskN at hc
    rw [or_bits,Nat.zero_testBit,Bool.false_or,List.any_eq_true] at hc
    obtain ⟨s,h1,h2⟩:=hc
    have h3:=h.2 s h1
    have:s.toNat=i:=by simpa using h2
    omega
  refine ⟨hlt,SI_ext bitsN_SI h.1 fun x=>?_⟩
  rw [mem_bitsTo]
  unfold maskN
  rw [or_bits,Nat.zero_testBit,Bool.false_or,List.any_eq_true]
  constructor
  · rintro ⟨h1,h2,s,h3,h4⟩
    have h5:=h.2 s h3
    have:s.toNat=x.toNat:=by simpa using h4
    rw [show x=s by omega];exact h3
  · intro hx
    have h5:=h.2 x hx
    exact ⟨by omega,by omega,x,hx,by simp⟩
end Go.Ab
namespace Go.Ab
open Go Go.Proofs
theorem mem_pow {s:Nat} (hs:s<10) {t:Nat}:t∈bitsN (2 ^ s)↔t=s:=by
  rw [mem_bits,Nat.testBit_two_pow,decide_eq_true_eq];omega
theorem bits_eqv {f g:Nat} (hf:f<1024) (hg:g<1024) (h:∀ t,t∈bitsN f↔t∈bitsN g):f=g:=by
  rw [← mask_bits hf,← mask_bits hg]
  congr 1
  refine SI_ext bitsN_SI bitsN_SI fun x=>?_
  rw [bitsTo_eq,bitsTo_eq,List.mem_map,List.mem_map]
  constructor
  · rintro ⟨t,ht,e⟩;exact ⟨t,(h t).1 ht,e⟩
  · rintro ⟨t,ht,e⟩;exact ⟨t,(h t).2 ht,e⟩
theorem small_one {n:Int} {next:List (List Int)} (A:Aut n next) {w:List Int} (hw:IsW next.length w) (h:smallN (imN next (2 ^ n.toNat - 1) w)=true):∃ s:Nat,(s:Int)<n∧imN next (2 ^ n.toNat - 1) w=2 ^ s:=by
  have n1:=A.n1
  have n2:=A.n2
  have hp:=Nat.two_pow_pos n.toNat
  have hF:2 ^ n.toNat - 1<2 ^ n.toNat:=by omega
  have hN:2 ^ n.toNat≤1024:=Nat.pow_le_pow_right (n:=2) (by omega) (show n.toNat≤10 by omega)
  obtain ⟨h1,h2⟩:=imN_bit A w hF hw
  have h0:0∈bitsN (2 ^ n.toNat - 1):=(all_bits ⟨n1,n2⟩).2 (by omega)
  have ha:=A.at (s:=0) (w:=w) (by omega) hw
  have hs:(atA next 0 w).toNat∈bitsN (imN next (2 ^ n.toNat - 1) w):=(h2 _).2 ⟨0,h0,by rw [show ((0:Nat):Int)=0 from rfl];omega⟩
  refine ⟨(atA next 0 w).toNat,by omega,bits_eqv (by omega) ?_ fun t=>?_⟩
  · exact Nat.lt_of_lt_of_le (Nat.pow_lt_pow_right (by omega) (show (atA next 0 w).toNat<10 by omega)) (Nat.le_refl _)
  · rw [mem_pow (by omega)]
    constructor
    · intro ht;exact (small_iff (by omega)).1 h t ht _ hs
    · rintro rfl;exact hs
theorem targ_mem {n:Int} {next:List (List Int)} {s:Int}:s∈targL next n↔0≤s∧s<n∧hasT (tourT next (2 ^ n.toNat - 1)) (2 ^ s.toNat)=true:=by
  unfold targL
  rw [List.mem_filter]
  constructor
  · rintro ⟨h1,h2⟩;have:=allS_in s h1;exact ⟨this.1,this.2,h2⟩
  · rintro ⟨h1,h2,h3⟩
    refine ⟨?_,h3⟩
    unfold allS
    exact List.mem_map.2 ⟨s.toNat,List.mem_range.2 (by omega),by omega⟩
theorem hasT_find {T:TS} {f:Nat}:(T.find? fun q=>q.1 == f).isSome=hasT T f:=by
  rw [Bool.eq_iff_iff,List.find?_isSome]
  unfold hasT
  rw [List.any_eq_true]
  constructor
  · rintro ⟨x,h1,h2⟩;exact ⟨x,h1,by rw [Nat.beq_eq];simpa using h2⟩
  · rintro ⟨x,h1,h2⟩;exact ⟨x,h1,by rw [Nat.beq_eq] at h2;simpa using h2⟩
theorem at_one {n:Int} {next:List (List Int)} (A:Aut n next) {w:List Int} (hw:IsW next.length w) {s:Nat} (hs:s<10) (h:imN next (2 ^ n.toNat - 1) w=2 ^ s):atA next 0 w=(s:Int):=by
  have n1:=A.n1
  have n2:=A.n2
  have hp:=Nat.two_pow_pos n.toNat
  obtain ⟨h1,h2⟩:=imN_bit A w (f:=2 ^ n.toNat - 1) (by omega) hw
  have h0:0∈bitsN (2 ^ n.toNat - 1):=(all_bits ⟨n1,n2⟩).2 (by omega)
  have ha:=A.at (s:=0) (w:=w) (by omega) hw
  have hm:(atA next 0 w).toNat∈bitsN (imN next (2 ^ n.toNat - 1) w):=(h2 _).2 ⟨0,h0,by rw [show ((0:Nat):Int)=0 from rfl];omega⟩
  rw [h,mem_pow hs] at hm
  omega
theorem first_set {n:Int} {next:List (List Int)} (A:Aut n next) {M:Nat} (hM:M<2 ^ n.toNat) {w:List Int} (hw:IsW next.length w) (h:smallN (imN next (2 ^ n.toNat - 1) w)=true) :
    ∃ q,firstT (tourT next M)=some q∧IsW next.length q.2∧q.2.length<(tourT next M).length∧cntN (imN next M q.2)≤1∧q.2.length≤w.length:=by
  have n1:=A.n1
  have n2:=A.n2
  have hp:=Nat.two_pow_pos n.toNat
  have hN:2 ^ n.toNat≤1024:=Nat.pow_le_pow_right (n:=2) (by omega) (show n.toNat≤10 by omega)
  have hF:2 ^ n.toNat - 1<2 ^ n.toNat:=by omega
  have hsm:smallN (imN next M w)=true:=by
    have b1:=(imN_bit A w hM hw).1
    have b2:=(imN_bit A w hF hw).1
    rw [small_iff (by omega)] at h ⊢
    have sub:∀ t∈bitsN (imN next M w),t∈bitsN (imN next (2 ^ n.toNat - 1) w):=fun t ht=>by
      obtain ⟨s,hs,e⟩:=((imN_bit A w hM hw).2 t).1 ht
      exact ((imN_bit A w hF hw).2 t).2 ⟨s,(all_bits ⟨n1,n2⟩).2 (by have:=bitsN_lt hM hs;omega),e⟩
    exact fun s hs t ht=>h s (sub s hs) t (sub t ht)
  have hT:=(runT_ok A 1100 0 _ (TI0 (m:=next.length) hM)).1
  cases hf:firstT (tourT next M) with
  | none =>
    obtain ⟨j,hj,h1,_⟩:=tour_le A hM w.length w rfl hw
    have:=List.find?_eq_none.1 hf _ (yz17 hj (0,[]))
    rw [h1] at this
    exact absurd hsm this
  | some q =>
    have hqm:=List.mem_of_find?_eq_some hf
    have hqs:smallN q.1=true:=by have:=List.find?_some hf;exact this
    have hqS:=two_snd (next:=next) (f:=M) q hqm
    have hqw:=hT.wd q hqm
    have hql:=hT.rg q hqm
    refine ⟨q,rfl,hqw.1,hqw.2,?_,first_le A hM hf hw hsm⟩
    rw [cntN_small (by omega),decide_eq_true_eq,hqS] at hqs
    exact hqs
theorem res_zero {n:Int} {next:List (List Int)} {k:Nat} (h:∀ w:List Int,w.length=k→IsW next.length w→smallN (imN next (2 ^ n.toNat - 1) w)=false):resN next n k=0:=wnum_nil fun w hl hw=>by rw [h w hl hw];rfl
theorem res_pos {n:Int} {next:List (List Int)} {w:List Int} (hw:IsW next.length w) (h:smallN (imN next (2 ^ n.toNat - 1) w)=true):1≤resN next n w.length:=by
  have:=wnum_pos (next:=next) (f:=2 ^ n.toNat - 1) w.length (φ:=fun f=>if smallN f=true then 1 else 0) rfl hw
  rw [if_pos h] at this
  exact this
theorem wpD_kpdn_of4 {P:Program} {ts hs:List Nat} {a:AC} {Q:AEx→St→Prop} {σ σ':St} (h:σ.kd ts hs=σ'.kd ts hs) (h':wpD P (.kp ts hs (.dn a)) Q σ'):wpD P (.kp ts hs (.dn a)) Q σ:=by
  show wpD P a Q ((σ.keep ts hs).dn)
  rw [kd_eq,h,← kd_eq];exact h'
end Go.Ab
namespace Go.Ab
theorem rwp_putN {ps:List (Nat×List Int)} {i:Nat} {p:Nat×List Int}:(rwp ps).take i ++ [.ro (some (some (p.1+1))) 1 (ints p.2)] ++ (rwp ps).drop (i+1)=rwp (ps.take i ++ [p] ++ ps.drop (i+1)):=by
  simp only [rwp,List.map_append,List.map_take,List.map_drop,List.map_cons,List.map_nil]
theorem DJ_put {A C:List (Nat×List Int)} {b b':Nat×List Int} (h:DJ (A ++ b :: C)) (h1:b'.1=b.1) (h2:b.2=[]→b'.2=[]):DJ (A ++ b' :: C):=by
  unfold DJ at h ⊢
  rw [List.pairwise_append] at h ⊢
  obtain ⟨hA,hC,hX⟩:=h
  rw [List.pairwise_cons] at hC ⊢
  refine ⟨hA,⟨fun x hx=>?_,hC.2⟩,fun x hx y hy=>?_⟩
  · rcases hC.1 x hx with e | e | e
    · exact .inl (h2 e)
    · exact .inr (.inl e)
    · exact .inr (.inr (by rw [h1];exact e))
  · rcases List.mem_cons.1 hy with rfl | hy
    · rcases hX x hx b (List.mem_cons_self ..) with e | e | e
      · exact .inl e
      · exact .inr (.inl (h2 e))
      · exact .inr (.inr (by rw [h1];exact e))
    · exact hX x hx y (List.mem_cons_of_mem _ hy)
theorem DJ_set {ps:List (Nat×List Int)} {i:Nat} (hi:i<ps.length) {xs:List Int} (h:DJ ps) (h2:(ps.getD i (0,[])).2=[]→xs=[]):DJ (ps.take i ++ [((ps.getD i (0,[])).1,xs)] ++ ps.drop (i+1)):=by
  have e:ps=ps.take i ++ ps.getD i (0,[]) :: ps.drop (i+1):=by
    rw [List.getD_eq_getElem?_getD,List.getElem?_eq_getElem hi,Option.getD_some,List.getElem_cons_drop,List.take_append_drop]
  rw [e] at h
  rw [List.append_assoc,List.singleton_append]
  exact DJ_put h rfl h2
end Go.Ab
namespace Go.Ab
open Go.Proofs
theorem rf_L {l:List (Nat×AVal)} {h:List (Nat×AObj)} {r i q v k k' ver:Nat} {nn nn':Bool} {cs cs':List AVal} (hr:L .gone h r=.row v k nn cs) (hqr:q≠r) :
    St.rf ⟨L .any l,L .gone h⟩ r i q ver k' nn' cs'=⟨L .any l,L .gone ((r,.row v k nn (cs.set i (.ro (frNm nn' cs'.length ver) k' cs'))) :: (q,.gone) :: h)⟩:=by
  unfold St.rf
  congr 1
  funext x
  simp only [L]
  split
  · rw [hr]
  · split <;> rfl
theorem gwp_rf {gs:List GStep} {K:St→Prop} {l:List (Nat×AVal)} {h:List (Nat×AObj)} {r i q v k k' ver:Nat} {nn nn':Bool} {cs cs':List AVal} (hr:L .gone h r=.row v k nn cs)
    (hi:cs[i]?=some (.own q ver)) (hqr:q≠r) (hq:L .gone h q=.row ver k' nn' cs')
    (hk:(∀ n k'' cs'',AVal.ro (some (some (n+1))) k'' cs''∈cs→cs''≠[]→n≠ver)→gwp gs K ⟨L .any l,L .gone ((r,.row v k nn (cs.set i (.ro (frNm nn' cs'.length ver) k' cs'))) :: (q,.gone) :: h)⟩):gwp (.rf r i q :: gs) K ⟨L .any l,L .gone h⟩ :=
  ⟨v,k,nn,cs,ver,k',nn',cs',hr,hi,hqr,hq,fun hd=>by rw [rf_L hr hqr];exact hk hd⟩
theorem woL_set {A C:List (Nat×List Int)} {b:Nat×List Int} {X:AVal} (h:∀ p∈A ++ C,p.2=[]∨p.1≠b.1):(woL b.1 (rwp (A ++ b :: C))).set A.length X=rwp A ++ X :: rwp C:=by
  have e:rwp (A ++ b :: C)=rwp A ++ (.ro (some (some (b.1+1))) 1 (ints b.2)) :: rwp C:=by simp [rwp]
  have hl:(rwp A).length=A.length:=rwp_len
  have hA:=woL_rwp (n:=b.1) (ps:=A) fun p hp=>h p (List.mem_append.2 (.inl hp))
  have hC:=woL_rwp (n:=b.1) (ps:=C) fun p hp=>h p (List.mem_append.2 (.inr hp))
  have happ:∀ l l':List AVal,woL b.1 (l ++ l')=woL b.1 l ++ woL b.1 l':=by
    intro l l'
    simp only [woL_eq,List.map_append]
  rw [e,happ,hA,woL_cons,hC,List.set_append_right _ _ (by omega),hl,Nat.sub_self]
  rfl
theorem own_at {A C:List (Nat×List Int)} {X:AVal} {i:Nat} (h:i=A.length):(rwp A ++ X :: rwp C).getD i .any=X:=by
  subst h
  rw [List.getD_eq_getElem?_getD,List.getElem?_append_right (by rw [rwp_len];exact Nat.le_refl _),rwp_len];simp
theorem DJ_out {X Y:List (Nat×List Int)} {b:Nat×List Int} (h:DJ (X ++ b :: Y)) (hb:b.2≠[]):∀ p∈X ++ Y,p.2=[]∨p.1≠b.1:=by
  intro p hp
  rcases (List.pairwise_cons.1 (DJ_perm List.perm_middle h)).1 p hp with e | e | e
  · exact absurd e hb
  · exact .inl e
  · exact .inr (Ne.symm e)
theorem DJ_in {X Y:List (Nat×List Int)} {b:Nat×List Int} {u:Nat} {r:List Int} (h:DJ (X ++ b :: Y)) (hu:∀ p∈X ++ Y,p.2=[]∨p.1≠u):DJ (X ++ (u,r) :: Y) :=
  DJ_perm List.perm_middle.symm (List.pairwise_cons.2 ⟨fun p hp=>by
    rcases hu p hp with e | e
    · exact .inr (.inl e)
    · exact .inr (.inr (Ne.symm e)),(List.pairwise_cons.1 (DJ_perm List.perm_middle h)).2⟩)
theorem rwp_get {A C:List (Nat×List Int)} {b:Nat×List Int} {i:Nat} (h:i=A.length):(rwp (A ++ b :: C))[i]?=some (.ro (some (some (b.1+1))) 1 (ints b.2)):=by
  subst h
  rw [rwp,List.map_append,List.getElem?_append_right (by simp)]
  simp
theorem own_get {A C:List (Nat×List Int)} {X:AVal} {i:Nat} (h:i=A.length):(rwp A ++ X :: rwp C)[i]?=some X:=by
  subst h
  rw [List.getElem?_append_right (by rw [rwp_len];exact Nat.le_refl _),rwp_len];simp
theorem rwp_cat {A C:List (Nat×List Int)} {u:Nat} {xs:List Int}:rwp A ++ (.ro (some (some (u+1))) 1 (ints xs)) :: rwp C=rwp (A ++ (u,xs) :: C):=by simp [rwp]
theorem rwp_split {ps:List (Nat×List Int)} {k:Nat} (h:k<ps.length):∃ A b C,ps=A ++ b :: C∧A.length=k :=
  ⟨ps.take k,ps[k],ps.drop (k+1),by rw [← List.drop_eq_getElem_cons h,List.take_append_drop],by rw [List.length_take];omega⟩
theorem callHp_mrr {hp:Nat→AObj} {r d:Nat} {s:Nat→Nat} {o o1 o2:AObj} (hne:d≠r) (hne2:d+1000≠r) :
    callHp hp [r] d s [o] [o1,o2]=upd (upd (upd hp r (o.ren (rid [r] d 2) (sv hp [r] s))) d (o1.ren (rid [r] d 2) (sv hp [r] s))) (d+1000) (o2.ren (rid [r] d 2) (sv hp [r] s)):=by
  have hnew:∀ i,i<[o1,o2].length→newId d i ∉ [r]:=by
    intro i hi
    have:i=0∨i=1:=by simp at hi;omega
    rcases this with rfl | rfl
    · simpa [newId] using hne
    · simpa [newId] using hne2
  funext n
  by_cases h:n=d+1000
  · have h1:rid [r] d [o1,o2].length 6001=some n:=by rw [h];exact rid1
    rw [callHp_at (by simp) hnew h1]
    simp [upd,h,outHp]
  · by_cases h2:n=d
    · have h1:rid [r] d [o1,o2].length 6000=some n:=by rw [h2];exact rid0
      rw [callHp_at (by simp) hnew h1]
      have hne3:d≠d+1000:=by omega
      simp [upd,h2,outHp,hne3]
    · by_cases h':n=r
      · have h1:rid [r] d [o1,o2].length 5000=some n:=by rw [h'];exact rid_m (j:=0) (by omega) rfl
        rw [callHp_at (by simp) hnew h1]
        simp [upd,h',outHp,Ne.symm hne,Ne.symm hne2]
      · rw [callHp_not]
        · simp [upd,h,h2,h']
        · rintro ⟨q,hq⟩
          rcases rid_cases hq with ⟨j,rfl,_,h1⟩ | ⟨i,rfl,h1,h3⟩
          · cases j with
            | zero=>simp at h1;exact h' h1.symm
            | succ j=>simp at h1
          · have:i=0∨i=1:=by simp at h1;omega
            rcases this with rfl | rfl
            · exact h2 (by simpa [newId] using h3)
            · exact h (by simpa [newId] using h3)
theorem sv_inj {hp:Nat→AObj} {r v:Nat} {s:Nat→Nat} {cs:List AVal} (hr:hp r=.box v cs) (hs:∀ x y,s x=s y→x=y) (hv:∀ y,s y≠v):∀ x y,sv hp [r] s x=sv hp [r] s y→x=y:=by
  intro x y e
  rcases Nat.eq_zero_or_pos x with rfl | hx <;> rcases Nat.eq_zero_or_pos y with rfl | hy
  · rfl
  · rw [sv_m hr,sv_new hy] at e;exact absurd e.symm (hv y)
  · rw [sv_new hx,sv_m hr] at e;exact absurd e (hv x)
  · rw [sv_new hx,sv_new hy] at e;exact hs _ _ e
structure TwI (n m:Int) (A B:List (Nat×List Int)) (top:Int) (low:Int):Prop where
  a:∀ p∈A,(p.2.length:Int)=m∧∀ x∈p.2,0≤x∧x<top
  b:∀ p∈B,(p.2.length:Int)=n∧∀ x∈p.2,0≤x∧x<low
end Go.Ab
namespace Go.Ab
open Go.Proofs
abbrev LoR (code:List Int) (at_ k:Int) (outs rows:List AObj) (res:AVal):Prop :=
  ∃ n ps v a' s',(ps.length≤3→DJ ps)∧ps.length≤10∧-1≤n∧n≤11∧(∀ p∈ps,p.2.length≤10)∧at_≤a'∧a'≤at_+k∧outs=[.box 0 (srcC code a' s')]∧rows=[.row v 1 true (rwp ps)]∧res=.st [iv n,.own 6000 v]
theorem call_boxrowN {P:Program} {nos:List Nat} {σ:St} {g:FuncId} {As args:List AVal} {d:Nat} {s:Nat→Nat} {K:St→Prop} {r q v u:Nat} {cs cs0:List AVal} {xs:List Int} {Q:List AVal→Value→Prop}
    (h:Con P g [.box 0 cs,.row 1 1 true (ints xs)] args true fun outs rows res=>∃ cs' x,Q cs' x∧flatL cs'∧outs=[.box 0 cs',.row 1 1 true (ints xs)]∧rows=[]∧res=.val x)
    (hr:σ.hp r=.box v cs0) (hq:σ.hp q=.row u 1 true (ints xs)) (hm:r∈nos∧q∈nos) (hne:[r,q].Nodup) (hcs:CoeL σ.hp [r,q] false cs cs0) (ha:CoeL σ.hp [r,q] false args As) (hex:∃ cs' x,Q cs' x∧flatL cs')
    (hk:∀ cs' x,Q cs' x→K (St.put ⟨σ.tm,upd (upd σ.hp r (.box v cs')) q (.row u 1 true (ints xs))⟩ (some d) (.val x))):wpCallN P nos σ g As (some d) s K:=by
  refine ⟨[r,q],_,_,true,_,h,⟨by simp,rfl,hne,?_,?_⟩,ha,⟨by simp [hm.1,hm.2],?_⟩,?_⟩
  · intro x hx
    simp only [List.mem_cons,List.not_mem_nil,or_false] at hx
    rcases hx with rfl | rfl
    · simp [hr]
    · simp [hq]
  · intro j B r' hB hr'
    match j,hB,hr' with
    | 0,hB,hr' =>
      simp at hB hr';subst hB;subst hr'
      rw [hr]
      exact ⟨rfl,v,cs0,rfl,hcs⟩
    | 1,hB,hr' =>
      simp at hB hr';subst hB;subst hr'
      simp only [ObjCoe,hq]
      exact ⟨trivial,u,_,rfl,coeL_ints⟩
    | j+2,hB,hr'=>simp at hB
  · obtain ⟨cs',x,hq,hf⟩:=hex
    exact ⟨_,_,_,cs',x,hq,hf,rfl,rfl,rfl⟩
  · rintro outs rows res ⟨cs',x,hQ,hf,rfl,rfl,rfl⟩
    refine ⟨rfl,rfl,?_⟩
    have s0:sv σ.hp [r,q] s 0=v:=by simp [sv,hr,AObj.ver]
    have s1:sv σ.hp [r,q] s 1=u:=by simp [sv,hq,AObj.ver]
    rw [Option.getD_some,callHp_h2 hne]
    simp only [yzm,yzo,renL_flat cs' hf,yz3,yzu,s0,s1]
    exact hk cs' x hQ
theorem k_l01Bent (code:List Int) (at_ seed:Int) (hb:∀ x∈code,0≤x∧x≤255) (ha:0≤at_∧at_≤100000) :
    Con Try.prog nz43 [.box 0 (srcC code at_ seed)] [.ptr 5000 0 0] true (LoR code at_ 3000):=by
  refine con_shE mixed czk1 rfl (by simp) ?_
  generalize hQ:finQ _=Q
  have h12:∀ (σ:St) (v2 v3:Nat) (r v:Nat) (o6 o10 o61 o73 o77:AObj) (a s n:Int) (ps:List (Nat×List Int)),
      (ps.length≤3→DJ ps)→ps.length≤10→-1≤n∧n≤11→(∀ p∈ps,p.2.length≤10)→at_≤a∧a≤at_+3000 →
      (r=6∧o6=.row v 1 true (rwp ps)∨r=10∧o10=.row v 1 true (rwp ps)∨r=77∧o77=.row v 1 true (rwp ps)) →
      σ.keep [2,3] [2,3,6,10,61,73,77,5000,901]=⟨L .any [(2,.ptr 2 v2 0),(3,.ptr 3 v3 0)],
        L .gone [(2,.box v2 [iv 0,.val (.slice none 0 0)]),(3,.box v3 [iv n,.own r v]),(6,o6),(10,o10),(61,o61),(73,o73),(77,o77),(5000,.box 0 (srcC code a s)),(901,.gone)]⟩ →
      wpD Try.prog Bz12 Q σ:=by
    intro σ v2 v3 r v o6 o10 o61 o73 o77 a s n ps hd hl hn hr ha' hrv hS
    unfold Bz12
    rw [yzy,hS]
    simp only [wpD_gh]
    intro _
    refine ⟨[],?_⟩
    rcases hrv with ⟨rfl,rfl⟩ | ⟨rfl,rfl⟩ | ⟨rfl,rfl⟩
    · simp only [gwp_nil,yzy,yzk,go_sem,yz0,xx9,xx8,xx6,xx7,xx5,xx0,xx1,xx2,reduceIte,xx3,xx4,reduceCtorEq]
      intro vs U hN
      simp only [← hQ,Aze,go_sem,yz0,xx9,xx8,xx6,xx7,xx5,xx0,xx1,xx2,reduceIte,xx3,xx4,reduceCtorEq]
      refine ⟨[6],by simp,by simp,by simp,?_⟩
      simp only [range1,List.length_singleton,renL_rwp,Nat.not_lt_zero,range1,yzu,yzx,yz12,yz15,yzw,yz13,yz14,yz11,yzv,yzn,yze,yz3,yzq,yzs,yzo,yzm,yzr,yz9,yzc,yza,yz7,yzg,yzf,yz2,yz5,yzd,yzb,yzj,yzi,List.range_zero,yz6,yz4,yz8,yzt,yzl,yzp,AVal.fresh,freshL,yz1,yzh,AObj.fresh,id,Option.isSome_some,or_true,true_or,go_sem,yz0,xx9,xx8,xx6,xx7,xx5,xx0,xx1,xx2,reduceIte,xx3,xx4,reduceCtorEq]
      exact ⟨n,ps,v,a,s,hd,hl,hn.1,hn.2,hr,ha'.1,ha'.2,rfl,by simp,rfl⟩
    · simp only [gwp_nil,yzy,yzk,go_sem,yz0,xx9,xx8,xx6,xx7,xx5,xx0,xx1,xx2,reduceIte,xx3,xx4,reduceCtorEq]
      intro vs U hN
      simp only [← hQ,Aze,go_sem,yz0,xx9,xx8,xx6,xx7,xx5,xx0,xx1,xx2,reduceIte,xx3,xx4,reduceCtorEq]
      refine ⟨[10],by simp,by simp,by simp,?_⟩
      simp only [range1,List.length_singleton,renL_rwp,Nat.not_lt_zero,range1,yzu,yzx,yz12,yz15,yzw,yz13,yz14,yz11,yzv,yzn,yze,yz3,yzq,yzs,yzo,yzm,yzr,yz9,yzc,yza,yz7,yzg,yzf,yz2,yz5,yzd,yzb,yzj,yzi,List.range_zero,yz6,yz4,yz8,yzt,yzl,yzp,AVal.fresh,freshL,yz1,yzh,AObj.fresh,id,Option.isSome_some,or_true,true_or,go_sem,yz0,xx9,xx8,xx6,xx7,xx5,xx0,xx1,xx2,reduceIte,xx3,xx4,reduceCtorEq]
      exact ⟨n,ps,v,a,s,hd,hl,hn.1,hn.2,hr,ha'.1,ha'.2,rfl,by simp,rfl⟩
    · simp only [gwp_nil,yzy,yzk,go_sem,yz0,xx9,xx8,xx6,xx7,xx5,xx0,xx1,xx2,reduceIte,xx3,xx4,reduceCtorEq]
      intro vs U hN
      simp only [← hQ,Aze,go_sem,yz0,xx9,xx8,xx6,xx7,xx5,xx0,xx1,xx2,reduceIte,xx3,xx4,reduceCtorEq]
      refine ⟨[77],by simp,by simp,by simp,?_⟩
      simp only [range1,List.length_singleton,renL_rwp,Nat.not_lt_zero,range1,yzu,yzx,yz12,yz15,yzw,yz13,yz14,yz11,yzv,yzn,yze,yz3,yzq,yzs,yzo,yzm,yzr,yz9,yzc,yza,yz7,yzg,yzf,yz2,yz5,yzd,yzb,yzj,yzi,List.range_zero,yz6,yz4,yz8,yzt,yzl,yzp,AVal.fresh,freshL,yz1,yzh,AObj.fresh,id,Option.isSome_some,or_true,true_or,go_sem,yz0,xx9,xx8,xx6,xx7,xx5,xx0,xx1,xx2,reduceIte,xx3,xx4,reduceCtorEq]
      exact ⟨n,ps,v,a,s,hd,hl,hn.1,hn.2,hr,ha'.1,ha'.2,rfl,by simp,rfl⟩
  have h12b:∀ (σ:St) (v2 v3 r v m:Nat) (o6 o10:AObj) (a s n:Int) (A2 C2:List (Nat×List Int)) (b:Nat×List Int) (cur:List Int),
      DJ (A2 ++ b :: C2)→(A2 ++ b :: C2).length≤10→-1≤n∧n≤11→(∀ p∈A2 ++ C2,p.2.length≤10)→cur.length≤10→at_≤a∧a≤at_+3000 →
      (r=6∧o6=.row v 1 true (rwp A2 ++ .own 901 m :: rwp C2)∨r=10∧o10=.row v 1 true (rwp A2 ++ .own 901 m :: rwp C2)) →
      σ.keep [2,3] [2,3,6,10,61,73,77,5000,901]=⟨L .any [(2,.ptr 2 v2 0),(3,.ptr 3 v3 0)],
        L .gone [(2,.box v2 [iv 0,.val (.slice none 0 0)]),(3,.box v3 [iv n,.own r v]),(6,o6),(10,o10),(61,.gone),(73,.gone),(77,.gone),(5000,.box 0 (srcC code a s)),(901,.row m 1 true (ints cur))]⟩ →
      wpD Try.prog Bz12 Q σ:=by
    intro σ v2 v3 r v m o6 o10 a s n A2 C2 b cur hd hl hn hr hc ha' hrv hS
    unfold Bz12
    rw [yzy,hS]
    simp only [wpD_gh]
    intro hD
    have hset4:∀ X:AVal,(rwp A2 ++ AVal.own 901 m :: rwp C2).set A2.length X=rwp A2 ++ X :: rwp C2:=fun X=>by
      rw [List.set_append_right _ _ (by rw [rwp_len];exact Nat.le_refl _),rwp_len,Nat.sub_self];rfl
    rw [List.length_append,List.length_cons] at hl
    have key:(∀ n k'' cs'',AVal.ro (some (some (n+1))) k'' cs''∈rwp A2 ++ AVal.own 901 m :: rwp C2→cs''≠[]→n≠m)→DJ (A2 ++ (m,cur) :: C2):=fun hf=>DJ_in hd fun p hp=>by
      by_cases e:p.2=[]
      · exact .inl e
      · refine .inr (hf p.1 1 (ints p.2) ?_ (by simpa using e))
        rcases List.mem_append.1 hp with h | h
        · exact List.mem_append.2 (.inl (List.mem_map.2 ⟨p,h,rfl⟩))
        · exact List.mem_append.2 (.inr (List.mem_cons.2 (.inr (List.mem_map.2 ⟨p,h,rfl⟩))))
    have hr2:∀ p∈A2 ++ (m,cur) :: C2,p.2.length≤10:=fun p hp=>by
      simp only [List.mem_append,List.mem_cons] at hp
      rcases hp with h | rfl | h
      · exact hr p (by simp [h])
      · exact hc
      · exact hr p (by simp [h])
    rcases hrv with ⟨rfl,rfl⟩ | ⟨rfl,rfl⟩
    · refine ⟨[.rf 6 A2.length 901],gwp_rf (k:=1) (nn:=true) rfl (own_get rfl) (by decide) rfl fun hf=>?_⟩
      have D1:=key hf
      simp only [hset4,frNm_t,rwp_cat,gwp_nil,yzy,yzk,go_sem,yz0,xx9,xx8,xx6,xx7,xx5,xx0,xx1,xx2,reduceIte,xx3,xx4,reduceCtorEq]
      intro vs U hN
      simp only [← hQ,Aze,go_sem,yz0,xx9,xx8,xx6,xx7,xx5,xx0,xx1,xx2,reduceIte,xx3,xx4,reduceCtorEq]
      refine ⟨[6],by simp,by simp,by simp,?_⟩
      simp only [range1,List.length_singleton,renL_rwp,Nat.not_lt_zero,range1,yzu,yzx,yz12,yz15,yzw,yz13,yz14,yz11,yzv,yzn,yze,yz3,yzq,yzs,yzo,yzm,yzr,yz9,yzc,yza,yz7,yzg,yzf,yz2,yz5,yzd,yzb,yzj,yzi,List.range_zero,yz6,yz4,yz8,yzt,yzl,yzp,AVal.fresh,freshL,yz1,yzh,AObj.fresh,id,Option.isSome_some,or_true,true_or,go_sem,yz0,xx9,xx8,xx6,xx7,xx5,xx0,xx1,xx2,reduceIte,xx3,xx4,reduceCtorEq]
      exact ⟨n,A2 ++ (m,cur) :: C2,v,a,s,fun _=>D1,by simp;omega,hn.1,hn.2,hr2,ha'.1,ha'.2,rfl,by simp,rfl⟩
    · refine ⟨[.rf 10 A2.length 901],gwp_rf (k:=1) (nn:=true) rfl (own_get rfl) (by decide) rfl fun hf=>?_⟩
      have D1:=key hf
      simp only [hset4,frNm_t,rwp_cat,gwp_nil,yzy,yzk,go_sem,yz0,xx9,xx8,xx6,xx7,xx5,xx0,xx1,xx2,reduceIte,xx3,xx4,reduceCtorEq]
      intro vs U hN
      simp only [← hQ,Aze,go_sem,yz0,xx9,xx8,xx6,xx7,xx5,xx0,xx1,xx2,reduceIte,xx3,xx4,reduceCtorEq]
      refine ⟨[10],by simp,by simp,by simp,?_⟩
      simp only [range1,List.length_singleton,renL_rwp,Nat.not_lt_zero,range1,yzu,yzx,yz12,yz15,yzw,yz13,yz14,yz11,yzv,yzn,yze,yz3,yzq,yzs,yzo,yzm,yzr,yz9,yzc,yza,yz7,yzg,yzf,yz2,yz5,yzd,yzb,yzj,yzi,List.range_zero,yz6,yz4,yz8,yzt,yzl,yzp,AVal.fresh,freshL,yz1,yzh,AObj.fresh,id,Option.isSome_some,or_true,true_or,go_sem,yz0,xx9,xx8,xx6,xx7,xx5,xx0,xx1,xx2,reduceIte,xx3,xx4,reduceCtorEq]
      exact ⟨n,A2 ++ (m,cur) :: C2,v,a,s,fun _=>D1,by simp;omega,hn.1,hn.2,hr2,ha'.1,ha'.2,rfl,by simp,rfl⟩
  have h4:∀ (σ:St) (v2 v3:Nat) (r v:Nat) (o6 o10:AObj) (a s n:Int) (ps:List (Nat×List Int)),
      Aut n (ps.map (·.2))→DJ ps→at_≤a∧a≤at_+2500→(r=6∧o6=.row v 1 true (rwp ps)∨r=10∧o10=.row v 1 true (rwp ps)) →
      σ.keep [0,2,3] [2,3,6,10,61,73,77,5000,901]=⟨L .any [(0,.ptr 5000 0 0),(2,.ptr 2 v2 0),(3,.ptr 3 v3 0)],
        L .gone [(2,.box v2 [iv 0,.val (.slice none 0 0)]),(3,.box v3 [iv n,.own r v]),(6,o6),(10,o10),(61,.gone),(73,.gone),(77,.gone),(5000,.box 0 (srcC code a s)),(901,.gone)]⟩ →
      wpD Try.prog Bz7e Q σ:=by
    intro σ v2 v3 r v o6 o10 a s n ps A hd ha' hrv hS
    unfold Bz7e
    rw [yzy,hS]
    have l1:=A.l1
    have l2:=A.l2
    have n1:=A.n1
    have n2:=A.n2
    rw [List.length_map] at l1 l2
    rcases hrv with ⟨rfl,rfl⟩ | ⟨rfl,rfl⟩
    · simp only [rwp_len,yzy,yzk,go_sem,yz0,xx9,xx8,xx6,xx7,xx5,xx0,xx1,xx2,reduceIte,xx3,xx4,reduceCtorEq]
      intro vs U hN hM
      refine call_funB (k_pick code a s ps.length hb (by omega)) rfl qCS qCS ?_
      rintro cs' x ⟨a1,s1,at1,rfl,e1,e2,rfl,e3,e4⟩
      have hat:at1.toNat<ps.length:=by omega
      simp only [Bz7d,yzy,yzk,go_sem,yz0,xx9,xx8,xx6,xx7,xx5,xx0,xx1,xx2,reduceIte,xx3,xx4,reduceCtorEq]
      intro vs1 U1 hN1
      refine call_funB (k_pick code a1 s1 24 hb (by omega)) rfl qCS qCS ?_
      rintro cs' x ⟨a2,s2,kd,rfl,f1,f2,rfl,f3,f4⟩
      have hps:∀ p∈ps,p.2.length≤10:=fun p hp=>by have:=(A.row p.2 (List.mem_map.2 ⟨p,hp,rfl⟩)).1;omega
      by_cases k0:kd=0
      · subst k0
        have w1:IntKind.i64.wrap (n+1)=n+1:=w64 (by omega)
        simp only [Bz2,Bz1,w1,beq_self_eq_true,yzy,yzk,go_sem,yz0,xx9,xx8,xx6,xx7,xx5,xx0,xx1,xx2,reduceIte,xx3,xx4,reduceCtorEq]
        intro vs2 U2 hN2 vs3 U3 hN3
        refine ⟨⟨⟨_,rfl,rfl⟩,⟨_,rfl,rfl⟩,⟨_,rfl,rfl⟩,_,rfl,rfl⟩,?_⟩
        refine call_boxrow (r:=5000) (q:=24) (k_among code a2 s2 [0,-1,n+1,11] hb (by omega) (by simp)) rfl rfl (by decide) qCS (by simp only [yzz,yz1d,and_true,Coe];exact ⟨⟨0,_,_,rfl,rfl,rfl,rfl,rfl⟩,1,_,_,rfl,rfl,rfl,rfl,rfl⟩) ?_
        rintro cs' x ⟨a3,s3,b3,rfl,g3,g4,rfl,g5⟩
        have hb3:-1≤b3∧b3≤11:=by simp at g5;omega
        simp only [go_sem,yz0,xx9,xx8,xx6,xx7,xx5,xx0,xx1,xx2,reduceIte,xx3,xx4,reduceCtorEq]
        exact h12 _ v2 v3 6 v _ o10 .gone .gone .gone a3 s3 b3 ps (fun _=>hd) (by omega) hb3 hps (by omega) (.inl ⟨rfl,rfl⟩) (by simp only [go_sem,yz0,xx9,xx8,xx6,xx7,xx5,xx0,xx1,xx2,reduceIte,xx3,xx4,reduceCtorEq];try rfl)
      by_cases k1:kd=1
      · subst k1
        simp only [beq_false_of_ne (show (1:Int)≠0 by omega),Bz2,Bz1,Bz3,rwp_getD hat,St.bound,List.take_length,beq_self_eq_true,yzy,yzk,go_sem,yz0,xx9,xx8,xx6,xx7,xx5,xx0,xx1,xx2,reduceIte,xx3,xx4,reduceCtorEq]
        intro _ _ _ _ _ _ vs4 U4 hN4
        have hlw:(rwp ps).length=ps.length:=rwp_len
        have hrl:=(A.row _ (List.mem_map.2 ⟨_,yz17 hat (0,[]),rfl⟩)).1
        refine ⟨⟨e3,by omega⟩,by omega,⟨by omega,Nat.le_refl _⟩,⟨e3,by omega⟩,by omega,?_⟩
        have ed:List.drop 1 (ints (ps.getD at1.toNat (0,[])).2)=ints ((ps.getD at1.toNat (0,[])).2.drop 1):=by simp only [List.map_drop]
        rw [ed,rwp_putN (p:=((ps.getD at1.toNat (0,[])).1,(ps.getD at1.toNat (0,[])).2.drop 1))]
        have hlp:(ps.take at1.toNat ++ [((ps.getD at1.toNat (0,[])).1,(ps.getD at1.toNat (0,[])).2.drop 1)] ++ ps.drop (at1.toNat+1)).length=ps.length:=by
          simp only [List.length_append,List.length_take,List.length_drop,List.length_singleton];omega
        exact h12 _ v2 v3 6 v _ o10 .gone .gone .gone a2 s2 n _ (fun _=>DJ_set (xs:=(ps.getD at1.toNat (0,[])).2.drop 1) hat hd fun e=>by rw [e];rfl) (by rw [hlp];omega) (by omega) (fun p hp=>by
          simp only [List.mem_append,List.mem_singleton] at hp
          rcases hp with (hp | rfl) | hp
          · exact hps p (List.mem_of_mem_take hp)
          · have:=hps _ (yz17 hat (0,[]));simp only [List.length_drop];omega
          · exact hps p (List.mem_of_mem_drop hp)) (by omega) (.inl ⟨rfl,rfl⟩) (by simp only [go_sem,yz0,xx9,xx8,xx6,xx7,xx5,xx0,xx1,xx2,reduceIte,xx3,xx4,reduceCtorEq];try rfl)
      by_cases k2:kd=2
      · subst k2
        obtain ⟨A2,b,C2,rfl,hAk⟩:=rwp_split hat
        have hbr:=A.row b.2 (by simp)
        have hbn:b.2≠[]:=fun e=>by rw [e] at hbr;simp at hbr;omega
        have hbl:0<b.2.length:=by omega
        have F0:=DJ_out hd hbn
        have F0a:∀ p∈A2 ++ C2,p.2=[]∨p.1≠b.1:=F0
        simp only [beq_false_of_ne (show (2:Int)≠0 by omega),beq_false_of_ne (show (2:Int)≠1 by omega),Bz2,Bz1,Bz3,yzy,yzk,go_sem,yz0,xx9,xx8,xx6,xx7,xx5,xx0,xx1,xx2,reduceIte,xx3,xx4,reduceCtorEq]
        intro _ _ _ _ _ _ _ _ _
        simp only [beq_self_eq_true,Bz6,yzy,wpD_gh,go_sem,yz0,xx9,xx8,xx6,xx7,xx5,xx0,xx1,xx2,reduceIte,xx3,xx4,reduceCtorEq]
        intro _
        refine ⟨[.thaw 6 at1.toNat 901],gwp_thaw (n:=b.1) rfl (rwp_get hAk.symm) (by simpa using hbn) rfl fun m1=>?_⟩
        have hset:(woL b.1 (rwp (A2 ++ b :: C2))).set at1.toNat (AVal.own 901 m1)=rwp A2 ++ AVal.own 901 m1 :: rwp C2:=by rw [← hAk];exact woL_set F0a
        have ho1:(rwp A2 ++ AVal.own 901 m1 :: rwp C2).getD at1.toNat .any=.own 901 m1:=own_at hAk.symm
        have hol:(rwp A2 ++ AVal.own 901 m1 :: rwp C2).length=A2.length+(C2.length+1):=by rw [List.length_append,List.length_cons,rwp_len,rwp_len]
        have hkl:at1.toNat<(rwp A2 ++ AVal.own 901 m1 :: rwp C2).length:=by omega
        simp only [hset,woT,woO,woL_cons,woL_nil,woV_val,woV_own,wo_ptr,wo_o,woL_ints,wo_st,woO_row,woO_box,woO_gone,wo_any,gwp_nil,yzy,yzk,go_sem,yz0,xx9,xx8,xx6,xx7,xx5,xx0,xx1,xx2,reduceIte,xx3,xx4,reduceCtorEq]
        intro vs4 U4 hN4
        simp only [ho1,go_sem,yz0,xx9,xx8,xx6,xx7,xx5,xx0,xx1,xx2,reduceIte,xx3,xx4,reduceCtorEq]
        refine ⟨⟨e3,hkl⟩,hkl,⟨⟨_,rfl,rfl⟩,_,rfl,rfl⟩,?_⟩
        refine call_boxrowN (r:=5000) (q:=49) (cs0:=srcC code a2 s2) (k_among code a2 s2 [-1,n] hb (by omega) (by simp)) rfl rfl (by simp) (by decide) qCS (by simp only [yzz,yz1d,and_true,Coe];exact ⟨⟨0,_,_,rfl,rfl,rfl,rfl,rfl⟩,1,_,_,rfl,rfl,rfl,rfl,rfl⟩) ⟨srcC code a2 0,.int .i64 n,⟨a2,0,n,rfl,by omega,by omega,rfl,by simp⟩,flat_srcC⟩ ?_
        rintro cs' x ⟨a3,s3,b3,rfl,g3,g4,rfl,g5⟩
        simp only [yzy,yzk,go_sem,yz0,xx9,xx8,xx6,xx7,xx5,xx0,xx1,xx2,reduceIte,xx3,xx4,reduceCtorEq]
        refine ⟨hbl,hbl,?_⟩
        have ed:AVal.val (.int .i64 b3) :: List.drop 1 (ints b.2)=ints (b3 :: b.2.drop 1):=by simp [List.map_drop]
        rw [ed]
        exact h12b _ v2 v3 6 v m1 _ (AObj.wo b.1 o10) a3 s3 n A2 C2 b (b3 :: b.2.drop 1) hd (by omega) (by omega) (fun p hp=>hps p (by simp only [List.mem_append,List.mem_cons] at hp ⊢;rcases hp with h | h <;> simp [h])) (by simp only [List.length_cons,List.length_drop];omega) (by omega) (.inl ⟨rfl,rfl⟩) (by simp only [go_sem,yz0,xx9,xx8,xx6,xx7,xx5,xx0,xx1,xx2,reduceIte,xx3,xx4,reduceCtorEq];try rfl)
      by_cases k3:kd=3
      · subst k3
        have h00:0<ps.length:=by omega
        simp only [beq_false_of_ne (show (3:Int)≠0 by omega),beq_false_of_ne (show (3:Int)≠1 by omega),Bz2,Bz1,Bz3,yzy,yzk,go_sem,yz0,xx9,xx8,xx6,xx7,xx5,xx0,xx1,xx2,reduceIte,xx3,xx4,reduceCtorEq]
        intro _ _ _ _ _ _ _ _ _
        simp only [beq_false_of_ne (show (3:Int)≠2 by omega),Bz6,yzy,wpD_gh,go_sem,yz0,xx9,xx8,xx6,xx7,xx5,xx0,xx1,xx2,reduceIte,xx3,xx4,reduceCtorEq]
        intro _
        refine ⟨[],?_⟩
        simp only [beq_self_eq_true,Bzd,rwp_getD h00,gwp_nil,yzy,yzk,go_sem,yz0,xx9,xx8,xx6,xx7,xx5,xx0,xx1,xx2,reduceIte,xx3,xx4,reduceCtorEq]
        intro _ _ _ vs9 U9 hN9
        have hlw:(rwp ps).length=ps.length:=rwp_len
        refine ⟨by omega,by omega,by omega,by omega,by omega,by omega,by omega,by rw [List.length_append,List.length_singleton];omega,?_⟩
        generalize hp0:ps.getD 0 (0,[])=p0
        have hp0m:p0∈ps:=hp0 ▸ yz17 h00 (0,[])
        have e5:rwp ps ++ [AVal.ro (some (some (p0.1+1))) 1 (ints p0.2)] ++ [AVal.ro (some (some (p0.1+1))) 1 (ints p0.2),AVal.ro (some (some (p0.1+1))) 1 (ints p0.2)]=rwp (ps ++ [p0] ++ [p0,p0]):=by simp only [rwp,List.map_append,List.map_cons,List.map_nil]
        rw [e5]
        have hl6:(ps ++ [p0] ++ [p0,p0]).length=ps.length+3:=by simp
        exact h12 _ v2 v3 6 (vs9 19 0) _ o10 .gone .gone .gone a2 s2 n (ps ++ [p0] ++ [p0,p0]) (fun h=>absurd h (by omega)) (by omega) (by omega) (fun p hp=>by
          simp only [List.mem_append,List.mem_cons,List.not_mem_nil,or_false] at hp
          rcases hp with (hp | rfl) | rfl | rfl
          · exact hps p hp
          · exact hps _ hp0m
          · exact hps _ hp0m
          · exact hps _ hp0m) (by omega) (.inl ⟨rfl,rfl⟩) (by simp only [go_sem,yz0,xx9,xx8,xx6,xx7,xx5,xx0,xx1,xx2,reduceIte,xx3,xx4,reduceCtorEq];try rfl)
      by_cases k4:kd=4
      · subst k4
        simp only [beq_false_of_ne (show (4:Int)≠0 by omega),beq_false_of_ne (show (4:Int)≠1 by omega),Bz2,Bz1,Bz3,yzy,yzk,go_sem,yz0,xx9,xx8,xx6,xx7,xx5,xx0,xx1,xx2,reduceIte,xx3,xx4,reduceCtorEq]
        intro _ _ _ _ _ _ _ _ _
        simp only [beq_false_of_ne (show (4:Int)≠2 by omega),Bz6,yzy,wpD_gh,go_sem,yz0,xx9,xx8,xx6,xx7,xx5,xx0,xx1,xx2,reduceIte,xx3,xx4,reduceCtorEq]
        intro _
        refine ⟨[],?_⟩
        simp only [beq_false_of_ne (show (4:Int)≠3 by omega),Bzd,Bz11,beq_self_eq_true,gwp_nil,yzy,yzk,go_sem,yz0,xx9,xx8,xx6,xx7,xx5,xx0,xx1,xx2,reduceIte,xx3,xx4,reduceCtorEq]
        intro _ _ _ _ _ _ vs9 U9 hN9
        exact h12 _ v2 v3 77 (vs9 0 0) _ o10 .gone .gone _ a2 s2 n [] (fun _=>by simp [DJ]) (by simp) (by omega) (by simp) (by omega) (.inr (.inr ⟨rfl,rfl⟩)) (by simp only [rwp_nil,go_sem,yz0,xx9,xx8,xx6,xx7,xx5,xx0,xx1,xx2,reduceIte,xx3,xx4,reduceCtorEq];try rfl)
      simp only [beq_false_of_ne k0,beq_false_of_ne k1,Bz2,Bz1,Bz3,yzy,yzk,go_sem,yz0,xx9,xx8,xx6,xx7,xx5,xx0,xx1,xx2,reduceIte,xx3,xx4,reduceCtorEq]
      intro _ _ _ _ _ _ _ _ _
      simp only [beq_false_of_ne k2,Bz6,yzy,wpD_gh,go_sem,yz0,xx9,xx8,xx6,xx7,xx5,xx0,xx1,xx2,reduceIte,xx3,xx4,reduceCtorEq]
      intro _
      refine ⟨[],?_⟩
      simp only [beq_false_of_ne k3,beq_false_of_ne k4,Bzd,Bz11,gwp_nil,yzy,yzk,go_sem,yz0,xx9,xx8,xx6,xx7,xx5,xx0,xx1,xx2,reduceIte,xx3,xx4,reduceCtorEq]
      intro _ _ _ _ _ _
      exact h12 _ v2 v3 6 v _ o10 .gone .gone .gone a2 s2 n ps (fun _=>hd) (by omega) (by omega) hps (by omega) (.inl ⟨rfl,rfl⟩) (by simp only [go_sem,yz0,xx9,xx8,xx6,xx7,xx5,xx0,xx1,xx2,reduceIte,xx3,xx4,reduceCtorEq];try rfl)
    · simp only [rwp_len,yzy,yzk,go_sem,yz0,xx9,xx8,xx6,xx7,xx5,xx0,xx1,xx2,reduceIte,xx3,xx4,reduceCtorEq]
      intro vs U hN hM
      refine call_funB (k_pick code a s ps.length hb (by omega)) rfl qCS qCS ?_
      rintro cs' x ⟨a1,s1,at1,rfl,e1,e2,rfl,e3,e4⟩
      have hat:at1.toNat<ps.length:=by omega
      simp only [Bz7d,yzy,yzk,go_sem,yz0,xx9,xx8,xx6,xx7,xx5,xx0,xx1,xx2,reduceIte,xx3,xx4,reduceCtorEq]
      intro vs1 U1 hN1
      refine call_funB (k_pick code a1 s1 24 hb (by omega)) rfl qCS qCS ?_
      rintro cs' x ⟨a2,s2,kd,rfl,f1,f2,rfl,f3,f4⟩
      have hps:∀ p∈ps,p.2.length≤10:=fun p hp=>by have:=(A.row p.2 (List.mem_map.2 ⟨p,hp,rfl⟩)).1;omega
      by_cases k0:kd=0
      · subst k0
        have w1:IntKind.i64.wrap (n+1)=n+1:=w64 (by omega)
        simp only [Bz2,Bz1,w1,beq_self_eq_true,yzy,yzk,go_sem,yz0,xx9,xx8,xx6,xx7,xx5,xx0,xx1,xx2,reduceIte,xx3,xx4,reduceCtorEq]
        intro vs2 U2 hN2 vs3 U3 hN3
        refine ⟨⟨⟨_,rfl,rfl⟩,⟨_,rfl,rfl⟩,⟨_,rfl,rfl⟩,_,rfl,rfl⟩,?_⟩
        refine call_boxrow (r:=5000) (q:=24) (k_among code a2 s2 [0,-1,n+1,11] hb (by omega) (by simp)) rfl rfl (by decide) qCS (by simp only [yzz,yz1d,and_true,Coe];exact ⟨⟨0,_,_,rfl,rfl,rfl,rfl,rfl⟩,1,_,_,rfl,rfl,rfl,rfl,rfl⟩) ?_
        rintro cs' x ⟨a3,s3,b3,rfl,g3,g4,rfl,g5⟩
        have hb3:-1≤b3∧b3≤11:=by simp at g5;omega
        simp only [go_sem,yz0,xx9,xx8,xx6,xx7,xx5,xx0,xx1,xx2,reduceIte,xx3,xx4,reduceCtorEq]
        exact h12 _ v2 v3 10 v o6 _ .gone .gone .gone a3 s3 b3 ps (fun _=>hd) (by omega) hb3 hps (by omega) (.inr (.inl ⟨rfl,rfl⟩)) (by simp only [go_sem,yz0,xx9,xx8,xx6,xx7,xx5,xx0,xx1,xx2,reduceIte,xx3,xx4,reduceCtorEq];try rfl)
      by_cases k1:kd=1
      · subst k1
        simp only [beq_false_of_ne (show (1:Int)≠0 by omega),Bz2,Bz1,Bz3,rwp_getD hat,St.bound,List.take_length,beq_self_eq_true,yzy,yzk,go_sem,yz0,xx9,xx8,xx6,xx7,xx5,xx0,xx1,xx2,reduceIte,xx3,xx4,reduceCtorEq]
        intro _ _ _ _ _ _ vs4 U4 hN4
        have hlw:(rwp ps).length=ps.length:=rwp_len
        have hrl:=(A.row _ (List.mem_map.2 ⟨_,yz17 hat (0,[]),rfl⟩)).1
        refine ⟨⟨e3,by omega⟩,by omega,⟨by omega,Nat.le_refl _⟩,⟨e3,by omega⟩,by omega,?_⟩
        have ed:List.drop 1 (ints (ps.getD at1.toNat (0,[])).2)=ints ((ps.getD at1.toNat (0,[])).2.drop 1):=by simp only [List.map_drop]
        rw [ed,rwp_putN (p:=((ps.getD at1.toNat (0,[])).1,(ps.getD at1.toNat (0,[])).2.drop 1))]
        have hlp:(ps.take at1.toNat ++ [((ps.getD at1.toNat (0,[])).1,(ps.getD at1.toNat (0,[])).2.drop 1)] ++ ps.drop (at1.toNat+1)).length=ps.length:=by
          simp only [List.length_append,List.length_take,List.length_drop,List.length_singleton];omega
        exact h12 _ v2 v3 10 v o6 _ .gone .gone .gone a2 s2 n _ (fun _=>DJ_set (xs:=(ps.getD at1.toNat (0,[])).2.drop 1) hat hd fun e=>by rw [e];rfl) (by rw [hlp];omega) (by omega) (fun p hp=>by
          simp only [List.mem_append,List.mem_singleton] at hp
          rcases hp with (hp | rfl) | hp
          · exact hps p (List.mem_of_mem_take hp)
          · have:=hps _ (yz17 hat (0,[]));simp only [List.length_drop];omega
          · exact hps p (List.mem_of_mem_drop hp)) (by omega) (.inr (.inl ⟨rfl,rfl⟩)) (by simp only [go_sem,yz0,xx9,xx8,xx6,xx7,xx5,xx0,xx1,xx2,reduceIte,xx3,xx4,reduceCtorEq];try rfl)
      by_cases k2:kd=2
      · subst k2
        obtain ⟨A2,b,C2,rfl,hAk⟩:=rwp_split hat
        have hbr:=A.row b.2 (by simp)
        have hbn:b.2≠[]:=fun e=>by rw [e] at hbr;simp at hbr;omega
        have hbl:0<b.2.length:=by omega
        have F0:=DJ_out hd hbn
        have F0a:∀ p∈A2 ++ C2,p.2=[]∨p.1≠b.1:=F0
        simp only [beq_false_of_ne (show (2:Int)≠0 by omega),beq_false_of_ne (show (2:Int)≠1 by omega),Bz2,Bz1,Bz3,yzy,yzk,go_sem,yz0,xx9,xx8,xx6,xx7,xx5,xx0,xx1,xx2,reduceIte,xx3,xx4,reduceCtorEq]
        intro _ _ _ _ _ _ _ _ _
        simp only [beq_self_eq_true,Bz6,yzy,wpD_gh,go_sem,yz0,xx9,xx8,xx6,xx7,xx5,xx0,xx1,xx2,reduceIte,xx3,xx4,reduceCtorEq]
        intro _
        refine ⟨[.thaw 10 at1.toNat 901],gwp_thaw (n:=b.1) rfl (rwp_get hAk.symm) (by simpa using hbn) rfl fun m1=>?_⟩
        have hset:(woL b.1 (rwp (A2 ++ b :: C2))).set at1.toNat (AVal.own 901 m1)=rwp A2 ++ AVal.own 901 m1 :: rwp C2:=by rw [← hAk];exact woL_set F0a
        have ho1:(rwp A2 ++ AVal.own 901 m1 :: rwp C2).getD at1.toNat .any=.own 901 m1:=own_at hAk.symm
        have hol:(rwp A2 ++ AVal.own 901 m1 :: rwp C2).length=A2.length+(C2.length+1):=by rw [List.length_append,List.length_cons,rwp_len,rwp_len]
        have hkl:at1.toNat<(rwp A2 ++ AVal.own 901 m1 :: rwp C2).length:=by omega
        simp only [hset,woT,woO,woL_cons,woL_nil,woV_val,woV_own,wo_ptr,wo_o,woL_ints,wo_st,woO_row,woO_box,woO_gone,wo_any,gwp_nil,yzy,yzk,go_sem,yz0,xx9,xx8,xx6,xx7,xx5,xx0,xx1,xx2,reduceIte,xx3,xx4,reduceCtorEq]
        intro vs4 U4 hN4
        simp only [ho1,go_sem,yz0,xx9,xx8,xx6,xx7,xx5,xx0,xx1,xx2,reduceIte,xx3,xx4,reduceCtorEq]
        refine ⟨⟨e3,hkl⟩,hkl,⟨⟨_,rfl,rfl⟩,_,rfl,rfl⟩,?_⟩
        refine call_boxrowN (r:=5000) (q:=49) (cs0:=srcC code a2 s2) (k_among code a2 s2 [-1,n] hb (by omega) (by simp)) rfl rfl (by simp) (by decide) qCS (by simp only [yzz,yz1d,and_true,Coe];exact ⟨⟨0,_,_,rfl,rfl,rfl,rfl,rfl⟩,1,_,_,rfl,rfl,rfl,rfl,rfl⟩) ⟨srcC code a2 0,.int .i64 n,⟨a2,0,n,rfl,by omega,by omega,rfl,by simp⟩,flat_srcC⟩ ?_
        rintro cs' x ⟨a3,s3,b3,rfl,g3,g4,rfl,g5⟩
        simp only [yzy,yzk,go_sem,yz0,xx9,xx8,xx6,xx7,xx5,xx0,xx1,xx2,reduceIte,xx3,xx4,reduceCtorEq]
        refine ⟨hbl,hbl,?_⟩
        have ed:AVal.val (.int .i64 b3) :: List.drop 1 (ints b.2)=ints (b3 :: b.2.drop 1):=by simp [List.map_drop]
        rw [ed]
        exact h12b _ v2 v3 10 v m1 (AObj.wo b.1 o6) _ a3 s3 n A2 C2 b (b3 :: b.2.drop 1) hd (by omega) (by omega) (fun p hp=>hps p (by simp only [List.mem_append,List.mem_cons] at hp ⊢;rcases hp with h | h <;> simp [h])) (by simp only [List.length_cons,List.length_drop];omega) (by omega) (.inr ⟨rfl,rfl⟩) (by simp only [go_sem,yz0,xx9,xx8,xx6,xx7,xx5,xx0,xx1,xx2,reduceIte,xx3,xx4,reduceCtorEq];try rfl)
      by_cases k3:kd=3
      · subst k3
        have h00:0<ps.length:=by omega
        simp only [beq_false_of_ne (show (3:Int)≠0 by omega),beq_false_of_ne (show (3:Int)≠1 by omega),Bz2,Bz1,Bz3,yzy,yzk,go_sem,yz0,xx9,xx8,xx6,xx7,xx5,xx0,xx1,xx2,reduceIte,xx3,xx4,reduceCtorEq]
        intro _ _ _ _ _ _ _ _ _
        simp only [beq_false_of_ne (show (3:Int)≠2 by omega),Bz6,yzy,wpD_gh,go_sem,yz0,xx9,xx8,xx6,xx7,xx5,xx0,xx1,xx2,reduceIte,xx3,xx4,reduceCtorEq]
        intro _
        refine ⟨[],?_⟩
        simp only [beq_self_eq_true,Bzd,rwp_getD h00,gwp_nil,yzy,yzk,go_sem,yz0,xx9,xx8,xx6,xx7,xx5,xx0,xx1,xx2,reduceIte,xx3,xx4,reduceCtorEq]
        intro _ _ _ vs9 U9 hN9
        have hlw:(rwp ps).length=ps.length:=rwp_len
        refine ⟨by omega,by omega,by omega,by omega,by omega,by omega,by omega,by rw [List.length_append,List.length_singleton];omega,?_⟩
        generalize hp0:ps.getD 0 (0,[])=p0
        have hp0m:p0∈ps:=hp0 ▸ yz17 h00 (0,[])
        have e5:rwp ps ++ [AVal.ro (some (some (p0.1+1))) 1 (ints p0.2)] ++ [AVal.ro (some (some (p0.1+1))) 1 (ints p0.2),AVal.ro (some (some (p0.1+1))) 1 (ints p0.2)]=rwp (ps ++ [p0] ++ [p0,p0]):=by simp only [rwp,List.map_append,List.map_cons,List.map_nil]
        rw [e5]
        have hl6:(ps ++ [p0] ++ [p0,p0]).length=ps.length+3:=by simp
        exact h12 _ v2 v3 10 (vs9 19 0) o6 _ .gone .gone .gone a2 s2 n (ps ++ [p0] ++ [p0,p0]) (fun h=>absurd h (by omega)) (by omega) (by omega) (fun p hp=>by
          simp only [List.mem_append,List.mem_cons,List.not_mem_nil,or_false] at hp
          rcases hp with (hp | rfl) | rfl | rfl
          · exact hps p hp
          · exact hps _ hp0m
          · exact hps _ hp0m
          · exact hps _ hp0m) (by omega) (.inr (.inl ⟨rfl,rfl⟩)) (by simp only [go_sem,yz0,xx9,xx8,xx6,xx7,xx5,xx0,xx1,xx2,reduceIte,xx3,xx4,reduceCtorEq];try rfl)
      by_cases k4:kd=4
      · subst k4
        simp only [beq_false_of_ne (show (4:Int)≠0 by omega),beq_false_of_ne (show (4:Int)≠1 by omega),Bz2,Bz1,Bz3,yzy,yzk,go_sem,yz0,xx9,xx8,xx6,xx7,xx5,xx0,xx1,xx2,reduceIte,xx3,xx4,reduceCtorEq]
        intro _ _ _ _ _ _ _ _ _
        simp only [beq_false_of_ne (show (4:Int)≠2 by omega),Bz6,yzy,wpD_gh,go_sem,yz0,xx9,xx8,xx6,xx7,xx5,xx0,xx1,xx2,reduceIte,xx3,xx4,reduceCtorEq]
        intro _
        refine ⟨[],?_⟩
        simp only [beq_false_of_ne (show (4:Int)≠3 by omega),Bzd,Bz11,beq_self_eq_true,gwp_nil,yzy,yzk,go_sem,yz0,xx9,xx8,xx6,xx7,xx5,xx0,xx1,xx2,reduceIte,xx3,xx4,reduceCtorEq]
        intro _ _ _ _ _ _ vs9 U9 hN9
        exact h12 _ v2 v3 77 (vs9 0 0) o6 _ .gone .gone _ a2 s2 n [] (fun _=>by simp [DJ]) (by simp) (by omega) (by simp) (by omega) (.inr (.inr ⟨rfl,rfl⟩)) (by simp only [rwp_nil,go_sem,yz0,xx9,xx8,xx6,xx7,xx5,xx0,xx1,xx2,reduceIte,xx3,xx4,reduceCtorEq];try rfl)
      simp only [beq_false_of_ne k0,beq_false_of_ne k1,Bz2,Bz1,Bz3,yzy,yzk,go_sem,yz0,xx9,xx8,xx6,xx7,xx5,xx0,xx1,xx2,reduceIte,xx3,xx4,reduceCtorEq]
      intro _ _ _ _ _ _ _ _ _
      simp only [beq_false_of_ne k2,Bz6,yzy,wpD_gh,go_sem,yz0,xx9,xx8,xx6,xx7,xx5,xx0,xx1,xx2,reduceIte,xx3,xx4,reduceCtorEq]
      intro _
      refine ⟨[],?_⟩
      simp only [beq_false_of_ne k3,beq_false_of_ne k4,Bzd,Bz11,gwp_nil,yzy,yzk,go_sem,yz0,xx9,xx8,xx6,xx7,xx5,xx0,xx1,xx2,reduceIte,xx3,xx4,reduceCtorEq]
      intro _ _ _ _ _ _
      exact h12 _ v2 v3 10 v o6 _ .gone .gone .gone a2 s2 n ps (fun _=>hd) (by omega) (by omega) hps (by omega) (.inr (.inl ⟨rfl,rfl⟩)) (by simp only [go_sem,yz0,xx9,xx8,xx6,xx7,xx5,xx0,xx1,xx2,reduceIte,xx3,xx4,reduceCtorEq];try rfl)
  simp only [Aze,Bzgq,yzy,yzk,go_sem,yz0,xx9,xx8,xx6,xx7,xx5,xx0,xx1,xx2,reduceIte,xx3,xx4,reduceCtorEq]
  intro vs0 U0 hN0 vs1 U1 hN1
  refine call_con (r:=5000) (k_DrawnN code at_ seed 6 hb (by omega) (by omega)) rfl (by simp only [Bool.not_true,rowIs,boxIs,coe_argN,yz1f,coe_ro_o,yz1d,yzz,coe_any,coe_val,coe_ro,yz1b,yz1a,coe_st,yz19,coe_rp,yz18,coe_clo,coe_own0,yz1h,yz16,coeL_rws,coeL_rwn,L_hit,L_miss,L_nil,xx3,ne_eq,reduceCtorEq,not_false_eq_true,true_and,and_true,and_self,exists_eq_left,exists_eq_right,List.mem_cons,List.not_mem_nil,or_false,AObj.row.injEq,AObj.box.injEq,exists_eq_left',exists_and_left,exists_eq,Nat.zero_lt_one,Nat.lt_add_one,List.map_cons,List.map_nil,AObj.ver,xx5,not_true_eq_false]) (by simp only [Bool.not_true,rowIs,boxIs,coe_argN,yz1f,coe_ro_o,yz1d,yzz,coe_any,coe_val,coe_ro,yz1b,yz1a,coe_st,yz19,coe_rp,yz18,coe_clo,coe_own0,yz1h,yz16,coeL_rws,coeL_rwn,L_hit,L_miss,L_nil,xx3,ne_eq,reduceCtorEq,not_false_eq_true,true_and,and_true,and_self,exists_eq_left,exists_eq_right,List.mem_cons,List.not_mem_nil,or_false,AObj.row.injEq,AObj.box.injEq,exists_eq_left',exists_and_left,exists_eq,Nat.zero_lt_one,Nat.lt_add_one,List.map_cons,List.map_nil,AObj.ver,xx5,not_true_eq_false]) ?_
  rintro outs rows res ⟨q,qs,vq,a1,s1,A,hd,hq3,h1,h2,rfl,rfl,rfl⟩
  refine ⟨rfl,by simp,by rw [Option.getD_some,yzl];simp only [go_sem,yz0,xx9,xx8,xx6,xx7,xx5,xx0,xx1,xx2,reduceIte,xx3,xx4,reduceCtorEq],?_⟩
  rw [Option.getD_some,callHp_mr (by omega)]
  have hv0:∀ y,vs1 1 y≠0:=fun y e=>by
    have h:=hN1.hp 5000
    simp only [AObj.uses,go_sem,yz0,xx9,xx8,xx6,xx7,xx5,xx0,xx1,xx2,reduceIte,xx3,xx4,reduceCtorEq] at h
    exact hN1.new 1 y (by rw [e];exact h.1)
  simp only [renL_rwp,Bzgp,yzy,yzk,Nat.not_lt_zero,range1,yzu,yzx,yz12,yz15,yzw,yz13,yz14,yz11,yzv,yzn,yze,yz3,yzq,yzs,yzo,yzm,yzr,yz9,yzc,yza,yz7,yzg,yzf,yz2,yz5,yzd,yzb,yzj,yzi,List.range_zero,yz6,yz4,yz8,yzt,yzl,yzp,AVal.fresh,freshL,yz1,yzh,AObj.fresh,id,Option.isSome_some,or_true,true_or,go_sem,yz0,xx9,xx8,xx6,xx7,xx5,xx0,xx1,xx2,reduceIte,xx3,xx4,reduceCtorEq]
  intro vs2 U2 hN2
  clear hN2
  have hsi:=fun l (h:L .gone l 5000=.box 0 (srcC code at_ seed))=>sv_inj (hp:=L .gone l) (r:=5000) h (fun x y e=>(hN1.inj _ _ _ _ e).2) hv0
  have hs0:=fun l (h:L .gone l 5000=.box 0 (srcC code at_ seed))=>(sv_m (s:=vs1 1) h:sv (L .gone l) [5000] (vs1 1) 0=0)
  generalize hl0:[(2,AObj.box (vs0 0 0) [iv 0,AVal.val (Value.slice none 0 0)]),(3,AObj.gone),(6,AObj.gone),(10,AObj.gone),(61,AObj.gone),(73,AObj.gone),(77,AObj.gone),(5000,AObj.box 0 (srcC code at_ seed)),(901,AObj.gone)]=l0
  have hi:=hsi l0 (by rw [← hl0];rfl)
  have h0:=hs0 l0 (by rw [← hl0];rfl)
  generalize sv (L .gone l0) [5000] (vs1 1)=f at hi h0 ⊢
  rw [h0]
  have A0:Aut q ((qs.map fun p=>(f p.1,p.2)).map (·.2)):=by rw [List.map_map];exact A
  have hd0:=hd.ren hi
  generalize (qs.map fun p=>(f p.1,p.2))=ps0 at A0 hd0 ⊢
  refine call_funB (k_one code a1 s1 8 hb (by omega)) rfl qCS qCS ?_
  rintro cs' x ⟨a2,s2,b2,rfl,g1,g2,rfl⟩
  simp only [Bzgo,yzy,yzk,go_sem,yz0,xx9,xx8,xx6,xx7,xx5,xx0,xx1,xx2,reduceIte,xx3,xx4,reduceCtorEq]
  refine ⟨fun _ vs3 U3 hN3=>?_,fun _=>?_⟩
  · refine call_con (r:=5000) (k_DrawnN code a2 s2 10 hb (by omega) (by omega)) rfl (by simp only [Bool.not_true,rowIs,boxIs,coe_argN,yz1f,coe_ro_o,yz1d,yzz,coe_any,coe_val,coe_ro,yz1b,yz1a,coe_st,yz19,coe_rp,yz18,coe_clo,coe_own0,yz1h,yz16,coeL_rws,coeL_rwn,L_hit,L_miss,L_nil,xx3,ne_eq,reduceCtorEq,not_false_eq_true,true_and,and_true,and_self,exists_eq_left,exists_eq_right,List.mem_cons,List.not_mem_nil,or_false,AObj.row.injEq,AObj.box.injEq,exists_eq_left',exists_and_left,exists_eq,Nat.zero_lt_one,Nat.lt_add_one,List.map_cons,List.map_nil,AObj.ver,xx5,not_true_eq_false]) (by simp only [Bool.not_true,rowIs,boxIs,coe_argN,yz1f,coe_ro_o,yz1d,yzz,coe_any,coe_val,coe_ro,yz1b,yz1a,coe_st,yz19,coe_rp,yz18,coe_clo,coe_own0,yz1h,yz16,coeL_rws,coeL_rwn,L_hit,L_miss,L_nil,xx3,ne_eq,reduceCtorEq,not_false_eq_true,true_and,and_true,and_self,exists_eq_left,exists_eq_right,List.mem_cons,List.not_mem_nil,or_false,AObj.row.injEq,AObj.box.injEq,exists_eq_left',exists_and_left,exists_eq,Nat.zero_lt_one,Nat.lt_add_one,List.map_cons,List.map_nil,AObj.ver,xx5,not_true_eq_false]) ?_
    rintro outs rows res ⟨q',qs',vq',a3,s3,A',hd',hq',g3,g4,rfl,rfl,rfl⟩
    refine ⟨rfl,by simp,by rw [Option.getD_some,yzl];simp only [go_sem,yz0,xx9,xx8,xx6,xx7,xx5,xx0,xx1,xx2,reduceIte,xx3,xx4,reduceCtorEq],?_⟩
    rw [Option.getD_some,callHp_mr (by omega)]
    have hv1:∀ y,vs3 1 y≠0:=fun y e=>by
      have h:=hN3.hp 5000
      simp only [AObj.uses,go_sem,yz0,xx9,xx8,xx6,xx7,xx5,xx0,xx1,xx2,reduceIte,xx3,xx4,reduceCtorEq] at h
      exact hN3.new 1 y (by rw [e];exact h.1)
    simp only [renL_rwp,yzy,yzk,Nat.not_lt_zero,range1,yzu,yzx,yz12,yz15,yzw,yz13,yz14,yz11,yzv,yzn,yze,yz3,yzq,yzs,yzo,yzm,yzr,yz9,yzc,yza,yz7,yzg,yzf,yz2,yz5,yzd,yzb,yzj,yzi,List.range_zero,yz6,yz4,yz8,yzt,yzl,yzp,AVal.fresh,freshL,yz1,yzh,AObj.fresh,id,Option.isSome_some,or_true,true_or,go_sem,yz0,xx9,xx8,xx6,xx7,xx5,xx0,xx1,xx2,reduceIte,xx3,xx4,reduceCtorEq]
    have hsi:=fun l (h:L .gone l 5000=.box 0 (srcC code a2 s2))=>sv_inj (hp:=L .gone l) (r:=5000) h (fun x y e=>(hN3.inj _ _ _ _ e).2) hv1
    have hs0:=fun l (h:L .gone l 5000=.box 0 (srcC code a2 s2))=>(sv_m (s:=vs3 1) h:sv (L .gone l) [5000] (vs3 1) 0=0)
    generalize hl1:[(2,AObj.box (vs0 0 0) [iv 0,AVal.val (Value.slice none 0 0)]),(3,AObj.box (vs1 2 0) [iv q,.own 6 (f vq)]),(6,AObj.row (f vq) 1 true (rwp ps0)),(10,AObj.gone),(61,AObj.gone),(73,AObj.gone),(77,AObj.gone),(5000,AObj.box 0 (srcC code a2 s2)),(901,AObj.gone)]=l1
    have hi1:=hsi l1 (by rw [← hl1];rfl)
    have h01:=hs0 l1 (by rw [← hl1];rfl)
    generalize sv (L .gone l1) [5000] (vs3 1)=f1 at hi1 h01 ⊢
    rw [h01]
    have A1:Aut q' ((qs'.map fun p=>(f1 p.1,p.2)).map (·.2)):=by rw [List.map_map];exact A'
    have hd1:=hd'.ren hi1
    generalize (qs'.map fun p=>(f1 p.1,p.2))=ps1 at A1 hd1 ⊢
    exact h4 _ (vs0 0 0) (vs1 2 0) 10 (f1 vq') _ _ a3 s3 q' ps1 A1 hd1 (by omega) (.inr ⟨rfl,rfl⟩) (by simp only [← hl1,go_sem,yz0,xx9,xx8,xx6,xx7,xx5,xx0,xx1,xx2,reduceIte,xx3,xx4,reduceCtorEq];try rfl)
  · exact h4 _ (vs0 0 0) (vs1 2 0) 6 (f vq) _ .gone a2 s2 q ps0 A0 hd0 (by omega) (.inl ⟨rfl,rfl⟩) (by simp only [go_sem,yz0,xx9,xx8,xx6,xx7,xx5,xx0,xx1,xx2,reduceIte,xx3,xx4,reduceCtorEq];try rfl)
end Go.Ab
namespace Go.Ab
open Go.Proofs
def FRen (F:Int→List (Nat×List Int)→Prop):Prop:=∀ n ps (f:Nat→Nat),(∀ x y,f x=f y→x=y)→F n ps→F n (ps.map fun p=>(f p.1,p.2))
theorem New.box {vs:Nat→Nat→Nat} {U:Nat→Prop} {σ:St} {r v:Nat} {cs:List AVal} (h:New vs U σ) (hr:σ.hp r=.box v cs) (i y:Nat):vs i y≠v:=fun e=>by
  have h1:=h.hp r
  rw [hr] at h1
  simp only [AObj.uses] at h1
  exact h.new i y (by rw [e];exact h1.1)
theorem call_lo {P:Program} {F:Int→List (Nat×List Int)→Prop} (hF:FRen F) {σ:St} {g:FuncId} {As args:List AVal} {d:Nat} {s:Nat→Nat} {K:St→Prop} {r v:Nat} {code:List Int} {a s0 k:Int}
    (h:Con P g [.box 0 (srcC code a s0)] (.ptr 5000 0 0 :: args) true fun outs rows res=>∃ n ps v a' s',F n ps∧a≤a'∧a'≤a+k∧outs=[.box 0 (srcC code a' s')]∧rows=[.row v 1 true (rwp ps)]∧res=.st [iv n,.own 6000 v])
    (hr:σ.hp r=.box v (srcC code a s0)) (hs:∀ x y,s x=s y→x=y) (hv:∀ y,s y≠v) (hco:CoeL σ.hp [r] false args As) (hd:σ.hp d=.gone)
    (hk:∀ n ps v' a' s',F n ps→a≤a'→a'≤a+k→K (St.put ⟨σ.tm,upd (upd σ.hp r (.box v (srcC code a' s'))) d (.row v' 1 true (rwp ps))⟩ (some d) (.st [iv n,.own d v']))):wpCall P false σ g (.ptr r v 0 :: As) (some d) s K:=by
  have hne:d≠r:=fun e=>by rw [e,hr] at hd;cases hd
  refine call_con (r:=r) h hr (by simp only [Bool.not_true,rowIs,boxIs,coe_argN,yz1f,coe_ro_o,yz1d,yzz,coe_any,coe_val,coe_ro,yz1b,yz1a,coe_st,yz19,coe_rp,yz18,coe_clo,coe_own0,yz1h,yz16,coeL_rws,coeL_rwn,L_hit,L_miss,L_nil,xx3,ne_eq,reduceCtorEq,not_false_eq_true,true_and,and_true,and_self,exists_eq_left,exists_eq_right,List.mem_cons,List.not_mem_nil,or_false,AObj.row.injEq,AObj.box.injEq,exists_eq_left',exists_and_left,exists_eq,Nat.zero_lt_one,Nat.lt_add_one,List.map_cons,List.map_nil,AObj.ver,xx5,not_true_eq_false]) (by rw [Bool.not_true,yzz,yz1h,hr];exact ⟨rfl,hco⟩) ?_
  rintro outs rows res ⟨n,ps,w,a',s',hf,h1,h2,rfl,rfl,rfl⟩
  refine ⟨rfl,by simp,by rw [Option.getD_some,yzl];exact hd,?_⟩
  rw [Option.getD_some,callHp_mr hne]
  have hi:=sv_inj (hp:=σ.hp) (r:=r) hr hs hv
  have h0:sv σ.hp [r] s 0=v:=sv_m hr
  simp only [yzo,yzm,renL_rwp,renL_flat _ flat_srcC,yz11,yze,yzn,yzu,List.length_singleton,yz2,h0]
  exact hk n _ _ a' s' (hF n ps _ hi hf) h1 h2
theorem call_lo0 {P:Program} {F:Int→List (Nat×List Int)→Prop} (hF:FRen F) {σ:St} {g:FuncId} {As args:List AVal} {d:Nat} {s:Nat→Nat} {K:St→Prop}
    (h:Con P g [] args true fun outs rows res=>outs=[]∧∃ n v ps,F n ps∧rows=[.row v 1 true (rwp ps)]∧res=.st [iv n,.own 6000 v])
    (hs:∀ x y,s x=s y→x=y) (hco:CoeL σ.hp [] false args As) (hd:σ.hp d=.gone)
    (hk:∀ n ps v',F n ps→K (St.put ⟨σ.tm,upd σ.hp d (.row v' 1 true (rwp ps))⟩ (some d) (.st [iv n,.own d v']))):wpCall P false σ g As (some d) s K:=by
  refine call_sh h hco (fun e=>by cases e) ?_
  rintro outs rows res ⟨rfl,n,w,ps,hf,rfl,rfl⟩
  refine ⟨rfl,by simp,by rw [Option.getD_some,yzl];exact hd,?_⟩
  rw [Option.getD_some,yz4]
  simp only [yzm,renL_rwp,yz11,yze,yzn,yzu,List.length_singleton,yz2]
  exact hk n _ _ (hF n ps _ hs hf)
theorem call_lo2 {P:Program} {F:Int→List (Nat×List Int)→Prop} (hF:FRen F) {σ:St} {g:FuncId} {As args:List AVal} {d:Nat} {s:Nat→Nat} {K:St→Prop} {r v:Nat} {code:List Int} {a s0 k:Int}
    (h:Con P g [.box 0 (srcC code a s0)] (.ptr 5000 0 0 :: args) true fun outs rows res=>∃ n ps v w xs a' s',F n ps∧a≤a'∧a'≤a+k∧outs=[.box 0 (srcC code a' s')]∧rows=[.row v 1 true (rwp ps),.row w 1 true (ints xs)]∧res=.tup [.st [iv n,.own 6000 v],.own 6001 w])
    (hr:σ.hp r=.box v (srcC code a s0)) (hs:∀ x y,s x=s y→x=y) (hv:∀ y,s y≠v) (hco:CoeL σ.hp [r] false args As) (hd:σ.hp d=.gone) (hd2:σ.hp (d+1000)=.gone)
    (hk:∀ n ps v' w' xs a' s',F n ps→a≤a'→a'≤a+k→K (St.put ⟨σ.tm,upd (upd (upd σ.hp r (.box v (srcC code a' s'))) d (.row v' 1 true (rwp ps))) (d+1000) (.row w' 1 true (ints xs))⟩ (some d) (.tup [.st [iv n,.own d v'],.own (d+1000) w']))):wpCall P false σ g (.ptr r v 0 :: As) (some d) s K:=by
  have hne:d≠r:=fun e=>by rw [e,hr] at hd;cases hd
  have hne2:d+1000≠r:=fun e=>by rw [e,hr] at hd2;cases hd2
  refine call_con (r:=r) h hr (by simp only [Bool.not_true,rowIs,boxIs,coe_argN,yz1f,coe_ro_o,yz1d,yzz,coe_any,coe_val,coe_ro,yz1b,yz1a,coe_st,yz19,coe_rp,yz18,coe_clo,coe_own0,yz1h,yz16,coeL_rws,coeL_rwn,L_hit,L_miss,L_nil,xx3,ne_eq,reduceCtorEq,not_false_eq_true,true_and,and_true,and_self,exists_eq_left,exists_eq_right,List.mem_cons,List.not_mem_nil,or_false,AObj.row.injEq,AObj.box.injEq,exists_eq_left',exists_and_left,exists_eq,Nat.zero_lt_one,Nat.lt_add_one,List.map_cons,List.map_nil,AObj.ver,xx5,not_true_eq_false]) (by rw [Bool.not_true,yzz,yz1h,hr];exact ⟨rfl,hco⟩) ?_
  rintro outs rows res ⟨n,ps,w,w2,xs,a',s',hf,h1,h2,rfl,rfl,rfl⟩
  refine ⟨rfl,by simp,by rw [Option.getD_some,yzp];exact ⟨hd,hd2⟩,?_⟩
  rw [Option.getD_some,callHp_mrr hne hne2]
  have hi:=sv_inj (hp:=σ.hp) (r:=r) hr hs hv
  have h0:sv σ.hp [r] s 0=v:=sv_m hr
  have e2:([AObj.row w 1 true (rwp ps),AObj.row w2 1 true (ints xs)]:List AObj).length=2:=rfl
  simp only [yzo,yzm,renL_rwp,renL_flat _ flat_srcC,yz11,yzv,yze,yzn,yz3,yzu,e2,yz2,yz5,h0]
  exact hk n _ _ _ xs a' s' (hF n ps _ hi hf) h1 h2
def FAut (m:Int) (n:Int) (ps:List (Nat×List Int)):Prop:=Aut n (ps.map (·.2))∧DJ ps∧n≤m
def FLo (n:Int) (ps:List (Nat×List Int)):Prop:=(ps.length≤3→DJ ps)∧ps.length≤10∧-1≤n∧n≤11∧∀ p∈ps,p.2.length≤10
theorem map_named {ps:List (Nat×List Int)} {f:Nat→Nat}:(ps.map fun p=>(f p.1,p.2)).map (·.2)=ps.map (·.2):=by rw [List.map_map];rfl
theorem FAut_ren (m:Int):FRen (FAut m):=by
  rintro n ps f hf ⟨h1,h2,h3⟩
  exact ⟨by rw [map_named];exact h1,h2.ren hf,h3⟩
theorem FLo_ren:FRen FLo:=by
  rintro n ps f hf ⟨h1,h2,h3,h4,h5⟩
  refine ⟨fun h=>(h1 (by simpa using h)).ren hf,by simpa using h2,h3,h4,fun p hp=>?_⟩
  obtain ⟨q,hq,rfl⟩:=List.mem_map.1 hp
  exact h5 q hq
theorem FAut.lo {m n:Int} {ps:List (Nat×List Int)} (h:FAut m n ps):FLo n ps:=by
  obtain ⟨A,hd,hm⟩:=h
  have n1:=A.n1
  have n2:=A.n2
  have l2:=A.l2
  rw [List.length_map] at l2
  exact ⟨fun _=>hd,by omega,by omega,by omega,fun p hp=>by have:=(A.row p.2 (List.mem_map.2 ⟨p,hp,rfl⟩)).1;omega⟩
theorem DJ_refrozen {A2 C2:List (Nat×List Int)} {b:Nat×List Int} {m:Nat} {cur:List Int} (hd:DJ (A2 ++ b :: C2))
    (hf:∀ n k'' cs'',AVal.ro (some (some (n+1))) k'' cs''∈rwp A2 ++ AVal.own 901 m :: rwp C2→cs''≠[]→n≠m):DJ (A2 ++ (m,cur) :: C2):=DJ_in hd fun p hp=>by
  by_cases e:p.2=[]
  · exact .inl e
  · refine .inr (hf p.1 1 (ints p.2) ?_ (by simpa using e))
    rcases List.mem_append.1 hp with h | h
    · exact List.mem_append.2 (.inl (List.mem_map.2 ⟨p,h,rfl⟩))
    · exact List.mem_append.2 (.inr (List.mem_cons.2 (.inr (List.mem_map.2 ⟨p,h,rfl⟩))))
theorem Aut_put {n:Int} {A2 C2:List (Nat×List Int)} {b:Nat×List Int} {u:Nat} {cur:List Int} (A:Aut n ((A2 ++ b :: C2).map (·.2))) (hl:cur.length=b.2.length) (hm:∀ x∈cur,0≤x∧x<n):Aut n ((A2 ++ (u,cur) :: C2).map (·.2)):=by
  have l1:=A.l1
  have l2:=A.l2
  have hbr:=A.row b.2 (by simp)
  refine ⟨A.n1,A.n2,by rw [List.length_map] at l1 ⊢;simpa using l1,by rw [List.length_map] at l2 ⊢;simpa using l2,fun row hr=>?_⟩
  rw [List.map_append,List.map_cons,List.mem_append,List.mem_cons] at hr
  rcases hr with h | h | h
  · exact A.row row (by rw [List.map_append];exact List.mem_append.2 (.inl h))
  · rw [h];exact ⟨by dsimp only;omega,hm⟩
  · exact A.row row (by rw [List.map_append,List.map_cons];exact List.mem_append.2 (.inr (List.mem_cons_of_mem _ h)))
theorem k_l02Drawn (code:List Int) (at_ seed:Int) (hb:∀ x∈code,0≤x∧x≤255) (ha:0≤at_∧at_≤10000) :
    Con Try.prog nz3s [.box 0 (srcC code at_ seed)] [.ptr 5000 0 0] true fun outs rows res=>∃ n ps v a' s',FLo n ps∧at_≤a'∧a'≤at_+5000∧outs=[.box 0 (srcC code a' s')]∧rows=[.row v 1 true (rwp ps)]∧res=.st [iv n,.own 6000 v]:=by
  refine con_sh mixed czji rfl (by simp) ?_
  generalize hQ:finQ _=Q
  simp only [Azc,Bzdw,yzy,yzk,go_sem,yz0,xx9,xx8,xx6,xx7,xx5,xx0,xx1,xx2,reduceIte,xx3,xx4,reduceCtorEq]
  intro vs0 U0 hN0 vs1 U1 hN1
  refine call_funB (k_pick code at_ seed 6 hb (by omega)) rfl qCS qCS ?_
  rintro cs' x ⟨a1,s1,b1,rfl,g1,g2,rfl,g3,g4⟩
  by_cases k0:b1=0
  · subst k0
    simp only [Bzz,Bzy,beq_self_eq_true,yzy,yzk,go_sem,yz0,xx9,xx8,xx6,xx7,xx5,xx0,xx1,xx2,reduceIte,xx3,xx4,reduceCtorEq]
    intro vs2 U2 hN2 vs3 U3 hN3
    refine call_funB (k_pick code a1 s1 6 hb (by omega)) rfl qCS qCS ?_
    rintro cs' x ⟨a2,s2,b2,rfl,g5,g6,rfl,g7,g8⟩
    have w1:IntKind.i64.wrap (2+b2)=2+b2:=w64 (by omega)
    simp only [w1,yzy,yzk,go_sem,yz0,xx9,xx8,xx6,xx7,xx5,xx0,xx1,xx2,reduceIte,xx3,xx4,reduceCtorEq]
    refine call_lo0 (FAut_ren 10) (Con.mono (k_l02SlowN (2+b2) (by omega)) ?_) (fun x y e=>(hN3.inj _ _ _ _ e).2) qCS qGN ?_
    · rintro outs rows res ⟨h1,v,ps,h2,h3,h4,h5⟩
      exact ⟨h1,_,v,ps,⟨h2,h3,by omega⟩,h4,h5⟩
    intro n ps v' hf
    simp only [← hQ,Azc,yzy,yzk,go_sem,yz0,xx9,xx8,xx6,xx7,xx5,xx0,xx1,xx2,reduceIte,xx3,xx4,reduceCtorEq]
    refine ⟨[14],by simp,by simp,by simp,?_⟩
    simp only [range1,List.length_singleton,renL_rwp,Nat.not_lt_zero,range1,yzu,yzx,yz12,yz15,yzw,yz13,yz14,yz11,yzv,yzn,yze,yz3,yzq,yzs,yzo,yzm,yzr,yz9,yzc,yza,yz7,yzg,yzf,yz2,yz5,yzd,yzb,yzj,yzi,List.range_zero,yz6,yz4,yz8,yzt,yzl,yzp,AVal.fresh,freshL,yz1,yzh,AObj.fresh,id,Option.isSome_some,or_true,true_or,go_sem,yz0,xx9,xx8,xx6,xx7,xx5,xx0,xx1,xx2,reduceIte,xx3,xx4,reduceCtorEq]
    exact ⟨n,ps,v',a2,s2,hf.lo,by omega,by omega,rfl,by simp,rfl⟩
  by_cases k1:b1=1
  · subst k1
    simp only [beq_false_of_ne (show (1:Int)≠0 by omega),Bzz,Bzy,Bz2m,beq_self_eq_true,yzy,yzk,go_sem,yz0,xx9,xx8,xx6,xx7,xx5,xx0,xx1,xx2,reduceIte,xx3,xx4,reduceCtorEq]
    intro vs2 U2 hN2 vs3 U3 hN3 vs4 U4 hN4
    refine call_lo2 (k:=2000) (FAut_ren 10) (Con.mono (k_l01Alike code a1 s1 hb (by omega)) ?_) rfl (fun x y e=>(hN4.inj _ _ _ _ e).2) (hN4.box (r:=5000) rfl 1) qCS qGN qGN ?_
    · rintro outs rows res ⟨n,ps,v,w,xs,a',s',h1,h2,h3,h4,h5,h6⟩
      exact ⟨n,ps,v,w,xs,a',s',⟨h1,h2,by omega⟩,h4,h5,h6⟩
    intro n ps v' w' xs a2 s2 hf h1 h2
    simp only [yzy,yzk,go_sem,yz0,xx9,xx8,xx6,xx7,xx5,xx0,xx1,xx2,reduceIte,xx3,xx4,reduceCtorEq]
    simp only [Bzds,← hQ,Azc,yzy,yzk,go_sem,yz0,xx9,xx8,xx6,xx7,xx5,xx0,xx1,xx2,reduceIte,xx3,xx4,reduceCtorEq]
    intro vs5 U5 hN5
    refine ⟨[19],by simp,by simp,by simp,?_⟩
    simp only [range1,List.length_singleton,renL_rwp,Nat.not_lt_zero,range1,yzu,yzx,yz12,yz15,yzw,yz13,yz14,yz11,yzv,yzn,yze,yz3,yzq,yzs,yzo,yzm,yzr,yz9,yzc,yza,yz7,yzg,yzf,yz2,yz5,yzd,yzb,yzj,yzi,List.range_zero,yz6,yz4,yz8,yzt,yzl,yzp,AVal.fresh,freshL,yz1,yzh,AObj.fresh,id,Option.isSome_some,or_true,true_or,go_sem,yz0,xx9,xx8,xx6,xx7,xx5,xx0,xx1,xx2,reduceIte,xx3,xx4,reduceCtorEq]
    exact ⟨n,ps,v',a2,s2,hf.lo,by omega,by omega,rfl,by simp,rfl⟩
  by_cases k2:b1=2
  · subst k2
    simp only [beq_false_of_ne (show (2:Int)≠0 by omega),beq_false_of_ne (show (2:Int)≠1 by omega),Bzz,Bzy,Bz2m,Bz6c,beq_self_eq_true,yzy,yzk,go_sem,yz0,xx9,xx8,xx6,xx7,xx5,xx0,xx1,xx2,reduceIte,xx3,xx4,reduceCtorEq]
    intro vs2 U2 hN2 vs3 U3 hN3 vs4 U4 hN4 vs5 U5 hN5
    refine call_lo (k:=3000) FLo_ren (Con.mono (k_l01Bent code a1 s1 hb (by omega)) ?_) rfl (fun x y e=>(hN5.inj _ _ _ _ e).2) (hN5.box (r:=5000) rfl 1) qCS qGN ?_
    · rintro outs rows res ⟨n,ps,v,a',s',h1,h2,h3,h4,h5,h6⟩
      exact ⟨n,ps,v,a',s',⟨h1,h2,h3,h4,h5⟩,h6⟩
    intro n ps v' a2 s2 hf h1 h2
    simp only [← hQ,Azc,yzy,yzk,go_sem,yz0,xx9,xx8,xx6,xx7,xx5,xx0,xx1,xx2,reduceIte,xx3,xx4,reduceCtorEq]
    refine ⟨[26],by simp,by simp,by simp,?_⟩
    simp only [range1,List.length_singleton,renL_rwp,Nat.not_lt_zero,range1,yzu,yzx,yz12,yz15,yzw,yz13,yz14,yz11,yzv,yzn,yze,yz3,yzq,yzs,yzo,yzm,yzr,yz9,yzc,yza,yz7,yzg,yzf,yz2,yz5,yzd,yzb,yzj,yzi,List.range_zero,yz6,yz4,yz8,yzt,yzl,yzp,AVal.fresh,freshL,yz1,yzh,AObj.fresh,id,Option.isSome_some,or_true,true_or,go_sem,yz0,xx9,xx8,xx6,xx7,xx5,xx0,xx1,xx2,reduceIte,xx3,xx4,reduceCtorEq]
    exact ⟨n,ps,v',a2,s2,hf,by omega,by omega,rfl,by simp,rfl⟩
  simp only [beq_false_of_ne k0,beq_false_of_ne k1,beq_false_of_ne k2,Bzz,Bzy,Bz2m,Bz6c,Bzdv,yzy,yzk,go_sem,yz0,xx9,xx8,xx6,xx7,xx5,xx0,xx1,xx2,reduceIte,xx3,xx4,reduceCtorEq]
  intro vs2 U2 hN2 vs3 U3 hN3 vs4 U4 hN4 vs5 U5 hN5
  refine call_lo (k:=1000) (FAut_ren 6) (Con.mono (k_DrawnN code a1 s1 6 hb (by omega) (by omega)) ?_) rfl (fun x y e=>(hN5.inj _ _ _ _ e).2) (hN5.box (r:=5000) rfl 1) qCS qGN ?_
  · rintro outs rows res ⟨n,ps,v,a',s',h1,h2,h3,h4,h5,h6⟩
    exact ⟨n,ps,v,a',s',⟨h1,h2,h3⟩,h4,h5,h6⟩
  intro n ps v' a2 s2 hf h1 h2
  simp only [Bzdu,yzy,yzk,go_sem,yz0,xx9,xx8,xx6,xx7,xx5,xx0,xx1,xx2,reduceIte,xx3,xx4,reduceCtorEq]
  intro vs6 U6 hN6
  refine call_funB (k_one code a2 s2 2 hb (by omega)) rfl qCS qCS ?_
  rintro cs' x ⟨a3,s3,b3,rfl,g5,g6,rfl⟩
  obtain ⟨A,hdj,hn6⟩:=hf
  have l1:=A.l1
  have l2:=A.l2
  have n1:=A.n1
  have n2:=A.n2
  rw [List.length_map] at l1 l2
  have hend:∀ (σ:St) (v2 v5:Nat) (ps:List (Nat×List Int)) (a s:Int),FLo n ps→at_≤a∧a≤at_+5000 →
      σ.keep [2,5] [2,3,5,14,19,26,28,1019,5000,901]=⟨L .any [(2,.ptr 2 v2 0),(5,.ptr 5 v5 0)],
        L .gone [(2,.box v2 [iv 0,.val (.slice none 0 0)]),(3,.gone),(5,.box v5 [iv n,.own 28 v']),(14,.gone),(19,.gone),(26,.gone),(28,.row v' 1 true (rwp ps)),(1019,.gone),(5000,.box 0 (srcC code a s)),(901,.gone)]⟩ →
      wpD Try.prog Bz2n Q σ:=by
    intro σ v2 v5 ps a s hf ha' hS
    unfold Bz2n
    rw [yzy,hS]
    simp only [wpD_gh]
    intro _
    refine ⟨[],?_⟩
    simp only [gwp_nil,yzy,yzk,go_sem,yz0,xx9,xx8,xx6,xx7,xx5,xx0,xx1,xx2,reduceIte,xx3,xx4,reduceCtorEq]
    intro vs U hN
    simp only [← hQ,Azc,go_sem,yz0,xx9,xx8,xx6,xx7,xx5,xx0,xx1,xx2,reduceIte,xx3,xx4,reduceCtorEq]
    refine ⟨[28],by simp,by simp,by simp,?_⟩
    simp only [range1,List.length_singleton,renL_rwp,Nat.not_lt_zero,range1,yzu,yzx,yz12,yz15,yzw,yz13,yz14,yz11,yzv,yzn,yze,yz3,yzq,yzs,yzo,yzm,yzr,yz9,yzc,yza,yz7,yzg,yzf,yz2,yz5,yzd,yzb,yzj,yzi,List.range_zero,yz6,yz4,yz8,yzt,yzl,yzp,AVal.fresh,freshL,yz1,yzh,AObj.fresh,id,Option.isSome_some,or_true,true_or,go_sem,yz0,xx9,xx8,xx6,xx7,xx5,xx0,xx1,xx2,reduceIte,xx3,xx4,reduceCtorEq]
    exact ⟨n,ps,v',a,s,hf,ha'.1,ha'.2,rfl,by simp,rfl⟩
  cases b3 with
  | false =>
    simp only [Bz6d,yzy,yzk,go_sem,yz0,xx9,xx8,xx6,xx7,xx5,xx0,xx1,xx2,reduceIte,xx3,xx4,reduceCtorEq]
    exact hend _ (vs0 0 0) (vs5 2 0) ps a3 s3 (FAut.lo ⟨A,hdj,hn6⟩) (by omega) (by simp only [go_sem,yz0,xx9,xx8,xx6,xx7,xx5,xx0,xx1,xx2,reduceIte,xx3,xx4,reduceCtorEq];try rfl)
  | true =>
    simp only [Bz6d,rwp_len,yzy,yzk,go_sem,yz0,xx9,xx8,xx6,xx7,xx5,xx0,xx1,xx2,reduceIte,xx3,xx4,reduceCtorEq]
    intro vs7 U7 hN7 hM7
    refine call_funB (k_pick code a3 s3 ps.length hb (by omega)) rfl qCS qCS ?_
    rintro cs' x ⟨a4,s4,x0,rfl,g7,g8,rfl,g9,g10⟩
    have hat:x0.toNat<ps.length:=by omega
    obtain ⟨A2,b,C2,rfl,hAk⟩:=rwp_split hat
    have hbr:=A.row b.2 (by simp)
    have hbn:b.2≠[]:=fun e=>by rw [e] at hbr;simp at hbr;omega
    have F0a:=DJ_out hdj hbn
    simp only [Bzdt,yzy,wpD_gh,go_sem,yz0,xx9,xx8,xx6,xx7,xx5,xx0,xx1,xx2,reduceIte,xx3,xx4,reduceCtorEq]
    intro _
    refine ⟨[.thaw 28 x0.toNat 901],gwp_thaw (n:=b.1) rfl (rwp_get hAk.symm) (by simpa using hbn) rfl fun m1=>?_⟩
    have hset:(woL b.1 (rwp (A2 ++ b :: C2))).set x0.toNat (AVal.own 901 m1)=rwp A2 ++ AVal.own 901 m1 :: rwp C2:=by rw [← hAk];exact woL_set F0a
    have ho1:(rwp A2 ++ AVal.own 901 m1 :: rwp C2).getD x0.toNat .any=.own 901 m1:=own_at hAk.symm
    have hol:(rwp A2 ++ AVal.own 901 m1 :: rwp C2).length=A2.length+(C2.length+1):=by rw [List.length_append,List.length_cons,rwp_len,rwp_len]
    have hkl:x0.toNat<(rwp A2 ++ AVal.own 901 m1 :: rwp C2).length:=by omega
    simp only [hset,woT,woO,woL_cons,woL_nil,woV_val,woV_own,wo_ptr,wo_o,woL_ints,wo_st,woO_row,woO_box,woO_gone,wo_any,gwp_nil,yzy,yzk,go_sem,yz0,xx9,xx8,xx6,xx7,xx5,xx0,xx1,xx2,reduceIte,xx3,xx4,reduceCtorEq]
    intro vs8 U8 hN8
    simp only [ho1,go_sem,yz0,xx9,xx8,xx6,xx7,xx5,xx0,xx1,xx2,reduceIte,xx3,xx4,reduceCtorEq]
    refine ⟨⟨g9,hkl⟩,hkl,?_⟩
    refine call_funBN (k_pick code a4 s4 n hb (by omega)) rfl (by simp) qCS qCS ⟨srcC code a4 0,.int .i64 0,⟨a4,0,0,rfl,by omega,by omega,rfl,by omega,.inr rfl⟩,flat_srcC⟩ ?_
    rintro cs' x ⟨a5,s5,y1,rfl,p1,p2,rfl,p3,p4⟩
    have hy1:y1.toNat<b.2.length:=by omega
    simp only [ho1,yzy,yzk,go_sem,yz0,xx9,xx8,xx6,xx7,xx5,xx0,xx1,xx2,reduceIte,xx3,xx4,reduceCtorEq]
    refine ⟨⟨g9,hkl⟩,hkl,?_⟩
    refine call_funBN (k_pick code a5 s5 n hb (by omega)) rfl (by simp) qCS qCS ⟨srcC code a5 0,.int .i64 0,⟨a5,0,0,rfl,by omega,by omega,rfl,by omega,.inr rfl⟩,flat_srcC⟩ ?_
    rintro cs' x ⟨a6,s6,y2,rfl,p5,p6,rfl,p7,p8⟩
    have hy2:y2.toNat<b.2.length:=by omega
    simp only [yz1c hy2,yzy,yzk,go_sem,yz0,xx9,xx8,xx6,xx7,xx5,xx0,xx1,xx2,reduceIte,xx3,xx4,reduceCtorEq]
    refine ⟨⟨p7,hy2⟩,hy2,⟨p3,hy1⟩,hy1,?_⟩
    have hcl:=lput_len (xs:=b.2) (v:=b.2.getD y2.toNat 0) hy1
    have hcm:=lput_mem (xs:=b.2) (i:=y1.toNat) (v:=b.2.getD y2.toNat 0) (Q:=fun z=>0≤z∧z<n) hbr.2 (hbr.2 _ (yz17 hy2 0))
    simp only [ints_put]
    generalize hcu:b.2.take y1.toNat ++ [b.2.getD y2.toNat 0] ++ b.2.drop (y1.toNat+1)=cur at hcl hcm ⊢
    simp only [Bz2n,yzy,wpD_gh,go_sem,yz0,xx9,xx8,xx6,xx7,xx5,xx0,xx1,xx2,reduceIte,xx3,xx4,reduceCtorEq]
    intro hD
    refine ⟨[.rf 28 x0.toNat 901],gwp_rf (k:=1) (nn:=true) rfl (own_get hAk.symm) (by decide) rfl fun hf=>?_⟩
    have D1:=DJ_refrozen hdj hf (cur:=cur)
    have A1:=Aut_put A (u:=m1) hcl hcm
    have hset4:∀ X:AVal,(rwp A2 ++ AVal.own 901 m1 :: rwp C2).set x0.toNat X=rwp A2 ++ X :: rwp C2:=fun X=>by
      rw [← hAk,List.set_append_right _ _ (by rw [rwp_len];exact Nat.le_refl _),rwp_len,Nat.sub_self];rfl
    simp only [hset4,frNm_t,rwp_cat,gwp_nil,yzy,yzk,go_sem,yz0,xx9,xx8,xx6,xx7,xx5,xx0,xx1,xx2,reduceIte,xx3,xx4,reduceCtorEq]
    intro vs9 U9 hN9
    simp only [← hQ,Azc,go_sem,yz0,xx9,xx8,xx6,xx7,xx5,xx0,xx1,xx2,reduceIte,xx3,xx4,reduceCtorEq]
    refine ⟨[28],by simp,by simp,by simp,?_⟩
    simp only [range1,List.length_singleton,renL_rwp,Nat.not_lt_zero,range1,yzu,yzx,yz12,yz15,yzw,yz13,yz14,yz11,yzv,yzn,yze,yz3,yzq,yzs,yzo,yzm,yzr,yz9,yzc,yza,yz7,yzg,yzf,yz2,yz5,yzd,yzb,yzj,yzi,List.range_zero,yz6,yz4,yz8,yzt,yzl,yzp,AVal.fresh,freshL,yz1,yzh,AObj.fresh,id,Option.isSome_some,or_true,true_or,go_sem,yz0,xx9,xx8,xx6,xx7,xx5,xx0,xx1,xx2,reduceIte,xx3,xx4,reduceCtorEq]
    exact ⟨n,A2 ++ (m1,cur) :: C2,v',a6,s6,FAut.lo ⟨A1,D1,hn6⟩,by omega,by omega,rfl,by simp,rfl⟩
theorem k_l03Linked (code:List Int) (at_ seed:Int) (hb:∀ x∈code,0≤x∧x≤255) (ha:0≤at_∧at_≤1000) :
    Con Try.prog nz18 [.box 0 (srcC code at_ seed)] [.ptr 5000 0 0] true fun outs rows res=>∃ n ps v a' s',FLo n ps∧at_≤a'∧a'≤at_+6000∧outs=[.box 0 (srcC code a' s')]∧rows=[.row v 1 true (rwp ps)]∧res=.st [iv n,.own 6000 v]:=by
  refine con_sh mixed czin rfl (by simp) ?_
  generalize hQ:finQ _=Q
  simp only [Az27,Bzal,yzy,yzk,go_sem,yz0,xx9,xx8,xx6,xx7,xx5,xx0,xx1,xx2,reduceIte,xx3,xx4,reduceCtorEq]
  intro vs0 U0 hN0 vs1 U1 hN1
  refine call_lo (k:=5000) FLo_ren (k_l02Drawn code at_ seed hb (by omega)) rfl (fun x y e=>(hN1.inj _ _ _ _ e).2) (hN1.box (r:=5000) rfl 1) qCS qGN ?_
  intro n ps v' a1 s1 hf h1 h2
  have hend:∀ (σ:St) (v2 v3:Nat) (a s:Int),at_≤a∧a≤at_+6000 →
      σ.keep [2,3] [2,3,6,5000,901]=⟨L .any [(2,.ptr 2 v2 0),(3,.ptr 3 v3 0)],
        L .gone [(2,.box v2 [iv 0,.val (.slice none 0 0)]),(3,.box v3 [iv n,.own 6 v']),(6,.row v' 1 true (rwp ps)),(5000,.box 0 (srcC code a s)),(901,.gone)]⟩ →
      wpD Try.prog Bz26 Q σ:=by
    intro σ v2 v3 a s ha' hS
    unfold Bz26
    rw [yzy,hS]
    simp only [wpD_gh]
    intro _
    refine ⟨[],?_⟩
    simp only [gwp_nil,yzy,yzk,go_sem,yz0,xx9,xx8,xx6,xx7,xx5,xx0,xx1,xx2,reduceIte,xx3,xx4,reduceCtorEq]
    intro vs U hN
    simp only [← hQ,Az27,go_sem,yz0,xx9,xx8,xx6,xx7,xx5,xx0,xx1,xx2,reduceIte,xx3,xx4,reduceCtorEq]
    refine ⟨[6],by simp,by simp,by simp,?_⟩
    simp only [range1,List.length_singleton,renL_rwp,Nat.not_lt_zero,range1,yzu,yzx,yz12,yz15,yzw,yz13,yz14,yz11,yzv,yzn,yze,yz3,yzq,yzs,yzo,yzm,yzr,yz9,yzc,yza,yz7,yzg,yzf,yz2,yz5,yzd,yzb,yzj,yzi,List.range_zero,yz6,yz4,yz8,yzt,yzl,yzp,AVal.fresh,freshL,yz1,yzh,AObj.fresh,id,Option.isSome_some,or_true,true_or,go_sem,yz0,xx9,xx8,xx6,xx7,xx5,xx0,xx1,xx2,reduceIte,xx3,xx4,reduceCtorEq]
    exact ⟨n,ps,v',a,s,hf,ha'.1,ha'.2,rfl,by simp,rfl⟩
  simp only [Bzak,yzy,yzk,go_sem,yz0,xx9,xx8,xx6,xx7,xx5,xx0,xx1,xx2,reduceIte,xx3,xx4,reduceCtorEq]
  intro vs2 U2 hN2
  refine yz10 (k_l01Ok n (ps.map (·.2))) (by simp only [coeL_rwp_t,rowIs,boxIs,coe_argN,yz1f,coe_ro_o,yz1d,yzz,coe_any,coe_val,coe_ro,yz1b,yz1a,coe_st,yz19,coe_rp,yz18,coe_clo,coe_own0,yz1h,yz16,coeL_rws,coeL_rwn,L_hit,L_miss,L_nil,xx3,ne_eq,reduceCtorEq,not_false_eq_true,true_and,and_true,and_self,exists_eq_left,exists_eq_right,List.mem_cons,List.not_mem_nil,or_false,AObj.row.injEq,AObj.box.injEq,exists_eq_left',exists_and_left,exists_eq,Nat.zero_lt_one,Nat.lt_add_one,List.map_cons,List.map_nil,AObj.ver,xx5,not_true_eq_false]) trivial ?_
  cases hA:autB n (ps.map (·.2)) with
  | false =>
    simp only [Bz25,yzy,yzk,go_sem,yz0,xx9,xx8,xx6,xx7,xx5,xx0,xx1,xx2,reduceIte,xx3,xx4,reduceCtorEq]
    exact hend _ (vs0 0 0) (vs1 2 0) a1 s1 (by omega) (by simp only [go_sem,yz0,xx9,xx8,xx6,xx7,xx5,xx0,xx1,xx2,reduceIte,xx3,xx4,reduceCtorEq];try rfl)
  | true =>
    have A:=autB_iff.1 hA
    have n1:=A.n1
    have n2:=A.n2
    have l1:=A.l1
    have l2:=A.l2
    rw [List.length_map] at l1 l2
    have hdj:DJ ps:=hf.1 l2
    simp only [yzy,yzk,go_sem,yz0,xx9,xx8,xx6,xx7,xx5,xx0,xx1,xx2,reduceIte,xx3,xx4,reduceCtorEq]
    refine call_funB (k_one code a1 s1 4 hb (by omega)) rfl qCS qCS ?_
    rintro cs' x ⟨a2,s2,b2,rfl,g1,g2,rfl⟩
    cases b2 with
    | true =>
      simp only [Bz25,Bool.not_true,yzy,yzk,go_sem,yz0,xx9,xx8,xx6,xx7,xx5,xx0,xx1,xx2,reduceIte,xx3,xx4,reduceCtorEq]
      exact hend _ (vs0 0 0) (vs1 2 0) a2 s2 (by omega) (by simp only [go_sem,yz0,xx9,xx8,xx6,xx7,xx5,xx0,xx1,xx2,reduceIte,xx3,xx4,reduceCtorEq];try rfl)
    | false =>
      obtain ⟨A2,b,C2,rfl,hAk⟩:=rwp_split (show 0<ps.length by omega)
      have hbr:=A.row b.2 (by simp)
      have hbn:b.2≠[]:=fun e=>by rw [e] at hbr;simp at hbr;omega
      have F0a:=DJ_out hdj hbn
      simp only [Bz25,Bool.not_false,yzy,yzk,go_sem,yz0,xx9,xx8,xx6,xx7,xx5,xx0,xx1,xx2,reduceIte,xx3,xx4,reduceCtorEq]
      intro vs3 U3 hN3
      simp only [Bzaj,yzy,wpD_gh,go_sem,yz0,xx9,xx8,xx6,xx7,xx5,xx0,xx1,xx2,reduceIte,xx3,xx4,reduceCtorEq]
      intro _
      refine ⟨[.thaw 6 0 901],gwp_thaw (n:=b.1) rfl (rwp_get hAk.symm) (by simpa using hbn) rfl fun m1=>?_⟩
      have hset:(woL b.1 (rwp (A2 ++ b :: C2))).set 0 (AVal.own 901 m1)=rwp A2 ++ AVal.own 901 m1 :: rwp C2:=by rw [← hAk];exact woL_set F0a
      have ho1:(rwp A2 ++ AVal.own 901 m1 :: rwp C2).getD 0 .any=.own 901 m1:=own_at hAk.symm
      have hol:(rwp A2 ++ AVal.own 901 m1 :: rwp C2).length=A2.length+(C2.length+1):=by rw [List.length_append,List.length_cons,rwp_len,rwp_len]
      have hkl:0<(rwp A2 ++ AVal.own 901 m1 :: rwp C2).length:=by omega
      simp only [hset,woT,woO,woL_cons,woL_nil,woV_val,woV_own,wo_ptr,wo_o,woL_ints,wo_st,woO_row,woO_box,woO_gone,wo_any,gwp_nil,yzy,yzk,go_sem,yz0,xx9,xx8,xx6,xx7,xx5,xx0,xx1,xx2,reduceIte,xx3,xx4,reduceCtorEq]
      refine wpD_lp (fun (x:Nat×List Int)=>n.toNat - x.1) (fun x=>(x.1:Int)≤n∧x.2.length=b.2.length∧∀ z∈x.2,0≤z∧z<n)
        (fun (x:Nat×List Int)=>⟨L .any [(2,.ptr 2 (vs0 0 0) 0),(3,.ptr 3 (vs1 2 0) 0),(4,iv x.1)],
          L .gone [(2,.box (vs0 0 0) [iv 0,.val (.slice none 0 0)]),(3,.box (vs1 2 0) [iv n,.own 6 v']),(6,.row v' 1 true (rwp A2 ++ .own 901 m1 :: rwp C2)),(5000,.box 0 (srcC code a2 s2)),(901,.row m1 1 true (ints x.2))]⟩)
        (0,b.2) ⟨by simp;omega,rfl,hbr.2⟩ (by simp only [Bz24,go_sem,yz0,xx9,xx8,xx6,xx7,xx5,xx0,xx1,xx2,reduceIte,xx3,xx4,reduceCtorEq];try rfl) ?_
      rintro ⟨i,cur⟩ ⟨h3,h4,h5⟩
      have h3:(i:Int)≤n:=h3
      have h4:cur.length=b.2.length:=h4
      have h5:∀ z∈cur,0≤z∧z<n:=h5
      by_cases hlt:(i:Int)<n
      · have w1:IntKind.i64.wrap ((i:Int)+1)=((i+1:Nat):Int):=by rw [w64 (by omega)];simp
        have hn0:¬ n=0:=by omega
        have hil:i<cur.length:=by omega
        have t1:=tmod_in (a:=((i+1:Nat):Int)) (n:=n) (by omega) (by omega)
        simp only [Bz24,Bz55,Bzai,decide_eq_true hlt,yzy,yzk,go_sem,yz0,xx9,xx8,xx6,xx7,xx5,xx0,xx1,xx2,reduceIte,xx3,xx4,reduceCtorEq]
        intro vs4 U4 hN4 vs5 U5 hN5
        simp only [ho1,w1,hn0,go_sem,yz0,xx9,xx8,xx6,xx7,xx5,xx0,xx1,xx2,reduceIte,xx3,xx4,reduceCtorEq]
        refine ⟨hkl,hkl,⟨by omega,hil⟩,by omega,?_⟩
        have hcl:=lput_len (xs:=cur) (v:=((i+1:Nat):Int).tmod n) hil
        have hcm:=lput_mem (xs:=cur) (i:=i) (v:=((i+1:Nat):Int).tmod n) (Q:=fun z=>0≤z∧z<n) h5 t1
        simp only [ints_put]
        generalize hcu:cur.take i ++ [((i+1:Nat):Int).tmod n] ++ cur.drop (i+1)=cur2 at hcl hcm ⊢
        simp only [Bzah,w1,yzy,yzk,go_sem,yz0,xx9,xx8,xx6,xx7,xx5,xx0,xx1,xx2,reduceIte,xx3,xx4,reduceCtorEq]
        intro vs6 U6 hN6
        exact ⟨(i+1,cur2),by dsimp only;omega,⟨by dsimp only;omega,by dsimp only;omega,hcm⟩,rfl⟩
      · simp only [Bz24,Bz55,Bz26,decide_eq_false hlt,yzy,yzk,wpD_gh,go_sem,yz0,xx9,xx8,xx6,xx7,xx5,xx0,xx1,xx2,reduceIte,xx3,xx4,reduceCtorEq]
        intro vs4 U4 hN4 hD
        refine ⟨[.rf 6 0 901],gwp_rf (k:=1) (nn:=true) rfl (own_get hAk.symm) (by decide) rfl fun hf2=>?_⟩
        have D1:=DJ_refrozen hdj hf2 (cur:=cur)
        have A1:=Aut_put A (u:=m1) h4 h5
        have hset4:∀ X:AVal,(rwp A2 ++ AVal.own 901 m1 :: rwp C2).set 0 X=rwp A2 ++ X :: rwp C2:=fun X=>by
          rw [← hAk,List.set_append_right _ _ (by rw [rwp_len];exact Nat.le_refl _),rwp_len,Nat.sub_self];rfl
        simp only [hset4,frNm_t,rwp_cat,gwp_nil,yzy,yzk,go_sem,yz0,xx9,xx8,xx6,xx7,xx5,xx0,xx1,xx2,reduceIte,xx3,xx4,reduceCtorEq]
        intro vs9 U9 hN9
        simp only [← hQ,Az27,go_sem,yz0,xx9,xx8,xx6,xx7,xx5,xx0,xx1,xx2,reduceIte,xx3,xx4,reduceCtorEq]
        refine ⟨[6],by simp,by simp,by simp,?_⟩
        simp only [range1,List.length_singleton,renL_rwp,Nat.not_lt_zero,range1,yzu,yzx,yz12,yz15,yzw,yz13,yz14,yz11,yzv,yzn,yze,yz3,yzq,yzs,yzo,yzm,yzr,yz9,yzc,yza,yz7,yzg,yzf,yz2,yz5,yzd,yzb,yzj,yzi,List.range_zero,yz6,yz4,yz8,yzt,yzl,yzp,AVal.fresh,freshL,yz1,yzh,AObj.fresh,id,Option.isSome_some,or_true,true_or,go_sem,yz0,xx9,xx8,xx6,xx7,xx5,xx0,xx1,xx2,reduceIte,xx3,xx4,reduceCtorEq]
        exact ⟨n,A2 ++ (m1,cur) :: C2,v',a2,s2,FAut.lo (m:=10) ⟨A1,D1,by omega⟩,by omega,by omega,rfl,by simp,rfl⟩
theorem k_A2Automaton (code:List Int) (hb:∀ x∈code,0≤x∧x≤255) :
    Con Try.prog nz3b [] [.ro (some (some 0)) 1 (intsK .u8 code)] true fun outs rows res=>outs=[]∧∃ n next v,Aut n next∧n≤7∧rows=[.row v 1 true (rws next)]∧res=.st [iv n,.own 6000 v]:=by
  refine con_sh mixed czia rfl (by simp) ?_
  generalize hQ:finQ _=Q
  simp only [Azt,Bz8u,go_sem,yz0,xx9,xx8,xx6,xx7,xx5,xx0,xx1,xx2,reduceIte,xx3,xx4,reduceCtorEq]
  intro vs0 vs1
  refine call_sh (k_from code) qCS (fun e=>by cases e) ?_
  rintro outs rows res ⟨rfl,v,rfl,rfl⟩
  refine ⟨rfl,by simp,by rw [Option.getD_some,yzl];rfl,?_⟩
  simp only [Bz8t,Nat.not_lt_zero,range1,yzu,yzx,yz12,yz15,yzw,yz13,yz14,yz11,yzv,yzn,yze,yz3,yzq,yzs,yzo,yzm,yzr,yz9,yzc,yza,yz7,yzg,yzf,yz2,yz5,yzd,yzb,yzj,yzi,List.range_zero,yz6,yz4,yz8,yzt,yzl,yzp,AVal.fresh,freshL,yz1,yzh,AObj.fresh,id,Option.isSome_some,or_true,true_or,go_sem,yz0,xx9,xx8,xx6,xx7,xx5,xx0,xx1,xx2,reduceIte,xx3,xx4,reduceCtorEq]
  intro vs2
  have h:Con Try.prog nz18 [.box 0 (srcC code 0 0)] [.ptr 5000 0 0] true fun outs rows res=>∃ n next v a' s',outs=[.box 0 (srcC code a' s')]∧rows=[.row v 1 true (rws next)]∧res=.st [iv n,.own 6000 v]:=by
    refine Con.dnr (k_l03Linked code 0 0 hb (by omega)) ?_
    rintro o r x ⟨n,ps,v,a',s',hf,h1,h2,rfl,rfl,rfl⟩
    refine ⟨n,ps.map (·.2),v,a',s',?_,?_,?_⟩
    · simp only [List.map_cons,List.map_nil,AObj.dn,dnL,AVal.dn,dnL_ints,dnNm]
    · simp only [List.map_cons,List.map_nil,AObj.dn,dnL_rwp]
    · simp only [AVal.dn,dnL]
  refine call_con (r:=6) h rfl (by simp only [Bool.not_true,rowIs,boxIs,coe_argN,yz1f,coe_ro_o,yz1d,yzz,coe_any,coe_val,coe_ro,yz1b,yz1a,coe_st,yz19,coe_rp,yz18,coe_clo,coe_own0,yz1h,yz16,coeL_rws,coeL_rwn,L_hit,L_miss,L_nil,xx3,ne_eq,reduceCtorEq,not_false_eq_true,true_and,and_true,and_self,exists_eq_left,exists_eq_right,List.mem_cons,List.not_mem_nil,or_false,AObj.row.injEq,AObj.box.injEq,exists_eq_left',exists_and_left,exists_eq,Nat.zero_lt_one,Nat.lt_add_one,List.map_cons,List.map_nil,AObj.ver,xx5,not_true_eq_false]) (by simp only [Bool.not_true,rowIs,boxIs,coe_argN,yz1f,coe_ro_o,yz1d,yzz,coe_any,coe_val,coe_ro,yz1b,yz1a,coe_st,yz19,coe_rp,yz18,coe_clo,coe_own0,yz1h,yz16,coeL_rws,coeL_rwn,L_hit,L_miss,L_nil,xx3,ne_eq,reduceCtorEq,not_false_eq_true,true_and,and_true,and_self,exists_eq_left,exists_eq_right,List.mem_cons,List.not_mem_nil,or_false,AObj.row.injEq,AObj.box.injEq,exists_eq_left',exists_and_left,exists_eq,Nat.zero_lt_one,Nat.lt_add_one,List.map_cons,List.map_nil,AObj.ver,xx5,not_true_eq_false]) ?_
  rintro outs rows res ⟨n,next,v',a',s',rfl,rfl,rfl⟩
  refine ⟨rfl,by simp,by rw [Option.getD_some,yzl];simp only [go_sem,yz0,xx9,xx8,xx6,xx7,xx5,xx0,xx1,xx2,reduceIte,xx3,xx4,reduceCtorEq],?_⟩
  rw [Option.getD_some,callHp_mr (by omega)]
  have hslow:Con Try.prog nzm [] [iv 4] true fun outs rows res=>outs=[]∧∃ next v,Aut 4 next∧rows=[.row v 1 true (rws next)]∧res=.st [iv 4,.own 6000 v]:=by
    refine Con.dnr (k_l02SlowN 4 (by omega)) ?_
    rintro o r x ⟨rfl,v,ps,hA,hd,rfl,rfl⟩
    refine ⟨rfl,ps.map (·.2),v,hA,?_,?_⟩
    · simp only [List.map_cons,List.map_nil,AObj.dn,dnL_rwp]
    · simp only [AVal.dn,dnL]
  simp only [Bz8s,Nat.not_lt_zero,range1,yzu,yzx,yz12,yz15,yzw,yz13,yz14,yz11,yzv,yzn,yze,yz3,yzq,yzs,yzo,yzm,yzr,yz9,yzc,yza,yz7,yzg,yzf,yz2,yz5,yzd,yzb,yzj,yzi,List.range_zero,yz6,yz4,yz8,yzt,yzl,yzp,AVal.fresh,freshL,yz1,yzh,AObj.fresh,id,Option.isSome_some,or_true,true_or,go_sem,yz0,xx9,xx8,xx6,xx7,xx5,xx0,xx1,xx2,reduceIte,xx3,xx4,reduceCtorEq]
  intro vs3
  refine yz10 (k_l01Ok n next) qCS trivial ?_
  cases hA:autB n next with
  | false =>
    simp only [Bz1t,Bz4p,go_sem,yz0,xx9,xx8,xx6,xx7,xx5,xx0,xx1,xx2,reduceIte,xx3,xx4,reduceCtorEq]
    intro vs5
    refine call_sh hslow qCS (fun e=>by cases e) ?_
    rintro outs rows res ⟨rfl,next2,v2,A2,rfl,rfl⟩
    refine ⟨rfl,by simp,by rw [Option.getD_some,yzl];simp only [go_sem,yz0,xx9,xx8,xx6,xx7,xx5,xx0,xx1,xx2,reduceIte,xx3,xx4,reduceCtorEq],?_⟩
    simp only [← hQ,Azt,yz1g,Nat.not_lt_zero,range1,yzu,yzx,yz12,yz15,yzw,yz13,yz14,yz11,yzv,yzn,yze,yz3,yzq,yzs,yzo,yzm,yzr,yz9,yzc,yza,yz7,yzg,yzf,yz2,yz5,yzd,yzb,yzj,yzi,List.range_zero,yz6,yz4,yz8,yzt,yzl,yzp,AVal.fresh,freshL,yz1,yzh,AObj.fresh,id,Option.isSome_some,or_true,true_or,go_sem,yz0,xx9,xx8,xx6,xx7,xx5,xx0,xx1,xx2,reduceIte,xx3,xx4,reduceCtorEq]
    refine ⟨[16],by simp,by simp,by simp,?_⟩
    simp only [Nat.not_lt_zero,range1,yzu,yzx,yz12,yz15,yzw,yz13,yz14,yz11,yzv,yzn,yze,yz3,yzq,yzs,yzo,yzm,yzr,yz9,yzc,yza,yz7,yzg,yzf,yz2,yz5,yzd,yzb,yzj,yzi,List.range_zero,yz6,yz4,yz8,yzt,yzl,yzp,AVal.fresh,freshL,yz1,yzh,AObj.fresh,id,Option.isSome_some,or_true,true_or,go_sem,yz0,xx9,xx8,xx6,xx7,xx5,xx0,xx1,xx2,reduceIte,xx3,xx4,reduceCtorEq]
    exact ⟨4,next2,_,A2,by omega,rfl,rfl⟩
  | true =>
    have A:=autB_iff.1 hA
    by_cases h7:n≤7
    · simp only [decide_eq_true h7,Bz1t,← hQ,Azt,yz1g,go_sem,yz0,xx9,xx8,xx6,xx7,xx5,xx0,xx1,xx2,reduceIte,xx3,xx4,reduceCtorEq]
      refine ⟨[8],by simp,by simp,by simp,?_⟩
      simp only [Nat.not_lt_zero,range1,yzu,yzx,yz12,yz15,yzw,yz13,yz14,yz11,yzv,yzn,yze,yz3,yzq,yzs,yzo,yzm,yzr,yz9,yzc,yza,yz7,yzg,yzf,yz2,yz5,yzd,yzb,yzj,yzi,List.range_zero,yz6,yz4,yz8,yzt,yzl,yzp,AVal.fresh,freshL,yz1,yzh,AObj.fresh,id,Option.isSome_some,or_true,true_or,go_sem,yz0,xx9,xx8,xx6,xx7,xx5,xx0,xx1,xx2,reduceIte,xx3,xx4,reduceCtorEq]
      exact ⟨n,next,_,A,h7,rfl,rfl⟩
    · simp only [Bz1t,Bz4p,decide_eq_false h7,go_sem,yz0,xx9,xx8,xx6,xx7,xx5,xx0,xx1,xx2,reduceIte,xx3,xx4,reduceCtorEq]
      intro vs5
      refine call_sh hslow qCS (fun e=>by cases e) ?_
      rintro outs rows res ⟨rfl,next2,v2,A2,rfl,rfl⟩
      refine ⟨rfl,by simp,by rw [Option.getD_some,yzl];simp only [go_sem,yz0,xx9,xx8,xx6,xx7,xx5,xx0,xx1,xx2,reduceIte,xx3,xx4,reduceCtorEq],?_⟩
      simp only [← hQ,Azt,yz1g,Nat.not_lt_zero,range1,yzu,yzx,yz12,yz15,yzw,yz13,yz14,yz11,yzv,yzn,yze,yz3,yzq,yzs,yzo,yzm,yzr,yz9,yzc,yza,yz7,yzg,yzf,yz2,yz5,yzd,yzb,yzj,yzi,List.range_zero,yz6,yz4,yz8,yzt,yzl,yzp,AVal.fresh,freshL,yz1,yzh,AObj.fresh,id,Option.isSome_some,or_true,true_or,go_sem,yz0,xx9,xx8,xx6,xx7,xx5,xx0,xx1,xx2,reduceIte,xx3,xx4,reduceCtorEq]
      refine ⟨[16],by simp,by simp,by simp,?_⟩
      simp only [Nat.not_lt_zero,range1,yzu,yzx,yz12,yz15,yzw,yz13,yz14,yz11,yzv,yzn,yze,yz3,yzq,yzs,yzo,yzm,yzr,yz9,yzc,yza,yz7,yzg,yzf,yz2,yz5,yzd,yzb,yzj,yzi,List.range_zero,yz6,yz4,yz8,yzt,yzl,yzp,AVal.fresh,freshL,yz1,yzh,AObj.fresh,id,Option.isSome_some,or_true,true_or,go_sem,yz0,xx9,xx8,xx6,xx7,xx5,xx0,xx1,xx2,reduceIte,xx3,xx4,reduceCtorEq]
      exact ⟨4,next2,_,A2,by omega,rfl,rfl⟩
end Go.Ab
namespace Go.Ab
open Go.Proofs
theorem k_a2Has (xs:List Int) (x:Int):Fun Try.prog nz3h [.ro none 1 (ints xs),iv x] (bv (xs.contains x)):=by
  refine fun_of mixed czih rfl ⟨rfl,trivial⟩ ?_
  simp only [Az9v,Bz9u,Bz9s,go_sem,yz0,xx9,xx8,xx6,xx7,xx5,xx0,xx1,xx2,reduceIte,xx3,xx4,reduceCtorEq]
  refine wpD_lo (fun i=>xs.length - i) (fun i=>i≤xs.length∧(xs.drop i).contains x=xs.contains x)
    (fun i:Nat=>⟨L .any [(0,.ro none 1 (ints xs)),(1,iv x),(5,iv i)],L .gone []⟩) 0 (by simp) (by simp only [Bz1z,go_sem,yz0,xx9,xx8,xx6,xx7,xx5,xx0,xx1,xx2,reduceIte,xx3,xx4,reduceCtorEq];try rfl) ?_
  rintro i ⟨hi,he⟩
  by_cases hlt:(i:Int)<xs.length
  · have hlt1:i<xs.length:=by omega
    rw [drop_getD hlt1 0,List.contains_cons] at he
    simp only [Bz1z,Bz4z,Bz51,yz1c hlt1,decide_eq_true hlt,go_sem,yz0,xx9,xx8,xx6,xx7,xx5,xx0,xx1,xx2,reduceIte,xx3,xx4,reduceCtorEq]
    intro hM
    refine ⟨⟨by omega,hlt1⟩,hlt1,?_⟩
    rw [show (x == xs.getD i 0)=(xs.getD i 0 == x) from Bool.beq_comm] at he
    cases hx:(xs.getD i 0 == x) with
    | true =>
      rw [hx,Bool.true_or] at he
      simp only [Bz50,← he,go_sem,yz0,xx9,xx8,xx6,xx7,xx5,xx0,xx1,xx2,reduceIte,xx3,xx4,reduceCtorEq]
    | false =>
      rw [hx,Bool.false_or] at he
      simp only [Bz50,Bz9r,nat1 i _ hlt1 hM,go_sem,yz0,xx9,xx8,xx6,xx7,xx5,xx0,xx1,xx2,reduceIte,xx3,xx4,reduceCtorEq]
      exact ⟨i+1,by omega,⟨by omega,he⟩,rfl⟩
  · have:i=xs.length:=by omega
    subst this
    rw [List.drop_length] at he
    simp only [Bz1z,Bz4z,Bz51,Bz9t,decide_eq_false hlt,go_sem,yz0,xx9,xx8,xx6,xx7,xx5,xx0,xx1,xx2,reduceIte,xx3,xx4,reduceCtorEq]
    intro _
    rw [← he];rfl
theorem SI_snoc {w:List Int} {k:Int} (h:SI w) (hx:∀ x∈w,x<k):SI (w ++ [k]):=by
  unfold SI at h ⊢
  rw [List.pairwise_append]
  exact ⟨h,by simp,fun x hx' y hy=>by rw [List.mem_singleton.1 hy];exact hx x hx'⟩
theorem k_A2Set (code:List Int) (n:Int) (next:List (List Int)) (hb:∀ x∈code,0≤x∧x≤255) (hn:0≤n∧n≤10) :
    RowI Try.prog nz3j [.ro (some (some 0)) 1 (intsK .u8 code),.st [iv n,.ro none 1 (rwn next)]] (fun xs=>setB n xs=true):=by
  refine rowI_of mixed czij rfl ?_
  simp only [Aza7,Bza6,go_sem,yz0,xx9,xx8,xx6,xx7,xx5,xx0,xx1,xx2,reduceIte,xx3,xx4,reduceCtorEq]
  intro vs vs2
  refine call_sh (k_from code) qCS (fun _=>⟨_,_,_,rfl,0,rfl,rfl⟩) ?_
  rintro outs rows res ⟨rfl,v,rfl,rfl⟩
  refine ⟨rfl,by simp,by rw [Option.getD_some,yzl];simp only [go_sem,yz0,xx9,xx8,xx6,xx7,xx5,xx0,xx1,xx2,reduceIte,xx3,xx4,reduceCtorEq],?_⟩
  simp only [Bza5,Bza4,Bza2,Nat.not_lt_zero,range1,yzu,yzx,yz12,yz15,yzw,yz13,yz14,yz11,yzv,yzn,yze,yz3,yzq,yzs,yzo,yzm,yzr,yz9,yzc,yza,yz7,yzg,yzf,yz2,yz5,yzd,yzb,yzj,yzi,List.range_zero,yz6,yz4,yz8,yzt,yzl,yzp,AVal.fresh,freshL,yz1,yzh,AObj.fresh,id,Option.isSome_some,or_true,true_or,go_sem,yz0,xx9,xx8,xx6,xx7,xx5,xx0,xx1,xx2,reduceIte,xx3,xx4,reduceCtorEq]
  intro vs3
  refine wpD_lo (fun (_,_,_,_,_,_,k)=>n.toNat - k) (fun (w,_,_,_,a,_,k)=>SI w∧(∀ x∈w,0≤x∧x<k)∧w.length≤k∧0≤a∧a≤2 * k∧(k:Int)≤n)
    (fun ((w,v10,v9,v3,a,s,k):List Int×Nat×Nat×Nat×Int×Int×Nat)=>⟨L .any [(3,.ptr 3 v3 0),(5,.ptr 9 v9 0),(6,.own 10 v10),(7,iv k)],L .gone [(3,.box v3 [iv n,.ro none 1 (rwn next)]),(9,.box v9 (srcC code a s)),(10,.row v10 1 true (ints w))]⟩)
    ([],_,_,_,0,0,0) ⟨by simp [SI],by simp,by simp,by simp,by simp,by simp;omega⟩ (by simp only [Bz20,go_sem,yz0,xx9,xx8,xx6,xx7,xx5,xx0,xx1,xx2,reduceIte,xx3,xx4,reduceCtorEq];rfl) ?_
  rintro ⟨w,v10,v9,v3,a,s,k⟩ ⟨hw,hx,hl,ha,ha2,hk⟩
  have hl:w.length≤k:=hl
  have ha:0≤a:=ha
  have ha2:a≤2 * k:=ha2
  have hk:(k:Int)≤n:=hk
  have hx:∀ x∈w,0≤x∧x<(k:Int):=hx
  by_cases hlt:(k:Int)<n
  · have w1:IntKind.i64.wrap ((k:Int)+1)=((k+1:Nat):Int):=by rw [w64 (by omega)];simp
    simp only [Bz20,Bz52,Bza1,decide_eq_true hlt,go_sem,yz0,xx9,xx8,xx6,xx7,xx5,xx0,xx1,xx2,reduceIte,xx3,xx4,reduceCtorEq]
    intro vs5
    refine call_funB (k_one code a s 2 hb (by omega)) rfl qCS qCS ?_
    rintro cs' x ⟨a',s',b,rfl,h1,h2,rfl⟩
    cases b with
    | true =>
      simp only [Bz53,Bz54,w1,Nat.not_lt_zero,range1,yzu,yzx,yz12,yz15,yzw,yz13,yz14,yz11,yzv,yzn,yze,yz3,yzq,yzs,yzo,yzm,yzr,yz9,yzc,yza,yz7,yzg,yzf,yz2,yz5,yzd,yzb,yzj,yzi,List.range_zero,yz6,yz4,yz8,yzt,yzl,yzp,AVal.fresh,freshL,yz1,yzh,AObj.fresh,id,Option.isSome_some,or_true,true_or,go_sem,yz0,xx9,xx8,xx6,xx7,xx5,xx0,xx1,xx2,reduceIte,xx3,xx4,reduceCtorEq]
      intro vs6
      refine ⟨⟨_,rfl,rfl⟩,by omega,(w ++ [(k:Int)],_,_,_,a',s',k+1),?_,⟨?_,?_,?_,?_,?_,?_⟩,rfl⟩
      · show n.toNat - (k+1)<n.toNat - k;omega
      · exact SI_snoc hw fun x h=>(hx x h).2
      · intro x h
        rcases List.mem_append.1 h with h | h
        · have:=hx x h;show 0≤x∧x<((k+1:Nat):Int);omega
        · rw [List.mem_singleton.1 h];show 0≤(k:Int)∧(k:Int)<((k+1:Nat):Int);omega
      · show (w ++ [(k:Int)]).length≤k+1;simp;omega
      · show 0≤a';omega
      · show a'≤2 * ((k+1:Nat):Int);omega
      · show ((k+1:Nat):Int)≤n;omega
    | false =>
      simp only [Bz53,Bz54,w1,Nat.not_lt_zero,range1,yzu,yzx,yz12,yz15,yzw,yz13,yz14,yz11,yzv,yzn,yze,yz3,yzq,yzs,yzo,yzm,yzr,yz9,yzc,yza,yz7,yzg,yzf,yz2,yz5,yzd,yzb,yzj,yzi,List.range_zero,yz6,yz4,yz8,yzt,yzl,yzp,AVal.fresh,freshL,yz1,yzh,AObj.fresh,id,Option.isSome_some,or_true,true_or,go_sem,yz0,xx9,xx8,xx6,xx7,xx5,xx0,xx1,xx2,reduceIte,xx3,xx4,reduceCtorEq]
      refine ⟨(w,_,_,_,a',s',k+1),?_,⟨hw,?_,?_,?_,?_,?_⟩,rfl⟩
      · show n.toNat - (k+1)<n.toNat - k;omega
      · intro x h;have:=hx x h;show 0≤x∧x<((k+1:Nat):Int);omega
      · show w.length≤k+1;omega
      · show 0≤a';omega
      · show a'≤2 * ((k+1:Nat):Int);omega
      · show ((k+1:Nat):Int)≤n;omega
  · simp only [Bz20,Bz52,Bza3,decide_eq_false hlt,go_sem,yz0,xx9,xx8,xx6,xx7,xx5,xx0,xx1,xx2,reduceIte,xx3,xx4,reduceCtorEq]
    exact ⟨10,v10,w,by omega,rfl,by simp only [go_sem,yz0,xx9,xx8,xx6,xx7,xx5,xx0,xx1,xx2,reduceIte,xx3,xx4,reduceCtorEq],setB_iff.2 ⟨hw,fun x h=>by have:=hx x h;omega⟩⟩
end Go.Ab
namespace Go.Ab
def seenT (N:Nat) (L:TS):List Bool:=(List.range N).map fun f=>hasT L f
theorem seenT_len {N:Nat} {L:TS}:(seenT N L).length=N:=by simp [seenT]
theorem seenT_getD {N f:Nat} {L:TS} (h:f<N):(seenT N L).getD f false=hasT L f:=by
  rw [seenT,List.getD_eq_getElem?_getD,List.getElem?_map,List.getElem?_range h];rfl
theorem hasT_add {L:TS} {f g:Nat} {w:List Int}:hasT (L ++ [(f,w)]) g=(hasT L g || Nat.beq f g):=by simp [hasT]
theorem seenT_add {N f:Nat} {L:TS} {w:List Int} (h:f<N):seenT N (L ++ [(f,w)])=(seenT N L).take f ++ [true] ++ (seenT N L).drop (f+1):=by
  apply List.ext_getElem?
  intro i
  by_cases hi:i<N
  · have h1:(seenT N (L ++ [(f,w)]))[i]?=some (hasT L i || Nat.beq f i):=by rw [seenT,List.getElem?_map,List.getElem?_range hi];simp [hasT_add]
    rw [h1]
    have hl:(List.take f (seenT N L)).length=f:=by rw [List.length_take,seenT_len];omega
    rw [List.append_assoc]
    by_cases e:i<f
    · rw [List.getElem?_append_left (by omega),List.getElem?_take_of_lt e,seenT,List.getElem?_map,List.getElem?_range hi]
      have:Nat.beq f i=false:=by rw [Bool.eq_false_iff];intro h2;have:=Nat.eq_of_beq_eq_true h2;omega
      simp [this]
    · rw [List.getElem?_append_right (by omega),hl]
      by_cases e2:i=f
      · subst e2
        have:Nat.beq i i=true:=Nat.beq_refl i
        simp [this]
      · obtain ⟨d,rfl⟩:∃ d,i=f+1+d:=⟨i - f - 1,by omega⟩
        have:Nat.beq f (f+1+d)=false:=by rw [Bool.eq_false_iff];intro h2;have:=Nat.eq_of_beq_eq_true h2;omega
        rw [show f+1+d - f=d+1 by omega,List.singleton_append,List.getElem?_cons_succ,List.getElem?_drop,seenT,List.getElem?_map,List.getElem?_range hi]
        simp [this]
  · rw [List.getElem?_eq_none (by rw [seenT_len];omega),List.getElem?_eq_none]
    rw [List.length_append,List.length_append,List.length_take,List.length_drop,seenT_len,List.length_singleton];omega
theorem seenT_one {N f:Nat} (h:f<N):(List.replicate N false).take f ++ [true] ++ (List.replicate N false).drop (f+1)=seenT N [(f,[])]:=by
  have h1:=seenT_add (L:=[]) (w:=[]) h
  have h2:seenT N []=List.replicate N false:=by
    rw [seenT]
    apply List.ext_getElem?
    intro i
    by_cases hi:i<N
    · rw [List.getElem?_map,List.getElem?_range hi,List.getElem?_replicate,if_pos hi];rfl
    · rw [List.getElem?_eq_none (by simp;omega),List.getElem?_eq_none (by simp;omega)]
  rw [h2] at h1
  exact h1.symm
structure BT (L:TS) (B C:List Int):Prop where
  lb:B.length=L.length
  lc:C.length=L.length
  wd:∀ i,i<L.length→(B.getD i 0=-1∧(L.getD i (0,[])).2=[])∨(0≤B.getD i 0∧B.getD i 0<i∧(L.getD i (0,[])).2=(L.getD (B.getD i 0).toNat (0,[])).2 ++ [C.getD i 0])
theorem BT0 {f:Nat}:BT [(f,[])] [-1] [0]:=⟨rfl,rfl,fun i hi=>by
  have:i=0:=by simpa using hi
  subst this;exact .inl ⟨rfl,rfl⟩⟩
theorem getD_appL {α:Type} {xs ys:List α} {i:Nat} {d:α} (h:i<xs.length):(xs ++ ys).getD i d=xs.getD i d:=by
  rw [List.getD_eq_getElem?_getD,List.getElem?_append_left h,← List.getD_eq_getElem?_getD]
theorem getD_last {α:Type} {xs:List α} {y d:α} {i:Nat} (h:i=xs.length):(xs ++ [y]).getD i d=y:=by
  rw [List.getD_eq_getElem?_getD,List.getElem?_append_right (by omega),h];simp
theorem BT.add {L:TS} {B C:List Int} (h:BT L B C) {i:Nat} (hi:i<L.length) (to x:Nat) :
    BT (L ++ [(to,(L.getD i (0,[])).2 ++ [(x:Int)])]) (B ++ [(i:Int)]) (C ++ [(x:Int)]):=by
  have lb:=h.lb
  have lc:=h.lc
  refine ⟨by simp [lb],by simp [lc],fun j hj=>?_⟩
  rw [List.length_append,List.length_singleton] at hj
  by_cases e:j<L.length
  · have e1:(B ++ [(i:Int)]).getD j 0=B.getD j 0:=getD_appL (by omega)
    have e2:(C ++ [(x:Int)]).getD j 0=C.getD j 0:=getD_appL (by omega)
    have e3:(L ++ [(to,(L.getD i (0,[])).2 ++ [(x:Int)])]).getD j (0,[])=L.getD j (0,[]):=getD_appL e
    rw [e1,e2,e3]
    rcases h.wd j e with h1 | ⟨h1,h2,h3⟩
    · exact .inl h1
    · have e4:(L ++ [(to,(L.getD i (0,[])).2 ++ [(x:Int)])]).getD (B.getD j 0).toNat (0,[])=L.getD (B.getD j 0).toNat (0,[]):=getD_appL (by omega)
      rw [e4]
      exact .inr ⟨h1,h2,h3⟩
  · have:j=L.length:=by omega
    subst this
    have e1:(B ++ [(i:Int)]).getD L.length 0=i:=getD_last lb.symm
    have e2:(C ++ [(x:Int)]).getD L.length 0=x:=getD_last lc.symm
    have e3:(L ++ [(to,(L.getD i (0,[])).2 ++ [(x:Int)])]).getD L.length (0,[])=(to,(L.getD i (0,[])).2 ++ [(x:Int)]):=getD_last rfl
    have e4:(L ++ [(to,(L.getD i (0,[])).2 ++ [(x:Int)])]).getD i (0,[])=L.getD i (0,[]):=getD_appL hi
    rw [e1,e2,e3,Int.toNat_natCast,e4]
    exact .inr ⟨by omega,by omega,rfl⟩
end Go.Ab
namespace Go.Ab
open Go.Proofs
theorem i_and {x y:Nat} (hx:x<4611686018427387904) (hy:y<4611686018427387904) :
    IntKind.i64.wrap ((@HAnd.hAnd (BitVec 64) (BitVec 64) (BitVec 64) (@instHAndOfAndOp (BitVec IntKind.i64.bits) (@BitVec.instAndOp IntKind.i64.bits)) (BitVec.ofInt 64 (x:Int)) (BitVec.ofInt 64 (y:Int))).toNat)=((x &&& y:Nat):Int):=by
  have h:(BitVec.ofInt 64 (x:Int) &&& BitVec.ofInt 64 (y:Int)).toNat=x &&& y:=by rw [BitVec.toNat_and,bv64 (by omega),bv64 (by omega)]
  show IntKind.i64.wrap ((BitVec.ofInt 64 (x:Int) &&& BitVec.ofInt 64 (y:Int)).toNat:Int)=_
  rw [h]
  have:x &&& y≤x:=Nat.and_le_left
  exact w64 (by omega)
theorem i_and1 {x:Nat} (hx:x<4611686018427387904) :
    IntKind.i64.wrap ((@HAnd.hAnd (BitVec 64) (BitVec 64) (BitVec 64) (@instHAndOfAndOp (BitVec IntKind.i64.bits) (@BitVec.instAndOp IntKind.i64.bits)) (BitVec.ofInt 64 (x:Int)) (BitVec.ofInt 64 1)).toNat)=((x &&& 1:Nat):Int):=i_and (y:=1) hx (by omega)
theorem i_or {x y:Nat} (hx:x<4611686018427387904) (hy:y<4611686018427387904) :
    IntKind.i64.wrap ((@HOr.hOr (BitVec 64) (BitVec 64) (BitVec 64) (@instHOrOfOrOp (BitVec IntKind.i64.bits) (@BitVec.instOrOp IntKind.i64.bits)) (BitVec.ofInt 64 (x:Int)) (BitVec.ofInt 64 (y:Int))).toNat)=((x ||| y:Nat):Int):=by
  have h:(BitVec.ofInt 64 (x:Int) ||| BitVec.ofInt 64 (y:Int)).toNat=x ||| y:=by rw [BitVec.toNat_or,bv64 (by omega),bv64 (by omega)]
  show IntKind.i64.wrap ((BitVec.ofInt 64 (x:Int) ||| BitVec.ofInt 64 (y:Int)).toNat:Int)=_
  rw [h]
  have:x ||| y<2 ^ 62:=Nat.or_lt_two_pow (n:=62) (by omega) (by omega)
  exact w64 (by omega)
theorem i_shl {b:Nat} (h:b<60):IntKind.i64.wrap (1 * 2 ^ min b 64)=((2 ^ b:Nat):Int):=by
  have h1:min b 64=b:=by omega
  have h2:(2:Int) ^ b=((2 ^ b:Nat):Int):=by simp
  rw [h1,Int.one_mul,h2]
  have h3:2 ^ b<1152921504606846976:=Nat.pow_lt_pow_right (a:=2) (n:=60) (by omega) h
  generalize 2 ^ b=q at h3 ⊢
  exact w64 (by omega)
theorem pow_lt10' {k:Nat} (h:k≤10):1≤2 ^ k∧2 ^ k≤1024:=⟨Nat.two_pow_pos k,Nat.pow_le_pow_right (n:=2) (by omega) h⟩
theorem k_l02Single (f:Nat) (h:f<1024):Fun Try.prog nz3v [iv f] (bv (smallN f)):=by
  refine fun_of mixed czjm rfl ⟨rfl,trivial⟩ ?_
  by_cases h0:f=0
  · subst h0
    simp only [Az6n,Bz6m,go_sem,yz0,xx9,xx8,xx6,xx7,xx5,xx0,xx1,xx2,reduceIte,xx3,xx4,reduceCtorEq]
    rfl
  · have w1:IntKind.i64.wrap ((f:Int) - 1)=((f - 1:Nat):Int):=by rw [w64 (by omega)];omega
    have hand:=i_and (x:=f) (y:=f - 1) (by omega) (by omega)
    have hb:((((f &&& (f - 1):Nat)):Int) == 0)=smallN f:=by
      unfold smallN
      rw [← dec_beqN,Bool.eq_iff_iff,beq_iff_eq,decide_eq_true_iff];omega
    simp only [Az6n,Bz6m,w1,hand,hb,go_sem,yz0,xx9,xx8,xx6,xx7,xx5,xx0,xx1,xx2,reduceIte,xx3,xx4,reduceCtorEq]
theorem stepTo_lt {row set:List Int} (h:∀ s∈set,0≤row.getD s.toNat 0∧row.getD s.toNat 0<10):stepTo row set<1024:=fold_lt (fun s:Int=>(row.getD s.toNat 0).toNat) set 0 (fun x hx=>by have:=h x hx;omega) (by omega)
theorem bitsTo_lt {f s:Nat} {x:Int} (h:x∈bitsTo f s):0≤x∧x<s:=by
  simp only [bitsTo,List.mem_map,List.mem_filter,List.mem_range] at h
  obtain ⟨k,⟨h1,_⟩,rfl⟩:=h
  omega
theorem k_l02Moved (row:List Int) (f:Nat) (hl:row.length≤10) (hr:∀ x∈row,0≤x∧x<10) (hf:f<2 ^ row.length) :
    Fun Try.prog nz44 [.ro none 1 (ints row),iv f] (iv (stepN row f)):=by
  refine fun_of mixed czk3 rfl ⟨rfl,trivial⟩ ?_
  have hN:2 ^ row.length≤1024:=Nat.pow_le_pow_right (n:=2) (by omega) hl
  simp only [Azh9,Bzh8,Bzh7,Bzh5,go_sem,yz0,xx9,xx8,xx6,xx7,xx5,xx0,xx1,xx2,reduceIte,xx3,xx4,reduceCtorEq]
  refine wpD_lo (fun i=>row.length - i) (fun i=>i≤row.length)
    (fun i:Nat=>⟨L .any [(0,.ro none 1 (ints row)),(1,iv f),(5,iv (stepTo row (bitsTo f i))),(6,iv i)],L .gone []⟩) 0 (by simp) (by simp only [Bz16,go_sem,yz0,xx9,xx8,xx6,xx7,xx5,xx0,xx1,xx2,reduceIte,xx3,xx4,reduceCtorEq];try rfl) ?_
  intro i hi
  by_cases hlt:(i:Int)<row.length
  · have hlt1:i<row.length:=by omega
    have h64:IntKind.u64.wrap (i:Int)=i:=u64w (by omega)
    have hi0:¬ (i:Int)<0:=by omega
    have hsh:=u_shr (f:=f) (s:=i) (by omega)
    have hlt2:f >>> i<4611686018427387904:=by rw [Nat.shiftRight_eq_div_pow];exact Nat.lt_of_le_of_lt (Nat.div_le_self _ _) (by omega)
    have hand:=i_and1 hlt2
    have hbit:((((f >>> i &&& 1:Nat):Int)) == 1)=f.testBit i:=by
      rw [Nat.testBit_eq_decide_div_mod_eq,Nat.and_one_is_mod,Nat.shiftRight_eq_div_pow,Bool.eq_iff_iff,beq_iff_eq,decide_eq_true_iff]
      generalize f / 2 ^ i % 2=q
      omega
    have hst:stepTo row (bitsTo f i)<1024:=stepTo_lt fun s hs=>by
      have:=bitsTo_lt hs
      exact hr _ (yz17 (by omega) 0)
    have hx:=hr _ (yz17 hlt1 0)
    have hx64:IntKind.u64.wrap (row.getD i 0)=row.getD i 0:=by
      rw [show row.getD i 0=(((row.getD i 0).toNat:Nat):Int) by omega];exact u64w (by omega)
    have hx0:¬ row.getD i 0<0:=by omega
    have hsl:=i_shl (b:=(row.getD i 0).toNat) (by omega)
    have h2:=pow_lt10 (k:=(row.getD i 0).toNat) (by omega)
    have hor:=i_or (x:=stepTo row (bitsTo f i)) (y:=2 ^ (row.getD i 0).toNat) (by omega) (by omega)
    cases hb:f.testBit i with
    | true =>
      rw [hb] at hbit
      have hs:stepTo row (bitsTo f i) ||| 2 ^ (row.getD i 0).toNat=stepTo row (bitsTo f (i+1)):=by
        rw [bitsTo_succ,if_pos hb];simp [stepTo,List.foldl_append]
      simp only [Bz16,Bz35,Bz7r,Bz7p,Bz7q,h64,hi0,hsh,hand,hbit,yz1c hlt1,hx64,hx0,hsl,hor,hs,decide_eq_true hlt,go_sem,yz0,xx9,xx8,xx6,xx7,xx5,xx0,xx1,xx2,reduceIte,xx3,xx4,reduceCtorEq]
      intro hM
      simp only [nat1 i _ hlt1 hM,go_sem,yz0,xx9,xx8,xx6,xx7,xx5,xx0,xx1,xx2,reduceIte,xx3,xx4,reduceCtorEq]
      exact ⟨⟨by omega,hlt1⟩,hlt1,i+1,by omega,by omega,rfl⟩
    | false =>
      rw [hb] at hbit
      have hs:stepTo row (bitsTo f i)=stepTo row (bitsTo f (i+1)):=by rw [bitsTo_succ,if_neg (by simp [hb])]
      simp only [Bz16,Bz35,Bz7r,Bz7p,Bz7q,h64,hi0,hsh,hand,hbit,decide_eq_true hlt,go_sem,yz0,xx9,xx8,xx6,xx7,xx5,xx0,xx1,xx2,reduceIte,xx3,xx4,reduceCtorEq]
      intro hM
      simp only [nat1 i _ hlt1 hM,go_sem,yz0,xx9,xx8,xx6,xx7,xx5,xx0,xx1,xx2,reduceIte,xx3,xx4,reduceCtorEq]
      exact ⟨i+1,by omega,by omega,by rw [← hs]⟩
  · have e:stepTo row (bitsTo f i)=stepN row f:=by
      have e1:i=row.length:=by omega
      subst e1
      have h2:=bitsTo_add hf (10 - row.length)
      rw [show row.length+(10 - row.length)=10 by omega] at h2
      rw [← h2,stepTo_all]
    simp only [Bz16,Bz35,Bzh6,decide_eq_false hlt,e,go_sem,yz0,xx9,xx8,xx6,xx7,xx5,xx0,xx1,xx2,reduceIte,xx3,xx4,reduceCtorEq]
theorem k_l02Full (n:Int) (next:List (List Int)) (hn:1≤n∧n≤10):Fun Try.prog nz3o [autP n next] (iv ((2 ^ n.toNat - 1:Nat):Int)):=by
  refine fun_of mixed czis rfl ⟨rfl,trivial⟩ ?_
  have h64:IntKind.u64.wrap n=n:=by rw [show n=((n.toNat:Nat):Int) by omega];exact u64w (by omega)
  have hn0:¬ n<0:=by omega
  have hsl:=i_shl (b:=n.toNat) (by omega)
  have hp:=pow_lt10' (k:=n.toNat) (by omega)
  have w1:IntKind.i64.wrap (((2 ^ n.toNat:Nat):Int) - 1)=((2 ^ n.toNat - 1:Nat):Int):=by rw [w64 (by omega)];omega
  simp only [Azb8,Bzb7,h64,hn0,hsl,w1,go_sem,yz0,xx9,xx8,xx6,xx7,xx5,xx0,xx1,xx2,reduceIte,xx3,xx4,reduceCtorEq]
end Go.Ab
namespace Go.Ab
open Go.Proofs
end Go.Ab
namespace Go.Ab
def outA (out:List (List Int)) (s l:Int):Int:=(out.getD l.toNat []).getD s.toNat 0
def lexP:List Int→List Int→Bool
  | x :: v,y :: w=>if x=y then lexP v w else decide (x<y)
  | _,_=>false
def befP (v w:List Int):Bool:=if v.length=w.length then lexP v w else decide (v.length<w.length)
end Go.Ab
namespace Go.Ab
open Go.Proofs
end Go.Ab
namespace Go.Ab
def leP (u v:List Int):Prop:=befP u v=true∨u=v
def pairW (na nb:List (List Int)):Nat×Nat→List Int→Nat×Nat
  | p,[]=>p
  | p,x :: w=>pairW na nb (stepP na nb p x.toNat) w
def difW (na nb oa ob:List (List Int)):Nat×Nat→List Int→Bool
  | _,[]=>false
  | p,x :: w=>difP oa ob p x.toNat || difW na nb oa ob (stepP na nb p x.toNat) w
def isWd (k:Nat) (w:List Int):Prop:=∀ x∈w,0≤x∧x<k
structure BI (na nb oa ob:List (List Int)) (p0:Nat×Nat) (i:Nat) (L:PS):Prop where
  ok:∀ q∈L,q.1=pairW na nb p0 q.2∧difW na nb oa ob p0 q.2=false∧isWd na.length q.2
  so:L.Pairwise fun a b=>befP a.2 b.2=true
  par:∀ q∈L,q.2=[]∨∃ j<i,∃ y,q.2=(L.getD j ((0,0),[])).2 ++ [y]
  cl:∀ a<i,∀ x<na.length,difP oa ob (L.getD a ((0,0),[])).1 x=false∧∃ q∈L,q.1=stepP na nb (L.getD a ((0,0),[])).1 x∧leP q.2 ((L.getD a ((0,0),[])).2 ++ [(x:Int)])
  le:i≤L.length
  nil:∃ q∈L,q.1=p0∧q.2=[]
structure BV (na nb oa ob:List (List Int)) (p0:Nat×Nat) (i:Nat) (L:PS) (x:Nat) (L':PS):Prop where
  sub:∃ t,L'=L ++ t
  ok:∀ q∈L',q.1=pairW na nb p0 q.2∧difW na nb oa ob p0 q.2=false∧isWd na.length q.2
  so:L'.Pairwise fun a b=>befP a.2 b.2=true
  par:∀ q∈L',q.2=[]∨(∃ j<i,∃ y,q.2=(L.getD j ((0,0),[])).2 ++ [y])∨∃ y<x,q.2=(L.getD i ((0,0),[])).2 ++ [(y:Int)]
  cl:∀ y<x,∃ q∈L',q.1=stepP na nb (L.getD i ((0,0),[])).1 y∧leP q.2 ((L.getD i ((0,0),[])).2 ++ [(y:Int)])
end Go.Ab
namespace Go.Ab
end Go.Ab
namespace Go.Ab
theorem appg_new {α:Type} {xs:List α} {y d:α}:(xs ++ [y]).getD xs.length d=y:=by
  simp [List.getD_eq_getElem?_getD]
end Go.Ab
namespace Go.Ab
structure CI (n:Int) (L:List Int):Prop where
  nd:L.Nodup
  rg:∀ s∈L,0≤s∧s<n
  hd:L.getD 0 1=0
theorem CI.len {n:Int} {L:List Int} (h:CI n L) (hn:n≤10):1≤L.length∧L.length≤10:=by
  have h1:L≠[]:=fun e=>by have:=h.hd;rw [e] at this;simp at this
  have hm:(L.map Int.toNat).Nodup:=by
    refine List.Pairwise.map _ ?_ (List.Pairwise.and_mem.1 h.nd)
    rintro a b ⟨ha,hb,hab⟩ e
    have:=h.rg a ha
    have:=h.rg b hb
    omega
  have:=nodup_lt 10 _ hm fun x hx=>by
    obtain ⟨s,hs,rfl⟩:=List.mem_map.1 hx
    have:=h.rg s hs
    omega
  rw [List.length_map] at this
  exact ⟨List.length_pos_iff.2 h1,this⟩
structure Rel (na oa nb ob:List (List Int)) (R:Int→Int→Prop):Prop where
  len:na.length=nb.length
  step:∀ s t,R s t→∀ x,0≤x∧x<(na.length:Int)→outA oa s x=outA ob t x∧R (stepA na s x) (stepA nb t x)
  fn:∀ s t t',R s t→R s t'→t=t'
  inj:∀ s s' t,R s t→R s' t→s=s'
def RelL (R:Int→Int→Prop) (L M:List Int):Prop:=L.length=M.length∧∀ i<L.length,R (L.getD i 0) (M.getD i 0)
theorem RelL.snoc {R:Int→Int→Prop} {L M:List Int} (h:RelL R L M) {s t:Int} (hst:R s t):RelL R (L ++ [s]) (M ++ [t]):=by
  refine ⟨by simp [h.1],fun i hi=>?_⟩
  rw [List.length_append,List.length_singleton] at hi
  by_cases e:i<L.length
  · rw [getD_app e,getD_app (by rw [← h.1];exact e)];exact h.2 i e
  · have e1:i=L.length:=by omega
    subst e1
    rw [appg_new]
    rw [h.1,appg_new];exact hst
end Go.Ab
namespace Go.Ab
end Go.Ab
namespace Go.Ab
open Go.Proofs
abbrev MachR (n o:Int) (xs ys:List (List Int)) (rows:List AObj) (res:AVal):Prop :=
  ∃ v w ps qs,rows=[.row v 1 true (rwp ps),.row w 1 true (rwp qs)]∧ps.map (·.2)=xs∧qs.map (·.2)=ys∧DJ (ps ++ qs)∧res=.st [iv n,iv o,.own 6000 v,.own 6001 w]
abbrev NamM (P:Program) (g:FuncId) (args:List AVal) (n o:Int) (xs ys:List (List Int)):Prop:=Fn P g args (MachR n o xs ys)
end Go.Ab
namespace Go.Ab
open Go.Proofs
end Go.Ab
namespace Go.Ab
open Go.Proofs
abbrev MachS (n o:Int) (xs ys:List (List Int)) (rows:List AObj) (res:AVal):Prop :=
  ∃ v w,rows=[.row v 1 true (rws xs),.row w 1 true (rws ys)]∧res=.st [iv n,iv o,.own 6000 v,.own 6001 w]
theorem NamM.dn {P:Program} {g:FuncId} {args:List AVal} {n o:Int} {xs ys:List (List Int)} (h:NamM P g args n o xs ys):Fn P g args (MachS n o xs ys):=by
  refine Con.dnr h ?_
  rintro o' r x ⟨rfl,v,w,ps,qs,rfl,rfl,rfl,_,rfl⟩
  refine ⟨rfl,v,w,?_,?_⟩
  · simp only [List.map_cons,List.map_nil,AObj.dn,dnL_rwp]
  · simp only [AVal.dn,dnL]
abbrev MachRC (ok:Bool) (n o:Int) (xs ys:List (List Int)) (code:Int) (rows:List AObj) (res:AVal):Prop :=
  if ok=true then ∃ v w ps qs,rows=[.row v 1 true (rwp ps),.row w 1 true (rwp qs)]∧ps.map (·.2)=xs∧qs.map (·.2)=ys∧DJ (ps ++ qs)∧res=.tup [.st [iv n,iv o,.own 6000 v,.own 6001 w],iv code]
  else rows=[]∧res=.tup [.st [iv 0,iv 0,nilS,nilS],iv code]
abbrev NamMR (P:Program) (g:FuncId) (args:List AVal) (ok:Bool) (n o:Int) (xs ys:List (List Int)) (code:Int):Prop:=Fn P g args (MachRC ok n o xs ys code)
abbrev MachSC (n o:Int) (xs ys:List (List Int)) (rows:List AObj) (res:AVal):Prop :=
  ∃ v w,rows=[.row v 1 true (rws xs),.row w 1 true (rws ys)]∧res=.tup [.st [iv n,iv o,.own 6000 v,.own 6001 w],iv 0]
theorem NamMR.dn {P:Program} {g:FuncId} {args:List AVal} {ok:Bool} {n o:Int} {xs ys:List (List Int)} {code:Int} (h:NamMR P g args ok n o xs ys code) (hok:ok=true) (hc:code=0):Fn P g args (MachSC n o xs ys):=by
  subst hok hc
  refine Con.dnr h ?_
  rintro o' r x ⟨rfl,hR⟩
  unfold MachRC at hR
  rw [if_pos rfl] at hR
  obtain ⟨v,w,ps,qs,rfl,rfl,rfl,_,rfl⟩:=hR
  refine ⟨rfl,v,w,?_,?_⟩
  · simp only [List.map_cons,List.map_nil,AObj.dn,dnL_rwp]
  · simp only [AVal.dn,dnL]
end Go.Ab
namespace Go.Ab
open Go.Proofs
end Go.Ab
namespace Go.Ab
open Go.Proofs
end Go.Ab
namespace Go.Ab
open Go.Proofs
theorem rid3 {m:List Nat} {d n:Nat}:rid m d (n+4) 6003=some (d+3000):=by
  have:=rid_new (m:=m) (d:=d) (nr:=n+4) (i:=3) (by omega)
  simpa [newId] using this
theorem ren_own_r3 {m:List Nat} {d n v:Nat} {s:Nat→Nat}:AVal.ren (rid m d (n+4)) s (.own 6003 v)=.own (d+3000) (s v):=ren_own rid3
theorem gone_four {hp:Nat→AObj} {d:Nat} {o0 o1 o2 o3:AObj}:(∀ i,i<[o0,o1,o2,o3].length→hp (newId d i)=.gone)=(hp d=.gone∧hp (d+1000)=.gone∧hp (d+2000)=.gone∧hp (d+3000)=.gone):=by
  refine propext ⟨fun h=>⟨by simpa [newId] using h 0 (by simp),by simpa [newId] using h 1 (by simp),by simpa [newId] using h 2 (by simp),by simpa [newId] using h 3 (by simp)⟩,fun h i hi=>?_⟩
  have hi':i<4:=by simpa using hi
  have:i=0∨i=1∨i=2∨i=3:=by omega
  rcases this with rfl | rfl | rfl | rfl
  · simpa [newId] using h.1
  · simpa [newId] using h.2.1
  · simpa [newId] using h.2.2.1
  · simpa [newId] using h.2.2.2
theorem callHp_four {hp:Nat→AObj} {d:Nat} {s:Nat→Nat} {o0 o1 o2 o3:AObj}:callHp hp [] d s [] [o0,o1,o2,o3] =
    upd (upd (upd (upd hp d (o0.ren (rid [] d 4) s)) (d+1000) (o1.ren (rid [] d 4) s)) (d+2000) (o2.ren (rid [] d 4) s)) (d+3000) (o3.ren (rid [] d 4) s):=by
  have n1:d+1000≠d:=by omega
  have n2:d+2000≠d:=by omega
  have n3:d+3000≠d:=by omega
  have m1:d+2000≠d+1000:=by omega
  have m2:d+3000≠d+1000:=by omega
  have m3:d+3000≠d+2000:=by omega
  funext n
  by_cases h3:n=d+3000
  · have h1:rid [] d [o0,o1,o2,o3].length 6003=some n:=by rw [h3];exact rid3
    rw [callHp_at (by simp) (by simp) h1,sv_nil]
    simp [upd,h3,outHp]
  by_cases h2:n=d+2000
  · have h1:rid [] d [o0,o1,o2,o3].length 6002=some n:=by rw [h2];exact rid2
    rw [callHp_at (by simp) (by simp) h1,sv_nil]
    simp [upd,h2,outHp,m3.symm]
  by_cases h1':n=d+1000
  · have h1:rid [] d [o0,o1,o2,o3].length 6001=some n:=by rw [h1'];exact rid1
    rw [callHp_at (by simp) (by simp) h1,sv_nil]
    simp [upd,h1',outHp,m2.symm,m1.symm]
  by_cases h0:n=d
  · have h1:rid [] d [o0,o1,o2,o3].length 6000=some n:=by rw [h0];exact rid0
    rw [callHp_at (by simp) (by simp) h1,sv_nil]
    simp [upd,h0,outHp,n1.symm,n2.symm,n3.symm]
  rw [callHp_not]
  · simp [upd,h3,h2,h1',h0]
  · rintro ⟨q,hq⟩
    obtain ⟨i,hi,e⟩:=rid_nil hq
    simp at hi
    unfold newId at e
    have:i=0∨i=1∨i=2∨i=3:=by omega
    rcases this with rfl | rfl | rfl | rfl
    · exact h0 (by simpa using e)
    · exact h1' (by simpa using e)
    · exact h2 (by simpa using e)
    · exact h3 (by simpa using e)
end Go.Ab
namespace Go.Ab
open Go.Proofs
abbrev bls2 (bs:List Bool):List AVal:=bs.map bv
theorem dnL_bls2 {bs:List Bool}:dnL (bls2 bs)=bls2 bs:=by simp [dnL_eq,AVal.dn]
theorem bls2_getD {bs:List Bool} {i:Nat} (h:i<bs.length):(bls2 bs).getD i .any=bv (bs.getD i false):=by
  rw [List.getD_eq_getElem?_getD,List.getElem?_map,List.getElem?_eq_getElem h,List.getD_eq_getElem?_getD,List.getElem?_eq_getElem h];rfl
theorem bls2_put {bs:List Bool} {i:Nat} {b:Bool}:(bls2 bs).take i ++ [bv b] ++ (bls2 bs).drop (i+1)=bls2 (bs.take i ++ [b] ++ bs.drop (i+1)):=by
  simp only [List.map_append,List.map_take,List.map_drop,List.map_cons,List.map_nil]
abbrev walkP (L:TS) (B C:List Int):AVal:=.rp [.ro none 1 (ints (setsI L)),.ro none 1 (ints B),.ro none 1 (ints C)] 0
abbrev WalkR (L:TS) (rows:List AObj) (res:AVal):Prop :=
  ∃ v va vb vc B C,BT L B C∧rows=[.box v [.own 6001 va,.own 6002 vb,.own 6003 vc],.row va 1 true (ints (setsI L)),.row vb 1 true (ints B),.row vc 1 true (ints C)]∧res=.ptr 6000 v 0
theorem k_l02From (n:Int) (next:List (List Int)) (A:Aut n next) (f:Nat) (hf:f<2 ^ n.toNat) :
    Fn Try.prog nz3u [autP n next,iv f] (WalkR (tourT next f)):=by
  refine con_of mixed czjl rfl (by simp) ?_
  have n1:=A.n1
  have n2:=A.n2
  have l2:=A.l2
  have hN:=pow_lt10' (k:=n.toNat) (by omega)
  generalize hQ:finQ _=Q
  have h64:IntKind.u64.wrap n=n:=by rw [show n=((n.toNat:Nat):Int) by omega];exact u64w (by omega)
  have hn0:¬ n<0:=by omega
  have hsl:=i_shl (b:=n.toNat) (by omega)
  have hp0:¬ ((2 ^ n.toNat:Nat):Int)<0:=by omega
  simp only [Az6l,Bzeh,go_sem,yz0,xx9,xx8,xx6,xx7,xx5,xx0,xx1,xx2,reduceIte,xx3,xx4,reduceCtorEq]
  intro vs
  refine ⟨⟨_,rfl,rfl⟩,⟨_,rfl,rfl⟩,⟨_,rfl,rfl⟩,?_⟩
  simp only [Bzeg,h64,hn0,hsl,go_sem,yz0,xx9,xx8,xx6,xx7,xx5,xx0,xx1,xx2,reduceIte,xx3,xx4,reduceCtorEq]
  intro vs2
  refine ⟨⟨by omega,Int.le_refl _,by omega,by omega⟩,?_⟩
  have hrep:(List.replicate (2 ^ n.toNat) [AVal.val (Value.bool false)]).flatten=bls2 (List.replicate (2 ^ n.toNat) false):=by
    induction 2 ^ n.toNat with
    | zero=>rfl
    | succ k ih=>rw [List.replicate_succ,List.flatten_cons,ih,List.replicate_succ];rfl
  simp only [Int.toNat_natCast,List.map_cons,List.map_nil,hrep,dnL_bls2,Bzef,go_sem,yz0,xx9,xx8,xx6,xx7,xx5,xx0,xx1,xx2,reduceIte,xx3,xx4,reduceCtorEq]
  refine ⟨⟨by omega,by rw [List.length_replicate];exact hf⟩,by rw [List.length_replicate];exact hf,?_⟩
  rw [bls2_put,seenT_one hf]
  simp only [dnL_bls2,Bzee,Bzec,go_sem,yz0,xx9,xx8,xx6,xx7,xx5,xx0,xx1,xx2,reduceIte,xx3,xx4,reduceCtorEq]
  refine wpD_lo (fun (_,_,_,i,_,_,_)=>1100 - i)
    (fun (_,_,_,i,L,B,C)=>TI n.toNat next.length L∧i≤List.length L∧runT next (1100 - i) i L=tourT next f∧BT L B C)
    (fun ((va,vb,vc,i,L,B,C):Nat×Nat×Nat×Nat×TS×List Int×List Int)=>⟨Go.Ab.L .any [(0,autP n next),(5,.ptr 15 (vs 5 0) 0),(6,.own 22 (vs2 6 0)),(7,iv i)],
      Go.Ab.L .gone [(11,.row va 1 true (ints (setsI L))),(12,.row vb 1 true (ints B)),(13,.row vc 1 true (ints C)),(15,.box (vs 5 0) [.own 11 va,.own 12 vb,.own 13 vc]),(22,.row (vs2 6 0) 1 true (bls2 (seenT (2 ^ n.toNat) L)))]⟩)
    (_,_,_,0,[(f,[])],[-1],[0]) ⟨TI0 hf,by simp,rfl,BT0⟩ (by simp only [Bz2q,dnL_bls2,go_sem,yz0,xx9,xx8,xx6,xx7,xx5,xx0,xx1,xx2,reduceIte,xx3,xx4,reduceCtorEq];try rfl) ?_
  rintro ⟨va,vb,vc,i,L,B,C⟩ ⟨hI,hi,hR,hB⟩
  have hi:i≤L.length:=hi
  have hlen:=hI.len
  by_cases hlt:(i:Int)<L.length
  · have hlt1:i<L.length:=by omega
    have hls:i<(setsI L).length:=by simpa using hlt1
    have hm:=yz17 hlt1 (0,([]:List Int))
    have hfi:=hI.rg _ hm
    have hwi:=hI.wd _ hm
    simp only [Bz2q,Bz6g,Bzeb,Bze9,dnL_bls2,List.length_map,decide_eq_true hlt,go_sem,yz0,xx9,xx8,xx6,xx7,xx5,xx0,xx1,xx2,reduceIte,xx3,xx4,reduceCtorEq]
    intro hM
    generalize hfw:L.getD i (0,[])=fw at hm hfi hwi ⊢
    refine wpD_lo (fun (_,_,_,x,_,_,_)=>next.length - x)
      (fun (_,_,_,x,L',B',C')=>x≤next.length∧L'=visT next fw.1 fw.2 x L∧BT L' B' C')
      (fun ((va,vb,vc,x,L',B',C'):Nat×Nat×Nat×Nat×TS×List Int×List Int)=>⟨Go.Ab.L .any [(0,autP n next),(5,.ptr 15 (vs 5 0) 0),(6,.own 22 (vs2 6 0)),(7,iv i),(8,iv x)],
        Go.Ab.L .gone [(11,.row va 1 true (ints (setsI L'))),(12,.row vb 1 true (ints B')),(13,.row vc 1 true (ints C')),(15,.box (vs 5 0) [.own 11 va,.own 12 vb,.own 13 vc]),(22,.row (vs2 6 0) 1 true (bls2 (seenT (2 ^ n.toNat) L')))]⟩)
      (_,_,_,0,L,B,C) ⟨by simp,rfl,hB⟩ (by simp only [Bz2p,dnL_bls2,go_sem,yz0,xx9,xx8,xx6,xx7,xx5,xx0,xx1,xx2,reduceIte,xx3,xx4,reduceCtorEq];try rfl) ?_
    rintro ⟨va,vb,vc,x,L',B',C'⟩ ⟨hx,rfl,hB'⟩
    have hx:x≤next.length:=hx
    have hB':BT (visT next fw.1 fw.2 x L) B' C':=hB'
    obtain ⟨hI',t,hpre⟩:=visT_ok A hI hlt1 x hx
    rw [hfw] at hI' hpre
    generalize hV:visT next fw.1 fw.2 x L=L' at hI' hpre hB' ⊢
    have hlen':=hI'.len
    have hi2:i<L'.length:=by rw [hpre,List.length_append];omega
    have hat:L'.getD i (0,[])=fw:=by rw [hpre,getD_app hlt1,hfw]
    by_cases hxl:(x:Int)<next.length
    · have hxl1:x<next.length:=by omega
      have hto:=stepN_lt A hxl1 hfi
      have w1:IntKind.i64.wrap ((x:Int)+1)=((x+1:Nat):Int):=by rw [w64 (by omega)];simp
      have hls2:i<(setsI L').length:=by simpa using hi2
      have hsg:=setsI_getD hi2
      rw [hat] at hsg
      have hrow:=A.row _ (yz17 hxl1 [])
      simp only [Bz2p,Bz6h,Bze8,dnL_bls2,List.length_map,rwn_getD hxl1,yz1c hls2,hsg,decide_eq_true hxl,go_sem,yz0,xx9,xx8,xx6,xx7,xx5,xx0,xx1,xx2,reduceIte,xx3,xx4,reduceCtorEq]
      intro hMx vs3
      refine ⟨⟨by omega,hxl1⟩,hxl1,⟨by omega,hi2⟩,hi2,?_⟩
      have hrl:(next.getD x []).length=n.toNat:=by have:=hrow.1;omega
      refine yz10 (k_l02Moved (next.getD x []) fw.1 (by omega) (fun y hy=>by have:=hrow.2 y hy;omega) (by rw [hrl];exact hfi)) qCS trivial ?_
      have hsucc:=visT_succ (next:=next) (f:=fw.1) (w:=fw.2) (x:=x) (L:=L)
      rw [hV] at hsucc
      generalize stepN (next.getD x []) fw.1=to at hto hsucc ⊢
      have hsn:(bls2 (seenT (2 ^ n.toNat) L')).getD to .any=bv (hasT L' to):=by rw [bls2_getD (by rw [seenT_len];exact hto),seenT_getD hto]
      cases hh:hasT L' to with
      | true =>
        rw [hh] at hsn
        rw [hh,if_pos rfl] at hsucc
        simp only [Bz6j,Bz6i,Bz6k,hsn,List.length_map,seenT_len,w1,dnL_bls2,go_sem,yz0,xx9,xx8,xx6,xx7,xx5,xx0,xx1,xx2,reduceIte,xx3,xx4,reduceCtorEq]
        refine ⟨⟨by omega,hto⟩,hto,?_⟩
        exact ⟨(_,_,_,x+1,_,_,_),by dsimp only;omega,⟨by dsimp only;omega,hsucc.symm,hB'⟩,rfl⟩
      | false =>
        rw [hh] at hsn
        rw [hh,if_neg (by simp)] at hsucc
        have hB2:=hB'.add hi2 to x
        rw [hat] at hB2
        have lb:=hB'.lb
        have lc:=hB'.lc
        simp only [Bz6j,Bz6i,hsn,List.length_map,seenT_len,dnL_bls2,go_sem,yz0,xx9,xx8,xx6,xx7,xx5,xx0,xx1,xx2,reduceIte,xx3,xx4,reduceCtorEq]
        refine ⟨⟨by omega,hto⟩,hto,⟨by omega,hto⟩,hto,?_⟩
        rw [bls2_put,← seenT_add (w:=fw.2 ++ [(x:Int)]) hto]
        simp only [Bze7,dnL_bls2,List.length_map,go_sem,yz0,xx9,xx8,xx6,xx7,xx5,xx0,xx1,xx2,reduceIte,xx3,xx4,reduceCtorEq]
        intro vs4
        refine ⟨⟨_,rfl,rfl⟩,by omega,?_⟩
        simp only [Bze6,dnL_bls2,List.length_map,go_sem,yz0,xx9,xx8,xx6,xx7,xx5,xx0,xx1,xx2,reduceIte,xx3,xx4,reduceCtorEq]
        intro vs5
        refine ⟨⟨_,rfl,rfl⟩,by omega,?_⟩
        simp only [Bze5,dnL_bls2,List.length_map,go_sem,yz0,xx9,xx8,xx6,xx7,xx5,xx0,xx1,xx2,reduceIte,xx3,xx4,reduceCtorEq]
        intro vs6
        refine ⟨⟨_,rfl,rfl⟩,by omega,?_⟩
        simp only [Bz6k,w1,dnL_bls2,go_sem,yz0,xx9,xx8,xx6,xx7,xx5,xx0,xx1,xx2,reduceIte,xx3,xx4,reduceCtorEq]
        exact ⟨(vs4 7 0,vs5 7 0,vs6 7 0,x+1,L' ++ [(to,fw.2 ++ [(x:Int)])],B' ++ [(i:Int)],C' ++ [(x:Int)]),by dsimp only;omega,⟨by dsimp only;omega,hsucc.symm,hB2⟩,by simp only [List.map_append,List.map_cons,List.map_nil]⟩
    · have:x=next.length:=by omega
      subst this
      have w2:IntKind.i64.wrap ((i:Int)+1)=((i+1:Nat):Int):=by rw [w64 (by omega)];simp
      simp only [Bz2p,Bz6h,Bzea,dnL_bls2,w2,decide_eq_false hxl,go_sem,yz0,xx9,xx8,xx6,xx7,xx5,xx0,xx1,xx2,reduceIte,xx3,xx4,reduceCtorEq]
      intro _
      obtain ⟨F,hF⟩:∃ F,1100 - i=F+1:=⟨1099 - i,by omega⟩
      have hF2:1100 - (i+1)=F:=by omega
      rw [hF] at hR
      simp only [runT,if_pos hlt1,hfw,hV] at hR
      exact ⟨(_,_,_,i+1,L',B',C'),by dsimp only;omega,⟨hI',by dsimp only;omega,by dsimp only;rw [hF2];exact hR,by dsimp only;first | exact hB' | (rw [← hV];exact hB')⟩,rfl⟩
  · have:i=L.length:=by omega
    subst this
    have hend:L=tourT next f:=by
      obtain ⟨F,hF⟩:∃ F,1100 - L.length=F+1:=⟨1099 - L.length,by omega⟩
      rw [← hR,hF];simp only [runT,Nat.lt_irrefl,if_false]
    simp only [Bz2q,Bz6g,Bzed,List.length_map,dnL_bls2,decide_eq_false hlt,Az6l,← hQ,go_sem,yz0,xx9,xx8,xx6,xx7,xx5,xx0,xx1,xx2,reduceIte,xx3,xx4,reduceCtorEq]
    intro hM
    refine ⟨[15,11,12,13],by simp,by simp,by simp,?_⟩
    have e3:AVal.ren (expo [15,11,12,13]) id (AVal.own 13 vc)=.own 6003 vc:=ren_own (expo_id (i:=3) (by simp) rfl (by omega))
    simp only [WalkR,e3,Nat.not_lt_zero,range1,yzu,yzx,yz12,yz15,yzw,yz13,yz14,yz11,yzv,yzn,yze,yz3,yzq,yzs,yzo,yzm,yzr,yz9,yzc,yza,yz7,yzg,yzf,yz2,yz5,yzd,yzb,yzj,yzi,List.range_zero,yz6,yz4,yz8,yzt,yzl,yzp,AVal.fresh,freshL,yz1,yzh,AObj.fresh,id,Option.isSome_some,or_true,true_or,go_sem,yz0,xx9,xx8,xx6,xx7,xx5,xx0,xx1,xx2,reduceIte,xx3,xx4,reduceCtorEq]
    exact ⟨_,_,_,_,B,C,by rw [← hend];exact hB,by rw [hend],rfl⟩
end Go.Ab
